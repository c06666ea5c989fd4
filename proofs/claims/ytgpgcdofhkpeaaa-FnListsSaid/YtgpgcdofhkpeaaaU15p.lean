/- Contracts of functions of the given program, for all arguments that the contract names; see each theorem. -/
import Derived.Test.YtgpgcdofhkpeaaaB1
set_option linter.all false
namespace Go.Proofs.Ytgpgcdofhkpeaaa.VE
open Go
set_option maxHeartbeats 800000
set_option maxRecDepth 100000

/-- How many are still unmarked. -/
def cF (s : List Bool) : Nat := s.count false
theorem cF_le {s : List Bool} {i : Nat} : cF (s.set i true) ≤ cF s := by
  unfold cF
  induction s generalizing i with
  | nil => simp
  | cons x r ih =>
    cases i with
    | zero => simp [List.count_cons]
    | succ i => simp only [List.set_cons_succ, List.count_cons]; have := ih (i := i); omega
theorem cF_set {s : List Bool} {i : Nat} (hi : i < s.length) (h : s.getD i false = false) : cF (s.set i true) + 1 = cF s := by
  unfold cF
  induction s generalizing i with
  | nil => simp at hi
  | cons x r ih =>
    cases i with
    | zero => simp at h; subst h; simp
    | succ i =>
      simp only [List.set_cons_succ, List.count_cons]
      have := ih (i := i) (by simpa using hi) (by simpa using h)
      omega
theorem cF_all {s : List Bool} : cF s ≤ s.length := List.count_le_length
theorem cF_pos {s : List Bool} {i : Nat} (hi : i < s.length) (h : s.getD i false = false) : 1 ≤ cF s := by have := cF_set hi h; omega

/-- Along a loop of the closure, and over all points. -/
def nxt (n : Nat) (m : List Nat) (k : Nat) : Nat := (m.getD k 0 + n) % (2 * n)
def clI (n : Nat) (m : List Nat) : Nat → Nat → List Bool → List Bool
  | 0, _, s => s
  | d + 1, k, s => if s.getD k false = true then s else clI n m d (nxt n m k) ((s.set k true).set (m.getD k 0) true)
theorem clI_len {n : Nat} {m : List Nat} : ∀ {d k s}, (clI n m d k s).length = s.length
  | 0, _, _ => rfl
  | d + 1, k, s => by
    unfold clI; split
    · rfl
    · rw [clI_len]; simp
def clO (n : Nat) (m : List Nat) : Nat → Nat → List Bool → Nat → Nat
  | 0, _, _, c => c
  | d + 1, i, s, c => if s.getD i false = true then clO n m d (i + 1) s c else clO n m d (i + 1) (clI n m 17 i s) (c + 1)
def clN (n : Nat) (m : List Nat) : Nat := clO n m (2 * n) 0 (List.replicate 16 false) 0
theorem tmX {n : Nat} {m : List Nat} {k : Nat} : Int.tmod (((m.getD k 0 : Nat) : Int) + (n : Int)) (2 * (n : Int)) = ((nxt n m k : Nat) : Int) := by
  have := tmN (m.getD k 0 + n) (2 * n); rwa [Int.natCast_add, Int.natCast_mul] at this
theorem nxt_lt {n : Nat} {m : List Nat} {k : Nat} (hn : 1 ≤ n) : nxt n m k < 2 * n := Nat.mod_lt _ (by omega)

end Go.Proofs.Ytgpgcdofhkpeaaa.VE
