/- Contracts of functions of the given program, for all arguments that the contract names; see each theorem. -/
import Derived.Test.YtpangmameocfmaaU1
set_option linter.all false
namespace Go.Proofs.Ytpangmameocfmaa.VE.P
open Go
set_option maxHeartbeats 800000
set_option maxRecDepth 100000

/-! 'named', as plain law -/
def nmF (k : Int) : List Int → Nat → Option Nat
  | [], _ => none
  | j :: r, i => if k = j then some i else nmF k r (i + 1)
def nmL (g : Nat → Int) : Nat → Nat → List Int → List Nat → List Nat
  | 0, _, _, out => out
  | d + 1, i, ks, out => match nmF (g i) ks 0 with
    | some j => nmL g d (i + 1) ks (out.set i j)
    | none => nmL g d (i + 1) (ks ++ [g i]) (out.set i ks.length)
def nm (g : Nat → Int) (n : Nat) : List Nat := nmL g (2 * n) 0 [] (List.replicate 8 0)

/-- The entries of its map. -/
def entL : Nat → List Int → List (Value × V)
  | _, [] => []
  | j, k :: r => (.int .i64 k, vu j) :: entL (j + 1) r
theorem entL_find {k : Int} : ∀ {ks : List Int} {j : Nat}, findI k (entL j ks) = some ((nmF k ks j).map fun x => vu x)
  | [], _ => rfl
  | q :: r, j => by
    simp only [entL, findI, nmF]
    split
    · rfl
    · exact entL_find
theorem entL_set {k : Int} : ∀ {ks : List Int} {j : Nat}, nmF k ks j = none → setI k (vu ((j + ks.length : Nat) : Int)) (entL j ks) = entL j (ks ++ [k])
  | [], _, _ => rfl
  | q :: r, j, h => by
    simp only [nmF] at h
    split at h
    · cases h
    · rename_i hq
      simp only [entL, setI, if_neg hq, List.cons_append]
      rw [← entL_set h, List.length_cons, show j + (r.length + 1) = j + 1 + r.length from by omega]
theorem entL_len : ∀ {ks : List Int} {j : Nat}, (entL j ks).length = ks.length
  | [], _ => rfl
  | q :: r, j => by simp [entL, entL_len]
theorem entL_ids : ∀ {ks : List Int} {j : Nat}, idsL ((entL j ks).map (·.2)) = []
  | [], _ => rfl
  | q :: r, j => by simp only [entL, List.map_cons, idsL, V.ids, List.nil_append]; exact entL_ids
theorem entL_mapL {σ : Nat → Nat} : ∀ {ks : List Int} {j : Nat}, (entL j ks).map (fun p => (p.1, p.2.mapIds σ)) = entL j ks
  | [], _ => rfl
  | q :: r, j => by simp only [entL, List.map_cons, V.mapIds, entL_mapL]
theorem entL_mo {σ : Nat → Nat} {ks : List Int} {j : Nat} : O.mo (entL j ks) = O.mapIds σ (.mo (entL j ks)) := by
  simp only [O.mapIds, entL_mapL]
theorem goodB_via {m : Nat} {π : List Nat} {H : List O} {ids l : List Nat} (h : idsO H = l) (h2 : (Nat.beq π.length H.length && (nodupB π && (okIds H l && (okIds H ids && (Nat.ble m H.length && fixB m π))))) = true) : goodB m π H ids = true := by
  unfold goodB; rw [h]; exact h2
theorem nmF_lt {k : Int} : ∀ {ks : List Int} {j x : Nat}, nmF k ks j = some x → x < j + ks.length
  | [], _, _, h => by simp [nmF] at h
  | q :: r, j, x, h => by
    simp only [nmF] at h
    split at h
    · injection h with h; simp; omega
    · have := nmF_lt h; simp; omega

theorem nmL_len {g : Nat → Int} : ∀ (d i : Nat) (ks : List Int) (out : List Nat), (nmL g d i ks out).length = out.length
  | 0, _, _, _ => rfl
  | d + 1, i, ks, out => by
    simp only [nmL]
    split
    · rw [nmL_len]; simp
    · rw [nmL_len]; simp
theorem nm_len {g : Nat → Int} {n : Nat} : (nm g n).length = 8 := by unfold nm; rw [nmL_len]; simp

end Go.Proofs.Ytpangmameocfmaa.VE.P
