/- Contracts of functions of the given program, for all arguments that the contract names; see each theorem. -/
import Derived.Test.YtgpgcdofhkpeaaaU11e
import Derived.Test.YtgpgcdofhkpeaaaU16a
set_option linter.all false
namespace Go.Proofs.Ytgpgcdofhkpeaaa.VE
open Go
set_option maxHeartbeats 800000
set_option maxRecDepth 100000

/-- Places p are given values v, one after the other; or both ends of each line. -/
def wrF (l : List Nat) (p v : Nat → Nat) : Nat → List Nat
  | 0 => l
  | k + 1 => (wrF l p v k).set (p k) (v k)
def jo (l : List Nat) (p v : Nat → Nat) : Nat → List Nat
  | 0 => l
  | k + 1 => ((jo l p v k).set (p k) (v k)).set (v k) (p k)
theorem wrF_len {l : List Nat} {p v : Nat → Nat} (h : l.length = 16) : ∀ {k}, (wrF l p v k).length = 16
  | 0 => h
  | k + 1 => by simp [wrF, wrF_len h (k := k)]
theorem jo_len {l : List Nat} {p v : Nat → Nat} (h : l.length = 16) : ∀ {k}, (jo l p v k).length = 16
  | 0 => h
  | k + 1 => by simp [jo, jo_len h (k := k)]
theorem wrF_at {l : List Nat} {p v : Nat → Nat} (h : l.length = 16) : ∀ {k}, (∀ j, j < k → p j < 16) → (∀ i j, i < k → j < k → p i = p j → i = j) → ∀ j, j < k → (wrF l p v k).getD (p j) 0 = v j
  | 0, _, _, j, hj => by omega
  | k + 1, hp, hi, j, hj => by
    rw [wrF, getD_set' (by rw [wrF_len h]; exact hp k (by omega))]
    by_cases he : p k = p j
    · rw [if_pos he, hi k j (by omega) hj he]
    · rw [if_neg he]
      have : j ≠ k := by rintro rfl; exact he rfl
      exact wrF_at h (fun j hj => hp j (by omega)) (fun i j h1 h2 => hi i j (by omega) (by omega)) j (by omega)
theorem wrF_out {l : List Nat} {p v : Nat → Nat} (h : l.length = 16) : ∀ {k}, (∀ j, j < k → p j < 16) → ∀ x, (∀ j, j < k → p j ≠ x) → (wrF l p v k).getD x 0 = l.getD x 0
  | 0, _, x, _ => rfl
  | k + 1, hp, x, hx => by
    rw [wrF, getD_set' (by rw [wrF_len h]; exact hp k (by omega)), if_neg (hx k (by omega))]
    exact wrF_out h (fun j hj => hp j (by omega)) x fun j hj => hx j (by omega)
section
variable {l : List Nat} {p u : Nat → Nat} {N : Nat} (h : l.length = 16) (hp : ∀ j, j < N → p j < 16) (hi : ∀ i j, i < N → j < N → p i = p j → i = j) (hu : ∀ j, j < N → u j < N) (huu : ∀ j, j < N → u (u j) = j)
include h hp hi hu huu
theorem jo_at : ∀ {k}, k ≤ N → ∀ j, j < N → (j < k ∨ u j < k) → (jo l p (fun i => p (u i)) k).getD (p j) 0 = p (u j)
  | 0, _, j, _, hj => by omega
  | k + 1, hk, j, hjN, hj => by
    have hkN : k < N := by omega
    rw [jo, getD_set' (by rw [List.length_set, jo_len h]; exact hp _ (hu k hkN)), getD_set' (by rw [jo_len h]; exact hp k hkN)]
    by_cases h1 : p (u k) = p j
    · have : u k = j := hi _ _ (hu k hkN) hjN h1
      rw [if_pos h1, ← this, huu k hkN]
    · rw [if_neg h1]
      by_cases h2 : p k = p j
      · have : k = j := hi _ _ hkN hjN h2
        rw [if_pos h2, this]
      · rw [if_neg h2]
        have h3 : j ≠ k := by rintro rfl; exact h2 rfl
        have h4 : u j ≠ k := by rintro rfl; exact h1 (by rw [huu j hjN])
        exact jo_at (by omega) j hjN (by omega)
theorem jo_out : ∀ {k}, k ≤ N → ∀ x, (∀ j, j < N → p j ≠ x) → (jo l p (fun i => p (u i)) k).getD x 0 = l.getD x 0
  | 0, _, x, _ => rfl
  | k + 1, hk, x, hx => by
    have hkN : k < N := by omega
    rw [jo, getD_set' (by rw [List.length_set, jo_len h]; exact hp _ (hu k hkN)), getD_set' (by rw [jo_len h]; exact hp k hkN), if_neg (hx _ (hu k hkN)), if_neg (hx k hkN)]
    exact jo_out (by omega) x hx
theorem jo_eq : jo l p (fun i => p (u i)) N = wrF l p (fun i => p (u i)) N := by
  refine eq_of_getD (jo_len h) (wrF_len h) fun y hy => ?_
  by_cases hj : ∃ j, j < N ∧ p j = y
  · obtain ⟨j, hj, rfl⟩ := hj
    rw [jo_at h hp hi hu huu (Nat.le_refl N) j hj (.inl hj), wrF_at h hp hi j hj]
  · rw [jo_out h hp hi hu huu (Nat.le_refl N) y fun j h1 h2 => hj ⟨j, h1, h2⟩, wrF_out h hp y fun j h1 h2 => hj ⟨j, h1, h2⟩]
end

/-- A point of the left one, and of the right one, in the union. -/
def uL (n k i : Nat) : Nat := if i < n then i else i + k
def uR (n k i : Nat) : Nat := if i < k then n + i else 2 * n + i
theorem uL_lt {n k i : Nat} (h : i < 2 * n) : uL n k i < 2 * (n + k) := by unfold uL; split <;> omega
theorem uR_lt {n k i : Nat} (h : i < 2 * k) : uR n k i < 2 * (n + k) := by unfold uR; split <;> omega
theorem uL_inj {n k i j : Nat} (h : uL n k i = uL n k j) : i = j := by unfold uL at h; split at h <;> split at h <;> omega
theorem uR_inj {n k i j : Nat} (h : uR n k i = uR n k j) : i = j := by unfold uR at h; split at h <;> split at h <;> omega

theorem div01 {n i : Nat} (hi : i < 2 * n) (hn : n ≤ 100) : IntKind.i64.wrap (Int.tdiv (i : Int) (n : Int)) = if i < n then 0 else 1 := by
  rw [tdN]
  split
  · rename_i h; rw [Nat.div_eq_of_lt h]; rfl
  · rename_i h
    have : i / n = 1 := by rw [Nat.div_eq_iff (by omega)]; omega
    rw [this]; rfl

theorem s_union1 (n k : Nat) (hn : n ≤ 8) (hk : k ≤ 8) (i : Nat) (hi : i < 2 * n) : Spec Try.prog n_i_union_1 [vi i, .ptr 0 0, .ptr 1 0] [.pc [.int .i64 n] T_int, .pc [.int .i64 k] T_int] (vi (uL n k i : Nat)) [.pc [.int .i64 n] T_int, .pc [.int .i64 k] T_int] := by
  have e1 := div01 hi (by omega)
  have hn0 : (n : Int) ≠ 0 := by omega
  refine SpecW.of_EV hf_i_union_1 hc_i_union_1 rfl rfl rfl fun w0 B ρ0 _ => ?_
  by_cases h : i < n
  · rw [if_pos h] at e1
    (repeat' (first | refine And.intro hn0 ?_ | refine Exists.intro _ (And.intro e1 ?_) | refine And.intro (neI rfl) ?_ | refine And.intro ⟨rfl, leR rfl, onesR rfl⟩ ?_ | refine And.intro ⟨rfl, leR rfl⟩ ?_ | refine draw_rule2 hfol (fun KK hKK => ?_) | refine hKK _ _ _ (by kernel_rfl) ?_ | refine region_rule (fun KK hKK => ?_) | refine hKK _ _ ?_ | refine And.intro (Eq.refl true) ?_ | refine Exists.intro _ (And.intro (wI (by omega)) ?_) | refine Exists.intro _ (And.intro (wU (by omega)) ?_) | refine Exists.intro _ (And.intro ⟨rfl, by omega⟩ ?_) | refine Exists.intro _ (And.intro rfl ?_) | refine And.intro rfl ?_ | refine And.intro ⟨rfl, rfl⟩ ?_ | ((refine And.intro (fun _ => ?_) (fun _ => ?_)) <;> try (exfalso; omega))))
    exact Exists.intro [0,1] (And.intro (viR (by simp only [uL, if_pos h]; omega)) (And.intro ⟨rfl, rfl, trivial⟩ rfl))
  · rw [if_neg h] at e1
    (repeat' (first | refine And.intro hn0 ?_ | refine Exists.intro _ (And.intro e1 ?_) | refine And.intro (neI rfl) ?_ | refine And.intro ⟨rfl, leR rfl, onesR rfl⟩ ?_ | refine And.intro ⟨rfl, leR rfl⟩ ?_ | refine draw_rule2 hfol (fun KK hKK => ?_) | refine hKK _ _ _ (by kernel_rfl) ?_ | refine region_rule (fun KK hKK => ?_) | refine hKK _ _ ?_ | refine And.intro (Eq.refl true) ?_ | refine Exists.intro _ (And.intro (wI (by omega)) ?_) | refine Exists.intro _ (And.intro (wU (by omega)) ?_) | refine Exists.intro _ (And.intro ⟨rfl, by omega⟩ ?_) | refine Exists.intro _ (And.intro rfl ?_) | refine And.intro rfl ?_ | refine And.intro ⟨rfl, rfl⟩ ?_ | ((refine And.intro (fun _ => ?_) (fun _ => ?_)) <;> try (exfalso; omega))))
    exact Exists.intro [0,1] (And.intro (viR (by simp only [uL, if_neg h]; omega)) (And.intro ⟨rfl, rfl, trivial⟩ rfl))
theorem s_union2 (n k : Nat) (hn : n ≤ 8) (hk : k ≤ 8) (i : Nat) (hi : i < 2 * k) : Spec Try.prog n_i_union_2 [vi i, .ptr 0 0, .ptr 1 0] [.pc [.int .i64 n] T_int, .pc [.int .i64 k] T_int] (vi (uR n k i : Nat)) [.pc [.int .i64 n] T_int, .pc [.int .i64 k] T_int] := by
  have e1 := div01 hi (by omega)
  have hn0 : (k : Int) ≠ 0 := by omega
  refine SpecW.of_EV hf_i_union_2 hc_i_union_2 rfl rfl rfl fun w0 B ρ0 _ => ?_
  by_cases h : i < k
  · rw [if_pos h] at e1
    (repeat' (first | refine And.intro hn0 ?_ | refine Exists.intro _ (And.intro e1 ?_) | refine And.intro (neI rfl) ?_ | refine And.intro ⟨rfl, leR rfl, onesR rfl⟩ ?_ | refine And.intro ⟨rfl, leR rfl⟩ ?_ | refine draw_rule2 hfol (fun KK hKK => ?_) | refine hKK _ _ _ (by kernel_rfl) ?_ | refine region_rule (fun KK hKK => ?_) | refine hKK _ _ ?_ | refine And.intro (Eq.refl true) ?_ | refine Exists.intro _ (And.intro (wI (by omega)) ?_) | refine Exists.intro _ (And.intro (wU (by omega)) ?_) | refine Exists.intro _ (And.intro ⟨rfl, by omega⟩ ?_) | refine Exists.intro _ (And.intro rfl ?_) | refine And.intro rfl ?_ | refine And.intro ⟨rfl, rfl⟩ ?_ | ((refine And.intro (fun _ => ?_) (fun _ => ?_)) <;> try (exfalso; omega))))
    exact Exists.intro [0,1] (And.intro (viR (by simp only [uR, if_pos h]; omega)) (And.intro ⟨rfl, rfl, trivial⟩ rfl))
  · rw [if_neg h] at e1
    (repeat' (first | refine And.intro hn0 ?_ | refine Exists.intro _ (And.intro e1 ?_) | refine And.intro (neI rfl) ?_ | refine And.intro ⟨rfl, leR rfl, onesR rfl⟩ ?_ | refine And.intro ⟨rfl, leR rfl⟩ ?_ | refine draw_rule2 hfol (fun KK hKK => ?_) | refine hKK _ _ _ (by kernel_rfl) ?_ | refine region_rule (fun KK hKK => ?_) | refine hKK _ _ ?_ | refine And.intro (Eq.refl true) ?_ | refine Exists.intro _ (And.intro (wI (by omega)) ?_) | refine Exists.intro _ (And.intro (wU (by omega)) ?_) | refine Exists.intro _ (And.intro ⟨rfl, by omega⟩ ?_) | refine Exists.intro _ (And.intro rfl ?_) | refine And.intro rfl ?_ | refine And.intro ⟨rfl, rfl⟩ ?_ | ((refine And.intro (fun _ => ?_) (fun _ => ?_)) <;> try (exfalso; omega))))
    exact Exists.intro [0,1] (And.intro (viR (by simp only [uR, if_neg h]; omega)) (And.intro ⟨rfl, rfl, trivial⟩ rfl))

def uW (n k : Nat) (a b : List Nat) : List Nat := wrF (wrF (List.replicate 16 0) (uL n k) (fun i => uL n k (a.getD i 0)) (2 * n)) (uR n k) (fun i => uR n k (b.getD i 0)) (2 * k)
theorem r16 : (List.replicate 16 0 : List Nat).length = 16 := rfl

theorem s_union (n k : Nat) (a b : List Nat) (ha : IsD n a) (hb : IsD k b) (hnk : n + k ≤ 8) : Spec Try.prog n_i_union [pv n a, pv k b] [] (pv ((n : Int) + (k : Int)) (uW n k a b)) [] := by
  have h1 := ha.n8
  have h2 := hb.n8
  have la := ha.len
  have lb := hb.len
  have lw : ∀ {i}, (wrF (List.replicate 16 0) (uL n k) (fun i => uL n k (a.getD i 0)) i).length = 16 := wrF_len r16
  have lw2 : ∀ {i}, (wrF (wrF (List.replicate 16 0) (uL n k) (fun i => uL n k (a.getD i 0)) (2 * n)) (uR n k) (fun i => uR n k (b.getD i 0)) i).length = 16 := wrF_len lw
  refine SpecW.of_EV hf_i_union hc_i_union rfl rfl rfl fun w0 B ρ0 _ => ?_
  (repeat' (first | refine (s_n n a).read [0] rfl ⟨rfl, trivial⟩ ?_ | refine (s_n k b).read [1] rfl ⟨rfl, trivial⟩ ?_ | refine Exists.intro [Value.int .i64 n] (And.intro ⟨leR rfl, rfl⟩ ?_) | refine Exists.intro [Value.int .i64 k] (And.intro ⟨leR rfl, rfl⟩ ?_) | refine Exists.intro (pcl ((n : Int) + (k : Int)) (List.replicate 16 0)) (And.intro ⟨leR rfl, rfl⟩ ?_) | refine Exists.intro (pcl ((n : Int) + (k : Int)) (List.replicate 16 0)) (And.intro ⟨rfl, rfl⟩ ?_) | refine And.intro (neI rfl) ?_ | refine And.intro ⟨rfl, leR rfl, onesR rfl⟩ ?_ | refine And.intro ⟨rfl, leR rfl⟩ ?_ | refine draw_rule2 hfol (fun KK hKK => ?_) | refine hKK _ _ _ (by kernel_rfl) ?_ | refine region_rule (fun KK hKK => ?_) | refine hKK _ _ ?_ | refine And.intro (Eq.refl true) ?_ | refine Exists.intro _ (And.intro (wI (by omega)) ?_) | refine Exists.intro _ (And.intro (wU (by omega)) ?_) | refine Exists.intro _ (And.intro ⟨rfl, by omega⟩ ?_) | refine Exists.intro _ (And.intro rfl ?_) | refine And.intro rfl ?_ | refine And.intro ⟨rfl, rfl⟩ ?_ | ((refine And.intro (fun _ => ?_) (fun _ => ?_)) <;> try (exfalso; omega))))
  refine loop_rule (α := Nat) (fun i => i ≤ 2 * n)
    (fun i => [(2, .ptr 0 0), (3, .ptr 1 0), (4, .ptr 2 0), (6, .ptr 4 0), (7, .ptr 5 0), (8, .fn (.func n_i_union_1) [] [.ptr 3 0, .ptr 4 0]), (9, .fn (.func n_i_union_2) [] [.ptr 3 0, .ptr 4 0]), (21, vi (2 * n)), (22, vi i)])
    (fun i => [.pc (pcl n a) T_i_Diagram, .pc (pcl k b) T_i_Diagram, .pc (pcl 0 (List.replicate 16 0)) T_i_Diagram, .pc [.int .i64 n] T_int, .pc [.int .i64 k] T_int, .pc (pcl ((n : Int) + (k : Int)) (wrF (List.replicate 16 0) (uL n k) (fun i => uL n k (a.getD i 0)) i)) T_i_Diagram]) (fun i => 2 * n - i) 0 [0, 1, 2, 3, 4, 5]
    (by omega) ⟨⟨rfl, rfl, rfl, rfl, rfl, rfl, rfl, rfl, rfl, trivial⟩, ⟨rfl, rfl, rfl, rfl, rfl, rfl, trivial⟩, rfl⟩ ?_
  rintro i g hi
  by_cases h9 : i = 2 * n
  rotate_left
  · have hil : i < 2 * n := by omega
    have hok := ha.lt i hil
    have g1 := uL_lt (k := k) hil
    have g2 := uL_lt (k := k) hok
    have c1 := s_union1 n k h1 h2 i hil
    have c2 := s_union1 n k h1 h2 _ hok
    (repeat' (first | refine (c1).read [3,4] rfl ⟨rfl, rfl, trivial⟩ ?_ | refine (c2).read [3,4] rfl ⟨rfl, rfl, trivial⟩ ?_ | refine Exists.intro _ (And.intro (pcl_at (by omega)) ?_) | refine Exists.intro (pcl ((n : Int) + (k : Int)) (wrF (List.replicate 16 0) (uL n k) (fun i => uL n k (a.getD i 0)) (i + 1))) (And.intro ⟨by rw [pcl_len lw]; omega, pcl_set⟩ ?_) | refine And.intro (neI rfl) ?_ | refine And.intro ⟨rfl, leR rfl, onesR rfl⟩ ?_ | refine And.intro ⟨rfl, leR rfl⟩ ?_ | refine draw_rule2 hfol (fun KK hKK => ?_) | refine hKK _ _ _ (by kernel_rfl) ?_ | refine region_rule (fun KK hKK => ?_) | refine hKK _ _ ?_ | refine And.intro (Eq.refl true) ?_ | refine Exists.intro _ (And.intro (wI (by omega)) ?_) | refine Exists.intro _ (And.intro (wU (by omega)) ?_) | refine Exists.intro _ (And.intro ⟨rfl, by omega⟩ ?_) | refine Exists.intro _ (And.intro rfl ?_) | refine And.intro rfl ?_ | refine And.intro ⟨rfl, rfl⟩ ?_ | ((refine And.intro (fun _ => ?_) (fun _ => ?_)) <;> try (exfalso; omega))))
    refine Exists.intro (i + 1) (Exists.intro [0, 1, 2, 3, 4, 5] (And.intro ⟨by omega, (by show 2 * n - (i + 1) < 2 * n - i; omega)⟩ ⟨⟨rfl, rfl, rfl, rfl, rfl, rfl, rfl, rfl, rfl, trivial⟩, ⟨rfl, rfl, rfl, rfl, rfl, rfl, trivial⟩, rfl⟩))
  subst h9
  (repeat' (first | refine And.intro (neI rfl) ?_ | refine And.intro ⟨rfl, leR rfl, onesR rfl⟩ ?_ | refine And.intro ⟨rfl, leR rfl⟩ ?_ | refine draw_rule2 hfol (fun KK hKK => ?_) | refine hKK _ _ _ (by kernel_rfl) ?_ | refine region_rule (fun KK hKK => ?_) | refine hKK _ _ ?_ | refine And.intro (Eq.refl true) ?_ | refine Exists.intro _ (And.intro (wI (by omega)) ?_) | refine Exists.intro _ (And.intro (wU (by omega)) ?_) | refine Exists.intro _ (And.intro ⟨rfl, by omega⟩ ?_) | refine Exists.intro _ (And.intro rfl ?_) | refine And.intro rfl ?_ | refine And.intro ⟨rfl, rfl⟩ ?_ | ((refine And.intro (fun _ => ?_) (fun _ => ?_)) <;> try (exfalso; omega))))
  refine loop_rule (α := Nat) (fun i => i ≤ 2 * k)
    (fun i => [(3, .ptr 1 0), (4, .ptr 2 0), (7, .ptr 5 0), (9, .fn (.func n_i_union_2) [] [.ptr 3 0, .ptr 4 0]), (40, vi (2 * k)), (41, vi i)])
    (fun i => [.pc (pcl n a) T_i_Diagram, .pc (pcl k b) T_i_Diagram, .pc (pcl 0 (List.replicate 16 0)) T_i_Diagram, .pc [.int .i64 n] T_int, .pc [.int .i64 k] T_int, .pc (pcl ((n : Int) + (k : Int)) (wrF (wrF (List.replicate 16 0) (uL n k) (fun i => uL n k (a.getD i 0)) (2 * n)) (uR n k) (fun i => uR n k (b.getD i 0)) i)) T_i_Diagram]) (fun i => 2 * k - i) 0 [0, 1, 2, 3, 4, 5]
    (by omega) ⟨⟨rfl, rfl, rfl, rfl, rfl, rfl, trivial⟩, ⟨rfl, rfl, rfl, rfl, rfl, rfl, trivial⟩, rfl⟩ ?_
  rintro i g hi
  by_cases h9 : i = 2 * k
  rotate_left
  · have hil : i < 2 * k := by omega
    have hok := hb.lt i hil
    have g1 := uR_lt (n := n) hil
    have g2 := uR_lt (n := n) hok
    have c1 := s_union2 n k h1 h2 i hil
    have c2 := s_union2 n k h1 h2 _ hok
    (repeat' (first | refine (c1).read [3,4] rfl ⟨rfl, rfl, trivial⟩ ?_ | refine (c2).read [3,4] rfl ⟨rfl, rfl, trivial⟩ ?_ | refine Exists.intro _ (And.intro (pcl_at (by omega)) ?_) | refine Exists.intro (pcl ((n : Int) + (k : Int)) (wrF (wrF (List.replicate 16 0) (uL n k) (fun i => uL n k (a.getD i 0)) (2 * n)) (uR n k) (fun i => uR n k (b.getD i 0)) (i + 1))) (And.intro ⟨by rw [pcl_len lw2]; omega, pcl_set⟩ ?_) | refine And.intro (neI rfl) ?_ | refine And.intro ⟨rfl, leR rfl, onesR rfl⟩ ?_ | refine And.intro ⟨rfl, leR rfl⟩ ?_ | refine draw_rule2 hfol (fun KK hKK => ?_) | refine hKK _ _ _ (by kernel_rfl) ?_ | refine region_rule (fun KK hKK => ?_) | refine hKK _ _ ?_ | refine And.intro (Eq.refl true) ?_ | refine Exists.intro _ (And.intro (wI (by omega)) ?_) | refine Exists.intro _ (And.intro (wU (by omega)) ?_) | refine Exists.intro _ (And.intro ⟨rfl, by omega⟩ ?_) | refine Exists.intro _ (And.intro rfl ?_) | refine And.intro rfl ?_ | refine And.intro ⟨rfl, rfl⟩ ?_ | ((refine And.intro (fun _ => ?_) (fun _ => ?_)) <;> try (exfalso; omega))))
    refine Exists.intro (i + 1) (Exists.intro [0, 1, 2, 3, 4, 5] (And.intro ⟨by omega, (by show 2 * k - (i + 1) < 2 * k - i; omega)⟩ ⟨⟨rfl, rfl, rfl, rfl, rfl, rfl, trivial⟩, ⟨rfl, rfl, rfl, rfl, rfl, rfl, trivial⟩, rfl⟩))
  subst h9
  (repeat' (first | refine Exists.intro (pcl ((n : Int) + (k : Int)) (uW n k a b)) (And.intro ⟨pcl_len lw2, pcl_all lw2⟩ ?_) | refine And.intro ⟨pcl_len lw2, leR rfl, pcl_ones⟩ ?_ | refine Exists.intro (pcl ((n : Int) + (k : Int)) (uW n k a b)) (And.intro ⟨leR rfl, spl0 (leR rfl)⟩ ?_) | refine And.intro (neI rfl) ?_ | refine And.intro ⟨rfl, leR rfl, onesR rfl⟩ ?_ | refine And.intro ⟨rfl, leR rfl⟩ ?_ | refine draw_rule2 hfol (fun KK hKK => ?_) | refine hKK _ _ _ (by kernel_rfl) ?_ | refine region_rule (fun KK hKK => ?_) | refine hKK _ _ ?_ | refine And.intro (Eq.refl true) ?_ | refine Exists.intro _ (And.intro (wI (by omega)) ?_) | refine Exists.intro _ (And.intro (wU (by omega)) ?_) | refine Exists.intro _ (And.intro ⟨rfl, by omega⟩ ?_) | refine Exists.intro _ (And.intro rfl ?_) | refine And.intro rfl ?_ | refine And.intro ⟨rfl, rfl⟩ ?_ | ((refine And.intro (fun _ => ?_) (fun _ => ?_)) <;> try (exfalso; omega))))
  exact Exists.intro [] (And.intro (rfl) (And.intro trivial rfl))

theorem s_lmoved (n i : Nat) (l al : Int) (r : Nat) (hn : n ≤ 100) (hi : i ≤ 100) (hl : 0 ≤ l ∧ l ≤ 100) (ha : 0 ≤ al ∧ al ≤ 100) (hr : if i < n then l + i = r else al + l + i - n = r) : Spec Try.prog n_s_l01Moved [vi n, vi l, vi al, vi i] [] (vi r) [] := by
  refine SpecW.of_EV hf_s_l01Moved hc_s_l01Moved rfl rfl rfl fun w0 B ρ0 _ => ?_
  by_cases h : i < n
  · rw [if_pos h] at hr
    (repeat' (first | refine And.intro (neI rfl) ?_ | refine And.intro ⟨rfl, leR rfl, onesR rfl⟩ ?_ | refine And.intro ⟨rfl, leR rfl⟩ ?_ | refine draw_rule2 hfol (fun KK hKK => ?_) | refine hKK _ _ _ (by kernel_rfl) ?_ | refine region_rule (fun KK hKK => ?_) | refine hKK _ _ ?_ | refine And.intro (Eq.refl true) ?_ | refine Exists.intro _ (And.intro (wI (by omega)) ?_) | refine Exists.intro _ (And.intro (wU (by omega)) ?_) | refine Exists.intro _ (And.intro ⟨rfl, by omega⟩ ?_) | refine Exists.intro _ (And.intro rfl ?_) | refine And.intro rfl ?_ | refine And.intro ⟨rfl, rfl⟩ ?_ | ((refine And.intro (fun _ => ?_) (fun _ => ?_)) <;> try (exfalso; omega))))
    exact Exists.intro [] (And.intro (viR hr) (And.intro trivial rfl))
  · rw [if_neg h] at hr
    (repeat' (first | refine And.intro (neI rfl) ?_ | refine And.intro ⟨rfl, leR rfl, onesR rfl⟩ ?_ | refine And.intro ⟨rfl, leR rfl⟩ ?_ | refine draw_rule2 hfol (fun KK hKK => ?_) | refine hKK _ _ _ (by kernel_rfl) ?_ | refine region_rule (fun KK hKK => ?_) | refine hKK _ _ ?_ | refine And.intro (Eq.refl true) ?_ | refine Exists.intro _ (And.intro (wI (by omega)) ?_) | refine Exists.intro _ (And.intro (wU (by omega)) ?_) | refine Exists.intro _ (And.intro ⟨rfl, by omega⟩ ?_) | refine Exists.intro _ (And.intro rfl ?_) | refine And.intro rfl ?_ | refine And.intro ⟨rfl, rfl⟩ ?_ | ((refine And.intro (fun _ => ?_) (fun _ => ?_)) <;> try (exfalso; omega))))
    exact Exists.intro [] (And.intro (viR hr) (And.intro trivial rfl))
def unionR (s : Int) (a : List Nat) (t : Int) (b : List Nat) : Int × List Nat × Int :=
  if isDi s a = true ∧ isDi t b = true then (if s + t > 8 then (0, List.replicate 16 0, 3) else (s + t, uW s.toNat t.toNat a b, 0)) else (0, List.replicate 16 0, 1)
theorem unionR_len (s : Int) (a : List Nat) (t : Int) (b : List Nat) : (unionR s a t b).2.1.length = 16 := by
  unfold unionR; split
  · split
    · simp
    · exact wrF_len (wrF_len r16)
  · simp

theorem s_iUnion (s : Int) (a : List Nat) (ha : a.length = 16) (hab : ∀ x ∈ a, x < 256) (t : Int) (b : List Nat) (hb : b.length = 16) (hbb : ∀ x ∈ b, x < 256) : Spec Try.prog n_i_UnionDiagram [pv s a, pv t b] [] (dV (unionR s a t b)) [] := by
  have hr : unionR s a t b = if isDi s a = true ∧ isDi t b = true then (if s + t > 8 then (0, List.replicate 16 0, 3) else (s + t, uW s.toNat t.toNat a b, 0)) else (0, List.replicate 16 0, 1) := rfl
  refine SpecW.of_EV hf_i_UnionDiagram hc_i_UnionDiagram rfl rfl rfl fun w0 B ρ0 _ => ?_
  by_cases hv : isDi s a = true ∧ isDi t b = true
  rotate_left
  · rw [if_neg hv] at hr
    have hq := s_invalid [(s, a), (t, b)] (fun p hp => by simp at hp; rcases hp with rfl | rfl; exact ⟨ha, hab⟩; exact ⟨hb, hbb⟩) (by simp) true (by
      simp only [List.any_cons, List.any_nil, Bool.or_false]
      cases h1 : isDi s a <;> cases h2 : isDi t b <;> simp [h1, h2] at hv ⊢)
    simp only [cond_true] at hq
    (repeat' (first | refine (hq).read [3] rfl ⟨rfl, trivial⟩ ?_ | refine Exists.intro (pcl s a) (And.intro ⟨pcl_len ha, pcl_all ha⟩ ?_) | refine Exists.intro (pcl t b) (And.intro ⟨pcl_len hb, pcl_all hb⟩ ?_) | refine And.intro ⟨pcl_len ha, mkL rfl⟩ ?_ | refine And.intro ⟨pcl_len hb, Nat.le_of_eq (fill_len (N := 17) mk_len (pcl_len ha) (leR rfl)).symm⟩ ?_ | refine Exists.intro (rowP [(s, a), (t, b)]) (And.intro (row2 (N := 17) (p := (s, a)) (q := (t, b)) mk_len (pcl_len ha) (pcl_len hb)) ?_) | refine Exists.intro (pcl 0 (List.replicate 16 0)) (And.intro ⟨leR rfl, rfl⟩ ?_) | refine Exists.intro (pcl 0 (List.replicate 16 0)) (And.intro ⟨rfl, rfl⟩ ?_) | refine And.intro (neI rfl) ?_ | refine And.intro ⟨rfl, leR rfl, onesR rfl⟩ ?_ | refine And.intro ⟨rfl, leR rfl⟩ ?_ | refine draw_rule2 hfol (fun KK hKK => ?_) | refine hKK _ _ _ (by kernel_rfl) ?_ | refine region_rule (fun KK hKK => ?_) | refine hKK _ _ ?_ | refine And.intro (Eq.refl true) ?_ | refine Exists.intro _ (And.intro (wI (by omega)) ?_) | refine Exists.intro _ (And.intro (wU (by omega)) ?_) | refine Exists.intro _ (And.intro ⟨rfl, by omega⟩ ?_) | refine Exists.intro _ (And.intro rfl ?_) | refine And.intro rfl ?_ | refine And.intro ⟨rfl, rfl⟩ ?_ | ((refine And.intro (fun _ => ?_) (fun _ => ?_)) <;> try (exfalso; omega))))
    exact Exists.intro [] (And.intro (by rw [hr]; rfl) (And.intro trivial rfl))
  rw [if_pos hv] at hr
  obtain ⟨hva, hvb⟩ := hv
  have hq := s_invalid [(s, a), (t, b)] (fun p hp => by simp at hp; rcases hp with rfl | rfl; exact ⟨ha, hab⟩; exact ⟨hb, hbb⟩) (by simp) false (by simp [hva, hvb])
  simp only [cond_false] at hq
  obtain ⟨n, rfl, hda⟩ := isDi_elim ha hva
  obtain ⟨k, rfl, hdb⟩ := isDi_elim hb hvb
  have h1 := hda.n8
  have h2 := hdb.n8
  by_cases h4 : (n : Int) + (k : Int) > 8
  · rw [if_pos h4] at hr
    (repeat' (first | refine (hq).read [3] rfl ⟨rfl, trivial⟩ ?_ | refine Exists.intro (pcl n a) (And.intro ⟨pcl_len ha, pcl_all ha⟩ ?_) | refine Exists.intro (pcl k b) (And.intro ⟨pcl_len hb, pcl_all hb⟩ ?_) | refine And.intro ⟨pcl_len ha, mkL rfl⟩ ?_ | refine And.intro ⟨pcl_len hb, Nat.le_of_eq (fill_len (N := 17) mk_len (pcl_len ha) (leR rfl)).symm⟩ ?_ | refine Exists.intro (rowP [((n : Int), a), ((k : Int), b)]) (And.intro (row2 (N := 17) (p := ((n : Int), a)) (q := ((k : Int), b)) mk_len (pcl_len ha) (pcl_len hb)) ?_) | refine Exists.intro (pcl 0 (List.replicate 16 0)) (And.intro ⟨leR rfl, rfl⟩ ?_) | refine Exists.intro (pcl 0 (List.replicate 16 0)) (And.intro ⟨rfl, rfl⟩ ?_) | refine And.intro (neI rfl) ?_ | refine And.intro ⟨rfl, leR rfl, onesR rfl⟩ ?_ | refine And.intro ⟨rfl, leR rfl⟩ ?_ | refine draw_rule2 hfol (fun KK hKK => ?_) | refine hKK _ _ _ (by kernel_rfl) ?_ | refine region_rule (fun KK hKK => ?_) | refine hKK _ _ ?_ | refine And.intro (Eq.refl true) ?_ | refine Exists.intro _ (And.intro (wI (by omega)) ?_) | refine Exists.intro _ (And.intro (wU (by omega)) ?_) | refine Exists.intro _ (And.intro ⟨rfl, by omega⟩ ?_) | refine Exists.intro _ (And.intro rfl ?_) | refine And.intro rfl ?_ | refine And.intro ⟨rfl, rfl⟩ ?_ | ((refine And.intro (fun _ => ?_) (fun _ => ?_)) <;> try (exfalso; omega))))
    exact Exists.intro [] (And.intro (by rw [hr]; rfl) (And.intro trivial rfl))
  · rw [if_neg h4] at hr
    have hu := s_union n k a b hda hdb (by omega)
    have lw : (uW n k a b).length = 16 := wrF_len (wrF_len r16)
    (repeat' (first | refine (hq).read [3] rfl ⟨rfl, trivial⟩ ?_ | refine (hu).pure rfl ?_ | refine Exists.intro (pcl n a) (And.intro ⟨pcl_len ha, pcl_all ha⟩ ?_) | refine Exists.intro (pcl k b) (And.intro ⟨pcl_len hb, pcl_all hb⟩ ?_) | refine And.intro ⟨pcl_len ha, mkL rfl⟩ ?_ | refine And.intro ⟨pcl_len hb, Nat.le_of_eq (fill_len (N := 17) mk_len (pcl_len ha) (leR rfl)).symm⟩ ?_ | refine Exists.intro (rowP [((n : Int), a), ((k : Int), b)]) (And.intro (row2 (N := 17) (p := ((n : Int), a)) (q := ((k : Int), b)) mk_len (pcl_len ha) (pcl_len hb)) ?_) | refine Exists.intro (pcl ((n : Int) + (k : Int)) (uW n k a b)) (And.intro ⟨pcl_len lw, pcl_all lw⟩ ?_) | refine And.intro ⟨pcl_len lw, leR rfl, pcl_ones⟩ ?_ | refine Exists.intro (pcl ((n : Int) + (k : Int)) (uW n k a b)) (And.intro ⟨leR rfl, spl0 (leR rfl)⟩ ?_) | refine And.intro (neI rfl) ?_ | refine And.intro ⟨rfl, leR rfl, onesR rfl⟩ ?_ | refine And.intro ⟨rfl, leR rfl⟩ ?_ | refine draw_rule2 hfol (fun KK hKK => ?_) | refine hKK _ _ _ (by kernel_rfl) ?_ | refine region_rule (fun KK hKK => ?_) | refine hKK _ _ ?_ | refine And.intro (Eq.refl true) ?_ | refine Exists.intro _ (And.intro (wI (by omega)) ?_) | refine Exists.intro _ (And.intro (wU (by omega)) ?_) | refine Exists.intro _ (And.intro ⟨rfl, by omega⟩ ?_) | refine Exists.intro _ (And.intro rfl ?_) | refine And.intro rfl ?_ | refine And.intro ⟨rfl, rfl⟩ ?_ | ((refine And.intro (fun _ => ?_) (fun _ => ?_)) <;> try (exfalso; omega))))
    exact Exists.intro [] (And.intro (by rw [hr]; rfl) (And.intro trivial rfl))

theorem s_sUnion (s : Int) (a : List Nat) (ha : a.length = 16) (hab : ∀ x ∈ a, x < 256) (t : Int) (b : List Nat) (hb : b.length = 16) (hbb : ∀ x ∈ b, x < 256) : Spec Try.prog n_s_UnionDiagram [pv s a, pv t b] [] (dV (unionR s a t b)) [] := by
  have hr : unionR s a t b = if isDi s a = true ∧ isDi t b = true then (if s + t > 8 then (0, List.replicate 16 0, 3) else (s + t, uW s.toNat t.toNat a b, 0)) else (0, List.replicate 16 0, 1) := rfl
  have q1 := s_sIs' s a ha hab
  have q2 := s_sIs' t b hb hbb
  refine SpecW.of_EV hf_s_UnionDiagram hc_s_UnionDiagram rfl rfl rfl fun w0 B ρ0 _ => ?_
  cases hva : isDi s a with
  | false =>
    rw [hva] at q1 hr
    (repeat' (first | refine (q1).pure rfl ?_ | refine Exists.intro (pcl s a) (And.intro ⟨pcl_len ha, pcl_all ha⟩ ?_) | refine Exists.intro (pcl 0 (List.replicate 16 0)) (And.intro ⟨leR rfl, rfl⟩ ?_) | refine Exists.intro (pcl 0 (List.replicate 16 0)) (And.intro ⟨rfl, rfl⟩ ?_) | refine And.intro (neI rfl) ?_ | refine And.intro ⟨rfl, leR rfl, onesR rfl⟩ ?_ | refine And.intro ⟨rfl, leR rfl⟩ ?_ | refine draw_rule2 hfol (fun KK hKK => ?_) | refine hKK _ _ _ (by kernel_rfl) ?_ | refine region_rule (fun KK hKK => ?_) | refine hKK _ _ ?_ | refine And.intro (Eq.refl true) ?_ | refine Exists.intro _ (And.intro (wI (by omega)) ?_) | refine Exists.intro _ (And.intro (wU (by omega)) ?_) | refine Exists.intro _ (And.intro ⟨rfl, by omega⟩ ?_) | refine Exists.intro _ (And.intro rfl ?_) | refine And.intro rfl ?_ | refine And.intro ⟨rfl, rfl⟩ ?_ | ((refine And.intro (fun _ => ?_) (fun _ => ?_)) <;> try (exfalso; omega))))
    exact Exists.intro [] (And.intro (by rw [hr]; rfl) (And.intro trivial rfl))
  | true =>
  cases hvb : isDi t b with
  | false =>
    rw [hva] at q1 hr
    rw [hvb] at q2 hr
    (repeat' (first | refine (q1).pure rfl ?_ | refine (q2).pure rfl ?_ | refine Exists.intro (pcl s a) (And.intro ⟨pcl_len ha, pcl_all ha⟩ ?_) | refine Exists.intro (pcl t b) (And.intro ⟨pcl_len hb, pcl_all hb⟩ ?_) | refine Exists.intro (pcl 0 (List.replicate 16 0)) (And.intro ⟨leR rfl, rfl⟩ ?_) | refine Exists.intro (pcl 0 (List.replicate 16 0)) (And.intro ⟨rfl, rfl⟩ ?_) | refine And.intro (neI rfl) ?_ | refine And.intro ⟨rfl, leR rfl, onesR rfl⟩ ?_ | refine And.intro ⟨rfl, leR rfl⟩ ?_ | refine draw_rule2 hfol (fun KK hKK => ?_) | refine hKK _ _ _ (by kernel_rfl) ?_ | refine region_rule (fun KK hKK => ?_) | refine hKK _ _ ?_ | refine And.intro (Eq.refl true) ?_ | refine Exists.intro _ (And.intro (wI (by omega)) ?_) | refine Exists.intro _ (And.intro (wU (by omega)) ?_) | refine Exists.intro _ (And.intro ⟨rfl, by omega⟩ ?_) | refine Exists.intro _ (And.intro rfl ?_) | refine And.intro rfl ?_ | refine And.intro ⟨rfl, rfl⟩ ?_ | ((refine And.intro (fun _ => ?_) (fun _ => ?_)) <;> try (exfalso; omega))))
    exact Exists.intro [] (And.intro (by rw [hr]; rfl) (And.intro trivial rfl))
  | true =>
  rw [hva] at q1 hr
  rw [hvb] at q2 hr
  rw [if_pos ⟨rfl, rfl⟩] at hr
  obtain ⟨n, rfl, hda⟩ := isDi_elim ha hva
  obtain ⟨k, rfl, hdb⟩ := isDi_elim hb hvb
  have h1 := hda.n8
  have h2 := hdb.n8
  by_cases h4 : (n : Int) + (k : Int) > 8
  · rw [if_pos h4] at hr
    (repeat' (first | refine (q1).pure rfl ?_ | refine (q2).pure rfl ?_ | refine Exists.intro (pcl n a) (And.intro ⟨pcl_len ha, pcl_all ha⟩ ?_) | refine Exists.intro (pcl k b) (And.intro ⟨pcl_len hb, pcl_all hb⟩ ?_) | refine Exists.intro (pcl 0 (List.replicate 16 0)) (And.intro ⟨leR rfl, rfl⟩ ?_) | refine Exists.intro (pcl 0 (List.replicate 16 0)) (And.intro ⟨rfl, rfl⟩ ?_) | refine And.intro (neI rfl) ?_ | refine And.intro ⟨rfl, leR rfl, onesR rfl⟩ ?_ | refine And.intro ⟨rfl, leR rfl⟩ ?_ | refine draw_rule2 hfol (fun KK hKK => ?_) | refine hKK _ _ _ (by kernel_rfl) ?_ | refine region_rule (fun KK hKK => ?_) | refine hKK _ _ ?_ | refine And.intro (Eq.refl true) ?_ | refine Exists.intro _ (And.intro (wI (by omega)) ?_) | refine Exists.intro _ (And.intro (wU (by omega)) ?_) | refine Exists.intro _ (And.intro ⟨rfl, by omega⟩ ?_) | refine Exists.intro _ (And.intro rfl ?_) | refine And.intro rfl ?_ | refine And.intro ⟨rfl, rfl⟩ ?_ | ((refine And.intro (fun _ => ?_) (fun _ => ?_)) <;> try (exfalso; omega))))
    exact Exists.intro [] (And.intro (by rw [hr]; rfl) (And.intro trivial rfl))
  rw [if_neg h4] at hr
  have e1 := jo_eq (l := List.replicate 16 0) (p := uL n k) (u := fun i => a.getD i 0) (N := 2 * n) r16 (fun j hj => by have := uL_lt (k := k) hj; omega) (fun i j _ _ h => uL_inj h) hda.lt hda.inv
  have e2 := jo_eq (l := jo (List.replicate 16 0) (uL n k) (fun i => uL n k (a.getD i 0)) (2 * n)) (p := uR n k) (u := fun i => b.getD i 0) (N := 2 * k) (jo_len r16) (fun j hj => by have := uR_lt (n := n) hj; omega) (fun i j _ _ h => uR_inj h) hdb.lt hdb.inv
  have e3 : jo (jo (List.replicate 16 0) (uL n k) (fun i => uL n k (a.getD i 0)) (2 * n)) (uR n k) (fun i => uR n k (b.getD i 0)) (2 * k) = uW n k a b := by rw [e2, e1]; rfl
  have lw : ∀ {i}, (jo (List.replicate 16 0) (uL n k) (fun i => uL n k (a.getD i 0)) i).length = 16 := jo_len r16
  have lw2 : ∀ {i}, (jo (jo (List.replicate 16 0) (uL n k) (fun i => uL n k (a.getD i 0)) (2 * n)) (uR n k) (fun i => uR n k (b.getD i 0)) i).length = 16 := jo_len lw
  (repeat' (first | refine (q1).pure rfl ?_ | refine (q2).pure rfl ?_ | refine Exists.intro (pcl n a) (And.intro ⟨pcl_len ha, pcl_all ha⟩ ?_) | refine Exists.intro (pcl k b) (And.intro ⟨pcl_len hb, pcl_all hb⟩ ?_) | refine Exists.intro (pcl ((n : Int) + (k : Int)) (List.replicate 16 0)) (And.intro ⟨leR rfl, rfl⟩ ?_) | refine Exists.intro (pcl ((n : Int) + (k : Int)) (List.replicate 16 0)) (And.intro ⟨rfl, rfl⟩ ?_) | refine And.intro (neI rfl) ?_ | refine And.intro ⟨rfl, leR rfl, onesR rfl⟩ ?_ | refine And.intro ⟨rfl, leR rfl⟩ ?_ | refine draw_rule2 hfol (fun KK hKK => ?_) | refine hKK _ _ _ (by kernel_rfl) ?_ | refine region_rule (fun KK hKK => ?_) | refine hKK _ _ ?_ | refine And.intro (Eq.refl true) ?_ | refine Exists.intro _ (And.intro (wI (by omega)) ?_) | refine Exists.intro _ (And.intro (wU (by omega)) ?_) | refine Exists.intro _ (And.intro ⟨rfl, by omega⟩ ?_) | refine Exists.intro _ (And.intro rfl ?_) | refine And.intro rfl ?_ | refine And.intro ⟨rfl, rfl⟩ ?_ | ((refine And.intro (fun _ => ?_) (fun _ => ?_)) <;> try (exfalso; omega))))
  refine loop_rule (α := Nat) (fun i => i ≤ 2 * n)
    (fun i => [(2, .ptr 0 0), (3, .ptr 1 0), (4, .ptr 2 0), (6, vi ((n : Int) + (k : Int))), (7, .ptr 3 0), (8, vi i)])
    (fun i => [.pc (pcl n a) T_i_Diagram, .pc (pcl k b) T_i_Diagram, .pc (pcl 0 (List.replicate 16 0)) T_i_Diagram, .pc (pcl ((n : Int) + (k : Int)) (jo (List.replicate 16 0) (uL n k) (fun i => uL n k (a.getD i 0)) i)) T_i_Diagram]) (fun i => 2 * n - i) 0 [0, 1, 2, 3]
    (by omega) ⟨⟨rfl, rfl, rfl, rfl, rfl, rfl, trivial⟩, ⟨rfl, rfl, rfl, rfl, trivial⟩, rfl⟩ ?_
  rintro i g hi
  by_cases h9 : i = 2 * n
  rotate_left
  · have hil : i < 2 * n := by omega
    have hok := hda.lt i hil
    have g1 := uL_lt (k := k) hil
    have g2 := uL_lt (k := k) hok
    have c1 := s_lmoved n i 0 ((n : Int) + (k : Int)) (uL n k i) (by omega) (by omega) (by omega) (by omega) (by unfold uL; split <;> omega)
    have c2 := s_lmoved n (a.getD i 0) 0 ((n : Int) + (k : Int)) (uL n k (a.getD i 0)) (by omega) (by omega) (by omega) (by omega) (by unfold uL; split <;> omega)
    have c3 := s_join ((n : Int) + (k : Int)) (jo (List.replicate 16 0) (uL n k) (fun i => uL n k (a.getD i 0)) i) (uL n k i) (uL n k (a.getD i 0)) lw (by omega) (by omega)
    (repeat' (first | refine (c1).pure rfl ?_ | refine (c2).pure rfl ?_ | refine (c3).pure rfl ?_ | refine Exists.intro _ (And.intro (pcl_at (by omega)) ?_) | refine Exists.intro (pcl ((n : Int) + (k : Int)) (jo (List.replicate 16 0) (uL n k) (fun i => uL n k (a.getD i 0)) i)) (And.intro ⟨pcl_len lw, pcl_all lw⟩ ?_) | refine And.intro ⟨pcl_len lw, leR rfl, pcl_ones⟩ ?_ | refine Exists.intro (pcl ((n : Int) + (k : Int)) (jo (List.replicate 16 0) (uL n k) (fun i => uL n k (a.getD i 0)) i)) (And.intro ⟨leR rfl, spl0 (leR rfl)⟩ ?_) | refine And.intro ⟨pcl_len (by simp only [List.length_set]; exact lw), leR rfl, pcl_ones⟩ ?_ | refine Exists.intro (pcl ((n : Int) + (k : Int)) (jo (List.replicate 16 0) (uL n k) (fun i => uL n k (a.getD i 0)) (i + 1))) (And.intro ⟨by rw [pcl_len lw]; exact leR rfl, spl0 (by rw [pcl_len lw]; exact leR rfl)⟩ ?_) | refine And.intro (neI rfl) ?_ | refine And.intro ⟨rfl, leR rfl, onesR rfl⟩ ?_ | refine And.intro ⟨rfl, leR rfl⟩ ?_ | refine draw_rule2 hfol (fun KK hKK => ?_) | refine hKK _ _ _ (by kernel_rfl) ?_ | refine region_rule (fun KK hKK => ?_) | refine hKK _ _ ?_ | refine And.intro (Eq.refl true) ?_ | refine Exists.intro _ (And.intro (wI (by omega)) ?_) | refine Exists.intro _ (And.intro (wU (by omega)) ?_) | refine Exists.intro _ (And.intro ⟨rfl, by omega⟩ ?_) | refine Exists.intro _ (And.intro rfl ?_) | refine And.intro rfl ?_ | refine And.intro ⟨rfl, rfl⟩ ?_ | ((refine And.intro (fun _ => ?_) (fun _ => ?_)) <;> try (exfalso; omega))))
    refine Exists.intro (i + 1) (Exists.intro [0, 1, 2, 3] (And.intro ⟨by omega, (by show 2 * n - (i + 1) < 2 * n - i; omega)⟩ ⟨⟨rfl, rfl, rfl, rfl, rfl, rfl, trivial⟩, ⟨rfl, rfl, rfl, rfl, trivial⟩, rfl⟩))
  subst h9
  (repeat' (first | refine And.intro (neI rfl) ?_ | refine And.intro ⟨rfl, leR rfl, onesR rfl⟩ ?_ | refine And.intro ⟨rfl, leR rfl⟩ ?_ | refine draw_rule2 hfol (fun KK hKK => ?_) | refine hKK _ _ _ (by kernel_rfl) ?_ | refine region_rule (fun KK hKK => ?_) | refine hKK _ _ ?_ | refine And.intro (Eq.refl true) ?_ | refine Exists.intro _ (And.intro (wI (by omega)) ?_) | refine Exists.intro _ (And.intro (wU (by omega)) ?_) | refine Exists.intro _ (And.intro ⟨rfl, by omega⟩ ?_) | refine Exists.intro _ (And.intro rfl ?_) | refine And.intro rfl ?_ | refine And.intro ⟨rfl, rfl⟩ ?_ | ((refine And.intro (fun _ => ?_) (fun _ => ?_)) <;> try (exfalso; omega))))
  refine loop_rule (α := Nat) (fun i => i ≤ 2 * k)
    (fun i => [(2, .ptr 0 0), (3, .ptr 1 0), (4, .ptr 2 0), (6, vi ((n : Int) + (k : Int))), (7, .ptr 3 0), (9, vi i)])
    (fun i => [.pc (pcl n a) T_i_Diagram, .pc (pcl k b) T_i_Diagram, .pc (pcl 0 (List.replicate 16 0)) T_i_Diagram, .pc (pcl ((n : Int) + (k : Int)) (jo (jo (List.replicate 16 0) (uL n k) (fun i => uL n k (a.getD i 0)) (2 * n)) (uR n k) (fun i => uR n k (b.getD i 0)) i)) T_i_Diagram]) (fun i => 2 * k - i) 0 [0, 1, 2, 3]
    (by omega) ⟨⟨rfl, rfl, rfl, rfl, rfl, rfl, trivial⟩, ⟨rfl, rfl, rfl, rfl, trivial⟩, rfl⟩ ?_
  rintro i g hi
  by_cases h9 : i = 2 * k
  rotate_left
  · have hil : i < 2 * k := by omega
    have hok := hdb.lt i hil
    have g1 := uR_lt (n := n) hil
    have g2 := uR_lt (n := n) hok
    have c1 := s_lmoved k i n ((n : Int) + (k : Int)) (uR n k i) (by omega) (by omega) (by omega) (by omega) (by unfold uR; split <;> omega)
    have c2 := s_lmoved k (b.getD i 0) n ((n : Int) + (k : Int)) (uR n k (b.getD i 0)) (by omega) (by omega) (by omega) (by omega) (by unfold uR; split <;> omega)
    have c3 := s_join ((n : Int) + (k : Int)) (jo (jo (List.replicate 16 0) (uL n k) (fun i => uL n k (a.getD i 0)) (2 * n)) (uR n k) (fun i => uR n k (b.getD i 0)) i) (uR n k i) (uR n k (b.getD i 0)) lw2 (by omega) (by omega)
    (repeat' (first | refine (c1).pure rfl ?_ | refine (c2).pure rfl ?_ | refine (c3).pure rfl ?_ | refine Exists.intro _ (And.intro (pcl_at (by omega)) ?_) | refine Exists.intro (pcl ((n : Int) + (k : Int)) (jo (jo (List.replicate 16 0) (uL n k) (fun i => uL n k (a.getD i 0)) (2 * n)) (uR n k) (fun i => uR n k (b.getD i 0)) i)) (And.intro ⟨pcl_len lw2, pcl_all lw2⟩ ?_) | refine And.intro ⟨pcl_len lw2, leR rfl, pcl_ones⟩ ?_ | refine Exists.intro (pcl ((n : Int) + (k : Int)) (jo (jo (List.replicate 16 0) (uL n k) (fun i => uL n k (a.getD i 0)) (2 * n)) (uR n k) (fun i => uR n k (b.getD i 0)) i)) (And.intro ⟨leR rfl, spl0 (leR rfl)⟩ ?_) | refine And.intro ⟨pcl_len (by simp only [List.length_set]; exact lw2), leR rfl, pcl_ones⟩ ?_ | refine Exists.intro (pcl ((n : Int) + (k : Int)) (jo (jo (List.replicate 16 0) (uL n k) (fun i => uL n k (a.getD i 0)) (2 * n)) (uR n k) (fun i => uR n k (b.getD i 0)) (i + 1))) (And.intro ⟨by rw [pcl_len lw2]; exact leR rfl, spl0 (by rw [pcl_len lw2]; exact leR rfl)⟩ ?_) | refine And.intro (neI rfl) ?_ | refine And.intro ⟨rfl, leR rfl, onesR rfl⟩ ?_ | refine And.intro ⟨rfl, leR rfl⟩ ?_ | refine draw_rule2 hfol (fun KK hKK => ?_) | refine hKK _ _ _ (by kernel_rfl) ?_ | refine region_rule (fun KK hKK => ?_) | refine hKK _ _ ?_ | refine And.intro (Eq.refl true) ?_ | refine Exists.intro _ (And.intro (wI (by omega)) ?_) | refine Exists.intro _ (And.intro (wU (by omega)) ?_) | refine Exists.intro _ (And.intro ⟨rfl, by omega⟩ ?_) | refine Exists.intro _ (And.intro rfl ?_) | refine And.intro rfl ?_ | refine And.intro ⟨rfl, rfl⟩ ?_ | ((refine And.intro (fun _ => ?_) (fun _ => ?_)) <;> try (exfalso; omega))))
    refine Exists.intro (i + 1) (Exists.intro [0, 1, 2, 3] (And.intro ⟨by omega, (by show 2 * k - (i + 1) < 2 * k - i; omega)⟩ ⟨⟨rfl, rfl, rfl, rfl, rfl, rfl, trivial⟩, ⟨rfl, rfl, rfl, rfl, trivial⟩, rfl⟩))
  subst h9
  rw [e3]
  have lw3 : (uW n k a b).length = 16 := wrF_len (wrF_len r16)
  (repeat' (first | refine Exists.intro (pcl ((n : Int) + (k : Int)) (uW n k a b)) (And.intro ⟨pcl_len lw3, pcl_all lw3⟩ ?_) | refine And.intro ⟨pcl_len lw3, leR rfl, pcl_ones⟩ ?_ | refine Exists.intro (pcl ((n : Int) + (k : Int)) (uW n k a b)) (And.intro ⟨leR rfl, spl0 (leR rfl)⟩ ?_) | refine And.intro (neI rfl) ?_ | refine And.intro ⟨rfl, leR rfl, onesR rfl⟩ ?_ | refine And.intro ⟨rfl, leR rfl⟩ ?_ | refine draw_rule2 hfol (fun KK hKK => ?_) | refine hKK _ _ _ (by kernel_rfl) ?_ | refine region_rule (fun KK hKK => ?_) | refine hKK _ _ ?_ | refine And.intro (Eq.refl true) ?_ | refine Exists.intro _ (And.intro (wI (by omega)) ?_) | refine Exists.intro _ (And.intro (wU (by omega)) ?_) | refine Exists.intro _ (And.intro ⟨rfl, by omega⟩ ?_) | refine Exists.intro _ (And.intro rfl ?_) | refine And.intro rfl ?_ | refine And.intro ⟨rfl, rfl⟩ ?_ | ((refine And.intro (fun _ => ?_) (fun _ => ?_)) <;> try (exfalso; omega))))
  exact Exists.intro [] (And.intro (by rw [hr]; rfl) (And.intro trivial rfl))

end Go.Proofs.Ytgpgcdofhkpeaaa.VE
