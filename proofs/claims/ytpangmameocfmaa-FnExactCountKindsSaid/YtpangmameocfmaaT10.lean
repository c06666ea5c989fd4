/- Contracts of functions of the given program, for all arguments that the contract names; see each theorem. -/
import Derived.Test.YtpangmameocfmaaT9
set_option linter.all false
namespace Go.Proofs.Ytpangmameocfmaa.VE.P
open Go
set_option maxHeartbeats 400000
set_option maxRecDepth 100000

/-- The first i copied. -/
def cp (m : List Nat) (N i : Nat) : List Nat := (List.range N).map fun j => if j < i then m.getD j 0 else 0
theorem cp_len {m : List Nat} {N i : Nat} : (cp m N i).length = N := by simp [cp]
theorem cp_set {m : List Nat} {N i : Nat} (hi : i < N) : (cp m N i).set i (m.getD i 0) = cp m N (i + 1) := by
  apply List.ext_getElem (by simp [cp])
  intro k h1 h2
  simp only [List.length_set, cp_len] at h1
  rw [List.getElem_set]
  simp only [cp, List.getElem_map, List.getElem_range]
  by_cases hk : i = k
  · subst hk; simp
  · rw [if_neg hk]
    by_cases hlt : k < i
    · rw [if_pos hlt, if_pos (by omega)]
    · rw [if_neg hlt, if_neg (by omega)]
theorem cp_all {m : List Nat} {N : Nat} (hm : m.length = N) : cp m N N = m := by
  apply List.ext_getElem (by simp [cp, hm])
  intro k h1 h2
  have : k < N := by omega
  simp [cp, this, List.getD_eq_getElem?_getD, List.getElem?_eq_getElem h2]
theorem pcl_splice {s : Int} {m m' : List Nat} {N : Nat} (h : m.length = N) : (pcl s m).take 1 ++ bcl m' ++ (pcl s m).drop (1 + N) = pcl s m' := by
  have : (pcl s m).drop (1 + N) = [] := List.drop_of_length_le (by rw [pcl_len h]; omega)
  rw [this]; simp [pcl, bcl]

theorem s_toB8 (m : List Nat) (hm : m.length = 8) : Spec Try.prog n_l_toByteA8 [bv m] [] (bv m) [] := by
  refine SpecW.of_EV hf_l_toByteA8 hc_l_toByteA8 rfl rfl rfl fun w0 B ρ0 _ => ?_
  (repeat' (first | refine And.intro (neI rfl) ?_ | refine And.intro ⟨rfl, leR rfl, onesR rfl⟩ ?_ | refine And.intro ⟨rfl, leR rfl⟩ ?_ | refine draw_rule2 hfol (fun KK hKK => ?_) | refine hKK _ _ _ (by kernel_rfl) ?_ | refine region_rule (fun KK hKK => ?_) | refine hKK _ _ ?_ | refine And.intro (Eq.refl true) ?_ | refine Exists.intro _ (And.intro (wI (by omega)) ?_) | refine Exists.intro _ (And.intro (wU (by omega)) ?_) | refine Exists.intro _ (And.intro ⟨rfl, by omega⟩ ?_) | refine Exists.intro _ (And.intro rfl ?_) | refine And.intro rfl ?_ | refine And.intro ⟨rfl, rfl⟩ ?_ | ((refine And.intro (fun _ => ?_) (fun _ => ?_)) <;> try (exfalso; omega))))
  refine loop_rule (α := Nat) (fun i => i ≤ 8)
      (fun i => [(1, .ptr 0 0), (2, .ptr 1 0), (3, .ptr 2 0), (4, vi i)]) (fun i => [.pc (bcl m) T_a8q_uint8, .pc (bcl (List.replicate 8 0)) T_a8q_uint8, .pc (bcl (cp m 8 i)) T_a8q_uint8]) (fun i => 8 - i) 0 [0, 1, 2]
      (by omega) ⟨⟨rfl, rfl, rfl, rfl, trivial⟩, ⟨rfl, rfl, rfl, trivial⟩, rfl⟩ ?_
  rintro i g hi
  by_cases h8 : i = 8
  · subst h8
    (repeat' (first | refine Exists.intro (bcl (cp m 8 8)) (And.intro ⟨bcl_len cp_len, bcl_all cp_len⟩ ?_) | refine And.intro ⟨bcl_len cp_len, leR rfl, bcl_ones⟩ ?_ | refine Exists.intro (bcl (cp m 8 8)) (And.intro ⟨leR rfl, spl0 (leR rfl)⟩ ?_) | refine And.intro (neI rfl) ?_ | refine And.intro ⟨rfl, leR rfl, onesR rfl⟩ ?_ | refine And.intro ⟨rfl, leR rfl⟩ ?_ | refine draw_rule2 hfol (fun KK hKK => ?_) | refine hKK _ _ _ (by kernel_rfl) ?_ | refine region_rule (fun KK hKK => ?_) | refine hKK _ _ ?_ | refine And.intro (Eq.refl true) ?_ | refine Exists.intro _ (And.intro (wI (by omega)) ?_) | refine Exists.intro _ (And.intro (wU (by omega)) ?_) | refine Exists.intro _ (And.intro ⟨rfl, by omega⟩ ?_) | refine Exists.intro _ (And.intro rfl ?_) | refine And.intro rfl ?_ | refine And.intro ⟨rfl, rfl⟩ ?_ | ((refine And.intro (fun _ => ?_) (fun _ => ?_)) <;> try (exfalso; omega))))
    rw [cp_all hm]
    exact Exists.intro [] (And.intro rfl (And.intro trivial rfl))
  (repeat' (first | refine Exists.intro _ (And.intro (bcl_at (by omega)) ?_) | refine Exists.intro (bcl (cp m 8 (i + 1))) (And.intro ⟨by rw [bcl_len cp_len]; omega, by rw [← cp_set (by omega)]; exact bcl_set⟩ ?_) | refine And.intro (neI rfl) ?_ | refine And.intro ⟨rfl, leR rfl, onesR rfl⟩ ?_ | refine And.intro ⟨rfl, leR rfl⟩ ?_ | refine draw_rule2 hfol (fun KK hKK => ?_) | refine hKK _ _ _ (by kernel_rfl) ?_ | refine region_rule (fun KK hKK => ?_) | refine hKK _ _ ?_ | refine And.intro (Eq.refl true) ?_ | refine Exists.intro _ (And.intro (wI (by omega)) ?_) | refine Exists.intro _ (And.intro (wU (by omega)) ?_) | refine Exists.intro _ (And.intro ⟨rfl, by omega⟩ ?_) | refine Exists.intro _ (And.intro rfl ?_) | refine And.intro rfl ?_ | refine And.intro ⟨rfl, rfl⟩ ?_ | ((refine And.intro (fun _ => ?_) (fun _ => ?_)) <;> try (exfalso; omega))))
  refine Exists.intro (i + 1) (Exists.intro [0, 1, 2] (And.intro ⟨by omega, (by show 8 - (i + 1) < 8 - i; omega)⟩ ⟨⟨rfl, rfl, rfl, rfl, trivial⟩, ⟨rfl, rfl, rfl, trivial⟩, rfl⟩))

theorem s_toP (s : Int) (m : List Nat) (hm : m.length = 8) : Spec Try.prog n_l_toPartition [pv s m] [] (pv s m) [] := by
  refine SpecW.of_EV hf_l_toPartition hc_l_toPartition rfl rfl rfl fun w0 B ρ0 _ => ?_
  (repeat' (first | refine (s_toB8 m hm).pure rfl ?_ | refine Exists.intro (bcl m) (And.intro ⟨bcl_len hm, pcl_part hm⟩ ?_) | refine Exists.intro (pcl s (List.replicate 8 0)) (And.intro ⟨leR rfl, rfl⟩ ?_) | refine Exists.intro (pcl s m) (And.intro ⟨pcl_len hm, pcl_all hm⟩ ?_) | refine And.intro ⟨bcl_len hm, leR rfl, bcl_ones⟩ ?_ | refine And.intro ⟨pcl_len hm, leR rfl, pcl_ones⟩ ?_ | refine Exists.intro (pcl s m) (And.intro ⟨leR rfl, spl0 (leR rfl)⟩ ?_) | refine Exists.intro (pcl s m) (And.intro ⟨leR rfl, pcl_splice (by simp)⟩ ?_) | refine And.intro (neI rfl) ?_ | refine And.intro ⟨rfl, leR rfl, onesR rfl⟩ ?_ | refine And.intro ⟨rfl, leR rfl⟩ ?_ | refine draw_rule2 hfol (fun KK hKK => ?_) | refine hKK _ _ _ (by kernel_rfl) ?_ | refine region_rule (fun KK hKK => ?_) | refine hKK _ _ ?_ | refine And.intro (Eq.refl true) ?_ | refine Exists.intro _ (And.intro (wI (by omega)) ?_) | refine Exists.intro _ (And.intro (wU (by omega)) ?_) | refine Exists.intro _ (And.intro ⟨rfl, by omega⟩ ?_) | refine Exists.intro _ (And.intro rfl ?_) | refine And.intro rfl ?_ | refine And.intro ⟨rfl, rfl⟩ ?_ | ((refine And.intro (fun _ => ?_) (fun _ => ?_)) <;> try (exfalso; omega))))
  exact Exists.intro [] (And.intro rfl (And.intro trivial rfl))
end Go.Proofs.Ytpangmameocfmaa.VE.P
