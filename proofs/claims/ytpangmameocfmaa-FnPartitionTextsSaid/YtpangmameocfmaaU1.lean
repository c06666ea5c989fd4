/- Contracts of functions of the given program, for all arguments that the contract names; see each theorem. -/
import Derived.Test.YtpangmameocfmaaNm
import Derived.Test.YtpangmameocfmaaEd
set_option linter.all false
namespace Go.Proofs.Ytpangmameocfmaa.VE
open Go
theorem hfol : Try.prog.follows .mixedOrders = true := rfl
set_option maxHeartbeats 800000
set_option maxRecDepth 100000

theorem s_in (a b c : Int) : Spec Try.prog n_s_l01In [vi a, vi b, vi c] [] (vb (decide (b ≤ a ∧ a ≤ c))) [] := by
  refine SpecW.of_EV hf_s_l01In hc_s_l01In rfl rfl rfl fun w0 B ρ0 _ => ?_
  (repeat' (first | refine And.intro (neI rfl) ?_ | refine And.intro ⟨rfl, leR rfl, onesR rfl⟩ ?_ | refine And.intro ⟨rfl, leR rfl⟩ ?_ | refine draw_rule2 hfol (fun KK hKK => ?_) | refine hKK _ _ _ (by kernel_rfl) ?_ | refine region_rule (fun KK hKK => ?_) | refine hKK _ _ ?_ | refine And.intro (Eq.refl true) ?_ | refine Exists.intro _ (And.intro (wI (by omega)) ?_) | refine Exists.intro _ (And.intro (wU (by omega)) ?_) | refine Exists.intro _ (And.intro ⟨rfl, by omega⟩ ?_) | refine Exists.intro _ (And.intro rfl ?_) | refine And.intro rfl ?_ | refine And.intro ⟨rfl, rfl⟩ ?_ | ((refine And.intro (fun _ => ?_) (fun _ => ?_)) <;> try (exfalso; omega))))
  all_goals exact finP (vbR (by first | (rw [decide_eq_true (by omega)]) | (rw [decide_eq_false (by omega)])))
theorem s_iin (a b c : Int) : Spec Try.prog n_i_in [vi a, vi b, vi c] [] (vb (decide (b ≤ a ∧ a ≤ c))) [] := by
  refine SpecW.of_EV hf_i_in hc_i_in rfl rfl rfl fun w0 B ρ0 _ => ?_
  (repeat' (first | refine And.intro (neI rfl) ?_ | refine And.intro ⟨rfl, leR rfl, onesR rfl⟩ ?_ | refine And.intro ⟨rfl, leR rfl⟩ ?_ | refine draw_rule2 hfol (fun KK hKK => ?_) | refine hKK _ _ _ (by kernel_rfl) ?_ | refine region_rule (fun KK hKK => ?_) | refine hKK _ _ ?_ | refine And.intro (Eq.refl true) ?_ | refine Exists.intro _ (And.intro (wI (by omega)) ?_) | refine Exists.intro _ (And.intro (wU (by omega)) ?_) | refine Exists.intro _ (And.intro ⟨rfl, by omega⟩ ?_) | refine Exists.intro _ (And.intro rfl ?_) | refine And.intro rfl ?_ | refine And.intro ⟨rfl, rfl⟩ ?_ | ((refine And.intro (fun _ => ?_) (fun _ => ?_)) <;> try (exfalso; omega))))
  all_goals exact finP (vbR (by first | (rw [decide_eq_true (by omega)]) | (rw [decide_eq_false (by omega)])))

/-- The first i copied. -/
def cp (m : List Nat) (N i : Nat) : List Nat := (List.range N).map fun j => if j < i then m.getD j 0 else 0
theorem cp_len {m : List Nat} {N i : Nat} : (cp m N i).length = N := by simp [cp]
theorem cp_set {m : List Nat} {N i : Nat} (hi : i < N) : (cp m N i).set i (m.getD i 0) = cp m N (i + 1) := by
  apply List.ext_getElem (by simp [cp])
  intro k h1 h2
  simp only [List.length_set, cp_len] at h1
  rw [List.getElem_set]
  simp only [cp, List.getElem_map, List.getElem_range]
  by_cases hk : i = k
  · subst hk; simp
  · rw [if_neg hk]
    by_cases hlt : k < i
    · rw [if_pos hlt, if_pos (by omega)]
    · rw [if_neg hlt, if_neg (by omega)]
theorem cp_all {m : List Nat} {N : Nat} (hm : m.length = N) : cp m N N = m := by
  apply List.ext_getElem (by simp [cp, hm])
  intro k h1 h2
  have : k < N := by omega
  simp [cp, this, List.getD_eq_getElem?_getD, List.getElem?_eq_getElem h2]
theorem pcl_splice {s : Int} {m m' : List Nat} {N : Nat} (h : m.length = N) : (pcl s m).take 1 ++ bcl m' ++ (pcl s m).drop (1 + N) = pcl s m' := by
  have : (pcl s m).drop (1 + N) = [] := List.drop_of_length_le (by rw [pcl_len h]; omega)
  rw [this]; simp [pcl, bcl]

/-- The place on the line. -/
def plc (n i : Nat) : Nat := if i < n then i else 3 * n - 1 - i
theorem plc_lt {n i : Nat} (h : i < 2 * n) : plc n i < 2 * n := by unfold plc; split <;> omega
theorem plc_inv {n i : Nat} (h : i < 2 * n) : plc n (plc n i) = i := by
  unfold plc
  by_cases h1 : i < n
  · rw [if_pos h1, if_pos h1]
  · rw [if_neg h1, if_neg (by omega)]; omega
theorem s_place (n i : Nat) (hn : n ≤ 100) (hi : i < 2 * n) : Spec Try.prog n_s_l01Place [vi n, vi i] [] (vi (plc n i : Nat)) [] := by
  have h3 : IntKind.i64.wrap ((3 : Int) * (n : Int) - 1 - (i : Int)) = ((3 * n - 1 - i : Nat) : Int) := wC (by omega) (by omega)
  refine SpecW.of_EV hf_s_l01Place hc_s_l01Place rfl rfl rfl fun w0 B ρ0 _ => ?_
  (repeat' (first | refine Exists.intro _ (And.intro h3 ?_) | refine And.intro (neI rfl) ?_ | refine And.intro ⟨rfl, leR rfl, onesR rfl⟩ ?_ | refine And.intro ⟨rfl, leR rfl⟩ ?_ | refine draw_rule2 hfol (fun KK hKK => ?_) | refine hKK _ _ _ (by kernel_rfl) ?_ | refine region_rule (fun KK hKK => ?_) | refine hKK _ _ ?_ | refine And.intro (Eq.refl true) ?_ | refine Exists.intro _ (And.intro (wI (by omega)) ?_) | refine Exists.intro _ (And.intro (wU (by omega)) ?_) | refine Exists.intro _ (And.intro ⟨rfl, by omega⟩ ?_) | refine Exists.intro _ (And.intro rfl ?_) | refine And.intro rfl ?_ | refine And.intro ⟨rfl, rfl⟩ ?_ | ((refine And.intro (fun _ => ?_) (fun _ => ?_)) <;> try (exfalso; omega))))
  · exact finP (viR (by simp only [plc]; split <;> omega))
  · exact finP (viR (by simp only [plc]; split <;> omega))
theorem s_iplace (n i : Nat) (hn : n ≤ 100) (hi : i < 2 * n) : Spec Try.prog n_i_placeOf [vi n, vi i] [] (vi (plc n i : Nat)) [] := by
  have h3 : IntKind.i64.wrap ((3 : Int) * (n : Int) - 1 - (i : Int)) = ((3 * n - 1 - i : Nat) : Int) := wC (by omega) (by omega)
  refine SpecW.of_EV hf_i_placeOf hc_i_placeOf rfl rfl rfl fun w0 B ρ0 _ => ?_
  (repeat' (first | refine Exists.intro _ (And.intro h3 ?_) | refine And.intro (neI rfl) ?_ | refine And.intro ⟨rfl, leR rfl, onesR rfl⟩ ?_ | refine And.intro ⟨rfl, leR rfl⟩ ?_ | refine draw_rule2 hfol (fun KK hKK => ?_) | refine hKK _ _ _ (by kernel_rfl) ?_ | refine region_rule (fun KK hKK => ?_) | refine hKK _ _ ?_ | refine And.intro (Eq.refl true) ?_ | refine Exists.intro _ (And.intro (wI (by omega)) ?_) | refine Exists.intro _ (And.intro (wU (by omega)) ?_) | refine Exists.intro _ (And.intro ⟨rfl, by omega⟩ ?_) | refine Exists.intro _ (And.intro rfl ?_) | refine And.intro rfl ?_ | refine And.intro ⟨rfl, rfl⟩ ?_ | ((refine And.intro (fun _ => ?_) (fun _ => ?_)) <;> try (exfalso; omega))))
  · exact finP (viR (by simp only [plc]; split <;> omega))
  · exact finP (viR (by simp only [plc]; split <;> omega))
end Go.Proofs.Ytpangmameocfmaa.VE
