/- Contracts of functions of the given program, for all arguments that the contract names; see each theorem. -/
import Derived.Test.YtfglgmimnpjhoaaNm
set_option linter.all false
namespace Go.Proofs.Ytfglgmimnpjhoaa.VE
open Go
theorem hfol : Try.prog.follows .mixedOrders = true := rfl
set_option maxHeartbeats 800000
set_option maxRecDepth 100000

theorem wC {a b : Int} (h : a = b) (h2 : -9223372036854775808 ≤ b ∧ b ≤ 9223372036854775807) : IntKind.i64.wrap a = b := by rw [h]; exact wI h2
theorem tm2 (n : Nat) : Int.tmod (n : Int) 2 = ((n % 2 : Nat) : Int) := tmN n 2
theorem td2 (n : Nat) : Int.tdiv (n : Int) 2 = ((n / 2 : Nat) : Int) := tdN n 2

theorem s_in (a b c : Int) : Spec Try.prog n_s_l01In [vi a, vi b, vi c] [] (vb (decide (b ≤ a ∧ a ≤ c))) [] := by
  refine SpecW.of_EV hf_s_l01In hc_s_l01In rfl rfl rfl fun w0 B ρ0 _ => ?_
  (repeat' (first | refine And.intro (neI rfl) ?_ | refine And.intro ⟨rfl, leR rfl, onesR rfl⟩ ?_ | refine And.intro ⟨rfl, leR rfl⟩ ?_ | refine draw_rule2 hfol (fun KK hKK => ?_) | refine hKK _ _ _ (by kernel_rfl) ?_ | refine region_rule (fun KK hKK => ?_) | refine hKK _ _ ?_ | refine And.intro (Eq.refl true) ?_ | refine Exists.intro _ (And.intro (wI (by omega)) ?_) | refine Exists.intro _ (And.intro (wU (by omega)) ?_) | refine Exists.intro _ (And.intro ⟨rfl, by omega⟩ ?_) | refine Exists.intro _ (And.intro rfl ?_) | refine And.intro rfl ?_ | refine And.intro ⟨rfl, rfl⟩ ?_ | ((refine And.intro (fun _ => ?_) (fun _ => ?_)) <;> try (exfalso; omega))))
  all_goals exact finP (vbR (by first | (rw [decide_eq_true (by omega)]) | (rw [decide_eq_false (by omega)])))
theorem s_iin (a b c : Int) : Spec Try.prog n_i_in [vi a, vi b, vi c] [] (vb (decide (b ≤ a ∧ a ≤ c))) [] := by
  refine SpecW.of_EV hf_i_in hc_i_in rfl rfl rfl fun w0 B ρ0 _ => ?_
  (repeat' (first | refine And.intro (neI rfl) ?_ | refine And.intro ⟨rfl, leR rfl, onesR rfl⟩ ?_ | refine And.intro ⟨rfl, leR rfl⟩ ?_ | refine draw_rule2 hfol (fun KK hKK => ?_) | refine hKK _ _ _ (by kernel_rfl) ?_ | refine region_rule (fun KK hKK => ?_) | refine hKK _ _ ?_ | refine And.intro (Eq.refl true) ?_ | refine Exists.intro _ (And.intro (wI (by omega)) ?_) | refine Exists.intro _ (And.intro (wU (by omega)) ?_) | refine Exists.intro _ (And.intro ⟨rfl, by omega⟩ ?_) | refine Exists.intro _ (And.intro rfl ?_) | refine And.intro rfl ?_ | refine And.intro ⟨rfl, rfl⟩ ?_ | ((refine And.intro (fun _ => ?_) (fun _ => ?_)) <;> try (exfalso; omega))))
  all_goals exact finP (vbR (by first | (rw [decide_eq_true (by omega)]) | (rw [decide_eq_false (by omega)])))

/-- The first i copied. -/
def cp (m : List Nat) (N i : Nat) : List Nat := (List.range N).map fun j => if j < i then m.getD j 0 else 0
theorem cp_len {m : List Nat} {N i : Nat} : (cp m N i).length = N := by simp [cp]
theorem cp_set {m : List Nat} {N i : Nat} (hi : i < N) : (cp m N i).set i (m.getD i 0) = cp m N (i + 1) := by
  apply List.ext_getElem (by simp [cp])
  intro k h1 h2
  simp only [List.length_set, cp_len] at h1
  rw [List.getElem_set]
  simp only [cp, List.getElem_map, List.getElem_range]
  by_cases hk : i = k
  · subst hk; simp
  · rw [if_neg hk]
    by_cases hlt : k < i
    · rw [if_pos hlt, if_pos (by omega)]
    · rw [if_neg hlt, if_neg (by omega)]
theorem cp_all {m : List Nat} {N : Nat} (hm : m.length = N) : cp m N N = m := by
  apply List.ext_getElem (by simp [cp, hm])
  intro k h1 h2
  have : k < N := by omega
  simp [cp, this, List.getD_eq_getElem?_getD, List.getElem?_eq_getElem h2]
theorem pcl_splice {s : Int} {m m' : List Nat} {N : Nat} (h : m.length = N) : (pcl s m).take 1 ++ bcl m' ++ (pcl s m).drop (1 + N) = pcl s m' := by
  have : (pcl s m).drop (1 + N) = [] := List.drop_of_length_le (by rw [pcl_len h]; omega)
  rw [this]; simp [pcl, bcl]

theorem s_toB16 (m : List Nat) (hm : m.length = 16) : Spec Try.prog n_l_toByteA16 [bv m] [] (bv m) [] := by
  refine SpecW.of_EV hf_l_toByteA16 hc_l_toByteA16 rfl rfl rfl fun w0 B ρ0 _ => ?_
  (repeat' (first | refine And.intro (neI rfl) ?_ | refine And.intro ⟨rfl, leR rfl, onesR rfl⟩ ?_ | refine And.intro ⟨rfl, leR rfl⟩ ?_ | refine draw_rule2 hfol (fun KK hKK => ?_) | refine hKK _ _ _ (by kernel_rfl) ?_ | refine region_rule (fun KK hKK => ?_) | refine hKK _ _ ?_ | refine And.intro (Eq.refl true) ?_ | refine Exists.intro _ (And.intro (wI (by omega)) ?_) | refine Exists.intro _ (And.intro (wU (by omega)) ?_) | refine Exists.intro _ (And.intro ⟨rfl, by omega⟩ ?_) | refine Exists.intro _ (And.intro rfl ?_) | refine And.intro rfl ?_ | refine And.intro ⟨rfl, rfl⟩ ?_ | ((refine And.intro (fun _ => ?_) (fun _ => ?_)) <;> try (exfalso; omega))))
  refine loop_rule (α := Nat) (fun i => i ≤ 16)
      (fun i => [(1, .ptr 0 0), (2, .ptr 1 0), (3, .ptr 2 0), (4, vi i)]) (fun i => [.pc (bcl m) T_a16q_uint8, .pc (bcl (List.replicate 16 0)) T_a16q_uint8, .pc (bcl (cp m 16 i)) T_a16q_uint8]) (fun i => 16 - i) 0 [0, 1, 2]
      (by omega) ⟨⟨rfl, rfl, rfl, rfl, trivial⟩, ⟨rfl, rfl, rfl, trivial⟩, rfl⟩ ?_
  rintro i g hi
  by_cases h8 : i = 16
  · subst h8
    (repeat' (first | refine Exists.intro (bcl (cp m 16 16)) (And.intro ⟨bcl_len cp_len, bcl_all cp_len⟩ ?_) | refine And.intro ⟨bcl_len cp_len, leR rfl, bcl_ones⟩ ?_ | refine Exists.intro (bcl (cp m 16 16)) (And.intro ⟨leR rfl, spl0 (leR rfl)⟩ ?_) | refine And.intro (neI rfl) ?_ | refine And.intro ⟨rfl, leR rfl, onesR rfl⟩ ?_ | refine And.intro ⟨rfl, leR rfl⟩ ?_ | refine draw_rule2 hfol (fun KK hKK => ?_) | refine hKK _ _ _ (by kernel_rfl) ?_ | refine region_rule (fun KK hKK => ?_) | refine hKK _ _ ?_ | refine And.intro (Eq.refl true) ?_ | refine Exists.intro _ (And.intro (wI (by omega)) ?_) | refine Exists.intro _ (And.intro (wU (by omega)) ?_) | refine Exists.intro _ (And.intro ⟨rfl, by omega⟩ ?_) | refine Exists.intro _ (And.intro rfl ?_) | refine And.intro rfl ?_ | refine And.intro ⟨rfl, rfl⟩ ?_ | ((refine And.intro (fun _ => ?_) (fun _ => ?_)) <;> try (exfalso; omega))))
    rw [cp_all hm]
    exact Exists.intro [] (And.intro rfl (And.intro trivial rfl))
  (repeat' (first | refine Exists.intro _ (And.intro (bcl_at (by omega)) ?_) | refine Exists.intro (bcl (cp m 16 (i + 1))) (And.intro ⟨by rw [bcl_len cp_len]; omega, by rw [← cp_set (by omega)]; exact bcl_set⟩ ?_) | refine And.intro (neI rfl) ?_ | refine And.intro ⟨rfl, leR rfl, onesR rfl⟩ ?_ | refine And.intro ⟨rfl, leR rfl⟩ ?_ | refine draw_rule2 hfol (fun KK hKK => ?_) | refine hKK _ _ _ (by kernel_rfl) ?_ | refine region_rule (fun KK hKK => ?_) | refine hKK _ _ ?_ | refine And.intro (Eq.refl true) ?_ | refine Exists.intro _ (And.intro (wI (by omega)) ?_) | refine Exists.intro _ (And.intro (wU (by omega)) ?_) | refine Exists.intro _ (And.intro ⟨rfl, by omega⟩ ?_) | refine Exists.intro _ (And.intro rfl ?_) | refine And.intro rfl ?_ | refine And.intro ⟨rfl, rfl⟩ ?_ | ((refine And.intro (fun _ => ?_) (fun _ => ?_)) <;> try (exfalso; omega))))
  refine Exists.intro (i + 1) (Exists.intro [0, 1, 2] (And.intro ⟨by omega, (by show 16 - (i + 1) < 16 - i; omega)⟩ ⟨⟨rfl, rfl, rfl, rfl, trivial⟩, ⟨rfl, rfl, rfl, trivial⟩, rfl⟩))

theorem s_toD (s : Int) (m : List Nat) (hm : m.length = 16) : Spec Try.prog n_l_toDiagram [pv s m] [] (pv s m) [] := by
  refine SpecW.of_EV hf_l_toDiagram hc_l_toDiagram rfl rfl rfl fun w0 B ρ0 _ => ?_
  (repeat' (first | refine (s_toB16 m hm).pure rfl ?_ | refine Exists.intro (bcl m) (And.intro ⟨bcl_len hm, pcl_part hm⟩ ?_) | refine Exists.intro (pcl s (List.replicate 16 0)) (And.intro ⟨leR rfl, rfl⟩ ?_) | refine Exists.intro (pcl s m) (And.intro ⟨pcl_len hm, pcl_all hm⟩ ?_) | refine And.intro ⟨bcl_len hm, leR rfl, bcl_ones⟩ ?_ | refine And.intro ⟨pcl_len hm, leR rfl, pcl_ones⟩ ?_ | refine Exists.intro (pcl s m) (And.intro ⟨leR rfl, spl0 (leR rfl)⟩ ?_) | refine Exists.intro (pcl s m) (And.intro ⟨leR rfl, pcl_splice (by simp)⟩ ?_) | refine And.intro (neI rfl) ?_ | refine And.intro ⟨rfl, leR rfl, onesR rfl⟩ ?_ | refine And.intro ⟨rfl, leR rfl⟩ ?_ | refine draw_rule2 hfol (fun KK hKK => ?_) | refine hKK _ _ _ (by kernel_rfl) ?_ | refine region_rule (fun KK hKK => ?_) | refine hKK _ _ ?_ | refine And.intro (Eq.refl true) ?_ | refine Exists.intro _ (And.intro (wI (by omega)) ?_) | refine Exists.intro _ (And.intro (wU (by omega)) ?_) | refine Exists.intro _ (And.intro ⟨rfl, by omega⟩ ?_) | refine Exists.intro _ (And.intro rfl ?_) | refine And.intro rfl ?_ | refine And.intro ⟨rfl, rfl⟩ ?_ | ((refine And.intro (fun _ => ?_) (fun _ => ?_)) <;> try (exfalso; omega))))
  exact Exists.intro [] (And.intro rfl (And.intro trivial rfl))

theorem s_n (s : Int) (m : List Nat) : Spec Try.prog n_i_Diagram_n [.ptr 0 0] [.pc (pcl s m) T_i_Diagram] (vi s) [.pc (pcl s m) T_i_Diagram] := by
  refine SpecW.of_EV hf_i_Diagram_n hc_i_Diagram_n rfl rfl rfl fun w0 B ρ0 _ => ?_
  (repeat' (first | refine And.intro (neI rfl) ?_ | refine And.intro ⟨rfl, leR rfl, onesR rfl⟩ ?_ | refine And.intro ⟨rfl, leR rfl⟩ ?_ | refine draw_rule2 hfol (fun KK hKK => ?_) | refine hKK _ _ _ (by kernel_rfl) ?_ | refine region_rule (fun KK hKK => ?_) | refine hKK _ _ ?_ | refine And.intro (Eq.refl true) ?_ | refine Exists.intro _ (And.intro (wI (by omega)) ?_) | refine Exists.intro _ (And.intro (wU (by omega)) ?_) | refine Exists.intro _ (And.intro ⟨rfl, by omega⟩ ?_) | refine Exists.intro _ (And.intro rfl ?_) | refine And.intro rfl ?_ | refine And.intro ⟨rfl, rfl⟩ ?_ | ((refine And.intro (fun _ => ?_) (fun _ => ?_)) <;> try (exfalso; omega))))
  exact Exists.intro [0] (And.intro rfl (And.intro ⟨rfl, trivial⟩ rfl))

/-- The place on the line. -/
def plc (n i : Nat) : Nat := if i < n then i else 3 * n - 1 - i
theorem plc_lt {n i : Nat} (h : i < 2 * n) : plc n i < 2 * n := by unfold plc; split <;> omega
theorem plc_inv {n i : Nat} (h : i < 2 * n) : plc n (plc n i) = i := by
  unfold plc
  by_cases h1 : i < n
  · rw [if_pos h1, if_pos h1]
  · rw [if_neg h1, if_neg (by omega)]; omega
theorem s_place (n i : Nat) (hn : n ≤ 100) (hi : i < 2 * n) : Spec Try.prog n_s_l01Place [vi n, vi i] [] (vi (plc n i : Nat)) [] := by
  have h3 : IntKind.i64.wrap ((3 : Int) * (n : Int) - 1 - (i : Int)) = ((3 * n - 1 - i : Nat) : Int) := wC (by omega) (by omega)
  refine SpecW.of_EV hf_s_l01Place hc_s_l01Place rfl rfl rfl fun w0 B ρ0 _ => ?_
  (repeat' (first | refine Exists.intro _ (And.intro h3 ?_) | refine And.intro (neI rfl) ?_ | refine And.intro ⟨rfl, leR rfl, onesR rfl⟩ ?_ | refine And.intro ⟨rfl, leR rfl⟩ ?_ | refine draw_rule2 hfol (fun KK hKK => ?_) | refine hKK _ _ _ (by kernel_rfl) ?_ | refine region_rule (fun KK hKK => ?_) | refine hKK _ _ ?_ | refine And.intro (Eq.refl true) ?_ | refine Exists.intro _ (And.intro (wI (by omega)) ?_) | refine Exists.intro _ (And.intro (wU (by omega)) ?_) | refine Exists.intro _ (And.intro ⟨rfl, by omega⟩ ?_) | refine Exists.intro _ (And.intro rfl ?_) | refine And.intro rfl ?_ | refine And.intro ⟨rfl, rfl⟩ ?_ | ((refine And.intro (fun _ => ?_) (fun _ => ?_)) <;> try (exfalso; omega))))
  · exact finP (viR (by simp only [plc]; split <;> omega))
  · exact finP (viR (by simp only [plc]; split <;> omega))
theorem s_iplace (n i : Nat) (hn : n ≤ 100) (hi : i < 2 * n) : Spec Try.prog n_i_placeOf [vi n, vi i] [] (vi (plc n i : Nat)) [] := by
  have h3 : IntKind.i64.wrap ((3 : Int) * (n : Int) - 1 - (i : Int)) = ((3 * n - 1 - i : Nat) : Int) := wC (by omega) (by omega)
  refine SpecW.of_EV hf_i_placeOf hc_i_placeOf rfl rfl rfl fun w0 B ρ0 _ => ?_
  (repeat' (first | refine Exists.intro _ (And.intro h3 ?_) | refine And.intro (neI rfl) ?_ | refine And.intro ⟨rfl, leR rfl, onesR rfl⟩ ?_ | refine And.intro ⟨rfl, leR rfl⟩ ?_ | refine draw_rule2 hfol (fun KK hKK => ?_) | refine hKK _ _ _ (by kernel_rfl) ?_ | refine region_rule (fun KK hKK => ?_) | refine hKK _ _ ?_ | refine And.intro (Eq.refl true) ?_ | refine Exists.intro _ (And.intro (wI (by omega)) ?_) | refine Exists.intro _ (And.intro (wU (by omega)) ?_) | refine Exists.intro _ (And.intro ⟨rfl, by omega⟩ ?_) | refine Exists.intro _ (And.intro rfl ?_) | refine And.intro rfl ?_ | refine And.intro ⟨rfl, rfl⟩ ?_ | ((refine And.intro (fun _ => ?_) (fun _ => ?_)) <;> try (exfalso; omega))))
  · exact finP (viR (by simp only [plc]; split <;> omega))
  · exact finP (viR (by simp only [plc]; split <;> omega))
end Go.Proofs.Ytfglgmimnpjhoaa.VE
