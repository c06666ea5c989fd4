/- Contracts of functions of the given program, for all arguments that the contract names; see each theorem. -/
import Derived.Test.YtcibbadioijmcaaG8
set_option linter.all false
namespace Go.Proofs.Ytcibbadioijmcaa.VE
open Go
set_option maxHeartbeats 1600000
set_option maxRecDepth 100000

theorem fillg_len {α : Type} {c A : List α} {N L : Nat} (h : c.length = L) (hA : A.length = N) (hL : N ≤ L) : (c.take (0 * N) ++ A ++ c.drop (0 * N + N)).length = L := by
  simp; omega
theorem row2g {α : Type} {c A B : List α} {N : Nat} (h : c.length = 2 * N) (hA : A.length = N) (hB : B.length = N) :
    (c.take (0 * N) ++ A ++ c.drop (0 * N + N)).take (1 * N) ++ B ++ (c.take (0 * N) ++ A ++ c.drop (0 * N + N)).drop (1 * N + N) = A ++ B := by
  have e : c.take (0 * N) ++ A ++ c.drop (0 * N + N) = A ++ c.drop N := by simp
  rw [e, Nat.one_mul, List.take_append_of_le_length (by omega), List.take_of_length_le (by omega), List.drop_of_length_le (by rw [List.length_append, List.length_drop, hA, h]; omega)]
  simp
theorem mkV_len {z : Array Value} {n : Nat} : ((madeCells z n).toList.map V.raw).length = n := by rw [List.length_map, mk_len]
theorem s_alike0 (p c n p2 c2 n2 a b d : Int) (t t2 : Nat → Tm) (N N2 : Nat) :
    Spec Try.prog n_i_alike [.ptr 3 0, .ptr 2 0] [.pr T_i_Term 18 N (rowT t N), .pr T_i_Term 18 N2 (rowT t2 N2), .cr T_i_Element 4 2 (dkL p c n 0 p2 c2 n2 1), .cc [vi a, vi b, vi d, .sl 0] T_i_Element] (vb (alk a b d p c n))
      [.pr T_i_Term 18 N (rowT t N), .pr T_i_Term 18 N2 (rowT t2 N2), .cr T_i_Element 4 2 (dkL p c n 0 p2 c2 n2 1), .cc [vi a, vi b, vi d, .sl 0] T_i_Element] := by
  have hfol := hfolW
  refine SpecW.of_EV hf_i_alike hc_i_alike rfl rfl rfl fun w0 B ρ0 _ => ?_
  unfold alk
  by_cases e1 : a = p
  rotate_left
  · rw [decide_eq_false e1]
    (repeat' (first | refine And.intro (neI rfl) ?_ | refine And.intro ⟨rfl, leR rfl, onesR rfl⟩ ?_ | refine And.intro ⟨rfl, leR rfl⟩ ?_ | refine draw_rule2 hfol (fun KK hKK => ?_) | refine hKK _ _ _ (by kernel_rfl) ?_ | refine region_rule (fun KK hKK => ?_) | refine hKK _ _ ?_ | refine And.intro (Eq.refl true) ?_ | refine Exists.intro _ (And.intro (wI (by omega)) ?_) | refine Exists.intro _ (And.intro (wU (by omega)) ?_) | refine Exists.intro _ (And.intro ⟨rfl, by omega⟩ ?_) | refine Exists.intro _ (And.intro rfl ?_) | refine And.intro rfl ?_ | refine And.intro ⟨rfl, rfl⟩ ?_ | ((refine And.intro (fun _ => ?_) (fun _ => ?_)) <;> try (exfalso; omega))))
    exact Exists.intro [0,1,2,3] (And.intro (rfl) (And.intro ⟨rfl, rfl, rfl, rfl, trivial⟩ rfl))
  by_cases e2 : b = c
  rotate_left
  · rw [decide_eq_true e1, decide_eq_false e2]
    (repeat' (first | refine And.intro (neI rfl) ?_ | refine And.intro ⟨rfl, leR rfl, onesR rfl⟩ ?_ | refine And.intro ⟨rfl, leR rfl⟩ ?_ | refine draw_rule2 hfol (fun KK hKK => ?_) | refine hKK _ _ _ (by kernel_rfl) ?_ | refine region_rule (fun KK hKK => ?_) | refine hKK _ _ ?_ | refine And.intro (Eq.refl true) ?_ | refine Exists.intro _ (And.intro (wI (by omega)) ?_) | refine Exists.intro _ (And.intro (wU (by omega)) ?_) | refine Exists.intro _ (And.intro ⟨rfl, by omega⟩ ?_) | refine Exists.intro _ (And.intro rfl ?_) | refine And.intro rfl ?_ | refine And.intro ⟨rfl, rfl⟩ ?_ | ((refine And.intro (fun _ => ?_) (fun _ => ?_)) <;> try (exfalso; omega))))
    exact Exists.intro [0,1,2,3] (And.intro (rfl) (And.intro ⟨rfl, rfl, rfl, rfl, trivial⟩ rfl))
  by_cases e3 : d = n
  rotate_left
  · rw [decide_eq_true e1, decide_eq_true e2, decide_eq_false e3]
    (repeat' (first | refine And.intro (neI rfl) ?_ | refine And.intro ⟨rfl, leR rfl, onesR rfl⟩ ?_ | refine And.intro ⟨rfl, leR rfl⟩ ?_ | refine draw_rule2 hfol (fun KK hKK => ?_) | refine hKK _ _ _ (by kernel_rfl) ?_ | refine region_rule (fun KK hKK => ?_) | refine hKK _ _ ?_ | refine And.intro (Eq.refl true) ?_ | refine Exists.intro _ (And.intro (wI (by omega)) ?_) | refine Exists.intro _ (And.intro (wU (by omega)) ?_) | refine Exists.intro _ (And.intro ⟨rfl, by omega⟩ ?_) | refine Exists.intro _ (And.intro rfl ?_) | refine And.intro rfl ?_ | refine And.intro ⟨rfl, rfl⟩ ?_ | ((refine And.intro (fun _ => ?_) (fun _ => ?_)) <;> try (exfalso; omega))))
    exact Exists.intro [0,1,2,3] (And.intro (rfl) (And.intro ⟨rfl, rfl, rfl, rfl, trivial⟩ rfl))
  rw [decide_eq_true e1, decide_eq_true e2, decide_eq_true e3]
  (repeat' (first | refine And.intro (neI rfl) ?_ | refine And.intro ⟨rfl, leR rfl, onesR rfl⟩ ?_ | refine And.intro ⟨rfl, leR rfl⟩ ?_ | refine draw_rule2 hfol (fun KK hKK => ?_) | refine hKK _ _ _ (by kernel_rfl) ?_ | refine region_rule (fun KK hKK => ?_) | refine hKK _ _ ?_ | refine And.intro (Eq.refl true) ?_ | refine Exists.intro _ (And.intro (wI (by omega)) ?_) | refine Exists.intro _ (And.intro (wU (by omega)) ?_) | refine Exists.intro _ (And.intro ⟨rfl, by omega⟩ ?_) | refine Exists.intro _ (And.intro rfl ?_) | refine And.intro rfl ?_ | refine And.intro ⟨rfl, rfl⟩ ?_ | ((refine And.intro (fun _ => ?_) (fun _ => ?_)) <;> try (exfalso; omega))))
  exact Exists.intro [0,1,2,3] (And.intro (rfl) (And.intro ⟨rfl, rfl, rfl, rfl, trivial⟩ rfl))
theorem s_alike1 (p c n p2 c2 n2 a b d : Int) (t t2 : Nat → Tm) (N N2 : Nat) :
    Spec Try.prog n_i_alike [.ptr 3 0, .ptr 2 0] [.pr T_i_Term 18 N (rowT t N), .pr T_i_Term 18 N2 (rowT t2 N2), .cr T_i_Element 4 2 (dkL p c n 0 p2 c2 n2 1), .cc [vi a, vi b, vi d, .sl 1] T_i_Element] (vb (alk a b d p c n))
      [.pr T_i_Term 18 N (rowT t N), .pr T_i_Term 18 N2 (rowT t2 N2), .cr T_i_Element 4 2 (dkL p c n 0 p2 c2 n2 1), .cc [vi a, vi b, vi d, .sl 1] T_i_Element] := by
  have hfol := hfolW
  refine SpecW.of_EV hf_i_alike hc_i_alike rfl rfl rfl fun w0 B ρ0 _ => ?_
  unfold alk
  by_cases e1 : a = p
  rotate_left
  · rw [decide_eq_false e1]
    (repeat' (first | refine And.intro (neI rfl) ?_ | refine And.intro ⟨rfl, leR rfl, onesR rfl⟩ ?_ | refine And.intro ⟨rfl, leR rfl⟩ ?_ | refine draw_rule2 hfol (fun KK hKK => ?_) | refine hKK _ _ _ (by kernel_rfl) ?_ | refine region_rule (fun KK hKK => ?_) | refine hKK _ _ ?_ | refine And.intro (Eq.refl true) ?_ | refine Exists.intro _ (And.intro (wI (by omega)) ?_) | refine Exists.intro _ (And.intro (wU (by omega)) ?_) | refine Exists.intro _ (And.intro ⟨rfl, by omega⟩ ?_) | refine Exists.intro _ (And.intro rfl ?_) | refine And.intro rfl ?_ | refine And.intro ⟨rfl, rfl⟩ ?_ | ((refine And.intro (fun _ => ?_) (fun _ => ?_)) <;> try (exfalso; omega))))
    exact Exists.intro [0,1,2,3] (And.intro (rfl) (And.intro ⟨rfl, rfl, rfl, rfl, trivial⟩ rfl))
  by_cases e2 : b = c
  rotate_left
  · rw [decide_eq_true e1, decide_eq_false e2]
    (repeat' (first | refine And.intro (neI rfl) ?_ | refine And.intro ⟨rfl, leR rfl, onesR rfl⟩ ?_ | refine And.intro ⟨rfl, leR rfl⟩ ?_ | refine draw_rule2 hfol (fun KK hKK => ?_) | refine hKK _ _ _ (by kernel_rfl) ?_ | refine region_rule (fun KK hKK => ?_) | refine hKK _ _ ?_ | refine And.intro (Eq.refl true) ?_ | refine Exists.intro _ (And.intro (wI (by omega)) ?_) | refine Exists.intro _ (And.intro (wU (by omega)) ?_) | refine Exists.intro _ (And.intro ⟨rfl, by omega⟩ ?_) | refine Exists.intro _ (And.intro rfl ?_) | refine And.intro rfl ?_ | refine And.intro ⟨rfl, rfl⟩ ?_ | ((refine And.intro (fun _ => ?_) (fun _ => ?_)) <;> try (exfalso; omega))))
    exact Exists.intro [0,1,2,3] (And.intro (rfl) (And.intro ⟨rfl, rfl, rfl, rfl, trivial⟩ rfl))
  by_cases e3 : d = n
  rotate_left
  · rw [decide_eq_true e1, decide_eq_true e2, decide_eq_false e3]
    (repeat' (first | refine And.intro (neI rfl) ?_ | refine And.intro ⟨rfl, leR rfl, onesR rfl⟩ ?_ | refine And.intro ⟨rfl, leR rfl⟩ ?_ | refine draw_rule2 hfol (fun KK hKK => ?_) | refine hKK _ _ _ (by kernel_rfl) ?_ | refine region_rule (fun KK hKK => ?_) | refine hKK _ _ ?_ | refine And.intro (Eq.refl true) ?_ | refine Exists.intro _ (And.intro (wI (by omega)) ?_) | refine Exists.intro _ (And.intro (wU (by omega)) ?_) | refine Exists.intro _ (And.intro ⟨rfl, by omega⟩ ?_) | refine Exists.intro _ (And.intro rfl ?_) | refine And.intro rfl ?_ | refine And.intro ⟨rfl, rfl⟩ ?_ | ((refine And.intro (fun _ => ?_) (fun _ => ?_)) <;> try (exfalso; omega))))
    exact Exists.intro [0,1,2,3] (And.intro (rfl) (And.intro ⟨rfl, rfl, rfl, rfl, trivial⟩ rfl))
  rw [decide_eq_true e1, decide_eq_true e2, decide_eq_true e3]
  (repeat' (first | refine And.intro (neI rfl) ?_ | refine And.intro ⟨rfl, leR rfl, onesR rfl⟩ ?_ | refine And.intro ⟨rfl, leR rfl⟩ ?_ | refine draw_rule2 hfol (fun KK hKK => ?_) | refine hKK _ _ _ (by kernel_rfl) ?_ | refine region_rule (fun KK hKK => ?_) | refine hKK _ _ ?_ | refine And.intro (Eq.refl true) ?_ | refine Exists.intro _ (And.intro (wI (by omega)) ?_) | refine Exists.intro _ (And.intro (wU (by omega)) ?_) | refine Exists.intro _ (And.intro ⟨rfl, by omega⟩ ?_) | refine Exists.intro _ (And.intro rfl ?_) | refine And.intro rfl ?_ | refine And.intro ⟨rfl, rfl⟩ ?_ | ((refine And.intro (fun _ => ?_) (fun _ => ?_)) <;> try (exfalso; omega))))
  exact Exists.intro [0,1,2,3] (And.intro (rfl) (And.intro ⟨rfl, rfl, rfl, rfl, trivial⟩ rfl))
theorem s_wrong (p c n p2 c2 n2 : Int) (t t2 : Nat → Tm) (N N2 : Nat) (hs : okTs t N) (hb : okTb t N) (hs2 : okTs t2 N2) (hb2 : okTb t2 N2) :
    Spec Try.prog n_i_wrong [.sl 2] [.pr T_i_Term 18 N (rowT t N), .pr T_i_Term 18 N2 (rowT t2 N2), .cr T_i_Element 4 2 (dkL p c n 0 p2 c2 n2 1)] (vi (wrR2 p c n t N p2 c2 n2 t2 N2)) [.pr T_i_Term 18 N (rowT t N), .pr T_i_Term 18 N2 (rowT t2 N2), .cr T_i_Element 4 2 (dkL p c n 0 p2 c2 n2 1)] := by
  refine SpecW.of_EV hf_i_wrong hc_i_wrong rfl rfl rfl fun w0 B ρ0 _ => ?_
  have h1 := s_iIsE p c n t N hs hb
  have h2 := s_iIsE p2 c2 n2 t2 N2 hs2 hb2
  unfold wrR2
  generalize isE p c n t N = a at h1 ⊢
  generalize isE p2 c2 n2 t2 N2 = b at h2 ⊢
  (repeat' (first | refine And.intro (neI rfl) ?_ | refine And.intro ⟨rfl, leR rfl, onesR rfl⟩ ?_ | refine And.intro ⟨rfl, leR rfl⟩ ?_ | refine draw_rule2 hfol (fun KK hKK => ?_) | refine hKK _ _ _ (by kernel_rfl) ?_ | refine region_rule (fun KK hKK => ?_) | refine hKK _ _ ?_ | refine And.intro (Eq.refl true) ?_ | refine Exists.intro _ (And.intro (wI (by omega)) ?_) | refine Exists.intro _ (And.intro (wU (by omega)) ?_) | refine Exists.intro _ (And.intro ⟨rfl, by omega⟩ ?_) | refine Exists.intro _ (And.intro rfl ?_) | refine And.intro rfl ?_ | refine And.intro ⟨rfl, rfl⟩ ?_ | ((refine And.intro (fun _ => ?_) (fun _ => ?_)) <;> try (exfalso; omega))))
  refine loop_rule (α := Nat) (fun k => k ≤ 2 ∧ (1 ≤ k → a = true) ∧ (2 ≤ k → b = true)) (fun k => [(0, .sl 2), (7, .sl 2), (8, vi 2), (9, vi k)])
    (fun _ => [.pr T_i_Term 18 N (rowT t N), .pr T_i_Term 18 N2 (rowT t2 N2), .cr T_i_Element 4 2 (dkL p c n 0 p2 c2 n2 1)]) (fun k => 2 - k) 0 [0, 1, 2]
    ⟨by omega, by omega, by omega⟩ ⟨⟨rfl, rfl, rfl, rfl, trivial⟩, ⟨rfl, rfl, rfl, trivial⟩, rfl⟩ ?_
  rintro k g ⟨hk, ha, hb'⟩
  match k, hk, ha, hb' with
  | 0, _, _, _ =>
    cases a
    · (repeat' (first | refine Exists.intro [vi p, vi c, vi n, .sl 0] (And.intro ⟨rfl, rfl⟩ ?_) | refine And.intro ⟨rfl, leR rfl, rfl⟩ ?_ | refine Exists.intro [vi p, vi c, vi n, .sl 0] (And.intro ⟨leR rfl, rfl⟩ ?_) | refine (h1).read [0] rfl ⟨rfl, trivial⟩ ?_ | refine And.intro (neI rfl) ?_ | refine And.intro ⟨rfl, leR rfl, onesR rfl⟩ ?_ | refine And.intro ⟨rfl, leR rfl⟩ ?_ | refine draw_rule2 hfol (fun KK hKK => ?_) | refine hKK _ _ _ (by kernel_rfl) ?_ | refine region_rule (fun KK hKK => ?_) | refine hKK _ _ ?_ | refine And.intro (Eq.refl true) ?_ | refine Exists.intro _ (And.intro (wI (by omega)) ?_) | refine Exists.intro _ (And.intro (wU (by omega)) ?_) | refine Exists.intro _ (And.intro ⟨rfl, by omega⟩ ?_) | refine Exists.intro _ (And.intro rfl ?_) | refine And.intro rfl ?_ | refine And.intro ⟨rfl, rfl⟩ ?_ | ((refine And.intro (fun _ => ?_) (fun _ => ?_)) <;> try (exfalso; omega))))
      exact Exists.intro [0,1,2] (And.intro (rfl) (And.intro ⟨rfl, rfl, rfl, trivial⟩ rfl))
    · (repeat' (first | refine Exists.intro [vi p, vi c, vi n, .sl 0] (And.intro ⟨rfl, rfl⟩ ?_) | refine And.intro ⟨rfl, leR rfl, rfl⟩ ?_ | refine Exists.intro [vi p, vi c, vi n, .sl 0] (And.intro ⟨leR rfl, rfl⟩ ?_) | refine (h1).read [0] rfl ⟨rfl, trivial⟩ ?_ | refine And.intro (neI rfl) ?_ | refine And.intro ⟨rfl, leR rfl, onesR rfl⟩ ?_ | refine And.intro ⟨rfl, leR rfl⟩ ?_ | refine draw_rule2 hfol (fun KK hKK => ?_) | refine hKK _ _ _ (by kernel_rfl) ?_ | refine region_rule (fun KK hKK => ?_) | refine hKK _ _ ?_ | refine And.intro (Eq.refl true) ?_ | refine Exists.intro _ (And.intro (wI (by omega)) ?_) | refine Exists.intro _ (And.intro (wU (by omega)) ?_) | refine Exists.intro _ (And.intro ⟨rfl, by omega⟩ ?_) | refine Exists.intro _ (And.intro rfl ?_) | refine And.intro rfl ?_ | refine And.intro ⟨rfl, rfl⟩ ?_ | ((refine And.intro (fun _ => ?_) (fun _ => ?_)) <;> try (exfalso; omega))))
      refine Exists.intro 1 (Exists.intro [0, 1, 2] (And.intro ⟨⟨by omega, fun _ => rfl, fun h => absurd h (by omega)⟩, (by show 2 - 1 < 2 - 0; omega)⟩ ⟨⟨rfl, rfl, rfl, rfl, trivial⟩, ⟨rfl, rfl, rfl, trivial⟩, rfl⟩))
  | 1, _, ha, _ =>
    obtain rfl := ha (by omega)
    cases b
    · (repeat' (first | refine Exists.intro [vi p2, vi c2, vi n2, .sl 1] (And.intro ⟨rfl, rfl⟩ ?_) | refine And.intro ⟨rfl, leR rfl, rfl⟩ ?_ | refine Exists.intro [vi p2, vi c2, vi n2, .sl 1] (And.intro ⟨leR rfl, rfl⟩ ?_) | refine (h2).read [1] rfl ⟨rfl, trivial⟩ ?_ | refine And.intro (neI rfl) ?_ | refine And.intro ⟨rfl, leR rfl, onesR rfl⟩ ?_ | refine And.intro ⟨rfl, leR rfl⟩ ?_ | refine draw_rule2 hfol (fun KK hKK => ?_) | refine hKK _ _ _ (by kernel_rfl) ?_ | refine region_rule (fun KK hKK => ?_) | refine hKK _ _ ?_ | refine And.intro (Eq.refl true) ?_ | refine Exists.intro _ (And.intro (wI (by omega)) ?_) | refine Exists.intro _ (And.intro (wU (by omega)) ?_) | refine Exists.intro _ (And.intro ⟨rfl, by omega⟩ ?_) | refine Exists.intro _ (And.intro rfl ?_) | refine And.intro rfl ?_ | refine And.intro ⟨rfl, rfl⟩ ?_ | ((refine And.intro (fun _ => ?_) (fun _ => ?_)) <;> try (exfalso; omega))))
      exact Exists.intro [0,1,2] (And.intro (rfl) (And.intro ⟨rfl, rfl, rfl, trivial⟩ rfl))
    · (repeat' (first | refine Exists.intro [vi p2, vi c2, vi n2, .sl 1] (And.intro ⟨rfl, rfl⟩ ?_) | refine And.intro ⟨rfl, leR rfl, rfl⟩ ?_ | refine Exists.intro [vi p2, vi c2, vi n2, .sl 1] (And.intro ⟨leR rfl, rfl⟩ ?_) | refine (h2).read [1] rfl ⟨rfl, trivial⟩ ?_ | refine And.intro (neI rfl) ?_ | refine And.intro ⟨rfl, leR rfl, onesR rfl⟩ ?_ | refine And.intro ⟨rfl, leR rfl⟩ ?_ | refine draw_rule2 hfol (fun KK hKK => ?_) | refine hKK _ _ _ (by kernel_rfl) ?_ | refine region_rule (fun KK hKK => ?_) | refine hKK _ _ ?_ | refine And.intro (Eq.refl true) ?_ | refine Exists.intro _ (And.intro (wI (by omega)) ?_) | refine Exists.intro _ (And.intro (wU (by omega)) ?_) | refine Exists.intro _ (And.intro ⟨rfl, by omega⟩ ?_) | refine Exists.intro _ (And.intro rfl ?_) | refine And.intro rfl ?_ | refine And.intro ⟨rfl, rfl⟩ ?_ | ((refine And.intro (fun _ => ?_) (fun _ => ?_)) <;> try (exfalso; omega))))
      refine Exists.intro 2 (Exists.intro [0, 1, 2] (And.intro ⟨⟨by omega, fun _ => rfl, fun _ => rfl⟩, (by show 2 - 2 < 2 - 1; omega)⟩ ⟨⟨rfl, rfl, rfl, rfl, trivial⟩, ⟨rfl, rfl, rfl, trivial⟩, rfl⟩))
  | 2, _, ha, hb' =>
    obtain rfl := ha (by omega)
    obtain rfl := hb' (by omega)
    (repeat' (first | refine And.intro (neI rfl) ?_ | refine And.intro ⟨rfl, leR rfl, onesR rfl⟩ ?_ | refine And.intro ⟨rfl, leR rfl⟩ ?_ | refine draw_rule2 hfol (fun KK hKK => ?_) | refine hKK _ _ _ (by kernel_rfl) ?_ | refine region_rule (fun KK hKK => ?_) | refine hKK _ _ ?_ | refine And.intro (Eq.refl true) ?_ | refine Exists.intro _ (And.intro (wI (by omega)) ?_) | refine Exists.intro _ (And.intro (wU (by omega)) ?_) | refine Exists.intro _ (And.intro ⟨rfl, by omega⟩ ?_) | refine Exists.intro _ (And.intro rfl ?_) | refine And.intro rfl ?_ | refine And.intro ⟨rfl, rfl⟩ ?_ | ((refine And.intro (fun _ => ?_) (fun _ => ?_)) <;> try (exfalso; omega))))
    refine loop_rule (α := Nat) (fun k => k ≤ 2 ∧ (2 ≤ k → alk p c n p2 c2 n2 = true)) (fun k => [(0, .sl 2), (17, .sl 2), (18, vi 2), (19, vi k)])
      (fun _ => [.pr T_i_Term 18 N (rowT t N), .pr T_i_Term 18 N2 (rowT t2 N2), .cr T_i_Element 4 2 (dkL p c n 0 p2 c2 n2 1)]) (fun k => 2 - k) 0 [0, 1, 2]
      ⟨by omega, by omega⟩ ⟨⟨rfl, rfl, rfl, rfl, trivial⟩, ⟨rfl, rfl, rfl, trivial⟩, rfl⟩ ?_
    rintro k g ⟨hk, ha⟩
    match k, hk, ha with
    | 0, _, _ =>
      have ha := s_alike0 p c n p2 c2 n2 p c n t t2 N N2
      have hs : alk p c n p c n = true := by simp [alk]
      rw [hs] at ha
      (repeat' (first | refine Exists.intro [vi p, vi c, vi n, .sl 0] (And.intro ⟨rfl, rfl⟩ ?_) | refine And.intro ⟨rfl, leR rfl, rfl⟩ ?_ | refine Exists.intro [vi p, vi c, vi n, .sl 0] (And.intro ⟨leR rfl, rfl⟩ ?_) | refine Exists.intro 0 (And.intro ⟨rfl, leR rfl⟩ ?_) | refine (ha).read [0,1,2,3] rfl ⟨rfl, rfl, rfl, rfl, trivial⟩ ?_ | refine And.intro (neI rfl) ?_ | refine And.intro ⟨rfl, leR rfl, onesR rfl⟩ ?_ | refine And.intro ⟨rfl, leR rfl⟩ ?_ | refine draw_rule2 hfol (fun KK hKK => ?_) | refine hKK _ _ _ (by kernel_rfl) ?_ | refine region_rule (fun KK hKK => ?_) | refine hKK _ _ ?_ | refine And.intro (Eq.refl true) ?_ | refine Exists.intro _ (And.intro (wI (by omega)) ?_) | refine Exists.intro _ (And.intro (wU (by omega)) ?_) | refine Exists.intro _ (And.intro ⟨rfl, by omega⟩ ?_) | refine Exists.intro _ (And.intro rfl ?_) | refine And.intro rfl ?_ | refine And.intro ⟨rfl, rfl⟩ ?_ | ((refine And.intro (fun _ => ?_) (fun _ => ?_)) <;> try (exfalso; omega))))
      refine Exists.intro 1 (Exists.intro [0, 1, 2] (And.intro ⟨⟨by omega, fun h => absurd h (by omega)⟩, (by show 2 - 1 < 2 - 0; omega)⟩ ⟨⟨rfl, rfl, rfl, rfl, trivial⟩, ⟨rfl, rfl, rfl, trivial⟩, rfl⟩))
    | 1, _, ha =>
      have ha := s_alike1 p c n p2 c2 n2 p2 c2 n2 t t2 N N2
      have hs : alk p2 c2 n2 p c n = alk p c n p2 c2 n2 := by
        unfold alk
        rw [decide_eq_decide.2 (show p2 = p ↔ p = p2 from eq_comm), decide_eq_decide.2 (show c2 = c ↔ c = c2 from eq_comm), decide_eq_decide.2 (show n2 = n ↔ n = n2 from eq_comm)]
      rw [hs] at ha
      generalize alk p c n p2 c2 n2 = q at ha ⊢
      cases q
      · (repeat' (first | refine Exists.intro [vi p2, vi c2, vi n2, .sl 1] (And.intro ⟨rfl, rfl⟩ ?_) | refine And.intro ⟨rfl, leR rfl, rfl⟩ ?_ | refine Exists.intro [vi p2, vi c2, vi n2, .sl 1] (And.intro ⟨leR rfl, rfl⟩ ?_) | refine Exists.intro 0 (And.intro ⟨rfl, leR rfl⟩ ?_) | refine (ha).read [0,1,2,3] rfl ⟨rfl, rfl, rfl, rfl, trivial⟩ ?_ | refine And.intro (neI rfl) ?_ | refine And.intro ⟨rfl, leR rfl, onesR rfl⟩ ?_ | refine And.intro ⟨rfl, leR rfl⟩ ?_ | refine draw_rule2 hfol (fun KK hKK => ?_) | refine hKK _ _ _ (by kernel_rfl) ?_ | refine region_rule (fun KK hKK => ?_) | refine hKK _ _ ?_ | refine And.intro (Eq.refl true) ?_ | refine Exists.intro _ (And.intro (wI (by omega)) ?_) | refine Exists.intro _ (And.intro (wU (by omega)) ?_) | refine Exists.intro _ (And.intro ⟨rfl, by omega⟩ ?_) | refine Exists.intro _ (And.intro rfl ?_) | refine And.intro rfl ?_ | refine And.intro ⟨rfl, rfl⟩ ?_ | ((refine And.intro (fun _ => ?_) (fun _ => ?_)) <;> try (exfalso; omega))))
        exact Exists.intro [0,1,2] (And.intro (rfl) (And.intro ⟨rfl, rfl, rfl, trivial⟩ rfl))
      · (repeat' (first | refine Exists.intro [vi p2, vi c2, vi n2, .sl 1] (And.intro ⟨rfl, rfl⟩ ?_) | refine And.intro ⟨rfl, leR rfl, rfl⟩ ?_ | refine Exists.intro [vi p2, vi c2, vi n2, .sl 1] (And.intro ⟨leR rfl, rfl⟩ ?_) | refine Exists.intro 0 (And.intro ⟨rfl, leR rfl⟩ ?_) | refine (ha).read [0,1,2,3] rfl ⟨rfl, rfl, rfl, rfl, trivial⟩ ?_ | refine And.intro (neI rfl) ?_ | refine And.intro ⟨rfl, leR rfl, onesR rfl⟩ ?_ | refine And.intro ⟨rfl, leR rfl⟩ ?_ | refine draw_rule2 hfol (fun KK hKK => ?_) | refine hKK _ _ _ (by kernel_rfl) ?_ | refine region_rule (fun KK hKK => ?_) | refine hKK _ _ ?_ | refine And.intro (Eq.refl true) ?_ | refine Exists.intro _ (And.intro (wI (by omega)) ?_) | refine Exists.intro _ (And.intro (wU (by omega)) ?_) | refine Exists.intro _ (And.intro ⟨rfl, by omega⟩ ?_) | refine Exists.intro _ (And.intro rfl ?_) | refine And.intro rfl ?_ | refine And.intro ⟨rfl, rfl⟩ ?_ | ((refine And.intro (fun _ => ?_) (fun _ => ?_)) <;> try (exfalso; omega))))
        refine Exists.intro 2 (Exists.intro [0, 1, 2] (And.intro ⟨⟨by omega, fun _ => rfl⟩, (by show 2 - 2 < 2 - 1; omega)⟩ ⟨⟨rfl, rfl, rfl, rfl, trivial⟩, ⟨rfl, rfl, rfl, trivial⟩, rfl⟩))
    | 2, _, ha =>
      rw [ha (by omega)]
      (repeat' (first | refine And.intro (neI rfl) ?_ | refine And.intro ⟨rfl, leR rfl, onesR rfl⟩ ?_ | refine And.intro ⟨rfl, leR rfl⟩ ?_ | refine draw_rule2 hfol (fun KK hKK => ?_) | refine hKK _ _ _ (by kernel_rfl) ?_ | refine region_rule (fun KK hKK => ?_) | refine hKK _ _ ?_ | refine And.intro (Eq.refl true) ?_ | refine Exists.intro _ (And.intro (wI (by omega)) ?_) | refine Exists.intro _ (And.intro (wU (by omega)) ?_) | refine Exists.intro _ (And.intro ⟨rfl, by omega⟩ ?_) | refine Exists.intro _ (And.intro rfl ?_) | refine And.intro rfl ?_ | refine And.intro ⟨rfl, rfl⟩ ?_ | ((refine And.intro (fun _ => ?_) (fun _ => ?_)) <;> try (exfalso; omega))))
      exact Exists.intro [0,1,2] (And.intro (rfl) (And.intro ⟨rfl, rfl, rfl, trivial⟩ rfl))
theorem s_isDk (p c n p2 c2 n2 : Int) (t t2 : Nat → Tm) (N N2 : Nat) (hs : okTs t N) (hb : okTb t N) (hs2 : okTs t2 N2) (hb2 : okTb t2 N2) :
    Spec Try.prog n_i_IsDesk [dkV p c n 0 p2 c2 n2 1] [.pr T_i_Term 18 N (rowT t N), .pr T_i_Term 18 N2 (rowT t2 N2)] (vb (decide (wrR2 p c n t N p2 c2 n2 t2 N2 = 0))) [.pr T_i_Term 18 N (rowT t N), .pr T_i_Term 18 N2 (rowT t2 N2)] := by
  refine SpecW.of_EV hf_i_IsDesk hc_i_IsDesk rfl rfl rfl fun w0 B ρ0 _ => ?_
  have h := s_wrong p c n p2 c2 n2 t t2 N N2 hs hb hs2 hb2
  generalize wrR2 p c n t N p2 c2 n2 t2 N2 = q at h ⊢
  by_cases hq : q = 0
  · rw [decide_eq_true hq]
    (repeat' (first | refine Exists.intro [vi p, vi c, vi n, .sl 0] (And.intro ⟨rfl, rfl⟩ ?_) | refine And.intro ⟨rfl, leR rfl, rfl⟩ ?_ | refine Exists.intro [vi p, vi c, vi n, .sl 0] (And.intro ⟨leR rfl, rfl⟩ ?_) | refine Exists.intro [vi p2, vi c2, vi n2, .sl 1] (And.intro ⟨rfl, rfl⟩ ?_) | refine And.intro ⟨rfl, leR rfl, rfl⟩ ?_ | refine Exists.intro [vi p2, vi c2, vi n2, .sl 1] (And.intro ⟨leR rfl, rfl⟩ ?_) | refine And.intro ⟨rfl, Nat.le_trans (leR rfl) (Nat.le_of_eq mkV_len.symm)⟩ ?_ | refine And.intro ⟨rfl, Nat.le_of_eq (fillg_len (N := 4) (L := 8) mkV_len rfl (leR rfl)).symm⟩ ?_ | refine Exists.intro (dkL p c n 0 p2 c2 n2 1) (And.intro (row2g (N := 4) mkV_len rfl rfl) ?_) | refine (h).read [0,1,3] rfl ⟨rfl, rfl, rfl, trivial⟩ ?_ | refine And.intro (neI rfl) ?_ | refine And.intro ⟨rfl, leR rfl, onesR rfl⟩ ?_ | refine And.intro ⟨rfl, leR rfl⟩ ?_ | refine draw_rule2 hfol (fun KK hKK => ?_) | refine hKK _ _ _ (by kernel_rfl) ?_ | refine region_rule (fun KK hKK => ?_) | refine hKK _ _ ?_ | refine And.intro (Eq.refl true) ?_ | refine Exists.intro _ (And.intro (wI (by omega)) ?_) | refine Exists.intro _ (And.intro (wU (by omega)) ?_) | refine Exists.intro _ (And.intro ⟨rfl, by omega⟩ ?_) | refine Exists.intro _ (And.intro rfl ?_) | refine And.intro rfl ?_ | refine And.intro ⟨rfl, rfl⟩ ?_ | ((refine And.intro (fun _ => ?_) (fun _ => ?_)) <;> try (exfalso; omega))))
    exact Exists.intro [0,1] (And.intro (rfl) (And.intro ⟨rfl, rfl, trivial⟩ rfl))
  · rw [decide_eq_false hq]
    (repeat' (first | refine Exists.intro [vi p, vi c, vi n, .sl 0] (And.intro ⟨rfl, rfl⟩ ?_) | refine And.intro ⟨rfl, leR rfl, rfl⟩ ?_ | refine Exists.intro [vi p, vi c, vi n, .sl 0] (And.intro ⟨leR rfl, rfl⟩ ?_) | refine Exists.intro [vi p2, vi c2, vi n2, .sl 1] (And.intro ⟨rfl, rfl⟩ ?_) | refine And.intro ⟨rfl, leR rfl, rfl⟩ ?_ | refine Exists.intro [vi p2, vi c2, vi n2, .sl 1] (And.intro ⟨leR rfl, rfl⟩ ?_) | refine And.intro ⟨rfl, Nat.le_trans (leR rfl) (Nat.le_of_eq mkV_len.symm)⟩ ?_ | refine And.intro ⟨rfl, Nat.le_of_eq (fillg_len (N := 4) (L := 8) mkV_len rfl (leR rfl)).symm⟩ ?_ | refine Exists.intro (dkL p c n 0 p2 c2 n2 1) (And.intro (row2g (N := 4) mkV_len rfl rfl) ?_) | refine (h).read [0,1,3] rfl ⟨rfl, rfl, rfl, trivial⟩ ?_ | refine And.intro (neI rfl) ?_ | refine And.intro ⟨rfl, leR rfl, onesR rfl⟩ ?_ | refine And.intro ⟨rfl, leR rfl⟩ ?_ | refine draw_rule2 hfol (fun KK hKK => ?_) | refine hKK _ _ _ (by kernel_rfl) ?_ | refine region_rule (fun KK hKK => ?_) | refine hKK _ _ ?_ | refine And.intro (Eq.refl true) ?_ | refine Exists.intro _ (And.intro (wI (by omega)) ?_) | refine Exists.intro _ (And.intro (wU (by omega)) ?_) | refine Exists.intro _ (And.intro ⟨rfl, by omega⟩ ?_) | refine Exists.intro _ (And.intro rfl ?_) | refine And.intro rfl ?_ | refine And.intro ⟨rfl, rfl⟩ ?_ | ((refine And.intro (fun _ => ?_) (fun _ => ?_)) <;> try (exfalso; omega))))
    exact Exists.intro [0,1] (And.intro (rfl) (And.intro ⟨rfl, rfl, trivial⟩ rfl))
theorem s_sDk (p c n p2 c2 n2 : Int) (t t2 : Nat → Tm) (N N2 : Nat) (hs : okTs t N) (hb : okTb t N) (hs2 : okTs t2 N2) (hb2 : okTb t2 N2) :
    Spec Try.prog n_s_IsDesk [dkV p c n 0 p2 c2 n2 1] [.pr T_i_Term 18 N (rowT t N), .pr T_i_Term 18 N2 (rowT t2 N2)] (vb (decide (wrR2 p c n t N p2 c2 n2 t2 N2 = 0))) [.pr T_i_Term 18 N (rowT t N), .pr T_i_Term 18 N2 (rowT t2 N2)] := by
  refine SpecW.of_EV hf_s_IsDesk hc_s_IsDesk rfl rfl rfl fun w0 B ρ0 _ => ?_
  have h := s_both p c n p2 c2 n2 t t2 N N2 hs hb hs2 hb2
  generalize wrR2 p c n t N p2 c2 n2 t2 N2 = q at h ⊢
  by_cases hq : q = 0
  · rw [decide_eq_true hq]
    (repeat' (first | refine Exists.intro [vi p, vi c, vi n, .sl 0] (And.intro ⟨rfl, rfl⟩ ?_) | refine And.intro ⟨rfl, leR rfl, rfl⟩ ?_ | refine Exists.intro [vi p, vi c, vi n, .sl 0] (And.intro ⟨leR rfl, rfl⟩ ?_) | refine Exists.intro [vi p2, vi c2, vi n2, .sl 1] (And.intro ⟨rfl, rfl⟩ ?_) | refine And.intro ⟨rfl, leR rfl, rfl⟩ ?_ | refine Exists.intro [vi p2, vi c2, vi n2, .sl 1] (And.intro ⟨leR rfl, rfl⟩ ?_) | refine (h).read [0,1] rfl ⟨rfl, rfl, trivial⟩ ?_ | refine And.intro (neI rfl) ?_ | refine And.intro ⟨rfl, leR rfl, onesR rfl⟩ ?_ | refine And.intro ⟨rfl, leR rfl⟩ ?_ | refine draw_rule2 hfol (fun KK hKK => ?_) | refine hKK _ _ _ (by kernel_rfl) ?_ | refine region_rule (fun KK hKK => ?_) | refine hKK _ _ ?_ | refine And.intro (Eq.refl true) ?_ | refine Exists.intro _ (And.intro (wI (by omega)) ?_) | refine Exists.intro _ (And.intro (wU (by omega)) ?_) | refine Exists.intro _ (And.intro ⟨rfl, by omega⟩ ?_) | refine Exists.intro _ (And.intro rfl ?_) | refine And.intro rfl ?_ | refine And.intro ⟨rfl, rfl⟩ ?_ | ((refine And.intro (fun _ => ?_) (fun _ => ?_)) <;> try (exfalso; omega))))
    exact Exists.intro [0,1] (And.intro (rfl) (And.intro ⟨rfl, rfl, trivial⟩ rfl))
  · rw [decide_eq_false hq]
    (repeat' (first | refine Exists.intro [vi p, vi c, vi n, .sl 0] (And.intro ⟨rfl, rfl⟩ ?_) | refine And.intro ⟨rfl, leR rfl, rfl⟩ ?_ | refine Exists.intro [vi p, vi c, vi n, .sl 0] (And.intro ⟨leR rfl, rfl⟩ ?_) | refine Exists.intro [vi p2, vi c2, vi n2, .sl 1] (And.intro ⟨rfl, rfl⟩ ?_) | refine And.intro ⟨rfl, leR rfl, rfl⟩ ?_ | refine Exists.intro [vi p2, vi c2, vi n2, .sl 1] (And.intro ⟨leR rfl, rfl⟩ ?_) | refine (h).read [0,1] rfl ⟨rfl, rfl, trivial⟩ ?_ | refine And.intro (neI rfl) ?_ | refine And.intro ⟨rfl, leR rfl, onesR rfl⟩ ?_ | refine And.intro ⟨rfl, leR rfl⟩ ?_ | refine draw_rule2 hfol (fun KK hKK => ?_) | refine hKK _ _ _ (by kernel_rfl) ?_ | refine region_rule (fun KK hKK => ?_) | refine hKK _ _ ?_ | refine And.intro (Eq.refl true) ?_ | refine Exists.intro _ (And.intro (wI (by omega)) ?_) | refine Exists.intro _ (And.intro (wU (by omega)) ?_) | refine Exists.intro _ (And.intro ⟨rfl, by omega⟩ ?_) | refine Exists.intro _ (And.intro rfl ?_) | refine And.intro rfl ?_ | refine And.intro ⟨rfl, rfl⟩ ?_ | ((refine And.intro (fun _ => ?_) (fun _ => ?_)) <;> try (exfalso; omega))))
    exact Exists.intro [0,1] (And.intro (rfl) (And.intro ⟨rfl, rfl, trivial⟩ rfl))
theorem s_lawDesk {W W2 : World → (Nat → Prop) → Prop} {v v2 : Value} {t t2 : Nat → Tm} {N N2 : Nat} (p c n p2 c2 n2 : Int) (h : ArgT W v t N) (h2 : ArgT W2 v2 t2 N2) (hs : okTs t N) (hs2 : okTs t2 N2) (hb : okTb t N) (hb2 : okTb t2 N2) (hN0 : N ≤ 9223372036854775807) (hN02 : N2 ≤ 9223372036854775807) :
    SpecW Try.prog (fun w B => W w B ∧ W2 w B) n_l_FnExactIsDesk [dkR p c n v p2 c2 n2 v2] [] (vb true) [] := by
  have hfol := hfolW
  obtain ⟨a, cap, hform⟩ := h.form
  obtain ⟨a2, cap2, hform2⟩ := h2.form
  have hsz := s_szD p c n a N cap p2 c2 n2 a2 N2 cap2 hN0 hN02
  rw [← hform, ← hform2] at hsz
  refine SpecW.of_EV hf_l_FnExactIsDesk hc_l_FnExactIsDesk rfl rfl rfl fun w0 B ρ0 hW => ?_
  have hp : ∀ ρ w Lr B', Rel ⟨w0, B, 0, ρ0⟩ ρ Lr w → (∀ b, B' b → b < w0.heap.size → B b) → W w B' ∧ W2 w B' := fun ρ w Lr B' hr hB => ⟨h.pass (Γ := ⟨w0, B, 0, ρ0⟩) hW.1 ρ w Lr B' hr hB, h2.pass (Γ := ⟨w0, B, 0, ρ0⟩) hW.2 ρ w Lr B' hr hB⟩
  by_cases hN : 1048576 < N
  · rw [if_pos hN] at hsz
    (repeat' (first | refine (hsz).pure rfl ?_ | refine Exists.intro [Value.int .i64 p, .int .i64 c, .int .i64 n, v, .int .i64 p2, .int .i64 c2, .int .i64 n2, v2] (And.intro ⟨rfl, rfl⟩ ?_) | refine And.intro (neI rfl) ?_ | refine And.intro ⟨rfl, leR rfl, onesR rfl⟩ ?_ | refine And.intro ⟨rfl, leR rfl⟩ ?_ | refine draw_rule2 hfol (fun KK hKK => ?_) | refine hKK _ _ _ (by kernel_rfl) ?_ | refine region_rule (fun KK hKK => ?_) | refine hKK _ _ ?_ | refine And.intro (Eq.refl true) ?_ | refine Exists.intro _ (And.intro (wI (by omega)) ?_) | refine Exists.intro _ (And.intro (wU (by omega)) ?_) | refine Exists.intro _ (And.intro ⟨rfl, by omega⟩ ?_) | refine Exists.intro _ (And.intro rfl ?_) | refine And.intro rfl ?_ | refine And.intro ⟨rfl, rfl⟩ ?_ | ((refine And.intro (fun _ => ?_) (fun _ => ?_)) <;> try (exfalso; omega))))
    exact Exists.intro [] (And.intro (rfl) (And.intro trivial rfl))
  rw [if_neg hN] at hsz
  by_cases hN2 : 1048576 - (N : Int) - N2 < 0
  · rw [if_pos hN2] at hsz
    (repeat' (first | refine (hsz).pure rfl ?_ | refine Exists.intro [Value.int .i64 p, .int .i64 c, .int .i64 n, v, .int .i64 p2, .int .i64 c2, .int .i64 n2, v2] (And.intro ⟨rfl, rfl⟩ ?_) | refine And.intro (neI rfl) ?_ | refine And.intro ⟨rfl, leR rfl, onesR rfl⟩ ?_ | refine And.intro ⟨rfl, leR rfl⟩ ?_ | refine draw_rule2 hfol (fun KK hKK => ?_) | refine hKK _ _ _ (by kernel_rfl) ?_ | refine region_rule (fun KK hKK => ?_) | refine hKK _ _ ?_ | refine And.intro (Eq.refl true) ?_ | refine Exists.intro _ (And.intro (wI (by omega)) ?_) | refine Exists.intro _ (And.intro (wU (by omega)) ?_) | refine Exists.intro _ (And.intro ⟨rfl, by omega⟩ ?_) | refine Exists.intro _ (And.intro rfl ?_) | refine And.intro rfl ?_ | refine And.intro ⟨rfl, rfl⟩ ?_ | ((refine And.intro (fun _ => ?_) (fun _ => ?_)) <;> try (exfalso; omega))))
    exact Exists.intro [] (And.intro (rfl) (And.intro trivial rfl))
  rw [if_neg hN2] at hsz
  have ht := s_toDk p c n p2 c2 n2 h h2 hs hs2 (by omega) (by omega)
  have h1 := s_sDk p c n p2 c2 n2 t t2 N N2 hs hb hs2 hb2
  have hi := s_isDk p c n p2 c2 n2 t t2 N N2 hs hb hs2 hb2
  have he := s_eqDk p c n p2 c2 n2 t t2 N N2 hs (by omega) hs2 (by omega)
  generalize decide (wrR2 p c n t N p2 c2 n2 t2 N2 = 0) = b at h1 hi
  cases b
  · (repeat' (first | refine (hsz).pure rfl ?_ | refine Exists.intro [Value.int .i64 p, .int .i64 c, .int .i64 n, v, .int .i64 p2, .int .i64 c2, .int .i64 n2, v2] (And.intro ⟨rfl, rfl⟩ ?_) | refine ht.makeW hp [] rfl trivial ?_ | refine (h1).read [1,2] rfl ⟨rfl, rfl, trivial⟩ ?_ | refine (hi).read [3,4] rfl ⟨rfl, rfl, trivial⟩ ?_ | refine (he).read [3,4,6,7] rfl ⟨rfl, rfl, rfl, rfl, trivial⟩ ?_ | refine Exists.intro (dkL p c n 3 p2 c2 n2 4) (And.intro ⟨leR rfl, rfl⟩ ?_) | refine Exists.intro (dkL p c n 3 p2 c2 n2 4) (And.intro ⟨rfl, rfl⟩ ?_) | refine And.intro ⟨rfl, leR rfl, rfl⟩ ?_ | refine And.intro (fun h => absurd rfl h) (fun _ => ?_) | refine And.intro (neI rfl) ?_ | refine And.intro ⟨rfl, leR rfl, onesR rfl⟩ ?_ | refine And.intro ⟨rfl, leR rfl⟩ ?_ | refine draw_rule2 hfol (fun KK hKK => ?_) | refine hKK _ _ _ (by kernel_rfl) ?_ | refine region_rule (fun KK hKK => ?_) | refine hKK _ _ ?_ | refine And.intro (Eq.refl true) ?_ | refine Exists.intro _ (And.intro (wI (by omega)) ?_) | refine Exists.intro _ (And.intro (wU (by omega)) ?_) | refine Exists.intro _ (And.intro ⟨rfl, by omega⟩ ?_) | refine Exists.intro _ (And.intro rfl ?_) | refine And.intro rfl ?_ | refine And.intro ⟨rfl, rfl⟩ ?_ | ((refine And.intro (fun _ => ?_) (fun _ => ?_)) <;> try (exfalso; omega))))
    exact finP rfl
  · (repeat' (first | refine (hsz).pure rfl ?_ | refine Exists.intro [Value.int .i64 p, .int .i64 c, .int .i64 n, v, .int .i64 p2, .int .i64 c2, .int .i64 n2, v2] (And.intro ⟨rfl, rfl⟩ ?_) | refine ht.makeW hp [] rfl trivial ?_ | refine (h1).read [1,2] rfl ⟨rfl, rfl, trivial⟩ ?_ | refine (hi).read [3,4] rfl ⟨rfl, rfl, trivial⟩ ?_ | refine (he).read [3,4,6,7] rfl ⟨rfl, rfl, rfl, rfl, trivial⟩ ?_ | refine Exists.intro (dkL p c n 3 p2 c2 n2 4) (And.intro ⟨leR rfl, rfl⟩ ?_) | refine Exists.intro (dkL p c n 3 p2 c2 n2 4) (And.intro ⟨rfl, rfl⟩ ?_) | refine And.intro ⟨rfl, leR rfl, rfl⟩ ?_ | refine And.intro (fun h => absurd rfl h) (fun _ => ?_) | refine And.intro (neI rfl) ?_ | refine And.intro ⟨rfl, leR rfl, onesR rfl⟩ ?_ | refine And.intro ⟨rfl, leR rfl⟩ ?_ | refine draw_rule2 hfol (fun KK hKK => ?_) | refine hKK _ _ _ (by kernel_rfl) ?_ | refine region_rule (fun KK hKK => ?_) | refine hKK _ _ ?_ | refine And.intro (Eq.refl true) ?_ | refine Exists.intro _ (And.intro (wI (by omega)) ?_) | refine Exists.intro _ (And.intro (wU (by omega)) ?_) | refine Exists.intro _ (And.intro ⟨rfl, by omega⟩ ?_) | refine Exists.intro _ (And.intro rfl ?_) | refine And.intro rfl ?_ | refine And.intro ⟨rfl, rfl⟩ ?_ | ((refine And.intro (fun _ => ?_) (fun _ => ?_)) <;> try (exfalso; omega))))
    exact finP rfl
end Go.Proofs.Ytcibbadioijmcaa.VE
