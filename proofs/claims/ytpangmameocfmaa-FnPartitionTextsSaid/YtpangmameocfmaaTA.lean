/- Contracts of functions of the given program, for all arguments that the contract names; see each theorem. -/
import Derived.Test.YtpangmameocfmaaNm
import Derived.Test.YtpangmameocfmaaEd
import Derived.Test.YtpangmameocfmaaU1
set_option linter.all false
namespace Go.Proofs.Ytpangmameocfmaa.VE.P
open Go
theorem hfol : Try.prog.follows .mixedOrders = true := rfl

theorem s_in (a b c : Int) : Spec Try.prog n_s_l01In [vi a, vi b, vi c] [] (vb (decide (b ≤ a ∧ a ≤ c))) [] := by
  refine SpecW.of_EV hf_s_l01In hc_s_l01In rfl rfl rfl fun w0 B ρ0 _ => ?_
  (repeat' (first | refine And.intro (neI rfl) ?_ | refine And.intro ⟨rfl, leR rfl, onesR rfl⟩ ?_ | refine And.intro ⟨rfl, leR rfl⟩ ?_ | refine draw_rule2 hfol (fun KK hKK => ?_) | refine hKK _ _ _ (by kernel_rfl) ?_ | refine region_rule (fun KK hKK => ?_) | refine hKK _ _ ?_ | refine And.intro (Eq.refl true) ?_ | refine Exists.intro _ (And.intro (wI (by omega)) ?_) | refine Exists.intro _ (And.intro (wU (by omega)) ?_) | refine Exists.intro _ (And.intro ⟨rfl, by omega⟩ ?_) | refine Exists.intro _ (And.intro rfl ?_) | refine And.intro rfl ?_ | refine And.intro ⟨rfl, rfl⟩ ?_ | ((refine And.intro (fun _ => ?_) (fun _ => ?_)) <;> try (exfalso; omega))))
  all_goals exact finP (vbR (by first | (rw [decide_eq_true (by omega)]) | (rw [decide_eq_false (by omega)])))

/-- The loop of 'l07Is' from i on. -/
def isPL (s : Int) (m : List Nat) : Nat → Nat → Nat → Bool
  | 0, _, _ => true
  | d + 1, i, nx =>
    if 2 * s ≤ i ∧ m.getD i 0 ≠ 0 then false
    else if (i : Int) < 2 * s ∧ nx < m.getD i 0 then false
    else if (i : Int) < 2 * s ∧ m.getD i 0 = nx then isPL s m d (i + 1) (nx + 1)
    else isPL s m d (i + 1) nx
def isP (s : Int) (m : List Nat) : Bool := decide (1 ≤ s ∧ s ≤ 4) && isPL s m 8 0 0

set_option maxHeartbeats 400000
set_option maxRecDepth 100000
theorem s_is (s : Int) (m : List Nat) (hm : m.length = 8) (hb : ∀ x ∈ m, x < 256) : Spec Try.prog n_s_l07Is [pv s m] [] (vb (isP s m)) [] := by
  have hbt : ∀ i, m.getD i 0 < 256 := fun i => by
    rw [List.getD_eq_getElem?_getD]
    cases h : m[i]? with
    | none => simp
    | some x => exact hb x (List.mem_of_getElem? h)
  refine SpecW.of_EV hf_s_l07Is hc_s_l07Is rfl rfl rfl fun w0 B ρ0 _ => ?_
  have hin := s_in s 1 4
  by_cases h1 : 1 ≤ s ∧ s ≤ 4
  · rw [decide_eq_true h1] at hin
    (repeat' (first | refine (hin).pure rfl ?_ | refine And.intro (neI rfl) ?_ | refine And.intro ⟨rfl, leR rfl, onesR rfl⟩ ?_ | refine And.intro ⟨rfl, leR rfl⟩ ?_ | refine draw_rule2 hfol (fun KK hKK => ?_) | refine hKK _ _ _ (by kernel_rfl) ?_ | refine region_rule (fun KK hKK => ?_) | refine hKK _ _ ?_ | refine And.intro (Eq.refl true) ?_ | refine Exists.intro _ (And.intro (wI (by omega)) ?_) | refine Exists.intro _ (And.intro (wU (by omega)) ?_) | refine Exists.intro _ (And.intro ⟨rfl, by omega⟩ ?_) | refine Exists.intro _ (And.intro rfl ?_) | refine And.intro rfl ?_ | refine And.intro ⟨rfl, rfl⟩ ?_ | ((refine And.intro (fun _ => ?_) (fun _ => ?_)) <;> try (exfalso; omega))))
    refine loop_rule (α := Nat × Nat) (fun (i, nx) => i ≤ 8 ∧ nx ≤ i ∧ isPL s m (8 - i) i nx = isP s m)
      (fun (i, nx) => [(1, .ptr 0 0), (3, vu nx), (4, vi i)]) (fun _ => [.pc (pcl s m) T_i_Partition]) (fun (i, _) => 8 - i) (0, 0) [0]
      ⟨by omega, by omega, by simp [isP, h1]⟩ ⟨⟨rfl, rfl, rfl, trivial⟩, ⟨rfl, trivial⟩, rfl⟩ ?_
    rintro ⟨i, nx⟩ g ⟨hi, hnx, hR⟩
    by_cases h8 : i = 8
    · subst h8
      (repeat' (first | refine And.intro (neI rfl) ?_ | refine And.intro ⟨rfl, leR rfl, onesR rfl⟩ ?_ | refine And.intro ⟨rfl, leR rfl⟩ ?_ | refine draw_rule2 hfol (fun KK hKK => ?_) | refine hKK _ _ _ (by kernel_rfl) ?_ | refine region_rule (fun KK hKK => ?_) | refine hKK _ _ ?_ | refine And.intro (Eq.refl true) ?_ | refine Exists.intro _ (And.intro (wI (by omega)) ?_) | refine Exists.intro _ (And.intro (wU (by omega)) ?_) | refine Exists.intro _ (And.intro ⟨rfl, by omega⟩ ?_) | refine Exists.intro _ (And.intro rfl ?_) | refine And.intro rfl ?_ | refine And.intro ⟨rfl, rfl⟩ ?_ | ((refine And.intro (fun _ => ?_) (fun _ => ?_)) <;> try (exfalso; omega))))
      all_goals exact finP (vbR (by rw [← hR]; rfl))
    obtain ⟨d, hd⟩ : ∃ d, 8 - i = d + 1 := ⟨7 - i, by omega⟩
    have hd' : 8 - (i + 1) = d := by omega
    rw [hd] at hR
    unfold isPL at hR
    (repeat' (first | refine Exists.intro _ (And.intro (pcl_at (by omega)) ?_) | refine And.intro (neI rfl) ?_ | refine And.intro ⟨rfl, leR rfl, onesR rfl⟩ ?_ | refine And.intro ⟨rfl, leR rfl⟩ ?_ | refine draw_rule2 hfol (fun KK hKK => ?_) | refine hKK _ _ _ (by kernel_rfl) ?_ | refine region_rule (fun KK hKK => ?_) | refine hKK _ _ ?_ | refine And.intro (Eq.refl true) ?_ | refine Exists.intro _ (And.intro (wI (by omega)) ?_) | refine Exists.intro _ (And.intro (wU (by omega)) ?_) | refine Exists.intro _ (And.intro ⟨rfl, by omega⟩ ?_) | refine Exists.intro _ (And.intro rfl ?_) | refine And.intro rfl ?_ | refine And.intro ⟨rfl, rfl⟩ ?_ | ((refine And.intro (fun _ => ?_) (fun _ => ?_)) <;> try (exfalso; omega))))
    all_goals first
      | exact finP (vbR (by rw [← hR]; (repeat' split) <;> first | rfl | (exfalso; omega)))
      | (refine Exists.intro (i + 1, nx) (Exists.intro [0] (And.intro ⟨⟨by omega, by omega, ?_⟩, (by show 8 - (i + 1) < 8 - i; omega)⟩ ⟨⟨rfl, rfl, rfl, trivial⟩, ⟨rfl, trivial⟩, rfl⟩))
         rw [← hR, hd']; (repeat' split) <;> first | rfl | (exfalso; omega))
      | (refine Exists.intro (i + 1, nx + 1) (Exists.intro [0] (And.intro ⟨⟨by omega, by omega, ?_⟩, (by show 8 - (i + 1) < 8 - i; omega)⟩ ⟨⟨rfl, rfl, rfl, trivial⟩, ⟨rfl, trivial⟩, rfl⟩))
         rw [← hR, hd']; (repeat' split) <;> first | rfl | (exfalso; omega))
  · rw [decide_eq_false h1] at hin
    (repeat' (first | refine (hin).pure rfl ?_ | refine And.intro (neI rfl) ?_ | refine And.intro ⟨rfl, leR rfl, onesR rfl⟩ ?_ | refine And.intro ⟨rfl, leR rfl⟩ ?_ | refine draw_rule2 hfol (fun KK hKK => ?_) | refine hKK _ _ _ (by kernel_rfl) ?_ | refine region_rule (fun KK hKK => ?_) | refine hKK _ _ ?_ | refine And.intro (Eq.refl true) ?_ | refine Exists.intro _ (And.intro (wI (by omega)) ?_) | refine Exists.intro _ (And.intro (wU (by omega)) ?_) | refine Exists.intro _ (And.intro ⟨rfl, by omega⟩ ?_) | refine Exists.intro _ (And.intro rfl ?_) | refine And.intro rfl ?_ | refine And.intro ⟨rfl, rfl⟩ ?_ | ((refine And.intro (fun _ => ?_) (fun _ => ?_)) <;> try (exfalso; omega))))
    exact finP (vbR (by simp [isP, h1]))
end Go.Proofs.Ytpangmameocfmaa.VE.P
namespace Go.Proofs.Ytpangmameocfmaa.VE.P
open Go
set_option maxHeartbeats 800000
set_option maxRecDepth 100000

def eqL (a b : List Nat) : Nat → Nat → Bool
  | 0, _ => true
  | d + 1, i => if a.getD i 0 ≠ b.getD i 0 then false else eqL a b d (i + 1)
def eqB8 (a b : List Nat) : Bool := eqL a b 8 0

theorem s_eqByteA8 (a b : List Nat) (ha : a.length = 8) (hb : b.length = 8) : Spec Try.prog n_l_eqByteA8 [bv a, bv b] [] (vb (eqB8 a b)) [] := by
  refine SpecW.of_EV hf_l_eqByteA8 hc_l_eqByteA8 rfl rfl rfl fun w0 B ρ0 _ => ?_
  (repeat' (first | refine And.intro (neI rfl) ?_ | refine And.intro ⟨rfl, leR rfl, onesR rfl⟩ ?_ | refine And.intro ⟨rfl, leR rfl⟩ ?_ | refine draw_rule2 hfol (fun KK hKK => ?_) | refine hKK _ _ _ (by kernel_rfl) ?_ | refine region_rule (fun KK hKK => ?_) | refine hKK _ _ ?_ | refine And.intro (Eq.refl true) ?_ | refine Exists.intro _ (And.intro (wI (by omega)) ?_) | refine Exists.intro _ (And.intro (wU (by omega)) ?_) | refine Exists.intro _ (And.intro ⟨rfl, by omega⟩ ?_) | refine Exists.intro _ (And.intro rfl ?_) | refine And.intro rfl ?_ | refine And.intro ⟨rfl, rfl⟩ ?_ | ((refine And.intro (fun _ => ?_) (fun _ => ?_)) <;> try (exfalso; omega))))
  refine loop_rule (α := Nat) (fun i => i ≤ 8 ∧ eqL a b (8 - i) i = eqB8 a b)
      (fun i => [(2, .ptr 0 0), (3, .ptr 1 0), (5, vi i)]) (fun _ => [.pc (bcl a) T_a8q_uint8, .pc (bcl b) T_a8q_uint8]) (fun i => 8 - i) 0 [0, 1]
      ⟨by omega, rfl⟩ ⟨⟨rfl, rfl, rfl, trivial⟩, ⟨rfl, rfl, trivial⟩, rfl⟩ ?_
  rintro i g ⟨hi, hR⟩
  by_cases h8 : i = 8
  · subst h8
    (repeat' (first | refine And.intro (neI rfl) ?_ | refine And.intro ⟨rfl, leR rfl, onesR rfl⟩ ?_ | refine And.intro ⟨rfl, leR rfl⟩ ?_ | refine draw_rule2 hfol (fun KK hKK => ?_) | refine hKK _ _ _ (by kernel_rfl) ?_ | refine region_rule (fun KK hKK => ?_) | refine hKK _ _ ?_ | refine And.intro (Eq.refl true) ?_ | refine Exists.intro _ (And.intro (wI (by omega)) ?_) | refine Exists.intro _ (And.intro (wU (by omega)) ?_) | refine Exists.intro _ (And.intro ⟨rfl, by omega⟩ ?_) | refine Exists.intro _ (And.intro rfl ?_) | refine And.intro rfl ?_ | refine And.intro ⟨rfl, rfl⟩ ?_ | ((refine And.intro (fun _ => ?_) (fun _ => ?_)) <;> try (exfalso; omega))))
    all_goals exact finP (vbR (by rw [← hR]; rfl))
  obtain ⟨d, hd⟩ : ∃ d, 8 - i = d + 1 := ⟨7 - i, by omega⟩
  have hd' : 8 - (i + 1) = d := by omega
  rw [hd] at hR
  unfold eqL at hR
  (repeat' (first | refine Exists.intro _ (And.intro (bcl_at (by omega)) ?_) | refine And.intro (neI rfl) ?_ | refine And.intro ⟨rfl, leR rfl, onesR rfl⟩ ?_ | refine And.intro ⟨rfl, leR rfl⟩ ?_ | refine draw_rule2 hfol (fun KK hKK => ?_) | refine hKK _ _ _ (by kernel_rfl) ?_ | refine region_rule (fun KK hKK => ?_) | refine hKK _ _ ?_ | refine And.intro (Eq.refl true) ?_ | refine Exists.intro _ (And.intro (wI (by omega)) ?_) | refine Exists.intro _ (And.intro (wU (by omega)) ?_) | refine Exists.intro _ (And.intro ⟨rfl, by omega⟩ ?_) | refine Exists.intro _ (And.intro rfl ?_) | refine And.intro rfl ?_ | refine And.intro ⟨rfl, rfl⟩ ?_ | ((refine And.intro (fun _ => ?_) (fun _ => ?_)) <;> try (exfalso; omega))))
  all_goals first
    | exact finP (vbR (by rw [← hR]; (repeat' split) <;> first | rfl | (exfalso; omega)))
    | (refine Exists.intro (i + 1) (Exists.intro [0, 1] (And.intro ⟨⟨by omega, ?_⟩, (by show 8 - (i + 1) < 8 - i; omega)⟩ ⟨⟨rfl, rfl, rfl, trivial⟩, ⟨rfl, rfl, trivial⟩, rfl⟩))
       rw [← hR, hd']; (repeat' split) <;> first | rfl | (exfalso; omega))
theorem eqL_self (a : List Nat) : ∀ d i, eqL a a d i = true
  | 0, _ => rfl
  | d + 1, i => by simp only [eqL]; rw [if_neg (by simp)]; exact eqL_self a d (i + 1)

/-- Two that are the same. -/
theorem s_eqP (s : Int) (m : List Nat) (hm : m.length = 8) : Spec Try.prog n_l_eqPartition [pv s m, pv s m] [] (vb true) [] := by
  refine SpecW.of_EV hf_l_eqPartition hc_l_eqPartition rfl rfl rfl fun w0 B ρ0 _ => ?_
  have hq := s_eqByteA8 m m hm hm
  rw [show eqB8 m m = true from eqL_self m 8 0] at hq
  (repeat' (first | refine Exists.intro (bcl m) (And.intro ⟨bcl_len hm, pcl_part hm⟩ ?_) | refine hq.pure rfl ?_ | refine And.intro (fun h => absurd rfl h) (fun _ => ?_) | refine And.intro (neI rfl) ?_ | refine And.intro ⟨rfl, leR rfl, onesR rfl⟩ ?_ | refine And.intro ⟨rfl, leR rfl⟩ ?_ | refine draw_rule2 hfol (fun KK hKK => ?_) | refine hKK _ _ _ (by kernel_rfl) ?_ | refine region_rule (fun KK hKK => ?_) | refine hKK _ _ ?_ | refine And.intro (Eq.refl true) ?_ | refine Exists.intro _ (And.intro (wI (by omega)) ?_) | refine Exists.intro _ (And.intro (wU (by omega)) ?_) | refine Exists.intro _ (And.intro ⟨rfl, by omega⟩ ?_) | refine Exists.intro _ (And.intro rfl ?_) | refine And.intro rfl ?_ | refine And.intro ⟨rfl, rfl⟩ ?_ | ((refine And.intro (fun _ => ?_) (fun _ => ?_)) <;> try (exfalso; omega))))
  exact finP rfl

end Go.Proofs.Ytpangmameocfmaa.VE.P
namespace Go.Proofs.Ytpangmameocfmaa.VE.P
open Go
set_option maxHeartbeats 800000
set_option maxRecDepth 100000

end Go.Proofs.Ytpangmameocfmaa.VE.P
