/- Contracts of functions of the given program, for all arguments that the contract names; see each theorem. -/
import Derived.Test.YtcibbadioijmcaaW1
set_option linter.all false
namespace Go.Proofs.Ytcibbadioijmcaa.VE
open Go
set_option maxHeartbeats 800000
set_option maxRecDepth 100000

/-! is it so of each of a row of ints: for a closure with one int in a cell -/
section
variable (F : FuncId) (z : Int) (P : Int → Bool) (hF : ∀ i, Spec Try.prog F [vi i, .ptr 0 0] [.pc [.int .i64 z] T_int64] (vb (!P i)) [.pc [.int .i64 z] T_int64])
include hF
theorem s_anyix (g : Nat → Int) (N : Nat) (hN : N ≤ 4000000) : ∃ r : Int, decide (r ≥ 0) = !decide (∀ j, j < N → P (g j) = true) ∧
    Spec Try.prog n_g_IndexFunc_int64 [.sl 0, .fn (.func F) [] [.ptr 1 0]] [.pr T_int64 1 N (il g N), .pc [.int .i64 z] T_int64] (vi r) [.pr T_int64 1 N (il g N), .pc [.int .i64 z] T_int64] := by
  have hex : ∃ r : Int, (∃ p, p < N ∧ P (g p) = false ∧ r = p ∧ ∀ q, q < p → P (g q) = true) ∨ (r = -1 ∧ ∀ q, q < N → P (g q) = true) := by
    by_cases h : ∀ q, q < N → P (g q) = true
    · exact ⟨-1, .inr ⟨rfl, h⟩⟩
    · have hx : ∃ p, p < N ∧ P (g p) = false := Classical.byContradiction fun hno => h fun q hq => by
        cases hb : P (g q) with
        | true => rfl
        | false => exact absurd ⟨q, hq, hb⟩ hno
      obtain ⟨p, hp⟩ := hx
      induction p using Nat.strongRecOn with
      | _ p ih =>
        by_cases hm : ∃ q, q < p ∧ P (g q) = false
        · obtain ⟨q, h1, h2⟩ := hm; exact ih q h1 ⟨by omega, h2⟩
        · exact ⟨p, .inl ⟨p, hp.1, hp.2, rfl, fun q hq => by
            cases hb : P (g q) with
            | true => rfl
            | false => exact absurd ⟨q, hq, hb⟩ hm⟩⟩
  obtain ⟨r, hr⟩ := hex
  refine ⟨r, ?_, ?_⟩
  · rcases hr with ⟨p, h1, h2, rfl, _⟩ | ⟨rfl, h⟩
    · rw [decide_eq_false (show ¬ ∀ j, j < N → P (g j) = true from fun h => by rw [h p h1] at h2; cases h2)]; exact decide_eq_true (by omega)
    · rw [decide_eq_true h]; rfl
  refine SpecW.of_EV hf_g_IndexFunc_int64 hc_g_IndexFunc_int64 rfl rfl rfl fun w0 B ρ0 _ => ?_
  (repeat' (first | refine And.intro (neI rfl) ?_ | refine And.intro ⟨rfl, leR rfl, onesR rfl⟩ ?_ | refine And.intro ⟨rfl, leR rfl⟩ ?_ | refine draw_rule2 hfol (fun KK hKK => ?_) | refine hKK _ _ _ (by kernel_rfl) ?_ | refine region_rule (fun KK hKK => ?_) | refine hKK _ _ ?_ | refine And.intro (Eq.refl true) ?_ | refine Exists.intro _ (And.intro (wI (by omega)) ?_) | refine Exists.intro _ (And.intro (wU (by omega)) ?_) | refine Exists.intro _ (And.intro ⟨rfl, by omega⟩ ?_) | refine Exists.intro _ (And.intro rfl ?_) | refine And.intro rfl ?_ | refine And.intro ⟨rfl, rfl⟩ ?_ | ((refine And.intro (fun _ => ?_) (fun _ => ?_)) <;> try (exfalso; omega))))
  refine loop_rule (α := Nat) (fun i => i ≤ N ∧ ∀ q, q < i → P (g q) = true)
      (fun i => [(0, .sl 0), (1, .fn (.func F) [] [.ptr 1 0]), (7, vi N), (8, vi i)]) (fun _ => [.pr T_int64 1 N (il g N), .pc [.int .i64 z] T_int64]) (fun i => N - i) 0 [0, 1]
      ⟨by omega, fun q hq => by omega⟩ ⟨⟨rfl, rfl, rfl, rfl, trivial⟩, ⟨rfl, rfl, trivial⟩, rfl⟩ ?_
  rintro i gg ⟨hi, hno⟩
  by_cases h9 : i = N
  · subst h9
    have : r = -1 := by
      rcases hr with ⟨p, h1, h2, _⟩ | ⟨h, _⟩
      · rw [hno p h1] at h2; cases h2
      · exact h
    subst this
    (repeat' (first | refine And.intro (neI rfl) ?_ | refine And.intro ⟨rfl, leR rfl, onesR rfl⟩ ?_ | refine And.intro ⟨rfl, leR rfl⟩ ?_ | refine draw_rule2 hfol (fun KK hKK => ?_) | refine hKK _ _ _ (by kernel_rfl) ?_ | refine region_rule (fun KK hKK => ?_) | refine hKK _ _ ?_ | refine And.intro (Eq.refl true) ?_ | refine Exists.intro _ (And.intro (wI (by omega)) ?_) | refine Exists.intro _ (And.intro (wU (by omega)) ?_) | refine Exists.intro _ (And.intro ⟨rfl, by omega⟩ ?_) | refine Exists.intro _ (And.intro rfl ?_) | refine And.intro rfl ?_ | refine And.intro ⟨rfl, rfl⟩ ?_ | ((refine And.intro (fun _ => ?_) (fun _ => ?_)) <;> try (exfalso; omega))))
    exact Exists.intro [0,1] (And.intro (rfl) (And.intro ⟨rfl, rfl, trivial⟩ rfl))
  have hil : i < N := by omega
  have hq := hF (g i)
  cases hx : P (g i) with
  | false =>
    have hri : r = i := by
      rcases hr with ⟨p, h1, h2, h3, h4⟩ | ⟨_, h⟩
      · rcases Nat.lt_trichotomy p i with h | h | h
        · rw [hno p h] at h2; cases h2
        · rw [h3, h]
        · rw [h4 i h] at hx; cases hx
      · rw [h i hil] at hx; cases hx
    subst hri
    rw [hx] at hq
    (repeat' (first | refine Exists.intro _ (And.intro (il_at hil) ?_) | refine (hq).read [1] rfl ⟨rfl, trivial⟩ ?_ | refine And.intro (neI rfl) ?_ | refine And.intro ⟨rfl, leR rfl, onesR rfl⟩ ?_ | refine And.intro ⟨rfl, leR rfl⟩ ?_ | refine draw_rule2 hfol (fun KK hKK => ?_) | refine hKK _ _ _ (by kernel_rfl) ?_ | refine region_rule (fun KK hKK => ?_) | refine hKK _ _ ?_ | refine And.intro (Eq.refl true) ?_ | refine Exists.intro _ (And.intro (wI (by omega)) ?_) | refine Exists.intro _ (And.intro (wU (by omega)) ?_) | refine Exists.intro _ (And.intro ⟨rfl, by omega⟩ ?_) | refine Exists.intro _ (And.intro rfl ?_) | refine And.intro rfl ?_ | refine And.intro ⟨rfl, rfl⟩ ?_ | ((refine And.intro (fun _ => ?_) (fun _ => ?_)) <;> try (exfalso; omega))))
    exact Exists.intro [0,1] (And.intro (rfl) (And.intro ⟨rfl, rfl, trivial⟩ rfl))
  | true =>
    rw [hx] at hq
    (repeat' (first | refine Exists.intro _ (And.intro (il_at hil) ?_) | refine (hq).read [1] rfl ⟨rfl, trivial⟩ ?_ | refine And.intro (neI rfl) ?_ | refine And.intro ⟨rfl, leR rfl, onesR rfl⟩ ?_ | refine And.intro ⟨rfl, leR rfl⟩ ?_ | refine draw_rule2 hfol (fun KK hKK => ?_) | refine hKK _ _ _ (by kernel_rfl) ?_ | refine region_rule (fun KK hKK => ?_) | refine hKK _ _ ?_ | refine And.intro (Eq.refl true) ?_ | refine Exists.intro _ (And.intro (wI (by omega)) ?_) | refine Exists.intro _ (And.intro (wU (by omega)) ?_) | refine Exists.intro _ (And.intro ⟨rfl, by omega⟩ ?_) | refine Exists.intro _ (And.intro rfl ?_) | refine And.intro rfl ?_ | refine And.intro ⟨rfl, rfl⟩ ?_ | ((refine And.intro (fun _ => ?_) (fun _ => ?_)) <;> try (exfalso; omega))))
    refine Exists.intro (i + 1) (Exists.intro [0, 1] (And.intro ⟨⟨by omega, fun q hq => ?_⟩, (by show N - (i + 1) < N - i; omega)⟩ ⟨⟨rfl, rfl, rfl, rfl, trivial⟩, ⟨rfl, rfl, trivial⟩, rfl⟩))
    by_cases hqi : q = i
    · subst hqi; exact hx
    · exact hno q (by omega)
theorem s_anyct (g : Nat → Int) (N : Nat) (hN : N ≤ 4000000) (b : Bool) (hb : decide (∀ j, j < N → P (g j) = true) = b) : Spec Try.prog n_g_ContainsFunc_int64 [.sl 0, .fn (.func F) [] [.ptr 1 0]] [.pr T_int64 1 N (il g N), .pc [.int .i64 z] T_int64] (vb (!b)) [.pr T_int64 1 N (il g N), .pc [.int .i64 z] T_int64] := by
  obtain ⟨r, hr, hq⟩ := s_anyix F z P hF g N hN
  rw [hb] at hr
  rw [← hr]
  refine SpecW.of_EV hf_g_ContainsFunc_int64 hc_g_ContainsFunc_int64 rfl rfl rfl fun w0 B ρ0 _ => ?_
  (repeat' (first | refine (hq).read [0,1] rfl ⟨rfl, rfl, trivial⟩ ?_ | refine And.intro (neI rfl) ?_ | refine And.intro ⟨rfl, leR rfl, onesR rfl⟩ ?_ | refine And.intro ⟨rfl, leR rfl⟩ ?_ | refine draw_rule2 hfol (fun KK hKK => ?_) | refine hKK _ _ _ (by kernel_rfl) ?_ | refine region_rule (fun KK hKK => ?_) | refine hKK _ _ ?_ | refine And.intro (Eq.refl true) ?_ | refine Exists.intro _ (And.intro (wI (by omega)) ?_) | refine Exists.intro _ (And.intro (wU (by omega)) ?_) | refine Exists.intro _ (And.intro ⟨rfl, by omega⟩ ?_) | refine Exists.intro _ (And.intro rfl ?_) | refine And.intro rfl ?_ | refine And.intro ⟨rfl, rfl⟩ ?_ | ((refine And.intro (fun _ => ?_) (fun _ => ?_)) <;> try (exfalso; omega))))
  all_goals exact Exists.intro [0,1] (And.intro (vbR (by first | rw [decide_eq_true (by omega)] | rw [decide_eq_false (by omega)])) (And.intro ⟨rfl, rfl, trivial⟩ rfl))
end
end Go.Proofs.Ytcibbadioijmcaa.VE
