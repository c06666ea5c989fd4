/- Contracts of functions of the given program, for all arguments that the contract names; see each theorem. -/
import Derived.Test.YtimigbgpldjefaaU1
set_option linter.all false
namespace Go.Proofs.Ytimigbgpldjefaa.VE
open Go
set_option maxHeartbeats 800000
set_option maxRecDepth 100000

def eqL (a b : List Nat) : Nat → Nat → Bool
  | 0, _ => true
  | d + 1, i => if a.getD i 0 ≠ b.getD i 0 then false else eqL a b d (i + 1)
theorem eqL_self (a : List Nat) : ∀ d i, eqL a a d i = true
  | 0, _ => rfl
  | d + 1, i => by simp only [eqL]; rw [if_neg (by simp)]; exact eqL_self a d (i + 1)
def eqB16 (a b : List Nat) : Bool := eqL a b 16 0
theorem s_eqByteA16 (a b : List Nat) (ha : a.length = 16) (hb : b.length = 16) : Spec Try.prog n_l_eqByteA16 [bv a, bv b] [] (vb (eqB16 a b)) [] := by
  refine SpecW.of_EV hf_l_eqByteA16 hc_l_eqByteA16 rfl rfl rfl fun w0 B ρ0 _ => ?_
  (repeat' (first | refine And.intro (neI rfl) ?_ | refine And.intro ⟨rfl, leR rfl, onesR rfl⟩ ?_ | refine And.intro ⟨rfl, leR rfl⟩ ?_ | refine draw_rule2 hfol (fun KK hKK => ?_) | refine hKK _ _ _ (by kernel_rfl) ?_ | refine region_rule (fun KK hKK => ?_) | refine hKK _ _ ?_ | refine And.intro (Eq.refl true) ?_ | refine Exists.intro _ (And.intro (wI (by omega)) ?_) | refine Exists.intro _ (And.intro (wU (by omega)) ?_) | refine Exists.intro _ (And.intro ⟨rfl, by omega⟩ ?_) | refine Exists.intro _ (And.intro rfl ?_) | refine And.intro rfl ?_ | refine And.intro ⟨rfl, rfl⟩ ?_ | ((refine And.intro (fun _ => ?_) (fun _ => ?_)) <;> try (exfalso; omega))))
  refine loop_rule (α := Nat) (fun i => i ≤ 16 ∧ eqL a b (16 - i) i = eqB16 a b)
      (fun i => [(2, .ptr 0 0), (3, .ptr 1 0), (5, vi i)]) (fun _ => [.pc (bcl a) T_a16q_uint8, .pc (bcl b) T_a16q_uint8]) (fun i => 16 - i) 0 [0, 1]
      ⟨by omega, rfl⟩ ⟨⟨rfl, rfl, rfl, trivial⟩, ⟨rfl, rfl, trivial⟩, rfl⟩ ?_
  rintro i g ⟨hi, hR⟩
  by_cases h8 : i = 16
  · subst h8
    (repeat' (first | refine And.intro (neI rfl) ?_ | refine And.intro ⟨rfl, leR rfl, onesR rfl⟩ ?_ | refine And.intro ⟨rfl, leR rfl⟩ ?_ | refine draw_rule2 hfol (fun KK hKK => ?_) | refine hKK _ _ _ (by kernel_rfl) ?_ | refine region_rule (fun KK hKK => ?_) | refine hKK _ _ ?_ | refine And.intro (Eq.refl true) ?_ | refine Exists.intro _ (And.intro (wI (by omega)) ?_) | refine Exists.intro _ (And.intro (wU (by omega)) ?_) | refine Exists.intro _ (And.intro ⟨rfl, by omega⟩ ?_) | refine Exists.intro _ (And.intro rfl ?_) | refine And.intro rfl ?_ | refine And.intro ⟨rfl, rfl⟩ ?_ | ((refine And.intro (fun _ => ?_) (fun _ => ?_)) <;> try (exfalso; omega))))
    all_goals exact finP (vbR (by rw [← hR]; rfl))
  obtain ⟨d, hd⟩ : ∃ d, 16 - i = d + 1 := ⟨15 - i, by omega⟩
  have hd' : 16 - (i + 1) = d := by omega
  rw [hd] at hR
  unfold eqL at hR
  (repeat' (first | refine Exists.intro _ (And.intro (bcl_at (by omega)) ?_) | refine And.intro (neI rfl) ?_ | refine And.intro ⟨rfl, leR rfl, onesR rfl⟩ ?_ | refine And.intro ⟨rfl, leR rfl⟩ ?_ | refine draw_rule2 hfol (fun KK hKK => ?_) | refine hKK _ _ _ (by kernel_rfl) ?_ | refine region_rule (fun KK hKK => ?_) | refine hKK _ _ ?_ | refine And.intro (Eq.refl true) ?_ | refine Exists.intro _ (And.intro (wI (by omega)) ?_) | refine Exists.intro _ (And.intro (wU (by omega)) ?_) | refine Exists.intro _ (And.intro ⟨rfl, by omega⟩ ?_) | refine Exists.intro _ (And.intro rfl ?_) | refine And.intro rfl ?_ | refine And.intro ⟨rfl, rfl⟩ ?_ | ((refine And.intro (fun _ => ?_) (fun _ => ?_)) <;> try (exfalso; omega))))
  all_goals first
    | exact finP (vbR (by rw [← hR]; (repeat' split) <;> first | rfl | (exfalso; omega)))
    | (refine Exists.intro (i + 1) (Exists.intro [0, 1] (And.intro ⟨⟨by omega, ?_⟩, (by show 16 - (i + 1) < 16 - i; omega)⟩ ⟨⟨rfl, rfl, rfl, trivial⟩, ⟨rfl, rfl, trivial⟩, rfl⟩))
       rw [← hR, hd']; (repeat' split) <;> first | rfl | (exfalso; omega))
/-- Two that are the same. -/
theorem s_eqD (s : Int) (m : List Nat) (hm : m.length = 16) : Spec Try.prog n_l_eqDiagram [pv s m, pv s m] [] (vb true) [] := by
  refine SpecW.of_EV hf_l_eqDiagram hc_l_eqDiagram rfl rfl rfl fun w0 B ρ0 _ => ?_
  have hq := s_eqByteA16 m m hm hm
  rw [show eqB16 m m = true from eqL_self m 16 0] at hq
  (repeat' (first | refine Exists.intro (bcl m) (And.intro ⟨bcl_len hm, pcl_part hm⟩ ?_) | refine (hq).pure rfl ?_ | refine And.intro (fun h => absurd rfl h) (fun _ => ?_) | refine And.intro (neI rfl) ?_ | refine And.intro ⟨rfl, leR rfl, onesR rfl⟩ ?_ | refine And.intro ⟨rfl, leR rfl⟩ ?_ | refine draw_rule2 hfol (fun KK hKK => ?_) | refine hKK _ _ _ (by kernel_rfl) ?_ | refine region_rule (fun KK hKK => ?_) | refine hKK _ _ ?_ | refine And.intro (Eq.refl true) ?_ | refine Exists.intro _ (And.intro (wI (by omega)) ?_) | refine Exists.intro _ (And.intro (wU (by omega)) ?_) | refine Exists.intro _ (And.intro ⟨rfl, by omega⟩ ?_) | refine Exists.intro _ (And.intro rfl ?_) | refine And.intro rfl ?_ | refine And.intro ⟨rfl, rfl⟩ ?_ | ((refine And.intro (fun _ => ?_) (fun _ => ?_)) <;> try (exfalso; omega))))
  exact finP rfl

end Go.Proofs.Ytimigbgpldjefaa.VE
