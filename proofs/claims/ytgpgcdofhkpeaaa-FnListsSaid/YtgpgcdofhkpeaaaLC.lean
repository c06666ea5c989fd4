/- Contracts of functions of the given program, for all arguments that the contract names; see each theorem. -/
import Derived.Test.YtgpgcdofhkpeaaaLB
import Derived.Test.YtgpgcdofhkpeaaaFA
import Derived.Test.YtgpgcdofhkpeaaaU21
import Derived.Test.YtgpgcdofhkpeaaaU10b
import Derived.Test.YtgpgcdofhkpeaaaNA
import Derived.Test.YtgpgcdofhkpeaaaNB
import Derived.Test.YtgpgcdofhkpeaaaU10a
set_option linter.all false
namespace Go.Proofs.Ytgpgcdofhkpeaaa.VE
open Go
set_option maxHeartbeats 1600000
set_option maxRecDepth 100000

/-! what the laws draw -/
attribute [local irreducible] IntKind.wrap
theorem s_big {W : World → (Nat → Prop) → Prop} {v : Value} {a : Option Addr} {N cap : Nat} (hv : v = .slice a N cap) : SpecW Try.prog W n_l_big [.raw v] [] (vb (decide (4096 < N))) [] := by
  subst hv
  refine SpecW.of_EV hf_l_big hc_l_big rfl rfl rfl fun w0 B ρ0 hW => ?_
  by_cases h : 4096 < N
  · rw [decide_eq_true h]
    (repeat' (first | refine And.intro (neI rfl) ?_ | refine And.intro ⟨rfl, leR rfl, onesR rfl⟩ ?_ | refine And.intro ⟨rfl, leR rfl⟩ ?_ | refine draw_rule2 hfol (fun KK hKK => ?_) | refine hKK _ _ _ (by kernel_rfl) ?_ | refine region_rule (fun KK hKK => ?_) | refine hKK _ _ ?_ | refine And.intro (Eq.refl true) ?_ | refine Exists.intro _ (And.intro (wI (by omega)) ?_) | refine Exists.intro _ (And.intro (wU (by omega)) ?_) | refine Exists.intro _ (And.intro ⟨rfl, by omega⟩ ?_) | refine Exists.intro _ (And.intro rfl ?_) | refine And.intro rfl ?_ | refine And.intro ⟨rfl, rfl⟩ ?_ | ((refine And.intro (fun _ => ?_) (fun _ => ?_)) <;> try (exfalso; omega))))
    exact Exists.intro [] (And.intro (rfl) (And.intro trivial rfl))
  · rw [decide_eq_false h]
    (repeat' (first | refine And.intro (neI rfl) ?_ | refine And.intro ⟨rfl, leR rfl, onesR rfl⟩ ?_ | refine And.intro ⟨rfl, leR rfl⟩ ?_ | refine draw_rule2 hfol (fun KK hKK => ?_) | refine hKK _ _ _ (by kernel_rfl) ?_ | refine region_rule (fun KK hKK => ?_) | refine hKK _ _ ?_ | refine And.intro (Eq.refl true) ?_ | refine Exists.intro _ (And.intro (wI (by omega)) ?_) | refine Exists.intro _ (And.intro (wU (by omega)) ?_) | refine Exists.intro _ (And.intro ⟨rfl, by omega⟩ ?_) | refine Exists.intro _ (And.intro rfl ?_) | refine And.intro rfl ?_ | refine And.intro ⟨rfl, rfl⟩ ?_ | ((refine And.intro (fun _ => ?_) (fun _ => ?_)) <;> try (exfalso; omega))))
    exact Exists.intro [] (And.intro (rfl) (And.intro trivial rfl))
section
variable {W : World → (Nat → Prop) → Prop} {v : Value} {g : Nat → Int} {N : Nat} (hA : ArgK .u8 W v g N) (hN : N ≤ 1048576) (hg : ∀ j, j < N → 0 ≤ g j ∧ g j < 256)
include hA hN hg
theorem s_DrawFlipDiagram : ∃ s' m', m'.length = 16 ∧ (∀ x ∈ m', x < 256) ∧ SpecW Try.prog W n_s_DrawFlipDiagram [.raw v] [] (pv s' m') [] := by
  have c1 := s_from hA hN hg
  obtain ⟨s', m', a2, h2, hl, hb, _, c2⟩ := s_spoil hA hN hg 0 (fH g N (min N 4096)) (Nat.zero_le _)
  refine ⟨s', m', hl, hb, ?_⟩
  generalize fH g N (min N 4096) = h0 at c1 c2
  obtain ⟨a, cap, hv⟩ := hA.form
  refine SpecW.of_EV hf_s_DrawFlipDiagram hc_s_DrawFlipDiagram rfl rfl rfl fun w0 B ρ0 hW => ?_
  have hp := ArgK.pass (Γ := ⟨w0, B, ([] : List O).length, ρ0⟩) hA hW
  (repeat' (first | refine c1.makeW hp [] rfl trivial ?_ | refine c2.makeW hp [0] rfl ⟨rfl, trivial⟩ ?_ | refine c2.makeW hp [1] rfl ⟨rfl, trivial⟩ ?_ | refine Exists.intro (pcl s' m') (And.intro ⟨pcl_len hl, pcl_all hl⟩ ?_) | refine And.intro ⟨pcl_len hl, leR rfl, pcl_ones⟩ ?_ | refine Exists.intro (pcl s' m') (And.intro ⟨leR rfl, spl0 (leR rfl)⟩ ?_) | refine And.intro (neI rfl) ?_ | refine And.intro ⟨rfl, leR rfl, onesR rfl⟩ ?_ | refine And.intro ⟨rfl, leR rfl⟩ ?_ | refine draw_rule2 hfol (fun KK hKK => ?_) | refine hKK _ _ _ (by kernel_rfl) ?_ | refine region_rule (fun KK hKK => ?_) | refine hKK _ _ ?_ | refine And.intro (Eq.refl true) ?_ | refine Exists.intro _ (And.intro (wI (by omega)) ?_) | refine Exists.intro _ (And.intro (wU (by omega)) ?_) | refine Exists.intro _ (And.intro ⟨rfl, by omega⟩ ?_) | refine Exists.intro _ (And.intro rfl ?_) | refine And.intro rfl ?_ | refine And.intro ⟨rfl, rfl⟩ ?_ | ((refine And.intro (fun _ => ?_) (fun _ => ?_)) <;> try (exfalso; omega))))
  exact Exists.intro [] (And.intro (rfl) (And.intro trivial rfl))
theorem s_DrawThroughLines : ∃ s' m', m'.length = 16 ∧ (∀ x ∈ m', x < 256) ∧ SpecW Try.prog W n_s_DrawThroughLines [.raw v] [] (pv s' m') [] := by
  have c1 := s_from hA hN hg
  obtain ⟨s', m', a2, h2, hl, hb, _, c2⟩ := s_spoil hA hN hg 0 (fH g N (min N 4096)) (Nat.zero_le _)
  refine ⟨s', m', hl, hb, ?_⟩
  generalize fH g N (min N 4096) = h0 at c1 c2
  obtain ⟨a, cap, hv⟩ := hA.form
  refine SpecW.of_EV hf_s_DrawThroughLines hc_s_DrawThroughLines rfl rfl rfl fun w0 B ρ0 hW => ?_
  have hp := ArgK.pass (Γ := ⟨w0, B, ([] : List O).length, ρ0⟩) hA hW
  (repeat' (first | refine c1.makeW hp [] rfl trivial ?_ | refine c2.makeW hp [0] rfl ⟨rfl, trivial⟩ ?_ | refine c2.makeW hp [1] rfl ⟨rfl, trivial⟩ ?_ | refine Exists.intro (pcl s' m') (And.intro ⟨pcl_len hl, pcl_all hl⟩ ?_) | refine And.intro ⟨pcl_len hl, leR rfl, pcl_ones⟩ ?_ | refine Exists.intro (pcl s' m') (And.intro ⟨leR rfl, spl0 (leR rfl)⟩ ?_) | refine And.intro (neI rfl) ?_ | refine And.intro ⟨rfl, leR rfl, onesR rfl⟩ ?_ | refine And.intro ⟨rfl, leR rfl⟩ ?_ | refine draw_rule2 hfol (fun KK hKK => ?_) | refine hKK _ _ _ (by kernel_rfl) ?_ | refine region_rule (fun KK hKK => ?_) | refine hKK _ _ ?_ | refine And.intro (Eq.refl true) ?_ | refine Exists.intro _ (And.intro (wI (by omega)) ?_) | refine Exists.intro _ (And.intro (wU (by omega)) ?_) | refine Exists.intro _ (And.intro ⟨rfl, by omega⟩ ?_) | refine Exists.intro _ (And.intro rfl ?_) | refine And.intro rfl ?_ | refine And.intro ⟨rfl, rfl⟩ ?_ | ((refine And.intro (fun _ => ?_) (fun _ => ?_)) <;> try (exfalso; omega))))
  exact Exists.intro [] (And.intro (rfl) (And.intro trivial rfl))
theorem s_DrawTurnDiagram : ∃ s' m', m'.length = 16 ∧ (∀ x ∈ m', x < 256) ∧ SpecW Try.prog W n_s_DrawTurnDiagram [.raw v] [] (pv s' m') [] := by
  have c1 := s_from hA hN hg
  obtain ⟨s', m', a2, h2, hl, hb, _, c2⟩ := s_spoil hA hN hg 0 (fH g N (min N 4096)) (Nat.zero_le _)
  refine ⟨s', m', hl, hb, ?_⟩
  generalize fH g N (min N 4096) = h0 at c1 c2
  obtain ⟨a, cap, hv⟩ := hA.form
  refine SpecW.of_EV hf_s_DrawTurnDiagram hc_s_DrawTurnDiagram rfl rfl rfl fun w0 B ρ0 hW => ?_
  have hp := ArgK.pass (Γ := ⟨w0, B, ([] : List O).length, ρ0⟩) hA hW
  (repeat' (first | refine c1.makeW hp [] rfl trivial ?_ | refine c2.makeW hp [0] rfl ⟨rfl, trivial⟩ ?_ | refine c2.makeW hp [1] rfl ⟨rfl, trivial⟩ ?_ | refine Exists.intro (pcl s' m') (And.intro ⟨pcl_len hl, pcl_all hl⟩ ?_) | refine And.intro ⟨pcl_len hl, leR rfl, pcl_ones⟩ ?_ | refine Exists.intro (pcl s' m') (And.intro ⟨leR rfl, spl0 (leR rfl)⟩ ?_) | refine And.intro (neI rfl) ?_ | refine And.intro ⟨rfl, leR rfl, onesR rfl⟩ ?_ | refine And.intro ⟨rfl, leR rfl⟩ ?_ | refine draw_rule2 hfol (fun KK hKK => ?_) | refine hKK _ _ _ (by kernel_rfl) ?_ | refine region_rule (fun KK hKK => ?_) | refine hKK _ _ ?_ | refine And.intro (Eq.refl true) ?_ | refine Exists.intro _ (And.intro (wI (by omega)) ?_) | refine Exists.intro _ (And.intro (wU (by omega)) ?_) | refine Exists.intro _ (And.intro ⟨rfl, by omega⟩ ?_) | refine Exists.intro _ (And.intro rfl ?_) | refine And.intro rfl ?_ | refine And.intro ⟨rfl, rfl⟩ ?_ | ((refine And.intro (fun _ => ?_) (fun _ => ?_)) <;> try (exfalso; omega))))
  exact Exists.intro [] (And.intro (rfl) (And.intro trivial rfl))
theorem s_DrawNumberOfDiagram : ∃ s' m', m'.length = 16 ∧ (∀ x ∈ m', x < 256) ∧ SpecW Try.prog W n_s_DrawNumberOfDiagram [.raw v] [] (pv s' m') [] := by
  have c1 := s_from hA hN hg
  obtain ⟨s', m', a2, h2, hl, hb, _, c2⟩ := s_spoil hA hN hg 0 (fH g N (min N 4096)) (Nat.zero_le _)
  refine ⟨s', m', hl, hb, ?_⟩
  generalize fH g N (min N 4096) = h0 at c1 c2
  obtain ⟨a, cap, hv⟩ := hA.form
  refine SpecW.of_EV hf_s_DrawNumberOfDiagram hc_s_DrawNumberOfDiagram rfl rfl rfl fun w0 B ρ0 hW => ?_
  have hp := ArgK.pass (Γ := ⟨w0, B, ([] : List O).length, ρ0⟩) hA hW
  (repeat' (first | refine c1.makeW hp [] rfl trivial ?_ | refine c2.makeW hp [0] rfl ⟨rfl, trivial⟩ ?_ | refine c2.makeW hp [1] rfl ⟨rfl, trivial⟩ ?_ | refine Exists.intro (pcl s' m') (And.intro ⟨pcl_len hl, pcl_all hl⟩ ?_) | refine And.intro ⟨pcl_len hl, leR rfl, pcl_ones⟩ ?_ | refine Exists.intro (pcl s' m') (And.intro ⟨leR rfl, spl0 (leR rfl)⟩ ?_) | refine And.intro (neI rfl) ?_ | refine And.intro ⟨rfl, leR rfl, onesR rfl⟩ ?_ | refine And.intro ⟨rfl, leR rfl⟩ ?_ | refine draw_rule2 hfol (fun KK hKK => ?_) | refine hKK _ _ _ (by kernel_rfl) ?_ | refine region_rule (fun KK hKK => ?_) | refine hKK _ _ ?_ | refine And.intro (Eq.refl true) ?_ | refine Exists.intro _ (And.intro (wI (by omega)) ?_) | refine Exists.intro _ (And.intro (wU (by omega)) ?_) | refine Exists.intro _ (And.intro ⟨rfl, by omega⟩ ?_) | refine Exists.intro _ (And.intro rfl ?_) | refine And.intro rfl ?_ | refine And.intro ⟨rfl, rfl⟩ ?_ | ((refine And.intro (fun _ => ?_) (fun _ => ?_)) <;> try (exfalso; omega))))
  exact Exists.intro [] (And.intro (rfl) (And.intro trivial rfl))
theorem s_DrawDiagramText : ∃ s' m', m'.length = 16 ∧ (∀ x ∈ m', x < 256) ∧ SpecW Try.prog W n_s_DrawDiagramText [.raw v] [] (pv s' m') [] := by
  have c1 := s_from hA hN hg
  obtain ⟨s', m', a2, h2, hl, hb, _, c2⟩ := s_spoil hA hN hg 0 (fH g N (min N 4096)) (Nat.zero_le _)
  refine ⟨s', m', hl, hb, ?_⟩
  generalize fH g N (min N 4096) = h0 at c1 c2
  obtain ⟨a, cap, hv⟩ := hA.form
  refine SpecW.of_EV hf_s_DrawDiagramText hc_s_DrawDiagramText rfl rfl rfl fun w0 B ρ0 hW => ?_
  have hp := ArgK.pass (Γ := ⟨w0, B, ([] : List O).length, ρ0⟩) hA hW
  (repeat' (first | refine c1.makeW hp [] rfl trivial ?_ | refine c2.makeW hp [0] rfl ⟨rfl, trivial⟩ ?_ | refine c2.makeW hp [1] rfl ⟨rfl, trivial⟩ ?_ | refine Exists.intro (pcl s' m') (And.intro ⟨pcl_len hl, pcl_all hl⟩ ?_) | refine And.intro ⟨pcl_len hl, leR rfl, pcl_ones⟩ ?_ | refine Exists.intro (pcl s' m') (And.intro ⟨leR rfl, spl0 (leR rfl)⟩ ?_) | refine And.intro (neI rfl) ?_ | refine And.intro ⟨rfl, leR rfl, onesR rfl⟩ ?_ | refine And.intro ⟨rfl, leR rfl⟩ ?_ | refine draw_rule2 hfol (fun KK hKK => ?_) | refine hKK _ _ _ (by kernel_rfl) ?_ | refine region_rule (fun KK hKK => ?_) | refine hKK _ _ ?_ | refine And.intro (Eq.refl true) ?_ | refine Exists.intro _ (And.intro (wI (by omega)) ?_) | refine Exists.intro _ (And.intro (wU (by omega)) ?_) | refine Exists.intro _ (And.intro ⟨rfl, by omega⟩ ?_) | refine Exists.intro _ (And.intro rfl ?_) | refine And.intro rfl ?_ | refine And.intro ⟨rfl, rfl⟩ ?_ | ((refine And.intro (fun _ => ?_) (fun _ => ?_)) <;> try (exfalso; omega))))
  exact Exists.intro [] (And.intro (rfl) (And.intro trivial rfl))
theorem s_DrawUnitDiagram : ∃ r, SpecW Try.prog W n_s_DrawUnitDiagram [.raw v] [] (vi r) [] := by
  have c1 := s_from hA hN hg
  obtain ⟨r, a2, h2, _, c2⟩ := s_near hA hN hg 0 (fH g N (min N 4096)) (Nat.zero_le _) 8 (by omega)
  refine ⟨r, ?_⟩
  generalize fH g N (min N 4096) = h0 at c1 c2
  refine SpecW.of_EV hf_s_DrawUnitDiagram hc_s_DrawUnitDiagram rfl rfl rfl fun w0 B ρ0 hW => ?_
  have hp := ArgK.pass (Γ := ⟨w0, B, ([] : List O).length, ρ0⟩) hA hW
  (repeat' (first | refine c1.makeW hp [] rfl trivial ?_ | refine c2.makeW hp [0] rfl ⟨rfl, trivial⟩ ?_ | refine And.intro (neI rfl) ?_ | refine And.intro ⟨rfl, leR rfl, onesR rfl⟩ ?_ | refine And.intro ⟨rfl, leR rfl⟩ ?_ | refine draw_rule2 hfol (fun KK hKK => ?_) | refine hKK _ _ _ (by kernel_rfl) ?_ | refine region_rule (fun KK hKK => ?_) | refine hKK _ _ ?_ | refine And.intro (Eq.refl true) ?_ | refine Exists.intro _ (And.intro (wI (by omega)) ?_) | refine Exists.intro _ (And.intro (wU (by omega)) ?_) | refine Exists.intro _ (And.intro ⟨rfl, by omega⟩ ?_) | refine Exists.intro _ (And.intro rfl ?_) | refine And.intro rfl ?_ | refine And.intro ⟨rfl, rfl⟩ ?_ | ((refine And.intro (fun _ => ?_) (fun _ => ?_)) <;> try (exfalso; omega))))
  exact Exists.intro [] (And.intro (rfl) (And.intro trivial rfl))
theorem s_two : ∃ s1 m1 s2 m2, m1.length = 16 ∧ (∀ x ∈ m1, x < 256) ∧ m2.length = 16 ∧ (∀ x ∈ m2, x < 256) ∧ SpecW Try.prog W n_s_l01Two [.raw v] [] (.tup [pv s1 m1, pv s2 m2]) [] := by
  have c1 := s_from hA hN hg
  obtain ⟨s1, m1, a2, h2, hl1, hb1, ha2, c2⟩ := s_spoil hA hN hg 0 (fH g N (min N 4096)) (Nat.zero_le _)
  generalize fH g N (min N 4096) = h0 at c1 c2
  obtain ⟨q, h3, hq, c3⟩ := s_nxt hA hN hg a2 h2 ha2 12 (by omega)
  have ha3 := nxA_le ha2
  generalize nxA N a2 = a3 at c3 ha3
  by_cases h0q : q = 0
  · subst h0q
    obtain ⟨s2, m2, a4, h4, hl2, hb2, ha4, c4⟩ := s_spoil hA hN hg a3 h3 ha3
    refine ⟨s1, m1, s2, m2, hl1, hb1, hl2, hb2, ?_⟩
    refine SpecW.of_EV hf_s_l01Two hc_s_l01Two rfl rfl rfl fun w0 B ρ0 hW => ?_
    have hp := ArgK.pass (Γ := ⟨w0, B, ([] : List O).length, ρ0⟩) hA hW
    have hfol : Try.prog.follows .mixedOrders = true := rfl
    (repeat' (first | refine c1.makeW hp [] rfl trivial ?_ | refine c2.makeW hp [2] rfl ⟨rfl, trivial⟩ ?_ | refine c3.makeW hp [2] rfl ⟨rfl, trivial⟩ ?_ | refine c4.makeW hp [2] rfl ⟨rfl, trivial⟩ ?_ | refine Exists.intro (pcl s1 m1) (And.intro ⟨pcl_len hl1, pcl_all hl1⟩ ?_) | refine And.intro ⟨pcl_len hl1, leR rfl, pcl_ones⟩ ?_ | refine Exists.intro (pcl s1 m1) (And.intro ⟨leR rfl, spl0 (leR rfl)⟩ ?_) | refine Exists.intro (pcl s2 m2) (And.intro ⟨pcl_len hl2, pcl_all hl2⟩ ?_) | refine And.intro ⟨pcl_len hl2, leR rfl, pcl_ones⟩ ?_ | refine Exists.intro (pcl s2 m2) (And.intro ⟨leR rfl, spl0 (leR rfl)⟩ ?_) | refine And.intro (neI rfl) ?_ | refine And.intro ⟨rfl, leR rfl, onesR rfl⟩ ?_ | refine And.intro ⟨rfl, leR rfl⟩ ?_ | refine draw_rule2 hfol (fun KK hKK => ?_) | refine hKK _ _ _ (by kernel_rfl) ?_ | refine region_rule (fun KK hKK => ?_) | refine hKK _ _ ?_ | refine And.intro (Eq.refl true) ?_ | refine Exists.intro _ (And.intro (wI (by omega)) ?_) | refine Exists.intro _ (And.intro (wU (by omega)) ?_) | refine Exists.intro _ (And.intro ⟨rfl, by omega⟩ ?_) | refine Exists.intro _ (And.intro rfl ?_) | refine And.intro rfl ?_ | refine And.intro ⟨rfl, rfl⟩ ?_ | ((refine And.intro (fun _ => ?_) (fun _ => ?_)) <;> try (exfalso; omega))))
    exact Exists.intro [] (And.intro (rfl) (And.intro trivial rfl))
  · have hcl : ∃ n : Nat, 1 ≤ n ∧ n ≤ 8 ∧ (if (8 : Int) < (if (1 : Int) > s1 then 1 else s1) then 8 else (if (1 : Int) > s1 then 1 else s1)) = n := by
      refine ⟨(if (8 : Int) < (if (1 : Int) > s1 then 1 else s1) then 8 else (if (1 : Int) > s1 then 1 else s1)).toNat, ?_⟩
      repeat' split
      all_goals omega
    obtain ⟨n, hn1, hn8, hn⟩ := hcl
    obtain ⟨x, hx⟩ : ∃ x, (if (1 : Int) > s1 then 1 else s1) = x := ⟨_, rfl⟩
    rw [hx] at hn
    obtain ⟨m2, a4, h4, hD, ha4, c4⟩ := s_drawOf hA hN hg a3 h3 ha3 n hn1 hn8
    have hl2 := hD.len
    refine ⟨s1, m1, n, m2, hl1, hb1, hl2, byte_D hD, ?_⟩
    refine SpecW.of_EV hf_s_l01Two hc_s_l01Two rfl rfl rfl fun w0 B ρ0 hW => ?_
    have hp := ArgK.pass (Γ := ⟨w0, B, ([] : List O).length, ρ0⟩) hA hW
    have hfol : Try.prog.follows .mixedOrders = true := rfl
    (repeat' (first | refine c1.makeW hp [] rfl trivial ?_ | refine c2.makeW hp [2] rfl ⟨rfl, trivial⟩ ?_ | refine c3.makeW hp [2] rfl ⟨rfl, trivial⟩ ?_ | refine Exists.intro _ (And.intro hx ?_) | refine Exists.intro _ (And.intro hn ?_) | refine c4.makeW hp [2] rfl ⟨rfl, trivial⟩ ?_ | refine Exists.intro (pcl s1 m1) (And.intro ⟨pcl_len hl1, pcl_all hl1⟩ ?_) | refine And.intro ⟨pcl_len hl1, leR rfl, pcl_ones⟩ ?_ | refine Exists.intro (pcl s1 m1) (And.intro ⟨leR rfl, spl0 (leR rfl)⟩ ?_) | refine Exists.intro (pcl (n : Int) m2) (And.intro ⟨pcl_len hl2, pcl_all hl2⟩ ?_) | refine And.intro ⟨pcl_len hl2, leR rfl, pcl_ones⟩ ?_ | refine Exists.intro (pcl (n : Int) m2) (And.intro ⟨leR rfl, spl0 (leR rfl)⟩ ?_) | refine And.intro (neI rfl) ?_ | refine And.intro ⟨rfl, leR rfl, onesR rfl⟩ ?_ | refine And.intro ⟨rfl, leR rfl⟩ ?_ | refine draw_rule2 hfol (fun KK hKK => ?_) | refine hKK _ _ _ (by kernel_rfl) ?_ | refine region_rule (fun KK hKK => ?_) | refine hKK _ _ ?_ | refine And.intro (Eq.refl true) ?_ | refine Exists.intro _ (And.intro (wI (by omega)) ?_) | refine Exists.intro _ (And.intro (wU (by omega)) ?_) | refine Exists.intro _ (And.intro ⟨rfl, by omega⟩ ?_) | refine Exists.intro _ (And.intro rfl ?_) | refine And.intro rfl ?_ | refine And.intro ⟨rfl, rfl⟩ ?_ | ((refine And.intro (fun _ => ?_) (fun _ => ?_)) <;> try (exfalso; omega))))
    exact Exists.intro [] (And.intro (rfl) (And.intro trivial rfl))
theorem s_DrawMultiplyDiagrams : ∃ s1 m1 s2 m2, m1.length = 16 ∧ (∀ x ∈ m1, x < 256) ∧ m2.length = 16 ∧ (∀ x ∈ m2, x < 256) ∧ SpecW Try.prog W n_s_DrawMultiplyDiagrams [.raw v] [] (.tup [pv s1 m1, pv s2 m2]) [] := by
  obtain ⟨s1, m1, s2, m2, hl1, hb1, hl2, hb2, c1⟩ := s_two hA hN hg
  refine ⟨s1, m1, s2, m2, hl1, hb1, hl2, hb2, ?_⟩
  refine SpecW.of_EV hf_s_DrawMultiplyDiagrams hc_s_DrawMultiplyDiagrams rfl rfl rfl fun w0 B ρ0 hW => ?_
  have hp := ArgK.pass (Γ := ⟨w0, B, ([] : List O).length, ρ0⟩) hA hW
  (repeat' (first | refine c1.makeW hp [] rfl trivial ?_ | refine Exists.intro (pcl s1 m1) (And.intro ⟨pcl_len hl1, pcl_all hl1⟩ ?_) | refine And.intro ⟨pcl_len hl1, leR rfl, pcl_ones⟩ ?_ | refine Exists.intro (pcl s1 m1) (And.intro ⟨leR rfl, spl0 (leR rfl)⟩ ?_) | refine Exists.intro (pcl s2 m2) (And.intro ⟨pcl_len hl2, pcl_all hl2⟩ ?_) | refine And.intro ⟨pcl_len hl2, leR rfl, pcl_ones⟩ ?_ | refine Exists.intro (pcl s2 m2) (And.intro ⟨leR rfl, spl0 (leR rfl)⟩ ?_) | refine And.intro (neI rfl) ?_ | refine And.intro ⟨rfl, leR rfl, onesR rfl⟩ ?_ | refine And.intro ⟨rfl, leR rfl⟩ ?_ | refine draw_rule2 hfol (fun KK hKK => ?_) | refine hKK _ _ _ (by kernel_rfl) ?_ | refine region_rule (fun KK hKK => ?_) | refine hKK _ _ ?_ | refine And.intro (Eq.refl true) ?_ | refine Exists.intro _ (And.intro (wI (by omega)) ?_) | refine Exists.intro _ (And.intro (wU (by omega)) ?_) | refine Exists.intro _ (And.intro ⟨rfl, by omega⟩ ?_) | refine Exists.intro _ (And.intro rfl ?_) | refine And.intro rfl ?_ | refine And.intro ⟨rfl, rfl⟩ ?_ | ((refine And.intro (fun _ => ?_) (fun _ => ?_)) <;> try (exfalso; omega))))
  exact Exists.intro [] (And.intro (rfl) (And.intro trivial rfl))
end
/-! the unit and generators -/
def unR (n : Int) : Int × List Nat × Int := if 1 ≤ n ∧ n ≤ 8 then (n, un n.toNat, 0) else (0, List.replicate 16 0, 2)
theorem unR_len (n : Int) : (unR n).2.1.length = 16 := by unfold unR; split <;> simp [un_len]
theorem s_iUnit (n : Int) : Spec Try.prog n_i_UnitDiagram [vi n] [] (dV (unR n)) [] := by
  have hi := s_iin n 1 8
  unfold unR
  by_cases h : 1 ≤ n ∧ n ≤ 8
  · rw [decide_eq_true h] at hi
    rw [if_pos h]
    obtain ⟨k, rfl⟩ : ∃ k : Nat, n = k := ⟨n.toNat, by omega⟩
    have hu := s_iunit k (by omega) (by omega)
    rw [Int.toNat_natCast]
    refine SpecW.of_EV hf_i_UnitDiagram hc_i_UnitDiagram rfl rfl rfl fun w0 B ρ0 _ => ?_
    (repeat' (first | refine (hi).pure rfl ?_ | refine (hu).pure rfl ?_ | refine Exists.intro (pcl (k : Int) (un k)) (And.intro ⟨pcl_len un_len, pcl_all un_len⟩ ?_) | refine And.intro ⟨pcl_len un_len, leR rfl, pcl_ones⟩ ?_ | refine Exists.intro (pcl (k : Int) (un k)) (And.intro ⟨leR rfl, spl0 (leR rfl)⟩ ?_) | refine And.intro (neI rfl) ?_ | refine And.intro ⟨rfl, leR rfl, onesR rfl⟩ ?_ | refine And.intro ⟨rfl, leR rfl⟩ ?_ | refine draw_rule2 hfol (fun KK hKK => ?_) | refine hKK _ _ _ (by kernel_rfl) ?_ | refine region_rule (fun KK hKK => ?_) | refine hKK _ _ ?_ | refine And.intro (Eq.refl true) ?_ | refine Exists.intro _ (And.intro (wI (by omega)) ?_) | refine Exists.intro _ (And.intro (wU (by omega)) ?_) | refine Exists.intro _ (And.intro ⟨rfl, by omega⟩ ?_) | refine Exists.intro _ (And.intro rfl ?_) | refine And.intro rfl ?_ | refine And.intro ⟨rfl, rfl⟩ ?_ | ((refine And.intro (fun _ => ?_) (fun _ => ?_)) <;> try (exfalso; omega))))
    exact Exists.intro [] (And.intro (rfl) (And.intro trivial rfl))
  · rw [decide_eq_false h] at hi
    rw [if_neg h]
    refine SpecW.of_EV hf_i_UnitDiagram hc_i_UnitDiagram rfl rfl rfl fun w0 B ρ0 _ => ?_
    (repeat' (first | refine (hi).pure rfl ?_ | refine Exists.intro (pcl 0 (List.replicate 16 0)) (And.intro ⟨leR rfl, rfl⟩ ?_) | refine Exists.intro (pcl 0 (List.replicate 16 0)) (And.intro ⟨rfl, rfl⟩ ?_) | refine And.intro (neI rfl) ?_ | refine And.intro ⟨rfl, leR rfl, onesR rfl⟩ ?_ | refine And.intro ⟨rfl, leR rfl⟩ ?_ | refine draw_rule2 hfol (fun KK hKK => ?_) | refine hKK _ _ _ (by kernel_rfl) ?_ | refine region_rule (fun KK hKK => ?_) | refine hKK _ _ ?_ | refine And.intro (Eq.refl true) ?_ | refine Exists.intro _ (And.intro (wI (by omega)) ?_) | refine Exists.intro _ (And.intro (wU (by omega)) ?_) | refine Exists.intro _ (And.intro ⟨rfl, by omega⟩ ?_) | refine Exists.intro _ (And.intro rfl ?_) | refine And.intro rfl ?_ | refine And.intro ⟨rfl, rfl⟩ ?_ | ((refine And.intro (fun _ => ?_) (fun _ => ?_)) <;> try (exfalso; omega))))
    exact Exists.intro [] (And.intro (rfl) (And.intro trivial rfl))
theorem s_sUnit (n : Int) : Spec Try.prog n_s_UnitDiagram [vi n] [] (dV (unR n)) [] := by
  have hi := s_in n 1 8
  unfold unR
  by_cases h : 1 ≤ n ∧ n ≤ 8
  · rw [decide_eq_true h] at hi
    rw [if_pos h]
    obtain ⟨k, rfl⟩ : ∃ k : Nat, n = k := ⟨n.toNat, by omega⟩
    have hu := s_sone k (by omega) (by omega)
    rw [Int.toNat_natCast]
    refine SpecW.of_EV hf_s_UnitDiagram hc_s_UnitDiagram rfl rfl rfl fun w0 B ρ0 _ => ?_
    (repeat' (first | refine (hi).pure rfl ?_ | refine (hu).pure rfl ?_ | refine Exists.intro (pcl (k : Int) (un k)) (And.intro ⟨pcl_len un_len, pcl_all un_len⟩ ?_) | refine And.intro ⟨pcl_len un_len, leR rfl, pcl_ones⟩ ?_ | refine Exists.intro (pcl (k : Int) (un k)) (And.intro ⟨leR rfl, spl0 (leR rfl)⟩ ?_) | refine And.intro (neI rfl) ?_ | refine And.intro ⟨rfl, leR rfl, onesR rfl⟩ ?_ | refine And.intro ⟨rfl, leR rfl⟩ ?_ | refine draw_rule2 hfol (fun KK hKK => ?_) | refine hKK _ _ _ (by kernel_rfl) ?_ | refine region_rule (fun KK hKK => ?_) | refine hKK _ _ ?_ | refine And.intro (Eq.refl true) ?_ | refine Exists.intro _ (And.intro (wI (by omega)) ?_) | refine Exists.intro _ (And.intro (wU (by omega)) ?_) | refine Exists.intro _ (And.intro ⟨rfl, by omega⟩ ?_) | refine Exists.intro _ (And.intro rfl ?_) | refine And.intro rfl ?_ | refine And.intro ⟨rfl, rfl⟩ ?_ | ((refine And.intro (fun _ => ?_) (fun _ => ?_)) <;> try (exfalso; omega))))
    exact Exists.intro [] (And.intro (rfl) (And.intro trivial rfl))
  · rw [decide_eq_false h] at hi
    rw [if_neg h]
    refine SpecW.of_EV hf_s_UnitDiagram hc_s_UnitDiagram rfl rfl rfl fun w0 B ρ0 _ => ?_
    (repeat' (first | refine (hi).pure rfl ?_ | refine Exists.intro (pcl 0 (List.replicate 16 0)) (And.intro ⟨leR rfl, rfl⟩ ?_) | refine Exists.intro (pcl 0 (List.replicate 16 0)) (And.intro ⟨rfl, rfl⟩ ?_) | refine And.intro (neI rfl) ?_ | refine And.intro ⟨rfl, leR rfl, onesR rfl⟩ ?_ | refine And.intro ⟨rfl, leR rfl⟩ ?_ | refine draw_rule2 hfol (fun KK hKK => ?_) | refine hKK _ _ _ (by kernel_rfl) ?_ | refine region_rule (fun KK hKK => ?_) | refine hKK _ _ ?_ | refine And.intro (Eq.refl true) ?_ | refine Exists.intro _ (And.intro (wI (by omega)) ?_) | refine Exists.intro _ (And.intro (wU (by omega)) ?_) | refine Exists.intro _ (And.intro ⟨rfl, by omega⟩ ?_) | refine Exists.intro _ (And.intro rfl ?_) | refine And.intro rfl ?_ | refine And.intro ⟨rfl, rfl⟩ ?_ | ((refine And.intro (fun _ => ?_) (fun _ => ?_)) <;> try (exfalso; omega))))
    exact Exists.intro [] (And.intro (rfl) (And.intro trivial rfl))
end Go.Proofs.Ytgpgcdofhkpeaaa.VE
namespace Go.Proofs.Ytgpgcdofhkpeaaa.VE
open Go
set_option maxHeartbeats 1600000
set_option maxRecDepth 100000

/-! what FnShapes draws -/
attribute [local irreducible] IntKind.wrap
section
variable {W : World → (Nat → Prop) → Prop} {v : Value} {g : Nat → Int} {N : Nat} (hA : ArgK .u8 W v g N) (hN : N ≤ 1048576) (hg : ∀ j, j < N → 0 ≤ g j ∧ g j < 256)
include hA hN hg
theorem s_DrawUnionDiagram : ∃ s1 m1 s2 m2, m1.length = 16 ∧ (∀ x ∈ m1, x < 256) ∧ m2.length = 16 ∧ (∀ x ∈ m2, x < 256) ∧ SpecW Try.prog W n_s_DrawUnionDiagram [.raw v] [] (.tup [pv s1 m1, pv s2 m2]) [] := by
  have c1 := s_from hA hN hg
  have ha0 : 0 ≤ N := Nat.zero_le _
  generalize fH g N (min N 4096) = h0 at c1
  obtain ⟨q, h1, hq, c2⟩ := s_nxt hA hN hg 0 h0 ha0 4 (by omega)
  have ha1 := nxA_le ha0
  generalize nxA N 0 = a1 at c2 ha1
  by_cases h0q : q = 0
  · subst h0q
    obtain ⟨s1, m1, a2, h2, hl1, hb1, ha2, c3⟩ := s_spoil hA hN hg a1 h1 ha1
    obtain ⟨s2, m2, a3, h3, hl2, hb2, ha3, c4⟩ := s_spoil hA hN hg a2 h2 ha2
    refine ⟨s1, m1, s2, m2, hl1, hb1, hl2, hb2, ?_⟩
    refine SpecW.of_EV hf_s_DrawUnionDiagram hc_s_DrawUnionDiagram rfl rfl rfl fun w0 B ρ0 hW => ?_
    have hp := ArgK.pass (Γ := ⟨w0, B, ([] : List O).length, ρ0⟩) hA hW
    (repeat' (first | refine c1.makeW hp [] rfl trivial ?_ | refine c2.makeW hp [2] rfl ⟨rfl, trivial⟩ ?_ | refine c3.makeW hp [2] rfl ⟨rfl, trivial⟩ ?_ | refine c4.makeW hp [2] rfl ⟨rfl, trivial⟩ ?_ | refine Exists.intro (pcl s1 m1) (And.intro ⟨pcl_len hl1, pcl_all hl1⟩ ?_) | refine And.intro ⟨pcl_len hl1, leR rfl, pcl_ones⟩ ?_ | refine Exists.intro (pcl s1 m1) (And.intro ⟨leR rfl, spl0 (leR rfl)⟩ ?_) | refine Exists.intro (pcl s2 m2) (And.intro ⟨pcl_len hl2, pcl_all hl2⟩ ?_) | refine And.intro ⟨pcl_len hl2, leR rfl, pcl_ones⟩ ?_ | refine Exists.intro (pcl s2 m2) (And.intro ⟨leR rfl, spl0 (leR rfl)⟩ ?_) | refine And.intro (neI rfl) ?_ | refine And.intro ⟨rfl, leR rfl, onesR rfl⟩ ?_ | refine And.intro ⟨rfl, leR rfl⟩ ?_ | refine draw_rule2 hfol (fun KK hKK => ?_) | refine hKK _ _ _ (by kernel_rfl) ?_ | refine region_rule (fun KK hKK => ?_) | refine hKK _ _ ?_ | refine And.intro (Eq.refl true) ?_ | refine Exists.intro _ (And.intro (wI (by omega)) ?_) | refine Exists.intro _ (And.intro (wU (by omega)) ?_) | refine Exists.intro _ (And.intro ⟨rfl, by omega⟩ ?_) | refine Exists.intro _ (And.intro rfl ?_) | refine And.intro rfl ?_ | refine And.intro ⟨rfl, rfl⟩ ?_ | ((refine And.intro (fun _ => ?_) (fun _ => ?_)) <;> try (exfalso; omega))))
    exact Exists.intro [] (And.intro (rfl) (And.intro trivial rfl))
  · obtain ⟨x, h2, hx, c3⟩ := s_nxt hA hN hg a1 h1 ha1 4 (by omega)
    have ha2 := nxA_le ha1
    generalize nxA N a1 = a2 at c3 ha2
    obtain ⟨m0, a3, h3, hD0, ha3, c4⟩ := s_drawOf hA hN hg a2 h2 ha2 (x + 1) (by omega) (by omega)
    obtain ⟨s1, m1, a4, h4, hl1, hb1, ha4, c5⟩ := s_bad hA hN hg a3 h3 ha3 (x + 1) m0 hD0
    obtain ⟨y, h5, hy, c6⟩ := s_nxt hA hN hg a4 h4 ha4 4 (by omega)
    have ha5 := nxA_le ha4
    generalize nxA N a4 = a5 at c6 ha5
    obtain ⟨m2, a6, h6, hD2, ha6, c7⟩ := s_drawOf hA hN hg a5 h5 ha5 (y + 1) (by omega) (by omega)
    have hl0 := hD0.len
    have hl2 := hD2.len
    have w1 : IntKind.i64.wrap (1 + (x : Int)) = ((x + 1 : Nat) : Int) := wC (by omega) (by omega)
    have w2 : IntKind.i64.wrap (1 + (y : Int)) = ((y + 1 : Nat) : Int) := wC (by omega) (by omega)
    refine ⟨s1, m1, _, m2, hl1, hb1, hl2, byte_D hD2, (?_ : SpecW Try.prog W n_s_DrawUnionDiagram [.raw v] [] (.tup [pv s1 m1, pv ((y + 1 : Nat) : Int) m2]) [])⟩
    generalize hyy : ((y + 1 : Nat) : Int) = Y at c7 w2 ⊢
    generalize hxx : ((x + 1 : Nat) : Int) = X at c4 c5 w1
    refine SpecW.of_EV hf_s_DrawUnionDiagram hc_s_DrawUnionDiagram rfl rfl rfl fun w0 B ρ0 hW => ?_
    have hp := ArgK.pass (Γ := ⟨w0, B, ([] : List O).length, ρ0⟩) hA hW
    (repeat' (first | refine c1.makeW hp [] rfl trivial ?_ | refine c2.makeW hp [2] rfl ⟨rfl, trivial⟩ ?_ | refine c3.makeW hp [2] rfl ⟨rfl, trivial⟩ ?_ | refine Exists.intro _ (And.intro w1 ?_) | refine c4.makeW hp [2] rfl ⟨rfl, trivial⟩ ?_ | refine c5.makeW hp [2] rfl ⟨rfl, trivial⟩ ?_ | refine c6.makeW hp [2] rfl ⟨rfl, trivial⟩ ?_ | refine Exists.intro _ (And.intro w2 ?_) | refine c7.makeW hp [2] rfl ⟨rfl, trivial⟩ ?_ | refine Exists.intro (pcl s1 m1) (And.intro ⟨pcl_len hl1, pcl_all hl1⟩ ?_) | refine And.intro ⟨pcl_len hl1, leR rfl, pcl_ones⟩ ?_ | refine Exists.intro (pcl s1 m1) (And.intro ⟨leR rfl, spl0 (leR rfl)⟩ ?_) | refine Exists.intro (pcl Y m2) (And.intro ⟨pcl_len hl2, pcl_all hl2⟩ ?_) | refine And.intro ⟨pcl_len hl2, leR rfl, pcl_ones⟩ ?_ | refine Exists.intro (pcl Y m2) (And.intro ⟨leR rfl, spl0 (leR rfl)⟩ ?_) | refine And.intro (neI rfl) ?_ | refine And.intro ⟨rfl, leR rfl, onesR rfl⟩ ?_ | refine And.intro ⟨rfl, leR rfl⟩ ?_ | refine draw_rule2 hfol (fun KK hKK => ?_) | refine hKK _ _ _ (by kernel_rfl) ?_ | refine region_rule (fun KK hKK => ?_) | refine hKK _ _ ?_ | refine And.intro (Eq.refl true) ?_ | refine Exists.intro _ (And.intro (wI (by omega)) ?_) | refine Exists.intro _ (And.intro (wU (by omega)) ?_) | refine Exists.intro _ (And.intro ⟨rfl, by omega⟩ ?_) | refine Exists.intro _ (And.intro rfl ?_) | refine And.intro rfl ?_ | refine And.intro ⟨rfl, rfl⟩ ?_ | ((refine And.intro (fun _ => ?_) (fun _ => ?_)) <;> try (exfalso; omega))))
    exact Exists.intro [] (And.intro (rfl) (And.intro trivial rfl))
theorem s_DrawGeneratorDiagram : ∃ n i, SpecW Try.prog W n_s_DrawGeneratorDiagram [.raw v] [] (.tup [vi n, vi i]) [] := by
  have c1 := s_from hA hN hg
  obtain ⟨r, a1, h1, ha1, c2⟩ := s_near hA hN hg 0 (fH g N (min N 4096)) (Nat.zero_le _) 7 (by omega)
  generalize fH g N (min N 4096) = h0 at c1 c2
  obtain ⟨n, w1⟩ : ∃ n, IntKind.i64.wrap (1 + r) = n := ⟨_, rfl⟩
  obtain ⟨z, w2⟩ : ∃ z, IntKind.i64.wrap (n - 2) = z := ⟨_, rfl⟩
  obtain ⟨x, w3⟩ : ∃ x, (if (0 : Int) > z then 0 else z) = x := ⟨_, rfl⟩
  obtain ⟨m, w4, hm⟩ : ∃ m : Nat, (if (8 : Int) < x then 8 else x) = m ∧ m ≤ 1000 := by
    have hx : 0 ≤ x := by rw [← w3]; split <;> omega
    refine ⟨(if (8 : Int) < x then 8 else x).toNat, ?_, ?_⟩
    · split <;> omega
    · split <;> omega
  obtain ⟨i, a2, h2, ha2, c3⟩ := s_near hA hN hg a1 h1 ha1 m hm
  refine ⟨n, i, ?_⟩
  refine SpecW.of_EV hf_s_DrawGeneratorDiagram hc_s_DrawGeneratorDiagram rfl rfl rfl fun w0 B ρ0 hW => ?_
  have hp := ArgK.pass (Γ := ⟨w0, B, ([] : List O).length, ρ0⟩) hA hW
  (repeat' (first | refine c1.makeW hp [] rfl trivial ?_ | refine c2.makeW hp [0] rfl ⟨rfl, trivial⟩ ?_ | refine Exists.intro _ (And.intro w1 ?_) | refine Exists.intro _ (And.intro w2 ?_) | refine Exists.intro _ (And.intro w3 ?_) | refine Exists.intro _ (And.intro w4 ?_) | refine c3.makeW hp [0] rfl ⟨rfl, trivial⟩ ?_ | refine And.intro (neI rfl) ?_ | refine And.intro ⟨rfl, leR rfl, onesR rfl⟩ ?_ | refine And.intro ⟨rfl, leR rfl⟩ ?_ | refine draw_rule2 hfol (fun KK hKK => ?_) | refine hKK _ _ _ (by kernel_rfl) ?_ | refine region_rule (fun KK hKK => ?_) | refine hKK _ _ ?_ | refine And.intro (Eq.refl true) ?_ | refine Exists.intro _ (And.intro (wI (by omega)) ?_) | refine Exists.intro _ (And.intro (wU (by omega)) ?_) | refine Exists.intro _ (And.intro ⟨rfl, by omega⟩ ?_) | refine Exists.intro _ (And.intro rfl ?_) | refine And.intro rfl ?_ | refine And.intro ⟨rfl, rfl⟩ ?_ | ((refine And.intro (fun _ => ?_) (fun _ => ?_)) <;> try (exfalso; omega))))
  exact Exists.intro [] (And.intro (rfl) (And.intro trivial rfl))
end
/-! generators -/
def geR (n i : Int) : Int × List Nat × Int := if (2 ≤ n ∧ n ≤ 8) ∧ 0 ≤ i ∧ i ≤ n - 2 then (n, gen n.toNat i.toNat, 0) else (0, List.replicate 16 0, 2)
theorem geR_len (n i : Int) : (geR n i).2.1.length = 16 := by unfold geR; split <;> simp [gen_len]
theorem s_iGen (n i : Int) : Spec Try.prog n_i_GeneratorDiagram [vi n, vi i] [] (dV (geR n i)) [] := by
  have h1 := s_iin n 2 8
  have h2 := s_iin i 0 (n - 2)
  unfold geR
  by_cases hn : 2 ≤ n ∧ n ≤ 8
  · rw [decide_eq_true hn] at h1
    have w1 : IntKind.i64.wrap (n - 2) = n - 2 := wI (by omega)
    by_cases hi : 0 ≤ i ∧ i ≤ n - 2
    · rw [decide_eq_true hi] at h2
      rw [if_pos ⟨hn, hi⟩]
      obtain ⟨k, rfl⟩ : ∃ k : Nat, n = k := ⟨n.toNat, by omega⟩
      obtain ⟨j, rfl⟩ : ∃ j : Nat, i = j := ⟨i.toNat, by omega⟩
      have hg := s_igen k j (by omega) (by omega)
      rw [Int.toNat_natCast, Int.toNat_natCast]
      refine SpecW.of_EV hf_i_GeneratorDiagram hc_i_GeneratorDiagram rfl rfl rfl fun w0 B ρ0 _ => ?_
      (repeat' (first | refine Exists.intro _ (And.intro w1 ?_) | refine (h1).pure rfl ?_ | refine (h2).pure rfl ?_ | refine (hg).pure rfl ?_ | refine Exists.intro (pcl (k : Int) (gen k j)) (And.intro ⟨pcl_len gen_len, pcl_all gen_len⟩ ?_) | refine And.intro ⟨pcl_len gen_len, leR rfl, pcl_ones⟩ ?_ | refine Exists.intro (pcl (k : Int) (gen k j)) (And.intro ⟨leR rfl, spl0 (leR rfl)⟩ ?_) | refine And.intro (neI rfl) ?_ | refine And.intro ⟨rfl, leR rfl, onesR rfl⟩ ?_ | refine And.intro ⟨rfl, leR rfl⟩ ?_ | refine draw_rule2 hfol (fun KK hKK => ?_) | refine hKK _ _ _ (by kernel_rfl) ?_ | refine region_rule (fun KK hKK => ?_) | refine hKK _ _ ?_ | refine And.intro (Eq.refl true) ?_ | refine Exists.intro _ (And.intro (wI (by omega)) ?_) | refine Exists.intro _ (And.intro (wU (by omega)) ?_) | refine Exists.intro _ (And.intro ⟨rfl, by omega⟩ ?_) | refine Exists.intro _ (And.intro rfl ?_) | refine And.intro rfl ?_ | refine And.intro ⟨rfl, rfl⟩ ?_ | ((refine And.intro (fun _ => ?_) (fun _ => ?_)) <;> try (exfalso; omega))))
      exact Exists.intro [] (And.intro (rfl) (And.intro trivial rfl))
    · rw [decide_eq_false hi] at h2
      rw [if_neg fun h => hi h.2]
      refine SpecW.of_EV hf_i_GeneratorDiagram hc_i_GeneratorDiagram rfl rfl rfl fun w0 B ρ0 _ => ?_
      (repeat' (first | refine Exists.intro _ (And.intro w1 ?_) | refine (h1).pure rfl ?_ | refine (h2).pure rfl ?_ | refine Exists.intro (pcl 0 (List.replicate 16 0)) (And.intro ⟨leR rfl, rfl⟩ ?_) | refine Exists.intro (pcl 0 (List.replicate 16 0)) (And.intro ⟨rfl, rfl⟩ ?_) | refine And.intro (neI rfl) ?_ | refine And.intro ⟨rfl, leR rfl, onesR rfl⟩ ?_ | refine And.intro ⟨rfl, leR rfl⟩ ?_ | refine draw_rule2 hfol (fun KK hKK => ?_) | refine hKK _ _ _ (by kernel_rfl) ?_ | refine region_rule (fun KK hKK => ?_) | refine hKK _ _ ?_ | refine And.intro (Eq.refl true) ?_ | refine Exists.intro _ (And.intro (wI (by omega)) ?_) | refine Exists.intro _ (And.intro (wU (by omega)) ?_) | refine Exists.intro _ (And.intro ⟨rfl, by omega⟩ ?_) | refine Exists.intro _ (And.intro rfl ?_) | refine And.intro rfl ?_ | refine And.intro ⟨rfl, rfl⟩ ?_ | ((refine And.intro (fun _ => ?_) (fun _ => ?_)) <;> try (exfalso; omega))))
      exact Exists.intro [] (And.intro (rfl) (And.intro trivial rfl))
  · rw [decide_eq_false hn] at h1
    rw [if_neg fun h => hn h.1]
    refine SpecW.of_EV hf_i_GeneratorDiagram hc_i_GeneratorDiagram rfl rfl rfl fun w0 B ρ0 _ => ?_
    (repeat' (first | refine (h1).pure rfl ?_ | refine Exists.intro (pcl 0 (List.replicate 16 0)) (And.intro ⟨leR rfl, rfl⟩ ?_) | refine Exists.intro (pcl 0 (List.replicate 16 0)) (And.intro ⟨rfl, rfl⟩ ?_) | refine And.intro (neI rfl) ?_ | refine And.intro ⟨rfl, leR rfl, onesR rfl⟩ ?_ | refine And.intro ⟨rfl, leR rfl⟩ ?_ | refine draw_rule2 hfol (fun KK hKK => ?_) | refine hKK _ _ _ (by kernel_rfl) ?_ | refine region_rule (fun KK hKK => ?_) | refine hKK _ _ ?_ | refine And.intro (Eq.refl true) ?_ | refine Exists.intro _ (And.intro (wI (by omega)) ?_) | refine Exists.intro _ (And.intro (wU (by omega)) ?_) | refine Exists.intro _ (And.intro ⟨rfl, by omega⟩ ?_) | refine Exists.intro _ (And.intro rfl ?_) | refine And.intro rfl ?_ | refine And.intro ⟨rfl, rfl⟩ ?_ | ((refine And.intro (fun _ => ?_) (fun _ => ?_)) <;> try (exfalso; omega))))
    exact Exists.intro [] (And.intro (rfl) (And.intro trivial rfl))
theorem s_sGen (n i : Int) : Spec Try.prog n_s_GeneratorDiagram [vi n, vi i] [] (dV (geR n i)) [] := by
  have h1 := s_in n 2 8
  have h2 := s_in i 0 (n - 2)
  unfold geR
  by_cases hn : 2 ≤ n ∧ n ≤ 8
  · rw [decide_eq_true hn] at h1
    have w1 : IntKind.i64.wrap (n - 2) = n - 2 := wI (by omega)
    by_cases hi : 0 ≤ i ∧ i ≤ n - 2
    · rw [decide_eq_true hi] at h2
      rw [if_pos ⟨hn, hi⟩]
      obtain ⟨k, rfl⟩ : ∃ k : Nat, n = k := ⟨n.toNat, by omega⟩
      obtain ⟨j, rfl⟩ : ∃ j : Nat, i = j := ⟨i.toNat, by omega⟩
      have hg := s_scup k j (by omega) (by omega)
      rw [Int.toNat_natCast, Int.toNat_natCast]
      refine SpecW.of_EV hf_s_GeneratorDiagram hc_s_GeneratorDiagram rfl rfl rfl fun w0 B ρ0 _ => ?_
      (repeat' (first | refine Exists.intro _ (And.intro w1 ?_) | refine (h1).pure rfl ?_ | refine (h2).pure rfl ?_ | refine (hg).pure rfl ?_ | refine Exists.intro (pcl (k : Int) (gen k j)) (And.intro ⟨pcl_len gen_len, pcl_all gen_len⟩ ?_) | refine And.intro ⟨pcl_len gen_len, leR rfl, pcl_ones⟩ ?_ | refine Exists.intro (pcl (k : Int) (gen k j)) (And.intro ⟨leR rfl, spl0 (leR rfl)⟩ ?_) | refine And.intro (neI rfl) ?_ | refine And.intro ⟨rfl, leR rfl, onesR rfl⟩ ?_ | refine And.intro ⟨rfl, leR rfl⟩ ?_ | refine draw_rule2 hfol (fun KK hKK => ?_) | refine hKK _ _ _ (by kernel_rfl) ?_ | refine region_rule (fun KK hKK => ?_) | refine hKK _ _ ?_ | refine And.intro (Eq.refl true) ?_ | refine Exists.intro _ (And.intro (wI (by omega)) ?_) | refine Exists.intro _ (And.intro (wU (by omega)) ?_) | refine Exists.intro _ (And.intro ⟨rfl, by omega⟩ ?_) | refine Exists.intro _ (And.intro rfl ?_) | refine And.intro rfl ?_ | refine And.intro ⟨rfl, rfl⟩ ?_ | ((refine And.intro (fun _ => ?_) (fun _ => ?_)) <;> try (exfalso; omega))))
      exact Exists.intro [] (And.intro (rfl) (And.intro trivial rfl))
    · rw [decide_eq_false hi] at h2
      rw [if_neg fun h => hi h.2]
      refine SpecW.of_EV hf_s_GeneratorDiagram hc_s_GeneratorDiagram rfl rfl rfl fun w0 B ρ0 _ => ?_
      (repeat' (first | refine Exists.intro _ (And.intro w1 ?_) | refine (h1).pure rfl ?_ | refine (h2).pure rfl ?_ | refine Exists.intro (pcl 0 (List.replicate 16 0)) (And.intro ⟨leR rfl, rfl⟩ ?_) | refine Exists.intro (pcl 0 (List.replicate 16 0)) (And.intro ⟨rfl, rfl⟩ ?_) | refine And.intro (neI rfl) ?_ | refine And.intro ⟨rfl, leR rfl, onesR rfl⟩ ?_ | refine And.intro ⟨rfl, leR rfl⟩ ?_ | refine draw_rule2 hfol (fun KK hKK => ?_) | refine hKK _ _ _ (by kernel_rfl) ?_ | refine region_rule (fun KK hKK => ?_) | refine hKK _ _ ?_ | refine And.intro (Eq.refl true) ?_ | refine Exists.intro _ (And.intro (wI (by omega)) ?_) | refine Exists.intro _ (And.intro (wU (by omega)) ?_) | refine Exists.intro _ (And.intro ⟨rfl, by omega⟩ ?_) | refine Exists.intro _ (And.intro rfl ?_) | refine And.intro rfl ?_ | refine And.intro ⟨rfl, rfl⟩ ?_ | ((refine And.intro (fun _ => ?_) (fun _ => ?_)) <;> try (exfalso; omega))))
      exact Exists.intro [] (And.intro (rfl) (And.intro trivial rfl))
  · rw [decide_eq_false hn] at h1
    rw [if_neg fun h => hn h.1]
    refine SpecW.of_EV hf_s_GeneratorDiagram hc_s_GeneratorDiagram rfl rfl rfl fun w0 B ρ0 _ => ?_
    (repeat' (first | refine (h1).pure rfl ?_ | refine Exists.intro (pcl 0 (List.replicate 16 0)) (And.intro ⟨leR rfl, rfl⟩ ?_) | refine Exists.intro (pcl 0 (List.replicate 16 0)) (And.intro ⟨rfl, rfl⟩ ?_) | refine And.intro (neI rfl) ?_ | refine And.intro ⟨rfl, leR rfl, onesR rfl⟩ ?_ | refine And.intro ⟨rfl, leR rfl⟩ ?_ | refine draw_rule2 hfol (fun KK hKK => ?_) | refine hKK _ _ _ (by kernel_rfl) ?_ | refine region_rule (fun KK hKK => ?_) | refine hKK _ _ ?_ | refine And.intro (Eq.refl true) ?_ | refine Exists.intro _ (And.intro (wI (by omega)) ?_) | refine Exists.intro _ (And.intro (wU (by omega)) ?_) | refine Exists.intro _ (And.intro ⟨rfl, by omega⟩ ?_) | refine Exists.intro _ (And.intro rfl ?_) | refine And.intro rfl ?_ | refine And.intro ⟨rfl, rfl⟩ ?_ | ((refine And.intro (fun _ => ?_) (fun _ => ?_)) <;> try (exfalso; omega))))
    exact Exists.intro [] (And.intro (rfl) (And.intro trivial rfl))
end Go.Proofs.Ytgpgcdofhkpeaaa.VE
namespace Go.Proofs.Ytgpgcdofhkpeaaa.VE
open Go
set_option maxHeartbeats 3200000
set_option maxRecDepth 100000

/-! what FnLists draws -/
def fillS (c : List Value) : List ByteArray → Nat → List Value
  | [], _ => c
  | a :: r, i => fillS (c.take (i * 1) ++ (Value.string a).cells.toList ++ c.drop (i * 1 + 1)) r (i + 1)
theorem oneS_len {c : List Value} {a : ByteArray} {i : Nat} (h : i < c.length) : (c.take (i * 1) ++ (Value.string a).cells.toList ++ c.drop (i * 1 + 1)).length = c.length := by
  simp [Value.cells]; omega
theorem fillS_len : ∀ (l : List ByteArray) (c : List Value) (i : Nat), i + l.length ≤ c.length → (fillS c l i).length = c.length
  | [], _, _, _ => rfl
  | a :: r, c, i, h => by
    simp only [List.length_cons] at h
    have h1 := oneS_len (c := c) (a := a) (i := i) (by omega)
    rw [fillS, fillS_len r _ (i + 1) (by rw [h1]; omega), h1]
theorem fillS_eq : ∀ (l : List ByteArray) (c : List Value) (i : Nat), i + l.length = c.length → fillS c l i = c.take i ++ l.map (Value.string)
  | [], c, i, h => by
    simp only [List.length_nil, Nat.add_zero] at h
    rw [fillS, List.map_nil, List.append_nil, List.take_of_length_le (by omega)]
  | a :: r, c, i, h => by
    simp only [List.length_cons] at h
    have h1 := oneS_len (c := c) (a := a) (i := i) (by omega)
    rw [fillS, fillS_eq r _ (i + 1) (by rw [h1]; omega), Nat.mul_one]
    have e : (c.take i ++ (Value.string a).cells.toList ++ c.drop (i + 1)).take (i + 1) = c.take i ++ [Value.string a] := by
      rw [List.take_append_of_le_length (by simp [Value.cells]; omega), List.take_of_length_le (by simp [Value.cells]; omega)]
      rfl
    rw [e]; simp
theorem row_s {z : Array Value} {K : Nat} (l : List ByteArray) (hK : K = l.length) : fillS (madeCells z (K * 1)).toList l 0 = rS l := by
  rw [fillS_eq l _ 0 (by rw [mkK]; omega), List.take_zero, List.nil_append]; rfl
theorem row_s_le {z : Array Value} {K i : Nat} (l : List ByteArray) (hl : l.length ≤ K) (hi : i < K) : i * 1 + 1 ≤ (fillS (madeCells z (K * 1)).toList l 0).length := by
  have h := mkK (z := z) (K := K)
  rw [fillS_len l _ 0 (by omega), h]; omega
abbrev cS40 : ByteArray := ⟨#[40]⟩
abbrev cS41 : ByteArray := ⟨#[41]⟩
abbrev cS124 : ByteArray := ⟨#[124]⟩
abbrev cS49 : ByteArray := ⟨#[49]⟩
abbrev cS48 : ByteArray := ⟨#[48]⟩
abbrev cS44 : ByteArray := ⟨#[44]⟩
abbrev cS32 : ByteArray := ⟨#[32]⟩
abbrev cS45 : ByteArray := ⟨#[45]⟩
abbrev cS120 : ByteArray := ⟨#[120]⟩
abbrev cS10 : ByteArray := ⟨#[10]⟩
def sgL : List ByteArray := [cS40, cS41, cS124, cS49, cS48, cS44, cS32, cS45, cS120, cS10]
theorem sgL_at {q : Nat} (hq : q < 10) : ∃ c, sgL[q]? = some c ∧ c.size = 1 := by
  have h : ∀ q, q < 10 → ∃ c, sgL[q]? = some c ∧ c.size = 1 := by
    intro q hq
    match q, hq with
    | 0, _ => exact ⟨_, rfl, rfl⟩
    | 1, _ => exact ⟨_, rfl, rfl⟩
    | 2, _ => exact ⟨_, rfl, rfl⟩
    | 3, _ => exact ⟨_, rfl, rfl⟩
    | 4, _ => exact ⟨_, rfl, rfl⟩
    | 5, _ => exact ⟨_, rfl, rfl⟩
    | 6, _ => exact ⟨_, rfl, rfl⟩
    | 7, _ => exact ⟨_, rfl, rfl⟩
    | 8, _ => exact ⟨_, rfl, rfl⟩
    | 9, _ => exact ⟨_, rfl, rfl⟩
    | q + 10, h => omega
  exact h q hq
attribute [local irreducible] IntKind.wrap
theorem cat_size (a b : ByteArray) : (a ++ b).size = a.size + b.size := ByteArray.size_append
theorem ext_size (a : ByteArray) (i j : Nat) (h : j ≤ a.size) : (a.extract i j).size = j - i := by rw [ByteArray.size_extract]; omega
theorem lcn_one (h : Nat) : lc h = lcn 1 h := rfl
theorem s_nearW {W : World → (Nat → Prop) → Prop} {v : Value} {g : Nat → Int} {N : Nat} (hA : ArgK .u8 W v g N) (hN : N ≤ 1048576) (hg : ∀ j, j < N → 0 ≤ g j ∧ g j < 256) (at' h : Nat) (hat : at' ≤ N) (m : Nat) (hm : m ≤ 100000) :
    ∃ r a2 h2, a2 ≤ N ∧ SpecW Try.prog W n_s_l01Near [.ptr 0 0, vi m] [srcO v at' h] (vi r) [srcO v a2 h2] := by
  have w1 : IntKind.i64.wrap ((m : Int) + 1) = ((m + 1 : Nat) : Int) := wC (by omega) (by omega)
  have n1 := s_next hA hN hg at' h hat 14 (by omega)
  rw [show (if at' < N then at' + 1 else at') = nxA N at' from rfl] at n1
  by_cases h0 : nxV g N at' h % 14 = 0
  · rw [h0] at n1
    have n2 := s_pick hA hN hg (nxA N at') (lc h) (nxA_le hat) (pk [-1, ((m + 1 : Nat) : Int), 1099511627776, -4611686018427387904]) 4 (by omega) (by omega)
    refine ⟨_, _, _, nxA_le (nxA_le hat), (?_ : SpecW Try.prog W n_s_l01Near [.ptr 0 0, vi m] [srcO v at' h] (vi (pk [-1, ((m + 1 : Nat) : Int), 1099511627776, -4611686018427387904] (nxV g N (nxA N at') (lc h) % 4))) [srcO v (nxA N (nxA N at')) (lc (lc h))])⟩
    generalize lc (lc h) = h2 at n2 ⊢
    generalize lc h = h1 at n1 n2
    refine SpecW.of_EV hf_s_l01Near hc_s_l01Near rfl rfl rfl fun w0 B ρ0 hW => ?_
    have hp := ArgK.pass (Γ := ⟨w0, B, ([srcO v at' h] : List O).length, ρ0⟩) hA hW
    (repeat' (first | refine n1.makeW hp [0] rfl ⟨rfl, trivial⟩ ?_ | refine Exists.intro _ (And.intro w1 ?_) | refine And.intro ⟨rfl, mkL rfl⟩ ?_ | refine And.intro ⟨rfl, row_k_le (K := 4) [-1] (leR rfl) (by decide)⟩ ?_ | refine And.intro ⟨rfl, row_k_le (K := 4) [-1, ((m + 1 : Nat) : Int)] (leR rfl) (by decide)⟩ ?_ | refine And.intro ⟨rfl, row_k_le (K := 4) [-1, ((m + 1 : Nat) : Int), 1099511627776] (leR rfl) (by decide)⟩ ?_ | refine Exists.intro (il (pk [-1, ((m + 1 : Nat) : Int), 1099511627776, -4611686018427387904]) 4) (And.intro (row_k [-1, ((m + 1 : Nat) : Int), 1099511627776, -4611686018427387904] rfl) ?_) | refine n2.makeW hp [0, 1] rfl ⟨rfl, rfl, trivial⟩ ?_ | refine And.intro (neI rfl) ?_ | refine And.intro ⟨rfl, leR rfl, onesR rfl⟩ ?_ | refine And.intro ⟨rfl, leR rfl⟩ ?_ | refine draw_rule2 hfol (fun KK hKK => ?_) | refine hKK _ _ _ (by kernel_rfl) ?_ | refine region_rule (fun KK hKK => ?_) | refine hKK _ _ ?_ | refine And.intro (Eq.refl true) ?_ | refine Exists.intro _ (And.intro (wI (by omega)) ?_) | refine Exists.intro _ (And.intro (wU (by omega)) ?_) | refine Exists.intro _ (And.intro ⟨rfl, by omega⟩ ?_) | refine Exists.intro _ (And.intro rfl ?_) | refine And.intro rfl ?_ | refine And.intro ⟨rfl, rfl⟩ ?_ | ((refine And.intro (fun _ => ?_) (fun _ => ?_)) <;> try (exfalso; omega))))
    exact Exists.intro [0] (And.intro (rfl) (And.intro ⟨rfl, trivial⟩ rfl))
  · have n2 := s_next hA hN hg (nxA N at') (lc h) (nxA_le hat) (m + 1) (by omega)
    rw [show (if nxA N at' < N then nxA N at' + 1 else nxA N at') = nxA N (nxA N at') from rfl] at n2
    have hne : ((nxV g N at' h % 14 : Nat) : Int) ≠ 0 := by omega
    generalize nxV g N at' h % 14 = q at n1 hne
    refine ⟨_, _, _, nxA_le (nxA_le hat), (?_ : SpecW Try.prog W n_s_l01Near [.ptr 0 0, vi m] [srcO v at' h] (vi (nxV g N (nxA N at') (lc h) % (m + 1) : Nat)) [srcO v (nxA N (nxA N at')) (lc (lc h))])⟩
    generalize lc (lc h) = h2 at n2 ⊢
    generalize nxV g N (nxA N at') (lc h) % (m + 1) = q2 at n2 ⊢
    generalize lc h = h1 at n1 n2
    refine SpecW.of_EV hf_s_l01Near hc_s_l01Near rfl rfl rfl fun w0 B ρ0 hW => ?_
    have hp := ArgK.pass (Γ := ⟨w0, B, ([srcO v at' h] : List O).length, ρ0⟩) hA hW
    (repeat' (first | refine n1.makeW hp [0] rfl ⟨rfl, trivial⟩ ?_ | refine Exists.intro _ (And.intro w1 ?_) | refine n2.makeW hp [0] rfl ⟨rfl, trivial⟩ ?_ | refine And.intro (neI rfl) ?_ | refine And.intro ⟨rfl, leR rfl, onesR rfl⟩ ?_ | refine And.intro ⟨rfl, leR rfl⟩ ?_ | refine draw_rule2 hfol (fun KK hKK => ?_) | refine hKK _ _ _ (by kernel_rfl) ?_ | refine region_rule (fun KK hKK => ?_) | refine hKK _ _ ?_ | refine And.intro (Eq.refl true) ?_ | refine Exists.intro _ (And.intro (wI (by omega)) ?_) | refine Exists.intro _ (And.intro (wU (by omega)) ?_) | refine Exists.intro _ (And.intro ⟨rfl, by omega⟩ ?_) | refine Exists.intro _ (And.intro rfl ?_) | refine And.intro rfl ?_ | refine And.intro ⟨rfl, rfl⟩ ?_ | ((refine And.intro (fun _ => ?_) (fun _ => ?_)) <;> try (exfalso; omega))))
    exact Exists.intro [0] (And.intro (rfl) (And.intro ⟨rfl, trivial⟩ rfl))

section
variable {W : World → (Nat → Prop) → Prop} {v : Value} {g : Nat → Int} {N : Nat} (hA : ArgK .u8 W v g N) (hN : N ≤ 1048576) (hg : ∀ j, j < N → 0 ≤ g j ∧ g j < 256)
include hA hN hg
theorem s_nxl (at' h : Nat) (hat : at' ≤ N) (n : Nat) (hn : 1 ≤ n) : ∃ q, q < n ∧ SpecW Try.prog W n_s_l01Next [.ptr 0 0, vi n] [srcO v at' h] (vi (q : Nat)) [srcO v (nxA N at') (lc h)] :=
  ⟨_, Nat.mod_lt _ (by omega), s_next hA hN hg at' h hat n hn⟩
omit hA hN hg in
theorem nxA_ge {N a : Nat} : a ≤ nxA N a := by unfold nxA; split <;> omega
theorem s_damage (at' h : Nat) (hat : at' ≤ N) (t : ByteArray) (ht : t.size ≤ 4611686018427387904) :
    ∃ t' a' j, at' ≤ a' ∧ a' ≤ N ∧ (j = 1 ∨ j = 3) ∧ t'.size ≤ t.size + 1 ∧ SpecW Try.prog W n_s_l01Damage [.ptr 0 0, .raw (.string t)] [srcO v at' h] (.raw (.string t')) [srcO v a' (lcn j h)] := by
  obtain ⟨q, hq, c1⟩ := s_nxl hA hN hg at' h hat 10 (by omega)
  have hf := (@nxA_ge N at')
  have ha1 := nxA_le hat
  generalize nxA N at' = a1 at c1 ha1 hf
  obtain ⟨c, hc, hcs⟩ := sgL_at hq
  have hcS := rS_at hc
  by_cases h0 : t.size = 0
  · refine ⟨c, a1, 1, hf, ha1, Or.inl rfl, by omega, (?_ : SpecW Try.prog W n_s_l01Damage [.ptr 0 0, .raw (.string t)] [srcO v at' h] (.raw (.string c)) [srcO v a1 (lc h)])⟩
    generalize lc h = h1 at c1 ⊢
    refine SpecW.of_EV hf_s_l01Damage hc_s_l01Damage rfl rfl rfl fun w0 B ρ0 hW => ?_
    have hp := ArgK.pass (Γ := ⟨w0, B, ([srcO v at' h] : List O).length, ρ0⟩) hA hW
    (repeat' (first | refine And.intro ⟨rfl, mkL rfl⟩ (And.intro ⟨rfl, row_s_le (K := 10) [cS40] (leR rfl) (leR rfl)⟩ (And.intro ⟨rfl, row_s_le (K := 10) [cS40, cS41] (leR rfl) (leR rfl)⟩ (And.intro ⟨rfl, row_s_le (K := 10) [cS40, cS41, cS124] (leR rfl) (leR rfl)⟩ (And.intro ⟨rfl, row_s_le (K := 10) [cS40, cS41, cS124, cS49] (leR rfl) (leR rfl)⟩ (And.intro ⟨rfl, row_s_le (K := 10) [cS40, cS41, cS124, cS49, cS48] (leR rfl) (leR rfl)⟩ (And.intro ⟨rfl, row_s_le (K := 10) [cS40, cS41, cS124, cS49, cS48, cS44] (leR rfl) (leR rfl)⟩ (And.intro ⟨rfl, row_s_le (K := 10) [cS40, cS41, cS124, cS49, cS48, cS44, cS32] (leR rfl) (leR rfl)⟩ (And.intro ⟨rfl, row_s_le (K := 10) [cS40, cS41, cS124, cS49, cS48, cS44, cS32, cS45] (leR rfl) (leR rfl)⟩ (And.intro ⟨rfl, row_s_le (K := 10) [cS40, cS41, cS124, cS49, cS48, cS44, cS32, cS45, cS120] (leR rfl) (leR rfl)⟩ (Exists.intro (rS [cS40, cS41, cS124, cS49, cS48, cS44, cS32, cS45, cS120, cS10]) (And.intro (row_s (K := 10) [cS40, cS41, cS124, cS49, cS48, cS44, cS32, cS45, cS120, cS10] rfl) ?_))))))))))) | refine c1.makeW hp [0] rfl ⟨rfl, trivial⟩ ?_ | refine Exists.intro _ (And.intro hcS ?_) | refine And.intro (neI rfl) ?_ | refine And.intro ⟨rfl, leR rfl, onesR rfl⟩ ?_ | refine And.intro ⟨rfl, leR rfl⟩ ?_ | refine draw_rule2 hfol (fun KK hKK => ?_) | refine hKK _ _ _ (by kernel_rfl) ?_ | refine region_rule (fun KK hKK => ?_) | refine hKK _ _ ?_ | refine And.intro (Eq.refl true) ?_ | refine Exists.intro _ (And.intro (wI (by omega)) ?_) | refine Exists.intro _ (And.intro (wU (by omega)) ?_) | refine Exists.intro _ (And.intro ⟨rfl, by omega⟩ ?_) | refine Exists.intro _ (And.intro rfl ?_) | refine And.intro rfl ?_ | refine And.intro ⟨rfl, rfl⟩ ?_ | ((refine And.intro (fun _ => ?_) (fun _ => ?_)) <;> try (exfalso; omega))))
    exact Exists.intro [0] (And.intro (rfl) (And.intro ⟨rfl, trivial⟩ rfl))
  obtain ⟨k, hk, c2⟩ := s_nxl hA hN hg a1 (lc h) ha1 t.size (by omega)
  have hf2 := (@nxA_ge N a1)
  have ha2 := nxA_le ha1
  generalize nxA N a1 = a2 at c2 ha2 hf2
  obtain ⟨r, hr, c3⟩ := s_nxl hA hN hg a2 (lc (lc h)) ha2 3 (by omega)
  have hf3 := (@nxA_ge N a2)
  have ha3 := nxA_le ha2
  generalize nxA N a2 = a3 at c3 ha3 hf3
  have w1 : IntKind.i64.wrap ((k : Int) + 1) = ((k + 1 : Nat) : Int) := wC (by omega) (by omega)
  have w2 : IntKind.i64.wrap ((t.size : Nat) : Int) = ((t.size : Nat) : Int) := wI (by omega)
  have e1 := ext_size t 0 k (by omega)
  have e2 := ext_size t (k + 1) t.size (by omega)
  have e3 := ext_size t k t.size (by omega)
  obtain ⟨A, hAe⟩ : ∃ A, t.extract 0 k = A := ⟨_, rfl⟩
  obtain ⟨B1, hBe⟩ : ∃ B, t.extract (k + 1) t.size = B := ⟨_, rfl⟩
  obtain ⟨C, hCe⟩ : ∃ C, t.extract k t.size = C := ⟨_, rfl⟩
  rw [hAe] at e1; rw [hBe] at e2; rw [hCe] at e3
  have s1 := cat_size A c
  have s2 := cat_size (A ++ c) B1
  have s3 := cat_size A B1
  have s4 := cat_size (A ++ c) C
  by_cases r0 : r = 0
  · subst r0
    refine ⟨A ++ c ++ B1, a3, 3, by omega, ha3, Or.inr rfl, by omega, (?_ : SpecW Try.prog W n_s_l01Damage [.ptr 0 0, .raw (.string t)] [srcO v at' h] (.raw (.string (A ++ c ++ B1))) [srcO v a3 (lc (lc (lc h)))])⟩
    generalize lc (lc (lc h)) = h3 at c3 ⊢
    generalize lc (lc h) = h2 at c2 c3
    generalize lc h = h1 at c1 c2
    refine SpecW.of_EV hf_s_l01Damage hc_s_l01Damage rfl rfl rfl fun w0 B ρ0 hW => ?_
    have hp := ArgK.pass (Γ := ⟨w0, B, ([srcO v at' h] : List O).length, ρ0⟩) hA hW
    (repeat' (first | refine And.intro ⟨rfl, mkL rfl⟩ (And.intro ⟨rfl, row_s_le (K := 10) [cS40] (leR rfl) (leR rfl)⟩ (And.intro ⟨rfl, row_s_le (K := 10) [cS40, cS41] (leR rfl) (leR rfl)⟩ (And.intro ⟨rfl, row_s_le (K := 10) [cS40, cS41, cS124] (leR rfl) (leR rfl)⟩ (And.intro ⟨rfl, row_s_le (K := 10) [cS40, cS41, cS124, cS49] (leR rfl) (leR rfl)⟩ (And.intro ⟨rfl, row_s_le (K := 10) [cS40, cS41, cS124, cS49, cS48] (leR rfl) (leR rfl)⟩ (And.intro ⟨rfl, row_s_le (K := 10) [cS40, cS41, cS124, cS49, cS48, cS44] (leR rfl) (leR rfl)⟩ (And.intro ⟨rfl, row_s_le (K := 10) [cS40, cS41, cS124, cS49, cS48, cS44, cS32] (leR rfl) (leR rfl)⟩ (And.intro ⟨rfl, row_s_le (K := 10) [cS40, cS41, cS124, cS49, cS48, cS44, cS32, cS45] (leR rfl) (leR rfl)⟩ (And.intro ⟨rfl, row_s_le (K := 10) [cS40, cS41, cS124, cS49, cS48, cS44, cS32, cS45, cS120] (leR rfl) (leR rfl)⟩ (Exists.intro (rS [cS40, cS41, cS124, cS49, cS48, cS44, cS32, cS45, cS120, cS10]) (And.intro (row_s (K := 10) [cS40, cS41, cS124, cS49, cS48, cS44, cS32, cS45, cS120, cS10] rfl) ?_))))))))))) | refine c1.makeW hp [0] rfl ⟨rfl, trivial⟩ ?_ | refine Exists.intro _ (And.intro hcS ?_) | refine Exists.intro _ (And.intro w2 ?_) | refine c2.makeW hp [0] rfl ⟨rfl, trivial⟩ ?_ | refine c3.makeW hp [0] rfl ⟨rfl, trivial⟩ ?_ | refine Exists.intro _ (And.intro w1 ?_) | refine Exists.intro k (Exists.intro A (And.intro ⟨rfl, by omega, hAe⟩ ?_)) | refine Exists.intro (k + 1) (Exists.intro B1 (And.intro ⟨rfl, by omega, hBe⟩ ?_)) | refine And.intro (show A.size + c.size ≤ 9223372036854775807 by omega) ?_ | refine And.intro (show (A ++ c).size + B1.size ≤ 9223372036854775807 by omega) ?_ | refine And.intro (neI rfl) ?_ | refine And.intro ⟨rfl, leR rfl, onesR rfl⟩ ?_ | refine And.intro ⟨rfl, leR rfl⟩ ?_ | refine draw_rule2 hfol (fun KK hKK => ?_) | refine hKK _ _ _ (by kernel_rfl) ?_ | refine region_rule (fun KK hKK => ?_) | refine hKK _ _ ?_ | refine And.intro (Eq.refl true) ?_ | refine Exists.intro _ (And.intro (wI (by omega)) ?_) | refine Exists.intro _ (And.intro (wU (by omega)) ?_) | refine Exists.intro _ (And.intro ⟨rfl, by omega⟩ ?_) | refine Exists.intro _ (And.intro rfl ?_) | refine And.intro rfl ?_ | refine And.intro ⟨rfl, rfl⟩ ?_ | ((refine And.intro (fun _ => ?_) (fun _ => ?_)) <;> try (exfalso; omega))))
    exact Exists.intro [0] (And.intro (rfl) (And.intro ⟨rfl, trivial⟩ rfl))
  by_cases r1 : r = 1
  · subst r1
    refine ⟨A ++ B1, a3, 3, by omega, ha3, Or.inr rfl, by omega, (?_ : SpecW Try.prog W n_s_l01Damage [.ptr 0 0, .raw (.string t)] [srcO v at' h] (.raw (.string (A ++ B1))) [srcO v a3 (lc (lc (lc h)))])⟩
    generalize lc (lc (lc h)) = h3 at c3 ⊢
    generalize lc (lc h) = h2 at c2 c3
    generalize lc h = h1 at c1 c2
    refine SpecW.of_EV hf_s_l01Damage hc_s_l01Damage rfl rfl rfl fun w0 B ρ0 hW => ?_
    have hp := ArgK.pass (Γ := ⟨w0, B, ([srcO v at' h] : List O).length, ρ0⟩) hA hW
    (repeat' (first | refine And.intro ⟨rfl, mkL rfl⟩ (And.intro ⟨rfl, row_s_le (K := 10) [cS40] (leR rfl) (leR rfl)⟩ (And.intro ⟨rfl, row_s_le (K := 10) [cS40, cS41] (leR rfl) (leR rfl)⟩ (And.intro ⟨rfl, row_s_le (K := 10) [cS40, cS41, cS124] (leR rfl) (leR rfl)⟩ (And.intro ⟨rfl, row_s_le (K := 10) [cS40, cS41, cS124, cS49] (leR rfl) (leR rfl)⟩ (And.intro ⟨rfl, row_s_le (K := 10) [cS40, cS41, cS124, cS49, cS48] (leR rfl) (leR rfl)⟩ (And.intro ⟨rfl, row_s_le (K := 10) [cS40, cS41, cS124, cS49, cS48, cS44] (leR rfl) (leR rfl)⟩ (And.intro ⟨rfl, row_s_le (K := 10) [cS40, cS41, cS124, cS49, cS48, cS44, cS32] (leR rfl) (leR rfl)⟩ (And.intro ⟨rfl, row_s_le (K := 10) [cS40, cS41, cS124, cS49, cS48, cS44, cS32, cS45] (leR rfl) (leR rfl)⟩ (And.intro ⟨rfl, row_s_le (K := 10) [cS40, cS41, cS124, cS49, cS48, cS44, cS32, cS45, cS120] (leR rfl) (leR rfl)⟩ (Exists.intro (rS [cS40, cS41, cS124, cS49, cS48, cS44, cS32, cS45, cS120, cS10]) (And.intro (row_s (K := 10) [cS40, cS41, cS124, cS49, cS48, cS44, cS32, cS45, cS120, cS10] rfl) ?_))))))))))) | refine c1.makeW hp [0] rfl ⟨rfl, trivial⟩ ?_ | refine Exists.intro _ (And.intro hcS ?_) | refine Exists.intro _ (And.intro w2 ?_) | refine c2.makeW hp [0] rfl ⟨rfl, trivial⟩ ?_ | refine c3.makeW hp [0] rfl ⟨rfl, trivial⟩ ?_ | refine Exists.intro _ (And.intro w1 ?_) | refine Exists.intro k (Exists.intro A (And.intro ⟨rfl, by omega, hAe⟩ ?_)) | refine Exists.intro (k + 1) (Exists.intro B1 (And.intro ⟨rfl, by omega, hBe⟩ ?_)) | refine And.intro (show A.size + B1.size ≤ 9223372036854775807 by omega) ?_ | refine And.intro (neI rfl) ?_ | refine And.intro ⟨rfl, leR rfl, onesR rfl⟩ ?_ | refine And.intro ⟨rfl, leR rfl⟩ ?_ | refine draw_rule2 hfol (fun KK hKK => ?_) | refine hKK _ _ _ (by kernel_rfl) ?_ | refine region_rule (fun KK hKK => ?_) | refine hKK _ _ ?_ | refine And.intro (Eq.refl true) ?_ | refine Exists.intro _ (And.intro (wI (by omega)) ?_) | refine Exists.intro _ (And.intro (wU (by omega)) ?_) | refine Exists.intro _ (And.intro ⟨rfl, by omega⟩ ?_) | refine Exists.intro _ (And.intro rfl ?_) | refine And.intro rfl ?_ | refine And.intro ⟨rfl, rfl⟩ ?_ | ((refine And.intro (fun _ => ?_) (fun _ => ?_)) <;> try (exfalso; omega))))
    exact Exists.intro [0] (And.intro (rfl) (And.intro ⟨rfl, trivial⟩ rfl))
  · refine ⟨A ++ c ++ C, a3, 3, by omega, ha3, Or.inr rfl, by omega, (?_ : SpecW Try.prog W n_s_l01Damage [.ptr 0 0, .raw (.string t)] [srcO v at' h] (.raw (.string (A ++ c ++ C))) [srcO v a3 (lc (lc (lc h)))])⟩
    generalize lc (lc (lc h)) = h3 at c3 ⊢
    generalize lc (lc h) = h2 at c2 c3
    generalize lc h = h1 at c1 c2
    refine SpecW.of_EV hf_s_l01Damage hc_s_l01Damage rfl rfl rfl fun w0 B ρ0 hW => ?_
    have hp := ArgK.pass (Γ := ⟨w0, B, ([srcO v at' h] : List O).length, ρ0⟩) hA hW
    (repeat' (first | refine And.intro ⟨rfl, mkL rfl⟩ (And.intro ⟨rfl, row_s_le (K := 10) [cS40] (leR rfl) (leR rfl)⟩ (And.intro ⟨rfl, row_s_le (K := 10) [cS40, cS41] (leR rfl) (leR rfl)⟩ (And.intro ⟨rfl, row_s_le (K := 10) [cS40, cS41, cS124] (leR rfl) (leR rfl)⟩ (And.intro ⟨rfl, row_s_le (K := 10) [cS40, cS41, cS124, cS49] (leR rfl) (leR rfl)⟩ (And.intro ⟨rfl, row_s_le (K := 10) [cS40, cS41, cS124, cS49, cS48] (leR rfl) (leR rfl)⟩ (And.intro ⟨rfl, row_s_le (K := 10) [cS40, cS41, cS124, cS49, cS48, cS44] (leR rfl) (leR rfl)⟩ (And.intro ⟨rfl, row_s_le (K := 10) [cS40, cS41, cS124, cS49, cS48, cS44, cS32] (leR rfl) (leR rfl)⟩ (And.intro ⟨rfl, row_s_le (K := 10) [cS40, cS41, cS124, cS49, cS48, cS44, cS32, cS45] (leR rfl) (leR rfl)⟩ (And.intro ⟨rfl, row_s_le (K := 10) [cS40, cS41, cS124, cS49, cS48, cS44, cS32, cS45, cS120] (leR rfl) (leR rfl)⟩ (Exists.intro (rS [cS40, cS41, cS124, cS49, cS48, cS44, cS32, cS45, cS120, cS10]) (And.intro (row_s (K := 10) [cS40, cS41, cS124, cS49, cS48, cS44, cS32, cS45, cS120, cS10] rfl) ?_))))))))))) | refine c1.makeW hp [0] rfl ⟨rfl, trivial⟩ ?_ | refine Exists.intro _ (And.intro hcS ?_) | refine Exists.intro _ (And.intro w2 ?_) | refine c2.makeW hp [0] rfl ⟨rfl, trivial⟩ ?_ | refine c3.makeW hp [0] rfl ⟨rfl, trivial⟩ ?_ | refine Exists.intro _ (And.intro w1 ?_) | refine Exists.intro k (Exists.intro A (And.intro ⟨rfl, by omega, hAe⟩ ?_)) | refine Exists.intro k (Exists.intro C (And.intro ⟨rfl, by omega, hCe⟩ ?_)) | refine And.intro (show A.size + c.size ≤ 9223372036854775807 by omega) ?_ | refine And.intro (show (A ++ c).size + C.size ≤ 9223372036854775807 by omega) ?_ | refine And.intro (neI rfl) ?_ | refine And.intro ⟨rfl, leR rfl, onesR rfl⟩ ?_ | refine And.intro ⟨rfl, leR rfl⟩ ?_ | refine draw_rule2 hfol (fun KK hKK => ?_) | refine hKK _ _ _ (by kernel_rfl) ?_ | refine region_rule (fun KK hKK => ?_) | refine hKK _ _ ?_ | refine And.intro (Eq.refl true) ?_ | refine Exists.intro _ (And.intro (wI (by omega)) ?_) | refine Exists.intro _ (And.intro (wU (by omega)) ?_) | refine Exists.intro _ (And.intro ⟨rfl, by omega⟩ ?_) | refine Exists.intro _ (And.intro rfl ?_) | refine And.intro rfl ?_ | refine And.intro ⟨rfl, rfl⟩ ?_ | ((refine And.intro (fun _ => ?_) (fun _ => ?_)) <;> try (exfalso; omega))))
    exact Exists.intro [0] (And.intro (rfl) (And.intro ⟨rfl, trivial⟩ rfl))
end
end Go.Proofs.Ytgpgcdofhkpeaaa.VE
namespace Go.Proofs.Ytgpgcdofhkpeaaa.VE
open Go
set_option maxHeartbeats 3200000
set_option maxRecDepth 100000

attribute [local irreducible] IntKind.wrap
/-- The damage ends: K bounds the rounds behind the code's end. -/
def EK (K h : Nat) : Prop := (K = 0 ∧ lcv (lc h) % 3 ≠ 0) ∨ (1 ≤ K ∧ lcv (lcn (2 * (K - 1)) (lc h)) % 3 ≠ 0 ∧ lcv (lcn (2 * (K - 1) + 2) (lc h)) % 3 ≠ 0)
theorem EK_ex (h : Nat) : ∃ K, K ≤ 72057594037927937 ∧ EK K h := by
  obtain ⟨J, hJ, h1, h2⟩ := lc_ends (lc h)
  exact ⟨J + 1, by omega, Or.inr ⟨by omega, h1, h2⟩⟩
theorem lcnn (h : Nat) : lcv (lcn 0 h) = lcv h := rfl
theorem lcS (j h : Nat) : lc (lcn j h) = lcn (j + 1) h := by
  rw [lcn_one, ← lcn_add]
theorem EK_next {K h j : Nat} (hE : EK K h) (h0 : lcv (lc h) % 3 = 0) (hj : j = 1 ∨ j = 3) : ∃ K', K' < K ∧ EK K' (lcn j (lc h)) := by
  rcases hE with ⟨_, h1⟩ | ⟨hK, h1, h2⟩
  · exact absurd h0 h1
  have hK2 : 2 ≤ K := by
    refine Classical.byContradiction fun hn => ?_
    obtain rfl : K = 1 := by omega
    exact h1 h0
  obtain ⟨k, rfl⟩ : ∃ k, K = k + 2 := ⟨K - 2, by omega⟩
  rw [show 2 * (k + 2 - 1) = 2 + 2 * k by omega] at h1 h2
  rcases hj with rfl | rfl
  · refine ⟨k + 1, by omega, Or.inr ⟨by omega, ?_, ?_⟩⟩
    · rw [lcS, ← lcn_add, show 1 + 1 + 2 * (k + 1 - 1) = 2 + 2 * k by omega]; exact h1
    · rw [lcS, ← lcn_add, show 1 + 1 + (2 * (k + 1 - 1) + 2) = 2 + 2 * k + 2 by omega]; exact h2
  · cases k with
    | zero =>
      refine ⟨0, by omega, Or.inl ⟨rfl, ?_⟩⟩
      rw [lcS]; exact h2
    | succ k =>
      refine ⟨k + 1, by omega, Or.inr ⟨by omega, ?_, ?_⟩⟩
      · rw [lcS, ← lcn_add, show 3 + 1 + 2 * (k + 1 - 1) = 2 + 2 * (k + 1) by omega]; exact h1
      · rw [lcS, ← lcn_add, show 3 + 1 + (2 * (k + 1 - 1) + 2) = 2 + 2 * (k + 1) + 2 by omega]; exact h2
/-- The rounds of the damage. -/
def Rn (W : World → (Nat → Prop) → Prop) (v : Value) (g : Nat → Int) (N : Nat) (T : ByteArray) : Nat → Nat → Nat → ByteArray → Prop
  | 0, a, h, t => (nxV g N a h % 3 ≠ 0 ∧ T = t) ∧ a ≤ N
  | n + 1, a, h, t => nxV g N a h % 3 = 0 ∧ a ≤ N ∧ ∃ t' a' h', SpecW Try.prog W n_s_l01Damage [.ptr 0 0, .raw (.string t)] [srcO v (nxA N a) (lc h)] (.raw (.string t')) [srcO v a' h'] ∧ Rn W v g N T n a' h' t'
section
variable {W : World → (Nat → Prop) → Prop} {v : Value} {g : Nat → Int} {N : Nat} (hA : ArgK .u8 W v g N) (hN : N ≤ 1048576) (hg : ∀ j, j < N → 0 ≤ g j ∧ g j < 256)
include hA hN hg
theorem Rn_end : ∀ (K h : Nat) (t : ByteArray), EK K h → K ≤ 72057594037927937 → t.size + K ≤ 72057594039000000 → ∃ n T, T.size ≤ 72057594039000000 ∧ Rn W v g N T n N h t := by
  intro K
  induction K using Nat.strongRecOn with
  | ind K ih =>
    intro h t hE hK hs
    have hx : nxV g N N h = lcv (lc h) := by unfold nxV; rw [if_neg (by omega), Nat.add_zero]
    by_cases h0 : lcv (lc h) % 3 = 0
    · obtain ⟨t', a', j, ha, ha', hj, hs', c⟩ := s_damage hA hN hg N (lc h) (Nat.le_refl _) t (by omega)
      obtain rfl : a' = N := by omega
      obtain ⟨K', hK', hE'⟩ := EK_next hE h0 hj
      obtain ⟨n, T, hT, hR⟩ := ih K' hK' _ t' hE' (by omega) (by omega)
      have hn : nxA a' a' = a' := by unfold nxA; rw [if_neg (by omega)]
      refine ⟨n + 1, T, hT, by rw [hx]; exact h0, Nat.le_refl _, t', a', _, ?_, hR⟩
      rw [hn]; exact c
    · exact ⟨0, t, by omega, ⟨by rw [hx]; exact h0, rfl⟩, Nat.le_refl _⟩
theorem Rn_ex : ∀ (d a h : Nat) (t : ByteArray), a + d = N → t.size ≤ 16 + a → ∃ n T, T.size ≤ 72057594039000000 ∧ Rn W v g N T n a h t := by
  intro d
  induction d using Nat.strongRecOn with
  | ind d ih =>
    intro a h t hd hs
    by_cases h9 : a = N
    · subst h9
      obtain ⟨K, hK, hE⟩ := EK_ex h
      exact Rn_end hA hN hg K h t hE hK (by omega)
    by_cases h0 : nxV g N a h % 3 = 0
    · have hn : nxA N a = a + 1 := by unfold nxA; rw [if_pos (by omega)]
      obtain ⟨t', a', j, ha, ha', hj, hs', c⟩ := s_damage hA hN hg (a + 1) (lc h) (by omega) t (by omega)
      obtain ⟨n, T, hT, hR⟩ := ih (N - a') (by omega) a' (lcn j (lc h)) t' (by omega) (by omega)
      refine ⟨n + 1, T, hT, h0, by omega, t', a', _, ?_, hR⟩
      rw [hn]; exact c
    · exact ⟨0, t, by omega, ⟨h0, rfl⟩, by omega⟩
theorem s_DrawParseDiagram : ∃ T, T.size ≤ 72057594039000000 ∧ SpecW Try.prog W n_s_DrawParseDiagram [.raw v] [] (.raw (.string T)) [] := by
  have c1 := s_from hA hN hg
  generalize fH g N (min N 4096) = h0 at c1
  obtain ⟨n, m, a1, h1, hD, ha1, c2⟩ := s_draw hA hN hg 0 h0 (Nat.zero_le _)
  have c3 := s_stext n m hD
  have hn8 := hD.n8
  have hsz : (brB (qq n m) (2 * n)).size = 2 * n := brB_size
  generalize brB (qq n m) (2 * n) = t0 at c3 hsz
  obtain ⟨K, T, hT, hR⟩ := Rn_ex hA hN hg (N - a1) a1 h1 t0 (by omega) (by omega)
  have hl := hD.len
  refine ⟨T, hT, ?_⟩
  refine SpecW.of_EV hf_s_DrawParseDiagram hc_s_DrawParseDiagram rfl rfl rfl fun w0 B ρ0 hW => ?_
  have hp := ArgK.pass (Γ := ⟨w0, B, ([] : List O).length, ρ0⟩) hA hW
  have hfol : Try.prog.follows .mixedOrders = true := rfl
  (repeat' (first | refine c1.makeW hp [] rfl trivial ?_ | refine c2.makeW hp [0] rfl ⟨rfl, trivial⟩ ?_ | refine (c3).pure rfl ?_ | refine Exists.intro (pcl (n : Int) m) (And.intro ⟨pcl_len hl, pcl_all hl⟩ ?_) | refine And.intro ⟨pcl_len hl, leR rfl, pcl_ones⟩ ?_ | refine Exists.intro (pcl (n : Int) m) (And.intro ⟨leR rfl, spl0 (leR rfl)⟩ ?_) | refine And.intro (neI rfl) ?_ | refine And.intro ⟨rfl, leR rfl, onesR rfl⟩ ?_ | refine And.intro ⟨rfl, leR rfl⟩ ?_ | refine draw_rule2 hfol (fun KK hKK => ?_) | refine hKK _ _ _ (by kernel_rfl) ?_ | refine region_rule (fun KK hKK => ?_) | refine hKK _ _ ?_ | refine And.intro (Eq.refl true) ?_ | refine Exists.intro _ (And.intro (wI (by omega)) ?_) | refine Exists.intro _ (And.intro (wU (by omega)) ?_) | refine Exists.intro _ (And.intro ⟨rfl, by omega⟩ ?_) | refine Exists.intro _ (And.intro rfl ?_) | refine And.intro rfl ?_ | refine And.intro ⟨rfl, rfl⟩ ?_ | ((refine And.intro (fun _ => ?_) (fun _ => ?_)) <;> try (exfalso; omega))))
  refine loop_rule (α := Nat × Nat × Nat × ByteArray) (fun (k, a, h, t) => Rn W v g N T k a h t)
    (fun (k, a, h, t) => [(3, .ptr 0 0), (4, .raw (.string t))])
    (fun (k, a, h, t) => [srcO v a h]) (fun (k, _) => k) (K, a1, h1, t0) [0]
    hR ⟨⟨rfl, rfl, trivial⟩, ⟨rfl, trivial⟩, rfl⟩ ?_
  rintro ⟨k, a, h, t⟩ g' hR
  dsimp only at hR ⊢
  cases k with
  | zero =>
    obtain ⟨⟨h3, rfl⟩, ha⟩ := hR
    have c4 := s_next hA hN hg a h ha 3 (by omega)
    have h3' : ((nxV g N a h % 3 : Nat) : Int) ≠ 0 := by omega
    generalize nxV g N a h % 3 = q at c4 h3'
    (repeat' (first | refine c4.makeW hp [0] rfl ⟨rfl, trivial⟩ ?_ | refine And.intro (neI rfl) ?_ | refine And.intro ⟨rfl, leR rfl, onesR rfl⟩ ?_ | refine And.intro ⟨rfl, leR rfl⟩ ?_ | refine draw_rule2 hfol (fun KK hKK => ?_) | refine hKK _ _ _ (by kernel_rfl) ?_ | refine region_rule (fun KK hKK => ?_) | refine hKK _ _ ?_ | refine And.intro (Eq.refl true) ?_ | refine Exists.intro _ (And.intro (wI (by omega)) ?_) | refine Exists.intro _ (And.intro (wU (by omega)) ?_) | refine Exists.intro _ (And.intro ⟨rfl, by omega⟩ ?_) | refine Exists.intro _ (And.intro rfl ?_) | refine And.intro rfl ?_ | refine And.intro ⟨rfl, rfl⟩ ?_ | ((refine And.intro (fun _ => ?_) (fun _ => ?_)) <;> try (exfalso; omega))))
    exact Exists.intro [] (And.intro (rfl) (And.intro trivial rfl))
  | succ k =>
    obtain ⟨h3, ha, t', a', h', c5, hR'⟩ := hR
    have c4 := s_next hA hN hg a h ha 3 (by omega)
    rw [h3] at c4
    replace c4 : SpecW Try.prog W n_s_l01Next [.ptr 0 0, vi (3 : Nat)] [srcO v a h] (vi (0 : Nat)) [srcO v (nxA N a) (lc h)] := c4
    generalize nxA N a = a2 at c4 c5
    generalize lc h = h2 at c4 c5
    (repeat' (first | refine c4.makeW hp [0] rfl ⟨rfl, trivial⟩ ?_ | refine c5.makeW hp [0] rfl ⟨rfl, trivial⟩ ?_ | refine And.intro (neI rfl) ?_ | refine And.intro ⟨rfl, leR rfl, onesR rfl⟩ ?_ | refine And.intro ⟨rfl, leR rfl⟩ ?_ | refine draw_rule2 hfol (fun KK hKK => ?_) | refine hKK _ _ _ (by kernel_rfl) ?_ | refine region_rule (fun KK hKK => ?_) | refine hKK _ _ ?_ | refine And.intro (Eq.refl true) ?_ | refine Exists.intro _ (And.intro (wI (by omega)) ?_) | refine Exists.intro _ (And.intro (wU (by omega)) ?_) | refine Exists.intro _ (And.intro ⟨rfl, by omega⟩ ?_) | refine Exists.intro _ (And.intro rfl ?_) | refine And.intro rfl ?_ | refine And.intro ⟨rfl, rfl⟩ ?_ | ((refine And.intro (fun _ => ?_) (fun _ => ?_)) <;> try (exfalso; omega))))
    exact Exists.intro (k, a', h', t') (Exists.intro [0] (And.intro ⟨hR', (by show k < k + 1; omega)⟩ ⟨⟨rfl, rfl, trivial⟩, ⟨rfl, trivial⟩, rfl⟩))
theorem s_DrawAllDiagrams : ∃ r, SpecW Try.prog W n_s_DrawAllDiagrams [.raw v] [] (vi r) [] := by
  have c1 := s_from hA hN hg
  obtain ⟨r, a2, h2, _, c2⟩ := s_near hA hN hg 0 (fH g N (min N 4096)) (Nat.zero_le _) 5 (by omega)
  generalize fH g N (min N 4096) = h0 at c1 c2
  obtain ⟨x, w1⟩ : ∃ x, IntKind.i64.wrap (1 + r) = x := ⟨_, rfl⟩
  refine ⟨x, ?_⟩
  refine SpecW.of_EV hf_s_DrawAllDiagrams hc_s_DrawAllDiagrams rfl rfl rfl fun w0 B ρ0 hW => ?_
  have hp := ArgK.pass (Γ := ⟨w0, B, ([] : List O).length, ρ0⟩) hA hW
  have hfol : Try.prog.follows .mixedOrders = true := rfl
  (repeat' (first | refine c1.makeW hp [] rfl trivial ?_ | refine c2.makeW hp [0] rfl ⟨rfl, trivial⟩ ?_ | refine Exists.intro _ (And.intro w1 ?_) | refine And.intro (neI rfl) ?_ | refine And.intro ⟨rfl, leR rfl, onesR rfl⟩ ?_ | refine And.intro ⟨rfl, leR rfl⟩ ?_ | refine draw_rule2 hfol (fun KK hKK => ?_) | refine hKK _ _ _ (by kernel_rfl) ?_ | refine region_rule (fun KK hKK => ?_) | refine hKK _ _ ?_ | refine And.intro (Eq.refl true) ?_ | refine Exists.intro _ (And.intro (wI (by omega)) ?_) | refine Exists.intro _ (And.intro (wU (by omega)) ?_) | refine Exists.intro _ (And.intro ⟨rfl, by omega⟩ ?_) | refine Exists.intro _ (And.intro rfl ?_) | refine And.intro rfl ?_ | refine And.intro ⟨rfl, rfl⟩ ?_ | ((refine And.intro (fun _ => ?_) (fun _ => ?_)) <;> try (exfalso; omega))))
  exact Exists.intro [] (And.intro (rfl) (And.intro trivial rfl))
omit hA hN hg in
theorem wy_pos : ∀ d o, 1 ≤ wy d o
  | 0, _ => Nat.le_refl _
  | d + 1, o => by
    rw [wy]
    have i1 := wy_pos d (o + 1)
    have i2 := wy_pos d (o - 1)
    by_cases h1 : o < d + 1
    · rw [if_pos h1]; omega
    · have h2 : 0 < o := by omega
      rw [if_neg h1, if_pos h2]; omega
theorem s_DrawDiagramOfNumber : ∃ n k, SpecW Try.prog W n_s_DrawDiagramOfNumber [.raw v] [] (.tup [vi n, vi k]) [] := by
  have c1 := s_from hA hN hg
  obtain ⟨r, a1, h1, ha1, c2⟩ := s_near hA hN hg 0 (fH g N (min N 4096)) (Nat.zero_le _) 7 (by omega)
  generalize fH g N (min N 4096) = h0 at c1 c2
  obtain ⟨n, w1⟩ : ∃ n, IntKind.i64.wrap (1 + r) = n := ⟨_, rfl⟩
  obtain ⟨z, w2⟩ : ∃ z, (if (1 : Int) > n then 1 else n) = z := ⟨_, rfl⟩
  obtain ⟨x, w3, hx1, hx8⟩ : ∃ x : Nat, (if (8 : Int) < z then 8 else z) = x ∧ 1 ≤ x ∧ x ≤ 8 := by
    have hz : 1 ≤ z := by rw [← w2]; split <;> omega
    refine ⟨(if (8 : Int) < z then 8 else z).toNat, ?_, ?_, ?_⟩
    all_goals split <;> omega
  have c3 := s_ways (2 * x) 0 x (by omega) (by omega)
  have hp1 := wy_pos (2 * x) 0
  have hp2 := wy_le (2 * x) 0
  have hp3 : 2 ^ (2 * x) ≤ 2 ^ 16 := Nat.pow_le_pow_right (by omega) (by omega)
  generalize wy (2 * x) 0 = Y at c3 hp1 hp2
  have hY : Y ≤ 65536 := Nat.le_trans hp2 hp3
  have w4 : IntKind.i64.wrap ((Y : Int) - 1) = ((Y - 1 : Nat) : Int) := wC (by omega) (by omega)
  obtain ⟨k, a2, h2, ha2, c4⟩ := s_nearW hA hN hg a1 h1 ha1 (Y - 1) (by omega)
  refine ⟨n, k, ?_⟩
  refine SpecW.of_EV hf_s_DrawDiagramOfNumber hc_s_DrawDiagramOfNumber rfl rfl rfl fun w0 B ρ0 hW => ?_
  have hp := ArgK.pass (Γ := ⟨w0, B, ([] : List O).length, ρ0⟩) hA hW
  have hfol : Try.prog.follows .mixedOrders = true := rfl
  (repeat' (first | refine c1.makeW hp [] rfl trivial ?_ | refine c2.makeW hp [0] rfl ⟨rfl, trivial⟩ ?_ | refine Exists.intro _ (And.intro w1 ?_) | refine Exists.intro _ (And.intro w2 ?_) | refine Exists.intro _ (And.intro w3 ?_) | refine (c3).pure rfl ?_ | refine Exists.intro _ (And.intro w4 ?_) | refine c4.makeW hp [0] rfl ⟨rfl, trivial⟩ ?_ | refine And.intro (neI rfl) ?_ | refine And.intro ⟨rfl, leR rfl, onesR rfl⟩ ?_ | refine And.intro ⟨rfl, leR rfl⟩ ?_ | refine draw_rule2 hfol (fun KK hKK => ?_) | refine hKK _ _ _ (by kernel_rfl) ?_ | refine region_rule (fun KK hKK => ?_) | refine hKK _ _ ?_ | refine And.intro (Eq.refl true) ?_ | refine Exists.intro _ (And.intro (wI (by omega)) ?_) | refine Exists.intro _ (And.intro (wU (by omega)) ?_) | refine Exists.intro _ (And.intro ⟨rfl, by omega⟩ ?_) | refine Exists.intro _ (And.intro rfl ?_) | refine And.intro rfl ?_ | refine And.intro ⟨rfl, rfl⟩ ?_ | ((refine And.intro (fun _ => ?_) (fun _ => ?_)) <;> try (exfalso; omega))))
  exact Exists.intro [] (And.intro (rfl) (And.intro trivial rfl))
end
end Go.Proofs.Ytgpgcdofhkpeaaa.VE
