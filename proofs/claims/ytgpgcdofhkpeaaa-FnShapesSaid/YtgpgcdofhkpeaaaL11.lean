/- Contracts of functions of the given program, for all arguments that the contract names; see each theorem. -/
import Derived.Test.YtgpgcdofhkpeaaaLB
import Derived.Test.YtgpgcdofhkpeaaaFA
import Derived.Test.YtgpgcdofhkpeaaaU21
import Derived.Test.YtgpgcdofhkpeaaaU10b
set_option linter.all false
namespace Go.Proofs.Ytgpgcdofhkpeaaa.VE
open Go
set_option maxHeartbeats 1600000
set_option maxRecDepth 100000

/-! what the laws draw -/
attribute [local irreducible] IntKind.wrap
theorem s_big {W : World → (Nat → Prop) → Prop} {v : Value} {a : Option Addr} {N cap : Nat} (hv : v = .slice a N cap) : SpecW Try.prog W n_l_big [.raw v] [] (vb (decide (4096 < N))) [] := by
  subst hv
  refine SpecW.of_EV hf_l_big hc_l_big rfl rfl rfl fun w0 B ρ0 hW => ?_
  by_cases h : 4096 < N
  · rw [decide_eq_true h]
    (repeat' (first | refine And.intro (neI rfl) ?_ | refine And.intro ⟨rfl, leR rfl, onesR rfl⟩ ?_ | refine And.intro ⟨rfl, leR rfl⟩ ?_ | refine draw_rule2 hfol (fun KK hKK => ?_) | refine hKK _ _ _ (by kernel_rfl) ?_ | refine region_rule (fun KK hKK => ?_) | refine hKK _ _ ?_ | refine And.intro (Eq.refl true) ?_ | refine Exists.intro _ (And.intro (wI (by omega)) ?_) | refine Exists.intro _ (And.intro (wU (by omega)) ?_) | refine Exists.intro _ (And.intro ⟨rfl, by omega⟩ ?_) | refine Exists.intro _ (And.intro rfl ?_) | refine And.intro rfl ?_ | refine And.intro ⟨rfl, rfl⟩ ?_ | ((refine And.intro (fun _ => ?_) (fun _ => ?_)) <;> try (exfalso; omega))))
    exact Exists.intro [] (And.intro (rfl) (And.intro trivial rfl))
  · rw [decide_eq_false h]
    (repeat' (first | refine And.intro (neI rfl) ?_ | refine And.intro ⟨rfl, leR rfl, onesR rfl⟩ ?_ | refine And.intro ⟨rfl, leR rfl⟩ ?_ | refine draw_rule2 hfol (fun KK hKK => ?_) | refine hKK _ _ _ (by kernel_rfl) ?_ | refine region_rule (fun KK hKK => ?_) | refine hKK _ _ ?_ | refine And.intro (Eq.refl true) ?_ | refine Exists.intro _ (And.intro (wI (by omega)) ?_) | refine Exists.intro _ (And.intro (wU (by omega)) ?_) | refine Exists.intro _ (And.intro ⟨rfl, by omega⟩ ?_) | refine Exists.intro _ (And.intro rfl ?_) | refine And.intro rfl ?_ | refine And.intro ⟨rfl, rfl⟩ ?_ | ((refine And.intro (fun _ => ?_) (fun _ => ?_)) <;> try (exfalso; omega))))
    exact Exists.intro [] (And.intro (rfl) (And.intro trivial rfl))
section
variable {W : World → (Nat → Prop) → Prop} {v : Value} {g : Nat → Int} {N : Nat} (hA : ArgK .u8 W v g N) (hN : N ≤ 1048576) (hg : ∀ j, j < N → 0 ≤ g j ∧ g j < 256)
include hA hN hg
theorem s_DrawFlipDiagram : ∃ s' m', m'.length = 16 ∧ (∀ x ∈ m', x < 256) ∧ SpecW Try.prog W n_s_DrawFlipDiagram [.raw v] [] (pv s' m') [] := by
  have c1 := s_from hA hN hg
  obtain ⟨s', m', a2, h2, hl, hb, _, c2⟩ := s_spoil hA hN hg 0 (fH g N (min N 4096)) (Nat.zero_le _)
  refine ⟨s', m', hl, hb, ?_⟩
  generalize fH g N (min N 4096) = h0 at c1 c2
  obtain ⟨a, cap, hv⟩ := hA.form
  refine SpecW.of_EV hf_s_DrawFlipDiagram hc_s_DrawFlipDiagram rfl rfl rfl fun w0 B ρ0 hW => ?_
  have hp := ArgK.pass (Γ := ⟨w0, B, ([] : List O).length, ρ0⟩) hA hW
  (repeat' (first | refine c1.makeW hp [] rfl trivial ?_ | refine c2.makeW hp [0] rfl ⟨rfl, trivial⟩ ?_ | refine c2.makeW hp [1] rfl ⟨rfl, trivial⟩ ?_ | refine Exists.intro (pcl s' m') (And.intro ⟨pcl_len hl, pcl_all hl⟩ ?_) | refine And.intro ⟨pcl_len hl, leR rfl, pcl_ones⟩ ?_ | refine Exists.intro (pcl s' m') (And.intro ⟨leR rfl, spl0 (leR rfl)⟩ ?_) | refine And.intro (neI rfl) ?_ | refine And.intro ⟨rfl, leR rfl, onesR rfl⟩ ?_ | refine And.intro ⟨rfl, leR rfl⟩ ?_ | refine draw_rule2 hfol (fun KK hKK => ?_) | refine hKK _ _ _ (by kernel_rfl) ?_ | refine region_rule (fun KK hKK => ?_) | refine hKK _ _ ?_ | refine And.intro (Eq.refl true) ?_ | refine Exists.intro _ (And.intro (wI (by omega)) ?_) | refine Exists.intro _ (And.intro (wU (by omega)) ?_) | refine Exists.intro _ (And.intro ⟨rfl, by omega⟩ ?_) | refine Exists.intro _ (And.intro rfl ?_) | refine And.intro rfl ?_ | refine And.intro ⟨rfl, rfl⟩ ?_ | ((refine And.intro (fun _ => ?_) (fun _ => ?_)) <;> try (exfalso; omega))))
  exact Exists.intro [] (And.intro (rfl) (And.intro trivial rfl))
theorem s_DrawThroughLines : ∃ s' m', m'.length = 16 ∧ (∀ x ∈ m', x < 256) ∧ SpecW Try.prog W n_s_DrawThroughLines [.raw v] [] (pv s' m') [] := by
  have c1 := s_from hA hN hg
  obtain ⟨s', m', a2, h2, hl, hb, _, c2⟩ := s_spoil hA hN hg 0 (fH g N (min N 4096)) (Nat.zero_le _)
  refine ⟨s', m', hl, hb, ?_⟩
  generalize fH g N (min N 4096) = h0 at c1 c2
  obtain ⟨a, cap, hv⟩ := hA.form
  refine SpecW.of_EV hf_s_DrawThroughLines hc_s_DrawThroughLines rfl rfl rfl fun w0 B ρ0 hW => ?_
  have hp := ArgK.pass (Γ := ⟨w0, B, ([] : List O).length, ρ0⟩) hA hW
  (repeat' (first | refine c1.makeW hp [] rfl trivial ?_ | refine c2.makeW hp [0] rfl ⟨rfl, trivial⟩ ?_ | refine c2.makeW hp [1] rfl ⟨rfl, trivial⟩ ?_ | refine Exists.intro (pcl s' m') (And.intro ⟨pcl_len hl, pcl_all hl⟩ ?_) | refine And.intro ⟨pcl_len hl, leR rfl, pcl_ones⟩ ?_ | refine Exists.intro (pcl s' m') (And.intro ⟨leR rfl, spl0 (leR rfl)⟩ ?_) | refine And.intro (neI rfl) ?_ | refine And.intro ⟨rfl, leR rfl, onesR rfl⟩ ?_ | refine And.intro ⟨rfl, leR rfl⟩ ?_ | refine draw_rule2 hfol (fun KK hKK => ?_) | refine hKK _ _ _ (by kernel_rfl) ?_ | refine region_rule (fun KK hKK => ?_) | refine hKK _ _ ?_ | refine And.intro (Eq.refl true) ?_ | refine Exists.intro _ (And.intro (wI (by omega)) ?_) | refine Exists.intro _ (And.intro (wU (by omega)) ?_) | refine Exists.intro _ (And.intro ⟨rfl, by omega⟩ ?_) | refine Exists.intro _ (And.intro rfl ?_) | refine And.intro rfl ?_ | refine And.intro ⟨rfl, rfl⟩ ?_ | ((refine And.intro (fun _ => ?_) (fun _ => ?_)) <;> try (exfalso; omega))))
  exact Exists.intro [] (And.intro (rfl) (And.intro trivial rfl))
theorem s_DrawTurnDiagram : ∃ s' m', m'.length = 16 ∧ (∀ x ∈ m', x < 256) ∧ SpecW Try.prog W n_s_DrawTurnDiagram [.raw v] [] (pv s' m') [] := by
  have c1 := s_from hA hN hg
  obtain ⟨s', m', a2, h2, hl, hb, _, c2⟩ := s_spoil hA hN hg 0 (fH g N (min N 4096)) (Nat.zero_le _)
  refine ⟨s', m', hl, hb, ?_⟩
  generalize fH g N (min N 4096) = h0 at c1 c2
  obtain ⟨a, cap, hv⟩ := hA.form
  refine SpecW.of_EV hf_s_DrawTurnDiagram hc_s_DrawTurnDiagram rfl rfl rfl fun w0 B ρ0 hW => ?_
  have hp := ArgK.pass (Γ := ⟨w0, B, ([] : List O).length, ρ0⟩) hA hW
  (repeat' (first | refine c1.makeW hp [] rfl trivial ?_ | refine c2.makeW hp [0] rfl ⟨rfl, trivial⟩ ?_ | refine c2.makeW hp [1] rfl ⟨rfl, trivial⟩ ?_ | refine Exists.intro (pcl s' m') (And.intro ⟨pcl_len hl, pcl_all hl⟩ ?_) | refine And.intro ⟨pcl_len hl, leR rfl, pcl_ones⟩ ?_ | refine Exists.intro (pcl s' m') (And.intro ⟨leR rfl, spl0 (leR rfl)⟩ ?_) | refine And.intro (neI rfl) ?_ | refine And.intro ⟨rfl, leR rfl, onesR rfl⟩ ?_ | refine And.intro ⟨rfl, leR rfl⟩ ?_ | refine draw_rule2 hfol (fun KK hKK => ?_) | refine hKK _ _ _ (by kernel_rfl) ?_ | refine region_rule (fun KK hKK => ?_) | refine hKK _ _ ?_ | refine And.intro (Eq.refl true) ?_ | refine Exists.intro _ (And.intro (wI (by omega)) ?_) | refine Exists.intro _ (And.intro (wU (by omega)) ?_) | refine Exists.intro _ (And.intro ⟨rfl, by omega⟩ ?_) | refine Exists.intro _ (And.intro rfl ?_) | refine And.intro rfl ?_ | refine And.intro ⟨rfl, rfl⟩ ?_ | ((refine And.intro (fun _ => ?_) (fun _ => ?_)) <;> try (exfalso; omega))))
  exact Exists.intro [] (And.intro (rfl) (And.intro trivial rfl))
theorem s_DrawNumberOfDiagram : ∃ s' m', m'.length = 16 ∧ (∀ x ∈ m', x < 256) ∧ SpecW Try.prog W n_s_DrawNumberOfDiagram [.raw v] [] (pv s' m') [] := by
  have c1 := s_from hA hN hg
  obtain ⟨s', m', a2, h2, hl, hb, _, c2⟩ := s_spoil hA hN hg 0 (fH g N (min N 4096)) (Nat.zero_le _)
  refine ⟨s', m', hl, hb, ?_⟩
  generalize fH g N (min N 4096) = h0 at c1 c2
  obtain ⟨a, cap, hv⟩ := hA.form
  refine SpecW.of_EV hf_s_DrawNumberOfDiagram hc_s_DrawNumberOfDiagram rfl rfl rfl fun w0 B ρ0 hW => ?_
  have hp := ArgK.pass (Γ := ⟨w0, B, ([] : List O).length, ρ0⟩) hA hW
  (repeat' (first | refine c1.makeW hp [] rfl trivial ?_ | refine c2.makeW hp [0] rfl ⟨rfl, trivial⟩ ?_ | refine c2.makeW hp [1] rfl ⟨rfl, trivial⟩ ?_ | refine Exists.intro (pcl s' m') (And.intro ⟨pcl_len hl, pcl_all hl⟩ ?_) | refine And.intro ⟨pcl_len hl, leR rfl, pcl_ones⟩ ?_ | refine Exists.intro (pcl s' m') (And.intro ⟨leR rfl, spl0 (leR rfl)⟩ ?_) | refine And.intro (neI rfl) ?_ | refine And.intro ⟨rfl, leR rfl, onesR rfl⟩ ?_ | refine And.intro ⟨rfl, leR rfl⟩ ?_ | refine draw_rule2 hfol (fun KK hKK => ?_) | refine hKK _ _ _ (by kernel_rfl) ?_ | refine region_rule (fun KK hKK => ?_) | refine hKK _ _ ?_ | refine And.intro (Eq.refl true) ?_ | refine Exists.intro _ (And.intro (wI (by omega)) ?_) | refine Exists.intro _ (And.intro (wU (by omega)) ?_) | refine Exists.intro _ (And.intro ⟨rfl, by omega⟩ ?_) | refine Exists.intro _ (And.intro rfl ?_) | refine And.intro rfl ?_ | refine And.intro ⟨rfl, rfl⟩ ?_ | ((refine And.intro (fun _ => ?_) (fun _ => ?_)) <;> try (exfalso; omega))))
  exact Exists.intro [] (And.intro (rfl) (And.intro trivial rfl))
theorem s_DrawDiagramText : ∃ s' m', m'.length = 16 ∧ (∀ x ∈ m', x < 256) ∧ SpecW Try.prog W n_s_DrawDiagramText [.raw v] [] (pv s' m') [] := by
  have c1 := s_from hA hN hg
  obtain ⟨s', m', a2, h2, hl, hb, _, c2⟩ := s_spoil hA hN hg 0 (fH g N (min N 4096)) (Nat.zero_le _)
  refine ⟨s', m', hl, hb, ?_⟩
  generalize fH g N (min N 4096) = h0 at c1 c2
  obtain ⟨a, cap, hv⟩ := hA.form
  refine SpecW.of_EV hf_s_DrawDiagramText hc_s_DrawDiagramText rfl rfl rfl fun w0 B ρ0 hW => ?_
  have hp := ArgK.pass (Γ := ⟨w0, B, ([] : List O).length, ρ0⟩) hA hW
  (repeat' (first | refine c1.makeW hp [] rfl trivial ?_ | refine c2.makeW hp [0] rfl ⟨rfl, trivial⟩ ?_ | refine c2.makeW hp [1] rfl ⟨rfl, trivial⟩ ?_ | refine Exists.intro (pcl s' m') (And.intro ⟨pcl_len hl, pcl_all hl⟩ ?_) | refine And.intro ⟨pcl_len hl, leR rfl, pcl_ones⟩ ?_ | refine Exists.intro (pcl s' m') (And.intro ⟨leR rfl, spl0 (leR rfl)⟩ ?_) | refine And.intro (neI rfl) ?_ | refine And.intro ⟨rfl, leR rfl, onesR rfl⟩ ?_ | refine And.intro ⟨rfl, leR rfl⟩ ?_ | refine draw_rule2 hfol (fun KK hKK => ?_) | refine hKK _ _ _ (by kernel_rfl) ?_ | refine region_rule (fun KK hKK => ?_) | refine hKK _ _ ?_ | refine And.intro (Eq.refl true) ?_ | refine Exists.intro _ (And.intro (wI (by omega)) ?_) | refine Exists.intro _ (And.intro (wU (by omega)) ?_) | refine Exists.intro _ (And.intro ⟨rfl, by omega⟩ ?_) | refine Exists.intro _ (And.intro rfl ?_) | refine And.intro rfl ?_ | refine And.intro ⟨rfl, rfl⟩ ?_ | ((refine And.intro (fun _ => ?_) (fun _ => ?_)) <;> try (exfalso; omega))))
  exact Exists.intro [] (And.intro (rfl) (And.intro trivial rfl))
theorem s_DrawUnitDiagram : ∃ r, SpecW Try.prog W n_s_DrawUnitDiagram [.raw v] [] (vi r) [] := by
  have c1 := s_from hA hN hg
  obtain ⟨r, a2, h2, _, c2⟩ := s_near hA hN hg 0 (fH g N (min N 4096)) (Nat.zero_le _) 8 (by omega)
  refine ⟨r, ?_⟩
  generalize fH g N (min N 4096) = h0 at c1 c2
  refine SpecW.of_EV hf_s_DrawUnitDiagram hc_s_DrawUnitDiagram rfl rfl rfl fun w0 B ρ0 hW => ?_
  have hp := ArgK.pass (Γ := ⟨w0, B, ([] : List O).length, ρ0⟩) hA hW
  (repeat' (first | refine c1.makeW hp [] rfl trivial ?_ | refine c2.makeW hp [0] rfl ⟨rfl, trivial⟩ ?_ | refine And.intro (neI rfl) ?_ | refine And.intro ⟨rfl, leR rfl, onesR rfl⟩ ?_ | refine And.intro ⟨rfl, leR rfl⟩ ?_ | refine draw_rule2 hfol (fun KK hKK => ?_) | refine hKK _ _ _ (by kernel_rfl) ?_ | refine region_rule (fun KK hKK => ?_) | refine hKK _ _ ?_ | refine And.intro (Eq.refl true) ?_ | refine Exists.intro _ (And.intro (wI (by omega)) ?_) | refine Exists.intro _ (And.intro (wU (by omega)) ?_) | refine Exists.intro _ (And.intro ⟨rfl, by omega⟩ ?_) | refine Exists.intro _ (And.intro rfl ?_) | refine And.intro rfl ?_ | refine And.intro ⟨rfl, rfl⟩ ?_ | ((refine And.intro (fun _ => ?_) (fun _ => ?_)) <;> try (exfalso; omega))))
  exact Exists.intro [] (And.intro (rfl) (And.intro trivial rfl))
theorem s_two : ∃ s1 m1 s2 m2, m1.length = 16 ∧ (∀ x ∈ m1, x < 256) ∧ m2.length = 16 ∧ (∀ x ∈ m2, x < 256) ∧ SpecW Try.prog W n_s_l01Two [.raw v] [] (.tup [pv s1 m1, pv s2 m2]) [] := by
  have c1 := s_from hA hN hg
  obtain ⟨s1, m1, a2, h2, hl1, hb1, ha2, c2⟩ := s_spoil hA hN hg 0 (fH g N (min N 4096)) (Nat.zero_le _)
  generalize fH g N (min N 4096) = h0 at c1 c2
  obtain ⟨q, h3, hq, c3⟩ := s_nxt hA hN hg a2 h2 ha2 12 (by omega)
  have ha3 := nxA_le ha2
  generalize nxA N a2 = a3 at c3 ha3
  by_cases h0q : q = 0
  · subst h0q
    obtain ⟨s2, m2, a4, h4, hl2, hb2, ha4, c4⟩ := s_spoil hA hN hg a3 h3 ha3
    refine ⟨s1, m1, s2, m2, hl1, hb1, hl2, hb2, ?_⟩
    refine SpecW.of_EV hf_s_l01Two hc_s_l01Two rfl rfl rfl fun w0 B ρ0 hW => ?_
    have hp := ArgK.pass (Γ := ⟨w0, B, ([] : List O).length, ρ0⟩) hA hW
    have hfol : Try.prog.follows .mixedOrders = true := rfl
    (repeat' (first | refine c1.makeW hp [] rfl trivial ?_ | refine c2.makeW hp [2] rfl ⟨rfl, trivial⟩ ?_ | refine c3.makeW hp [2] rfl ⟨rfl, trivial⟩ ?_ | refine c4.makeW hp [2] rfl ⟨rfl, trivial⟩ ?_ | refine Exists.intro (pcl s1 m1) (And.intro ⟨pcl_len hl1, pcl_all hl1⟩ ?_) | refine And.intro ⟨pcl_len hl1, leR rfl, pcl_ones⟩ ?_ | refine Exists.intro (pcl s1 m1) (And.intro ⟨leR rfl, spl0 (leR rfl)⟩ ?_) | refine Exists.intro (pcl s2 m2) (And.intro ⟨pcl_len hl2, pcl_all hl2⟩ ?_) | refine And.intro ⟨pcl_len hl2, leR rfl, pcl_ones⟩ ?_ | refine Exists.intro (pcl s2 m2) (And.intro ⟨leR rfl, spl0 (leR rfl)⟩ ?_) | refine And.intro (neI rfl) ?_ | refine And.intro ⟨rfl, leR rfl, onesR rfl⟩ ?_ | refine And.intro ⟨rfl, leR rfl⟩ ?_ | refine draw_rule2 hfol (fun KK hKK => ?_) | refine hKK _ _ _ (by kernel_rfl) ?_ | refine region_rule (fun KK hKK => ?_) | refine hKK _ _ ?_ | refine And.intro (Eq.refl true) ?_ | refine Exists.intro _ (And.intro (wI (by omega)) ?_) | refine Exists.intro _ (And.intro (wU (by omega)) ?_) | refine Exists.intro _ (And.intro ⟨rfl, by omega⟩ ?_) | refine Exists.intro _ (And.intro rfl ?_) | refine And.intro rfl ?_ | refine And.intro ⟨rfl, rfl⟩ ?_ | ((refine And.intro (fun _ => ?_) (fun _ => ?_)) <;> try (exfalso; omega))))
    exact Exists.intro [] (And.intro (rfl) (And.intro trivial rfl))
  · have hcl : ∃ n : Nat, 1 ≤ n ∧ n ≤ 8 ∧ (if (8 : Int) < (if (1 : Int) > s1 then 1 else s1) then 8 else (if (1 : Int) > s1 then 1 else s1)) = n := by
      refine ⟨(if (8 : Int) < (if (1 : Int) > s1 then 1 else s1) then 8 else (if (1 : Int) > s1 then 1 else s1)).toNat, ?_⟩
      repeat' split
      all_goals omega
    obtain ⟨n, hn1, hn8, hn⟩ := hcl
    obtain ⟨x, hx⟩ : ∃ x, (if (1 : Int) > s1 then 1 else s1) = x := ⟨_, rfl⟩
    rw [hx] at hn
    obtain ⟨m2, a4, h4, hD, ha4, c4⟩ := s_drawOf hA hN hg a3 h3 ha3 n hn1 hn8
    have hl2 := hD.len
    refine ⟨s1, m1, n, m2, hl1, hb1, hl2, byte_D hD, ?_⟩
    refine SpecW.of_EV hf_s_l01Two hc_s_l01Two rfl rfl rfl fun w0 B ρ0 hW => ?_
    have hp := ArgK.pass (Γ := ⟨w0, B, ([] : List O).length, ρ0⟩) hA hW
    have hfol : Try.prog.follows .mixedOrders = true := rfl
    (repeat' (first | refine c1.makeW hp [] rfl trivial ?_ | refine c2.makeW hp [2] rfl ⟨rfl, trivial⟩ ?_ | refine c3.makeW hp [2] rfl ⟨rfl, trivial⟩ ?_ | refine Exists.intro _ (And.intro hx ?_) | refine Exists.intro _ (And.intro hn ?_) | refine c4.makeW hp [2] rfl ⟨rfl, trivial⟩ ?_ | refine Exists.intro (pcl s1 m1) (And.intro ⟨pcl_len hl1, pcl_all hl1⟩ ?_) | refine And.intro ⟨pcl_len hl1, leR rfl, pcl_ones⟩ ?_ | refine Exists.intro (pcl s1 m1) (And.intro ⟨leR rfl, spl0 (leR rfl)⟩ ?_) | refine Exists.intro (pcl (n : Int) m2) (And.intro ⟨pcl_len hl2, pcl_all hl2⟩ ?_) | refine And.intro ⟨pcl_len hl2, leR rfl, pcl_ones⟩ ?_ | refine Exists.intro (pcl (n : Int) m2) (And.intro ⟨leR rfl, spl0 (leR rfl)⟩ ?_) | refine And.intro (neI rfl) ?_ | refine And.intro ⟨rfl, leR rfl, onesR rfl⟩ ?_ | refine And.intro ⟨rfl, leR rfl⟩ ?_ | refine draw_rule2 hfol (fun KK hKK => ?_) | refine hKK _ _ _ (by kernel_rfl) ?_ | refine region_rule (fun KK hKK => ?_) | refine hKK _ _ ?_ | refine And.intro (Eq.refl true) ?_ | refine Exists.intro _ (And.intro (wI (by omega)) ?_) | refine Exists.intro _ (And.intro (wU (by omega)) ?_) | refine Exists.intro _ (And.intro ⟨rfl, by omega⟩ ?_) | refine Exists.intro _ (And.intro rfl ?_) | refine And.intro rfl ?_ | refine And.intro ⟨rfl, rfl⟩ ?_ | ((refine And.intro (fun _ => ?_) (fun _ => ?_)) <;> try (exfalso; omega))))
    exact Exists.intro [] (And.intro (rfl) (And.intro trivial rfl))
theorem s_DrawMultiplyDiagrams : ∃ s1 m1 s2 m2, m1.length = 16 ∧ (∀ x ∈ m1, x < 256) ∧ m2.length = 16 ∧ (∀ x ∈ m2, x < 256) ∧ SpecW Try.prog W n_s_DrawMultiplyDiagrams [.raw v] [] (.tup [pv s1 m1, pv s2 m2]) [] := by
  obtain ⟨s1, m1, s2, m2, hl1, hb1, hl2, hb2, c1⟩ := s_two hA hN hg
  refine ⟨s1, m1, s2, m2, hl1, hb1, hl2, hb2, ?_⟩
  refine SpecW.of_EV hf_s_DrawMultiplyDiagrams hc_s_DrawMultiplyDiagrams rfl rfl rfl fun w0 B ρ0 hW => ?_
  have hp := ArgK.pass (Γ := ⟨w0, B, ([] : List O).length, ρ0⟩) hA hW
  (repeat' (first | refine c1.makeW hp [] rfl trivial ?_ | refine Exists.intro (pcl s1 m1) (And.intro ⟨pcl_len hl1, pcl_all hl1⟩ ?_) | refine And.intro ⟨pcl_len hl1, leR rfl, pcl_ones⟩ ?_ | refine Exists.intro (pcl s1 m1) (And.intro ⟨leR rfl, spl0 (leR rfl)⟩ ?_) | refine Exists.intro (pcl s2 m2) (And.intro ⟨pcl_len hl2, pcl_all hl2⟩ ?_) | refine And.intro ⟨pcl_len hl2, leR rfl, pcl_ones⟩ ?_ | refine Exists.intro (pcl s2 m2) (And.intro ⟨leR rfl, spl0 (leR rfl)⟩ ?_) | refine And.intro (neI rfl) ?_ | refine And.intro ⟨rfl, leR rfl, onesR rfl⟩ ?_ | refine And.intro ⟨rfl, leR rfl⟩ ?_ | refine draw_rule2 hfol (fun KK hKK => ?_) | refine hKK _ _ _ (by kernel_rfl) ?_ | refine region_rule (fun KK hKK => ?_) | refine hKK _ _ ?_ | refine And.intro (Eq.refl true) ?_ | refine Exists.intro _ (And.intro (wI (by omega)) ?_) | refine Exists.intro _ (And.intro (wU (by omega)) ?_) | refine Exists.intro _ (And.intro ⟨rfl, by omega⟩ ?_) | refine Exists.intro _ (And.intro rfl ?_) | refine And.intro rfl ?_ | refine And.intro ⟨rfl, rfl⟩ ?_ | ((refine And.intro (fun _ => ?_) (fun _ => ?_)) <;> try (exfalso; omega))))
  exact Exists.intro [] (And.intro (rfl) (And.intro trivial rfl))
end
/-! the unit and generators -/
def unR (n : Int) : Int × List Nat × Int := if 1 ≤ n ∧ n ≤ 8 then (n, un n.toNat, 0) else (0, List.replicate 16 0, 2)
theorem unR_len (n : Int) : (unR n).2.1.length = 16 := by unfold unR; split <;> simp [un_len]
theorem s_iUnit (n : Int) : Spec Try.prog n_i_UnitDiagram [vi n] [] (dV (unR n)) [] := by
  have hi := s_iin n 1 8
  unfold unR
  by_cases h : 1 ≤ n ∧ n ≤ 8
  · rw [decide_eq_true h] at hi
    rw [if_pos h]
    obtain ⟨k, rfl⟩ : ∃ k : Nat, n = k := ⟨n.toNat, by omega⟩
    have hu := s_iunit k (by omega) (by omega)
    rw [Int.toNat_natCast]
    refine SpecW.of_EV hf_i_UnitDiagram hc_i_UnitDiagram rfl rfl rfl fun w0 B ρ0 _ => ?_
    (repeat' (first | refine (hi).pure rfl ?_ | refine (hu).pure rfl ?_ | refine Exists.intro (pcl (k : Int) (un k)) (And.intro ⟨pcl_len un_len, pcl_all un_len⟩ ?_) | refine And.intro ⟨pcl_len un_len, leR rfl, pcl_ones⟩ ?_ | refine Exists.intro (pcl (k : Int) (un k)) (And.intro ⟨leR rfl, spl0 (leR rfl)⟩ ?_) | refine And.intro (neI rfl) ?_ | refine And.intro ⟨rfl, leR rfl, onesR rfl⟩ ?_ | refine And.intro ⟨rfl, leR rfl⟩ ?_ | refine draw_rule2 hfol (fun KK hKK => ?_) | refine hKK _ _ _ (by kernel_rfl) ?_ | refine region_rule (fun KK hKK => ?_) | refine hKK _ _ ?_ | refine And.intro (Eq.refl true) ?_ | refine Exists.intro _ (And.intro (wI (by omega)) ?_) | refine Exists.intro _ (And.intro (wU (by omega)) ?_) | refine Exists.intro _ (And.intro ⟨rfl, by omega⟩ ?_) | refine Exists.intro _ (And.intro rfl ?_) | refine And.intro rfl ?_ | refine And.intro ⟨rfl, rfl⟩ ?_ | ((refine And.intro (fun _ => ?_) (fun _ => ?_)) <;> try (exfalso; omega))))
    exact Exists.intro [] (And.intro (rfl) (And.intro trivial rfl))
  · rw [decide_eq_false h] at hi
    rw [if_neg h]
    refine SpecW.of_EV hf_i_UnitDiagram hc_i_UnitDiagram rfl rfl rfl fun w0 B ρ0 _ => ?_
    (repeat' (first | refine (hi).pure rfl ?_ | refine Exists.intro (pcl 0 (List.replicate 16 0)) (And.intro ⟨leR rfl, rfl⟩ ?_) | refine Exists.intro (pcl 0 (List.replicate 16 0)) (And.intro ⟨rfl, rfl⟩ ?_) | refine And.intro (neI rfl) ?_ | refine And.intro ⟨rfl, leR rfl, onesR rfl⟩ ?_ | refine And.intro ⟨rfl, leR rfl⟩ ?_ | refine draw_rule2 hfol (fun KK hKK => ?_) | refine hKK _ _ _ (by kernel_rfl) ?_ | refine region_rule (fun KK hKK => ?_) | refine hKK _ _ ?_ | refine And.intro (Eq.refl true) ?_ | refine Exists.intro _ (And.intro (wI (by omega)) ?_) | refine Exists.intro _ (And.intro (wU (by omega)) ?_) | refine Exists.intro _ (And.intro ⟨rfl, by omega⟩ ?_) | refine Exists.intro _ (And.intro rfl ?_) | refine And.intro rfl ?_ | refine And.intro ⟨rfl, rfl⟩ ?_ | ((refine And.intro (fun _ => ?_) (fun _ => ?_)) <;> try (exfalso; omega))))
    exact Exists.intro [] (And.intro (rfl) (And.intro trivial rfl))
theorem s_sUnit (n : Int) : Spec Try.prog n_s_UnitDiagram [vi n] [] (dV (unR n)) [] := by
  have hi := s_in n 1 8
  unfold unR
  by_cases h : 1 ≤ n ∧ n ≤ 8
  · rw [decide_eq_true h] at hi
    rw [if_pos h]
    obtain ⟨k, rfl⟩ : ∃ k : Nat, n = k := ⟨n.toNat, by omega⟩
    have hu := s_sone k (by omega) (by omega)
    rw [Int.toNat_natCast]
    refine SpecW.of_EV hf_s_UnitDiagram hc_s_UnitDiagram rfl rfl rfl fun w0 B ρ0 _ => ?_
    (repeat' (first | refine (hi).pure rfl ?_ | refine (hu).pure rfl ?_ | refine Exists.intro (pcl (k : Int) (un k)) (And.intro ⟨pcl_len un_len, pcl_all un_len⟩ ?_) | refine And.intro ⟨pcl_len un_len, leR rfl, pcl_ones⟩ ?_ | refine Exists.intro (pcl (k : Int) (un k)) (And.intro ⟨leR rfl, spl0 (leR rfl)⟩ ?_) | refine And.intro (neI rfl) ?_ | refine And.intro ⟨rfl, leR rfl, onesR rfl⟩ ?_ | refine And.intro ⟨rfl, leR rfl⟩ ?_ | refine draw_rule2 hfol (fun KK hKK => ?_) | refine hKK _ _ _ (by kernel_rfl) ?_ | refine region_rule (fun KK hKK => ?_) | refine hKK _ _ ?_ | refine And.intro (Eq.refl true) ?_ | refine Exists.intro _ (And.intro (wI (by omega)) ?_) | refine Exists.intro _ (And.intro (wU (by omega)) ?_) | refine Exists.intro _ (And.intro ⟨rfl, by omega⟩ ?_) | refine Exists.intro _ (And.intro rfl ?_) | refine And.intro rfl ?_ | refine And.intro ⟨rfl, rfl⟩ ?_ | ((refine And.intro (fun _ => ?_) (fun _ => ?_)) <;> try (exfalso; omega))))
    exact Exists.intro [] (And.intro (rfl) (And.intro trivial rfl))
  · rw [decide_eq_false h] at hi
    rw [if_neg h]
    refine SpecW.of_EV hf_s_UnitDiagram hc_s_UnitDiagram rfl rfl rfl fun w0 B ρ0 _ => ?_
    (repeat' (first | refine (hi).pure rfl ?_ | refine Exists.intro (pcl 0 (List.replicate 16 0)) (And.intro ⟨leR rfl, rfl⟩ ?_) | refine Exists.intro (pcl 0 (List.replicate 16 0)) (And.intro ⟨rfl, rfl⟩ ?_) | refine And.intro (neI rfl) ?_ | refine And.intro ⟨rfl, leR rfl, onesR rfl⟩ ?_ | refine And.intro ⟨rfl, leR rfl⟩ ?_ | refine draw_rule2 hfol (fun KK hKK => ?_) | refine hKK _ _ _ (by kernel_rfl) ?_ | refine region_rule (fun KK hKK => ?_) | refine hKK _ _ ?_ | refine And.intro (Eq.refl true) ?_ | refine Exists.intro _ (And.intro (wI (by omega)) ?_) | refine Exists.intro _ (And.intro (wU (by omega)) ?_) | refine Exists.intro _ (And.intro ⟨rfl, by omega⟩ ?_) | refine Exists.intro _ (And.intro rfl ?_) | refine And.intro rfl ?_ | refine And.intro ⟨rfl, rfl⟩ ?_ | ((refine And.intro (fun _ => ?_) (fun _ => ?_)) <;> try (exfalso; omega))))
    exact Exists.intro [] (And.intro (rfl) (And.intro trivial rfl))
end Go.Proofs.Ytgpgcdofhkpeaaa.VE
