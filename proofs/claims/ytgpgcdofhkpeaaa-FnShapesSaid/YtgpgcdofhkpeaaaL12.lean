/- Contracts of functions of the given program, for all arguments that the contract names; see each theorem. -/
import Derived.Test.YtgpgcdofhkpeaaaL11
set_option linter.all false
namespace Go.Proofs.Ytgpgcdofhkpeaaa.VE
open Go
set_option maxHeartbeats 1600000
set_option maxRecDepth 100000

/-! what FnShapes draws -/
attribute [local irreducible] IntKind.wrap
section
variable {W : World → (Nat → Prop) → Prop} {v : Value} {g : Nat → Int} {N : Nat} (hA : ArgK .u8 W v g N) (hN : N ≤ 1048576) (hg : ∀ j, j < N → 0 ≤ g j ∧ g j < 256)
include hA hN hg
theorem s_DrawUnionDiagram : ∃ s1 m1 s2 m2, m1.length = 16 ∧ (∀ x ∈ m1, x < 256) ∧ m2.length = 16 ∧ (∀ x ∈ m2, x < 256) ∧ SpecW Try.prog W n_s_DrawUnionDiagram [.raw v] [] (.tup [pv s1 m1, pv s2 m2]) [] := by
  have c1 := s_from hA hN hg
  have ha0 : 0 ≤ N := Nat.zero_le _
  generalize fH g N (min N 4096) = h0 at c1
  obtain ⟨q, h1, hq, c2⟩ := s_nxt hA hN hg 0 h0 ha0 4 (by omega)
  have ha1 := nxA_le ha0
  generalize nxA N 0 = a1 at c2 ha1
  by_cases h0q : q = 0
  · subst h0q
    obtain ⟨s1, m1, a2, h2, hl1, hb1, ha2, c3⟩ := s_spoil hA hN hg a1 h1 ha1
    obtain ⟨s2, m2, a3, h3, hl2, hb2, ha3, c4⟩ := s_spoil hA hN hg a2 h2 ha2
    refine ⟨s1, m1, s2, m2, hl1, hb1, hl2, hb2, ?_⟩
    refine SpecW.of_EV hf_s_DrawUnionDiagram hc_s_DrawUnionDiagram rfl rfl rfl fun w0 B ρ0 hW => ?_
    have hp := ArgK.pass (Γ := ⟨w0, B, ([] : List O).length, ρ0⟩) hA hW
    (repeat' (first | refine c1.makeW hp [] rfl trivial ?_ | refine c2.makeW hp [2] rfl ⟨rfl, trivial⟩ ?_ | refine c3.makeW hp [2] rfl ⟨rfl, trivial⟩ ?_ | refine c4.makeW hp [2] rfl ⟨rfl, trivial⟩ ?_ | refine Exists.intro (pcl s1 m1) (And.intro ⟨pcl_len hl1, pcl_all hl1⟩ ?_) | refine And.intro ⟨pcl_len hl1, leR rfl, pcl_ones⟩ ?_ | refine Exists.intro (pcl s1 m1) (And.intro ⟨leR rfl, spl0 (leR rfl)⟩ ?_) | refine Exists.intro (pcl s2 m2) (And.intro ⟨pcl_len hl2, pcl_all hl2⟩ ?_) | refine And.intro ⟨pcl_len hl2, leR rfl, pcl_ones⟩ ?_ | refine Exists.intro (pcl s2 m2) (And.intro ⟨leR rfl, spl0 (leR rfl)⟩ ?_) | refine And.intro (neI rfl) ?_ | refine And.intro ⟨rfl, leR rfl, onesR rfl⟩ ?_ | refine And.intro ⟨rfl, leR rfl⟩ ?_ | refine draw_rule2 hfol (fun KK hKK => ?_) | refine hKK _ _ _ (by kernel_rfl) ?_ | refine region_rule (fun KK hKK => ?_) | refine hKK _ _ ?_ | refine And.intro (Eq.refl true) ?_ | refine Exists.intro _ (And.intro (wI (by omega)) ?_) | refine Exists.intro _ (And.intro (wU (by omega)) ?_) | refine Exists.intro _ (And.intro ⟨rfl, by omega⟩ ?_) | refine Exists.intro _ (And.intro rfl ?_) | refine And.intro rfl ?_ | refine And.intro ⟨rfl, rfl⟩ ?_ | ((refine And.intro (fun _ => ?_) (fun _ => ?_)) <;> try (exfalso; omega))))
    exact Exists.intro [] (And.intro (rfl) (And.intro trivial rfl))
  · obtain ⟨x, h2, hx, c3⟩ := s_nxt hA hN hg a1 h1 ha1 4 (by omega)
    have ha2 := nxA_le ha1
    generalize nxA N a1 = a2 at c3 ha2
    obtain ⟨m0, a3, h3, hD0, ha3, c4⟩ := s_drawOf hA hN hg a2 h2 ha2 (x + 1) (by omega) (by omega)
    obtain ⟨s1, m1, a4, h4, hl1, hb1, ha4, c5⟩ := s_bad hA hN hg a3 h3 ha3 (x + 1) m0 hD0
    obtain ⟨y, h5, hy, c6⟩ := s_nxt hA hN hg a4 h4 ha4 4 (by omega)
    have ha5 := nxA_le ha4
    generalize nxA N a4 = a5 at c6 ha5
    obtain ⟨m2, a6, h6, hD2, ha6, c7⟩ := s_drawOf hA hN hg a5 h5 ha5 (y + 1) (by omega) (by omega)
    have hl0 := hD0.len
    have hl2 := hD2.len
    have w1 : IntKind.i64.wrap (1 + (x : Int)) = ((x + 1 : Nat) : Int) := wC (by omega) (by omega)
    have w2 : IntKind.i64.wrap (1 + (y : Int)) = ((y + 1 : Nat) : Int) := wC (by omega) (by omega)
    refine ⟨s1, m1, _, m2, hl1, hb1, hl2, byte_D hD2, (?_ : SpecW Try.prog W n_s_DrawUnionDiagram [.raw v] [] (.tup [pv s1 m1, pv ((y + 1 : Nat) : Int) m2]) [])⟩
    generalize hyy : ((y + 1 : Nat) : Int) = Y at c7 w2 ⊢
    generalize hxx : ((x + 1 : Nat) : Int) = X at c4 c5 w1
    refine SpecW.of_EV hf_s_DrawUnionDiagram hc_s_DrawUnionDiagram rfl rfl rfl fun w0 B ρ0 hW => ?_
    have hp := ArgK.pass (Γ := ⟨w0, B, ([] : List O).length, ρ0⟩) hA hW
    (repeat' (first | refine c1.makeW hp [] rfl trivial ?_ | refine c2.makeW hp [2] rfl ⟨rfl, trivial⟩ ?_ | refine c3.makeW hp [2] rfl ⟨rfl, trivial⟩ ?_ | refine Exists.intro _ (And.intro w1 ?_) | refine c4.makeW hp [2] rfl ⟨rfl, trivial⟩ ?_ | refine c5.makeW hp [2] rfl ⟨rfl, trivial⟩ ?_ | refine c6.makeW hp [2] rfl ⟨rfl, trivial⟩ ?_ | refine Exists.intro _ (And.intro w2 ?_) | refine c7.makeW hp [2] rfl ⟨rfl, trivial⟩ ?_ | refine Exists.intro (pcl s1 m1) (And.intro ⟨pcl_len hl1, pcl_all hl1⟩ ?_) | refine And.intro ⟨pcl_len hl1, leR rfl, pcl_ones⟩ ?_ | refine Exists.intro (pcl s1 m1) (And.intro ⟨leR rfl, spl0 (leR rfl)⟩ ?_) | refine Exists.intro (pcl Y m2) (And.intro ⟨pcl_len hl2, pcl_all hl2⟩ ?_) | refine And.intro ⟨pcl_len hl2, leR rfl, pcl_ones⟩ ?_ | refine Exists.intro (pcl Y m2) (And.intro ⟨leR rfl, spl0 (leR rfl)⟩ ?_) | refine And.intro (neI rfl) ?_ | refine And.intro ⟨rfl, leR rfl, onesR rfl⟩ ?_ | refine And.intro ⟨rfl, leR rfl⟩ ?_ | refine draw_rule2 hfol (fun KK hKK => ?_) | refine hKK _ _ _ (by kernel_rfl) ?_ | refine region_rule (fun KK hKK => ?_) | refine hKK _ _ ?_ | refine And.intro (Eq.refl true) ?_ | refine Exists.intro _ (And.intro (wI (by omega)) ?_) | refine Exists.intro _ (And.intro (wU (by omega)) ?_) | refine Exists.intro _ (And.intro ⟨rfl, by omega⟩ ?_) | refine Exists.intro _ (And.intro rfl ?_) | refine And.intro rfl ?_ | refine And.intro ⟨rfl, rfl⟩ ?_ | ((refine And.intro (fun _ => ?_) (fun _ => ?_)) <;> try (exfalso; omega))))
    exact Exists.intro [] (And.intro (rfl) (And.intro trivial rfl))
theorem s_DrawGeneratorDiagram : ∃ n i, SpecW Try.prog W n_s_DrawGeneratorDiagram [.raw v] [] (.tup [vi n, vi i]) [] := by
  have c1 := s_from hA hN hg
  obtain ⟨r, a1, h1, ha1, c2⟩ := s_near hA hN hg 0 (fH g N (min N 4096)) (Nat.zero_le _) 7 (by omega)
  generalize fH g N (min N 4096) = h0 at c1 c2
  obtain ⟨n, w1⟩ : ∃ n, IntKind.i64.wrap (1 + r) = n := ⟨_, rfl⟩
  obtain ⟨z, w2⟩ : ∃ z, IntKind.i64.wrap (n - 2) = z := ⟨_, rfl⟩
  obtain ⟨x, w3⟩ : ∃ x, (if (0 : Int) > z then 0 else z) = x := ⟨_, rfl⟩
  obtain ⟨m, w4, hm⟩ : ∃ m : Nat, (if (8 : Int) < x then 8 else x) = m ∧ m ≤ 1000 := by
    have hx : 0 ≤ x := by rw [← w3]; split <;> omega
    refine ⟨(if (8 : Int) < x then 8 else x).toNat, ?_, ?_⟩
    · split <;> omega
    · split <;> omega
  obtain ⟨i, a2, h2, ha2, c3⟩ := s_near hA hN hg a1 h1 ha1 m hm
  refine ⟨n, i, ?_⟩
  refine SpecW.of_EV hf_s_DrawGeneratorDiagram hc_s_DrawGeneratorDiagram rfl rfl rfl fun w0 B ρ0 hW => ?_
  have hp := ArgK.pass (Γ := ⟨w0, B, ([] : List O).length, ρ0⟩) hA hW
  (repeat' (first | refine c1.makeW hp [] rfl trivial ?_ | refine c2.makeW hp [0] rfl ⟨rfl, trivial⟩ ?_ | refine Exists.intro _ (And.intro w1 ?_) | refine Exists.intro _ (And.intro w2 ?_) | refine Exists.intro _ (And.intro w3 ?_) | refine Exists.intro _ (And.intro w4 ?_) | refine c3.makeW hp [0] rfl ⟨rfl, trivial⟩ ?_ | refine And.intro (neI rfl) ?_ | refine And.intro ⟨rfl, leR rfl, onesR rfl⟩ ?_ | refine And.intro ⟨rfl, leR rfl⟩ ?_ | refine draw_rule2 hfol (fun KK hKK => ?_) | refine hKK _ _ _ (by kernel_rfl) ?_ | refine region_rule (fun KK hKK => ?_) | refine hKK _ _ ?_ | refine And.intro (Eq.refl true) ?_ | refine Exists.intro _ (And.intro (wI (by omega)) ?_) | refine Exists.intro _ (And.intro (wU (by omega)) ?_) | refine Exists.intro _ (And.intro ⟨rfl, by omega⟩ ?_) | refine Exists.intro _ (And.intro rfl ?_) | refine And.intro rfl ?_ | refine And.intro ⟨rfl, rfl⟩ ?_ | ((refine And.intro (fun _ => ?_) (fun _ => ?_)) <;> try (exfalso; omega))))
  exact Exists.intro [] (And.intro (rfl) (And.intro trivial rfl))
end
/-! generators -/
def geR (n i : Int) : Int × List Nat × Int := if (2 ≤ n ∧ n ≤ 8) ∧ 0 ≤ i ∧ i ≤ n - 2 then (n, gen n.toNat i.toNat, 0) else (0, List.replicate 16 0, 2)
theorem geR_len (n i : Int) : (geR n i).2.1.length = 16 := by unfold geR; split <;> simp [gen_len]
theorem s_iGen (n i : Int) : Spec Try.prog n_i_GeneratorDiagram [vi n, vi i] [] (dV (geR n i)) [] := by
  have h1 := s_iin n 2 8
  have h2 := s_iin i 0 (n - 2)
  unfold geR
  by_cases hn : 2 ≤ n ∧ n ≤ 8
  · rw [decide_eq_true hn] at h1
    have w1 : IntKind.i64.wrap (n - 2) = n - 2 := wI (by omega)
    by_cases hi : 0 ≤ i ∧ i ≤ n - 2
    · rw [decide_eq_true hi] at h2
      rw [if_pos ⟨hn, hi⟩]
      obtain ⟨k, rfl⟩ : ∃ k : Nat, n = k := ⟨n.toNat, by omega⟩
      obtain ⟨j, rfl⟩ : ∃ j : Nat, i = j := ⟨i.toNat, by omega⟩
      have hg := s_igen k j (by omega) (by omega)
      rw [Int.toNat_natCast, Int.toNat_natCast]
      refine SpecW.of_EV hf_i_GeneratorDiagram hc_i_GeneratorDiagram rfl rfl rfl fun w0 B ρ0 _ => ?_
      (repeat' (first | refine Exists.intro _ (And.intro w1 ?_) | refine (h1).pure rfl ?_ | refine (h2).pure rfl ?_ | refine (hg).pure rfl ?_ | refine Exists.intro (pcl (k : Int) (gen k j)) (And.intro ⟨pcl_len gen_len, pcl_all gen_len⟩ ?_) | refine And.intro ⟨pcl_len gen_len, leR rfl, pcl_ones⟩ ?_ | refine Exists.intro (pcl (k : Int) (gen k j)) (And.intro ⟨leR rfl, spl0 (leR rfl)⟩ ?_) | refine And.intro (neI rfl) ?_ | refine And.intro ⟨rfl, leR rfl, onesR rfl⟩ ?_ | refine And.intro ⟨rfl, leR rfl⟩ ?_ | refine draw_rule2 hfol (fun KK hKK => ?_) | refine hKK _ _ _ (by kernel_rfl) ?_ | refine region_rule (fun KK hKK => ?_) | refine hKK _ _ ?_ | refine And.intro (Eq.refl true) ?_ | refine Exists.intro _ (And.intro (wI (by omega)) ?_) | refine Exists.intro _ (And.intro (wU (by omega)) ?_) | refine Exists.intro _ (And.intro ⟨rfl, by omega⟩ ?_) | refine Exists.intro _ (And.intro rfl ?_) | refine And.intro rfl ?_ | refine And.intro ⟨rfl, rfl⟩ ?_ | ((refine And.intro (fun _ => ?_) (fun _ => ?_)) <;> try (exfalso; omega))))
      exact Exists.intro [] (And.intro (rfl) (And.intro trivial rfl))
    · rw [decide_eq_false hi] at h2
      rw [if_neg fun h => hi h.2]
      refine SpecW.of_EV hf_i_GeneratorDiagram hc_i_GeneratorDiagram rfl rfl rfl fun w0 B ρ0 _ => ?_
      (repeat' (first | refine Exists.intro _ (And.intro w1 ?_) | refine (h1).pure rfl ?_ | refine (h2).pure rfl ?_ | refine Exists.intro (pcl 0 (List.replicate 16 0)) (And.intro ⟨leR rfl, rfl⟩ ?_) | refine Exists.intro (pcl 0 (List.replicate 16 0)) (And.intro ⟨rfl, rfl⟩ ?_) | refine And.intro (neI rfl) ?_ | refine And.intro ⟨rfl, leR rfl, onesR rfl⟩ ?_ | refine And.intro ⟨rfl, leR rfl⟩ ?_ | refine draw_rule2 hfol (fun KK hKK => ?_) | refine hKK _ _ _ (by kernel_rfl) ?_ | refine region_rule (fun KK hKK => ?_) | refine hKK _ _ ?_ | refine And.intro (Eq.refl true) ?_ | refine Exists.intro _ (And.intro (wI (by omega)) ?_) | refine Exists.intro _ (And.intro (wU (by omega)) ?_) | refine Exists.intro _ (And.intro ⟨rfl, by omega⟩ ?_) | refine Exists.intro _ (And.intro rfl ?_) | refine And.intro rfl ?_ | refine And.intro ⟨rfl, rfl⟩ ?_ | ((refine And.intro (fun _ => ?_) (fun _ => ?_)) <;> try (exfalso; omega))))
      exact Exists.intro [] (And.intro (rfl) (And.intro trivial rfl))
  · rw [decide_eq_false hn] at h1
    rw [if_neg fun h => hn h.1]
    refine SpecW.of_EV hf_i_GeneratorDiagram hc_i_GeneratorDiagram rfl rfl rfl fun w0 B ρ0 _ => ?_
    (repeat' (first | refine (h1).pure rfl ?_ | refine Exists.intro (pcl 0 (List.replicate 16 0)) (And.intro ⟨leR rfl, rfl⟩ ?_) | refine Exists.intro (pcl 0 (List.replicate 16 0)) (And.intro ⟨rfl, rfl⟩ ?_) | refine And.intro (neI rfl) ?_ | refine And.intro ⟨rfl, leR rfl, onesR rfl⟩ ?_ | refine And.intro ⟨rfl, leR rfl⟩ ?_ | refine draw_rule2 hfol (fun KK hKK => ?_) | refine hKK _ _ _ (by kernel_rfl) ?_ | refine region_rule (fun KK hKK => ?_) | refine hKK _ _ ?_ | refine And.intro (Eq.refl true) ?_ | refine Exists.intro _ (And.intro (wI (by omega)) ?_) | refine Exists.intro _ (And.intro (wU (by omega)) ?_) | refine Exists.intro _ (And.intro ⟨rfl, by omega⟩ ?_) | refine Exists.intro _ (And.intro rfl ?_) | refine And.intro rfl ?_ | refine And.intro ⟨rfl, rfl⟩ ?_ | ((refine And.intro (fun _ => ?_) (fun _ => ?_)) <;> try (exfalso; omega))))
    exact Exists.intro [] (And.intro (rfl) (And.intro trivial rfl))
theorem s_sGen (n i : Int) : Spec Try.prog n_s_GeneratorDiagram [vi n, vi i] [] (dV (geR n i)) [] := by
  have h1 := s_in n 2 8
  have h2 := s_in i 0 (n - 2)
  unfold geR
  by_cases hn : 2 ≤ n ∧ n ≤ 8
  · rw [decide_eq_true hn] at h1
    have w1 : IntKind.i64.wrap (n - 2) = n - 2 := wI (by omega)
    by_cases hi : 0 ≤ i ∧ i ≤ n - 2
    · rw [decide_eq_true hi] at h2
      rw [if_pos ⟨hn, hi⟩]
      obtain ⟨k, rfl⟩ : ∃ k : Nat, n = k := ⟨n.toNat, by omega⟩
      obtain ⟨j, rfl⟩ : ∃ j : Nat, i = j := ⟨i.toNat, by omega⟩
      have hg := s_scup k j (by omega) (by omega)
      rw [Int.toNat_natCast, Int.toNat_natCast]
      refine SpecW.of_EV hf_s_GeneratorDiagram hc_s_GeneratorDiagram rfl rfl rfl fun w0 B ρ0 _ => ?_
      (repeat' (first | refine Exists.intro _ (And.intro w1 ?_) | refine (h1).pure rfl ?_ | refine (h2).pure rfl ?_ | refine (hg).pure rfl ?_ | refine Exists.intro (pcl (k : Int) (gen k j)) (And.intro ⟨pcl_len gen_len, pcl_all gen_len⟩ ?_) | refine And.intro ⟨pcl_len gen_len, leR rfl, pcl_ones⟩ ?_ | refine Exists.intro (pcl (k : Int) (gen k j)) (And.intro ⟨leR rfl, spl0 (leR rfl)⟩ ?_) | refine And.intro (neI rfl) ?_ | refine And.intro ⟨rfl, leR rfl, onesR rfl⟩ ?_ | refine And.intro ⟨rfl, leR rfl⟩ ?_ | refine draw_rule2 hfol (fun KK hKK => ?_) | refine hKK _ _ _ (by kernel_rfl) ?_ | refine region_rule (fun KK hKK => ?_) | refine hKK _ _ ?_ | refine And.intro (Eq.refl true) ?_ | refine Exists.intro _ (And.intro (wI (by omega)) ?_) | refine Exists.intro _ (And.intro (wU (by omega)) ?_) | refine Exists.intro _ (And.intro ⟨rfl, by omega⟩ ?_) | refine Exists.intro _ (And.intro rfl ?_) | refine And.intro rfl ?_ | refine And.intro ⟨rfl, rfl⟩ ?_ | ((refine And.intro (fun _ => ?_) (fun _ => ?_)) <;> try (exfalso; omega))))
      exact Exists.intro [] (And.intro (rfl) (And.intro trivial rfl))
    · rw [decide_eq_false hi] at h2
      rw [if_neg fun h => hi h.2]
      refine SpecW.of_EV hf_s_GeneratorDiagram hc_s_GeneratorDiagram rfl rfl rfl fun w0 B ρ0 _ => ?_
      (repeat' (first | refine Exists.intro _ (And.intro w1 ?_) | refine (h1).pure rfl ?_ | refine (h2).pure rfl ?_ | refine Exists.intro (pcl 0 (List.replicate 16 0)) (And.intro ⟨leR rfl, rfl⟩ ?_) | refine Exists.intro (pcl 0 (List.replicate 16 0)) (And.intro ⟨rfl, rfl⟩ ?_) | refine And.intro (neI rfl) ?_ | refine And.intro ⟨rfl, leR rfl, onesR rfl⟩ ?_ | refine And.intro ⟨rfl, leR rfl⟩ ?_ | refine draw_rule2 hfol (fun KK hKK => ?_) | refine hKK _ _ _ (by kernel_rfl) ?_ | refine region_rule (fun KK hKK => ?_) | refine hKK _ _ ?_ | refine And.intro (Eq.refl true) ?_ | refine Exists.intro _ (And.intro (wI (by omega)) ?_) | refine Exists.intro _ (And.intro (wU (by omega)) ?_) | refine Exists.intro _ (And.intro ⟨rfl, by omega⟩ ?_) | refine Exists.intro _ (And.intro rfl ?_) | refine And.intro rfl ?_ | refine And.intro ⟨rfl, rfl⟩ ?_ | ((refine And.intro (fun _ => ?_) (fun _ => ?_)) <;> try (exfalso; omega))))
      exact Exists.intro [] (And.intro (rfl) (And.intro trivial rfl))
  · rw [decide_eq_false hn] at h1
    rw [if_neg fun h => hn h.1]
    refine SpecW.of_EV hf_s_GeneratorDiagram hc_s_GeneratorDiagram rfl rfl rfl fun w0 B ρ0 _ => ?_
    (repeat' (first | refine (h1).pure rfl ?_ | refine Exists.intro (pcl 0 (List.replicate 16 0)) (And.intro ⟨leR rfl, rfl⟩ ?_) | refine Exists.intro (pcl 0 (List.replicate 16 0)) (And.intro ⟨rfl, rfl⟩ ?_) | refine And.intro (neI rfl) ?_ | refine And.intro ⟨rfl, leR rfl, onesR rfl⟩ ?_ | refine And.intro ⟨rfl, leR rfl⟩ ?_ | refine draw_rule2 hfol (fun KK hKK => ?_) | refine hKK _ _ _ (by kernel_rfl) ?_ | refine region_rule (fun KK hKK => ?_) | refine hKK _ _ ?_ | refine And.intro (Eq.refl true) ?_ | refine Exists.intro _ (And.intro (wI (by omega)) ?_) | refine Exists.intro _ (And.intro (wU (by omega)) ?_) | refine Exists.intro _ (And.intro ⟨rfl, by omega⟩ ?_) | refine Exists.intro _ (And.intro rfl ?_) | refine And.intro rfl ?_ | refine And.intro ⟨rfl, rfl⟩ ?_ | ((refine And.intro (fun _ => ?_) (fun _ => ?_)) <;> try (exfalso; omega))))
    exact Exists.intro [] (And.intro (rfl) (And.intro trivial rfl))
end Go.Proofs.Ytgpgcdofhkpeaaa.VE
