/- Contracts of functions of the given program, for all arguments that the contract names; see each theorem. -/
import Derived.Test.YtgpgcdofhkpeaaaF28
set_option linter.all false
namespace Go.Proofs.Ytgpgcdofhkpeaaa.VE
open Go
set_option maxHeartbeats 1600000
set_option maxRecDepth 100000

theorem s_sIRd (n : Nat) (g : Nat → Int) (N : Nat) (hn1 : 2 ≤ n) (hn : n ≤ 8) (hN : N ≤ 60) (hg : okL n g N) (hb : wdB n g N = true) (W : List Nat → Nat × List Nat) (hW : WD n W) :
    Spec Try.prog n_s_IsReducedWord [vi n, .sl 0] [.pr T_int64 1 N (il g N)] (.tup [vb (decide ((vw n g N).2 = 0 ∧ (W (vw n g N).1).2.length = N)), vi 0]) [.pr T_int64 1 N (il g N)] := by
  have hw := s_swd n g N (by omega)
  rw [hb] at hw
  have hv := s_sval n g N hn1 hn hN hg
  have hD := vw_D hn1 hn N hg
  have hs := s_norm n W hW _ hD
  have hl := hD.len
  have h1 := hW.len hD
  have h2 := hW.b _ hD
  have hle := vw_le (n := n) (g := g) N
  have hle3 : n * N ≤ 8 * 60 := Nat.mul_le_mul hn hN
  unfold rwW at hs
  generalize (W (vw n g N).1).2.length = M at hs h1 ⊢
  generalize (vw n g N).2 = q at hv hle ⊢
  refine SpecW.of_EV hf_s_IsReducedWord hc_s_IsReducedWord rfl rfl rfl fun w0 B ρ0 _ => ?_
  by_cases c1 : q = 0
  · by_cases c2 : M = N
    · rw [decide_eq_true ⟨c1, c2⟩]
      (repeat' (first | refine (hw).read [0] rfl ⟨rfl, trivial⟩ ?_ | refine (hv).read [0] rfl ⟨rfl, trivial⟩ ?_ | refine Exists.intro (pcl (n : Int) (vw n g N).1) (And.intro ⟨pcl_len hl, pcl_all hl⟩ ?_) | refine And.intro ⟨pcl_len hl, leR rfl, pcl_ones⟩ ?_ | refine Exists.intro (pcl (n : Int) (vw n g N).1) (And.intro ⟨leR rfl, spl0 (leR rfl)⟩ ?_) | refine (hs).make [] rfl trivial ?_ | refine And.intro (neI rfl) ?_ | refine And.intro ⟨rfl, leR rfl, onesR rfl⟩ ?_ | refine And.intro ⟨rfl, leR rfl⟩ ?_ | refine draw_rule2 hfol (fun KK hKK => ?_) | refine hKK _ _ _ (by kernel_rfl) ?_ | refine region_rule (fun KK hKK => ?_) | refine hKK _ _ ?_ | refine And.intro (Eq.refl true) ?_ | refine Exists.intro _ (And.intro (wI (by omega)) ?_) | refine Exists.intro _ (And.intro (wU (by omega)) ?_) | refine Exists.intro _ (And.intro ⟨rfl, by omega⟩ ?_) | refine Exists.intro _ (And.intro rfl ?_) | refine And.intro rfl ?_ | refine And.intro ⟨rfl, rfl⟩ ?_ | ((refine And.intro (fun _ => ?_) (fun _ => ?_)) <;> try (exfalso; omega))))
      exact Exists.intro [0] (And.intro (rfl) (And.intro ⟨rfl, trivial⟩ rfl))
    · rw [decide_eq_false fun h => c2 h.2]
      (repeat' (first | refine (hw).read [0] rfl ⟨rfl, trivial⟩ ?_ | refine (hv).read [0] rfl ⟨rfl, trivial⟩ ?_ | refine Exists.intro (pcl (n : Int) (vw n g N).1) (And.intro ⟨pcl_len hl, pcl_all hl⟩ ?_) | refine And.intro ⟨pcl_len hl, leR rfl, pcl_ones⟩ ?_ | refine Exists.intro (pcl (n : Int) (vw n g N).1) (And.intro ⟨leR rfl, spl0 (leR rfl)⟩ ?_) | refine (hs).make [] rfl trivial ?_ | refine And.intro (neI rfl) ?_ | refine And.intro ⟨rfl, leR rfl, onesR rfl⟩ ?_ | refine And.intro ⟨rfl, leR rfl⟩ ?_ | refine draw_rule2 hfol (fun KK hKK => ?_) | refine hKK _ _ _ (by kernel_rfl) ?_ | refine region_rule (fun KK hKK => ?_) | refine hKK _ _ ?_ | refine And.intro (Eq.refl true) ?_ | refine Exists.intro _ (And.intro (wI (by omega)) ?_) | refine Exists.intro _ (And.intro (wU (by omega)) ?_) | refine Exists.intro _ (And.intro ⟨rfl, by omega⟩ ?_) | refine Exists.intro _ (And.intro rfl ?_) | refine And.intro rfl ?_ | refine And.intro ⟨rfl, rfl⟩ ?_ | ((refine And.intro (fun _ => ?_) (fun _ => ?_)) <;> try (exfalso; omega))))
      exact Exists.intro [0] (And.intro (rfl) (And.intro ⟨rfl, trivial⟩ rfl))
  · rw [decide_eq_false fun h => c1 h.1]
    (repeat' (first | refine (hw).read [0] rfl ⟨rfl, trivial⟩ ?_ | refine (hv).read [0] rfl ⟨rfl, trivial⟩ ?_ | refine Exists.intro (pcl (n : Int) (vw n g N).1) (And.intro ⟨pcl_len hl, pcl_all hl⟩ ?_) | refine And.intro ⟨pcl_len hl, leR rfl, pcl_ones⟩ ?_ | refine Exists.intro (pcl (n : Int) (vw n g N).1) (And.intro ⟨leR rfl, spl0 (leR rfl)⟩ ?_) | refine (hs).make [] rfl trivial ?_ | refine And.intro (neI rfl) ?_ | refine And.intro ⟨rfl, leR rfl, onesR rfl⟩ ?_ | refine And.intro ⟨rfl, leR rfl⟩ ?_ | refine draw_rule2 hfol (fun KK hKK => ?_) | refine hKK _ _ _ (by kernel_rfl) ?_ | refine region_rule (fun KK hKK => ?_) | refine hKK _ _ ?_ | refine And.intro (Eq.refl true) ?_ | refine Exists.intro _ (And.intro (wI (by omega)) ?_) | refine Exists.intro _ (And.intro (wU (by omega)) ?_) | refine Exists.intro _ (And.intro ⟨rfl, by omega⟩ ?_) | refine Exists.intro _ (And.intro rfl ?_) | refine And.intro rfl ?_ | refine And.intro ⟨rfl, rfl⟩ ?_ | ((refine And.intro (fun _ => ?_) (fun _ => ?_)) <;> try (exfalso; omega))))
    exact Exists.intro [0] (And.intro (rfl) (And.intro ⟨rfl, trivial⟩ rfl))
theorem s_sIRdE (n : Int) (g : Nat → Int) (N : Nat) (hN : N ≤ 1048576) (hb : wdB n g N = false) : Spec Try.prog n_s_IsReducedWord [vi n, .sl 0] [.pr T_int64 1 N (il g N)] (.tup [vb false, vi 2]) [.pr T_int64 1 N (il g N)] := by
  have hw := s_swd n g N hN
  rw [hb] at hw
  refine SpecW.of_EV hf_s_IsReducedWord hc_s_IsReducedWord rfl rfl rfl fun w0 B ρ0 _ => ?_
  (repeat' (first | refine (hw).read [0] rfl ⟨rfl, trivial⟩ ?_ | refine And.intro (neI rfl) ?_ | refine And.intro ⟨rfl, leR rfl, onesR rfl⟩ ?_ | refine And.intro ⟨rfl, leR rfl⟩ ?_ | refine draw_rule2 hfol (fun KK hKK => ?_) | refine hKK _ _ _ (by kernel_rfl) ?_ | refine region_rule (fun KK hKK => ?_) | refine hKK _ _ ?_ | refine And.intro (Eq.refl true) ?_ | refine Exists.intro _ (And.intro (wI (by omega)) ?_) | refine Exists.intro _ (And.intro (wU (by omega)) ?_) | refine Exists.intro _ (And.intro ⟨rfl, by omega⟩ ?_) | refine Exists.intro _ (And.intro rfl ?_) | refine And.intro rfl ?_ | refine And.intro ⟨rfl, rfl⟩ ?_ | ((refine And.intro (fun _ => ?_) (fun _ => ?_)) <;> try (exfalso; omega))))
  exact Exists.intro [0] (And.intro (rfl) (And.intro ⟨rfl, trivial⟩ rfl))
theorem s_iIRd (n : Nat) (g : Nat → Int) (N : Nat) (hn1 : 2 ≤ n) (hn : n ≤ 8) (hN : N ≤ 60) (hg : okL n g N) (hb : wdB n g N = true) (W : List Nat → Nat × List Nat) (hW : WD n W) :
    Spec Try.prog n_i_IsReducedWord [vi n, .sl 0] [.pr T_int64 1 N (il g N)] (.tup [vb (decide ((vw n g N).2 = 0 ∧ (W (vw n g N).1).2.length = N)), vi 0]) [.pr T_int64 1 N (il g N)] := by
  have hs := s_iRed n g N hn1 hn hN hg hb W hW
  have hD := vw_D hn1 hn N hg
  have h1 := hW.len hD
  have h2 := hW.b _ hD
  have hle := vw_le (n := n) (g := g) N
  have hle3 : n * N ≤ 8 * 60 := Nat.mul_le_mul hn hN
  unfold rwW at hs
  generalize (W (vw n g N).1).2.length = M at hs h1 ⊢
  generalize (vw n g N).2 = q at hs hle ⊢
  refine SpecW.of_EV hf_i_IsReducedWord hc_i_IsReducedWord rfl rfl rfl fun w0 B ρ0 _ => ?_
  by_cases c1 : q = 0
  · by_cases c2 : M = N
    · rw [decide_eq_true ⟨c1, c2⟩]
      (repeat' (first | refine (hs).make [0] rfl ⟨rfl, trivial⟩ ?_ | refine And.intro (neI rfl) ?_ | refine And.intro ⟨rfl, leR rfl, onesR rfl⟩ ?_ | refine And.intro ⟨rfl, leR rfl⟩ ?_ | refine draw_rule2 hfol (fun KK hKK => ?_) | refine hKK _ _ _ (by kernel_rfl) ?_ | refine region_rule (fun KK hKK => ?_) | refine hKK _ _ ?_ | refine And.intro (Eq.refl true) ?_ | refine Exists.intro _ (And.intro (wI (by omega)) ?_) | refine Exists.intro _ (And.intro (wU (by omega)) ?_) | refine Exists.intro _ (And.intro ⟨rfl, by omega⟩ ?_) | refine Exists.intro _ (And.intro rfl ?_) | refine And.intro rfl ?_ | refine And.intro ⟨rfl, rfl⟩ ?_ | ((refine And.intro (fun _ => ?_) (fun _ => ?_)) <;> try (exfalso; omega))))
      exact Exists.intro [0] (And.intro (rfl) (And.intro ⟨rfl, trivial⟩ rfl))
    · rw [decide_eq_false fun h => c2 h.2]
      (repeat' (first | refine (hs).make [0] rfl ⟨rfl, trivial⟩ ?_ | refine And.intro (neI rfl) ?_ | refine And.intro ⟨rfl, leR rfl, onesR rfl⟩ ?_ | refine And.intro ⟨rfl, leR rfl⟩ ?_ | refine draw_rule2 hfol (fun KK hKK => ?_) | refine hKK _ _ _ (by kernel_rfl) ?_ | refine region_rule (fun KK hKK => ?_) | refine hKK _ _ ?_ | refine And.intro (Eq.refl true) ?_ | refine Exists.intro _ (And.intro (wI (by omega)) ?_) | refine Exists.intro _ (And.intro (wU (by omega)) ?_) | refine Exists.intro _ (And.intro ⟨rfl, by omega⟩ ?_) | refine Exists.intro _ (And.intro rfl ?_) | refine And.intro rfl ?_ | refine And.intro ⟨rfl, rfl⟩ ?_ | ((refine And.intro (fun _ => ?_) (fun _ => ?_)) <;> try (exfalso; omega))))
      exact Exists.intro [0] (And.intro (rfl) (And.intro ⟨rfl, trivial⟩ rfl))
  · rw [decide_eq_false fun h => c1 h.1]
    (repeat' (first | refine (hs).make [0] rfl ⟨rfl, trivial⟩ ?_ | refine And.intro (neI rfl) ?_ | refine And.intro ⟨rfl, leR rfl, onesR rfl⟩ ?_ | refine And.intro ⟨rfl, leR rfl⟩ ?_ | refine draw_rule2 hfol (fun KK hKK => ?_) | refine hKK _ _ _ (by kernel_rfl) ?_ | refine region_rule (fun KK hKK => ?_) | refine hKK _ _ ?_ | refine And.intro (Eq.refl true) ?_ | refine Exists.intro _ (And.intro (wI (by omega)) ?_) | refine Exists.intro _ (And.intro (wU (by omega)) ?_) | refine Exists.intro _ (And.intro ⟨rfl, by omega⟩ ?_) | refine Exists.intro _ (And.intro rfl ?_) | refine And.intro rfl ?_ | refine And.intro ⟨rfl, rfl⟩ ?_ | ((refine And.intro (fun _ => ?_) (fun _ => ?_)) <;> try (exfalso; omega))))
    exact Exists.intro [0] (And.intro (rfl) (And.intro ⟨rfl, trivial⟩ rfl))
theorem s_iIRdE (n : Int) (g : Nat → Int) (N : Nat) (hN : N ≤ 1048576) (hb : wdB n g N = false) : Spec Try.prog n_i_IsReducedWord [vi n, .sl 0] [.pr T_int64 1 N (il g N)] (.tup [vb false, vi 2]) [.pr T_int64 1 N (il g N)] := by
  have hs := s_iRedE n g N hN hb
  refine SpecW.of_EV hf_i_IsReducedWord hc_i_IsReducedWord rfl rfl rfl fun w0 B ρ0 _ => ?_
  (repeat' (first | refine (hs).read [0] rfl ⟨rfl, trivial⟩ ?_ | refine And.intro (neI rfl) ?_ | refine And.intro ⟨rfl, leR rfl, onesR rfl⟩ ?_ | refine And.intro ⟨rfl, leR rfl⟩ ?_ | refine draw_rule2 hfol (fun KK hKK => ?_) | refine hKK _ _ _ (by kernel_rfl) ?_ | refine region_rule (fun KK hKK => ?_) | refine hKK _ _ ?_ | refine And.intro (Eq.refl true) ?_ | refine Exists.intro _ (And.intro (wI (by omega)) ?_) | refine Exists.intro _ (And.intro (wU (by omega)) ?_) | refine Exists.intro _ (And.intro ⟨rfl, by omega⟩ ?_) | refine Exists.intro _ (And.intro rfl ?_) | refine And.intro rfl ?_ | refine And.intro ⟨rfl, rfl⟩ ?_ | ((refine And.intro (fun _ => ?_) (fun _ => ?_)) <;> try (exfalso; omega))))
  exact Exists.intro [0] (And.intro (rfl) (And.intro ⟨rfl, trivial⟩ rfl))
theorem s_lawIRd {W : World → (Nat → Prop) → Prop} {v : Value} {g : Nat → Int} {N : Nat} (n : Int) (_ : -9223372036854775808 ≤ n ∧ n ≤ 9223372036854775807) (hA : ArgI W v g N) : SpecW Try.prog W n_l_FnExactIsReducedWord [vi n, .raw v] [] (vb true) [] := by
  obtain ⟨a, cap, hv⟩ := hA.form
  by_cases hN : N ≤ 1048576
  · have ht := s_toI hA hN
    have he := s_eqI g N (by omega)
    have key : ∃ (b : Bool) (c : Int), Spec Try.prog n_s_IsReducedWord [vi n, .sl 0] [.pr T_int64 1 N (il g N)] (.tup [vb b, vi c]) [.pr T_int64 1 N (il g N)] ∧ Spec Try.prog n_i_IsReducedWord [vi n, .sl 0] [.pr T_int64 1 N (il g N)] (.tup [vb b, vi c]) [.pr T_int64 1 N (il g N)] := by
      cases hb : wdB n g N with
      | true =>
        obtain ⟨k, rfl, h2, h8, hN60, hg⟩ := wdB_elim hb
        obtain ⟨Wd, hW⟩ := WD.ex (n := k) (by omega) h8
        exact ⟨_, _, s_sIRd k g N h2 h8 hN60 hg hb Wd hW, s_iIRd k g N h2 h8 hN60 hg hb Wd hW⟩
      | false => exact ⟨_, _, s_sIRdE n g N hN hb, s_iIRdE n g N hN hb⟩
    obtain ⟨b, c, h1, h3⟩ := key
    refine SpecW.of_EV hf_l_FnExactIsReducedWord hc_l_FnExactIsReducedWord rfl rfl rfl fun w0 B ρ0 hW => ?_
    have hp := ArgK.pass (Γ := ⟨w0, B, ([] : List O).length, ρ0⟩) hA hW
    rw [hv] at ht ⊢
    cases b
    all_goals
      (repeat' (first | refine ht.makeW hp [] rfl trivial ?_ | refine (h1).read [0] rfl ⟨rfl, trivial⟩ ?_ | refine (h3).read [1] rfl ⟨rfl, trivial⟩ ?_ | refine (he).read [1,2] rfl ⟨rfl, rfl, trivial⟩ ?_ | refine And.intro (fun h => absurd rfl h) (fun _ => ?_) | refine And.intro (fun _ => ?_) (fun h => absurd rfl h) | refine And.intro (neI rfl) ?_ | refine And.intro ⟨rfl, leR rfl, onesR rfl⟩ ?_ | refine And.intro ⟨rfl, leR rfl⟩ ?_ | refine draw_rule2 hfol (fun KK hKK => ?_) | refine hKK _ _ _ (by kernel_rfl) ?_ | refine region_rule (fun KK hKK => ?_) | refine hKK _ _ ?_ | refine And.intro (Eq.refl true) ?_ | refine Exists.intro _ (And.intro (wI (by omega)) ?_) | refine Exists.intro _ (And.intro (wU (by omega)) ?_) | refine Exists.intro _ (And.intro ⟨rfl, by omega⟩ ?_) | refine Exists.intro _ (And.intro rfl ?_) | refine And.intro rfl ?_ | refine And.intro ⟨rfl, rfl⟩ ?_ | ((refine And.intro (fun _ => ?_) (fun _ => ?_)) <;> try (exfalso; omega))))
      exact finP rfl
  · refine SpecW.of_EV hf_l_FnExactIsReducedWord hc_l_FnExactIsReducedWord rfl rfl rfl fun w0 B ρ0 hW => ?_
    have hp := ArgK.pass (Γ := ⟨w0, B, ([] : List O).length, ρ0⟩) hA hW
    rw [hv]
    (repeat' (first | refine And.intro (neI rfl) ?_ | refine And.intro ⟨rfl, leR rfl, onesR rfl⟩ ?_ | refine And.intro ⟨rfl, leR rfl⟩ ?_ | refine draw_rule2 hfol (fun KK hKK => ?_) | refine hKK _ _ _ (by kernel_rfl) ?_ | refine region_rule (fun KK hKK => ?_) | refine hKK _ _ ?_ | refine And.intro (Eq.refl true) ?_ | refine Exists.intro _ (And.intro (wI (by omega)) ?_) | refine Exists.intro _ (And.intro (wU (by omega)) ?_) | refine Exists.intro _ (And.intro ⟨rfl, by omega⟩ ?_) | refine Exists.intro _ (And.intro rfl ?_) | refine And.intro rfl ?_ | refine And.intro ⟨rfl, rfl⟩ ?_ | ((refine And.intro (fun _ => ?_) (fun _ => ?_)) <;> try (exfalso; omega))))
    exact finP rfl
end Go.Proofs.Ytgpgcdofhkpeaaa.VE
