/- Contracts of functions of the given program, for all arguments that the contract names; see each theorem. -/
import Derived.Test.YtcibbadioijmcaaG5
set_option linter.all false
namespace Go.Proofs.Ytcibbadioijmcaa.VE
open Go
set_option maxHeartbeats 1600000
set_option maxRecDepth 100000

theorem s_less (n : Nat) (a b : List Nat) (ha : IsD n a) (hb : IsD n b) : Spec Try.prog n_s_l01Less [pv n a, pv n b] [] (vb (Op.bytesLess (brB (qq n a) (2 * n)).toList (brB (qq n b) (2 * n)).toList)) [] := by
  have hfol := hfolW
  have h1 := s_stext n a ha
  have h2 := s_stext n b hb
  refine SpecW.of_EV hf_s_l01Less hc_s_l01Less rfl rfl rfl fun w0 B ρ0 _ => ?_
  by_cases hL : Op.bytesLess (brB (qq n a) (2 * n)).toList (brB (qq n b) (2 * n)).toList = true
  · rw [hL]
    (repeat' (first | refine Exists.intro (pcl (n : Int) a) (And.intro ⟨pcl_len ha.len, pcl_all ha.len⟩ ?_) | refine Exists.intro (pcl (n : Int) b) (And.intro ⟨pcl_len hb.len, pcl_all hb.len⟩ ?_) | refine (h1).pure rfl ?_ | refine (h2).pure rfl ?_ | refine And.intro (fun _ => ?_) (fun h => absurd hL h) | refine And.intro (neI rfl) ?_ | refine And.intro ⟨rfl, leR rfl, onesR rfl⟩ ?_ | refine And.intro ⟨rfl, leR rfl⟩ ?_ | refine draw_rule2 hfol (fun KK hKK => ?_) | refine hKK _ _ _ (by kernel_rfl) ?_ | refine region_rule (fun KK hKK => ?_) | refine hKK _ _ ?_ | refine And.intro (Eq.refl true) ?_ | refine Exists.intro _ (And.intro (wI (by omega)) ?_) | refine Exists.intro _ (And.intro (wU (by omega)) ?_) | refine Exists.intro _ (And.intro ⟨rfl, by omega⟩ ?_) | refine Exists.intro _ (And.intro rfl ?_) | refine And.intro rfl ?_ | refine And.intro ⟨rfl, rfl⟩ ?_ | ((refine And.intro (fun _ => ?_) (fun _ => ?_)) <;> try (exfalso; omega))))
    exact Exists.intro [] (And.intro (rfl) (And.intro trivial rfl))
  · rw [Bool.eq_false_iff.2 hL]
    (repeat' (first | refine Exists.intro (pcl (n : Int) a) (And.intro ⟨pcl_len ha.len, pcl_all ha.len⟩ ?_) | refine Exists.intro (pcl (n : Int) b) (And.intro ⟨pcl_len hb.len, pcl_all hb.len⟩ ?_) | refine (h1).pure rfl ?_ | refine (h2).pure rfl ?_ | refine And.intro (fun h => absurd h hL) (fun _ => ?_) | refine And.intro (neI rfl) ?_ | refine And.intro ⟨rfl, leR rfl, onesR rfl⟩ ?_ | refine And.intro ⟨rfl, leR rfl⟩ ?_ | refine draw_rule2 hfol (fun KK hKK => ?_) | refine hKK _ _ _ (by kernel_rfl) ?_ | refine region_rule (fun KK hKK => ?_) | refine hKK _ _ ?_ | refine And.intro (Eq.refl true) ?_ | refine Exists.intro _ (And.intro (wI (by omega)) ?_) | refine Exists.intro _ (And.intro (wU (by omega)) ?_) | refine Exists.intro _ (And.intro ⟨rfl, by omega⟩ ?_) | refine Exists.intro _ (And.intro rfl ?_) | refine And.intro rfl ?_ | refine And.intro ⟨rfl, rfl⟩ ?_ | ((refine And.intro (fun _ => ?_) (fun _ => ?_)) <;> try (exfalso; omega))))
    exact Exists.intro [] (And.intro (rfl) (And.intro trivial rfl))
theorem s_sIsE0 (p c n : Int) (t : Nat → Tm) (N : Nat) (hs : okTs t N) (hb : okTb t N) : Spec Try.prog n_s_l02Is [elV p c n 0] [.pr T_i_Term 18 N (rowT t N)] (vb (isE p c n t N)) [.pr T_i_Term 18 N (rowT t N)] := by
  have hfol := hfolW
  have h1 := s_sprime p
  have h1b := s_in c 0 (p - 1)
  have h2 := s_in n 1 8
  refine SpecW.of_EV hf_s_l02Is hc_s_l02Is rfl rfl rfl fun w0 B ρ0 _ => ?_
  by_cases hpre : preE p c n N = true
  rotate_left
  · have hfin : isE p c n t N = false := by unfold isE; rw [Bool.eq_false_iff.2 hpre]; rfl
    rw [hfin]
    unfold preE at hpre
    cases hp : prI p with
    | false =>
      rw [hp] at h1
      (repeat' (first | refine (h1).pure rfl ?_ | refine Exists.intro [vi p, vi c, vi n, .sl 0] (And.intro ⟨rfl, rfl⟩ ?_) | refine And.intro ⟨rfl, leR rfl, rfl⟩ ?_ | refine Exists.intro [vi p, vi c, vi n, .sl 0] (And.intro ⟨leR rfl, rfl⟩ ?_) | refine And.intro (neI rfl) ?_ | refine And.intro ⟨rfl, leR rfl, onesR rfl⟩ ?_ | refine And.intro ⟨rfl, leR rfl⟩ ?_ | refine draw_rule2 hfol (fun KK hKK => ?_) | refine hKK _ _ _ (by kernel_rfl) ?_ | refine region_rule (fun KK hKK => ?_) | refine hKK _ _ ?_ | refine And.intro (Eq.refl true) ?_ | refine Exists.intro _ (And.intro (wI (by omega)) ?_) | refine Exists.intro _ (And.intro (wU (by omega)) ?_) | refine Exists.intro _ (And.intro ⟨rfl, by omega⟩ ?_) | refine Exists.intro _ (And.intro rfl ?_) | refine And.intro rfl ?_ | refine And.intro ⟨rfl, rfl⟩ ?_ | ((refine And.intro (fun _ => ?_) (fun _ => ?_)) <;> try (exfalso; omega))))
      exact Exists.intro [0] (And.intro (rfl) (And.intro ⟨rfl, trivial⟩ rfl))
    | true =>
    rw [hp] at h1 hpre
    obtain ⟨P, rfl, hP2, hP97, _⟩ := prI_elim hp
    generalize (decide (0 ≤ c ∧ c ≤ (P : Int) - 1)) = b1 at h1b hpre
    generalize decide (1 ≤ n ∧ n ≤ 8) = b2 at h2 hpre
    cases b1
    · (repeat' (first | refine (h1).pure rfl ?_ | refine (h1b).pure rfl ?_ | refine Exists.intro [vi P, vi c, vi n, .sl 0] (And.intro ⟨rfl, rfl⟩ ?_) | refine And.intro ⟨rfl, leR rfl, rfl⟩ ?_ | refine Exists.intro [vi P, vi c, vi n, .sl 0] (And.intro ⟨leR rfl, rfl⟩ ?_) | refine And.intro (neI rfl) ?_ | refine And.intro ⟨rfl, leR rfl, onesR rfl⟩ ?_ | refine And.intro ⟨rfl, leR rfl⟩ ?_ | refine draw_rule2 hfol (fun KK hKK => ?_) | refine hKK _ _ _ (by kernel_rfl) ?_ | refine region_rule (fun KK hKK => ?_) | refine hKK _ _ ?_ | refine And.intro (Eq.refl true) ?_ | refine Exists.intro _ (And.intro (wI (by omega)) ?_) | refine Exists.intro _ (And.intro (wU (by omega)) ?_) | refine Exists.intro _ (And.intro ⟨rfl, by omega⟩ ?_) | refine Exists.intro _ (And.intro rfl ?_) | refine And.intro rfl ?_ | refine And.intro ⟨rfl, rfl⟩ ?_ | ((refine And.intro (fun _ => ?_) (fun _ => ?_)) <;> try (exfalso; omega))))
      exact Exists.intro [0] (And.intro (rfl) (And.intro ⟨rfl, trivial⟩ rfl))
    cases b2
    · (repeat' (first | refine (h1).pure rfl ?_ | refine (h1b).pure rfl ?_ | refine (h2).pure rfl ?_ | refine Exists.intro [vi P, vi c, vi n, .sl 0] (And.intro ⟨rfl, rfl⟩ ?_) | refine And.intro ⟨rfl, leR rfl, rfl⟩ ?_ | refine Exists.intro [vi P, vi c, vi n, .sl 0] (And.intro ⟨leR rfl, rfl⟩ ?_) | refine And.intro (neI rfl) ?_ | refine And.intro ⟨rfl, leR rfl, onesR rfl⟩ ?_ | refine And.intro ⟨rfl, leR rfl⟩ ?_ | refine draw_rule2 hfol (fun KK hKK => ?_) | refine hKK _ _ _ (by kernel_rfl) ?_ | refine region_rule (fun KK hKK => ?_) | refine hKK _ _ ?_ | refine And.intro (Eq.refl true) ?_ | refine Exists.intro _ (And.intro (wI (by omega)) ?_) | refine Exists.intro _ (And.intro (wU (by omega)) ?_) | refine Exists.intro _ (And.intro ⟨rfl, by omega⟩ ?_) | refine Exists.intro _ (And.intro rfl ?_) | refine And.intro rfl ?_ | refine And.intro ⟨rfl, rfl⟩ ?_ | ((refine And.intro (fun _ => ?_) (fun _ => ?_)) <;> try (exfalso; omega))))
      exact Exists.intro [0] (And.intro (rfl) (And.intro ⟨rfl, trivial⟩ rfl))
    simp at hpre
    (repeat' (first | refine (h1).pure rfl ?_ | refine (h1b).pure rfl ?_ | refine (h2).pure rfl ?_ | refine Exists.intro [vi P, vi c, vi n, .sl 0] (And.intro ⟨rfl, rfl⟩ ?_) | refine And.intro ⟨rfl, leR rfl, rfl⟩ ?_ | refine Exists.intro [vi P, vi c, vi n, .sl 0] (And.intro ⟨leR rfl, rfl⟩ ?_) | refine And.intro (neI rfl) ?_ | refine And.intro ⟨rfl, leR rfl, onesR rfl⟩ ?_ | refine And.intro ⟨rfl, leR rfl⟩ ?_ | refine draw_rule2 hfol (fun KK hKK => ?_) | refine hKK _ _ _ (by kernel_rfl) ?_ | refine region_rule (fun KK hKK => ?_) | refine hKK _ _ ?_ | refine And.intro (Eq.refl true) ?_ | refine Exists.intro _ (And.intro (wI (by omega)) ?_) | refine Exists.intro _ (And.intro (wU (by omega)) ?_) | refine Exists.intro _ (And.intro ⟨rfl, by omega⟩ ?_) | refine Exists.intro _ (And.intro rfl ?_) | refine And.intro rfl ?_ | refine And.intro ⟨rfl, rfl⟩ ?_ | ((refine And.intro (fun _ => ?_) (fun _ => ?_)) <;> try (exfalso; omega))))
    exact Exists.intro [0] (And.intro (rfl) (And.intro ⟨rfl, trivial⟩ rfl))
  unfold preE at hpre
  simp only [Bool.and_eq_true, decide_eq_true_eq] at hpre
  obtain ⟨⟨hp, hc⟩, hn, hN⟩ := hpre
  obtain ⟨P, rfl, hP2, hP97, _⟩ := prI_elim hp
  obtain ⟨M, rfl⟩ : ∃ M : Nat, n = M := ⟨n.toNat, by omega⟩
  have hpre' : isE P c M t N = (List.range N).all (okE P M t) := by unfold isE preE; rw [hp, decide_eq_true hc, decide_eq_true hn, decide_eq_true hN]; rfl
  rw [hpre']
  rw [hp] at h1
  rw [decide_eq_true hc] at h1b
  rw [decide_eq_true hn] at h2
  (repeat' (first | refine (h1).pure rfl ?_ | refine (h1b).pure rfl ?_ | refine (h2).pure rfl ?_ | refine Exists.intro [vi P, vi c, vi M, .sl 0] (And.intro ⟨rfl, rfl⟩ ?_) | refine And.intro ⟨rfl, leR rfl, rfl⟩ ?_ | refine Exists.intro [vi P, vi c, vi M, .sl 0] (And.intro ⟨leR rfl, rfl⟩ ?_) | refine And.intro (neI rfl) ?_ | refine And.intro ⟨rfl, leR rfl, onesR rfl⟩ ?_ | refine And.intro ⟨rfl, leR rfl⟩ ?_ | refine draw_rule2 hfol (fun KK hKK => ?_) | refine hKK _ _ _ (by kernel_rfl) ?_ | refine region_rule (fun KK hKK => ?_) | refine hKK _ _ ?_ | refine And.intro (Eq.refl true) ?_ | refine Exists.intro _ (And.intro (wI (by omega)) ?_) | refine Exists.intro _ (And.intro (wU (by omega)) ?_) | refine Exists.intro _ (And.intro ⟨rfl, by omega⟩ ?_) | refine Exists.intro _ (And.intro rfl ?_) | refine And.intro rfl ?_ | refine And.intro ⟨rfl, rfl⟩ ?_ | ((refine And.intro (fun _ => ?_) (fun _ => ?_)) <;> try (exfalso; omega))))
  refine loop_rule (α := Nat) (fun k => k ≤ N ∧ ∀ j, j < k → okE P M t j = true) (fun k => [(1, .ptr 1 0), (3, vi k)])
    (fun k => [.pr T_i_Term 18 N (rowT t N), .cc [vi P, vi c, vi M, .sl 0] T_i_Element]) (fun k => N - k) 0 [0, 1]
    ⟨by omega, fun j hj => by omega⟩ ⟨⟨rfl, rfl, trivial⟩, ⟨rfl, rfl, trivial⟩, rfl⟩ ?_
  rintro k g ⟨hk, hok⟩
  by_cases h9 : k = N
  · subst h9
    rw [is_all hok]
    (repeat' (first | refine And.intro (neI rfl) ?_ | refine And.intro ⟨rfl, leR rfl, onesR rfl⟩ ?_ | refine And.intro ⟨rfl, leR rfl⟩ ?_ | refine draw_rule2 hfol (fun KK hKK => ?_) | refine hKK _ _ _ (by kernel_rfl) ?_ | refine region_rule (fun KK hKK => ?_) | refine hKK _ _ ?_ | refine And.intro (Eq.refl true) ?_ | refine Exists.intro _ (And.intro (wI (by omega)) ?_) | refine Exists.intro _ (And.intro (wU (by omega)) ?_) | refine Exists.intro _ (And.intro ⟨rfl, by omega⟩ ?_) | refine Exists.intro _ (And.intro rfl ?_) | refine And.intro rfl ?_ | refine And.intro ⟨rfl, rfl⟩ ?_ | ((refine And.intro (fun _ => ?_) (fun _ => ?_)) <;> try (exfalso; omega))))
    exact Exists.intro [0] (And.intro (rfl) (And.intro ⟨rfl, trivial⟩ rfl))
  have hkN : k < N := by omega
  have hm := hs k hkN
  have hdia := rowT_dia hs hkN
  have hfac := rowT_fac hs hkN
  have h3 := s_sIs' (t k).1 (t k).2.1 hm (hb k hkN)
  have h4 := s_in (t k).2.2 1 (P - 1)
  cases e2 : isDi (t k).1 (t k).2.1 with
  | false =>
    have hf : okE P M t k = false := by unfold okE; rw [e2, Bool.and_false]; rfl
    rw [not_all hkN hf]
    rw [e2] at h3
    (repeat' (first | refine Exists.intro (pcl (t k).1 (t k).2.1) (And.intro ⟨pcl_len hm, hdia⟩ ?_) | refine Exists.intro (pcl (t k).1 (t k).2.1) (And.intro ⟨pcl_len hm, pcl_all hm⟩ ?_) | refine And.intro ⟨pcl_len hm, leR rfl, pcl_ones⟩ ?_ | refine Exists.intro (pcl (t k).1 (t k).2.1) (And.intro ⟨leR rfl, spl0 (leR rfl)⟩ ?_) | refine (h3).pure rfl ?_ | refine And.intro (neI rfl) ?_ | refine And.intro ⟨rfl, leR rfl, onesR rfl⟩ ?_ | refine And.intro ⟨rfl, leR rfl⟩ ?_ | refine draw_rule2 hfol (fun KK hKK => ?_) | refine hKK _ _ _ (by kernel_rfl) ?_ | refine region_rule (fun KK hKK => ?_) | refine hKK _ _ ?_ | refine And.intro (Eq.refl true) ?_ | refine Exists.intro _ (And.intro (wI (by omega)) ?_) | refine Exists.intro _ (And.intro (wU (by omega)) ?_) | refine Exists.intro _ (And.intro ⟨rfl, by omega⟩ ?_) | refine Exists.intro _ (And.intro rfl ?_) | refine And.intro rfl ?_ | refine And.intro ⟨rfl, rfl⟩ ?_ | ((refine And.intro (fun _ => ?_) (fun _ => ?_)) <;> try (exfalso; omega))))
    exact Exists.intro [0] (And.intro (rfl) (And.intro ⟨rfl, trivial⟩ rfl))
  | true =>
  rw [e2] at h3
  by_cases e1 : (t k).1 = M
  rotate_left
  · have hf : okE P M t k = false := by unfold okE; rw [decide_eq_false e1]; rfl
    rw [not_all hkN hf]
    (repeat' (first | refine Exists.intro (pcl (t k).1 (t k).2.1) (And.intro ⟨pcl_len hm, hdia⟩ ?_) | refine Exists.intro (pcl (t k).1 (t k).2.1) (And.intro ⟨pcl_len hm, pcl_all hm⟩ ?_) | refine And.intro ⟨pcl_len hm, leR rfl, pcl_ones⟩ ?_ | refine Exists.intro (pcl (t k).1 (t k).2.1) (And.intro ⟨leR rfl, spl0 (leR rfl)⟩ ?_) | refine (h3).pure rfl ?_ | refine And.intro (neI rfl) ?_ | refine And.intro ⟨rfl, leR rfl, onesR rfl⟩ ?_ | refine And.intro ⟨rfl, leR rfl⟩ ?_ | refine draw_rule2 hfol (fun KK hKK => ?_) | refine hKK _ _ _ (by kernel_rfl) ?_ | refine region_rule (fun KK hKK => ?_) | refine hKK _ _ ?_ | refine And.intro (Eq.refl true) ?_ | refine Exists.intro _ (And.intro (wI (by omega)) ?_) | refine Exists.intro _ (And.intro (wU (by omega)) ?_) | refine Exists.intro _ (And.intro ⟨rfl, by omega⟩ ?_) | refine Exists.intro _ (And.intro rfl ?_) | refine And.intro rfl ?_ | refine And.intro ⟨rfl, rfl⟩ ?_ | ((refine And.intro (fun _ => ?_) (fun _ => ?_)) <;> try (exfalso; omega))))
    exact Exists.intro [0] (And.intro (rfl) (And.intro ⟨rfl, trivial⟩ rfl))
  by_cases e3 : 1 ≤ (t k).2.2 ∧ (t k).2.2 ≤ (P : Int) - 1
  rotate_left
  · have hf : okE P M t k = false := by unfold okE; rw [decide_eq_false e3, Bool.false_and, Bool.and_false]
    rw [not_all hkN hf]
    rw [decide_eq_false e3] at h4
    (repeat' (first | refine Exists.intro (pcl (t k).1 (t k).2.1) (And.intro ⟨pcl_len hm, hdia⟩ ?_) | refine Exists.intro (pcl (t k).1 (t k).2.1) (And.intro ⟨pcl_len hm, pcl_all hm⟩ ?_) | refine And.intro ⟨pcl_len hm, leR rfl, pcl_ones⟩ ?_ | refine Exists.intro (pcl (t k).1 (t k).2.1) (And.intro ⟨leR rfl, spl0 (leR rfl)⟩ ?_) | refine (h3).pure rfl ?_ | refine Exists.intro _ (And.intro hfac ?_) | refine (h4).pure rfl ?_ | refine And.intro (neI rfl) ?_ | refine And.intro ⟨rfl, leR rfl, onesR rfl⟩ ?_ | refine And.intro ⟨rfl, leR rfl⟩ ?_ | refine draw_rule2 hfol (fun KK hKK => ?_) | refine hKK _ _ _ (by kernel_rfl) ?_ | refine region_rule (fun KK hKK => ?_) | refine hKK _ _ ?_ | refine And.intro (Eq.refl true) ?_ | refine Exists.intro _ (And.intro (wI (by omega)) ?_) | refine Exists.intro _ (And.intro (wU (by omega)) ?_) | refine Exists.intro _ (And.intro ⟨rfl, by omega⟩ ?_) | refine Exists.intro _ (And.intro rfl ?_) | refine And.intro rfl ?_ | refine And.intro ⟨rfl, rfl⟩ ?_ | ((refine And.intro (fun _ => ?_) (fun _ => ?_)) <;> try (exfalso; omega))))
    exact Exists.intro [0] (And.intro (rfl) (And.intro ⟨rfl, trivial⟩ rfl))
  rw [decide_eq_true e3] at h4
  have hokk : okE P M t k = (decide (k = 0) || Op.bytesLess (txE M t (k - 1)).toList (txE M t k).toList) := by
    unfold okE; rw [e2, decide_eq_true e1, decide_eq_true e3, Bool.true_and, Bool.true_and, Bool.true_and]
  obtain ⟨M', hM', hD⟩ := isDi_elim hm e2
  obtain rfl : M' = M := by omega
  by_cases h0 : k = 0
  · subst h0
    rw [decide_eq_true rfl, Bool.true_or] at hokk
    (repeat' (first | refine Exists.intro (pcl (t 0).1 (t 0).2.1) (And.intro ⟨pcl_len hm, hdia⟩ ?_) | refine Exists.intro (pcl (t 0).1 (t 0).2.1) (And.intro ⟨pcl_len hm, pcl_all hm⟩ ?_) | refine And.intro ⟨pcl_len hm, leR rfl, pcl_ones⟩ ?_ | refine Exists.intro (pcl (t 0).1 (t 0).2.1) (And.intro ⟨leR rfl, spl0 (leR rfl)⟩ ?_) | refine (h3).pure rfl ?_ | refine Exists.intro _ (And.intro hfac ?_) | refine (h4).pure rfl ?_ | refine And.intro (neI rfl) ?_ | refine And.intro ⟨rfl, leR rfl, onesR rfl⟩ ?_ | refine And.intro ⟨rfl, leR rfl⟩ ?_ | refine draw_rule2 hfol (fun KK hKK => ?_) | refine hKK _ _ _ (by kernel_rfl) ?_ | refine region_rule (fun KK hKK => ?_) | refine hKK _ _ ?_ | refine And.intro (Eq.refl true) ?_ | refine Exists.intro _ (And.intro (wI (by omega)) ?_) | refine Exists.intro _ (And.intro (wU (by omega)) ?_) | refine Exists.intro _ (And.intro ⟨rfl, by omega⟩ ?_) | refine Exists.intro _ (And.intro rfl ?_) | refine And.intro rfl ?_ | refine And.intro ⟨rfl, rfl⟩ ?_ | ((refine And.intro (fun _ => ?_) (fun _ => ?_)) <;> try (exfalso; omega))))
    refine Exists.intro (0 + 1) (Exists.intro [0, 1] (And.intro ⟨⟨by omega, fun j hj => ?_⟩, (by show N - (0 + 1) < N - 0; omega)⟩ ⟨⟨rfl, rfl, trivial⟩, ⟨rfl, rfl, trivial⟩, rfl⟩))
    obtain rfl : j = 0 := by omega
    exact hokk
  obtain ⟨j, rfl⟩ : ∃ j, k = j + 1 := ⟨k - 1, by omega⟩
  rw [decide_eq_false h0, Bool.false_or, Nat.add_sub_cancel] at hokk
  have hokj := hok j (by omega)
  unfold okE at hokj
  simp only [Bool.and_eq_true, decide_eq_true_eq] at hokj
  obtain ⟨Mj, hMj, hDj⟩ := isDi_elim (hs j (by omega)) hokj.1.2
  obtain rfl : Mj = M' := by omega
  have hL1 := s_less Mj (t j).2.1 (t (j + 1)).2.1 hDj hD
  rw [← hM'] at hL1
  rw [hM', ← hMj] at hL1
  have hL1 : Spec Try.prog n_s_l01Less [pv (t j).1 (t j).2.1, pv (t (j + 1)).1 (t (j + 1)).2.1] [] (vb (Op.bytesLess (txE Mj t j).toList (txE Mj t (j + 1)).toList)) [] := by
    rw [hMj, hM']; exact s_less Mj (t j).2.1 (t (j + 1)).2.1 hDj hD
  have hdiaj := rowT_dia hs (show j < N by omega)
  have hmj := hDj.len
  have hje : ((j + 1 : Nat) : Int) - 1 = (j : Int) := by omega
  generalize Op.bytesLess (txE Mj t j).toList (txE Mj t (j + 1)).toList = b at hL1 hokk
  cases b
  · rw [not_all hkN hokk]
    (repeat' (first | refine Exists.intro (pcl (t (j + 1)).1 (t (j + 1)).2.1) (And.intro ⟨pcl_len hm, hdia⟩ ?_) | refine Exists.intro (pcl (t j).1 (t j).2.1) (And.intro ⟨pcl_len hmj, hdiaj⟩ ?_) | refine Exists.intro (pcl (t (j + 1)).1 (t (j + 1)).2.1) (And.intro ⟨pcl_len hm, pcl_all hm⟩ ?_) | refine And.intro ⟨pcl_len hm, leR rfl, pcl_ones⟩ ?_ | refine Exists.intro (pcl (t (j + 1)).1 (t (j + 1)).2.1) (And.intro ⟨leR rfl, spl0 (leR rfl)⟩ ?_) | refine (h3).pure rfl ?_ | refine Exists.intro _ (And.intro hfac ?_) | refine (h4).pure rfl ?_ | refine Exists.intro j (And.intro ⟨hje, by omega⟩ ?_) | refine (hL1).pure rfl ?_ | refine And.intro (neI rfl) ?_ | refine And.intro ⟨rfl, leR rfl, onesR rfl⟩ ?_ | refine And.intro ⟨rfl, leR rfl⟩ ?_ | refine draw_rule2 hfol (fun KK hKK => ?_) | refine hKK _ _ _ (by kernel_rfl) ?_ | refine region_rule (fun KK hKK => ?_) | refine hKK _ _ ?_ | refine And.intro (Eq.refl true) ?_ | refine Exists.intro _ (And.intro (wI (by omega)) ?_) | refine Exists.intro _ (And.intro (wU (by omega)) ?_) | refine Exists.intro _ (And.intro ⟨rfl, by omega⟩ ?_) | refine Exists.intro _ (And.intro rfl ?_) | refine And.intro rfl ?_ | refine And.intro ⟨rfl, rfl⟩ ?_ | ((refine And.intro (fun _ => ?_) (fun _ => ?_)) <;> try (exfalso; omega))))
    exact Exists.intro [0] (And.intro (rfl) (And.intro ⟨rfl, trivial⟩ rfl))
  · (repeat' (first | refine Exists.intro (pcl (t (j + 1)).1 (t (j + 1)).2.1) (And.intro ⟨pcl_len hm, hdia⟩ ?_) | refine Exists.intro (pcl (t j).1 (t j).2.1) (And.intro ⟨pcl_len hmj, hdiaj⟩ ?_) | refine Exists.intro (pcl (t (j + 1)).1 (t (j + 1)).2.1) (And.intro ⟨pcl_len hm, pcl_all hm⟩ ?_) | refine And.intro ⟨pcl_len hm, leR rfl, pcl_ones⟩ ?_ | refine Exists.intro (pcl (t (j + 1)).1 (t (j + 1)).2.1) (And.intro ⟨leR rfl, spl0 (leR rfl)⟩ ?_) | refine (h3).pure rfl ?_ | refine Exists.intro _ (And.intro hfac ?_) | refine (h4).pure rfl ?_ | refine Exists.intro j (And.intro ⟨hje, by omega⟩ ?_) | refine (hL1).pure rfl ?_ | refine And.intro (neI rfl) ?_ | refine And.intro ⟨rfl, leR rfl, onesR rfl⟩ ?_ | refine And.intro ⟨rfl, leR rfl⟩ ?_ | refine draw_rule2 hfol (fun KK hKK => ?_) | refine hKK _ _ _ (by kernel_rfl) ?_ | refine region_rule (fun KK hKK => ?_) | refine hKK _ _ ?_ | refine And.intro (Eq.refl true) ?_ | refine Exists.intro _ (And.intro (wI (by omega)) ?_) | refine Exists.intro _ (And.intro (wU (by omega)) ?_) | refine Exists.intro _ (And.intro ⟨rfl, by omega⟩ ?_) | refine Exists.intro _ (And.intro rfl ?_) | refine And.intro rfl ?_ | refine And.intro ⟨rfl, rfl⟩ ?_ | ((refine And.intro (fun _ => ?_) (fun _ => ?_)) <;> try (exfalso; omega))))
    refine Exists.intro (j + 1 + 1) (Exists.intro [0, 1] (And.intro ⟨⟨by omega, fun i hi => ?_⟩, (by show N - (j + 1 + 1) < N - (j + 1); omega)⟩ ⟨⟨rfl, rfl, trivial⟩, ⟨rfl, rfl, trivial⟩, rfl⟩))
    by_cases hij : i = j + 1
    · subst hij; exact hokk
    · exact hok i (by omega)
theorem s_sIsE (p c n : Int) (t : Nat → Tm) (N : Nat) (hs : okTs t N) (hb : okTb t N) : Spec Try.prog n_s_IsElement [elV p c n 0] [.pr T_i_Term 18 N (rowT t N)] (vb (isE p c n t N)) [.pr T_i_Term 18 N (rowT t N)] := by
  have h := s_sIsE0 p c n t N hs hb
  refine SpecW.of_EV hf_s_IsElement hc_s_IsElement rfl rfl rfl fun w0 B ρ0 _ => ?_
  (repeat' (first | refine (h).read [0] rfl ⟨rfl, trivial⟩ ?_ | refine Exists.intro [vi p, vi c, vi n, .sl 0] (And.intro ⟨rfl, rfl⟩ ?_) | refine And.intro ⟨rfl, leR rfl, rfl⟩ ?_ | refine Exists.intro [vi p, vi c, vi n, .sl 0] (And.intro ⟨leR rfl, rfl⟩ ?_) | refine And.intro (neI rfl) ?_ | refine And.intro ⟨rfl, leR rfl, onesR rfl⟩ ?_ | refine And.intro ⟨rfl, leR rfl⟩ ?_ | refine draw_rule2 hfol (fun KK hKK => ?_) | refine hKK _ _ _ (by kernel_rfl) ?_ | refine region_rule (fun KK hKK => ?_) | refine hKK _ _ ?_ | refine And.intro (Eq.refl true) ?_ | refine Exists.intro _ (And.intro (wI (by omega)) ?_) | refine Exists.intro _ (And.intro (wU (by omega)) ?_) | refine Exists.intro _ (And.intro ⟨rfl, by omega⟩ ?_) | refine Exists.intro _ (And.intro rfl ?_) | refine And.intro rfl ?_ | refine And.intro ⟨rfl, rfl⟩ ?_ | ((refine And.intro (fun _ => ?_) (fun _ => ?_)) <;> try (exfalso; omega))))
  exact Exists.intro [0] (And.intro (rfl) (And.intro ⟨rfl, trivial⟩ rfl))
theorem s_lawIsE {W : World → (Nat → Prop) → Prop} {v : Value} {t : Nat → Tm} {N : Nat} (p c n : Int) (h : ArgT W v t N) (hs : okTs t N) (hb : okTb t N) (hN0 : N ≤ 9223372036854775807) : SpecW Try.prog W n_l_FnExactIsElement [elR p c n v] [] (vb true) [] := by
  have hfol := hfolW
  obtain ⟨a, cap, hform⟩ := h.form
  have hsz := s_szE p c n a N cap 1048576 hN0 (by omega)
  rw [← hform] at hsz
  refine SpecW.of_EV hf_l_FnExactIsElement hc_l_FnExactIsElement rfl rfl rfl fun w0 B ρ0 hW => ?_
  have hp := h.pass (Γ := ⟨w0, B, 0, ρ0⟩) hW
  by_cases hN : N ≤ 1048576
  rotate_left
  · rw [if_pos (by omega)] at hsz
    (repeat' (first | refine (hsz).pure rfl ?_ | refine Exists.intro [Value.int .i64 p, .int .i64 c, .int .i64 n, v] (And.intro ⟨rfl, rfl⟩ ?_) | refine And.intro (neI rfl) ?_ | refine And.intro ⟨rfl, leR rfl, onesR rfl⟩ ?_ | refine And.intro ⟨rfl, leR rfl⟩ ?_ | refine draw_rule2 hfol (fun KK hKK => ?_) | refine hKK _ _ _ (by kernel_rfl) ?_ | refine region_rule (fun KK hKK => ?_) | refine hKK _ _ ?_ | refine And.intro (Eq.refl true) ?_ | refine Exists.intro _ (And.intro (wI (by omega)) ?_) | refine Exists.intro _ (And.intro (wU (by omega)) ?_) | refine Exists.intro _ (And.intro ⟨rfl, by omega⟩ ?_) | refine Exists.intro _ (And.intro rfl ?_) | refine And.intro rfl ?_ | refine And.intro ⟨rfl, rfl⟩ ?_ | ((refine And.intro (fun _ => ?_) (fun _ => ?_)) <;> try (exfalso; omega))))
    exact Exists.intro [] (And.intro (rfl) (And.intro trivial rfl))
  rw [if_neg (by omega)] at hsz
  have ht := s_toE p c n h hs hN
  have h1 := s_sIsE p c n t N hs hb
  have h2 := s_iIsE p c n t N hs hb
  have he := s_eqE p c n t N hs (by omega)
  generalize isE p c n t N = b at h1 h2
  cases b
  · (repeat' (first | refine (hsz).pure rfl ?_ | refine Exists.intro [Value.int .i64 p, .int .i64 c, .int .i64 n, v] (And.intro ⟨rfl, rfl⟩ ?_) | refine ht.makeW hp [] rfl trivial ?_ | refine (h1).read [1] rfl ⟨rfl, trivial⟩ ?_ | refine (h2).read [2] rfl ⟨rfl, trivial⟩ ?_ | refine (he).read [2,4] rfl ⟨rfl, rfl, trivial⟩ ?_ | refine Exists.intro [vi p, vi c, vi n, .sl 2] (And.intro ⟨rfl, rfl⟩ ?_) | refine And.intro ⟨rfl, leR rfl, rfl⟩ ?_ | refine Exists.intro [vi p, vi c, vi n, .sl 2] (And.intro ⟨leR rfl, rfl⟩ ?_) | refine And.intro (fun h => absurd rfl h) (fun _ => ?_) | refine And.intro (neI rfl) ?_ | refine And.intro ⟨rfl, leR rfl, onesR rfl⟩ ?_ | refine And.intro ⟨rfl, leR rfl⟩ ?_ | refine draw_rule2 hfol (fun KK hKK => ?_) | refine hKK _ _ _ (by kernel_rfl) ?_ | refine region_rule (fun KK hKK => ?_) | refine hKK _ _ ?_ | refine And.intro (Eq.refl true) ?_ | refine Exists.intro _ (And.intro (wI (by omega)) ?_) | refine Exists.intro _ (And.intro (wU (by omega)) ?_) | refine Exists.intro _ (And.intro ⟨rfl, by omega⟩ ?_) | refine Exists.intro _ (And.intro rfl ?_) | refine And.intro rfl ?_ | refine And.intro ⟨rfl, rfl⟩ ?_ | ((refine And.intro (fun _ => ?_) (fun _ => ?_)) <;> try (exfalso; omega))))
    exact finP rfl
  · (repeat' (first | refine (hsz).pure rfl ?_ | refine Exists.intro [Value.int .i64 p, .int .i64 c, .int .i64 n, v] (And.intro ⟨rfl, rfl⟩ ?_) | refine ht.makeW hp [] rfl trivial ?_ | refine (h1).read [1] rfl ⟨rfl, trivial⟩ ?_ | refine (h2).read [2] rfl ⟨rfl, trivial⟩ ?_ | refine (he).read [2,4] rfl ⟨rfl, rfl, trivial⟩ ?_ | refine Exists.intro [vi p, vi c, vi n, .sl 2] (And.intro ⟨rfl, rfl⟩ ?_) | refine And.intro ⟨rfl, leR rfl, rfl⟩ ?_ | refine Exists.intro [vi p, vi c, vi n, .sl 2] (And.intro ⟨leR rfl, rfl⟩ ?_) | refine And.intro (fun h => absurd rfl h) (fun _ => ?_) | refine And.intro (neI rfl) ?_ | refine And.intro ⟨rfl, leR rfl, onesR rfl⟩ ?_ | refine And.intro ⟨rfl, leR rfl⟩ ?_ | refine draw_rule2 hfol (fun KK hKK => ?_) | refine hKK _ _ _ (by kernel_rfl) ?_ | refine region_rule (fun KK hKK => ?_) | refine hKK _ _ ?_ | refine And.intro (Eq.refl true) ?_ | refine Exists.intro _ (And.intro (wI (by omega)) ?_) | refine Exists.intro _ (And.intro (wU (by omega)) ?_) | refine Exists.intro _ (And.intro ⟨rfl, by omega⟩ ?_) | refine Exists.intro _ (And.intro rfl ?_) | refine And.intro rfl ?_ | refine And.intro ⟨rfl, rfl⟩ ?_ | ((refine And.intro (fun _ => ?_) (fun _ => ?_)) <;> try (exfalso; omega))))
    exact finP rfl
end Go.Proofs.Ytcibbadioijmcaa.VE
