/- Contracts of functions of the given program, for all arguments that the contract names; see each theorem. -/
import Derived.Test.YtcibbadioijmcaaG4
set_option linter.all false
namespace Go.Proofs.Ytcibbadioijmcaa.VE
open Go
set_option maxHeartbeats 1600000
set_option maxRecDepth 100000

/-! what an element is -/
def txE (n : Int) (t : Nat → Tm) (i : Nat) : ByteArray := brB (qq n.toNat (t i).2.1) (2 * n.toNat)
def okE (p n : Int) (t : Nat → Tm) (i : Nat) : Bool :=
  (decide ((t i).1 = n) && isDi (t i).1 (t i).2.1) && (decide (1 ≤ (t i).2.2 ∧ (t i).2.2 ≤ p - 1) && (decide (i = 0) || Op.bytesLess (txE n t (i - 1)).toList (txE n t i).toList))
def preE (p c n : Int) (N : Nat) : Bool := (prI p && decide (0 ≤ c ∧ c ≤ p - 1)) && (decide (1 ≤ n ∧ n ≤ 8) && decide (N ≤ 140))
def isE (p c n : Int) (t : Nat → Tm) (N : Nat) : Bool := preE p c n N && (List.range N).all (okE p n t)
theorem s_fieldOk (p c : Int) : Spec Try.prog n_i_fieldOk [vi p, vi c] [] (vb (prI p && decide (0 ≤ c ∧ c ≤ p - 1))) [] := by
  have h1 := s_iprime p
  refine SpecW.of_EV hf_i_fieldOk hc_i_fieldOk rfl rfl rfl fun w0 B ρ0 _ => ?_
  cases hp : prI p with
  | false =>
    rw [hp] at h1
    (repeat' (first | refine (h1).pure rfl ?_ | refine And.intro (neI rfl) ?_ | refine And.intro ⟨rfl, leR rfl, onesR rfl⟩ ?_ | refine And.intro ⟨rfl, leR rfl⟩ ?_ | refine draw_rule2 hfol (fun KK hKK => ?_) | refine hKK _ _ _ (by kernel_rfl) ?_ | refine region_rule (fun KK hKK => ?_) | refine hKK _ _ ?_ | refine And.intro (Eq.refl true) ?_ | refine Exists.intro _ (And.intro (wI (by omega)) ?_) | refine Exists.intro _ (And.intro (wU (by omega)) ?_) | refine Exists.intro _ (And.intro ⟨rfl, by omega⟩ ?_) | refine Exists.intro _ (And.intro rfl ?_) | refine And.intro rfl ?_ | refine And.intro ⟨rfl, rfl⟩ ?_ | ((refine And.intro (fun _ => ?_) (fun _ => ?_)) <;> try (exfalso; omega))))
    exact Exists.intro [] (And.intro (rfl) (And.intro trivial rfl))
  | true =>
    rw [hp] at h1
    obtain ⟨k, rfl, _, _, _⟩ := prI_elim hp
    have h2 := s_iin c 0 (k - 1)
    generalize decide (0 ≤ c ∧ c ≤ (k : Int) - 1) = b at h2 ⊢
    cases b <;>
    · (repeat' (first | refine (h1).pure rfl ?_ | refine (h2).pure rfl ?_ | refine And.intro (neI rfl) ?_ | refine And.intro ⟨rfl, leR rfl, onesR rfl⟩ ?_ | refine And.intro ⟨rfl, leR rfl⟩ ?_ | refine draw_rule2 hfol (fun KK hKK => ?_) | refine hKK _ _ _ (by kernel_rfl) ?_ | refine region_rule (fun KK hKK => ?_) | refine hKK _ _ ?_ | refine And.intro (Eq.refl true) ?_ | refine Exists.intro _ (And.intro (wI (by omega)) ?_) | refine Exists.intro _ (And.intro (wU (by omega)) ?_) | refine Exists.intro _ (And.intro ⟨rfl, by omega⟩ ?_) | refine Exists.intro _ (And.intro rfl ?_) | refine And.intro rfl ?_ | refine And.intro ⟨rfl, rfl⟩ ?_ | ((refine And.intro (fun _ => ?_) (fun _ => ?_)) <;> try (exfalso; omega))))
      exact Exists.intro [] (And.intro (rfl) (And.intro trivial rfl))
theorem not_all {N k : Nat} {f : Nat → Bool} (hk : k < N) (h : f k = false) : (List.range N).all f = false := by
  rw [Bool.eq_false_iff]
  intro h2
  rw [List.all_eq_true.1 h2 k (List.mem_range.2 hk)] at h
  cases h
theorem is_all {N : Nat} {f : Nat → Bool} (h : ∀ j, j < N → f j = true) : (List.range N).all f = true := List.all_eq_true.2 fun j hj => h j (List.mem_range.1 hj)
theorem s_iIsE (p c n : Int) (t : Nat → Tm) (N : Nat) (hs : okTs t N) (hb : okTb t N) : Spec Try.prog n_i_IsElement [elV p c n 0] [.pr T_i_Term 18 N (rowT t N)] (vb (isE p c n t N)) [.pr T_i_Term 18 N (rowT t N)] := by
  have h1 := s_fieldOk p c
  have h2 := s_iin n 1 8
  refine SpecW.of_EV hf_i_IsElement hc_i_IsElement rfl rfl rfl fun w0 B ρ0 _ => ?_
  by_cases hpre : preE p c n N = true
  rotate_left
  · have hfin : isE p c n t N = false := by unfold isE; rw [Bool.eq_false_iff.2 hpre]; rfl
    rw [hfin]
    unfold preE at hpre
    generalize (prI p && decide (0 ≤ c ∧ c ≤ p - 1)) = b1 at h1 hpre
    generalize decide (1 ≤ n ∧ n ≤ 8) = b2 at h2 hpre
    cases b1
    · (repeat' (first | refine (h1).pure rfl ?_ | refine Exists.intro [vi p, vi c, vi n, .sl 0] (And.intro ⟨rfl, rfl⟩ ?_) | refine And.intro ⟨rfl, leR rfl, rfl⟩ ?_ | refine Exists.intro [vi p, vi c, vi n, .sl 0] (And.intro ⟨leR rfl, rfl⟩ ?_) | refine And.intro (neI rfl) ?_ | refine And.intro ⟨rfl, leR rfl, onesR rfl⟩ ?_ | refine And.intro ⟨rfl, leR rfl⟩ ?_ | refine draw_rule2 hfol (fun KK hKK => ?_) | refine hKK _ _ _ (by kernel_rfl) ?_ | refine region_rule (fun KK hKK => ?_) | refine hKK _ _ ?_ | refine And.intro (Eq.refl true) ?_ | refine Exists.intro _ (And.intro (wI (by omega)) ?_) | refine Exists.intro _ (And.intro (wU (by omega)) ?_) | refine Exists.intro _ (And.intro ⟨rfl, by omega⟩ ?_) | refine Exists.intro _ (And.intro rfl ?_) | refine And.intro rfl ?_ | refine And.intro ⟨rfl, rfl⟩ ?_ | ((refine And.intro (fun _ => ?_) (fun _ => ?_)) <;> try (exfalso; omega))))
      exact Exists.intro [0] (And.intro (rfl) (And.intro ⟨rfl, trivial⟩ rfl))
    cases b2
    · (repeat' (first | refine (h1).pure rfl ?_ | refine (h2).pure rfl ?_ | refine Exists.intro [vi p, vi c, vi n, .sl 0] (And.intro ⟨rfl, rfl⟩ ?_) | refine And.intro ⟨rfl, leR rfl, rfl⟩ ?_ | refine Exists.intro [vi p, vi c, vi n, .sl 0] (And.intro ⟨leR rfl, rfl⟩ ?_) | refine And.intro (neI rfl) ?_ | refine And.intro ⟨rfl, leR rfl, onesR rfl⟩ ?_ | refine And.intro ⟨rfl, leR rfl⟩ ?_ | refine draw_rule2 hfol (fun KK hKK => ?_) | refine hKK _ _ _ (by kernel_rfl) ?_ | refine region_rule (fun KK hKK => ?_) | refine hKK _ _ ?_ | refine And.intro (Eq.refl true) ?_ | refine Exists.intro _ (And.intro (wI (by omega)) ?_) | refine Exists.intro _ (And.intro (wU (by omega)) ?_) | refine Exists.intro _ (And.intro ⟨rfl, by omega⟩ ?_) | refine Exists.intro _ (And.intro rfl ?_) | refine And.intro rfl ?_ | refine And.intro ⟨rfl, rfl⟩ ?_ | ((refine And.intro (fun _ => ?_) (fun _ => ?_)) <;> try (exfalso; omega))))
      exact Exists.intro [0] (And.intro (rfl) (And.intro ⟨rfl, trivial⟩ rfl))
    simp at hpre
    (repeat' (first | refine (h1).pure rfl ?_ | refine (h2).pure rfl ?_ | refine Exists.intro [vi p, vi c, vi n, .sl 0] (And.intro ⟨rfl, rfl⟩ ?_) | refine And.intro ⟨rfl, leR rfl, rfl⟩ ?_ | refine Exists.intro [vi p, vi c, vi n, .sl 0] (And.intro ⟨leR rfl, rfl⟩ ?_) | refine And.intro (neI rfl) ?_ | refine And.intro ⟨rfl, leR rfl, onesR rfl⟩ ?_ | refine And.intro ⟨rfl, leR rfl⟩ ?_ | refine draw_rule2 hfol (fun KK hKK => ?_) | refine hKK _ _ _ (by kernel_rfl) ?_ | refine region_rule (fun KK hKK => ?_) | refine hKK _ _ ?_ | refine And.intro (Eq.refl true) ?_ | refine Exists.intro _ (And.intro (wI (by omega)) ?_) | refine Exists.intro _ (And.intro (wU (by omega)) ?_) | refine Exists.intro _ (And.intro ⟨rfl, by omega⟩ ?_) | refine Exists.intro _ (And.intro rfl ?_) | refine And.intro rfl ?_ | refine And.intro ⟨rfl, rfl⟩ ?_ | ((refine And.intro (fun _ => ?_) (fun _ => ?_)) <;> try (exfalso; omega))))
    exact Exists.intro [0] (And.intro (rfl) (And.intro ⟨rfl, trivial⟩ rfl))
  unfold preE at hpre
  simp only [Bool.and_eq_true, decide_eq_true_eq] at hpre
  obtain ⟨⟨hp, hc⟩, hn, hN⟩ := hpre
  obtain ⟨P, rfl, hP2, hP97, _⟩ := prI_elim hp
  obtain ⟨M, rfl⟩ : ∃ M : Nat, n = M := ⟨n.toNat, by omega⟩
  have hpre' : isE P c M t N = (List.range N).all (okE P M t) := by unfold isE preE; rw [hp, decide_eq_true hc, decide_eq_true hn, decide_eq_true hN]; rfl
  rw [hpre']
  rw [hp, decide_eq_true hc] at h1
  rw [decide_eq_true hn] at h2
  (repeat' (first | refine (h1).pure rfl ?_ | refine (h2).pure rfl ?_ | refine Exists.intro [vi P, vi c, vi M, .sl 0] (And.intro ⟨rfl, rfl⟩ ?_) | refine And.intro ⟨rfl, leR rfl, rfl⟩ ?_ | refine Exists.intro [vi P, vi c, vi M, .sl 0] (And.intro ⟨leR rfl, rfl⟩ ?_) | refine And.intro (neI rfl) ?_ | refine And.intro ⟨rfl, leR rfl, onesR rfl⟩ ?_ | refine And.intro ⟨rfl, leR rfl⟩ ?_ | refine draw_rule2 hfol (fun KK hKK => ?_) | refine hKK _ _ _ (by kernel_rfl) ?_ | refine region_rule (fun KK hKK => ?_) | refine hKK _ _ ?_ | refine And.intro (Eq.refl true) ?_ | refine Exists.intro _ (And.intro (wI (by omega)) ?_) | refine Exists.intro _ (And.intro (wU (by omega)) ?_) | refine Exists.intro _ (And.intro ⟨rfl, by omega⟩ ?_) | refine Exists.intro _ (And.intro rfl ?_) | refine And.intro rfl ?_ | refine And.intro ⟨rfl, rfl⟩ ?_ | ((refine And.intro (fun _ => ?_) (fun _ => ?_)) <;> try (exfalso; omega))))
  refine loop_rule (α := Nat) (fun k => k ≤ N ∧ ∀ j, j < k → okE P M t j = true) (fun k => [(1, .ptr 1 0), (24, .sl 0), (25, vi N), (26, vi k)])
    (fun k => [.pr T_i_Term 18 N (rowT t N), .cc [vi P, vi c, vi M, .sl 0] T_i_Element]) (fun k => N - k) 0 [0, 1]
    ⟨by omega, fun j hj => by omega⟩ ⟨⟨rfl, rfl, rfl, rfl, trivial⟩, ⟨rfl, rfl, trivial⟩, rfl⟩ ?_
  rintro k g ⟨hk, hok⟩
  by_cases h9 : k = N
  · subst h9
    rw [is_all hok]
    (repeat' (first | refine And.intro (neI rfl) ?_ | refine And.intro ⟨rfl, leR rfl, onesR rfl⟩ ?_ | refine And.intro ⟨rfl, leR rfl⟩ ?_ | refine draw_rule2 hfol (fun KK hKK => ?_) | refine hKK _ _ _ (by kernel_rfl) ?_ | refine region_rule (fun KK hKK => ?_) | refine hKK _ _ ?_ | refine And.intro (Eq.refl true) ?_ | refine Exists.intro _ (And.intro (wI (by omega)) ?_) | refine Exists.intro _ (And.intro (wU (by omega)) ?_) | refine Exists.intro _ (And.intro ⟨rfl, by omega⟩ ?_) | refine Exists.intro _ (And.intro rfl ?_) | refine And.intro rfl ?_ | refine And.intro ⟨rfl, rfl⟩ ?_ | ((refine And.intro (fun _ => ?_) (fun _ => ?_)) <;> try (exfalso; omega))))
    exact Exists.intro [0] (And.intro (rfl) (And.intro ⟨rfl, trivial⟩ rfl))
  have hkN : k < N := by omega
  have hall := rowT_at hs hkN
  have hm := hs k hkN
  have htl := tmC_len hm
  have hdia := tmC_dia hm
  have hfac := tmC_fac hm
  have hsz : (tmC (t k))[0]? = some (.int .i64 (t k).1) := rfl
  have h3 := s_iIsD (t k).1 (t k).2.1 hm (hb k hkN)
  have h4 := s_iin (t k).2.2 1 (P - 1)
  by_cases e1 : (t k).1 = M
  rotate_left
  · have hf : okE P M t k = false := by unfold okE; rw [decide_eq_false e1]; rfl
    rw [not_all hkN hf]
    (repeat' (first | refine Exists.intro (tmC (t k)) (And.intro ⟨htl, hall⟩ ?_) | refine Exists.intro (tmC (t k)) (And.intro ⟨leR rfl, spl0 (leR rfl)⟩ ?_) | refine And.intro ⟨htl, leR rfl, tmC_ones⟩ ?_ | refine Exists.intro _ (And.intro hsz ?_) | refine And.intro (neI rfl) ?_ | refine And.intro ⟨rfl, leR rfl, onesR rfl⟩ ?_ | refine And.intro ⟨rfl, leR rfl⟩ ?_ | refine draw_rule2 hfol (fun KK hKK => ?_) | refine hKK _ _ _ (by kernel_rfl) ?_ | refine region_rule (fun KK hKK => ?_) | refine hKK _ _ ?_ | refine And.intro (Eq.refl true) ?_ | refine Exists.intro _ (And.intro (wI (by omega)) ?_) | refine Exists.intro _ (And.intro (wU (by omega)) ?_) | refine Exists.intro _ (And.intro ⟨rfl, by omega⟩ ?_) | refine Exists.intro _ (And.intro rfl ?_) | refine And.intro rfl ?_ | refine And.intro ⟨rfl, rfl⟩ ?_ | ((refine And.intro (fun _ => ?_) (fun _ => ?_)) <;> try (exfalso; omega))))
    exact Exists.intro [0] (And.intro (rfl) (And.intro ⟨rfl, trivial⟩ rfl))
  cases e2 : isDi (t k).1 (t k).2.1 with
  | false =>
    have hf : okE P M t k = false := by unfold okE; rw [e2, Bool.and_false]; rfl
    rw [not_all hkN hf]
    rw [e2] at h3
    (repeat' (first | refine Exists.intro (tmC (t k)) (And.intro ⟨htl, hall⟩ ?_) | refine Exists.intro (tmC (t k)) (And.intro ⟨leR rfl, spl0 (leR rfl)⟩ ?_) | refine And.intro ⟨htl, leR rfl, tmC_ones⟩ ?_ | refine Exists.intro _ (And.intro hsz ?_) | refine Exists.intro (pcl (t k).1 (t k).2.1) (And.intro ⟨pcl_len hm, hdia⟩ ?_) | refine (h3).pure rfl ?_ | refine And.intro (neI rfl) ?_ | refine And.intro ⟨rfl, leR rfl, onesR rfl⟩ ?_ | refine And.intro ⟨rfl, leR rfl⟩ ?_ | refine draw_rule2 hfol (fun KK hKK => ?_) | refine hKK _ _ _ (by kernel_rfl) ?_ | refine region_rule (fun KK hKK => ?_) | refine hKK _ _ ?_ | refine And.intro (Eq.refl true) ?_ | refine Exists.intro _ (And.intro (wI (by omega)) ?_) | refine Exists.intro _ (And.intro (wU (by omega)) ?_) | refine Exists.intro _ (And.intro ⟨rfl, by omega⟩ ?_) | refine Exists.intro _ (And.intro rfl ?_) | refine And.intro rfl ?_ | refine And.intro ⟨rfl, rfl⟩ ?_ | ((refine And.intro (fun _ => ?_) (fun _ => ?_)) <;> try (exfalso; omega))))
    exact Exists.intro [0] (And.intro (rfl) (And.intro ⟨rfl, trivial⟩ rfl))
  | true =>
  rw [e2] at h3
  by_cases e3 : 1 ≤ (t k).2.2 ∧ (t k).2.2 ≤ (P : Int) - 1
  rotate_left
  · have hf : okE P M t k = false := by unfold okE; rw [decide_eq_false e3, Bool.false_and, Bool.and_false]
    rw [not_all hkN hf]
    rw [decide_eq_false e3] at h4
    (repeat' (first | refine Exists.intro (tmC (t k)) (And.intro ⟨htl, hall⟩ ?_) | refine Exists.intro (tmC (t k)) (And.intro ⟨leR rfl, spl0 (leR rfl)⟩ ?_) | refine And.intro ⟨htl, leR rfl, tmC_ones⟩ ?_ | refine Exists.intro _ (And.intro hsz ?_) | refine Exists.intro (pcl (t k).1 (t k).2.1) (And.intro ⟨pcl_len hm, hdia⟩ ?_) | refine (h3).pure rfl ?_ | refine Exists.intro _ (And.intro hfac ?_) | refine (h4).pure rfl ?_ | refine And.intro (neI rfl) ?_ | refine And.intro ⟨rfl, leR rfl, onesR rfl⟩ ?_ | refine And.intro ⟨rfl, leR rfl⟩ ?_ | refine draw_rule2 hfol (fun KK hKK => ?_) | refine hKK _ _ _ (by kernel_rfl) ?_ | refine region_rule (fun KK hKK => ?_) | refine hKK _ _ ?_ | refine And.intro (Eq.refl true) ?_ | refine Exists.intro _ (And.intro (wI (by omega)) ?_) | refine Exists.intro _ (And.intro (wU (by omega)) ?_) | refine Exists.intro _ (And.intro ⟨rfl, by omega⟩ ?_) | refine Exists.intro _ (And.intro rfl ?_) | refine And.intro rfl ?_ | refine And.intro ⟨rfl, rfl⟩ ?_ | ((refine And.intro (fun _ => ?_) (fun _ => ?_)) <;> try (exfalso; omega))))
    exact Exists.intro [0] (And.intro (rfl) (And.intro ⟨rfl, trivial⟩ rfl))
  rw [decide_eq_true e3] at h4
  have hokk : okE P M t k = (decide (k = 0) || Op.bytesLess (txE M t (k - 1)).toList (txE M t k).toList) := by
    unfold okE; rw [e2, decide_eq_true e1, decide_eq_true e3, Bool.true_and, Bool.true_and, Bool.true_and]
  obtain ⟨M', hM', hD⟩ := isDi_elim hm e2
  obtain rfl : M' = M := by omega
  by_cases h0 : k = 0
  · subst h0
    rw [decide_eq_true rfl, Bool.true_or] at hokk
    (repeat' (first | refine Exists.intro (tmC (t 0)) (And.intro ⟨htl, hall⟩ ?_) | refine Exists.intro (tmC (t 0)) (And.intro ⟨leR rfl, spl0 (leR rfl)⟩ ?_) | refine And.intro ⟨htl, leR rfl, tmC_ones⟩ ?_ | refine Exists.intro _ (And.intro hsz ?_) | refine Exists.intro (pcl (t 0).1 (t 0).2.1) (And.intro ⟨pcl_len hm, hdia⟩ ?_) | refine (h3).pure rfl ?_ | refine Exists.intro _ (And.intro hfac ?_) | refine (h4).pure rfl ?_ | refine And.intro (neI rfl) ?_ | refine And.intro ⟨rfl, leR rfl, onesR rfl⟩ ?_ | refine And.intro ⟨rfl, leR rfl⟩ ?_ | refine draw_rule2 hfol (fun KK hKK => ?_) | refine hKK _ _ _ (by kernel_rfl) ?_ | refine region_rule (fun KK hKK => ?_) | refine hKK _ _ ?_ | refine And.intro (Eq.refl true) ?_ | refine Exists.intro _ (And.intro (wI (by omega)) ?_) | refine Exists.intro _ (And.intro (wU (by omega)) ?_) | refine Exists.intro _ (And.intro ⟨rfl, by omega⟩ ?_) | refine Exists.intro _ (And.intro rfl ?_) | refine And.intro rfl ?_ | refine And.intro ⟨rfl, rfl⟩ ?_ | ((refine And.intro (fun _ => ?_) (fun _ => ?_)) <;> try (exfalso; omega))))
    refine Exists.intro (0 + 1) (Exists.intro [0, 1] (And.intro ⟨⟨by omega, fun j hj => ?_⟩, (by show N - (0 + 1) < N - 0; omega)⟩ ⟨⟨rfl, rfl, rfl, rfl, trivial⟩, ⟨rfl, rfl, trivial⟩, rfl⟩))
    obtain rfl : j = 0 := by omega
    exact hokk
  obtain ⟨j, rfl⟩ : ∃ j, k = j + 1 := ⟨k - 1, by omega⟩
  rw [decide_eq_false h0, Bool.false_or, Nat.add_sub_cancel] at hokk
  have hokj := hok j (by omega)
  unfold okE at hokj
  simp only [Bool.and_eq_true, decide_eq_true_eq] at hokj
  obtain ⟨Mj, hMj, hDj⟩ := isDi_elim (hs j (by omega)) hokj.1.2
  obtain rfl : Mj = M' := by omega
  have ht1 := s_textR t N j Mj hs (by omega) hMj hDj
  have ht2 := s_textG Mj (t (j + 1)).2.1 [.int .i64 (t (j + 1)).2.2] T_i_Term hD
  rw [← hM'] at ht2
  have htx1 : txE Mj t j = brB (qq Mj (t j).2.1) (2 * Mj) := rfl
  have htx2 : txE Mj t (j + 1) = brB (qq Mj (t (j + 1)).2.1) (2 * Mj) := rfl
  rw [htx1, htx2] at hokk
  have hje : ((j + 1 : Nat) : Int) - 1 = (j : Int) := by omega
  by_cases hL : Op.bytesLess (brB (qq Mj (t j).2.1) (2 * Mj)).toList (brB (qq Mj (t (j + 1)).2.1) (2 * Mj)).toList = true
  · rw [hL] at hokk
    (repeat' (first | refine Exists.intro (tmC (t (j + 1))) (And.intro ⟨htl, hall⟩ ?_) | refine Exists.intro (tmC (t (j + 1))) (And.intro ⟨leR rfl, spl0 (leR rfl)⟩ ?_) | refine And.intro ⟨htl, leR rfl, tmC_ones⟩ ?_ | refine Exists.intro _ (And.intro hsz ?_) | refine Exists.intro (pcl (t (j + 1)).1 (t (j + 1)).2.1) (And.intro ⟨pcl_len hm, hdia⟩ ?_) | refine (h3).pure rfl ?_ | refine Exists.intro _ (And.intro hfac ?_) | refine (h4).pure rfl ?_ | refine Exists.intro j (And.intro ⟨hje, by omega⟩ ?_) | refine (ht1).read [0] rfl ⟨rfl, trivial⟩ ?_ | refine (ht2).read [2] rfl ⟨rfl, trivial⟩ ?_ | refine And.intro (fun _ => ?_) (fun h => absurd hL h) | refine And.intro (neI rfl) ?_ | refine And.intro ⟨rfl, leR rfl, onesR rfl⟩ ?_ | refine And.intro ⟨rfl, leR rfl⟩ ?_ | refine draw_rule2 hfol (fun KK hKK => ?_) | refine hKK _ _ _ (by kernel_rfl) ?_ | refine region_rule (fun KK hKK => ?_) | refine hKK _ _ ?_ | refine And.intro (Eq.refl true) ?_ | refine Exists.intro _ (And.intro (wI (by omega)) ?_) | refine Exists.intro _ (And.intro (wU (by omega)) ?_) | refine Exists.intro _ (And.intro ⟨rfl, by omega⟩ ?_) | refine Exists.intro _ (And.intro rfl ?_) | refine And.intro rfl ?_ | refine And.intro ⟨rfl, rfl⟩ ?_ | ((refine And.intro (fun _ => ?_) (fun _ => ?_)) <;> try (exfalso; omega))))
    refine Exists.intro (j + 1 + 1) (Exists.intro [0, 1] (And.intro ⟨⟨by omega, fun i hi => ?_⟩, (by show N - (j + 1 + 1) < N - (j + 1); omega)⟩ ⟨⟨rfl, rfl, rfl, rfl, trivial⟩, ⟨rfl, rfl, trivial⟩, rfl⟩))
    by_cases hij : i = j + 1
    · subst hij; exact hokk
    · exact hok i (by omega)
  · rw [not_all hkN (hokk.trans (Bool.eq_false_iff.2 hL))]
    (repeat' (first | refine Exists.intro (tmC (t (j + 1))) (And.intro ⟨htl, hall⟩ ?_) | refine Exists.intro (tmC (t (j + 1))) (And.intro ⟨leR rfl, spl0 (leR rfl)⟩ ?_) | refine And.intro ⟨htl, leR rfl, tmC_ones⟩ ?_ | refine Exists.intro _ (And.intro hsz ?_) | refine Exists.intro (pcl (t (j + 1)).1 (t (j + 1)).2.1) (And.intro ⟨pcl_len hm, hdia⟩ ?_) | refine (h3).pure rfl ?_ | refine Exists.intro _ (And.intro hfac ?_) | refine (h4).pure rfl ?_ | refine Exists.intro j (And.intro ⟨hje, by omega⟩ ?_) | refine (ht1).read [0] rfl ⟨rfl, trivial⟩ ?_ | refine (ht2).read [2] rfl ⟨rfl, trivial⟩ ?_ | refine And.intro (fun h => absurd h hL) (fun _ => ?_) | refine And.intro (neI rfl) ?_ | refine And.intro ⟨rfl, leR rfl, onesR rfl⟩ ?_ | refine And.intro ⟨rfl, leR rfl⟩ ?_ | refine draw_rule2 hfol (fun KK hKK => ?_) | refine hKK _ _ _ (by kernel_rfl) ?_ | refine region_rule (fun KK hKK => ?_) | refine hKK _ _ ?_ | refine And.intro (Eq.refl true) ?_ | refine Exists.intro _ (And.intro (wI (by omega)) ?_) | refine Exists.intro _ (And.intro (wU (by omega)) ?_) | refine Exists.intro _ (And.intro ⟨rfl, by omega⟩ ?_) | refine Exists.intro _ (And.intro rfl ?_) | refine And.intro rfl ?_ | refine And.intro ⟨rfl, rfl⟩ ?_ | ((refine And.intro (fun _ => ?_) (fun _ => ?_)) <;> try (exfalso; omega))))
    exact Exists.intro [0] (And.intro (rfl) (And.intro ⟨rfl, trivial⟩ rfl))
end Go.Proofs.Ytcibbadioijmcaa.VE
