/- Contracts of functions of the given program, for all arguments that the contract names; see each theorem. -/
import Derived.Test.YtpangmameocfmaaTI
import Derived.Test.YtpangmameocfmaaW1
set_option linter.all false
namespace Go.Proofs.Ytpangmameocfmaa.VE.P
open Go
set_option maxHeartbeats 800000
set_option maxRecDepth 100000

theorem mul_nm {n : Nat} {a b : Nat → Nat} (ha : ∀ i, i < 2 * n → a i < 8) : nm (gT (gI a b n (2 * n)).2.1 n) n = nm (gM a b n) n := by
  refine nm_congr fun i j hi hj => ?_
  have hp : ∀ i, i < 2 * n → i + i / n * n < 3 * n ∧ lam a b n (i + i / n * n) = sL a b n i := fun i hi => by
    by_cases h1 : i < n
    · rw [Nat.div_eq_of_lt h1, Nat.zero_mul, Nat.add_zero]
      exact ⟨by omega, by rw [show sL a b n i = a i from if_pos h1, show lam a b n i = a i from if_pos (by omega)]⟩
    · rw [show i / n = 1 from by rw [Nat.div_eq_iff (by omega)]; omega, Nat.one_mul]
      exact ⟨by omega, by rw [show sL a b n i = 8 + b i from if_neg h1, show lam a b n (i + n) = 8 + b (i + n - n) from if_neg (by omega), Nat.add_sub_cancel]⟩
  obtain ⟨p1, p2⟩ := hp i hi
  obtain ⟨q1, q2⟩ := hp j hj
  have := mul_ker (b := b) ha p1 q1
  rw [p2, q2] at this
  unfold gT gM
  omega
abbrev mV (p : Int × List Nat × Int × Int) : V := .tup [pv p.1 p.2.1, vi p.2.2.1, vi p.2.2.2]
def mulR (sa : Int) (a : List Nat) (sb : Int) (b : List Nat) : Int × List Nat × Int × Int :=
  if isPi sa a = true ∧ isPi sb b = true then (if sa = sb then (sa, nm (gM (gd a) (gd b) sa.toNat) sa.toNat, (((ctI (gd a) (gd b) sa.toNat sa.toNat).2 : Nat) : Int), 0) else (0, List.replicate 8 0, 0, 2)) else (0, List.replicate 8 0, 0, 1)
theorem mulR_len (sa : Int) (a : List Nat) (sb : Int) (b : List Nat) : (mulR sa a sb b).2.1.length = 8 := by
  unfold mulR; split
  · split
    · exact nm_len
    · simp
  · simp
theorem s_pair (sa : Int) (a : List Nat) (ha : a.length = 8) (hab : ∀ x ∈ a, x < 256) (sb : Int) (b : List Nat) (hb : b.length = 8) (hbb : ∀ x ∈ b, x < 256) : Spec Try.prog n_s_l07Pair [pv sa a, pv sb b] [] (vi (if isPi sa a = true ∧ isPi sb b = true then (if sa = sb then 0 else 2) else 1)) [] := by
  have h1 := s_is sa a ha hab
  have h2 := s_is sb b hb hbb
  rw [isP_eq _ a ha] at h1
  rw [isP_eq _ b hb] at h2
  refine SpecW.of_EV hf_s_l07Pair hc_s_l07Pair rfl rfl rfl fun w0 B ρ0 _ => ?_
  cases ea : isPi sa a with
  | false =>
    rw [ea] at h1
    rw [if_neg (by simp)]
    (repeat' (first | refine (h1).pure rfl ?_ | refine (h2).pure rfl ?_ | refine Exists.intro (pcl sa a) (And.intro ⟨pcl_len ha, pcl_all ha⟩ ?_) | refine Exists.intro (pcl sb b) (And.intro ⟨pcl_len hb, pcl_all hb⟩ ?_) | refine And.intro (neI rfl) ?_ | refine And.intro ⟨rfl, leR rfl, onesR rfl⟩ ?_ | refine And.intro ⟨rfl, leR rfl⟩ ?_ | refine draw_rule2 hfol (fun KK hKK => ?_) | refine hKK _ _ _ (by kernel_rfl) ?_ | refine region_rule (fun KK hKK => ?_) | refine hKK _ _ ?_ | refine And.intro (Eq.refl true) ?_ | refine Exists.intro _ (And.intro (wI (by omega)) ?_) | refine Exists.intro _ (And.intro (wU (by omega)) ?_) | refine Exists.intro _ (And.intro ⟨rfl, by omega⟩ ?_) | refine Exists.intro _ (And.intro rfl ?_) | refine And.intro rfl ?_ | refine And.intro ⟨rfl, rfl⟩ ?_ | ((refine And.intro (fun _ => ?_) (fun _ => ?_)) <;> try (exfalso; omega))))
    exact Exists.intro [] (And.intro (rfl) (And.intro trivial rfl))
  | true =>
    rw [ea] at h1
    cases eb : isPi sb b with
    | false =>
      rw [eb] at h2
      rw [if_neg (by simp)]
      (repeat' (first | refine (h1).pure rfl ?_ | refine (h2).pure rfl ?_ | refine Exists.intro (pcl sa a) (And.intro ⟨pcl_len ha, pcl_all ha⟩ ?_) | refine Exists.intro (pcl sb b) (And.intro ⟨pcl_len hb, pcl_all hb⟩ ?_) | refine And.intro (neI rfl) ?_ | refine And.intro ⟨rfl, leR rfl, onesR rfl⟩ ?_ | refine And.intro ⟨rfl, leR rfl⟩ ?_ | refine draw_rule2 hfol (fun KK hKK => ?_) | refine hKK _ _ _ (by kernel_rfl) ?_ | refine region_rule (fun KK hKK => ?_) | refine hKK _ _ ?_ | refine And.intro (Eq.refl true) ?_ | refine Exists.intro _ (And.intro (wI (by omega)) ?_) | refine Exists.intro _ (And.intro (wU (by omega)) ?_) | refine Exists.intro _ (And.intro ⟨rfl, by omega⟩ ?_) | refine Exists.intro _ (And.intro rfl ?_) | refine And.intro rfl ?_ | refine And.intro ⟨rfl, rfl⟩ ?_ | ((refine And.intro (fun _ => ?_) (fun _ => ?_)) <;> try (exfalso; omega))))
      exact Exists.intro [] (And.intro (rfl) (And.intro trivial rfl))
    | true =>
      rw [eb] at h2
      rw [if_pos ⟨rfl, rfl⟩]
      by_cases h : sa = sb
      · rw [if_pos h]
        (repeat' (first | refine (h1).pure rfl ?_ | refine (h2).pure rfl ?_ | refine Exists.intro (pcl sa a) (And.intro ⟨pcl_len ha, pcl_all ha⟩ ?_) | refine Exists.intro (pcl sb b) (And.intro ⟨pcl_len hb, pcl_all hb⟩ ?_) | refine And.intro (neI rfl) ?_ | refine And.intro ⟨rfl, leR rfl, onesR rfl⟩ ?_ | refine And.intro ⟨rfl, leR rfl⟩ ?_ | refine draw_rule2 hfol (fun KK hKK => ?_) | refine hKK _ _ _ (by kernel_rfl) ?_ | refine region_rule (fun KK hKK => ?_) | refine hKK _ _ ?_ | refine And.intro (Eq.refl true) ?_ | refine Exists.intro _ (And.intro (wI (by omega)) ?_) | refine Exists.intro _ (And.intro (wU (by omega)) ?_) | refine Exists.intro _ (And.intro ⟨rfl, by omega⟩ ?_) | refine Exists.intro _ (And.intro rfl ?_) | refine And.intro rfl ?_ | refine And.intro ⟨rfl, rfl⟩ ?_ | ((refine And.intro (fun _ => ?_) (fun _ => ?_)) <;> try (exfalso; omega))))
        exact Exists.intro [] (And.intro (rfl) (And.intro trivial rfl))
      · rw [if_neg h]
        (repeat' (first | refine (h1).pure rfl ?_ | refine (h2).pure rfl ?_ | refine Exists.intro (pcl sa a) (And.intro ⟨pcl_len ha, pcl_all ha⟩ ?_) | refine Exists.intro (pcl sb b) (And.intro ⟨pcl_len hb, pcl_all hb⟩ ?_) | refine And.intro (neI rfl) ?_ | refine And.intro ⟨rfl, leR rfl, onesR rfl⟩ ?_ | refine And.intro ⟨rfl, leR rfl⟩ ?_ | refine draw_rule2 hfol (fun KK hKK => ?_) | refine hKK _ _ _ (by kernel_rfl) ?_ | refine region_rule (fun KK hKK => ?_) | refine hKK _ _ ?_ | refine And.intro (Eq.refl true) ?_ | refine Exists.intro _ (And.intro (wI (by omega)) ?_) | refine Exists.intro _ (And.intro (wU (by omega)) ?_) | refine Exists.intro _ (And.intro ⟨rfl, by omega⟩ ?_) | refine Exists.intro _ (And.intro rfl ?_) | refine And.intro rfl ?_ | refine And.intro ⟨rfl, rfl⟩ ?_ | ((refine And.intro (fun _ => ?_) (fun _ => ?_)) <;> try (exfalso; omega))))
        exact Exists.intro [] (And.intro (rfl) (And.intro trivial rfl))
theorem s_sMul (sa : Int) (a : List Nat) (ha : a.length = 8) (hab : ∀ x ∈ a, x < 256) (sb : Int) (b : List Nat) (hb : b.length = 8) (hbb : ∀ x ∈ b, x < 256) : Spec Try.prog n_s_MultiplyPartitions [pv sa a, pv sb b] [] (mV (mulR sa a sb b)) [] := by
  have hp := s_pair sa a ha hab sb b hb hbb
  refine SpecW.of_EV hf_s_MultiplyPartitions hc_s_MultiplyPartitions rfl rfl rfl fun w0 B ρ0 _ => ?_
  by_cases hv : isPi sa a = true ∧ isPi sb b = true
  · rw [if_pos hv] at hp
    by_cases h : sa = sb
    · subst h
      have hr : mulR sa a sa b = (sa, nm (gM (gd a) (gd b) sa.toNat) sa.toNat, (((ctI (gd a) (gd b) sa.toNat sa.toNat).2 : Nat) : Int), 0) := by unfold mulR; rw [if_pos hv, if_pos rfl]
      rw [if_pos rfl] at hp
      rw [hr]
      obtain ⟨n, rfl, hn1, hn⟩ := isPi_size hv.1
      have ht := s_times n a b ha hb (isPi_lt hv.1) (isPi_lt hv.2) hn1 hn
      (repeat' (first | refine (hp).pure rfl ?_ | refine (ht).pure rfl ?_ | refine Exists.intro (pcl n a) (And.intro ⟨pcl_len ha, pcl_all ha⟩ ?_) | refine Exists.intro (pcl n b) (And.intro ⟨pcl_len hb, pcl_all hb⟩ ?_) | refine Exists.intro (pcl (n : Int) (nm (gM (gd a) (gd b) n) n)) (And.intro ⟨pcl_len nm_len, pcl_all nm_len⟩ ?_) | refine And.intro ⟨pcl_len nm_len, leR rfl, pcl_ones⟩ ?_ | refine Exists.intro (pcl (n : Int) (nm (gM (gd a) (gd b) n) n)) (And.intro ⟨leR rfl, spl0 (leR rfl)⟩ ?_) | refine Exists.intro (pcl 0 (List.replicate 8 0)) (And.intro ⟨leR rfl, rfl⟩ ?_) | refine Exists.intro (pcl 0 (List.replicate 8 0)) (And.intro ⟨rfl, rfl⟩ ?_) | refine And.intro (neI rfl) ?_ | refine And.intro ⟨rfl, leR rfl, onesR rfl⟩ ?_ | refine And.intro ⟨rfl, leR rfl⟩ ?_ | refine draw_rule2 hfol (fun KK hKK => ?_) | refine hKK _ _ _ (by kernel_rfl) ?_ | refine region_rule (fun KK hKK => ?_) | refine hKK _ _ ?_ | refine And.intro (Eq.refl true) ?_ | refine Exists.intro _ (And.intro (wI (by omega)) ?_) | refine Exists.intro _ (And.intro (wU (by omega)) ?_) | refine Exists.intro _ (And.intro ⟨rfl, by omega⟩ ?_) | refine Exists.intro _ (And.intro rfl ?_) | refine And.intro rfl ?_ | refine And.intro ⟨rfl, rfl⟩ ?_ | ((refine And.intro (fun _ => ?_) (fun _ => ?_)) <;> try (exfalso; omega))))
      exact Exists.intro [] (And.intro (rfl) (And.intro trivial rfl))
    · have hr : mulR sa a sb b = (0, List.replicate 8 0, 0, 2) := by unfold mulR; rw [if_pos hv, if_neg h]
      rw [if_neg h] at hp
      rw [hr]
      (repeat' (first | refine (hp).pure rfl ?_ | refine Exists.intro (pcl sa a) (And.intro ⟨pcl_len ha, pcl_all ha⟩ ?_) | refine Exists.intro (pcl sb b) (And.intro ⟨pcl_len hb, pcl_all hb⟩ ?_) | refine Exists.intro (pcl 0 (List.replicate 8 0)) (And.intro ⟨leR rfl, rfl⟩ ?_) | refine Exists.intro (pcl 0 (List.replicate 8 0)) (And.intro ⟨rfl, rfl⟩ ?_) | refine And.intro (neI rfl) ?_ | refine And.intro ⟨rfl, leR rfl, onesR rfl⟩ ?_ | refine And.intro ⟨rfl, leR rfl⟩ ?_ | refine draw_rule2 hfol (fun KK hKK => ?_) | refine hKK _ _ _ (by kernel_rfl) ?_ | refine region_rule (fun KK hKK => ?_) | refine hKK _ _ ?_ | refine And.intro (Eq.refl true) ?_ | refine Exists.intro _ (And.intro (wI (by omega)) ?_) | refine Exists.intro _ (And.intro (wU (by omega)) ?_) | refine Exists.intro _ (And.intro ⟨rfl, by omega⟩ ?_) | refine Exists.intro _ (And.intro rfl ?_) | refine And.intro rfl ?_ | refine And.intro ⟨rfl, rfl⟩ ?_ | ((refine And.intro (fun _ => ?_) (fun _ => ?_)) <;> try (exfalso; omega))))
      exact Exists.intro [] (And.intro (rfl) (And.intro trivial rfl))
  · have hr : mulR sa a sb b = (0, List.replicate 8 0, 0, 1) := by unfold mulR; rw [if_neg hv]
    rw [if_neg hv] at hp
    rw [hr]
    (repeat' (first | refine (hp).pure rfl ?_ | refine Exists.intro (pcl sa a) (And.intro ⟨pcl_len ha, pcl_all ha⟩ ?_) | refine Exists.intro (pcl sb b) (And.intro ⟨pcl_len hb, pcl_all hb⟩ ?_) | refine Exists.intro (pcl 0 (List.replicate 8 0)) (And.intro ⟨leR rfl, rfl⟩ ?_) | refine Exists.intro (pcl 0 (List.replicate 8 0)) (And.intro ⟨rfl, rfl⟩ ?_) | refine And.intro (neI rfl) ?_ | refine And.intro ⟨rfl, leR rfl, onesR rfl⟩ ?_ | refine And.intro ⟨rfl, leR rfl⟩ ?_ | refine draw_rule2 hfol (fun KK hKK => ?_) | refine hKK _ _ _ (by kernel_rfl) ?_ | refine region_rule (fun KK hKK => ?_) | refine hKK _ _ ?_ | refine And.intro (Eq.refl true) ?_ | refine Exists.intro _ (And.intro (wI (by omega)) ?_) | refine Exists.intro _ (And.intro (wU (by omega)) ?_) | refine Exists.intro _ (And.intro ⟨rfl, by omega⟩ ?_) | refine Exists.intro _ (And.intro rfl ?_) | refine And.intro rfl ?_ | refine And.intro ⟨rfl, rfl⟩ ?_ | ((refine And.intro (fun _ => ?_) (fun _ => ?_)) <;> try (exfalso; omega))))
    exact Exists.intro [] (And.intro (rfl) (And.intro trivial rfl))
theorem s_iMul (sa : Int) (a : List Nat) (ha : a.length = 8) (hab : ∀ x ∈ a, x < 256) (sb : Int) (b : List Nat) (hb : b.length = 8) (hbb : ∀ x ∈ b, x < 256) : Spec Try.prog n_i_MultiplyPartitions [pv sa a, pv sb b] [] (mV (mulR sa a sb b)) [] := by
  have hq := s_bad [(sa, a), (sb, b)] (fun p hp => by simp at hp; rcases hp with rfl | rfl; exact ⟨ha, hab⟩; exact ⟨hb, hbb⟩) (by simp)
  refine SpecW.of_EV hf_i_MultiplyPartitions hc_i_MultiplyPartitions rfl rfl rfl fun w0 B ρ0 _ => ?_
  by_cases hv : isPi sa a = true ∧ isPi sb b = true
  · rw [show ([(sa, a), (sb, b)].any fun p => !isPi p.1 p.2) = false from by simp [hv.1, hv.2]] at hq
    by_cases h : sa = sb
    · subst h
      obtain ⟨n, rfl, hn1, hn⟩ := isPi_size hv.1
      have ht := s_itimes n a b ha hb (isPi_lt hv.1) (isPi_lt hv.2) hn1 hn
      rw [mul_nm (fun i _ => isPi_lt hv.1 i), (lK_ct (b := gd b) (fun i _ => isPi_lt hv.1 i) n (Nat.le_refl n)).1] at ht
      have hr : mulR n a n b = ((n : Int), nm (gM (gd a) (gd b) n) n, (((ctI (gd a) (gd b) n n).2 : Nat) : Int), 0) := by unfold mulR; rw [if_pos hv, if_pos rfl]; rfl
      rw [hr]
      (repeat' (first | refine (hq).read [3] rfl ⟨rfl, trivial⟩ ?_ | refine (ht).read [0,1] rfl ⟨rfl, rfl, trivial⟩ ?_ | refine Exists.intro (pcl n a) (And.intro ⟨pcl_len ha, pcl_all ha⟩ ?_) | refine Exists.intro (pcl n b) (And.intro ⟨pcl_len hb, pcl_all hb⟩ ?_) | refine And.intro ⟨pcl_len ha, mkL rfl⟩ ?_ | refine And.intro ⟨pcl_len hb, Nat.le_of_eq (fill_len (N := 9) mk_len (pcl_len ha) (leR rfl)).symm⟩ ?_ | refine Exists.intro (rowP [((n : Int), a), ((n : Int), b)]) (And.intro (row2 (N := 9) (p := ((n : Int), a)) (q := ((n : Int), b)) mk_len (pcl_len ha) (pcl_len hb)) ?_) | refine Exists.intro (pcl (n : Int) (nm (gM (gd a) (gd b) n) n)) (And.intro ⟨pcl_len nm_len, pcl_all nm_len⟩ ?_) | refine And.intro ⟨pcl_len nm_len, leR rfl, pcl_ones⟩ ?_ | refine Exists.intro (pcl (n : Int) (nm (gM (gd a) (gd b) n) n)) (And.intro ⟨leR rfl, spl0 (leR rfl)⟩ ?_) | refine Exists.intro (pcl 0 (List.replicate 8 0)) (And.intro ⟨leR rfl, rfl⟩ ?_) | refine Exists.intro (pcl 0 (List.replicate 8 0)) (And.intro ⟨rfl, rfl⟩ ?_) | refine And.intro (neI rfl) ?_ | refine And.intro ⟨rfl, leR rfl, onesR rfl⟩ ?_ | refine And.intro ⟨rfl, leR rfl⟩ ?_ | refine draw_rule2 hfol (fun KK hKK => ?_) | refine hKK _ _ _ (by kernel_rfl) ?_ | refine region_rule (fun KK hKK => ?_) | refine hKK _ _ ?_ | refine And.intro (Eq.refl true) ?_ | refine Exists.intro _ (And.intro (wI (by omega)) ?_) | refine Exists.intro _ (And.intro (wU (by omega)) ?_) | refine Exists.intro _ (And.intro ⟨rfl, by omega⟩ ?_) | refine Exists.intro _ (And.intro rfl ?_) | refine And.intro rfl ?_ | refine And.intro ⟨rfl, rfl⟩ ?_ | ((refine And.intro (fun _ => ?_) (fun _ => ?_)) <;> try (exfalso; omega))))
      exact Exists.intro [] (And.intro (rfl) (And.intro trivial rfl))
    · have hr : mulR sa a sb b = (0, List.replicate 8 0, 0, 2) := by unfold mulR; rw [if_pos hv, if_neg h]
      rw [hr]
      (repeat' (first | refine (hq).read [3] rfl ⟨rfl, trivial⟩ ?_ | refine Exists.intro (pcl sa a) (And.intro ⟨pcl_len ha, pcl_all ha⟩ ?_) | refine Exists.intro (pcl sb b) (And.intro ⟨pcl_len hb, pcl_all hb⟩ ?_) | refine And.intro ⟨pcl_len ha, mkL rfl⟩ ?_ | refine And.intro ⟨pcl_len hb, Nat.le_of_eq (fill_len (N := 9) mk_len (pcl_len ha) (leR rfl)).symm⟩ ?_ | refine Exists.intro (rowP [(sa, a), (sb, b)]) (And.intro (row2 (N := 9) (p := (sa, a)) (q := (sb, b)) mk_len (pcl_len ha) (pcl_len hb)) ?_) | refine Exists.intro (pcl 0 (List.replicate 8 0)) (And.intro ⟨leR rfl, rfl⟩ ?_) | refine Exists.intro (pcl 0 (List.replicate 8 0)) (And.intro ⟨rfl, rfl⟩ ?_) | refine And.intro (neI rfl) ?_ | refine And.intro ⟨rfl, leR rfl, onesR rfl⟩ ?_ | refine And.intro ⟨rfl, leR rfl⟩ ?_ | refine draw_rule2 hfol (fun KK hKK => ?_) | refine hKK _ _ _ (by kernel_rfl) ?_ | refine region_rule (fun KK hKK => ?_) | refine hKK _ _ ?_ | refine And.intro (Eq.refl true) ?_ | refine Exists.intro _ (And.intro (wI (by omega)) ?_) | refine Exists.intro _ (And.intro (wU (by omega)) ?_) | refine Exists.intro _ (And.intro ⟨rfl, by omega⟩ ?_) | refine Exists.intro _ (And.intro rfl ?_) | refine And.intro rfl ?_ | refine And.intro ⟨rfl, rfl⟩ ?_ | ((refine And.intro (fun _ => ?_) (fun _ => ?_)) <;> try (exfalso; omega))))
      exact Exists.intro [] (And.intro (rfl) (And.intro trivial rfl))
  · rw [show ([(sa, a), (sb, b)].any fun p => !isPi p.1 p.2) = true from by cases h1 : isPi sa a <;> cases h2 : isPi sb b <;> simp [h1, h2] at hv ⊢] at hq
    have hr : mulR sa a sb b = (0, List.replicate 8 0, 0, 1) := by unfold mulR; rw [if_neg hv]
    rw [hr]
    (repeat' (first | refine (hq).read [3] rfl ⟨rfl, trivial⟩ ?_ | refine Exists.intro (pcl sa a) (And.intro ⟨pcl_len ha, pcl_all ha⟩ ?_) | refine Exists.intro (pcl sb b) (And.intro ⟨pcl_len hb, pcl_all hb⟩ ?_) | refine And.intro ⟨pcl_len ha, mkL rfl⟩ ?_ | refine And.intro ⟨pcl_len hb, Nat.le_of_eq (fill_len (N := 9) mk_len (pcl_len ha) (leR rfl)).symm⟩ ?_ | refine Exists.intro (rowP [(sa, a), (sb, b)]) (And.intro (row2 (N := 9) (p := (sa, a)) (q := (sb, b)) mk_len (pcl_len ha) (pcl_len hb)) ?_) | refine Exists.intro (pcl 0 (List.replicate 8 0)) (And.intro ⟨leR rfl, rfl⟩ ?_) | refine Exists.intro (pcl 0 (List.replicate 8 0)) (And.intro ⟨rfl, rfl⟩ ?_) | refine And.intro (neI rfl) ?_ | refine And.intro ⟨rfl, leR rfl, onesR rfl⟩ ?_ | refine And.intro ⟨rfl, leR rfl⟩ ?_ | refine draw_rule2 hfol (fun KK hKK => ?_) | refine hKK _ _ _ (by kernel_rfl) ?_ | refine region_rule (fun KK hKK => ?_) | refine hKK _ _ ?_ | refine And.intro (Eq.refl true) ?_ | refine Exists.intro _ (And.intro (wI (by omega)) ?_) | refine Exists.intro _ (And.intro (wU (by omega)) ?_) | refine Exists.intro _ (And.intro ⟨rfl, by omega⟩ ?_) | refine Exists.intro _ (And.intro rfl ?_) | refine And.intro rfl ?_ | refine And.intro ⟨rfl, rfl⟩ ?_ | ((refine And.intro (fun _ => ?_) (fun _ => ?_)) <;> try (exfalso; omega))))
    exact Exists.intro [] (And.intro (rfl) (And.intro trivial rfl))
theorem s_lawMul (sa : Int) (a : List Nat) (ha : a.length = 8) (hab : ∀ x ∈ a, x < 256) (sb : Int) (b : List Nat) (hb : b.length = 8) (hbb : ∀ x ∈ b, x < 256) : Spec Try.prog n_l_FnExactMultiplyPartitions [pv sa a, pv sb b] [] (vb true) [] := by
  have h1 := s_sMul sa a ha hab sb b hb hbb
  have h2 := s_iMul sa a ha hab sb b hb hbb
  have hl := mulR_len sa a sb b
  generalize mulR sa a sb b = p at h1 h2 hl
  have he := s_eqP p.1 p.2.1 hl
  refine SpecW.of_EV hf_l_FnExactMultiplyPartitions hc_l_FnExactMultiplyPartitions rfl rfl rfl fun w0 B ρ0 _ => ?_
  (repeat' (first | refine (s_toP sa a ha).pure rfl ?_ | refine (s_toP sb b hb).pure rfl ?_ | refine (h1).pure rfl ?_ | refine (h2).pure rfl ?_ | refine (he).pure rfl ?_ | refine Exists.intro (pcl p.1 p.2.1) (And.intro ⟨pcl_len hl, pcl_all hl⟩ ?_) | refine And.intro ⟨pcl_len hl, leR rfl, pcl_ones⟩ ?_ | refine Exists.intro (pcl p.1 p.2.1) (And.intro ⟨leR rfl, spl0 (leR rfl)⟩ ?_) | refine Exists.intro (pcl sa a) (And.intro ⟨pcl_len ha, pcl_all ha⟩ ?_) | refine Exists.intro (pcl sb b) (And.intro ⟨pcl_len hb, pcl_all hb⟩ ?_) | refine And.intro (fun _ => ?_) (fun h => absurd rfl h) | refine And.intro (neI rfl) ?_ | refine And.intro ⟨rfl, leR rfl, onesR rfl⟩ ?_ | refine And.intro ⟨rfl, leR rfl⟩ ?_ | refine draw_rule2 hfol (fun KK hKK => ?_) | refine hKK _ _ _ (by kernel_rfl) ?_ | refine region_rule (fun KK hKK => ?_) | refine hKK _ _ ?_ | refine And.intro (Eq.refl true) ?_ | refine Exists.intro _ (And.intro (wI (by omega)) ?_) | refine Exists.intro _ (And.intro (wU (by omega)) ?_) | refine Exists.intro _ (And.intro ⟨rfl, by omega⟩ ?_) | refine Exists.intro _ (And.intro rfl ?_) | refine And.intro rfl ?_ | refine And.intro ⟨rfl, rfl⟩ ?_ | ((refine And.intro (fun _ => ?_) (fun _ => ?_)) <;> try (exfalso; omega))))
  exact finP rfl
end Go.Proofs.Ytpangmameocfmaa.VE.P
namespace Go.Proofs.Ytpangmameocfmaa.VE.P
open Go
set_option maxHeartbeats 800000
set_option maxRecDepth 100000

/-! plain: powers come again -/
theorem pigeon : ∀ (B : Nat) (l : List Nat), l.Nodup → (∀ x ∈ l, x < B) → l.length ≤ B
  | 0, l, _, h => by
    cases l with
    | nil => simp
    | cons a r => exact absurd (h a (by simp)) (by omega)
  | B + 1, l, hn, h => by
    by_cases hb : B ∈ l
    · have h1 := List.length_erase_of_mem hb
      have h2 := pigeon B (l.erase B) (hn.erase B) fun x hx => by
        have h3 := h x (List.mem_of_mem_erase hx)
        have h4 : x ≠ B := fun e => by subst e; exact (List.Nodup.not_mem_erase hn) hx
        omega
      omega
    · have := pigeon B l hn fun x hx => by
        have h3 := h x hx
        have h4 : x ≠ B := fun e => hb (e ▸ hx)
        omega
      omega
theorem least_of {p : Nat → Prop} (h : ∃ n, p n) : ∃ n, p n ∧ ∀ m, m < n → ¬ p m := by
  obtain ⟨n, hn⟩ := h
  induction n using Nat.strongRecOn with
  | _ n ih =>
    by_cases hm : ∃ m, m < n ∧ p m
    · obtain ⟨m, h1, h2⟩ := hm; exact ih m h1 h2
    · exact ⟨n, hn, fun m h1 h2 => hm ⟨m, h1, h2⟩⟩
def dg8 : List Nat → Nat
  | [] => 0
  | x :: r => x + 8 * dg8 r
theorem dg8_inj : ∀ {a b : List Nat}, a.length = b.length → (∀ x ∈ a, x < 8) → (∀ x ∈ b, x < 8) → dg8 a = dg8 b → a = b
  | [], [], _, _, _, _ => rfl
  | [], _ :: _, h, _, _, _ => by simp at h
  | _ :: _, [], h, _, _, _ => by simp at h
  | x :: a, y :: b, h, ha, hb, he => by
    have h1 := ha x (by simp)
    have h2 := hb y (by simp)
    simp only [dg8] at he
    rw [dg8_inj (a := a) (b := b) (by simpa using h) (fun z hz => ha z (by simp [hz])) (fun z hz => hb z (by simp [hz])) (by omega), show x = y from by omega]
theorem dg8_lt : ∀ {a : List Nat}, (∀ x ∈ a, x < 8) → dg8 a < 8 ^ a.length
  | [], _ => by simp [dg8]
  | x :: a, h => by
    have h1 := h x (by simp)
    have h2 := dg8_lt (a := a) fun z hz => h z (by simp [hz])
    simp only [dg8, List.length_cons, Nat.pow_succ]
    omega
theorem nm_lt {g : Nat → Int} {n : Nat} (hn : n ≤ 4) (j : Nat) : (nm g n).getD j 0 < 8 :=
  nmL_lt (2 * n) 0 [] (List.replicate 8 0) (by simp; omega) (fun j => by rw [List.getD_eq_getElem?_getD, List.getElem?_replicate]; split <;> simp) (by simp) (by omega)
/-- The powers' parts: pw 0 is the partition itself. -/
def pw (n : Nat) (m : List Nat) : Nat → List Nat
  | 0 => m
  | k + 1 => nm (gM (gd (pw n m k)) (gd m) n) n
theorem pw_len {n : Nat} {m : List Nat} (hm : m.length = 8) : ∀ k, (pw n m k).length = 8
  | 0 => hm
  | _ + 1 => nm_len
theorem pw_lt {n : Nat} {m : List Nat} (hm : ∀ j, m.getD j 0 < 8) (hn : n ≤ 4) : ∀ k j, (pw n m k).getD j 0 < 8
  | 0, j => hm j
  | _ + 1, j => nm_lt hn j
theorem lt_mem {l : List Nat} {B : Nat} (h : ∀ j, l.getD j 0 < B) : ∀ x ∈ l, x < B := fun x hx => by
  obtain ⟨i, hi⟩ := List.getElem?_of_mem hx
  have := h i
  rw [List.getD_eq_getElem?_getD, hi] at this; exact this
theorem pw_rep {n : Nat} {m : List Nat} (hm : m.length = 8) (hl : ∀ j, m.getD j 0 < 8) (hn : n ≤ 4) :
    ∃ K i, i < K ∧ K ≤ 16777216 ∧ pw n m i = pw n m K ∧ ∀ j k, j < k → k < K → pw n m j ≠ pw n m k := by
  have hex : ∃ K, ∃ i, i < K ∧ pw n m i = pw n m K := by
    refine Classical.byContradiction fun hno => ?_
    have hne : ∀ i k, i < k → pw n m i ≠ pw n m k := fun i k h e => hno ⟨k, i, h, e⟩
    have := pigeon (8 ^ 8) ((List.range (8 ^ 8 + 1)).map fun k => dg8 (pw n m k)) (by
      rw [List.Nodup, List.pairwise_map]
      refine List.Pairwise.imp ?_ List.pairwise_lt_range
      intro i k h e
      exact hne i k h (dg8_inj (by rw [pw_len hm, pw_len hm]) (lt_mem (pw_lt hl hn i)) (lt_mem (pw_lt hl hn k)) e)) (by
      intro x hx
      obtain ⟨k, _, rfl⟩ := List.mem_map.1 hx
      have := dg8_lt (lt_mem (pw_lt hl hn k))
      rwa [pw_len hm] at this)
    rw [List.length_map, List.length_range] at this
    omega
  obtain ⟨K, ⟨i, hi, he⟩, hmin⟩ := least_of hex
  refine ⟨K, i, hi, ?_, he, fun j k hj hk e => hmin k hk ⟨j, hj, e⟩⟩
  have := pigeon (8 ^ 8) ((List.range K).map fun k => dg8 (pw n m k)) (by
      rw [List.Nodup, List.pairwise_map]
      refine List.Pairwise.imp_of_mem ?_ List.pairwise_lt_range
      intro i k _ hk h e
      exact hmin k (List.mem_range.1 hk) ⟨i, h, dg8_inj (by rw [pw_len hm, pw_len hm]) (lt_mem (pw_lt hl hn i)) (lt_mem (pw_lt hl hn k)) e⟩) (by
      intro x hx
      obtain ⟨k, _, rfl⟩ := List.mem_map.1 hx
      have := dg8_lt (lt_mem (pw_lt hl hn k))
      rwa [pw_len hm] at this)
  rw [List.length_map, List.length_range] at this
  omega
/-- The first t powers, as a row. -/
def rpl (n : Nat) (m : List Nat) (t : Nat) : List (Int × List Nat) := (List.range t).map fun k => ((n : Int), pw n m k)
def rpw (n : Nat) (m : List Nat) (t : Nat) : List Value := rowP (rpl n m t)
theorem rowP_append : ∀ (a b : List (Int × List Nat)), rowP (a ++ b) = rowP a ++ rowP b
  | [], _ => rfl
  | p :: a, b => by simp [rowP, rowP_append a b]
theorem rpw_succ {n : Nat} {m : List Nat} {t : Nat} : rpw n m t ++ pcl (n : Int) (pw n m t) = rpw n m (t + 1) := by
  simp [rpw, rpl, List.range_succ, rowP_append, rowP]
theorem rpw_1 {n : Nat} {m : List Nat} : rowP [((n : Int), m)] = rpw n m 1 := rfl
theorem rpw_at {n : Nat} {m : List Nat} (hm : m.length = 8) {t i : Nat} (h : i < t) : ((rpw n m t).drop (i * 9)).take 9 = pcl (n : Int) (pw n m i) :=
  rowP_at (N := 8) (l := rpl n m t) (i := i) (p := ((n : Int), pw n m i)) (fun p hp => by
    obtain ⟨k, _, rfl⟩ := List.mem_map.1 hp; exact pw_len hm k) (by simp [rpl, h])
theorem row1sP {c : List Value} {s : Int} {m : List Nat} {N : Nat} (h : c.length ≤ N) : c.take (0 * N) ++ pcl s m ++ c.drop (0 * N + N) = pcl s m := by
  simp [List.drop_of_length_le h]
end Go.Proofs.Ytpangmameocfmaa.VE.P
namespace Go.Proofs.Ytpangmameocfmaa.VE.P
open Go
set_option maxHeartbeats 1600000
set_option maxRecDepth 100000
theorem s_nR0 (N : Nat) (xs : List Value) (n : Nat) (hxs0 : xs[0]? = some (.int .i64 n)) : Spec Try.prog n_i_Partition_n [.ptr 0 0] [.pr T_i_Partition 9 N xs] (vi n) [.pr T_i_Partition 9 N xs] := by
  refine SpecW.of_EV hf_i_Partition_n hc_i_Partition_n rfl rfl rfl fun w0 B ρ0 _ => ?_
  (repeat' (first | refine Exists.intro _ (And.intro hxs0 ?_) | refine And.intro (neI rfl) ?_ | refine And.intro ⟨rfl, leR rfl, onesR rfl⟩ ?_ | refine And.intro ⟨rfl, leR rfl⟩ ?_ | refine draw_rule2 hfol (fun KK hKK => ?_) | refine hKK _ _ _ (by kernel_rfl) ?_ | refine region_rule (fun KK hKK => ?_) | refine hKK _ _ ?_ | refine And.intro (Eq.refl true) ?_ | refine Exists.intro _ (And.intro (wI (by omega)) ?_) | refine Exists.intro _ (And.intro (wU (by omega)) ?_) | refine Exists.intro _ (And.intro ⟨rfl, by omega⟩ ?_) | refine Exists.intro _ (And.intro rfl ?_) | refine And.intro rfl ?_ | refine And.intro ⟨rfl, rfl⟩ ?_ | ((refine And.intro (fun _ => ?_) (fun _ => ?_)) <;> try (exfalso; omega))))
  exact Exists.intro [0] (And.intro (rfl) (And.intro ⟨rfl, trivial⟩ rfl))
theorem s_itimesR0 (N : Nat) (xs : List Value) (n : Nat) (ma mb : List Nat) (hxs0 : xs[0]? = some (.int .i64 n)) (hxs : ∀ i, i < 8 → xs[1 + i]? = some (.int .u8 ((ma.getD i 0 : Nat) : Int))) (hma : ma.length = 8) (hmb : mb.length = 8) (ha : ∀ j, ma.getD j 0 < 8) (hb : ∀ j, mb.getD j 0 < 8) (hn1 : 1 ≤ n) (hn : n ≤ 4) :
    Spec Try.prog n_i_timesPartition [.ptr 0 0, .ptr 1 0] [.pr T_i_Partition 9 N xs, .pc (pcl n mb) T_i_Partition] (.tup [pv n (nm (gT (gI (gd ma) (gd mb) n (2 * n)).2.1 n) n), vi ((lK (gI (gd ma) (gd mb) n (2 * n)).2.1 n n).length : Nat)]) [.pr T_i_Partition 9 N xs, .pc (pcl n mb) T_i_Partition] := by
  have hng := s_newG (3 * n) (by omega)
  have w3 : IntKind.i64.wrap (3 * (n : Int)) = ((3 * n : Nat) : Int) := wC (by omega) (by omega)
  have w2 : IntKind.i64.wrap (2 * (n : Int)) = ((2 * n : Nat) : Int) := wC (by omega) (by omega)
  refine SpecW.of_EV hf_i_timesPartition hc_i_timesPartition rfl rfl rfl fun w0 B ρ0 _ => ?_
  (repeat' (first | refine (s_nR0 N xs n hxs0).read [0] rfl ⟨rfl, trivial⟩ ?_ | refine Exists.intro _ (And.intro w3 ?_) | refine Exists.intro _ (And.intro w2 ?_) | refine (hng).make [] rfl trivial ?_ | refine Exists.intro [Value.int .i64 (n : Int)] (And.intro ⟨leR rfl, rfl⟩ ?_) | refine Exists.intro [V.sl 4] (And.intro ⟨leR rfl, rfl⟩ ?_) | refine And.intro (neI rfl) ?_ | refine And.intro ⟨rfl, leR rfl, onesR rfl⟩ ?_ | refine And.intro ⟨rfl, leR rfl⟩ ?_ | refine draw_rule2 hfol (fun KK hKK => ?_) | refine hKK _ _ _ (by kernel_rfl) ?_ | refine region_rule (fun KK hKK => ?_) | refine hKK _ _ ?_ | refine And.intro (Eq.refl true) ?_ | refine Exists.intro _ (And.intro (wI (by omega)) ?_) | refine Exists.intro _ (And.intro (wU (by omega)) ?_) | refine Exists.intro _ (And.intro ⟨rfl, by omega⟩ ?_) | refine Exists.intro _ (And.intro rfl ?_) | refine And.intro rfl ?_ | refine And.intro ⟨rfl, rfl⟩ ?_ | ((refine And.intro (fun _ => ?_) (fun _ => ?_)) <;> try (exfalso; omega))))
  refine loop_rule (α := Nat) (fun i => i ≤ 2 * n)
    (fun i => [(0, .ptr 0 0), (1, .ptr 1 0), (4, .ptr 2 0), (6, .ptr 3 0), (7, .ptr 4 0), (21, vi (2 * n : Nat)), (22, vi i)])
    (fun i => [.pr T_i_Partition 9 N xs, .pc (pcl n mb) T_i_Partition, .pc (pcl 0 (List.replicate 8 0)) T_i_Partition, .pc [.int .i64 n] T_int, .cc [.sl 5] T_i_groups, .pr T_int 1 (3 * n) (il (oI (gI (gd ma) (gd mb) n i).1) (3 * n))]) (fun i => 2 * n - i) 0 [0, 1, 2, 3, 5, 4]
    (by omega) ⟨⟨rfl, rfl, rfl, rfl, rfl, rfl, rfl, trivial⟩, ⟨rfl, rfl, rfl, rfl, rfl, rfl, trivial⟩, rfl⟩ ?_
  rintro i g hi
  by_cases h9 : i ≠ 2 * n
  · have hil : i < 2 * n := by omega
    (repeat' (first | refine And.intro (neI rfl) ?_ | refine And.intro ⟨rfl, leR rfl, onesR rfl⟩ ?_ | refine And.intro ⟨rfl, leR rfl⟩ ?_ | refine draw_rule2 hfol (fun KK hKK => ?_) | refine hKK _ _ _ (by kernel_rfl) ?_ | refine region_rule (fun KK hKK => ?_) | refine hKK _ _ ?_ | refine And.intro (Eq.refl true) ?_ | refine Exists.intro _ (And.intro (wI (by omega)) ?_) | refine Exists.intro _ (And.intro (wU (by omega)) ?_) | refine Exists.intro _ (And.intro ⟨rfl, by omega⟩ ?_) | refine Exists.intro _ (And.intro rfl ?_) | refine And.intro rfl ?_ | refine And.intro ⟨rfl, rfl⟩ ?_ | ((refine And.intro (fun _ => ?_) (fun _ => ?_)) <;> try (exfalso; omega))))
    refine loop_rule (α := Nat) (fun k => k ≤ i)
      (fun k => [(0, .ptr 0 0), (1, .ptr 1 0), (4, .ptr 2 0), (6, .ptr 3 0), (7, .ptr 4 0), (8, vi i), (21, vi (2 * n : Nat)), (22, vi i), (25, vi i), (26, vi k)])
      (fun k => [.pr T_i_Partition 9 N xs, .pc (pcl n mb) T_i_Partition, .pc (pcl 0 (List.replicate 8 0)) T_i_Partition, .pc [.int .i64 n] T_int, .cc [.sl 5] T_i_groups, .pr T_int 1 (3 * n) (il (oI (gK (gd ma) (gd mb) n i k (gI (gd ma) (gd mb) n i)).1) (3 * n))]) (fun k => i - k) 0 [0, 1, 2, 3, 4, 5]
      (by omega) ⟨⟨rfl, rfl, rfl, rfl, rfl, rfl, rfl, rfl, rfl, rfl, trivial⟩, ⟨rfl, rfl, rfl, rfl, rfl, rfl, trivial⟩, rfl⟩ ?_
    rintro k g2 hk
    by_cases h8 : k = i
    · subst h8
      (repeat' (first | refine And.intro (neI rfl) ?_ | refine And.intro ⟨rfl, leR rfl, onesR rfl⟩ ?_ | refine And.intro ⟨rfl, leR rfl⟩ ?_ | refine draw_rule2 hfol (fun KK hKK => ?_) | refine hKK _ _ _ (by kernel_rfl) ?_ | refine region_rule (fun KK hKK => ?_) | refine hKK _ _ ?_ | refine And.intro (Eq.refl true) ?_ | refine Exists.intro _ (And.intro (wI (by omega)) ?_) | refine Exists.intro _ (And.intro (wU (by omega)) ?_) | refine Exists.intro _ (And.intro ⟨rfl, by omega⟩ ?_) | refine Exists.intro _ (And.intro rfl ?_) | refine And.intro rfl ?_ | refine And.intro ⟨rfl, rfl⟩ ?_ | ((refine And.intro (fun _ => ?_) (fun _ => ?_)) <;> try (exfalso; omega))))
      refine Exists.intro (k + 1) (Exists.intro [0, 1, 2, 3, 4, 5] (And.intro ⟨by omega, (by show 2 * n - (k + 1) < 2 * n - k; omega)⟩ ⟨⟨rfl, rfl, rfl, rfl, rfl, rfl, rfl, trivial⟩, ⟨rfl, rfl, rfl, rfl, rfl, rfl, trivial⟩, rfl⟩))
    have hkl : k < i := by omega
    have hu : UFs (3 * n) (gK (gd ma) (gd mb) n i k (gI (gd ma) (gd mb) n i)) := gK_uf (gI_uf i (by omega)) hil k (by omega)
    have hnx : gK (gd ma) (gd mb) n i (k + 1) (gI (gd ma) (gd mb) n i) = g1 (gd mb) n i k (g1 (gd ma) 0 i k (gK (gd ma) (gd mb) n i k (gI (gd ma) (gd mb) n i))) := rfl
    generalize gK (gd ma) (gd mb) n i k (gI (gd ma) (gd mb) n i) = s at hu hnx ⊢
    have v1 : IntKind.i64.wrap ((n : Int) + (i : Int)) = ((n + i : Nat) : Int) := wC (by omega) (by omega)
    have v2 : IntKind.i64.wrap ((n : Int) + (k : Int)) = ((n + k : Nat) : Int) := wC (by omega) (by omega)
    rw [g1a] at hnx
    by_cases hA : ma.getD i 0 = ma.getD k 0
    · rw [if_pos (show gd ma i = gd ma k from hA)] at hnx
      have j1 := s_gjoin hu (by omega) i k (by omega) (by omega)
      have hu1 : UFs (3 * n) (jn s i k) := UF.join hu (by omega) (by omega)
      by_cases hB : mb.getD i 0 = mb.getD k 0
      · rw [show g1 (gd mb) n i k (jn s i k) = jn (jn s i k) (n + i) (n + k) from if_pos hB] at hnx
        have j2 := s_gjoin hu1 (by omega) (n + i) (n + k) (by omega) (by omega)
        (repeat' (first | refine Exists.intro _ (And.intro v1 ?_) | refine Exists.intro _ (And.intro v2 ?_) | refine Exists.intro _ (And.intro (hxs i (by omega)) ?_) | refine Exists.intro _ (And.intro (hxs k (by omega)) ?_) | refine Exists.intro _ (And.intro (pcl_at (m := mb) (i := i) (by omega)) ?_) | refine Exists.intro _ (And.intro (pcl_at (m := mb) (i := k) (by omega)) ?_) | refine (j1).make [5] rfl ⟨rfl, trivial⟩ ?_ | refine (j2).make [5] rfl ⟨rfl, trivial⟩ ?_ | refine And.intro (neI rfl) ?_ | refine And.intro ⟨rfl, leR rfl, onesR rfl⟩ ?_ | refine And.intro ⟨rfl, leR rfl⟩ ?_ | refine draw_rule2 hfol (fun KK hKK => ?_) | refine hKK _ _ _ (by kernel_rfl) ?_ | refine region_rule (fun KK hKK => ?_) | refine hKK _ _ ?_ | refine And.intro (Eq.refl true) ?_ | refine Exists.intro _ (And.intro (wI (by omega)) ?_) | refine Exists.intro _ (And.intro (wU (by omega)) ?_) | refine Exists.intro _ (And.intro ⟨rfl, by omega⟩ ?_) | refine Exists.intro _ (And.intro rfl ?_) | refine And.intro rfl ?_ | refine And.intro ⟨rfl, rfl⟩ ?_ | ((refine And.intro (fun _ => ?_) (fun _ => ?_)) <;> try (exfalso; omega))))
        all_goals refine Exists.intro (k + 1) (Exists.intro [0, 1, 2, 3, 4, 5] (And.intro ⟨by omega, (by show i - (k + 1) < i - k; omega)⟩ ⟨⟨rfl, rfl, rfl, rfl, rfl, rfl, rfl, rfl, rfl, rfl, trivial⟩, ⟨rfl, rfl, rfl, rfl, rfl, by rw [hnx]; rfl, trivial⟩, rfl⟩))
      · rw [show g1 (gd mb) n i k (jn s i k) = (jn s i k) from if_neg hB] at hnx
        (repeat' (first | refine Exists.intro _ (And.intro v1 ?_) | refine Exists.intro _ (And.intro v2 ?_) | refine Exists.intro _ (And.intro (hxs i (by omega)) ?_) | refine Exists.intro _ (And.intro (hxs k (by omega)) ?_) | refine Exists.intro _ (And.intro (pcl_at (m := mb) (i := i) (by omega)) ?_) | refine Exists.intro _ (And.intro (pcl_at (m := mb) (i := k) (by omega)) ?_) | refine (j1).make [5] rfl ⟨rfl, trivial⟩ ?_ | refine And.intro (neI rfl) ?_ | refine And.intro ⟨rfl, leR rfl, onesR rfl⟩ ?_ | refine And.intro ⟨rfl, leR rfl⟩ ?_ | refine draw_rule2 hfol (fun KK hKK => ?_) | refine hKK _ _ _ (by kernel_rfl) ?_ | refine region_rule (fun KK hKK => ?_) | refine hKK _ _ ?_ | refine And.intro (Eq.refl true) ?_ | refine Exists.intro _ (And.intro (wI (by omega)) ?_) | refine Exists.intro _ (And.intro (wU (by omega)) ?_) | refine Exists.intro _ (And.intro ⟨rfl, by omega⟩ ?_) | refine Exists.intro _ (And.intro rfl ?_) | refine And.intro rfl ?_ | refine And.intro ⟨rfl, rfl⟩ ?_ | ((refine And.intro (fun _ => ?_) (fun _ => ?_)) <;> try (exfalso; omega))))
        all_goals refine Exists.intro (k + 1) (Exists.intro [0, 1, 2, 3, 4, 5] (And.intro ⟨by omega, (by show i - (k + 1) < i - k; omega)⟩ ⟨⟨rfl, rfl, rfl, rfl, rfl, rfl, rfl, rfl, rfl, rfl, trivial⟩, ⟨rfl, rfl, rfl, rfl, rfl, by rw [hnx]; rfl, trivial⟩, rfl⟩))
    · rw [if_neg (show ¬ gd ma i = gd ma k from hA)] at hnx
      by_cases hB : mb.getD i 0 = mb.getD k 0
      · rw [show g1 (gd mb) n i k s = jn s (n + i) (n + k) from if_pos hB] at hnx
        have j2 := s_gjoin hu (by omega) (n + i) (n + k) (by omega) (by omega)
        (repeat' (first | refine Exists.intro _ (And.intro v1 ?_) | refine Exists.intro _ (And.intro v2 ?_) | refine Exists.intro _ (And.intro (hxs i (by omega)) ?_) | refine Exists.intro _ (And.intro (hxs k (by omega)) ?_) | refine Exists.intro _ (And.intro (pcl_at (m := mb) (i := i) (by omega)) ?_) | refine Exists.intro _ (And.intro (pcl_at (m := mb) (i := k) (by omega)) ?_) | refine (j2).make [5] rfl ⟨rfl, trivial⟩ ?_ | refine And.intro (neI rfl) ?_ | refine And.intro ⟨rfl, leR rfl, onesR rfl⟩ ?_ | refine And.intro ⟨rfl, leR rfl⟩ ?_ | refine draw_rule2 hfol (fun KK hKK => ?_) | refine hKK _ _ _ (by kernel_rfl) ?_ | refine region_rule (fun KK hKK => ?_) | refine hKK _ _ ?_ | refine And.intro (Eq.refl true) ?_ | refine Exists.intro _ (And.intro (wI (by omega)) ?_) | refine Exists.intro _ (And.intro (wU (by omega)) ?_) | refine Exists.intro _ (And.intro ⟨rfl, by omega⟩ ?_) | refine Exists.intro _ (And.intro rfl ?_) | refine And.intro rfl ?_ | refine And.intro ⟨rfl, rfl⟩ ?_ | ((refine And.intro (fun _ => ?_) (fun _ => ?_)) <;> try (exfalso; omega))))
        all_goals refine Exists.intro (k + 1) (Exists.intro [0, 1, 2, 3, 4, 5] (And.intro ⟨by omega, (by show i - (k + 1) < i - k; omega)⟩ ⟨⟨rfl, rfl, rfl, rfl, rfl, rfl, rfl, rfl, rfl, rfl, trivial⟩, ⟨rfl, rfl, rfl, rfl, rfl, by rw [hnx]; rfl, trivial⟩, rfl⟩))
      · rw [show g1 (gd mb) n i k s = s from if_neg hB] at hnx
        (repeat' (first | refine Exists.intro _ (And.intro v1 ?_) | refine Exists.intro _ (And.intro v2 ?_) | refine Exists.intro _ (And.intro (hxs i (by omega)) ?_) | refine Exists.intro _ (And.intro (hxs k (by omega)) ?_) | refine Exists.intro _ (And.intro (pcl_at (m := mb) (i := i) (by omega)) ?_) | refine Exists.intro _ (And.intro (pcl_at (m := mb) (i := k) (by omega)) ?_) | refine And.intro (neI rfl) ?_ | refine And.intro ⟨rfl, leR rfl, onesR rfl⟩ ?_ | refine And.intro ⟨rfl, leR rfl⟩ ?_ | refine draw_rule2 hfol (fun KK hKK => ?_) | refine hKK _ _ _ (by kernel_rfl) ?_ | refine region_rule (fun KK hKK => ?_) | refine hKK _ _ ?_ | refine And.intro (Eq.refl true) ?_ | refine Exists.intro _ (And.intro (wI (by omega)) ?_) | refine Exists.intro _ (And.intro (wU (by omega)) ?_) | refine Exists.intro _ (And.intro ⟨rfl, by omega⟩ ?_) | refine Exists.intro _ (And.intro rfl ?_) | refine And.intro rfl ?_ | refine And.intro ⟨rfl, rfl⟩ ?_ | ((refine And.intro (fun _ => ?_) (fun _ => ?_)) <;> try (exfalso; omega))))
        all_goals refine Exists.intro (k + 1) (Exists.intro [0, 1, 2, 3, 4, 5] (And.intro ⟨by omega, (by show i - (k + 1) < i - k; omega)⟩ ⟨⟨rfl, rfl, rfl, rfl, rfl, rfl, rfl, rfl, rfl, rfl, trivial⟩, ⟨rfl, rfl, rfl, rfl, rfl, by rw [hnx]; rfl, trivial⟩, rfl⟩))
  have h9 : i = 2 * n := by omega
  subst h9
  have hu : UFs (3 * n) (gI (gd ma) (gd mb) n (2 * n)) := gI_uf (2 * n) (Nat.le_refl _)
  generalize gI (gd ma) (gd mb) n (2 * n) = s at hu ⊢
  (repeat' (first | refine makeMap_i rfl ?_ | refine And.intro (neI rfl) ?_ | refine And.intro ⟨rfl, leR rfl, onesR rfl⟩ ?_ | refine And.intro ⟨rfl, leR rfl⟩ ?_ | refine draw_rule2 hfol (fun KK hKK => ?_) | refine hKK _ _ _ (by kernel_rfl) ?_ | refine region_rule (fun KK hKK => ?_) | refine hKK _ _ ?_ | refine And.intro (Eq.refl true) ?_ | refine Exists.intro _ (And.intro (wI (by omega)) ?_) | refine Exists.intro _ (And.intro (wU (by omega)) ?_) | refine Exists.intro _ (And.intro ⟨rfl, by omega⟩ ?_) | refine Exists.intro _ (And.intro rfl ?_) | refine And.intro rfl ?_ | refine And.intro ⟨rfl, rfl⟩ ?_ | ((refine And.intro (fun _ => ?_) (fun _ => ?_)) <;> try (exfalso; omega))))
  refine loop_rule (α := Nat) (fun i => i ≤ n)
    (fun i => [(4, .ptr 2 0), (6, .ptr 3 0), (7, .ptr 4 0), (10, .mp 6), (11, .mp 7), (71, vi n), (72, vi i)])
    (fun i => [.pr T_i_Partition 9 N xs, .pc (pcl n mb) T_i_Partition, .pc (pcl 0 (List.replicate 8 0)) T_i_Partition, .pc [.int .i64 n] T_int, .cc [.sl 5] T_i_groups, .pr T_int 1 (3 * n) (il (oI s.1) (3 * n)), .mo (entT (oK s.2.1 n i)), .mo (entT [])]) (fun i => n - i) 0 [0, 1, 2, 3, 4, 5, 6, 7]
    (by omega) ⟨⟨rfl, rfl, rfl, rfl, rfl, rfl, rfl, trivial⟩, ⟨rfl, rfl, rfl, rfl, rfl, rfl, rfl, rfl, trivial⟩, goodB_via (by simp [idsO, O.ids, entT_ids]; rfl) rfl⟩ ?_
  rintro i g3 hi
  by_cases h8 : i ≠ n
  · have hil : i < n := by omega
    have f1 := s_of hu (by omega) i (by omega)
    have f2 := s_of hu (by omega) (2 * n + i) (by omega)
    have v1 : IntKind.i64.wrap (((2 * n : Nat) : Int) + (i : Int)) = ((2 * n + i : Nat) : Int) := wC (by omega) (by omega)
    have hset : setI (rI s.2.1 (2 * n + i)) (.raw (.bool true)) (entT (addk (oK s.2.1 n i) (rI s.2.1 i))) = entT (oK s.2.1 n (i + 1)) := entT_set
    have hfi2 := entT_find (k := rI s.2.1 (2 * n + i)) (ks := addk (oK s.2.1 n i) (rI s.2.1 i))
    have hfi := entT_find (k := rI s.2.1 i) (ks := oK s.2.1 n i)
    by_cases hm : rI s.2.1 i ∈ oK s.2.1 n i
    · rw [if_pos hm] at hfi
      rw [show addk (oK s.2.1 n i) (rI s.2.1 i) = oK s.2.1 n i from if_pos hm] at hset hfi2
      (repeat' (first | refine (f1).read [5] rfl ⟨rfl, trivial⟩ ?_ | refine (f2).read [5] rfl ⟨rfl, trivial⟩ ?_ | refine Exists.intro _ (And.intro w2 ?_) | refine Exists.intro _ (And.intro v1 ?_) | refine entryOld rfl rfl rfl rfl rfl rfl hfi rfl ?_ | refine estore_to rfl rfl rfl rfl rfl rfl (posI_lt hm) entT_mod ?_ | refine upd_to rfl rfl rfl rfl rfl rfl rfl rfl hfi2 hset ?_ | refine And.intro (neI rfl) ?_ | refine And.intro ⟨rfl, leR rfl, onesR rfl⟩ ?_ | refine And.intro ⟨rfl, leR rfl⟩ ?_ | refine draw_rule2 hfol (fun KK hKK => ?_) | refine hKK _ _ _ (by kernel_rfl) ?_ | refine region_rule (fun KK hKK => ?_) | refine hKK _ _ ?_ | refine And.intro (Eq.refl true) ?_ | refine Exists.intro _ (And.intro (wI (by omega)) ?_) | refine Exists.intro _ (And.intro (wU (by omega)) ?_) | refine Exists.intro _ (And.intro ⟨rfl, by omega⟩ ?_) | refine Exists.intro _ (And.intro rfl ?_) | refine And.intro rfl ?_ | refine And.intro ⟨rfl, rfl⟩ ?_ | ((refine And.intro (fun _ => ?_) (fun _ => ?_)) <;> try (exfalso; omega))))
      refine Exists.intro (i + 1) (Exists.intro [0, 1, 2, 3, 4, 5, 6, 7] (And.intro ⟨by omega, (by show n - (i + 1) < n - i; omega)⟩ ⟨⟨rfl, rfl, rfl, rfl, rfl, rfl, rfl, trivial⟩, ⟨rfl, rfl, rfl, rfl, rfl, rfl, congrArg some entT_mo, congrArg some entT_mo, trivial⟩, goodB_via (by simp [idsO, O.ids, entT_ids]; rfl) rfl⟩))
    · rw [if_neg hm] at hfi
      rw [show addk (oK s.2.1 n i) (rI s.2.1 i) = oK s.2.1 n i ++ [rI s.2.1 i] from if_neg hm] at hset hfi2
      (repeat' (first | refine (f1).read [5] rfl ⟨rfl, trivial⟩ ?_ | refine (f2).read [5] rfl ⟨rfl, trivial⟩ ?_ | refine Exists.intro _ (And.intro w2 ?_) | refine Exists.intro _ (And.intro v1 ?_) | refine entryNew rfl rfl rfl rfl rfl rfl rfl rfl hfi ?_ | refine estore_to rfl rfl rfl rfl rfl rfl (by simp) entT_new ?_ | refine upd_to rfl rfl rfl rfl rfl rfl rfl rfl hfi2 hset ?_ | refine And.intro (neI rfl) ?_ | refine And.intro ⟨rfl, leR rfl, onesR rfl⟩ ?_ | refine And.intro ⟨rfl, leR rfl⟩ ?_ | refine draw_rule2 hfol (fun KK hKK => ?_) | refine hKK _ _ _ (by kernel_rfl) ?_ | refine region_rule (fun KK hKK => ?_) | refine hKK _ _ ?_ | refine And.intro (Eq.refl true) ?_ | refine Exists.intro _ (And.intro (wI (by omega)) ?_) | refine Exists.intro _ (And.intro (wU (by omega)) ?_) | refine Exists.intro _ (And.intro ⟨rfl, by omega⟩ ?_) | refine Exists.intro _ (And.intro rfl ?_) | refine And.intro rfl ?_ | refine And.intro ⟨rfl, rfl⟩ ?_ | ((refine And.intro (fun _ => ?_) (fun _ => ?_)) <;> try (exfalso; omega))))
      refine Exists.intro (i + 1) (Exists.intro [0, 1, 2, 3, 4, 5, 6, 7] (And.intro ⟨by omega, (by show n - (i + 1) < n - i; omega)⟩ ⟨⟨rfl, rfl, rfl, rfl, rfl, rfl, rfl, trivial⟩, ⟨rfl, rfl, rfl, rfl, rfl, rfl, congrArg some entT_mo, congrArg some entT_mo, trivial⟩, goodB_via (by simp [idsO, O.ids, entT_ids]; rfl) rfl⟩))
  have h8 : i = n := by omega
  subst h8
  (repeat' (first | refine And.intro (neI rfl) ?_ | refine And.intro ⟨rfl, leR rfl, onesR rfl⟩ ?_ | refine And.intro ⟨rfl, leR rfl⟩ ?_ | refine draw_rule2 hfol (fun KK hKK => ?_) | refine hKK _ _ _ (by kernel_rfl) ?_ | refine region_rule (fun KK hKK => ?_) | refine hKK _ _ ?_ | refine And.intro (Eq.refl true) ?_ | refine Exists.intro _ (And.intro (wI (by omega)) ?_) | refine Exists.intro _ (And.intro (wU (by omega)) ?_) | refine Exists.intro _ (And.intro ⟨rfl, by omega⟩ ?_) | refine Exists.intro _ (And.intro rfl ?_) | refine And.intro rfl ?_ | refine And.intro ⟨rfl, rfl⟩ ?_ | ((refine And.intro (fun _ => ?_) (fun _ => ?_)) <;> try (exfalso; omega))))
  refine loop_rule (α := Nat) (fun x => x ≤ i)
    (fun x => [(4, .ptr 2 0), (6, .ptr 3 0), (7, .ptr 4 0), (10, .mp 6), (11, .mp 7), (89, vi i), (90, vi x)])
    (fun x => [.pr T_i_Partition 9 N xs, .pc (pcl i mb) T_i_Partition, .pc (pcl 0 (List.replicate 8 0)) T_i_Partition, .pc [.int .i64 i] T_int, .cc [.sl 5] T_i_groups, .pr T_int 1 (3 * i) (il (oI s.1) (3 * i)), .mo (entT (oK s.2.1 i i)), .mo (entT (lK s.2.1 i x))]) (fun x => i - x) 0 [0, 1, 2, 3, 4, 5, 6, 7]
    (by omega) ⟨⟨rfl, rfl, rfl, rfl, rfl, rfl, rfl, trivial⟩, ⟨rfl, rfl, rfl, rfl, rfl, rfl, congrArg some entT_mo, congrArg some entT_mo, trivial⟩, goodB_via (by simp [idsO, O.ids, entT_ids]; rfl) rfl⟩ ?_
  rintro x g4 hx
  by_cases h7 : x ≠ i
  · have hxl : x < i := by omega
    have f1 := s_of hu (by omega) (i + x) (by omega)
    have v1 : IntKind.i64.wrap ((i : Int) + (x : Int)) = ((i + x : Nat) : Int) := wC (by omega) (by omega)
    have hfi := entT_find (k := rI s.2.1 (i + x)) (ks := oK s.2.1 i i)
    have hfl := entT_find (k := rI s.2.1 (i + x)) (ks := lK s.2.1 i x)
    by_cases hm : rI s.2.1 (i + x) ∈ oK s.2.1 i i
    · have hnx : lK s.2.1 i (x + 1) = lK s.2.1 i x := if_pos hm
      rw [if_pos hm] at hfi
      (repeat' (first | refine (f1).read [5] rfl ⟨rfl, trivial⟩ ?_ | refine Exists.intro _ (And.intro v1 ?_) | refine look_i rfl rfl rfl rfl rfl rfl rfl rfl hfi ?_ | refine And.intro (neI rfl) ?_ | refine And.intro ⟨rfl, leR rfl, onesR rfl⟩ ?_ | refine And.intro ⟨rfl, leR rfl⟩ ?_ | refine draw_rule2 hfol (fun KK hKK => ?_) | refine hKK _ _ _ (by kernel_rfl) ?_ | refine region_rule (fun KK hKK => ?_) | refine hKK _ _ ?_ | refine And.intro (Eq.refl true) ?_ | refine Exists.intro _ (And.intro (wI (by omega)) ?_) | refine Exists.intro _ (And.intro (wU (by omega)) ?_) | refine Exists.intro _ (And.intro ⟨rfl, by omega⟩ ?_) | refine Exists.intro _ (And.intro rfl ?_) | refine And.intro rfl ?_ | refine And.intro ⟨rfl, rfl⟩ ?_ | ((refine And.intro (fun _ => ?_) (fun _ => ?_)) <;> try (exfalso; omega))))
      refine Exists.intro (x + 1) (Exists.intro [0, 1, 2, 3, 4, 5, 6, 7] (And.intro ⟨by omega, (by show i - (x + 1) < i - x; omega)⟩ ⟨⟨rfl, rfl, rfl, rfl, rfl, rfl, rfl, trivial⟩, ⟨rfl, rfl, rfl, rfl, rfl, rfl, congrArg some entT_mo, by rw [hnx]; exact congrArg some entT_mo, trivial⟩, goodB_via (by simp [idsO, O.ids, entT_ids]; rfl) rfl⟩))
    · have hnx : lK s.2.1 i (x + 1) = addk (lK s.2.1 i x) (rI s.2.1 (i + x)) := if_neg hm
      have hset : setI (rI s.2.1 (i + x)) (.raw (.bool true)) (entT (lK s.2.1 i x)) = entT (lK s.2.1 i (x + 1)) := by rw [hnx]; exact entT_set
      rw [if_neg hm] at hfi
      (repeat' (first | refine (f1).read [5] rfl ⟨rfl, trivial⟩ ?_ | refine Exists.intro _ (And.intro v1 ?_) | refine look_i rfl rfl rfl rfl rfl rfl rfl rfl hfi ?_ | refine upd_to rfl rfl rfl rfl rfl rfl rfl rfl hfl hset ?_ | refine And.intro (neI rfl) ?_ | refine And.intro ⟨rfl, leR rfl, onesR rfl⟩ ?_ | refine And.intro ⟨rfl, leR rfl⟩ ?_ | refine draw_rule2 hfol (fun KK hKK => ?_) | refine hKK _ _ _ (by kernel_rfl) ?_ | refine region_rule (fun KK hKK => ?_) | refine hKK _ _ ?_ | refine And.intro (Eq.refl true) ?_ | refine Exists.intro _ (And.intro (wI (by omega)) ?_) | refine Exists.intro _ (And.intro (wU (by omega)) ?_) | refine Exists.intro _ (And.intro ⟨rfl, by omega⟩ ?_) | refine Exists.intro _ (And.intro rfl ?_) | refine And.intro rfl ?_ | refine And.intro ⟨rfl, rfl⟩ ?_ | ((refine And.intro (fun _ => ?_) (fun _ => ?_)) <;> try (exfalso; omega))))
      refine Exists.intro (x + 1) (Exists.intro [0, 1, 2, 3, 4, 5, 6, 7] (And.intro ⟨by omega, (by show i - (x + 1) < i - x; omega)⟩ ⟨⟨rfl, rfl, rfl, rfl, rfl, rfl, rfl, trivial⟩, ⟨rfl, rfl, rfl, rfl, rfl, rfl, congrArg some entT_mo, congrArg some entT_mo, trivial⟩, goodB_via (by simp [idsO, O.ids, entT_ids]; rfl) rfl⟩))
  have h7 : x = i := by omega
  subst h7
  have hnm := s_named_times x s.1 s.2.1 s.2.2 hu hn1 hn
  (repeat' (first | refine (hnm).read [4,3,5] rfl ⟨rfl, rfl, rfl, trivial⟩ ?_ | refine Exists.intro (pcl (x : Int) (nm (gT s.2.1 x) x)) (And.intro ⟨pcl_len nm_len, pcl_all nm_len⟩ ?_) | refine And.intro ⟨pcl_len nm_len, leR rfl, pcl_ones⟩ ?_ | refine Exists.intro (pcl (x : Int) (nm (gT s.2.1 x) x)) (And.intro ⟨leR rfl, spl0 (leR rfl)⟩ ?_) | refine And.intro (neI rfl) ?_ | refine And.intro ⟨rfl, leR rfl, onesR rfl⟩ ?_ | refine And.intro ⟨rfl, leR rfl⟩ ?_ | refine draw_rule2 hfol (fun KK hKK => ?_) | refine hKK _ _ _ (by kernel_rfl) ?_ | refine region_rule (fun KK hKK => ?_) | refine hKK _ _ ?_ | refine And.intro (Eq.refl true) ?_ | refine Exists.intro _ (And.intro (wI (by omega)) ?_) | refine Exists.intro _ (And.intro (wU (by omega)) ?_) | refine Exists.intro _ (And.intro ⟨rfl, by omega⟩ ?_) | refine Exists.intro _ (And.intro rfl ?_) | refine And.intro rfl ?_ | refine And.intro ⟨rfl, rfl⟩ ?_ | ((refine And.intro (fun _ => ?_) (fun _ => ?_)) <;> try (exfalso; omega))))
  exact Exists.intro [0, 1] (And.intro (by first | rfl | (simp only [entT_len]; rfl)) (And.intro ⟨rfl, rfl, trivial⟩ rfl))
theorem s_nR1 (q N : Nat) (xs : List Value) (n : Nat) (hxs0 : xs[q + 1]? = some (.int .i64 n)) : Spec Try.prog n_i_Partition_n [.ptr 0 (q + 1)] [.pr T_i_Partition 9 N xs] (vi n) [.pr T_i_Partition 9 N xs] := by
  refine SpecW.of_EV hf_i_Partition_n hc_i_Partition_n rfl rfl rfl fun w0 B ρ0 _ => ?_
  (repeat' (first | refine Exists.intro _ (And.intro hxs0 ?_) | refine And.intro (neI rfl) ?_ | refine And.intro ⟨rfl, leR rfl, onesR rfl⟩ ?_ | refine And.intro ⟨rfl, leR rfl⟩ ?_ | refine draw_rule2 hfol (fun KK hKK => ?_) | refine hKK _ _ _ (by kernel_rfl) ?_ | refine region_rule (fun KK hKK => ?_) | refine hKK _ _ ?_ | refine And.intro (Eq.refl true) ?_ | refine Exists.intro _ (And.intro (wI (by omega)) ?_) | refine Exists.intro _ (And.intro (wU (by omega)) ?_) | refine Exists.intro _ (And.intro ⟨rfl, by omega⟩ ?_) | refine Exists.intro _ (And.intro rfl ?_) | refine And.intro rfl ?_ | refine And.intro ⟨rfl, rfl⟩ ?_ | ((refine And.intro (fun _ => ?_) (fun _ => ?_)) <;> try (exfalso; omega))))
  exact Exists.intro [0] (And.intro (rfl) (And.intro ⟨rfl, trivial⟩ rfl))
theorem s_itimesR1 (q N : Nat) (xs : List Value) (n : Nat) (ma mb : List Nat) (hxs0 : xs[q + 1]? = some (.int .i64 n)) (hxs : ∀ i, i < 8 → xs[q + 1 + 1 + i]? = some (.int .u8 ((ma.getD i 0 : Nat) : Int))) (hma : ma.length = 8) (hmb : mb.length = 8) (ha : ∀ j, ma.getD j 0 < 8) (hb : ∀ j, mb.getD j 0 < 8) (hn1 : 1 ≤ n) (hn : n ≤ 4) :
    Spec Try.prog n_i_timesPartition [.ptr 0 (q + 1), .ptr 1 0] [.pr T_i_Partition 9 N xs, .pc (pcl n mb) T_i_Partition] (.tup [pv n (nm (gT (gI (gd ma) (gd mb) n (2 * n)).2.1 n) n), vi ((lK (gI (gd ma) (gd mb) n (2 * n)).2.1 n n).length : Nat)]) [.pr T_i_Partition 9 N xs, .pc (pcl n mb) T_i_Partition] := by
  have hng := s_newG (3 * n) (by omega)
  have w3 : IntKind.i64.wrap (3 * (n : Int)) = ((3 * n : Nat) : Int) := wC (by omega) (by omega)
  have w2 : IntKind.i64.wrap (2 * (n : Int)) = ((2 * n : Nat) : Int) := wC (by omega) (by omega)
  refine SpecW.of_EV hf_i_timesPartition hc_i_timesPartition rfl rfl rfl fun w0 B ρ0 _ => ?_
  (repeat' (first | refine (s_nR1 q N xs n hxs0).read [0] rfl ⟨rfl, trivial⟩ ?_ | refine Exists.intro _ (And.intro w3 ?_) | refine Exists.intro _ (And.intro w2 ?_) | refine (hng).make [] rfl trivial ?_ | refine Exists.intro [Value.int .i64 (n : Int)] (And.intro ⟨leR rfl, rfl⟩ ?_) | refine Exists.intro [V.sl 4] (And.intro ⟨leR rfl, rfl⟩ ?_) | refine And.intro (neI rfl) ?_ | refine And.intro ⟨rfl, leR rfl, onesR rfl⟩ ?_ | refine And.intro ⟨rfl, leR rfl⟩ ?_ | refine draw_rule2 hfol (fun KK hKK => ?_) | refine hKK _ _ _ (by kernel_rfl) ?_ | refine region_rule (fun KK hKK => ?_) | refine hKK _ _ ?_ | refine And.intro (Eq.refl true) ?_ | refine Exists.intro _ (And.intro (wI (by omega)) ?_) | refine Exists.intro _ (And.intro (wU (by omega)) ?_) | refine Exists.intro _ (And.intro ⟨rfl, by omega⟩ ?_) | refine Exists.intro _ (And.intro rfl ?_) | refine And.intro rfl ?_ | refine And.intro ⟨rfl, rfl⟩ ?_ | ((refine And.intro (fun _ => ?_) (fun _ => ?_)) <;> try (exfalso; omega))))
  refine loop_rule (α := Nat) (fun i => i ≤ 2 * n)
    (fun i => [(0, .ptr 0 (q + 1)), (1, .ptr 1 0), (4, .ptr 2 0), (6, .ptr 3 0), (7, .ptr 4 0), (21, vi (2 * n : Nat)), (22, vi i)])
    (fun i => [.pr T_i_Partition 9 N xs, .pc (pcl n mb) T_i_Partition, .pc (pcl 0 (List.replicate 8 0)) T_i_Partition, .pc [.int .i64 n] T_int, .cc [.sl 5] T_i_groups, .pr T_int 1 (3 * n) (il (oI (gI (gd ma) (gd mb) n i).1) (3 * n))]) (fun i => 2 * n - i) 0 [0, 1, 2, 3, 5, 4]
    (by omega) ⟨⟨rfl, rfl, rfl, rfl, rfl, rfl, rfl, trivial⟩, ⟨rfl, rfl, rfl, rfl, rfl, rfl, trivial⟩, rfl⟩ ?_
  rintro i g hi
  by_cases h9 : i ≠ 2 * n
  · have hil : i < 2 * n := by omega
    (repeat' (first | refine And.intro (neI rfl) ?_ | refine And.intro ⟨rfl, leR rfl, onesR rfl⟩ ?_ | refine And.intro ⟨rfl, leR rfl⟩ ?_ | refine draw_rule2 hfol (fun KK hKK => ?_) | refine hKK _ _ _ (by kernel_rfl) ?_ | refine region_rule (fun KK hKK => ?_) | refine hKK _ _ ?_ | refine And.intro (Eq.refl true) ?_ | refine Exists.intro _ (And.intro (wI (by omega)) ?_) | refine Exists.intro _ (And.intro (wU (by omega)) ?_) | refine Exists.intro _ (And.intro ⟨rfl, by omega⟩ ?_) | refine Exists.intro _ (And.intro rfl ?_) | refine And.intro rfl ?_ | refine And.intro ⟨rfl, rfl⟩ ?_ | ((refine And.intro (fun _ => ?_) (fun _ => ?_)) <;> try (exfalso; omega))))
    refine loop_rule (α := Nat) (fun k => k ≤ i)
      (fun k => [(0, .ptr 0 (q + 1)), (1, .ptr 1 0), (4, .ptr 2 0), (6, .ptr 3 0), (7, .ptr 4 0), (8, vi i), (21, vi (2 * n : Nat)), (22, vi i), (25, vi i), (26, vi k)])
      (fun k => [.pr T_i_Partition 9 N xs, .pc (pcl n mb) T_i_Partition, .pc (pcl 0 (List.replicate 8 0)) T_i_Partition, .pc [.int .i64 n] T_int, .cc [.sl 5] T_i_groups, .pr T_int 1 (3 * n) (il (oI (gK (gd ma) (gd mb) n i k (gI (gd ma) (gd mb) n i)).1) (3 * n))]) (fun k => i - k) 0 [0, 1, 2, 3, 4, 5]
      (by omega) ⟨⟨rfl, rfl, rfl, rfl, rfl, rfl, rfl, rfl, rfl, rfl, trivial⟩, ⟨rfl, rfl, rfl, rfl, rfl, rfl, trivial⟩, rfl⟩ ?_
    rintro k g2 hk
    by_cases h8 : k = i
    · subst h8
      (repeat' (first | refine And.intro (neI rfl) ?_ | refine And.intro ⟨rfl, leR rfl, onesR rfl⟩ ?_ | refine And.intro ⟨rfl, leR rfl⟩ ?_ | refine draw_rule2 hfol (fun KK hKK => ?_) | refine hKK _ _ _ (by kernel_rfl) ?_ | refine region_rule (fun KK hKK => ?_) | refine hKK _ _ ?_ | refine And.intro (Eq.refl true) ?_ | refine Exists.intro _ (And.intro (wI (by omega)) ?_) | refine Exists.intro _ (And.intro (wU (by omega)) ?_) | refine Exists.intro _ (And.intro ⟨rfl, by omega⟩ ?_) | refine Exists.intro _ (And.intro rfl ?_) | refine And.intro rfl ?_ | refine And.intro ⟨rfl, rfl⟩ ?_ | ((refine And.intro (fun _ => ?_) (fun _ => ?_)) <;> try (exfalso; omega))))
      refine Exists.intro (k + 1) (Exists.intro [0, 1, 2, 3, 4, 5] (And.intro ⟨by omega, (by show 2 * n - (k + 1) < 2 * n - k; omega)⟩ ⟨⟨rfl, rfl, rfl, rfl, rfl, rfl, rfl, trivial⟩, ⟨rfl, rfl, rfl, rfl, rfl, rfl, trivial⟩, rfl⟩))
    have hkl : k < i := by omega
    have hu : UFs (3 * n) (gK (gd ma) (gd mb) n i k (gI (gd ma) (gd mb) n i)) := gK_uf (gI_uf i (by omega)) hil k (by omega)
    have hnx : gK (gd ma) (gd mb) n i (k + 1) (gI (gd ma) (gd mb) n i) = g1 (gd mb) n i k (g1 (gd ma) 0 i k (gK (gd ma) (gd mb) n i k (gI (gd ma) (gd mb) n i))) := rfl
    generalize gK (gd ma) (gd mb) n i k (gI (gd ma) (gd mb) n i) = s at hu hnx ⊢
    have v1 : IntKind.i64.wrap ((n : Int) + (i : Int)) = ((n + i : Nat) : Int) := wC (by omega) (by omega)
    have v2 : IntKind.i64.wrap ((n : Int) + (k : Int)) = ((n + k : Nat) : Int) := wC (by omega) (by omega)
    rw [g1a] at hnx
    by_cases hA : ma.getD i 0 = ma.getD k 0
    · rw [if_pos (show gd ma i = gd ma k from hA)] at hnx
      have j1 := s_gjoin hu (by omega) i k (by omega) (by omega)
      have hu1 : UFs (3 * n) (jn s i k) := UF.join hu (by omega) (by omega)
      by_cases hB : mb.getD i 0 = mb.getD k 0
      · rw [show g1 (gd mb) n i k (jn s i k) = jn (jn s i k) (n + i) (n + k) from if_pos hB] at hnx
        have j2 := s_gjoin hu1 (by omega) (n + i) (n + k) (by omega) (by omega)
        (repeat' (first | refine Exists.intro _ (And.intro v1 ?_) | refine Exists.intro _ (And.intro v2 ?_) | refine Exists.intro _ (And.intro (hxs i (by omega)) ?_) | refine Exists.intro _ (And.intro (hxs k (by omega)) ?_) | refine Exists.intro _ (And.intro (pcl_at (m := mb) (i := i) (by omega)) ?_) | refine Exists.intro _ (And.intro (pcl_at (m := mb) (i := k) (by omega)) ?_) | refine (j1).make [5] rfl ⟨rfl, trivial⟩ ?_ | refine (j2).make [5] rfl ⟨rfl, trivial⟩ ?_ | refine And.intro (neI rfl) ?_ | refine And.intro ⟨rfl, leR rfl, onesR rfl⟩ ?_ | refine And.intro ⟨rfl, leR rfl⟩ ?_ | refine draw_rule2 hfol (fun KK hKK => ?_) | refine hKK _ _ _ (by kernel_rfl) ?_ | refine region_rule (fun KK hKK => ?_) | refine hKK _ _ ?_ | refine And.intro (Eq.refl true) ?_ | refine Exists.intro _ (And.intro (wI (by omega)) ?_) | refine Exists.intro _ (And.intro (wU (by omega)) ?_) | refine Exists.intro _ (And.intro ⟨rfl, by omega⟩ ?_) | refine Exists.intro _ (And.intro rfl ?_) | refine And.intro rfl ?_ | refine And.intro ⟨rfl, rfl⟩ ?_ | ((refine And.intro (fun _ => ?_) (fun _ => ?_)) <;> try (exfalso; omega))))
        all_goals refine Exists.intro (k + 1) (Exists.intro [0, 1, 2, 3, 4, 5] (And.intro ⟨by omega, (by show i - (k + 1) < i - k; omega)⟩ ⟨⟨rfl, rfl, rfl, rfl, rfl, rfl, rfl, rfl, rfl, rfl, trivial⟩, ⟨rfl, rfl, rfl, rfl, rfl, by rw [hnx]; rfl, trivial⟩, rfl⟩))
      · rw [show g1 (gd mb) n i k (jn s i k) = (jn s i k) from if_neg hB] at hnx
        (repeat' (first | refine Exists.intro _ (And.intro v1 ?_) | refine Exists.intro _ (And.intro v2 ?_) | refine Exists.intro _ (And.intro (hxs i (by omega)) ?_) | refine Exists.intro _ (And.intro (hxs k (by omega)) ?_) | refine Exists.intro _ (And.intro (pcl_at (m := mb) (i := i) (by omega)) ?_) | refine Exists.intro _ (And.intro (pcl_at (m := mb) (i := k) (by omega)) ?_) | refine (j1).make [5] rfl ⟨rfl, trivial⟩ ?_ | refine And.intro (neI rfl) ?_ | refine And.intro ⟨rfl, leR rfl, onesR rfl⟩ ?_ | refine And.intro ⟨rfl, leR rfl⟩ ?_ | refine draw_rule2 hfol (fun KK hKK => ?_) | refine hKK _ _ _ (by kernel_rfl) ?_ | refine region_rule (fun KK hKK => ?_) | refine hKK _ _ ?_ | refine And.intro (Eq.refl true) ?_ | refine Exists.intro _ (And.intro (wI (by omega)) ?_) | refine Exists.intro _ (And.intro (wU (by omega)) ?_) | refine Exists.intro _ (And.intro ⟨rfl, by omega⟩ ?_) | refine Exists.intro _ (And.intro rfl ?_) | refine And.intro rfl ?_ | refine And.intro ⟨rfl, rfl⟩ ?_ | ((refine And.intro (fun _ => ?_) (fun _ => ?_)) <;> try (exfalso; omega))))
        all_goals refine Exists.intro (k + 1) (Exists.intro [0, 1, 2, 3, 4, 5] (And.intro ⟨by omega, (by show i - (k + 1) < i - k; omega)⟩ ⟨⟨rfl, rfl, rfl, rfl, rfl, rfl, rfl, rfl, rfl, rfl, trivial⟩, ⟨rfl, rfl, rfl, rfl, rfl, by rw [hnx]; rfl, trivial⟩, rfl⟩))
    · rw [if_neg (show ¬ gd ma i = gd ma k from hA)] at hnx
      by_cases hB : mb.getD i 0 = mb.getD k 0
      · rw [show g1 (gd mb) n i k s = jn s (n + i) (n + k) from if_pos hB] at hnx
        have j2 := s_gjoin hu (by omega) (n + i) (n + k) (by omega) (by omega)
        (repeat' (first | refine Exists.intro _ (And.intro v1 ?_) | refine Exists.intro _ (And.intro v2 ?_) | refine Exists.intro _ (And.intro (hxs i (by omega)) ?_) | refine Exists.intro _ (And.intro (hxs k (by omega)) ?_) | refine Exists.intro _ (And.intro (pcl_at (m := mb) (i := i) (by omega)) ?_) | refine Exists.intro _ (And.intro (pcl_at (m := mb) (i := k) (by omega)) ?_) | refine (j2).make [5] rfl ⟨rfl, trivial⟩ ?_ | refine And.intro (neI rfl) ?_ | refine And.intro ⟨rfl, leR rfl, onesR rfl⟩ ?_ | refine And.intro ⟨rfl, leR rfl⟩ ?_ | refine draw_rule2 hfol (fun KK hKK => ?_) | refine hKK _ _ _ (by kernel_rfl) ?_ | refine region_rule (fun KK hKK => ?_) | refine hKK _ _ ?_ | refine And.intro (Eq.refl true) ?_ | refine Exists.intro _ (And.intro (wI (by omega)) ?_) | refine Exists.intro _ (And.intro (wU (by omega)) ?_) | refine Exists.intro _ (And.intro ⟨rfl, by omega⟩ ?_) | refine Exists.intro _ (And.intro rfl ?_) | refine And.intro rfl ?_ | refine And.intro ⟨rfl, rfl⟩ ?_ | ((refine And.intro (fun _ => ?_) (fun _ => ?_)) <;> try (exfalso; omega))))
        all_goals refine Exists.intro (k + 1) (Exists.intro [0, 1, 2, 3, 4, 5] (And.intro ⟨by omega, (by show i - (k + 1) < i - k; omega)⟩ ⟨⟨rfl, rfl, rfl, rfl, rfl, rfl, rfl, rfl, rfl, rfl, trivial⟩, ⟨rfl, rfl, rfl, rfl, rfl, by rw [hnx]; rfl, trivial⟩, rfl⟩))
      · rw [show g1 (gd mb) n i k s = s from if_neg hB] at hnx
        (repeat' (first | refine Exists.intro _ (And.intro v1 ?_) | refine Exists.intro _ (And.intro v2 ?_) | refine Exists.intro _ (And.intro (hxs i (by omega)) ?_) | refine Exists.intro _ (And.intro (hxs k (by omega)) ?_) | refine Exists.intro _ (And.intro (pcl_at (m := mb) (i := i) (by omega)) ?_) | refine Exists.intro _ (And.intro (pcl_at (m := mb) (i := k) (by omega)) ?_) | refine And.intro (neI rfl) ?_ | refine And.intro ⟨rfl, leR rfl, onesR rfl⟩ ?_ | refine And.intro ⟨rfl, leR rfl⟩ ?_ | refine draw_rule2 hfol (fun KK hKK => ?_) | refine hKK _ _ _ (by kernel_rfl) ?_ | refine region_rule (fun KK hKK => ?_) | refine hKK _ _ ?_ | refine And.intro (Eq.refl true) ?_ | refine Exists.intro _ (And.intro (wI (by omega)) ?_) | refine Exists.intro _ (And.intro (wU (by omega)) ?_) | refine Exists.intro _ (And.intro ⟨rfl, by omega⟩ ?_) | refine Exists.intro _ (And.intro rfl ?_) | refine And.intro rfl ?_ | refine And.intro ⟨rfl, rfl⟩ ?_ | ((refine And.intro (fun _ => ?_) (fun _ => ?_)) <;> try (exfalso; omega))))
        all_goals refine Exists.intro (k + 1) (Exists.intro [0, 1, 2, 3, 4, 5] (And.intro ⟨by omega, (by show i - (k + 1) < i - k; omega)⟩ ⟨⟨rfl, rfl, rfl, rfl, rfl, rfl, rfl, rfl, rfl, rfl, trivial⟩, ⟨rfl, rfl, rfl, rfl, rfl, by rw [hnx]; rfl, trivial⟩, rfl⟩))
  have h9 : i = 2 * n := by omega
  subst h9
  have hu : UFs (3 * n) (gI (gd ma) (gd mb) n (2 * n)) := gI_uf (2 * n) (Nat.le_refl _)
  generalize gI (gd ma) (gd mb) n (2 * n) = s at hu ⊢
  (repeat' (first | refine makeMap_i rfl ?_ | refine And.intro (neI rfl) ?_ | refine And.intro ⟨rfl, leR rfl, onesR rfl⟩ ?_ | refine And.intro ⟨rfl, leR rfl⟩ ?_ | refine draw_rule2 hfol (fun KK hKK => ?_) | refine hKK _ _ _ (by kernel_rfl) ?_ | refine region_rule (fun KK hKK => ?_) | refine hKK _ _ ?_ | refine And.intro (Eq.refl true) ?_ | refine Exists.intro _ (And.intro (wI (by omega)) ?_) | refine Exists.intro _ (And.intro (wU (by omega)) ?_) | refine Exists.intro _ (And.intro ⟨rfl, by omega⟩ ?_) | refine Exists.intro _ (And.intro rfl ?_) | refine And.intro rfl ?_ | refine And.intro ⟨rfl, rfl⟩ ?_ | ((refine And.intro (fun _ => ?_) (fun _ => ?_)) <;> try (exfalso; omega))))
  refine loop_rule (α := Nat) (fun i => i ≤ n)
    (fun i => [(4, .ptr 2 0), (6, .ptr 3 0), (7, .ptr 4 0), (10, .mp 6), (11, .mp 7), (71, vi n), (72, vi i)])
    (fun i => [.pr T_i_Partition 9 N xs, .pc (pcl n mb) T_i_Partition, .pc (pcl 0 (List.replicate 8 0)) T_i_Partition, .pc [.int .i64 n] T_int, .cc [.sl 5] T_i_groups, .pr T_int 1 (3 * n) (il (oI s.1) (3 * n)), .mo (entT (oK s.2.1 n i)), .mo (entT [])]) (fun i => n - i) 0 [0, 1, 2, 3, 4, 5, 6, 7]
    (by omega) ⟨⟨rfl, rfl, rfl, rfl, rfl, rfl, rfl, trivial⟩, ⟨rfl, rfl, rfl, rfl, rfl, rfl, rfl, rfl, trivial⟩, goodB_via (by simp [idsO, O.ids, entT_ids]; rfl) rfl⟩ ?_
  rintro i g3 hi
  by_cases h8 : i ≠ n
  · have hil : i < n := by omega
    have f1 := s_of hu (by omega) i (by omega)
    have f2 := s_of hu (by omega) (2 * n + i) (by omega)
    have v1 : IntKind.i64.wrap (((2 * n : Nat) : Int) + (i : Int)) = ((2 * n + i : Nat) : Int) := wC (by omega) (by omega)
    have hset : setI (rI s.2.1 (2 * n + i)) (.raw (.bool true)) (entT (addk (oK s.2.1 n i) (rI s.2.1 i))) = entT (oK s.2.1 n (i + 1)) := entT_set
    have hfi2 := entT_find (k := rI s.2.1 (2 * n + i)) (ks := addk (oK s.2.1 n i) (rI s.2.1 i))
    have hfi := entT_find (k := rI s.2.1 i) (ks := oK s.2.1 n i)
    by_cases hm : rI s.2.1 i ∈ oK s.2.1 n i
    · rw [if_pos hm] at hfi
      rw [show addk (oK s.2.1 n i) (rI s.2.1 i) = oK s.2.1 n i from if_pos hm] at hset hfi2
      (repeat' (first | refine (f1).read [5] rfl ⟨rfl, trivial⟩ ?_ | refine (f2).read [5] rfl ⟨rfl, trivial⟩ ?_ | refine Exists.intro _ (And.intro w2 ?_) | refine Exists.intro _ (And.intro v1 ?_) | refine entryOld rfl rfl rfl rfl rfl rfl hfi rfl ?_ | refine estore_to rfl rfl rfl rfl rfl rfl (posI_lt hm) entT_mod ?_ | refine upd_to rfl rfl rfl rfl rfl rfl rfl rfl hfi2 hset ?_ | refine And.intro (neI rfl) ?_ | refine And.intro ⟨rfl, leR rfl, onesR rfl⟩ ?_ | refine And.intro ⟨rfl, leR rfl⟩ ?_ | refine draw_rule2 hfol (fun KK hKK => ?_) | refine hKK _ _ _ (by kernel_rfl) ?_ | refine region_rule (fun KK hKK => ?_) | refine hKK _ _ ?_ | refine And.intro (Eq.refl true) ?_ | refine Exists.intro _ (And.intro (wI (by omega)) ?_) | refine Exists.intro _ (And.intro (wU (by omega)) ?_) | refine Exists.intro _ (And.intro ⟨rfl, by omega⟩ ?_) | refine Exists.intro _ (And.intro rfl ?_) | refine And.intro rfl ?_ | refine And.intro ⟨rfl, rfl⟩ ?_ | ((refine And.intro (fun _ => ?_) (fun _ => ?_)) <;> try (exfalso; omega))))
      refine Exists.intro (i + 1) (Exists.intro [0, 1, 2, 3, 4, 5, 6, 7] (And.intro ⟨by omega, (by show n - (i + 1) < n - i; omega)⟩ ⟨⟨rfl, rfl, rfl, rfl, rfl, rfl, rfl, trivial⟩, ⟨rfl, rfl, rfl, rfl, rfl, rfl, congrArg some entT_mo, congrArg some entT_mo, trivial⟩, goodB_via (by simp [idsO, O.ids, entT_ids]; rfl) rfl⟩))
    · rw [if_neg hm] at hfi
      rw [show addk (oK s.2.1 n i) (rI s.2.1 i) = oK s.2.1 n i ++ [rI s.2.1 i] from if_neg hm] at hset hfi2
      (repeat' (first | refine (f1).read [5] rfl ⟨rfl, trivial⟩ ?_ | refine (f2).read [5] rfl ⟨rfl, trivial⟩ ?_ | refine Exists.intro _ (And.intro w2 ?_) | refine Exists.intro _ (And.intro v1 ?_) | refine entryNew rfl rfl rfl rfl rfl rfl rfl rfl hfi ?_ | refine estore_to rfl rfl rfl rfl rfl rfl (by simp) entT_new ?_ | refine upd_to rfl rfl rfl rfl rfl rfl rfl rfl hfi2 hset ?_ | refine And.intro (neI rfl) ?_ | refine And.intro ⟨rfl, leR rfl, onesR rfl⟩ ?_ | refine And.intro ⟨rfl, leR rfl⟩ ?_ | refine draw_rule2 hfol (fun KK hKK => ?_) | refine hKK _ _ _ (by kernel_rfl) ?_ | refine region_rule (fun KK hKK => ?_) | refine hKK _ _ ?_ | refine And.intro (Eq.refl true) ?_ | refine Exists.intro _ (And.intro (wI (by omega)) ?_) | refine Exists.intro _ (And.intro (wU (by omega)) ?_) | refine Exists.intro _ (And.intro ⟨rfl, by omega⟩ ?_) | refine Exists.intro _ (And.intro rfl ?_) | refine And.intro rfl ?_ | refine And.intro ⟨rfl, rfl⟩ ?_ | ((refine And.intro (fun _ => ?_) (fun _ => ?_)) <;> try (exfalso; omega))))
      refine Exists.intro (i + 1) (Exists.intro [0, 1, 2, 3, 4, 5, 6, 7] (And.intro ⟨by omega, (by show n - (i + 1) < n - i; omega)⟩ ⟨⟨rfl, rfl, rfl, rfl, rfl, rfl, rfl, trivial⟩, ⟨rfl, rfl, rfl, rfl, rfl, rfl, congrArg some entT_mo, congrArg some entT_mo, trivial⟩, goodB_via (by simp [idsO, O.ids, entT_ids]; rfl) rfl⟩))
  have h8 : i = n := by omega
  subst h8
  (repeat' (first | refine And.intro (neI rfl) ?_ | refine And.intro ⟨rfl, leR rfl, onesR rfl⟩ ?_ | refine And.intro ⟨rfl, leR rfl⟩ ?_ | refine draw_rule2 hfol (fun KK hKK => ?_) | refine hKK _ _ _ (by kernel_rfl) ?_ | refine region_rule (fun KK hKK => ?_) | refine hKK _ _ ?_ | refine And.intro (Eq.refl true) ?_ | refine Exists.intro _ (And.intro (wI (by omega)) ?_) | refine Exists.intro _ (And.intro (wU (by omega)) ?_) | refine Exists.intro _ (And.intro ⟨rfl, by omega⟩ ?_) | refine Exists.intro _ (And.intro rfl ?_) | refine And.intro rfl ?_ | refine And.intro ⟨rfl, rfl⟩ ?_ | ((refine And.intro (fun _ => ?_) (fun _ => ?_)) <;> try (exfalso; omega))))
  refine loop_rule (α := Nat) (fun x => x ≤ i)
    (fun x => [(4, .ptr 2 0), (6, .ptr 3 0), (7, .ptr 4 0), (10, .mp 6), (11, .mp 7), (89, vi i), (90, vi x)])
    (fun x => [.pr T_i_Partition 9 N xs, .pc (pcl i mb) T_i_Partition, .pc (pcl 0 (List.replicate 8 0)) T_i_Partition, .pc [.int .i64 i] T_int, .cc [.sl 5] T_i_groups, .pr T_int 1 (3 * i) (il (oI s.1) (3 * i)), .mo (entT (oK s.2.1 i i)), .mo (entT (lK s.2.1 i x))]) (fun x => i - x) 0 [0, 1, 2, 3, 4, 5, 6, 7]
    (by omega) ⟨⟨rfl, rfl, rfl, rfl, rfl, rfl, rfl, trivial⟩, ⟨rfl, rfl, rfl, rfl, rfl, rfl, congrArg some entT_mo, congrArg some entT_mo, trivial⟩, goodB_via (by simp [idsO, O.ids, entT_ids]; rfl) rfl⟩ ?_
  rintro x g4 hx
  by_cases h7 : x ≠ i
  · have hxl : x < i := by omega
    have f1 := s_of hu (by omega) (i + x) (by omega)
    have v1 : IntKind.i64.wrap ((i : Int) + (x : Int)) = ((i + x : Nat) : Int) := wC (by omega) (by omega)
    have hfi := entT_find (k := rI s.2.1 (i + x)) (ks := oK s.2.1 i i)
    have hfl := entT_find (k := rI s.2.1 (i + x)) (ks := lK s.2.1 i x)
    by_cases hm : rI s.2.1 (i + x) ∈ oK s.2.1 i i
    · have hnx : lK s.2.1 i (x + 1) = lK s.2.1 i x := if_pos hm
      rw [if_pos hm] at hfi
      (repeat' (first | refine (f1).read [5] rfl ⟨rfl, trivial⟩ ?_ | refine Exists.intro _ (And.intro v1 ?_) | refine look_i rfl rfl rfl rfl rfl rfl rfl rfl hfi ?_ | refine And.intro (neI rfl) ?_ | refine And.intro ⟨rfl, leR rfl, onesR rfl⟩ ?_ | refine And.intro ⟨rfl, leR rfl⟩ ?_ | refine draw_rule2 hfol (fun KK hKK => ?_) | refine hKK _ _ _ (by kernel_rfl) ?_ | refine region_rule (fun KK hKK => ?_) | refine hKK _ _ ?_ | refine And.intro (Eq.refl true) ?_ | refine Exists.intro _ (And.intro (wI (by omega)) ?_) | refine Exists.intro _ (And.intro (wU (by omega)) ?_) | refine Exists.intro _ (And.intro ⟨rfl, by omega⟩ ?_) | refine Exists.intro _ (And.intro rfl ?_) | refine And.intro rfl ?_ | refine And.intro ⟨rfl, rfl⟩ ?_ | ((refine And.intro (fun _ => ?_) (fun _ => ?_)) <;> try (exfalso; omega))))
      refine Exists.intro (x + 1) (Exists.intro [0, 1, 2, 3, 4, 5, 6, 7] (And.intro ⟨by omega, (by show i - (x + 1) < i - x; omega)⟩ ⟨⟨rfl, rfl, rfl, rfl, rfl, rfl, rfl, trivial⟩, ⟨rfl, rfl, rfl, rfl, rfl, rfl, congrArg some entT_mo, by rw [hnx]; exact congrArg some entT_mo, trivial⟩, goodB_via (by simp [idsO, O.ids, entT_ids]; rfl) rfl⟩))
    · have hnx : lK s.2.1 i (x + 1) = addk (lK s.2.1 i x) (rI s.2.1 (i + x)) := if_neg hm
      have hset : setI (rI s.2.1 (i + x)) (.raw (.bool true)) (entT (lK s.2.1 i x)) = entT (lK s.2.1 i (x + 1)) := by rw [hnx]; exact entT_set
      rw [if_neg hm] at hfi
      (repeat' (first | refine (f1).read [5] rfl ⟨rfl, trivial⟩ ?_ | refine Exists.intro _ (And.intro v1 ?_) | refine look_i rfl rfl rfl rfl rfl rfl rfl rfl hfi ?_ | refine upd_to rfl rfl rfl rfl rfl rfl rfl rfl hfl hset ?_ | refine And.intro (neI rfl) ?_ | refine And.intro ⟨rfl, leR rfl, onesR rfl⟩ ?_ | refine And.intro ⟨rfl, leR rfl⟩ ?_ | refine draw_rule2 hfol (fun KK hKK => ?_) | refine hKK _ _ _ (by kernel_rfl) ?_ | refine region_rule (fun KK hKK => ?_) | refine hKK _ _ ?_ | refine And.intro (Eq.refl true) ?_ | refine Exists.intro _ (And.intro (wI (by omega)) ?_) | refine Exists.intro _ (And.intro (wU (by omega)) ?_) | refine Exists.intro _ (And.intro ⟨rfl, by omega⟩ ?_) | refine Exists.intro _ (And.intro rfl ?_) | refine And.intro rfl ?_ | refine And.intro ⟨rfl, rfl⟩ ?_ | ((refine And.intro (fun _ => ?_) (fun _ => ?_)) <;> try (exfalso; omega))))
      refine Exists.intro (x + 1) (Exists.intro [0, 1, 2, 3, 4, 5, 6, 7] (And.intro ⟨by omega, (by show i - (x + 1) < i - x; omega)⟩ ⟨⟨rfl, rfl, rfl, rfl, rfl, rfl, rfl, trivial⟩, ⟨rfl, rfl, rfl, rfl, rfl, rfl, congrArg some entT_mo, congrArg some entT_mo, trivial⟩, goodB_via (by simp [idsO, O.ids, entT_ids]; rfl) rfl⟩))
  have h7 : x = i := by omega
  subst h7
  have hnm := s_named_times x s.1 s.2.1 s.2.2 hu hn1 hn
  (repeat' (first | refine (hnm).read [4,3,5] rfl ⟨rfl, rfl, rfl, trivial⟩ ?_ | refine Exists.intro (pcl (x : Int) (nm (gT s.2.1 x) x)) (And.intro ⟨pcl_len nm_len, pcl_all nm_len⟩ ?_) | refine And.intro ⟨pcl_len nm_len, leR rfl, pcl_ones⟩ ?_ | refine Exists.intro (pcl (x : Int) (nm (gT s.2.1 x) x)) (And.intro ⟨leR rfl, spl0 (leR rfl)⟩ ?_) | refine And.intro (neI rfl) ?_ | refine And.intro ⟨rfl, leR rfl, onesR rfl⟩ ?_ | refine And.intro ⟨rfl, leR rfl⟩ ?_ | refine draw_rule2 hfol (fun KK hKK => ?_) | refine hKK _ _ _ (by kernel_rfl) ?_ | refine region_rule (fun KK hKK => ?_) | refine hKK _ _ ?_ | refine And.intro (Eq.refl true) ?_ | refine Exists.intro _ (And.intro (wI (by omega)) ?_) | refine Exists.intro _ (And.intro (wU (by omega)) ?_) | refine Exists.intro _ (And.intro ⟨rfl, by omega⟩ ?_) | refine Exists.intro _ (And.intro rfl ?_) | refine And.intro rfl ?_ | refine And.intro ⟨rfl, rfl⟩ ?_ | ((refine And.intro (fun _ => ?_) (fun _ => ?_)) <;> try (exfalso; omega))))
  exact Exists.intro [0, 1] (And.intro (by first | rfl | (simp only [entT_len]; rfl)) (And.intro ⟨rfl, rfl, trivial⟩ rfl))
end Go.Proofs.Ytpangmameocfmaa.VE.P
