/- Contracts of functions of the given program, for all arguments that the contract names; see each theorem. -/
import Derived.Test.YtpangmameocfmaaT33
set_option linter.all false
namespace Go.Proofs.Ytpangmameocfmaa.VE.P
open Go
set_option maxHeartbeats 800000
set_option maxRecDepth 100000

theorem mul_nm {n : Nat} {a b : Nat → Nat} (ha : ∀ i, i < 2 * n → a i < 8) : nm (gT (gI a b n (2 * n)).2.1 n) n = nm (gM a b n) n := by
  refine nm_congr fun i j hi hj => ?_
  have hp : ∀ i, i < 2 * n → i + i / n * n < 3 * n ∧ lam a b n (i + i / n * n) = sL a b n i := fun i hi => by
    by_cases h1 : i < n
    · rw [Nat.div_eq_of_lt h1, Nat.zero_mul, Nat.add_zero]
      exact ⟨by omega, by rw [show sL a b n i = a i from if_pos h1, show lam a b n i = a i from if_pos (by omega)]⟩
    · rw [show i / n = 1 from by rw [Nat.div_eq_iff (by omega)]; omega, Nat.one_mul]
      exact ⟨by omega, by rw [show sL a b n i = 8 + b i from if_neg h1, show lam a b n (i + n) = 8 + b (i + n - n) from if_neg (by omega), Nat.add_sub_cancel]⟩
  obtain ⟨p1, p2⟩ := hp i hi
  obtain ⟨q1, q2⟩ := hp j hj
  have := mul_ker (b := b) ha p1 q1
  rw [p2, q2] at this
  unfold gT gM
  omega
abbrev mV (p : Int × List Nat × Int × Int) : V := .tup [pv p.1 p.2.1, vi p.2.2.1, vi p.2.2.2]
def mulR (sa : Int) (a : List Nat) (sb : Int) (b : List Nat) : Int × List Nat × Int × Int :=
  if isPi sa a = true ∧ isPi sb b = true then (if sa = sb then (sa, nm (gM (gd a) (gd b) sa.toNat) sa.toNat, (((ctI (gd a) (gd b) sa.toNat sa.toNat).2 : Nat) : Int), 0) else (0, List.replicate 8 0, 0, 2)) else (0, List.replicate 8 0, 0, 1)
theorem mulR_len (sa : Int) (a : List Nat) (sb : Int) (b : List Nat) : (mulR sa a sb b).2.1.length = 8 := by
  unfold mulR; split
  · split
    · exact nm_len
    · simp
  · simp
theorem s_pair (sa : Int) (a : List Nat) (ha : a.length = 8) (hab : ∀ x ∈ a, x < 256) (sb : Int) (b : List Nat) (hb : b.length = 8) (hbb : ∀ x ∈ b, x < 256) : Spec Try.prog n_s_l07Pair [pv sa a, pv sb b] [] (vi (if isPi sa a = true ∧ isPi sb b = true then (if sa = sb then 0 else 2) else 1)) [] := by
  have h1 := s_is sa a ha hab
  have h2 := s_is sb b hb hbb
  rw [isP_eq _ a ha] at h1
  rw [isP_eq _ b hb] at h2
  refine SpecW.of_EV hf_s_l07Pair hc_s_l07Pair rfl rfl rfl fun w0 B ρ0 _ => ?_
  cases ea : isPi sa a with
  | false =>
    rw [ea] at h1
    rw [if_neg (by simp)]
    (repeat' (first | refine (h1).pure rfl ?_ | refine (h2).pure rfl ?_ | refine Exists.intro (pcl sa a) (And.intro ⟨pcl_len ha, pcl_all ha⟩ ?_) | refine Exists.intro (pcl sb b) (And.intro ⟨pcl_len hb, pcl_all hb⟩ ?_) | refine And.intro (neI rfl) ?_ | refine And.intro ⟨rfl, leR rfl, onesR rfl⟩ ?_ | refine And.intro ⟨rfl, leR rfl⟩ ?_ | refine draw_rule2 hfol (fun KK hKK => ?_) | refine hKK _ _ _ (by kernel_rfl) ?_ | refine region_rule (fun KK hKK => ?_) | refine hKK _ _ ?_ | refine And.intro (Eq.refl true) ?_ | refine Exists.intro _ (And.intro (wI (by omega)) ?_) | refine Exists.intro _ (And.intro (wU (by omega)) ?_) | refine Exists.intro _ (And.intro ⟨rfl, by omega⟩ ?_) | refine Exists.intro _ (And.intro rfl ?_) | refine And.intro rfl ?_ | refine And.intro ⟨rfl, rfl⟩ ?_ | ((refine And.intro (fun _ => ?_) (fun _ => ?_)) <;> try (exfalso; omega))))
    exact Exists.intro [] (And.intro (rfl) (And.intro trivial rfl))
  | true =>
    rw [ea] at h1
    cases eb : isPi sb b with
    | false =>
      rw [eb] at h2
      rw [if_neg (by simp)]
      (repeat' (first | refine (h1).pure rfl ?_ | refine (h2).pure rfl ?_ | refine Exists.intro (pcl sa a) (And.intro ⟨pcl_len ha, pcl_all ha⟩ ?_) | refine Exists.intro (pcl sb b) (And.intro ⟨pcl_len hb, pcl_all hb⟩ ?_) | refine And.intro (neI rfl) ?_ | refine And.intro ⟨rfl, leR rfl, onesR rfl⟩ ?_ | refine And.intro ⟨rfl, leR rfl⟩ ?_ | refine draw_rule2 hfol (fun KK hKK => ?_) | refine hKK _ _ _ (by kernel_rfl) ?_ | refine region_rule (fun KK hKK => ?_) | refine hKK _ _ ?_ | refine And.intro (Eq.refl true) ?_ | refine Exists.intro _ (And.intro (wI (by omega)) ?_) | refine Exists.intro _ (And.intro (wU (by omega)) ?_) | refine Exists.intro _ (And.intro ⟨rfl, by omega⟩ ?_) | refine Exists.intro _ (And.intro rfl ?_) | refine And.intro rfl ?_ | refine And.intro ⟨rfl, rfl⟩ ?_ | ((refine And.intro (fun _ => ?_) (fun _ => ?_)) <;> try (exfalso; omega))))
      exact Exists.intro [] (And.intro (rfl) (And.intro trivial rfl))
    | true =>
      rw [eb] at h2
      rw [if_pos ⟨rfl, rfl⟩]
      by_cases h : sa = sb
      · rw [if_pos h]
        (repeat' (first | refine (h1).pure rfl ?_ | refine (h2).pure rfl ?_ | refine Exists.intro (pcl sa a) (And.intro ⟨pcl_len ha, pcl_all ha⟩ ?_) | refine Exists.intro (pcl sb b) (And.intro ⟨pcl_len hb, pcl_all hb⟩ ?_) | refine And.intro (neI rfl) ?_ | refine And.intro ⟨rfl, leR rfl, onesR rfl⟩ ?_ | refine And.intro ⟨rfl, leR rfl⟩ ?_ | refine draw_rule2 hfol (fun KK hKK => ?_) | refine hKK _ _ _ (by kernel_rfl) ?_ | refine region_rule (fun KK hKK => ?_) | refine hKK _ _ ?_ | refine And.intro (Eq.refl true) ?_ | refine Exists.intro _ (And.intro (wI (by omega)) ?_) | refine Exists.intro _ (And.intro (wU (by omega)) ?_) | refine Exists.intro _ (And.intro ⟨rfl, by omega⟩ ?_) | refine Exists.intro _ (And.intro rfl ?_) | refine And.intro rfl ?_ | refine And.intro ⟨rfl, rfl⟩ ?_ | ((refine And.intro (fun _ => ?_) (fun _ => ?_)) <;> try (exfalso; omega))))
        exact Exists.intro [] (And.intro (rfl) (And.intro trivial rfl))
      · rw [if_neg h]
        (repeat' (first | refine (h1).pure rfl ?_ | refine (h2).pure rfl ?_ | refine Exists.intro (pcl sa a) (And.intro ⟨pcl_len ha, pcl_all ha⟩ ?_) | refine Exists.intro (pcl sb b) (And.intro ⟨pcl_len hb, pcl_all hb⟩ ?_) | refine And.intro (neI rfl) ?_ | refine And.intro ⟨rfl, leR rfl, onesR rfl⟩ ?_ | refine And.intro ⟨rfl, leR rfl⟩ ?_ | refine draw_rule2 hfol (fun KK hKK => ?_) | refine hKK _ _ _ (by kernel_rfl) ?_ | refine region_rule (fun KK hKK => ?_) | refine hKK _ _ ?_ | refine And.intro (Eq.refl true) ?_ | refine Exists.intro _ (And.intro (wI (by omega)) ?_) | refine Exists.intro _ (And.intro (wU (by omega)) ?_) | refine Exists.intro _ (And.intro ⟨rfl, by omega⟩ ?_) | refine Exists.intro _ (And.intro rfl ?_) | refine And.intro rfl ?_ | refine And.intro ⟨rfl, rfl⟩ ?_ | ((refine And.intro (fun _ => ?_) (fun _ => ?_)) <;> try (exfalso; omega))))
        exact Exists.intro [] (And.intro (rfl) (And.intro trivial rfl))
theorem s_sMul (sa : Int) (a : List Nat) (ha : a.length = 8) (hab : ∀ x ∈ a, x < 256) (sb : Int) (b : List Nat) (hb : b.length = 8) (hbb : ∀ x ∈ b, x < 256) : Spec Try.prog n_s_MultiplyPartitions [pv sa a, pv sb b] [] (mV (mulR sa a sb b)) [] := by
  have hp := s_pair sa a ha hab sb b hb hbb
  refine SpecW.of_EV hf_s_MultiplyPartitions hc_s_MultiplyPartitions rfl rfl rfl fun w0 B ρ0 _ => ?_
  by_cases hv : isPi sa a = true ∧ isPi sb b = true
  · rw [if_pos hv] at hp
    by_cases h : sa = sb
    · subst h
      have hr : mulR sa a sa b = (sa, nm (gM (gd a) (gd b) sa.toNat) sa.toNat, (((ctI (gd a) (gd b) sa.toNat sa.toNat).2 : Nat) : Int), 0) := by unfold mulR; rw [if_pos hv, if_pos rfl]
      rw [if_pos rfl] at hp
      rw [hr]
      obtain ⟨n, rfl, hn1, hn⟩ := isPi_size hv.1
      have ht := s_times n a b ha hb (isPi_lt hv.1) (isPi_lt hv.2) hn1 hn
      (repeat' (first | refine (hp).pure rfl ?_ | refine (ht).pure rfl ?_ | refine Exists.intro (pcl n a) (And.intro ⟨pcl_len ha, pcl_all ha⟩ ?_) | refine Exists.intro (pcl n b) (And.intro ⟨pcl_len hb, pcl_all hb⟩ ?_) | refine Exists.intro (pcl (n : Int) (nm (gM (gd a) (gd b) n) n)) (And.intro ⟨pcl_len nm_len, pcl_all nm_len⟩ ?_) | refine And.intro ⟨pcl_len nm_len, leR rfl, pcl_ones⟩ ?_ | refine Exists.intro (pcl (n : Int) (nm (gM (gd a) (gd b) n) n)) (And.intro ⟨leR rfl, spl0 (leR rfl)⟩ ?_) | refine Exists.intro (pcl 0 (List.replicate 8 0)) (And.intro ⟨leR rfl, rfl⟩ ?_) | refine Exists.intro (pcl 0 (List.replicate 8 0)) (And.intro ⟨rfl, rfl⟩ ?_) | refine And.intro (neI rfl) ?_ | refine And.intro ⟨rfl, leR rfl, onesR rfl⟩ ?_ | refine And.intro ⟨rfl, leR rfl⟩ ?_ | refine draw_rule2 hfol (fun KK hKK => ?_) | refine hKK _ _ _ (by kernel_rfl) ?_ | refine region_rule (fun KK hKK => ?_) | refine hKK _ _ ?_ | refine And.intro (Eq.refl true) ?_ | refine Exists.intro _ (And.intro (wI (by omega)) ?_) | refine Exists.intro _ (And.intro (wU (by omega)) ?_) | refine Exists.intro _ (And.intro ⟨rfl, by omega⟩ ?_) | refine Exists.intro _ (And.intro rfl ?_) | refine And.intro rfl ?_ | refine And.intro ⟨rfl, rfl⟩ ?_ | ((refine And.intro (fun _ => ?_) (fun _ => ?_)) <;> try (exfalso; omega))))
      exact Exists.intro [] (And.intro (rfl) (And.intro trivial rfl))
    · have hr : mulR sa a sb b = (0, List.replicate 8 0, 0, 2) := by unfold mulR; rw [if_pos hv, if_neg h]
      rw [if_neg h] at hp
      rw [hr]
      (repeat' (first | refine (hp).pure rfl ?_ | refine Exists.intro (pcl sa a) (And.intro ⟨pcl_len ha, pcl_all ha⟩ ?_) | refine Exists.intro (pcl sb b) (And.intro ⟨pcl_len hb, pcl_all hb⟩ ?_) | refine Exists.intro (pcl 0 (List.replicate 8 0)) (And.intro ⟨leR rfl, rfl⟩ ?_) | refine Exists.intro (pcl 0 (List.replicate 8 0)) (And.intro ⟨rfl, rfl⟩ ?_) | refine And.intro (neI rfl) ?_ | refine And.intro ⟨rfl, leR rfl, onesR rfl⟩ ?_ | refine And.intro ⟨rfl, leR rfl⟩ ?_ | refine draw_rule2 hfol (fun KK hKK => ?_) | refine hKK _ _ _ (by kernel_rfl) ?_ | refine region_rule (fun KK hKK => ?_) | refine hKK _ _ ?_ | refine And.intro (Eq.refl true) ?_ | refine Exists.intro _ (And.intro (wI (by omega)) ?_) | refine Exists.intro _ (And.intro (wU (by omega)) ?_) | refine Exists.intro _ (And.intro ⟨rfl, by omega⟩ ?_) | refine Exists.intro _ (And.intro rfl ?_) | refine And.intro rfl ?_ | refine And.intro ⟨rfl, rfl⟩ ?_ | ((refine And.intro (fun _ => ?_) (fun _ => ?_)) <;> try (exfalso; omega))))
      exact Exists.intro [] (And.intro (rfl) (And.intro trivial rfl))
  · have hr : mulR sa a sb b = (0, List.replicate 8 0, 0, 1) := by unfold mulR; rw [if_neg hv]
    rw [if_neg hv] at hp
    rw [hr]
    (repeat' (first | refine (hp).pure rfl ?_ | refine Exists.intro (pcl sa a) (And.intro ⟨pcl_len ha, pcl_all ha⟩ ?_) | refine Exists.intro (pcl sb b) (And.intro ⟨pcl_len hb, pcl_all hb⟩ ?_) | refine Exists.intro (pcl 0 (List.replicate 8 0)) (And.intro ⟨leR rfl, rfl⟩ ?_) | refine Exists.intro (pcl 0 (List.replicate 8 0)) (And.intro ⟨rfl, rfl⟩ ?_) | refine And.intro (neI rfl) ?_ | refine And.intro ⟨rfl, leR rfl, onesR rfl⟩ ?_ | refine And.intro ⟨rfl, leR rfl⟩ ?_ | refine draw_rule2 hfol (fun KK hKK => ?_) | refine hKK _ _ _ (by kernel_rfl) ?_ | refine region_rule (fun KK hKK => ?_) | refine hKK _ _ ?_ | refine And.intro (Eq.refl true) ?_ | refine Exists.intro _ (And.intro (wI (by omega)) ?_) | refine Exists.intro _ (And.intro (wU (by omega)) ?_) | refine Exists.intro _ (And.intro ⟨rfl, by omega⟩ ?_) | refine Exists.intro _ (And.intro rfl ?_) | refine And.intro rfl ?_ | refine And.intro ⟨rfl, rfl⟩ ?_ | ((refine And.intro (fun _ => ?_) (fun _ => ?_)) <;> try (exfalso; omega))))
    exact Exists.intro [] (And.intro (rfl) (And.intro trivial rfl))
theorem s_iMul (sa : Int) (a : List Nat) (ha : a.length = 8) (hab : ∀ x ∈ a, x < 256) (sb : Int) (b : List Nat) (hb : b.length = 8) (hbb : ∀ x ∈ b, x < 256) : Spec Try.prog n_i_MultiplyPartitions [pv sa a, pv sb b] [] (mV (mulR sa a sb b)) [] := by
  have hq := s_bad [(sa, a), (sb, b)] (fun p hp => by simp at hp; rcases hp with rfl | rfl; exact ⟨ha, hab⟩; exact ⟨hb, hbb⟩) (by simp)
  refine SpecW.of_EV hf_i_MultiplyPartitions hc_i_MultiplyPartitions rfl rfl rfl fun w0 B ρ0 _ => ?_
  by_cases hv : isPi sa a = true ∧ isPi sb b = true
  · rw [show ([(sa, a), (sb, b)].any fun p => !isPi p.1 p.2) = false from by simp [hv.1, hv.2]] at hq
    by_cases h : sa = sb
    · subst h
      obtain ⟨n, rfl, hn1, hn⟩ := isPi_size hv.1
      have ht := s_itimes n a b ha hb (isPi_lt hv.1) (isPi_lt hv.2) hn1 hn
      rw [mul_nm (fun i _ => isPi_lt hv.1 i), (lK_ct (b := gd b) (fun i _ => isPi_lt hv.1 i) n (Nat.le_refl n)).1] at ht
      have hr : mulR n a n b = ((n : Int), nm (gM (gd a) (gd b) n) n, (((ctI (gd a) (gd b) n n).2 : Nat) : Int), 0) := by unfold mulR; rw [if_pos hv, if_pos rfl]; rfl
      rw [hr]
      (repeat' (first | refine (hq).read [3] rfl ⟨rfl, trivial⟩ ?_ | refine (ht).read [0,1] rfl ⟨rfl, rfl, trivial⟩ ?_ | refine Exists.intro (pcl n a) (And.intro ⟨pcl_len ha, pcl_all ha⟩ ?_) | refine Exists.intro (pcl n b) (And.intro ⟨pcl_len hb, pcl_all hb⟩ ?_) | refine And.intro ⟨pcl_len ha, mkL rfl⟩ ?_ | refine And.intro ⟨pcl_len hb, Nat.le_of_eq (fill_len (N := 9) mk_len (pcl_len ha) (leR rfl)).symm⟩ ?_ | refine Exists.intro (rowP [((n : Int), a), ((n : Int), b)]) (And.intro (row2 (N := 9) (p := ((n : Int), a)) (q := ((n : Int), b)) mk_len (pcl_len ha) (pcl_len hb)) ?_) | refine Exists.intro (pcl (n : Int) (nm (gM (gd a) (gd b) n) n)) (And.intro ⟨pcl_len nm_len, pcl_all nm_len⟩ ?_) | refine And.intro ⟨pcl_len nm_len, leR rfl, pcl_ones⟩ ?_ | refine Exists.intro (pcl (n : Int) (nm (gM (gd a) (gd b) n) n)) (And.intro ⟨leR rfl, spl0 (leR rfl)⟩ ?_) | refine Exists.intro (pcl 0 (List.replicate 8 0)) (And.intro ⟨leR rfl, rfl⟩ ?_) | refine Exists.intro (pcl 0 (List.replicate 8 0)) (And.intro ⟨rfl, rfl⟩ ?_) | refine And.intro (neI rfl) ?_ | refine And.intro ⟨rfl, leR rfl, onesR rfl⟩ ?_ | refine And.intro ⟨rfl, leR rfl⟩ ?_ | refine draw_rule2 hfol (fun KK hKK => ?_) | refine hKK _ _ _ (by kernel_rfl) ?_ | refine region_rule (fun KK hKK => ?_) | refine hKK _ _ ?_ | refine And.intro (Eq.refl true) ?_ | refine Exists.intro _ (And.intro (wI (by omega)) ?_) | refine Exists.intro _ (And.intro (wU (by omega)) ?_) | refine Exists.intro _ (And.intro ⟨rfl, by omega⟩ ?_) | refine Exists.intro _ (And.intro rfl ?_) | refine And.intro rfl ?_ | refine And.intro ⟨rfl, rfl⟩ ?_ | ((refine And.intro (fun _ => ?_) (fun _ => ?_)) <;> try (exfalso; omega))))
      exact Exists.intro [] (And.intro (rfl) (And.intro trivial rfl))
    · have hr : mulR sa a sb b = (0, List.replicate 8 0, 0, 2) := by unfold mulR; rw [if_pos hv, if_neg h]
      rw [hr]
      (repeat' (first | refine (hq).read [3] rfl ⟨rfl, trivial⟩ ?_ | refine Exists.intro (pcl sa a) (And.intro ⟨pcl_len ha, pcl_all ha⟩ ?_) | refine Exists.intro (pcl sb b) (And.intro ⟨pcl_len hb, pcl_all hb⟩ ?_) | refine And.intro ⟨pcl_len ha, mkL rfl⟩ ?_ | refine And.intro ⟨pcl_len hb, Nat.le_of_eq (fill_len (N := 9) mk_len (pcl_len ha) (leR rfl)).symm⟩ ?_ | refine Exists.intro (rowP [(sa, a), (sb, b)]) (And.intro (row2 (N := 9) (p := (sa, a)) (q := (sb, b)) mk_len (pcl_len ha) (pcl_len hb)) ?_) | refine Exists.intro (pcl 0 (List.replicate 8 0)) (And.intro ⟨leR rfl, rfl⟩ ?_) | refine Exists.intro (pcl 0 (List.replicate 8 0)) (And.intro ⟨rfl, rfl⟩ ?_) | refine And.intro (neI rfl) ?_ | refine And.intro ⟨rfl, leR rfl, onesR rfl⟩ ?_ | refine And.intro ⟨rfl, leR rfl⟩ ?_ | refine draw_rule2 hfol (fun KK hKK => ?_) | refine hKK _ _ _ (by kernel_rfl) ?_ | refine region_rule (fun KK hKK => ?_) | refine hKK _ _ ?_ | refine And.intro (Eq.refl true) ?_ | refine Exists.intro _ (And.intro (wI (by omega)) ?_) | refine Exists.intro _ (And.intro (wU (by omega)) ?_) | refine Exists.intro _ (And.intro ⟨rfl, by omega⟩ ?_) | refine Exists.intro _ (And.intro rfl ?_) | refine And.intro rfl ?_ | refine And.intro ⟨rfl, rfl⟩ ?_ | ((refine And.intro (fun _ => ?_) (fun _ => ?_)) <;> try (exfalso; omega))))
      exact Exists.intro [] (And.intro (rfl) (And.intro trivial rfl))
  · rw [show ([(sa, a), (sb, b)].any fun p => !isPi p.1 p.2) = true from by cases h1 : isPi sa a <;> cases h2 : isPi sb b <;> simp [h1, h2] at hv ⊢] at hq
    have hr : mulR sa a sb b = (0, List.replicate 8 0, 0, 1) := by unfold mulR; rw [if_neg hv]
    rw [hr]
    (repeat' (first | refine (hq).read [3] rfl ⟨rfl, trivial⟩ ?_ | refine Exists.intro (pcl sa a) (And.intro ⟨pcl_len ha, pcl_all ha⟩ ?_) | refine Exists.intro (pcl sb b) (And.intro ⟨pcl_len hb, pcl_all hb⟩ ?_) | refine And.intro ⟨pcl_len ha, mkL rfl⟩ ?_ | refine And.intro ⟨pcl_len hb, Nat.le_of_eq (fill_len (N := 9) mk_len (pcl_len ha) (leR rfl)).symm⟩ ?_ | refine Exists.intro (rowP [(sa, a), (sb, b)]) (And.intro (row2 (N := 9) (p := (sa, a)) (q := (sb, b)) mk_len (pcl_len ha) (pcl_len hb)) ?_) | refine Exists.intro (pcl 0 (List.replicate 8 0)) (And.intro ⟨leR rfl, rfl⟩ ?_) | refine Exists.intro (pcl 0 (List.replicate 8 0)) (And.intro ⟨rfl, rfl⟩ ?_) | refine And.intro (neI rfl) ?_ | refine And.intro ⟨rfl, leR rfl, onesR rfl⟩ ?_ | refine And.intro ⟨rfl, leR rfl⟩ ?_ | refine draw_rule2 hfol (fun KK hKK => ?_) | refine hKK _ _ _ (by kernel_rfl) ?_ | refine region_rule (fun KK hKK => ?_) | refine hKK _ _ ?_ | refine And.intro (Eq.refl true) ?_ | refine Exists.intro _ (And.intro (wI (by omega)) ?_) | refine Exists.intro _ (And.intro (wU (by omega)) ?_) | refine Exists.intro _ (And.intro ⟨rfl, by omega⟩ ?_) | refine Exists.intro _ (And.intro rfl ?_) | refine And.intro rfl ?_ | refine And.intro ⟨rfl, rfl⟩ ?_ | ((refine And.intro (fun _ => ?_) (fun _ => ?_)) <;> try (exfalso; omega))))
    exact Exists.intro [] (And.intro (rfl) (And.intro trivial rfl))
theorem s_lawMul (sa : Int) (a : List Nat) (ha : a.length = 8) (hab : ∀ x ∈ a, x < 256) (sb : Int) (b : List Nat) (hb : b.length = 8) (hbb : ∀ x ∈ b, x < 256) : Spec Try.prog n_l_FnExactMultiplyPartitions [pv sa a, pv sb b] [] (vb true) [] := by
  have h1 := s_sMul sa a ha hab sb b hb hbb
  have h2 := s_iMul sa a ha hab sb b hb hbb
  have hl := mulR_len sa a sb b
  generalize mulR sa a sb b = p at h1 h2 hl
  have he := s_eqP p.1 p.2.1 hl
  refine SpecW.of_EV hf_l_FnExactMultiplyPartitions hc_l_FnExactMultiplyPartitions rfl rfl rfl fun w0 B ρ0 _ => ?_
  (repeat' (first | refine (s_toP sa a ha).pure rfl ?_ | refine (s_toP sb b hb).pure rfl ?_ | refine (h1).pure rfl ?_ | refine (h2).pure rfl ?_ | refine (he).pure rfl ?_ | refine Exists.intro (pcl p.1 p.2.1) (And.intro ⟨pcl_len hl, pcl_all hl⟩ ?_) | refine And.intro ⟨pcl_len hl, leR rfl, pcl_ones⟩ ?_ | refine Exists.intro (pcl p.1 p.2.1) (And.intro ⟨leR rfl, spl0 (leR rfl)⟩ ?_) | refine Exists.intro (pcl sa a) (And.intro ⟨pcl_len ha, pcl_all ha⟩ ?_) | refine Exists.intro (pcl sb b) (And.intro ⟨pcl_len hb, pcl_all hb⟩ ?_) | refine And.intro (fun _ => ?_) (fun h => absurd rfl h) | refine And.intro (neI rfl) ?_ | refine And.intro ⟨rfl, leR rfl, onesR rfl⟩ ?_ | refine And.intro ⟨rfl, leR rfl⟩ ?_ | refine draw_rule2 hfol (fun KK hKK => ?_) | refine hKK _ _ _ (by kernel_rfl) ?_ | refine region_rule (fun KK hKK => ?_) | refine hKK _ _ ?_ | refine And.intro (Eq.refl true) ?_ | refine Exists.intro _ (And.intro (wI (by omega)) ?_) | refine Exists.intro _ (And.intro (wU (by omega)) ?_) | refine Exists.intro _ (And.intro ⟨rfl, by omega⟩ ?_) | refine Exists.intro _ (And.intro rfl ?_) | refine And.intro rfl ?_ | refine And.intro ⟨rfl, rfl⟩ ?_ | ((refine And.intro (fun _ => ?_) (fun _ => ?_)) <;> try (exfalso; omega))))
  exact finP rfl
end Go.Proofs.Ytpangmameocfmaa.VE.P
