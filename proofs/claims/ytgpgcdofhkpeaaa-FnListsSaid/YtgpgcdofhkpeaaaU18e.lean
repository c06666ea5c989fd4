/- Contracts of functions of the given program, for all arguments that the contract names; see each theorem. -/
import Derived.Test.YtgpgcdofhkpeaaaU18a
import Derived.Test.YtgpgcdofhkpeaaaU16e
set_option linter.all false
namespace Go.Proofs.Ytgpgcdofhkpeaaa.VE
open Go
set_option maxHeartbeats 800000
set_option maxRecDepth 100000

def mulR (s : Int) (a : List Nat) (t : Int) (b : List Nat) : Int × List Nat × Int × Int :=
  if isDi s a = true ∧ isDi t b = true then (if s = t then (s, (oL s.toNat a b s.toNat).1, ((lpN s.toNat a b : Nat) : Int), 0) else (0, List.replicate 16 0, 0, 2)) else (0, List.replicate 16 0, 0, 1)
abbrev dllV (p : Int × List Nat × Int × Int) : V := .tup [pv p.1 p.2.1, vi p.2.2.1, vi p.2.2.2]
theorem mulR_len (s : Int) (a : List Nat) (ha : a.length = 16) (t : Int) (b : List Nat) (hb : b.length = 16) : (mulR s a t b).2.1.length = 16 := by
  unfold mulR; split
  · rename_i h
    split
    · rename_i h2
      obtain ⟨n, rfl, hda⟩ := isDi_elim ha h.1
      obtain ⟨k, rfl, hdb⟩ := isDi_elim hb h.2
      obtain rfl : n = k := by omega
      exact (oL_inv hda.toIsV hdb.toIsV n (Nat.le_refl n)).1
    · simp
  · simp

theorem s_iMul (s : Int) (a : List Nat) (ha : a.length = 16) (hab : ∀ x ∈ a, x < 256) (t : Int) (b : List Nat) (hb : b.length = 16) (hbb : ∀ x ∈ b, x < 256) : Spec Try.prog n_i_MultiplyDiagrams [pv s a, pv t b] [] (dllV (mulR s a t b)) [] := by
  have hr : mulR s a t b = if isDi s a = true ∧ isDi t b = true then (if s = t then (s, (oL s.toNat a b s.toNat).1, ((lpN s.toNat a b : Nat) : Int), 0) else (0, List.replicate 16 0, 0, 2)) else (0, List.replicate 16 0, 0, 1) := rfl
  refine SpecW.of_EV hf_i_MultiplyDiagrams hc_i_MultiplyDiagrams rfl rfl rfl fun w0 B ρ0 _ => ?_
  by_cases hv : isDi s a = true ∧ isDi t b = true
  rotate_left
  · rw [if_neg hv] at hr
    have hq := s_invalid [(s, a), (t, b)] (fun p hp => by simp at hp; rcases hp with rfl | rfl; exact ⟨ha, hab⟩; exact ⟨hb, hbb⟩) (by simp) true (by
      simp only [List.any_cons, List.any_nil, Bool.or_false]
      cases h1 : isDi s a <;> cases h2 : isDi t b <;> simp [h1, h2] at hv ⊢)
    simp only [cond_true] at hq
    (repeat' (first | refine (hq).read [3] rfl ⟨rfl, trivial⟩ ?_ | refine Exists.intro (pcl s a) (And.intro ⟨pcl_len ha, pcl_all ha⟩ ?_) | refine Exists.intro (pcl t b) (And.intro ⟨pcl_len hb, pcl_all hb⟩ ?_) | refine And.intro ⟨pcl_len ha, mkL rfl⟩ ?_ | refine And.intro ⟨pcl_len hb, Nat.le_of_eq (fill_len (N := 17) mk_len (pcl_len ha) (leR rfl)).symm⟩ ?_ | refine Exists.intro (rowP [(s, a), (t, b)]) (And.intro (row2 (N := 17) (p := (s, a)) (q := (t, b)) mk_len (pcl_len ha) (pcl_len hb)) ?_) | refine Exists.intro (pcl 0 (List.replicate 16 0)) (And.intro ⟨leR rfl, rfl⟩ ?_) | refine Exists.intro (pcl 0 (List.replicate 16 0)) (And.intro ⟨rfl, rfl⟩ ?_) | refine And.intro (neI rfl) ?_ | refine And.intro ⟨rfl, leR rfl, onesR rfl⟩ ?_ | refine And.intro ⟨rfl, leR rfl⟩ ?_ | refine draw_rule2 hfol (fun KK hKK => ?_) | refine hKK _ _ _ (by kernel_rfl) ?_ | refine region_rule (fun KK hKK => ?_) | refine hKK _ _ ?_ | refine And.intro (Eq.refl true) ?_ | refine Exists.intro _ (And.intro (wI (by omega)) ?_) | refine Exists.intro _ (And.intro (wU (by omega)) ?_) | refine Exists.intro _ (And.intro ⟨rfl, by omega⟩ ?_) | refine Exists.intro _ (And.intro rfl ?_) | refine And.intro rfl ?_ | refine And.intro ⟨rfl, rfl⟩ ?_ | ((refine And.intro (fun _ => ?_) (fun _ => ?_)) <;> try (exfalso; omega))))
    exact Exists.intro [] (And.intro (by rw [hr]; rfl) (And.intro trivial rfl))
  rw [if_pos hv] at hr
  obtain ⟨hva, hvb⟩ := hv
  have hq := s_invalid [(s, a), (t, b)] (fun p hp => by simp at hp; rcases hp with rfl | rfl; exact ⟨ha, hab⟩; exact ⟨hb, hbb⟩) (by simp) false (by simp [hva, hvb])
  simp only [cond_false] at hq
  obtain ⟨n, rfl, hda⟩ := isDi_elim ha hva
  obtain ⟨k, rfl, hdb⟩ := isDi_elim hb hvb
  by_cases h4 : (n : Int) = (k : Int)
  rotate_left
  · rw [if_neg h4] at hr
    (repeat' (first | refine (hq).read [3] rfl ⟨rfl, trivial⟩ ?_ | refine Exists.intro (pcl n a) (And.intro ⟨pcl_len ha, pcl_all ha⟩ ?_) | refine Exists.intro (pcl k b) (And.intro ⟨pcl_len hb, pcl_all hb⟩ ?_) | refine And.intro ⟨pcl_len ha, mkL rfl⟩ ?_ | refine And.intro ⟨pcl_len hb, Nat.le_of_eq (fill_len (N := 17) mk_len (pcl_len ha) (leR rfl)).symm⟩ ?_ | refine Exists.intro (rowP [((n : Int), a), ((k : Int), b)]) (And.intro (row2 (N := 17) (p := ((n : Int), a)) (q := ((k : Int), b)) mk_len (pcl_len ha) (pcl_len hb)) ?_) | refine Exists.intro (pcl 0 (List.replicate 16 0)) (And.intro ⟨leR rfl, rfl⟩ ?_) | refine Exists.intro (pcl 0 (List.replicate 16 0)) (And.intro ⟨rfl, rfl⟩ ?_) | refine And.intro (neI rfl) ?_ | refine And.intro ⟨rfl, leR rfl, onesR rfl⟩ ?_ | refine And.intro ⟨rfl, leR rfl⟩ ?_ | refine draw_rule2 hfol (fun KK hKK => ?_) | refine hKK _ _ _ (by kernel_rfl) ?_ | refine region_rule (fun KK hKK => ?_) | refine hKK _ _ ?_ | refine And.intro (Eq.refl true) ?_ | refine Exists.intro _ (And.intro (wI (by omega)) ?_) | refine Exists.intro _ (And.intro (wU (by omega)) ?_) | refine Exists.intro _ (And.intro ⟨rfl, by omega⟩ ?_) | refine Exists.intro _ (And.intro rfl ?_) | refine And.intro rfl ?_ | refine And.intro ⟨rfl, rfl⟩ ?_ | ((refine And.intro (fun _ => ?_) (fun _ => ?_)) <;> try (exfalso; omega))))
    exact Exists.intro [] (And.intro (by rw [hr]; rfl) (And.intro trivial rfl))
  · obtain rfl : n = k := by omega
    rw [if_pos rfl] at hr
    have hu := s_times n a b hda.toIsV hdb.toIsV
    have lo := (oL_inv hda.toIsV hdb.toIsV n (Nat.le_refl n)).1
    (repeat' (first | refine (hq).read [3] rfl ⟨rfl, trivial⟩ ?_ | refine (hu).pure rfl ?_ | refine Exists.intro (pcl n a) (And.intro ⟨pcl_len ha, pcl_all ha⟩ ?_) | refine Exists.intro (pcl n b) (And.intro ⟨pcl_len hb, pcl_all hb⟩ ?_) | refine And.intro ⟨pcl_len ha, mkL rfl⟩ ?_ | refine And.intro ⟨pcl_len hb, Nat.le_of_eq (fill_len (N := 17) mk_len (pcl_len ha) (leR rfl)).symm⟩ ?_ | refine Exists.intro (rowP [((n : Int), a), ((n : Int), b)]) (And.intro (row2 (N := 17) (p := ((n : Int), a)) (q := ((n : Int), b)) mk_len (pcl_len ha) (pcl_len hb)) ?_) | refine Exists.intro (pcl n (oL n a b n).1) (And.intro ⟨pcl_len lo, pcl_all lo⟩ ?_) | refine And.intro ⟨pcl_len lo, leR rfl, pcl_ones⟩ ?_ | refine Exists.intro (pcl n (oL n a b n).1) (And.intro ⟨leR rfl, spl0 (leR rfl)⟩ ?_) | refine And.intro (neI rfl) ?_ | refine And.intro ⟨rfl, leR rfl, onesR rfl⟩ ?_ | refine And.intro ⟨rfl, leR rfl⟩ ?_ | refine draw_rule2 hfol (fun KK hKK => ?_) | refine hKK _ _ _ (by kernel_rfl) ?_ | refine region_rule (fun KK hKK => ?_) | refine hKK _ _ ?_ | refine And.intro (Eq.refl true) ?_ | refine Exists.intro _ (And.intro (wI (by omega)) ?_) | refine Exists.intro _ (And.intro (wU (by omega)) ?_) | refine Exists.intro _ (And.intro ⟨rfl, by omega⟩ ?_) | refine Exists.intro _ (And.intro rfl ?_) | refine And.intro rfl ?_ | refine And.intro ⟨rfl, rfl⟩ ?_ | ((refine And.intro (fun _ => ?_) (fun _ => ?_)) <;> try (exfalso; omega))))
    exact Exists.intro [] (And.intro (by rw [hr]; rfl) (And.intro trivial rfl))

theorem s_pair (s : Int) (a : List Nat) (ha : a.length = 16) (hab : ∀ x ∈ a, x < 256) (t : Int) (b : List Nat) (hb : b.length = 16) (hbb : ∀ x ∈ b, x < 256) :
    Spec Try.prog n_s_l01Pair [pv s a, pv t b] [] (vi (if isDi s a = true ∧ isDi t b = true then (if s = t then 0 else 2) else 1)) [] := by
  have q1 := s_sIs' s a ha hab
  have q2 := s_sIs' t b hb hbb
  refine SpecW.of_EV hf_s_l01Pair hc_s_l01Pair rfl rfl rfl fun w0 B ρ0 _ => ?_
  cases hva : isDi s a with
  | false =>
    rw [hva] at q1
    (repeat' (first | refine (q1).pure rfl ?_ | refine Exists.intro (pcl s a) (And.intro ⟨pcl_len ha, pcl_all ha⟩ ?_) | refine And.intro (neI rfl) ?_ | refine And.intro ⟨rfl, leR rfl, onesR rfl⟩ ?_ | refine And.intro ⟨rfl, leR rfl⟩ ?_ | refine draw_rule2 hfol (fun KK hKK => ?_) | refine hKK _ _ _ (by kernel_rfl) ?_ | refine region_rule (fun KK hKK => ?_) | refine hKK _ _ ?_ | refine And.intro (Eq.refl true) ?_ | refine Exists.intro _ (And.intro (wI (by omega)) ?_) | refine Exists.intro _ (And.intro (wU (by omega)) ?_) | refine Exists.intro _ (And.intro ⟨rfl, by omega⟩ ?_) | refine Exists.intro _ (And.intro rfl ?_) | refine And.intro rfl ?_ | refine And.intro ⟨rfl, rfl⟩ ?_ | ((refine And.intro (fun _ => ?_) (fun _ => ?_)) <;> try (exfalso; omega))))
    exact Exists.intro [] (And.intro (rfl) (And.intro trivial rfl))
  | true =>
  cases hvb : isDi t b with
  | false =>
    rw [hva] at q1
    rw [hvb] at q2
    (repeat' (first | refine (q1).pure rfl ?_ | refine (q2).pure rfl ?_ | refine Exists.intro (pcl s a) (And.intro ⟨pcl_len ha, pcl_all ha⟩ ?_) | refine Exists.intro (pcl t b) (And.intro ⟨pcl_len hb, pcl_all hb⟩ ?_) | refine And.intro (neI rfl) ?_ | refine And.intro ⟨rfl, leR rfl, onesR rfl⟩ ?_ | refine And.intro ⟨rfl, leR rfl⟩ ?_ | refine draw_rule2 hfol (fun KK hKK => ?_) | refine hKK _ _ _ (by kernel_rfl) ?_ | refine region_rule (fun KK hKK => ?_) | refine hKK _ _ ?_ | refine And.intro (Eq.refl true) ?_ | refine Exists.intro _ (And.intro (wI (by omega)) ?_) | refine Exists.intro _ (And.intro (wU (by omega)) ?_) | refine Exists.intro _ (And.intro ⟨rfl, by omega⟩ ?_) | refine Exists.intro _ (And.intro rfl ?_) | refine And.intro rfl ?_ | refine And.intro ⟨rfl, rfl⟩ ?_ | ((refine And.intro (fun _ => ?_) (fun _ => ?_)) <;> try (exfalso; omega))))
    exact Exists.intro [] (And.intro (rfl) (And.intro trivial rfl))
  | true =>
  rw [hva] at q1
  rw [hvb] at q2
  rw [if_pos ⟨rfl, rfl⟩]
  by_cases h4 : s = t
  · rw [if_pos h4]
    (repeat' (first | refine (q1).pure rfl ?_ | refine (q2).pure rfl ?_ | refine Exists.intro (pcl s a) (And.intro ⟨pcl_len ha, pcl_all ha⟩ ?_) | refine Exists.intro (pcl t b) (And.intro ⟨pcl_len hb, pcl_all hb⟩ ?_) | refine And.intro (neI rfl) ?_ | refine And.intro ⟨rfl, leR rfl, onesR rfl⟩ ?_ | refine And.intro ⟨rfl, leR rfl⟩ ?_ | refine draw_rule2 hfol (fun KK hKK => ?_) | refine hKK _ _ _ (by kernel_rfl) ?_ | refine region_rule (fun KK hKK => ?_) | refine hKK _ _ ?_ | refine And.intro (Eq.refl true) ?_ | refine Exists.intro _ (And.intro (wI (by omega)) ?_) | refine Exists.intro _ (And.intro (wU (by omega)) ?_) | refine Exists.intro _ (And.intro ⟨rfl, by omega⟩ ?_) | refine Exists.intro _ (And.intro rfl ?_) | refine And.intro rfl ?_ | refine And.intro ⟨rfl, rfl⟩ ?_ | ((refine And.intro (fun _ => ?_) (fun _ => ?_)) <;> try (exfalso; omega))))
    exact Exists.intro [] (And.intro (rfl) (And.intro trivial rfl))
  · rw [if_neg h4]
    (repeat' (first | refine (q1).pure rfl ?_ | refine (q2).pure rfl ?_ | refine Exists.intro (pcl s a) (And.intro ⟨pcl_len ha, pcl_all ha⟩ ?_) | refine Exists.intro (pcl t b) (And.intro ⟨pcl_len hb, pcl_all hb⟩ ?_) | refine And.intro (neI rfl) ?_ | refine And.intro ⟨rfl, leR rfl, onesR rfl⟩ ?_ | refine And.intro ⟨rfl, leR rfl⟩ ?_ | refine draw_rule2 hfol (fun KK hKK => ?_) | refine hKK _ _ _ (by kernel_rfl) ?_ | refine region_rule (fun KK hKK => ?_) | refine hKK _ _ ?_ | refine And.intro (Eq.refl true) ?_ | refine Exists.intro _ (And.intro (wI (by omega)) ?_) | refine Exists.intro _ (And.intro (wU (by omega)) ?_) | refine Exists.intro _ (And.intro ⟨rfl, by omega⟩ ?_) | refine Exists.intro _ (And.intro rfl ?_) | refine And.intro rfl ?_ | refine And.intro ⟨rfl, rfl⟩ ?_ | ((refine And.intro (fun _ => ?_) (fun _ => ?_)) <;> try (exfalso; omega))))
    exact Exists.intro [] (And.intro (rfl) (And.intro trivial rfl))

theorem s_sMul (s : Int) (a : List Nat) (ha : a.length = 16) (hab : ∀ x ∈ a, x < 256) (t : Int) (b : List Nat) (hb : b.length = 16) (hbb : ∀ x ∈ b, x < 256) : Spec Try.prog n_s_MultiplyDiagrams [pv s a, pv t b] [] (dllV (mulR s a t b)) [] := by
  have hr : mulR s a t b = if isDi s a = true ∧ isDi t b = true then (if s = t then (s, (oL s.toNat a b s.toNat).1, ((lpN s.toNat a b : Nat) : Int), 0) else (0, List.replicate 16 0, 0, 2)) else (0, List.replicate 16 0, 0, 1) := rfl
  have hq := s_pair s a ha hab t b hb hbb
  refine SpecW.of_EV hf_s_MultiplyDiagrams hc_s_MultiplyDiagrams rfl rfl rfl fun w0 B ρ0 _ => ?_
  by_cases hv : isDi s a = true ∧ isDi t b = true
  rotate_left
  · rw [if_neg hv] at hr hq
    (repeat' (first | refine (hq).pure rfl ?_ | refine Exists.intro (pcl s a) (And.intro ⟨pcl_len ha, pcl_all ha⟩ ?_) | refine Exists.intro (pcl t b) (And.intro ⟨pcl_len hb, pcl_all hb⟩ ?_) | refine Exists.intro (pcl 0 (List.replicate 16 0)) (And.intro ⟨leR rfl, rfl⟩ ?_) | refine Exists.intro (pcl 0 (List.replicate 16 0)) (And.intro ⟨rfl, rfl⟩ ?_) | refine And.intro (neI rfl) ?_ | refine And.intro ⟨rfl, leR rfl, onesR rfl⟩ ?_ | refine And.intro ⟨rfl, leR rfl⟩ ?_ | refine draw_rule2 hfol (fun KK hKK => ?_) | refine hKK _ _ _ (by kernel_rfl) ?_ | refine region_rule (fun KK hKK => ?_) | refine hKK _ _ ?_ | refine And.intro (Eq.refl true) ?_ | refine Exists.intro _ (And.intro (wI (by omega)) ?_) | refine Exists.intro _ (And.intro (wU (by omega)) ?_) | refine Exists.intro _ (And.intro ⟨rfl, by omega⟩ ?_) | refine Exists.intro _ (And.intro rfl ?_) | refine And.intro rfl ?_ | refine And.intro ⟨rfl, rfl⟩ ?_ | ((refine And.intro (fun _ => ?_) (fun _ => ?_)) <;> try (exfalso; omega))))
    exact Exists.intro [] (And.intro (by rw [hr]; rfl) (And.intro trivial rfl))
  rw [if_pos hv] at hr hq
  obtain ⟨n, rfl, hda⟩ := isDi_elim ha hv.1
  obtain ⟨k, rfl, hdb⟩ := isDi_elim hb hv.2
  by_cases h4 : (n : Int) = (k : Int)
  rotate_left
  · rw [if_neg h4] at hr hq
    (repeat' (first | refine (hq).pure rfl ?_ | refine Exists.intro (pcl n a) (And.intro ⟨pcl_len ha, pcl_all ha⟩ ?_) | refine Exists.intro (pcl k b) (And.intro ⟨pcl_len hb, pcl_all hb⟩ ?_) | refine Exists.intro (pcl 0 (List.replicate 16 0)) (And.intro ⟨leR rfl, rfl⟩ ?_) | refine Exists.intro (pcl 0 (List.replicate 16 0)) (And.intro ⟨rfl, rfl⟩ ?_) | refine And.intro (neI rfl) ?_ | refine And.intro ⟨rfl, leR rfl, onesR rfl⟩ ?_ | refine And.intro ⟨rfl, leR rfl⟩ ?_ | refine draw_rule2 hfol (fun KK hKK => ?_) | refine hKK _ _ _ (by kernel_rfl) ?_ | refine region_rule (fun KK hKK => ?_) | refine hKK _ _ ?_ | refine And.intro (Eq.refl true) ?_ | refine Exists.intro _ (And.intro (wI (by omega)) ?_) | refine Exists.intro _ (And.intro (wU (by omega)) ?_) | refine Exists.intro _ (And.intro ⟨rfl, by omega⟩ ?_) | refine Exists.intro _ (And.intro rfl ?_) | refine And.intro rfl ?_ | refine And.intro ⟨rfl, rfl⟩ ?_ | ((refine And.intro (fun _ => ?_) (fun _ => ?_)) <;> try (exfalso; omega))))
    exact Exists.intro [] (And.intro (by rw [hr]; rfl) (And.intro trivial rfl))
  · obtain rfl : n = k := by omega
    rw [if_pos rfl] at hr hq
    have hu := s_stimes n a b hda.toIsV hdb.toIsV
    have lo := (oL_inv hda.toIsV hdb.toIsV n (Nat.le_refl n)).1
    (repeat' (first | refine (hq).pure rfl ?_ | refine (hu).pure rfl ?_ | refine Exists.intro (pcl n a) (And.intro ⟨pcl_len ha, pcl_all ha⟩ ?_) | refine Exists.intro (pcl n b) (And.intro ⟨pcl_len hb, pcl_all hb⟩ ?_) | refine Exists.intro (pcl n (oL n a b n).1) (And.intro ⟨pcl_len lo, pcl_all lo⟩ ?_) | refine And.intro ⟨pcl_len lo, leR rfl, pcl_ones⟩ ?_ | refine Exists.intro (pcl n (oL n a b n).1) (And.intro ⟨leR rfl, spl0 (leR rfl)⟩ ?_) | refine And.intro (neI rfl) ?_ | refine And.intro ⟨rfl, leR rfl, onesR rfl⟩ ?_ | refine And.intro ⟨rfl, leR rfl⟩ ?_ | refine draw_rule2 hfol (fun KK hKK => ?_) | refine hKK _ _ _ (by kernel_rfl) ?_ | refine region_rule (fun KK hKK => ?_) | refine hKK _ _ ?_ | refine And.intro (Eq.refl true) ?_ | refine Exists.intro _ (And.intro (wI (by omega)) ?_) | refine Exists.intro _ (And.intro (wU (by omega)) ?_) | refine Exists.intro _ (And.intro ⟨rfl, by omega⟩ ?_) | refine Exists.intro _ (And.intro rfl ?_) | refine And.intro rfl ?_ | refine And.intro ⟨rfl, rfl⟩ ?_ | ((refine And.intro (fun _ => ?_) (fun _ => ?_)) <;> try (exfalso; omega))))
    exact Exists.intro [] (And.intro (by rw [hr]; rfl) (And.intro trivial rfl))

end Go.Proofs.Ytgpgcdofhkpeaaa.VE
