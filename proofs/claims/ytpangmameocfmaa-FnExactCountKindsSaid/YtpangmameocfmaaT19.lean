/- Contracts of functions of the given program, for all arguments that the contract names; see each theorem. -/
import Derived.Test.YtpangmameocfmaaT18
set_option linter.all false
namespace Go.Proofs.Ytpangmameocfmaa.VE.P
open Go
set_option maxHeartbeats 800000
set_option maxRecDepth 100000

theorem s_sUnion (sa : Int) (a : List Nat) (ha : a.length = 8) (hab : ∀ x ∈ a, x < 256) (sb : Int) (b : List Nat) (hb : b.length = 8) (hbb : ∀ x ∈ b, x < 256) : Spec Try.prog n_s_UnionPartition [pv sa a, pv sb b] [] (prV (unionR sa a sb b)) [] := by
  have hqa := s_is sa a ha hab
  have hqb := s_is sb b hb hbb
  rw [isP_eq sa a ha] at hqa
  rw [isP_eq sb b hb] at hqb
  have hr : unionR sa a sb b = if isPi sa a = true ∧ isPi sb b = true then (if sa + sb > 4 then (0, List.replicate 8 0, 3) else (sa + sb, nm (gU sa.toNat sb.toNat a b) (sa.toNat + sb.toNat), 0)) else (0, List.replicate 8 0, 1) := rfl
  refine SpecW.of_EV hf_s_UnionPartition hc_s_UnionPartition rfl rfl rfl fun w0 B ρ0 _ => ?_
  cases hva : isPi sa a with
  | false =>
    rw [hva] at hqa
    rw [if_neg (by simp [hva])] at hr
    (repeat' (first | refine hqa.pure rfl ?_ | refine Exists.intro (pcl sa a) (And.intro ⟨pcl_len ha, pcl_all ha⟩ ?_) | refine Exists.intro (pcl 0 (List.replicate 8 0)) (And.intro ⟨leR rfl, rfl⟩ ?_) | refine Exists.intro (pcl 0 (List.replicate 8 0)) (And.intro ⟨rfl, rfl⟩ ?_) | refine And.intro (neI rfl) ?_ | refine And.intro ⟨rfl, leR rfl, onesR rfl⟩ ?_ | refine And.intro ⟨rfl, leR rfl⟩ ?_ | refine draw_rule2 hfol (fun KK hKK => ?_) | refine hKK _ _ _ (by kernel_rfl) ?_ | refine region_rule (fun KK hKK => ?_) | refine hKK _ _ ?_ | refine And.intro (Eq.refl true) ?_ | refine Exists.intro _ (And.intro (wI (by omega)) ?_) | refine Exists.intro _ (And.intro (wU (by omega)) ?_) | refine Exists.intro _ (And.intro ⟨rfl, by omega⟩ ?_) | refine Exists.intro _ (And.intro rfl ?_) | refine And.intro rfl ?_ | refine And.intro ⟨rfl, rfl⟩ ?_ | ((refine And.intro (fun _ => ?_) (fun _ => ?_)) <;> try (exfalso; omega))))
    exact Exists.intro [] (And.intro (by rw [hr]; rfl) (And.intro trivial rfl))
  | true =>
  rw [hva] at hqa
  cases hvb : isPi sb b with
  | false =>
    rw [hvb] at hqb
    rw [if_neg (by simp [hvb])] at hr
    (repeat' (first | refine hqa.pure rfl ?_ | refine hqb.pure rfl ?_ | refine Exists.intro (pcl sa a) (And.intro ⟨pcl_len ha, pcl_all ha⟩ ?_) | refine Exists.intro (pcl sb b) (And.intro ⟨pcl_len hb, pcl_all hb⟩ ?_) | refine Exists.intro (pcl 0 (List.replicate 8 0)) (And.intro ⟨leR rfl, rfl⟩ ?_) | refine Exists.intro (pcl 0 (List.replicate 8 0)) (And.intro ⟨rfl, rfl⟩ ?_) | refine And.intro (neI rfl) ?_ | refine And.intro ⟨rfl, leR rfl, onesR rfl⟩ ?_ | refine And.intro ⟨rfl, leR rfl⟩ ?_ | refine draw_rule2 hfol (fun KK hKK => ?_) | refine hKK _ _ _ (by kernel_rfl) ?_ | refine region_rule (fun KK hKK => ?_) | refine hKK _ _ ?_ | refine And.intro (Eq.refl true) ?_ | refine Exists.intro _ (And.intro (wI (by omega)) ?_) | refine Exists.intro _ (And.intro (wU (by omega)) ?_) | refine Exists.intro _ (And.intro ⟨rfl, by omega⟩ ?_) | refine Exists.intro _ (And.intro rfl ?_) | refine And.intro rfl ?_ | refine And.intro ⟨rfl, rfl⟩ ?_ | ((refine And.intro (fun _ => ?_) (fun _ => ?_)) <;> try (exfalso; omega))))
    exact Exists.intro [] (And.intro (by rw [hr]; rfl) (And.intro trivial rfl))
  | true =>
  rw [hvb] at hqb
  rw [if_pos ⟨hva, hvb⟩] at hr
  obtain ⟨na, rfl, hna1, hna⟩ := isPi_size hva
  obtain ⟨nb, rfl, hnb1, hnb⟩ := isPi_size hvb
  by_cases h4 : (na : Int) + (nb : Int) > 4
  · rw [if_pos h4] at hr
    (repeat' (first | refine hqa.pure rfl ?_ | refine hqb.pure rfl ?_ | refine Exists.intro (pcl na a) (And.intro ⟨pcl_len ha, pcl_all ha⟩ ?_) | refine Exists.intro (pcl nb b) (And.intro ⟨pcl_len hb, pcl_all hb⟩ ?_) | refine Exists.intro (pcl 0 (List.replicate 8 0)) (And.intro ⟨leR rfl, rfl⟩ ?_) | refine Exists.intro (pcl 0 (List.replicate 8 0)) (And.intro ⟨rfl, rfl⟩ ?_) | refine And.intro (neI rfl) ?_ | refine And.intro ⟨rfl, leR rfl, onesR rfl⟩ ?_ | refine And.intro ⟨rfl, leR rfl⟩ ?_ | refine draw_rule2 hfol (fun KK hKK => ?_) | refine hKK _ _ _ (by kernel_rfl) ?_ | refine region_rule (fun KK hKK => ?_) | refine hKK _ _ ?_ | refine And.intro (Eq.refl true) ?_ | refine Exists.intro _ (And.intro (wI (by omega)) ?_) | refine Exists.intro _ (And.intro (wU (by omega)) ?_) | refine Exists.intro _ (And.intro ⟨rfl, by omega⟩ ?_) | refine Exists.intro _ (And.intro rfl ?_) | refine And.intro rfl ?_ | refine And.intro ⟨rfl, rfl⟩ ?_ | ((refine And.intro (fun _ => ?_) (fun _ => ?_)) <;> try (exfalso; omega))))
    exact Exists.intro [] (And.intro (by rw [hr]; rfl) (And.intro trivial rfl))
  rw [if_neg h4] at hr
  (repeat' (first | refine hqa.pure rfl ?_ | refine hqb.pure rfl ?_ | refine Exists.intro (pcl na a) (And.intro ⟨pcl_len ha, pcl_all ha⟩ ?_) | refine Exists.intro (pcl nb b) (And.intro ⟨pcl_len hb, pcl_all hb⟩ ?_) | refine And.intro (neI rfl) ?_ | refine And.intro ⟨rfl, leR rfl, onesR rfl⟩ ?_ | refine And.intro ⟨rfl, leR rfl⟩ ?_ | refine draw_rule2 hfol (fun KK hKK => ?_) | refine hKK _ _ _ (by kernel_rfl) ?_ | refine region_rule (fun KK hKK => ?_) | refine hKK _ _ ?_ | refine And.intro (Eq.refl true) ?_ | refine Exists.intro _ (And.intro (wI (by omega)) ?_) | refine Exists.intro _ (And.intro (wU (by omega)) ?_) | refine Exists.intro _ (And.intro ⟨rfl, by omega⟩ ?_) | refine Exists.intro _ (And.intro rfl ?_) | refine And.intro rfl ?_ | refine And.intro ⟨rfl, rfl⟩ ?_ | ((refine And.intro (fun _ => ?_) (fun _ => ?_)) <;> try (exfalso; omega))))
  refine loop_rule (α := Nat) (fun σ => σ ≤ 2)
    (fun σ => [(2, .ptr 0 0), (3, .ptr 1 0), (4, .ptr 2 0), (6, .sl 3), (7, vi σ)]) (fun σ => [.pc (pcl na a) T_i_Partition, .pc (pcl nb b) T_i_Partition, .pc (pcl 0 (List.replicate 8 0)) T_i_Partition, .pr T_int64 1 (σ * (na + nb)) (il (gU na nb a b) (σ * (na + nb)))]) (fun σ => 2 - σ) 0 [0, 1, 2, 3]
    (by omega) ⟨⟨rfl, rfl, rfl, rfl, rfl, trivial⟩, ⟨rfl, rfl, rfl, by rw [Nat.zero_mul]; rfl, trivial⟩, rfl⟩ ?_
  rintro σ g hσ
  by_cases h8 : σ = 2
  · subst h8
    have ht := s_told (gU na nb a b) (na + nb) (by omega)
    have hs : IntKind.i64.wrap ((na : Int) + (nb : Int)) = ((na + nb : Nat) : Int) := wC (by omega) (by omega)
    (repeat' (first | refine ht.read [3] rfl ⟨rfl, trivial⟩ ?_ | refine Exists.intro _ (And.intro hs ?_) | refine And.intro ⟨pcl_len nm_len, leR rfl, pcl_ones⟩ ?_ | refine Exists.intro (pcl ((na + nb : Nat) : Int) (nm (gU na nb a b) (na + nb))) (And.intro ⟨leR rfl, spl0 (leR rfl)⟩ ?_) | refine Exists.intro (pcl ((na + nb : Nat) : Int) (nm (gU na nb a b) (na + nb))) (And.intro ⟨pcl_len nm_len, pcl_all nm_len⟩ ?_) | refine And.intro (neI rfl) ?_ | refine And.intro ⟨rfl, leR rfl, onesR rfl⟩ ?_ | refine And.intro ⟨rfl, leR rfl⟩ ?_ | refine draw_rule2 hfol (fun KK hKK => ?_) | refine hKK _ _ _ (by kernel_rfl) ?_ | refine region_rule (fun KK hKK => ?_) | refine hKK _ _ ?_ | refine And.intro (Eq.refl true) ?_ | refine Exists.intro _ (And.intro (wI (by omega)) ?_) | refine Exists.intro _ (And.intro (wU (by omega)) ?_) | refine Exists.intro _ (And.intro ⟨rfl, by omega⟩ ?_) | refine Exists.intro _ (And.intro rfl ?_) | refine And.intro rfl ?_ | refine And.intro ⟨rfl, rfl⟩ ?_ | ((refine And.intro (fun _ => ?_) (fun _ => ?_)) <;> try (exfalso; omega))))
    exact Exists.intro [] (And.intro (by rw [hr]; rfl) (And.intro trivial rfl))
  have hσ2 : σ < 2 := by omega
  have ka : σ * na ≤ na := by obtain rfl | rfl : σ = 0 ∨ σ = 1 := by omega
                              all_goals omega
  have kb : σ * nb ≤ nb := by obtain rfl | rfl : σ = 0 ∨ σ = 1 := by omega
                              all_goals omega
  have ks : σ * (na + nb) = σ * na + σ * nb := Nat.mul_add _ _ _
  have ma : IntKind.i64.wrap ((σ : Int) * (na : Int)) = ((σ * na : Nat) : Int) := wC (Int.natCast_mul _ _).symm (by omega)
  have mb : IntKind.i64.wrap ((σ : Int) * (nb : Int)) = ((σ * nb : Nat) : Int) := wC (Int.natCast_mul _ _).symm (by omega)
  (repeat' (first | refine And.intro (neI rfl) ?_ | refine And.intro ⟨rfl, leR rfl, onesR rfl⟩ ?_ | refine And.intro ⟨rfl, leR rfl⟩ ?_ | refine draw_rule2 hfol (fun KK hKK => ?_) | refine hKK _ _ _ (by kernel_rfl) ?_ | refine region_rule (fun KK hKK => ?_) | refine hKK _ _ ?_ | refine And.intro (Eq.refl true) ?_ | refine Exists.intro _ (And.intro (wI (by omega)) ?_) | refine Exists.intro _ (And.intro (wU (by omega)) ?_) | refine Exists.intro _ (And.intro ⟨rfl, by omega⟩ ?_) | refine Exists.intro _ (And.intro rfl ?_) | refine And.intro rfl ?_ | refine And.intro ⟨rfl, rfl⟩ ?_ | ((refine And.intro (fun _ => ?_) (fun _ => ?_)) <;> try (exfalso; omega))))
  refine loop_rule (α := Nat) (fun i => i ≤ na)
    (fun i => [(2, .ptr 0 0), (3, .ptr 1 0), (4, .ptr 2 0), (6, .sl 3), (7, vi σ), (8, vi i)]) (fun i => [.pc (pcl na a) T_i_Partition, .pc (pcl nb b) T_i_Partition, .pc (pcl 0 (List.replicate 8 0)) T_i_Partition, .pr T_int64 1 (σ * (na + nb) + i) (il (gU na nb a b) (σ * (na + nb) + i))]) (fun i => na - i) 0 [0, 1, 2, 3]
    (by omega) ⟨⟨rfl, rfl, rfl, rfl, rfl, rfl, trivial⟩, ⟨rfl, rfl, rfl, rfl, trivial⟩, rfl⟩ ?_
  rintro i g1 hi
  by_cases h9 : i = na
  rotate_left
  · have hil : i < na := by omega
    have e1 : IntKind.i64.wrap (((σ * na : Nat) : Int) + (i : Int)) = ((σ * na + i : Nat) : Int) := wC (by omega) (by omega)
    have hb1 := getD_lt hab (σ * na + i)
    have hgu : il (gU na nb a b) (σ * (na + nb) + i) ++ [Value.int .i64 ((a.getD (σ * na + i) 0 : Nat) : Int)] = il (gU na nb a b) (σ * (na + nb) + i + 1) := by rw [← gU_a (nb := nb) (b := b) hσ2 hil]; exact il_succ
    (repeat' (first | refine Exists.intro _ (And.intro ma ?_) | refine Exists.intro _ (And.intro e1 ?_) | refine Exists.intro _ (And.intro (pcl_at (by omega)) ?_) | refine And.intro ⟨rfl, mkL rfl⟩ ?_ | refine Exists.intro [Value.int .i64 ((a.getD (σ * na + i) 0 : Nat) : Int)] (And.intro (row1s (mkL' rfl)) ?_) | refine Exists.intro (il (gU na nb a b) (σ * (na + nb) + i + 1)) (And.intro ⟨rfl, onesR rfl, by omega, by omega, hgu⟩ ?_) | refine And.intro (neI rfl) ?_ | refine And.intro ⟨rfl, leR rfl, onesR rfl⟩ ?_ | refine And.intro ⟨rfl, leR rfl⟩ ?_ | refine draw_rule2 hfol (fun KK hKK => ?_) | refine hKK _ _ _ (by kernel_rfl) ?_ | refine region_rule (fun KK hKK => ?_) | refine hKK _ _ ?_ | refine And.intro (Eq.refl true) ?_ | refine Exists.intro _ (And.intro (wI (by omega)) ?_) | refine Exists.intro _ (And.intro (wU (by omega)) ?_) | refine Exists.intro _ (And.intro ⟨rfl, by omega⟩ ?_) | refine Exists.intro _ (And.intro rfl ?_) | refine And.intro rfl ?_ | refine And.intro ⟨rfl, rfl⟩ ?_ | ((refine And.intro (fun _ => ?_) (fun _ => ?_)) <;> try (exfalso; omega))))
    refine Exists.intro (i + 1) (Exists.intro [0, 1, 2, 5] (And.intro ⟨by omega, (by show na - (i + 1) < na - i; omega)⟩ ⟨⟨rfl, rfl, rfl, rfl, rfl, rfl, trivial⟩, ⟨rfl, rfl, rfl, rfl, trivial⟩, rfl⟩))
  subst h9
  (repeat' (first | refine And.intro (neI rfl) ?_ | refine And.intro ⟨rfl, leR rfl, onesR rfl⟩ ?_ | refine And.intro ⟨rfl, leR rfl⟩ ?_ | refine draw_rule2 hfol (fun KK hKK => ?_) | refine hKK _ _ _ (by kernel_rfl) ?_ | refine region_rule (fun KK hKK => ?_) | refine hKK _ _ ?_ | refine And.intro (Eq.refl true) ?_ | refine Exists.intro _ (And.intro (wI (by omega)) ?_) | refine Exists.intro _ (And.intro (wU (by omega)) ?_) | refine Exists.intro _ (And.intro ⟨rfl, by omega⟩ ?_) | refine Exists.intro _ (And.intro rfl ?_) | refine And.intro rfl ?_ | refine And.intro ⟨rfl, rfl⟩ ?_ | ((refine And.intro (fun _ => ?_) (fun _ => ?_)) <;> try (exfalso; omega))))
  refine loop_rule (α := Nat) (fun k => k ≤ nb)
    (fun k => [(2, .ptr 0 0), (3, .ptr 1 0), (4, .ptr 2 0), (6, .sl 3), (7, vi σ), (9, vi k)]) (fun k => [.pc (pcl i a) T_i_Partition, .pc (pcl nb b) T_i_Partition, .pc (pcl 0 (List.replicate 8 0)) T_i_Partition, .pr T_int64 1 (σ * (i + nb) + (i + k)) (il (gU i nb a b) (σ * (i + nb) + (i + k)))]) (fun k => nb - k) 0 [0, 1, 2, 3]
    (by omega) ⟨⟨rfl, rfl, rfl, rfl, rfl, rfl, trivial⟩, ⟨rfl, rfl, rfl, rfl, trivial⟩, rfl⟩ ?_
  rintro k g2 hk
  by_cases h9 : k = nb
  · subst h9
    (repeat' (first | refine And.intro (neI rfl) ?_ | refine And.intro ⟨rfl, leR rfl, onesR rfl⟩ ?_ | refine And.intro ⟨rfl, leR rfl⟩ ?_ | refine draw_rule2 hfol (fun KK hKK => ?_) | refine hKK _ _ _ (by kernel_rfl) ?_ | refine region_rule (fun KK hKK => ?_) | refine hKK _ _ ?_ | refine And.intro (Eq.refl true) ?_ | refine Exists.intro _ (And.intro (wI (by omega)) ?_) | refine Exists.intro _ (And.intro (wU (by omega)) ?_) | refine Exists.intro _ (And.intro ⟨rfl, by omega⟩ ?_) | refine Exists.intro _ (And.intro rfl ?_) | refine And.intro rfl ?_ | refine And.intro ⟨rfl, rfl⟩ ?_ | ((refine And.intro (fun _ => ?_) (fun _ => ?_)) <;> try (exfalso; omega))))
    have e : σ * (i + k) + (i + k) = (σ + 1) * (i + k) := (Nat.succ_mul σ (i + k)).symm
    refine Exists.intro (σ + 1) (Exists.intro [0, 1, 2, 3] (And.intro ⟨by omega, (by show 2 - (σ + 1) < 2 - σ; omega)⟩ ⟨⟨rfl, rfl, rfl, rfl, rfl, trivial⟩, ⟨rfl, rfl, rfl, by rw [e]; rfl, trivial⟩, rfl⟩))
  have hkl : k < nb := by omega
  have e1 : IntKind.i64.wrap (((σ * nb : Nat) : Int) + (k : Int)) = ((σ * nb + k : Nat) : Int) := wC (by omega) (by omega)
  have hb1 := getD_lt hbb (σ * nb + k)
  have hgu : il (gU i nb a b) (σ * (i + nb) + (i + k)) ++ [Value.int .i64 (8 + ((b.getD (σ * nb + k) 0 : Nat) : Int))] = il (gU i nb a b) (σ * (i + nb) + (i + k) + 1) := by rw [← gU_b (na := i) (a := a) hσ2 hkl]; exact il_succ
  (repeat' (first | refine Exists.intro _ (And.intro mb ?_) | refine Exists.intro _ (And.intro e1 ?_) | refine Exists.intro _ (And.intro (pcl_at (by omega)) ?_) | refine And.intro ⟨rfl, mkL rfl⟩ ?_ | refine Exists.intro [Value.int .i64 (8 + ((b.getD (σ * nb + k) 0 : Nat) : Int))] (And.intro (row1s (mkL' rfl)) ?_) | refine Exists.intro (il (gU i nb a b) (σ * (i + nb) + (i + k) + 1)) (And.intro ⟨rfl, onesR rfl, by omega, by omega, hgu⟩ ?_) | refine And.intro (neI rfl) ?_ | refine And.intro ⟨rfl, leR rfl, onesR rfl⟩ ?_ | refine And.intro ⟨rfl, leR rfl⟩ ?_ | refine draw_rule2 hfol (fun KK hKK => ?_) | refine hKK _ _ _ (by kernel_rfl) ?_ | refine region_rule (fun KK hKK => ?_) | refine hKK _ _ ?_ | refine And.intro (Eq.refl true) ?_ | refine Exists.intro _ (And.intro (wI (by omega)) ?_) | refine Exists.intro _ (And.intro (wU (by omega)) ?_) | refine Exists.intro _ (And.intro ⟨rfl, by omega⟩ ?_) | refine Exists.intro _ (And.intro rfl ?_) | refine And.intro rfl ?_ | refine And.intro ⟨rfl, rfl⟩ ?_ | ((refine And.intro (fun _ => ?_) (fun _ => ?_)) <;> try (exfalso; omega))))
  refine Exists.intro (k + 1) (Exists.intro [0, 1, 2, 5] (And.intro ⟨by omega, (by show nb - (k + 1) < nb - k; omega)⟩ ⟨⟨rfl, rfl, rfl, rfl, rfl, rfl, trivial⟩, ⟨rfl, rfl, rfl, rfl, trivial⟩, rfl⟩))
end Go.Proofs.Ytpangmameocfmaa.VE.P
