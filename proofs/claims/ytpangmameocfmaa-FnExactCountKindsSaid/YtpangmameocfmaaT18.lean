/- Contracts of functions of the given program, for all arguments that the contract names; see each theorem. -/
import Derived.Test.YtpangmameocfmaaT17
set_option linter.all false
namespace Go.Proofs.Ytpangmameocfmaa.VE.P
open Go
set_option maxHeartbeats 800000
set_option maxRecDepth 100000

theorem gU_a {na nb : Nat} {a b : List Nat} {σ i : Nat} (hσ : σ < 2) (hi : i < na) : gU na nb a b (σ * (na + nb) + i) = ((a.getD (σ * na + i) 0 : Nat) : Int) := by
  obtain rfl | rfl : σ = 0 ∨ σ = 1 := by omega
  · simp only [Nat.zero_mul, Nat.zero_add, gU, if_pos (show i < na + nb by omega), if_pos hi]
  · simp only [Nat.one_mul, gU, if_neg (show ¬ na + nb + i < na + nb by omega), Nat.add_sub_cancel_left, if_pos hi]
theorem gU_b {na nb : Nat} {a b : List Nat} {σ i : Nat} (hσ : σ < 2) (hi : i < nb) : gU na nb a b (σ * (na + nb) + (na + i)) = 8 + ((b.getD (σ * nb + i) 0 : Nat) : Int) := by
  obtain rfl | rfl : σ = 0 ∨ σ = 1 := by omega
  · simp only [Nat.zero_mul, Nat.zero_add, gU, if_pos (show na + i < na + nb by omega), if_neg (show ¬ na + i < na by omega), Nat.add_sub_cancel_left]
  · simp only [Nat.one_mul, gU, if_neg (show ¬ na + nb + (na + i) < na + nb by omega), Nat.add_sub_cancel_left, if_neg (show ¬ na + i < na by omega), show nb + (na + i) - na = nb + i by omega]

theorem fill_len {c A : List Value} {N L : Nat} (h : c.length = L) (hA : A.length = N) (hL : N ≤ L) : (c.take (0 * N) ++ A ++ c.drop (0 * N + N)).length = L := by
  simp; omega
theorem row2 {c : List Value} {p q : Int × List Nat} {N : Nat} (h : c.length = 2 * N) (hp : (pcl p.1 p.2).length = N) (hq : (pcl q.1 q.2).length = N) :
    (c.take (0 * N) ++ pcl p.1 p.2 ++ c.drop (0 * N + N)).take (1 * N) ++ pcl q.1 q.2 ++ (c.take (0 * N) ++ pcl p.1 p.2 ++ c.drop (0 * N + N)).drop (1 * N + N) = rowP [p, q] := by
  have e : c.take (0 * N) ++ pcl p.1 p.2 ++ c.drop (0 * N + N) = pcl p.1 p.2 ++ c.drop N := by simp
  rw [e, Nat.one_mul, List.take_append_of_le_length (by omega), List.take_of_length_le (by omega), List.drop_of_length_le (by rw [List.length_append, List.length_drop, hp, h]; omega)]
  simp [rowP]
theorem mk_len {z : Array Value} {n : Nat} : (madeCells z n).toList.length = n := by rw [Array.length_toList, size_madeCells]

def unionR (sa : Int) (a : List Nat) (sb : Int) (b : List Nat) : Int × List Nat × Int :=
  if isPi sa a = true ∧ isPi sb b = true then (if sa + sb > 4 then (0, List.replicate 8 0, 3) else (sa + sb, nm (gU sa.toNat sb.toNat a b) (sa.toNat + sb.toNat), 0)) else (0, List.replicate 8 0, 1)

theorem s_iUnion (sa : Int) (a : List Nat) (ha : a.length = 8) (hab : ∀ x ∈ a, x < 256) (sb : Int) (b : List Nat) (hb : b.length = 8) (hbb : ∀ x ∈ b, x < 256) : Spec Try.prog n_i_UnionPartition [pv sa a, pv sb b] [] (prV (unionR sa a sb b)) [] := by
  have hq := s_bad [(sa, a), (sb, b)] (fun p hp => by simp at hp; rcases hp with rfl | rfl; exact ⟨ha, hab⟩; exact ⟨hb, hbb⟩) (by simp)
  have hr : unionR sa a sb b = if isPi sa a = true ∧ isPi sb b = true then (if sa + sb > 4 then (0, List.replicate 8 0, 3) else (sa + sb, nm (gU sa.toNat sb.toNat a b) (sa.toNat + sb.toNat), 0)) else (0, List.replicate 8 0, 1) := rfl
  refine SpecW.of_EV hf_i_UnionPartition hc_i_UnionPartition rfl rfl rfl fun w0 B ρ0 _ => ?_
  by_cases hv : isPi sa a = true ∧ isPi sb b = true
  rotate_left
  · rw [if_neg hv] at hr
    have hq2 : ([(sa, a), (sb, b)].any fun p => !isPi p.1 p.2) = true := by
      simp only [List.any_cons, List.any_nil, Bool.or_false]
      cases h1 : isPi sa a <;> cases h2 : isPi sb b <;> simp [h1, h2] at hv ⊢
    rw [hq2] at hq
    (repeat' (first | refine hq.read [3] rfl ⟨rfl, trivial⟩ ?_ | refine Exists.intro (pcl sa a) (And.intro ⟨pcl_len ha, pcl_all ha⟩ ?_) | refine Exists.intro (pcl sb b) (And.intro ⟨pcl_len hb, pcl_all hb⟩ ?_) | refine And.intro ⟨pcl_len ha, mkL rfl⟩ ?_ | refine And.intro ⟨pcl_len hb, Nat.le_of_eq (fill_len (N := 9) mk_len (pcl_len ha) (leR rfl)).symm⟩ ?_ | refine Exists.intro (rowP [(sa, a), (sb, b)]) (And.intro (row2 (N := 9) (p := (sa, a)) (q := (sb, b)) mk_len (pcl_len ha) (pcl_len hb)) ?_) | refine Exists.intro (pcl 0 (List.replicate 8 0)) (And.intro ⟨leR rfl, rfl⟩ ?_) | refine Exists.intro (pcl 0 (List.replicate 8 0)) (And.intro ⟨rfl, rfl⟩ ?_) | refine And.intro (neI rfl) ?_ | refine And.intro ⟨rfl, leR rfl, onesR rfl⟩ ?_ | refine And.intro ⟨rfl, leR rfl⟩ ?_ | refine draw_rule2 hfol (fun KK hKK => ?_) | refine hKK _ _ _ (by kernel_rfl) ?_ | refine region_rule (fun KK hKK => ?_) | refine hKK _ _ ?_ | refine And.intro (Eq.refl true) ?_ | refine Exists.intro _ (And.intro (wI (by omega)) ?_) | refine Exists.intro _ (And.intro (wU (by omega)) ?_) | refine Exists.intro _ (And.intro ⟨rfl, by omega⟩ ?_) | refine Exists.intro _ (And.intro rfl ?_) | refine And.intro rfl ?_ | refine And.intro ⟨rfl, rfl⟩ ?_ | ((refine And.intro (fun _ => ?_) (fun _ => ?_)) <;> try (exfalso; omega))))
    exact Exists.intro [] (And.intro (by rw [hr]; rfl) (And.intro trivial rfl))
  rw [if_pos hv] at hr
  obtain ⟨hva, hvb⟩ := hv
  have hq2 : ([(sa, a), (sb, b)].any fun p => !isPi p.1 p.2) = false := by simp [hva, hvb]
  rw [hq2] at hq
  obtain ⟨na, rfl, hna1, hna⟩ := isPi_size hva
  obtain ⟨nb, rfl, hnb1, hnb⟩ := isPi_size hvb
  by_cases h4 : (na : Int) + (nb : Int) > 4
  · rw [if_pos h4] at hr
    (repeat' (first | refine hq.read [3] rfl ⟨rfl, trivial⟩ ?_ | refine Exists.intro (pcl na a) (And.intro ⟨pcl_len ha, pcl_all ha⟩ ?_) | refine Exists.intro (pcl nb b) (And.intro ⟨pcl_len hb, pcl_all hb⟩ ?_) | refine And.intro ⟨pcl_len ha, mkL rfl⟩ ?_ | refine And.intro ⟨pcl_len hb, Nat.le_of_eq (fill_len (N := 9) mk_len (pcl_len ha) (leR rfl)).symm⟩ ?_ | refine Exists.intro (rowP [((na : Int), a), ((nb : Int), b)]) (And.intro (row2 (N := 9) (p := ((na : Int), a)) (q := ((nb : Int), b)) mk_len (pcl_len ha) (pcl_len hb)) ?_) | refine Exists.intro (pcl 0 (List.replicate 8 0)) (And.intro ⟨leR rfl, rfl⟩ ?_) | refine Exists.intro (pcl 0 (List.replicate 8 0)) (And.intro ⟨rfl, rfl⟩ ?_) | refine And.intro (neI rfl) ?_ | refine And.intro ⟨rfl, leR rfl, onesR rfl⟩ ?_ | refine And.intro ⟨rfl, leR rfl⟩ ?_ | refine draw_rule2 hfol (fun KK hKK => ?_) | refine hKK _ _ _ (by kernel_rfl) ?_ | refine region_rule (fun KK hKK => ?_) | refine hKK _ _ ?_ | refine And.intro (Eq.refl true) ?_ | refine Exists.intro _ (And.intro (wI (by omega)) ?_) | refine Exists.intro _ (And.intro (wU (by omega)) ?_) | refine Exists.intro _ (And.intro ⟨rfl, by omega⟩ ?_) | refine Exists.intro _ (And.intro rfl ?_) | refine And.intro rfl ?_ | refine And.intro ⟨rfl, rfl⟩ ?_ | ((refine And.intro (fun _ => ?_) (fun _ => ?_)) <;> try (exfalso; omega))))
    exact Exists.intro [] (And.intro (by rw [hr]; rfl) (And.intro trivial rfl))
  · rw [if_neg h4] at hr
    have hnm := s_named_union (na + nb) na nb a b ha hab hb hbb hna1 hnb1 rfl (by omega)
    have hs : IntKind.i64.wrap ((na : Int) + (nb : Int)) = ((na + nb : Nat) : Int) := wC (by omega) (by omega)
    (repeat' (first | refine hq.read [3] rfl ⟨rfl, trivial⟩ ?_ | refine (s_n na a).read [0] rfl ⟨rfl, trivial⟩ ?_ | refine (s_n nb b).read [1] rfl ⟨rfl, trivial⟩ ?_ | refine hnm.read [4, 5, 0, 1] rfl ⟨rfl, rfl, rfl, rfl, trivial⟩ ?_ | refine Exists.intro _ (And.intro hs ?_) | refine Exists.intro (pcl na a) (And.intro ⟨pcl_len ha, pcl_all ha⟩ ?_) | refine Exists.intro (pcl nb b) (And.intro ⟨pcl_len hb, pcl_all hb⟩ ?_) | refine And.intro ⟨pcl_len ha, mkL rfl⟩ ?_ | refine And.intro ⟨pcl_len hb, Nat.le_of_eq (fill_len (N := 9) mk_len (pcl_len ha) (leR rfl)).symm⟩ ?_ | refine Exists.intro (rowP [((na : Int), a), ((nb : Int), b)]) (And.intro (row2 (N := 9) (p := ((na : Int), a)) (q := ((nb : Int), b)) mk_len (pcl_len ha) (pcl_len hb)) ?_) | refine Exists.intro [Value.int .i64 na] (And.intro ⟨leR rfl, rfl⟩ ?_) | refine Exists.intro [Value.int .i64 nb] (And.intro ⟨leR rfl, rfl⟩ ?_) | refine And.intro ⟨pcl_len nm_len, leR rfl, pcl_ones⟩ ?_ | refine Exists.intro (pcl ((na + nb : Nat) : Int) (nm (gU na nb a b) (na + nb))) (And.intro ⟨leR rfl, spl0 (leR rfl)⟩ ?_) | refine Exists.intro (pcl ((na + nb : Nat) : Int) (nm (gU na nb a b) (na + nb))) (And.intro ⟨pcl_len nm_len, pcl_all nm_len⟩ ?_) | refine And.intro (neI rfl) ?_ | refine And.intro ⟨rfl, leR rfl, onesR rfl⟩ ?_ | refine And.intro ⟨rfl, leR rfl⟩ ?_ | refine draw_rule2 hfol (fun KK hKK => ?_) | refine hKK _ _ _ (by kernel_rfl) ?_ | refine region_rule (fun KK hKK => ?_) | refine hKK _ _ ?_ | refine And.intro (Eq.refl true) ?_ | refine Exists.intro _ (And.intro (wI (by omega)) ?_) | refine Exists.intro _ (And.intro (wU (by omega)) ?_) | refine Exists.intro _ (And.intro ⟨rfl, by omega⟩ ?_) | refine Exists.intro _ (And.intro rfl ?_) | refine And.intro rfl ?_ | refine And.intro ⟨rfl, rfl⟩ ?_ | ((refine And.intro (fun _ => ?_) (fun _ => ?_)) <;> try (exfalso; omega))))
    exact Exists.intro [] (And.intro (by rw [hr]; rfl) (And.intro trivial rfl))
end Go.Proofs.Ytpangmameocfmaa.VE.P
