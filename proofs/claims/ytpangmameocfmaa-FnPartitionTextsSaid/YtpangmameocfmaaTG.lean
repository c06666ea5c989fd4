/- Contracts of functions of the given program, for all arguments that the contract names; see each theorem. -/
import Derived.Test.YtpangmameocfmaaTF
set_option linter.all false
namespace Go.Proofs.Ytpangmameocfmaa.VE.P
open Go
set_option maxHeartbeats 400000
set_option maxRecDepth 100000

/-- The labels of two that lie side by side. -/
def gU (na nb : Nat) (a b : List Nat) (i : Nat) : Int :=
  if i < na + nb then (if i < na then ((a.getD i 0 : Nat) : Int) else 8 + ((b.getD (i - na) 0 : Nat) : Int))
  else (if i - (na + nb) < na then ((a.getD (na + (i - (na + nb))) 0 : Nat) : Int) else 8 + ((b.getD (nb + (i - (na + nb)) - na) 0 : Nat) : Int))

theorem s_union1 (na nb : Nat) (a b : List Nat) (i : Nat) (ha : a.length = 8) (hab : ∀ x ∈ a, x < 256) (hb : b.length = 8) (hbb : ∀ x ∈ b, x < 256) (hn1 : 1 ≤ na) (hn2 : 1 ≤ nb) (hn : na + nb ≤ 4) (hi : i < 2 * (na + nb)) :
    Spec Try.prog n_i_UnionPartition_1 [vi i, .ptr 0 0, .ptr 1 0, .ptr 2 0, .ptr 3 0] [.pc [.int .i64 na] T_int, .pc [.int .i64 nb] T_int, .pc (pcl na a) T_i_Partition, .pc (pcl nb b) T_i_Partition] (vi (gU na nb a b i))
      [.pc [.int .i64 na] T_int, .pc [.int .i64 nb] T_int, .pc (pcl na a) T_i_Partition, .pc (pcl nb b) T_i_Partition] := by
  refine SpecW.of_EV hf_i_UnionPartition_1 hc_i_UnionPartition_1 rfl rfl rfl fun w0 B ρ0 _ => ?_
  have hne : (na : Int) + (nb : Int) ≠ 0 := by omega
  have hdN := tdN i (na + nb)
  have hrN := tmN i (na + nb)
  rw [Int.natCast_add] at hdN hrN
  by_cases h : i < na + nb
  · have e1 : IntKind.i64.wrap (Int.tdiv (i : Int) ((na : Int) + (nb : Int))) = 0 := by
      rw [hdN, Nat.div_eq_of_lt h]; rfl
    have e2 : Int.tmod (i : Int) ((na : Int) + (nb : Int)) = (i : Int) := by rw [hrN, Nat.mod_eq_of_lt h]
    have e3 : ∀ x : Nat, IntKind.i64.wrap (0 * (x : Int)) = 0 := fun x => by rw [Int.zero_mul]; rfl
    have e4 : IntKind.i64.wrap (0 + (i : Int)) = (i : Int) := wC (by omega) (by omega)
    by_cases hk : i < na
    · have hr : gU na nb a b i = ((a.getD i 0 : Nat) : Int) := by simp [gU, h, hk]
      have hb1 := getD_lt hab i
      rw [hr]
      (repeat' (first | refine And.intro hne ?_ | refine Exists.intro _ (And.intro e1 ?_) | refine Exists.intro _ (And.intro e2 ?_) | refine Exists.intro _ (And.intro (e3 na) ?_) | refine Exists.intro _ (And.intro e4 ?_) | refine (s_part na a i ha hab (by omega)).read [2] rfl ⟨rfl, trivial⟩ ?_ | refine And.intro (neI rfl) ?_ | refine And.intro ⟨rfl, leR rfl, onesR rfl⟩ ?_ | refine And.intro ⟨rfl, leR rfl⟩ ?_ | refine draw_rule2 hfol (fun KK hKK => ?_) | refine hKK _ _ _ (by kernel_rfl) ?_ | refine region_rule (fun KK hKK => ?_) | refine hKK _ _ ?_ | refine And.intro (Eq.refl true) ?_ | refine Exists.intro _ (And.intro (wI (by omega)) ?_) | refine Exists.intro _ (And.intro (wU (by omega)) ?_) | refine Exists.intro _ (And.intro ⟨rfl, by omega⟩ ?_) | refine Exists.intro _ (And.intro rfl ?_) | refine And.intro rfl ?_ | refine And.intro ⟨rfl, rfl⟩ ?_ | ((refine And.intro (fun _ => ?_) (fun _ => ?_)) <;> try (exfalso; omega))))
      exact Exists.intro [0, 1, 2, 3] (And.intro rfl (And.intro ⟨rfl, rfl, rfl, rfl, trivial⟩ rfl))
    · have hr : gU na nb a b i = 8 + ((b.getD (i - na) 0 : Nat) : Int) := by simp [gU, h, hk]
      have hb1 := getD_lt hbb (i - na)
      have e5 : IntKind.i64.wrap ((i : Int) - (na : Int)) = ((i - na : Nat) : Int) := wC (by omega) (by omega)
      rw [hr]
      (repeat' (first | refine And.intro hne ?_ | refine Exists.intro _ (And.intro e1 ?_) | refine Exists.intro _ (And.intro e2 ?_) | refine Exists.intro _ (And.intro (e3 nb) ?_) | refine Exists.intro _ (And.intro e4 ?_) | refine Exists.intro _ (And.intro e5 ?_) | refine (s_part nb b (i - na) hb hbb (by omega)).read [3] rfl ⟨rfl, trivial⟩ ?_ | refine And.intro (neI rfl) ?_ | refine And.intro ⟨rfl, leR rfl, onesR rfl⟩ ?_ | refine And.intro ⟨rfl, leR rfl⟩ ?_ | refine draw_rule2 hfol (fun KK hKK => ?_) | refine hKK _ _ _ (by kernel_rfl) ?_ | refine region_rule (fun KK hKK => ?_) | refine hKK _ _ ?_ | refine And.intro (Eq.refl true) ?_ | refine Exists.intro _ (And.intro (wI (by omega)) ?_) | refine Exists.intro _ (And.intro (wU (by omega)) ?_) | refine Exists.intro _ (And.intro ⟨rfl, by omega⟩ ?_) | refine Exists.intro _ (And.intro rfl ?_) | refine And.intro rfl ?_ | refine And.intro ⟨rfl, rfl⟩ ?_ | ((refine And.intro (fun _ => ?_) (fun _ => ?_)) <;> try (exfalso; omega))))
      exact Exists.intro [0, 1, 2, 3] (And.intro rfl (And.intro ⟨rfl, rfl, rfl, rfl, trivial⟩ rfl))
  · have h1 : i / (na + nb) = 1 := by
      rw [Nat.div_eq_iff (by omega)]; omega
    have h2 : i % (na + nb) = i - (na + nb) := by
      rw [Nat.mod_eq_sub_mod (by omega), Nat.mod_eq_of_lt (by omega)]
    have e1 : IntKind.i64.wrap (Int.tdiv (i : Int) ((na : Int) + (nb : Int))) = 1 := by
      rw [hdN, h1]; rfl
    have e2 : Int.tmod (i : Int) ((na : Int) + (nb : Int)) = ((i - (na + nb) : Nat) : Int) := by rw [hrN, h2]
    have e3 : ∀ x : Nat, x ≤ 4 → IntKind.i64.wrap (1 * (x : Int)) = (x : Int) := fun x hx => wC (by omega) (by omega)
    by_cases hk : i - (na + nb) < na
    · have hr : gU na nb a b i = ((a.getD (na + (i - (na + nb))) 0 : Nat) : Int) := by simp only [gU, if_neg h, if_pos hk]
      have hb1 := getD_lt hab (na + (i - (na + nb)))
      have e4 : IntKind.i64.wrap ((na : Int) + ((i - (na + nb) : Nat) : Int)) = ((na + (i - (na + nb)) : Nat) : Int) := wC (by omega) (by omega)
      rw [hr]
      (repeat' (first | refine And.intro hne ?_ | refine Exists.intro _ (And.intro e1 ?_) | refine Exists.intro _ (And.intro e2 ?_) | refine Exists.intro _ (And.intro (e3 na (by omega)) ?_) | refine Exists.intro _ (And.intro e4 ?_) | refine (s_part na a (na + (i - (na + nb))) ha hab (by omega)).read [2] rfl ⟨rfl, trivial⟩ ?_ | refine And.intro (neI rfl) ?_ | refine And.intro ⟨rfl, leR rfl, onesR rfl⟩ ?_ | refine And.intro ⟨rfl, leR rfl⟩ ?_ | refine draw_rule2 hfol (fun KK hKK => ?_) | refine hKK _ _ _ (by kernel_rfl) ?_ | refine region_rule (fun KK hKK => ?_) | refine hKK _ _ ?_ | refine And.intro (Eq.refl true) ?_ | refine Exists.intro _ (And.intro (wI (by omega)) ?_) | refine Exists.intro _ (And.intro (wU (by omega)) ?_) | refine Exists.intro _ (And.intro ⟨rfl, by omega⟩ ?_) | refine Exists.intro _ (And.intro rfl ?_) | refine And.intro rfl ?_ | refine And.intro ⟨rfl, rfl⟩ ?_ | ((refine And.intro (fun _ => ?_) (fun _ => ?_)) <;> try (exfalso; omega))))
      exact Exists.intro [0, 1, 2, 3] (And.intro rfl (And.intro ⟨rfl, rfl, rfl, rfl, trivial⟩ rfl))
    · have hr : gU na nb a b i = 8 + ((b.getD (nb + (i - (na + nb)) - na) 0 : Nat) : Int) := by simp only [gU, if_neg h, if_neg hk]
      have hb1 := getD_lt hbb (nb + (i - (na + nb)) - na)
      have e4 : IntKind.i64.wrap ((nb : Int) + ((i - (na + nb) : Nat) : Int)) = ((nb + (i - (na + nb)) : Nat) : Int) := wC (by omega) (by omega)
      have e5 : IntKind.i64.wrap (((nb + (i - (na + nb)) : Nat) : Int) - (na : Int)) = ((nb + (i - (na + nb)) - na : Nat) : Int) := wC (by omega) (by omega)
      rw [hr]
      (repeat' (first | refine And.intro hne ?_ | refine Exists.intro _ (And.intro e1 ?_) | refine Exists.intro _ (And.intro e2 ?_) | refine Exists.intro _ (And.intro (e3 nb (by omega)) ?_) | refine Exists.intro _ (And.intro e4 ?_) | refine Exists.intro _ (And.intro e5 ?_) | refine (s_part nb b (nb + (i - (na + nb)) - na) hb hbb (by omega)).read [3] rfl ⟨rfl, trivial⟩ ?_ | refine And.intro (neI rfl) ?_ | refine And.intro ⟨rfl, leR rfl, onesR rfl⟩ ?_ | refine And.intro ⟨rfl, leR rfl⟩ ?_ | refine draw_rule2 hfol (fun KK hKK => ?_) | refine hKK _ _ _ (by kernel_rfl) ?_ | refine region_rule (fun KK hKK => ?_) | refine hKK _ _ ?_ | refine And.intro (Eq.refl true) ?_ | refine Exists.intro _ (And.intro (wI (by omega)) ?_) | refine Exists.intro _ (And.intro (wU (by omega)) ?_) | refine Exists.intro _ (And.intro ⟨rfl, by omega⟩ ?_) | refine Exists.intro _ (And.intro rfl ?_) | refine And.intro rfl ?_ | refine And.intro ⟨rfl, rfl⟩ ?_ | ((refine And.intro (fun _ => ?_) (fun _ => ?_)) <;> try (exfalso; omega))))
      exact Exists.intro [0, 1, 2, 3] (And.intro rfl (And.intro ⟨rfl, rfl, rfl, rfl, trivial⟩ rfl))

theorem s_named_union (n na nb : Nat) (a b : List Nat) (ha : a.length = 8) (hab : ∀ x ∈ a, x < 256) (hb : b.length = 8) (hbb : ∀ x ∈ b, x < 256) (hn1 : 1 ≤ na) (hn2 : 1 ≤ nb) (hnn : n = na + nb) (hn : n ≤ 4) :
    Spec Try.prog n_i_named [vi n, .fn (.func n_i_UnionPartition_1) [] [.ptr 0 0, .ptr 1 0, .ptr 2 0, .ptr 3 0]] [.pc [.int .i64 na] T_int, .pc [.int .i64 nb] T_int, .pc (pcl na a) T_i_Partition, .pc (pcl nb b) T_i_Partition] (pv n (nm (gU na nb a b) n)) [.pc [.int .i64 na] T_int, .pc [.int .i64 nb] T_int, .pc (pcl na a) T_i_Partition, .pc (pcl nb b) T_i_Partition] := by
  refine SpecW.of_EV hf_i_named hc_i_named rfl rfl rfl fun w0 B ρ0 _ => ?_
  (repeat' (first | refine makeMap_i rfl ?_ | refine Exists.intro (pcl n (List.replicate 8 0)) (And.intro ⟨leR rfl, rfl⟩ ?_) | refine And.intro (neI rfl) ?_ | refine And.intro ⟨rfl, leR rfl, onesR rfl⟩ ?_ | refine And.intro ⟨rfl, leR rfl⟩ ?_ | refine draw_rule2 hfol (fun KK hKK => ?_) | refine hKK _ _ _ (by kernel_rfl) ?_ | refine region_rule (fun KK hKK => ?_) | refine hKK _ _ ?_ | refine And.intro (Eq.refl true) ?_ | refine Exists.intro _ (And.intro (wI (by omega)) ?_) | refine Exists.intro _ (And.intro (wU (by omega)) ?_) | refine Exists.intro _ (And.intro ⟨rfl, by omega⟩ ?_) | refine Exists.intro _ (And.intro rfl ?_) | refine And.intro rfl ?_ | refine And.intro ⟨rfl, rfl⟩ ?_ | ((refine And.intro (fun _ => ?_) (fun _ => ?_)) <;> try (exfalso; omega))))
  refine loop_rule (α := Nat × List Int × List Nat) (fun (i, ks, out) => i ≤ 2 * n ∧ out.length = 8 ∧ ks.length ≤ i ∧ nmL (gU na nb a b) (2 * n - i) i ks out = nm (gU na nb a b) n)
      (fun (i, ks, out) => [(1, .fn (.func n_i_UnionPartition_1) [] [.ptr 0 0, .ptr 1 0, .ptr 2 0, .ptr 3 0]), (4, .ptr 4 0), (5, .ptr 6 0), (6, .mp 5), (14, vi (2 * n)), (15, vi i)])
      (fun (i, ks, out) => [.pc [.int .i64 na] T_int, .pc [.int .i64 nb] T_int, .pc (pcl na a) T_i_Partition, .pc (pcl nb b) T_i_Partition, .pc (pcl 0 (List.replicate 8 0)) T_i_Partition, .mo (entL 0 ks), .pc (pcl n out) T_i_Partition]) (fun (i, _, _) => 2 * n - i) (0, [], List.replicate 8 0) [0, 1, 2, 3, 4, 5, 6]
      ⟨by omega, by simp, by simp, rfl⟩ ⟨⟨rfl, rfl, rfl, rfl, rfl, rfl, trivial⟩, ⟨rfl, rfl, rfl, rfl, rfl, rfl, rfl, trivial⟩, goodB_via (by simp [idsO, O.ids, entL_ids]; rfl) rfl⟩ ?_
  rintro ⟨i, ks, out⟩ g ⟨hi, hout, hks, hR⟩
  by_cases h8 : i = 2 * n
  · subst h8
    rw [Nat.sub_self] at hR
    replace hR : out = nm (gU na nb a b) n := hR
    (repeat' (first | refine Exists.intro (pcl n out) (And.intro ⟨pcl_len hout, pcl_all hout⟩ ?_) | refine And.intro ⟨pcl_len hout, leR rfl, pcl_ones⟩ ?_ | refine Exists.intro (pcl n out) (And.intro ⟨leR rfl, spl0 (leR rfl)⟩ ?_) | refine And.intro (neI rfl) ?_ | refine And.intro ⟨rfl, leR rfl, onesR rfl⟩ ?_ | refine And.intro ⟨rfl, leR rfl⟩ ?_ | refine draw_rule2 hfol (fun KK hKK => ?_) | refine hKK _ _ _ (by kernel_rfl) ?_ | refine region_rule (fun KK hKK => ?_) | refine hKK _ _ ?_ | refine And.intro (Eq.refl true) ?_ | refine Exists.intro _ (And.intro (wI (by omega)) ?_) | refine Exists.intro _ (And.intro (wU (by omega)) ?_) | refine Exists.intro _ (And.intro ⟨rfl, by omega⟩ ?_) | refine Exists.intro _ (And.intro rfl ?_) | refine And.intro rfl ?_ | refine And.intro ⟨rfl, rfl⟩ ?_ | ((refine And.intro (fun _ => ?_) (fun _ => ?_)) <;> try (exfalso; omega))))
    exact Exists.intro [0, 1, 2, 3] (And.intro (by rw [← hR]; rfl) (And.intro ⟨rfl, rfl, rfl, rfl, trivial⟩ rfl))
  obtain ⟨d, hd⟩ : ∃ d, 2 * n - i = d + 1 := ⟨2 * n - i - 1, by omega⟩
  have hd' : 2 * n - (i + 1) = d := by omega
  have hil : i < 2 * n := by omega
  have hcall := s_union1 na nb a b i ha hab hb hbb hn1 hn2 (by omega) (by omega)
  rw [hd] at hR
  unfold nmL at hR
  try simp only [] at hR
  cases hf : nmF ((gU na nb a b) i) ks 0 with
  | some j =>
    have hj := nmF_lt hf
    simp only [hf] at hR
    have hfi : findI ((gU na nb a b) i) (entL 0 ks) = some (some (vu j)) := by rw [entL_find, hf]; rfl
    (repeat' (first | refine hcall.read [0, 1, 2, 3] rfl ⟨rfl, rfl, rfl, rfl, trivial⟩ ?_ | refine look_i rfl rfl rfl rfl rfl rfl rfl rfl hfi ?_ | refine Exists.intro (pcl n (out.set i j)) (And.intro ⟨by rw [pcl_len hout]; omega, pcl_set⟩ ?_) | refine And.intro (neI rfl) ?_ | refine And.intro ⟨rfl, leR rfl, onesR rfl⟩ ?_ | refine And.intro ⟨rfl, leR rfl⟩ ?_ | refine draw_rule2 hfol (fun KK hKK => ?_) | refine hKK _ _ _ (by kernel_rfl) ?_ | refine region_rule (fun KK hKK => ?_) | refine hKK _ _ ?_ | refine And.intro (Eq.refl true) ?_ | refine Exists.intro _ (And.intro (wI (by omega)) ?_) | refine Exists.intro _ (And.intro (wU (by omega)) ?_) | refine Exists.intro _ (And.intro ⟨rfl, by omega⟩ ?_) | refine Exists.intro _ (And.intro rfl ?_) | refine And.intro rfl ?_ | refine And.intro ⟨rfl, rfl⟩ ?_ | ((refine And.intro (fun _ => ?_) (fun _ => ?_)) <;> try (exfalso; omega))))
    refine Exists.intro (i + 1, ks, out.set i j) (Exists.intro [0, 1, 2, 3, 4, 5, 6] (And.intro ⟨⟨by omega, by simpa using hout, by omega, by rw [hd', hR]⟩, (by show 2 * n - (i + 1) < 2 * n - i; omega)⟩ ⟨⟨rfl, rfl, rfl, rfl, rfl, rfl, trivial⟩, ⟨rfl, rfl, rfl, rfl, rfl, congrArg some entL_mo, rfl, trivial⟩, goodB_via (by simp [idsO, O.ids, entL_ids]; rfl) rfl⟩))
  | none =>
    simp only [hf] at hR
    have hfi : findI ((gU na nb a b) i) (entL 0 ks) = some none := by rw [entL_find, hf]; rfl
    have hset : setI ((gU na nb a b) i) (vu (ks.length : Nat)) (entL 0 ks) = entL 0 (ks ++ [(gU na nb a b) i]) := by have := entL_set (j := 0) hf; rwa [Nat.zero_add] at this
    (repeat' (first | refine hcall.read [0, 1, 2, 3] rfl ⟨rfl, rfl, rfl, rfl, trivial⟩ ?_ | refine look_i rfl rfl rfl rfl rfl rfl rfl rfl hfi ?_ | refine upd_to rfl rfl rfl rfl rfl rfl rfl rfl hfi hset ?_ | refine Exists.intro (ks.length : Int) (And.intro (by rw [entL_len]; exact wU (by omega)) ?_) | refine Exists.intro (pcl n (out.set i ks.length)) (And.intro ⟨by rw [pcl_len hout]; omega, pcl_set⟩ ?_) | refine And.intro (neI rfl) ?_ | refine And.intro ⟨rfl, leR rfl, onesR rfl⟩ ?_ | refine And.intro ⟨rfl, leR rfl⟩ ?_ | refine draw_rule2 hfol (fun KK hKK => ?_) | refine hKK _ _ _ (by kernel_rfl) ?_ | refine region_rule (fun KK hKK => ?_) | refine hKK _ _ ?_ | refine And.intro (Eq.refl true) ?_ | refine Exists.intro _ (And.intro (wI (by omega)) ?_) | refine Exists.intro _ (And.intro (wU (by omega)) ?_) | refine Exists.intro _ (And.intro ⟨rfl, by omega⟩ ?_) | refine Exists.intro _ (And.intro rfl ?_) | refine And.intro rfl ?_ | refine And.intro ⟨rfl, rfl⟩ ?_ | ((refine And.intro (fun _ => ?_) (fun _ => ?_)) <;> try (exfalso; omega))))
    refine Exists.intro (i + 1, ks ++ [(gU na nb a b) i], out.set i ks.length) (Exists.intro [0, 1, 2, 3, 4, 5, 6] (And.intro ⟨⟨by omega, by simpa using hout, by simp; omega, by rw [hd', hR]⟩, (by show 2 * n - (i + 1) < 2 * n - i; omega)⟩ ⟨⟨rfl, rfl, rfl, rfl, rfl, rfl, trivial⟩, ⟨rfl, rfl, rfl, rfl, rfl, congrArg some entL_mo, rfl, trivial⟩, goodB_via (by simp [idsO, O.ids, entL_ids]; rfl) rfl⟩))

end Go.Proofs.Ytpangmameocfmaa.VE.P
namespace Go.Proofs.Ytpangmameocfmaa.VE.P
open Go
set_option maxHeartbeats 800000
set_option maxRecDepth 100000

theorem gU_a {na nb : Nat} {a b : List Nat} {σ i : Nat} (hσ : σ < 2) (hi : i < na) : gU na nb a b (σ * (na + nb) + i) = ((a.getD (σ * na + i) 0 : Nat) : Int) := by
  obtain rfl | rfl : σ = 0 ∨ σ = 1 := by omega
  · simp only [Nat.zero_mul, Nat.zero_add, gU, if_pos (show i < na + nb by omega), if_pos hi]
  · simp only [Nat.one_mul, gU, if_neg (show ¬ na + nb + i < na + nb by omega), Nat.add_sub_cancel_left, if_pos hi]
theorem gU_b {na nb : Nat} {a b : List Nat} {σ i : Nat} (hσ : σ < 2) (hi : i < nb) : gU na nb a b (σ * (na + nb) + (na + i)) = 8 + ((b.getD (σ * nb + i) 0 : Nat) : Int) := by
  obtain rfl | rfl : σ = 0 ∨ σ = 1 := by omega
  · simp only [Nat.zero_mul, Nat.zero_add, gU, if_pos (show na + i < na + nb by omega), if_neg (show ¬ na + i < na by omega), Nat.add_sub_cancel_left]
  · simp only [Nat.one_mul, gU, if_neg (show ¬ na + nb + (na + i) < na + nb by omega), Nat.add_sub_cancel_left, if_neg (show ¬ na + i < na by omega), show nb + (na + i) - na = nb + i by omega]

theorem fill_len {c A : List Value} {N L : Nat} (h : c.length = L) (hA : A.length = N) (hL : N ≤ L) : (c.take (0 * N) ++ A ++ c.drop (0 * N + N)).length = L := by
  simp; omega
theorem row2 {c : List Value} {p q : Int × List Nat} {N : Nat} (h : c.length = 2 * N) (hp : (pcl p.1 p.2).length = N) (hq : (pcl q.1 q.2).length = N) :
    (c.take (0 * N) ++ pcl p.1 p.2 ++ c.drop (0 * N + N)).take (1 * N) ++ pcl q.1 q.2 ++ (c.take (0 * N) ++ pcl p.1 p.2 ++ c.drop (0 * N + N)).drop (1 * N + N) = rowP [p, q] := by
  have e : c.take (0 * N) ++ pcl p.1 p.2 ++ c.drop (0 * N + N) = pcl p.1 p.2 ++ c.drop N := by simp
  rw [e, Nat.one_mul, List.take_append_of_le_length (by omega), List.take_of_length_le (by omega), List.drop_of_length_le (by rw [List.length_append, List.length_drop, hp, h]; omega)]
  simp [rowP]
theorem mk_len {z : Array Value} {n : Nat} : (madeCells z n).toList.length = n := by rw [Array.length_toList, size_madeCells]

def unionR (sa : Int) (a : List Nat) (sb : Int) (b : List Nat) : Int × List Nat × Int :=
  if isPi sa a = true ∧ isPi sb b = true then (if sa + sb > 4 then (0, List.replicate 8 0, 3) else (sa + sb, nm (gU sa.toNat sb.toNat a b) (sa.toNat + sb.toNat), 0)) else (0, List.replicate 8 0, 1)

theorem s_iUnion (sa : Int) (a : List Nat) (ha : a.length = 8) (hab : ∀ x ∈ a, x < 256) (sb : Int) (b : List Nat) (hb : b.length = 8) (hbb : ∀ x ∈ b, x < 256) : Spec Try.prog n_i_UnionPartition [pv sa a, pv sb b] [] (prV (unionR sa a sb b)) [] := by
  have hq := s_bad [(sa, a), (sb, b)] (fun p hp => by simp at hp; rcases hp with rfl | rfl; exact ⟨ha, hab⟩; exact ⟨hb, hbb⟩) (by simp)
  have hr : unionR sa a sb b = if isPi sa a = true ∧ isPi sb b = true then (if sa + sb > 4 then (0, List.replicate 8 0, 3) else (sa + sb, nm (gU sa.toNat sb.toNat a b) (sa.toNat + sb.toNat), 0)) else (0, List.replicate 8 0, 1) := rfl
  refine SpecW.of_EV hf_i_UnionPartition hc_i_UnionPartition rfl rfl rfl fun w0 B ρ0 _ => ?_
  by_cases hv : isPi sa a = true ∧ isPi sb b = true
  rotate_left
  · rw [if_neg hv] at hr
    have hq2 : ([(sa, a), (sb, b)].any fun p => !isPi p.1 p.2) = true := by
      simp only [List.any_cons, List.any_nil, Bool.or_false]
      cases h1 : isPi sa a <;> cases h2 : isPi sb b <;> simp [h1, h2] at hv ⊢
    rw [hq2] at hq
    (repeat' (first | refine hq.read [3] rfl ⟨rfl, trivial⟩ ?_ | refine Exists.intro (pcl sa a) (And.intro ⟨pcl_len ha, pcl_all ha⟩ ?_) | refine Exists.intro (pcl sb b) (And.intro ⟨pcl_len hb, pcl_all hb⟩ ?_) | refine And.intro ⟨pcl_len ha, mkL rfl⟩ ?_ | refine And.intro ⟨pcl_len hb, Nat.le_of_eq (fill_len (N := 9) mk_len (pcl_len ha) (leR rfl)).symm⟩ ?_ | refine Exists.intro (rowP [(sa, a), (sb, b)]) (And.intro (row2 (N := 9) (p := (sa, a)) (q := (sb, b)) mk_len (pcl_len ha) (pcl_len hb)) ?_) | refine Exists.intro (pcl 0 (List.replicate 8 0)) (And.intro ⟨leR rfl, rfl⟩ ?_) | refine Exists.intro (pcl 0 (List.replicate 8 0)) (And.intro ⟨rfl, rfl⟩ ?_) | refine And.intro (neI rfl) ?_ | refine And.intro ⟨rfl, leR rfl, onesR rfl⟩ ?_ | refine And.intro ⟨rfl, leR rfl⟩ ?_ | refine draw_rule2 hfol (fun KK hKK => ?_) | refine hKK _ _ _ (by kernel_rfl) ?_ | refine region_rule (fun KK hKK => ?_) | refine hKK _ _ ?_ | refine And.intro (Eq.refl true) ?_ | refine Exists.intro _ (And.intro (wI (by omega)) ?_) | refine Exists.intro _ (And.intro (wU (by omega)) ?_) | refine Exists.intro _ (And.intro ⟨rfl, by omega⟩ ?_) | refine Exists.intro _ (And.intro rfl ?_) | refine And.intro rfl ?_ | refine And.intro ⟨rfl, rfl⟩ ?_ | ((refine And.intro (fun _ => ?_) (fun _ => ?_)) <;> try (exfalso; omega))))
    exact Exists.intro [] (And.intro (by rw [hr]; rfl) (And.intro trivial rfl))
  rw [if_pos hv] at hr
  obtain ⟨hva, hvb⟩ := hv
  have hq2 : ([(sa, a), (sb, b)].any fun p => !isPi p.1 p.2) = false := by simp [hva, hvb]
  rw [hq2] at hq
  obtain ⟨na, rfl, hna1, hna⟩ := isPi_size hva
  obtain ⟨nb, rfl, hnb1, hnb⟩ := isPi_size hvb
  by_cases h4 : (na : Int) + (nb : Int) > 4
  · rw [if_pos h4] at hr
    (repeat' (first | refine hq.read [3] rfl ⟨rfl, trivial⟩ ?_ | refine Exists.intro (pcl na a) (And.intro ⟨pcl_len ha, pcl_all ha⟩ ?_) | refine Exists.intro (pcl nb b) (And.intro ⟨pcl_len hb, pcl_all hb⟩ ?_) | refine And.intro ⟨pcl_len ha, mkL rfl⟩ ?_ | refine And.intro ⟨pcl_len hb, Nat.le_of_eq (fill_len (N := 9) mk_len (pcl_len ha) (leR rfl)).symm⟩ ?_ | refine Exists.intro (rowP [((na : Int), a), ((nb : Int), b)]) (And.intro (row2 (N := 9) (p := ((na : Int), a)) (q := ((nb : Int), b)) mk_len (pcl_len ha) (pcl_len hb)) ?_) | refine Exists.intro (pcl 0 (List.replicate 8 0)) (And.intro ⟨leR rfl, rfl⟩ ?_) | refine Exists.intro (pcl 0 (List.replicate 8 0)) (And.intro ⟨rfl, rfl⟩ ?_) | refine And.intro (neI rfl) ?_ | refine And.intro ⟨rfl, leR rfl, onesR rfl⟩ ?_ | refine And.intro ⟨rfl, leR rfl⟩ ?_ | refine draw_rule2 hfol (fun KK hKK => ?_) | refine hKK _ _ _ (by kernel_rfl) ?_ | refine region_rule (fun KK hKK => ?_) | refine hKK _ _ ?_ | refine And.intro (Eq.refl true) ?_ | refine Exists.intro _ (And.intro (wI (by omega)) ?_) | refine Exists.intro _ (And.intro (wU (by omega)) ?_) | refine Exists.intro _ (And.intro ⟨rfl, by omega⟩ ?_) | refine Exists.intro _ (And.intro rfl ?_) | refine And.intro rfl ?_ | refine And.intro ⟨rfl, rfl⟩ ?_ | ((refine And.intro (fun _ => ?_) (fun _ => ?_)) <;> try (exfalso; omega))))
    exact Exists.intro [] (And.intro (by rw [hr]; rfl) (And.intro trivial rfl))
  · rw [if_neg h4] at hr
    have hnm := s_named_union (na + nb) na nb a b ha hab hb hbb hna1 hnb1 rfl (by omega)
    have hs : IntKind.i64.wrap ((na : Int) + (nb : Int)) = ((na + nb : Nat) : Int) := wC (by omega) (by omega)
    (repeat' (first | refine hq.read [3] rfl ⟨rfl, trivial⟩ ?_ | refine (s_n na a).read [0] rfl ⟨rfl, trivial⟩ ?_ | refine (s_n nb b).read [1] rfl ⟨rfl, trivial⟩ ?_ | refine hnm.read [4, 5, 0, 1] rfl ⟨rfl, rfl, rfl, rfl, trivial⟩ ?_ | refine Exists.intro _ (And.intro hs ?_) | refine Exists.intro (pcl na a) (And.intro ⟨pcl_len ha, pcl_all ha⟩ ?_) | refine Exists.intro (pcl nb b) (And.intro ⟨pcl_len hb, pcl_all hb⟩ ?_) | refine And.intro ⟨pcl_len ha, mkL rfl⟩ ?_ | refine And.intro ⟨pcl_len hb, Nat.le_of_eq (fill_len (N := 9) mk_len (pcl_len ha) (leR rfl)).symm⟩ ?_ | refine Exists.intro (rowP [((na : Int), a), ((nb : Int), b)]) (And.intro (row2 (N := 9) (p := ((na : Int), a)) (q := ((nb : Int), b)) mk_len (pcl_len ha) (pcl_len hb)) ?_) | refine Exists.intro [Value.int .i64 na] (And.intro ⟨leR rfl, rfl⟩ ?_) | refine Exists.intro [Value.int .i64 nb] (And.intro ⟨leR rfl, rfl⟩ ?_) | refine And.intro ⟨pcl_len nm_len, leR rfl, pcl_ones⟩ ?_ | refine Exists.intro (pcl ((na + nb : Nat) : Int) (nm (gU na nb a b) (na + nb))) (And.intro ⟨leR rfl, spl0 (leR rfl)⟩ ?_) | refine Exists.intro (pcl ((na + nb : Nat) : Int) (nm (gU na nb a b) (na + nb))) (And.intro ⟨pcl_len nm_len, pcl_all nm_len⟩ ?_) | refine And.intro (neI rfl) ?_ | refine And.intro ⟨rfl, leR rfl, onesR rfl⟩ ?_ | refine And.intro ⟨rfl, leR rfl⟩ ?_ | refine draw_rule2 hfol (fun KK hKK => ?_) | refine hKK _ _ _ (by kernel_rfl) ?_ | refine region_rule (fun KK hKK => ?_) | refine hKK _ _ ?_ | refine And.intro (Eq.refl true) ?_ | refine Exists.intro _ (And.intro (wI (by omega)) ?_) | refine Exists.intro _ (And.intro (wU (by omega)) ?_) | refine Exists.intro _ (And.intro ⟨rfl, by omega⟩ ?_) | refine Exists.intro _ (And.intro rfl ?_) | refine And.intro rfl ?_ | refine And.intro ⟨rfl, rfl⟩ ?_ | ((refine And.intro (fun _ => ?_) (fun _ => ?_)) <;> try (exfalso; omega))))
    exact Exists.intro [] (And.intro (by rw [hr]; rfl) (And.intro trivial rfl))
end Go.Proofs.Ytpangmameocfmaa.VE.P
namespace Go.Proofs.Ytpangmameocfmaa.VE.P
open Go
set_option maxHeartbeats 800000
set_option maxRecDepth 100000

theorem s_sUnion (sa : Int) (a : List Nat) (ha : a.length = 8) (hab : ∀ x ∈ a, x < 256) (sb : Int) (b : List Nat) (hb : b.length = 8) (hbb : ∀ x ∈ b, x < 256) : Spec Try.prog n_s_UnionPartition [pv sa a, pv sb b] [] (prV (unionR sa a sb b)) [] := by
  have hqa := s_is sa a ha hab
  have hqb := s_is sb b hb hbb
  rw [isP_eq sa a ha] at hqa
  rw [isP_eq sb b hb] at hqb
  have hr : unionR sa a sb b = if isPi sa a = true ∧ isPi sb b = true then (if sa + sb > 4 then (0, List.replicate 8 0, 3) else (sa + sb, nm (gU sa.toNat sb.toNat a b) (sa.toNat + sb.toNat), 0)) else (0, List.replicate 8 0, 1) := rfl
  refine SpecW.of_EV hf_s_UnionPartition hc_s_UnionPartition rfl rfl rfl fun w0 B ρ0 _ => ?_
  cases hva : isPi sa a with
  | false =>
    rw [hva] at hqa
    rw [if_neg (by simp [hva])] at hr
    (repeat' (first | refine hqa.pure rfl ?_ | refine Exists.intro (pcl sa a) (And.intro ⟨pcl_len ha, pcl_all ha⟩ ?_) | refine Exists.intro (pcl 0 (List.replicate 8 0)) (And.intro ⟨leR rfl, rfl⟩ ?_) | refine Exists.intro (pcl 0 (List.replicate 8 0)) (And.intro ⟨rfl, rfl⟩ ?_) | refine And.intro (neI rfl) ?_ | refine And.intro ⟨rfl, leR rfl, onesR rfl⟩ ?_ | refine And.intro ⟨rfl, leR rfl⟩ ?_ | refine draw_rule2 hfol (fun KK hKK => ?_) | refine hKK _ _ _ (by kernel_rfl) ?_ | refine region_rule (fun KK hKK => ?_) | refine hKK _ _ ?_ | refine And.intro (Eq.refl true) ?_ | refine Exists.intro _ (And.intro (wI (by omega)) ?_) | refine Exists.intro _ (And.intro (wU (by omega)) ?_) | refine Exists.intro _ (And.intro ⟨rfl, by omega⟩ ?_) | refine Exists.intro _ (And.intro rfl ?_) | refine And.intro rfl ?_ | refine And.intro ⟨rfl, rfl⟩ ?_ | ((refine And.intro (fun _ => ?_) (fun _ => ?_)) <;> try (exfalso; omega))))
    exact Exists.intro [] (And.intro (by rw [hr]; rfl) (And.intro trivial rfl))
  | true =>
  rw [hva] at hqa
  cases hvb : isPi sb b with
  | false =>
    rw [hvb] at hqb
    rw [if_neg (by simp [hvb])] at hr
    (repeat' (first | refine hqa.pure rfl ?_ | refine hqb.pure rfl ?_ | refine Exists.intro (pcl sa a) (And.intro ⟨pcl_len ha, pcl_all ha⟩ ?_) | refine Exists.intro (pcl sb b) (And.intro ⟨pcl_len hb, pcl_all hb⟩ ?_) | refine Exists.intro (pcl 0 (List.replicate 8 0)) (And.intro ⟨leR rfl, rfl⟩ ?_) | refine Exists.intro (pcl 0 (List.replicate 8 0)) (And.intro ⟨rfl, rfl⟩ ?_) | refine And.intro (neI rfl) ?_ | refine And.intro ⟨rfl, leR rfl, onesR rfl⟩ ?_ | refine And.intro ⟨rfl, leR rfl⟩ ?_ | refine draw_rule2 hfol (fun KK hKK => ?_) | refine hKK _ _ _ (by kernel_rfl) ?_ | refine region_rule (fun KK hKK => ?_) | refine hKK _ _ ?_ | refine And.intro (Eq.refl true) ?_ | refine Exists.intro _ (And.intro (wI (by omega)) ?_) | refine Exists.intro _ (And.intro (wU (by omega)) ?_) | refine Exists.intro _ (And.intro ⟨rfl, by omega⟩ ?_) | refine Exists.intro _ (And.intro rfl ?_) | refine And.intro rfl ?_ | refine And.intro ⟨rfl, rfl⟩ ?_ | ((refine And.intro (fun _ => ?_) (fun _ => ?_)) <;> try (exfalso; omega))))
    exact Exists.intro [] (And.intro (by rw [hr]; rfl) (And.intro trivial rfl))
  | true =>
  rw [hvb] at hqb
  rw [if_pos ⟨hva, hvb⟩] at hr
  obtain ⟨na, rfl, hna1, hna⟩ := isPi_size hva
  obtain ⟨nb, rfl, hnb1, hnb⟩ := isPi_size hvb
  by_cases h4 : (na : Int) + (nb : Int) > 4
  · rw [if_pos h4] at hr
    (repeat' (first | refine hqa.pure rfl ?_ | refine hqb.pure rfl ?_ | refine Exists.intro (pcl na a) (And.intro ⟨pcl_len ha, pcl_all ha⟩ ?_) | refine Exists.intro (pcl nb b) (And.intro ⟨pcl_len hb, pcl_all hb⟩ ?_) | refine Exists.intro (pcl 0 (List.replicate 8 0)) (And.intro ⟨leR rfl, rfl⟩ ?_) | refine Exists.intro (pcl 0 (List.replicate 8 0)) (And.intro ⟨rfl, rfl⟩ ?_) | refine And.intro (neI rfl) ?_ | refine And.intro ⟨rfl, leR rfl, onesR rfl⟩ ?_ | refine And.intro ⟨rfl, leR rfl⟩ ?_ | refine draw_rule2 hfol (fun KK hKK => ?_) | refine hKK _ _ _ (by kernel_rfl) ?_ | refine region_rule (fun KK hKK => ?_) | refine hKK _ _ ?_ | refine And.intro (Eq.refl true) ?_ | refine Exists.intro _ (And.intro (wI (by omega)) ?_) | refine Exists.intro _ (And.intro (wU (by omega)) ?_) | refine Exists.intro _ (And.intro ⟨rfl, by omega⟩ ?_) | refine Exists.intro _ (And.intro rfl ?_) | refine And.intro rfl ?_ | refine And.intro ⟨rfl, rfl⟩ ?_ | ((refine And.intro (fun _ => ?_) (fun _ => ?_)) <;> try (exfalso; omega))))
    exact Exists.intro [] (And.intro (by rw [hr]; rfl) (And.intro trivial rfl))
  rw [if_neg h4] at hr
  (repeat' (first | refine hqa.pure rfl ?_ | refine hqb.pure rfl ?_ | refine Exists.intro (pcl na a) (And.intro ⟨pcl_len ha, pcl_all ha⟩ ?_) | refine Exists.intro (pcl nb b) (And.intro ⟨pcl_len hb, pcl_all hb⟩ ?_) | refine And.intro (neI rfl) ?_ | refine And.intro ⟨rfl, leR rfl, onesR rfl⟩ ?_ | refine And.intro ⟨rfl, leR rfl⟩ ?_ | refine draw_rule2 hfol (fun KK hKK => ?_) | refine hKK _ _ _ (by kernel_rfl) ?_ | refine region_rule (fun KK hKK => ?_) | refine hKK _ _ ?_ | refine And.intro (Eq.refl true) ?_ | refine Exists.intro _ (And.intro (wI (by omega)) ?_) | refine Exists.intro _ (And.intro (wU (by omega)) ?_) | refine Exists.intro _ (And.intro ⟨rfl, by omega⟩ ?_) | refine Exists.intro _ (And.intro rfl ?_) | refine And.intro rfl ?_ | refine And.intro ⟨rfl, rfl⟩ ?_ | ((refine And.intro (fun _ => ?_) (fun _ => ?_)) <;> try (exfalso; omega))))
  refine loop_rule (α := Nat) (fun σ => σ ≤ 2)
    (fun σ => [(2, .ptr 0 0), (3, .ptr 1 0), (4, .ptr 2 0), (6, .sl 3), (7, vi σ)]) (fun σ => [.pc (pcl na a) T_i_Partition, .pc (pcl nb b) T_i_Partition, .pc (pcl 0 (List.replicate 8 0)) T_i_Partition, .pr T_int64 1 (σ * (na + nb)) (il (gU na nb a b) (σ * (na + nb)))]) (fun σ => 2 - σ) 0 [0, 1, 2, 3]
    (by omega) ⟨⟨rfl, rfl, rfl, rfl, rfl, trivial⟩, ⟨rfl, rfl, rfl, by rw [Nat.zero_mul]; rfl, trivial⟩, rfl⟩ ?_
  rintro σ g hσ
  by_cases h8 : σ = 2
  · subst h8
    have ht := s_told (gU na nb a b) (na + nb) (by omega)
    have hs : IntKind.i64.wrap ((na : Int) + (nb : Int)) = ((na + nb : Nat) : Int) := wC (by omega) (by omega)
    (repeat' (first | refine ht.read [3] rfl ⟨rfl, trivial⟩ ?_ | refine Exists.intro _ (And.intro hs ?_) | refine And.intro ⟨pcl_len nm_len, leR rfl, pcl_ones⟩ ?_ | refine Exists.intro (pcl ((na + nb : Nat) : Int) (nm (gU na nb a b) (na + nb))) (And.intro ⟨leR rfl, spl0 (leR rfl)⟩ ?_) | refine Exists.intro (pcl ((na + nb : Nat) : Int) (nm (gU na nb a b) (na + nb))) (And.intro ⟨pcl_len nm_len, pcl_all nm_len⟩ ?_) | refine And.intro (neI rfl) ?_ | refine And.intro ⟨rfl, leR rfl, onesR rfl⟩ ?_ | refine And.intro ⟨rfl, leR rfl⟩ ?_ | refine draw_rule2 hfol (fun KK hKK => ?_) | refine hKK _ _ _ (by kernel_rfl) ?_ | refine region_rule (fun KK hKK => ?_) | refine hKK _ _ ?_ | refine And.intro (Eq.refl true) ?_ | refine Exists.intro _ (And.intro (wI (by omega)) ?_) | refine Exists.intro _ (And.intro (wU (by omega)) ?_) | refine Exists.intro _ (And.intro ⟨rfl, by omega⟩ ?_) | refine Exists.intro _ (And.intro rfl ?_) | refine And.intro rfl ?_ | refine And.intro ⟨rfl, rfl⟩ ?_ | ((refine And.intro (fun _ => ?_) (fun _ => ?_)) <;> try (exfalso; omega))))
    exact Exists.intro [] (And.intro (by rw [hr]; rfl) (And.intro trivial rfl))
  have hσ2 : σ < 2 := by omega
  have ka : σ * na ≤ na := by obtain rfl | rfl : σ = 0 ∨ σ = 1 := by omega
                              all_goals omega
  have kb : σ * nb ≤ nb := by obtain rfl | rfl : σ = 0 ∨ σ = 1 := by omega
                              all_goals omega
  have ks : σ * (na + nb) = σ * na + σ * nb := Nat.mul_add _ _ _
  have ma : IntKind.i64.wrap ((σ : Int) * (na : Int)) = ((σ * na : Nat) : Int) := wC (Int.natCast_mul _ _).symm (by omega)
  have mb : IntKind.i64.wrap ((σ : Int) * (nb : Int)) = ((σ * nb : Nat) : Int) := wC (Int.natCast_mul _ _).symm (by omega)
  (repeat' (first | refine And.intro (neI rfl) ?_ | refine And.intro ⟨rfl, leR rfl, onesR rfl⟩ ?_ | refine And.intro ⟨rfl, leR rfl⟩ ?_ | refine draw_rule2 hfol (fun KK hKK => ?_) | refine hKK _ _ _ (by kernel_rfl) ?_ | refine region_rule (fun KK hKK => ?_) | refine hKK _ _ ?_ | refine And.intro (Eq.refl true) ?_ | refine Exists.intro _ (And.intro (wI (by omega)) ?_) | refine Exists.intro _ (And.intro (wU (by omega)) ?_) | refine Exists.intro _ (And.intro ⟨rfl, by omega⟩ ?_) | refine Exists.intro _ (And.intro rfl ?_) | refine And.intro rfl ?_ | refine And.intro ⟨rfl, rfl⟩ ?_ | ((refine And.intro (fun _ => ?_) (fun _ => ?_)) <;> try (exfalso; omega))))
  refine loop_rule (α := Nat) (fun i => i ≤ na)
    (fun i => [(2, .ptr 0 0), (3, .ptr 1 0), (4, .ptr 2 0), (6, .sl 3), (7, vi σ), (8, vi i)]) (fun i => [.pc (pcl na a) T_i_Partition, .pc (pcl nb b) T_i_Partition, .pc (pcl 0 (List.replicate 8 0)) T_i_Partition, .pr T_int64 1 (σ * (na + nb) + i) (il (gU na nb a b) (σ * (na + nb) + i))]) (fun i => na - i) 0 [0, 1, 2, 3]
    (by omega) ⟨⟨rfl, rfl, rfl, rfl, rfl, rfl, trivial⟩, ⟨rfl, rfl, rfl, rfl, trivial⟩, rfl⟩ ?_
  rintro i g1 hi
  by_cases h9 : i = na
  rotate_left
  · have hil : i < na := by omega
    have e1 : IntKind.i64.wrap (((σ * na : Nat) : Int) + (i : Int)) = ((σ * na + i : Nat) : Int) := wC (by omega) (by omega)
    have hb1 := getD_lt hab (σ * na + i)
    have hgu : il (gU na nb a b) (σ * (na + nb) + i) ++ [Value.int .i64 ((a.getD (σ * na + i) 0 : Nat) : Int)] = il (gU na nb a b) (σ * (na + nb) + i + 1) := by rw [← gU_a (nb := nb) (b := b) hσ2 hil]; exact il_succ
    (repeat' (first | refine Exists.intro _ (And.intro ma ?_) | refine Exists.intro _ (And.intro e1 ?_) | refine Exists.intro _ (And.intro (pcl_at (by omega)) ?_) | refine And.intro ⟨rfl, mkL rfl⟩ ?_ | refine Exists.intro [Value.int .i64 ((a.getD (σ * na + i) 0 : Nat) : Int)] (And.intro (row1s (mkL' rfl)) ?_) | refine Exists.intro (il (gU na nb a b) (σ * (na + nb) + i + 1)) (And.intro ⟨rfl, onesR rfl, by omega, by omega, hgu⟩ ?_) | refine And.intro (neI rfl) ?_ | refine And.intro ⟨rfl, leR rfl, onesR rfl⟩ ?_ | refine And.intro ⟨rfl, leR rfl⟩ ?_ | refine draw_rule2 hfol (fun KK hKK => ?_) | refine hKK _ _ _ (by kernel_rfl) ?_ | refine region_rule (fun KK hKK => ?_) | refine hKK _ _ ?_ | refine And.intro (Eq.refl true) ?_ | refine Exists.intro _ (And.intro (wI (by omega)) ?_) | refine Exists.intro _ (And.intro (wU (by omega)) ?_) | refine Exists.intro _ (And.intro ⟨rfl, by omega⟩ ?_) | refine Exists.intro _ (And.intro rfl ?_) | refine And.intro rfl ?_ | refine And.intro ⟨rfl, rfl⟩ ?_ | ((refine And.intro (fun _ => ?_) (fun _ => ?_)) <;> try (exfalso; omega))))
    refine Exists.intro (i + 1) (Exists.intro [0, 1, 2, 5] (And.intro ⟨by omega, (by show na - (i + 1) < na - i; omega)⟩ ⟨⟨rfl, rfl, rfl, rfl, rfl, rfl, trivial⟩, ⟨rfl, rfl, rfl, rfl, trivial⟩, rfl⟩))
  subst h9
  (repeat' (first | refine And.intro (neI rfl) ?_ | refine And.intro ⟨rfl, leR rfl, onesR rfl⟩ ?_ | refine And.intro ⟨rfl, leR rfl⟩ ?_ | refine draw_rule2 hfol (fun KK hKK => ?_) | refine hKK _ _ _ (by kernel_rfl) ?_ | refine region_rule (fun KK hKK => ?_) | refine hKK _ _ ?_ | refine And.intro (Eq.refl true) ?_ | refine Exists.intro _ (And.intro (wI (by omega)) ?_) | refine Exists.intro _ (And.intro (wU (by omega)) ?_) | refine Exists.intro _ (And.intro ⟨rfl, by omega⟩ ?_) | refine Exists.intro _ (And.intro rfl ?_) | refine And.intro rfl ?_ | refine And.intro ⟨rfl, rfl⟩ ?_ | ((refine And.intro (fun _ => ?_) (fun _ => ?_)) <;> try (exfalso; omega))))
  refine loop_rule (α := Nat) (fun k => k ≤ nb)
    (fun k => [(2, .ptr 0 0), (3, .ptr 1 0), (4, .ptr 2 0), (6, .sl 3), (7, vi σ), (9, vi k)]) (fun k => [.pc (pcl i a) T_i_Partition, .pc (pcl nb b) T_i_Partition, .pc (pcl 0 (List.replicate 8 0)) T_i_Partition, .pr T_int64 1 (σ * (i + nb) + (i + k)) (il (gU i nb a b) (σ * (i + nb) + (i + k)))]) (fun k => nb - k) 0 [0, 1, 2, 3]
    (by omega) ⟨⟨rfl, rfl, rfl, rfl, rfl, rfl, trivial⟩, ⟨rfl, rfl, rfl, rfl, trivial⟩, rfl⟩ ?_
  rintro k g2 hk
  by_cases h9 : k = nb
  · subst h9
    (repeat' (first | refine And.intro (neI rfl) ?_ | refine And.intro ⟨rfl, leR rfl, onesR rfl⟩ ?_ | refine And.intro ⟨rfl, leR rfl⟩ ?_ | refine draw_rule2 hfol (fun KK hKK => ?_) | refine hKK _ _ _ (by kernel_rfl) ?_ | refine region_rule (fun KK hKK => ?_) | refine hKK _ _ ?_ | refine And.intro (Eq.refl true) ?_ | refine Exists.intro _ (And.intro (wI (by omega)) ?_) | refine Exists.intro _ (And.intro (wU (by omega)) ?_) | refine Exists.intro _ (And.intro ⟨rfl, by omega⟩ ?_) | refine Exists.intro _ (And.intro rfl ?_) | refine And.intro rfl ?_ | refine And.intro ⟨rfl, rfl⟩ ?_ | ((refine And.intro (fun _ => ?_) (fun _ => ?_)) <;> try (exfalso; omega))))
    have e : σ * (i + k) + (i + k) = (σ + 1) * (i + k) := (Nat.succ_mul σ (i + k)).symm
    refine Exists.intro (σ + 1) (Exists.intro [0, 1, 2, 3] (And.intro ⟨by omega, (by show 2 - (σ + 1) < 2 - σ; omega)⟩ ⟨⟨rfl, rfl, rfl, rfl, rfl, trivial⟩, ⟨rfl, rfl, rfl, by rw [e]; rfl, trivial⟩, rfl⟩))
  have hkl : k < nb := by omega
  have e1 : IntKind.i64.wrap (((σ * nb : Nat) : Int) + (k : Int)) = ((σ * nb + k : Nat) : Int) := wC (by omega) (by omega)
  have hb1 := getD_lt hbb (σ * nb + k)
  have hgu : il (gU i nb a b) (σ * (i + nb) + (i + k)) ++ [Value.int .i64 (8 + ((b.getD (σ * nb + k) 0 : Nat) : Int))] = il (gU i nb a b) (σ * (i + nb) + (i + k) + 1) := by rw [← gU_b (na := i) (a := a) hσ2 hkl]; exact il_succ
  (repeat' (first | refine Exists.intro _ (And.intro mb ?_) | refine Exists.intro _ (And.intro e1 ?_) | refine Exists.intro _ (And.intro (pcl_at (by omega)) ?_) | refine And.intro ⟨rfl, mkL rfl⟩ ?_ | refine Exists.intro [Value.int .i64 (8 + ((b.getD (σ * nb + k) 0 : Nat) : Int))] (And.intro (row1s (mkL' rfl)) ?_) | refine Exists.intro (il (gU i nb a b) (σ * (i + nb) + (i + k) + 1)) (And.intro ⟨rfl, onesR rfl, by omega, by omega, hgu⟩ ?_) | refine And.intro (neI rfl) ?_ | refine And.intro ⟨rfl, leR rfl, onesR rfl⟩ ?_ | refine And.intro ⟨rfl, leR rfl⟩ ?_ | refine draw_rule2 hfol (fun KK hKK => ?_) | refine hKK _ _ _ (by kernel_rfl) ?_ | refine region_rule (fun KK hKK => ?_) | refine hKK _ _ ?_ | refine And.intro (Eq.refl true) ?_ | refine Exists.intro _ (And.intro (wI (by omega)) ?_) | refine Exists.intro _ (And.intro (wU (by omega)) ?_) | refine Exists.intro _ (And.intro ⟨rfl, by omega⟩ ?_) | refine Exists.intro _ (And.intro rfl ?_) | refine And.intro rfl ?_ | refine And.intro ⟨rfl, rfl⟩ ?_ | ((refine And.intro (fun _ => ?_) (fun _ => ?_)) <;> try (exfalso; omega))))
  refine Exists.intro (k + 1) (Exists.intro [0, 1, 2, 5] (And.intro ⟨by omega, (by show nb - (k + 1) < nb - k; omega)⟩ ⟨⟨rfl, rfl, rfl, rfl, rfl, rfl, trivial⟩, ⟨rfl, rfl, rfl, rfl, trivial⟩, rfl⟩))
end Go.Proofs.Ytpangmameocfmaa.VE.P
