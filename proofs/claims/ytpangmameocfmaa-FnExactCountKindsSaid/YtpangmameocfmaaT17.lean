/- Contracts of functions of the given program, for all arguments that the contract names; see each theorem. -/
import Derived.Test.YtpangmameocfmaaT16
set_option linter.all false
namespace Go.Proofs.Ytpangmameocfmaa.VE.P
open Go
set_option maxHeartbeats 400000
set_option maxRecDepth 100000

/-- The labels of two that lie side by side. -/
def gU (na nb : Nat) (a b : List Nat) (i : Nat) : Int :=
  if i < na + nb then (if i < na then ((a.getD i 0 : Nat) : Int) else 8 + ((b.getD (i - na) 0 : Nat) : Int))
  else (if i - (na + nb) < na then ((a.getD (na + (i - (na + nb))) 0 : Nat) : Int) else 8 + ((b.getD (nb + (i - (na + nb)) - na) 0 : Nat) : Int))

theorem s_union1 (na nb : Nat) (a b : List Nat) (i : Nat) (ha : a.length = 8) (hab : ∀ x ∈ a, x < 256) (hb : b.length = 8) (hbb : ∀ x ∈ b, x < 256) (hn1 : 1 ≤ na) (hn2 : 1 ≤ nb) (hn : na + nb ≤ 4) (hi : i < 2 * (na + nb)) :
    Spec Try.prog n_i_UnionPartition_1 [vi i, .ptr 0 0, .ptr 1 0, .ptr 2 0, .ptr 3 0] [.pc [.int .i64 na] T_int, .pc [.int .i64 nb] T_int, .pc (pcl na a) T_i_Partition, .pc (pcl nb b) T_i_Partition] (vi (gU na nb a b i))
      [.pc [.int .i64 na] T_int, .pc [.int .i64 nb] T_int, .pc (pcl na a) T_i_Partition, .pc (pcl nb b) T_i_Partition] := by
  refine SpecW.of_EV hf_i_UnionPartition_1 hc_i_UnionPartition_1 rfl rfl rfl fun w0 B ρ0 _ => ?_
  have hne : (na : Int) + (nb : Int) ≠ 0 := by omega
  have hdN := tdN i (na + nb)
  have hrN := tmN i (na + nb)
  rw [Int.natCast_add] at hdN hrN
  by_cases h : i < na + nb
  · have e1 : IntKind.i64.wrap (Int.tdiv (i : Int) ((na : Int) + (nb : Int))) = 0 := by
      rw [hdN, Nat.div_eq_of_lt h]; rfl
    have e2 : Int.tmod (i : Int) ((na : Int) + (nb : Int)) = (i : Int) := by rw [hrN, Nat.mod_eq_of_lt h]
    have e3 : ∀ x : Nat, IntKind.i64.wrap (0 * (x : Int)) = 0 := fun x => by rw [Int.zero_mul]; rfl
    have e4 : IntKind.i64.wrap (0 + (i : Int)) = (i : Int) := wC (by omega) (by omega)
    by_cases hk : i < na
    · have hr : gU na nb a b i = ((a.getD i 0 : Nat) : Int) := by simp [gU, h, hk]
      have hb1 := getD_lt hab i
      rw [hr]
      (repeat' (first | refine And.intro hne ?_ | refine Exists.intro _ (And.intro e1 ?_) | refine Exists.intro _ (And.intro e2 ?_) | refine Exists.intro _ (And.intro (e3 na) ?_) | refine Exists.intro _ (And.intro e4 ?_) | refine (s_part na a i ha hab (by omega)).read [2] rfl ⟨rfl, trivial⟩ ?_ | refine And.intro (neI rfl) ?_ | refine And.intro ⟨rfl, leR rfl, onesR rfl⟩ ?_ | refine And.intro ⟨rfl, leR rfl⟩ ?_ | refine draw_rule2 hfol (fun KK hKK => ?_) | refine hKK _ _ _ (by kernel_rfl) ?_ | refine region_rule (fun KK hKK => ?_) | refine hKK _ _ ?_ | refine And.intro (Eq.refl true) ?_ | refine Exists.intro _ (And.intro (wI (by omega)) ?_) | refine Exists.intro _ (And.intro (wU (by omega)) ?_) | refine Exists.intro _ (And.intro ⟨rfl, by omega⟩ ?_) | refine Exists.intro _ (And.intro rfl ?_) | refine And.intro rfl ?_ | refine And.intro ⟨rfl, rfl⟩ ?_ | ((refine And.intro (fun _ => ?_) (fun _ => ?_)) <;> try (exfalso; omega))))
      exact Exists.intro [0, 1, 2, 3] (And.intro rfl (And.intro ⟨rfl, rfl, rfl, rfl, trivial⟩ rfl))
    · have hr : gU na nb a b i = 8 + ((b.getD (i - na) 0 : Nat) : Int) := by simp [gU, h, hk]
      have hb1 := getD_lt hbb (i - na)
      have e5 : IntKind.i64.wrap ((i : Int) - (na : Int)) = ((i - na : Nat) : Int) := wC (by omega) (by omega)
      rw [hr]
      (repeat' (first | refine And.intro hne ?_ | refine Exists.intro _ (And.intro e1 ?_) | refine Exists.intro _ (And.intro e2 ?_) | refine Exists.intro _ (And.intro (e3 nb) ?_) | refine Exists.intro _ (And.intro e4 ?_) | refine Exists.intro _ (And.intro e5 ?_) | refine (s_part nb b (i - na) hb hbb (by omega)).read [3] rfl ⟨rfl, trivial⟩ ?_ | refine And.intro (neI rfl) ?_ | refine And.intro ⟨rfl, leR rfl, onesR rfl⟩ ?_ | refine And.intro ⟨rfl, leR rfl⟩ ?_ | refine draw_rule2 hfol (fun KK hKK => ?_) | refine hKK _ _ _ (by kernel_rfl) ?_ | refine region_rule (fun KK hKK => ?_) | refine hKK _ _ ?_ | refine And.intro (Eq.refl true) ?_ | refine Exists.intro _ (And.intro (wI (by omega)) ?_) | refine Exists.intro _ (And.intro (wU (by omega)) ?_) | refine Exists.intro _ (And.intro ⟨rfl, by omega⟩ ?_) | refine Exists.intro _ (And.intro rfl ?_) | refine And.intro rfl ?_ | refine And.intro ⟨rfl, rfl⟩ ?_ | ((refine And.intro (fun _ => ?_) (fun _ => ?_)) <;> try (exfalso; omega))))
      exact Exists.intro [0, 1, 2, 3] (And.intro rfl (And.intro ⟨rfl, rfl, rfl, rfl, trivial⟩ rfl))
  · have h1 : i / (na + nb) = 1 := by
      rw [Nat.div_eq_iff (by omega)]; omega
    have h2 : i % (na + nb) = i - (na + nb) := by
      rw [Nat.mod_eq_sub_mod (by omega), Nat.mod_eq_of_lt (by omega)]
    have e1 : IntKind.i64.wrap (Int.tdiv (i : Int) ((na : Int) + (nb : Int))) = 1 := by
      rw [hdN, h1]; rfl
    have e2 : Int.tmod (i : Int) ((na : Int) + (nb : Int)) = ((i - (na + nb) : Nat) : Int) := by rw [hrN, h2]
    have e3 : ∀ x : Nat, x ≤ 4 → IntKind.i64.wrap (1 * (x : Int)) = (x : Int) := fun x hx => wC (by omega) (by omega)
    by_cases hk : i - (na + nb) < na
    · have hr : gU na nb a b i = ((a.getD (na + (i - (na + nb))) 0 : Nat) : Int) := by simp only [gU, if_neg h, if_pos hk]
      have hb1 := getD_lt hab (na + (i - (na + nb)))
      have e4 : IntKind.i64.wrap ((na : Int) + ((i - (na + nb) : Nat) : Int)) = ((na + (i - (na + nb)) : Nat) : Int) := wC (by omega) (by omega)
      rw [hr]
      (repeat' (first | refine And.intro hne ?_ | refine Exists.intro _ (And.intro e1 ?_) | refine Exists.intro _ (And.intro e2 ?_) | refine Exists.intro _ (And.intro (e3 na (by omega)) ?_) | refine Exists.intro _ (And.intro e4 ?_) | refine (s_part na a (na + (i - (na + nb))) ha hab (by omega)).read [2] rfl ⟨rfl, trivial⟩ ?_ | refine And.intro (neI rfl) ?_ | refine And.intro ⟨rfl, leR rfl, onesR rfl⟩ ?_ | refine And.intro ⟨rfl, leR rfl⟩ ?_ | refine draw_rule2 hfol (fun KK hKK => ?_) | refine hKK _ _ _ (by kernel_rfl) ?_ | refine region_rule (fun KK hKK => ?_) | refine hKK _ _ ?_ | refine And.intro (Eq.refl true) ?_ | refine Exists.intro _ (And.intro (wI (by omega)) ?_) | refine Exists.intro _ (And.intro (wU (by omega)) ?_) | refine Exists.intro _ (And.intro ⟨rfl, by omega⟩ ?_) | refine Exists.intro _ (And.intro rfl ?_) | refine And.intro rfl ?_ | refine And.intro ⟨rfl, rfl⟩ ?_ | ((refine And.intro (fun _ => ?_) (fun _ => ?_)) <;> try (exfalso; omega))))
      exact Exists.intro [0, 1, 2, 3] (And.intro rfl (And.intro ⟨rfl, rfl, rfl, rfl, trivial⟩ rfl))
    · have hr : gU na nb a b i = 8 + ((b.getD (nb + (i - (na + nb)) - na) 0 : Nat) : Int) := by simp only [gU, if_neg h, if_neg hk]
      have hb1 := getD_lt hbb (nb + (i - (na + nb)) - na)
      have e4 : IntKind.i64.wrap ((nb : Int) + ((i - (na + nb) : Nat) : Int)) = ((nb + (i - (na + nb)) : Nat) : Int) := wC (by omega) (by omega)
      have e5 : IntKind.i64.wrap (((nb + (i - (na + nb)) : Nat) : Int) - (na : Int)) = ((nb + (i - (na + nb)) - na : Nat) : Int) := wC (by omega) (by omega)
      rw [hr]
      (repeat' (first | refine And.intro hne ?_ | refine Exists.intro _ (And.intro e1 ?_) | refine Exists.intro _ (And.intro e2 ?_) | refine Exists.intro _ (And.intro (e3 nb (by omega)) ?_) | refine Exists.intro _ (And.intro e4 ?_) | refine Exists.intro _ (And.intro e5 ?_) | refine (s_part nb b (nb + (i - (na + nb)) - na) hb hbb (by omega)).read [3] rfl ⟨rfl, trivial⟩ ?_ | refine And.intro (neI rfl) ?_ | refine And.intro ⟨rfl, leR rfl, onesR rfl⟩ ?_ | refine And.intro ⟨rfl, leR rfl⟩ ?_ | refine draw_rule2 hfol (fun KK hKK => ?_) | refine hKK _ _ _ (by kernel_rfl) ?_ | refine region_rule (fun KK hKK => ?_) | refine hKK _ _ ?_ | refine And.intro (Eq.refl true) ?_ | refine Exists.intro _ (And.intro (wI (by omega)) ?_) | refine Exists.intro _ (And.intro (wU (by omega)) ?_) | refine Exists.intro _ (And.intro ⟨rfl, by omega⟩ ?_) | refine Exists.intro _ (And.intro rfl ?_) | refine And.intro rfl ?_ | refine And.intro ⟨rfl, rfl⟩ ?_ | ((refine And.intro (fun _ => ?_) (fun _ => ?_)) <;> try (exfalso; omega))))
      exact Exists.intro [0, 1, 2, 3] (And.intro rfl (And.intro ⟨rfl, rfl, rfl, rfl, trivial⟩ rfl))

theorem s_named_union (n na nb : Nat) (a b : List Nat) (ha : a.length = 8) (hab : ∀ x ∈ a, x < 256) (hb : b.length = 8) (hbb : ∀ x ∈ b, x < 256) (hn1 : 1 ≤ na) (hn2 : 1 ≤ nb) (hnn : n = na + nb) (hn : n ≤ 4) :
    Spec Try.prog n_i_named [vi n, .fn (.func n_i_UnionPartition_1) [] [.ptr 0 0, .ptr 1 0, .ptr 2 0, .ptr 3 0]] [.pc [.int .i64 na] T_int, .pc [.int .i64 nb] T_int, .pc (pcl na a) T_i_Partition, .pc (pcl nb b) T_i_Partition] (pv n (nm (gU na nb a b) n)) [.pc [.int .i64 na] T_int, .pc [.int .i64 nb] T_int, .pc (pcl na a) T_i_Partition, .pc (pcl nb b) T_i_Partition] := by
  refine SpecW.of_EV hf_i_named hc_i_named rfl rfl rfl fun w0 B ρ0 _ => ?_
  (repeat' (first | refine makeMap_i rfl ?_ | refine Exists.intro (pcl n (List.replicate 8 0)) (And.intro ⟨leR rfl, rfl⟩ ?_) | refine And.intro (neI rfl) ?_ | refine And.intro ⟨rfl, leR rfl, onesR rfl⟩ ?_ | refine And.intro ⟨rfl, leR rfl⟩ ?_ | refine draw_rule2 hfol (fun KK hKK => ?_) | refine hKK _ _ _ (by kernel_rfl) ?_ | refine region_rule (fun KK hKK => ?_) | refine hKK _ _ ?_ | refine And.intro (Eq.refl true) ?_ | refine Exists.intro _ (And.intro (wI (by omega)) ?_) | refine Exists.intro _ (And.intro (wU (by omega)) ?_) | refine Exists.intro _ (And.intro ⟨rfl, by omega⟩ ?_) | refine Exists.intro _ (And.intro rfl ?_) | refine And.intro rfl ?_ | refine And.intro ⟨rfl, rfl⟩ ?_ | ((refine And.intro (fun _ => ?_) (fun _ => ?_)) <;> try (exfalso; omega))))
  refine loop_rule (α := Nat × List Int × List Nat) (fun (i, ks, out) => i ≤ 2 * n ∧ out.length = 8 ∧ ks.length ≤ i ∧ nmL (gU na nb a b) (2 * n - i) i ks out = nm (gU na nb a b) n)
      (fun (i, ks, out) => [(1, .fn (.func n_i_UnionPartition_1) [] [.ptr 0 0, .ptr 1 0, .ptr 2 0, .ptr 3 0]), (4, .ptr 4 0), (5, .ptr 6 0), (6, .mp 5), (14, vi (2 * n)), (15, vi i)])
      (fun (i, ks, out) => [.pc [.int .i64 na] T_int, .pc [.int .i64 nb] T_int, .pc (pcl na a) T_i_Partition, .pc (pcl nb b) T_i_Partition, .pc (pcl 0 (List.replicate 8 0)) T_i_Partition, .mo (entL 0 ks), .pc (pcl n out) T_i_Partition]) (fun (i, _, _) => 2 * n - i) (0, [], List.replicate 8 0) [0, 1, 2, 3, 4, 5, 6]
      ⟨by omega, by simp, by simp, rfl⟩ ⟨⟨rfl, rfl, rfl, rfl, rfl, rfl, trivial⟩, ⟨rfl, rfl, rfl, rfl, rfl, rfl, rfl, trivial⟩, goodB_via (by simp [idsO, O.ids, entL_ids]; rfl) rfl⟩ ?_
  rintro ⟨i, ks, out⟩ g ⟨hi, hout, hks, hR⟩
  by_cases h8 : i = 2 * n
  · subst h8
    rw [Nat.sub_self] at hR
    replace hR : out = nm (gU na nb a b) n := hR
    (repeat' (first | refine Exists.intro (pcl n out) (And.intro ⟨pcl_len hout, pcl_all hout⟩ ?_) | refine And.intro ⟨pcl_len hout, leR rfl, pcl_ones⟩ ?_ | refine Exists.intro (pcl n out) (And.intro ⟨leR rfl, spl0 (leR rfl)⟩ ?_) | refine And.intro (neI rfl) ?_ | refine And.intro ⟨rfl, leR rfl, onesR rfl⟩ ?_ | refine And.intro ⟨rfl, leR rfl⟩ ?_ | refine draw_rule2 hfol (fun KK hKK => ?_) | refine hKK _ _ _ (by kernel_rfl) ?_ | refine region_rule (fun KK hKK => ?_) | refine hKK _ _ ?_ | refine And.intro (Eq.refl true) ?_ | refine Exists.intro _ (And.intro (wI (by omega)) ?_) | refine Exists.intro _ (And.intro (wU (by omega)) ?_) | refine Exists.intro _ (And.intro ⟨rfl, by omega⟩ ?_) | refine Exists.intro _ (And.intro rfl ?_) | refine And.intro rfl ?_ | refine And.intro ⟨rfl, rfl⟩ ?_ | ((refine And.intro (fun _ => ?_) (fun _ => ?_)) <;> try (exfalso; omega))))
    exact Exists.intro [0, 1, 2, 3] (And.intro (by rw [← hR]; rfl) (And.intro ⟨rfl, rfl, rfl, rfl, trivial⟩ rfl))
  obtain ⟨d, hd⟩ : ∃ d, 2 * n - i = d + 1 := ⟨2 * n - i - 1, by omega⟩
  have hd' : 2 * n - (i + 1) = d := by omega
  have hil : i < 2 * n := by omega
  have hcall := s_union1 na nb a b i ha hab hb hbb hn1 hn2 (by omega) (by omega)
  rw [hd] at hR
  unfold nmL at hR
  try simp only [] at hR
  cases hf : nmF ((gU na nb a b) i) ks 0 with
  | some j =>
    have hj := nmF_lt hf
    simp only [hf] at hR
    have hfi : findI ((gU na nb a b) i) (entL 0 ks) = some (some (vu j)) := by rw [entL_find, hf]; rfl
    (repeat' (first | refine hcall.read [0, 1, 2, 3] rfl ⟨rfl, rfl, rfl, rfl, trivial⟩ ?_ | refine look_i rfl rfl rfl rfl rfl rfl rfl rfl hfi ?_ | refine Exists.intro (pcl n (out.set i j)) (And.intro ⟨by rw [pcl_len hout]; omega, pcl_set⟩ ?_) | refine And.intro (neI rfl) ?_ | refine And.intro ⟨rfl, leR rfl, onesR rfl⟩ ?_ | refine And.intro ⟨rfl, leR rfl⟩ ?_ | refine draw_rule2 hfol (fun KK hKK => ?_) | refine hKK _ _ _ (by kernel_rfl) ?_ | refine region_rule (fun KK hKK => ?_) | refine hKK _ _ ?_ | refine And.intro (Eq.refl true) ?_ | refine Exists.intro _ (And.intro (wI (by omega)) ?_) | refine Exists.intro _ (And.intro (wU (by omega)) ?_) | refine Exists.intro _ (And.intro ⟨rfl, by omega⟩ ?_) | refine Exists.intro _ (And.intro rfl ?_) | refine And.intro rfl ?_ | refine And.intro ⟨rfl, rfl⟩ ?_ | ((refine And.intro (fun _ => ?_) (fun _ => ?_)) <;> try (exfalso; omega))))
    refine Exists.intro (i + 1, ks, out.set i j) (Exists.intro [0, 1, 2, 3, 4, 5, 6] (And.intro ⟨⟨by omega, by simpa using hout, by omega, by rw [hd', hR]⟩, (by show 2 * n - (i + 1) < 2 * n - i; omega)⟩ ⟨⟨rfl, rfl, rfl, rfl, rfl, rfl, trivial⟩, ⟨rfl, rfl, rfl, rfl, rfl, congrArg some entL_mo, rfl, trivial⟩, goodB_via (by simp [idsO, O.ids, entL_ids]; rfl) rfl⟩))
  | none =>
    simp only [hf] at hR
    have hfi : findI ((gU na nb a b) i) (entL 0 ks) = some none := by rw [entL_find, hf]; rfl
    have hset : setI ((gU na nb a b) i) (vu (ks.length : Nat)) (entL 0 ks) = entL 0 (ks ++ [(gU na nb a b) i]) := by have := entL_set (j := 0) hf; rwa [Nat.zero_add] at this
    (repeat' (first | refine hcall.read [0, 1, 2, 3] rfl ⟨rfl, rfl, rfl, rfl, trivial⟩ ?_ | refine look_i rfl rfl rfl rfl rfl rfl rfl rfl hfi ?_ | refine upd_to rfl rfl rfl rfl rfl rfl rfl rfl hfi hset ?_ | refine Exists.intro (ks.length : Int) (And.intro (by rw [entL_len]; exact wU (by omega)) ?_) | refine Exists.intro (pcl n (out.set i ks.length)) (And.intro ⟨by rw [pcl_len hout]; omega, pcl_set⟩ ?_) | refine And.intro (neI rfl) ?_ | refine And.intro ⟨rfl, leR rfl, onesR rfl⟩ ?_ | refine And.intro ⟨rfl, leR rfl⟩ ?_ | refine draw_rule2 hfol (fun KK hKK => ?_) | refine hKK _ _ _ (by kernel_rfl) ?_ | refine region_rule (fun KK hKK => ?_) | refine hKK _ _ ?_ | refine And.intro (Eq.refl true) ?_ | refine Exists.intro _ (And.intro (wI (by omega)) ?_) | refine Exists.intro _ (And.intro (wU (by omega)) ?_) | refine Exists.intro _ (And.intro ⟨rfl, by omega⟩ ?_) | refine Exists.intro _ (And.intro rfl ?_) | refine And.intro rfl ?_ | refine And.intro ⟨rfl, rfl⟩ ?_ | ((refine And.intro (fun _ => ?_) (fun _ => ?_)) <;> try (exfalso; omega))))
    refine Exists.intro (i + 1, ks ++ [(gU na nb a b) i], out.set i ks.length) (Exists.intro [0, 1, 2, 3, 4, 5, 6] (And.intro ⟨⟨by omega, by simpa using hout, by simp; omega, by rw [hd', hR]⟩, (by show 2 * n - (i + 1) < 2 * n - i; omega)⟩ ⟨⟨rfl, rfl, rfl, rfl, rfl, rfl, trivial⟩, ⟨rfl, rfl, rfl, rfl, rfl, congrArg some entL_mo, rfl, trivial⟩, goodB_via (by simp [idsO, O.ids, entL_ids]; rfl) rfl⟩))

end Go.Proofs.Ytpangmameocfmaa.VE.P
