/- Contracts of functions of the given program, for all arguments that the contract names; see each theorem. -/
import Derived.Test.YtpangmameocfmaaT31
set_option linter.all false
namespace Go.Proofs.Ytpangmameocfmaa.VE.P
open Go
set_option maxHeartbeats 800000
set_option maxRecDepth 100000

def gT (r : Nat → Nat) (n i : Nat) : Int := ((r (i + i / n * n) : Nat) : Int)
theorem s_times1 (n : Nat) (p r d : Nat → Nat) (h : UF (3 * n) p r d) (hn1 : 1 ≤ n) (hn : n ≤ 4) (i : Nat) (hi : i < 2 * n) :
    Spec Try.prog n_i_timesPartition_1 [vi i, .ptr 0 0, .ptr 1 0] [.cc [.sl 2] T_i_groups, .pc [.int .i64 n] T_int, .pr T_int 1 (3 * n) (il (oI p) (3 * n))] (vi (gT r n i)) [.cc [.sl 2] T_i_groups, .pc [.int .i64 n] T_int, .pr T_int 1 (3 * n) (il (oI p) (3 * n))] := by
  have hle := Nat.div_mul_le_self i n
  have hdn : i / n * n ≤ n := by
    have : i / n < 2 := (Nat.div_lt_iff_lt_mul (by omega)).2 hi
    have := Nat.mul_le_mul_right n (show i / n ≤ 1 by omega)
    omega
  have hlt : i + i / n * n < 3 * n := by
    by_cases h1 : i < n
    · rw [Nat.div_eq_of_lt h1]; omega
    · omega
  have hne : (n : Int) ≠ 0 := by omega
  have hdN := tdN i n
  have hdl := Nat.div_le_self i n
  have h0 : (0 : Int) ≤ ((i / n : Nat) : Int) := Int.natCast_nonneg _
  have e1 : IntKind.i64.wrap (Int.tdiv (i : Int) (n : Int)) = ((i / n : Nat) : Int) := by rw [hdN]; exact wI (by omega)
  have e2 : IntKind.i64.wrap (((i / n : Nat) : Int) * (n : Int)) = ((i / n * n : Nat) : Int) := by rw [← Int.natCast_mul]; exact wI (by omega)
  have hof := s_of h (by omega) (i + i / n * n) hlt
  show Spec Try.prog _ _ _ (vi ((r (i + i / n * n) : Nat) : Int)) _
  generalize i / n * n = q at *
  have e3 : IntKind.i64.wrap ((i : Int) + (q : Int)) = ((i + q : Nat) : Int) := wC (by omega) (by omega)
  refine SpecW.of_EV hf_i_timesPartition_1 hc_i_timesPartition_1 rfl rfl rfl fun w0 B ρ0 _ => ?_
  (repeat' (first | refine And.intro hne ?_ | refine Exists.intro _ (And.intro e1 ?_) | refine Exists.intro _ (And.intro e2 ?_) | refine Exists.intro _ (And.intro e3 ?_) | refine (hof).read [2] rfl ⟨rfl, trivial⟩ ?_ | refine And.intro (neI rfl) ?_ | refine And.intro ⟨rfl, leR rfl, onesR rfl⟩ ?_ | refine And.intro ⟨rfl, leR rfl⟩ ?_ | refine draw_rule2 hfol (fun KK hKK => ?_) | refine hKK _ _ _ (by kernel_rfl) ?_ | refine region_rule (fun KK hKK => ?_) | refine hKK _ _ ?_ | refine And.intro (Eq.refl true) ?_ | refine Exists.intro _ (And.intro (wI (by omega)) ?_) | refine Exists.intro _ (And.intro (wU (by omega)) ?_) | refine Exists.intro _ (And.intro ⟨rfl, by omega⟩ ?_) | refine Exists.intro _ (And.intro rfl ?_) | refine And.intro rfl ?_ | refine And.intro ⟨rfl, rfl⟩ ?_ | ((refine And.intro (fun _ => ?_) (fun _ => ?_)) <;> try (exfalso; omega))))
  exact Exists.intro [0, 1, 2] (And.intro (rfl) (And.intro ⟨rfl, rfl, rfl, trivial⟩ rfl))
theorem s_named_times (n : Nat) (p r dd : Nat → Nat) (hUF : UF (3 * n) p r dd) (hn1 : 1 ≤ n) (hn : n ≤ 4) :
    Spec Try.prog n_i_named [vi n, .fn (.func n_i_timesPartition_1) [] [.ptr 0 0, .ptr 1 0]] [.cc [.sl 2] T_i_groups, .pc [.int .i64 n] T_int, .pr T_int 1 (3 * n) (il (oI p) (3 * n))] (pv n (nm (gT r n) n)) [.cc [.sl 2] T_i_groups, .pc [.int .i64 n] T_int, .pr T_int 1 (3 * n) (il (oI p) (3 * n))] := by
  refine SpecW.of_EV hf_i_named hc_i_named rfl rfl rfl fun w0 B ρ0 _ => ?_
  (repeat' (first | refine makeMap_i rfl ?_ | refine Exists.intro (pcl n (List.replicate 8 0)) (And.intro ⟨leR rfl, rfl⟩ ?_) | refine And.intro (neI rfl) ?_ | refine And.intro ⟨rfl, leR rfl, onesR rfl⟩ ?_ | refine And.intro ⟨rfl, leR rfl⟩ ?_ | refine draw_rule2 hfol (fun KK hKK => ?_) | refine hKK _ _ _ (by kernel_rfl) ?_ | refine region_rule (fun KK hKK => ?_) | refine hKK _ _ ?_ | refine And.intro (Eq.refl true) ?_ | refine Exists.intro _ (And.intro (wI (by omega)) ?_) | refine Exists.intro _ (And.intro (wU (by omega)) ?_) | refine Exists.intro _ (And.intro ⟨rfl, by omega⟩ ?_) | refine Exists.intro _ (And.intro rfl ?_) | refine And.intro rfl ?_ | refine And.intro ⟨rfl, rfl⟩ ?_ | ((refine And.intro (fun _ => ?_) (fun _ => ?_)) <;> try (exfalso; omega))))
  refine loop_rule (α := Nat × List Int × List Nat) (fun (i, ks, out) => i ≤ 2 * n ∧ out.length = 8 ∧ ks.length ≤ i ∧ nmL (gT r n) (2 * n - i) i ks out = nm (gT r n) n)
      (fun (i, ks, out) => [(1, .fn (.func n_i_timesPartition_1) [] [.ptr 0 0, .ptr 1 0]), (4, .ptr 3 0), (5, .ptr 5 0), (6, .mp 4), (14, vi (2 * n)), (15, vi i)])
      (fun (i, ks, out) => [.cc [.sl 2] T_i_groups, .pc [.int .i64 n] T_int, .pr T_int 1 (3 * n) (il (oI p) (3 * n)), .pc (pcl 0 (List.replicate 8 0)) T_i_Partition, .mo (entL 0 ks), .pc (pcl n out) T_i_Partition]) (fun (i, _, _) => 2 * n - i) (0, [], List.replicate 8 0) [0, 1, 2, 3, 4, 5]
      ⟨by omega, by simp, by simp, rfl⟩ ⟨⟨rfl, rfl, rfl, rfl, rfl, rfl, trivial⟩, ⟨rfl, rfl, rfl, rfl, rfl, rfl, trivial⟩, goodB_via (by simp [idsO, O.ids, entL_ids]; rfl) rfl⟩ ?_
  rintro ⟨i, ks, out⟩ g ⟨hi, hout, hks, hR⟩
  by_cases h8 : i = 2 * n
  · subst h8
    rw [Nat.sub_self] at hR
    replace hR : out = nm (gT r n) n := hR
    (repeat' (first | refine Exists.intro (pcl n out) (And.intro ⟨pcl_len hout, pcl_all hout⟩ ?_) | refine And.intro ⟨pcl_len hout, leR rfl, pcl_ones⟩ ?_ | refine Exists.intro (pcl n out) (And.intro ⟨leR rfl, spl0 (leR rfl)⟩ ?_) | refine And.intro (neI rfl) ?_ | refine And.intro ⟨rfl, leR rfl, onesR rfl⟩ ?_ | refine And.intro ⟨rfl, leR rfl⟩ ?_ | refine draw_rule2 hfol (fun KK hKK => ?_) | refine hKK _ _ _ (by kernel_rfl) ?_ | refine region_rule (fun KK hKK => ?_) | refine hKK _ _ ?_ | refine And.intro (Eq.refl true) ?_ | refine Exists.intro _ (And.intro (wI (by omega)) ?_) | refine Exists.intro _ (And.intro (wU (by omega)) ?_) | refine Exists.intro _ (And.intro ⟨rfl, by omega⟩ ?_) | refine Exists.intro _ (And.intro rfl ?_) | refine And.intro rfl ?_ | refine And.intro ⟨rfl, rfl⟩ ?_ | ((refine And.intro (fun _ => ?_) (fun _ => ?_)) <;> try (exfalso; omega))))
    exact Exists.intro [0, 1, 2] (And.intro (by rw [← hR]; rfl) (And.intro ⟨rfl, rfl, rfl, trivial⟩ rfl))
  obtain ⟨d, hd⟩ : ∃ d, 2 * n - i = d + 1 := ⟨2 * n - i - 1, by omega⟩
  have hd' : 2 * n - (i + 1) = d := by omega
  have hil : i < 2 * n := by omega
  have hcall := s_times1 n p r dd hUF hn1 hn i hil
  rw [hd] at hR
  unfold nmL at hR
  try simp only [] at hR
  cases hf : nmF ((gT r n) i) ks 0 with
  | some j =>
    have hj := nmF_lt hf
    simp only [hf] at hR
    have hfi : findI ((gT r n) i) (entL 0 ks) = some (some (vu j)) := by rw [entL_find, hf]; rfl
    (repeat' (first | refine hcall.read [0, 1, 2] rfl ⟨rfl, rfl, rfl, trivial⟩ ?_ | refine look_i rfl rfl rfl rfl rfl rfl rfl rfl hfi ?_ | refine Exists.intro (pcl n (out.set i j)) (And.intro ⟨by rw [pcl_len hout]; omega, pcl_set⟩ ?_) | refine And.intro (neI rfl) ?_ | refine And.intro ⟨rfl, leR rfl, onesR rfl⟩ ?_ | refine And.intro ⟨rfl, leR rfl⟩ ?_ | refine draw_rule2 hfol (fun KK hKK => ?_) | refine hKK _ _ _ (by kernel_rfl) ?_ | refine region_rule (fun KK hKK => ?_) | refine hKK _ _ ?_ | refine And.intro (Eq.refl true) ?_ | refine Exists.intro _ (And.intro (wI (by omega)) ?_) | refine Exists.intro _ (And.intro (wU (by omega)) ?_) | refine Exists.intro _ (And.intro ⟨rfl, by omega⟩ ?_) | refine Exists.intro _ (And.intro rfl ?_) | refine And.intro rfl ?_ | refine And.intro ⟨rfl, rfl⟩ ?_ | ((refine And.intro (fun _ => ?_) (fun _ => ?_)) <;> try (exfalso; omega))))
    refine Exists.intro (i + 1, ks, out.set i j) (Exists.intro [0, 1, 2, 3, 4, 5] (And.intro ⟨⟨by omega, by simpa using hout, by omega, by rw [hd', hR]⟩, (by show 2 * n - (i + 1) < 2 * n - i; omega)⟩ ⟨⟨rfl, rfl, rfl, rfl, rfl, rfl, trivial⟩, ⟨rfl, rfl, rfl, rfl, congrArg some entL_mo, rfl, trivial⟩, goodB_via (by simp [idsO, O.ids, entL_ids]; rfl) rfl⟩))
  | none =>
    simp only [hf] at hR
    have hfi : findI ((gT r n) i) (entL 0 ks) = some none := by rw [entL_find, hf]; rfl
    have hset : setI ((gT r n) i) (vu (ks.length : Nat)) (entL 0 ks) = entL 0 (ks ++ [(gT r n) i]) := by have := entL_set (j := 0) hf; rwa [Nat.zero_add] at this
    (repeat' (first | refine hcall.read [0, 1, 2] rfl ⟨rfl, rfl, rfl, trivial⟩ ?_ | refine look_i rfl rfl rfl rfl rfl rfl rfl rfl hfi ?_ | refine upd_to rfl rfl rfl rfl rfl rfl rfl rfl hfi hset ?_ | refine Exists.intro (ks.length : Int) (And.intro (by rw [entL_len]; exact wU (by omega)) ?_) | refine Exists.intro (pcl n (out.set i ks.length)) (And.intro ⟨by rw [pcl_len hout]; omega, pcl_set⟩ ?_) | refine And.intro (neI rfl) ?_ | refine And.intro ⟨rfl, leR rfl, onesR rfl⟩ ?_ | refine And.intro ⟨rfl, leR rfl⟩ ?_ | refine draw_rule2 hfol (fun KK hKK => ?_) | refine hKK _ _ _ (by kernel_rfl) ?_ | refine region_rule (fun KK hKK => ?_) | refine hKK _ _ ?_ | refine And.intro (Eq.refl true) ?_ | refine Exists.intro _ (And.intro (wI (by omega)) ?_) | refine Exists.intro _ (And.intro (wU (by omega)) ?_) | refine Exists.intro _ (And.intro ⟨rfl, by omega⟩ ?_) | refine Exists.intro _ (And.intro rfl ?_) | refine And.intro rfl ?_ | refine And.intro ⟨rfl, rfl⟩ ?_ | ((refine And.intro (fun _ => ?_) (fun _ => ?_)) <;> try (exfalso; omega))))
    refine Exists.intro (i + 1, ks ++ [(gT r n) i], out.set i ks.length) (Exists.intro [0, 1, 2, 3, 4, 5] (And.intro ⟨⟨by omega, by simpa using hout, by simp; omega, by rw [hd', hR]⟩, (by show 2 * n - (i + 1) < 2 * n - i; omega)⟩ ⟨⟨rfl, rfl, rfl, rfl, rfl, rfl, trivial⟩, ⟨rfl, rfl, rfl, rfl, congrArg some entL_mo, rfl, trivial⟩, goodB_via (by simp [idsO, O.ids, entL_ids]; rfl) rfl⟩))

end Go.Proofs.Ytpangmameocfmaa.VE.P
