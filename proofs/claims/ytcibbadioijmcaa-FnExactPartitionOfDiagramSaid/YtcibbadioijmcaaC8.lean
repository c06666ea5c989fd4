/- Contracts of functions of the given program, for all arguments that the contract names; see each theorem. -/
import Derived.Test.YtcibbadioijmcaaU10a
import Derived.Test.YtcibbadioijmcaaT2a
import Derived.Test.YtcibbadioijmcaaT15a
set_option linter.all false
namespace Go.Proofs.Ytcibbadioijmcaa.VE.P
open Go
set_option maxHeartbeats 800000
set_option maxRecDepth 100000

def gD (m : List Nat) (i : Nat) : Int := ((min i (m.getD i 0) : Nat) : Int)
theorem s_pod1 (n : Nat) (m : List Nat) (hd : IsD n m) (i : Nat) (hi : i < 2 * n) : Spec Try.prog n_i_PartitionOfDiagram_1 [vi i, .ptr 0 0] [.pc (pcl n m) T_i_Diagram] (vi (gD m i)) [.pc (pcl n m) T_i_Diagram] := by
  have hm := hd.len
  have hn := hd.n8
  have hl := hd.lt i hi
  have hmin : (if ((m.getD i 0 : Nat) : Int) < (i : Int) then ((m.getD i 0 : Nat) : Int) else (i : Int)) = gD m i := by
    unfold gD; split <;> omega
  refine SpecW.of_EV hf_i_PartitionOfDiagram_1 hc_i_PartitionOfDiagram_1 rfl rfl rfl fun w0 B ρ0 _ => ?_
  (repeat' (first | refine Exists.intro _ (And.intro (pcl_at (by omega)) ?_) | refine Exists.intro _ (And.intro hmin ?_) | refine And.intro (neI rfl) ?_ | refine And.intro ⟨rfl, leR rfl, onesR rfl⟩ ?_ | refine And.intro ⟨rfl, leR rfl⟩ ?_ | refine draw_rule2 hfol (fun KK hKK => ?_) | refine hKK _ _ _ (by kernel_rfl) ?_ | refine region_rule (fun KK hKK => ?_) | refine hKK _ _ ?_ | refine And.intro (Eq.refl true) ?_ | refine Exists.intro _ (And.intro (wI (by omega)) ?_) | refine Exists.intro _ (And.intro (wU (by omega)) ?_) | refine Exists.intro _ (And.intro ⟨rfl, by omega⟩ ?_) | refine Exists.intro _ (And.intro rfl ?_) | refine And.intro rfl ?_ | refine And.intro ⟨rfl, rfl⟩ ?_ | ((refine And.intro (fun _ => ?_) (fun _ => ?_)) <;> try (exfalso; omega))))
  exact Exists.intro [0] (And.intro (rfl) (And.intro ⟨rfl, trivial⟩ rfl))
theorem s_named_pod (n : Nat) (m : List Nat) (hID : IsD n m) (hn : n ≤ 4) :
    Spec Try.prog n_i_named [vi n, .fn (.func n_i_PartitionOfDiagram_1) [] [.ptr 0 0]] [.pc (pcl n m) T_i_Diagram] (pv n (nm (gD m) n)) [.pc (pcl n m) T_i_Diagram] := by
  refine SpecW.of_EV hf_i_named hc_i_named rfl rfl rfl fun w0 B ρ0 _ => ?_
  (repeat' (first | refine makeMap_i rfl ?_ | refine Exists.intro (pcl n (List.replicate 8 0)) (And.intro ⟨leR rfl, rfl⟩ ?_) | refine And.intro (neI rfl) ?_ | refine And.intro ⟨rfl, leR rfl, onesR rfl⟩ ?_ | refine And.intro ⟨rfl, leR rfl⟩ ?_ | refine draw_rule2 hfol (fun KK hKK => ?_) | refine hKK _ _ _ (by kernel_rfl) ?_ | refine region_rule (fun KK hKK => ?_) | refine hKK _ _ ?_ | refine And.intro (Eq.refl true) ?_ | refine Exists.intro _ (And.intro (wI (by omega)) ?_) | refine Exists.intro _ (And.intro (wU (by omega)) ?_) | refine Exists.intro _ (And.intro ⟨rfl, by omega⟩ ?_) | refine Exists.intro _ (And.intro rfl ?_) | refine And.intro rfl ?_ | refine And.intro ⟨rfl, rfl⟩ ?_ | ((refine And.intro (fun _ => ?_) (fun _ => ?_)) <;> try (exfalso; omega))))
  refine loop_rule (α := Nat × List Int × List Nat) (fun (i, ks, out) => i ≤ 2 * n ∧ out.length = 8 ∧ ks.length ≤ i ∧ nmL (gD m) (2 * n - i) i ks out = nm (gD m) n)
      (fun (i, ks, out) => [(1, .fn (.func n_i_PartitionOfDiagram_1) [] [.ptr 0 0]), (4, .ptr 1 0), (5, .ptr 3 0), (6, .mp 2), (14, vi (2 * n)), (15, vi i)])
      (fun (i, ks, out) => [.pc (pcl n m) T_i_Diagram, .pc (pcl 0 (List.replicate 8 0)) T_i_Partition, .mo (entL 0 ks), .pc (pcl n out) T_i_Partition]) (fun (i, _, _) => 2 * n - i) (0, [], List.replicate 8 0) [0, 1, 2, 3]
      ⟨by omega, by simp, by simp, rfl⟩ ⟨⟨rfl, rfl, rfl, rfl, rfl, rfl, trivial⟩, ⟨rfl, rfl, rfl, rfl, trivial⟩, goodB_via (by simp [idsO, O.ids, entL_ids]; rfl) rfl⟩ ?_
  rintro ⟨i, ks, out⟩ g ⟨hi, hout, hks, hR⟩
  by_cases h8 : i = 2 * n
  · subst h8
    rw [Nat.sub_self] at hR
    replace hR : out = nm (gD m) n := hR
    (repeat' (first | refine Exists.intro (pcl n out) (And.intro ⟨pcl_len hout, pcl_all hout⟩ ?_) | refine And.intro ⟨pcl_len hout, leR rfl, pcl_ones⟩ ?_ | refine Exists.intro (pcl n out) (And.intro ⟨leR rfl, spl0 (leR rfl)⟩ ?_) | refine And.intro (neI rfl) ?_ | refine And.intro ⟨rfl, leR rfl, onesR rfl⟩ ?_ | refine And.intro ⟨rfl, leR rfl⟩ ?_ | refine draw_rule2 hfol (fun KK hKK => ?_) | refine hKK _ _ _ (by kernel_rfl) ?_ | refine region_rule (fun KK hKK => ?_) | refine hKK _ _ ?_ | refine And.intro (Eq.refl true) ?_ | refine Exists.intro _ (And.intro (wI (by omega)) ?_) | refine Exists.intro _ (And.intro (wU (by omega)) ?_) | refine Exists.intro _ (And.intro ⟨rfl, by omega⟩ ?_) | refine Exists.intro _ (And.intro rfl ?_) | refine And.intro rfl ?_ | refine And.intro ⟨rfl, rfl⟩ ?_ | ((refine And.intro (fun _ => ?_) (fun _ => ?_)) <;> try (exfalso; omega))))
    exact Exists.intro [0] (And.intro (by rw [← hR]; rfl) (And.intro ⟨rfl, trivial⟩ rfl))
  obtain ⟨d, hd⟩ : ∃ d, 2 * n - i = d + 1 := ⟨2 * n - i - 1, by omega⟩
  have hd' : 2 * n - (i + 1) = d := by omega
  have hil : i < 2 * n := by omega
  have hcall := s_pod1 n m hID i hil
  rw [hd] at hR
  unfold nmL at hR
  try simp only [] at hR
  cases hf : nmF ((gD m) i) ks 0 with
  | some j =>
    have hj := nmF_lt hf
    simp only [hf] at hR
    have hfi : findI ((gD m) i) (entL 0 ks) = some (some (vu j)) := by rw [entL_find, hf]; rfl
    (repeat' (first | refine hcall.read [0] rfl ⟨rfl, trivial⟩ ?_ | refine look_i rfl rfl rfl rfl rfl rfl rfl rfl hfi ?_ | refine Exists.intro (pcl n (out.set i j)) (And.intro ⟨by rw [pcl_len hout]; omega, pcl_set⟩ ?_) | refine And.intro (neI rfl) ?_ | refine And.intro ⟨rfl, leR rfl, onesR rfl⟩ ?_ | refine And.intro ⟨rfl, leR rfl⟩ ?_ | refine draw_rule2 hfol (fun KK hKK => ?_) | refine hKK _ _ _ (by kernel_rfl) ?_ | refine region_rule (fun KK hKK => ?_) | refine hKK _ _ ?_ | refine And.intro (Eq.refl true) ?_ | refine Exists.intro _ (And.intro (wI (by omega)) ?_) | refine Exists.intro _ (And.intro (wU (by omega)) ?_) | refine Exists.intro _ (And.intro ⟨rfl, by omega⟩ ?_) | refine Exists.intro _ (And.intro rfl ?_) | refine And.intro rfl ?_ | refine And.intro ⟨rfl, rfl⟩ ?_ | ((refine And.intro (fun _ => ?_) (fun _ => ?_)) <;> try (exfalso; omega))))
    refine Exists.intro (i + 1, ks, out.set i j) (Exists.intro [0, 1, 2, 3] (And.intro ⟨⟨by omega, by simpa using hout, by omega, by rw [hd', hR]⟩, (by show 2 * n - (i + 1) < 2 * n - i; omega)⟩ ⟨⟨rfl, rfl, rfl, rfl, rfl, rfl, trivial⟩, ⟨rfl, rfl, congrArg some entL_mo, rfl, trivial⟩, goodB_via (by simp [idsO, O.ids, entL_ids]; rfl) rfl⟩))
  | none =>
    simp only [hf] at hR
    have hfi : findI ((gD m) i) (entL 0 ks) = some none := by rw [entL_find, hf]; rfl
    have hset : setI ((gD m) i) (vu (ks.length : Nat)) (entL 0 ks) = entL 0 (ks ++ [(gD m) i]) := by have := entL_set (j := 0) hf; rwa [Nat.zero_add] at this
    (repeat' (first | refine hcall.read [0] rfl ⟨rfl, trivial⟩ ?_ | refine look_i rfl rfl rfl rfl rfl rfl rfl rfl hfi ?_ | refine upd_to rfl rfl rfl rfl rfl rfl rfl rfl hfi hset ?_ | refine Exists.intro (ks.length : Int) (And.intro (by rw [entL_len]; exact wU (by omega)) ?_) | refine Exists.intro (pcl n (out.set i ks.length)) (And.intro ⟨by rw [pcl_len hout]; omega, pcl_set⟩ ?_) | refine And.intro (neI rfl) ?_ | refine And.intro ⟨rfl, leR rfl, onesR rfl⟩ ?_ | refine And.intro ⟨rfl, leR rfl⟩ ?_ | refine draw_rule2 hfol (fun KK hKK => ?_) | refine hKK _ _ _ (by kernel_rfl) ?_ | refine region_rule (fun KK hKK => ?_) | refine hKK _ _ ?_ | refine And.intro (Eq.refl true) ?_ | refine Exists.intro _ (And.intro (wI (by omega)) ?_) | refine Exists.intro _ (And.intro (wU (by omega)) ?_) | refine Exists.intro _ (And.intro ⟨rfl, by omega⟩ ?_) | refine Exists.intro _ (And.intro rfl ?_) | refine And.intro rfl ?_ | refine And.intro ⟨rfl, rfl⟩ ?_ | ((refine And.intro (fun _ => ?_) (fun _ => ?_)) <;> try (exfalso; omega))))
    refine Exists.intro (i + 1, ks ++ [(gD m) i], out.set i ks.length) (Exists.intro [0, 1, 2, 3] (And.intro ⟨⟨by omega, by simpa using hout, by simp; omega, by rw [hd', hR]⟩, (by show 2 * n - (i + 1) < 2 * n - i; omega)⟩ ⟨⟨rfl, rfl, rfl, rfl, rfl, rfl, trivial⟩, ⟨rfl, rfl, congrArg some entL_mo, rfl, trivial⟩, goodB_via (by simp [idsO, O.ids, entL_ids]; rfl) rfl⟩))

abbrev prV (p : Int × List Nat × Int) : V := .tup [pv p.1 p.2.1, vi p.2.2]
def podR (s : Int) (m : List Nat) : Int × List Nat × Int := if isDi s m then (if s > 4 then (0, List.replicate 8 0, 3) else (s, nm (gD m) s.toNat, 0)) else (0, List.replicate 8 0, 1)
theorem podR_len (s : Int) (m : List Nat) : (podR s m).2.1.length = 8 := by
  unfold podR; split
  · split
    · simp
    · exact nm_len
  · simp
theorem s_sPod (s : Int) (m : List Nat) (hm : m.length = 16) (hb : ∀ x ∈ m, x < 256) : Spec Try.prog n_s_PartitionOfDiagram [pv s m] [] (prV (podR s m)) [] := by
  have hq := s_sIs' s m hm hb
  have hr : podR s m = if isDi s m then (if s > 4 then (0, List.replicate 8 0, 3) else (s, nm (gD m) s.toNat, 0)) else (0, List.replicate 8 0, 1) := rfl
  refine SpecW.of_EV hf_s_PartitionOfDiagram hc_s_PartitionOfDiagram rfl rfl rfl fun w0 B ρ0 _ => ?_
  cases hv : isDi s m with
  | false =>
    rw [hv] at hq hr
    (repeat' (first | refine (hq).pure rfl ?_ | refine Exists.intro (pcl s m) (And.intro ⟨pcl_len hm, pcl_all hm⟩ ?_) | refine Exists.intro (pcl 0 (List.replicate 8 0)) (And.intro ⟨leR rfl, rfl⟩ ?_) | refine Exists.intro (pcl 0 (List.replicate 8 0)) (And.intro ⟨rfl, rfl⟩ ?_) | refine And.intro (neI rfl) ?_ | refine And.intro ⟨rfl, leR rfl, onesR rfl⟩ ?_ | refine And.intro ⟨rfl, leR rfl⟩ ?_ | refine draw_rule2 hfol (fun KK hKK => ?_) | refine hKK _ _ _ (by kernel_rfl) ?_ | refine region_rule (fun KK hKK => ?_) | refine hKK _ _ ?_ | refine And.intro (Eq.refl true) ?_ | refine Exists.intro _ (And.intro (wI (by omega)) ?_) | refine Exists.intro _ (And.intro (wU (by omega)) ?_) | refine Exists.intro _ (And.intro ⟨rfl, by omega⟩ ?_) | refine Exists.intro _ (And.intro rfl ?_) | refine And.intro rfl ?_ | refine And.intro ⟨rfl, rfl⟩ ?_ | ((refine And.intro (fun _ => ?_) (fun _ => ?_)) <;> try (exfalso; omega))))
    exact Exists.intro [] (And.intro (by rw [hr]; rfl) (And.intro trivial rfl))
  | true =>
  rw [hv] at hq hr
  obtain ⟨n, rfl, hd⟩ := isDi_elim hm hv
  rw [if_pos rfl] at hr
  by_cases h4 : (n : Int) > 4
  · rw [if_pos h4] at hr
    (repeat' (first | refine (hq).pure rfl ?_ | refine Exists.intro (pcl n m) (And.intro ⟨pcl_len hm, pcl_all hm⟩ ?_) | refine Exists.intro (pcl 0 (List.replicate 8 0)) (And.intro ⟨leR rfl, rfl⟩ ?_) | refine Exists.intro (pcl 0 (List.replicate 8 0)) (And.intro ⟨rfl, rfl⟩ ?_) | refine And.intro (neI rfl) ?_ | refine And.intro ⟨rfl, leR rfl, onesR rfl⟩ ?_ | refine And.intro ⟨rfl, leR rfl⟩ ?_ | refine draw_rule2 hfol (fun KK hKK => ?_) | refine hKK _ _ _ (by kernel_rfl) ?_ | refine region_rule (fun KK hKK => ?_) | refine hKK _ _ ?_ | refine And.intro (Eq.refl true) ?_ | refine Exists.intro _ (And.intro (wI (by omega)) ?_) | refine Exists.intro _ (And.intro (wU (by omega)) ?_) | refine Exists.intro _ (And.intro ⟨rfl, by omega⟩ ?_) | refine Exists.intro _ (And.intro rfl ?_) | refine And.intro rfl ?_ | refine And.intro ⟨rfl, rfl⟩ ?_ | ((refine And.intro (fun _ => ?_) (fun _ => ?_)) <;> try (exfalso; omega))))
    exact Exists.intro [] (And.intro (by rw [hr]; rfl) (And.intro trivial rfl))
  rw [if_neg h4] at hr
  have ht := s_told (gD m) n (by omega)
  (repeat' (first | refine (hq).pure rfl ?_ | refine Exists.intro (pcl n m) (And.intro ⟨pcl_len hm, pcl_all hm⟩ ?_) | refine And.intro (neI rfl) ?_ | refine And.intro ⟨rfl, leR rfl, onesR rfl⟩ ?_ | refine And.intro ⟨rfl, leR rfl⟩ ?_ | refine draw_rule2 hfol (fun KK hKK => ?_) | refine hKK _ _ _ (by kernel_rfl) ?_ | refine region_rule (fun KK hKK => ?_) | refine hKK _ _ ?_ | refine And.intro (Eq.refl true) ?_ | refine Exists.intro _ (And.intro (wI (by omega)) ?_) | refine Exists.intro _ (And.intro (wU (by omega)) ?_) | refine Exists.intro _ (And.intro ⟨rfl, by omega⟩ ?_) | refine Exists.intro _ (And.intro rfl ?_) | refine And.intro rfl ?_ | refine And.intro ⟨rfl, rfl⟩ ?_ | ((refine And.intro (fun _ => ?_) (fun _ => ?_)) <;> try (exfalso; omega))))
  refine loop_rule (α := Nat) (fun i => i ≤ 2 * n)
    (fun i => [(1, .ptr 0 0), (2, .ptr 1 0), (4, .sl 2), (5, vi i)])
    (fun i => [.pc (pcl n m) T_i_Diagram, .pc (pcl 0 (List.replicate 8 0)) T_i_Partition, .pr T_int64 1 i (il (gD m) i)]) (fun i => 2 * n - i) 0 [0, 1, 2]
    (by omega) ⟨⟨rfl, rfl, rfl, rfl, trivial⟩, ⟨rfl, rfl, rfl, trivial⟩, rfl⟩ ?_
  rintro i g hi
  by_cases h9 : i = 2 * n
  · subst h9
    (repeat' (first | refine (ht).read [2] rfl ⟨rfl, trivial⟩ ?_ | refine Exists.intro (pcl n (nm (gD m) n)) (And.intro ⟨pcl_len nm_len, pcl_all nm_len⟩ ?_) | refine And.intro ⟨pcl_len nm_len, leR rfl, pcl_ones⟩ ?_ | refine Exists.intro (pcl n (nm (gD m) n)) (And.intro ⟨leR rfl, spl0 (leR rfl)⟩ ?_) | refine And.intro (neI rfl) ?_ | refine And.intro ⟨rfl, leR rfl, onesR rfl⟩ ?_ | refine And.intro ⟨rfl, leR rfl⟩ ?_ | refine draw_rule2 hfol (fun KK hKK => ?_) | refine hKK _ _ _ (by kernel_rfl) ?_ | refine region_rule (fun KK hKK => ?_) | refine hKK _ _ ?_ | refine And.intro (Eq.refl true) ?_ | refine Exists.intro _ (And.intro (wI (by omega)) ?_) | refine Exists.intro _ (And.intro (wU (by omega)) ?_) | refine Exists.intro _ (And.intro ⟨rfl, by omega⟩ ?_) | refine Exists.intro _ (And.intro rfl ?_) | refine And.intro rfl ?_ | refine And.intro ⟨rfl, rfl⟩ ?_ | ((refine And.intro (fun _ => ?_) (fun _ => ?_)) <;> try (exfalso; omega))))
    exact Exists.intro [] (And.intro (by rw [hr]; rfl) (And.intro trivial rfl))
  have hil : i < 2 * n := by omega
  have hl := hd.lt i hil
  have hmin : (if ((m.getD i 0 : Nat) : Int) < (i : Int) then ((m.getD i 0 : Nat) : Int) else (i : Int)) = gD m i := by
    unfold gD; split <;> omega
  (repeat' (first | refine Exists.intro _ (And.intro (pcl_at (by omega)) ?_) | refine Exists.intro _ (And.intro hmin ?_) | refine And.intro ⟨rfl, mkL rfl⟩ ?_ | refine Exists.intro [Value.int .i64 (gD m i)] (And.intro (row1s (mkL' rfl)) ?_) | refine Exists.intro (il (gD m) (i + 1)) (And.intro ⟨rfl, onesR rfl, by omega, by omega, il_succ⟩ ?_) | refine And.intro (neI rfl) ?_ | refine And.intro ⟨rfl, leR rfl, onesR rfl⟩ ?_ | refine And.intro ⟨rfl, leR rfl⟩ ?_ | refine draw_rule2 hfol (fun KK hKK => ?_) | refine hKK _ _ _ (by kernel_rfl) ?_ | refine region_rule (fun KK hKK => ?_) | refine hKK _ _ ?_ | refine And.intro (Eq.refl true) ?_ | refine Exists.intro _ (And.intro (wI (by omega)) ?_) | refine Exists.intro _ (And.intro (wU (by omega)) ?_) | refine Exists.intro _ (And.intro ⟨rfl, by omega⟩ ?_) | refine Exists.intro _ (And.intro rfl ?_) | refine And.intro rfl ?_ | refine And.intro ⟨rfl, rfl⟩ ?_ | ((refine And.intro (fun _ => ?_) (fun _ => ?_)) <;> try (exfalso; omega))))
  refine Exists.intro (i + 1) (Exists.intro [0, 1, 4] (And.intro ⟨by omega, (by show 2 * n - (i + 1) < 2 * n - i; omega)⟩ ⟨⟨rfl, rfl, rfl, rfl, trivial⟩, ⟨rfl, rfl, rfl, trivial⟩, rfl⟩))
theorem s_iPod (s : Int) (m : List Nat) (hm : m.length = 16) (hb : ∀ x ∈ m, x < 256) : Spec Try.prog n_i_PartitionOfDiagram [pv s m] [] (prV (podR s m)) [] := by
  have hq := s_invalid1D s m hm hb
  have hr : podR s m = if isDi s m then (if s > 4 then (0, List.replicate 8 0, 3) else (s, nm (gD m) s.toNat, 0)) else (0, List.replicate 8 0, 1) := rfl
  refine SpecW.of_EV hf_i_PartitionOfDiagram hc_i_PartitionOfDiagram rfl rfl rfl fun w0 B ρ0 _ => ?_
  cases hv : isDi s m with
  | false =>
    rw [hv] at hq hr; simp only [Bool.not_false, cond_true] at hq
    (repeat' (first | refine (hq).read [2] rfl ⟨rfl, trivial⟩ ?_ | refine Exists.intro (pcl s m) (And.intro ⟨pcl_len hm, pcl_all hm⟩ ?_) | refine And.intro ⟨pcl_len hm, mkL rfl⟩ ?_ | refine Exists.intro (rowP [(s, m)]) (And.intro (row1 (N := 17) (p := (s, m)) (mkL' rfl)) ?_) | refine Exists.intro (pcl 0 (List.replicate 8 0)) (And.intro ⟨leR rfl, rfl⟩ ?_) | refine Exists.intro (pcl 0 (List.replicate 8 0)) (And.intro ⟨rfl, rfl⟩ ?_) | refine And.intro (neI rfl) ?_ | refine And.intro ⟨rfl, leR rfl, onesR rfl⟩ ?_ | refine And.intro ⟨rfl, leR rfl⟩ ?_ | refine draw_rule2 hfol (fun KK hKK => ?_) | refine hKK _ _ _ (by kernel_rfl) ?_ | refine region_rule (fun KK hKK => ?_) | refine hKK _ _ ?_ | refine And.intro (Eq.refl true) ?_ | refine Exists.intro _ (And.intro (wI (by omega)) ?_) | refine Exists.intro _ (And.intro (wU (by omega)) ?_) | refine Exists.intro _ (And.intro ⟨rfl, by omega⟩ ?_) | refine Exists.intro _ (And.intro rfl ?_) | refine And.intro rfl ?_ | refine And.intro ⟨rfl, rfl⟩ ?_ | ((refine And.intro (fun _ => ?_) (fun _ => ?_)) <;> try (exfalso; omega))))
    exact Exists.intro [] (And.intro (by rw [hr]; rfl) (And.intro trivial rfl))
  | true =>
  rw [hv] at hq hr; simp only [Bool.not_true, cond_false] at hq
  obtain ⟨n, rfl, hd⟩ := isDi_elim hm hv
  rw [if_pos rfl] at hr
  by_cases h4 : (n : Int) > 4
  · rw [if_pos h4] at hr
    (repeat' (first | refine (hq).read [2] rfl ⟨rfl, trivial⟩ ?_ | refine Exists.intro (pcl n m) (And.intro ⟨pcl_len hm, pcl_all hm⟩ ?_) | refine And.intro ⟨pcl_len hm, mkL rfl⟩ ?_ | refine Exists.intro (rowP [((n : Int), m)]) (And.intro (row1 (N := 17) (p := ((n : Int), m)) (mkL' rfl)) ?_) | refine Exists.intro (pcl 0 (List.replicate 8 0)) (And.intro ⟨leR rfl, rfl⟩ ?_) | refine Exists.intro (pcl 0 (List.replicate 8 0)) (And.intro ⟨rfl, rfl⟩ ?_) | refine And.intro (neI rfl) ?_ | refine And.intro ⟨rfl, leR rfl, onesR rfl⟩ ?_ | refine And.intro ⟨rfl, leR rfl⟩ ?_ | refine draw_rule2 hfol (fun KK hKK => ?_) | refine hKK _ _ _ (by kernel_rfl) ?_ | refine region_rule (fun KK hKK => ?_) | refine hKK _ _ ?_ | refine And.intro (Eq.refl true) ?_ | refine Exists.intro _ (And.intro (wI (by omega)) ?_) | refine Exists.intro _ (And.intro (wU (by omega)) ?_) | refine Exists.intro _ (And.intro ⟨rfl, by omega⟩ ?_) | refine Exists.intro _ (And.intro rfl ?_) | refine And.intro rfl ?_ | refine And.intro ⟨rfl, rfl⟩ ?_ | ((refine And.intro (fun _ => ?_) (fun _ => ?_)) <;> try (exfalso; omega))))
    exact Exists.intro [] (And.intro (by rw [hr]; rfl) (And.intro trivial rfl))
  rw [if_neg h4] at hr
  have hnm := s_named_pod n m hd (by omega)
  (repeat' (first | refine (hq).read [2] rfl ⟨rfl, trivial⟩ ?_ | refine (s_n n m).read [0] rfl ⟨rfl, trivial⟩ ?_ | refine (hnm).read [0] rfl ⟨rfl, trivial⟩ ?_ | refine Exists.intro (pcl n m) (And.intro ⟨pcl_len hm, pcl_all hm⟩ ?_) | refine And.intro ⟨pcl_len hm, mkL rfl⟩ ?_ | refine Exists.intro (rowP [((n : Int), m)]) (And.intro (row1 (N := 17) (p := ((n : Int), m)) (mkL' rfl)) ?_) | refine Exists.intro (pcl n (nm (gD m) n)) (And.intro ⟨pcl_len nm_len, pcl_all nm_len⟩ ?_) | refine And.intro ⟨pcl_len nm_len, leR rfl, pcl_ones⟩ ?_ | refine Exists.intro (pcl n (nm (gD m) n)) (And.intro ⟨leR rfl, spl0 (leR rfl)⟩ ?_) | refine And.intro (neI rfl) ?_ | refine And.intro ⟨rfl, leR rfl, onesR rfl⟩ ?_ | refine And.intro ⟨rfl, leR rfl⟩ ?_ | refine draw_rule2 hfol (fun KK hKK => ?_) | refine hKK _ _ _ (by kernel_rfl) ?_ | refine region_rule (fun KK hKK => ?_) | refine hKK _ _ ?_ | refine And.intro (Eq.refl true) ?_ | refine Exists.intro _ (And.intro (wI (by omega)) ?_) | refine Exists.intro _ (And.intro (wU (by omega)) ?_) | refine Exists.intro _ (And.intro ⟨rfl, by omega⟩ ?_) | refine Exists.intro _ (And.intro rfl ?_) | refine And.intro rfl ?_ | refine And.intro ⟨rfl, rfl⟩ ?_ | ((refine And.intro (fun _ => ?_) (fun _ => ?_)) <;> try (exfalso; omega))))
  exact Exists.intro [] (And.intro (by rw [hr]; rfl) (And.intro trivial rfl))
theorem s_lawPod (s : Int) (m : List Nat) (hm : m.length = 16) (hb : ∀ x ∈ m, x < 256) : Spec Try.prog n_l_FnExactPartitionOfDiagram [pv s m] [] (vb true) [] := by
  have h1 := s_sPod s m hm hb
  have h2 := s_iPod s m hm hb
  have hl := podR_len s m
  generalize podR s m = p at h1 h2 hl
  have he := s_eqP p.1 p.2.1 hl
  refine SpecW.of_EV hf_l_FnExactPartitionOfDiagram hc_l_FnExactPartitionOfDiagram rfl rfl rfl fun w0 B ρ0 _ => ?_
  (repeat' (first | refine (s_toD s m hm).pure rfl ?_ | refine (h1).pure rfl ?_ | refine (h2).pure rfl ?_ | refine (he).pure rfl ?_ | refine Exists.intro (pcl p.1 p.2.1) (And.intro ⟨pcl_len hl, pcl_all hl⟩ ?_) | refine And.intro ⟨pcl_len hl, leR rfl, pcl_ones⟩ ?_ | refine Exists.intro (pcl p.1 p.2.1) (And.intro ⟨leR rfl, spl0 (leR rfl)⟩ ?_) | refine Exists.intro (pcl s m) (And.intro ⟨pcl_len hm, pcl_all hm⟩ ?_) | refine And.intro (fun _ => ?_) (fun h => absurd rfl h) | refine And.intro (neI rfl) ?_ | refine And.intro ⟨rfl, leR rfl, onesR rfl⟩ ?_ | refine And.intro ⟨rfl, leR rfl⟩ ?_ | refine draw_rule2 hfol (fun KK hKK => ?_) | refine hKK _ _ _ (by kernel_rfl) ?_ | refine region_rule (fun KK hKK => ?_) | refine hKK _ _ ?_ | refine And.intro (Eq.refl true) ?_ | refine Exists.intro _ (And.intro (wI (by omega)) ?_) | refine Exists.intro _ (And.intro (wU (by omega)) ?_) | refine Exists.intro _ (And.intro ⟨rfl, by omega⟩ ?_) | refine Exists.intro _ (And.intro rfl ?_) | refine And.intro rfl ?_ | refine And.intro ⟨rfl, rfl⟩ ?_ | ((refine And.intro (fun _ => ?_) (fun _ => ?_)) <;> try (exfalso; omega))))
  exact finP rfl
end Go.Proofs.Ytcibbadioijmcaa.VE.P
