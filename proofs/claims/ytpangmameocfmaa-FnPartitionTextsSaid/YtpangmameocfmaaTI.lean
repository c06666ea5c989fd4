/- Contracts of functions of the given program, for all arguments that the contract names; see each theorem. -/
import Derived.Test.YtpangmameocfmaaTH
set_option linter.all false
namespace Go.Proofs.Ytpangmameocfmaa.VE.P
open Go
set_option maxHeartbeats 800000
set_option maxRecDepth 100000

def gT (r : Nat → Nat) (n i : Nat) : Int := ((r (i + i / n * n) : Nat) : Int)
theorem s_times1 (n : Nat) (p r d : Nat → Nat) (h : UF (3 * n) p r d) (hn1 : 1 ≤ n) (hn : n ≤ 4) (i : Nat) (hi : i < 2 * n) :
    Spec Try.prog n_i_timesPartition_1 [vi i, .ptr 0 0, .ptr 1 0] [.cc [.sl 2] T_i_groups, .pc [.int .i64 n] T_int, .pr T_int 1 (3 * n) (il (oI p) (3 * n))] (vi (gT r n i)) [.cc [.sl 2] T_i_groups, .pc [.int .i64 n] T_int, .pr T_int 1 (3 * n) (il (oI p) (3 * n))] := by
  have hle := Nat.div_mul_le_self i n
  have hdn : i / n * n ≤ n := by
    have : i / n < 2 := (Nat.div_lt_iff_lt_mul (by omega)).2 hi
    have := Nat.mul_le_mul_right n (show i / n ≤ 1 by omega)
    omega
  have hlt : i + i / n * n < 3 * n := by
    by_cases h1 : i < n
    · rw [Nat.div_eq_of_lt h1]; omega
    · omega
  have hne : (n : Int) ≠ 0 := by omega
  have hdN := tdN i n
  have hdl := Nat.div_le_self i n
  have h0 : (0 : Int) ≤ ((i / n : Nat) : Int) := Int.natCast_nonneg _
  have e1 : IntKind.i64.wrap (Int.tdiv (i : Int) (n : Int)) = ((i / n : Nat) : Int) := by rw [hdN]; exact wI (by omega)
  have e2 : IntKind.i64.wrap (((i / n : Nat) : Int) * (n : Int)) = ((i / n * n : Nat) : Int) := by rw [← Int.natCast_mul]; exact wI (by omega)
  have hof := s_of h (by omega) (i + i / n * n) hlt
  show Spec Try.prog _ _ _ (vi ((r (i + i / n * n) : Nat) : Int)) _
  generalize i / n * n = q at *
  have e3 : IntKind.i64.wrap ((i : Int) + (q : Int)) = ((i + q : Nat) : Int) := wC (by omega) (by omega)
  refine SpecW.of_EV hf_i_timesPartition_1 hc_i_timesPartition_1 rfl rfl rfl fun w0 B ρ0 _ => ?_
  (repeat' (first | refine And.intro hne ?_ | refine Exists.intro _ (And.intro e1 ?_) | refine Exists.intro _ (And.intro e2 ?_) | refine Exists.intro _ (And.intro e3 ?_) | refine (hof).read [2] rfl ⟨rfl, trivial⟩ ?_ | refine And.intro (neI rfl) ?_ | refine And.intro ⟨rfl, leR rfl, onesR rfl⟩ ?_ | refine And.intro ⟨rfl, leR rfl⟩ ?_ | refine draw_rule2 hfol (fun KK hKK => ?_) | refine hKK _ _ _ (by kernel_rfl) ?_ | refine region_rule (fun KK hKK => ?_) | refine hKK _ _ ?_ | refine And.intro (Eq.refl true) ?_ | refine Exists.intro _ (And.intro (wI (by omega)) ?_) | refine Exists.intro _ (And.intro (wU (by omega)) ?_) | refine Exists.intro _ (And.intro ⟨rfl, by omega⟩ ?_) | refine Exists.intro _ (And.intro rfl ?_) | refine And.intro rfl ?_ | refine And.intro ⟨rfl, rfl⟩ ?_ | ((refine And.intro (fun _ => ?_) (fun _ => ?_)) <;> try (exfalso; omega))))
  exact Exists.intro [0, 1, 2] (And.intro (rfl) (And.intro ⟨rfl, rfl, rfl, trivial⟩ rfl))
theorem s_named_times (n : Nat) (p r dd : Nat → Nat) (hUF : UF (3 * n) p r dd) (hn1 : 1 ≤ n) (hn : n ≤ 4) :
    Spec Try.prog n_i_named [vi n, .fn (.func n_i_timesPartition_1) [] [.ptr 0 0, .ptr 1 0]] [.cc [.sl 2] T_i_groups, .pc [.int .i64 n] T_int, .pr T_int 1 (3 * n) (il (oI p) (3 * n))] (pv n (nm (gT r n) n)) [.cc [.sl 2] T_i_groups, .pc [.int .i64 n] T_int, .pr T_int 1 (3 * n) (il (oI p) (3 * n))] := by
  refine SpecW.of_EV hf_i_named hc_i_named rfl rfl rfl fun w0 B ρ0 _ => ?_
  (repeat' (first | refine makeMap_i rfl ?_ | refine Exists.intro (pcl n (List.replicate 8 0)) (And.intro ⟨leR rfl, rfl⟩ ?_) | refine And.intro (neI rfl) ?_ | refine And.intro ⟨rfl, leR rfl, onesR rfl⟩ ?_ | refine And.intro ⟨rfl, leR rfl⟩ ?_ | refine draw_rule2 hfol (fun KK hKK => ?_) | refine hKK _ _ _ (by kernel_rfl) ?_ | refine region_rule (fun KK hKK => ?_) | refine hKK _ _ ?_ | refine And.intro (Eq.refl true) ?_ | refine Exists.intro _ (And.intro (wI (by omega)) ?_) | refine Exists.intro _ (And.intro (wU (by omega)) ?_) | refine Exists.intro _ (And.intro ⟨rfl, by omega⟩ ?_) | refine Exists.intro _ (And.intro rfl ?_) | refine And.intro rfl ?_ | refine And.intro ⟨rfl, rfl⟩ ?_ | ((refine And.intro (fun _ => ?_) (fun _ => ?_)) <;> try (exfalso; omega))))
  refine loop_rule (α := Nat × List Int × List Nat) (fun (i, ks, out) => i ≤ 2 * n ∧ out.length = 8 ∧ ks.length ≤ i ∧ nmL (gT r n) (2 * n - i) i ks out = nm (gT r n) n)
      (fun (i, ks, out) => [(1, .fn (.func n_i_timesPartition_1) [] [.ptr 0 0, .ptr 1 0]), (4, .ptr 3 0), (5, .ptr 5 0), (6, .mp 4), (14, vi (2 * n)), (15, vi i)])
      (fun (i, ks, out) => [.cc [.sl 2] T_i_groups, .pc [.int .i64 n] T_int, .pr T_int 1 (3 * n) (il (oI p) (3 * n)), .pc (pcl 0 (List.replicate 8 0)) T_i_Partition, .mo (entL 0 ks), .pc (pcl n out) T_i_Partition]) (fun (i, _, _) => 2 * n - i) (0, [], List.replicate 8 0) [0, 1, 2, 3, 4, 5]
      ⟨by omega, by simp, by simp, rfl⟩ ⟨⟨rfl, rfl, rfl, rfl, rfl, rfl, trivial⟩, ⟨rfl, rfl, rfl, rfl, rfl, rfl, trivial⟩, goodB_via (by simp [idsO, O.ids, entL_ids]; rfl) rfl⟩ ?_
  rintro ⟨i, ks, out⟩ g ⟨hi, hout, hks, hR⟩
  by_cases h8 : i = 2 * n
  · subst h8
    rw [Nat.sub_self] at hR
    replace hR : out = nm (gT r n) n := hR
    (repeat' (first | refine Exists.intro (pcl n out) (And.intro ⟨pcl_len hout, pcl_all hout⟩ ?_) | refine And.intro ⟨pcl_len hout, leR rfl, pcl_ones⟩ ?_ | refine Exists.intro (pcl n out) (And.intro ⟨leR rfl, spl0 (leR rfl)⟩ ?_) | refine And.intro (neI rfl) ?_ | refine And.intro ⟨rfl, leR rfl, onesR rfl⟩ ?_ | refine And.intro ⟨rfl, leR rfl⟩ ?_ | refine draw_rule2 hfol (fun KK hKK => ?_) | refine hKK _ _ _ (by kernel_rfl) ?_ | refine region_rule (fun KK hKK => ?_) | refine hKK _ _ ?_ | refine And.intro (Eq.refl true) ?_ | refine Exists.intro _ (And.intro (wI (by omega)) ?_) | refine Exists.intro _ (And.intro (wU (by omega)) ?_) | refine Exists.intro _ (And.intro ⟨rfl, by omega⟩ ?_) | refine Exists.intro _ (And.intro rfl ?_) | refine And.intro rfl ?_ | refine And.intro ⟨rfl, rfl⟩ ?_ | ((refine And.intro (fun _ => ?_) (fun _ => ?_)) <;> try (exfalso; omega))))
    exact Exists.intro [0, 1, 2] (And.intro (by rw [← hR]; rfl) (And.intro ⟨rfl, rfl, rfl, trivial⟩ rfl))
  obtain ⟨d, hd⟩ : ∃ d, 2 * n - i = d + 1 := ⟨2 * n - i - 1, by omega⟩
  have hd' : 2 * n - (i + 1) = d := by omega
  have hil : i < 2 * n := by omega
  have hcall := s_times1 n p r dd hUF hn1 hn i hil
  rw [hd] at hR
  unfold nmL at hR
  try simp only [] at hR
  cases hf : nmF ((gT r n) i) ks 0 with
  | some j =>
    have hj := nmF_lt hf
    simp only [hf] at hR
    have hfi : findI ((gT r n) i) (entL 0 ks) = some (some (vu j)) := by rw [entL_find, hf]; rfl
    (repeat' (first | refine hcall.read [0, 1, 2] rfl ⟨rfl, rfl, rfl, trivial⟩ ?_ | refine look_i rfl rfl rfl rfl rfl rfl rfl rfl hfi ?_ | refine Exists.intro (pcl n (out.set i j)) (And.intro ⟨by rw [pcl_len hout]; omega, pcl_set⟩ ?_) | refine And.intro (neI rfl) ?_ | refine And.intro ⟨rfl, leR rfl, onesR rfl⟩ ?_ | refine And.intro ⟨rfl, leR rfl⟩ ?_ | refine draw_rule2 hfol (fun KK hKK => ?_) | refine hKK _ _ _ (by kernel_rfl) ?_ | refine region_rule (fun KK hKK => ?_) | refine hKK _ _ ?_ | refine And.intro (Eq.refl true) ?_ | refine Exists.intro _ (And.intro (wI (by omega)) ?_) | refine Exists.intro _ (And.intro (wU (by omega)) ?_) | refine Exists.intro _ (And.intro ⟨rfl, by omega⟩ ?_) | refine Exists.intro _ (And.intro rfl ?_) | refine And.intro rfl ?_ | refine And.intro ⟨rfl, rfl⟩ ?_ | ((refine And.intro (fun _ => ?_) (fun _ => ?_)) <;> try (exfalso; omega))))
    refine Exists.intro (i + 1, ks, out.set i j) (Exists.intro [0, 1, 2, 3, 4, 5] (And.intro ⟨⟨by omega, by simpa using hout, by omega, by rw [hd', hR]⟩, (by show 2 * n - (i + 1) < 2 * n - i; omega)⟩ ⟨⟨rfl, rfl, rfl, rfl, rfl, rfl, trivial⟩, ⟨rfl, rfl, rfl, rfl, congrArg some entL_mo, rfl, trivial⟩, goodB_via (by simp [idsO, O.ids, entL_ids]; rfl) rfl⟩))
  | none =>
    simp only [hf] at hR
    have hfi : findI ((gT r n) i) (entL 0 ks) = some none := by rw [entL_find, hf]; rfl
    have hset : setI ((gT r n) i) (vu (ks.length : Nat)) (entL 0 ks) = entL 0 (ks ++ [(gT r n) i]) := by have := entL_set (j := 0) hf; rwa [Nat.zero_add] at this
    (repeat' (first | refine hcall.read [0, 1, 2] rfl ⟨rfl, rfl, rfl, trivial⟩ ?_ | refine look_i rfl rfl rfl rfl rfl rfl rfl rfl hfi ?_ | refine upd_to rfl rfl rfl rfl rfl rfl rfl rfl hfi hset ?_ | refine Exists.intro (ks.length : Int) (And.intro (by rw [entL_len]; exact wU (by omega)) ?_) | refine Exists.intro (pcl n (out.set i ks.length)) (And.intro ⟨by rw [pcl_len hout]; omega, pcl_set⟩ ?_) | refine And.intro (neI rfl) ?_ | refine And.intro ⟨rfl, leR rfl, onesR rfl⟩ ?_ | refine And.intro ⟨rfl, leR rfl⟩ ?_ | refine draw_rule2 hfol (fun KK hKK => ?_) | refine hKK _ _ _ (by kernel_rfl) ?_ | refine region_rule (fun KK hKK => ?_) | refine hKK _ _ ?_ | refine And.intro (Eq.refl true) ?_ | refine Exists.intro _ (And.intro (wI (by omega)) ?_) | refine Exists.intro _ (And.intro (wU (by omega)) ?_) | refine Exists.intro _ (And.intro ⟨rfl, by omega⟩ ?_) | refine Exists.intro _ (And.intro rfl ?_) | refine And.intro rfl ?_ | refine And.intro ⟨rfl, rfl⟩ ?_ | ((refine And.intro (fun _ => ?_) (fun _ => ?_)) <;> try (exfalso; omega))))
    refine Exists.intro (i + 1, ks ++ [(gT r n) i], out.set i ks.length) (Exists.intro [0, 1, 2, 3, 4, 5] (And.intro ⟨⟨by omega, by simpa using hout, by simp; omega, by rw [hd', hR]⟩, (by show 2 * n - (i + 1) < 2 * n - i; omega)⟩ ⟨⟨rfl, rfl, rfl, rfl, rfl, rfl, trivial⟩, ⟨rfl, rfl, rfl, rfl, congrArg some entL_mo, rfl, trivial⟩, goodB_via (by simp [idsO, O.ids, entL_ids]; rfl) rfl⟩))

end Go.Proofs.Ytpangmameocfmaa.VE.P
namespace Go.Proofs.Ytpangmameocfmaa.VE.P
open Go
set_option maxHeartbeats 1600000
set_option maxRecDepth 100000

theorem entT_ids : ∀ {ks : List Int}, idsL ((entT ks).map (·.2)) = []
  | [] => rfl
  | q :: r => by
    have ih := entT_ids (ks := r)
    simp only [entT] at ih
    simp only [entT, List.map_cons, idsL, V.ids, List.nil_append]; exact ih
theorem entT_mapL {σ : Nat → Nat} {ks : List Int} : (entT ks).map (fun p => (p.1, p.2.mapIds σ)) = entT ks := by
  simp [entT, V.mapIds]
theorem entT_mo {σ : Nat → Nat} {ks : List Int} : O.mo (entT ks) = O.mapIds σ (.mo (entT ks)) := by
  simp only [O.mapIds, entT_mapL]
theorem estore_to {P : Program} {Γ : Ctx} {n : Nat} {o : Oper} {f : Sl} {L : List O} {T : TypeId} {x t y : Operand} {id j : Nat} {es es' : List (Value × V)} {v : V} {K : LK} (ho : o.op = .entryStore T x t y) (hdst : o.dst = none)
    (hx : ev f x = .mp id) (hL : L[id]? = some (.mo es)) (ht : ev f t = .raw (.int .i64 (j : Int))) (hy : ev f y = v) (hj : j < es.length) (he : (es.modify j fun p => (p.1, v)) = es')
    (hK : K [id] ⟨.raw undef, [(id, .mo es')], []⟩) : ∃ rd e, LocOK P Γ n o f L rd e ∧ K rd e :=
  estore_i ho hdst hx hL ht hj (by rw [hy, he]; exact hK)
theorem g1a {a : Nat → Nat} {i k : Nat} {s : St} : g1 a 0 i k s = if a i = a k then jn s i k else s := by simp [g1]

theorem s_itimes (n : Nat) (ma mb : List Nat) (hma : ma.length = 8) (hmb : mb.length = 8) (ha : ∀ j, ma.getD j 0 < 8) (hb : ∀ j, mb.getD j 0 < 8) (hn1 : 1 ≤ n) (hn : n ≤ 4) :
    Spec Try.prog n_i_timesPartition [.ptr 0 0, .ptr 1 0] [.pc (pcl n ma) T_i_Partition, .pc (pcl n mb) T_i_Partition] (.tup [pv n (nm (gT (gI (gd ma) (gd mb) n (2 * n)).2.1 n) n), vi ((lK (gI (gd ma) (gd mb) n (2 * n)).2.1 n n).length : Nat)]) [.pc (pcl n ma) T_i_Partition, .pc (pcl n mb) T_i_Partition] := by
  have hng := s_newG (3 * n) (by omega)
  have w3 : IntKind.i64.wrap (3 * (n : Int)) = ((3 * n : Nat) : Int) := wC (by omega) (by omega)
  have w2 : IntKind.i64.wrap (2 * (n : Int)) = ((2 * n : Nat) : Int) := wC (by omega) (by omega)
  refine SpecW.of_EV hf_i_timesPartition hc_i_timesPartition rfl rfl rfl fun w0 B ρ0 _ => ?_
  (repeat' (first | refine (s_n n ma).read [0] rfl ⟨rfl, trivial⟩ ?_ | refine Exists.intro _ (And.intro w3 ?_) | refine Exists.intro _ (And.intro w2 ?_) | refine (hng).make [] rfl trivial ?_ | refine Exists.intro [Value.int .i64 (n : Int)] (And.intro ⟨leR rfl, rfl⟩ ?_) | refine Exists.intro [V.sl 4] (And.intro ⟨leR rfl, rfl⟩ ?_) | refine And.intro (neI rfl) ?_ | refine And.intro ⟨rfl, leR rfl, onesR rfl⟩ ?_ | refine And.intro ⟨rfl, leR rfl⟩ ?_ | refine draw_rule2 hfol (fun KK hKK => ?_) | refine hKK _ _ _ (by kernel_rfl) ?_ | refine region_rule (fun KK hKK => ?_) | refine hKK _ _ ?_ | refine And.intro (Eq.refl true) ?_ | refine Exists.intro _ (And.intro (wI (by omega)) ?_) | refine Exists.intro _ (And.intro (wU (by omega)) ?_) | refine Exists.intro _ (And.intro ⟨rfl, by omega⟩ ?_) | refine Exists.intro _ (And.intro rfl ?_) | refine And.intro rfl ?_ | refine And.intro ⟨rfl, rfl⟩ ?_ | ((refine And.intro (fun _ => ?_) (fun _ => ?_)) <;> try (exfalso; omega))))
  refine loop_rule (α := Nat) (fun i => i ≤ 2 * n)
    (fun i => [(0, .ptr 0 0), (1, .ptr 1 0), (4, .ptr 2 0), (6, .ptr 3 0), (7, .ptr 4 0), (21, vi (2 * n : Nat)), (22, vi i)])
    (fun i => [.pc (pcl n ma) T_i_Partition, .pc (pcl n mb) T_i_Partition, .pc (pcl 0 (List.replicate 8 0)) T_i_Partition, .pc [.int .i64 n] T_int, .cc [.sl 5] T_i_groups, .pr T_int 1 (3 * n) (il (oI (gI (gd ma) (gd mb) n i).1) (3 * n))]) (fun i => 2 * n - i) 0 [0, 1, 2, 3, 5, 4]
    (by omega) ⟨⟨rfl, rfl, rfl, rfl, rfl, rfl, rfl, trivial⟩, ⟨rfl, rfl, rfl, rfl, rfl, rfl, trivial⟩, rfl⟩ ?_
  rintro i g hi
  by_cases h9 : i ≠ 2 * n
  · have hil : i < 2 * n := by omega
    (repeat' (first | refine And.intro (neI rfl) ?_ | refine And.intro ⟨rfl, leR rfl, onesR rfl⟩ ?_ | refine And.intro ⟨rfl, leR rfl⟩ ?_ | refine draw_rule2 hfol (fun KK hKK => ?_) | refine hKK _ _ _ (by kernel_rfl) ?_ | refine region_rule (fun KK hKK => ?_) | refine hKK _ _ ?_ | refine And.intro (Eq.refl true) ?_ | refine Exists.intro _ (And.intro (wI (by omega)) ?_) | refine Exists.intro _ (And.intro (wU (by omega)) ?_) | refine Exists.intro _ (And.intro ⟨rfl, by omega⟩ ?_) | refine Exists.intro _ (And.intro rfl ?_) | refine And.intro rfl ?_ | refine And.intro ⟨rfl, rfl⟩ ?_ | ((refine And.intro (fun _ => ?_) (fun _ => ?_)) <;> try (exfalso; omega))))
    refine loop_rule (α := Nat) (fun k => k ≤ i)
      (fun k => [(0, .ptr 0 0), (1, .ptr 1 0), (4, .ptr 2 0), (6, .ptr 3 0), (7, .ptr 4 0), (8, vi i), (21, vi (2 * n : Nat)), (22, vi i), (25, vi i), (26, vi k)])
      (fun k => [.pc (pcl n ma) T_i_Partition, .pc (pcl n mb) T_i_Partition, .pc (pcl 0 (List.replicate 8 0)) T_i_Partition, .pc [.int .i64 n] T_int, .cc [.sl 5] T_i_groups, .pr T_int 1 (3 * n) (il (oI (gK (gd ma) (gd mb) n i k (gI (gd ma) (gd mb) n i)).1) (3 * n))]) (fun k => i - k) 0 [0, 1, 2, 3, 4, 5]
      (by omega) ⟨⟨rfl, rfl, rfl, rfl, rfl, rfl, rfl, rfl, rfl, rfl, trivial⟩, ⟨rfl, rfl, rfl, rfl, rfl, rfl, trivial⟩, rfl⟩ ?_
    rintro k g2 hk
    by_cases h8 : k = i
    · subst h8
      (repeat' (first | refine And.intro (neI rfl) ?_ | refine And.intro ⟨rfl, leR rfl, onesR rfl⟩ ?_ | refine And.intro ⟨rfl, leR rfl⟩ ?_ | refine draw_rule2 hfol (fun KK hKK => ?_) | refine hKK _ _ _ (by kernel_rfl) ?_ | refine region_rule (fun KK hKK => ?_) | refine hKK _ _ ?_ | refine And.intro (Eq.refl true) ?_ | refine Exists.intro _ (And.intro (wI (by omega)) ?_) | refine Exists.intro _ (And.intro (wU (by omega)) ?_) | refine Exists.intro _ (And.intro ⟨rfl, by omega⟩ ?_) | refine Exists.intro _ (And.intro rfl ?_) | refine And.intro rfl ?_ | refine And.intro ⟨rfl, rfl⟩ ?_ | ((refine And.intro (fun _ => ?_) (fun _ => ?_)) <;> try (exfalso; omega))))
      refine Exists.intro (k + 1) (Exists.intro [0, 1, 2, 3, 4, 5] (And.intro ⟨by omega, (by show 2 * n - (k + 1) < 2 * n - k; omega)⟩ ⟨⟨rfl, rfl, rfl, rfl, rfl, rfl, rfl, trivial⟩, ⟨rfl, rfl, rfl, rfl, rfl, rfl, trivial⟩, rfl⟩))
    have hkl : k < i := by omega
    have hu : UFs (3 * n) (gK (gd ma) (gd mb) n i k (gI (gd ma) (gd mb) n i)) := gK_uf (gI_uf i (by omega)) hil k (by omega)
    have hnx : gK (gd ma) (gd mb) n i (k + 1) (gI (gd ma) (gd mb) n i) = g1 (gd mb) n i k (g1 (gd ma) 0 i k (gK (gd ma) (gd mb) n i k (gI (gd ma) (gd mb) n i))) := rfl
    generalize gK (gd ma) (gd mb) n i k (gI (gd ma) (gd mb) n i) = s at hu hnx ⊢
    have v1 : IntKind.i64.wrap ((n : Int) + (i : Int)) = ((n + i : Nat) : Int) := wC (by omega) (by omega)
    have v2 : IntKind.i64.wrap ((n : Int) + (k : Int)) = ((n + k : Nat) : Int) := wC (by omega) (by omega)
    rw [g1a] at hnx
    by_cases hA : ma.getD i 0 = ma.getD k 0
    · rw [if_pos (show gd ma i = gd ma k from hA)] at hnx
      have j1 := s_gjoin hu (by omega) i k (by omega) (by omega)
      have hu1 : UFs (3 * n) (jn s i k) := UF.join hu (by omega) (by omega)
      by_cases hB : mb.getD i 0 = mb.getD k 0
      · rw [show g1 (gd mb) n i k (jn s i k) = jn (jn s i k) (n + i) (n + k) from if_pos hB] at hnx
        have j2 := s_gjoin hu1 (by omega) (n + i) (n + k) (by omega) (by omega)
        (repeat' (first | refine Exists.intro _ (And.intro v1 ?_) | refine Exists.intro _ (And.intro v2 ?_) | refine Exists.intro _ (And.intro (pcl_at (m := ma) (i := i) (by omega)) ?_) | refine Exists.intro _ (And.intro (pcl_at (m := ma) (i := k) (by omega)) ?_) | refine Exists.intro _ (And.intro (pcl_at (m := mb) (i := i) (by omega)) ?_) | refine Exists.intro _ (And.intro (pcl_at (m := mb) (i := k) (by omega)) ?_) | refine (j1).make [5] rfl ⟨rfl, trivial⟩ ?_ | refine (j2).make [5] rfl ⟨rfl, trivial⟩ ?_ | refine And.intro (neI rfl) ?_ | refine And.intro ⟨rfl, leR rfl, onesR rfl⟩ ?_ | refine And.intro ⟨rfl, leR rfl⟩ ?_ | refine draw_rule2 hfol (fun KK hKK => ?_) | refine hKK _ _ _ (by kernel_rfl) ?_ | refine region_rule (fun KK hKK => ?_) | refine hKK _ _ ?_ | refine And.intro (Eq.refl true) ?_ | refine Exists.intro _ (And.intro (wI (by omega)) ?_) | refine Exists.intro _ (And.intro (wU (by omega)) ?_) | refine Exists.intro _ (And.intro ⟨rfl, by omega⟩ ?_) | refine Exists.intro _ (And.intro rfl ?_) | refine And.intro rfl ?_ | refine And.intro ⟨rfl, rfl⟩ ?_ | ((refine And.intro (fun _ => ?_) (fun _ => ?_)) <;> try (exfalso; omega))))
        all_goals refine Exists.intro (k + 1) (Exists.intro [0, 1, 2, 3, 4, 5] (And.intro ⟨by omega, (by show i - (k + 1) < i - k; omega)⟩ ⟨⟨rfl, rfl, rfl, rfl, rfl, rfl, rfl, rfl, rfl, rfl, trivial⟩, ⟨rfl, rfl, rfl, rfl, rfl, by rw [hnx]; rfl, trivial⟩, rfl⟩))
      · rw [show g1 (gd mb) n i k (jn s i k) = (jn s i k) from if_neg hB] at hnx
        (repeat' (first | refine Exists.intro _ (And.intro v1 ?_) | refine Exists.intro _ (And.intro v2 ?_) | refine Exists.intro _ (And.intro (pcl_at (m := ma) (i := i) (by omega)) ?_) | refine Exists.intro _ (And.intro (pcl_at (m := ma) (i := k) (by omega)) ?_) | refine Exists.intro _ (And.intro (pcl_at (m := mb) (i := i) (by omega)) ?_) | refine Exists.intro _ (And.intro (pcl_at (m := mb) (i := k) (by omega)) ?_) | refine (j1).make [5] rfl ⟨rfl, trivial⟩ ?_ | refine And.intro (neI rfl) ?_ | refine And.intro ⟨rfl, leR rfl, onesR rfl⟩ ?_ | refine And.intro ⟨rfl, leR rfl⟩ ?_ | refine draw_rule2 hfol (fun KK hKK => ?_) | refine hKK _ _ _ (by kernel_rfl) ?_ | refine region_rule (fun KK hKK => ?_) | refine hKK _ _ ?_ | refine And.intro (Eq.refl true) ?_ | refine Exists.intro _ (And.intro (wI (by omega)) ?_) | refine Exists.intro _ (And.intro (wU (by omega)) ?_) | refine Exists.intro _ (And.intro ⟨rfl, by omega⟩ ?_) | refine Exists.intro _ (And.intro rfl ?_) | refine And.intro rfl ?_ | refine And.intro ⟨rfl, rfl⟩ ?_ | ((refine And.intro (fun _ => ?_) (fun _ => ?_)) <;> try (exfalso; omega))))
        all_goals refine Exists.intro (k + 1) (Exists.intro [0, 1, 2, 3, 4, 5] (And.intro ⟨by omega, (by show i - (k + 1) < i - k; omega)⟩ ⟨⟨rfl, rfl, rfl, rfl, rfl, rfl, rfl, rfl, rfl, rfl, trivial⟩, ⟨rfl, rfl, rfl, rfl, rfl, by rw [hnx]; rfl, trivial⟩, rfl⟩))
    · rw [if_neg (show ¬ gd ma i = gd ma k from hA)] at hnx
      by_cases hB : mb.getD i 0 = mb.getD k 0
      · rw [show g1 (gd mb) n i k s = jn s (n + i) (n + k) from if_pos hB] at hnx
        have j2 := s_gjoin hu (by omega) (n + i) (n + k) (by omega) (by omega)
        (repeat' (first | refine Exists.intro _ (And.intro v1 ?_) | refine Exists.intro _ (And.intro v2 ?_) | refine Exists.intro _ (And.intro (pcl_at (m := ma) (i := i) (by omega)) ?_) | refine Exists.intro _ (And.intro (pcl_at (m := ma) (i := k) (by omega)) ?_) | refine Exists.intro _ (And.intro (pcl_at (m := mb) (i := i) (by omega)) ?_) | refine Exists.intro _ (And.intro (pcl_at (m := mb) (i := k) (by omega)) ?_) | refine (j2).make [5] rfl ⟨rfl, trivial⟩ ?_ | refine And.intro (neI rfl) ?_ | refine And.intro ⟨rfl, leR rfl, onesR rfl⟩ ?_ | refine And.intro ⟨rfl, leR rfl⟩ ?_ | refine draw_rule2 hfol (fun KK hKK => ?_) | refine hKK _ _ _ (by kernel_rfl) ?_ | refine region_rule (fun KK hKK => ?_) | refine hKK _ _ ?_ | refine And.intro (Eq.refl true) ?_ | refine Exists.intro _ (And.intro (wI (by omega)) ?_) | refine Exists.intro _ (And.intro (wU (by omega)) ?_) | refine Exists.intro _ (And.intro ⟨rfl, by omega⟩ ?_) | refine Exists.intro _ (And.intro rfl ?_) | refine And.intro rfl ?_ | refine And.intro ⟨rfl, rfl⟩ ?_ | ((refine And.intro (fun _ => ?_) (fun _ => ?_)) <;> try (exfalso; omega))))
        all_goals refine Exists.intro (k + 1) (Exists.intro [0, 1, 2, 3, 4, 5] (And.intro ⟨by omega, (by show i - (k + 1) < i - k; omega)⟩ ⟨⟨rfl, rfl, rfl, rfl, rfl, rfl, rfl, rfl, rfl, rfl, trivial⟩, ⟨rfl, rfl, rfl, rfl, rfl, by rw [hnx]; rfl, trivial⟩, rfl⟩))
      · rw [show g1 (gd mb) n i k s = s from if_neg hB] at hnx
        (repeat' (first | refine Exists.intro _ (And.intro v1 ?_) | refine Exists.intro _ (And.intro v2 ?_) | refine Exists.intro _ (And.intro (pcl_at (m := ma) (i := i) (by omega)) ?_) | refine Exists.intro _ (And.intro (pcl_at (m := ma) (i := k) (by omega)) ?_) | refine Exists.intro _ (And.intro (pcl_at (m := mb) (i := i) (by omega)) ?_) | refine Exists.intro _ (And.intro (pcl_at (m := mb) (i := k) (by omega)) ?_) | refine And.intro (neI rfl) ?_ | refine And.intro ⟨rfl, leR rfl, onesR rfl⟩ ?_ | refine And.intro ⟨rfl, leR rfl⟩ ?_ | refine draw_rule2 hfol (fun KK hKK => ?_) | refine hKK _ _ _ (by kernel_rfl) ?_ | refine region_rule (fun KK hKK => ?_) | refine hKK _ _ ?_ | refine And.intro (Eq.refl true) ?_ | refine Exists.intro _ (And.intro (wI (by omega)) ?_) | refine Exists.intro _ (And.intro (wU (by omega)) ?_) | refine Exists.intro _ (And.intro ⟨rfl, by omega⟩ ?_) | refine Exists.intro _ (And.intro rfl ?_) | refine And.intro rfl ?_ | refine And.intro ⟨rfl, rfl⟩ ?_ | ((refine And.intro (fun _ => ?_) (fun _ => ?_)) <;> try (exfalso; omega))))
        all_goals refine Exists.intro (k + 1) (Exists.intro [0, 1, 2, 3, 4, 5] (And.intro ⟨by omega, (by show i - (k + 1) < i - k; omega)⟩ ⟨⟨rfl, rfl, rfl, rfl, rfl, rfl, rfl, rfl, rfl, rfl, trivial⟩, ⟨rfl, rfl, rfl, rfl, rfl, by rw [hnx]; rfl, trivial⟩, rfl⟩))
  have h9 : i = 2 * n := by omega
  subst h9
  have hu : UFs (3 * n) (gI (gd ma) (gd mb) n (2 * n)) := gI_uf (2 * n) (Nat.le_refl _)
  generalize gI (gd ma) (gd mb) n (2 * n) = s at hu ⊢
  (repeat' (first | refine makeMap_i rfl ?_ | refine And.intro (neI rfl) ?_ | refine And.intro ⟨rfl, leR rfl, onesR rfl⟩ ?_ | refine And.intro ⟨rfl, leR rfl⟩ ?_ | refine draw_rule2 hfol (fun KK hKK => ?_) | refine hKK _ _ _ (by kernel_rfl) ?_ | refine region_rule (fun KK hKK => ?_) | refine hKK _ _ ?_ | refine And.intro (Eq.refl true) ?_ | refine Exists.intro _ (And.intro (wI (by omega)) ?_) | refine Exists.intro _ (And.intro (wU (by omega)) ?_) | refine Exists.intro _ (And.intro ⟨rfl, by omega⟩ ?_) | refine Exists.intro _ (And.intro rfl ?_) | refine And.intro rfl ?_ | refine And.intro ⟨rfl, rfl⟩ ?_ | ((refine And.intro (fun _ => ?_) (fun _ => ?_)) <;> try (exfalso; omega))))
  refine loop_rule (α := Nat) (fun i => i ≤ n)
    (fun i => [(4, .ptr 2 0), (6, .ptr 3 0), (7, .ptr 4 0), (10, .mp 6), (11, .mp 7), (71, vi n), (72, vi i)])
    (fun i => [.pc (pcl n ma) T_i_Partition, .pc (pcl n mb) T_i_Partition, .pc (pcl 0 (List.replicate 8 0)) T_i_Partition, .pc [.int .i64 n] T_int, .cc [.sl 5] T_i_groups, .pr T_int 1 (3 * n) (il (oI s.1) (3 * n)), .mo (entT (oK s.2.1 n i)), .mo (entT [])]) (fun i => n - i) 0 [0, 1, 2, 3, 4, 5, 6, 7]
    (by omega) ⟨⟨rfl, rfl, rfl, rfl, rfl, rfl, rfl, trivial⟩, ⟨rfl, rfl, rfl, rfl, rfl, rfl, rfl, rfl, trivial⟩, goodB_via (by simp [idsO, O.ids, entT_ids]; rfl) rfl⟩ ?_
  rintro i g3 hi
  by_cases h8 : i ≠ n
  · have hil : i < n := by omega
    have f1 := s_of hu (by omega) i (by omega)
    have f2 := s_of hu (by omega) (2 * n + i) (by omega)
    have v1 : IntKind.i64.wrap (((2 * n : Nat) : Int) + (i : Int)) = ((2 * n + i : Nat) : Int) := wC (by omega) (by omega)
    have hset : setI (rI s.2.1 (2 * n + i)) (.raw (.bool true)) (entT (addk (oK s.2.1 n i) (rI s.2.1 i))) = entT (oK s.2.1 n (i + 1)) := entT_set
    have hfi2 := entT_find (k := rI s.2.1 (2 * n + i)) (ks := addk (oK s.2.1 n i) (rI s.2.1 i))
    have hfi := entT_find (k := rI s.2.1 i) (ks := oK s.2.1 n i)
    by_cases hm : rI s.2.1 i ∈ oK s.2.1 n i
    · rw [if_pos hm] at hfi
      rw [show addk (oK s.2.1 n i) (rI s.2.1 i) = oK s.2.1 n i from if_pos hm] at hset hfi2
      (repeat' (first | refine (f1).read [5] rfl ⟨rfl, trivial⟩ ?_ | refine (f2).read [5] rfl ⟨rfl, trivial⟩ ?_ | refine Exists.intro _ (And.intro w2 ?_) | refine Exists.intro _ (And.intro v1 ?_) | refine entryOld rfl rfl rfl rfl rfl rfl hfi rfl ?_ | refine estore_to rfl rfl rfl rfl rfl rfl (posI_lt hm) entT_mod ?_ | refine upd_to rfl rfl rfl rfl rfl rfl rfl rfl hfi2 hset ?_ | refine And.intro (neI rfl) ?_ | refine And.intro ⟨rfl, leR rfl, onesR rfl⟩ ?_ | refine And.intro ⟨rfl, leR rfl⟩ ?_ | refine draw_rule2 hfol (fun KK hKK => ?_) | refine hKK _ _ _ (by kernel_rfl) ?_ | refine region_rule (fun KK hKK => ?_) | refine hKK _ _ ?_ | refine And.intro (Eq.refl true) ?_ | refine Exists.intro _ (And.intro (wI (by omega)) ?_) | refine Exists.intro _ (And.intro (wU (by omega)) ?_) | refine Exists.intro _ (And.intro ⟨rfl, by omega⟩ ?_) | refine Exists.intro _ (And.intro rfl ?_) | refine And.intro rfl ?_ | refine And.intro ⟨rfl, rfl⟩ ?_ | ((refine And.intro (fun _ => ?_) (fun _ => ?_)) <;> try (exfalso; omega))))
      refine Exists.intro (i + 1) (Exists.intro [0, 1, 2, 3, 4, 5, 6, 7] (And.intro ⟨by omega, (by show n - (i + 1) < n - i; omega)⟩ ⟨⟨rfl, rfl, rfl, rfl, rfl, rfl, rfl, trivial⟩, ⟨rfl, rfl, rfl, rfl, rfl, rfl, congrArg some entT_mo, congrArg some entT_mo, trivial⟩, goodB_via (by simp [idsO, O.ids, entT_ids]; rfl) rfl⟩))
    · rw [if_neg hm] at hfi
      rw [show addk (oK s.2.1 n i) (rI s.2.1 i) = oK s.2.1 n i ++ [rI s.2.1 i] from if_neg hm] at hset hfi2
      (repeat' (first | refine (f1).read [5] rfl ⟨rfl, trivial⟩ ?_ | refine (f2).read [5] rfl ⟨rfl, trivial⟩ ?_ | refine Exists.intro _ (And.intro w2 ?_) | refine Exists.intro _ (And.intro v1 ?_) | refine entryNew rfl rfl rfl rfl rfl rfl rfl rfl hfi ?_ | refine estore_to rfl rfl rfl rfl rfl rfl (by simp) entT_new ?_ | refine upd_to rfl rfl rfl rfl rfl rfl rfl rfl hfi2 hset ?_ | refine And.intro (neI rfl) ?_ | refine And.intro ⟨rfl, leR rfl, onesR rfl⟩ ?_ | refine And.intro ⟨rfl, leR rfl⟩ ?_ | refine draw_rule2 hfol (fun KK hKK => ?_) | refine hKK _ _ _ (by kernel_rfl) ?_ | refine region_rule (fun KK hKK => ?_) | refine hKK _ _ ?_ | refine And.intro (Eq.refl true) ?_ | refine Exists.intro _ (And.intro (wI (by omega)) ?_) | refine Exists.intro _ (And.intro (wU (by omega)) ?_) | refine Exists.intro _ (And.intro ⟨rfl, by omega⟩ ?_) | refine Exists.intro _ (And.intro rfl ?_) | refine And.intro rfl ?_ | refine And.intro ⟨rfl, rfl⟩ ?_ | ((refine And.intro (fun _ => ?_) (fun _ => ?_)) <;> try (exfalso; omega))))
      refine Exists.intro (i + 1) (Exists.intro [0, 1, 2, 3, 4, 5, 6, 7] (And.intro ⟨by omega, (by show n - (i + 1) < n - i; omega)⟩ ⟨⟨rfl, rfl, rfl, rfl, rfl, rfl, rfl, trivial⟩, ⟨rfl, rfl, rfl, rfl, rfl, rfl, congrArg some entT_mo, congrArg some entT_mo, trivial⟩, goodB_via (by simp [idsO, O.ids, entT_ids]; rfl) rfl⟩))
  have h8 : i = n := by omega
  subst h8
  (repeat' (first | refine And.intro (neI rfl) ?_ | refine And.intro ⟨rfl, leR rfl, onesR rfl⟩ ?_ | refine And.intro ⟨rfl, leR rfl⟩ ?_ | refine draw_rule2 hfol (fun KK hKK => ?_) | refine hKK _ _ _ (by kernel_rfl) ?_ | refine region_rule (fun KK hKK => ?_) | refine hKK _ _ ?_ | refine And.intro (Eq.refl true) ?_ | refine Exists.intro _ (And.intro (wI (by omega)) ?_) | refine Exists.intro _ (And.intro (wU (by omega)) ?_) | refine Exists.intro _ (And.intro ⟨rfl, by omega⟩ ?_) | refine Exists.intro _ (And.intro rfl ?_) | refine And.intro rfl ?_ | refine And.intro ⟨rfl, rfl⟩ ?_ | ((refine And.intro (fun _ => ?_) (fun _ => ?_)) <;> try (exfalso; omega))))
  refine loop_rule (α := Nat) (fun x => x ≤ i)
    (fun x => [(4, .ptr 2 0), (6, .ptr 3 0), (7, .ptr 4 0), (10, .mp 6), (11, .mp 7), (89, vi i), (90, vi x)])
    (fun x => [.pc (pcl i ma) T_i_Partition, .pc (pcl i mb) T_i_Partition, .pc (pcl 0 (List.replicate 8 0)) T_i_Partition, .pc [.int .i64 i] T_int, .cc [.sl 5] T_i_groups, .pr T_int 1 (3 * i) (il (oI s.1) (3 * i)), .mo (entT (oK s.2.1 i i)), .mo (entT (lK s.2.1 i x))]) (fun x => i - x) 0 [0, 1, 2, 3, 4, 5, 6, 7]
    (by omega) ⟨⟨rfl, rfl, rfl, rfl, rfl, rfl, rfl, trivial⟩, ⟨rfl, rfl, rfl, rfl, rfl, rfl, congrArg some entT_mo, congrArg some entT_mo, trivial⟩, goodB_via (by simp [idsO, O.ids, entT_ids]; rfl) rfl⟩ ?_
  rintro x g4 hx
  by_cases h7 : x ≠ i
  · have hxl : x < i := by omega
    have f1 := s_of hu (by omega) (i + x) (by omega)
    have v1 : IntKind.i64.wrap ((i : Int) + (x : Int)) = ((i + x : Nat) : Int) := wC (by omega) (by omega)
    have hfi := entT_find (k := rI s.2.1 (i + x)) (ks := oK s.2.1 i i)
    have hfl := entT_find (k := rI s.2.1 (i + x)) (ks := lK s.2.1 i x)
    by_cases hm : rI s.2.1 (i + x) ∈ oK s.2.1 i i
    · have hnx : lK s.2.1 i (x + 1) = lK s.2.1 i x := if_pos hm
      rw [if_pos hm] at hfi
      (repeat' (first | refine (f1).read [5] rfl ⟨rfl, trivial⟩ ?_ | refine Exists.intro _ (And.intro v1 ?_) | refine look_i rfl rfl rfl rfl rfl rfl rfl rfl hfi ?_ | refine And.intro (neI rfl) ?_ | refine And.intro ⟨rfl, leR rfl, onesR rfl⟩ ?_ | refine And.intro ⟨rfl, leR rfl⟩ ?_ | refine draw_rule2 hfol (fun KK hKK => ?_) | refine hKK _ _ _ (by kernel_rfl) ?_ | refine region_rule (fun KK hKK => ?_) | refine hKK _ _ ?_ | refine And.intro (Eq.refl true) ?_ | refine Exists.intro _ (And.intro (wI (by omega)) ?_) | refine Exists.intro _ (And.intro (wU (by omega)) ?_) | refine Exists.intro _ (And.intro ⟨rfl, by omega⟩ ?_) | refine Exists.intro _ (And.intro rfl ?_) | refine And.intro rfl ?_ | refine And.intro ⟨rfl, rfl⟩ ?_ | ((refine And.intro (fun _ => ?_) (fun _ => ?_)) <;> try (exfalso; omega))))
      refine Exists.intro (x + 1) (Exists.intro [0, 1, 2, 3, 4, 5, 6, 7] (And.intro ⟨by omega, (by show i - (x + 1) < i - x; omega)⟩ ⟨⟨rfl, rfl, rfl, rfl, rfl, rfl, rfl, trivial⟩, ⟨rfl, rfl, rfl, rfl, rfl, rfl, congrArg some entT_mo, by rw [hnx]; exact congrArg some entT_mo, trivial⟩, goodB_via (by simp [idsO, O.ids, entT_ids]; rfl) rfl⟩))
    · have hnx : lK s.2.1 i (x + 1) = addk (lK s.2.1 i x) (rI s.2.1 (i + x)) := if_neg hm
      have hset : setI (rI s.2.1 (i + x)) (.raw (.bool true)) (entT (lK s.2.1 i x)) = entT (lK s.2.1 i (x + 1)) := by rw [hnx]; exact entT_set
      rw [if_neg hm] at hfi
      (repeat' (first | refine (f1).read [5] rfl ⟨rfl, trivial⟩ ?_ | refine Exists.intro _ (And.intro v1 ?_) | refine look_i rfl rfl rfl rfl rfl rfl rfl rfl hfi ?_ | refine upd_to rfl rfl rfl rfl rfl rfl rfl rfl hfl hset ?_ | refine And.intro (neI rfl) ?_ | refine And.intro ⟨rfl, leR rfl, onesR rfl⟩ ?_ | refine And.intro ⟨rfl, leR rfl⟩ ?_ | refine draw_rule2 hfol (fun KK hKK => ?_) | refine hKK _ _ _ (by kernel_rfl) ?_ | refine region_rule (fun KK hKK => ?_) | refine hKK _ _ ?_ | refine And.intro (Eq.refl true) ?_ | refine Exists.intro _ (And.intro (wI (by omega)) ?_) | refine Exists.intro _ (And.intro (wU (by omega)) ?_) | refine Exists.intro _ (And.intro ⟨rfl, by omega⟩ ?_) | refine Exists.intro _ (And.intro rfl ?_) | refine And.intro rfl ?_ | refine And.intro ⟨rfl, rfl⟩ ?_ | ((refine And.intro (fun _ => ?_) (fun _ => ?_)) <;> try (exfalso; omega))))
      refine Exists.intro (x + 1) (Exists.intro [0, 1, 2, 3, 4, 5, 6, 7] (And.intro ⟨by omega, (by show i - (x + 1) < i - x; omega)⟩ ⟨⟨rfl, rfl, rfl, rfl, rfl, rfl, rfl, trivial⟩, ⟨rfl, rfl, rfl, rfl, rfl, rfl, congrArg some entT_mo, congrArg some entT_mo, trivial⟩, goodB_via (by simp [idsO, O.ids, entT_ids]; rfl) rfl⟩))
  have h7 : x = i := by omega
  subst h7
  have hnm := s_named_times x s.1 s.2.1 s.2.2 hu hn1 hn
  (repeat' (first | refine (hnm).read [4,3,5] rfl ⟨rfl, rfl, rfl, trivial⟩ ?_ | refine Exists.intro (pcl (x : Int) (nm (gT s.2.1 x) x)) (And.intro ⟨pcl_len nm_len, pcl_all nm_len⟩ ?_) | refine And.intro ⟨pcl_len nm_len, leR rfl, pcl_ones⟩ ?_ | refine Exists.intro (pcl (x : Int) (nm (gT s.2.1 x) x)) (And.intro ⟨leR rfl, spl0 (leR rfl)⟩ ?_) | refine And.intro (neI rfl) ?_ | refine And.intro ⟨rfl, leR rfl, onesR rfl⟩ ?_ | refine And.intro ⟨rfl, leR rfl⟩ ?_ | refine draw_rule2 hfol (fun KK hKK => ?_) | refine hKK _ _ _ (by kernel_rfl) ?_ | refine region_rule (fun KK hKK => ?_) | refine hKK _ _ ?_ | refine And.intro (Eq.refl true) ?_ | refine Exists.intro _ (And.intro (wI (by omega)) ?_) | refine Exists.intro _ (And.intro (wU (by omega)) ?_) | refine Exists.intro _ (And.intro ⟨rfl, by omega⟩ ?_) | refine Exists.intro _ (And.intro rfl ?_) | refine And.intro rfl ?_ | refine And.intro ⟨rfl, rfl⟩ ?_ | ((refine And.intro (fun _ => ?_) (fun _ => ?_)) <;> try (exfalso; omega))))
  exact Exists.intro [0, 1] (And.intro (by first | rfl | (simp only [entT_len]; rfl)) (And.intro ⟨rfl, rfl, trivial⟩ rfl))
end Go.Proofs.Ytpangmameocfmaa.VE.P
