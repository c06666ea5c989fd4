/- Contracts of functions of the given program, for all arguments that the contract names; see each theorem. -/
import Derived.Test.YtpangmameocfmaaTA
import Derived.Test.YtpangmameocfmaaTB
set_option linter.all false
namespace Go.Proofs.Ytpangmameocfmaa.VE.P
open Go
set_option maxHeartbeats 400000
set_option maxRecDepth 100000

theorem s_n (s : Int) (m : List Nat) : Spec Try.prog n_i_Partition_n [.ptr 0 0] [.pc (pcl s m) T_i_Partition] (vi s) [.pc (pcl s m) T_i_Partition] := by
  refine SpecW.of_EV hf_i_Partition_n hc_i_Partition_n rfl rfl rfl fun w0 B ρ0 _ => ?_
  (repeat' (first | refine And.intro (neI rfl) ?_ | refine And.intro ⟨rfl, leR rfl, onesR rfl⟩ ?_ | refine And.intro ⟨rfl, leR rfl⟩ ?_ | refine draw_rule2 hfol (fun KK hKK => ?_) | refine hKK _ _ _ (by kernel_rfl) ?_ | refine region_rule (fun KK hKK => ?_) | refine hKK _ _ ?_ | refine And.intro (Eq.refl true) ?_ | refine Exists.intro _ (And.intro (wI (by omega)) ?_) | refine Exists.intro _ (And.intro (wU (by omega)) ?_) | refine Exists.intro _ (And.intro ⟨rfl, by omega⟩ ?_) | refine Exists.intro _ (And.intro rfl ?_) | refine And.intro rfl ?_ | refine And.intro ⟨rfl, rfl⟩ ?_ | ((refine And.intro (fun _ => ?_) (fun _ => ?_)) <;> try (exfalso; omega))))
  exact Exists.intro [0] (And.intro rfl (And.intro ⟨rfl, trivial⟩ rfl))

theorem s_part (s : Int) (m : List Nat) (i : Nat) (hm : m.length = 8) (hb : ∀ x ∈ m, x < 256) (hi : i < 8) : Spec Try.prog n_i_Partition_part [.ptr 0 0, vi i] [.pc (pcl s m) T_i_Partition] (vi (m.getD i 0 : Nat)) [.pc (pcl s m) T_i_Partition] := by
  have := getD_lt hb i
  refine SpecW.of_EV hf_i_Partition_part hc_i_Partition_part rfl rfl rfl fun w0 B ρ0 _ => ?_
  (repeat' (first | refine Exists.intro _ (And.intro (pcl_at (by omega)) ?_) | refine And.intro (neI rfl) ?_ | refine And.intro ⟨rfl, leR rfl, onesR rfl⟩ ?_ | refine And.intro ⟨rfl, leR rfl⟩ ?_ | refine draw_rule2 hfol (fun KK hKK => ?_) | refine hKK _ _ _ (by kernel_rfl) ?_ | refine region_rule (fun KK hKK => ?_) | refine hKK _ _ ?_ | refine And.intro (Eq.refl true) ?_ | refine Exists.intro _ (And.intro (wI (by omega)) ?_) | refine Exists.intro _ (And.intro (wU (by omega)) ?_) | refine Exists.intro _ (And.intro ⟨rfl, by omega⟩ ?_) | refine Exists.intro _ (And.intro rfl ?_) | refine And.intro rfl ?_ | refine And.intro ⟨rfl, rfl⟩ ?_ | ((refine And.intro (fun _ => ?_) (fun _ => ?_)) <;> try (exfalso; omega))))
  exact Exists.intro [0] (And.intro rfl (And.intro ⟨rfl, trivial⟩ rfl))

theorem s_named_part (n : Nat) (s : Int) (m : List Nat) (hm : m.length = 8) (hb : ∀ x ∈ m, x < 256) (hn : n ≤ 4) :
    Spec Try.prog n_i_named [vi n, .fn (.func n_i_Partition_part) [.ptr 0 0] []] [.pc (pcl s m) T_i_Partition] (pv n (nm (fun i => ((m.getD i 0 : Nat) : Int)) n)) [.pc (pcl s m) T_i_Partition] := by
  refine SpecW.of_EV hf_i_named hc_i_named rfl rfl rfl fun w0 B ρ0 _ => ?_
  (repeat' (first | refine makeMap_i rfl ?_ | refine Exists.intro (pcl n (List.replicate 8 0)) (And.intro ⟨leR rfl, rfl⟩ ?_) | refine And.intro (neI rfl) ?_ | refine And.intro ⟨rfl, leR rfl, onesR rfl⟩ ?_ | refine And.intro ⟨rfl, leR rfl⟩ ?_ | refine draw_rule2 hfol (fun KK hKK => ?_) | refine hKK _ _ _ (by kernel_rfl) ?_ | refine region_rule (fun KK hKK => ?_) | refine hKK _ _ ?_ | refine And.intro (Eq.refl true) ?_ | refine Exists.intro _ (And.intro (wI (by omega)) ?_) | refine Exists.intro _ (And.intro (wU (by omega)) ?_) | refine Exists.intro _ (And.intro ⟨rfl, by omega⟩ ?_) | refine Exists.intro _ (And.intro rfl ?_) | refine And.intro rfl ?_ | refine And.intro ⟨rfl, rfl⟩ ?_ | ((refine And.intro (fun _ => ?_) (fun _ => ?_)) <;> try (exfalso; omega))))
  refine loop_rule (α := Nat × List Int × List Nat) (fun (i, ks, out) => i ≤ 2 * n ∧ out.length = 8 ∧ ks.length ≤ i ∧ nmL (fun i => ((m.getD i 0 : Nat) : Int)) (2 * n - i) i ks out = nm (fun i => ((m.getD i 0 : Nat) : Int)) n)
      (fun (i, ks, out) => [(1, .fn (.func n_i_Partition_part) [.ptr 0 0] []), (4, .ptr 1 0), (5, .ptr 3 0), (6, .mp 2), (14, vi (2 * n)), (15, vi i)])
      (fun (i, ks, out) => [.pc (pcl s m) T_i_Partition, .pc (pcl 0 (List.replicate 8 0)) T_i_Partition, .mo (entL 0 ks), .pc (pcl n out) T_i_Partition]) (fun (i, _, _) => 2 * n - i) (0, [], List.replicate 8 0) [0, 1, 2, 3]
      ⟨by omega, by simp, by simp, rfl⟩ ⟨⟨rfl, rfl, rfl, rfl, rfl, rfl, trivial⟩, ⟨rfl, rfl, rfl, rfl, trivial⟩, rfl⟩ ?_
  rintro ⟨i, ks, out⟩ g ⟨hi, hout, hks, hR⟩
  by_cases h8 : i = 2 * n
  · subst h8
    rw [Nat.sub_self] at hR
    replace hR : out = nm (fun i => ((m.getD i 0 : Nat) : Int)) n := hR
    (repeat' (first | refine Exists.intro (pcl n out) (And.intro ⟨pcl_len hout, pcl_all hout⟩ ?_) | refine And.intro ⟨pcl_len hout, leR rfl, pcl_ones⟩ ?_ | refine Exists.intro (pcl n out) (And.intro ⟨leR rfl, spl0 (leR rfl)⟩ ?_) | refine And.intro (neI rfl) ?_ | refine And.intro ⟨rfl, leR rfl, onesR rfl⟩ ?_ | refine And.intro ⟨rfl, leR rfl⟩ ?_ | refine draw_rule2 hfol (fun KK hKK => ?_) | refine hKK _ _ _ (by kernel_rfl) ?_ | refine region_rule (fun KK hKK => ?_) | refine hKK _ _ ?_ | refine And.intro (Eq.refl true) ?_ | refine Exists.intro _ (And.intro (wI (by omega)) ?_) | refine Exists.intro _ (And.intro (wU (by omega)) ?_) | refine Exists.intro _ (And.intro ⟨rfl, by omega⟩ ?_) | refine Exists.intro _ (And.intro rfl ?_) | refine And.intro rfl ?_ | refine And.intro ⟨rfl, rfl⟩ ?_ | ((refine And.intro (fun _ => ?_) (fun _ => ?_)) <;> try (exfalso; omega))))
    exact Exists.intro [0] (And.intro (by rw [← hR]; rfl) (And.intro ⟨rfl, trivial⟩ rfl))
  obtain ⟨d, hd⟩ : ∃ d, 2 * n - i = d + 1 := ⟨2 * n - i - 1, by omega⟩
  have hd' : 2 * n - (i + 1) = d := by omega
  rw [hd] at hR
  unfold nmL at hR
  cases hf : nmF ((m.getD i 0 : Nat) : Int) ks 0 with
  | some j =>
    have hj := nmF_lt hf
    simp only [hf] at hR
    have hfi : findI ((m.getD i 0 : Nat) : Int) (entL 0 ks) = some (some (vu j)) := by rw [entL_find, hf]; rfl
    (repeat' (first | refine (s_part s m i hm hb (by omega)).read [0] rfl ⟨rfl, trivial⟩ ?_ | refine look_i rfl rfl rfl rfl rfl rfl rfl rfl hfi ?_ | refine Exists.intro (pcl n (out.set i j)) (And.intro ⟨by rw [pcl_len hout]; omega, pcl_set⟩ ?_) | refine And.intro (neI rfl) ?_ | refine And.intro ⟨rfl, leR rfl, onesR rfl⟩ ?_ | refine And.intro ⟨rfl, leR rfl⟩ ?_ | refine draw_rule2 hfol (fun KK hKK => ?_) | refine hKK _ _ _ (by kernel_rfl) ?_ | refine region_rule (fun KK hKK => ?_) | refine hKK _ _ ?_ | refine And.intro (Eq.refl true) ?_ | refine Exists.intro _ (And.intro (wI (by omega)) ?_) | refine Exists.intro _ (And.intro (wU (by omega)) ?_) | refine Exists.intro _ (And.intro ⟨rfl, by omega⟩ ?_) | refine Exists.intro _ (And.intro rfl ?_) | refine And.intro rfl ?_ | refine And.intro ⟨rfl, rfl⟩ ?_ | ((refine And.intro (fun _ => ?_) (fun _ => ?_)) <;> try (exfalso; omega))))
    refine Exists.intro (i + 1, ks, out.set i j) (Exists.intro [0, 1, 2, 3] (And.intro ⟨⟨by omega, by simpa using hout, by omega, by rw [hd', hR]⟩, (by show 2 * n - (i + 1) < 2 * n - i; omega)⟩ ⟨⟨rfl, rfl, rfl, rfl, rfl, rfl, trivial⟩, ⟨rfl, rfl, congrArg some entL_mo, rfl, trivial⟩, goodB_via (by simp [idsO, O.ids, entL_ids]; rfl) rfl⟩))
  | none =>
    simp only [hf] at hR
    have hfi : findI ((m.getD i 0 : Nat) : Int) (entL 0 ks) = some none := by rw [entL_find, hf]; rfl
    have hset : setI ((m.getD i 0 : Nat) : Int) (vu (ks.length : Nat)) (entL 0 ks) = entL 0 (ks ++ [((m.getD i 0 : Nat) : Int)]) := by have := entL_set (j := 0) hf; rwa [Nat.zero_add] at this
    (repeat' (first | refine (s_part s m i hm hb (by omega)).read [0] rfl ⟨rfl, trivial⟩ ?_ | refine look_i rfl rfl rfl rfl rfl rfl rfl rfl hfi ?_ | refine upd_to rfl rfl rfl rfl rfl rfl rfl rfl hfi hset ?_ | refine Exists.intro (ks.length : Int) (And.intro (by rw [entL_len]; exact wU (by omega)) ?_) | refine Exists.intro (pcl n (out.set i ks.length)) (And.intro ⟨by rw [pcl_len hout]; omega, pcl_set⟩ ?_) | refine And.intro (neI rfl) ?_ | refine And.intro ⟨rfl, leR rfl, onesR rfl⟩ ?_ | refine And.intro ⟨rfl, leR rfl⟩ ?_ | refine draw_rule2 hfol (fun KK hKK => ?_) | refine hKK _ _ _ (by kernel_rfl) ?_ | refine region_rule (fun KK hKK => ?_) | refine hKK _ _ ?_ | refine And.intro (Eq.refl true) ?_ | refine Exists.intro _ (And.intro (wI (by omega)) ?_) | refine Exists.intro _ (And.intro (wU (by omega)) ?_) | refine Exists.intro _ (And.intro ⟨rfl, by omega⟩ ?_) | refine Exists.intro _ (And.intro rfl ?_) | refine And.intro rfl ?_ | refine And.intro ⟨rfl, rfl⟩ ?_ | ((refine And.intro (fun _ => ?_) (fun _ => ?_)) <;> try (exfalso; omega))))
    refine Exists.intro (i + 1, ks ++ [((m.getD i 0 : Nat) : Int)], out.set i ks.length) (Exists.intro [0, 1, 2, 3] (And.intro ⟨⟨by omega, by simpa using hout, by simp; omega, by rw [hd', hR]⟩, (by show 2 * n - (i + 1) < 2 * n - i; omega)⟩ ⟨⟨rfl, rfl, rfl, rfl, rfl, rfl, trivial⟩, ⟨rfl, rfl, congrArg some entL_mo, rfl, trivial⟩, goodB_via (by simp [idsO, O.ids, entL_ids]; rfl) rfl⟩))
end Go.Proofs.Ytpangmameocfmaa.VE.P
namespace Go.Proofs.Ytpangmameocfmaa.VE.P
open Go
set_option maxHeartbeats 400000
set_option maxRecDepth 100000

theorem s_iin (a b c : Int) : Spec Try.prog n_i_in [vi a, vi b, vi c] [] (vb (decide (b ≤ a ∧ a ≤ c))) [] := by
  refine SpecW.of_EV hf_i_in hc_i_in rfl rfl rfl fun w0 B ρ0 _ => ?_
  (repeat' (first | refine And.intro (neI rfl) ?_ | refine And.intro ⟨rfl, leR rfl, onesR rfl⟩ ?_ | refine And.intro ⟨rfl, leR rfl⟩ ?_ | refine draw_rule2 hfol (fun KK hKK => ?_) | refine hKK _ _ _ (by kernel_rfl) ?_ | refine region_rule (fun KK hKK => ?_) | refine hKK _ _ ?_ | refine And.intro (Eq.refl true) ?_ | refine Exists.intro _ (And.intro (wI (by omega)) ?_) | refine Exists.intro _ (And.intro (wU (by omega)) ?_) | refine Exists.intro _ (And.intro ⟨rfl, by omega⟩ ?_) | refine Exists.intro _ (And.intro rfl ?_) | refine And.intro rfl ?_ | refine And.intro ⟨rfl, rfl⟩ ?_ | ((refine And.intro (fun _ => ?_) (fun _ => ?_)) <;> try (exfalso; omega))))
  all_goals exact finP (vbR (by first | (rw [decide_eq_true (by omega)]) | (rw [decide_eq_false (by omega)])))

theorem eqPt (w : World) {s s' : Int} {m m' : List Nat} (hm : m.length = 8) (hm' : m'.length = 8) : (Op.equalIn 10000 T_i_Partition (.agg (pcl s m).toArray) (.agg (pcl s' m').toArray)).run Try.prog w = .ok (decide (s = s' ∧ m = m')) w :=
  eq_sized rfl st_i_Partition rfl rfl rfl rfl rfl rfl rfl rfl rfl rfl rfl hm hm'

def isPi (s : Int) (m : List Nat) : Bool := decide (1 ≤ s ∧ s ≤ 4) && decide (m = nm (fun i => ((m.getD i 0 : Nat) : Int)) s.toNat)

theorem s_isP (s : Int) (m : List Nat) (hm : m.length = 8) (hb : ∀ x ∈ m, x < 256) : Spec Try.prog n_i_IsPartition [pv s m] [] (vb (isPi s m)) [] := by
  refine SpecW.of_EV hf_i_IsPartition hc_i_IsPartition rfl rfl rfl fun w0 B ρ0 _ => ?_
  by_cases h1 : 1 ≤ s ∧ s ≤ 4
  · obtain ⟨n, rfl⟩ : ∃ n : Nat, s = n := ⟨s.toNat, by omega⟩
    have hin := s_iin n 1 4
    rw [decide_eq_true h1] at hin
    (repeat' (first | refine hin.pure rfl ?_ | refine (s_n n m).read [0] rfl ⟨rfl, trivial⟩ ?_ | refine (s_named_part n n m hm hb (by omega)).read [0] rfl ⟨rfl, trivial⟩ ?_ | refine Exists.intro (pcl n m) (And.intro ⟨pcl_len hm, pcl_all hm⟩ ?_) | refine Exists.intro _ (And.intro ⟨eg_i_Partition, fun w => eqPt w hm nm_len⟩ ?_) | refine And.intro (neI rfl) ?_ | refine And.intro ⟨rfl, leR rfl, onesR rfl⟩ ?_ | refine And.intro ⟨rfl, leR rfl⟩ ?_ | refine draw_rule2 hfol (fun KK hKK => ?_) | refine hKK _ _ _ (by kernel_rfl) ?_ | refine region_rule (fun KK hKK => ?_) | refine hKK _ _ ?_ | refine And.intro (Eq.refl true) ?_ | refine Exists.intro _ (And.intro (wI (by omega)) ?_) | refine Exists.intro _ (And.intro (wU (by omega)) ?_) | refine Exists.intro _ (And.intro ⟨rfl, by omega⟩ ?_) | refine Exists.intro _ (And.intro rfl ?_) | refine And.intro rfl ?_ | refine And.intro ⟨rfl, rfl⟩ ?_ | ((refine And.intro (fun _ => ?_) (fun _ => ?_)) <;> try (exfalso; omega))))
    refine finP (vbR ?_)
    show decide ((n : Int) = n ∧ m = nm (fun i => ((m.getD i 0 : Nat) : Int)) n) = isPi n m
    simp [isPi, h1]
  · have hin := s_iin s 1 4
    rw [decide_eq_false h1] at hin
    (repeat' (first | refine hin.pure rfl ?_ | refine And.intro (neI rfl) ?_ | refine And.intro ⟨rfl, leR rfl, onesR rfl⟩ ?_ | refine And.intro ⟨rfl, leR rfl⟩ ?_ | refine draw_rule2 hfol (fun KK hKK => ?_) | refine hKK _ _ _ (by kernel_rfl) ?_ | refine region_rule (fun KK hKK => ?_) | refine hKK _ _ ?_ | refine And.intro (Eq.refl true) ?_ | refine Exists.intro _ (And.intro (wI (by omega)) ?_) | refine Exists.intro _ (And.intro (wU (by omega)) ?_) | refine Exists.intro _ (And.intro ⟨rfl, by omega⟩ ?_) | refine Exists.intro _ (And.intro rfl ?_) | refine And.intro rfl ?_ | refine And.intro ⟨rfl, rfl⟩ ?_ | ((refine And.intro (fun _ => ?_) (fun _ => ?_)) <;> try (exfalso; omega))))
    refine finP (vbR ?_)
    simp [isPi, h1]
end Go.Proofs.Ytpangmameocfmaa.VE.P
namespace Go.Proofs.Ytpangmameocfmaa.VE.P
open Go
set_option maxHeartbeats 400000
set_option maxRecDepth 100000

theorem s_bad1 (s : Int) (m : List Nat) (hm : m.length = 8) (hb : ∀ x ∈ m, x < 256) : Spec Try.prog n_i_badPartition_1 [pv s m] [] (vb (!isPi s m)) [] := by
  refine SpecW.of_EV hf_i_badPartition_1 hc_i_badPartition_1 rfl rfl rfl fun w0 B ρ0 _ => ?_
  have hq := s_isP s m hm hb
  generalize isPi s m = q at hq ⊢
  cases q <;>
  · (repeat' (first | refine Exists.intro (pcl s m) (And.intro ⟨pcl_len hm, pcl_all hm⟩ ?_) | refine hq.pure rfl ?_ | refine And.intro (neI rfl) ?_ | refine And.intro ⟨rfl, leR rfl, onesR rfl⟩ ?_ | refine And.intro ⟨rfl, leR rfl⟩ ?_ | refine draw_rule2 hfol (fun KK hKK => ?_) | refine hKK _ _ _ (by kernel_rfl) ?_ | refine region_rule (fun KK hKK => ?_) | refine hKK _ _ ?_ | refine And.intro (Eq.refl true) ?_ | refine Exists.intro _ (And.intro (wI (by omega)) ?_) | refine Exists.intro _ (And.intro (wU (by omega)) ?_) | refine Exists.intro _ (And.intro ⟨rfl, by omega⟩ ?_) | refine Exists.intro _ (And.intro rfl ?_) | refine And.intro rfl ?_ | refine And.intro ⟨rfl, rfl⟩ ?_ | ((refine And.intro (fun _ => ?_) (fun _ => ?_)) <;> try (exfalso; omega))))
    exact finP rfl

/-- A row of structs of a size and bytes. -/
def rowP : List (Int × List Nat) → List Value
  | [] => []
  | p :: r => pcl p.1 p.2 ++ rowP r
def okPs (l : List (Int × List Nat)) : Prop := ∀ p ∈ l, p.2.length = 8 ∧ ∀ x ∈ p.2, x < 256
theorem rowP_at {N : Nat} : ∀ {l : List (Int × List Nat)} {i : Nat} {p : Int × List Nat}, (∀ p ∈ l, p.2.length = N) → l[i]? = some p → ((rowP l).drop (i * (N + 1))).take (N + 1) = pcl p.1 p.2
  | [], _, _, _, h => by simp at h
  | q :: r, 0, p, hl, h => by
    simp at h
    subst h
    have := pcl_len (s := q.1) (hl q (by simp))
    rw [Nat.zero_mul, List.drop_zero, rowP, List.take_append_of_le_length (by omega), List.take_of_length_le (by omega)]
  | q :: r, i + 1, p, hl, h => by
    have := pcl_len (s := q.1) (hl q (by simp))
    rw [rowP, show (i + 1) * (N + 1) = (pcl q.1 q.2).length + i * (N + 1) from by rw [this, Nat.add_mul]; omega, ← List.drop_drop, List.drop_append_of_le_length (Nat.le_refl _), List.drop_of_length_le (Nat.le_refl _), List.nil_append]
    exact rowP_at (fun p hp => hl p (by simp [hp])) (by simpa using h)

/-- The first that is bad. -/
def ixB : List (Int × List Nat) → Nat → Int
  | [], _ => -1
  | p :: r, i => if isPi p.1 p.2 then ixB r (i + 1) else i
theorem ixB_ge : ∀ {l : List (Int × List Nat)} {i : Nat}, decide (ixB l i ≥ 0) = l.any fun p => !isPi p.1 p.2
  | [], i => by simp [ixB]
  | p :: r, i => by
    simp only [ixB, List.any_cons]
    split
    · rename_i h; rw [ixB_ge]; simp [h]
    · rename_i h; simp [h]

theorem s_index (l : List (Int × List Nat)) (hl : okPs l) (hn : l.length ≤ 1000) : Spec Try.prog n_g_IndexFunc_Partition [.sl 0, .fn (.func n_i_badPartition_1) [] []] [.pr T_i_Partition 9 l.length (rowP l)] (vi (ixB l 0)) [.pr T_i_Partition 9 l.length (rowP l)] := by
  refine SpecW.of_EV hf_g_IndexFunc_Partition hc_g_IndexFunc_Partition rfl rfl rfl fun w0 B ρ0 _ => ?_
  (repeat' (first | refine And.intro (neI rfl) ?_ | refine And.intro ⟨rfl, leR rfl, onesR rfl⟩ ?_ | refine And.intro ⟨rfl, leR rfl⟩ ?_ | refine draw_rule2 hfol (fun KK hKK => ?_) | refine hKK _ _ _ (by kernel_rfl) ?_ | refine region_rule (fun KK hKK => ?_) | refine hKK _ _ ?_ | refine And.intro (Eq.refl true) ?_ | refine Exists.intro _ (And.intro (wI (by omega)) ?_) | refine Exists.intro _ (And.intro (wU (by omega)) ?_) | refine Exists.intro _ (And.intro ⟨rfl, by omega⟩ ?_) | refine Exists.intro _ (And.intro rfl ?_) | refine And.intro rfl ?_ | refine And.intro ⟨rfl, rfl⟩ ?_ | ((refine And.intro (fun _ => ?_) (fun _ => ?_)) <;> try (exfalso; omega))))
  refine loop_rule (α := Nat) (fun i => i ≤ l.length ∧ ixB (l.drop i) i = ixB l 0)
      (fun i => [(0, .sl 0), (1, .fn (.func n_i_badPartition_1) [] []), (7, vi l.length), (8, vi i)]) (fun _ => [.pr T_i_Partition 9 l.length (rowP l)]) (fun i => l.length - i) 0 [0]
      ⟨by omega, rfl⟩ ⟨⟨rfl, rfl, rfl, rfl, trivial⟩, ⟨rfl, trivial⟩, rfl⟩ ?_
  rintro i g ⟨hi, hR⟩
  by_cases h8 : i = l.length
  · subst h8
    (repeat' (first | refine And.intro (neI rfl) ?_ | refine And.intro ⟨rfl, leR rfl, onesR rfl⟩ ?_ | refine And.intro ⟨rfl, leR rfl⟩ ?_ | refine draw_rule2 hfol (fun KK hKK => ?_) | refine hKK _ _ _ (by kernel_rfl) ?_ | refine region_rule (fun KK hKK => ?_) | refine hKK _ _ ?_ | refine And.intro (Eq.refl true) ?_ | refine Exists.intro _ (And.intro (wI (by omega)) ?_) | refine Exists.intro _ (And.intro (wU (by omega)) ?_) | refine Exists.intro _ (And.intro ⟨rfl, by omega⟩ ?_) | refine Exists.intro _ (And.intro rfl ?_) | refine And.intro rfl ?_ | refine And.intro ⟨rfl, rfl⟩ ?_ | ((refine And.intro (fun _ => ?_) (fun _ => ?_)) <;> try (exfalso; omega))))
    exact Exists.intro [0] (And.intro (by rw [← hR]; simp [ixB]; rfl) (And.intro ⟨rfl, trivial⟩ rfl))
  have hlt : i < l.length := by omega
  have hp := List.getElem?_eq_getElem hlt
  generalize l[i] = p at hp
  have hd : l.drop i = p :: l.drop (i + 1) := by
    rw [List.drop_eq_getElem_cons hlt]
    rw [List.getElem?_eq_getElem hlt] at hp
    injection hp with hp; rw [hp]
  obtain ⟨hpl, hpb⟩ := hl p (List.mem_of_getElem? hp)
  rw [hd] at hR
  have hds := rowP_at (fun p hp => (hl p hp).1) hp
  have hq := s_bad1 p.1 p.2 hpl hpb
  simp only [ixB] at hR
  cases hb : isPi p.1 p.2 with
  | true =>
    rw [hb] at hq hR
    (repeat' (first | refine Exists.intro (pcl p.1 p.2) (And.intro ⟨pcl_len hpl, hds⟩ ?_) | refine hq.pure rfl ?_ | refine And.intro (neI rfl) ?_ | refine And.intro ⟨rfl, leR rfl, onesR rfl⟩ ?_ | refine And.intro ⟨rfl, leR rfl⟩ ?_ | refine draw_rule2 hfol (fun KK hKK => ?_) | refine hKK _ _ _ (by kernel_rfl) ?_ | refine region_rule (fun KK hKK => ?_) | refine hKK _ _ ?_ | refine And.intro (Eq.refl true) ?_ | refine Exists.intro _ (And.intro (wI (by omega)) ?_) | refine Exists.intro _ (And.intro (wU (by omega)) ?_) | refine Exists.intro _ (And.intro ⟨rfl, by omega⟩ ?_) | refine Exists.intro _ (And.intro rfl ?_) | refine And.intro rfl ?_ | refine And.intro ⟨rfl, rfl⟩ ?_ | ((refine And.intro (fun _ => ?_) (fun _ => ?_)) <;> try (exfalso; omega))))
    refine Exists.intro (i + 1) (Exists.intro [0] (And.intro ⟨⟨by omega, by rw [← hR]; rfl⟩, (by show l.length - (i + 1) < l.length - i; omega)⟩ ⟨⟨rfl, rfl, rfl, rfl, trivial⟩, ⟨rfl, trivial⟩, rfl⟩))
  | false =>
    rw [hb] at hq hR
    (repeat' (first | refine Exists.intro (pcl p.1 p.2) (And.intro ⟨pcl_len hpl, hds⟩ ?_) | refine hq.pure rfl ?_ | refine And.intro (neI rfl) ?_ | refine And.intro ⟨rfl, leR rfl, onesR rfl⟩ ?_ | refine And.intro ⟨rfl, leR rfl⟩ ?_ | refine draw_rule2 hfol (fun KK hKK => ?_) | refine hKK _ _ _ (by kernel_rfl) ?_ | refine region_rule (fun KK hKK => ?_) | refine hKK _ _ ?_ | refine And.intro (Eq.refl true) ?_ | refine Exists.intro _ (And.intro (wI (by omega)) ?_) | refine Exists.intro _ (And.intro (wU (by omega)) ?_) | refine Exists.intro _ (And.intro ⟨rfl, by omega⟩ ?_) | refine Exists.intro _ (And.intro rfl ?_) | refine And.intro rfl ?_ | refine And.intro ⟨rfl, rfl⟩ ?_ | ((refine And.intro (fun _ => ?_) (fun _ => ?_)) <;> try (exfalso; omega))))
    exact Exists.intro [0] (And.intro (by rw [← hR]; rfl) (And.intro ⟨rfl, trivial⟩ rfl))

theorem s_contains (l : List (Int × List Nat)) (hl : okPs l) (hn : l.length ≤ 1000) : Spec Try.prog n_g_ContainsFunc_Partition [.sl 0, .fn (.func n_i_badPartition_1) [] []] [.pr T_i_Partition 9 l.length (rowP l)] (vb (l.any fun p => !isPi p.1 p.2)) [.pr T_i_Partition 9 l.length (rowP l)] := by
  refine SpecW.of_EV hf_g_ContainsFunc_Partition hc_g_ContainsFunc_Partition rfl rfl rfl fun w0 B ρ0 _ => ?_
  have hge := ixB_ge (l := l) (i := 0)
  have hix := s_index l hl hn
  rw [← hge]
  generalize ixB l 0 = q at hix
  (repeat' (first | refine (hix).read [0] rfl ⟨rfl, trivial⟩ ?_ | refine And.intro (neI rfl) ?_ | refine And.intro ⟨rfl, leR rfl, onesR rfl⟩ ?_ | refine And.intro ⟨rfl, leR rfl⟩ ?_ | refine draw_rule2 hfol (fun KK hKK => ?_) | refine hKK _ _ _ (by kernel_rfl) ?_ | refine region_rule (fun KK hKK => ?_) | refine hKK _ _ ?_ | refine And.intro (Eq.refl true) ?_ | refine Exists.intro _ (And.intro (wI (by omega)) ?_) | refine Exists.intro _ (And.intro (wU (by omega)) ?_) | refine Exists.intro _ (And.intro ⟨rfl, by omega⟩ ?_) | refine Exists.intro _ (And.intro rfl ?_) | refine And.intro rfl ?_ | refine And.intro ⟨rfl, rfl⟩ ?_ | ((refine And.intro (fun _ => ?_) (fun _ => ?_)) <;> try (exfalso; omega))))
  all_goals exact Exists.intro [0] (And.intro (vbR (by first | rw [decide_eq_true (by omega)] | rw [decide_eq_false (by omega)])) (And.intro ⟨rfl, trivial⟩ rfl))

theorem s_bad (l : List (Int × List Nat)) (hl : okPs l) (hn : l.length ≤ 1000) : Spec Try.prog n_i_badPartition [.sl 0] [.pr T_i_Partition 9 l.length (rowP l)] (vb (l.any fun p => !isPi p.1 p.2)) [.pr T_i_Partition 9 l.length (rowP l)] := by
  refine SpecW.of_EV hf_i_badPartition hc_i_badPartition rfl rfl rfl fun w0 B ρ0 _ => ?_
  (repeat' (first | refine (s_contains l hl hn).read [0] rfl ⟨rfl, trivial⟩ ?_ | refine And.intro (neI rfl) ?_ | refine And.intro ⟨rfl, leR rfl, onesR rfl⟩ ?_ | refine And.intro ⟨rfl, leR rfl⟩ ?_ | refine draw_rule2 hfol (fun KK hKK => ?_) | refine hKK _ _ _ (by kernel_rfl) ?_ | refine region_rule (fun KK hKK => ?_) | refine hKK _ _ ?_ | refine And.intro (Eq.refl true) ?_ | refine Exists.intro _ (And.intro (wI (by omega)) ?_) | refine Exists.intro _ (And.intro (wU (by omega)) ?_) | refine Exists.intro _ (And.intro ⟨rfl, by omega⟩ ?_) | refine Exists.intro _ (And.intro rfl ?_) | refine And.intro rfl ?_ | refine And.intro ⟨rfl, rfl⟩ ?_ | ((refine And.intro (fun _ => ?_) (fun _ => ?_)) <;> try (exfalso; omega))))
  exact Exists.intro [0] (And.intro rfl (And.intro ⟨rfl, trivial⟩ rfl))

end Go.Proofs.Ytpangmameocfmaa.VE.P
