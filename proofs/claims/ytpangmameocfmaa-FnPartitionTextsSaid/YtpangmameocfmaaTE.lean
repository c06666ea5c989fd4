/- Contracts of functions of the given program, for all arguments that the contract names; see each theorem. -/
import Derived.Test.YtpangmameocfmaaTD
set_option linter.all false
namespace Go.Proofs.Ytpangmameocfmaa.VE.P
open Go
set_option maxHeartbeats 400000
set_option maxRecDepth 100000

/-- The first i copied. -/
def cp (m : List Nat) (N i : Nat) : List Nat := (List.range N).map fun j => if j < i then m.getD j 0 else 0
theorem cp_len {m : List Nat} {N i : Nat} : (cp m N i).length = N := by simp [cp]
theorem cp_set {m : List Nat} {N i : Nat} (hi : i < N) : (cp m N i).set i (m.getD i 0) = cp m N (i + 1) := by
  apply List.ext_getElem (by simp [cp])
  intro k h1 h2
  simp only [List.length_set, cp_len] at h1
  rw [List.getElem_set]
  simp only [cp, List.getElem_map, List.getElem_range]
  by_cases hk : i = k
  · subst hk; simp
  · rw [if_neg hk]
    by_cases hlt : k < i
    · rw [if_pos hlt, if_pos (by omega)]
    · rw [if_neg hlt, if_neg (by omega)]
theorem cp_all {m : List Nat} {N : Nat} (hm : m.length = N) : cp m N N = m := by
  apply List.ext_getElem (by simp [cp, hm])
  intro k h1 h2
  have : k < N := by omega
  simp [cp, this, List.getD_eq_getElem?_getD, List.getElem?_eq_getElem h2]
theorem pcl_splice {s : Int} {m m' : List Nat} {N : Nat} (h : m.length = N) : (pcl s m).take 1 ++ bcl m' ++ (pcl s m).drop (1 + N) = pcl s m' := by
  have : (pcl s m).drop (1 + N) = [] := List.drop_of_length_le (by rw [pcl_len h]; omega)
  rw [this]; simp [pcl, bcl]

theorem s_toB8 (m : List Nat) (hm : m.length = 8) : Spec Try.prog n_l_toByteA8 [bv m] [] (bv m) [] := by
  refine SpecW.of_EV hf_l_toByteA8 hc_l_toByteA8 rfl rfl rfl fun w0 B ρ0 _ => ?_
  (repeat' (first | refine And.intro (neI rfl) ?_ | refine And.intro ⟨rfl, leR rfl, onesR rfl⟩ ?_ | refine And.intro ⟨rfl, leR rfl⟩ ?_ | refine draw_rule2 hfol (fun KK hKK => ?_) | refine hKK _ _ _ (by kernel_rfl) ?_ | refine region_rule (fun KK hKK => ?_) | refine hKK _ _ ?_ | refine And.intro (Eq.refl true) ?_ | refine Exists.intro _ (And.intro (wI (by omega)) ?_) | refine Exists.intro _ (And.intro (wU (by omega)) ?_) | refine Exists.intro _ (And.intro ⟨rfl, by omega⟩ ?_) | refine Exists.intro _ (And.intro rfl ?_) | refine And.intro rfl ?_ | refine And.intro ⟨rfl, rfl⟩ ?_ | ((refine And.intro (fun _ => ?_) (fun _ => ?_)) <;> try (exfalso; omega))))
  refine loop_rule (α := Nat) (fun i => i ≤ 8)
      (fun i => [(1, .ptr 0 0), (2, .ptr 1 0), (3, .ptr 2 0), (4, vi i)]) (fun i => [.pc (bcl m) T_a8q_uint8, .pc (bcl (List.replicate 8 0)) T_a8q_uint8, .pc (bcl (cp m 8 i)) T_a8q_uint8]) (fun i => 8 - i) 0 [0, 1, 2]
      (by omega) ⟨⟨rfl, rfl, rfl, rfl, trivial⟩, ⟨rfl, rfl, rfl, trivial⟩, rfl⟩ ?_
  rintro i g hi
  by_cases h8 : i = 8
  · subst h8
    (repeat' (first | refine Exists.intro (bcl (cp m 8 8)) (And.intro ⟨bcl_len cp_len, bcl_all cp_len⟩ ?_) | refine And.intro ⟨bcl_len cp_len, leR rfl, bcl_ones⟩ ?_ | refine Exists.intro (bcl (cp m 8 8)) (And.intro ⟨leR rfl, spl0 (leR rfl)⟩ ?_) | refine And.intro (neI rfl) ?_ | refine And.intro ⟨rfl, leR rfl, onesR rfl⟩ ?_ | refine And.intro ⟨rfl, leR rfl⟩ ?_ | refine draw_rule2 hfol (fun KK hKK => ?_) | refine hKK _ _ _ (by kernel_rfl) ?_ | refine region_rule (fun KK hKK => ?_) | refine hKK _ _ ?_ | refine And.intro (Eq.refl true) ?_ | refine Exists.intro _ (And.intro (wI (by omega)) ?_) | refine Exists.intro _ (And.intro (wU (by omega)) ?_) | refine Exists.intro _ (And.intro ⟨rfl, by omega⟩ ?_) | refine Exists.intro _ (And.intro rfl ?_) | refine And.intro rfl ?_ | refine And.intro ⟨rfl, rfl⟩ ?_ | ((refine And.intro (fun _ => ?_) (fun _ => ?_)) <;> try (exfalso; omega))))
    rw [cp_all hm]
    exact Exists.intro [] (And.intro rfl (And.intro trivial rfl))
  (repeat' (first | refine Exists.intro _ (And.intro (bcl_at (by omega)) ?_) | refine Exists.intro (bcl (cp m 8 (i + 1))) (And.intro ⟨by rw [bcl_len cp_len]; omega, by rw [← cp_set (by omega)]; exact bcl_set⟩ ?_) | refine And.intro (neI rfl) ?_ | refine And.intro ⟨rfl, leR rfl, onesR rfl⟩ ?_ | refine And.intro ⟨rfl, leR rfl⟩ ?_ | refine draw_rule2 hfol (fun KK hKK => ?_) | refine hKK _ _ _ (by kernel_rfl) ?_ | refine region_rule (fun KK hKK => ?_) | refine hKK _ _ ?_ | refine And.intro (Eq.refl true) ?_ | refine Exists.intro _ (And.intro (wI (by omega)) ?_) | refine Exists.intro _ (And.intro (wU (by omega)) ?_) | refine Exists.intro _ (And.intro ⟨rfl, by omega⟩ ?_) | refine Exists.intro _ (And.intro rfl ?_) | refine And.intro rfl ?_ | refine And.intro ⟨rfl, rfl⟩ ?_ | ((refine And.intro (fun _ => ?_) (fun _ => ?_)) <;> try (exfalso; omega))))
  refine Exists.intro (i + 1) (Exists.intro [0, 1, 2] (And.intro ⟨by omega, (by show 8 - (i + 1) < 8 - i; omega)⟩ ⟨⟨rfl, rfl, rfl, rfl, trivial⟩, ⟨rfl, rfl, rfl, trivial⟩, rfl⟩))

theorem s_toP (s : Int) (m : List Nat) (hm : m.length = 8) : Spec Try.prog n_l_toPartition [pv s m] [] (pv s m) [] := by
  refine SpecW.of_EV hf_l_toPartition hc_l_toPartition rfl rfl rfl fun w0 B ρ0 _ => ?_
  (repeat' (first | refine (s_toB8 m hm).pure rfl ?_ | refine Exists.intro (bcl m) (And.intro ⟨bcl_len hm, pcl_part hm⟩ ?_) | refine Exists.intro (pcl s (List.replicate 8 0)) (And.intro ⟨leR rfl, rfl⟩ ?_) | refine Exists.intro (pcl s m) (And.intro ⟨pcl_len hm, pcl_all hm⟩ ?_) | refine And.intro ⟨bcl_len hm, leR rfl, bcl_ones⟩ ?_ | refine And.intro ⟨pcl_len hm, leR rfl, pcl_ones⟩ ?_ | refine Exists.intro (pcl s m) (And.intro ⟨leR rfl, spl0 (leR rfl)⟩ ?_) | refine Exists.intro (pcl s m) (And.intro ⟨leR rfl, pcl_splice (by simp)⟩ ?_) | refine And.intro (neI rfl) ?_ | refine And.intro ⟨rfl, leR rfl, onesR rfl⟩ ?_ | refine And.intro ⟨rfl, leR rfl⟩ ?_ | refine draw_rule2 hfol (fun KK hKK => ?_) | refine hKK _ _ _ (by kernel_rfl) ?_ | refine region_rule (fun KK hKK => ?_) | refine hKK _ _ ?_ | refine And.intro (Eq.refl true) ?_ | refine Exists.intro _ (And.intro (wI (by omega)) ?_) | refine Exists.intro _ (And.intro (wU (by omega)) ?_) | refine Exists.intro _ (And.intro ⟨rfl, by omega⟩ ?_) | refine Exists.intro _ (And.intro rfl ?_) | refine And.intro rfl ?_ | refine And.intro ⟨rfl, rfl⟩ ?_ | ((refine And.intro (fun _ => ?_) (fun _ => ?_)) <;> try (exfalso; omega))))
  exact Exists.intro [] (And.intro rfl (And.intro trivial rfl))
end Go.Proofs.Ytpangmameocfmaa.VE.P
namespace Go.Proofs.Ytpangmameocfmaa.VE.P
open Go
set_option maxHeartbeats 400000
set_option maxRecDepth 100000

theorem s_parts (n : Nat) (m : List Nat) (hn : n ≤ 4) : Spec Try.prog n_i_Partition_parts [.ptr 0 0] [.pc (pcl n m) T_i_Partition] (.asl 0 1 (2 * n) 8) [.pc (pcl n m) T_i_Partition] := by
  refine SpecW.of_EV hf_i_Partition_parts hc_i_Partition_parts rfl rfl rfl fun w0 B ρ0 _ => ?_
  (repeat' (first | refine (s_n n m).read [0] rfl ⟨rfl, trivial⟩ ?_ | refine Exists.intro (2 * n) (And.intro ⟨by omega, by omega⟩ ?_) | refine And.intro (neI rfl) ?_ | refine And.intro ⟨rfl, leR rfl, onesR rfl⟩ ?_ | refine And.intro ⟨rfl, leR rfl⟩ ?_ | refine draw_rule2 hfol (fun KK hKK => ?_) | refine hKK _ _ _ (by kernel_rfl) ?_ | refine region_rule (fun KK hKK => ?_) | refine hKK _ _ ?_ | refine And.intro (Eq.refl true) ?_ | refine Exists.intro _ (And.intro (wI (by omega)) ?_) | refine Exists.intro _ (And.intro (wU (by omega)) ?_) | refine Exists.intro _ (And.intro ⟨rfl, by omega⟩ ?_) | refine Exists.intro _ (And.intro rfl ?_) | refine And.intro rfl ?_ | refine And.intro ⟨rfl, rfl⟩ ?_ | ((refine And.intro (fun _ => ?_) (fun _ => ?_)) <;> try (exfalso; omega))))
  exact Exists.intro [0] (And.intro rfl (And.intro ⟨rfl, trivial⟩ rfl))

/-- The digits of a partition. -/
def dg (m : List Nat) (i : Nat) : List UInt8 := (List.range i).map fun j => (48 + m.getD j 0).toUInt8
def dgB (m : List Nat) (i : Nat) : ByteArray := ⟨(dg m i).toArray⟩
theorem dg_succ {m : List Nat} {i : Nat} : dg m (i + 1) = dg m i ++ [(48 + m.getD i 0).toUInt8] := by simp [dg, List.range_succ]
theorem dgB_succ {m : List Nat} {i : Nat} : dgB m i ++ ⟨#[(48 + m.getD i 0).toUInt8]⟩ = dgB m (i + 1) := by
  unfold dgB; rw [dg_succ]; rfl

theorem row1s {c : List Value} {k : IntKind} {a : Int} (h : c.length ≤ 1) : c.take (0 * 1) ++ (Value.int k a).cells.toList ++ c.drop (0 * 1 + 1) = [.int k a] := by
  simp [Value.cells, List.drop_of_length_le h]
theorem u8_nat {x : Nat} (h : x < 256) : x.toUInt8.toNat = x := by simp; omega

theorem s_dec1 (x : Nat) (hx : x < 10) : Spec Try.prog n_s_l01Dec [vi x] [] (.raw (.string ⟨#[(48 + x).toUInt8]⟩)) [] := by
  have hb : [Value.int .u8 (48 + x)] = [(48 + x).toUInt8].map (fun b => Value.int .u8 b.toNat) := by
    simp only [List.map_cons, List.map_nil, u8_nat (show 48 + x < 256 by omega)]; rfl
  refine SpecW.of_EV hf_s_l01Dec hc_s_l01Dec rfl rfl rfl fun w0 B ρ0 _ => ?_
  (repeat' (first | refine And.intro ⟨rfl, mkL rfl⟩ ?_ | refine Exists.intro [Value.int .u8 (48 + x)] (And.intro (row1s (mkL' rfl)) ?_) | refine Exists.intro [(48 + x).toUInt8] (And.intro hb ?_) | refine And.intro (neI rfl) ?_ | refine And.intro ⟨rfl, leR rfl, onesR rfl⟩ ?_ | refine And.intro ⟨rfl, leR rfl⟩ ?_ | refine draw_rule2 hfol (fun KK hKK => ?_) | refine hKK _ _ _ (by kernel_rfl) ?_ | refine region_rule (fun KK hKK => ?_) | refine hKK _ _ ?_ | refine And.intro (Eq.refl true) ?_ | refine Exists.intro _ (And.intro (wI (by omega)) ?_) | refine Exists.intro _ (And.intro (wU (by omega)) ?_) | refine Exists.intro _ (And.intro ⟨rfl, by omega⟩ ?_) | refine Exists.intro _ (And.intro rfl ?_) | refine And.intro rfl ?_ | refine And.intro ⟨rfl, rfl⟩ ?_ | ((refine And.intro (fun _ => ?_) (fun _ => ?_)) <;> try (exfalso; omega))))
  exact finP rfl

theorem s_text (n : Nat) (m : List Nat) (hn : n ≤ 4) (hb : ∀ j, m.getD j 0 < 8) (hm : m.length = 8) : Spec Try.prog n_s_l07Text [pv n m] [] (.raw (.string (dgB m (2 * n)))) [] := by
  refine SpecW.of_EV hf_s_l07Text hc_s_l07Text rfl rfl rfl fun w0 B ρ0 _ => ?_
  (repeat' (first | refine And.intro (neI rfl) ?_ | refine And.intro ⟨rfl, leR rfl, onesR rfl⟩ ?_ | refine And.intro ⟨rfl, leR rfl⟩ ?_ | refine draw_rule2 hfol (fun KK hKK => ?_) | refine hKK _ _ _ (by kernel_rfl) ?_ | refine region_rule (fun KK hKK => ?_) | refine hKK _ _ ?_ | refine And.intro (Eq.refl true) ?_ | refine Exists.intro _ (And.intro (wI (by omega)) ?_) | refine Exists.intro _ (And.intro (wU (by omega)) ?_) | refine Exists.intro _ (And.intro ⟨rfl, by omega⟩ ?_) | refine Exists.intro _ (And.intro rfl ?_) | refine And.intro rfl ?_ | refine And.intro ⟨rfl, rfl⟩ ?_ | ((refine And.intro (fun _ => ?_) (fun _ => ?_)) <;> try (exfalso; omega))))
  refine loop_rule (α := Nat) (fun i => i ≤ 2 * n)
      (fun i => [(1, .ptr 0 0), (3, .raw (.string (dgB m i))), (4, vi i)]) (fun i => [.pc (pcl n m) T_i_Partition]) (fun i => 2 * n - i) 0 [0]
      (by omega) ⟨⟨rfl, rfl, rfl, trivial⟩, ⟨rfl, trivial⟩, rfl⟩ ?_
  rintro i g hi
  by_cases h8 : i = 2 * n
  · subst h8
    (repeat' (first | refine And.intro (neI rfl) ?_ | refine And.intro ⟨rfl, leR rfl, onesR rfl⟩ ?_ | refine And.intro ⟨rfl, leR rfl⟩ ?_ | refine draw_rule2 hfol (fun KK hKK => ?_) | refine hKK _ _ _ (by kernel_rfl) ?_ | refine region_rule (fun KK hKK => ?_) | refine hKK _ _ ?_ | refine And.intro (Eq.refl true) ?_ | refine Exists.intro _ (And.intro (wI (by omega)) ?_) | refine Exists.intro _ (And.intro (wU (by omega)) ?_) | refine Exists.intro _ (And.intro ⟨rfl, by omega⟩ ?_) | refine Exists.intro _ (And.intro rfl ?_) | refine And.intro rfl ?_ | refine And.intro ⟨rfl, rfl⟩ ?_ | ((refine And.intro (fun _ => ?_) (fun _ => ?_)) <;> try (exfalso; omega))))
    exact finP rfl
  have hs : (dgB m i).size = i := by simp [dgB, dg, ByteArray.size]
  have hbi := hb i
  (repeat' (first | refine (s_dec1 (m.getD i 0) (by have := hb i; omega)).pure rfl ?_ | refine Exists.intro _ (And.intro (pcl_at (by omega)) ?_) | refine And.intro (by rw [hs]; show i + 1 ≤ _; omega) ?_ | refine Exists.intro (dgB m (i + 1)) (And.intro dgB_succ ?_) | refine And.intro (neI rfl) ?_ | refine And.intro ⟨rfl, leR rfl, onesR rfl⟩ ?_ | refine And.intro ⟨rfl, leR rfl⟩ ?_ | refine draw_rule2 hfol (fun KK hKK => ?_) | refine hKK _ _ _ (by kernel_rfl) ?_ | refine region_rule (fun KK hKK => ?_) | refine hKK _ _ ?_ | refine And.intro (Eq.refl true) ?_ | refine Exists.intro _ (And.intro (wI (by omega)) ?_) | refine Exists.intro _ (And.intro (wU (by omega)) ?_) | refine Exists.intro _ (And.intro ⟨rfl, by omega⟩ ?_) | refine Exists.intro _ (And.intro rfl ?_) | refine And.intro rfl ?_ | refine And.intro ⟨rfl, rfl⟩ ?_ | ((refine And.intro (fun _ => ?_) (fun _ => ?_)) <;> try (exfalso; omega))))
  refine Exists.intro (i + 1) (Exists.intro [0] (And.intro ⟨by omega, (by show 2 * n - (i + 1) < 2 * n - i; omega)⟩ ⟨⟨rfl, rfl, rfl, trivial⟩, ⟨rfl, trivial⟩, rfl⟩))
end Go.Proofs.Ytpangmameocfmaa.VE.P
namespace Go.Proofs.Ytpangmameocfmaa.VE.P
open Go
set_option maxHeartbeats 400000
set_option maxRecDepth 100000

theorem isPi_size {s : Int} {m : List Nat} (h : isPi s m = true) : ∃ n : Nat, s = n ∧ 1 ≤ n ∧ n ≤ 4 := by
  unfold isPi at h
  simp only [Bool.and_eq_true, decide_eq_true_eq] at h
  exact ⟨s.toNat, by omega, by omega, by omega⟩
abbrev stV (p : ByteArray × Int) : V := .tup [.raw (.string p.1), vi p.2]
def textR (s : Int) (m : List Nat) : ByteArray × Int := if isPi s m then (dgB m (2 * s.toNat), 0) else (⟨#[]⟩, 1)

theorem s_sText (s : Int) (m : List Nat) (hm : m.length = 8) (hb : ∀ x ∈ m, x < 256) : Spec Try.prog n_s_PartitionText [pv s m] [] (stV (textR s m)) [] := by
  have hq := s_is s m hm hb
  rw [isP_eq s m hm] at hq
  have hr : textR s m = if isPi s m then (dgB m (2 * s.toNat), 0) else (⟨#[]⟩, 1) := rfl
  refine SpecW.of_EV hf_s_PartitionText hc_s_PartitionText rfl rfl rfl fun w0 B ρ0 _ => ?_
  cases hv : isPi s m with
  | false =>
    rw [hv] at hq hr
    (repeat' (first | refine hq.pure rfl ?_ | refine Exists.intro (pcl s m) (And.intro ⟨pcl_len hm, pcl_all hm⟩ ?_) | refine And.intro (neI rfl) ?_ | refine And.intro ⟨rfl, leR rfl, onesR rfl⟩ ?_ | refine And.intro ⟨rfl, leR rfl⟩ ?_ | refine draw_rule2 hfol (fun KK hKK => ?_) | refine hKK _ _ _ (by kernel_rfl) ?_ | refine region_rule (fun KK hKK => ?_) | refine hKK _ _ ?_ | refine And.intro (Eq.refl true) ?_ | refine Exists.intro _ (And.intro (wI (by omega)) ?_) | refine Exists.intro _ (And.intro (wU (by omega)) ?_) | refine Exists.intro _ (And.intro ⟨rfl, by omega⟩ ?_) | refine Exists.intro _ (And.intro rfl ?_) | refine And.intro rfl ?_ | refine And.intro ⟨rfl, rfl⟩ ?_ | ((refine And.intro (fun _ => ?_) (fun _ => ?_)) <;> try (exfalso; omega))))
    exact Exists.intro [] (And.intro (by rw [hr]; rfl) (And.intro trivial rfl))
  | true =>
    rw [hv] at hq hr
    obtain ⟨n, rfl, hn1, hn⟩ := isPi_size hv
    have ht := s_text n m hn (isPi_lt hv) hm
    (repeat' (first | refine hq.pure rfl ?_ | refine ht.pure rfl ?_ | refine Exists.intro (pcl n m) (And.intro ⟨pcl_len hm, pcl_all hm⟩ ?_) | refine And.intro (neI rfl) ?_ | refine And.intro ⟨rfl, leR rfl, onesR rfl⟩ ?_ | refine And.intro ⟨rfl, leR rfl⟩ ?_ | refine draw_rule2 hfol (fun KK hKK => ?_) | refine hKK _ _ _ (by kernel_rfl) ?_ | refine region_rule (fun KK hKK => ?_) | refine hKK _ _ ?_ | refine And.intro (Eq.refl true) ?_ | refine Exists.intro _ (And.intro (wI (by omega)) ?_) | refine Exists.intro _ (And.intro (wU (by omega)) ?_) | refine Exists.intro _ (And.intro ⟨rfl, by omega⟩ ?_) | refine Exists.intro _ (And.intro rfl ?_) | refine And.intro rfl ?_ | refine And.intro ⟨rfl, rfl⟩ ?_ | ((refine And.intro (fun _ => ?_) (fun _ => ?_)) <;> try (exfalso; omega))))
    exact Exists.intro [] (And.intro (by rw [hr]; rfl) (And.intro trivial rfl))

/-- The digits as cells. -/
def dgC (m : List Nat) (i : Nat) : List Value := (dg m i).map fun b => .int .u8 b.toNat
theorem dgC_succ {m : List Nat} {i : Nat} (h : m.getD i 0 < 8) : dgC m i ++ [.int .u8 ((48 + m.getD i 0 : Nat) : Int)] = dgC m (i + 1) := by
  unfold dgC
  rw [dg_succ, List.map_append, List.map_cons, List.map_nil, u8_nat (by omega)]

theorem s_iText (s : Int) (m : List Nat) (hm : m.length = 8) (hb : ∀ x ∈ m, x < 256) : Spec Try.prog n_i_PartitionText [pv s m] [] (stV (textR s m)) [] := by
  have hq := s_bad [(s, m)] (fun p hp => by simp at hp; subst hp; exact ⟨hm, hb⟩) (by simp)
  simp only [List.any_cons, List.any_nil, Bool.or_false] at hq
  have hr : textR s m = if isPi s m then (dgB m (2 * s.toNat), 0) else (⟨#[]⟩, 1) := rfl
  refine SpecW.of_EV hf_i_PartitionText hc_i_PartitionText rfl rfl rfl fun w0 B ρ0 _ => ?_
  cases hv : isPi s m with
  | false =>
    rw [hv] at hq hr
    (repeat' (first | refine hq.read [1] rfl ⟨rfl, trivial⟩ ?_ | refine Exists.intro (pcl s m) (And.intro ⟨pcl_len hm, pcl_all hm⟩ ?_) | refine And.intro ⟨pcl_len hm, mkL rfl⟩ ?_ | refine Exists.intro (rowP [(s, m)]) (And.intro (row1 (N := 9) (p := (s, m)) (mkL' rfl)) ?_) | refine And.intro (neI rfl) ?_ | refine And.intro ⟨rfl, leR rfl, onesR rfl⟩ ?_ | refine And.intro ⟨rfl, leR rfl⟩ ?_ | refine draw_rule2 hfol (fun KK hKK => ?_) | refine hKK _ _ _ (by kernel_rfl) ?_ | refine region_rule (fun KK hKK => ?_) | refine hKK _ _ ?_ | refine And.intro (Eq.refl true) ?_ | refine Exists.intro _ (And.intro (wI (by omega)) ?_) | refine Exists.intro _ (And.intro (wU (by omega)) ?_) | refine Exists.intro _ (And.intro ⟨rfl, by omega⟩ ?_) | refine Exists.intro _ (And.intro rfl ?_) | refine And.intro rfl ?_ | refine And.intro ⟨rfl, rfl⟩ ?_ | ((refine And.intro (fun _ => ?_) (fun _ => ?_)) <;> try (exfalso; omega))))
    exact Exists.intro [] (And.intro (by rw [hr]; rfl) (And.intro trivial rfl))
  | true =>
    rw [hv] at hq hr
    obtain ⟨n, rfl, hn1, hn⟩ := isPi_size hv
    (repeat' (first | refine hq.read [1] rfl ⟨rfl, trivial⟩ ?_ | refine (s_parts n m hn).read [0] rfl ⟨rfl, trivial⟩ ?_ | refine Exists.intro (pcl n m) (And.intro ⟨pcl_len hm, pcl_all hm⟩ ?_) | refine And.intro ⟨pcl_len hm, mkL rfl⟩ ?_ | refine Exists.intro (rowP [((n : Int), m)]) (And.intro (row1 (N := 9) (p := ((n : Int), m)) (mkL' rfl)) ?_) | refine And.intro (neI rfl) ?_ | refine And.intro ⟨rfl, leR rfl, onesR rfl⟩ ?_ | refine And.intro ⟨rfl, leR rfl⟩ ?_ | refine draw_rule2 hfol (fun KK hKK => ?_) | refine hKK _ _ _ (by kernel_rfl) ?_ | refine region_rule (fun KK hKK => ?_) | refine hKK _ _ ?_ | refine And.intro (Eq.refl true) ?_ | refine Exists.intro _ (And.intro (wI (by omega)) ?_) | refine Exists.intro _ (And.intro (wU (by omega)) ?_) | refine Exists.intro _ (And.intro ⟨rfl, by omega⟩ ?_) | refine Exists.intro _ (And.intro rfl ?_) | refine And.intro rfl ?_ | refine And.intro ⟨rfl, rfl⟩ ?_ | ((refine And.intro (fun _ => ?_) (fun _ => ?_)) <;> try (exfalso; omega))))
    refine loop_rule (α := Nat) (fun i => i ≤ 2 * n)
      (fun i => [(4, .sl 1), (11, .asl 0 1 (2 * n) 8), (12, vi (2 * n : Nat)), (13, vi i)]) (fun i => [.pc (pcl n m) T_i_Partition, .pr T_uint8 1 i (dgC m i)]) (fun i => 2 * n - i) 0 [0, 2]
      (by omega) ⟨⟨rfl, rfl, rfl, rfl, trivial⟩, ⟨rfl, rfl, trivial⟩, rfl⟩ ?_
    rintro i g hi
    by_cases h8 : i = 2 * n
    · subst h8
      (repeat' (first | refine Exists.intro (dg m (2 * n)) (And.intro rfl ?_) | refine And.intro (neI rfl) ?_ | refine And.intro ⟨rfl, leR rfl, onesR rfl⟩ ?_ | refine And.intro ⟨rfl, leR rfl⟩ ?_ | refine draw_rule2 hfol (fun KK hKK => ?_) | refine hKK _ _ _ (by kernel_rfl) ?_ | refine region_rule (fun KK hKK => ?_) | refine hKK _ _ ?_ | refine And.intro (Eq.refl true) ?_ | refine Exists.intro _ (And.intro (wI (by omega)) ?_) | refine Exists.intro _ (And.intro (wU (by omega)) ?_) | refine Exists.intro _ (And.intro ⟨rfl, by omega⟩ ?_) | refine Exists.intro _ (And.intro rfl ?_) | refine And.intro rfl ?_ | refine And.intro ⟨rfl, rfl⟩ ?_ | ((refine And.intro (fun _ => ?_) (fun _ => ?_)) <;> try (exfalso; omega))))
      exact Exists.intro [] (And.intro (by rw [hr]; rfl) (And.intro trivial rfl))
    have hbi := isPi_lt hv i
    have hw : IntKind.u8.wrap (48 + ((m.getD i 0 : Nat) : Int)) = ((48 + m.getD i 0 : Nat) : Int) := by rw [wU (by omega)]; omega
    (repeat' (first | refine Exists.intro _ (And.intro (pcl_at (by omega)) ?_) | refine Exists.intro _ (And.intro hw ?_) | refine And.intro ⟨rfl, mkL rfl⟩ ?_ | refine Exists.intro [Value.int .u8 ((48 + m.getD i 0 : Nat) : Int)] (And.intro (row1s (mkL' rfl)) ?_) | refine Exists.intro (dgC m (i + 1)) (And.intro ⟨rfl, onesR rfl, by omega, by omega, dgC_succ hbi⟩ ?_) | refine And.intro (neI rfl) ?_ | refine And.intro ⟨rfl, leR rfl, onesR rfl⟩ ?_ | refine And.intro ⟨rfl, leR rfl⟩ ?_ | refine draw_rule2 hfol (fun KK hKK => ?_) | refine hKK _ _ _ (by kernel_rfl) ?_ | refine region_rule (fun KK hKK => ?_) | refine hKK _ _ ?_ | refine And.intro (Eq.refl true) ?_ | refine Exists.intro _ (And.intro (wI (by omega)) ?_) | refine Exists.intro _ (And.intro (wU (by omega)) ?_) | refine Exists.intro _ (And.intro ⟨rfl, by omega⟩ ?_) | refine Exists.intro _ (And.intro rfl ?_) | refine And.intro rfl ?_ | refine And.intro ⟨rfl, rfl⟩ ?_ | ((refine And.intro (fun _ => ?_) (fun _ => ?_)) <;> try (exfalso; omega))))
    refine Exists.intro (i + 1) (Exists.intro [0, 3] (And.intro ⟨by omega, (by show 2 * n - (i + 1) < 2 * n - i; omega)⟩ ⟨⟨rfl, rfl, rfl, rfl, trivial⟩, ⟨rfl, rfl, trivial⟩, rfl⟩))
end Go.Proofs.Ytpangmameocfmaa.VE.P
