/- Contracts of functions of the given program, for all arguments that the contract names; see each theorem. -/
import Derived.Test.YtpangmameocfmaaTC
set_option linter.all false
namespace Go.Proofs.Ytpangmameocfmaa.VE.P
open Go
set_option maxHeartbeats 400000
set_option maxRecDepth 100000

theorem tm2 (n : Nat) : Int.tmod (n : Int) 2 = ((n % 2 : Nat) : Int) := tmN n 2
theorem td2 (n : Nat) : Int.tdiv (n : Int) 2 = ((n / 2 : Nat) : Int) := tdN n 2

/-- The bytes of a text, each less '0'. -/
def tb (bs : ByteArray) (i : Nat) : Nat := ((bs[i]?.map UInt8.toNat).getD 0)
def pa (bs : ByteArray) (i : Nat) : List Nat := (List.range 8).map fun j => if j < i then (tb bs j + 208) % 256 else 0

theorem pa_len {bs : ByteArray} {i : Nat} : (pa bs i).length = 8 := by simp [pa]
theorem pa_b {bs : ByteArray} {i : Nat} : ∀ x ∈ pa bs i, x < 256 := by
  intro x hx
  simp only [pa, List.mem_map] at hx
  obtain ⟨j, _, rfl⟩ := hx
  split <;> omega
theorem pa_set {bs : ByteArray} {i : Nat} (hi : i < 8) : (pa bs i).set i ((tb bs i + 208) % 256) = pa bs (i + 1) := by
  apply List.ext_getElem (by simp [pa])
  intro k h1 h2
  simp only [List.length_set, pa_len] at h1
  rw [List.getElem_set]
  simp only [pa, List.getElem_map, List.getElem_range]
  by_cases hk : i = k
  · subst hk; simp
  · rw [if_neg hk]
    by_cases hlt : k < i
    · rw [if_pos hlt, if_pos (by omega)]
    · rw [if_neg hlt, if_neg (by omega)]
theorem bs_at {bs : ByteArray} {i : Nat} (h : i < bs.size) : bs[i]? = some bs[i] := getElem?_pos bs i h
theorem tb_at {bs : ByteArray} {i : Nat} (h : i < bs.size) : tb bs i = bs[i].toNat := by simp [tb, bs_at h]
theorem sub48 (x : Nat) (hx : x < 256) : IntKind.u8.wrap ((x : Int) - 48) = (((x + 208) % 256 : Nat) : Int) := by
  have : ∀ a : Int, IntKind.u8.wrap a = a % 256 := fun a => by simp [IntKind.wrap, IntKind.signed, IntKind.bits]
  rw [this]; omega

theorem row1 {c : List Value} {p : Int × List Nat} {N : Nat} (h : c.length ≤ N) : c.take (0 * N) ++ pcl p.1 p.2 ++ c.drop (0 * N + N) = rowP [p] := by
  simp [rowP, List.drop_of_length_le h]

/-- A struct and an error's number. -/
abbrev prV (p : Int × List Nat × Int) : V := .tup [pv p.1 p.2.1, vi p.2.2]
def parseG (is : Int → List Nat → Bool) (bs : ByteArray) : Int × List Nat × Int :=
  if bs.size % 2 = 0 ∧ bs.size ≤ 8 then (if is (bs.size / 2 : Nat) (pa bs bs.size) then ((bs.size / 2 : Nat), pa bs bs.size, 0) else (0, List.replicate 8 0, 6)) else (0, List.replicate 8 0, 6)

theorem s_iParse (bs : ByteArray) (hsz : bs.size ≤ 4611686018427387904) : Spec Try.prog n_i_ParsePartition [.raw (.string bs)] [] (prV (parseG isPi bs)) [] := by
  refine SpecW.of_EV hf_i_ParsePartition hc_i_ParsePartition rfl rfl rfl fun w0 B ρ0 _ => ?_
  by_cases h2 : bs.size % 2 = 0
  rotate_left
  · have e1 : Int.tmod (bs.size : Int) 2 = 1 := by rw [tm2]; omega
    have hr : parseG isPi bs = (0, List.replicate 8 0, 6) := by simp [parseG, h2]
    (repeat' (first | refine Exists.intro 1 (And.intro e1 ?_) | refine Exists.intro (pcl 0 (List.replicate 8 0)) (And.intro ⟨leR rfl, rfl⟩ ?_) | refine Exists.intro (pcl 0 (List.replicate 8 0)) (And.intro ⟨rfl, rfl⟩ ?_) | refine And.intro (neI rfl) ?_ | refine And.intro ⟨rfl, leR rfl, onesR rfl⟩ ?_ | refine And.intro ⟨rfl, leR rfl⟩ ?_ | refine draw_rule2 hfol (fun KK hKK => ?_) | refine hKK _ _ _ (by kernel_rfl) ?_ | refine region_rule (fun KK hKK => ?_) | refine hKK _ _ ?_ | refine And.intro (Eq.refl true) ?_ | refine Exists.intro _ (And.intro (wI (by omega)) ?_) | refine Exists.intro _ (And.intro (wU (by omega)) ?_) | refine Exists.intro _ (And.intro ⟨rfl, by omega⟩ ?_) | refine Exists.intro _ (And.intro rfl ?_) | refine And.intro rfl ?_ | refine And.intro ⟨rfl, rfl⟩ ?_ | ((refine And.intro (fun _ => ?_) (fun _ => ?_)) <;> try (exfalso; omega))))
    exact Exists.intro [] (And.intro (by rw [hr]; rfl) (And.intro trivial rfl))
  have e1 : Int.tmod (bs.size : Int) 2 = 0 := by rw [tm2, h2]; rfl
  by_cases h8 : bs.size ≤ 8
  rotate_left
  · have hr : parseG isPi bs = (0, List.replicate 8 0, 6) := by simp [parseG, h8]
    (repeat' (first | refine Exists.intro 0 (And.intro e1 ?_) | refine Exists.intro (pcl 0 (List.replicate 8 0)) (And.intro ⟨leR rfl, rfl⟩ ?_) | refine Exists.intro (pcl 0 (List.replicate 8 0)) (And.intro ⟨rfl, rfl⟩ ?_) | refine And.intro (neI rfl) ?_ | refine And.intro ⟨rfl, leR rfl, onesR rfl⟩ ?_ | refine And.intro ⟨rfl, leR rfl⟩ ?_ | refine draw_rule2 hfol (fun KK hKK => ?_) | refine hKK _ _ _ (by kernel_rfl) ?_ | refine region_rule (fun KK hKK => ?_) | refine hKK _ _ ?_ | refine And.intro (Eq.refl true) ?_ | refine Exists.intro _ (And.intro (wI (by omega)) ?_) | refine Exists.intro _ (And.intro (wU (by omega)) ?_) | refine Exists.intro _ (And.intro ⟨rfl, by omega⟩ ?_) | refine Exists.intro _ (And.intro rfl ?_) | refine And.intro rfl ?_ | refine And.intro ⟨rfl, rfl⟩ ?_ | ((refine And.intro (fun _ => ?_) (fun _ => ?_)) <;> try (exfalso; omega))))
    exact Exists.intro [] (And.intro (by rw [hr]; rfl) (And.intro trivial rfl))
  have e2 : IntKind.i64.wrap (Int.tdiv (bs.size : Int) 2) = (bs.size / 2 : Nat) := by rw [td2]; exact wI (by omega)
  (repeat' (first | refine Exists.intro 0 (And.intro e1 ?_) | refine Exists.intro _ (And.intro e2 ?_) | refine Exists.intro (pcl (bs.size / 2 : Nat) (pa bs 0)) (And.intro ⟨leR rfl, rfl⟩ ?_) | refine And.intro (neI rfl) ?_ | refine And.intro ⟨rfl, leR rfl, onesR rfl⟩ ?_ | refine And.intro ⟨rfl, leR rfl⟩ ?_ | refine draw_rule2 hfol (fun KK hKK => ?_) | refine hKK _ _ _ (by kernel_rfl) ?_ | refine region_rule (fun KK hKK => ?_) | refine hKK _ _ ?_ | refine And.intro (Eq.refl true) ?_ | refine Exists.intro _ (And.intro (wI (by omega)) ?_) | refine Exists.intro _ (And.intro (wU (by omega)) ?_) | refine Exists.intro _ (And.intro ⟨rfl, by omega⟩ ?_) | refine Exists.intro _ (And.intro rfl ?_) | refine And.intro rfl ?_ | refine And.intro ⟨rfl, rfl⟩ ?_ | ((refine And.intro (fun _ => ?_) (fun _ => ?_)) <;> try (exfalso; omega))))
  refine loop_rule (α := Nat) (fun i => i ≤ bs.size)
      (fun i => [(0, .raw (.string bs)), (2, .ptr 0 0), (4, .ptr 1 0), (21, vi bs.size), (22, vi i)]) (fun i => [.pc (pcl 0 (List.replicate 8 0)) T_i_Partition, .pc (pcl (bs.size / 2 : Nat) (pa bs i)) T_i_Partition]) (fun i => bs.size - i) 0 [0, 1]
      (by omega) ⟨⟨rfl, rfl, rfl, rfl, rfl, trivial⟩, ⟨rfl, rfl, trivial⟩, rfl⟩ ?_
  rintro i g hi
  by_cases h9 : i = bs.size
  · subst h9
    have hq := s_bad [((bs.size / 2 : Nat), pa bs bs.size)] (fun p hp => by simp at hp; subst hp; exact ⟨pa_len, pa_b⟩) (by simp)
    simp only [List.any_cons, List.any_nil, Bool.or_false] at hq
    have hr : parseG isPi bs = if isPi (bs.size / 2 : Nat) (pa bs bs.size) then (((bs.size / 2 : Nat) : Int), pa bs bs.size, 0) else (0, List.replicate 8 0, 6) := by simp [parseG, h2, h8]
    generalize hv : isPi (bs.size / 2 : Nat) (pa bs bs.size) = q at hq hr
    cases q
    all_goals
      (repeat' (first | refine hq.read [2] rfl ⟨rfl, trivial⟩ ?_ | refine Exists.intro (pcl (bs.size / 2 : Nat) (pa bs bs.size)) (And.intro ⟨pcl_len pa_len, pcl_all pa_len⟩ ?_) | refine And.intro ⟨pcl_len pa_len, mkL rfl⟩ ?_ | refine Exists.intro (rowP [((bs.size / 2 : Nat), pa bs bs.size)]) (And.intro (row1 (N := 9) (p := ((bs.size / 2 : Nat), pa bs bs.size)) (mkL' rfl)) ?_) | refine And.intro ⟨pcl_len pa_len, leR rfl, pcl_ones⟩ ?_ | refine Exists.intro (pcl (bs.size / 2 : Nat) (pa bs bs.size)) (And.intro ⟨leR rfl, spl0 (leR rfl)⟩ ?_) | refine Exists.intro (pcl 0 (List.replicate 8 0)) (And.intro ⟨leR rfl, rfl⟩ ?_) | refine Exists.intro (pcl 0 (List.replicate 8 0)) (And.intro ⟨rfl, rfl⟩ ?_) | refine And.intro (neI rfl) ?_ | refine And.intro ⟨rfl, leR rfl, onesR rfl⟩ ?_ | refine And.intro ⟨rfl, leR rfl⟩ ?_ | refine draw_rule2 hfol (fun KK hKK => ?_) | refine hKK _ _ _ (by kernel_rfl) ?_ | refine region_rule (fun KK hKK => ?_) | refine hKK _ _ ?_ | refine And.intro (Eq.refl true) ?_ | refine Exists.intro _ (And.intro (wI (by omega)) ?_) | refine Exists.intro _ (And.intro (wU (by omega)) ?_) | refine Exists.intro _ (And.intro ⟨rfl, by omega⟩ ?_) | refine Exists.intro _ (And.intro rfl ?_) | refine And.intro rfl ?_ | refine And.intro ⟨rfl, rfl⟩ ?_ | ((refine And.intro (fun _ => ?_) (fun _ => ?_)) <;> try (exfalso; omega))))
      exact Exists.intro [] (And.intro (by rw [hr]; rfl) (And.intro trivial rfl))
  have hlt : i < bs.size := by omega
  have hb := (bs[i]).toNat_lt
  have ht := tb_at hlt
  have hw : IntKind.u8.wrap ((bs[i].toNat : Int) - 48) = (((tb bs i + 208) % 256 : Nat) : Int) := by rw [ht]; exact sub48 _ (by omega)
  (repeat' (first | refine Exists.intro i (Exists.intro bs[i] (And.intro ⟨rfl, bs_at hlt⟩ ?_)) | refine Exists.intro _ (And.intro hw ?_) | refine Exists.intro (pcl (bs.size / 2 : Nat) (pa bs (i + 1))) (And.intro ⟨by rw [pcl_len pa_len]; omega, by rw [← pa_set (by omega)]; exact pcl_set⟩ ?_) | refine And.intro (neI rfl) ?_ | refine And.intro ⟨rfl, leR rfl, onesR rfl⟩ ?_ | refine And.intro ⟨rfl, leR rfl⟩ ?_ | refine draw_rule2 hfol (fun KK hKK => ?_) | refine hKK _ _ _ (by kernel_rfl) ?_ | refine region_rule (fun KK hKK => ?_) | refine hKK _ _ ?_ | refine And.intro (Eq.refl true) ?_ | refine Exists.intro _ (And.intro (wI (by omega)) ?_) | refine Exists.intro _ (And.intro (wU (by omega)) ?_) | refine Exists.intro _ (And.intro ⟨rfl, by omega⟩ ?_) | refine Exists.intro _ (And.intro rfl ?_) | refine And.intro rfl ?_ | refine And.intro ⟨rfl, rfl⟩ ?_ | ((refine And.intro (fun _ => ?_) (fun _ => ?_)) <;> try (exfalso; omega))))
  refine Exists.intro (i + 1) (Exists.intro [0, 1] (And.intro ⟨by omega, (by show bs.size - (i + 1) < bs.size - i; omega)⟩ ⟨⟨rfl, rfl, rfl, rfl, rfl, trivial⟩, ⟨rfl, rfl, trivial⟩, rfl⟩))

end Go.Proofs.Ytpangmameocfmaa.VE.P
namespace Go.Proofs.Ytpangmameocfmaa.VE.P
open Go
set_option maxHeartbeats 400000
set_option maxRecDepth 100000

def chB (bs : ByteArray) : Nat → Nat → Bool
  | 0, _ => true
  | d + 1, i => if tb bs i < 48 ∨ 55 < tb bs i then false else chB bs d (i + 1)
def chA (bs : ByteArray) : Bool := chB bs bs.size 0
def parseS (bs : ByteArray) : Int × List Nat × Int :=
  if bs.size % 2 = 0 ∧ bs.size ≤ 8 then (if (chA bs && isP (bs.size / 2 : Nat) (pa bs bs.size)) = true then ((bs.size / 2 : Nat), pa bs bs.size, 0) else (0, List.replicate 8 0, 6)) else (0, List.replicate 8 0, 6)

theorem s_sParse (bs : ByteArray) (hsz : bs.size ≤ 4611686018427387904) : Spec Try.prog n_s_ParsePartition [.raw (.string bs)] [] (prV (parseS bs)) [] := by
  refine SpecW.of_EV hf_s_ParsePartition hc_s_ParsePartition rfl rfl rfl fun w0 B ρ0 _ => ?_
  by_cases h2 : bs.size % 2 = 0
  rotate_left
  · have e1 : Int.tmod (bs.size : Int) 2 = 1 := by rw [tm2]; omega
    have hr : parseS bs = (0, List.replicate 8 0, 6) := by simp [parseS, h2]
    (repeat' (first | refine Exists.intro 1 (And.intro e1 ?_) | refine Exists.intro (pcl 0 (List.replicate 8 0)) (And.intro ⟨leR rfl, rfl⟩ ?_) | refine Exists.intro (pcl 0 (List.replicate 8 0)) (And.intro ⟨rfl, rfl⟩ ?_) | refine And.intro (neI rfl) ?_ | refine And.intro ⟨rfl, leR rfl, onesR rfl⟩ ?_ | refine And.intro ⟨rfl, leR rfl⟩ ?_ | refine draw_rule2 hfol (fun KK hKK => ?_) | refine hKK _ _ _ (by kernel_rfl) ?_ | refine region_rule (fun KK hKK => ?_) | refine hKK _ _ ?_ | refine And.intro (Eq.refl true) ?_ | refine Exists.intro _ (And.intro (wI (by omega)) ?_) | refine Exists.intro _ (And.intro (wU (by omega)) ?_) | refine Exists.intro _ (And.intro ⟨rfl, by omega⟩ ?_) | refine Exists.intro _ (And.intro rfl ?_) | refine And.intro rfl ?_ | refine And.intro ⟨rfl, rfl⟩ ?_ | ((refine And.intro (fun _ => ?_) (fun _ => ?_)) <;> try (exfalso; omega))))
    exact Exists.intro [] (And.intro (by rw [hr]; rfl) (And.intro trivial rfl))
  have e1 : Int.tmod (bs.size : Int) 2 = 0 := by rw [tm2, h2]; rfl
  by_cases h8 : bs.size ≤ 8
  rotate_left
  · have hr : parseS bs = (0, List.replicate 8 0, 6) := by simp [parseS, h8]
    (repeat' (first | refine Exists.intro 0 (And.intro e1 ?_) | refine Exists.intro (pcl 0 (List.replicate 8 0)) (And.intro ⟨leR rfl, rfl⟩ ?_) | refine Exists.intro (pcl 0 (List.replicate 8 0)) (And.intro ⟨rfl, rfl⟩ ?_) | refine And.intro (neI rfl) ?_ | refine And.intro ⟨rfl, leR rfl, onesR rfl⟩ ?_ | refine And.intro ⟨rfl, leR rfl⟩ ?_ | refine draw_rule2 hfol (fun KK hKK => ?_) | refine hKK _ _ _ (by kernel_rfl) ?_ | refine region_rule (fun KK hKK => ?_) | refine hKK _ _ ?_ | refine And.intro (Eq.refl true) ?_ | refine Exists.intro _ (And.intro (wI (by omega)) ?_) | refine Exists.intro _ (And.intro (wU (by omega)) ?_) | refine Exists.intro _ (And.intro ⟨rfl, by omega⟩ ?_) | refine Exists.intro _ (And.intro rfl ?_) | refine And.intro rfl ?_ | refine And.intro ⟨rfl, rfl⟩ ?_ | ((refine And.intro (fun _ => ?_) (fun _ => ?_)) <;> try (exfalso; omega))))
    exact Exists.intro [] (And.intro (by rw [hr]; rfl) (And.intro trivial rfl))
  have e2 : IntKind.i64.wrap (Int.tdiv (bs.size : Int) 2) = (bs.size / 2 : Nat) := by rw [td2]; exact wI (by omega)
  (repeat' (first | refine Exists.intro 0 (And.intro e1 ?_) | refine Exists.intro _ (And.intro e2 ?_) | refine Exists.intro (pcl (bs.size / 2 : Nat) (pa bs 0)) (And.intro ⟨leR rfl, rfl⟩ ?_) | refine And.intro (neI rfl) ?_ | refine And.intro ⟨rfl, leR rfl, onesR rfl⟩ ?_ | refine And.intro ⟨rfl, leR rfl⟩ ?_ | refine draw_rule2 hfol (fun KK hKK => ?_) | refine hKK _ _ _ (by kernel_rfl) ?_ | refine region_rule (fun KK hKK => ?_) | refine hKK _ _ ?_ | refine And.intro (Eq.refl true) ?_ | refine Exists.intro _ (And.intro (wI (by omega)) ?_) | refine Exists.intro _ (And.intro (wU (by omega)) ?_) | refine Exists.intro _ (And.intro ⟨rfl, by omega⟩ ?_) | refine Exists.intro _ (And.intro rfl ?_) | refine And.intro rfl ?_ | refine And.intro ⟨rfl, rfl⟩ ?_ | ((refine And.intro (fun _ => ?_) (fun _ => ?_)) <;> try (exfalso; omega))))
  refine loop_rule (α := Nat) (fun i => i ≤ bs.size ∧ chB bs (bs.size - i) i = chA bs)
      (fun i => [(0, .raw (.string bs)), (2, .ptr 0 0), (4, .ptr 1 0), (5, vi i)]) (fun i => [.pc (pcl 0 (List.replicate 8 0)) T_i_Partition, .pc (pcl (bs.size / 2 : Nat) (pa bs i)) T_i_Partition]) (fun i => bs.size - i) 0 [0, 1]
      ⟨by omega, rfl⟩ ⟨⟨rfl, rfl, rfl, rfl, trivial⟩, ⟨rfl, rfl, trivial⟩, rfl⟩ ?_
  rintro i g ⟨hi, hR⟩
  by_cases h9 : i = bs.size
  · subst h9
    have hq := s_is (bs.size / 2 : Nat) (pa bs bs.size) pa_len pa_b
    rw [Nat.sub_self] at hR
    have hch : chA bs = true := hR.symm
    have hr : parseS bs = if isP (bs.size / 2 : Nat) (pa bs bs.size) then (((bs.size / 2 : Nat) : Int), pa bs bs.size, 0) else (0, List.replicate 8 0, 6) := by simp [parseS, h2, h8, hch]
    generalize hv : isP (bs.size / 2 : Nat) (pa bs bs.size) = q at hq hr
    cases q
    all_goals
      (repeat' (first | refine hq.pure rfl ?_ | refine Exists.intro (pcl (bs.size / 2 : Nat) (pa bs bs.size)) (And.intro ⟨pcl_len pa_len, pcl_all pa_len⟩ ?_) | refine And.intro ⟨pcl_len pa_len, leR rfl, pcl_ones⟩ ?_ | refine Exists.intro (pcl (bs.size / 2 : Nat) (pa bs bs.size)) (And.intro ⟨leR rfl, spl0 (leR rfl)⟩ ?_) | refine Exists.intro (pcl 0 (List.replicate 8 0)) (And.intro ⟨leR rfl, rfl⟩ ?_) | refine Exists.intro (pcl 0 (List.replicate 8 0)) (And.intro ⟨rfl, rfl⟩ ?_) | refine And.intro (neI rfl) ?_ | refine And.intro ⟨rfl, leR rfl, onesR rfl⟩ ?_ | refine And.intro ⟨rfl, leR rfl⟩ ?_ | refine draw_rule2 hfol (fun KK hKK => ?_) | refine hKK _ _ _ (by kernel_rfl) ?_ | refine region_rule (fun KK hKK => ?_) | refine hKK _ _ ?_ | refine And.intro (Eq.refl true) ?_ | refine Exists.intro _ (And.intro (wI (by omega)) ?_) | refine Exists.intro _ (And.intro (wU (by omega)) ?_) | refine Exists.intro _ (And.intro ⟨rfl, by omega⟩ ?_) | refine Exists.intro _ (And.intro rfl ?_) | refine And.intro rfl ?_ | refine And.intro ⟨rfl, rfl⟩ ?_ | ((refine And.intro (fun _ => ?_) (fun _ => ?_)) <;> try (exfalso; omega))))
      exact Exists.intro [] (And.intro (by rw [hr]; rfl) (And.intro trivial rfl))
  have hlt : i < bs.size := by omega
  obtain ⟨d, hd⟩ : ∃ d, bs.size - i = d + 1 := ⟨bs.size - i - 1, by omega⟩
  have hd' : bs.size - (i + 1) = d := by omega
  rw [hd] at hR
  unfold chB at hR
  have hb := (bs[i]).toNat_lt
  have ht := tb_at hlt
  have hw : IntKind.u8.wrap ((bs[i].toNat : Int) - 48) = (((tb bs i + 208) % 256 : Nat) : Int) := by rw [ht]; exact sub48 _ (by omega)
  by_cases hch : tb bs i < 48 ∨ 55 < tb bs i
  · rw [if_pos hch] at hR
    have hr : parseS bs = (0, List.replicate 8 0, 6) := by simp [parseS, h2, h8, ← hR]
    rw [ht] at hch
    (repeat' (first | refine Exists.intro i (Exists.intro bs[i] (And.intro ⟨rfl, bs_at hlt⟩ ?_)) | refine Exists.intro (pcl 0 (List.replicate 8 0)) (And.intro ⟨leR rfl, rfl⟩ ?_) | refine Exists.intro (pcl 0 (List.replicate 8 0)) (And.intro ⟨rfl, rfl⟩ ?_) | refine And.intro (neI rfl) ?_ | refine And.intro ⟨rfl, leR rfl, onesR rfl⟩ ?_ | refine And.intro ⟨rfl, leR rfl⟩ ?_ | refine draw_rule2 hfol (fun KK hKK => ?_) | refine hKK _ _ _ (by kernel_rfl) ?_ | refine region_rule (fun KK hKK => ?_) | refine hKK _ _ ?_ | refine And.intro (Eq.refl true) ?_ | refine Exists.intro _ (And.intro (wI (by omega)) ?_) | refine Exists.intro _ (And.intro (wU (by omega)) ?_) | refine Exists.intro _ (And.intro ⟨rfl, by omega⟩ ?_) | refine Exists.intro _ (And.intro rfl ?_) | refine And.intro rfl ?_ | refine And.intro ⟨rfl, rfl⟩ ?_ | ((refine And.intro (fun _ => ?_) (fun _ => ?_)) <;> try (exfalso; omega))))
    all_goals exact Exists.intro [] (And.intro (by rw [hr]; rfl) (And.intro trivial rfl))
  · rw [if_neg hch] at hR
    rw [ht] at hch
    (repeat' (first | refine Exists.intro i (Exists.intro bs[i] (And.intro ⟨rfl, bs_at hlt⟩ ?_)) | refine Exists.intro _ (And.intro hw ?_) | refine Exists.intro (pcl (bs.size / 2 : Nat) (pa bs (i + 1))) (And.intro ⟨by rw [pcl_len pa_len]; omega, by rw [← pa_set (by omega)]; exact pcl_set⟩ ?_) | refine And.intro (neI rfl) ?_ | refine And.intro ⟨rfl, leR rfl, onesR rfl⟩ ?_ | refine And.intro ⟨rfl, leR rfl⟩ ?_ | refine draw_rule2 hfol (fun KK hKK => ?_) | refine hKK _ _ _ (by kernel_rfl) ?_ | refine region_rule (fun KK hKK => ?_) | refine hKK _ _ ?_ | refine And.intro (Eq.refl true) ?_ | refine Exists.intro _ (And.intro (wI (by omega)) ?_) | refine Exists.intro _ (And.intro (wU (by omega)) ?_) | refine Exists.intro _ (And.intro ⟨rfl, by omega⟩ ?_) | refine Exists.intro _ (And.intro rfl ?_) | refine And.intro rfl ?_ | refine And.intro ⟨rfl, rfl⟩ ?_ | ((refine And.intro (fun _ => ?_) (fun _ => ?_)) <;> try (exfalso; omega))))
    all_goals refine Exists.intro (i + 1) (Exists.intro [0, 1] (And.intro ⟨⟨by omega, by rw [hd']; exact hR⟩, (by show bs.size - (i + 1) < bs.size - i; omega)⟩ ⟨⟨rfl, rfl, rfl, rfl, trivial⟩, ⟨rfl, rfl, trivial⟩, rfl⟩))

end Go.Proofs.Ytpangmameocfmaa.VE.P
namespace Go.Proofs.Ytpangmameocfmaa.VE.P
open Go
set_option maxHeartbeats 400000
set_option maxRecDepth 100000

theorem s_lawParse (bs : ByteArray) (heq : bs.size ≤ 1048576 → parseS bs = parseG isPi bs) : Spec Try.prog n_l_FnExactParsePartition [.raw (.string bs)] [] (vb true) [] := by
  refine SpecW.of_EV hf_l_FnExactParsePartition hc_l_FnExactParsePartition rfl rfl rfl fun w0 B ρ0 _ => ?_
  by_cases hsz : bs.size ≤ 1048576
  rotate_left
  · (repeat' (first | refine And.intro (neI rfl) ?_ | refine And.intro ⟨rfl, leR rfl, onesR rfl⟩ ?_ | refine And.intro ⟨rfl, leR rfl⟩ ?_ | refine draw_rule2 hfol (fun KK hKK => ?_) | refine hKK _ _ _ (by kernel_rfl) ?_ | refine region_rule (fun KK hKK => ?_) | refine hKK _ _ ?_ | refine And.intro (Eq.refl true) ?_ | refine Exists.intro _ (And.intro (wI (by omega)) ?_) | refine Exists.intro _ (And.intro (wU (by omega)) ?_) | refine Exists.intro _ (And.intro ⟨rfl, by omega⟩ ?_) | refine Exists.intro _ (And.intro rfl ?_) | refine And.intro rfl ?_ | refine And.intro ⟨rfl, rfl⟩ ?_ | ((refine And.intro (fun _ => ?_) (fun _ => ?_)) <;> try (exfalso; omega))))
    exact finP rfl
  have h1 := s_sParse bs (Nat.le_trans hsz (by decide))
  have h2 := s_iParse bs (Nat.le_trans hsz (by decide))
  rw [heq hsz] at h1
  have hl : (parseG isPi bs).2.1.length = 8 := by
    unfold parseG; split
    · split
      · exact pa_len
      · simp
    · simp
  generalize parseG isPi bs = p at h1 h2 hl
  have he := s_eqP p.1 p.2.1 hl
  (repeat' (first | refine h1.pure rfl ?_ | refine h2.pure rfl ?_ | refine he.pure rfl ?_ | refine And.intro ⟨pcl_len hl, leR rfl, pcl_ones⟩ ?_ | refine Exists.intro (pcl p.1 p.2.1) (And.intro ⟨leR rfl, spl0 (leR rfl)⟩ ?_) | refine Exists.intro (pcl p.1 p.2.1) (And.intro ⟨pcl_len hl, pcl_all hl⟩ ?_) | refine And.intro (neI rfl) ?_ | refine And.intro ⟨rfl, leR rfl, onesR rfl⟩ ?_ | refine And.intro ⟨rfl, leR rfl⟩ ?_ | refine draw_rule2 hfol (fun KK hKK => ?_) | refine hKK _ _ _ (by kernel_rfl) ?_ | refine region_rule (fun KK hKK => ?_) | refine hKK _ _ ?_ | refine And.intro (Eq.refl true) ?_ | refine Exists.intro _ (And.intro (wI (by omega)) ?_) | refine Exists.intro _ (And.intro (wU (by omega)) ?_) | refine Exists.intro _ (And.intro ⟨rfl, by omega⟩ ?_) | refine Exists.intro _ (And.intro rfl ?_) | refine And.intro rfl ?_ | refine And.intro ⟨rfl, rfl⟩ ?_ | ((refine And.intro (fun _ => ?_) (fun _ => ?_)) <;> try (exfalso; omega))))
  exact finP rfl

end Go.Proofs.Ytpangmameocfmaa.VE.P
namespace Go.Proofs.Ytpangmameocfmaa.VE.P
open Go

theorem nmL_keep {g : Nat → Int} {j : Nat} : ∀ (d i : Nat) (ks : List Int) (out : List Nat), j < i → i + d ≤ out.length → (nmL g d i ks out).getD j 0 = out.getD j 0
  | 0, _, _, _, _, _ => rfl
  | d + 1, i, ks, out, h, hl => by
    simp only [nmL]
    split
    · rw [nmL_keep d (i + 1) _ _ (by omega) (by simp; omega), getD_set' (by omega), if_neg (by omega)]
    · rw [nmL_keep d (i + 1) _ _ (by omega) (by simp; omega), getD_set' (by omega), if_neg (by omega)]

/-- 0, 1, .. as ints. -/
def rng : Nat → Nat → List Int
  | _, 0 => []
  | a, n + 1 => (a : Int) :: rng (a + 1) n
theorem rng_snoc : ∀ (n a : Nat), rng a (n + 1) = rng a n ++ [((a + n : Nat) : Int)]
  | 0, a => rfl
  | n + 1, a => by
    rw [rng, rng_snoc n (a + 1), rng, show a + 1 + n = a + (n + 1) from by omega]; rfl
theorem rng_len : ∀ (n a : Nat), (rng a n).length = n
  | 0, _ => rfl
  | n + 1, a => by simp [rng, rng_len n]
theorem nmF_rng {x : Nat} : ∀ (n a j : Nat), a ≤ x → nmF (x : Int) (rng a n) j = if x < a + n then some (j + (x - a)) else none
  | 0, a, j, h => by simp [rng, nmF]; omega
  | n + 1, a, j, h => by
    simp only [rng, nmF]
    by_cases hx : x = a
    · subst hx; simp
    · have : ¬ (x : Int) = (a : Int) := by omega
      rw [if_neg this, nmF_rng n (a + 1) (j + 1) (by omega)]
      by_cases hlt : x < a + (n + 1)
      · rw [if_pos hlt, if_pos (by omega)]; congr 1; omega
      · rw [if_neg hlt, if_neg (by omega)]

/-- Behind the last. -/
theorem isPL_tail {s : Nat} {m out : List Nat} (hm : m.length = 8) (ho : out.length = 8) (nx : Nat) : ∀ (d i : Nat), i + d = 8 → 2 * s ≤ i → (∀ j, j < i → out.getD j 0 = m.getD j 0) → (∀ j, i ≤ j → out.getD j 0 = 0) → isPL s m d i nx = decide (m = out)
  | 0, i, hd, hi, h1, h2 => by
    rw [isPL, decide_eq_true]
    exact eq_of_getD hm ho fun j hj => (h1 j (by omega)).symm
  | d + 1, i, hd, hi, h1, h2 => by
    rw [isPL]
    by_cases h0 : m.getD i 0 = 0
    · rw [if_neg (by rintro ⟨_, h⟩; exact h h0), if_neg (by rintro ⟨h, _⟩; omega), if_neg (by rintro ⟨h, _⟩; omega)]
      refine isPL_tail hm ho nx d (i + 1) (by omega) (by omega) (fun j hj => ?_) (fun j hj => h2 j (by omega))
      by_cases hji : j = i
      · subst hji; rw [h0]; exact h2 j (Nat.le_refl _)
      · exact h1 j (by omega)
    · rw [if_pos ⟨by omega, h0⟩, decide_eq_false]
      intro e
      exact h0 (by rw [e]; exact h2 i (Nat.le_refl _))

theorem isPL_eq {n : Nat} {m : List Nat} (hm : m.length = 8) (hn : n ≤ 4) : ∀ (d i nx : Nat) (out : List Nat), out.length = 8 → i + d = 2 * n → nx ≤ i → (∀ j, j < i → out.getD j 0 = m.getD j 0) → (∀ j, i ≤ j → out.getD j 0 = 0) →
    isPL n m (8 - i) i nx = decide (m = nmL (fun i => ((m.getD i 0 : Nat) : Int)) d i (rng 0 nx) out)
  | 0, i, nx, out, ho, hd, hnx, h1, h2 => by
    rw [nmL]
    exact isPL_tail hm ho nx _ i (by omega) (by omega) h1 h2
  | d + 1, i, nx, out, ho, hd, hnx, h1, h2 => by
    obtain ⟨d', hd'⟩ : ∃ d', 8 - i = d' + 1 := ⟨7 - i, by omega⟩
    have hd2 : 8 - (i + 1) = d' := by omega
    rw [hd', isPL, nmL, if_neg (by rintro ⟨h, _⟩; omega), nmF_rng nx 0 0 (Nat.zero_le _)]
    have hlt : (i : Int) < 2 * (n : Int) := by omega
    rcases Nat.lt_trichotomy (m.getD i 0) nx with h | h | h
    · rw [if_neg (by rintro ⟨_, h⟩; omega), if_neg (by rintro ⟨_, h⟩; omega), if_pos (by omega)]
      simp only [Nat.zero_add, Nat.sub_zero]
      rw [← hd2]
      refine isPL_eq hm hn d (i + 1) nx _ (by simpa using ho) (by omega) (by omega) (fun j hj => ?_) (fun j hj => ?_)
      · rw [getD_set' (by omega)]
        by_cases hij : i = j
        · subst hij; rw [if_pos rfl]
        · rw [if_neg hij]; exact h1 j (by omega)
      · rw [getD_set' (by omega), if_neg (by omega)]; exact h2 j (by omega)
    · rw [if_neg (by rintro ⟨_, h⟩; omega), if_pos ⟨hlt, h⟩, if_neg (by omega)]
      simp only []
      rw [← hd2, h, rng_len, show rng 0 nx ++ [(nx : Int)] = rng 0 (nx + 1) from by rw [rng_snoc, Nat.zero_add]]
      refine isPL_eq hm hn d (i + 1) (nx + 1) _ (by simpa using ho) (by omega) (by omega) (fun j hj => ?_) (fun j hj => ?_)
      · rw [getD_set' (by omega)]
        by_cases hij : i = j
        · subst hij; rw [if_pos rfl, h]
        · rw [if_neg hij]; exact h1 j (by omega)
      · rw [getD_set' (by omega), if_neg (by omega)]; exact h2 j (by omega)
    · rw [if_pos ⟨hlt, h⟩, if_neg (by omega)]
      symm
      rw [decide_eq_false]
      intro e
      have := congrArg (fun l : List Nat => l.getD i 0) e
      simp only [] at this
      rw [nmL_keep d (i + 1) _ _ (by omega) (by simp; omega), getD_set' (by omega), if_pos rfl, rng_len] at this
      omega

theorem isP_eq (s : Int) (m : List Nat) (hm : m.length = 8) : isP s m = isPi s m := by
  unfold isP isPi
  by_cases h : 1 ≤ s ∧ s ≤ 4
  · obtain ⟨n, rfl⟩ : ∃ n : Nat, s = n := ⟨s.toNat, by omega⟩
    rw [decide_eq_true h, Bool.true_and, Bool.true_and, Int.toNat_natCast]
    exact isPL_eq hm (by omega) (2 * n) 0 0 (List.replicate 8 0) (by simp) (by omega) (Nat.le_refl _) (fun j hj => by omega) (fun j _ => by
      rw [List.getD_eq_getElem?_getD, List.getElem?_replicate]; split <;> rfl)
  · rw [decide_eq_false h]; rfl

/-- Names are small. -/
theorem nmL_lt {g : Nat → Int} {j B : Nat} : ∀ (d i : Nat) (ks : List Int) (out : List Nat), ks.length + d ≤ B → (∀ j, out.getD j 0 < B) → out.length = 8 → i + d ≤ 8 → (nmL g d i ks out).getD j 0 < B
  | 0, _, _, out, _, h, _, _ => h j
  | d + 1, i, ks, out, hk, h, hl, hi => by
    simp only [nmL]
    split
    · rename_i x hx
      have := nmF_lt hx
      refine nmL_lt d (i + 1) _ _ (by omega) (fun j => ?_) (by simpa using hl) (by omega)
      rw [getD_set' (by omega)]; split
      · omega
      · exact h j
    · refine nmL_lt d (i + 1) _ _ (by simp; omega) (fun j => ?_) (by simpa using hl) (by omega)
      rw [getD_set' (by omega)]; split
      · omega
      · exact h j
theorem isPi_lt {s : Int} {m : List Nat} (h : isPi s m = true) (j : Nat) : m.getD j 0 < 8 := by
  unfold isPi at h
  simp only [Bool.and_eq_true, decide_eq_true_eq] at h
  obtain ⟨h1, h2⟩ := h
  rw [h2]
  have hs : 2 * s.toNat ≤ 8 := by omega
  exact nmL_lt _ 0 [] _ (by simp; omega) (fun j => by rw [List.getD_eq_getElem?_getD, List.getElem?_replicate]; split <;> simp) (by simp) (by omega)
end Go.Proofs.Ytpangmameocfmaa.VE.P
namespace Go.Proofs.Ytpangmameocfmaa.VE.P
open Go
set_option maxHeartbeats 400000
set_option maxRecDepth 100000

theorem chB_of {bs : ByteArray} (h : ∀ j, j < bs.size → 48 ≤ tb bs j ∧ tb bs j ≤ 55) : ∀ d i, i + d = bs.size → chB bs d i = true
  | 0, _, _ => rfl
  | d + 1, i, hd => by
    have := h i (by omega)
    rw [chB, if_neg (by omega)]
    exact chB_of h d (i + 1) (by omega)
theorem parse_eq (bs : ByteArray) : parseS bs = parseG isPi bs := by
  unfold parseS parseG
  by_cases h : bs.size % 2 = 0 ∧ bs.size ≤ 8
  · rw [if_pos h, if_pos h, isP_eq _ _ pa_len]
    cases hq : isPi (bs.size / 2 : Nat) (pa bs bs.size) with
    | false => simp
    | true =>
      have : chA bs = true := by
        refine chB_of (fun j hj => ?_) bs.size 0 (by omega)
        have := isPi_lt hq j
        have hj8 : j < 8 := by omega
        rw [List.getD_eq_getElem?_getD] at this
        simp only [pa, List.getElem?_map, List.getElem?_range hj8, Option.map_some, Option.getD_some, if_pos hj] at this
        have htb : tb bs j < 256 := by rw [tb_at hj]; exact (bs[j]).toNat_lt
        omega
      rw [this]; rfl
  · rw [if_neg h, if_neg h]

theorem s_rowParse (bs : ByteArray) : Spec Try.prog n_l_FnExactParsePartition [.raw (.string bs)] [] (vb true) [] :=
  s_lawParse bs (fun _ => parse_eq bs)
end Go.Proofs.Ytpangmameocfmaa.VE.P
