/- Contracts of functions of the given program, for all arguments that the contract names; see each theorem. -/
import Derived.Test.YtpangmameocfmaaT5
set_option linter.all false
namespace Go.Proofs.Ytpangmameocfmaa.VE.P
open Go
set_option maxHeartbeats 400000
set_option maxRecDepth 100000

theorem tm2 (n : Nat) : Int.tmod (n : Int) 2 = ((n % 2 : Nat) : Int) := tmN n 2
theorem td2 (n : Nat) : Int.tdiv (n : Int) 2 = ((n / 2 : Nat) : Int) := tdN n 2

/-- The bytes of a text, each less '0'. -/
def tb (bs : ByteArray) (i : Nat) : Nat := ((bs[i]?.map UInt8.toNat).getD 0)
def pa (bs : ByteArray) (i : Nat) : List Nat := (List.range 8).map fun j => if j < i then (tb bs j + 208) % 256 else 0

theorem pa_len {bs : ByteArray} {i : Nat} : (pa bs i).length = 8 := by simp [pa]
theorem pa_b {bs : ByteArray} {i : Nat} : ∀ x ∈ pa bs i, x < 256 := by
  intro x hx
  simp only [pa, List.mem_map] at hx
  obtain ⟨j, _, rfl⟩ := hx
  split <;> omega
theorem pa_set {bs : ByteArray} {i : Nat} (hi : i < 8) : (pa bs i).set i ((tb bs i + 208) % 256) = pa bs (i + 1) := by
  apply List.ext_getElem (by simp [pa])
  intro k h1 h2
  simp only [List.length_set, pa_len] at h1
  rw [List.getElem_set]
  simp only [pa, List.getElem_map, List.getElem_range]
  by_cases hk : i = k
  · subst hk; simp
  · rw [if_neg hk]
    by_cases hlt : k < i
    · rw [if_pos hlt, if_pos (by omega)]
    · rw [if_neg hlt, if_neg (by omega)]
theorem bs_at {bs : ByteArray} {i : Nat} (h : i < bs.size) : bs[i]? = some bs[i] := getElem?_pos bs i h
theorem tb_at {bs : ByteArray} {i : Nat} (h : i < bs.size) : tb bs i = bs[i].toNat := by simp [tb, bs_at h]
theorem sub48 (x : Nat) (hx : x < 256) : IntKind.u8.wrap ((x : Int) - 48) = (((x + 208) % 256 : Nat) : Int) := by
  have : ∀ a : Int, IntKind.u8.wrap a = a % 256 := fun a => by simp [IntKind.wrap, IntKind.signed, IntKind.bits]
  rw [this]; omega

theorem row1 {c : List Value} {p : Int × List Nat} {N : Nat} (h : c.length ≤ N) : c.take (0 * N) ++ pcl p.1 p.2 ++ c.drop (0 * N + N) = rowP [p] := by
  simp [rowP, List.drop_of_length_le h]

/-- A struct and an error's number. -/
abbrev prV (p : Int × List Nat × Int) : V := .tup [pv p.1 p.2.1, vi p.2.2]
def parseG (is : Int → List Nat → Bool) (bs : ByteArray) : Int × List Nat × Int :=
  if bs.size % 2 = 0 ∧ bs.size ≤ 8 then (if is (bs.size / 2 : Nat) (pa bs bs.size) then ((bs.size / 2 : Nat), pa bs bs.size, 0) else (0, List.replicate 8 0, 6)) else (0, List.replicate 8 0, 6)

theorem s_iParse (bs : ByteArray) (hsz : bs.size ≤ 1048576) : Spec Try.prog n_i_ParsePartition [.raw (.string bs)] [] (prV (parseG isPi bs)) [] := by
  refine SpecW.of_EV hf_i_ParsePartition hc_i_ParsePartition rfl rfl rfl fun w0 B ρ0 _ => ?_
  by_cases h2 : bs.size % 2 = 0
  rotate_left
  · have e1 : Int.tmod (bs.size : Int) 2 = 1 := by rw [tm2]; omega
    have hr : parseG isPi bs = (0, List.replicate 8 0, 6) := by simp [parseG, h2]
    (repeat' (first | refine Exists.intro 1 (And.intro e1 ?_) | refine Exists.intro (pcl 0 (List.replicate 8 0)) (And.intro ⟨leR rfl, rfl⟩ ?_) | refine Exists.intro (pcl 0 (List.replicate 8 0)) (And.intro ⟨rfl, rfl⟩ ?_) | refine And.intro (neI rfl) ?_ | refine And.intro ⟨rfl, leR rfl, onesR rfl⟩ ?_ | refine And.intro ⟨rfl, leR rfl⟩ ?_ | refine draw_rule2 hfol (fun KK hKK => ?_) | refine hKK _ _ _ (by kernel_rfl) ?_ | refine region_rule (fun KK hKK => ?_) | refine hKK _ _ ?_ | refine And.intro (Eq.refl true) ?_ | refine Exists.intro _ (And.intro (wI (by omega)) ?_) | refine Exists.intro _ (And.intro (wU (by omega)) ?_) | refine Exists.intro _ (And.intro ⟨rfl, by omega⟩ ?_) | refine Exists.intro _ (And.intro rfl ?_) | refine And.intro rfl ?_ | refine And.intro ⟨rfl, rfl⟩ ?_ | ((refine And.intro (fun _ => ?_) (fun _ => ?_)) <;> try (exfalso; omega))))
    exact Exists.intro [] (And.intro (by rw [hr]; rfl) (And.intro trivial rfl))
  have e1 : Int.tmod (bs.size : Int) 2 = 0 := by rw [tm2, h2]; rfl
  by_cases h8 : bs.size ≤ 8
  rotate_left
  · have hr : parseG isPi bs = (0, List.replicate 8 0, 6) := by simp [parseG, h8]
    (repeat' (first | refine Exists.intro 0 (And.intro e1 ?_) | refine Exists.intro (pcl 0 (List.replicate 8 0)) (And.intro ⟨leR rfl, rfl⟩ ?_) | refine Exists.intro (pcl 0 (List.replicate 8 0)) (And.intro ⟨rfl, rfl⟩ ?_) | refine And.intro (neI rfl) ?_ | refine And.intro ⟨rfl, leR rfl, onesR rfl⟩ ?_ | refine And.intro ⟨rfl, leR rfl⟩ ?_ | refine draw_rule2 hfol (fun KK hKK => ?_) | refine hKK _ _ _ (by kernel_rfl) ?_ | refine region_rule (fun KK hKK => ?_) | refine hKK _ _ ?_ | refine And.intro (Eq.refl true) ?_ | refine Exists.intro _ (And.intro (wI (by omega)) ?_) | refine Exists.intro _ (And.intro (wU (by omega)) ?_) | refine Exists.intro _ (And.intro ⟨rfl, by omega⟩ ?_) | refine Exists.intro _ (And.intro rfl ?_) | refine And.intro rfl ?_ | refine And.intro ⟨rfl, rfl⟩ ?_ | ((refine And.intro (fun _ => ?_) (fun _ => ?_)) <;> try (exfalso; omega))))
    exact Exists.intro [] (And.intro (by rw [hr]; rfl) (And.intro trivial rfl))
  have e2 : IntKind.i64.wrap (Int.tdiv (bs.size : Int) 2) = (bs.size / 2 : Nat) := by rw [td2]; exact wI (by omega)
  (repeat' (first | refine Exists.intro 0 (And.intro e1 ?_) | refine Exists.intro _ (And.intro e2 ?_) | refine Exists.intro (pcl (bs.size / 2 : Nat) (pa bs 0)) (And.intro ⟨leR rfl, rfl⟩ ?_) | refine And.intro (neI rfl) ?_ | refine And.intro ⟨rfl, leR rfl, onesR rfl⟩ ?_ | refine And.intro ⟨rfl, leR rfl⟩ ?_ | refine draw_rule2 hfol (fun KK hKK => ?_) | refine hKK _ _ _ (by kernel_rfl) ?_ | refine region_rule (fun KK hKK => ?_) | refine hKK _ _ ?_ | refine And.intro (Eq.refl true) ?_ | refine Exists.intro _ (And.intro (wI (by omega)) ?_) | refine Exists.intro _ (And.intro (wU (by omega)) ?_) | refine Exists.intro _ (And.intro ⟨rfl, by omega⟩ ?_) | refine Exists.intro _ (And.intro rfl ?_) | refine And.intro rfl ?_ | refine And.intro ⟨rfl, rfl⟩ ?_ | ((refine And.intro (fun _ => ?_) (fun _ => ?_)) <;> try (exfalso; omega))))
  refine loop_rule (α := Nat) (fun i => i ≤ bs.size)
      (fun i => [(0, .raw (.string bs)), (2, .ptr 0 0), (4, .ptr 1 0), (21, vi bs.size), (22, vi i)]) (fun i => [.pc (pcl 0 (List.replicate 8 0)) T_i_Partition, .pc (pcl (bs.size / 2 : Nat) (pa bs i)) T_i_Partition]) (fun i => bs.size - i) 0 [0, 1]
      (by omega) ⟨⟨rfl, rfl, rfl, rfl, rfl, trivial⟩, ⟨rfl, rfl, trivial⟩, rfl⟩ ?_
  rintro i g hi
  by_cases h9 : i = bs.size
  · subst h9
    have hq := s_bad [((bs.size / 2 : Nat), pa bs bs.size)] (fun p hp => by simp at hp; subst hp; exact ⟨pa_len, pa_b⟩) (by simp)
    simp only [List.any_cons, List.any_nil, Bool.or_false] at hq
    have hr : parseG isPi bs = if isPi (bs.size / 2 : Nat) (pa bs bs.size) then (((bs.size / 2 : Nat) : Int), pa bs bs.size, 0) else (0, List.replicate 8 0, 6) := by simp [parseG, h2, h8]
    generalize hv : isPi (bs.size / 2 : Nat) (pa bs bs.size) = q at hq hr
    cases q
    all_goals
      (repeat' (first | refine hq.read [2] rfl ⟨rfl, trivial⟩ ?_ | refine Exists.intro (pcl (bs.size / 2 : Nat) (pa bs bs.size)) (And.intro ⟨pcl_len pa_len, pcl_all pa_len⟩ ?_) | refine And.intro ⟨pcl_len pa_len, mkL rfl⟩ ?_ | refine Exists.intro (rowP [((bs.size / 2 : Nat), pa bs bs.size)]) (And.intro (row1 (N := 9) (p := ((bs.size / 2 : Nat), pa bs bs.size)) (mkL' rfl)) ?_) | refine And.intro ⟨pcl_len pa_len, leR rfl, pcl_ones⟩ ?_ | refine Exists.intro (pcl (bs.size / 2 : Nat) (pa bs bs.size)) (And.intro ⟨leR rfl, spl0 (leR rfl)⟩ ?_) | refine Exists.intro (pcl 0 (List.replicate 8 0)) (And.intro ⟨leR rfl, rfl⟩ ?_) | refine Exists.intro (pcl 0 (List.replicate 8 0)) (And.intro ⟨rfl, rfl⟩ ?_) | refine And.intro (neI rfl) ?_ | refine And.intro ⟨rfl, leR rfl, onesR rfl⟩ ?_ | refine And.intro ⟨rfl, leR rfl⟩ ?_ | refine draw_rule2 hfol (fun KK hKK => ?_) | refine hKK _ _ _ (by kernel_rfl) ?_ | refine region_rule (fun KK hKK => ?_) | refine hKK _ _ ?_ | refine And.intro (Eq.refl true) ?_ | refine Exists.intro _ (And.intro (wI (by omega)) ?_) | refine Exists.intro _ (And.intro (wU (by omega)) ?_) | refine Exists.intro _ (And.intro ⟨rfl, by omega⟩ ?_) | refine Exists.intro _ (And.intro rfl ?_) | refine And.intro rfl ?_ | refine And.intro ⟨rfl, rfl⟩ ?_ | ((refine And.intro (fun _ => ?_) (fun _ => ?_)) <;> try (exfalso; omega))))
      exact Exists.intro [] (And.intro (by rw [hr]; rfl) (And.intro trivial rfl))
  have hlt : i < bs.size := by omega
  have hb := (bs[i]).toNat_lt
  have ht := tb_at hlt
  have hw : IntKind.u8.wrap ((bs[i].toNat : Int) - 48) = (((tb bs i + 208) % 256 : Nat) : Int) := by rw [ht]; exact sub48 _ (by omega)
  (repeat' (first | refine Exists.intro i (Exists.intro bs[i] (And.intro ⟨rfl, bs_at hlt⟩ ?_)) | refine Exists.intro _ (And.intro hw ?_) | refine Exists.intro (pcl (bs.size / 2 : Nat) (pa bs (i + 1))) (And.intro ⟨by rw [pcl_len pa_len]; omega, by rw [← pa_set (by omega)]; exact pcl_set⟩ ?_) | refine And.intro (neI rfl) ?_ | refine And.intro ⟨rfl, leR rfl, onesR rfl⟩ ?_ | refine And.intro ⟨rfl, leR rfl⟩ ?_ | refine draw_rule2 hfol (fun KK hKK => ?_) | refine hKK _ _ _ (by kernel_rfl) ?_ | refine region_rule (fun KK hKK => ?_) | refine hKK _ _ ?_ | refine And.intro (Eq.refl true) ?_ | refine Exists.intro _ (And.intro (wI (by omega)) ?_) | refine Exists.intro _ (And.intro (wU (by omega)) ?_) | refine Exists.intro _ (And.intro ⟨rfl, by omega⟩ ?_) | refine Exists.intro _ (And.intro rfl ?_) | refine And.intro rfl ?_ | refine And.intro ⟨rfl, rfl⟩ ?_ | ((refine And.intro (fun _ => ?_) (fun _ => ?_)) <;> try (exfalso; omega))))
  refine Exists.intro (i + 1) (Exists.intro [0, 1] (And.intro ⟨by omega, (by show bs.size - (i + 1) < bs.size - i; omega)⟩ ⟨⟨rfl, rfl, rfl, rfl, rfl, trivial⟩, ⟨rfl, rfl, trivial⟩, rfl⟩))

end Go.Proofs.Ytpangmameocfmaa.VE.P
