/- Contracts of functions of the given program, for all arguments that the contract names; see each theorem. -/
import Derived.Test.YtpangmameocfmaaT41
set_option linter.all false
namespace Go.Proofs.Ytpangmameocfmaa.VE.P
open Go
set_option maxHeartbeats 1600000
set_option maxRecDepth 100000

abbrev T_fP : TypeId := 90
abbrev T_fM : TypeId := 121
/-- Counts of the seven kinds. -/
def c7 (c : Nat → Nat) : List Value := il (fun j => ((c j : Nat) : Int)) 7
noncomputable def cnt1 (n : Nat) (m : List Nat) (c : Nat → Nat) (x j : Nat) : Nat := if j < x ∧ KD n m j = true then c j + 1 else c j
theorem cnt1_0 {n : Nat} {m : List Nat} {c : Nat → Nat} : c7 (cnt1 n m c 0) = c7 c := il_congr fun j hj => by simp [cnt1]
theorem cnt1_7 {n : Nat} {m : List Nat} {c : Nat → Nat} : c7 (cnt1 n m c 7) = c7 fun j => c j + cnK n [m] j := il_congr fun j hj => by
  show ((cnt1 n m c 7 j : Nat) : Int) = ((c j + cnK n [m] j : Nat) : Int)
  rw [cnK_one]; simp only [cnt1]
  by_cases h : KD n m j = true
  · rw [if_pos ⟨hj, h⟩, if_pos h]
  · rw [if_neg (fun e => h e.2), if_neg h]; rfl
theorem cnt1_t {n : Nat} {m : List Nat} {c : Nat → Nat} {x : Nat} (h : KD n m x = true) : (c7 (cnt1 n m c x)).set x (.int .i64 ((cnt1 n m c x x + 1 : Nat) : Int)) = c7 (cnt1 n m c (x + 1)) := by
  refine il_set fun j hj => ?_
  simp only [cnt1]
  by_cases hjx : j = x
  · subst hjx
    rw [if_pos rfl, if_pos ⟨by omega, h⟩, if_neg (by omega)]
  · rw [if_neg hjx]
    by_cases h2 : j < x ∧ KD n m j = true
    · rw [if_pos h2, if_pos ⟨by omega, h2.2⟩]
    · rw [if_neg h2, if_neg (fun e => h2 ⟨by omega, e.2⟩)]
theorem cnt1_f {n : Nat} {m : List Nat} {c : Nat → Nat} {x : Nat} (h : KD n m x = false) : c7 (cnt1 n m c x) = c7 (cnt1 n m c (x + 1)) := by
  refine il_congr fun j hj => ?_
  simp only [cnt1]
  by_cases h2 : j < x ∧ KD n m j = true
  · rw [if_pos h2, if_pos ⟨by omega, h2.2⟩]
  · rw [if_neg h2, if_neg]
    rintro ⟨h3, h4⟩
    by_cases hjx : j = x
    · subst hjx; rw [h] at h4; cases h4
    · exact h2 ⟨by omega, h4⟩
theorem cnt1_le {n : Nat} {m : List Nat} {c : Nat → Nat} {x j : Nat} : cnt1 n m c x j ≤ c j + 1 := by unfold cnt1; split <;> omega

theorem s_ck1 (n : Nat) (m : List Nat) (hm : m.length = 8) (hv : isPi n m = true) (hn1 : 1 ≤ n) (hn : n ≤ 4) (c : Nat → Nat) (hc : ∀ j, c j ≤ 1000000000) :
    Spec Try.prog n_i_CountKinds_1 [pv n m, .ptr 0 0] [.cc [.sl 1] T_s_int64, .pr T_int64 1 7 (c7 c)] (.tup []) [.cc [.sl 1] T_s_int64, .pr T_int64 1 7 (c7 fun j => c j + cnK n [m] j)] := by
  have hk := s_ikinds n m hm (fun x hx => by have := lt_mem (isPi_lt hv) x hx; omega) hv hn1 hn
  refine SpecW.of_EV hf_i_CountKinds_1 hc_i_CountKinds_1 rfl rfl rfl fun w0 B ρ0 _ => ?_
  (repeat' (first | refine Exists.intro (pcl (n : Int) m) (And.intro ⟨pcl_len hm, pcl_all hm⟩ ?_) | refine And.intro ⟨pcl_len hm, leR rfl, pcl_ones⟩ ?_ | refine Exists.intro (pcl (n : Int) m) (And.intro ⟨leR rfl, spl0 (leR rfl)⟩ ?_) | refine (hk).make [2] rfl ⟨rfl, trivial⟩ ?_ | refine And.intro (neI rfl) ?_ | refine And.intro ⟨rfl, leR rfl, onesR rfl⟩ ?_ | refine And.intro ⟨rfl, leR rfl⟩ ?_ | refine draw_rule2 hfol (fun KK hKK => ?_) | refine hKK _ _ _ (by kernel_rfl) ?_ | refine region_rule (fun KK hKK => ?_) | refine hKK _ _ ?_ | refine And.intro (Eq.refl true) ?_ | refine Exists.intro _ (And.intro (wI (by omega)) ?_) | refine Exists.intro _ (And.intro (wU (by omega)) ?_) | refine Exists.intro _ (And.intro ⟨rfl, by omega⟩ ?_) | refine Exists.intro _ (And.intro rfl ?_) | refine And.intro rfl ?_ | refine And.intro ⟨rfl, rfl⟩ ?_ | ((refine And.intro (fun _ => ?_) (fun _ => ?_)) <;> try (exfalso; omega))))
  refine loop_rule (α := Nat) (fun x => x ≤ 7) (fun x => [(1, .ptr 0 0), (5, .sl 3), (6, vi (7 : Nat)), (7, vi x)])
    (fun x => [.cc [.sl 1] T_s_int64, .pr T_int64 1 7 (c7 (cnt1 n m c x)), .pc (pcl n m) T_i_Partition, .pr T_bool 1 7 (bl (KD n m) 7)]) (fun x => 7 - x) 0 [0, 1, 2, 3]
    (by omega) ⟨⟨rfl, rfl, rfl, rfl, trivial⟩, ⟨rfl, by rw [cnt1_0]; rfl, rfl, rfl, trivial⟩, rfl⟩ ?_
  rintro x g hx
  by_cases h9 : x = 7
  · subst h9
    (repeat' (first | refine And.intro (neI rfl) ?_ | refine And.intro ⟨rfl, leR rfl, onesR rfl⟩ ?_ | refine And.intro ⟨rfl, leR rfl⟩ ?_ | refine draw_rule2 hfol (fun KK hKK => ?_) | refine hKK _ _ _ (by kernel_rfl) ?_ | refine region_rule (fun KK hKK => ?_) | refine hKK _ _ ?_ | refine And.intro (Eq.refl true) ?_ | refine Exists.intro _ (And.intro (wI (by omega)) ?_) | refine Exists.intro _ (And.intro (wU (by omega)) ?_) | refine Exists.intro _ (And.intro ⟨rfl, by omega⟩ ?_) | refine Exists.intro _ (And.intro rfl ?_) | refine And.intro rfl ?_ | refine And.intro ⟨rfl, rfl⟩ ?_ | ((refine And.intro (fun _ => ?_) (fun _ => ?_)) <;> try (exfalso; omega))))
    exact Exists.intro [0, 1] (And.intro rfl (And.intro ⟨rfl, congrArg some (congrArg (O.pr T_int64 1 7) cnt1_7), trivial⟩ rfl))
  have hxl : x < 7 := by omega
  have hat := bl_at (g := KD n m) hxl
  cases hb : KD n m x with
  | false =>
    rw [hb] at hat
    (repeat' (first | refine Exists.intro _ (And.intro hat ?_) | refine And.intro (neI rfl) ?_ | refine And.intro ⟨rfl, leR rfl, onesR rfl⟩ ?_ | refine And.intro ⟨rfl, leR rfl⟩ ?_ | refine draw_rule2 hfol (fun KK hKK => ?_) | refine hKK _ _ _ (by kernel_rfl) ?_ | refine region_rule (fun KK hKK => ?_) | refine hKK _ _ ?_ | refine And.intro (Eq.refl true) ?_ | refine Exists.intro _ (And.intro (wI (by omega)) ?_) | refine Exists.intro _ (And.intro (wU (by omega)) ?_) | refine Exists.intro _ (And.intro ⟨rfl, by omega⟩ ?_) | refine Exists.intro _ (And.intro rfl ?_) | refine And.intro rfl ?_ | refine And.intro ⟨rfl, rfl⟩ ?_ | ((refine And.intro (fun _ => ?_) (fun _ => ?_)) <;> try (exfalso; omega))))
    refine Exists.intro (x + 1) (Exists.intro [0, 1, 2, 3] (And.intro ⟨by omega, (by show 7 - (x + 1) < 7 - x; omega)⟩ ⟨⟨rfl, rfl, rfl, rfl, trivial⟩, ⟨rfl, congrArg some (congrArg (O.pr T_int64 1 7) (cnt1_f hb)), rfl, rfl, trivial⟩, rfl⟩))
  | true =>
    rw [hb] at hat
    have hle := cnt1_le (n := n) (m := m) (c := c) (x := x) (j := x)
    have hcx := hc x
    have hat2 : (c7 (cnt1 n m c x))[x]? = some (.int .i64 ((cnt1 n m c x x : Nat) : Int)) := il_at hxl
    have e1 : IntKind.i64.wrap (((cnt1 n m c x x : Nat) : Int) + 1) = ((cnt1 n m c x x + 1 : Nat) : Int) := wC (by omega) (by omega)
    (repeat' (first | refine Exists.intro _ (And.intro hat ?_) | refine Exists.intro _ (And.intro hat2 ?_) | refine Exists.intro _ (And.intro e1 ?_) | refine Exists.intro (c7 (cnt1 n m c (x + 1))) (And.intro ⟨by rw [c7, il_len]; omega, cnt1_t hb⟩ ?_) | refine And.intro (neI rfl) ?_ | refine And.intro ⟨rfl, leR rfl, onesR rfl⟩ ?_ | refine And.intro ⟨rfl, leR rfl⟩ ?_ | refine draw_rule2 hfol (fun KK hKK => ?_) | refine hKK _ _ _ (by kernel_rfl) ?_ | refine region_rule (fun KK hKK => ?_) | refine hKK _ _ ?_ | refine And.intro (Eq.refl true) ?_ | refine Exists.intro _ (And.intro (wI (by omega)) ?_) | refine Exists.intro _ (And.intro (wU (by omega)) ?_) | refine Exists.intro _ (And.intro ⟨rfl, by omega⟩ ?_) | refine Exists.intro _ (And.intro rfl ?_) | refine And.intro rfl ?_ | refine And.intro ⟨rfl, rfl⟩ ?_ | ((refine And.intro (fun _ => ?_) (fun _ => ?_)) <;> try (exfalso; omega))))
    refine Exists.intro (x + 1) (Exists.intro [0, 1, 2, 3] (And.intro ⟨by omega, (by show 7 - (x + 1) < 7 - x; omega)⟩ ⟨⟨rfl, rfl, rfl, rfl, trivial⟩, ⟨rfl, rfl, rfl, rfl, trivial⟩, rfl⟩))

/-- The objects of the recursion: the size, what is done, the recursion itself, the counts. -/
abbrev moreO (n : Nat) (c : Nat → Nat) : List O := [.pc [.int .i64 n] T_int, .cc [.fn (.func n_i_CountKinds_1) [] [.ptr 3 0]] T_fP, .cc [.fn (.func n_i_allPartitions_1) [] [.ptr 0 0, .ptr 1 0, .ptr 2 0]] T_fM, .cc [.sl 4] T_s_int64, .pr T_int64 1 7 (c7 c)]
theorem s_more (n : Nat) (hn1 : 1 ≤ n) (hn : n ≤ 4) : ∀ d m i nx (c : Nat → Nat), i + d = 2 * n → FillOK n m i nx → nx + d ≤ 8 → (∀ j, c j + 9 ^ d ≤ 1000000000) →
    Spec Try.prog n_i_allPartitions_1 [pv n m, vi i, vu nx, .ptr 0 0, .ptr 1 0, .ptr 2 0] (moreO n c) (.tup []) (moreO n fun j => c j + cnK n (fillL d m i nx) j)
  | 0, m, i, nx, c, hi, hF, hnx, hc => by
    have hi' : i = 2 * n := by omega
    subst hi'
    have w2 : IntKind.i64.wrap (2 * (n : Int)) = ((2 * n : Nat) : Int) := wC (by omega) (by omega)
    have hm := hF.len
    have h1 := s_ck1 n m hm (hF.leaf rfl hn1 hn) hn1 hn c (fun j => by have := hc j; omega)
    refine SpecW.of_EV hf_i_allPartitions_1 hc_i_allPartitions_1 rfl rfl rfl fun w0 B ρ0 _ => ?_
    (repeat' (first | refine Exists.intro (pcl (n : Int) m) (And.intro ⟨pcl_len hm, pcl_all hm⟩ ?_) | refine And.intro ⟨pcl_len hm, leR rfl, pcl_ones⟩ ?_ | refine Exists.intro (pcl (n : Int) m) (And.intro ⟨leR rfl, spl0 (leR rfl)⟩ ?_) | refine Exists.intro _ (And.intro w2 ?_) | refine (h1).make [3,4] rfl ⟨rfl, rfl, trivial⟩ ?_ | refine And.intro (neI rfl) ?_ | refine And.intro ⟨rfl, leR rfl, onesR rfl⟩ ?_ | refine And.intro ⟨rfl, leR rfl⟩ ?_ | refine draw_rule2 hfol (fun KK hKK => ?_) | refine hKK _ _ _ (by kernel_rfl) ?_ | refine region_rule (fun KK hKK => ?_) | refine hKK _ _ ?_ | refine And.intro (Eq.refl true) ?_ | refine Exists.intro _ (And.intro (wI (by omega)) ?_) | refine Exists.intro _ (And.intro (wU (by omega)) ?_) | refine Exists.intro _ (And.intro ⟨rfl, by omega⟩ ?_) | refine Exists.intro _ (And.intro rfl ?_) | refine And.intro rfl ?_ | refine And.intro ⟨rfl, rfl⟩ ?_ | ((refine And.intro (fun _ => ?_) (fun _ => ?_)) <;> try (exfalso; omega))))
    exact Exists.intro [0,1,2,3,4] (And.intro (rfl) (And.intro ⟨rfl, rfl, rfl, rfl, rfl, trivial⟩ rfl))
  | d + 1, m, i, nx, c, hi, hF, hnx, hc => by
    have w2 : IntKind.i64.wrap (2 * (n : Int)) = ((2 * n : Nat) : Int) := wC (by omega) (by omega)
    have hm := hF.len
    have hkl := fillK_len (d := d) (m := m) (i := i) (nx := nx) hnx
    refine SpecW.of_EV hf_i_allPartitions_1 hc_i_allPartitions_1 rfl rfl rfl fun w0 B ρ0 _ => ?_
    (repeat' (first | refine Exists.intro (pcl (n : Int) m) (And.intro ⟨pcl_len hm, pcl_all hm⟩ ?_) | refine And.intro ⟨pcl_len hm, leR rfl, pcl_ones⟩ ?_ | refine Exists.intro (pcl (n : Int) m) (And.intro ⟨leR rfl, spl0 (leR rfl)⟩ ?_) | refine Exists.intro _ (And.intro w2 ?_) | refine And.intro (neI rfl) ?_ | refine And.intro ⟨rfl, leR rfl, onesR rfl⟩ ?_ | refine And.intro ⟨rfl, leR rfl⟩ ?_ | refine draw_rule2 hfol (fun KK hKK => ?_) | refine hKK _ _ _ (by kernel_rfl) ?_ | refine region_rule (fun KK hKK => ?_) | refine hKK _ _ ?_ | refine And.intro (Eq.refl true) ?_ | refine Exists.intro _ (And.intro (wI (by omega)) ?_) | refine Exists.intro _ (And.intro (wU (by omega)) ?_) | refine Exists.intro _ (And.intro ⟨rfl, by omega⟩ ?_) | refine Exists.intro _ (And.intro rfl ?_) | refine And.intro rfl ?_ | refine And.intro ⟨rfl, rfl⟩ ?_ | ((refine And.intro (fun _ => ?_) (fun _ => ?_)) <;> try (exfalso; omega))))
    refine loop_rule (α := Nat × List Nat) (fun (k, m') => k ≤ nx + 1 ∧ m'.length = 8 ∧ ∀ q, m'.set i q = m.set i q)
      (fun (k, m') => [(1, vi i), (2, vu nx), (3, .ptr 0 0), (4, .ptr 1 0), (5, .ptr 2 0), (6, .ptr 5 0), (9, vu k)])
      (fun (k, m') => moreO n (fun j => c j + cnK n (fillK d m i nx k) j) ++ [.pc (pcl n m') T_i_Partition]) (fun (k, _) => nx + 1 - k) (0, m) [0, 1, 2, 3, 4, 5]
      ⟨by omega, hm, fun _ => rfl⟩ ⟨⟨rfl, rfl, rfl, rfl, rfl, rfl, rfl, trivial⟩, ⟨rfl, rfl, rfl, rfl, rfl, rfl, trivial⟩, rfl⟩ ?_
    rintro ⟨k, m'⟩ g ⟨hk, hm', hset⟩
    have hmk : (m'.set i k).length = 8 := by simpa using hm'
    have hagain : ∀ q, (m'.set i k).set i q = m.set i q := fun q => by rw [List.set_set]; exact hset q
    by_cases h9 : k = nx + 1
    · subst h9
      (repeat' (first | refine And.intro (neI rfl) ?_ | refine And.intro ⟨rfl, leR rfl, onesR rfl⟩ ?_ | refine And.intro ⟨rfl, leR rfl⟩ ?_ | refine draw_rule2 hfol (fun KK hKK => ?_) | refine hKK _ _ _ (by kernel_rfl) ?_ | refine region_rule (fun KK hKK => ?_) | refine hKK _ _ ?_ | refine And.intro (Eq.refl true) ?_ | refine Exists.intro _ (And.intro (wI (by omega)) ?_) | refine Exists.intro _ (And.intro (wU (by omega)) ?_) | refine Exists.intro _ (And.intro ⟨rfl, by omega⟩ ?_) | refine Exists.intro _ (And.intro rfl ?_) | refine And.intro rfl ?_ | refine And.intro ⟨rfl, rfl⟩ ?_ | ((refine And.intro (fun _ => ?_) (fun _ => ?_)) <;> try (exfalso; omega))))
      exact Exists.intro [0,1,2,3,4] (And.intro (rfl) (And.intro ⟨rfl, rfl, rfl, rfl, rfl, trivial⟩ rfl))
    have hkn : k ≤ nx := by omega
    have hsuc := fillK_succ (d := d) (m := m) (i := i) (nx := nx) (k := k)
    have hlk := hkl k hk
    have hlk2 : 9 ^ d ≤ (nx + 1 - k) * 9 ^ d := Nat.le_mul_of_pos_left _ (by omega)
    have h3 := s_more n hn1 hn d (m.set i k) (i + 1) (nx1 k nx) (fun j => c j + cnK n (fillK d m i nx k) j) (by omega) (hF.step (by omega) hn hkn) (by unfold nx1; split <;> omega) (fun j => by
      have := hc j
      have := cnK_le (n := n) (l := fillK d m i nx k) (j := j)
      show c j + cnK n (fillK d m i nx k) j + 9 ^ d ≤ _
      omega)
    have hcn : (fun j => c j + cnK n (fillK d m i nx k) j + cnK n (fillL d (m.set i k) (i + 1) (nx1 k nx)) j) = fun j => c j + cnK n (fillK d m i nx (k + 1)) j := by
      funext j; rw [hsuc, cnK_append]; omega
    rw [hcn, ← hset k] at h3
    by_cases hkx : k = nx
    · rw [show nx1 k nx = nx + 1 from if_pos hkx] at h3
      have e9 : (if ((k : Int) + 1) > ((nx : Nat) : Int) then ((k : Int) + 1) else ((nx : Nat) : Int)) = ((nx + 1 : Nat) : Int) := by rw [if_pos (by omega)]; omega
      (repeat' (first | refine Exists.intro (pcl n (m'.set i k)) (And.intro ⟨by rw [pcl_len hm']; omega, pcl_set⟩ ?_) | refine Exists.intro (pcl (n : Int) (m'.set i k)) (And.intro ⟨pcl_len hmk, pcl_all hmk⟩ ?_) | refine And.intro ⟨pcl_len hmk, leR rfl, pcl_ones⟩ ?_ | refine Exists.intro (pcl (n : Int) (m'.set i k)) (And.intro ⟨leR rfl, spl0 (leR rfl)⟩ ?_) | refine Exists.intro _ (And.intro e9 ?_) | refine (h3).make [0,1,2,3,4] rfl ⟨rfl, rfl, rfl, rfl, rfl, trivial⟩ ?_ | refine And.intro (neI rfl) ?_ | refine And.intro ⟨rfl, leR rfl, onesR rfl⟩ ?_ | refine And.intro ⟨rfl, leR rfl⟩ ?_ | refine draw_rule2 hfol (fun KK hKK => ?_) | refine hKK _ _ _ (by kernel_rfl) ?_ | refine region_rule (fun KK hKK => ?_) | refine hKK _ _ ?_ | refine And.intro (Eq.refl true) ?_ | refine Exists.intro _ (And.intro (wI (by omega)) ?_) | refine Exists.intro _ (And.intro (wU (by omega)) ?_) | refine Exists.intro _ (And.intro ⟨rfl, by omega⟩ ?_) | refine Exists.intro _ (And.intro rfl ?_) | refine And.intro rfl ?_ | refine And.intro ⟨rfl, rfl⟩ ?_ | ((refine And.intro (fun _ => ?_) (fun _ => ?_)) <;> try (exfalso; omega))))
      refine Exists.intro (k + 1, m'.set i k) (Exists.intro [0, 1, 2, 3, 4, 5] (And.intro ⟨⟨by omega, hmk, hagain⟩, (by show nx + 1 - (k + 1) < nx + 1 - k; omega)⟩ ⟨⟨rfl, rfl, rfl, rfl, rfl, rfl, rfl, trivial⟩, ⟨rfl, rfl, rfl, rfl, rfl, rfl, trivial⟩, rfl⟩))
    · rw [show nx1 k nx = nx from if_neg hkx] at h3
      have e9 : (if ((k : Int) + 1) > ((nx : Nat) : Int) then ((k : Int) + 1) else ((nx : Nat) : Int)) = ((nx : Nat) : Int) := by rw [if_neg (by omega)]
      (repeat' (first | refine Exists.intro (pcl n (m'.set i k)) (And.intro ⟨by rw [pcl_len hm']; omega, pcl_set⟩ ?_) | refine Exists.intro (pcl (n : Int) (m'.set i k)) (And.intro ⟨pcl_len hmk, pcl_all hmk⟩ ?_) | refine And.intro ⟨pcl_len hmk, leR rfl, pcl_ones⟩ ?_ | refine Exists.intro (pcl (n : Int) (m'.set i k)) (And.intro ⟨leR rfl, spl0 (leR rfl)⟩ ?_) | refine Exists.intro _ (And.intro e9 ?_) | refine (h3).make [0,1,2,3,4] rfl ⟨rfl, rfl, rfl, rfl, rfl, trivial⟩ ?_ | refine And.intro (neI rfl) ?_ | refine And.intro ⟨rfl, leR rfl, onesR rfl⟩ ?_ | refine And.intro ⟨rfl, leR rfl⟩ ?_ | refine draw_rule2 hfol (fun KK hKK => ?_) | refine hKK _ _ _ (by kernel_rfl) ?_ | refine region_rule (fun KK hKK => ?_) | refine hKK _ _ ?_ | refine And.intro (Eq.refl true) ?_ | refine Exists.intro _ (And.intro (wI (by omega)) ?_) | refine Exists.intro _ (And.intro (wU (by omega)) ?_) | refine Exists.intro _ (And.intro ⟨rfl, by omega⟩ ?_) | refine Exists.intro _ (And.intro rfl ?_) | refine And.intro rfl ?_ | refine And.intro ⟨rfl, rfl⟩ ?_ | ((refine And.intro (fun _ => ?_) (fun _ => ?_)) <;> try (exfalso; omega))))
      refine Exists.intro (k + 1, m'.set i k) (Exists.intro [0, 1, 2, 3, 4, 5] (And.intro ⟨⟨by omega, hmk, hagain⟩, (by show nx + 1 - (k + 1) < nx + 1 - k; omega)⟩ ⟨⟨rfl, rfl, rfl, rfl, rfl, rfl, rfl, trivial⟩, ⟨rfl, rfl, rfl, rfl, rfl, rfl, trivial⟩, rfl⟩))
end Go.Proofs.Ytpangmameocfmaa.VE.P
