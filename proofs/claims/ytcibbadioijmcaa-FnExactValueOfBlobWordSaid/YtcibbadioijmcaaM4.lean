/- Contracts of functions of the given program, for all arguments that the contract names; see each theorem. -/
import Derived.Test.YtcibbadioijmcaaM3
set_option linter.all false
namespace Go.Proofs.Ytcibbadioijmcaa.VE
open Go
set_option maxHeartbeats 1600000
set_option maxRecDepth 100000

abbrev FMC : V := .fn (.func n_i_timesBlobbed_1) [] [.ptr 4 0, .ptr 1 0, .ptr 0 0]
abbrev FEC : V := .fn (.func n_i_timesBlobbed_2) [] [.ptr 4 0, .ptr 2 0]
abbrev FLC : V := .fn (.func n_i_timesBlobbed_3) [] [.ptr 3 0, .ptr 4 0]
theorem stkB_m2 {s : List Bool} {T : TypeId} {n : Nat} : O.cc (stkG 0 1 s FMC) T = O.mapIds (sig [5, 0, 1, 4] n) (.cc (stkG 1 2 s FMB) T) := stk_mo (σ := sig [5, 0, 1, 4] n) (i := 1) (j := 2) (s := s) (F := FMB) (T := T)
theorem stkB_m3 {s : List Bool} {T : TypeId} : O.cc (stkG 0 1 s FMC) T = O.mapIds (atL [0, 1, 2, 3, 4, 5]) (.cc (stkG 0 1 s FMC) T) := stk_mo (σ := atL [0, 1, 2, 3, 4, 5]) (i := 0) (j := 1) (s := s) (F := FMC) (T := T)
abbrev prB (n : Nat) (a b : List Nat) (ba bb : List Bool) (out : List Nat) (ob : List Bool) (c : Nat × Nat) (s : List Bool) : List O := [.pc (bcB n a ba) T_i_Blobbed, .pc (bcB n b bb) T_i_Blobbed, .pc (bcB n out ob) T_i_Blobbed, .pc (lc2 c) T_i_bothLoops, bO1 false, .cc (stkG 0 1 s FMC) T_i_stack]
theorem prB_ids {n : Nat} {a b : List Nat} {ba bb : List Bool} {out : List Nat} {ob : List Bool} {c : Nat × Nat} {s : List Bool} : idsO (prB n a b ba bb out ob c s) = [0, 1, 4, 1, 0] := by
  simp only [idsO, O.ids, stk_ids]; rfl
section
variable (n : Nat) (a b : List Nat) (ha : IsV n a) (hb : IsV n b) (ba bb : List Bool) (lba : ba.length = 16) (lbb : bb.length = 16)
def lpNB : Nat × Nat := lpOB n a b ba bb n 0 (oL n a b n).2 (0, 0)
include ha hb lba lbb
theorem s_productB :
    Spec Try.prog n_i_product [.ptr 0 0, .ptr 1 0, FMC, FEC, FLC] [.pc (bcB n a ba) T_i_Blobbed, .pc (bcB n b bb) T_i_Blobbed, .pc (bcB n (List.replicate 16 0) (List.replicate 16 false)) T_i_Blobbed, .pc (lc2 (0, 0)) T_i_bothLoops, bO1 false] (.tup [])
      [.pc (bcB n a ba) T_i_Blobbed, .pc (bcB n b bb) T_i_Blobbed, .pc (bcB n (oL n a b n).1 (bbO n a b ba bb n)) T_i_Blobbed, .pc (lc2 (lpNB n a b ba bb)) T_i_bothLoops, bO1 false] := by
  have la := ha.len
  have lb := hb.len
  have hn := ha.n8
  have hn1 := ha.n1
  refine SpecW.of_EV hf_i_product hc_i_product rfl rfl rfl fun w0 B ρ0 _ => ?_
  (repeat' (first | refine (s_nG n a (bbl ba) T_i_Blobbed).read [0] rfl ⟨rfl, trivial⟩ ?_ | refine And.intro (neI rfl) ?_ | refine And.intro ⟨rfl, leR rfl, onesR rfl⟩ ?_ | refine And.intro ⟨rfl, leR rfl⟩ ?_ | refine draw_rule2 hfol (fun KK hKK => ?_) | refine hKK _ _ _ (by kernel_rfl) ?_ | refine region_rule (fun KK hKK => ?_) | refine hKK _ _ ?_ | refine And.intro (Eq.refl true) ?_ | refine Exists.intro _ (And.intro (wI (by omega)) ?_) | refine Exists.intro _ (And.intro (wU (by omega)) ?_) | refine Exists.intro _ (And.intro ⟨rfl, by omega⟩ ?_) | refine Exists.intro _ (And.intro rfl ?_) | refine And.intro rfl ?_ | refine And.intro ⟨rfl, rfl⟩ ?_ | ((refine And.intro (fun _ => ?_) (fun _ => ?_)) <;> try (exfalso; omega))))
  refine loop_rule (α := Nat) (fun i => i ≤ n)
    (fun i => [(3, FEC), (4, FLC), (10, vi n), (11, .ptr 5 0), (21, vi n), (22, vi i)])
    (fun i => prB n a b ba bb (oL n a b i).1 (bbO n a b ba bb i) (0, 0) (oL n a b i).2) (fun i => n - i) 0 [0, 1, 2, 3, 4, 5]
    (by omega) ⟨⟨rfl, rfl, rfl, rfl, rfl, rfl, trivial⟩, ⟨rfl, rfl, rfl, rfl, rfl, rfl, trivial⟩, goodB_of prB_ids rfl⟩ ?_
  rintro i g hi
  obtain ⟨l1, l2, hclo, _⟩ := oL_inv ha hb i hi
  have lo := bbO_len (n := n) (a := a) (b := b) (ba := ba) (bb := bb) (i := i)
  by_cases h9 : i = n
  rotate_left
  · have hil : i < n := by omega
    have o1 : isOut n false i = true := by simp [isOut]; omega
    have o2 : isOut n true (n + i) = true := by simp [isOut]
    have f1 := fol_out ha hb (l := false) (p := i) (by omega) o1 l2 hclo
    have l3 : (fol n a b 17 false i (oL n a b i).2).2.2.length = 8 := by rw [fol_len ha hb]; exact l2
    have f2 := fol_out ha hb (l := true) (p := n + i) (by omega) o2 l3 f1.1
    have c1 := s_followB n a b ha hb ba bb lba lbb false i (oL n a b i).2 false l2 (by omega) (ends_out ha hb (by omega) o1)
    have c2 := s_endB n (oL n a b i).1 (bbO n a b ba bb i) i (fol n a b 17 false i (oL n a b i).2).1 (mB n a b ba bb 17 false i) l1 lo (by omega) (by omega)
    have c3 := s_followB n a b ha hb ba bb lba lbb true (n + i) (fol n a b 17 false i (oL n a b i).2).2.2 false l3 (by omega) (ends_out ha hb (by omega) o2)
    have c4 := s_endB n ((oL n a b i).1.set i (fol n a b 17 false i (oL n a b i).2).1) ((bbO n a b ba bb i).set i (mB n a b ba bb 17 false i)) (n + i) (fol n a b 17 true (n + i) (fol n a b 17 false i (oL n a b i).2).2.2).1 (mB n a b ba bb 17 true (n + i)) (by simpa using l1) (by simpa using lo) (by omega) (by omega)
    rw [Bool.false_or] at c1 c3
    have e1 : IntKind.i64.wrap ((n : Int) + (i : Int)) = ((n + i : Nat) : Int) := wC (by omega) (by omega)
    (repeat' (first | refine c1.makeN [5, 0, 1, 4] rfl ⟨congrArg some stkB_m2, rfl, rfl, rfl, trivial⟩ (effR rfl (wrR stkB_m2.symm rfl) rfl) ?_ | refine (c2).make [4,2] rfl ⟨rfl, rfl, trivial⟩ ?_ | refine c3.makeN [5, 0, 1, 4] rfl ⟨congrArg some stkB_m2, rfl, rfl, rfl, trivial⟩ (effR rfl (wrR stkB_m2.symm rfl) rfl) ?_ | refine (c4).make [4,2] rfl ⟨rfl, rfl, trivial⟩ ?_ | refine Exists.intro _ (And.intro e1 ?_) | refine And.intro (neI rfl) ?_ | refine And.intro ⟨rfl, leR rfl, onesR rfl⟩ ?_ | refine And.intro ⟨rfl, leR rfl⟩ ?_ | refine draw_rule2 hfol (fun KK hKK => ?_) | refine hKK _ _ _ (by kernel_rfl) ?_ | refine region_rule (fun KK hKK => ?_) | refine hKK _ _ ?_ | refine And.intro (Eq.refl true) ?_ | refine Exists.intro _ (And.intro (wI (by omega)) ?_) | refine Exists.intro _ (And.intro (wU (by omega)) ?_) | refine Exists.intro _ (And.intro ⟨rfl, by omega⟩ ?_) | refine Exists.intro _ (And.intro rfl ?_) | refine And.intro rfl ?_ | refine And.intro ⟨rfl, rfl⟩ ?_ | ((refine And.intro (fun _ => ?_) (fun _ => ?_)) <;> try (exfalso; omega))))
    refine Exists.intro (i + 1) (Exists.intro [0, 1, 2, 3, 4, 5] (And.intro ⟨by omega, (by show n - (i + 1) < n - i; omega)⟩ ⟨⟨rfl, rfl, rfl, rfl, rfl, rfl, trivial⟩, ⟨rfl, rfl, rfl, rfl, rfl, congrArg some stkB_m3, trivial⟩, goodB_of prB_ids rfl⟩))
  subst h9
  (repeat' (first | refine And.intro (neI rfl) ?_ | refine And.intro ⟨rfl, leR rfl, onesR rfl⟩ ?_ | refine And.intro ⟨rfl, leR rfl⟩ ?_ | refine draw_rule2 hfol (fun KK hKK => ?_) | refine hKK _ _ _ (by kernel_rfl) ?_ | refine region_rule (fun KK hKK => ?_) | refine hKK _ _ ?_ | refine And.intro (Eq.refl true) ?_ | refine Exists.intro _ (And.intro (wI (by omega)) ?_) | refine Exists.intro _ (And.intro (wU (by omega)) ?_) | refine Exists.intro _ (And.intro ⟨rfl, by omega⟩ ?_) | refine Exists.intro _ (And.intro rfl ?_) | refine And.intro rfl ?_ | refine And.intro ⟨rfl, rfl⟩ ?_ | ((refine And.intro (fun _ => ?_) (fun _ => ?_)) <;> try (exfalso; omega))))
  refine loop_rule (α := Nat × List Bool × (Nat × Nat)) (fun (j, s, c) => j ≤ i ∧ s.length = 8 ∧ G i a b s ∧ c.1 + c.2 ≤ j ∧ lpOB i a b ba bb (i - j) j s c = lpNB i a b ba bb)
    (fun (j, s, c) => [(4, FLC), (10, vi i), (11, .ptr 5 0), (42, vi i), (43, vi j)])
    (fun (j, s, c) => prB i a b ba bb (oL i a b i).1 (bbO i a b ba bb i) c s) (fun (j, _, _) => i - j) (0, (oL i a b i).2, (0, 0)) [0, 1, 2, 3, 4, 5]
    ⟨by omega, l2, oL_G ha hb, Nat.le_refl _, rfl⟩ ⟨⟨rfl, rfl, rfl, rfl, rfl, trivial⟩, ⟨rfl, rfl, rfl, rfl, rfl, congrArg some stkB_m3, trivial⟩, goodB_of prB_ids rfl⟩ ?_
  rintro ⟨j, s, c⟩ g2 ⟨hj, hs, hG, hc, hR⟩
  by_cases h9 : j = i
  · subst h9
    rw [Nat.sub_self] at hR
    replace hR : c = lpNB j a b ba bb := hR
    subst hR
    (repeat' (first | refine And.intro (neI rfl) ?_ | refine And.intro ⟨rfl, leR rfl, onesR rfl⟩ ?_ | refine And.intro ⟨rfl, leR rfl⟩ ?_ | refine draw_rule2 hfol (fun KK hKK => ?_) | refine hKK _ _ _ (by kernel_rfl) ?_ | refine region_rule (fun KK hKK => ?_) | refine hKK _ _ ?_ | refine And.intro (Eq.refl true) ?_ | refine Exists.intro _ (And.intro (wI (by omega)) ?_) | refine Exists.intro _ (And.intro (wU (by omega)) ?_) | refine Exists.intro _ (And.intro ⟨rfl, by omega⟩ ?_) | refine Exists.intro _ (And.intro rfl ?_) | refine And.intro rfl ?_ | refine And.intro ⟨rfl, rfl⟩ ?_ | ((refine And.intro (fun _ => ?_) (fun _ => ?_)) <;> try (exfalso; omega))))
    exact Exists.intro [0,1,2,3,4] (And.intro (rfl) (And.intro ⟨rfl, rfl, rfl, rfl, rfl, trivial⟩ rfl))
  have hjl : j < i := by omega
  obtain ⟨d, hdd⟩ : ∃ d, i - j = d + 1 := ⟨i - j - 1, by omega⟩
  have hd' : i - (j + 1) = d := by omega
  rw [hdd] at hR
  unfold lpOB at hR
  cases hsj : s.getD j false with
  | true =>
    rw [if_pos hsj] at hR
    (repeat' (first | refine Exists.intro _ (And.intro (stk_at (by omega) hsj) ?_) | refine And.intro (neI rfl) ?_ | refine And.intro ⟨rfl, leR rfl, onesR rfl⟩ ?_ | refine And.intro ⟨rfl, leR rfl⟩ ?_ | refine draw_rule2 hfol (fun KK hKK => ?_) | refine hKK _ _ _ (by kernel_rfl) ?_ | refine region_rule (fun KK hKK => ?_) | refine hKK _ _ ?_ | refine And.intro (Eq.refl true) ?_ | refine Exists.intro _ (And.intro (wI (by omega)) ?_) | refine Exists.intro _ (And.intro (wU (by omega)) ?_) | refine Exists.intro _ (And.intro ⟨rfl, by omega⟩ ?_) | refine Exists.intro _ (And.intro rfl ?_) | refine And.intro rfl ?_ | refine And.intro ⟨rfl, rfl⟩ ?_ | ((refine And.intro (fun _ => ?_) (fun _ => ?_)) <;> try (exfalso; omega))))
    refine Exists.intro (j + 1, s, c) (Exists.intro [0, 1, 2, 3, 4, 5] (And.intro ⟨⟨by omega, hs, hG, by omega, by rw [hd']; exact hR⟩, (by show i - (j + 1) < i - j; omega)⟩ ⟨⟨rfl, rfl, rfl, rfl, rfl, trivial⟩, ⟨rfl, rfl, rfl, rfl, rfl, congrArg some stkB_m3, trivial⟩, goodB_of prB_ids rfl⟩))
  | false =>
    rw [if_neg (by rw [hsj]; decide)] at hR
    obtain ⟨q1, q2, q3⟩ := loop_eq ha hb hs hG hjl hsj
    have c1 := s_followLB i a b ha hb ba bb lba lbb j hjl s false hs q1
    rw [q2, Bool.false_or] at c1
    have c2 := s_loopB c (mL i a b ba bb j 8 true j) (by omega)
    have hc' : (lpC (mL i a b ba bb j 8 true j) c).1 + (lpC (mL i a b ba bb j 8 true j) c).2 ≤ j + 1 := by
      unfold lpC; split <;> simp only [] <;> omega
    (repeat' (first | refine Exists.intro _ (And.intro (stk_at (by omega) hsj) ?_) | refine c1.makeN [5, 0, 1, 4] rfl ⟨congrArg some stkB_m2, rfl, rfl, rfl, trivial⟩ (effR rfl (wrR stkB_m2.symm rfl) rfl) ?_ | refine (c2).make [3,4] rfl ⟨rfl, rfl, trivial⟩ ?_ | refine And.intro (neI rfl) ?_ | refine And.intro ⟨rfl, leR rfl, onesR rfl⟩ ?_ | refine And.intro ⟨rfl, leR rfl⟩ ?_ | refine draw_rule2 hfol (fun KK hKK => ?_) | refine hKK _ _ _ (by kernel_rfl) ?_ | refine region_rule (fun KK hKK => ?_) | refine hKK _ _ ?_ | refine And.intro (Eq.refl true) ?_ | refine Exists.intro _ (And.intro (wI (by omega)) ?_) | refine Exists.intro _ (And.intro (wU (by omega)) ?_) | refine Exists.intro _ (And.intro ⟨rfl, by omega⟩ ?_) | refine Exists.intro _ (And.intro rfl ?_) | refine And.intro rfl ?_ | refine And.intro ⟨rfl, rfl⟩ ?_ | ((refine And.intro (fun _ => ?_) (fun _ => ?_)) <;> try (exfalso; omega))))
    refine Exists.intro (j + 1, spI i a b 8 j s, lpC (mL i a b ba bb j 8 true j) c) (Exists.intro [0, 1, 2, 3, 4, 5] (And.intro ⟨⟨by omega, by rw [spI_len]; exact hs, q3, hc', by rw [hd']; exact hR⟩, (by show i - (j + 1) < i - j; omega)⟩ ⟨⟨rfl, rfl, rfl, rfl, rfl, trivial⟩, ⟨rfl, rfl, rfl, rfl, rfl, congrArg some stkB_m3, trivial⟩, goodB_of prB_ids rfl⟩))
end
end Go.Proofs.Ytcibbadioijmcaa.VE
