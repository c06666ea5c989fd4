/- Contracts of functions of the given program, for all arguments that the contract names; see each theorem. -/
import Derived.Test.YtgpgcdofhkpeaaaU17
import Derived.Test.YtgpgcdofhkpeaaaU18s
set_option linter.all false
namespace Go.Proofs.Ytgpgcdofhkpeaaa.VE
open Go
set_option maxHeartbeats 800000
set_option maxRecDepth 100000

theorem s_end1 (n : Int) (out : List Nat) (i k : Nat) (ho : out.length = 16) (hi : i < 16) (hk : k < 256) : Spec Try.prog n_i_times_2 [vi i, vi k, .ptr 0 0] [.pc (pcl n out) T_i_Diagram] (.tup []) [.pc (pcl n (out.set i k)) T_i_Diagram] := by
  refine SpecW.of_EV hf_i_times_2 hc_i_times_2 rfl rfl rfl fun w0 B ρ0 _ => ?_
  (repeat' (first | refine Exists.intro (pcl n (out.set i k)) (And.intro ⟨by rw [pcl_len ho]; omega, pcl_set⟩ ?_) | refine And.intro (neI rfl) ?_ | refine And.intro ⟨rfl, leR rfl, onesR rfl⟩ ?_ | refine And.intro ⟨rfl, leR rfl⟩ ?_ | refine draw_rule2 hfol (fun KK hKK => ?_) | refine hKK _ _ _ (by kernel_rfl) ?_ | refine region_rule (fun KK hKK => ?_) | refine hKK _ _ ?_ | refine And.intro (Eq.refl true) ?_ | refine Exists.intro _ (And.intro (wI (by omega)) ?_) | refine Exists.intro _ (And.intro (wU (by omega)) ?_) | refine Exists.intro _ (And.intro ⟨rfl, by omega⟩ ?_) | refine Exists.intro _ (And.intro rfl ?_) | refine And.intro rfl ?_ | refine And.intro ⟨rfl, rfl⟩ ?_ | ((refine And.intro (fun _ => ?_) (fun _ => ?_)) <;> try (exfalso; omega))))
  exact Exists.intro [0] (And.intro (rfl) (And.intro ⟨rfl, trivial⟩ rfl))
theorem s_loopT (c : Nat) (hc : c ≤ 1000) : Spec Try.prog n_i_times_3 [.ptr 0 0] [.pc [.int .i64 c] T_int64] (.tup []) [.pc [.int .i64 (c + 1 : Nat)] T_int64] := by
  have e : IntKind.i64.wrap ((c : Int) + 1) = ((c + 1 : Nat) : Int) := wC (by omega) (by omega)
  refine SpecW.of_EV hf_i_times_3 hc_i_times_3 rfl rfl rfl fun w0 B ρ0 _ => ?_
  (repeat' (first | refine Exists.intro _ (And.intro e ?_) | refine Exists.intro [Value.int .i64 ((c + 1 : Nat) : Int)] (And.intro ⟨leR rfl, rfl⟩ ?_) | refine And.intro (neI rfl) ?_ | refine And.intro ⟨rfl, leR rfl, onesR rfl⟩ ?_ | refine And.intro ⟨rfl, leR rfl⟩ ?_ | refine draw_rule2 hfol (fun KK hKK => ?_) | refine hKK _ _ _ (by kernel_rfl) ?_ | refine region_rule (fun KK hKK => ?_) | refine hKK _ _ ?_ | refine And.intro (Eq.refl true) ?_ | refine Exists.intro _ (And.intro (wI (by omega)) ?_) | refine Exists.intro _ (And.intro (wU (by omega)) ?_) | refine Exists.intro _ (And.intro ⟨rfl, by omega⟩ ?_) | refine Exists.intro _ (And.intro rfl ?_) | refine And.intro rfl ?_ | refine And.intro ⟨rfl, rfl⟩ ?_ | ((refine And.intro (fun _ => ?_) (fun _ => ?_)) <;> try (exfalso; omega))))
  exact Exists.intro [0] (And.intro (rfl) (And.intro ⟨rfl, trivial⟩ rfl))

/-- How many loops. -/
theorem stk_m2 {s : List Bool} {T : TypeId} {n : Nat} : O.cc (stkG 0 1 s FM) T = O.mapIds (sig [4, 0, 1] n) (.cc (stkG 1 2 s FM) T) := stk_mo (σ := sig [4, 0, 1] n) (i := 1) (j := 2) (s := s) (F := FM) (T := T)
theorem stk_m3 {s : List Bool} {T : TypeId} : O.cc (stkG 0 1 s FM) T = O.mapIds (atL [0, 1, 2, 3, 4]) (.cc (stkG 0 1 s FM) T) := stk_mo (σ := atL [0, 1, 2, 3, 4]) (i := 0) (j := 1) (s := s) (F := FM) (T := T)
abbrev prO (n : Nat) (a b out : List Nat) (c : Nat) (s : List Bool) : List O := [.pc (pcl n a) T_i_Diagram, .pc (pcl n b) T_i_Diagram, .pc (pcl n out) T_i_Diagram, .pc [.int .i64 c] T_int64, .cc (stkG 0 1 s FM) T_i_stack]
theorem prO_ids {n : Nat} {a b out : List Nat} {c : Nat} {s : List Bool} : idsO (prO n a b out c s) = [0, 1] := by
  simp only [idsO, O.ids, stk_ids]; rfl
abbrev FE : V := .fn (.func n_i_times_2) [] [.ptr 2 0]
abbrev FL : V := .fn (.func n_i_times_3) [] [.ptr 3 0]

theorem s_product (n : Nat) (a b : List Nat) (ha : IsV n a) (hb : IsV n b) :
    Spec Try.prog n_i_product [.ptr 0 0, .ptr 1 0, FM, FE, FL] [.pc (pcl n a) T_i_Diagram, .pc (pcl n b) T_i_Diagram, .pc (pcl n (List.replicate 16 0)) T_i_Diagram, .pc [.int .i64 (0 : Nat)] T_int64] (.tup [])
      [.pc (pcl n a) T_i_Diagram, .pc (pcl n b) T_i_Diagram, .pc (pcl n (oL n a b n).1) T_i_Diagram, .pc [.int .i64 (lpN n a b : Nat)] T_int64] := by
  have la := ha.len
  have lb := hb.len
  have hn := ha.n8
  have hn1 := ha.n1
  refine SpecW.of_EV hf_i_product hc_i_product rfl rfl rfl fun w0 B ρ0 _ => ?_
  (repeat' (first | refine (s_n n a).read [0] rfl ⟨rfl, trivial⟩ ?_ | refine And.intro (neI rfl) ?_ | refine And.intro ⟨rfl, leR rfl, onesR rfl⟩ ?_ | refine And.intro ⟨rfl, leR rfl⟩ ?_ | refine draw_rule2 hfol (fun KK hKK => ?_) | refine hKK _ _ _ (by kernel_rfl) ?_ | refine region_rule (fun KK hKK => ?_) | refine hKK _ _ ?_ | refine And.intro (Eq.refl true) ?_ | refine Exists.intro _ (And.intro (wI (by omega)) ?_) | refine Exists.intro _ (And.intro (wU (by omega)) ?_) | refine Exists.intro _ (And.intro ⟨rfl, by omega⟩ ?_) | refine Exists.intro _ (And.intro rfl ?_) | refine And.intro rfl ?_ | refine And.intro ⟨rfl, rfl⟩ ?_ | ((refine And.intro (fun _ => ?_) (fun _ => ?_)) <;> try (exfalso; omega))))
  refine loop_rule (α := Nat) (fun i => i ≤ n)
    (fun i => [(3, FE), (4, FL), (10, vi n), (11, .ptr 4 0), (21, vi n), (22, vi i)])
    (fun i => prO n a b (oL n a b i).1 0 (oL n a b i).2) (fun i => n - i) 0 [0, 1, 2, 3, 4]
    (by omega) ⟨⟨rfl, rfl, rfl, rfl, rfl, rfl, trivial⟩, ⟨rfl, rfl, rfl, rfl, rfl, trivial⟩, goodB_of prO_ids rfl⟩ ?_
  rintro i g hi
  obtain ⟨l1, l2, hclo, _⟩ := oL_inv ha hb i hi
  by_cases h9 : i = n
  rotate_left
  · have hil : i < n := by omega
    have o1 : isOut n false i = true := by simp [isOut]; omega
    have o2 : isOut n true (n + i) = true := by simp [isOut]
    have f1 := fol_out ha hb (l := false) (p := i) (by omega) o1 l2 hclo
    have l3 : (fol n a b 17 false i (oL n a b i).2).2.2.length = 8 := by rw [fol_len ha hb]; exact l2
    have f2 := fol_out ha hb (l := true) (p := n + i) (by omega) o2 l3 f1.1
    have c1 := s_follow n a b ha hb false i (oL n a b i).2 l2 (by omega) (ends_out ha hb (by omega) o1)
    have c2 := s_end1 n (oL n a b i).1 i (fol n a b 17 false i (oL n a b i).2).1 l1 (by omega) (by omega)
    have c3 := s_follow n a b ha hb true (n + i) (fol n a b 17 false i (oL n a b i).2).2.2 l3 (by omega) (ends_out ha hb (by omega) o2)
    have c4 := s_end1 n ((oL n a b i).1.set i (fol n a b 17 false i (oL n a b i).2).1) (n + i) (fol n a b 17 true (n + i) (fol n a b 17 false i (oL n a b i).2).2.2).1 (by simpa using l1) (by omega) (by omega)
    have e1 : IntKind.i64.wrap ((n : Int) + (i : Int)) = ((n + i : Nat) : Int) := wC (by omega) (by omega)
    (repeat' (first | refine c1.makeN [4, 0, 1] rfl ⟨congrArg some stk_m2, rfl, rfl, trivial⟩ (effR rfl (wrR stk_m2.symm rfl) rfl) ?_ | refine (c2).make [2] rfl ⟨rfl, trivial⟩ ?_ | refine c3.makeN [4, 0, 1] rfl ⟨congrArg some stk_m2, rfl, rfl, trivial⟩ (effR rfl (wrR stk_m2.symm rfl) rfl) ?_ | refine (c4).make [2] rfl ⟨rfl, trivial⟩ ?_ | refine Exists.intro _ (And.intro e1 ?_) | refine And.intro (neI rfl) ?_ | refine And.intro ⟨rfl, leR rfl, onesR rfl⟩ ?_ | refine And.intro ⟨rfl, leR rfl⟩ ?_ | refine draw_rule2 hfol (fun KK hKK => ?_) | refine hKK _ _ _ (by kernel_rfl) ?_ | refine region_rule (fun KK hKK => ?_) | refine hKK _ _ ?_ | refine And.intro (Eq.refl true) ?_ | refine Exists.intro _ (And.intro (wI (by omega)) ?_) | refine Exists.intro _ (And.intro (wU (by omega)) ?_) | refine Exists.intro _ (And.intro ⟨rfl, by omega⟩ ?_) | refine Exists.intro _ (And.intro rfl ?_) | refine And.intro rfl ?_ | refine And.intro ⟨rfl, rfl⟩ ?_ | ((refine And.intro (fun _ => ?_) (fun _ => ?_)) <;> try (exfalso; omega))))
    refine Exists.intro (i + 1) (Exists.intro [0, 1, 2, 3, 4] (And.intro ⟨by omega, (by show n - (i + 1) < n - i; omega)⟩ ⟨⟨rfl, rfl, rfl, rfl, rfl, rfl, trivial⟩, ⟨rfl, rfl, rfl, rfl, congrArg some stk_m3, trivial⟩, goodB_of prO_ids rfl⟩))
  subst h9
  (repeat' (first | refine And.intro (neI rfl) ?_ | refine And.intro ⟨rfl, leR rfl, onesR rfl⟩ ?_ | refine And.intro ⟨rfl, leR rfl⟩ ?_ | refine draw_rule2 hfol (fun KK hKK => ?_) | refine hKK _ _ _ (by kernel_rfl) ?_ | refine region_rule (fun KK hKK => ?_) | refine hKK _ _ ?_ | refine And.intro (Eq.refl true) ?_ | refine Exists.intro _ (And.intro (wI (by omega)) ?_) | refine Exists.intro _ (And.intro (wU (by omega)) ?_) | refine Exists.intro _ (And.intro ⟨rfl, by omega⟩ ?_) | refine Exists.intro _ (And.intro rfl ?_) | refine And.intro rfl ?_ | refine And.intro ⟨rfl, rfl⟩ ?_ | ((refine And.intro (fun _ => ?_) (fun _ => ?_)) <;> try (exfalso; omega))))
  refine loop_rule (α := Nat × List Bool × Nat) (fun (j, s, c) => j ≤ i ∧ s.length = 8 ∧ G i a b s ∧ c ≤ j ∧ lpO i a b (i - j) j s c = lpN i a b)
    (fun (j, s, c) => [(4, FL), (10, vi i), (11, .ptr 4 0), (42, vi i), (43, vi j)])
    (fun (j, s, c) => prO i a b (oL i a b i).1 c s) (fun (j, _, _) => i - j) (0, (oL i a b i).2, 0) [0, 1, 2, 3, 4]
    ⟨by omega, l2, oL_G ha hb, by omega, rfl⟩ ⟨⟨rfl, rfl, rfl, rfl, rfl, trivial⟩, ⟨rfl, rfl, rfl, rfl, congrArg some stk_m3, trivial⟩, goodB_of prO_ids rfl⟩ ?_
  rintro ⟨j, s, c⟩ g2 ⟨hj, hs, hG, hc, hR⟩
  by_cases h9 : j = i
  · subst h9
    rw [Nat.sub_self] at hR
    replace hR : c = lpN j a b := hR
    subst hR
    (repeat' (first | refine And.intro (neI rfl) ?_ | refine And.intro ⟨rfl, leR rfl, onesR rfl⟩ ?_ | refine And.intro ⟨rfl, leR rfl⟩ ?_ | refine draw_rule2 hfol (fun KK hKK => ?_) | refine hKK _ _ _ (by kernel_rfl) ?_ | refine region_rule (fun KK hKK => ?_) | refine hKK _ _ ?_ | refine And.intro (Eq.refl true) ?_ | refine Exists.intro _ (And.intro (wI (by omega)) ?_) | refine Exists.intro _ (And.intro (wU (by omega)) ?_) | refine Exists.intro _ (And.intro ⟨rfl, by omega⟩ ?_) | refine Exists.intro _ (And.intro rfl ?_) | refine And.intro rfl ?_ | refine And.intro ⟨rfl, rfl⟩ ?_ | ((refine And.intro (fun _ => ?_) (fun _ => ?_)) <;> try (exfalso; omega))))
    exact Exists.intro [0,1,2,3] (And.intro (rfl) (And.intro ⟨rfl, rfl, rfl, rfl, trivial⟩ rfl))
  have hjl : j < i := by omega
  obtain ⟨d, hdd⟩ : ∃ d, i - j = d + 1 := ⟨i - j - 1, by omega⟩
  have hd' : i - (j + 1) = d := by omega
  rw [hdd] at hR
  unfold lpO at hR
  cases hsj : s.getD j false with
  | true =>
    rw [if_pos hsj] at hR
    (repeat' (first | refine Exists.intro _ (And.intro (stk_at (by omega) hsj) ?_) | refine And.intro (neI rfl) ?_ | refine And.intro ⟨rfl, leR rfl, onesR rfl⟩ ?_ | refine And.intro ⟨rfl, leR rfl⟩ ?_ | refine draw_rule2 hfol (fun KK hKK => ?_) | refine hKK _ _ _ (by kernel_rfl) ?_ | refine region_rule (fun KK hKK => ?_) | refine hKK _ _ ?_ | refine And.intro (Eq.refl true) ?_ | refine Exists.intro _ (And.intro (wI (by omega)) ?_) | refine Exists.intro _ (And.intro (wU (by omega)) ?_) | refine Exists.intro _ (And.intro ⟨rfl, by omega⟩ ?_) | refine Exists.intro _ (And.intro rfl ?_) | refine And.intro rfl ?_ | refine And.intro ⟨rfl, rfl⟩ ?_ | ((refine And.intro (fun _ => ?_) (fun _ => ?_)) <;> try (exfalso; omega))))
    refine Exists.intro (j + 1, s, c) (Exists.intro [0, 1, 2, 3, 4] (And.intro ⟨⟨by omega, hs, hG, by omega, by rw [hd']; exact hR⟩, (by show i - (j + 1) < i - j; omega)⟩ ⟨⟨rfl, rfl, rfl, rfl, rfl, trivial⟩, ⟨rfl, rfl, rfl, rfl, congrArg some stk_m3, trivial⟩, goodB_of prO_ids rfl⟩))
  | false =>
    rw [if_neg (by rw [hsj]; decide)] at hR
    obtain ⟨q1, q2, q3⟩ := loop_eq ha hb hs hG hjl hsj
    have c1 := s_followL i a b ha hb j hjl s hs q1
    rw [q2] at c1
    have c2 := s_loopT c (by omega)
    (repeat' (first | refine Exists.intro _ (And.intro (stk_at (by omega) hsj) ?_) | refine c1.makeN [4, 0, 1] rfl ⟨congrArg some stk_m2, rfl, rfl, trivial⟩ (effR rfl (wrR stk_m2.symm rfl) rfl) ?_ | refine (c2).make [3] rfl ⟨rfl, trivial⟩ ?_ | refine And.intro (neI rfl) ?_ | refine And.intro ⟨rfl, leR rfl, onesR rfl⟩ ?_ | refine And.intro ⟨rfl, leR rfl⟩ ?_ | refine draw_rule2 hfol (fun KK hKK => ?_) | refine hKK _ _ _ (by kernel_rfl) ?_ | refine region_rule (fun KK hKK => ?_) | refine hKK _ _ ?_ | refine And.intro (Eq.refl true) ?_ | refine Exists.intro _ (And.intro (wI (by omega)) ?_) | refine Exists.intro _ (And.intro (wU (by omega)) ?_) | refine Exists.intro _ (And.intro ⟨rfl, by omega⟩ ?_) | refine Exists.intro _ (And.intro rfl ?_) | refine And.intro rfl ?_ | refine And.intro ⟨rfl, rfl⟩ ?_ | ((refine And.intro (fun _ => ?_) (fun _ => ?_)) <;> try (exfalso; omega))))
    refine Exists.intro (j + 1, spI i a b 8 j s, c + 1) (Exists.intro [0, 1, 2, 3, 4] (And.intro ⟨⟨by omega, by rw [spI_len]; exact hs, q3, by omega, by rw [hd']; exact hR⟩, (by show i - (j + 1) < i - j; omega)⟩ ⟨⟨rfl, rfl, rfl, rfl, rfl, trivial⟩, ⟨rfl, rfl, rfl, rfl, congrArg some stk_m3, trivial⟩, goodB_of prO_ids rfl⟩))

theorem s_times (n : Nat) (a b : List Nat) (ha : IsV n a) (hb : IsV n b) : Spec Try.prog n_i_times [pv n a, pv n b] [] (dlV n (oL n a b n).1 (lpN n a b : Nat)) [] := by
  have la := ha.len
  have lb := hb.len
  have lo := (oL_inv ha hb n (Nat.le_refl n)).1
  have hp := s_product n a b ha hb
  refine SpecW.of_EV hf_i_times hc_i_times rfl rfl rfl fun w0 B ρ0 _ => ?_
  (repeat' (first | refine (hp).make [0,1,3,4] rfl ⟨rfl, rfl, rfl, rfl, trivial⟩ ?_ | refine Exists.intro (pcl n (List.replicate 16 0)) (And.intro ⟨leR rfl, rfl⟩ ?_) | refine Exists.intro (pcl n (List.replicate 16 0)) (And.intro ⟨rfl, rfl⟩ ?_) | refine Exists.intro [Value.int .i64 ((0 : Nat) : Int)] (And.intro ⟨leR rfl, rfl⟩ ?_) | refine Exists.intro (pcl n (oL n a b n).1) (And.intro ⟨pcl_len lo, pcl_all lo⟩ ?_) | refine And.intro ⟨pcl_len lo, leR rfl, pcl_ones⟩ ?_ | refine Exists.intro (pcl n (oL n a b n).1) (And.intro ⟨leR rfl, spl0 (leR rfl)⟩ ?_) | refine And.intro (neI rfl) ?_ | refine And.intro ⟨rfl, leR rfl, onesR rfl⟩ ?_ | refine And.intro ⟨rfl, leR rfl⟩ ?_ | refine draw_rule2 hfol (fun KK hKK => ?_) | refine hKK _ _ _ (by kernel_rfl) ?_ | refine region_rule (fun KK hKK => ?_) | refine hKK _ _ ?_ | refine And.intro (Eq.refl true) ?_ | refine Exists.intro _ (And.intro (wI (by omega)) ?_) | refine Exists.intro _ (And.intro (wU (by omega)) ?_) | refine Exists.intro _ (And.intro ⟨rfl, by omega⟩ ?_) | refine Exists.intro _ (And.intro rfl ?_) | refine And.intro rfl ?_ | refine And.intro ⟨rfl, rfl⟩ ?_ | ((refine And.intro (fun _ => ?_) (fun _ => ?_)) <;> try (exfalso; omega))))
  exact Exists.intro [] (And.intro (rfl) (And.intro trivial rfl))

end Go.Proofs.Ytgpgcdofhkpeaaa.VE
