/- Contracts of functions of the given program, for all arguments that the contract names; see each theorem. -/
import Derived.Test.YtgpgcdofhkpeaaaU17s
set_option linter.all false
namespace Go.Proofs.Ytgpgcdofhkpeaaa.VE
open Go
set_option maxHeartbeats 800000
set_option maxRecDepth 100000

theorem s_meet1 (l : Bool) (p : Nat) : Spec Try.prog n_i_times_1 [vb l, vi p] [] (.tup []) [] := by
  refine SpecW.of_EV hf_i_times_1 hc_i_times_1 rfl rfl rfl fun w0 B ρ0 _ => ?_
  (repeat' (first | refine And.intro (neI rfl) ?_ | refine And.intro ⟨rfl, leR rfl, onesR rfl⟩ ?_ | refine And.intro ⟨rfl, leR rfl⟩ ?_ | refine draw_rule2 hfol (fun KK hKK => ?_) | refine hKK _ _ _ (by kernel_rfl) ?_ | refine region_rule (fun KK hKK => ?_) | refine hKK _ _ ?_ | refine And.intro (Eq.refl true) ?_ | refine Exists.intro _ (And.intro (wI (by omega)) ?_) | refine Exists.intro _ (And.intro (wU (by omega)) ?_) | refine Exists.intro _ (And.intro ⟨rfl, by omega⟩ ?_) | refine Exists.intro _ (And.intro rfl ?_) | refine And.intro rfl ?_ | refine And.intro ⟨rfl, rfl⟩ ?_ | ((refine And.intro (fun _ => ?_) (fun _ => ?_)) <;> try (exfalso; omega))))
  exact Exists.intro [] (And.intro (rfl) (And.intro trivial rfl))
abbrev FM : V := .fn (.func n_i_times_1) [] []
abbrev stO (n : Nat) (a b : List Nat) (s : List Bool) : List O := [.cc (stkG 1 2 s FM) T_i_stack, .pc (pcl n a) T_i_Diagram, .pc (pcl n b) T_i_Diagram]
theorem stk_m1 {s : List Bool} {T : TypeId} : O.cc (stkG 1 2 s FM) T = O.mapIds (atL [0, 1, 2]) (.cc (stkG 1 2 s FM) T) := stk_mo (σ := atL [0, 1, 2]) (i := 1) (j := 2) (s := s) (F := FM) (T := T)
theorem stO_ids {n : Nat} {a b : List Nat} {s : List Bool} : idsO (stO n a b s) = [1, 2] := by
  simp only [idsO, O.ids, stk_ids]; rfl

theorem s_follow (n : Nat) (a b : List Nat) (ha : IsV n a) (hb : IsV n b) (l : Bool) (p : Nat) (s : List Bool) (hs : s.length = 8) (hp : p < 2 * n) (he : ends n a b 17 l p) :
    Spec Try.prog n_i_stack_follow [.ptr 0 0, vb l, vi p, vi (-1)] (stO n a b s) (vi ((fol n a b 17 l p s).1 : Nat)) (stO n a b (fol n a b 17 l p s).2.2) := by
  have la := ha.len
  have lb := hb.len
  have hn := ha.n8
  have hn1 := ha.n1
  have hn0 : (n : Int) ≠ 0 := by omega
  generalize hR : fol n a b 17 l p s = R
  refine SpecW.of_EV hf_i_stack_follow hc_i_stack_follow rfl rfl (by simp only [stO_ids]; rfl) fun w0 B ρ0 _ => ?_
  (repeat' (first | refine (s_n n a).read [1] rfl ⟨rfl, trivial⟩ ?_ | refine And.intro (neI rfl) ?_ | refine And.intro ⟨rfl, leR rfl, onesR rfl⟩ ?_ | refine And.intro ⟨rfl, leR rfl⟩ ?_ | refine draw_rule2 hfol (fun KK hKK => ?_) | refine hKK _ _ _ (by kernel_rfl) ?_ | refine region_rule (fun KK hKK => ?_) | refine hKK _ _ ?_ | refine And.intro (Eq.refl true) ?_ | refine Exists.intro _ (And.intro (wI (by omega)) ?_) | refine Exists.intro _ (And.intro (wU (by omega)) ?_) | refine Exists.intro _ (And.intro ⟨rfl, by omega⟩ ?_) | refine Exists.intro _ (And.intro rfl ?_) | refine And.intro rfl ?_ | refine And.intro ⟨rfl, rfl⟩ ?_ | ((refine And.intro (fun _ => ?_) (fun _ => ?_)) <;> try (exfalso; omega))))
  refine loop_rule (α := Nat × Bool × Nat × List Bool) (fun (d, l, p, t) => p < 2 * n ∧ t.length = 8 ∧ ends n a b d l p ∧ fol n a b d l p t = R)
    (fun (d, l, p, t) => [(0, .ptr 0 0), (1, vb l), (2, vi p), (3, vi (-1)), (9, vi n)])
    (fun (d, l, p, t) => stO n a b t) (fun (d, _, _, _) => d) (17, l, p, s) [0, 1, 2]
    ⟨hp, hs, he, hR⟩ ⟨⟨rfl, rfl, rfl, rfl, rfl, trivial⟩, ⟨congrArg some stk_m1, rfl, rfl, trivial⟩, goodB_of stO_ids rfl⟩ ?_
  rintro ⟨d, l, p, t⟩ g ⟨hp, ht, he, hR⟩
  cases d with
  | zero => exact he.elim
  | succ d =>
  rw [fol_pack] at hR
  have hmt := s_meet1 l p
  cases l with
  | false =>
    have hq := ha.lt p hp
    replace he : isOut n false (a.getD p 0) = true ∨ ends n a b d true (a.getD p 0 - n) := he
    replace hR : (if isOut n false (a.getD p 0) = true then (a.getD p 0, false, t) else fol n a b d true (a.getD p 0 - n) (t.set (a.getD p 0 - n) true)) = R := hR
    by_cases ho : a.getD p 0 < n
    · have hot : isOut n false (a.getD p 0) = true := decide_eq_true ho
      rw [if_pos hot] at hR
      subst hR
      (repeat' (first | refine Exists.intro _ (And.intro (pcl_at (by omega)) ?_) | refine (hmt).pure rfl ?_ | refine Exists.intro _ (And.intro (stk_fn ht) ?_) | refine And.intro (neI rfl) ?_ | refine And.intro ⟨rfl, leR rfl, onesR rfl⟩ ?_ | refine And.intro ⟨rfl, leR rfl⟩ ?_ | refine draw_rule2 hfol (fun KK hKK => ?_) | refine hKK _ _ _ (by kernel_rfl) ?_ | refine region_rule (fun KK hKK => ?_) | refine hKK _ _ ?_ | refine And.intro (Eq.refl true) ?_ | refine Exists.intro _ (And.intro (wI (by omega)) ?_) | refine Exists.intro _ (And.intro (wU (by omega)) ?_) | refine Exists.intro _ (And.intro ⟨rfl, by omega⟩ ?_) | refine Exists.intro _ (And.intro rfl ?_) | refine And.intro rfl ?_ | refine And.intro ⟨rfl, rfl⟩ ?_ | ((refine And.intro (fun _ => ?_) (fun _ => ?_)) <;> try (exfalso; omega))))
      exact Exists.intro [0, 1, 2] (And.intro rfl (And.intro ⟨congrArg some stk_m1, rfl, rfl, trivial⟩ (goodB_of stO_ids rfl)))
    · have hof : isOut n false (a.getD p 0) = false := decide_eq_false ho
      rw [hof, if_neg (by decide)] at hR
      rw [hof] at he
      have he := he.resolve_left (by decide)
      have e1 : Int.tmod ((a.getD p 0 : Nat) : Int) (n : Int) = ((a.getD p 0 - n : Nat) : Int) := by
        rw [tmN, Nat.mod_eq_sub_mod (by omega), Nat.mod_eq_of_lt (by omega)]
      (repeat' (first | refine Exists.intro _ (And.intro (pcl_at (by omega)) ?_) | refine (hmt).pure rfl ?_ | refine Exists.intro _ (And.intro (stk_fn ht) ?_) | refine And.intro hn0 ?_ | refine Exists.intro _ (And.intro e1 ?_) | refine Exists.intro (stkG 1 2 (t.set (a.getD p 0 - n) true) FM) (And.intro ⟨by rw [stk_len ht]; omega, stk_set (by omega)⟩ ?_) | refine And.intro (neI rfl) ?_ | refine And.intro ⟨rfl, leR rfl, onesR rfl⟩ ?_ | refine And.intro ⟨rfl, leR rfl⟩ ?_ | refine draw_rule2 hfol (fun KK hKK => ?_) | refine hKK _ _ _ (by kernel_rfl) ?_ | refine region_rule (fun KK hKK => ?_) | refine hKK _ _ ?_ | refine And.intro (Eq.refl true) ?_ | refine Exists.intro _ (And.intro (wI (by omega)) ?_) | refine Exists.intro _ (And.intro (wU (by omega)) ?_) | refine Exists.intro _ (And.intro ⟨rfl, by omega⟩ ?_) | refine Exists.intro _ (And.intro rfl ?_) | refine And.intro rfl ?_ | refine And.intro ⟨rfl, rfl⟩ ?_ | ((refine And.intro (fun _ => ?_) (fun _ => ?_)) <;> try (exfalso; omega))))
      refine Exists.intro (d, true, a.getD p 0 - n, t.set (a.getD p 0 - n) true) (Exists.intro [0, 1, 2] (And.intro ⟨⟨by omega, by simpa using ht, he, hR⟩, (by show d < d + 1; omega)⟩ ⟨⟨rfl, rfl, rfl, rfl, rfl, trivial⟩, ⟨congrArg some stk_m1, rfl, rfl, trivial⟩, goodB_of stO_ids rfl⟩))
  | true =>
    have hq := hb.lt p hp
    replace he : isOut n true (b.getD p 0) = true ∨ ends n a b d false (n + b.getD p 0) := he
    replace hR : (if isOut n true (b.getD p 0) = true then (b.getD p 0, true, t) else fol n a b d false (n + b.getD p 0) (t.set (b.getD p 0) true)) = R := hR
    by_cases ho : n ≤ b.getD p 0
    · have hot : isOut n true (b.getD p 0) = true := decide_eq_true ho
      rw [if_pos hot] at hR
      subst hR
      (repeat' (first | refine Exists.intro _ (And.intro (pcl_at (by omega)) ?_) | refine (hmt).pure rfl ?_ | refine Exists.intro _ (And.intro (stk_fn ht) ?_) | refine And.intro (neI rfl) ?_ | refine And.intro ⟨rfl, leR rfl, onesR rfl⟩ ?_ | refine And.intro ⟨rfl, leR rfl⟩ ?_ | refine draw_rule2 hfol (fun KK hKK => ?_) | refine hKK _ _ _ (by kernel_rfl) ?_ | refine region_rule (fun KK hKK => ?_) | refine hKK _ _ ?_ | refine And.intro (Eq.refl true) ?_ | refine Exists.intro _ (And.intro (wI (by omega)) ?_) | refine Exists.intro _ (And.intro (wU (by omega)) ?_) | refine Exists.intro _ (And.intro ⟨rfl, by omega⟩ ?_) | refine Exists.intro _ (And.intro rfl ?_) | refine And.intro rfl ?_ | refine And.intro ⟨rfl, rfl⟩ ?_ | ((refine And.intro (fun _ => ?_) (fun _ => ?_)) <;> try (exfalso; omega))))
      exact Exists.intro [0, 1, 2] (And.intro rfl (And.intro ⟨congrArg some stk_m1, rfl, rfl, trivial⟩ (goodB_of stO_ids rfl)))
    · have hof : isOut n true (b.getD p 0) = false := decide_eq_false ho
      rw [hof, if_neg (by decide)] at hR
      rw [hof] at he
      have he := he.resolve_left (by decide)
      have e1 : Int.tmod ((b.getD p 0 : Nat) : Int) (n : Int) = ((b.getD p 0 : Nat) : Int) := by
        rw [tmN, Nat.mod_eq_of_lt (by omega)]
      have e2 : IntKind.i64.wrap ((n : Int) + ((b.getD p 0 : Nat) : Int)) = ((n + b.getD p 0 : Nat) : Int) := wC (by omega) (by omega)
      (repeat' (first | refine Exists.intro _ (And.intro (pcl_at (by omega)) ?_) | refine (hmt).pure rfl ?_ | refine Exists.intro _ (And.intro (stk_fn ht) ?_) | refine And.intro hn0 ?_ | refine Exists.intro _ (And.intro e1 ?_) | refine Exists.intro _ (And.intro e2 ?_) | refine Exists.intro (stkG 1 2 (t.set (b.getD p 0) true) FM) (And.intro ⟨by rw [stk_len ht]; omega, stk_set (by omega)⟩ ?_) | refine And.intro (neI rfl) ?_ | refine And.intro ⟨rfl, leR rfl, onesR rfl⟩ ?_ | refine And.intro ⟨rfl, leR rfl⟩ ?_ | refine draw_rule2 hfol (fun KK hKK => ?_) | refine hKK _ _ _ (by kernel_rfl) ?_ | refine region_rule (fun KK hKK => ?_) | refine hKK _ _ ?_ | refine And.intro (Eq.refl true) ?_ | refine Exists.intro _ (And.intro (wI (by omega)) ?_) | refine Exists.intro _ (And.intro (wU (by omega)) ?_) | refine Exists.intro _ (And.intro ⟨rfl, by omega⟩ ?_) | refine Exists.intro _ (And.intro rfl ?_) | refine And.intro rfl ?_ | refine And.intro ⟨rfl, rfl⟩ ?_ | ((refine And.intro (fun _ => ?_) (fun _ => ?_)) <;> try (exfalso; omega))))
      refine Exists.intro (d, false, n + b.getD p 0, t.set (b.getD p 0) true) (Exists.intro [0, 1, 2] (And.intro ⟨⟨by omega, by simpa using ht, he, hR⟩, (by show d < d + 1; omega)⟩ ⟨⟨rfl, rfl, rfl, rfl, rfl, trivial⟩, ⟨congrArg some stk_m1, rfl, rfl, trivial⟩, goodB_of stO_ids rfl⟩))

/-- Round a loop. -/
theorem s_followL (n : Nat) (a b : List Nat) (ha : IsV n a) (hb : IsV n b) (m : Nat) (hm : m < n) (s : List Bool) (hs : s.length = 8) (he : endM n a b m 8 true m) :
    Spec Try.prog n_i_stack_follow [.ptr 0 0, vb true, vi m, vi m] (stO n a b s) (vi (-1)) (stO n a b (flI n a b m 8 true m s)) := by
  have la := ha.len
  have lb := hb.len
  have hn := ha.n8
  have hn1 := ha.n1
  have hn0 : (n : Int) ≠ 0 := by omega
  generalize hR : flI n a b m 8 true m s = R
  refine SpecW.of_EV hf_i_stack_follow hc_i_stack_follow rfl rfl (by simp only [stO_ids]; rfl) fun w0 B ρ0 _ => ?_
  (repeat' (first | refine (s_n n a).read [1] rfl ⟨rfl, trivial⟩ ?_ | refine And.intro (neI rfl) ?_ | refine And.intro ⟨rfl, leR rfl, onesR rfl⟩ ?_ | refine And.intro ⟨rfl, leR rfl⟩ ?_ | refine draw_rule2 hfol (fun KK hKK => ?_) | refine hKK _ _ _ (by kernel_rfl) ?_ | refine region_rule (fun KK hKK => ?_) | refine hKK _ _ ?_ | refine And.intro (Eq.refl true) ?_ | refine Exists.intro _ (And.intro (wI (by omega)) ?_) | refine Exists.intro _ (And.intro (wU (by omega)) ?_) | refine Exists.intro _ (And.intro ⟨rfl, by omega⟩ ?_) | refine Exists.intro _ (And.intro rfl ?_) | refine And.intro rfl ?_ | refine And.intro ⟨rfl, rfl⟩ ?_ | ((refine And.intro (fun _ => ?_) (fun _ => ?_)) <;> try (exfalso; omega))))
  refine loop_rule (α := Nat × Bool × Nat × List Bool) (fun (d, l, p, t) => p < 2 * n ∧ t.length = 8 ∧ endM n a b m d l p ∧ flI n a b m d l p t = R)
    (fun (d, l, p, t) => [(0, .ptr 0 0), (1, vb l), (2, vi p), (3, vi m), (9, vi n)])
    (fun (d, l, p, t) => stO n a b t) (fun (d, _, _, _) => d) (8, true, m, s) [0, 1, 2]
    ⟨by omega, hs, he, hR⟩ ⟨⟨rfl, rfl, rfl, rfl, rfl, trivial⟩, ⟨congrArg some stk_m1, rfl, rfl, trivial⟩, goodB_of stO_ids rfl⟩ ?_
  rintro ⟨d, l, p, t⟩ g ⟨hp, ht, he, hR⟩
  cases d with
  | zero => exact he.elim
  | succ d =>
  rw [flI_pack] at hR
  have hmt := s_meet1 l p
  cases l with
  | false =>
    have hq := ha.lt p hp
    replace he : isOut n false (a.getD p 0) = false ∧ (a.getD p 0 - n = m ∨ endM n a b m d true (a.getD p 0 - n)) := he
    replace hR : (if a.getD p 0 - n = m then t.set (a.getD p 0 - n) true else flI n a b m d true (a.getD p 0 - n) (t.set (a.getD p 0 - n) true)) = R := hR
    obtain ⟨ho, he⟩ := he
    have ho : ¬ a.getD p 0 < n := of_decide_eq_false ho
    have e1 : Int.tmod ((a.getD p 0 : Nat) : Int) (n : Int) = ((a.getD p 0 - n : Nat) : Int) := by
      rw [tmN, Nat.mod_eq_sub_mod (by omega), Nat.mod_eq_of_lt (by omega)]
    by_cases hx : a.getD p 0 - n = m
    · rw [if_pos hx] at hR
      (repeat' (first | refine Exists.intro _ (And.intro (pcl_at (by omega)) ?_) | refine (hmt).pure rfl ?_ | refine Exists.intro _ (And.intro (stk_fn ht) ?_) | refine And.intro hn0 ?_ | refine Exists.intro _ (And.intro e1 ?_) | refine Exists.intro (stkG 1 2 R FM) (And.intro ⟨by rw [stk_len ht]; omega, by rw [← hR]; exact stk_set (by omega)⟩ ?_) | refine And.intro (neI rfl) ?_ | refine And.intro ⟨rfl, leR rfl, onesR rfl⟩ ?_ | refine And.intro ⟨rfl, leR rfl⟩ ?_ | refine draw_rule2 hfol (fun KK hKK => ?_) | refine hKK _ _ _ (by kernel_rfl) ?_ | refine region_rule (fun KK hKK => ?_) | refine hKK _ _ ?_ | refine And.intro (Eq.refl true) ?_ | refine Exists.intro _ (And.intro (wI (by omega)) ?_) | refine Exists.intro _ (And.intro (wU (by omega)) ?_) | refine Exists.intro _ (And.intro ⟨rfl, by omega⟩ ?_) | refine Exists.intro _ (And.intro rfl ?_) | refine And.intro rfl ?_ | refine And.intro ⟨rfl, rfl⟩ ?_ | ((refine And.intro (fun _ => ?_) (fun _ => ?_)) <;> try (exfalso; omega))))
      exact Exists.intro [0, 1, 2] (And.intro rfl (And.intro ⟨congrArg some stk_m1, rfl, rfl, trivial⟩ (goodB_of stO_ids rfl)))
    · rw [if_neg hx] at hR
      have he := he.resolve_left hx
      (repeat' (first | refine Exists.intro _ (And.intro (pcl_at (by omega)) ?_) | refine (hmt).pure rfl ?_ | refine Exists.intro _ (And.intro (stk_fn ht) ?_) | refine And.intro hn0 ?_ | refine Exists.intro _ (And.intro e1 ?_) | refine Exists.intro (stkG 1 2 (t.set (a.getD p 0 - n) true) FM) (And.intro ⟨by rw [stk_len ht]; omega, stk_set (by omega)⟩ ?_) | refine And.intro (neI rfl) ?_ | refine And.intro ⟨rfl, leR rfl, onesR rfl⟩ ?_ | refine And.intro ⟨rfl, leR rfl⟩ ?_ | refine draw_rule2 hfol (fun KK hKK => ?_) | refine hKK _ _ _ (by kernel_rfl) ?_ | refine region_rule (fun KK hKK => ?_) | refine hKK _ _ ?_ | refine And.intro (Eq.refl true) ?_ | refine Exists.intro _ (And.intro (wI (by omega)) ?_) | refine Exists.intro _ (And.intro (wU (by omega)) ?_) | refine Exists.intro _ (And.intro ⟨rfl, by omega⟩ ?_) | refine Exists.intro _ (And.intro rfl ?_) | refine And.intro rfl ?_ | refine And.intro ⟨rfl, rfl⟩ ?_ | ((refine And.intro (fun _ => ?_) (fun _ => ?_)) <;> try (exfalso; omega))))
      refine Exists.intro (d, true, a.getD p 0 - n, t.set (a.getD p 0 - n) true) (Exists.intro [0, 1, 2] (And.intro ⟨⟨by omega, by simpa using ht, he, hR⟩, (by show d < d + 1; omega)⟩ ⟨⟨rfl, rfl, rfl, rfl, rfl, trivial⟩, ⟨congrArg some stk_m1, rfl, rfl, trivial⟩, goodB_of stO_ids rfl⟩))
  | true =>
    have hq := hb.lt p hp
    replace he : isOut n true (b.getD p 0) = false ∧ (b.getD p 0 = m ∨ endM n a b m d false (n + b.getD p 0)) := he
    replace hR : (if b.getD p 0 = m then t.set (b.getD p 0) true else flI n a b m d false (n + b.getD p 0) (t.set (b.getD p 0) true)) = R := hR
    obtain ⟨ho, he⟩ := he
    have ho : ¬ n ≤ b.getD p 0 := of_decide_eq_false ho
    have e1 : Int.tmod ((b.getD p 0 : Nat) : Int) (n : Int) = ((b.getD p 0 : Nat) : Int) := by
      rw [tmN, Nat.mod_eq_of_lt (by omega)]
    have e2 : IntKind.i64.wrap ((n : Int) + ((b.getD p 0 : Nat) : Int)) = ((n + b.getD p 0 : Nat) : Int) := wC (by omega) (by omega)
    by_cases hx : b.getD p 0 = m
    · rw [if_pos hx] at hR
      (repeat' (first | refine Exists.intro _ (And.intro (pcl_at (by omega)) ?_) | refine (hmt).pure rfl ?_ | refine Exists.intro _ (And.intro (stk_fn ht) ?_) | refine And.intro hn0 ?_ | refine Exists.intro _ (And.intro e1 ?_) | refine Exists.intro _ (And.intro e2 ?_) | refine Exists.intro (stkG 1 2 R FM) (And.intro ⟨by rw [stk_len ht]; omega, by rw [← hR]; exact stk_set (by omega)⟩ ?_) | refine And.intro (neI rfl) ?_ | refine And.intro ⟨rfl, leR rfl, onesR rfl⟩ ?_ | refine And.intro ⟨rfl, leR rfl⟩ ?_ | refine draw_rule2 hfol (fun KK hKK => ?_) | refine hKK _ _ _ (by kernel_rfl) ?_ | refine region_rule (fun KK hKK => ?_) | refine hKK _ _ ?_ | refine And.intro (Eq.refl true) ?_ | refine Exists.intro _ (And.intro (wI (by omega)) ?_) | refine Exists.intro _ (And.intro (wU (by omega)) ?_) | refine Exists.intro _ (And.intro ⟨rfl, by omega⟩ ?_) | refine Exists.intro _ (And.intro rfl ?_) | refine And.intro rfl ?_ | refine And.intro ⟨rfl, rfl⟩ ?_ | ((refine And.intro (fun _ => ?_) (fun _ => ?_)) <;> try (exfalso; omega))))
      exact Exists.intro [0, 1, 2] (And.intro rfl (And.intro ⟨congrArg some stk_m1, rfl, rfl, trivial⟩ (goodB_of stO_ids rfl)))
    · rw [if_neg hx] at hR
      have he := he.resolve_left hx
      (repeat' (first | refine Exists.intro _ (And.intro (pcl_at (by omega)) ?_) | refine (hmt).pure rfl ?_ | refine Exists.intro _ (And.intro (stk_fn ht) ?_) | refine And.intro hn0 ?_ | refine Exists.intro _ (And.intro e1 ?_) | refine Exists.intro _ (And.intro e2 ?_) | refine Exists.intro (stkG 1 2 (t.set (b.getD p 0) true) FM) (And.intro ⟨by rw [stk_len ht]; omega, stk_set (by omega)⟩ ?_) | refine And.intro (neI rfl) ?_ | refine And.intro ⟨rfl, leR rfl, onesR rfl⟩ ?_ | refine And.intro ⟨rfl, leR rfl⟩ ?_ | refine draw_rule2 hfol (fun KK hKK => ?_) | refine hKK _ _ _ (by kernel_rfl) ?_ | refine region_rule (fun KK hKK => ?_) | refine hKK _ _ ?_ | refine And.intro (Eq.refl true) ?_ | refine Exists.intro _ (And.intro (wI (by omega)) ?_) | refine Exists.intro _ (And.intro (wU (by omega)) ?_) | refine Exists.intro _ (And.intro ⟨rfl, by omega⟩ ?_) | refine Exists.intro _ (And.intro rfl ?_) | refine And.intro rfl ?_ | refine And.intro ⟨rfl, rfl⟩ ?_ | ((refine And.intro (fun _ => ?_) (fun _ => ?_)) <;> try (exfalso; omega))))
      refine Exists.intro (d, false, n + b.getD p 0, t.set (b.getD p 0) true) (Exists.intro [0, 1, 2] (And.intro ⟨⟨by omega, by simpa using ht, he, hR⟩, (by show d < d + 1; omega)⟩ ⟨⟨rfl, rfl, rfl, rfl, rfl, trivial⟩, ⟨congrArg some stk_m1, rfl, rfl, trivial⟩, goodB_of stO_ids rfl⟩))
end Go.Proofs.Ytgpgcdofhkpeaaa.VE
