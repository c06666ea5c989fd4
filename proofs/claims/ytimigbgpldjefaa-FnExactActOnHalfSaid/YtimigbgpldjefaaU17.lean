/- Contracts of functions of the given program, for all arguments that the contract names; see each theorem. -/
import Derived.Test.YtimigbgpldjefaaQ2
import Derived.Test.YtimigbgpldjefaaEd
set_option linter.all false
namespace Go.Proofs.Ytimigbgpldjefaa.VE
open Go
set_option maxHeartbeats 800000
set_option maxRecDepth 100000

theorem fol_pack {n : Nat} {a b : List Nat} {d : Nat} {l : Bool} {p : Nat} {s : List Bool} : fol n a b (d + 1) l p s = if isOut n l (mt a b l p) = true then (mt a b l p, l, s) else fol n a b d (!l) (ep n (!l) (md n l (mt a b l p))) (s.set (md n l (mt a b l p)) true) := rfl

theorem s_sfollow (n : Nat) (a b : List Nat) (ha : IsV n a) (hb : IsV n b) (l : Bool) (p : Nat) (s : List Bool) (hs : s.length = 8) (hp : p < 2 * n) (he : ends n a b 17 l p) :
    Spec Try.prog n_s_l01Follow [pv n a, pv n b, vi p, vb (!l), .ptr 0 0] [.pc (bbl s) T_a8q_bool] (.tup [vi ((fol n a b 17 l p s).1 : Nat), vb (!(fol n a b 17 l p s).2.1)]) [.pc (bbl (fol n a b 17 l p s).2.2) T_a8q_bool] := by
  have la := ha.len
  have lb := hb.len
  have hn := ha.n8
  generalize hR : fol n a b 17 l p s = R
  refine SpecW.of_EV hf_s_l01Follow hc_s_l01Follow rfl rfl rfl fun w0 B ρ0 _ => ?_
  (repeat' (first | refine And.intro (neI rfl) ?_ | refine And.intro ⟨rfl, leR rfl, onesR rfl⟩ ?_ | refine And.intro ⟨rfl, leR rfl⟩ ?_ | refine draw_rule2 hfol (fun KK hKK => ?_) | refine hKK _ _ _ (by kernel_rfl) ?_ | refine region_rule (fun KK hKK => ?_) | refine hKK _ _ ?_ | refine And.intro (Eq.refl true) ?_ | refine Exists.intro _ (And.intro (wI (by omega)) ?_) | refine Exists.intro _ (And.intro (wU (by omega)) ?_) | refine Exists.intro _ (And.intro ⟨rfl, by omega⟩ ?_) | refine Exists.intro _ (And.intro rfl ?_) | refine And.intro rfl ?_ | refine And.intro ⟨rfl, rfl⟩ ?_ | ((refine And.intro (fun _ => ?_) (fun _ => ?_)) <;> try (exfalso; omega))))
  refine loop_rule (α := Nat × Bool × Nat × List Bool) (fun (d, l, p, t) => p < 2 * n ∧ t.length = 8 ∧ ends n a b d l p ∧ fol n a b d l p t = R)
    (fun (d, l, p, t) => [(2, vi p), (3, vb (!l)), (4, .ptr 0 0), (5, .ptr 1 0), (6, .ptr 2 0), (12, vi n)])
    (fun (d, l, p, t) => [.pc (bbl t) T_a8q_bool, .pc (pcl n a) T_i_Diagram, .pc (pcl n b) T_i_Diagram]) (fun (d, _, _, _) => d) (17, l, p, s) [0, 1, 2]
    ⟨hp, hs, he, hR⟩ ⟨⟨rfl, rfl, rfl, rfl, rfl, rfl, trivial⟩, ⟨rfl, rfl, rfl, trivial⟩, rfl⟩ ?_
  rintro ⟨d, l, p, t⟩ g ⟨hp, ht, he, hR⟩
  cases d with
  | zero => exact he.elim
  | succ d =>
  rw [fol_pack] at hR
  cases l with
  | false =>
    have hq := ha.lt p hp
    replace he : isOut n false (a.getD p 0) = true ∨ ends n a b d true (a.getD p 0 - n) := he
    replace hR : (if isOut n false (a.getD p 0) = true then (a.getD p 0, false, t) else fol n a b d true (a.getD p 0 - n) (t.set (a.getD p 0 - n) true)) = R := hR
    by_cases ho : a.getD p 0 < n
    · have hot : isOut n false (a.getD p 0) = true := decide_eq_true ho
      rw [if_pos hot] at hR
      subst hR
      (repeat' (first | refine Exists.intro _ (And.intro (pcl_at (by omega)) ?_) | refine And.intro (neI rfl) ?_ | refine And.intro ⟨rfl, leR rfl, onesR rfl⟩ ?_ | refine And.intro ⟨rfl, leR rfl⟩ ?_ | refine draw_rule2 hfol (fun KK hKK => ?_) | refine hKK _ _ _ (by kernel_rfl) ?_ | refine region_rule (fun KK hKK => ?_) | refine hKK _ _ ?_ | refine And.intro (Eq.refl true) ?_ | refine Exists.intro _ (And.intro (wI (by omega)) ?_) | refine Exists.intro _ (And.intro (wU (by omega)) ?_) | refine Exists.intro _ (And.intro ⟨rfl, by omega⟩ ?_) | refine Exists.intro _ (And.intro rfl ?_) | refine And.intro rfl ?_ | refine And.intro ⟨rfl, rfl⟩ ?_ | ((refine And.intro (fun _ => ?_) (fun _ => ?_)) <;> try (exfalso; omega))))
      exact Exists.intro [0] (And.intro (rfl) (And.intro ⟨rfl, trivial⟩ rfl))
    · have hof : isOut n false (a.getD p 0) = false := decide_eq_false ho
      rw [hof, if_neg (by decide)] at hR
      rw [hof] at he
      have he := he.resolve_left (by decide)
      have e1 : IntKind.i64.wrap (((a.getD p 0 : Nat) : Int) - (n : Int)) = ((a.getD p 0 - n : Nat) : Int) := wC (by omega) (by omega)
      (repeat' (first | refine Exists.intro _ (And.intro (pcl_at (by omega)) ?_) | refine Exists.intro _ (And.intro e1 ?_) | refine Exists.intro (bbl (t.set (a.getD p 0 - n) true)) (And.intro ⟨by rw [bbl_len ht]; omega, bbl_set⟩ ?_) | refine And.intro (neI rfl) ?_ | refine And.intro ⟨rfl, leR rfl, onesR rfl⟩ ?_ | refine And.intro ⟨rfl, leR rfl⟩ ?_ | refine draw_rule2 hfol (fun KK hKK => ?_) | refine hKK _ _ _ (by kernel_rfl) ?_ | refine region_rule (fun KK hKK => ?_) | refine hKK _ _ ?_ | refine And.intro (Eq.refl true) ?_ | refine Exists.intro _ (And.intro (wI (by omega)) ?_) | refine Exists.intro _ (And.intro (wU (by omega)) ?_) | refine Exists.intro _ (And.intro ⟨rfl, by omega⟩ ?_) | refine Exists.intro _ (And.intro rfl ?_) | refine And.intro rfl ?_ | refine And.intro ⟨rfl, rfl⟩ ?_ | ((refine And.intro (fun _ => ?_) (fun _ => ?_)) <;> try (exfalso; omega))))
      refine Exists.intro (d, true, a.getD p 0 - n, t.set (a.getD p 0 - n) true) (Exists.intro [0, 1, 2] (And.intro ⟨⟨by omega, by simpa using ht, he, hR⟩, (by show d < d + 1; omega)⟩ ⟨⟨rfl, rfl, rfl, rfl, rfl, rfl, trivial⟩, ⟨rfl, rfl, rfl, trivial⟩, rfl⟩))
  | true =>
    have hq := hb.lt p hp
    replace he : isOut n true (b.getD p 0) = true ∨ ends n a b d false (n + b.getD p 0) := he
    replace hR : (if isOut n true (b.getD p 0) = true then (b.getD p 0, true, t) else fol n a b d false (n + b.getD p 0) (t.set (b.getD p 0) true)) = R := hR
    by_cases ho : n ≤ b.getD p 0
    · have hot : isOut n true (b.getD p 0) = true := decide_eq_true ho
      rw [if_pos hot] at hR
      subst hR
      (repeat' (first | refine Exists.intro _ (And.intro (pcl_at (by omega)) ?_) | refine And.intro (neI rfl) ?_ | refine And.intro ⟨rfl, leR rfl, onesR rfl⟩ ?_ | refine And.intro ⟨rfl, leR rfl⟩ ?_ | refine draw_rule2 hfol (fun KK hKK => ?_) | refine hKK _ _ _ (by kernel_rfl) ?_ | refine region_rule (fun KK hKK => ?_) | refine hKK _ _ ?_ | refine And.intro (Eq.refl true) ?_ | refine Exists.intro _ (And.intro (wI (by omega)) ?_) | refine Exists.intro _ (And.intro (wU (by omega)) ?_) | refine Exists.intro _ (And.intro ⟨rfl, by omega⟩ ?_) | refine Exists.intro _ (And.intro rfl ?_) | refine And.intro rfl ?_ | refine And.intro ⟨rfl, rfl⟩ ?_ | ((refine And.intro (fun _ => ?_) (fun _ => ?_)) <;> try (exfalso; omega))))
      exact Exists.intro [0] (And.intro (rfl) (And.intro ⟨rfl, trivial⟩ rfl))
    · have hof : isOut n true (b.getD p 0) = false := decide_eq_false ho
      rw [hof, if_neg (by decide)] at hR
      rw [hof] at he
      have he := he.resolve_left (by decide)
      have e1 : IntKind.i64.wrap ((n : Int) + ((b.getD p 0 : Nat) : Int)) = ((n + b.getD p 0 : Nat) : Int) := wC (by omega) (by omega)
      (repeat' (first | refine Exists.intro _ (And.intro (pcl_at (by omega)) ?_) | refine Exists.intro _ (And.intro e1 ?_) | refine Exists.intro (bbl (t.set (b.getD p 0) true)) (And.intro ⟨by rw [bbl_len ht]; omega, bbl_set⟩ ?_) | refine And.intro (neI rfl) ?_ | refine And.intro ⟨rfl, leR rfl, onesR rfl⟩ ?_ | refine And.intro ⟨rfl, leR rfl⟩ ?_ | refine draw_rule2 hfol (fun KK hKK => ?_) | refine hKK _ _ _ (by kernel_rfl) ?_ | refine region_rule (fun KK hKK => ?_) | refine hKK _ _ ?_ | refine And.intro (Eq.refl true) ?_ | refine Exists.intro _ (And.intro (wI (by omega)) ?_) | refine Exists.intro _ (And.intro (wU (by omega)) ?_) | refine Exists.intro _ (And.intro ⟨rfl, by omega⟩ ?_) | refine Exists.intro _ (And.intro rfl ?_) | refine And.intro rfl ?_ | refine And.intro ⟨rfl, rfl⟩ ?_ | ((refine And.intro (fun _ => ?_) (fun _ => ?_)) <;> try (exfalso; omega))))
      refine Exists.intro (d, false, n + b.getD p 0, t.set (b.getD p 0) true) (Exists.intro [0, 1, 2] (And.intro ⟨⟨by omega, by simpa using ht, he, hR⟩, (by show d < d + 1; omega)⟩ ⟨⟨rfl, rfl, rfl, rfl, rfl, rfl, trivial⟩, ⟨rfl, rfl, rfl, trivial⟩, rfl⟩))

/-- The stack of the program: both diagrams, what is met, and a function. -/
def stkG (i j : Nat) (s : List Bool) (F : V) : List V := .ptr i 0 :: .ptr j 0 :: ((bbl s).map V.raw ++ [F])
theorem stk_mo {σ : Nat → Nat} {i j : Nat} {s : List Bool} {F : V} {T : TypeId} : O.cc (stkG (σ i) (σ j) s (F.mapIds σ)) T = O.mapIds σ (.cc (stkG i j s F) T) := by
  simp only [O.mapIds, stkG, mapIdsL, mapIdsL_append, mapIdsL_raw, V.mapIds]
theorem stk_ids {i j : Nat} {s : List Bool} {F : V} : idsL (stkG i j s F) = i :: j :: F.ids := by
  simp only [stkG, idsL, V.ids, idsL_append, idsL_map_raw, List.nil_append, List.append_nil, List.singleton_append]
theorem stk_len {i j : Nat} {s : List Bool} {F : V} (h : s.length = 8) : (stkG i j s F).length = 11 := by simp [stkG, bbl, h]
theorem stk_at {i j k : Nat} {s : List Bool} {F : V} {b : Bool} (h : k < s.length) (hb : s.getD k false = b) : (stkG i j s F)[2 + k]? = some (vb b) := by
  have := bbl_at h hb
  rw [Nat.add_comm]
  simp only [stkG, List.getElem?_cons_succ]
  rw [List.getElem?_append_left (by simpa [bbl] using h), List.getElem?_map, this]; rfl
theorem stk_fn {i j : Nat} {s : List Bool} {F : V} (h : s.length = 8) : (stkG i j s F)[10]? = some F := by
  simp only [stkG, List.getElem?_cons_succ]
  rw [List.getElem?_append_right (by simp [bbl, h])]
  simp [bbl, h]
theorem stk_set {i j k : Nat} {s : List Bool} {F : V} {b : Bool} (h : k < s.length) : (stkG i j s F).set (2 + k) (vb b) = stkG i j (s.set k b) F := by
  rw [Nat.add_comm]
  simp only [stkG, List.set_cons_succ]
  rw [List.set_append, if_pos (by simpa [bbl] using h), ← List.map_set, bbl_set]

theorem s_meet1 (l : Bool) (p : Nat) : Spec Try.prog n_i_times_1 [vb l, vi p] [] (.tup []) [] := by
  refine SpecW.of_EV hf_i_times_1 hc_i_times_1 rfl rfl rfl fun w0 B ρ0 _ => ?_
  (repeat' (first | refine And.intro (neI rfl) ?_ | refine And.intro ⟨rfl, leR rfl, onesR rfl⟩ ?_ | refine And.intro ⟨rfl, leR rfl⟩ ?_ | refine draw_rule2 hfol (fun KK hKK => ?_) | refine hKK _ _ _ (by kernel_rfl) ?_ | refine region_rule (fun KK hKK => ?_) | refine hKK _ _ ?_ | refine And.intro (Eq.refl true) ?_ | refine Exists.intro _ (And.intro (wI (by omega)) ?_) | refine Exists.intro _ (And.intro (wU (by omega)) ?_) | refine Exists.intro _ (And.intro ⟨rfl, by omega⟩ ?_) | refine Exists.intro _ (And.intro rfl ?_) | refine And.intro rfl ?_ | refine And.intro ⟨rfl, rfl⟩ ?_ | ((refine And.intro (fun _ => ?_) (fun _ => ?_)) <;> try (exfalso; omega))))
  exact Exists.intro [] (And.intro (rfl) (And.intro trivial rfl))
abbrev FM : V := .fn (.func n_i_times_1) [] []
abbrev stO (n : Nat) (a b : List Nat) (s : List Bool) : List O := [.cc (stkG 1 2 s FM) T_i_stack, .pc (pcl n a) T_i_Diagram, .pc (pcl n b) T_i_Diagram]
theorem stk_m1 {s : List Bool} {T : TypeId} : O.cc (stkG 1 2 s FM) T = O.mapIds (atL [0, 1, 2]) (.cc (stkG 1 2 s FM) T) := stk_mo (σ := atL [0, 1, 2]) (i := 1) (j := 2) (s := s) (F := FM) (T := T)
theorem stO_ids {n : Nat} {a b : List Nat} {s : List Bool} : idsO (stO n a b s) = [1, 2] := by
  simp only [idsO, O.ids, stk_ids]; rfl

theorem s_follow (n : Nat) (a b : List Nat) (ha : IsV n a) (hb : IsV n b) (l : Bool) (p : Nat) (s : List Bool) (hs : s.length = 8) (hp : p < 2 * n) (he : ends n a b 17 l p) :
    Spec Try.prog n_i_stack_follow [.ptr 0 0, vb l, vi p, vi (-1)] (stO n a b s) (vi ((fol n a b 17 l p s).1 : Nat)) (stO n a b (fol n a b 17 l p s).2.2) := by
  have la := ha.len
  have lb := hb.len
  have hn := ha.n8
  have hn1 := ha.n1
  have hn0 : (n : Int) ≠ 0 := by omega
  generalize hR : fol n a b 17 l p s = R
  refine SpecW.of_EV hf_i_stack_follow hc_i_stack_follow rfl rfl (by simp only [stO_ids]; rfl) fun w0 B ρ0 _ => ?_
  (repeat' (first | refine (s_n n a).read [1] rfl ⟨rfl, trivial⟩ ?_ | refine And.intro (neI rfl) ?_ | refine And.intro ⟨rfl, leR rfl, onesR rfl⟩ ?_ | refine And.intro ⟨rfl, leR rfl⟩ ?_ | refine draw_rule2 hfol (fun KK hKK => ?_) | refine hKK _ _ _ (by kernel_rfl) ?_ | refine region_rule (fun KK hKK => ?_) | refine hKK _ _ ?_ | refine And.intro (Eq.refl true) ?_ | refine Exists.intro _ (And.intro (wI (by omega)) ?_) | refine Exists.intro _ (And.intro (wU (by omega)) ?_) | refine Exists.intro _ (And.intro ⟨rfl, by omega⟩ ?_) | refine Exists.intro _ (And.intro rfl ?_) | refine And.intro rfl ?_ | refine And.intro ⟨rfl, rfl⟩ ?_ | ((refine And.intro (fun _ => ?_) (fun _ => ?_)) <;> try (exfalso; omega))))
  refine loop_rule (α := Nat × Bool × Nat × List Bool) (fun (d, l, p, t) => p < 2 * n ∧ t.length = 8 ∧ ends n a b d l p ∧ fol n a b d l p t = R)
    (fun (d, l, p, t) => [(0, .ptr 0 0), (1, vb l), (2, vi p), (3, vi (-1)), (9, vi n)])
    (fun (d, l, p, t) => stO n a b t) (fun (d, _, _, _) => d) (17, l, p, s) [0, 1, 2]
    ⟨hp, hs, he, hR⟩ ⟨⟨rfl, rfl, rfl, rfl, rfl, trivial⟩, ⟨congrArg some stk_m1, rfl, rfl, trivial⟩, goodB_of stO_ids rfl⟩ ?_
  rintro ⟨d, l, p, t⟩ g ⟨hp, ht, he, hR⟩
  cases d with
  | zero => exact he.elim
  | succ d =>
  rw [fol_pack] at hR
  have hmt := s_meet1 l p
  cases l with
  | false =>
    have hq := ha.lt p hp
    replace he : isOut n false (a.getD p 0) = true ∨ ends n a b d true (a.getD p 0 - n) := he
    replace hR : (if isOut n false (a.getD p 0) = true then (a.getD p 0, false, t) else fol n a b d true (a.getD p 0 - n) (t.set (a.getD p 0 - n) true)) = R := hR
    by_cases ho : a.getD p 0 < n
    · have hot : isOut n false (a.getD p 0) = true := decide_eq_true ho
      rw [if_pos hot] at hR
      subst hR
      (repeat' (first | refine Exists.intro _ (And.intro (pcl_at (by omega)) ?_) | refine (hmt).pure rfl ?_ | refine Exists.intro _ (And.intro (stk_fn ht) ?_) | refine And.intro (neI rfl) ?_ | refine And.intro ⟨rfl, leR rfl, onesR rfl⟩ ?_ | refine And.intro ⟨rfl, leR rfl⟩ ?_ | refine draw_rule2 hfol (fun KK hKK => ?_) | refine hKK _ _ _ (by kernel_rfl) ?_ | refine region_rule (fun KK hKK => ?_) | refine hKK _ _ ?_ | refine And.intro (Eq.refl true) ?_ | refine Exists.intro _ (And.intro (wI (by omega)) ?_) | refine Exists.intro _ (And.intro (wU (by omega)) ?_) | refine Exists.intro _ (And.intro ⟨rfl, by omega⟩ ?_) | refine Exists.intro _ (And.intro rfl ?_) | refine And.intro rfl ?_ | refine And.intro ⟨rfl, rfl⟩ ?_ | ((refine And.intro (fun _ => ?_) (fun _ => ?_)) <;> try (exfalso; omega))))
      exact Exists.intro [0, 1, 2] (And.intro rfl (And.intro ⟨congrArg some stk_m1, rfl, rfl, trivial⟩ (goodB_of stO_ids rfl)))
    · have hof : isOut n false (a.getD p 0) = false := decide_eq_false ho
      rw [hof, if_neg (by decide)] at hR
      rw [hof] at he
      have he := he.resolve_left (by decide)
      have e1 : Int.tmod ((a.getD p 0 : Nat) : Int) (n : Int) = ((a.getD p 0 - n : Nat) : Int) := by
        rw [tmN, Nat.mod_eq_sub_mod (by omega), Nat.mod_eq_of_lt (by omega)]
      (repeat' (first | refine Exists.intro _ (And.intro (pcl_at (by omega)) ?_) | refine (hmt).pure rfl ?_ | refine Exists.intro _ (And.intro (stk_fn ht) ?_) | refine And.intro hn0 ?_ | refine Exists.intro _ (And.intro e1 ?_) | refine Exists.intro (stkG 1 2 (t.set (a.getD p 0 - n) true) FM) (And.intro ⟨by rw [stk_len ht]; omega, stk_set (by omega)⟩ ?_) | refine And.intro (neI rfl) ?_ | refine And.intro ⟨rfl, leR rfl, onesR rfl⟩ ?_ | refine And.intro ⟨rfl, leR rfl⟩ ?_ | refine draw_rule2 hfol (fun KK hKK => ?_) | refine hKK _ _ _ (by kernel_rfl) ?_ | refine region_rule (fun KK hKK => ?_) | refine hKK _ _ ?_ | refine And.intro (Eq.refl true) ?_ | refine Exists.intro _ (And.intro (wI (by omega)) ?_) | refine Exists.intro _ (And.intro (wU (by omega)) ?_) | refine Exists.intro _ (And.intro ⟨rfl, by omega⟩ ?_) | refine Exists.intro _ (And.intro rfl ?_) | refine And.intro rfl ?_ | refine And.intro ⟨rfl, rfl⟩ ?_ | ((refine And.intro (fun _ => ?_) (fun _ => ?_)) <;> try (exfalso; omega))))
      refine Exists.intro (d, true, a.getD p 0 - n, t.set (a.getD p 0 - n) true) (Exists.intro [0, 1, 2] (And.intro ⟨⟨by omega, by simpa using ht, he, hR⟩, (by show d < d + 1; omega)⟩ ⟨⟨rfl, rfl, rfl, rfl, rfl, trivial⟩, ⟨congrArg some stk_m1, rfl, rfl, trivial⟩, goodB_of stO_ids rfl⟩))
  | true =>
    have hq := hb.lt p hp
    replace he : isOut n true (b.getD p 0) = true ∨ ends n a b d false (n + b.getD p 0) := he
    replace hR : (if isOut n true (b.getD p 0) = true then (b.getD p 0, true, t) else fol n a b d false (n + b.getD p 0) (t.set (b.getD p 0) true)) = R := hR
    by_cases ho : n ≤ b.getD p 0
    · have hot : isOut n true (b.getD p 0) = true := decide_eq_true ho
      rw [if_pos hot] at hR
      subst hR
      (repeat' (first | refine Exists.intro _ (And.intro (pcl_at (by omega)) ?_) | refine (hmt).pure rfl ?_ | refine Exists.intro _ (And.intro (stk_fn ht) ?_) | refine And.intro (neI rfl) ?_ | refine And.intro ⟨rfl, leR rfl, onesR rfl⟩ ?_ | refine And.intro ⟨rfl, leR rfl⟩ ?_ | refine draw_rule2 hfol (fun KK hKK => ?_) | refine hKK _ _ _ (by kernel_rfl) ?_ | refine region_rule (fun KK hKK => ?_) | refine hKK _ _ ?_ | refine And.intro (Eq.refl true) ?_ | refine Exists.intro _ (And.intro (wI (by omega)) ?_) | refine Exists.intro _ (And.intro (wU (by omega)) ?_) | refine Exists.intro _ (And.intro ⟨rfl, by omega⟩ ?_) | refine Exists.intro _ (And.intro rfl ?_) | refine And.intro rfl ?_ | refine And.intro ⟨rfl, rfl⟩ ?_ | ((refine And.intro (fun _ => ?_) (fun _ => ?_)) <;> try (exfalso; omega))))
      exact Exists.intro [0, 1, 2] (And.intro rfl (And.intro ⟨congrArg some stk_m1, rfl, rfl, trivial⟩ (goodB_of stO_ids rfl)))
    · have hof : isOut n true (b.getD p 0) = false := decide_eq_false ho
      rw [hof, if_neg (by decide)] at hR
      rw [hof] at he
      have he := he.resolve_left (by decide)
      have e1 : Int.tmod ((b.getD p 0 : Nat) : Int) (n : Int) = ((b.getD p 0 : Nat) : Int) := by
        rw [tmN, Nat.mod_eq_of_lt (by omega)]
      have e2 : IntKind.i64.wrap ((n : Int) + ((b.getD p 0 : Nat) : Int)) = ((n + b.getD p 0 : Nat) : Int) := wC (by omega) (by omega)
      (repeat' (first | refine Exists.intro _ (And.intro (pcl_at (by omega)) ?_) | refine (hmt).pure rfl ?_ | refine Exists.intro _ (And.intro (stk_fn ht) ?_) | refine And.intro hn0 ?_ | refine Exists.intro _ (And.intro e1 ?_) | refine Exists.intro _ (And.intro e2 ?_) | refine Exists.intro (stkG 1 2 (t.set (b.getD p 0) true) FM) (And.intro ⟨by rw [stk_len ht]; omega, stk_set (by omega)⟩ ?_) | refine And.intro (neI rfl) ?_ | refine And.intro ⟨rfl, leR rfl, onesR rfl⟩ ?_ | refine And.intro ⟨rfl, leR rfl⟩ ?_ | refine draw_rule2 hfol (fun KK hKK => ?_) | refine hKK _ _ _ (by kernel_rfl) ?_ | refine region_rule (fun KK hKK => ?_) | refine hKK _ _ ?_ | refine And.intro (Eq.refl true) ?_ | refine Exists.intro _ (And.intro (wI (by omega)) ?_) | refine Exists.intro _ (And.intro (wU (by omega)) ?_) | refine Exists.intro _ (And.intro ⟨rfl, by omega⟩ ?_) | refine Exists.intro _ (And.intro rfl ?_) | refine And.intro rfl ?_ | refine And.intro ⟨rfl, rfl⟩ ?_ | ((refine And.intro (fun _ => ?_) (fun _ => ?_)) <;> try (exfalso; omega))))
      refine Exists.intro (d, false, n + b.getD p 0, t.set (b.getD p 0) true) (Exists.intro [0, 1, 2] (And.intro ⟨⟨by omega, by simpa using ht, he, hR⟩, (by show d < d + 1; omega)⟩ ⟨⟨rfl, rfl, rfl, rfl, rfl, trivial⟩, ⟨congrArg some stk_m1, rfl, rfl, trivial⟩, goodB_of stO_ids rfl⟩))

theorem flI_pack {n : Nat} {a b : List Nat} {m d : Nat} {l : Bool} {p : Nat} {s : List Bool} : flI n a b m (d + 1) l p s = if md n l (mt a b l p) = m then s.set (md n l (mt a b l p)) true else flI n a b m d (!l) (ep n (!l) (md n l (mt a b l p))) (s.set (md n l (mt a b l p)) true) := rfl
/-- Round a loop. -/
theorem s_followL (n : Nat) (a b : List Nat) (ha : IsV n a) (hb : IsV n b) (m : Nat) (hm : m < n) (s : List Bool) (hs : s.length = 8) (he : endM n a b m 8 true m) :
    Spec Try.prog n_i_stack_follow [.ptr 0 0, vb true, vi m, vi m] (stO n a b s) (vi (-1)) (stO n a b (flI n a b m 8 true m s)) := by
  have la := ha.len
  have lb := hb.len
  have hn := ha.n8
  have hn1 := ha.n1
  have hn0 : (n : Int) ≠ 0 := by omega
  generalize hR : flI n a b m 8 true m s = R
  refine SpecW.of_EV hf_i_stack_follow hc_i_stack_follow rfl rfl (by simp only [stO_ids]; rfl) fun w0 B ρ0 _ => ?_
  (repeat' (first | refine (s_n n a).read [1] rfl ⟨rfl, trivial⟩ ?_ | refine And.intro (neI rfl) ?_ | refine And.intro ⟨rfl, leR rfl, onesR rfl⟩ ?_ | refine And.intro ⟨rfl, leR rfl⟩ ?_ | refine draw_rule2 hfol (fun KK hKK => ?_) | refine hKK _ _ _ (by kernel_rfl) ?_ | refine region_rule (fun KK hKK => ?_) | refine hKK _ _ ?_ | refine And.intro (Eq.refl true) ?_ | refine Exists.intro _ (And.intro (wI (by omega)) ?_) | refine Exists.intro _ (And.intro (wU (by omega)) ?_) | refine Exists.intro _ (And.intro ⟨rfl, by omega⟩ ?_) | refine Exists.intro _ (And.intro rfl ?_) | refine And.intro rfl ?_ | refine And.intro ⟨rfl, rfl⟩ ?_ | ((refine And.intro (fun _ => ?_) (fun _ => ?_)) <;> try (exfalso; omega))))
  refine loop_rule (α := Nat × Bool × Nat × List Bool) (fun (d, l, p, t) => p < 2 * n ∧ t.length = 8 ∧ endM n a b m d l p ∧ flI n a b m d l p t = R)
    (fun (d, l, p, t) => [(0, .ptr 0 0), (1, vb l), (2, vi p), (3, vi m), (9, vi n)])
    (fun (d, l, p, t) => stO n a b t) (fun (d, _, _, _) => d) (8, true, m, s) [0, 1, 2]
    ⟨by omega, hs, he, hR⟩ ⟨⟨rfl, rfl, rfl, rfl, rfl, trivial⟩, ⟨congrArg some stk_m1, rfl, rfl, trivial⟩, goodB_of stO_ids rfl⟩ ?_
  rintro ⟨d, l, p, t⟩ g ⟨hp, ht, he, hR⟩
  cases d with
  | zero => exact he.elim
  | succ d =>
  rw [flI_pack] at hR
  have hmt := s_meet1 l p
  cases l with
  | false =>
    have hq := ha.lt p hp
    replace he : isOut n false (a.getD p 0) = false ∧ (a.getD p 0 - n = m ∨ endM n a b m d true (a.getD p 0 - n)) := he
    replace hR : (if a.getD p 0 - n = m then t.set (a.getD p 0 - n) true else flI n a b m d true (a.getD p 0 - n) (t.set (a.getD p 0 - n) true)) = R := hR
    obtain ⟨ho, he⟩ := he
    have ho : ¬ a.getD p 0 < n := of_decide_eq_false ho
    have e1 : Int.tmod ((a.getD p 0 : Nat) : Int) (n : Int) = ((a.getD p 0 - n : Nat) : Int) := by
      rw [tmN, Nat.mod_eq_sub_mod (by omega), Nat.mod_eq_of_lt (by omega)]
    by_cases hx : a.getD p 0 - n = m
    · rw [if_pos hx] at hR
      (repeat' (first | refine Exists.intro _ (And.intro (pcl_at (by omega)) ?_) | refine (hmt).pure rfl ?_ | refine Exists.intro _ (And.intro (stk_fn ht) ?_) | refine And.intro hn0 ?_ | refine Exists.intro _ (And.intro e1 ?_) | refine Exists.intro (stkG 1 2 R FM) (And.intro ⟨by rw [stk_len ht]; omega, by rw [← hR]; exact stk_set (by omega)⟩ ?_) | refine And.intro (neI rfl) ?_ | refine And.intro ⟨rfl, leR rfl, onesR rfl⟩ ?_ | refine And.intro ⟨rfl, leR rfl⟩ ?_ | refine draw_rule2 hfol (fun KK hKK => ?_) | refine hKK _ _ _ (by kernel_rfl) ?_ | refine region_rule (fun KK hKK => ?_) | refine hKK _ _ ?_ | refine And.intro (Eq.refl true) ?_ | refine Exists.intro _ (And.intro (wI (by omega)) ?_) | refine Exists.intro _ (And.intro (wU (by omega)) ?_) | refine Exists.intro _ (And.intro ⟨rfl, by omega⟩ ?_) | refine Exists.intro _ (And.intro rfl ?_) | refine And.intro rfl ?_ | refine And.intro ⟨rfl, rfl⟩ ?_ | ((refine And.intro (fun _ => ?_) (fun _ => ?_)) <;> try (exfalso; omega))))
      exact Exists.intro [0, 1, 2] (And.intro rfl (And.intro ⟨congrArg some stk_m1, rfl, rfl, trivial⟩ (goodB_of stO_ids rfl)))
    · rw [if_neg hx] at hR
      have he := he.resolve_left hx
      (repeat' (first | refine Exists.intro _ (And.intro (pcl_at (by omega)) ?_) | refine (hmt).pure rfl ?_ | refine Exists.intro _ (And.intro (stk_fn ht) ?_) | refine And.intro hn0 ?_ | refine Exists.intro _ (And.intro e1 ?_) | refine Exists.intro (stkG 1 2 (t.set (a.getD p 0 - n) true) FM) (And.intro ⟨by rw [stk_len ht]; omega, stk_set (by omega)⟩ ?_) | refine And.intro (neI rfl) ?_ | refine And.intro ⟨rfl, leR rfl, onesR rfl⟩ ?_ | refine And.intro ⟨rfl, leR rfl⟩ ?_ | refine draw_rule2 hfol (fun KK hKK => ?_) | refine hKK _ _ _ (by kernel_rfl) ?_ | refine region_rule (fun KK hKK => ?_) | refine hKK _ _ ?_ | refine And.intro (Eq.refl true) ?_ | refine Exists.intro _ (And.intro (wI (by omega)) ?_) | refine Exists.intro _ (And.intro (wU (by omega)) ?_) | refine Exists.intro _ (And.intro ⟨rfl, by omega⟩ ?_) | refine Exists.intro _ (And.intro rfl ?_) | refine And.intro rfl ?_ | refine And.intro ⟨rfl, rfl⟩ ?_ | ((refine And.intro (fun _ => ?_) (fun _ => ?_)) <;> try (exfalso; omega))))
      refine Exists.intro (d, true, a.getD p 0 - n, t.set (a.getD p 0 - n) true) (Exists.intro [0, 1, 2] (And.intro ⟨⟨by omega, by simpa using ht, he, hR⟩, (by show d < d + 1; omega)⟩ ⟨⟨rfl, rfl, rfl, rfl, rfl, trivial⟩, ⟨congrArg some stk_m1, rfl, rfl, trivial⟩, goodB_of stO_ids rfl⟩))
  | true =>
    have hq := hb.lt p hp
    replace he : isOut n true (b.getD p 0) = false ∧ (b.getD p 0 = m ∨ endM n a b m d false (n + b.getD p 0)) := he
    replace hR : (if b.getD p 0 = m then t.set (b.getD p 0) true else flI n a b m d false (n + b.getD p 0) (t.set (b.getD p 0) true)) = R := hR
    obtain ⟨ho, he⟩ := he
    have ho : ¬ n ≤ b.getD p 0 := of_decide_eq_false ho
    have e1 : Int.tmod ((b.getD p 0 : Nat) : Int) (n : Int) = ((b.getD p 0 : Nat) : Int) := by
      rw [tmN, Nat.mod_eq_of_lt (by omega)]
    have e2 : IntKind.i64.wrap ((n : Int) + ((b.getD p 0 : Nat) : Int)) = ((n + b.getD p 0 : Nat) : Int) := wC (by omega) (by omega)
    by_cases hx : b.getD p 0 = m
    · rw [if_pos hx] at hR
      (repeat' (first | refine Exists.intro _ (And.intro (pcl_at (by omega)) ?_) | refine (hmt).pure rfl ?_ | refine Exists.intro _ (And.intro (stk_fn ht) ?_) | refine And.intro hn0 ?_ | refine Exists.intro _ (And.intro e1 ?_) | refine Exists.intro _ (And.intro e2 ?_) | refine Exists.intro (stkG 1 2 R FM) (And.intro ⟨by rw [stk_len ht]; omega, by rw [← hR]; exact stk_set (by omega)⟩ ?_) | refine And.intro (neI rfl) ?_ | refine And.intro ⟨rfl, leR rfl, onesR rfl⟩ ?_ | refine And.intro ⟨rfl, leR rfl⟩ ?_ | refine draw_rule2 hfol (fun KK hKK => ?_) | refine hKK _ _ _ (by kernel_rfl) ?_ | refine region_rule (fun KK hKK => ?_) | refine hKK _ _ ?_ | refine And.intro (Eq.refl true) ?_ | refine Exists.intro _ (And.intro (wI (by omega)) ?_) | refine Exists.intro _ (And.intro (wU (by omega)) ?_) | refine Exists.intro _ (And.intro ⟨rfl, by omega⟩ ?_) | refine Exists.intro _ (And.intro rfl ?_) | refine And.intro rfl ?_ | refine And.intro ⟨rfl, rfl⟩ ?_ | ((refine And.intro (fun _ => ?_) (fun _ => ?_)) <;> try (exfalso; omega))))
      exact Exists.intro [0, 1, 2] (And.intro rfl (And.intro ⟨congrArg some stk_m1, rfl, rfl, trivial⟩ (goodB_of stO_ids rfl)))
    · rw [if_neg hx] at hR
      have he := he.resolve_left hx
      (repeat' (first | refine Exists.intro _ (And.intro (pcl_at (by omega)) ?_) | refine (hmt).pure rfl ?_ | refine Exists.intro _ (And.intro (stk_fn ht) ?_) | refine And.intro hn0 ?_ | refine Exists.intro _ (And.intro e1 ?_) | refine Exists.intro _ (And.intro e2 ?_) | refine Exists.intro (stkG 1 2 (t.set (b.getD p 0) true) FM) (And.intro ⟨by rw [stk_len ht]; omega, stk_set (by omega)⟩ ?_) | refine And.intro (neI rfl) ?_ | refine And.intro ⟨rfl, leR rfl, onesR rfl⟩ ?_ | refine And.intro ⟨rfl, leR rfl⟩ ?_ | refine draw_rule2 hfol (fun KK hKK => ?_) | refine hKK _ _ _ (by kernel_rfl) ?_ | refine region_rule (fun KK hKK => ?_) | refine hKK _ _ ?_ | refine And.intro (Eq.refl true) ?_ | refine Exists.intro _ (And.intro (wI (by omega)) ?_) | refine Exists.intro _ (And.intro (wU (by omega)) ?_) | refine Exists.intro _ (And.intro ⟨rfl, by omega⟩ ?_) | refine Exists.intro _ (And.intro rfl ?_) | refine And.intro rfl ?_ | refine And.intro ⟨rfl, rfl⟩ ?_ | ((refine And.intro (fun _ => ?_) (fun _ => ?_)) <;> try (exfalso; omega))))
      refine Exists.intro (d, false, n + b.getD p 0, t.set (b.getD p 0) true) (Exists.intro [0, 1, 2] (And.intro ⟨⟨by omega, by simpa using ht, he, hR⟩, (by show d < d + 1; omega)⟩ ⟨⟨rfl, rfl, rfl, rfl, rfl, trivial⟩, ⟨congrArg some stk_m1, rfl, rfl, trivial⟩, goodB_of stO_ids rfl⟩))
end Go.Proofs.Ytimigbgpldjefaa.VE
