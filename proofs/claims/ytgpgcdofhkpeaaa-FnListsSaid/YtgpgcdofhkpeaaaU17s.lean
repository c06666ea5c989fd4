/- Contracts of functions of the given program, for all arguments that the contract names; see each theorem. -/
import Derived.Test.YtgpgcdofhkpeaaaQ2
import Derived.Test.YtgpgcdofhkpeaaaEd
set_option linter.all false
namespace Go.Proofs.Ytgpgcdofhkpeaaa.VE
open Go
set_option maxHeartbeats 800000
set_option maxRecDepth 100000

theorem fol_pack {n : Nat} {a b : List Nat} {d : Nat} {l : Bool} {p : Nat} {s : List Bool} : fol n a b (d + 1) l p s = if isOut n l (mt a b l p) = true then (mt a b l p, l, s) else fol n a b d (!l) (ep n (!l) (md n l (mt a b l p))) (s.set (md n l (mt a b l p)) true) := rfl

theorem s_sfollow (n : Nat) (a b : List Nat) (ha : IsV n a) (hb : IsV n b) (l : Bool) (p : Nat) (s : List Bool) (hs : s.length = 8) (hp : p < 2 * n) (he : ends n a b 17 l p) :
    Spec Try.prog n_s_l01Follow [pv n a, pv n b, vi p, vb (!l), .ptr 0 0] [.pc (bbl s) T_a8q_bool] (.tup [vi ((fol n a b 17 l p s).1 : Nat), vb (!(fol n a b 17 l p s).2.1)]) [.pc (bbl (fol n a b 17 l p s).2.2) T_a8q_bool] := by
  have la := ha.len
  have lb := hb.len
  have hn := ha.n8
  generalize hR : fol n a b 17 l p s = R
  refine SpecW.of_EV hf_s_l01Follow hc_s_l01Follow rfl rfl rfl fun w0 B ρ0 _ => ?_
  (repeat' (first | refine And.intro (neI rfl) ?_ | refine And.intro ⟨rfl, leR rfl, onesR rfl⟩ ?_ | refine And.intro ⟨rfl, leR rfl⟩ ?_ | refine draw_rule2 hfol (fun KK hKK => ?_) | refine hKK _ _ _ (by kernel_rfl) ?_ | refine region_rule (fun KK hKK => ?_) | refine hKK _ _ ?_ | refine And.intro (Eq.refl true) ?_ | refine Exists.intro _ (And.intro (wI (by omega)) ?_) | refine Exists.intro _ (And.intro (wU (by omega)) ?_) | refine Exists.intro _ (And.intro ⟨rfl, by omega⟩ ?_) | refine Exists.intro _ (And.intro rfl ?_) | refine And.intro rfl ?_ | refine And.intro ⟨rfl, rfl⟩ ?_ | ((refine And.intro (fun _ => ?_) (fun _ => ?_)) <;> try (exfalso; omega))))
  refine loop_rule (α := Nat × Bool × Nat × List Bool) (fun (d, l, p, t) => p < 2 * n ∧ t.length = 8 ∧ ends n a b d l p ∧ fol n a b d l p t = R)
    (fun (d, l, p, t) => [(2, vi p), (3, vb (!l)), (4, .ptr 0 0), (5, .ptr 1 0), (6, .ptr 2 0), (12, vi n)])
    (fun (d, l, p, t) => [.pc (bbl t) T_a8q_bool, .pc (pcl n a) T_i_Diagram, .pc (pcl n b) T_i_Diagram]) (fun (d, _, _, _) => d) (17, l, p, s) [0, 1, 2]
    ⟨hp, hs, he, hR⟩ ⟨⟨rfl, rfl, rfl, rfl, rfl, rfl, trivial⟩, ⟨rfl, rfl, rfl, trivial⟩, rfl⟩ ?_
  rintro ⟨d, l, p, t⟩ g ⟨hp, ht, he, hR⟩
  cases d with
  | zero => exact he.elim
  | succ d =>
  rw [fol_pack] at hR
  cases l with
  | false =>
    have hq := ha.lt p hp
    replace he : isOut n false (a.getD p 0) = true ∨ ends n a b d true (a.getD p 0 - n) := he
    replace hR : (if isOut n false (a.getD p 0) = true then (a.getD p 0, false, t) else fol n a b d true (a.getD p 0 - n) (t.set (a.getD p 0 - n) true)) = R := hR
    by_cases ho : a.getD p 0 < n
    · have hot : isOut n false (a.getD p 0) = true := decide_eq_true ho
      rw [if_pos hot] at hR
      subst hR
      (repeat' (first | refine Exists.intro _ (And.intro (pcl_at (by omega)) ?_) | refine And.intro (neI rfl) ?_ | refine And.intro ⟨rfl, leR rfl, onesR rfl⟩ ?_ | refine And.intro ⟨rfl, leR rfl⟩ ?_ | refine draw_rule2 hfol (fun KK hKK => ?_) | refine hKK _ _ _ (by kernel_rfl) ?_ | refine region_rule (fun KK hKK => ?_) | refine hKK _ _ ?_ | refine And.intro (Eq.refl true) ?_ | refine Exists.intro _ (And.intro (wI (by omega)) ?_) | refine Exists.intro _ (And.intro (wU (by omega)) ?_) | refine Exists.intro _ (And.intro ⟨rfl, by omega⟩ ?_) | refine Exists.intro _ (And.intro rfl ?_) | refine And.intro rfl ?_ | refine And.intro ⟨rfl, rfl⟩ ?_ | ((refine And.intro (fun _ => ?_) (fun _ => ?_)) <;> try (exfalso; omega))))
      exact Exists.intro [0] (And.intro (rfl) (And.intro ⟨rfl, trivial⟩ rfl))
    · have hof : isOut n false (a.getD p 0) = false := decide_eq_false ho
      rw [hof, if_neg (by decide)] at hR
      rw [hof] at he
      have he := he.resolve_left (by decide)
      have e1 : IntKind.i64.wrap (((a.getD p 0 : Nat) : Int) - (n : Int)) = ((a.getD p 0 - n : Nat) : Int) := wC (by omega) (by omega)
      (repeat' (first | refine Exists.intro _ (And.intro (pcl_at (by omega)) ?_) | refine Exists.intro _ (And.intro e1 ?_) | refine Exists.intro (bbl (t.set (a.getD p 0 - n) true)) (And.intro ⟨by rw [bbl_len ht]; omega, bbl_set⟩ ?_) | refine And.intro (neI rfl) ?_ | refine And.intro ⟨rfl, leR rfl, onesR rfl⟩ ?_ | refine And.intro ⟨rfl, leR rfl⟩ ?_ | refine draw_rule2 hfol (fun KK hKK => ?_) | refine hKK _ _ _ (by kernel_rfl) ?_ | refine region_rule (fun KK hKK => ?_) | refine hKK _ _ ?_ | refine And.intro (Eq.refl true) ?_ | refine Exists.intro _ (And.intro (wI (by omega)) ?_) | refine Exists.intro _ (And.intro (wU (by omega)) ?_) | refine Exists.intro _ (And.intro ⟨rfl, by omega⟩ ?_) | refine Exists.intro _ (And.intro rfl ?_) | refine And.intro rfl ?_ | refine And.intro ⟨rfl, rfl⟩ ?_ | ((refine And.intro (fun _ => ?_) (fun _ => ?_)) <;> try (exfalso; omega))))
      refine Exists.intro (d, true, a.getD p 0 - n, t.set (a.getD p 0 - n) true) (Exists.intro [0, 1, 2] (And.intro ⟨⟨by omega, by simpa using ht, he, hR⟩, (by show d < d + 1; omega)⟩ ⟨⟨rfl, rfl, rfl, rfl, rfl, rfl, trivial⟩, ⟨rfl, rfl, rfl, trivial⟩, rfl⟩))
  | true =>
    have hq := hb.lt p hp
    replace he : isOut n true (b.getD p 0) = true ∨ ends n a b d false (n + b.getD p 0) := he
    replace hR : (if isOut n true (b.getD p 0) = true then (b.getD p 0, true, t) else fol n a b d false (n + b.getD p 0) (t.set (b.getD p 0) true)) = R := hR
    by_cases ho : n ≤ b.getD p 0
    · have hot : isOut n true (b.getD p 0) = true := decide_eq_true ho
      rw [if_pos hot] at hR
      subst hR
      (repeat' (first | refine Exists.intro _ (And.intro (pcl_at (by omega)) ?_) | refine And.intro (neI rfl) ?_ | refine And.intro ⟨rfl, leR rfl, onesR rfl⟩ ?_ | refine And.intro ⟨rfl, leR rfl⟩ ?_ | refine draw_rule2 hfol (fun KK hKK => ?_) | refine hKK _ _ _ (by kernel_rfl) ?_ | refine region_rule (fun KK hKK => ?_) | refine hKK _ _ ?_ | refine And.intro (Eq.refl true) ?_ | refine Exists.intro _ (And.intro (wI (by omega)) ?_) | refine Exists.intro _ (And.intro (wU (by omega)) ?_) | refine Exists.intro _ (And.intro ⟨rfl, by omega⟩ ?_) | refine Exists.intro _ (And.intro rfl ?_) | refine And.intro rfl ?_ | refine And.intro ⟨rfl, rfl⟩ ?_ | ((refine And.intro (fun _ => ?_) (fun _ => ?_)) <;> try (exfalso; omega))))
      exact Exists.intro [0] (And.intro (rfl) (And.intro ⟨rfl, trivial⟩ rfl))
    · have hof : isOut n true (b.getD p 0) = false := decide_eq_false ho
      rw [hof, if_neg (by decide)] at hR
      rw [hof] at he
      have he := he.resolve_left (by decide)
      have e1 : IntKind.i64.wrap ((n : Int) + ((b.getD p 0 : Nat) : Int)) = ((n + b.getD p 0 : Nat) : Int) := wC (by omega) (by omega)
      (repeat' (first | refine Exists.intro _ (And.intro (pcl_at (by omega)) ?_) | refine Exists.intro _ (And.intro e1 ?_) | refine Exists.intro (bbl (t.set (b.getD p 0) true)) (And.intro ⟨by rw [bbl_len ht]; omega, bbl_set⟩ ?_) | refine And.intro (neI rfl) ?_ | refine And.intro ⟨rfl, leR rfl, onesR rfl⟩ ?_ | refine And.intro ⟨rfl, leR rfl⟩ ?_ | refine draw_rule2 hfol (fun KK hKK => ?_) | refine hKK _ _ _ (by kernel_rfl) ?_ | refine region_rule (fun KK hKK => ?_) | refine hKK _ _ ?_ | refine And.intro (Eq.refl true) ?_ | refine Exists.intro _ (And.intro (wI (by omega)) ?_) | refine Exists.intro _ (And.intro (wU (by omega)) ?_) | refine Exists.intro _ (And.intro ⟨rfl, by omega⟩ ?_) | refine Exists.intro _ (And.intro rfl ?_) | refine And.intro rfl ?_ | refine And.intro ⟨rfl, rfl⟩ ?_ | ((refine And.intro (fun _ => ?_) (fun _ => ?_)) <;> try (exfalso; omega))))
      refine Exists.intro (d, false, n + b.getD p 0, t.set (b.getD p 0) true) (Exists.intro [0, 1, 2] (And.intro ⟨⟨by omega, by simpa using ht, he, hR⟩, (by show d < d + 1; omega)⟩ ⟨⟨rfl, rfl, rfl, rfl, rfl, rfl, trivial⟩, ⟨rfl, rfl, rfl, trivial⟩, rfl⟩))

/-- The stack of the program: both diagrams, what is met, and a function. -/
def stkG (i j : Nat) (s : List Bool) (F : V) : List V := .ptr i 0 :: .ptr j 0 :: ((bbl s).map V.raw ++ [F])
theorem stk_mo {σ : Nat → Nat} {i j : Nat} {s : List Bool} {F : V} {T : TypeId} : O.cc (stkG (σ i) (σ j) s (F.mapIds σ)) T = O.mapIds σ (.cc (stkG i j s F) T) := by
  simp only [O.mapIds, stkG, mapIdsL, mapIdsL_append, mapIdsL_raw, V.mapIds]
theorem stk_ids {i j : Nat} {s : List Bool} {F : V} : idsL (stkG i j s F) = i :: j :: F.ids := by
  simp only [stkG, idsL, V.ids, idsL_append, idsL_map_raw, List.nil_append, List.append_nil, List.singleton_append]
theorem stk_len {i j : Nat} {s : List Bool} {F : V} (h : s.length = 8) : (stkG i j s F).length = 11 := by simp [stkG, bbl, h]
theorem stk_at {i j k : Nat} {s : List Bool} {F : V} {b : Bool} (h : k < s.length) (hb : s.getD k false = b) : (stkG i j s F)[2 + k]? = some (vb b) := by
  have := bbl_at h hb
  rw [Nat.add_comm]
  simp only [stkG, List.getElem?_cons_succ]
  rw [List.getElem?_append_left (by simpa [bbl] using h), List.getElem?_map, this]; rfl
theorem stk_fn {i j : Nat} {s : List Bool} {F : V} (h : s.length = 8) : (stkG i j s F)[10]? = some F := by
  simp only [stkG, List.getElem?_cons_succ]
  rw [List.getElem?_append_right (by simp [bbl, h])]
  simp [bbl, h]
theorem stk_set {i j k : Nat} {s : List Bool} {F : V} {b : Bool} (h : k < s.length) : (stkG i j s F).set (2 + k) (vb b) = stkG i j (s.set k b) F := by
  rw [Nat.add_comm]
  simp only [stkG, List.set_cons_succ]
  rw [List.set_append, if_pos (by simpa [bbl] using h), ← List.map_set, bbl_set]

theorem flI_pack {n : Nat} {a b : List Nat} {m d : Nat} {l : Bool} {p : Nat} {s : List Bool} : flI n a b m (d + 1) l p s = if md n l (mt a b l p) = m then s.set (md n l (mt a b l p)) true else flI n a b m d (!l) (ep n (!l) (md n l (mt a b l p))) (s.set (md n l (mt a b l p)) true) := rfl
end Go.Proofs.Ytgpgcdofhkpeaaa.VE
