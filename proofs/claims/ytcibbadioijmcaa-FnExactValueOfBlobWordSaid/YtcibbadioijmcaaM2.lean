/- Contracts of functions of the given program, for all arguments that the contract names; see each theorem. -/
import Derived.Test.YtcibbadioijmcaaU17s
import Derived.Test.YtcibbadioijmcaaC2
set_option linter.all false
namespace Go.Proofs.Ytcibbadioijmcaa.VE
open Go
set_option maxHeartbeats 800000
set_option maxRecDepth 100000

/-! products of blobbed diagrams: along the lines -/
def bl2 (ba bb : List Bool) : Bool → Nat → Bool
  | true, p => bb.getD p false
  | false, p => ba.getD p false
def mB (n : Nat) (a b : List Nat) (ba bb : List Bool) : Nat → Bool → Nat → Bool
  | 0, _, _ => false
  | d + 1, l, p => bl2 ba bb l p || (if isOut n l (mt a b l p) = true then false else mB n a b ba bb d (!l) (ep n (!l) (md n l (mt a b l p))))
def mL (n : Nat) (a b : List Nat) (ba bb : List Bool) (m : Nat) : Nat → Bool → Nat → Bool
  | 0, _, _ => false
  | d + 1, l, p => bl2 ba bb l p || (if md n l (mt a b l p) = m then false else mL n a b ba bb m d (!l) (ep n (!l) (md n l (mt a b l p))))
theorem mB_pack {n : Nat} {a b : List Nat} {ba bb : List Bool} {d : Nat} {l : Bool} {p : Nat} : mB n a b ba bb (d + 1) l p = (bl2 ba bb l p || (if isOut n l (mt a b l p) = true then false else mB n a b ba bb d (!l) (ep n (!l) (md n l (mt a b l p))))) := rfl
theorem mL_pack {n : Nat} {a b : List Nat} {ba bb : List Bool} {m d : Nat} {l : Bool} {p : Nat} : mL n a b ba bb m (d + 1) l p = (bl2 ba bb l p || (if md n l (mt a b l p) = m then false else mL n a b ba bb m d (!l) (ep n (!l) (md n l (mt a b l p))))) := rfl
abbrev bO1 (h : Bool) : O := .pc [.bool h] T_bool
theorem s_meetB (n : Int) (a b : List Nat) (ba bb : List Bool) (la : a.length = 16) (lb : b.length = 16) (lba : ba.length = 16) (lbb : bb.length = 16) (l : Bool) (p : Nat) (hp : p < 16) (h : Bool) :
    Spec Try.prog n_i_timesBlobbed_1 [vb l, vi p, .ptr 0 0, .ptr 1 0, .ptr 2 0] [bO1 h, .pc (bcB n b bb) T_i_Blobbed, .pc (bcB n a ba) T_i_Blobbed] (.tup []) [bO1 (h || bl2 ba bb l p), .pc (bcB n b bb) T_i_Blobbed, .pc (bcB n a ba) T_i_Blobbed] := by
  have hA := bcB_bat (s := n) (m := a) (bs := ba) la lba hp rfl
  have hB := bcB_bat (s := n) (m := b) (bs := bb) lb lbb hp rfl
  refine SpecW.of_EV hf_i_timesBlobbed_1 hc_i_timesBlobbed_1 rfl rfl rfl fun w0 B ρ0 _ => ?_
  cases l <;> cases h <;> (repeat' (first | refine Exists.intro _ (And.intro hA ?_) | refine Exists.intro _ (And.intro hB ?_) | refine Exists.intro [Value.bool _] (And.intro ⟨leR rfl, rfl⟩ ?_) | refine And.intro (neI rfl) ?_ | refine And.intro ⟨rfl, leR rfl, onesR rfl⟩ ?_ | refine And.intro ⟨rfl, leR rfl⟩ ?_ | refine draw_rule2 hfol (fun KK hKK => ?_) | refine hKK _ _ _ (by kernel_rfl) ?_ | refine region_rule (fun KK hKK => ?_) | refine hKK _ _ ?_ | refine And.intro (Eq.refl true) ?_ | refine Exists.intro _ (And.intro (wI (by omega)) ?_) | refine Exists.intro _ (And.intro (wU (by omega)) ?_) | refine Exists.intro _ (And.intro ⟨rfl, by omega⟩ ?_) | refine Exists.intro _ (And.intro rfl ?_) | refine And.intro rfl ?_ | refine And.intro ⟨rfl, rfl⟩ ?_ | ((refine And.intro (fun _ => ?_) (fun _ => ?_)) <;> try (exfalso; omega)))) <;> exact Exists.intro [0,1,2] (And.intro (rfl) (And.intro ⟨rfl, rfl, rfl, trivial⟩ rfl))
end Go.Proofs.Ytcibbadioijmcaa.VE

namespace Go.Proofs.Ytcibbadioijmcaa.VE
open Go
set_option maxHeartbeats 800000
set_option maxRecDepth 100000

abbrev FMB : V := .fn (.func n_i_timesBlobbed_1) [] [.ptr 3 0, .ptr 2 0, .ptr 1 0]
abbrev stB (n : Nat) (a b : List Nat) (ba bb : List Bool) (s : List Bool) (h : Bool) : List O := [.cc (stkG 1 2 s FMB) T_i_stack, .pc (bcB n a ba) T_i_Blobbed, .pc (bcB n b bb) T_i_Blobbed, bO1 h]
theorem stkB_m1 {s : List Bool} {T : TypeId} : O.cc (stkG 1 2 s FMB) T = O.mapIds (atL [0, 1, 2, 3]) (.cc (stkG 1 2 s FMB) T) := stk_mo (σ := atL [0, 1, 2, 3]) (i := 1) (j := 2) (s := s) (F := FMB) (T := T)
theorem stB_ids {n : Nat} {a b : List Nat} {ba bb : List Bool} {s : List Bool} {h : Bool} : idsO (stB n a b ba bb s h) = [1, 2, 3, 2, 1] := by
  simp only [idsO, O.ids, stk_ids]; rfl
section
variable (n : Nat) (a b : List Nat) (ha : IsV n a) (hb : IsV n b) (ba bb : List Bool) (lba : ba.length = 16) (lbb : bb.length = 16)
include ha hb lba lbb
theorem s_followB (l : Bool) (p : Nat) (s : List Bool) (h : Bool) (hs : s.length = 8) (hp : p < 2 * n) (he : ends n a b 17 l p) :
    Spec Try.prog n_i_stack_follow [.ptr 0 0, vb l, vi p, vi (-1)] (stB n a b ba bb s h) (vi ((fol n a b 17 l p s).1 : Nat)) (stB n a b ba bb (fol n a b 17 l p s).2.2 (h || mB n a b ba bb 17 l p)) := by
  have la := ha.len
  have lb := hb.len
  have hn := ha.n8
  have hn1 := ha.n1
  have hn0 : (n : Int) ≠ 0 := by omega
  generalize hR : fol n a b 17 l p s = R
  generalize hH : (h || mB n a b ba bb 17 l p) = H
  refine SpecW.of_EV hf_i_stack_follow hc_i_stack_follow rfl rfl (by simp only [stB_ids]; rfl) fun w0 B ρ0 _ => ?_
  (repeat' (first | refine (s_nG n a (bbl ba) T_i_Blobbed).read [1] rfl ⟨rfl, trivial⟩ ?_ | refine And.intro (neI rfl) ?_ | refine And.intro ⟨rfl, leR rfl, onesR rfl⟩ ?_ | refine And.intro ⟨rfl, leR rfl⟩ ?_ | refine draw_rule2 hfol (fun KK hKK => ?_) | refine hKK _ _ _ (by kernel_rfl) ?_ | refine region_rule (fun KK hKK => ?_) | refine hKK _ _ ?_ | refine And.intro (Eq.refl true) ?_ | refine Exists.intro _ (And.intro (wI (by omega)) ?_) | refine Exists.intro _ (And.intro (wU (by omega)) ?_) | refine Exists.intro _ (And.intro ⟨rfl, by omega⟩ ?_) | refine Exists.intro _ (And.intro rfl ?_) | refine And.intro rfl ?_ | refine And.intro ⟨rfl, rfl⟩ ?_ | ((refine And.intro (fun _ => ?_) (fun _ => ?_)) <;> try (exfalso; omega))))
  refine loop_rule (α := Nat × Bool × Nat × List Bool × Bool) (fun (d, l, p, t, h) => p < 2 * n ∧ t.length = 8 ∧ ends n a b d l p ∧ fol n a b d l p t = R ∧ (h || mB n a b ba bb d l p) = H)
    (fun (d, l, p, t, h) => [(0, .ptr 0 0), (1, vb l), (2, vi p), (3, vi (-1)), (9, vi n)])
    (fun (d, l, p, t, h) => stB n a b ba bb t h) (fun (d, _, _, _, _) => d) (17, l, p, s, h) [0, 1, 2, 3]
    ⟨hp, hs, he, hR, hH⟩ ⟨⟨rfl, rfl, rfl, rfl, rfl, trivial⟩, ⟨congrArg some stkB_m1, rfl, rfl, rfl, trivial⟩, goodB_of stB_ids rfl⟩ ?_
  rintro ⟨d, l, p, t, h⟩ g ⟨hp, ht, he, hR, hH⟩
  cases d with
  | zero => exact he.elim
  | succ d =>
  rw [fol_pack] at hR
  rw [mB_pack, ← Bool.or_assoc] at hH
  have hmt := s_meetB n a b ba bb la lb lba lbb l p (by omega) h
  cases l with
  | false =>
    have hq := ha.lt p hp
    have hat := bcB_at (s := (n : Int)) la lba (i := p) (by omega)
    replace he : isOut n false (a.getD p 0) = true ∨ ends n a b d true (a.getD p 0 - n) := he
    replace hR : (if isOut n false (a.getD p 0) = true then (a.getD p 0, false, t) else fol n a b d true (a.getD p 0 - n) (t.set (a.getD p 0 - n) true)) = R := hR
    replace hH : ((h || bl2 ba bb false p) || (if isOut n false (a.getD p 0) = true then false else mB n a b ba bb d true (a.getD p 0 - n))) = H := hH
    by_cases ho : a.getD p 0 < n
    · have hot : isOut n false (a.getD p 0) = true := decide_eq_true ho
      rw [if_pos hot] at hR
      rw [if_pos hot, Bool.or_false] at hH
      subst hR
      subst hH
      (repeat' (first | refine Exists.intro _ (And.intro hat ?_) | refine (hmt).make [3,2,1] rfl ⟨rfl, rfl, rfl, trivial⟩ ?_ | refine Exists.intro _ (And.intro (stk_fn ht) ?_) | refine And.intro (neI rfl) ?_ | refine And.intro ⟨rfl, leR rfl, onesR rfl⟩ ?_ | refine And.intro ⟨rfl, leR rfl⟩ ?_ | refine draw_rule2 hfol (fun KK hKK => ?_) | refine hKK _ _ _ (by kernel_rfl) ?_ | refine region_rule (fun KK hKK => ?_) | refine hKK _ _ ?_ | refine And.intro (Eq.refl true) ?_ | refine Exists.intro _ (And.intro (wI (by omega)) ?_) | refine Exists.intro _ (And.intro (wU (by omega)) ?_) | refine Exists.intro _ (And.intro ⟨rfl, by omega⟩ ?_) | refine Exists.intro _ (And.intro rfl ?_) | refine And.intro rfl ?_ | refine And.intro ⟨rfl, rfl⟩ ?_ | ((refine And.intro (fun _ => ?_) (fun _ => ?_)) <;> try (exfalso; omega))))
      exact Exists.intro [0, 1, 2, 3] (And.intro rfl (And.intro ⟨congrArg some stkB_m1, rfl, rfl, rfl, trivial⟩ (goodB_of stB_ids rfl)))
    · have hof : isOut n false (a.getD p 0) = false := decide_eq_false ho
      rw [hof, if_neg (by decide)] at hR hH
      rw [hof] at he
      have he := he.resolve_left (by decide)
      have e1 : Int.tmod ((a.getD p 0 : Nat) : Int) (n : Int) = ((a.getD p 0 - n : Nat) : Int) := by
        rw [tmN, Nat.mod_eq_sub_mod (by omega), Nat.mod_eq_of_lt (by omega)]
      (repeat' (first | refine Exists.intro _ (And.intro hat ?_) | refine (hmt).make [3,2,1] rfl ⟨rfl, rfl, rfl, trivial⟩ ?_ | refine Exists.intro _ (And.intro (stk_fn ht) ?_) | refine And.intro hn0 ?_ | refine Exists.intro _ (And.intro e1 ?_) | refine Exists.intro (stkG 1 2 (t.set (a.getD p 0 - n) true) FMB) (And.intro ⟨by rw [stk_len ht]; omega, stk_set (by omega)⟩ ?_) | refine And.intro (neI rfl) ?_ | refine And.intro ⟨rfl, leR rfl, onesR rfl⟩ ?_ | refine And.intro ⟨rfl, leR rfl⟩ ?_ | refine draw_rule2 hfol (fun KK hKK => ?_) | refine hKK _ _ _ (by kernel_rfl) ?_ | refine region_rule (fun KK hKK => ?_) | refine hKK _ _ ?_ | refine And.intro (Eq.refl true) ?_ | refine Exists.intro _ (And.intro (wI (by omega)) ?_) | refine Exists.intro _ (And.intro (wU (by omega)) ?_) | refine Exists.intro _ (And.intro ⟨rfl, by omega⟩ ?_) | refine Exists.intro _ (And.intro rfl ?_) | refine And.intro rfl ?_ | refine And.intro ⟨rfl, rfl⟩ ?_ | ((refine And.intro (fun _ => ?_) (fun _ => ?_)) <;> try (exfalso; omega))))
      refine Exists.intro (d, true, a.getD p 0 - n, t.set (a.getD p 0 - n) true, h || bl2 ba bb false p) (Exists.intro [0, 1, 2, 3] (And.intro ⟨⟨by omega, by simpa using ht, he, hR, hH⟩, (by show d < d + 1; omega)⟩ ⟨⟨rfl, rfl, rfl, rfl, rfl, trivial⟩, ⟨congrArg some stkB_m1, rfl, rfl, rfl, trivial⟩, goodB_of stB_ids rfl⟩))
  | true =>
    have hq := hb.lt p hp
    have hat := bcB_at (s := (n : Int)) lb lbb (i := p) (by omega)
    replace he : isOut n true (b.getD p 0) = true ∨ ends n a b d false (n + b.getD p 0) := he
    replace hR : (if isOut n true (b.getD p 0) = true then (b.getD p 0, true, t) else fol n a b d false (n + b.getD p 0) (t.set (b.getD p 0) true)) = R := hR
    replace hH : ((h || bl2 ba bb true p) || (if isOut n true (b.getD p 0) = true then false else mB n a b ba bb d false (n + b.getD p 0))) = H := hH
    by_cases ho : n ≤ b.getD p 0
    · have hot : isOut n true (b.getD p 0) = true := decide_eq_true ho
      rw [if_pos hot] at hR
      rw [if_pos hot, Bool.or_false] at hH
      subst hR
      subst hH
      (repeat' (first | refine Exists.intro _ (And.intro hat ?_) | refine (hmt).make [3,2,1] rfl ⟨rfl, rfl, rfl, trivial⟩ ?_ | refine Exists.intro _ (And.intro (stk_fn ht) ?_) | refine And.intro (neI rfl) ?_ | refine And.intro ⟨rfl, leR rfl, onesR rfl⟩ ?_ | refine And.intro ⟨rfl, leR rfl⟩ ?_ | refine draw_rule2 hfol (fun KK hKK => ?_) | refine hKK _ _ _ (by kernel_rfl) ?_ | refine region_rule (fun KK hKK => ?_) | refine hKK _ _ ?_ | refine And.intro (Eq.refl true) ?_ | refine Exists.intro _ (And.intro (wI (by omega)) ?_) | refine Exists.intro _ (And.intro (wU (by omega)) ?_) | refine Exists.intro _ (And.intro ⟨rfl, by omega⟩ ?_) | refine Exists.intro _ (And.intro rfl ?_) | refine And.intro rfl ?_ | refine And.intro ⟨rfl, rfl⟩ ?_ | ((refine And.intro (fun _ => ?_) (fun _ => ?_)) <;> try (exfalso; omega))))
      exact Exists.intro [0, 1, 2, 3] (And.intro rfl (And.intro ⟨congrArg some stkB_m1, rfl, rfl, rfl, trivial⟩ (goodB_of stB_ids rfl)))
    · have hof : isOut n true (b.getD p 0) = false := decide_eq_false ho
      rw [hof, if_neg (by decide)] at hR hH
      rw [hof] at he
      have he := he.resolve_left (by decide)
      have e1 : Int.tmod ((b.getD p 0 : Nat) : Int) (n : Int) = ((b.getD p 0 : Nat) : Int) := by
        rw [tmN, Nat.mod_eq_of_lt (by omega)]
      have e2 : IntKind.i64.wrap ((n : Int) + ((b.getD p 0 : Nat) : Int)) = ((n + b.getD p 0 : Nat) : Int) := wC (by omega) (by omega)
      (repeat' (first | refine Exists.intro _ (And.intro hat ?_) | refine (hmt).make [3,2,1] rfl ⟨rfl, rfl, rfl, trivial⟩ ?_ | refine Exists.intro _ (And.intro (stk_fn ht) ?_) | refine And.intro hn0 ?_ | refine Exists.intro _ (And.intro e1 ?_) | refine Exists.intro _ (And.intro e2 ?_) | refine Exists.intro (stkG 1 2 (t.set (b.getD p 0) true) FMB) (And.intro ⟨by rw [stk_len ht]; omega, stk_set (by omega)⟩ ?_) | refine And.intro (neI rfl) ?_ | refine And.intro ⟨rfl, leR rfl, onesR rfl⟩ ?_ | refine And.intro ⟨rfl, leR rfl⟩ ?_ | refine draw_rule2 hfol (fun KK hKK => ?_) | refine hKK _ _ _ (by kernel_rfl) ?_ | refine region_rule (fun KK hKK => ?_) | refine hKK _ _ ?_ | refine And.intro (Eq.refl true) ?_ | refine Exists.intro _ (And.intro (wI (by omega)) ?_) | refine Exists.intro _ (And.intro (wU (by omega)) ?_) | refine Exists.intro _ (And.intro ⟨rfl, by omega⟩ ?_) | refine Exists.intro _ (And.intro rfl ?_) | refine And.intro rfl ?_ | refine And.intro ⟨rfl, rfl⟩ ?_ | ((refine And.intro (fun _ => ?_) (fun _ => ?_)) <;> try (exfalso; omega))))
      refine Exists.intro (d, false, n + b.getD p 0, t.set (b.getD p 0) true, h || bl2 ba bb true p) (Exists.intro [0, 1, 2, 3] (And.intro ⟨⟨by omega, by simpa using ht, he, hR, hH⟩, (by show d < d + 1; omega)⟩ ⟨⟨rfl, rfl, rfl, rfl, rfl, trivial⟩, ⟨congrArg some stkB_m1, rfl, rfl, rfl, trivial⟩, goodB_of stB_ids rfl⟩))
/-- Round a loop. -/
theorem s_followLB (m : Nat) (hm : m < n) (s : List Bool) (h : Bool) (hs : s.length = 8) (he : endM n a b m 8 true m) :
    Spec Try.prog n_i_stack_follow [.ptr 0 0, vb true, vi m, vi m] (stB n a b ba bb s h) (vi (-1)) (stB n a b ba bb (flI n a b m 8 true m s) (h || mL n a b ba bb m 8 true m)) := by
  have la := ha.len
  have lb := hb.len
  have hn := ha.n8
  have hn1 := ha.n1
  have hn0 : (n : Int) ≠ 0 := by omega
  generalize hR : flI n a b m 8 true m s = R
  generalize hH : (h || mL n a b ba bb m 8 true m) = H
  refine SpecW.of_EV hf_i_stack_follow hc_i_stack_follow rfl rfl (by simp only [stB_ids]; rfl) fun w0 B ρ0 _ => ?_
  (repeat' (first | refine (s_nG n a (bbl ba) T_i_Blobbed).read [1] rfl ⟨rfl, trivial⟩ ?_ | refine And.intro (neI rfl) ?_ | refine And.intro ⟨rfl, leR rfl, onesR rfl⟩ ?_ | refine And.intro ⟨rfl, leR rfl⟩ ?_ | refine draw_rule2 hfol (fun KK hKK => ?_) | refine hKK _ _ _ (by kernel_rfl) ?_ | refine region_rule (fun KK hKK => ?_) | refine hKK _ _ ?_ | refine And.intro (Eq.refl true) ?_ | refine Exists.intro _ (And.intro (wI (by omega)) ?_) | refine Exists.intro _ (And.intro (wU (by omega)) ?_) | refine Exists.intro _ (And.intro ⟨rfl, by omega⟩ ?_) | refine Exists.intro _ (And.intro rfl ?_) | refine And.intro rfl ?_ | refine And.intro ⟨rfl, rfl⟩ ?_ | ((refine And.intro (fun _ => ?_) (fun _ => ?_)) <;> try (exfalso; omega))))
  refine loop_rule (α := Nat × Bool × Nat × List Bool × Bool) (fun (d, l, p, t, h) => p < 2 * n ∧ t.length = 8 ∧ endM n a b m d l p ∧ flI n a b m d l p t = R ∧ (h || mL n a b ba bb m d l p) = H)
    (fun (d, l, p, t, h) => [(0, .ptr 0 0), (1, vb l), (2, vi p), (3, vi m), (9, vi n)])
    (fun (d, l, p, t, h) => stB n a b ba bb t h) (fun (d, _, _, _, _) => d) (8, true, m, s, h) [0, 1, 2, 3]
    ⟨by omega, hs, he, hR, hH⟩ ⟨⟨rfl, rfl, rfl, rfl, rfl, trivial⟩, ⟨congrArg some stkB_m1, rfl, rfl, rfl, trivial⟩, goodB_of stB_ids rfl⟩ ?_
  rintro ⟨d, l, p, t, h⟩ g ⟨hp, ht, he, hR, hH⟩
  cases d with
  | zero => exact he.elim
  | succ d =>
  rw [flI_pack] at hR
  rw [mL_pack, ← Bool.or_assoc] at hH
  have hmt := s_meetB n a b ba bb la lb lba lbb l p (by omega) h
  cases l with
  | false =>
    have hq := ha.lt p hp
    have hat := bcB_at (s := (n : Int)) la lba (i := p) (by omega)
    replace he : isOut n false (a.getD p 0) = false ∧ (a.getD p 0 - n = m ∨ endM n a b m d true (a.getD p 0 - n)) := he
    replace hR : (if a.getD p 0 - n = m then t.set (a.getD p 0 - n) true else flI n a b m d true (a.getD p 0 - n) (t.set (a.getD p 0 - n) true)) = R := hR
    replace hH : ((h || bl2 ba bb false p) || (if a.getD p 0 - n = m then false else mL n a b ba bb m d true (a.getD p 0 - n))) = H := hH
    obtain ⟨ho, he⟩ := he
    have ho : ¬ a.getD p 0 < n := of_decide_eq_false ho
    have e1 : Int.tmod ((a.getD p 0 : Nat) : Int) (n : Int) = ((a.getD p 0 - n : Nat) : Int) := by
      rw [tmN, Nat.mod_eq_sub_mod (by omega), Nat.mod_eq_of_lt (by omega)]
    by_cases hx : a.getD p 0 - n = m
    · rw [if_pos hx] at hR
      rw [if_pos hx, Bool.or_false] at hH
      subst hH
      (repeat' (first | refine Exists.intro _ (And.intro hat ?_) | refine (hmt).make [3,2,1] rfl ⟨rfl, rfl, rfl, trivial⟩ ?_ | refine Exists.intro _ (And.intro (stk_fn ht) ?_) | refine And.intro hn0 ?_ | refine Exists.intro _ (And.intro e1 ?_) | refine Exists.intro (stkG 1 2 R FMB) (And.intro ⟨by rw [stk_len ht]; omega, by rw [← hR]; exact stk_set (by omega)⟩ ?_) | refine And.intro (neI rfl) ?_ | refine And.intro ⟨rfl, leR rfl, onesR rfl⟩ ?_ | refine And.intro ⟨rfl, leR rfl⟩ ?_ | refine draw_rule2 hfol (fun KK hKK => ?_) | refine hKK _ _ _ (by kernel_rfl) ?_ | refine region_rule (fun KK hKK => ?_) | refine hKK _ _ ?_ | refine And.intro (Eq.refl true) ?_ | refine Exists.intro _ (And.intro (wI (by omega)) ?_) | refine Exists.intro _ (And.intro (wU (by omega)) ?_) | refine Exists.intro _ (And.intro ⟨rfl, by omega⟩ ?_) | refine Exists.intro _ (And.intro rfl ?_) | refine And.intro rfl ?_ | refine And.intro ⟨rfl, rfl⟩ ?_ | ((refine And.intro (fun _ => ?_) (fun _ => ?_)) <;> try (exfalso; omega))))
      exact Exists.intro [0, 1, 2, 3] (And.intro rfl (And.intro ⟨congrArg some stkB_m1, rfl, rfl, rfl, trivial⟩ (goodB_of stB_ids rfl)))
    · rw [if_neg hx] at hR hH
      have he := he.resolve_left hx
      (repeat' (first | refine Exists.intro _ (And.intro hat ?_) | refine (hmt).make [3,2,1] rfl ⟨rfl, rfl, rfl, trivial⟩ ?_ | refine Exists.intro _ (And.intro (stk_fn ht) ?_) | refine And.intro hn0 ?_ | refine Exists.intro _ (And.intro e1 ?_) | refine Exists.intro (stkG 1 2 (t.set (a.getD p 0 - n) true) FMB) (And.intro ⟨by rw [stk_len ht]; omega, stk_set (by omega)⟩ ?_) | refine And.intro (neI rfl) ?_ | refine And.intro ⟨rfl, leR rfl, onesR rfl⟩ ?_ | refine And.intro ⟨rfl, leR rfl⟩ ?_ | refine draw_rule2 hfol (fun KK hKK => ?_) | refine hKK _ _ _ (by kernel_rfl) ?_ | refine region_rule (fun KK hKK => ?_) | refine hKK _ _ ?_ | refine And.intro (Eq.refl true) ?_ | refine Exists.intro _ (And.intro (wI (by omega)) ?_) | refine Exists.intro _ (And.intro (wU (by omega)) ?_) | refine Exists.intro _ (And.intro ⟨rfl, by omega⟩ ?_) | refine Exists.intro _ (And.intro rfl ?_) | refine And.intro rfl ?_ | refine And.intro ⟨rfl, rfl⟩ ?_ | ((refine And.intro (fun _ => ?_) (fun _ => ?_)) <;> try (exfalso; omega))))
      refine Exists.intro (d, true, a.getD p 0 - n, t.set (a.getD p 0 - n) true, h || bl2 ba bb false p) (Exists.intro [0, 1, 2, 3] (And.intro ⟨⟨by omega, by simpa using ht, he, hR, hH⟩, (by show d < d + 1; omega)⟩ ⟨⟨rfl, rfl, rfl, rfl, rfl, trivial⟩, ⟨congrArg some stkB_m1, rfl, rfl, rfl, trivial⟩, goodB_of stB_ids rfl⟩))
  | true =>
    have hq := hb.lt p hp
    have hat := bcB_at (s := (n : Int)) lb lbb (i := p) (by omega)
    replace he : isOut n true (b.getD p 0) = false ∧ (b.getD p 0 = m ∨ endM n a b m d false (n + b.getD p 0)) := he
    replace hR : (if b.getD p 0 = m then t.set (b.getD p 0) true else flI n a b m d false (n + b.getD p 0) (t.set (b.getD p 0) true)) = R := hR
    replace hH : ((h || bl2 ba bb true p) || (if b.getD p 0 = m then false else mL n a b ba bb m d false (n + b.getD p 0))) = H := hH
    obtain ⟨ho, he⟩ := he
    have ho : ¬ n ≤ b.getD p 0 := of_decide_eq_false ho
    have e1 : Int.tmod ((b.getD p 0 : Nat) : Int) (n : Int) = ((b.getD p 0 : Nat) : Int) := by
      rw [tmN, Nat.mod_eq_of_lt (by omega)]
    have e2 : IntKind.i64.wrap ((n : Int) + ((b.getD p 0 : Nat) : Int)) = ((n + b.getD p 0 : Nat) : Int) := wC (by omega) (by omega)
    by_cases hx : b.getD p 0 = m
    · rw [if_pos hx] at hR
      rw [if_pos hx, Bool.or_false] at hH
      subst hH
      (repeat' (first | refine Exists.intro _ (And.intro hat ?_) | refine (hmt).make [3,2,1] rfl ⟨rfl, rfl, rfl, trivial⟩ ?_ | refine Exists.intro _ (And.intro (stk_fn ht) ?_) | refine And.intro hn0 ?_ | refine Exists.intro _ (And.intro e1 ?_) | refine Exists.intro _ (And.intro e2 ?_) | refine Exists.intro (stkG 1 2 R FMB) (And.intro ⟨by rw [stk_len ht]; omega, by rw [← hR]; exact stk_set (by omega)⟩ ?_) | refine And.intro (neI rfl) ?_ | refine And.intro ⟨rfl, leR rfl, onesR rfl⟩ ?_ | refine And.intro ⟨rfl, leR rfl⟩ ?_ | refine draw_rule2 hfol (fun KK hKK => ?_) | refine hKK _ _ _ (by kernel_rfl) ?_ | refine region_rule (fun KK hKK => ?_) | refine hKK _ _ ?_ | refine And.intro (Eq.refl true) ?_ | refine Exists.intro _ (And.intro (wI (by omega)) ?_) | refine Exists.intro _ (And.intro (wU (by omega)) ?_) | refine Exists.intro _ (And.intro ⟨rfl, by omega⟩ ?_) | refine Exists.intro _ (And.intro rfl ?_) | refine And.intro rfl ?_ | refine And.intro ⟨rfl, rfl⟩ ?_ | ((refine And.intro (fun _ => ?_) (fun _ => ?_)) <;> try (exfalso; omega))))
      exact Exists.intro [0, 1, 2, 3] (And.intro rfl (And.intro ⟨congrArg some stkB_m1, rfl, rfl, rfl, trivial⟩ (goodB_of stB_ids rfl)))
    · rw [if_neg hx] at hR hH
      have he := he.resolve_left hx
      (repeat' (first | refine Exists.intro _ (And.intro hat ?_) | refine (hmt).make [3,2,1] rfl ⟨rfl, rfl, rfl, trivial⟩ ?_ | refine Exists.intro _ (And.intro (stk_fn ht) ?_) | refine And.intro hn0 ?_ | refine Exists.intro _ (And.intro e1 ?_) | refine Exists.intro _ (And.intro e2 ?_) | refine Exists.intro (stkG 1 2 (t.set (b.getD p 0) true) FMB) (And.intro ⟨by rw [stk_len ht]; omega, stk_set (by omega)⟩ ?_) | refine And.intro (neI rfl) ?_ | refine And.intro ⟨rfl, leR rfl, onesR rfl⟩ ?_ | refine And.intro ⟨rfl, leR rfl⟩ ?_ | refine draw_rule2 hfol (fun KK hKK => ?_) | refine hKK _ _ _ (by kernel_rfl) ?_ | refine region_rule (fun KK hKK => ?_) | refine hKK _ _ ?_ | refine And.intro (Eq.refl true) ?_ | refine Exists.intro _ (And.intro (wI (by omega)) ?_) | refine Exists.intro _ (And.intro (wU (by omega)) ?_) | refine Exists.intro _ (And.intro ⟨rfl, by omega⟩ ?_) | refine Exists.intro _ (And.intro rfl ?_) | refine And.intro rfl ?_ | refine And.intro ⟨rfl, rfl⟩ ?_ | ((refine And.intro (fun _ => ?_) (fun _ => ?_)) <;> try (exfalso; omega))))
      refine Exists.intro (d, false, n + b.getD p 0, t.set (b.getD p 0) true, h || bl2 ba bb true p) (Exists.intro [0, 1, 2, 3] (And.intro ⟨⟨by omega, by simpa using ht, he, hR, hH⟩, (by show d < d + 1; omega)⟩ ⟨⟨rfl, rfl, rfl, rfl, rfl, trivial⟩, ⟨congrArg some stkB_m1, rfl, rfl, rfl, trivial⟩, goodB_of stB_ids rfl⟩))
end
end Go.Proofs.Ytcibbadioijmcaa.VE
