/- Contracts of functions of the given program, for all arguments that the contract names; see each theorem. -/
import Derived.Test.YtcibbadioijmcaaC4
import Derived.Test.YtcibbadioijmcaaU15p
import Derived.Test.YtcibbadioijmcaaW1
set_option linter.all false
namespace Go.Proofs.Ytcibbadioijmcaa.VE
open Go
set_option maxHeartbeats 800000
set_option maxRecDepth 100000

def clJ (n : Nat) (m : List Nat) (bs : List Bool) : Nat → Nat → List Bool → Bool → List Bool × Bool
  | 0, _, s, h => (s, h)
  | d + 1, k, s, h => if s.getD k false = true then (s, h) else clJ n m bs d (nxt n m k) ((s.set k true).set (m.getD k 0) true) (h || bs.getD k false)
def clP (n : Nat) (m : List Nat) (bs : List Bool) : Nat → Nat → List Bool → Nat → Nat → Nat × Nat
  | 0, _, _, a, b => (a, b)
  | d + 1, i, s, a, b => if s.getD i false = true then clP n m bs d (i + 1) s a b else if (clJ n m bs 17 i s false).2 = true then clP n m bs d (i + 1) (clJ n m bs 17 i s false).1 a (b + 1) else clP n m bs d (i + 1) (clJ n m bs 17 i s false).1 (a + 1) b
def clR (n : Nat) (m : List Nat) (bs : List Bool) : Nat × Nat := clP n m bs (2 * n) 0 (List.replicate 16 false) 0 0
def i2 (a b : Nat) : List Value := il (fun i => if i = 0 then ((a : Nat) : Int) else ((b : Nat) : Int)) 2
theorem i2_eq {a b : Nat} : i2 a b = [.int .i64 (a : Int), .int .i64 (b : Int)] := rfl
theorem row2l {c : List Value} {k : IntKind} {a : Int} (h : c.length = 2) : 1 * 1 + 1 ≤ (c.take (0 * 1) ++ (Value.int k a).cells.toList ++ c.drop (0 * 1 + 1)).length := by
  match c, h with
  | [x, y], _ => exact Nat.le_refl _
theorem row2i {c : List Value} {k : IntKind} {a b : Int} (h : c.length = 2) : (c.take (0 * 1) ++ (Value.int k a).cells.toList ++ c.drop (0 * 1 + 1)).take (1 * 1) ++ (Value.int k b).cells.toList ++ (c.take (0 * 1) ++ (Value.int k a).cells.toList ++ c.drop (0 * 1 + 1)).drop (1 * 1 + 1) = [.int k a, .int k b] := by
  match c, h with
  | [x, y], _ => rfl

theorem s_sCloB (s : Int) (m : List Nat) (bs : List Bool) (hm : m.length = 16) (hb : ∀ x ∈ m, x < 256) (hbs : bs.length = 16) (n : Nat) (hsn : s = n) (hd : IsD n m) (hv : isBl s m bs = true) :
    Spec Try.prog n_s_ClosureOfBlobbed [bV s m bs] [] (.tup [.sl 0, vi 0]) [.pr T_int64 1 2 (i2 (clR n m bs).1 (clR n m bs).2)] := by
  subst hsn
  have hq := s_sIsBl n m bs hm hb hbs
  rw [hv] at hq
  have hn := hd.n8
  have hn1 := hd.n1
  have hn0 : 2 * (n : Int) ≠ 0 := by omega
  generalize hRd : clR n m bs = R
  refine SpecW.of_EV hf_s_ClosureOfBlobbed hc_s_ClosureOfBlobbed rfl rfl rfl fun w0 B ρ0 _ => ?_
  (repeat' (first | refine (hq).pure rfl ?_ | refine Exists.intro (bcB n m bs) (And.intro ⟨bcB_len hm hbs, bcB_all hm hbs⟩ ?_) | refine Exists.intro (bbl (List.replicate 16 false)) (And.intro ⟨leR rfl, rfl⟩ ?_) | refine And.intro ⟨rfl, mkL rfl⟩ ?_ | refine And.intro ⟨rfl, row2l mk_len⟩ ?_ | refine Exists.intro (i2 0 0) (And.intro (row2i mk_len) ?_) | refine And.intro (neI rfl) ?_ | refine And.intro ⟨rfl, leR rfl, onesR rfl⟩ ?_ | refine And.intro ⟨rfl, leR rfl⟩ ?_ | refine draw_rule2 hfol (fun KK hKK => ?_) | refine hKK _ _ _ (by kernel_rfl) ?_ | refine region_rule (fun KK hKK => ?_) | refine hKK _ _ ?_ | refine And.intro (Eq.refl true) ?_ | refine Exists.intro _ (And.intro (wI (by omega)) ?_) | refine Exists.intro _ (And.intro (wU (by omega)) ?_) | refine Exists.intro _ (And.intro ⟨rfl, by omega⟩ ?_) | refine Exists.intro _ (And.intro rfl ?_) | refine And.intro rfl ?_ | refine And.intro ⟨rfl, rfl⟩ ?_ | ((refine And.intro (fun _ => ?_) (fun _ => ?_)) <;> try (exfalso; omega))))
  refine loop_rule (α := Nat × List Bool × Nat × Nat) (fun (i, s, a, b) => i ≤ 2 * n ∧ s.length = 16 ∧ a + b ≤ i ∧ clP n m bs (2 * n - i) i s a b = R)
    (fun (i, s, a, b) => [(1, .ptr 0 0), (4, vi n), (5, .ptr 2 0), (6, .sl 1), (7, vi i)])
    (fun (i, s, a, b) => [.pc (bcB n m bs) T_i_Blobbed, .pr T_int64 1 2 (i2 a b), .pc (bbl s) T_a16q_bool]) (fun (i, _, _, _) => 2 * n - i) (0, List.replicate 16 false, 0, 0) [0, 1, 2]
    ⟨by omega, by simp, by omega, hRd⟩ ⟨⟨rfl, rfl, rfl, rfl, rfl, trivial⟩, ⟨rfl, rfl, rfl, trivial⟩, rfl⟩ ?_
  rintro ⟨i, s, a, b⟩ g ⟨hi, hs, hc, hR⟩
  by_cases h9 : i = 2 * n
  · subst h9
    rw [Nat.sub_self] at hR
    subst hR
    (repeat' (first | refine And.intro (neI rfl) ?_ | refine And.intro ⟨rfl, leR rfl, onesR rfl⟩ ?_ | refine And.intro ⟨rfl, leR rfl⟩ ?_ | refine draw_rule2 hfol (fun KK hKK => ?_) | refine hKK _ _ _ (by kernel_rfl) ?_ | refine region_rule (fun KK hKK => ?_) | refine hKK _ _ ?_ | refine And.intro (Eq.refl true) ?_ | refine Exists.intro _ (And.intro (wI (by omega)) ?_) | refine Exists.intro _ (And.intro (wU (by omega)) ?_) | refine Exists.intro _ (And.intro ⟨rfl, by omega⟩ ?_) | refine Exists.intro _ (And.intro rfl ?_) | refine And.intro rfl ?_ | refine And.intro ⟨rfl, rfl⟩ ?_ | ((refine And.intro (fun _ => ?_) (fun _ => ?_)) <;> try (exfalso; omega))))
    exact Exists.intro [1] (And.intro (rfl) (And.intro ⟨rfl, trivial⟩ rfl))
  have hil : i < 2 * n := by omega
  obtain ⟨d, hdd⟩ : ∃ d, 2 * n - i = d + 1 := ⟨2 * n - i - 1, by omega⟩
  have hd' : 2 * n - (i + 1) = d := by omega
  rw [hdd] at hR
  unfold clP at hR
  cases hsi : s.getD i false with
  | true =>
    rw [if_pos hsi] at hR
    (repeat' (first | refine Exists.intro _ (And.intro (bbl_at (by omega) hsi) ?_) | refine And.intro (neI rfl) ?_ | refine And.intro ⟨rfl, leR rfl, onesR rfl⟩ ?_ | refine And.intro ⟨rfl, leR rfl⟩ ?_ | refine draw_rule2 hfol (fun KK hKK => ?_) | refine hKK _ _ _ (by kernel_rfl) ?_ | refine region_rule (fun KK hKK => ?_) | refine hKK _ _ ?_ | refine And.intro (Eq.refl true) ?_ | refine Exists.intro _ (And.intro (wI (by omega)) ?_) | refine Exists.intro _ (And.intro (wU (by omega)) ?_) | refine Exists.intro _ (And.intro ⟨rfl, by omega⟩ ?_) | refine Exists.intro _ (And.intro rfl ?_) | refine And.intro rfl ?_ | refine And.intro ⟨rfl, rfl⟩ ?_ | ((refine And.intro (fun _ => ?_) (fun _ => ?_)) <;> try (exfalso; omega))))
    refine Exists.intro (i + 1, s, a, b) (Exists.intro [0, 1, 2] (And.intro ⟨⟨by omega, hs, by omega, by rw [hd']; exact hR⟩, (by show 2 * n - (i + 1) < 2 * n - i; omega)⟩ ⟨⟨rfl, rfl, rfl, rfl, rfl, trivial⟩, ⟨rfl, rfl, rfl, trivial⟩, rfl⟩))
  | false =>
    rw [if_neg (by rw [hsi]; decide)] at hR
    generalize hJ : clJ n m bs 17 i s false = J at hR
    (repeat' (first | refine Exists.intro _ (And.intro (bbl_at (by omega) hsi) ?_) | refine And.intro (neI rfl) ?_ | refine And.intro ⟨rfl, leR rfl, onesR rfl⟩ ?_ | refine And.intro ⟨rfl, leR rfl⟩ ?_ | refine draw_rule2 hfol (fun KK hKK => ?_) | refine hKK _ _ _ (by kernel_rfl) ?_ | refine region_rule (fun KK hKK => ?_) | refine hKK _ _ ?_ | refine And.intro (Eq.refl true) ?_ | refine Exists.intro _ (And.intro (wI (by omega)) ?_) | refine Exists.intro _ (And.intro (wU (by omega)) ?_) | refine Exists.intro _ (And.intro ⟨rfl, by omega⟩ ?_) | refine Exists.intro _ (And.intro rfl ?_) | refine And.intro rfl ?_ | refine And.intro ⟨rfl, rfl⟩ ?_ | ((refine And.intro (fun _ => ?_) (fun _ => ?_)) <;> try (exfalso; omega))))
    refine loop_rule (α := Nat × Nat × List Bool × Bool) (fun (d, k, t, h) => k < 2 * n ∧ t.length = 16 ∧ cF t ≤ d ∧ clJ n m bs d k t h = J)
      (fun (d, k, t, h) => [(1, .ptr 0 0), (4, vi n), (5, .ptr 2 0), (6, .sl 1), (7, vi i), (8, vi (bif h then 1 else 0)), (9, vi k)])
      (fun (d, k, t, h) => [.pc (bcB n m bs) T_i_Blobbed, .pr T_int64 1 2 (i2 a b), .pc (bbl t) T_a16q_bool]) (fun (d, _, _, _) => d) (17, i, s, false) [0, 1, 2]
      ⟨by omega, hs, by have := cF_all (s := s); omega, hJ⟩ ⟨⟨rfl, rfl, rfl, rfl, rfl, rfl, rfl, trivial⟩, ⟨rfl, rfl, rfl, trivial⟩, rfl⟩ ?_
    rintro ⟨d2, k, t, h⟩ g2 ⟨hk, ht, hcd, hR2⟩
    cases htk : t.getD k false with
    | true =>
      have he : J = (t, h) := by
        rw [← hR2]; cases d2 with
        | zero => rfl
        | succ d2 => unfold clJ; rw [if_pos htk]
      subst he
      cases h with
      | true =>
        replace hR : clP n m bs d (i + 1) t a (b + 1) = R := hR
        have e1 : IntKind.i64.wrap ((b : Int) + 1) = ((b + 1 : Nat) : Int) := wC (by omega) (by omega)
        (repeat' (first | refine Exists.intro _ (And.intro (bbl_at (by omega) htk) ?_) | refine Exists.intro 1 (And.intro ⟨rfl, leR rfl⟩ ?_) | refine Exists.intro _ (And.intro e1 ?_) | refine Exists.intro (i2 a (b + 1)) (And.intro ⟨leR rfl, rfl⟩ ?_) | refine And.intro (neI rfl) ?_ | refine And.intro ⟨rfl, leR rfl, onesR rfl⟩ ?_ | refine And.intro ⟨rfl, leR rfl⟩ ?_ | refine draw_rule2 hfol (fun KK hKK => ?_) | refine hKK _ _ _ (by kernel_rfl) ?_ | refine region_rule (fun KK hKK => ?_) | refine hKK _ _ ?_ | refine And.intro (Eq.refl true) ?_ | refine Exists.intro _ (And.intro (wI (by omega)) ?_) | refine Exists.intro _ (And.intro (wU (by omega)) ?_) | refine Exists.intro _ (And.intro ⟨rfl, by omega⟩ ?_) | refine Exists.intro _ (And.intro rfl ?_) | refine And.intro rfl ?_ | refine And.intro ⟨rfl, rfl⟩ ?_ | ((refine And.intro (fun _ => ?_) (fun _ => ?_)) <;> try (exfalso; omega))))
        refine Exists.intro (i + 1, t, a, b + 1) (Exists.intro [0, 1, 2] (And.intro ⟨⟨by omega, ht, by omega, by rw [hd']; exact hR⟩, (by show 2 * n - (i + 1) < 2 * n - i; omega)⟩ ⟨⟨rfl, rfl, rfl, rfl, rfl, trivial⟩, ⟨rfl, rfl, rfl, trivial⟩, rfl⟩))
      | false =>
        replace hR : clP n m bs d (i + 1) t (a + 1) b = R := hR
        have e1 : IntKind.i64.wrap ((a : Int) + 1) = ((a + 1 : Nat) : Int) := wC (by omega) (by omega)
        (repeat' (first | refine Exists.intro _ (And.intro (bbl_at (by omega) htk) ?_) | refine Exists.intro 0 (And.intro ⟨rfl, leR rfl⟩ ?_) | refine Exists.intro _ (And.intro e1 ?_) | refine Exists.intro (i2 (a + 1) b) (And.intro ⟨leR rfl, rfl⟩ ?_) | refine And.intro (neI rfl) ?_ | refine And.intro ⟨rfl, leR rfl, onesR rfl⟩ ?_ | refine And.intro ⟨rfl, leR rfl⟩ ?_ | refine draw_rule2 hfol (fun KK hKK => ?_) | refine hKK _ _ _ (by kernel_rfl) ?_ | refine region_rule (fun KK hKK => ?_) | refine hKK _ _ ?_ | refine And.intro (Eq.refl true) ?_ | refine Exists.intro _ (And.intro (wI (by omega)) ?_) | refine Exists.intro _ (And.intro (wU (by omega)) ?_) | refine Exists.intro _ (And.intro ⟨rfl, by omega⟩ ?_) | refine Exists.intro _ (And.intro rfl ?_) | refine And.intro rfl ?_ | refine And.intro ⟨rfl, rfl⟩ ?_ | ((refine And.intro (fun _ => ?_) (fun _ => ?_)) <;> try (exfalso; omega))))
        refine Exists.intro (i + 1, t, a + 1, b) (Exists.intro [0, 1, 2] (And.intro ⟨⟨by omega, ht, by omega, by rw [hd']; exact hR⟩, (by show 2 * n - (i + 1) < 2 * n - i; omega)⟩ ⟨⟨rfl, rfl, rfl, rfl, rfl, trivial⟩, ⟨rfl, rfl, rfl, trivial⟩, rfl⟩))
    | false =>
      have hcs := cF_set (by omega) htk
      obtain ⟨d3, rfl⟩ : ∃ d3, d2 = d3 + 1 := ⟨d2 - 1, by omega⟩
      unfold clJ at hR2
      rw [if_neg (by rw [htk]; decide)] at hR2
      have hmk := hd.lt k hk
      have hx := nxt_lt (m := m) (k := k) hn1
      have hle := cF_le (s := t.set k true) (i := m.getD k 0)
      have e1 := tmX (n := n) (m := m) (k := k)
      have hcat := bcB_at (s := n) hm hbs (i := k) (by omega)
      have hl1 : (t.set k true).length = 16 := by rw [List.length_set]; exact ht
      cases hbk : bs.getD k false with
      | false =>
        rw [hbk, Bool.or_false] at hR2
        (repeat' (first | refine Exists.intro _ (And.intro (bbl_at (by omega) htk) ?_) | refine Exists.intro _ (And.intro hcat ?_) | refine Exists.intro _ (And.intro (bcB_bat hm hbs (by omega) hbk) ?_) | refine And.intro hn0 ?_ | refine Exists.intro _ (And.intro e1 ?_) | refine Exists.intro (bbl (t.set k true)) (And.intro ⟨by rw [bbl_len ht]; omega, bbl_set⟩ ?_) | refine Exists.intro (bbl ((t.set k true).set (m.getD k 0) true)) (And.intro ⟨by rw [bbl_len hl1]; omega, bbl_set⟩ ?_) | refine And.intro (neI rfl) ?_ | refine And.intro ⟨rfl, leR rfl, onesR rfl⟩ ?_ | refine And.intro ⟨rfl, leR rfl⟩ ?_ | refine draw_rule2 hfol (fun KK hKK => ?_) | refine hKK _ _ _ (by kernel_rfl) ?_ | refine region_rule (fun KK hKK => ?_) | refine hKK _ _ ?_ | refine And.intro (Eq.refl true) ?_ | refine Exists.intro _ (And.intro (wI (by omega)) ?_) | refine Exists.intro _ (And.intro (wU (by omega)) ?_) | refine Exists.intro _ (And.intro ⟨rfl, by omega⟩ ?_) | refine Exists.intro _ (And.intro rfl ?_) | refine And.intro rfl ?_ | refine And.intro ⟨rfl, rfl⟩ ?_ | ((refine And.intro (fun _ => ?_) (fun _ => ?_)) <;> try (exfalso; omega))))
        refine Exists.intro (d3, nxt n m k, (t.set k true).set (m.getD k 0) true, h) (Exists.intro [0, 1, 2] (And.intro ⟨⟨hx, by simpa using ht, by omega, hR2⟩, (by show d3 < d3 + 1; omega)⟩ ⟨⟨rfl, rfl, rfl, rfl, rfl, rfl, rfl, trivial⟩, ⟨rfl, rfl, rfl, trivial⟩, rfl⟩))
      | true =>
        rw [hbk, Bool.or_true] at hR2
        (repeat' (first | refine Exists.intro _ (And.intro (bbl_at (by omega) htk) ?_) | refine Exists.intro _ (And.intro hcat ?_) | refine Exists.intro _ (And.intro (bcB_bat hm hbs (by omega) hbk) ?_) | refine And.intro hn0 ?_ | refine Exists.intro _ (And.intro e1 ?_) | refine Exists.intro (bbl (t.set k true)) (And.intro ⟨by rw [bbl_len ht]; omega, bbl_set⟩ ?_) | refine Exists.intro (bbl ((t.set k true).set (m.getD k 0) true)) (And.intro ⟨by rw [bbl_len hl1]; omega, bbl_set⟩ ?_) | refine And.intro (neI rfl) ?_ | refine And.intro ⟨rfl, leR rfl, onesR rfl⟩ ?_ | refine And.intro ⟨rfl, leR rfl⟩ ?_ | refine draw_rule2 hfol (fun KK hKK => ?_) | refine hKK _ _ _ (by kernel_rfl) ?_ | refine region_rule (fun KK hKK => ?_) | refine hKK _ _ ?_ | refine And.intro (Eq.refl true) ?_ | refine Exists.intro _ (And.intro (wI (by omega)) ?_) | refine Exists.intro _ (And.intro (wU (by omega)) ?_) | refine Exists.intro _ (And.intro ⟨rfl, by omega⟩ ?_) | refine Exists.intro _ (And.intro rfl ?_) | refine And.intro rfl ?_ | refine And.intro ⟨rfl, rfl⟩ ?_ | ((refine And.intro (fun _ => ?_) (fun _ => ?_)) <;> try (exfalso; omega))))
        refine Exists.intro (d3, nxt n m k, (t.set k true).set (m.getD k 0) true, true) (Exists.intro [0, 1, 2] (And.intro ⟨⟨hx, by simpa using ht, by omega, hR2⟩, (by show d3 < d3 + 1; omega)⟩ ⟨⟨rfl, rfl, rfl, rfl, rfl, rfl, rfl, trivial⟩, ⟨rfl, rfl, rfl, trivial⟩, rfl⟩))

theorem s_meetB (n : Int) (m : List Nat) (bs : List Bool) (hm : m.length = 16) (hbs : bs.length = 16) (h : Bool) (p : Nat) (hp : p < 16) :
    Spec Try.prog n_i_ClosureOfBlobbed_1 [vi p, .ptr 0 0, .ptr 1 0] [.pc [.bool h] T_bool, .pc (bcB n m bs) T_i_Blobbed] (.tup []) [.pc [.bool (h || bs.getD p false)] T_bool, .pc (bcB n m bs) T_i_Blobbed] := by
  have hat := bcB_bat (s := n) hm hbs (i := p) hp rfl
  refine SpecW.of_EV hf_i_ClosureOfBlobbed_1 hc_i_ClosureOfBlobbed_1 rfl rfl rfl fun w0 B ρ0 _ => ?_
  cases h with
  | true =>
    (repeat' (first | refine Exists.intro [Value.bool true] (And.intro ⟨leR rfl, rfl⟩ ?_) | refine And.intro (neI rfl) ?_ | refine And.intro ⟨rfl, leR rfl, onesR rfl⟩ ?_ | refine And.intro ⟨rfl, leR rfl⟩ ?_ | refine draw_rule2 hfol (fun KK hKK => ?_) | refine hKK _ _ _ (by kernel_rfl) ?_ | refine region_rule (fun KK hKK => ?_) | refine hKK _ _ ?_ | refine And.intro (Eq.refl true) ?_ | refine Exists.intro _ (And.intro (wI (by omega)) ?_) | refine Exists.intro _ (And.intro (wU (by omega)) ?_) | refine Exists.intro _ (And.intro ⟨rfl, by omega⟩ ?_) | refine Exists.intro _ (And.intro rfl ?_) | refine And.intro rfl ?_ | refine And.intro ⟨rfl, rfl⟩ ?_ | ((refine And.intro (fun _ => ?_) (fun _ => ?_)) <;> try (exfalso; omega))))
    exact Exists.intro [0,1] (And.intro (rfl) (And.intro ⟨rfl, rfl, trivial⟩ rfl))
  | false =>
    (repeat' (first | refine Exists.intro _ (And.intro hat ?_) | refine Exists.intro [Value.bool (bs.getD p false)] (And.intro ⟨leR rfl, rfl⟩ ?_) | refine And.intro (neI rfl) ?_ | refine And.intro ⟨rfl, leR rfl, onesR rfl⟩ ?_ | refine And.intro ⟨rfl, leR rfl⟩ ?_ | refine draw_rule2 hfol (fun KK hKK => ?_) | refine hKK _ _ _ (by kernel_rfl) ?_ | refine region_rule (fun KK hKK => ?_) | refine hKK _ _ ?_ | refine And.intro (Eq.refl true) ?_ | refine Exists.intro _ (And.intro (wI (by omega)) ?_) | refine Exists.intro _ (And.intro (wU (by omega)) ?_) | refine Exists.intro _ (And.intro ⟨rfl, by omega⟩ ?_) | refine Exists.intro _ (And.intro rfl ?_) | refine And.intro rfl ?_ | refine And.intro ⟨rfl, rfl⟩ ?_ | ((refine And.intro (fun _ => ?_) (fun _ => ?_)) <;> try (exfalso; omega))))
    exact Exists.intro [0,1] (And.intro (rfl) (And.intro ⟨rfl, rfl, trivial⟩ rfl))
theorem s_countB (a b : Nat) (h : Bool) (ha : a ≤ 1000) (hb : b ≤ 1000) : Spec Try.prog n_i_bothLoops_count [.ptr 0 0, vb h] [.pc (i2 a b) T_i_bothLoops] (.tup []) [.pc (i2 (bif h then a else a + 1) (bif h then b + 1 else b)) T_i_bothLoops] := by
  have e1 : IntKind.i64.wrap ((a : Int) + 1) = ((a + 1 : Nat) : Int) := wC (by omega) (by omega)
  have e2 : IntKind.i64.wrap ((b : Int) + 1) = ((b + 1 : Nat) : Int) := wC (by omega) (by omega)
  refine SpecW.of_EV hf_i_bothLoops_count hc_i_bothLoops_count rfl rfl rfl fun w0 B ρ0 _ => ?_
  cases h with
  | true =>
    (repeat' (first | refine Exists.intro 1 (And.intro ⟨rfl, leR rfl⟩ ?_) | refine Exists.intro _ (And.intro e2 ?_) | refine Exists.intro (i2 a (b + 1)) (And.intro ⟨leR rfl, rfl⟩ ?_) | refine And.intro (neI rfl) ?_ | refine And.intro ⟨rfl, leR rfl, onesR rfl⟩ ?_ | refine And.intro ⟨rfl, leR rfl⟩ ?_ | refine draw_rule2 hfol (fun KK hKK => ?_) | refine hKK _ _ _ (by kernel_rfl) ?_ | refine region_rule (fun KK hKK => ?_) | refine hKK _ _ ?_ | refine And.intro (Eq.refl true) ?_ | refine Exists.intro _ (And.intro (wI (by omega)) ?_) | refine Exists.intro _ (And.intro (wU (by omega)) ?_) | refine Exists.intro _ (And.intro ⟨rfl, by omega⟩ ?_) | refine Exists.intro _ (And.intro rfl ?_) | refine And.intro rfl ?_ | refine And.intro ⟨rfl, rfl⟩ ?_ | ((refine And.intro (fun _ => ?_) (fun _ => ?_)) <;> try (exfalso; omega))))
    exact Exists.intro [0] (And.intro (rfl) (And.intro ⟨rfl, trivial⟩ rfl))
  | false =>
    (repeat' (first | refine Exists.intro 0 (And.intro ⟨rfl, leR rfl⟩ ?_) | refine Exists.intro _ (And.intro e1 ?_) | refine Exists.intro (i2 (a + 1) b) (And.intro ⟨leR rfl, rfl⟩ ?_) | refine And.intro (neI rfl) ?_ | refine And.intro ⟨rfl, leR rfl, onesR rfl⟩ ?_ | refine And.intro ⟨rfl, leR rfl⟩ ?_ | refine draw_rule2 hfol (fun KK hKK => ?_) | refine hKK _ _ _ (by kernel_rfl) ?_ | refine region_rule (fun KK hKK => ?_) | refine hKK _ _ ?_ | refine And.intro (Eq.refl true) ?_ | refine Exists.intro _ (And.intro (wI (by omega)) ?_) | refine Exists.intro _ (And.intro (wU (by omega)) ?_) | refine Exists.intro _ (And.intro ⟨rfl, by omega⟩ ?_) | refine Exists.intro _ (And.intro rfl ?_) | refine And.intro rfl ?_ | refine And.intro ⟨rfl, rfl⟩ ?_ | ((refine And.intro (fun _ => ?_) (fun _ => ?_)) <;> try (exfalso; omega))))
    exact Exists.intro [0] (And.intro (rfl) (And.intro ⟨rfl, trivial⟩ rfl))
theorem s_loopB (a b : Nat) (h : Bool) (ha : a ≤ 1000) (hb : b ≤ 1000) : Spec Try.prog n_i_ClosureOfBlobbed_2 [.ptr 0 0, .ptr 1 0] [.pc (i2 a b) T_i_bothLoops, .pc [.bool h] T_bool] (.tup []) [.pc (i2 (bif h then a else a + 1) (bif h then b + 1 else b)) T_i_bothLoops, .pc [.bool false] T_bool] := by
  have hct := s_countB a b h ha hb
  refine SpecW.of_EV hf_i_ClosureOfBlobbed_2 hc_i_ClosureOfBlobbed_2 rfl rfl rfl fun w0 B ρ0 _ => ?_
  (repeat' (first | refine (hct).make [0] rfl ⟨rfl, trivial⟩ ?_ | refine Exists.intro [Value.bool false] (And.intro ⟨leR rfl, rfl⟩ ?_) | refine And.intro (neI rfl) ?_ | refine And.intro ⟨rfl, leR rfl, onesR rfl⟩ ?_ | refine And.intro ⟨rfl, leR rfl⟩ ?_ | refine draw_rule2 hfol (fun KK hKK => ?_) | refine hKK _ _ _ (by kernel_rfl) ?_ | refine region_rule (fun KK hKK => ?_) | refine hKK _ _ ?_ | refine And.intro (Eq.refl true) ?_ | refine Exists.intro _ (And.intro (wI (by omega)) ?_) | refine Exists.intro _ (And.intro (wU (by omega)) ?_) | refine Exists.intro _ (And.intro ⟨rfl, by omega⟩ ?_) | refine Exists.intro _ (And.intro rfl ?_) | refine And.intro rfl ?_ | refine And.intro ⟨rfl, rfl⟩ ?_ | ((refine And.intro (fun _ => ?_) (fun _ => ?_)) <;> try (exfalso; omega))))
  exact Exists.intro [0,1] (And.intro (rfl) (And.intro ⟨rfl, rfl, trivial⟩ rfl))
theorem s_listB (a b : Nat) : Spec Try.prog n_i_bothLoops_list [.raw (.agg (i2 a b).toArray)] [] (.sl 0) [.pr T_int64 1 2 (i2 a b)] := by
  refine SpecW.of_EV hf_i_bothLoops_list hc_i_bothLoops_list rfl rfl rfl fun w0 B ρ0 _ => ?_
  (repeat' (first | refine Exists.intro 0 (And.intro ⟨rfl, leR rfl⟩ ?_) | refine Exists.intro 1 (And.intro ⟨rfl, leR rfl⟩ ?_) | refine And.intro ⟨rfl, mkL rfl⟩ ?_ | refine And.intro ⟨rfl, row2l mk_len⟩ ?_ | refine Exists.intro (i2 a b) (And.intro (row2i mk_len) ?_) | refine And.intro (neI rfl) ?_ | refine And.intro ⟨rfl, leR rfl, onesR rfl⟩ ?_ | refine And.intro ⟨rfl, leR rfl⟩ ?_ | refine draw_rule2 hfol (fun KK hKK => ?_) | refine hKK _ _ _ (by kernel_rfl) ?_ | refine region_rule (fun KK hKK => ?_) | refine hKK _ _ ?_ | refine And.intro (Eq.refl true) ?_ | refine Exists.intro _ (And.intro (wI (by omega)) ?_) | refine Exists.intro _ (And.intro (wU (by omega)) ?_) | refine Exists.intro _ (And.intro ⟨rfl, by omega⟩ ?_) | refine Exists.intro _ (And.intro rfl ?_) | refine And.intro rfl ?_ | refine And.intro ⟨rfl, rfl⟩ ?_ | ((refine And.intro (fun _ => ?_) (fun _ => ?_)) <;> try (exfalso; omega))))
  exact Exists.intro [1] (And.intro (rfl) (And.intro ⟨rfl, trivial⟩ rfl))

theorem s_closureB (n : Nat) (m : List Nat) (bs : List Bool) (hd : IsD n m) (hbs : bs.length = 16) :
    Spec Try.prog n_i_Diagram_closure [.ptr 0 0, .fn (.func n_i_ClosureOfBlobbed_1) [] [.ptr 1 0, .ptr 0 0], .fn (.func n_i_ClosureOfBlobbed_2) [] [.ptr 2 0, .ptr 1 0]] [.pc (bcB n m bs) T_i_Blobbed, .pc [.bool false] T_bool, .pc (i2 0 0) T_i_bothLoops] (.tup [])
      [.pc (bcB n m bs) T_i_Blobbed, .pc [.bool false] T_bool, .pc (i2 (clR n m bs).1 (clR n m bs).2) T_i_bothLoops] := by
  have hm := hd.len
  have hn := hd.n8
  have hn1 := hd.n1
  have hn0 : 2 * (n : Int) ≠ 0 := by omega
  generalize hRd : clR n m bs = R
  refine SpecW.of_EV hf_i_Diagram_closure hc_i_Diagram_closure rfl rfl rfl fun w0 B ρ0 _ => ?_
  (repeat' (first | refine (s_nG n m (bbl bs) T_i_Blobbed).read [0] rfl ⟨rfl, trivial⟩ ?_ | refine Exists.intro (bbl (List.replicate 16 false)) (And.intro ⟨leR rfl, rfl⟩ ?_) | refine And.intro (neI rfl) ?_ | refine And.intro ⟨rfl, leR rfl, onesR rfl⟩ ?_ | refine And.intro ⟨rfl, leR rfl⟩ ?_ | refine draw_rule2 hfol (fun KK hKK => ?_) | refine hKK _ _ _ (by kernel_rfl) ?_ | refine region_rule (fun KK hKK => ?_) | refine hKK _ _ ?_ | refine And.intro (Eq.refl true) ?_ | refine Exists.intro _ (And.intro (wI (by omega)) ?_) | refine Exists.intro _ (And.intro (wU (by omega)) ?_) | refine Exists.intro _ (And.intro ⟨rfl, by omega⟩ ?_) | refine Exists.intro _ (And.intro rfl ?_) | refine And.intro rfl ?_ | refine And.intro ⟨rfl, rfl⟩ ?_ | ((refine And.intro (fun _ => ?_) (fun _ => ?_)) <;> try (exfalso; omega))))
  refine loop_rule (α := Nat × List Bool × Nat × Nat) (fun (i, s, a, b) => i ≤ 2 * n ∧ s.length = 16 ∧ a + b ≤ i ∧ clP n m bs (2 * n - i) i s a b = R)
    (fun (i, s, a, b) => [(0, .ptr 0 0), (1, .fn (.func n_i_ClosureOfBlobbed_1) [] [.ptr 1 0, .ptr 0 0]), (2, .fn (.func n_i_ClosureOfBlobbed_2) [] [.ptr 2 0, .ptr 1 0]), (6, vi n), (7, .ptr 3 0), (15, vi (2 * n)), (16, vi i)])
    (fun (i, s, a, b) => [.pc (bcB n m bs) T_i_Blobbed, .pc [.bool false] T_bool, .pc (i2 a b) T_i_bothLoops, .pc (bbl s) T_a16q_bool]) (fun (i, _, _, _) => 2 * n - i) (0, List.replicate 16 false, 0, 0) [0, 1, 2, 3]
    ⟨by omega, by simp, by omega, hRd⟩ ⟨⟨rfl, rfl, rfl, rfl, rfl, rfl, rfl, trivial⟩, ⟨rfl, rfl, rfl, rfl, trivial⟩, rfl⟩ ?_
  rintro ⟨i, s, a, b⟩ g ⟨hi, hs, hc, hR⟩
  by_cases h9 : i = 2 * n
  · subst h9
    rw [Nat.sub_self] at hR
    subst hR
    (repeat' (first | refine And.intro (neI rfl) ?_ | refine And.intro ⟨rfl, leR rfl, onesR rfl⟩ ?_ | refine And.intro ⟨rfl, leR rfl⟩ ?_ | refine draw_rule2 hfol (fun KK hKK => ?_) | refine hKK _ _ _ (by kernel_rfl) ?_ | refine region_rule (fun KK hKK => ?_) | refine hKK _ _ ?_ | refine And.intro (Eq.refl true) ?_ | refine Exists.intro _ (And.intro (wI (by omega)) ?_) | refine Exists.intro _ (And.intro (wU (by omega)) ?_) | refine Exists.intro _ (And.intro ⟨rfl, by omega⟩ ?_) | refine Exists.intro _ (And.intro rfl ?_) | refine And.intro rfl ?_ | refine And.intro ⟨rfl, rfl⟩ ?_ | ((refine And.intro (fun _ => ?_) (fun _ => ?_)) <;> try (exfalso; omega))))
    exact Exists.intro [0,1,2] (And.intro (rfl) (And.intro ⟨rfl, rfl, rfl, trivial⟩ rfl))
  have hil : i < 2 * n := by omega
  obtain ⟨d, hdd⟩ : ∃ d, 2 * n - i = d + 1 := ⟨2 * n - i - 1, by omega⟩
  have hd' : 2 * n - (i + 1) = d := by omega
  rw [hdd] at hR
  unfold clP at hR
  cases hsi : s.getD i false with
  | true =>
    rw [if_pos hsi] at hR
    (repeat' (first | refine Exists.intro _ (And.intro (bbl_at (by omega) hsi) ?_) | refine And.intro (neI rfl) ?_ | refine And.intro ⟨rfl, leR rfl, onesR rfl⟩ ?_ | refine And.intro ⟨rfl, leR rfl⟩ ?_ | refine draw_rule2 hfol (fun KK hKK => ?_) | refine hKK _ _ _ (by kernel_rfl) ?_ | refine region_rule (fun KK hKK => ?_) | refine hKK _ _ ?_ | refine And.intro (Eq.refl true) ?_ | refine Exists.intro _ (And.intro (wI (by omega)) ?_) | refine Exists.intro _ (And.intro (wU (by omega)) ?_) | refine Exists.intro _ (And.intro ⟨rfl, by omega⟩ ?_) | refine Exists.intro _ (And.intro rfl ?_) | refine And.intro rfl ?_ | refine And.intro ⟨rfl, rfl⟩ ?_ | ((refine And.intro (fun _ => ?_) (fun _ => ?_)) <;> try (exfalso; omega))))
    refine Exists.intro (i + 1, s, a, b) (Exists.intro [0, 1, 2, 3] (And.intro ⟨⟨by omega, hs, by omega, by rw [hd']; exact hR⟩, (by show 2 * n - (i + 1) < 2 * n - i; omega)⟩ ⟨⟨rfl, rfl, rfl, rfl, rfl, rfl, rfl, trivial⟩, ⟨rfl, rfl, rfl, rfl, trivial⟩, rfl⟩))
  | false =>
    rw [if_neg (by rw [hsi]; decide)] at hR
    generalize hJ : clJ n m bs 17 i s false = J at hR
    (repeat' (first | refine Exists.intro _ (And.intro (bbl_at (by omega) hsi) ?_) | refine And.intro (neI rfl) ?_ | refine And.intro ⟨rfl, leR rfl, onesR rfl⟩ ?_ | refine And.intro ⟨rfl, leR rfl⟩ ?_ | refine draw_rule2 hfol (fun KK hKK => ?_) | refine hKK _ _ _ (by kernel_rfl) ?_ | refine region_rule (fun KK hKK => ?_) | refine hKK _ _ ?_ | refine And.intro (Eq.refl true) ?_ | refine Exists.intro _ (And.intro (wI (by omega)) ?_) | refine Exists.intro _ (And.intro (wU (by omega)) ?_) | refine Exists.intro _ (And.intro ⟨rfl, by omega⟩ ?_) | refine Exists.intro _ (And.intro rfl ?_) | refine And.intro rfl ?_ | refine And.intro ⟨rfl, rfl⟩ ?_ | ((refine And.intro (fun _ => ?_) (fun _ => ?_)) <;> try (exfalso; omega))))
    refine loop_rule (α := Nat × Nat × List Bool × Bool) (fun (d, k, t, h) => k < 2 * n ∧ t.length = 16 ∧ cF t ≤ d ∧ clJ n m bs d k t h = J)
      (fun (d, k, t, h) => [(0, .ptr 0 0), (1, .fn (.func n_i_ClosureOfBlobbed_1) [] [.ptr 1 0, .ptr 0 0]), (2, .fn (.func n_i_ClosureOfBlobbed_2) [] [.ptr 2 0, .ptr 1 0]), (6, vi n), (7, .ptr 3 0), (15, vi (2 * n)), (16, vi i), (9, vi k)])
      (fun (d, k, t, h) => [.pc (bcB n m bs) T_i_Blobbed, .pc [.bool h] T_bool, .pc (i2 a b) T_i_bothLoops, .pc (bbl t) T_a16q_bool]) (fun (d, _, _, _) => d) (17, i, s, false) [0, 1, 2, 3]
      ⟨by omega, hs, by have := cF_all (s := s); omega, hJ⟩ ⟨⟨rfl, rfl, rfl, rfl, rfl, rfl, rfl, rfl, trivial⟩, ⟨rfl, rfl, rfl, rfl, trivial⟩, rfl⟩ ?_
    rintro ⟨d2, k, t, h⟩ g2 ⟨hk, ht, hcd, hR2⟩
    cases htk : t.getD k false with
    | true =>
      have he : J = (t, h) := by
        rw [← hR2]; cases d2 with
        | zero => rfl
        | succ d2 => unfold clJ; rw [if_pos htk]
      subst he
      have hlp := s_loopB a b h (by omega) (by omega)
      cases h with
      | true =>
        replace hR : clP n m bs d (i + 1) t a (b + 1) = R := hR
        (repeat' (first | refine Exists.intro _ (And.intro (bbl_at (by omega) htk) ?_) | refine (hlp).make [2,1] rfl ⟨rfl, rfl, trivial⟩ ?_ | refine And.intro (neI rfl) ?_ | refine And.intro ⟨rfl, leR rfl, onesR rfl⟩ ?_ | refine And.intro ⟨rfl, leR rfl⟩ ?_ | refine draw_rule2 hfol (fun KK hKK => ?_) | refine hKK _ _ _ (by kernel_rfl) ?_ | refine region_rule (fun KK hKK => ?_) | refine hKK _ _ ?_ | refine And.intro (Eq.refl true) ?_ | refine Exists.intro _ (And.intro (wI (by omega)) ?_) | refine Exists.intro _ (And.intro (wU (by omega)) ?_) | refine Exists.intro _ (And.intro ⟨rfl, by omega⟩ ?_) | refine Exists.intro _ (And.intro rfl ?_) | refine And.intro rfl ?_ | refine And.intro ⟨rfl, rfl⟩ ?_ | ((refine And.intro (fun _ => ?_) (fun _ => ?_)) <;> try (exfalso; omega))))
        refine Exists.intro (i + 1, t, a, b + 1) (Exists.intro [0, 1, 2, 3] (And.intro ⟨⟨by omega, ht, by omega, by rw [hd']; exact hR⟩, (by show 2 * n - (i + 1) < 2 * n - i; omega)⟩ ⟨⟨rfl, rfl, rfl, rfl, rfl, rfl, rfl, trivial⟩, ⟨rfl, rfl, rfl, rfl, trivial⟩, rfl⟩))
      | false =>
        replace hR : clP n m bs d (i + 1) t (a + 1) b = R := hR
        (repeat' (first | refine Exists.intro _ (And.intro (bbl_at (by omega) htk) ?_) | refine (hlp).make [2,1] rfl ⟨rfl, rfl, trivial⟩ ?_ | refine And.intro (neI rfl) ?_ | refine And.intro ⟨rfl, leR rfl, onesR rfl⟩ ?_ | refine And.intro ⟨rfl, leR rfl⟩ ?_ | refine draw_rule2 hfol (fun KK hKK => ?_) | refine hKK _ _ _ (by kernel_rfl) ?_ | refine region_rule (fun KK hKK => ?_) | refine hKK _ _ ?_ | refine And.intro (Eq.refl true) ?_ | refine Exists.intro _ (And.intro (wI (by omega)) ?_) | refine Exists.intro _ (And.intro (wU (by omega)) ?_) | refine Exists.intro _ (And.intro ⟨rfl, by omega⟩ ?_) | refine Exists.intro _ (And.intro rfl ?_) | refine And.intro rfl ?_ | refine And.intro ⟨rfl, rfl⟩ ?_ | ((refine And.intro (fun _ => ?_) (fun _ => ?_)) <;> try (exfalso; omega))))
        refine Exists.intro (i + 1, t, a + 1, b) (Exists.intro [0, 1, 2, 3] (And.intro ⟨⟨by omega, ht, by omega, by rw [hd']; exact hR⟩, (by show 2 * n - (i + 1) < 2 * n - i; omega)⟩ ⟨⟨rfl, rfl, rfl, rfl, rfl, rfl, rfl, trivial⟩, ⟨rfl, rfl, rfl, rfl, trivial⟩, rfl⟩))
    | false =>
      have hcs := cF_set (by omega) htk
      obtain ⟨d3, rfl⟩ : ∃ d3, d2 = d3 + 1 := ⟨d2 - 1, by omega⟩
      unfold clJ at hR2
      rw [if_neg (by rw [htk]; decide)] at hR2
      have hmk := hd.lt k hk
      have hx := nxt_lt (m := m) (k := k) hn1
      have hle := cF_le (s := t.set k true) (i := m.getD k 0)
      have e1 := tmX (n := n) (m := m) (k := k)
      have hcat := bcB_at (s := n) hm hbs (i := k) (by omega)
      have hl1 : (t.set k true).length = 16 := by rw [List.length_set]; exact ht
      have hmt := s_meetB n m bs hm hbs h k (by omega)
      (repeat' (first | refine Exists.intro _ (And.intro (bbl_at (by omega) htk) ?_) | refine Exists.intro _ (And.intro hcat ?_) | refine (hmt).make [1,0] rfl ⟨rfl, rfl, trivial⟩ ?_ | refine And.intro hn0 ?_ | refine Exists.intro _ (And.intro e1 ?_) | refine Exists.intro (bbl (t.set k true)) (And.intro ⟨by rw [bbl_len ht]; omega, bbl_set⟩ ?_) | refine Exists.intro (bbl ((t.set k true).set (m.getD k 0) true)) (And.intro ⟨by rw [bbl_len hl1]; omega, bbl_set⟩ ?_) | refine And.intro (neI rfl) ?_ | refine And.intro ⟨rfl, leR rfl, onesR rfl⟩ ?_ | refine And.intro ⟨rfl, leR rfl⟩ ?_ | refine draw_rule2 hfol (fun KK hKK => ?_) | refine hKK _ _ _ (by kernel_rfl) ?_ | refine region_rule (fun KK hKK => ?_) | refine hKK _ _ ?_ | refine And.intro (Eq.refl true) ?_ | refine Exists.intro _ (And.intro (wI (by omega)) ?_) | refine Exists.intro _ (And.intro (wU (by omega)) ?_) | refine Exists.intro _ (And.intro ⟨rfl, by omega⟩ ?_) | refine Exists.intro _ (And.intro rfl ?_) | refine And.intro rfl ?_ | refine And.intro ⟨rfl, rfl⟩ ?_ | ((refine And.intro (fun _ => ?_) (fun _ => ?_)) <;> try (exfalso; omega))))
      refine Exists.intro (d3, nxt n m k, (t.set k true).set (m.getD k 0) true, h || bs.getD k false) (Exists.intro [0, 1, 2, 3] (And.intro ⟨⟨hx, by simpa using ht, by omega, hR2⟩, (by show d3 < d3 + 1; omega)⟩ ⟨⟨rfl, rfl, rfl, rfl, rfl, rfl, rfl, rfl, trivial⟩, ⟨rfl, rfl, rfl, rfl, trivial⟩, rfl⟩))

theorem s_iCloB (s : Int) (m : List Nat) (bs : List Bool) (hm : m.length = 16) (hb : ∀ x ∈ m, x < 256) (hbs : bs.length = 16) (n : Nat) (hsn : s = n) (hd : IsD n m) (hv : isBl s m bs = true) :
    Spec Try.prog n_i_ClosureOfBlobbed [bV s m bs] [] (.tup [.sl 0, vi 0]) [.pr T_int64 1 2 (i2 (clR n m bs).1 (clR n m bs).2)] := by
  subst hsn
  have hq := s_badB1D n m bs hm hb hbs
  rw [hv] at hq
  have hcl := s_closureB n m bs hd hbs
  have hli := s_listB (clR n m bs).1 (clR n m bs).2
  refine SpecW.of_EV hf_i_ClosureOfBlobbed hc_i_ClosureOfBlobbed rfl rfl rfl fun w0 B ρ0 _ => ?_
  (repeat' (first | refine (hq).read [1] rfl ⟨rfl, trivial⟩ ?_ | refine Exists.intro (bcB n m bs) (And.intro ⟨bcB_len hm hbs, bcB_all hm hbs⟩ ?_) | refine And.intro ⟨bcB_len hm hbs, mkL rfl⟩ ?_ | refine Exists.intro (rowB [((n : Int), m, bs)]) (And.intro (row1B (mkL' rfl)) ?_) | refine Exists.intro (i2 0 0) (And.intro ⟨leR rfl, rfl⟩ ?_) | refine Exists.intro [Value.bool false] (And.intro ⟨leR rfl, rfl⟩ ?_) | refine (hcl).make [0,3,2] rfl ⟨rfl, rfl, rfl, trivial⟩ ?_ | refine Exists.intro (i2 (clR n m bs).1 (clR n m bs).2) (And.intro ⟨rfl, rfl⟩ ?_) | refine (hli).make [] rfl trivial ?_ | refine And.intro (neI rfl) ?_ | refine And.intro ⟨rfl, leR rfl, onesR rfl⟩ ?_ | refine And.intro ⟨rfl, leR rfl⟩ ?_ | refine draw_rule2 hfol (fun KK hKK => ?_) | refine hKK _ _ _ (by kernel_rfl) ?_ | refine region_rule (fun KK hKK => ?_) | refine hKK _ _ ?_ | refine And.intro (Eq.refl true) ?_ | refine Exists.intro _ (And.intro (wI (by omega)) ?_) | refine Exists.intro _ (And.intro (wU (by omega)) ?_) | refine Exists.intro _ (And.intro ⟨rfl, by omega⟩ ?_) | refine Exists.intro _ (And.intro rfl ?_) | refine And.intro rfl ?_ | refine And.intro ⟨rfl, rfl⟩ ?_ | ((refine And.intro (fun _ => ?_) (fun _ => ?_)) <;> try (exfalso; omega))))
  exact Exists.intro [4] (And.intro (rfl) (And.intro ⟨rfl, trivial⟩ rfl))
theorem s_sCloBE (s : Int) (m : List Nat) (bs : List Bool) (hm : m.length = 16) (hb : ∀ x ∈ m, x < 256) (hbs : bs.length = 16) (hv : isBl s m bs = false) : Spec Try.prog n_s_ClosureOfBlobbed [bV s m bs] [] (.tup [.raw (.slice none 0 0), vi 1]) [] := by
  have hq := s_sIsBl s m bs hm hb hbs
  rw [hv] at hq
  refine SpecW.of_EV hf_s_ClosureOfBlobbed hc_s_ClosureOfBlobbed rfl rfl rfl fun w0 B ρ0 _ => ?_
  (repeat' (first | refine (hq).pure rfl ?_ | refine Exists.intro (bcB s m bs) (And.intro ⟨bcB_len hm hbs, bcB_all hm hbs⟩ ?_) | refine And.intro (neI rfl) ?_ | refine And.intro ⟨rfl, leR rfl, onesR rfl⟩ ?_ | refine And.intro ⟨rfl, leR rfl⟩ ?_ | refine draw_rule2 hfol (fun KK hKK => ?_) | refine hKK _ _ _ (by kernel_rfl) ?_ | refine region_rule (fun KK hKK => ?_) | refine hKK _ _ ?_ | refine And.intro (Eq.refl true) ?_ | refine Exists.intro _ (And.intro (wI (by omega)) ?_) | refine Exists.intro _ (And.intro (wU (by omega)) ?_) | refine Exists.intro _ (And.intro ⟨rfl, by omega⟩ ?_) | refine Exists.intro _ (And.intro rfl ?_) | refine And.intro rfl ?_ | refine And.intro ⟨rfl, rfl⟩ ?_ | ((refine And.intro (fun _ => ?_) (fun _ => ?_)) <;> try (exfalso; omega))))
  exact Exists.intro [] (And.intro (rfl) (And.intro trivial rfl))
theorem s_iCloBE (s : Int) (m : List Nat) (bs : List Bool) (hm : m.length = 16) (hb : ∀ x ∈ m, x < 256) (hbs : bs.length = 16) (hv : isBl s m bs = false) : Spec Try.prog n_i_ClosureOfBlobbed [bV s m bs] [] (.tup [.raw (.slice none 0 0), vi 1]) [] := by
  have hq := s_badB1D s m bs hm hb hbs
  rw [hv] at hq
  refine SpecW.of_EV hf_i_ClosureOfBlobbed hc_i_ClosureOfBlobbed rfl rfl rfl fun w0 B ρ0 _ => ?_
  (repeat' (first | refine (hq).read [1] rfl ⟨rfl, trivial⟩ ?_ | refine Exists.intro (bcB s m bs) (And.intro ⟨bcB_len hm hbs, bcB_all hm hbs⟩ ?_) | refine And.intro ⟨bcB_len hm hbs, mkL rfl⟩ ?_ | refine Exists.intro (rowB [(s, m, bs)]) (And.intro (row1B (mkL' rfl)) ?_) | refine And.intro (neI rfl) ?_ | refine And.intro ⟨rfl, leR rfl, onesR rfl⟩ ?_ | refine And.intro ⟨rfl, leR rfl⟩ ?_ | refine draw_rule2 hfol (fun KK hKK => ?_) | refine hKK _ _ _ (by kernel_rfl) ?_ | refine region_rule (fun KK hKK => ?_) | refine hKK _ _ ?_ | refine And.intro (Eq.refl true) ?_ | refine Exists.intro _ (And.intro (wI (by omega)) ?_) | refine Exists.intro _ (And.intro (wU (by omega)) ?_) | refine Exists.intro _ (And.intro ⟨rfl, by omega⟩ ?_) | refine Exists.intro _ (And.intro rfl ?_) | refine And.intro rfl ?_ | refine And.intro ⟨rfl, rfl⟩ ?_ | ((refine And.intro (fun _ => ?_) (fun _ => ?_)) <;> try (exfalso; omega))))
  exact Exists.intro [] (And.intro (rfl) (And.intro trivial rfl))
theorem lawok_ClosureOfBlobbed (s : Int) (m : List Nat) (bs : List Bool) (hm : m.length = 16) (hbs : bs.length = 16) (N : Nat) (g : Nat → Int) (c : Int) (hN : N ≤ 4000000) (hS : Spec Try.prog n_s_ClosureOfBlobbed [bV s m bs] [] (.tup [.sl 0, vi c]) [.pr T_int64 1 N (il g N)]) (hI : Spec Try.prog n_i_ClosureOfBlobbed [bV s m bs] [] (.tup [.sl 0, vi c]) [.pr T_int64 1 N (il g N)]) :
    Spec Try.prog n_l_FnExactClosureOfBlobbed [bV s m bs] [] (vb true) [] := by
  have he := s_eqI g N hN
  have hm1 := s_markI g N 1 hN (by omega)
  have hh1 := s_heldI N 1 hN (by omega)
  refine SpecW.of_EV hf_l_FnExactClosureOfBlobbed hc_l_FnExactClosureOfBlobbed rfl rfl rfl fun w0 B ρ0 _ => ?_
  (repeat' (first | refine (s_toBl s m bs hm hbs).pure rfl ?_ | refine Exists.intro (bcB s m bs) (And.intro ⟨bcB_len hm hbs, bcB_all hm hbs⟩ ?_) | refine (hS).make [] rfl trivial ?_ | refine (hI).make [] rfl trivial ?_ | refine (he).read [2,1] rfl ⟨rfl, rfl, trivial⟩ ?_ | refine (he).read [3,1] rfl ⟨rfl, rfl, trivial⟩ ?_ | refine (hm1).make [2] rfl ⟨rfl, trivial⟩ ?_ | refine (hh1).read [2] rfl ⟨rfl, trivial⟩ ?_ | refine And.intro (fun _ => ?_) (fun h => absurd rfl h) | refine And.intro (fun h => absurd rfl h) (fun _ => ?_) | refine And.intro (neI rfl) ?_ | refine And.intro ⟨rfl, leR rfl, onesR rfl⟩ ?_ | refine And.intro ⟨rfl, leR rfl⟩ ?_ | refine draw_rule2 hfol (fun KK hKK => ?_) | refine hKK _ _ _ (by kernel_rfl) ?_ | refine region_rule (fun KK hKK => ?_) | refine hKK _ _ ?_ | refine And.intro (Eq.refl true) ?_ | refine Exists.intro _ (And.intro (wI (by omega)) ?_) | refine Exists.intro _ (And.intro (wU (by omega)) ?_) | refine Exists.intro _ (And.intro ⟨rfl, by omega⟩ ?_) | refine Exists.intro _ (And.intro rfl ?_) | refine And.intro rfl ?_ | refine And.intro ⟨rfl, rfl⟩ ?_ | ((refine And.intro (fun _ => ?_) (fun _ => ?_)) <;> try (exfalso; omega))))
  exact finP rfl
theorem lawerr_ClosureOfBlobbed (s : Int) (m : List Nat) (bs : List Bool) (hm : m.length = 16) (hbs : bs.length = 16) (c : Int) (hS : Spec Try.prog n_s_ClosureOfBlobbed [bV s m bs] [] (.tup [.raw (.slice none 0 0), vi c]) []) (hI : Spec Try.prog n_i_ClosureOfBlobbed [bV s m bs] [] (.tup [.raw (.slice none 0 0), vi c]) []) :
    Spec Try.prog n_l_FnExactClosureOfBlobbed [bV s m bs] [] (vb true) [] := by
  have hm1 := s_markI0 1
  have hh1 := s_heldI0 1
  refine SpecW.of_EV hf_l_FnExactClosureOfBlobbed hc_l_FnExactClosureOfBlobbed rfl rfl rfl fun w0 B ρ0 _ => ?_
  (repeat' (first | refine (s_toBl s m bs hm hbs).pure rfl ?_ | refine Exists.intro (bcB s m bs) (And.intro ⟨bcB_len hm hbs, bcB_all hm hbs⟩ ?_) | refine (hS).pure rfl ?_ | refine (hI).pure rfl ?_ | refine (s_eqI0).pure rfl ?_ | refine (hm1).pure rfl ?_ | refine (hh1).pure rfl ?_ | refine And.intro (fun _ => ?_) (fun h => absurd rfl h) | refine And.intro (fun h => absurd rfl h) (fun _ => ?_) | refine And.intro (neI rfl) ?_ | refine And.intro ⟨rfl, leR rfl, onesR rfl⟩ ?_ | refine And.intro ⟨rfl, leR rfl⟩ ?_ | refine draw_rule2 hfol (fun KK hKK => ?_) | refine hKK _ _ _ (by kernel_rfl) ?_ | refine region_rule (fun KK hKK => ?_) | refine hKK _ _ ?_ | refine And.intro (Eq.refl true) ?_ | refine Exists.intro _ (And.intro (wI (by omega)) ?_) | refine Exists.intro _ (And.intro (wU (by omega)) ?_) | refine Exists.intro _ (And.intro ⟨rfl, by omega⟩ ?_) | refine Exists.intro _ (And.intro rfl ?_) | refine And.intro rfl ?_ | refine And.intro ⟨rfl, rfl⟩ ?_ | ((refine And.intro (fun _ => ?_) (fun _ => ?_)) <;> try (exfalso; omega))))
  exact finP rfl

theorem s_lawCloB (s : Int) (m : List Nat) (bs : List Bool) (hm : m.length = 16) (hb : ∀ x ∈ m, x < 256) (hbs : bs.length = 16) : Spec Try.prog n_l_FnExactClosureOfBlobbed [bV s m bs] [] (vb true) [] := by
  cases hv : isBl s m bs with
  | false => exact lawerr_ClosureOfBlobbed s m bs hm hbs 1 (s_sCloBE s m bs hm hb hbs hv) (s_iCloBE s m bs hm hb hbs hv)
  | true =>
    have hv' := hv
    unfold isBl at hv'
    simp only [Bool.and_eq_true] at hv'
    obtain ⟨n, hsn, hd⟩ := isDi_elim hm hv'.1
    exact lawok_ClosureOfBlobbed s m bs hm hbs 2 _ 0 (by omega) (s_sCloB s m bs hm hb hbs n hsn hd hv) (s_iCloB s m bs hm hb hbs n hsn hd hv)
end Go.Proofs.Ytcibbadioijmcaa.VE
