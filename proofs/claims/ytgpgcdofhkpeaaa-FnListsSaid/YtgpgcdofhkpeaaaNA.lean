/- Contracts of functions of the given program, for all arguments that the contract names; see each theorem. -/
import Derived.Test.YtgpgcdofhkpeaaaU7
import Derived.Lib.Bytealg
import Derived.Test.YtgpgcdofhkpeaaaQ1
import Derived.Test.YtgpgcdofhkpeaaaEd
import Derived.Shelf.Small.Strs
set_option linter.all false
namespace Go.Proofs.Ytgpgcdofhkpeaaa.VE
open Go
set_option maxHeartbeats 800000
set_option maxRecDepth 100000

/-! plain: all texts of brackets, in order, and the place of one -/
def bO : ByteArray := ⟨#[40]⟩
def bC : ByteArray := ⟨#[41]⟩
def br : Nat → ByteArray → Nat → List ByteArray
  | 0, t, _ => [t]
  | d + 1, t, o => (if o < d + 1 then br d (t ++ bO) (o + 1) else []) ++ (if 0 < o then br d (t ++ bC) (o - 1) else [])
def wy : Nat → Nat → Nat
  | 0, _ => 1
  | d + 1, o => (if o < d + 1 then wy d (o + 1) else 0) + (if 0 < o then wy d (o - 1) else 0)
theorem br_len : ∀ d t o, (br d t o).length = wy d o
  | 0, _, _ => rfl
  | d + 1, t, o => by
    rw [br, wy, List.length_append]
    congr 1
    · split
      · exact br_len d _ _
      · rfl
    · split
      · exact br_len d _ _
      · rfl
theorem wy_le : ∀ d o, wy d o ≤ 2 ^ d
  | 0, _ => Nat.le_refl _
  | d + 1, o => by
    have h1 := wy_le d (o + 1)
    have h2 := wy_le d (o - 1)
    rw [wy, Nat.pow_succ]
    split <;> split <;> omega
theorem wy_self : ∀ d, wy d d = 1
  | 0 => rfl
  | d + 1 => by
    rw [wy, if_neg (by omega), if_pos (by omega), Nat.add_sub_cancel, wy_self d]
theorem bs_app {a b : ByteArray} : (a ++ b).data.toList = a.data.toList ++ b.data.toList := by simp
theorem br_pre : ∀ d t o, ∀ s ∈ br d t o, ∃ x, s.data.toList = t.data.toList ++ x
  | 0, t, o, s, h => by
    simp only [br, List.mem_singleton] at h
    subst h; exact ⟨[], by simp⟩
  | d + 1, t, o, s, h => by
    rw [br, List.mem_append] at h
    rcases h with h | h
    · split at h
      · obtain ⟨x, hx⟩ := br_pre d _ _ s h
        exact ⟨bO.data.toList ++ x, by rw [hx, bs_app, List.append_assoc]⟩
      · simp at h
    · split at h
      · obtain ⟨x, hx⟩ := br_pre d _ _ s h
        exact ⟨bC.data.toList ++ x, by rw [hx, bs_app, List.append_assoc]⟩
      · simp at h
abbrev cmpB (a b : ByteArray) : Int := Lib.compareBytes a.data.toList b.data.toList
theorem u8_irr (a : UInt8) : ¬ a < a := by
  intro h
  have := UInt8.lt_iff_toNat_lt.1 h
  omega
theorem cb_pre : ∀ (t x y : List UInt8), Lib.compareBytes (t ++ 40 :: x) (t ++ 41 :: y) = -1
  | [], _, _ => by
    show (if (40 : UInt8) < 41 then _ else _) = _
    rw [if_pos (by decide)]
  | a :: t, x, y => by
    show (if a < a then _ else if a < a then _ else Lib.compareBytes (t ++ 40 :: x) (t ++ 41 :: y)) = _
    rw [if_neg (u8_irr a), if_neg (u8_irr a)]
    exact cb_pre t x y
theorem cb_self : ∀ t : List UInt8, Lib.compareBytes t t = 0
  | [] => rfl
  | a :: t => by
    show (if a < a then _ else if a < a then _ else Lib.compareBytes t t) = _
    rw [if_neg (u8_irr a), if_neg (u8_irr a)]
    exact cb_self t
theorem cb_anti : ∀ a b : List UInt8, Lib.compareBytes a b = - Lib.compareBytes b a
  | [], [] => rfl
  | [], _ :: _ => rfl
  | _ :: _, [] => rfl
  | x :: a, y :: b => by
    show (if x < y then _ else if y < x then _ else Lib.compareBytes a b) = - (if y < x then _ else if x < y then _ else Lib.compareBytes b a)
    by_cases h1 : x < y
    · have h2 : ¬ y < x := fun h => by
        have := UInt8.lt_iff_toNat_lt.1 h
        have := UInt8.lt_iff_toNat_lt.1 h1
        omega
      rw [if_pos h1, if_neg h2, if_pos h1]
    · rw [if_neg h1]
      by_cases h2 : y < x
      · rw [if_pos h2, if_pos h2]; rfl
      · rw [if_neg h2, if_neg h2, if_neg h1]; exact cb_anti a b
theorem br_sorted : ∀ d t o, (br d t o).Pairwise fun a b => cmpB a b = -1
  | 0, _, _ => List.pairwise_singleton _ _
  | d + 1, t, o => by
    rw [br, List.pairwise_append]
    refine ⟨?_, ?_, ?_⟩
    · split
      · exact br_sorted d _ _
      · exact List.Pairwise.nil
    · split
      · exact br_sorted d _ _
      · exact List.Pairwise.nil
    · intro a ha b hb
      split at ha
      · split at hb
        · obtain ⟨x, hx⟩ := br_pre _ _ _ a ha
          obtain ⟨y, hy⟩ := br_pre _ _ _ b hb
          show Lib.compareBytes a.data.toList b.data.toList = _
          rw [hx, hy, bs_app, bs_app, List.append_assoc, List.append_assoc]
          exact cb_pre _ x y
        · simp at hb
      · simp at ha
theorem sorted_cmp {l : List ByteArray} (h : l.Pairwise fun a b => cmpB a b = -1) {i k : Nat} {a b : ByteArray} (hi : l[i]? = some a) (hk : l[k]? = some b) : (i < k → cmpB a b = -1) ∧ (k < i → cmpB a b = 1) ∧ (i = k → cmpB a b = 0) := by
  obtain ⟨h1, rfl⟩ := List.getElem?_eq_some_iff.1 hi
  obtain ⟨h2, rfl⟩ := List.getElem?_eq_some_iff.1 hk
  rw [List.pairwise_iff_getElem] at h
  refine ⟨fun hlt => h i k h1 h2 hlt, fun hlt => ?_, fun he => ?_⟩
  · have := h k i h2 h1 hlt
    have h3 := cb_anti l[i].data.toList l[k].data.toList
    show Lib.compareBytes _ _ = _
    rw [h3, show Lib.compareBytes l[k].data.toList l[i].data.toList = -1 from this]; rfl
  · subst he; exact cb_self _
end Go.Proofs.Ytgpgcdofhkpeaaa.VE
namespace Go.Proofs.Ytgpgcdofhkpeaaa.VE
open Go
set_option maxHeartbeats 800000
set_option maxRecDepth 100000

/-! plain: the open brackets, and the place of a text -/
def opc (q : Nat → Nat) (k : Nat) : Nat := (List.range k).countP fun i => decide (k ≤ q i)
theorem cnt_or {p : Nat → Bool} {c : Nat} (hc : p c = false) : ∀ K, ((List.range K).countP fun i => p i || decide (i = c)) = (List.range K).countP p + if c < K then 1 else 0
  | 0 => by simp
  | K + 1 => by
    have ih := cnt_or hc K
    rw [List.range_succ, List.countP_append, List.countP_append, ih]
    simp only [List.countP_cons, List.countP_nil, Nat.zero_add]
    by_cases h1 : K = c
    · subst h1
      simp [hc]
    · have e : (p K || decide (K = c)) = p K := by simp [h1]
      rw [e]
      by_cases h2 : c < K
      · rw [if_pos h2, if_pos (show c < K + 1 by omega)]; omega
      · rw [if_neg h2, if_neg (show ¬ c < K + 1 by omega)]; omega
section
variable {N : Nat} {q : Nat → Nat} (hq : ∀ j, j < N → q j < N ∧ q j ≠ j ∧ q (q j) = j)
include hq
theorem opc_up {k : Nat} (hk : k < N) (h : k < q k) : opc q (k + 1) = opc q k + 1 := by
  unfold opc
  rw [List.range_succ, List.countP_append]
  have e1 : (List.range k).countP (fun i => decide (k + 1 ≤ q i)) = (List.range k).countP (fun i => decide (k ≤ q i)) := by
    refine List.countP_congr fun i hi => ?_
    have hi := List.mem_range.1 hi
    have h1 := hq i (by omega)
    simp only [decide_eq_true_eq]
    refine ⟨fun h2 => by omega, fun h2 => ?_⟩
    rcases Nat.eq_or_lt_of_le h2 with h3 | h3
    · exfalso
      have := h1.2.2
      rw [← h3] at this
      omega
    · exact h3
  rw [e1]
  simp only [List.countP_cons, List.countP_nil, Nat.zero_add]
  rw [if_pos (decide_eq_true (show k + 1 ≤ q k from h))]
theorem opc_down {k : Nat} (hk : k < N) (h : ¬ k < q k) : opc q (k + 1) + 1 = opc q k := by
  have hk1 := hq k hk
  have hlt : q k < k := by omega
  unfold opc
  rw [List.range_succ, List.countP_append]
  have e1 : (List.range k).countP (fun i => decide (k ≤ q i)) = (List.range k).countP fun i => decide (k + 1 ≤ q i) || decide (i = q k) := by
    refine List.countP_congr fun i hi => ?_
    have hi := List.mem_range.1 hi
    have h1 := hq i (by omega)
    simp only [decide_eq_true_eq, Bool.or_eq_true]
    refine ⟨fun h2 => ?_, fun h2 => ?_⟩
    · rcases Nat.eq_or_lt_of_le h2 with h3 | h3
      · right
        have := h1.2.2
        rw [← h3] at this
        exact this.symm
      · exact .inl h3
    · rcases h2 with h2 | h2
      · omega
      · subst h2; omega
  rw [e1, cnt_or (p := fun i => decide (k + 1 ≤ q i)) (by rw [hk1.2.2]; exact decide_eq_false (by omega)), if_pos hlt]
  simp only [List.countP_cons, List.countP_nil, Nat.zero_add]
  rw [if_neg (by simp; omega)]
theorem opc_end : opc q N = 0 := by
  unfold opc
  rw [List.countP_eq_zero]
  intro i hi
  have := hq i (List.mem_range.1 hi)
  simp; omega
theorem opc_le : ∀ d k, k + d = N → opc q k ≤ d
  | 0, k, h => by
    obtain rfl : k = N := by omega
    rw [opc_end hq]; omega
  | d + 1, k, h => by
    have ih := opc_le d (k + 1) (by omega)
    by_cases hk : k < q k
    · have := opc_up hq (k := k) (by omega) hk; omega
    · have := opc_down hq (k := k) (by omega) hk; omega
end
/-- How many texts come before. -/
def rkF (q : Nat → Nat) : Nat → Nat → Nat → Nat
  | 0, _, _ => 0
  | d + 1, k, o => if k < q k then rkF q d (k + 1) (o + 1) else (if o < d + 1 then wy d (o + 1) else 0) + rkF q d (k + 1) (o - 1)
theorem brB_up {q : Nat → Nat} {k : Nat} (h : k < q k) : brB q k ++ bO = brB q (k + 1) := by
  apply ByteArray.ext
  apply Array.ext'
  simp [brB, brL, bO, List.range_succ, h]
theorem brB_down {q : Nat → Nat} {k : Nat} (h : ¬ k < q k) : brB q k ++ bC = brB q (k + 1) := by
  apply ByteArray.ext
  apply Array.ext'
  simp [brB, brL, bC, List.range_succ, h]
section
variable {N : Nat} {q : Nat → Nat} (hq : ∀ j, j < N → q j < N ∧ q j ≠ j ∧ q (q j) = j)
include hq
theorem br_at : ∀ d k, k + d = N → (br d (brB q k) (opc q k))[rkF q d k (opc q k)]? = some (brB q N)
  | 0, k, h => by
    obtain rfl : k = N := by omega
    rfl
  | d + 1, k, h => by
    have ih := br_at d (k + 1) (by omega)
    have hle := opc_le hq d (k + 1) (by omega)
    rw [br, rkF]
    by_cases hk : k < q k
    · have hu := opc_up hq (k := k) (by omega) hk
      rw [hu] at ih hle
      rw [if_pos hk, if_pos (show opc q k < d + 1 by omega), brB_up hk]
      rw [List.getElem?_append_left (List.getElem?_eq_some_iff.1 ih).1]
      exact ih
    · have hdn := opc_down hq (k := k) (by omega) hk
      rw [show opc q (k + 1) = opc q k - 1 by omega] at ih
      rw [if_neg hk, if_pos (show 0 < opc q k by omega), brB_down hk]
      have hl : (if opc q k < d + 1 then br d (brB q k ++ bO) (opc q k + 1) else []).length = if opc q k < d + 1 then wy d (opc q k + 1) else 0 := by
        split
        · exact br_len _ _ _
        · rfl
      rw [List.getElem?_append_right (by rw [hl]; omega), hl, Nat.add_sub_cancel_left]
      exact ih
end
end Go.Proofs.Ytgpgcdofhkpeaaa.VE
namespace Go.Proofs.Ytgpgcdofhkpeaaa.VE
open Go
set_option maxHeartbeats 800000
set_option maxRecDepth 100000

def rnB : Shelf.Ren := ⟨fun n => if n = 213 then 150 else if n = 265 then 157 else 118, fun n => n, fun n => n⟩
theorem layCmp : _root_.Go.Proofs.Lays.n106 Try.prog rnB where
  mixed := rfl
  f106 := Try.func118.trans (congrArg some (by kernel_rfl))
  f213 := Try.func150.trans (congrArg some (by kernel_rfl))
  f265 := Try.func157.trans (congrArg some (by kernel_rfl))
  t3 := Try.underlying3
  a3 := fun w => by kernel_rfl
  z3 := fun w => by kernel_rfl
  v3 := fun w => by kernel_rfl
  t9 := Try.underlying9
  a9 := fun w => by kernel_rfl
  z9 := fun w => by kernel_rfl
  v9 := fun w => by kernel_rfl
theorem s_Compare (a b : ByteArray) : Spec Try.prog n_strings_Compare [.raw (.string a), .raw (.string b)] [] (vi (cmpB a b)) [] := by
  refine ⟨hc_strings_Compare, rfl, rfl, rfl, rfl, fun ρ w _ hr => ?_⟩
  refine (Any.strings_Compare layCmp a b w).mono ?_
  rintro e w' ⟨rfl, rfl⟩
  exact ⟨ρ, rfl, hr⟩
end Go.Proofs.Ytgpgcdofhkpeaaa.VE
namespace Go.Proofs.Ytgpgcdofhkpeaaa.VE
open Go
set_option maxHeartbeats 800000
set_option maxRecDepth 100000

theorem s_ways : ∀ d o r : Nat, o + 2 * r = d → d ≤ 60 → Spec Try.prog n_s_l01Ways [vi o, vi r] [] (vi (wy d o : Nat)) [] := by
  intro d
  induction d with
  | zero =>
    intro o r h hd
    obtain ⟨rfl, rfl⟩ : o = 0 ∧ r = 0 := by omega
    refine SpecW.of_EV hf_s_l01Ways hc_s_l01Ways rfl rfl rfl fun w0 B ρ0 _ => ?_
    (repeat' (first | refine And.intro (neI rfl) ?_ | refine And.intro ⟨rfl, leR rfl, onesR rfl⟩ ?_ | refine And.intro ⟨rfl, leR rfl⟩ ?_ | refine draw_rule2 hfol (fun KK hKK => ?_) | refine hKK _ _ _ (by kernel_rfl) ?_ | refine region_rule (fun KK hKK => ?_) | refine hKK _ _ ?_ | refine And.intro (Eq.refl true) ?_ | refine Exists.intro _ (And.intro (wI (by omega)) ?_) | refine Exists.intro _ (And.intro (wU (by omega)) ?_) | refine Exists.intro _ (And.intro ⟨rfl, by omega⟩ ?_) | refine Exists.intro _ (And.intro rfl ?_) | refine And.intro rfl ?_ | refine And.intro ⟨rfl, rfl⟩ ?_ | ((refine And.intro (fun _ => ?_) (fun _ => ?_)) <;> try (exfalso; omega))))
    exact Exists.intro [] (And.intro (rfl) (And.intro trivial rfl))
  | succ d ih =>
    intro o r h hd
    by_cases hr : r = 0
    · subst hr
      obtain rfl : o = d + 1 := by omega
      refine SpecW.of_EV hf_s_l01Ways hc_s_l01Ways rfl rfl rfl fun w0 B ρ0 _ => ?_
      (repeat' (first | refine And.intro (neI rfl) ?_ | refine And.intro ⟨rfl, leR rfl, onesR rfl⟩ ?_ | refine And.intro ⟨rfl, leR rfl⟩ ?_ | refine draw_rule2 hfol (fun KK hKK => ?_) | refine hKK _ _ _ (by kernel_rfl) ?_ | refine region_rule (fun KK hKK => ?_) | refine hKK _ _ ?_ | refine And.intro (Eq.refl true) ?_ | refine Exists.intro _ (And.intro (wI (by omega)) ?_) | refine Exists.intro _ (And.intro (wU (by omega)) ?_) | refine Exists.intro _ (And.intro ⟨rfl, by omega⟩ ?_) | refine Exists.intro _ (And.intro rfl ?_) | refine And.intro rfl ?_ | refine And.intro ⟨rfl, rfl⟩ ?_ | ((refine And.intro (fun _ => ?_) (fun _ => ?_)) <;> try (exfalso; omega))))
      exact Exists.intro [] (And.intro (by rw [wy_self]; rfl) (And.intro trivial rfl))
    have h1 := ih (o + 1) (r - 1) (by omega) (by omega)
    have hp : 2 ^ d ≤ 2 ^ 60 := Nat.pow_le_pow_right (by omega) (by omega)
    have hl1 := wy_le d (o + 1)
    have w1 : IntKind.i64.wrap ((o : Int) + 1) = ((o + 1 : Nat) : Int) := wC (by omega) (by omega)
    have w2 : IntKind.i64.wrap ((r : Int) - 1) = ((r - 1 : Nat) : Int) := wC (by omega) (by omega)
    refine SpecW.of_EV hf_s_l01Ways hc_s_l01Ways rfl rfl rfl fun w0 B ρ0 _ => ?_
    by_cases h0 : 0 < o
    · have h2 := ih (o - 1) r (by omega) (by omega)
      have hl2 := wy_le d (o - 1)
      have w3 : IntKind.i64.wrap ((o : Int) - 1) = ((o - 1 : Nat) : Int) := wC (by omega) (by omega)
      have e : wy (d + 1) o = wy d (o + 1) + wy d (o - 1) := by rw [wy, if_pos (show o < d + 1 by omega), if_pos h0]
      rw [e]
      have w4 : IntKind.i64.wrap (((wy d (o + 1) : Nat) : Int) + ((wy d (o - 1) : Nat) : Int)) = ((wy d (o + 1) + wy d (o - 1) : Nat) : Int) := wC (by omega) (by omega)
      (repeat' (first | refine Exists.intro _ (And.intro w1 ?_) | refine Exists.intro _ (And.intro w2 ?_) | refine Exists.intro _ (And.intro w3 ?_) | refine Exists.intro _ (And.intro w4 ?_) | refine (h1).pure rfl ?_ | refine (h2).pure rfl ?_ | refine And.intro (neI rfl) ?_ | refine And.intro ⟨rfl, leR rfl, onesR rfl⟩ ?_ | refine And.intro ⟨rfl, leR rfl⟩ ?_ | refine draw_rule2 hfol (fun KK hKK => ?_) | refine hKK _ _ _ (by kernel_rfl) ?_ | refine region_rule (fun KK hKK => ?_) | refine hKK _ _ ?_ | refine And.intro (Eq.refl true) ?_ | refine Exists.intro _ (And.intro (wI (by omega)) ?_) | refine Exists.intro _ (And.intro (wU (by omega)) ?_) | refine Exists.intro _ (And.intro ⟨rfl, by omega⟩ ?_) | refine Exists.intro _ (And.intro rfl ?_) | refine And.intro rfl ?_ | refine And.intro ⟨rfl, rfl⟩ ?_ | ((refine And.intro (fun _ => ?_) (fun _ => ?_)) <;> try (exfalso; omega))))
      exact Exists.intro [] (And.intro (rfl) (And.intro trivial rfl))
    · have e : wy (d + 1) o = wy d (o + 1) := by rw [wy, if_pos (show o < d + 1 by omega), if_neg h0, Nat.add_zero]
      rw [e]
      (repeat' (first | refine Exists.intro _ (And.intro w1 ?_) | refine Exists.intro _ (And.intro w2 ?_) | refine (h1).pure rfl ?_ | refine And.intro (neI rfl) ?_ | refine And.intro ⟨rfl, leR rfl, onesR rfl⟩ ?_ | refine And.intro ⟨rfl, leR rfl⟩ ?_ | refine draw_rule2 hfol (fun KK hKK => ?_) | refine hKK _ _ _ (by kernel_rfl) ?_ | refine region_rule (fun KK hKK => ?_) | refine hKK _ _ ?_ | refine And.intro (Eq.refl true) ?_ | refine Exists.intro _ (And.intro (wI (by omega)) ?_) | refine Exists.intro _ (And.intro (wU (by omega)) ?_) | refine Exists.intro _ (And.intro ⟨rfl, by omega⟩ ?_) | refine Exists.intro _ (And.intro rfl ?_) | refine And.intro rfl ?_ | refine And.intro ⟨rfl, rfl⟩ ?_ | ((refine And.intro (fun _ => ?_) (fun _ => ?_)) <;> try (exfalso; omega))))
      exact Exists.intro [] (And.intro (rfl) (And.intro trivial rfl))
end Go.Proofs.Ytgpgcdofhkpeaaa.VE
namespace Go.Proofs.Ytgpgcdofhkpeaaa.VE
open Go
set_option maxHeartbeats 800000
set_option maxRecDepth 100000

abbrev T_fB : TypeId := 137
def rS (l : List ByteArray) : List Value := l.map fun t => .string t
theorem rS_at {l : List ByteArray} {i : Nat} {t : ByteArray} (h : l[i]? = some t) : (rS l)[i]? = some (.string t) := by simp [rS, h]
theorem rS_push {l : List ByteArray} {t : ByteArray} : rS l ++ [Value.string t] = rS (l ++ [t]) := by simp [rS]
theorem row1S {c : List Value} {a : ByteArray} (h : c.length ≤ 1) : c.take (0 * 1) ++ (Value.string a).cells.toList ++ c.drop (0 * 1 + 1) = [.string a] := by
  simp [Value.cells, List.drop_of_length_le h]
/-- The objects of the recursion: the size, the list's cell, the recursion itself, the list. -/
abbrev moreB (n : Nat) (acc : List ByteArray) : List O := [.pc [.int .i64 n] T_int, .cc [.sl 3] T_s_string, .cc [.fn (.func n_i_bracketings_1) [] [.ptr 0 0, .ptr 1 0, .ptr 2 0]] T_fB, .pr T_string 1 acc.length (rS acc)]
/-- .. and behind it. -/
abbrev moreE (n : Nat) (acc : List ByteArray) : List O := [.pc [.int .i64 n] T_int, .cc [.sl 4] T_s_string, .cc [.fn (.func n_i_bracketings_1) [] [.ptr 0 0, .ptr 1 0, .ptr 2 0]] T_fB, .dead, .pr T_string 1 acc.length (rS acc)]
theorem s_brk (n : Nat) (hn : n ≤ 8) : ∀ (d : Nat) (t : ByteArray) (o : Nat) (acc : List ByteArray), t.size + d = 2 * n → o ≤ 16 → acc.length + 2 ^ d ≤ 65536 →
    Spec Try.prog n_i_bracketings_1 [.raw (.string t), vi o, .ptr 0 0, .ptr 1 0, .ptr 2 0] (moreB n acc) (.tup []) (moreE n (acc ++ br d t o))
  | 0, t, o, acc, hd, ho, hacc => by
    have w1 : IntKind.i64.wrap (2 * (n : Int)) = ((2 * n : Nat) : Int) := wC (by omega) (by omega)
    have w2 : IntKind.i64.wrap (((2 * n : Nat) : Int) - (t.size : Int)) = 0 := wC (by omega) (by omega)
    refine SpecW.of_EV hf_i_bracketings_1 hc_i_bracketings_1 rfl rfl rfl fun w0 B ρ0 _ => ?_
    (repeat' (first | refine Exists.intro _ (And.intro w1 ?_) | refine Exists.intro _ (And.intro w2 ?_) | refine And.intro ⟨rfl, mkL rfl⟩ ?_ | refine Exists.intro [Value.string t] (And.intro (row1S (mkL' rfl)) ?_) | refine Exists.intro (rS (acc ++ [t])) (And.intro ⟨rfl, onesR rfl, by omega, by omega, rS_push⟩ ?_) | refine Exists.intro [V.sl 5] (And.intro ⟨leR rfl, rfl⟩ ?_) | refine And.intro (neI rfl) ?_ | refine And.intro ⟨rfl, leR rfl, onesR rfl⟩ ?_ | refine And.intro ⟨rfl, leR rfl⟩ ?_ | refine draw_rule2 hfol (fun KK hKK => ?_) | refine hKK _ _ _ (by kernel_rfl) ?_ | refine region_rule (fun KK hKK => ?_) | refine hKK _ _ ?_ | refine And.intro (Eq.refl true) ?_ | refine Exists.intro _ (And.intro (wI (by omega)) ?_) | refine Exists.intro _ (And.intro (wU (by omega)) ?_) | refine Exists.intro _ (And.intro ⟨rfl, by omega⟩ ?_) | refine Exists.intro _ (And.intro rfl ?_) | refine And.intro rfl ?_ | refine And.intro ⟨rfl, rfl⟩ ?_ | ((refine And.intro (fun _ => ?_) (fun _ => ?_)) <;> try (exfalso; omega))))
    have hlen : (acc ++ br 0 t o).length = acc.length + 1 := by rw [List.length_append]; rfl
    exact Exists.intro [0, 1, 2, 3, 5] (And.intro rfl (And.intro ⟨rfl, rfl, rfl, rfl, by rw [hlen]; rfl, trivial⟩ rfl))
  | d + 1, t, o, acc, hd, ho, hacc => by
    have w1 : IntKind.i64.wrap (2 * (n : Int)) = ((2 * n : Nat) : Int) := wC (by omega) (by omega)
    have w2 : IntKind.i64.wrap (((2 * n : Nat) : Int) - (t.size : Int)) = ((d + 1 : Nat) : Int) := wC (by omega) (by omega)
    have w3 : IntKind.i64.wrap ((o : Int) + 1) = ((o + 1 : Nat) : Int) := wC (by omega) (by omega)
    have hp : 2 ^ (d + 1) = 2 ^ d * 2 := Nat.pow_succ ..
    have hs1 : (t ++ bO).size = t.size + 1 := by rw [ByteArray.size_append]; rfl
    have hs2 : (t ++ bC).size = t.size + 1 := by rw [ByteArray.size_append]; rfl
    refine SpecW.of_EV hf_i_bracketings_1 hc_i_bracketings_1 rfl rfl rfl fun w0 B ρ0 _ => ?_
    by_cases h1 : o < d + 1
    · have ho15 : o + 1 ≤ 16 := by omega
      have r1 := s_brk n hn d (t ++ bO) (o + 1) acc (by omega) ho15 (by omega)
      by_cases h2 : 0 < o
      · have w4 : IntKind.i64.wrap ((o : Int) - 1) = ((o - 1 : Nat) : Int) := wC (by omega) (by omega)
        have hl := wy_le d (o + 1)
        have r2 := s_brk n hn d (t ++ bC) (o - 1) (acc ++ br d (t ++ bO) (o + 1)) (by omega) (by omega) (by rw [List.length_append, br_len]; omega)
        have e : acc ++ br (d + 1) t o = acc ++ br d (t ++ bO) (o + 1) ++ br d (t ++ bC) (o - 1) := by rw [br, if_pos h1, if_pos h2, List.append_assoc]
        (repeat' (first | refine Exists.intro _ (And.intro w1 ?_) | refine Exists.intro _ (And.intro w2 ?_) | refine And.intro (show t.size + 1 ≤ 9223372036854775807 by omega) ?_ | refine Exists.intro _ (And.intro w3 ?_) | refine Exists.intro _ (And.intro w4 ?_) | refine (r1).make [0,1,2,3] rfl ⟨rfl, rfl, rfl, rfl, trivial⟩ ?_ | refine (r2).make [0,1,2,4] rfl ⟨rfl, rfl, rfl, rfl, trivial⟩ ?_ | refine And.intro (neI rfl) ?_ | refine And.intro ⟨rfl, leR rfl, onesR rfl⟩ ?_ | refine And.intro ⟨rfl, leR rfl⟩ ?_ | refine draw_rule2 hfol (fun KK hKK => ?_) | refine hKK _ _ _ (by kernel_rfl) ?_ | refine region_rule (fun KK hKK => ?_) | refine hKK _ _ ?_ | refine And.intro (Eq.refl true) ?_ | refine Exists.intro _ (And.intro (wI (by omega)) ?_) | refine Exists.intro _ (And.intro (wU (by omega)) ?_) | refine Exists.intro _ (And.intro ⟨rfl, by omega⟩ ?_) | refine Exists.intro _ (And.intro rfl ?_) | refine And.intro rfl ?_ | refine And.intro ⟨rfl, rfl⟩ ?_ | ((refine And.intro (fun _ => ?_) (fun _ => ?_)) <;> try (exfalso; omega))))
        exact Exists.intro [0, 1, 2, 3, 5] (And.intro rfl (And.intro ⟨rfl, rfl, rfl, rfl, by rw [e]; rfl, trivial⟩ rfl))
      · have e : acc ++ br (d + 1) t o = acc ++ br d (t ++ bO) (o + 1) := by rw [br, if_pos h1, if_neg h2, List.append_nil]
        (repeat' (first | refine Exists.intro _ (And.intro w1 ?_) | refine Exists.intro _ (And.intro w2 ?_) | refine And.intro (show t.size + 1 ≤ 9223372036854775807 by omega) ?_ | refine Exists.intro _ (And.intro w3 ?_) | refine (r1).make [0,1,2,3] rfl ⟨rfl, rfl, rfl, rfl, trivial⟩ ?_ | refine And.intro (neI rfl) ?_ | refine And.intro ⟨rfl, leR rfl, onesR rfl⟩ ?_ | refine And.intro ⟨rfl, leR rfl⟩ ?_ | refine draw_rule2 hfol (fun KK hKK => ?_) | refine hKK _ _ _ (by kernel_rfl) ?_ | refine region_rule (fun KK hKK => ?_) | refine hKK _ _ ?_ | refine And.intro (Eq.refl true) ?_ | refine Exists.intro _ (And.intro (wI (by omega)) ?_) | refine Exists.intro _ (And.intro (wU (by omega)) ?_) | refine Exists.intro _ (And.intro ⟨rfl, by omega⟩ ?_) | refine Exists.intro _ (And.intro rfl ?_) | refine And.intro rfl ?_ | refine And.intro ⟨rfl, rfl⟩ ?_ | ((refine And.intro (fun _ => ?_) (fun _ => ?_)) <;> try (exfalso; omega))))
        exact Exists.intro [0, 1, 2, 3, 4] (And.intro rfl (And.intro ⟨rfl, rfl, rfl, rfl, by rw [e]; rfl, trivial⟩ rfl))
    · have h2 : 0 < o := by omega
      have w4 : IntKind.i64.wrap ((o : Int) - 1) = ((o - 1 : Nat) : Int) := wC (by omega) (by omega)
      have r2 := s_brk n hn d (t ++ bC) (o - 1) acc (by omega) (by omega) (by omega)
      have e : acc ++ br (d + 1) t o = acc ++ br d (t ++ bC) (o - 1) := by rw [br, if_neg h1, if_pos h2, List.nil_append]
      (repeat' (first | refine Exists.intro _ (And.intro w1 ?_) | refine Exists.intro _ (And.intro w2 ?_) | refine And.intro (show t.size + 1 ≤ 9223372036854775807 by omega) ?_ | refine Exists.intro _ (And.intro w4 ?_) | refine (r2).make [0,1,2,3] rfl ⟨rfl, rfl, rfl, rfl, trivial⟩ ?_ | refine And.intro (neI rfl) ?_ | refine And.intro ⟨rfl, leR rfl, onesR rfl⟩ ?_ | refine And.intro ⟨rfl, leR rfl⟩ ?_ | refine draw_rule2 hfol (fun KK hKK => ?_) | refine hKK _ _ _ (by kernel_rfl) ?_ | refine region_rule (fun KK hKK => ?_) | refine hKK _ _ ?_ | refine And.intro (Eq.refl true) ?_ | refine Exists.intro _ (And.intro (wI (by omega)) ?_) | refine Exists.intro _ (And.intro (wU (by omega)) ?_) | refine Exists.intro _ (And.intro ⟨rfl, by omega⟩ ?_) | refine Exists.intro _ (And.intro rfl ?_) | refine And.intro rfl ?_ | refine And.intro ⟨rfl, rfl⟩ ?_ | ((refine And.intro (fun _ => ?_) (fun _ => ?_)) <;> try (exfalso; omega))))
      exact Exists.intro [0, 1, 2, 3, 4] (And.intro rfl (And.intro ⟨rfl, rfl, rfl, rfl, by rw [e]; rfl, trivial⟩ rfl))
theorem s_bracketings (n : Nat) (hn : n ≤ 8) : Spec Try.prog n_i_bracketings [vi n] [] (.sl 0) [.pr T_string 1 (br (2 * n) ⟨#[]⟩ 0).length (rS (br (2 * n) ⟨#[]⟩ 0))] := by
  have h := s_brk n hn (2 * n) ⟨#[]⟩ 0 [] (Nat.zero_add _) (by omega) (by
    have : 2 ^ (2 * n) ≤ 2 ^ 16 := Nat.pow_le_pow_right (by omega) (by omega)
    show 0 + _ ≤ _
    omega)
  rw [List.nil_append] at h
  refine SpecW.of_EV hf_i_bracketings hc_i_bracketings rfl rfl rfl fun w0 B ρ0 _ => ?_
  (repeat' (first | refine Exists.intro [V.sl 1] (And.intro ⟨leR rfl, rfl⟩ ?_) | refine Exists.intro [V.fn (.func n_i_bracketings_1) [] [.ptr 0 0, .ptr 2 0, .ptr 3 0]] (And.intro ⟨leR rfl, rfl⟩ ?_) | refine (h).make [0,2,3,1] rfl ⟨rfl, rfl, rfl, rfl, trivial⟩ ?_ | refine And.intro (neI rfl) ?_ | refine And.intro ⟨rfl, leR rfl, onesR rfl⟩ ?_ | refine And.intro ⟨rfl, leR rfl⟩ ?_ | refine draw_rule2 hfol (fun KK hKK => ?_) | refine hKK _ _ _ (by kernel_rfl) ?_ | refine region_rule (fun KK hKK => ?_) | refine hKK _ _ ?_ | refine And.intro (Eq.refl true) ?_ | refine Exists.intro _ (And.intro (wI (by omega)) ?_) | refine Exists.intro _ (And.intro (wU (by omega)) ?_) | refine Exists.intro _ (And.intro ⟨rfl, by omega⟩ ?_) | refine Exists.intro _ (And.intro rfl ?_) | refine And.intro rfl ?_ | refine And.intro ⟨rfl, rfl⟩ ?_ | ((refine And.intro (fun _ => ?_) (fun _ => ?_)) <;> try (exfalso; omega))))
  exact Exists.intro [4] (And.intro (rfl) (And.intro ⟨rfl, trivial⟩ rfl))
end Go.Proofs.Ytgpgcdofhkpeaaa.VE
