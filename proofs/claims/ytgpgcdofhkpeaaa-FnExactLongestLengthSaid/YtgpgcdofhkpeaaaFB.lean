/- Contracts of functions of the given program, for all arguments that the contract names; see each theorem. -/
import Derived.Test.YtgpgcdofhkpeaaaFA
set_option linter.all false
namespace Go.Proofs.Ytgpgcdofhkpeaaa.VE
open Go
set_option maxHeartbeats 1600000
set_option maxRecDepth 100000

/-! plain: sums over all words of a length -/
def SW (m : Nat) : Nat → (List Nat → Nat) → Nat
  | 0, f => f []
  | L + 1, f => ((List.range m).map fun i => SW m L fun w => f (i :: w)).sum
theorem sum_congr {α : Type} {l : List α} {f g : α → Nat} (h : ∀ x ∈ l, f x = g x) : (l.map f).sum = (l.map g).sum := by
  rw [List.map_congr_left h]
theorem sum_add {α : Type} {f g : α → Nat} : ∀ {l : List α}, (l.map fun x => f x + g x).sum = (l.map f).sum + (l.map g).sum
  | [] => rfl
  | x :: l => by simp only [List.map_cons, List.sum_cons]; rw [sum_add (l := l)]; omega
theorem sum_zero {α : Type} : ∀ {l : List α}, (l.map fun _ => 0).sum = 0
  | [] => rfl
  | x :: l => by simp only [List.map_cons, List.sum_cons]; rw [sum_zero (l := l)]
theorem sum_swap {α β : Type} {F : α → β → Nat} {k : List β} : ∀ {l : List α}, (l.map fun x => (k.map fun y => F x y).sum).sum = (k.map fun y => (l.map fun x => F x y).sum).sum
  | [] => by simp only [List.map_nil, List.sum_nil]; exact sum_zero.symm
  | x :: l => by simp only [List.map_cons, List.sum_cons]; rw [sum_swap (l := l), sum_add]
theorem SW_congr {m : Nat} : ∀ {L : Nat} {f g : List Nat → Nat}, (∀ w, w.length = L → (∀ i ∈ w, i < m) → f w = g w) → SW m L f = SW m L g
  | 0, _, _, h => h [] rfl (fun i hi => by simp at hi)
  | L + 1, f, g, h => by
    refine sum_congr fun i hi => SW_congr fun w h1 h2 => h (i :: w) (by simp [h1]) fun j hj => ?_
    rcases List.mem_cons.1 hj with rfl | hj
    · exact List.mem_range.1 hi
    · exact h2 j hj
theorem SW_sum {m : Nat} {α : Type} {l : List α} : ∀ {L : Nat} {F : α → List Nat → Nat}, SW m L (fun w => (l.map fun x => F x w).sum) = (l.map fun x => SW m L (F x)).sum
  | 0, _ => rfl
  | L + 1, F => by
    simp only [SW]
    rw [sum_swap]
    exact sum_congr fun i _ => SW_sum
theorem SW_if {m L : Nat} {c : Prop} [Decidable c] {f : List Nat → Nat} : SW m L (fun w => if c then f w else 0) = if c then SW m L f else 0 := by
  by_cases h : c
  · simp only [if_pos h]
  · simp only [if_neg h]
    clear h
    induction L with
    | zero => rfl
    | succ L ih => simp only [SW]; rw [ih]; exact sum_zero
theorem SW_snoc {m : Nat} : ∀ {L : Nat} {f : List Nat → Nat}, SW m (L + 1) f = SW m L (fun w => ((List.range m).map fun k => f (w ++ [k])).sum)
  | 0, _ => rfl
  | L + 1, f => by
    rw [SW]
    have : ∀ i, SW m (L + 1) (fun w => f (i :: w)) = SW m L (fun w => ((List.range m).map fun k => f (i :: (w ++ [k]))).sum) := fun i => SW_snoc
    rw [List.map_congr_left fun i _ => this i]
    rfl
end Go.Proofs.Ytgpgcdofhkpeaaa.VE
namespace Go.Proofs.Ytgpgcdofhkpeaaa.VE
open Go
set_option maxHeartbeats 1600000
set_option maxRecDepth 100000

/-! plain: how many words of a length a diagram has, level by level -/
def cnt (n L : Nat) (d : List Nat) : Nat := SW (n - 1) L fun w => if lv n w = (d, 0) then 1 else 0
def has (n L : Nat) (d : List Nat) : Prop := ∃ w, w.length = L ∧ LF n w d
/-- The level of a diagram. -/
def lev (n L : Nat) (d : List Nat) : Prop := has n L d ∧ ∀ K, K < L → ¬ has n K d
theorem lev.uniq {n L K : Nat} {d : List Nat} (h : lev n L d) (h' : lev n K d) : L = K := by
  rcases Nat.lt_trichotomy L K with h1 | h1 | h1
  · exact absurd h.1 (h'.2 L h1)
  · exact h1
  · exact absurd h'.1 (h.2 K h1)
theorem has.lev {n : Nat} {d : List Nat} : ∀ {L : Nat}, has n L d → ∃ K, K ≤ L ∧ lev n K d := by
  intro L
  induction L using Nat.strongRecOn with
  | _ L ih =>
    intro h
    by_cases h1 : ∃ K, K < L ∧ has n K d
    · obtain ⟨K, h2, h3⟩ := h1
      obtain ⟨M, h4, h5⟩ := ih K h2 h3
      exact ⟨M, by omega, h5⟩
    · exact ⟨L, Nat.le_refl _, h, fun K h2 h3 => h1 ⟨K, h2, h3⟩⟩
theorem sum_single {α : Type} {f : α → Nat} {x : α} : ∀ {l : List α}, l.Nodup → x ∈ l → (∀ y ∈ l, y ≠ x → f y = 0) → (l.map f).sum = f x
  | y :: l, hn, hx, h => by
    simp only [List.map_cons, List.sum_cons]
    have hn' := List.nodup_cons.1 hn
    by_cases e : y = x
    · subst e
      have : (l.map f).sum = (l.map fun _ => 0).sum := sum_congr fun z hz => h z (by simp [hz]) fun e => hn'.1 (e ▸ hz)
      rw [this, sum_zero]; rfl
    · rw [h y (by simp) e, sum_single hn'.2 ((List.mem_cons.1 hx).resolve_left (Ne.symm e)) fun z hz => h z (by simp [hz])]; omega
theorem sum_none {α : Type} {f : α → Nat} {l : List α} (h : ∀ y ∈ l, f y = 0) : (l.map f).sum = 0 := by
  rw [sum_congr h, sum_zero]
theorem okW_of {n : Nat} {w : List Nat} (h : ∀ i ∈ w, i < n - 1) : okW n w := fun i hi => by have := h i hi; omega
section
variable {n L : Nat} {e : List Nat} {l : List (List Nat)} (hn1 : 1 ≤ n) (hn : n ≤ 8) (hnd : l.Nodup) (hl : ∀ d, d ∈ l ↔ lev n L d) (he : ∀ K, K ≤ L → ¬ has n K e)
include hn1 hn hnd hl he
theorem cnt_left : cnt n (L + 1) e = ((List.range (n - 1)).map fun i => (l.map fun d => if (oL n (gen n i) d n).1 = e ∧ lpN n (gen n i) d = 0 then cnt n L d else 0).sum).sum := by
  unfold cnt
  rw [SW]
  refine sum_congr fun i hi => ?_
  have hi := List.mem_range.1 hi
  rw [List.map_congr_left (g := fun d => SW (n - 1) L fun w => if (oL n (gen n i) d n).1 = e ∧ lpN n (gen n i) d = 0 then (if lv n w = (d, 0) then 1 else 0) else 0) fun d _ => SW_if.symm]
  rw [← SW_sum]
  refine SW_congr fun w h1 h2 => ?_
  have hw := okW_of h2
  by_cases h : lv n (i :: w) = (e, 0)
  · rw [if_pos h]
    have hLF : LF n (i :: w) e := ⟨fun j hj => by
      rcases List.mem_cons.1 hj with rfl | hj
      · omega
      · exact hw j hj, h⟩
    obtain ⟨_, d, g1, g2, g3⟩ := LF.cons_iff.1 hLF
    have hd : d ∈ l := (hl d).2 ⟨⟨w, h1, g1⟩, fun K hK ⟨u, hu, hud⟩ => he (K + 1) (by omega) ⟨i :: u, by simp [hu], LF.cons_iff.2 ⟨by omega, d, hud, g2, g3⟩⟩⟩
    rw [sum_single hnd hd]
    · rw [if_pos ⟨g2, g3⟩, if_pos g1.2]
    · intro y _ hne
      by_cases c : (oL n (gen n i) y n).1 = e ∧ lpN n (gen n i) y = 0
      · rw [if_pos c, if_neg]
        intro h3; exact hne (LF.uniq ⟨hw, h3⟩ g1)
      · rw [if_neg c]
  · rw [if_neg h]
    refine (sum_none fun d _ => ?_).symm
    by_cases c : (oL n (gen n i) d n).1 = e ∧ lpN n (gen n i) d = 0
    · rw [if_pos c, if_neg]
      intro h3
      exact h (LF.cons_iff.2 ⟨by omega, d, ⟨hw, h3⟩, c.1, c.2⟩).2
    · rw [if_neg c]
theorem cnt_right : cnt n (L + 1) e = (l.map fun d => ((List.range (n - 1)).map fun k => if (oL n d (gen n k) n).1 = e ∧ lpN n d (gen n k) = 0 then cnt n L d else 0).sum).sum := by
  unfold cnt
  rw [SW_snoc]
  have e1 : ∀ d, (((List.range (n - 1)).map fun k => if (oL n d (gen n k) n).1 = e ∧ lpN n d (gen n k) = 0 then SW (n - 1) L (fun w => if lv n w = (d, 0) then 1 else 0) else 0).sum) =
      SW (n - 1) L fun w => ((List.range (n - 1)).map fun k => if (oL n d (gen n k) n).1 = e ∧ lpN n d (gen n k) = 0 then (if lv n w = (d, 0) then 1 else 0) else 0).sum := fun d => by
    rw [SW_sum]
    exact sum_congr fun k _ => SW_if.symm
  rw [List.map_congr_left fun d _ => e1 d, ← SW_sum]
  refine SW_congr fun w h1 h2 => ?_
  have hw := okW_of h2
  rw [sum_swap]
  refine sum_congr fun k hk => ?_
  have hk := List.mem_range.1 hk
  by_cases h : lv n (w ++ [k]) = (e, 0)
  · rw [if_pos h]
    have hLF : LF n (w ++ [k]) e := ⟨okW_snoc.2 ⟨hw, by omega⟩, h⟩
    obtain ⟨_, d, g1, g2, g3⟩ := (LF.snoc_iff hn1 hn).1 hLF
    have hd : d ∈ l := (hl d).2 ⟨⟨w, h1, g1⟩, fun K hK ⟨u, hu, hud⟩ => he (K + 1) (by omega) ⟨u ++ [k], by simp [hu], (LF.snoc_iff hn1 hn).2 ⟨by omega, d, hud, g2, g3⟩⟩⟩
    rw [sum_single hnd hd]
    · rw [if_pos ⟨g2, g3⟩, if_pos g1.2]
    · intro y _ hne
      by_cases c : (oL n y (gen n k) n).1 = e ∧ lpN n y (gen n k) = 0
      · rw [if_pos c, if_neg]
        intro h3; exact hne (LF.uniq ⟨hw, h3⟩ g1)
      · rw [if_neg c]
  · rw [if_neg h]
    refine (sum_none fun d _ => ?_).symm
    by_cases c : (oL n d (gen n k) n).1 = e ∧ lpN n d (gen n k) = 0
    · rw [if_pos c, if_neg]
      intro h3
      exact h ((LF.snoc_iff hn1 hn).2 ⟨by omega, d, ⟨hw, h3⟩, c.1, c.2⟩).2
    · rw [if_neg c]
end
end Go.Proofs.Ytgpgcdofhkpeaaa.VE
namespace Go.Proofs.Ytgpgcdofhkpeaaa.VE
open Go
set_option maxHeartbeats 1600000
set_option maxRecDepth 100000

/-! plain: least words -/
def lle : List Nat → List Nat → Prop
  | [], _ => True
  | _ :: _, [] => False
  | a :: x, b :: y => a < b ∨ (a = b ∧ lle x y)
theorem lle_refl : ∀ x : List Nat, lle x x
  | [] => trivial
  | a :: x => .inr ⟨rfl, lle_refl x⟩
theorem lle_anti : ∀ {x y : List Nat}, x.length = y.length → lle x y → lle y x → x = y
  | [], [], _, _, _ => rfl
  | [], _ :: _, h, _, _ => by simp at h
  | _ :: _, [], h, _, _ => by simp at h
  | a :: x, b :: y, h, h1, h2 => by
    rcases h1 with h1 | ⟨rfl, h1⟩
    · rcases h2 with h2 | ⟨rfl, h2⟩ <;> omega
    · rcases h2 with h2 | ⟨_, h2⟩
      · omega
      · rw [lle_anti (by simpa using h) h1 h2]
theorem lle_trans : ∀ {x y z : List Nat}, lle x y → lle y z → lle x z
  | [], _, _, _, _ => trivial
  | _ :: _, [], _, h, _ => h.elim
  | _ :: _, _ :: _, [], _, h => h.elim
  | a :: x, b :: y, c :: z, h1, h2 => by
    rcases h1 with h1 | ⟨rfl, h1⟩
    · rcases h2 with h2 | ⟨rfl, h2⟩
      · exact .inl (by omega)
      · exact .inl h1
    · rcases h2 with h2 | ⟨rfl, h2⟩
      · exact .inl h2
      · exact .inr ⟨rfl, lle_trans h1 h2⟩
theorem lle_total : ∀ {x y : List Nat}, lle x y ∨ lle y x
  | [], _ => .inl trivial
  | _ :: _, [] => .inr trivial
  | a :: x, b :: y => by
    rcases Nat.lt_trichotomy a b with h | h | h
    · exact .inl (.inl h)
    · rcases lle_total (x := x) (y := y) with h1 | h1
      · exact .inl (.inr ⟨h, h1⟩)
      · exact .inr (.inr ⟨h.symm, h1⟩)
    · exact .inr (.inl h)
theorem lle_snoc {a b : Nat} : ∀ {x y : List Nat}, x.length = y.length → lle x y → (x = y → a ≤ b) → lle (x ++ [a]) (y ++ [b])
  | [], [], _, _, h => by
    have := h rfl
    rcases Nat.lt_or_ge a b with h1 | h1
    · exact .inl h1
    · exact .inr ⟨by omega, trivial⟩
  | [], _ :: _, h, _, _ => by simp at h
  | _ :: _, [], h, _, _ => by simp at h
  | c :: x, d :: y, hl, h, h2 => by
    rcases h with h | ⟨rfl, h⟩
    · exact .inl h
    · exact .inr ⟨rfl, lle_snoc (by simpa using hl) h fun e => h2 (by rw [e])⟩
def lst (n L : Nat) (d w : List Nat) : Prop := w.length = L ∧ LF n w d ∧ ∀ u, u.length = L → LF n u d → lle w u
theorem lst.uniq {n L : Nat} {d w u : List Nat} (h : lst n L d w) (h' : lst n L d u) : w = u :=
  lle_anti (by rw [h.1, h'.1]) (h.2.2 u h'.1 h'.2.1) (h'.2.2 w h.1 h.2.1)
section
variable {n L : Nat} {e : List Nat} {l : List (List Nat)} (hn1 : 1 ≤ n) (hn : n ≤ 8) (hl : ∀ d, d ∈ l ↔ lev n L d) (he : ∀ K, K ≤ L → ¬ has n K e) {lw : List Nat → List Nat} (hlw : ∀ d ∈ l, lst n L d (lw d)) {W : List Nat}
include hn1 hn hl he hlw
theorem least_left (hW : ∃ i d, d ∈ l ∧ i + 1 < n ∧ (oL n (gen n i) d n).1 = e ∧ lpN n (gen n i) d = 0 ∧ W = i :: lw d)
    (hmin : ∀ i d, d ∈ l → i + 1 < n → (oL n (gen n i) d n).1 = e → lpN n (gen n i) d = 0 → lle W (i :: lw d)) : lst n (L + 1) e W := by
  obtain ⟨i, d, h1, h2, h3, h4, rfl⟩ := hW
  obtain ⟨g1, g2, _⟩ := hlw d h1
  refine ⟨by simp [g1], LF.cons_iff.2 ⟨h2, d, g2, h3, h4⟩, fun u hu hL => ?_⟩
  cases u with
  | nil => simp at hu
  | cons j u =>
    have hu' : u.length = L := by simpa using hu
    obtain ⟨k1, c, k2, k3, k4⟩ := LF.cons_iff.1 hL
    have hc : c ∈ l := (hl c).2 ⟨⟨u, hu', k2⟩, fun K hK ⟨v, hv, hvd⟩ => he (K + 1) (by omega) ⟨j :: v, by simp [hv], LF.cons_iff.2 ⟨k1, c, hvd, k3, k4⟩⟩⟩
    exact lle_trans (hmin j c hc k1 k3 k4) (.inr ⟨rfl, (hlw c hc).2.2 u hu' k2⟩)
theorem least_right (hW : ∃ d k, d ∈ l ∧ k + 1 < n ∧ (oL n d (gen n k) n).1 = e ∧ lpN n d (gen n k) = 0 ∧ W = lw d ++ [k])
    (hmin : ∀ d k, d ∈ l → k + 1 < n → (oL n d (gen n k) n).1 = e → lpN n d (gen n k) = 0 → lle W (lw d ++ [k])) : lst n (L + 1) e W := by
  obtain ⟨d, k, h1, h2, h3, h4, rfl⟩ := hW
  obtain ⟨g1, g2, _⟩ := hlw d h1
  refine ⟨by simp [g1], (LF.snoc_iff hn1 hn).2 ⟨h2, d, g2, h3, h4⟩, fun u hu hL => ?_⟩
  rcases List.eq_nil_or_concat u with rfl | ⟨v, j, rfl⟩
  · simp at hu
  · rw [List.concat_eq_append] at hu hL ⊢
    have hv : v.length = L := by simpa using hu
    obtain ⟨k1, c, k2, k3, k4⟩ := (LF.snoc_iff hn1 hn).1 hL
    have hc : c ∈ l := (hl c).2 ⟨⟨v, hv, k2⟩, fun K hK ⟨z, hz, hzd⟩ => he (K + 1) (by omega) ⟨z ++ [j], by simp [hz], (LF.snoc_iff hn1 hn).2 ⟨k1, c, hzd, k3, k4⟩⟩⟩
    obtain ⟨c1, c2, c3⟩ := hlw c hc
    exact lle_trans (hmin c j hc k1 k3 k4) (lle_snoc (by rw [c1, hv]) (c3 v hv k2) fun _ => Nat.le_refl _)
end
end Go.Proofs.Ytgpgcdofhkpeaaa.VE
