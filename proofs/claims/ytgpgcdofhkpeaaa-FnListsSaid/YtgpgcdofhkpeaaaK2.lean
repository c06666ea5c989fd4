/- Contracts of functions of the given program, for all arguments that the contract names; see each theorem. -/
import Derived.Test.YtgpgcdofhkpeaaaK1
set_option linter.all false
namespace Go.Proofs.Ytgpgcdofhkpeaaa.VE
open Go
set_option maxHeartbeats 800000
set_option maxRecDepth 100000

/-! plain: how many parts there are, counted along a list -/
/-- 0 where it is so, else 1. -/
noncomputable def nwP (p : Prop) : Nat := @ite Nat p (Classical.propDecidable p) 0 1
theorem nwP_t {p : Prop} (h : p) : nwP p = 0 := if_pos h
theorem nwP_f {p : Prop} (h : ¬ p) : nwP p = 1 := if_neg h
noncomputable def cls (R : Nat → Nat → Prop) : List Nat → List Nat → Nat
  | _, [] => 0
  | s, x :: l => nwP (∃ y, y ∈ s ∧ R y x) + cls R (x :: s) l
theorem cls_seen {R : Nat → Nat → Prop} : ∀ {l s t : List Nat}, (∀ x, (∃ y, y ∈ s ∧ R y x) ↔ ∃ y, y ∈ t ∧ R y x) → cls R s l = cls R t l
  | [], _, _, _ => rfl
  | x :: l, s, t, h => by
    unfold cls
    rw [show (∃ y, y ∈ s ∧ R y x) = (∃ y, y ∈ t ∧ R y x) from propext (h x)]
    congr 1
    refine cls_seen fun z => ?_
    have hz := h z
    constructor
    · rintro ⟨y, hy, hr⟩
      rcases List.mem_cons.1 hy with rfl | hy
      · exact ⟨y, by simp, hr⟩
      · obtain ⟨u, hu, hr⟩ := hz.1 ⟨y, hy, hr⟩
        exact ⟨u, by simp [hu], hr⟩
    · rintro ⟨y, hy, hr⟩
      rcases List.mem_cons.1 hy with rfl | hy
      · exact ⟨y, by simp, hr⟩
      · obtain ⟨u, hu, hr⟩ := hz.2 ⟨y, hy, hr⟩
        exact ⟨u, by simp [hu], hr⟩
theorem cls_append {R : Nat → Nat → Prop} : ∀ {l l' s : List Nat}, cls R s (l ++ l') = cls R s l + cls R (l.reverse ++ s) l'
  | [], l', s => by simp [cls]
  | x :: l, l', s => by
    simp only [List.cons_append, cls]
    rw [cls_append, Nat.add_assoc]
    simp
theorem cls_perm {R : Nat → Nat → Prop} (hs : ∀ x y, R x y → R y x) (ht : ∀ x y z, R x y → R y z → R x z) {l l' : List Nat} (h : l.Perm l') : ∀ s, cls R s l = cls R s l' := by
  induction h with
  | nil => exact fun _ => rfl
  | cons x _ ih => intro s; unfold cls; rw [ih]
  | trans _ _ ih1 ih2 => intro s; rw [ih1, ih2]
  | swap x y l =>
    intro s
    simp only [cls]
    have hmem : ∀ u v z, (∃ w, w ∈ u :: v :: s ∧ R w z) ↔ R u z ∨ R v z ∨ ∃ w, w ∈ s ∧ R w z := by
      intro u v z
      constructor
      · rintro ⟨w, hw, hr⟩
        simp only [List.mem_cons] at hw
        rcases hw with rfl | rfl | hw
        · exact .inl hr
        · exact .inr (.inl hr)
        · exact .inr (.inr ⟨w, hw, hr⟩)
      · rintro (hr | hr | ⟨w, hw, hr⟩)
        · exact ⟨u, by simp, hr⟩
        · exact ⟨v, by simp, hr⟩
        · exact ⟨w, by simp [hw], hr⟩
    have hlast : cls R (x :: y :: s) l = cls R (y :: x :: s) l := cls_seen fun z => by
      rw [hmem, hmem]
      constructor
      · rintro (h | h | h)
        · exact .inr (.inl h)
        · exact .inl h
        · exact .inr (.inr h)
      · rintro (h | h | h)
        · exact .inr (.inl h)
        · exact .inl h
        · exact .inr (.inr h)
    rw [hlast]
    have h1 : ∀ u v, (∃ w, w ∈ u :: s ∧ R w v) ↔ R u v ∨ ∃ w, w ∈ s ∧ R w v := by
      intro u v
      constructor
      · rintro ⟨w, hw, hr⟩
        rcases List.mem_cons.1 hw with rfl | hw
        · exact .inl hr
        · exact .inr ⟨w, hw, hr⟩
      · rintro (hr | ⟨w, hw, hr⟩)
        · exact ⟨u, by simp, hr⟩
        · exact ⟨w, by simp [hw], hr⟩
    rw [show (∃ w, w ∈ y :: s ∧ R w x) = (R y x ∨ ∃ w, w ∈ s ∧ R w x) from propext (h1 y x), show (∃ w, w ∈ x :: s ∧ R w y) = (R x y ∨ ∃ w, w ∈ s ∧ R w y) from propext (h1 x y)]
    by_cases hc : R y x
    · have hc' := hs _ _ hc
      rw [nwP_t (show R y x ∨ ∃ w, w ∈ s ∧ R w x from .inl hc), nwP_t (show R x y ∨ ∃ w, w ∈ s ∧ R w y from .inl hc')]
      have : (∃ w, w ∈ s ∧ R w y) = (∃ w, w ∈ s ∧ R w x) := propext ⟨fun ⟨w, hw, hr⟩ => ⟨w, hw, ht _ _ _ hr hc⟩, fun ⟨w, hw, hr⟩ => ⟨w, hw, ht _ _ _ hr hc'⟩⟩
      rw [this]
    · have hc' : ¬ R x y := fun h => hc (hs _ _ h)
      rw [show (R y x ∨ ∃ w, w ∈ s ∧ R w x) = (∃ w, w ∈ s ∧ R w x) from propext ⟨fun h => h.resolve_left hc, .inr⟩, show (R x y ∨ ∃ w, w ∈ s ∧ R w y) = (∃ w, w ∈ s ∧ R w y) from propext ⟨fun h => h.resolve_left hc', .inr⟩]
      omega
theorem cls_map {R : Nat → Nat → Prop} {f : Nat → Nat} : ∀ {l s : List Nat}, cls R (s.map f) (l.map f) = cls (fun x y => R (f x) (f y)) s l
  | [], _ => rfl
  | x :: l, s => by
    simp only [List.map_cons, cls]
    rw [← List.map_cons, cls_map]
    congr 1
    have : (∃ y, y ∈ s.map f ∧ R y (f x)) = (∃ y, y ∈ s ∧ R (f y) (f x)) := propext ⟨fun ⟨y, hy, hr⟩ => by
      obtain ⟨z, hz, rfl⟩ := List.mem_map.1 hy; exact ⟨z, hz, hr⟩, fun ⟨y, hy, hr⟩ => ⟨f y, List.mem_map.2 ⟨y, hy, rfl⟩, hr⟩⟩
    rw [this]
theorem cls_congr {R R' : Nat → Nat → Prop} : ∀ {l s : List Nat}, (∀ x ∈ l, ∀ y, y ∈ s ∨ y ∈ l → (R y x ↔ R' y x)) → cls R s l = cls R' s l
  | [], _, _ => rfl
  | x :: l, s, h => by
    simp only [cls]
    rw [cls_congr (l := l) (s := x :: s) fun z hz y hy => h z (by simp [hz]) y (by
      rcases hy with hy | hy
      · rcases List.mem_cons.1 hy with rfl | hy
        · exact .inr (by simp)
        · exact .inl hy
      · exact .inr (by simp [hy]))]
    congr 1
    have : (∃ y, y ∈ s ∧ R y x) = (∃ y, y ∈ s ∧ R' y x) := propext ⟨fun ⟨y, hy, hr⟩ => ⟨y, hy, (h x (by simp) y (.inl hy)).1 hr⟩, fun ⟨y, hy, hr⟩ => ⟨y, hy, (h x (by simp) y (.inl hy)).2 hr⟩⟩
    rw [this]

/-- The outer points, and the middle ones, among all. -/
def outL (n : Nat) : List Nat := (List.range (2 * n)).map (op n)
def midL (n : Nat) : List Nat := (List.range n).map (n + ·)
theorem mem_outL {n v : Nat} : v ∈ outL n ↔ v < n ∨ (2 * n ≤ v ∧ v < 3 * n) := by
  simp only [outL, List.mem_map, List.mem_range, op]
  constructor
  · rintro ⟨p, hp, rfl⟩; split <;> omega
  · rintro (h | ⟨h1, h2⟩)
    · exact ⟨v, by omega, by rw [if_pos h]⟩
    · exact ⟨v - n, by omega, by rw [if_neg (by omega)]; omega⟩
theorem mem_midL {n v : Nat} : v ∈ midL n ↔ n ≤ v ∧ v < 2 * n := by
  simp only [midL, List.mem_map, List.mem_range]
  constructor
  · rintro ⟨p, hp, rfl⟩; omega
  · rintro ⟨h1, h2⟩; exact ⟨v - n, by omega, by omega⟩

section
variable {n : Nat} {a b : List Nat} (ha : IsV n a) (hb : IsV n b)
include ha hb
theorem fol_mark : ∀ {d : Nat} {l : Bool} {p v : Nat} {s : List Bool}, (fol n a b d l p s).2.2.getD v false = true → s.getD v false = true ∨ onP n a b d l p (n + v)
  | 0, _, _, _, _, h => .inl h
  | d + 1, l, p, v, s, h => by
    unfold fol at h
    cases ho : isOut n l (mt a b l p) with
    | true => rw [ho, if_pos rfl] at h; exact .inl h
    | false =>
      rw [ho, if_neg (by decide)] at h
      rcases fol_mark h with h2 | h2
      · by_cases hv : md n l (mt a b l p) = v
        · refine .inr (.inr (.inr ⟨ho, ?_⟩))
          rw [hv, ← vx_ep (n := n) (l := !l)]
          exact onP_start
        · refine .inl ?_
          rw [List.getD_eq_getElem?_getD, List.getElem?_set_ne hv] at h2
          rwa [List.getD_eq_getElem?_getD]
      · exact .inr (.inr (.inr ⟨ho, h2⟩))
theorem oL_mark : ∀ i, i ≤ n → ∀ v, (oL n a b i).2.getD v false = true → ∃ y, y ∈ outL n ∧ Cn (E2 n a b) y (n + v)
  | 0, _, v, h => by
    rw [oL, List.getD_eq_getElem?_getD, List.getElem?_replicate] at h
    split at h <;> cases h
  | i + 1, hi, v, h => by
    simp only [oL] at h
    rcases fol_mark ha hb h with h | h
    · rcases fol_mark ha hb h with h | h
      · exact oL_mark i (by omega) v h
      · exact ⟨i, mem_outL.2 (.inl (by omega)), onP_conn ha hb (p := i) (by omega) h⟩
    · exact ⟨n + (n + i), mem_outL.2 (.inr (by omega)), onP_conn ha hb (p := n + i) (by omega) h⟩
/-- What the walks from the outer points meet. -/
theorem oL_seen {v : Nat} (hv : v < n) : (oL n a b n).2.getD v false = true ↔ ∃ y, y ∈ outL n ∧ Cn (E2 n a b) y (n + v) := by
  constructor
  · exact oL_mark ha hb n (Nat.le_refl n) v
  · rintro ⟨y, hy, hc⟩
    obtain ⟨_, h2, h3, h4⟩ := oL_inv ha hb n (Nat.le_refl n)
    have h4' : ∀ p, p < 2 * n → isOut n (lay n p) (mt a b (lay n p) p) = true ∨ (oL n a b n).2.getD (md n (lay n p) (mt a b (lay n p) p)) false = true := by
      intro p hp
      by_cases h : p < n
      · have := h4 p h false
        rw [show lay n p = false from decide_eq_false (by omega)]; simpa using this
      · have := h4 (p - n) (by omega) true
        rw [show lay n p = true from decide_eq_true (by omega)]
        simpa [show n + (p - n) = p from by omega] using this
    have hcl := Cn.closed (S := fun w => w ∈ outL n ∨ ∃ v, v < n ∧ w = n + v ∧ (oL n a b n).2.getD v false = true) (fun w z hw hE => by
      have step : ∀ (l : Bool) (p : Nat), p < 2 * n → z = vx n l (mt a b l p) → (isOut n l (mt a b l p) = true ∨ (oL n a b n).2.getD (md n l (mt a b l p)) false = true) → z ∈ outL n ∨ ∃ v, v < n ∧ z = n + v ∧ (oL n a b n).2.getD v false = true := by
        intro l p hp hz h
        have hl := mt_lt ha hb (l := l) hp
        cases ho : isOut n l (mt a b l p) with
        | true =>
          refine .inl ?_
          rw [hz, vx_out ho]
          exact List.mem_map.2 ⟨_, List.mem_range.2 hl, rfl⟩
        | false =>
          rw [ho] at h
          exact .inr ⟨_, md_lt hl ho, by rw [hz, vx_md ho], h.resolve_left (by decide)⟩
      rcases hw with hw | ⟨v, hv, rfl, hm⟩
      · obtain ⟨p, hp, rfl⟩ := List.mem_map.1 hw
        have hp := List.mem_range.1 hp
        rw [← vx_lay] at hE
        rcases E2_vx ha hb hp hE with h | ⟨h, _⟩
        · exact step _ p hp h (h4' p hp)
        · rw [out_lay] at h; cases h
      · rw [← vx_ep (n := n) (x := v) (l := true)] at hE
        have hep := ep_lt (n := n) (l := true) hv
        rcases E2_vx ha hb hep hE with h | ⟨_, h⟩
        · exact step true _ hep h (h3 v hv hm true)
        · rw [md_ep] at h
          exact step false _ (ep_lt hv) h (h3 v hv hm false)) hc (.inl hy)
    rcases hcl with h | ⟨u, _, h1, h5⟩
    · have := mem_outL.1 h; omega
    · have : v = u := by omega
      rw [this]; exact h5
theorem lpO_cls : ∀ (d i : Nat) (s : List Bool) (c : Nat) (seen : List Nat), i + d = n → s.length = 8 → G n a b s → (∀ x, x < n → (s.getD x false = true ↔ ∃ y, y ∈ seen ∧ Cn (E2 n a b) y (n + x))) →
    lpO n a b d i s c = c + cls (Cn (E2 n a b)) seen ((List.range' i d).map (n + ·))
  | 0, _, _, _, _, _, _, _, _ => by simp [lpO, cls]
  | d + 1, i, s, c, seen, hi, hs, hG, hI => by
    have hsym : ∀ x y, Cn (E2 n a b) x y → Cn (E2 n a b) y x := fun x y h => h.symm (E2.symm ha hb)
    unfold lpO
    simp only [List.range'_succ, List.map_cons, cls]
    cases hc : s.getD i false with
    | true =>
      rw [if_pos rfl, nwP_t ((hI i (by omega)).1 hc), lpO_cls d (i + 1) s c ((n + i) :: seen) (by omega) hs hG fun x hx => ?_]
      · omega
      · rw [hI x hx]
        obtain ⟨u, hu, hr⟩ := (hI i (by omega)).1 hc
        constructor
        · rintro ⟨y, hy, h⟩; exact ⟨y, by simp [hy], h⟩
        · rintro ⟨y, hy, h⟩
          rcases List.mem_cons.1 hy with rfl | hy
          · exact ⟨u, hu, hr.trans h⟩
          · exact ⟨y, hy, h⟩
    | false =>
      have hno : ¬ ∃ y, y ∈ seen ∧ Cn (E2 n a b) y (n + i) := fun h => by rw [(hI i (by omega)).2 h] at hc; cases hc
      have hcf := cF_all (s := s)
      have hn0 : ∀ v, ¬ nw s s v := fun v h => by have := h.1; rw [h.2] at this; cases this
      have hR := spI_res ha hb hs hG (show i < n by omega) hc 8 i s hs (by omega) (fun v h => h) (by omega) hc (.inl ⟨rfl, rfl⟩) fun T h _ => ⟨fun v hv => absurd hv (hn0 v), h⟩
      have hG2 := Res.G ha hb hs hG (show i < n by omega) hc hR
      have edge : ∀ v, v < n → s.getD v false = false → ∀ k, E2 n a b (n + v) (n + sg n a b k v) := fun v hv hsv k => by
        have ho := (hG v hv hsv k).1
        have := E2_mt ha hb (l := k) (ep_lt (l := k) hv)
        rw [vx_ep] at this
        rw [show n + sg n a b k v = vx n k (mt a b k (ep n k v)) from (vx_md ho).symm]; exact this
      have hnw : ∀ x, x < n → (nw s (spI n a b 8 i s) x ↔ Cn (E2 n a b) (n + i) (n + x)) := fun x hx => by
        constructor
        · exact hR.mn (fun v => Cn (E2 n a b) (n + i) (n + v)) (.refl _) (fun v hv hsv h k => .step h (edge v hv hsv k)) x
        · intro h
          have hcl := Cn.closed (S := fun w => ∃ v, v < n ∧ w = n + v ∧ nw s (spI n a b 8 i s) v) (fun w z hw hE => by
            obtain ⟨v, hv, rfl, hnv⟩ := hw
            have go : ∀ k, z = vx n k (mt a b k (ep n k v)) → ∃ v, v < n ∧ z = n + v ∧ nw s (spI n a b 8 i s) v := fun k hz => by
              have ho := (hG v hv hnv.2 k).1
              have h5 := hR.cl v hnv k
              exact ⟨_, hR.lt _ h5, by rw [hz]; exact vx_md ho, h5⟩
            rw [← vx_ep (n := n) (x := v) (l := true)] at hE
            rcases E2_vx ha hb (ep_lt (n := n) (l := true) hv) hE with h | ⟨_, h⟩
            · exact go true h
            · rw [md_ep] at h; exact go false h) h ⟨i, by omega, rfl, hR.st⟩
          obtain ⟨v, _, h1, h2⟩ := hcl
          have : x = v := by omega
          rw [this]; exact h2
      rw [if_neg (by decide), nwP_f hno, lpO_cls d (i + 1) (spI n a b 8 i s) (c + 1) ((n + i) :: seen) (by omega) hR.len hG2 fun x hx => ?_]
      · omega
      · constructor
        · intro h
          cases hsx : s.getD x false with
          | true =>
            obtain ⟨y, hy, hr⟩ := (hI x hx).1 hsx
            exact ⟨y, by simp [hy], hr⟩
          | false => exact ⟨n + i, by simp, (hnw x hx).1 ⟨h, hsx⟩⟩
        · rintro ⟨y, hy, hr⟩
          rcases List.mem_cons.1 hy with rfl | hy
          · exact ((hnw x hx).2 hr).1
          · exact hR.mono x ((hI x hx).2 ⟨y, hy, hr⟩)
/-- The loops of a product: the parts without outer points. -/
theorem lpN_cls : lpN n a b = cls (Cn (E2 n a b)) (outL n) (midL n) := by
  have h := lpO_cls ha hb n 0 (oL n a b n).2 0 (outL n) (by omega) (oL_inv ha hb n (Nat.le_refl n)).2.1 (oL_G ha hb) fun x hx => oL_seen ha hb hx
  rw [Nat.zero_add] at h
  unfold lpN midL
  rw [h, List.range_eq_range']
end
end Go.Proofs.Ytgpgcdofhkpeaaa.VE
