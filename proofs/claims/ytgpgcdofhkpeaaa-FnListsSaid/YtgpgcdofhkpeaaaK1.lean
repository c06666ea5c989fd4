/- Contracts of functions of the given program, for all arguments that the contract names; see each theorem. -/
import Derived.Test.YtgpgcdofhkpeaaaQ2
set_option linter.all false
namespace Go.Proofs.Ytgpgcdofhkpeaaa.VE
open Go
set_option maxHeartbeats 800000
set_option maxRecDepth 100000

/-! plain: what is joined by lines -/
inductive Cn (E : Nat → Nat → Prop) : Nat → Nat → Prop
  | refl (x : Nat) : Cn E x x
  | step {x y z : Nat} : Cn E x y → E y z → Cn E x z
theorem Cn.one {E : Nat → Nat → Prop} {x y : Nat} (h : E x y) : Cn E x y := .step (.refl x) h
theorem Cn.trans {E : Nat → Nat → Prop} {x y z : Nat} (h1 : Cn E x y) (h2 : Cn E y z) : Cn E x z := by
  induction h2 with
  | refl => exact h1
  | step _ e ih => exact .step ih e
theorem Cn.symm {E : Nat → Nat → Prop} (hE : ∀ x y, E x y → E y x) {x y : Nat} (h : Cn E x y) : Cn E y x := by
  induction h with
  | refl => exact .refl _
  | step _ e ih => exact (Cn.one (hE _ _ e)).trans ih
theorem Cn.mono {E E' : Nat → Nat → Prop} (hE : ∀ x y, E x y → Cn E' x y) {x y : Nat} (h : Cn E x y) : Cn E' x y := by
  induction h with
  | refl => exact .refl _
  | step _ e ih => exact ih.trans (hE _ _ e)
theorem Cn.closed {E : Nat → Nat → Prop} {S : Nat → Prop} (hS : ∀ x y, S x → E x y → S y) {x y : Nat} (h : Cn E x y) (hx : S x) : S y := by
  induction h with
  | refl => exact hx
  | step _ e ih => exact hS _ _ ih e

/-- The lines of two diagrams, one above the other, among 3 n points: upper ones, middle ones, lower ones. -/
def E2 (n : Nat) (a b : List Nat) (x y : Nat) : Prop := (x < 2 * n ∧ y = a.getD x 0) ∨ (n ≤ x ∧ x < 3 * n ∧ y = n + b.getD (x - n) 0)
/-- A point of the upper or the lower one, among all. -/
def vx (n : Nat) : Bool → Nat → Nat
  | true, p => n + p
  | false, p => p
/-- A point of the product, among all. -/
def op (n p : Nat) : Nat := if p < n then p else n + p
def lay (n p : Nat) : Bool := decide (n ≤ p)
theorem op_inj {n p q : Nat} (h : op n p = op n q) : p = q := by
  unfold op at h; split at h <;> split at h <;> omega
theorem vx_lay {n p : Nat} : vx n (lay n p) p = op n p := by
  unfold lay op
  by_cases h : n ≤ p
  · rw [decide_eq_true h, if_neg (by omega)]; rfl
  · rw [decide_eq_false h, if_pos (by omega)]; rfl
theorem out_lay {n p : Nat} : isOut n (lay n p) p = true := by
  unfold lay
  by_cases h : n ≤ p
  · rw [decide_eq_true h]; exact decide_eq_true h
  · rw [decide_eq_false h]; exact decide_eq_true (by omega)
theorem vx_ep {n x : Nat} {l : Bool} : vx n l (ep n l x) = n + x := by cases l <;> rfl
theorem vx_md {n q : Nat} {l : Bool} (h : isOut n l q = false) : vx n l q = n + md n l q := by
  cases l <;> simp [isOut, vx, md] at * <;> omega
theorem vx_out {n q : Nat} {l : Bool} (h : isOut n l q = true) : vx n l q = op n q := by
  cases l <;> simp [isOut, vx, op] at * <;> omega
theorem lay_out {n q : Nat} {l : Bool} (h : isOut n l q = true) : lay n q = l := by
  cases l <;> simp [isOut, lay] at * <;> omega

section
variable {n : Nat} {a b : List Nat} (ha : IsV n a) (hb : IsV n b)
include ha hb
theorem E2.symm : ∀ x y, E2 n a b x y → E2 n a b y x := by
  rintro x y (⟨h1, rfl⟩ | ⟨h1, h2, rfl⟩)
  · exact .inl ⟨ha.lt x h1, (ha.inv x h1).symm⟩
  · have h3 := hb.lt (x - n) (by omega)
    have h4 := hb.inv (x - n) (by omega)
    refine .inr ⟨by omega, by omega, ?_⟩
    rw [Nat.add_sub_cancel_left, h4]; omega
theorem E2_mt {l : Bool} {p : Nat} (hp : p < 2 * n) : E2 n a b (vx n l p) (vx n l (mt a b l p)) := by
  cases l
  · exact .inl ⟨hp, rfl⟩
  · refine .inr ⟨?_, ?_, ?_⟩ <;> simp only [vx]
    · omega
    · omega
    · rw [Nat.add_sub_cancel_left]; rfl
theorem E2_vx {l : Bool} {p w : Nat} (hp : p < 2 * n) (h : E2 n a b (vx n l p) w) :
    w = vx n l (mt a b l p) ∨ (isOut n l p = false ∧ w = vx n (!l) (mt a b (!l) (ep n (!l) (md n l p)))) := by
  cases l
  · simp only [vx] at h ⊢
    rcases h with ⟨_, rfl⟩ | ⟨h1, _, rfl⟩
    · exact .inl rfl
    · exact .inr ⟨decide_eq_false (by omega), rfl⟩
  · simp only [vx] at h ⊢
    rcases h with ⟨h1, rfl⟩ | ⟨_, _, rfl⟩
    · exact .inr ⟨decide_eq_false (by omega), rfl⟩
    · rw [Nat.add_sub_cancel_left]; exact .inl rfl
end

/-- What lies on the way. -/
def onP (n : Nat) (a b : List Nat) : Nat → Bool → Nat → Nat → Prop
  | 0, l, p, v => v = vx n l p
  | d + 1, l, p, v => v = vx n l p ∨ (isOut n l (mt a b l p) = true ∧ v = vx n l (mt a b l p)) ∨ (isOut n l (mt a b l p) = false ∧ onP n a b d (!l) (ep n (!l) (md n l (mt a b l p))) v)
theorem onP_start {n : Nat} {a b : List Nat} {d : Nat} {l : Bool} {p : Nat} : onP n a b d l p (vx n l p) := by
  cases d
  · rfl
  · exact .inl rfl
theorem fol_s {n : Nat} {a b : List Nat} : ∀ {d : Nat} {l : Bool} {p : Nat} {s t : List Bool}, (fol n a b d l p s).1 = (fol n a b d l p t).1
  | 0, _, _, _, _ => rfl
  | d + 1, l, p, s, t => by
    unfold fol; split
    · rfl
    · exact fol_s
section
variable {n : Nat} {a b : List Nat} (ha : IsV n a) (hb : IsV n b)
include ha hb
theorem onP_conn : ∀ {d : Nat} {l : Bool} {p v : Nat}, p < 2 * n → onP n a b d l p v → Cn (E2 n a b) (vx n l p) v
  | 0, l, p, v, _, h => by rw [show v = vx n l p from h]; exact .refl _
  | d + 1, l, p, v, hp, h => by
    have e := Cn.one (E2_mt ha hb (l := l) hp)
    have hl := mt_lt ha hb (l := l) hp
    rcases h with h | ⟨_, h⟩ | ⟨ho, h⟩
    · rw [h]; exact .refl _
    · rw [h]; exact e
    · have hm := md_lt hl ho
      have := onP_conn (ep_lt hm) h
      rw [vx_ep, ← vx_md ho] at this
      exact e.trans this
theorem onP_end : ∀ {d : Nat} {l : Bool} {p : Nat} {s : List Bool}, p < 2 * n → ends n a b d l p → onP n a b d l p (op n (fol n a b d l p s).1) ∧ (fol n a b d l p s).1 < 2 * n
  | 0, _, _, _, _, h => h.elim
  | d + 1, l, p, s, hp, h => by
    have hl := mt_lt ha hb (l := l) hp
    unfold fol
    cases ho : isOut n l (mt a b l p) with
    | true =>
      rw [if_pos rfl]
      exact ⟨.inr (.inl ⟨ho, (vx_out ho).symm⟩), hl⟩
    | false =>
      rw [if_neg (by decide)]
      have h2 : ends n a b d (!l) (ep n (!l) (md n l (mt a b l p))) := (show isOut n l (mt a b l p) = true ∨ _ from h).resolve_left (by rw [ho]; decide)
      obtain ⟨h3, h4⟩ := onP_end (s := s.set (md n l (mt a b l p)) true) (ep_lt (md_lt hl ho)) h2
      exact ⟨.inr (.inr ⟨ho, h3⟩), h4⟩
theorem onP_closed : ∀ {d : Nat} {l : Bool} {p v w : Nat}, p < 2 * n → ends n a b d l p → onP n a b d l p v → E2 n a b v w →
    onP n a b d l p w ∨ (isOut n l p = false ∧ w = vx n (!l) (mt a b (!l) (ep n (!l) (md n l p))))
  | 0, _, _, _, _, _, h, _, _ => h.elim
  | d + 1, l, p, v, w, hp, he, h, hE => by
    have hl := mt_lt ha hb (l := l) hp
    have hmm := mt_mt ha hb (l := l) hp
    rcases h with h | ⟨ho, h⟩ | ⟨ho, h⟩
    · subst h
      rcases E2_vx ha hb hp hE with h2 | h2
      · refine .inl ?_
        cases ho : isOut n l (mt a b l p) with
        | true => exact .inr (.inl ⟨ho, h2⟩)
        | false =>
          refine .inr (.inr ⟨ho, ?_⟩)
          rw [h2, vx_md ho, ← vx_ep (l := !l)]
          exact onP_start
      · exact .inr h2
    · subst h
      rcases E2_vx ha hb hl hE with h2 | ⟨h2, _⟩
      · rw [hmm] at h2; exact .inl (.inl h2)
      · rw [ho] at h2; cases h2
    · have h2 : ends n a b d (!l) (ep n (!l) (md n l (mt a b l p))) := (show isOut n l (mt a b l p) = true ∨ _ from he).resolve_left (by rw [ho]; decide)
      rcases onP_closed (ep_lt (md_lt hl ho)) h2 h hE with h3 | ⟨_, h3⟩
      · exact .inl (.inr (.inr ⟨ho, h3⟩))
      · rw [md_ep, Bool.not_not, ep_md ho, hmm] at h3
        exact .inl (.inl h3)
theorem onP_out : ∀ {d : Nat} {l : Bool} {p v : Nat} {s : List Bool}, p < 2 * n → ends n a b d l p → onP n a b d l p v → (v < n ∨ 2 * n ≤ v) → v = vx n l p ∨ v = op n (fol n a b d l p s).1
  | 0, _, _, _, _, _, h, _, _ => h.elim
  | d + 1, l, p, v, s, hp, he, h, hv => by
    have hl := mt_lt ha hb (l := l) hp
    unfold fol
    rcases h with h | ⟨ho, h⟩ | ⟨ho, h⟩
    · exact .inl h
    · rw [if_pos ho]
      exact .inr (by rw [h, vx_out ho])
    · have hm := md_lt hl ho
      have h2 : ends n a b d (!l) (ep n (!l) (md n l (mt a b l p))) := (show isOut n l (mt a b l p) = true ∨ _ from he).resolve_left (by rw [ho]; decide)
      rw [if_neg (by rw [ho]; decide)]
      rcases onP_out (s := s.set (md n l (mt a b l p)) true) (ep_lt hm) h2 h hv with h3 | h3
      · rw [vx_ep] at h3; omega
      · exact .inr h3
/-- The way does not come back to where it began. -/
theorem fol_fresh : ∀ (d : Nat) (V s : List Bool) (l : Bool) (x : Nat), x < n → V.length = 8 → V.getD x false = true → ends n a b d l (ep n l x) →
    (∀ v, v < n → V.getD v false = true → ∀ k, ¬ (v = x ∧ k = l) → isOut n k (nb n a b k v) = true ∨ (V.getD (sg n a b k v) false = true ∧ ¬ (sg n a b k v = x ∧ k = l))) →
    ∀ (x1 : Nat) (l0 : Bool) (p : Nat), V.getD x1 false = true → mt a b l0 p = ep n l0 x1 → p < 2 * n → isOut n l0 p = true → ¬ (x = x1 ∧ l = l0) → (fol n a b d l (ep n l x) s).1 ≠ p
  | 0, _, _, _, _, _, _, _, h, _ => h.elim
  | d + 1, V, s, l, x, hx, hV, hVx, he, hI => by
    intro x1 l0 p hx1 hnb hp hp0 hne
    have hn := ha.n8
    have hql := mt_lt ha hb (l := l) (ep_lt (l := l) hx)
    unfold fol
    cases ho : isOut n l (mt a b l (ep n l x)) with
    | true =>
      rw [if_pos rfl]
      intro e
      replace e : mt a b l (ep n l x) = p := e
      have hll : l = l0 := by
        rw [e] at ho
        rw [← lay_out ho, ← lay_out hp0]
      subst hll
      refine hne ⟨?_, rfl⟩
      have h1 := mt_mt ha hb (l := l) (ep_lt (l := l) hx)
      rw [e, hnb] at h1
      rw [← md_ep (n := n) (l := l) (x := x), ← h1, md_ep]
    | false =>
      rw [if_neg (by decide)]
      have he2 : ends n a b d (!l) (ep n (!l) (md n l (mt a b l (ep n l x)))) := (show isOut n l (mt a b l (ep n l x)) = true ∨ _ from he).resolve_left (by rw [ho]; decide)
      have hy := md_lt hql ho
      have hback : nb n a b l (md n l (mt a b l (ep n l x))) = ep n l x := by
        show mt a b l (ep n l _) = _
        rw [ep_md ho, mt_mt ha hb (ep_lt hx)]
      have hsx : sg n a b l x = md n l (mt a b l (ep n l x)) := rfl
      generalize hyd : md n l (mt a b l (ep n l x)) = y at hy hback hsx he2 ⊢
      have hyx : y ≠ x := by
        intro e
        have := ep_md ho
        rw [hyd, e] at this
        exact mt_ne ha hb (ep_lt hx) this.symm
      have hsy : sg n a b l y = x := by unfold sg; rw [hback, md_ep]
      have hVy : V.getD y false = false := by
        cases hv : V.getD y false with
        | false => rfl
        | true =>
          exfalso
          rcases hI y hy hv l (fun h => hyx h.1) with h | ⟨_, h⟩
          · rw [hback, ep_in hx] at h; cases h
          · exact h ⟨hsy, rfl⟩
      refine fol_fresh d (V.set y true) _ (!l) y hy (by simpa using hV) (by rw [getB_set (by omega), if_pos rfl]) he2 ?_ x1 l0 p (getB_mono hx1) hnb hp hp0 (fun h => by rw [h.1, hx1] at hVy; cases hVy)
      intro v hv hVv k hk
      rw [getB_set (by omega)] at hVv
      by_cases hvy : y = v
      · subst hvy
        have hkl : k = l := by cases k <;> cases l <;> simp at hk ⊢
        subst hkl
        refine .inr ⟨?_, fun h => by cases k <;> simp at h⟩
        rw [hsy, getB_set (by omega), if_neg hyx]; exact hVx
      · rw [if_neg hvy] at hVv
        by_cases hxl : v = x ∧ k = l
        · obtain ⟨rfl, rfl⟩ := hxl
          refine .inr ⟨?_, fun h => by cases k <;> simp at h⟩
          rw [hsx, getB_set (by omega), if_pos rfl]
        · rcases hI v hv hVv k hxl with h | ⟨h1, h2⟩
          · exact .inl h
          · have hne : sg n a b k v ≠ y := fun e => by rw [e, hVy] at h1; cases h1
            refine .inr ⟨?_, fun h => hne h.1⟩
            rw [getB_set (by omega), if_neg (Ne.symm hne)]; exact h1
end

/-- The mate of a point of the product. -/
def om (n : Nat) (a b : List Nat) (p : Nat) : Nat := (fol n a b 17 (lay n p) p []).1
section
variable {n : Nat} {a b : List Nat} (ha : IsV n a) (hb : IsV n b)
include ha hb
theorem om_lt {p : Nat} (hp : p < 2 * n) : om n a b p < 2 * n := (onP_end ha hb (s := []) hp (ends_out ha hb hp out_lay)).2
theorem om_conn {p : Nat} (hp : p < 2 * n) : Cn (E2 n a b) (op n p) (op n (om n a b p)) := by
  have := onP_conn ha hb hp (onP_end ha hb (s := []) hp (ends_out ha hb hp out_lay)).1
  rwa [vx_lay] at this
theorem om_uniq {p q : Nat} (hp : p < 2 * n) (hq : q < 2 * n) (h : Cn (E2 n a b) (op n p) (op n q)) : q = p ∨ q = om n a b p := by
  have he := ends_out ha hb hp out_lay
  have hcl := Cn.closed (S := onP n a b 17 (lay n p) p) (fun x y hx hE => by
    rcases onP_closed ha hb hp he hx hE with h | ⟨h, _⟩
    · exact h
    · rw [out_lay] at h; cases h) h (by rw [← vx_lay]; exact onP_start)
  rcases onP_out ha hb (s := []) hp he hcl (by unfold op; split <;> omega) with h1 | h1
  · rw [vx_lay] at h1; exact .inl (op_inj h1)
  · exact .inr (op_inj h1)
theorem om_ne {p : Nat} (hp : p < 2 * n) : om n a b p ≠ p := by
  have hn := ha.n8
  have he := ends_out ha hb hp out_lay
  have ho := out_lay (n := n) (p := p)
  have hl := mt_lt ha hb (l := lay n p) hp
  have hmm := mt_mt ha hb (l := lay n p) hp
  have hne := mt_ne ha hb (l := lay n p) hp
  unfold om
  generalize lay n p = l at he ho hl hmm hne ⊢
  show (if isOut n l (mt a b l p) = true then (mt a b l p, l, []) else fol n a b 16 (!l) (ep n (!l) (md n l (mt a b l p))) (([] : List Bool).set (md n l (mt a b l p)) true)).1 ≠ p
  cases hq : isOut n l (mt a b l p) with
  | true => rw [if_pos rfl]; exact hne
  | false =>
    rw [if_neg (by decide)]
    have he2 : ends n a b 16 (!l) (ep n (!l) (md n l (mt a b l p))) := (show isOut n l (mt a b l p) = true ∨ _ from he).resolve_left (by rw [hq]; decide)
    have hy := md_lt hl hq
    have hep := ep_md hq
    generalize md n l (mt a b l p) = y at hy hep he2 ⊢
    refine fol_fresh ha hb 16 ((List.replicate 8 false).set y true) _ (!l) y hy (by simp) (by rw [getB_set (by simp; omega), if_pos rfl]) he2 ?_ y l p (by rw [getB_set (by simp; omega), if_pos rfl]) hep.symm hp ho (fun h => by cases l <;> simp at h)
    intro v hv hVv k hk
    have hvy : y = v := by
      rw [getB_set (by simp; omega)] at hVv
      by_cases h : y = v
      · exact h
      · rw [if_neg h, List.getD_eq_getElem?_getD, List.getElem?_replicate] at hVv
        split at hVv <;> cases hVv
    subst hvy
    have hkl : k = l := by cases k <;> cases l <;> simp at hk ⊢
    subst hkl
    refine .inl ?_
    show isOut n k (mt a b k (ep n k y)) = true
    rw [hep, hmm]; exact ho
theorem om_inv {p : Nat} (hp : p < 2 * n) : om n a b (om n a b p) = p := by
  have h1 := om_lt ha hb hp
  have h2 := om_conn ha hb hp
  rcases om_uniq ha hb h1 hp (h2.symm (E2.symm ha hb)) with h | h
  · exact absurd h.symm (om_ne ha hb hp)
  · exact h.symm
theorem oL_get : ∀ i, i ≤ n → ∀ j, (oL n a b i).1.getD j 0 = if j < i then om n a b j else if n ≤ j ∧ j < n + i then om n a b j else 0
  | 0, _, j => by
    rw [if_neg (by omega), if_neg (by omega)]
    simp only [oL, List.getD_eq_getElem?_getD, List.getElem?_replicate]
    split <;> rfl
  | i + 1, hi, j => by
    have ih := oL_get i (by omega) j
    have hl := (oL_inv ha hb i (by omega)).1
    have hn := ha.n8
    have e1 : ∀ s, (fol n a b 17 false i s).1 = om n a b i := fun s => by
      unfold om; rw [show lay n i = false from decide_eq_false (by omega)]; exact fol_s
    have e2 : ∀ s, (fol n a b 17 true (n + i) s).1 = om n a b (n + i) := fun s => by
      unfold om; rw [show lay n (n + i) = true from decide_eq_true (by omega)]; exact fol_s
    simp only [oL]
    rw [e1, e2, getD_set' (by rw [List.length_set]; omega), getD_set' (by omega), ih]
    by_cases h1 : n + i = j
    · subst h1
      rw [if_pos rfl, if_neg (by omega), if_pos (by omega)]
    · rw [if_neg h1]
      by_cases h2 : i = j
      · subst h2
        rw [if_pos rfl, if_pos (by omega)]
      · rw [if_neg h2]
        by_cases h3 : j < i
        · rw [if_pos h3, if_pos (show j < i + 1 by omega)]
        · by_cases h4 : n ≤ j ∧ j < n + i
          · rw [if_neg h3, if_pos h4, if_neg (show ¬ j < i + 1 by omega), if_pos (show n ≤ j ∧ j < n + (i + 1) by omega)]
          · rw [if_neg h3, if_neg h4, if_neg (show ¬ j < i + 1 by omega), if_neg (show ¬ (n ≤ j ∧ j < n + (i + 1)) by omega)]
/-- The product. -/
theorem oL_om {j : Nat} (hj : j < 2 * n) : (oL n a b n).1.getD j 0 = om n a b j := by
  rw [oL_get ha hb n (Nat.le_refl n)]
  by_cases h : j < n
  · rw [if_pos h]
  · rw [if_neg h, if_pos (by omega)]
theorem oL_V : IsV n (oL n a b n).1 := by
  refine ⟨ha.n1, ha.n8, (oL_inv ha hb n (Nat.le_refl n)).1, fun j hj => ?_, fun j hj => ?_, fun j hj => ?_, fun j hj => ?_⟩
  · rw [oL_om ha hb hj]; exact om_lt ha hb hj
  · rw [oL_om ha hb hj]; exact om_ne ha hb hj
  · rw [oL_om ha hb hj, oL_om ha hb (om_lt ha hb hj)]; exact om_inv ha hb hj
  · rw [oL_get ha hb n (Nat.le_refl n), if_neg (by omega), if_neg (by omega)]
/-- What is joined in the product is what is joined by lines. -/
theorem oL_cn {p q : Nat} (hp : p < 2 * n) (hq : q < 2 * n) : Cn (E2 n a b) (op n p) (op n q) ↔ q = p ∨ q = (oL n a b n).1.getD p 0 := by
  rw [oL_om ha hb hp]
  constructor
  · exact om_uniq ha hb hp hq
  · rintro (rfl | rfl)
    · exact .refl _
    · exact om_conn ha hb hp
end
end Go.Proofs.Ytgpgcdofhkpeaaa.VE
