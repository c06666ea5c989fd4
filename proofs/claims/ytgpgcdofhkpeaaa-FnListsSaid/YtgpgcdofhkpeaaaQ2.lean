/- Contracts of functions of the given program, for all arguments that the contract names; see each theorem. -/
import Derived.Test.YtgpgcdofhkpeaaaU9
import Derived.Test.YtgpgcdofhkpeaaaU15p
set_option linter.all false
namespace Go.Proofs.Ytgpgcdofhkpeaaa.VE
open Go

/-! Two diagrams, one above the other: the walk along their lines (plain). -/
def mt (a b : List Nat) : Bool → Nat → Nat
  | true, p => b.getD p 0
  | false, p => a.getD p 0
def isOut (n : Nat) : Bool → Nat → Bool
  | true, q => decide (n ≤ q)
  | false, q => decide (q < n)
def md (n : Nat) : Bool → Nat → Nat
  | true, q => q
  | false, q => q - n
def ep (n : Nat) : Bool → Nat → Nat
  | true, x => x
  | false, x => n + x
section
variable {n : Nat} {a b : List Nat} (ha : IsV n a) (hb : IsV n b)
theorem md_lt {l : Bool} {q : Nat} (hq : q < 2 * n) (ho : isOut n l q = false) : md n l q < n := by
  cases l <;> simp [isOut, md] at * <;> omega
theorem ep_md {l : Bool} {q : Nat} (ho : isOut n l q = false) : ep n l (md n l q) = q := by
  cases l <;> simp [isOut, md, ep] at * <;> omega
theorem md_ep {l : Bool} {x : Nat} : md n l (ep n l x) = x := by
  cases l <;> simp [md, ep]
theorem ep_in {l : Bool} {x : Nat} (hx : x < n) : isOut n l (ep n l x) = false := by
  cases l <;> exact decide_eq_false (by simp only [ep]; omega)
theorem ep_lt {l : Bool} {x : Nat} (hx : x < n) : ep n l x < 2 * n := by
  cases l <;> simp [ep] <;> omega
include ha hb
theorem mt_lt {l : Bool} {p : Nat} (hp : p < 2 * n) : mt a b l p < 2 * n := by
  cases l
  · exact ha.lt p hp
  · exact hb.lt p hp
theorem mt_ne {l : Bool} {p : Nat} (hp : p < 2 * n) : mt a b l p ≠ p := by
  cases l
  · exact ha.ne p hp
  · exact hb.ne p hp
theorem mt_mt {l : Bool} {p : Nat} (hp : p < 2 * n) : mt a b l (mt a b l p) = p := by
  cases l
  · exact ha.inv p hp
  · exact hb.inv p hp
end
def nb (n : Nat) (a b : List Nat) (l : Bool) (x : Nat) : Nat := mt a b l (ep n l x)
/-- The middle point at the other end. -/
def sg (n : Nat) (a b : List Nat) (l : Bool) (x : Nat) : Nat := md n l (nb n a b l x)

/-- Along, to an outer point. -/
def fol (n : Nat) (a b : List Nat) : Nat → Bool → Nat → List Bool → Nat × Bool × List Bool
  | 0, l, _, s => (0, l, s)
  | d + 1, l, p, s => if isOut n l (mt a b l p) = true then (mt a b l p, l, s) else fol n a b d (!l) (ep n (!l) (md n l (mt a b l p))) (s.set (md n l (mt a b l p)) true)
def ends (n : Nat) (a b : List Nat) : Nat → Bool → Nat → Prop
  | 0, _, _ => False
  | d + 1, l, p => isOut n l (mt a b l p) = true ∨ ends n a b d (!l) (ep n (!l) (md n l (mt a b l p)))

section
variable {n : Nat} {a b : List Nat} (ha : IsV n a) (hb : IsV n b)
include ha hb
theorem ends_in : ∀ (d : Nat) (V : List Bool) (l : Bool) (x : Nat), x < n → V.length = 8 → V.getD x false = true → cF V < d →
    (∀ v, v < n → V.getD v false = true → ∀ k, ¬ (v = x ∧ k = l) → isOut n k (nb n a b k v) = true ∨ (V.getD (sg n a b k v) false = true ∧ ¬ (sg n a b k v = x ∧ k = l))) → ends n a b d l (ep n l x)
  | 0, V, l, x, _, _, _, h, _ => by omega
  | d + 1, V, l, x, hx, hV, hVx, hc, hI => by
    have hn := ha.n8
    unfold ends
    cases ho : isOut n l (mt a b l (ep n l x)) with
    | true => exact .inl rfl
    | false =>
      refine .inr ?_
      have hql := mt_lt ha hb (l := l) (ep_lt (l := l) hx)
      have hy := md_lt hql ho
      have hback : nb n a b l (md n l (mt a b l (ep n l x))) = ep n l x := by
        show mt a b l (ep n l _) = _
        rw [ep_md ho, mt_mt ha hb (ep_lt hx)]
      generalize hyd : md n l (mt a b l (ep n l x)) = y at hy hback
      have hyx : y ≠ x := by
        intro e
        have := ep_md ho
        rw [hyd, e] at this
        exact mt_ne ha hb (ep_lt hx) this.symm
      have hsy : sg n a b l y = x := by unfold sg; rw [hback, md_ep]
      have hVy : V.getD y false = false := by
        cases hv : V.getD y false with
        | false => rfl
        | true =>
          exfalso
          rcases hI y hy hv l (fun h => hyx h.1) with h | ⟨_, h⟩
          · rw [hback, ep_in hx] at h; cases h
          · exact h ⟨hsy, rfl⟩
      have hcs := cF_set (s := V) (i := y) (by omega) hVy
      have hsx : sg n a b l x = y := hyd
      refine ends_in d (V.set y true) (!l) y hy (by simpa using hV) (by rw [getB_set (by omega), if_pos rfl]) (by omega) ?_
      intro v hv hVv k hk
      rw [getB_set (by omega)] at hVv
      by_cases hvy : y = v
      · subst hvy
        have hkl : k = l := by cases k <;> cases l <;> simp at hk ⊢
        subst hkl
        refine .inr ⟨?_, fun h => by cases k <;> simp at h⟩
        rw [hsy, getB_set (by omega), if_neg hyx]; exact hVx
      · rw [if_neg hvy] at hVv
        by_cases hxl : v = x ∧ k = l
        · obtain ⟨rfl, rfl⟩ := hxl
          refine .inr ⟨?_, fun h => by cases k <;> simp at h⟩
          rw [hsx, getB_set (by omega), if_pos rfl]
        · rcases hI v hv hVv k hxl with h | ⟨h1, h2⟩
          · exact .inl h
          · have hne : sg n a b k v ≠ y := fun e => by rw [e, hVy] at h1; cases h1
            refine .inr ⟨?_, fun h => hne h.1⟩
            rw [getB_set (by omega), if_neg (Ne.symm hne)]; exact h1
theorem ends_out {l : Bool} {p : Nat} (hp : p < 2 * n) (ho : isOut n l p = true) : ends n a b 17 l p := by
  have hn := ha.n8
  show _ ∨ _
  cases hq : isOut n l (mt a b l p) with
  | true => exact .inl rfl
  | false =>
    refine .inr ?_
    have hy := md_lt (mt_lt ha hb (l := l) hp) hq
    have hback : nb n a b l (md n l (mt a b l p)) = p := by
      show mt a b l (ep n l _) = _
      rw [ep_md hq, mt_mt ha hb hp]
    generalize md n l (mt a b l p) = y at hy hback
    have hc := cF_all (s := (List.replicate 8 false).set y true)
    simp only [List.length_set, List.length_replicate] at hc
    refine ends_in ha hb 16 ((List.replicate 8 false).set y true) (!l) y hy (by simp) (by rw [getB_set (by simp; omega), if_pos rfl]) (by omega) ?_
    intro v hv hVv k hk
    have hvy : y = v := by
      rw [getB_set (by simp; omega)] at hVv
      by_cases h : y = v
      · exact h
      · rw [if_neg h, List.getD_eq_getElem?_getD, List.getElem?_replicate] at hVv
        split at hVv <;> cases hVv
    subst hvy
    have hkl : k = l := by cases k <;> cases l <;> simp at hk ⊢
    subst hkl
    exact .inl (by rw [hback]; exact ho)
end

/-- What is met is closed. -/
def Clo (n : Nat) (a b : List Nat) (s : List Bool) : Prop := ∀ v, v < n → s.getD v false = true → ∀ k, isOut n k (nb n a b k v) = true ∨ s.getD (sg n a b k v) false = true
def CloX (n : Nat) (a b : List Nat) (s : List Bool) (x : Nat) (l : Bool) : Prop := ∀ v, v < n → s.getD v false = true → ∀ k, ¬ (v = x ∧ k = l) → isOut n k (nb n a b k v) = true ∨ s.getD (sg n a b k v) false = true
theorem getB_mono {s : List Bool} {y v : Nat} (h : s.getD v false = true) : (s.set y true).getD v false = true := by
  by_cases hy : y < s.length
  · rw [getB_set hy]; split
    · rfl
    · exact h
  · rw [List.set_eq_of_length_le (by omega)]; exact h
section
variable {n : Nat} {a b : List Nat} (ha : IsV n a) (hb : IsV n b)
include ha hb
theorem fol_len : ∀ {d l p s}, (fol n a b d l p s).2.2.length = s.length
  | 0, l, p, s => rfl
  | d + 1, l, p, s => by
    unfold fol; split
    · rfl
    · rw [fol_len]; simp
theorem fol_in : ∀ (d : Nat) (l : Bool) (x : Nat) (s : List Bool), x < n → s.length = 8 → s.getD x false = true → ends n a b d l (ep n l x) → CloX n a b s x l →
    Clo n a b (fol n a b d l (ep n l x) s).2.2 ∧ (∀ v, s.getD v false = true → (fol n a b d l (ep n l x) s).2.2.getD v false = true) ∧ (fol n a b d l (ep n l x) s).1 < 2 * n
  | 0, l, x, s, _, _, _, h, _ => h.elim
  | d + 1, l, x, s, hx, hs, hxx, he, hc => by
    have hn := ha.n8
    unfold ends at he
    unfold fol
    have hql := mt_lt ha hb (l := l) (ep_lt (l := l) hx)
    cases ho : isOut n l (mt a b l (ep n l x)) with
    | true =>
      rw [if_pos rfl]
      refine ⟨fun v hv hsv k => ?_, fun v h => h, hql⟩
      by_cases hvx : v = x ∧ k = l
      · obtain ⟨rfl, rfl⟩ := hvx; exact .inl ho
      · exact hc v hv hsv k hvx
    | false =>
      rw [if_neg (by decide)]
      rw [ho] at he
      have he := he.resolve_left (by decide)
      have hy := md_lt hql ho
      have hback : nb n a b l (md n l (mt a b l (ep n l x))) = ep n l x := by
        show mt a b l (ep n l _) = _
        rw [ep_md ho, mt_mt ha hb (ep_lt hx)]
      have hsx : sg n a b l x = md n l (mt a b l (ep n l x)) := rfl
      generalize md n l (mt a b l (ep n l x)) = y at hy hback hsx he ⊢
      have hsy : sg n a b l y = x := by unfold sg; rw [hback, md_ep]
      obtain ⟨h1, h2, h3⟩ := fol_in d (!l) y (s.set y true) hy (by simpa using hs) (by rw [getB_set (by omega), if_pos rfl]) he (by
        intro v hv hsv k hk
        by_cases hvy : y = v
        · subst hvy
          have hkl : k = l := by cases k <;> cases l <;> simp at hk ⊢
          subst hkl
          exact .inr (by rw [hsy]; exact getB_mono hxx)
        · rw [getB_set (by omega), if_neg hvy] at hsv
          by_cases hvx : v = x ∧ k = l
          · obtain ⟨rfl, rfl⟩ := hvx
            exact .inr (by rw [hsx, getB_set (by omega), if_pos rfl])
          · exact (hc v hv hsv k hvx).imp id getB_mono)
      exact ⟨h1, fun v hv => h2 v (getB_mono hv), h3⟩
/-- From an outer point. -/
theorem fol_out {l : Bool} {p : Nat} {s : List Bool} (hp : p < 2 * n) (ho : isOut n l p = true) (hs : s.length = 8) (hc : Clo n a b s) :
    Clo n a b (fol n a b 17 l p s).2.2 ∧ (∀ v, s.getD v false = true → (fol n a b 17 l p s).2.2.getD v false = true) ∧ (fol n a b 17 l p s).1 < 2 * n ∧
      (isOut n l (mt a b l p) = true ∨ (fol n a b 17 l p s).2.2.getD (md n l (mt a b l p)) false = true) := by
  have hn := ha.n8
  have he := ends_out ha hb hp ho
  replace he : isOut n l (mt a b l p) = true ∨ ends n a b 16 (!l) (ep n (!l) (md n l (mt a b l p))) := he
  show Clo n a b (if isOut n l (mt a b l p) = true then (mt a b l p, l, s) else fol n a b 16 (!l) (ep n (!l) (md n l (mt a b l p))) (s.set (md n l (mt a b l p)) true)).2.2 ∧ (∀ v, s.getD v false = true → (if isOut n l (mt a b l p) = true then (mt a b l p, l, s) else fol n a b 16 (!l) (ep n (!l) (md n l (mt a b l p))) (s.set (md n l (mt a b l p)) true)).2.2.getD v false = true) ∧ (if isOut n l (mt a b l p) = true then (mt a b l p, l, s) else fol n a b 16 (!l) (ep n (!l) (md n l (mt a b l p))) (s.set (md n l (mt a b l p)) true)).1 < 2 * n ∧ (isOut n l (mt a b l p) = true ∨ (if isOut n l (mt a b l p) = true then (mt a b l p, l, s) else fol n a b 16 (!l) (ep n (!l) (md n l (mt a b l p))) (s.set (md n l (mt a b l p)) true)).2.2.getD (md n l (mt a b l p)) false = true)
  cases hq : isOut n l (mt a b l p) with
  | true =>
    rw [if_pos rfl]
    exact ⟨hc, fun v h => h, mt_lt ha hb hp, .inl rfl⟩
  | false =>
    rw [if_neg (by decide)]
    rw [hq] at he
    have he := he.resolve_left (by decide)
    have hy := md_lt (mt_lt ha hb (l := l) hp) hq
    have hback : nb n a b l (md n l (mt a b l p)) = p := by
      show mt a b l (ep n l _) = _
      rw [ep_md hq, mt_mt ha hb hp]
    generalize md n l (mt a b l p) = y at hy hback he ⊢
    obtain ⟨h1, h2, h3⟩ := fol_in ha hb 16 (!l) y (s.set y true) hy (by simpa using hs) (by rw [getB_set (by omega), if_pos rfl]) he (by
      intro v hv hsv k hk
      by_cases hvy : y = v
      · subst hvy
        have hkl : k = l := by cases k <;> cases l <;> simp at hk ⊢
        subst hkl
        exact .inl (by rw [hback]; exact ho)
      · rw [getB_set (by omega), if_neg hvy] at hsv
        exact (hc v hv hsv k).imp id getB_mono)
    exact ⟨h1, fun v hv => h2 v (getB_mono hv), h3, .inr (h2 y (by rw [getB_set (by omega), if_pos rfl]))⟩
end

/-- The outer points, one after the other: the product's mates, and what is met. -/
def oL (n : Nat) (a b : List Nat) : Nat → List Nat × List Bool
  | 0 => (List.replicate 16 0, List.replicate 8 false)
  | i + 1 => (((oL n a b i).1.set i (fol n a b 17 false i (oL n a b i).2).1).set (n + i) (fol n a b 17 true (n + i) (fol n a b 17 false i (oL n a b i).2).2.2).1,
      (fol n a b 17 true (n + i) (fol n a b 17 false i (oL n a b i).2).2.2).2.2)
/-- What is not met lies on loops. -/
def G (n : Nat) (a b : List Nat) (s : List Bool) : Prop := ∀ x, x < n → s.getD x false = false → ∀ k, isOut n k (nb n a b k x) = false ∧ s.getD (sg n a b k x) false = false
section
variable {n : Nat} {a b : List Nat} (ha : IsV n a) (hb : IsV n b)
include ha hb
theorem oL_inv : ∀ i, i ≤ n → (oL n a b i).1.length = 16 ∧ (oL n a b i).2.length = 8 ∧ Clo n a b (oL n a b i).2 ∧
    (∀ p, p < i → ∀ l, (isOut n l (mt a b l (if l then n + p else p)) = true ∨ (oL n a b i).2.getD (md n l (mt a b l (if l then n + p else p))) false = true))
  | 0, _ => by
    refine ⟨by simp [oL], by simp [oL], fun v _ h => ?_, fun p hp => by omega⟩
    rw [oL, List.getD_eq_getElem?_getD, List.getElem?_replicate] at h
    split at h <;> cases h
  | i + 1, hi => by
    obtain ⟨h1, h2, h3, h4⟩ := oL_inv i (by omega)
    have o1 : isOut n false i = true := by simp [isOut]; omega
    have o2 : isOut n true (n + i) = true := by simp [isOut]
    obtain ⟨c1, m1, _, r1⟩ := fol_out ha hb (l := false) (p := i) (by omega) o1 h2 h3
    have l1 : (fol n a b 17 false i (oL n a b i).2).2.2.length = 8 := by rw [fol_len ha hb]; exact h2
    obtain ⟨c2, m2, _, r2⟩ := fol_out ha hb (l := true) (p := n + i) (by omega) o2 l1 c1
    refine ⟨by simp [oL, h1], by rw [oL, fol_len ha hb]; exact l1, c2, fun p hp l => ?_⟩
    by_cases hpi : p = i
    · subst hpi
      cases l
      · exact r1.imp id (m2 _)
      · exact r2
    · exact (h4 p (by omega) l).imp id fun h => m2 _ (m1 _ h)
theorem oL_G : G n a b (oL n a b n).2 := by
  obtain ⟨_, _, h3, h4⟩ := oL_inv ha hb n (Nat.le_refl n)
  intro x hx hsx k
  have hl := mt_lt ha hb (l := k) (ep_lt (l := k) hx)
  have ho : isOut n k (nb n a b k x) = false := by
    cases ho : isOut n k (nb n a b k x) with
    | false => rfl
    | true =>
      exfalso
      have hback : mt a b k (nb n a b k x) = ep n k x := mt_mt ha hb (ep_lt hx)
      obtain ⟨p, hp, he⟩ : ∃ p, p < n ∧ nb n a b k x = if k then n + p else p := by
        cases k
        · simp only [isOut, decide_eq_true_eq] at ho
          exact ⟨nb n a b false x, ho, rfl⟩
        · simp only [isOut, decide_eq_true_eq] at ho
          have : nb n a b true x < 2 * n := hl
          exact ⟨nb n a b true x - n, by omega, by simp; omega⟩
      have := h4 p hp k
      rw [← he, hback, ep_in hx, md_ep, hsx] at this
      simp at this
  refine ⟨ho, ?_⟩
  cases hs : (oL n a b n).2.getD (sg n a b k x) false with
  | false => rfl
  | true =>
    exfalso
    have hy := md_lt hl ho
    have := h3 (sg n a b k x) hy hs k
    have e : nb n a b k (sg n a b k x) = ep n k x := by
      show mt a b k (ep n k (md n k _)) = _
      rw [ep_md ho]; exact mt_mt ha hb (ep_lt hx)
    have e2 : sg n a b k (sg n a b k x) = x := by
      show md n k (nb n a b k (sg n a b k x)) = x
      rw [e, md_ep]
    rw [e, e2, ep_in hx, hsx] at this
    simp at this
end

/-! the loops -/
def spI (n : Nat) (a b : List Nat) : Nat → Nat → List Bool → List Bool
  | 0, _, s => s
  | d + 1, k, s => if s.getD k false = true then s else spI n a b d (sg n a b true (sg n a b false k)) ((s.set k true).set (sg n a b false k) true)
def flI (n : Nat) (a b : List Nat) (m : Nat) : Nat → Bool → Nat → List Bool → List Bool
  | 0, _, _, s => s
  | d + 1, l, p, s => if md n l (mt a b l p) = m then s.set (md n l (mt a b l p)) true else flI n a b m d (!l) (ep n (!l) (md n l (mt a b l p))) (s.set (md n l (mt a b l p)) true)
def endM (n : Nat) (a b : List Nat) (m : Nat) : Nat → Bool → Nat → Prop
  | 0, _, _ => False
  | d + 1, l, p => isOut n l (mt a b l p) = false ∧ (md n l (mt a b l p) = m ∨ endM n a b m d (!l) (ep n (!l) (md n l (mt a b l p))))
theorem spI_len {n : Nat} {a b : List Nat} : ∀ {d k s}, (spI n a b d k s).length = s.length
  | 0, _, _ => rfl
  | d + 1, k, s => by
    unfold spI; split
    · rfl
    · rw [spI_len]; simp
theorem flI_len {n : Nat} {a b : List Nat} {m : Nat} : ∀ {d l p s}, (flI n a b m d l p s).length = s.length
  | 0, _, _, _ => rfl
  | d + 1, l, p, s => by
    unfold flI; split
    · simp
    · rw [flI_len]; simp

section
variable {n : Nat} {a b : List Nat} (ha : IsV n a) (hb : IsV n b) {s : List Bool} (hs : s.length = 8) (hG : G n a b s) {m : Nat} (hm : m < n) (hsm : s.getD m false = false)
include ha hb hG
theorem sg_facts {v : Nat} (hv : v < n) (hsv : s.getD v false = false) (k : Bool) : sg n a b k v < n ∧ s.getD (sg n a b k v) false = false ∧ sg n a b k (sg n a b k v) = v ∧ sg n a b k v ≠ v := by
  obtain ⟨ho, h2⟩ := hG v hv hsv k
  have hl := mt_lt ha hb (l := k) (ep_lt (l := k) hv)
  have e : nb n a b k (sg n a b k v) = ep n k v := by
    show mt a b k (ep n k (md n k _)) = _
    rw [ep_md ho]; exact mt_mt ha hb (ep_lt hv)
  refine ⟨md_lt hl ho, h2, ?_, fun h => ?_⟩
  · show md n k (nb n a b k (sg n a b k v)) = v
    rw [e, md_ep]
  · rw [h] at e
    exact mt_ne ha hb (ep_lt hv) e
end
/-- Met anew. -/
def nw (s t : List Bool) (v : Nat) : Prop := t.getD v false = true ∧ s.getD v false = false
theorem nw_no {s t : List Bool} {v : Nat} (h : nw s t v) (h2 : t.getD v false = false) : False := by have h1 := h.1; rw [h2] at h1; cases h1
theorem nw_self {s : List Bool} {v : Nat} (h : nw s s v) : False := nw_no h h.2
structure Res (n : Nat) (a b : List Nat) (s : List Bool) (m : Nat) (t : List Bool) : Prop where
  len : t.length = 8
  mono : ∀ v, s.getD v false = true → t.getD v false = true
  lt : ∀ v, nw s t v → v < n
  st : nw s t m
  cl : ∀ v, nw s t v → ∀ k, nw s t (sg n a b k v)
  mn : ∀ T : Nat → Prop, T m → (∀ v, v < n → s.getD v false = false → T v → ∀ k, T (sg n a b k v)) → ∀ v, nw s t v → T v
theorem Res.eq {n : Nat} {a b : List Nat} {s t u : List Bool} {m : Nat} (h1 : Res n a b s m t) (h2 : Res n a b s m u) : t = u := by
  have key : ∀ {t u : List Bool}, Res n a b s m t → Res n a b s m u → ∀ v, t.getD v false = true → u.getD v false = true := by
    intro t u h1 h2 v hv
    cases hs : s.getD v false with
    | true => exact h2.mono v hs
    | false =>
      refine (h1.mn (nw s u) h2.st (fun v _ _ h k => h2.cl v h k) v ⟨hv, hs⟩).1
  apply List.ext_getElem (by rw [h1.len, h2.len])
  intro i hi1 hi2
  have e1 : t.getD i false = t[i] := by simp [List.getD_eq_getElem?_getD, hi1]
  have e2 : u.getD i false = u[i] := by simp [List.getD_eq_getElem?_getD, hi2]
  rw [← e1, ← e2]
  cases h3 : t.getD i false with
  | true => exact (key h1 h2 i h3).symm
  | false =>
    cases h4 : u.getD i false with
    | false => rfl
    | true => rw [key h2 h1 i h4] at h3; cases h3
section
variable {n : Nat} {a b : List Nat} (ha : IsV n a) (hb : IsV n b) {s : List Bool} (hs : s.length = 8) (hG : G n a b s) {m : Nat} (hm : m < n) (hsm : s.getD m false = false)
include ha hb hs hG hm hsm
theorem Res.G {t : List Bool} (h : Res n a b s m t) : G n a b t := by
  intro x hx htx k
  have hsx : s.getD x false = false := by
    cases hv : s.getD x false with
    | false => rfl
    | true => rw [h.mono x hv] at htx; cases htx
  obtain ⟨g1, g2, g3, g4⟩ := sg_facts ha hb hG hx hsx k
  refine ⟨(hG x hx hsx k).1, ?_⟩
  cases hv : t.getD (sg n a b k x) false with
  | false => rfl
  | true =>
    exfalso
    have := h.cl _ ⟨hv, g2⟩ k
    rw [g3] at this
    rw [this.1] at htx; cases htx

theorem spI_res : ∀ (d cur : Nat) (t : List Bool), t.length = 8 → cF t ≤ d → (∀ v, s.getD v false = true → t.getD v false = true) → cur < n → s.getD cur false = false →
    ((t = s ∧ cur = m) ∨ (nw s t m ∧ (∃ z, nw s t z ∧ z ≠ m ∧ sg n a b true z = cur ∧ (∀ v, nw s t v → v ≠ m → v ≠ z → nw s t (sg n a b true v) ∧ sg n a b true v ≠ m ∧ sg n a b true v ≠ z)) ∧ (∀ v, nw s t v → v < n ∧ nw s t (sg n a b false v)))) →
    (∀ T : Nat → Prop, T m → (∀ v, v < n → s.getD v false = false → T v → ∀ k, T (sg n a b k v)) → (∀ v, nw s t v → T v) ∧ T cur) →
    Res n a b s m (spI n a b d cur t) := by
  have fin : ∀ (cur : Nat) (t : List Bool), t.length = 8 → (∀ v, s.getD v false = true → t.getD v false = true) → cur < n → s.getD cur false = false →
    ((t = s ∧ cur = m) ∨ (nw s t m ∧ (∃ z, nw s t z ∧ z ≠ m ∧ sg n a b true z = cur ∧ (∀ v, nw s t v → v ≠ m → v ≠ z → nw s t (sg n a b true v) ∧ sg n a b true v ≠ m ∧ sg n a b true v ≠ z)) ∧ (∀ v, nw s t v → v < n ∧ nw s t (sg n a b false v)))) →
    (∀ T : Nat → Prop, T m → (∀ v, v < n → s.getD v false = false → T v → ∀ k, T (sg n a b k v)) → (∀ v, nw s t v → T v) ∧ T cur) → t.getD cur false = true → Res n a b s m t := by
    intro cur t ht hmono hcn hsc hI hT htc
    rcases hI with ⟨rfl, _⟩ | ⟨h1, ⟨z, hz1, hz2, hz3, hz4⟩, h3⟩
    · rw [hsc] at htc; cases htc
    · have hzn := (h3 z hz1).1
      obtain ⟨_, _, zz, zne⟩ := sg_facts ha hb hG hzn hz1.2 true
      have hcm : cur = m := by
        refine Decidable.byContradiction fun hne => ?_
        have hcz : cur ≠ z := by rw [← hz3]; exact zne
        obtain ⟨_, _, h4⟩ := hz4 cur ⟨htc, hsc⟩ hne hcz
        rw [← hz3, zz] at h4
        exact h4 rfl
      subst hcm
      refine ⟨ht, hmono, fun v hv => (h3 v hv).1, h1, fun v hv k => ?_, fun T h1 h2 v hv => (hT T h1 h2).1 v hv⟩
      cases k
      · exact (h3 v hv).2
      · by_cases hvm : v = cur
        · subst hvm; rw [← hz3, zz]; exact hz1
        · by_cases hvz : v = z
          · subst hvz; rw [hz3]; exact h1
          · exact (hz4 v hv hvm hvz).1
  intro d
  induction d with
  | zero =>
    intro cur t ht hc hmono hcn hsc hI hT
    refine fin cur t ht hmono hcn hsc hI hT ?_
    cases h : t.getD cur false with
    | true => rfl
    | false => have hn := ha.n8; have := cF_pos (s := t) (by omega) h; omega
  | succ d ih =>
    intro cur t ht hc hmono hcn hsc hI hT
    have hn := ha.n8
    unfold spI
    cases htc : t.getD cur false with
    | true => rw [if_pos rfl]; exact fin cur t ht hmono hcn hsc hI hT htc
    | false =>
      rw [if_neg (by decide)]
      obtain ⟨g1, g2, g3, g4⟩ := sg_facts ha hb hG hcn hsc false
      obtain ⟨k1, k2, k3, k4⟩ := sg_facts ha hb hG g1 g2 true
      have hcs := cF_set (s := t) (by omega) htc
      have hle := cF_le (s := t.set cur true) (i := sg n a b false cur)
      have hg : ∀ v, ((t.set cur true).set (sg n a b false cur) true).getD v false = if sg n a b false cur = v then true else if cur = v then true else t.getD v false := by
        intro v
        rw [getB_set (by rw [List.length_set]; omega), getB_set (by omega)]
      generalize hz : sg n a b false cur = z' at *
      have hnw : ∀ v, nw s ((t.set cur true).set z' true) v → v = z' ∨ v = cur ∨ nw s t v := by
        intro v hv
        have h1 := hv.1
        rw [hg] at h1
        by_cases e1 : z' = v
        · exact .inl e1.symm
        · rw [if_neg e1] at h1
          by_cases e2 : cur = v
          · exact .inr (.inl e2.symm)
          · rw [if_neg e2] at h1
            exact .inr (.inr ⟨h1, hv.2⟩)
      have up : ∀ v, nw s t v → nw s ((t.set cur true).set z' true) v := fun v hv => ⟨getB_mono (getB_mono hv.1), hv.2⟩
      have nz : nw s ((t.set cur true).set z' true) z' := ⟨by rw [hg, if_pos rfl], g2⟩
      have nc : nw s ((t.set cur true).set z' true) cur := ⟨by rw [hg]; split; rfl; rw [if_pos rfl], hsc⟩
      have zt : ¬ nw s t z' := by
        rcases hI with ⟨rfl, _⟩ | ⟨_, _, h3⟩
        · exact fun h => by have h1 := h.1; rw [h.2] at h1; cases h1
        · intro h
          have := (h3 z' h).2
          rw [g3] at this
          rw [this.1] at htc; cases htc
      refine ih (sg n a b true z') _ (by simpa using ht) (by omega) (fun v hv => getB_mono (getB_mono (hmono v hv))) k1 k2 (.inr ⟨?_, ⟨z', nz, ?_, rfl, ?_⟩, ?_⟩) ?_
      · rcases hI with ⟨_, rfl⟩ | ⟨h1, _⟩
        · exact nc
        · exact up _ h1
      · rcases hI with ⟨_, rfl⟩ | ⟨h1, _⟩
        · exact g4
        · rintro rfl; exact zt h1
      · intro v hv hvm hvz
        rcases hI with ⟨e1, rfl⟩ | ⟨h1, ⟨z, hz1, hz2, hz3, hz4⟩, h3⟩
        · subst e1
          rcases hnw v hv with h | h | h
          · exact absurd h hvz
          · exact absurd h hvm
          · exact (nw_self h).elim
        · have hzn := (h3 z hz1).1
          obtain ⟨_, _, zz, zne⟩ := sg_facts ha hb hG hzn hz1.2 true
          have hcm : cur ≠ m := by rintro rfl; rw [h1.1] at htc; cases htc
          rcases hnw v hv with h | h | h
          · exact absurd h hvz
          · have e : sg n a b true v = z := by rw [h, ← hz3, zz]
            rw [e]
            exact ⟨up _ hz1, hz2, fun e => zt (e ▸ hz1)⟩
          · by_cases hvz2 : v = z
            · subst hvz2
              rw [hz3]
              exact ⟨nc, hcm, fun e => g4 e.symm⟩
            · obtain ⟨p1, p2, p3⟩ := hz4 v h hvm hvz2
              exact ⟨up _ p1, p2, fun e => zt (e ▸ p1)⟩
      · intro v hv
        rcases hnw v hv with h | h | h
        · subst h; exact ⟨g1, by rw [g3]; exact nc⟩
        · subst h; exact ⟨hcn, by rw [hz]; exact nz⟩
        · rcases hI with ⟨e1, rfl⟩ | ⟨h1, _, h3⟩
          · subst e1; exact (nw_self h).elim
          · exact ⟨(h3 v h).1, up _ (h3 v h).2⟩
      · intro T h1 h2
        obtain ⟨t1, t2⟩ := hT T h1 h2
        have t3 := h2 cur hcn hsc t2 false
        rw [hz] at t3
        refine ⟨fun v hv => ?_, h2 z' g1 g2 t3 true⟩
        rcases hnw v hv with h | h | h
        · rw [h]; exact t3
        · rw [h]; exact t2
        · exact t1 v h

/-- The program's way: from the middle point downwards, until it is met again. -/
theorem flI_res : ∀ (d cur : Nat) (t : List Bool), t.length = 8 → cF t ≤ d → (∀ v, s.getD v false = true → t.getD v false = true) → cur < n → s.getD cur false = false → t.getD m false = false →
    (∀ v, nw s t v → v < n) → (cur = m ∨ nw s t cur) → (cur = m → t = s) →
    (∀ v, (nw s t v ∨ v = m) → v ≠ cur → (nw s t (sg n a b true v) ∨ sg n a b true v = m) ∧ sg n a b true v ≠ cur) →
    (∀ v, nw s t v → nw s t (sg n a b false v)) →
    (∀ T : Nat → Prop, T m → (∀ v, v < n → s.getD v false = false → T v → ∀ k, T (sg n a b k v)) → (∀ v, nw s t v → T v) ∧ T cur) →
    endM n a b m d true cur ∧ Res n a b s m (flI n a b m d true cur t) := by
  intro d
  induction d using Nat.strongRecOn with
  | _ d ih =>
  intro cur t ht hc hmono hcn hsc htm hlt hcur hcm hB hA hT
  have hn := ha.n8
  obtain ⟨g1, g2, g3, g4⟩ := sg_facts ha hb hG hcn hsc true
  have o1 := (hG cur hcn hsc true).1
  -- the next one is new
  have hq : t.getD (sg n a b true cur) false = false ∧ sg n a b true cur ≠ m := by
    have h0 : ¬ (nw s t (sg n a b true cur) ∨ sg n a b true cur = m) := by
      intro h
      have := (hB _ h g4).2
      exact this g3
    refine ⟨?_, fun e => h0 (.inr e)⟩
    cases h : t.getD (sg n a b true cur) false with
    | false => rfl
    | true => exact absurd (.inl ⟨h, g2⟩) h0
  obtain ⟨k1, k2, k3, k4⟩ := sg_facts ha hb hG g1 g2 false
  have o2 := (hG _ g1 g2 false).1
  have c1 := cF_set (s := t) (by omega) hq.1
  have hpos : 1 ≤ cF (t.set (sg n a b true cur) true) := cF_pos (i := m) (by rw [List.length_set]; omega) (by rw [getB_set (by omega), if_neg hq.2]; exact htm)
  obtain ⟨d, rfl⟩ : ∃ e, d = e + 2 := ⟨d - 2, by omega⟩
  have e1 : md n true (mt a b true cur) = sg n a b true cur := rfl
  have hgq : ∀ v, (t.set (sg n a b true cur) true).getD v false = if sg n a b true cur = v then true else t.getD v false := fun v => getB_set (by omega)
  have e2 : md n false (mt a b false (ep n false (sg n a b true cur))) = sg n a b false (sg n a b true cur) := rfl
  have o1' : isOut n true (mt a b true cur) = false := o1
  have o2' : isOut n false (mt a b false (ep n false (sg n a b true cur))) = false := o2
  have hend : endM n a b m (d + 2) true cur ↔ (sg n a b false (sg n a b true cur) = m ∨ endM n a b m d true (sg n a b false (sg n a b true cur))) := by
    show (_ ∧ (_ ∨ (_ ∧ (_ ∨ _)))) ↔ _
    simp only [e1, Bool.not_true, Bool.not_false, e2, o1', o2']
    constructor
    · rintro ⟨_, h | ⟨_, h⟩⟩
      · exact absurd h hq.2
      · exact h
    · exact fun h => ⟨trivial, .inr ⟨trivial, h⟩⟩
  have hfl : flI n a b m (d + 2) true cur t = if sg n a b false (sg n a b true cur) = m then (t.set (sg n a b true cur) true).set (sg n a b false (sg n a b true cur)) true else flI n a b m d true (sg n a b false (sg n a b true cur)) ((t.set (sg n a b true cur) true).set (sg n a b false (sg n a b true cur)) true) := by
    show (if _ then _ else (if _ then _ else _)) = _
    simp only [e1, Bool.not_true, Bool.not_false, e2, if_neg hq.2]
    rfl
  rw [hend, hfl]
  generalize hqd : sg n a b true cur = q at *
  generalize hrd : sg n a b false q = r at *
  have hrq : r ≠ q := k4
  have hg : ∀ v, ((t.set q true).set r true).getD v false = if r = v then true else if q = v then true else t.getD v false := by
    intro v
    rw [getB_set (by rw [List.length_set]; omega), getB_set (by omega)]
  have up : ∀ v, nw s t v → nw s ((t.set q true).set r true) v := fun v hv => ⟨getB_mono (getB_mono hv.1), hv.2⟩
  have nq : nw s ((t.set q true).set r true) q := ⟨by rw [hg]; split; rfl; rw [if_pos rfl], g2⟩
  have nr : nw s ((t.set q true).set r true) r := ⟨by rw [hg, if_pos rfl], k2⟩
  have hnw : ∀ v, nw s ((t.set q true).set r true) v → v = r ∨ v = q ∨ nw s t v := by
    intro v hv
    have h1 := hv.1
    rw [hg] at h1
    by_cases e1 : r = v
    · exact .inl e1.symm
    · rw [if_neg e1] at h1
      by_cases e2 : q = v
      · exact .inr (.inl e2.symm)
      · rw [if_neg e2] at h1
        exact .inr (.inr ⟨h1, hv.2⟩)
  have hcw : nw s ((t.set q true).set r true) cur ∨ cur = m := hcur.symm.imp (up _) id
  have hmin : ∀ T : Nat → Prop, T m → (∀ v, v < n → s.getD v false = false → T v → ∀ k, T (sg n a b k v)) → (∀ v, nw s ((t.set q true).set r true) v → T v) ∧ T r := by
    intro T h1 h2
    obtain ⟨t1, t2⟩ := hT T h1 h2
    have t3 := h2 cur hcn hsc t2 true
    rw [hqd] at t3
    have t4 := h2 q g1 g2 t3 false
    rw [hrd] at t4
    refine ⟨fun v hv => ?_, t4⟩
    rcases hnw v hv with h | h | h
    · rw [h]; exact t4
    · rw [h]; exact t3
    · exact t1 v h
  have hqt : ¬ nw s t q := fun h => nw_no h hq.1
  by_cases hrm : r = m
  · rw [if_pos hrm]
    refine ⟨.inl hrm, by simpa using ht, fun v hv => getB_mono (getB_mono (hmono v hv)), fun v hv => ?_, by rw [← hrm]; exact nr, fun v hv k => ?_, fun T h1 h2 => (hmin T h1 h2).1⟩
    · rcases hnw v hv with h | h | h
      · rw [h]; exact k1
      · rw [h]; exact g1
      · exact hlt v h
    · cases k
      · rcases hnw v hv with h | h | h
        · rw [h, k3]; exact nq
        · rw [h, hrd]; exact nr
        · exact up _ (hA v h)
      · by_cases hvc : v = cur
        · subst hvc; rw [hqd]; exact nq
        · by_cases hvq : v = q
          · rw [hvq, g3]
            rcases hcw with h | h
            · exact h
            · rw [h, ← hrm]; exact nr
          · have h1 : nw s t v ∨ v = m := by
              rcases hnw v hv with h | h | h
              · exact .inr (h.trans hrm)
              · exact absurd h hvq
              · exact .inl h
            rcases (hB v h1 hvc).1 with h | h
            · exact up _ h
            · rw [h, ← hrm]; exact nr
  · rw [if_neg hrm]
    have hrt : t.getD r false = false := by
      cases h : t.getD r false with
      | false => rfl
      | true =>
        exfalso
        have := hA r ⟨h, k2⟩
        rw [k3] at this
        exact hqt this
    have c2 := cF_set (s := t.set q true) (i := r) (by rw [List.length_set]; omega) (by rw [getB_set (by omega), if_neg (Ne.symm hrq)]; exact hrt)
    obtain ⟨h1, h2⟩ := ih d (by omega) r ((t.set q true).set r true) (by simpa using ht) (by omega) (fun v hv => getB_mono (getB_mono (hmono v hv))) k1 k2 (by rw [hg, if_neg hrm, if_neg hq.2]; exact htm)
      (fun v hv => by
        rcases hnw v hv with h | h | h
        · rw [h]; exact k1
        · rw [h]; exact g1
        · exact hlt v h) (.inr nr) (fun e => absurd e hrm)
      (by
        intro v hv hvr
        by_cases hvc : v = cur
        · subst hvc; rw [hqd]; exact ⟨.inl nq, Ne.symm hrq⟩
        · by_cases hvq : v = q
          · rw [hvq, g3]
            refine ⟨hcw, fun e => ?_⟩
            rcases hcur with h | h
            · exact hrm (e ▸ h)
            · exact nw_no (e ▸ h) hrt
          · have h1 : nw s t v ∨ v = m := by
              rcases hv with hv | hv
              · rcases hnw v hv with h | h | h
                · exact absurd h hvr
                · exact absurd h hvq
                · exact .inl h
              · exact .inr hv
            obtain ⟨p1, p2⟩ := hB v h1 hvc
            refine ⟨p1.imp (up _) id, fun e => ?_⟩
            rcases p1 with h | h
            · exact nw_no (e ▸ h) hrt
            · exact hrm (e ▸ h))
      (by
        intro v hv
        rcases hnw v hv with h | h | h
        · rw [h, k3]; exact nq
        · rw [h, hrd]; exact nr
        · exact up _ (hA v h)) hmin
    exact ⟨.inr h1, h2⟩

/-- Both ways meet the same. -/
theorem loop_eq : endM n a b m 8 true m ∧ flI n a b m 8 true m s = spI n a b 8 m s ∧ G n a b (spI n a b 8 m s) := by
  have hc := cF_all (s := s)
  have hn0 : ∀ v, ¬ nw s s v := fun v h => by have := h.1; rw [h.2] at this; cases this
  have h1 := spI_res ha hb hs hG hm hsm 8 m s hs (by omega) (fun v h => h) hm hsm (.inl ⟨rfl, rfl⟩) fun T h _ => ⟨fun v hv => absurd hv (hn0 v), h⟩
  obtain ⟨h2, h3⟩ := flI_res ha hb hs hG hm hsm 8 m s hs (by omega) (fun v h => h) hm hsm hsm (fun v hv => absurd hv (hn0 v)) (.inl rfl) (fun _ => rfl)
    (fun v hv hne => by
      rcases hv with h | h
      · exact absurd h (hn0 v)
      · exact absurd h hne) (fun v hv => absurd hv (hn0 v)) fun T h _ => ⟨fun v hv => absurd hv (hn0 v), h⟩
  exact ⟨h2, h3.eq h1, Res.G ha hb hs hG hm hsm h1⟩
end

/-- How many loops there are. -/
def lpO (n : Nat) (a b : List Nat) : Nat → Nat → List Bool → Nat → Nat
  | 0, _, _, c => c
  | d + 1, i, s, c => if s.getD i false = true then lpO n a b d (i + 1) s c else lpO n a b d (i + 1) (spI n a b 8 i s) (c + 1)
def lpN (n : Nat) (a b : List Nat) : Nat := lpO n a b n 0 (oL n a b n).2 0
end Go.Proofs.Ytgpgcdofhkpeaaa.VE
