/- Contracts of functions of the given program, for all arguments that the contract names; see each theorem. -/
import Derived.Test.YtcibbadioijmcaaM3
set_option linter.all false
namespace Go.Proofs.Ytcibbadioijmcaa.VE
open Go
set_option maxHeartbeats 800000
set_option maxRecDepth 100000

/-! plain: a part of the graph has a blob -/
def hasB (n : Nat) (a b : List Nat) (ba bb : List Bool) (v : Nat) : Prop := ∃ k q, q < 2 * n ∧ bl2 ba bb k q = true ∧ Cn (E2 n a b) v (vx n k q)
theorem vx_inj {n : Nat} {k : Bool} {p q : Nat} (h : vx n k p = vx n k q) : p = q := by cases k <;> simp only [vx] at h <;> omega
section
variable {n : Nat} {a b : List Nat} (ha : IsV n a) (hb : IsV n b) {ba bb : List Bool}
  (hB : ∀ l p, p < 2 * n → bl2 ba bb l (mt a b l p) = bl2 ba bb l p)
include ha hb
theorem mB_has : ∀ (d : Nat) (l : Bool) (p : Nat), p < 2 * n → mB n a b ba bb d l p = true → hasB n a b ba bb (vx n l p)
  | 0, _, _, _, h => by cases h
  | d + 1, l, p, hp, h => by
    rw [mB_pack, Bool.or_eq_true] at h
    rcases h with h | h
    · exact ⟨l, p, hp, h, .refl _⟩
    · cases ho : isOut n l (mt a b l p) with
      | true => rw [ho, if_pos rfl] at h; cases h
      | false =>
        rw [ho, if_neg (by decide)] at h
        have hl := mt_lt ha hb (l := l) hp
        obtain ⟨k, q, h1, h2, h3⟩ := mB_has d _ _ (ep_lt (md_lt hl ho)) h
        rw [vx_ep, ← vx_md ho] at h3
        exact ⟨k, q, h1, h2, (Cn.one (E2_mt ha hb hp)).trans h3⟩
include hB
theorem onP_mB : ∀ (d : Nat) (l : Bool) (p v : Nat), p < 2 * n → ends n a b d l p → onP n a b d l p v → ∀ (k : Bool) (q : Nat), q < 2 * n → vx n k q = v → bl2 ba bb k q = true → ¬ (k = !l ∧ v = vx n l p) → mB n a b ba bb d l p = true
  | 0, _, _, _, _, h, _, _, _, _, _, _, _ => h.elim
  | d + 1, l, p, v, hp, he, h, k, q, hq, hv, hb1, hx => by
    have hl := mt_lt ha hb (l := l) hp
    have hBl := hB l p hp
    rw [mB_pack, Bool.or_eq_true]
    have met : k = l → q = mt a b l p → bl2 ba bb l p = true := fun e1 e2 => by subst e1; subst e2; rw [← hBl]; exact hb1
    rcases h with h | ⟨ho, h⟩ | ⟨ho, h⟩
    · by_cases hk : k = l
      · subst hk
        have : q = p := vx_inj (hv.trans h)
        subst this; exact .inl hb1
      · exact absurd ⟨by cases k <;> cases l <;> simp at hk ⊢, h⟩ hx
    · by_cases hk : k = l
      · exact .inl (met hk (by subst hk; exact vx_inj (hv.trans h)))
      · exfalso
        rw [h] at hv
        cases k <;> cases l <;> simp [vx, isOut] at hk hv ho <;> omega
    · by_cases hx2 : k = l ∧ v = vx n (!l) (ep n (!l) (md n l (mt a b l p)))
      · obtain ⟨h1, h2⟩ := hx2
        rw [vx_ep, ← vx_md ho] at h2
        exact .inl (met h1 (by subst h1; exact vx_inj (hv.trans h2)))
      · have he2 : ends n a b d (!l) (ep n (!l) (md n l (mt a b l p))) := (show isOut n l (mt a b l p) = true ∨ _ from he).resolve_left (by rw [ho]; decide)
        refine .inr ?_
        rw [ho, if_neg (by decide)]
        exact onP_mB d _ _ v (ep_lt (md_lt hl ho)) he2 h k q hq hv hb1 (by rw [Bool.not_not]; exact hx2)
/-- A line of the product has a blob where its part has one. -/
theorem mB_iff {p : Nat} (hp : p < 2 * n) : mB n a b ba bb 17 (lay n p) p = true ↔ hasB n a b ba bb (op n p) := by
  have he := ends_out ha hb hp out_lay
  constructor
  · intro h
    have := mB_has ha hb 17 _ p hp h
    rwa [vx_lay] at this
  · rintro ⟨k, q, hq, h1, h2⟩
    have hcl := Cn.closed (S := onP n a b 17 (lay n p) p) (fun x y hx hE => by
      rcases onP_closed ha hb hp he hx hE with h | ⟨h, _⟩
      · exact h
      · rw [out_lay] at h; cases h) h2 (by rw [← vx_lay]; exact onP_start)
    refine onP_mB ha hb hB 17 _ p _ hp he hcl k q hq rfl h1 ?_
    rintro ⟨h3, h4⟩
    rw [vx_lay] at h4
    have ho := out_lay (n := n) (p := p)
    unfold op at h4
    cases hl : lay n p with
    | true =>
      rw [hl] at h3 ho; subst h3
      have : n ≤ p := of_decide_eq_true ho
      rw [if_neg (by omega)] at h4
      simp [vx] at h4; omega
    | false =>
      rw [hl] at h3 ho; subst h3
      have : p < n := of_decide_eq_true ho
      rw [if_pos this] at h4
      simp [vx] at h4; omega
end
end Go.Proofs.Ytcibbadioijmcaa.VE
