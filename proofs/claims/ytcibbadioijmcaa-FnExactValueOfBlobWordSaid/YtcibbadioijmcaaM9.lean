/- Contracts of functions of the given program, for all arguments that the contract names; see each theorem. -/
import Derived.Test.YtcibbadioijmcaaM3
import Derived.Test.YtcibbadioijmcaaM4
set_option linter.all false
namespace Go.Proofs.Ytcibbadioijmcaa.VE
open Go
set_option maxHeartbeats 800000
set_option maxRecDepth 100000

/-! plain: a part of the graph has a blob -/
def hasB (n : Nat) (a b : List Nat) (ba bb : List Bool) (v : Nat) : Prop := ∃ k q, q < 2 * n ∧ bl2 ba bb k q = true ∧ Cn (E2 n a b) v (vx n k q)
theorem vx_inj {n : Nat} {k : Bool} {p q : Nat} (h : vx n k p = vx n k q) : p = q := by cases k <;> simp only [vx] at h <;> omega
section
variable {n : Nat} {a b : List Nat} (ha : IsV n a) (hb : IsV n b) {ba bb : List Bool}
  (hB : ∀ l p, p < 2 * n → bl2 ba bb l (mt a b l p) = bl2 ba bb l p)
include ha hb
theorem mB_has : ∀ (d : Nat) (l : Bool) (p : Nat), p < 2 * n → mB n a b ba bb d l p = true → hasB n a b ba bb (vx n l p)
  | 0, _, _, _, h => by cases h
  | d + 1, l, p, hp, h => by
    rw [mB_pack, Bool.or_eq_true] at h
    rcases h with h | h
    · exact ⟨l, p, hp, h, .refl _⟩
    · cases ho : isOut n l (mt a b l p) with
      | true => rw [ho, if_pos rfl] at h; cases h
      | false =>
        rw [ho, if_neg (by decide)] at h
        have hl := mt_lt ha hb (l := l) hp
        obtain ⟨k, q, h1, h2, h3⟩ := mB_has d _ _ (ep_lt (md_lt hl ho)) h
        rw [vx_ep, ← vx_md ho] at h3
        exact ⟨k, q, h1, h2, (Cn.one (E2_mt ha hb hp)).trans h3⟩
include hB
theorem onP_mB : ∀ (d : Nat) (l : Bool) (p v : Nat), p < 2 * n → ends n a b d l p → onP n a b d l p v → ∀ (k : Bool) (q : Nat), q < 2 * n → vx n k q = v → bl2 ba bb k q = true → ¬ (k = !l ∧ v = vx n l p) → mB n a b ba bb d l p = true
  | 0, _, _, _, _, h, _, _, _, _, _, _, _ => h.elim
  | d + 1, l, p, v, hp, he, h, k, q, hq, hv, hb1, hx => by
    have hl := mt_lt ha hb (l := l) hp
    have hBl := hB l p hp
    rw [mB_pack, Bool.or_eq_true]
    have met : k = l → q = mt a b l p → bl2 ba bb l p = true := fun e1 e2 => by subst e1; subst e2; rw [← hBl]; exact hb1
    rcases h with h | ⟨ho, h⟩ | ⟨ho, h⟩
    · by_cases hk : k = l
      · subst hk
        have : q = p := vx_inj (hv.trans h)
        subst this; exact .inl hb1
      · exact absurd ⟨by cases k <;> cases l <;> simp at hk ⊢, h⟩ hx
    · by_cases hk : k = l
      · exact .inl (met hk (by subst hk; exact vx_inj (hv.trans h)))
      · exfalso
        rw [h] at hv
        cases k <;> cases l <;> simp [vx, isOut] at hk hv ho <;> omega
    · by_cases hx2 : k = l ∧ v = vx n (!l) (ep n (!l) (md n l (mt a b l p)))
      · obtain ⟨h1, h2⟩ := hx2
        rw [vx_ep, ← vx_md ho] at h2
        exact .inl (met h1 (by subst h1; exact vx_inj (hv.trans h2)))
      · have he2 : ends n a b d (!l) (ep n (!l) (md n l (mt a b l p))) := (show isOut n l (mt a b l p) = true ∨ _ from he).resolve_left (by rw [ho]; decide)
        refine .inr ?_
        rw [ho, if_neg (by decide)]
        exact onP_mB d _ _ v (ep_lt (md_lt hl ho)) he2 h k q hq hv hb1 (by rw [Bool.not_not]; exact hx2)
/-- A line of the product has a blob where its part has one. -/
theorem mB_iff {p : Nat} (hp : p < 2 * n) : mB n a b ba bb 17 (lay n p) p = true ↔ hasB n a b ba bb (op n p) := by
  have he := ends_out ha hb hp out_lay
  constructor
  · intro h
    have := mB_has ha hb 17 _ p hp h
    rwa [vx_lay] at this
  · rintro ⟨k, q, hq, h1, h2⟩
    have hcl := Cn.closed (S := onP n a b 17 (lay n p) p) (fun x y hx hE => by
      rcases onP_closed ha hb hp he hx hE with h | ⟨h, _⟩
      · exact h
      · rw [out_lay] at h; cases h) h2 (by rw [← vx_lay]; exact onP_start)
    refine onP_mB ha hb hB 17 _ p _ hp he hcl k q hq rfl h1 ?_
    rintro ⟨h3, h4⟩
    rw [vx_lay] at h4
    have ho := out_lay (n := n) (p := p)
    unfold op at h4
    cases hl : lay n p with
    | true =>
      rw [hl] at h3 ho; subst h3
      have : n ≤ p := of_decide_eq_true ho
      rw [if_neg (by omega)] at h4
      simp [vx] at h4; omega
    | false =>
      rw [hl] at h3 ho; subst h3
      have : p < n := of_decide_eq_true ho
      rw [if_pos this] at h4
      simp [vx] at h4; omega
end
end Go.Proofs.Ytcibbadioijmcaa.VE

namespace Go.Proofs.Ytcibbadioijmcaa.VE
open Go
set_option maxHeartbeats 800000
set_option maxRecDepth 100000

/-! plain: the loops, without and with blobs -/
def metL (n : Nat) (a b : List Nat) (m : Nat) : Nat → Bool → Nat → List (Bool × Nat)
  | 0, _, _ => []
  | d + 1, l, p => (l, p) :: (if md n l (mt a b l p) = m then [] else metL n a b m d (!l) (ep n (!l) (md n l (mt a b l p))))
theorem mL_any {n : Nat} {a b : List Nat} {ba bb : List Bool} {m : Nat} : ∀ (d : Nat) (l : Bool) (p : Nat), mL n a b ba bb m d l p = (metL n a b m d l p).any fun x => bl2 ba bb x.1 x.2
  | 0, _, _ => rfl
  | d + 1, l, p => by
    rw [mL_pack, metL, List.any_cons]
    congr 1
    split
    · rfl
    · exact mL_any d _ _
theorem flI_met {n : Nat} {a b : List Nat} {m x : Nat} : ∀ (d : Nat) (l : Bool) (p : Nat) (s : List Bool), (flI n a b m d l p s).getD x false = true → s.getD x false = true ∨ ∃ k q, (k, q) ∈ metL n a b m d l p ∧ md n k (mt a b k q) = x
  | 0, _, _, _, h => .inl h
  | d + 1, l, p, s, h => by
    rw [flI] at h
    rw [metL]
    have set_or : ∀ s : List Bool, (s.set (md n l (mt a b l p)) true).getD x false = true → s.getD x false = true ∨ md n l (mt a b l p) = x := fun s h => by
      by_cases hv : md n l (mt a b l p) = x
      · exact .inr hv
      · refine .inl ?_
        rw [List.getD_eq_getElem?_getD, List.getElem?_set_ne hv] at h
        rwa [List.getD_eq_getElem?_getD]
    split at h
    · rcases set_or s h with h | h
      · exact .inl h
      · exact .inr ⟨l, p, by simp, h⟩
    · rename_i hne
      rw [if_neg hne]
      rcases flI_met d _ _ _ h with h | ⟨k, q, h1, h2⟩
      · rcases set_or s h with h | h
        · exact .inl h
        · exact .inr ⟨l, p, by simp, h⟩
      · exact .inr ⟨k, q, List.mem_cons_of_mem _ h1, h2⟩
section
variable {n : Nat} {a b : List Nat} (ha : IsV n a) (hb : IsV n b)
include ha hb
theorem met_ok {m : Nat} : ∀ (d : Nat) (l : Bool) (p : Nat), p < 2 * n → endM n a b m d l p → ∀ k q, (k, q) ∈ metL n a b m d l p →
    q < 2 * n ∧ isOut n k (mt a b k q) = false ∧ Cn (E2 n a b) (vx n l p) (vx n k q) ∧ (md n k (mt a b k q) ≠ m → (!k, ep n (!k) (md n k (mt a b k q))) ∈ metL n a b m d l p)
  | 0, _, _, _, h, _, _, _ => h.elim
  | d + 1, l, p, hp, he, k, q, h => by
    have hl := mt_lt ha hb (l := l) hp
    obtain ⟨ho, he⟩ := (show isOut n l (mt a b l p) = false ∧ (md n l (mt a b l p) = m ∨ endM n a b m d (!l) (ep n (!l) (md n l (mt a b l p)))) from he)
    rw [metL] at h ⊢
    have hy := md_lt hl ho
    rcases List.mem_cons.1 h with h | h
    · obtain ⟨rfl, rfl⟩ := Prod.mk.inj h
      refine ⟨hp, ho, .refl _, fun hne => ?_⟩
      rw [if_neg hne]
      cases d with
      | zero => exact (he.resolve_left hne).elim
      | succ d => exact List.mem_cons_of_mem _ (by rw [metL]; exact List.mem_cons_self)
    · by_cases hm : md n l (mt a b l p) = m
      · rw [if_pos hm] at h; simp at h
      · rw [if_neg hm] at h ⊢
        obtain ⟨h1, h2, h3, h4⟩ := met_ok d _ _ (ep_lt hy) (he.resolve_left hm) k q h
        rw [vx_ep, ← vx_md ho] at h3
        exact ⟨h1, h2, (Cn.one (E2_mt ha hb hp)).trans h3, fun hne => List.mem_cons_of_mem _ (h4 hne)⟩
end
section
variable {n : Nat} {a b : List Nat} (ha : IsV n a) (hb : IsV n b) {ba bb : List Bool}
  (hB : ∀ l p, p < 2 * n → bl2 ba bb l (mt a b l p) = bl2 ba bb l p)
  {s : List Bool} {seen : List Nat} {i : Nat} (hs : s.length = 8) (hG : G n a b s) (hi : i < n)
  (hI : ∀ x, x < n → (s.getD x false = true ↔ ∃ y, y ∈ seen ∧ Cn (E2 n a b) y (n + x)))
  (hc : s.getD i false = false)
include ha hb hs hG hi hI hc
theorem spI_class : (spI n a b 8 i s).length = 8 ∧ G n a b (spI n a b 8 i s) ∧ (∀ x, x < n → (nw s (spI n a b 8 i s) x ↔ Cn (E2 n a b) (n + i) (n + x))) ∧
    ∀ x, x < n → ((spI n a b 8 i s).getD x false = true ↔ ∃ y, y ∈ (n + i) :: seen ∧ Cn (E2 n a b) y (n + x)) := by
  have hsym : ∀ x y, Cn (E2 n a b) x y → Cn (E2 n a b) y x := fun x y h => h.symm (E2.symm ha hb)
  have hno : ¬ ∃ y, y ∈ seen ∧ Cn (E2 n a b) y (n + i) := fun h => by rw [(hI i (by omega)).2 h] at hc; cases hc
  have hcf := cF_all (s := s)
  have hn0 : ∀ v, ¬ nw s s v := fun v h => by have := h.1; rw [h.2] at this; cases this
  have hR := spI_res ha hb hs hG (show i < n by omega) hc 8 i s hs (by omega) (fun v h => h) (by omega) hc (.inl ⟨rfl, rfl⟩) fun T h _ => ⟨fun v hv => absurd hv (hn0 v), h⟩
  have hG2 := Res.G ha hb hs hG (show i < n by omega) hc hR
  have edge : ∀ v, v < n → s.getD v false = false → ∀ k, E2 n a b (n + v) (n + sg n a b k v) := fun v hv hsv k => by
    have ho := (hG v hv hsv k).1
    have := E2_mt ha hb (l := k) (ep_lt (l := k) hv)
    rw [vx_ep] at this
    rw [show n + sg n a b k v = vx n k (mt a b k (ep n k v)) from (vx_md ho).symm]; exact this
  have hnw : ∀ x, x < n → (nw s (spI n a b 8 i s) x ↔ Cn (E2 n a b) (n + i) (n + x)) := fun x hx => by
    constructor
    · exact hR.mn (fun v => Cn (E2 n a b) (n + i) (n + v)) (.refl _) (fun v hv hsv h k => .step h (edge v hv hsv k)) x
    · intro h
      have hcl := Cn.closed (S := fun w => ∃ v, v < n ∧ w = n + v ∧ nw s (spI n a b 8 i s) v) (fun w z hw hE => by
        obtain ⟨v, hv, rfl, hnv⟩ := hw
        have go : ∀ k, z = vx n k (mt a b k (ep n k v)) → ∃ v, v < n ∧ z = n + v ∧ nw s (spI n a b 8 i s) v := fun k hz => by
          have ho := (hG v hv hnv.2 k).1
          have h5 := hR.cl v hnv k
          exact ⟨_, hR.lt _ h5, by rw [hz]; exact vx_md ho, h5⟩
        rw [← vx_ep (n := n) (x := v) (l := true)] at hE
        rcases E2_vx ha hb (ep_lt (n := n) (l := true) hv) hE with h | ⟨_, h⟩
        · exact go true h
        · rw [md_ep] at h; exact go false h) h ⟨i, by omega, rfl, hR.st⟩
      obtain ⟨v, _, h1, h2⟩ := hcl
      have : x = v := by omega
      rw [this]; exact h2
  refine ⟨hR.len, hG2, hnw, fun x hx => ?_⟩
  constructor
  · intro h
    cases hsx : s.getD x false with
    | true =>
      obtain ⟨y, hy, hr⟩ := (hI x hx).1 hsx
      exact ⟨y, by simp [hy], hr⟩
    | false => exact ⟨n + i, by simp, (hnw x hx).1 ⟨h, hsx⟩⟩
  · rintro ⟨y, hy, hr⟩
    rcases List.mem_cons.1 hy with rfl | hy
    · exact ((hnw x hx).2 hr).1
    · exact hR.mono x ((hI x hx).2 ⟨y, hy, hr⟩)
include hB
theorem mL_iff : mL n a b ba bb i 8 true i = true ↔ hasB n a b ba bb (n + i) := by
  obtain ⟨q1, q2, q3⟩ := loop_eq ha hb hs hG hi hc
  obtain ⟨_, _, hnw, _⟩ := spI_class ha hb hs hG hi hI hc
  have hok := met_ok ha hb 8 true i (by omega) q1
  rw [mL_any, List.any_eq_true]
  constructor
  · rintro ⟨⟨k, q⟩, h1, h2⟩
    obtain ⟨h3, _, h5, _⟩ := hok k q h1
    exact ⟨k, q, h3, h2, h5⟩
  · rintro ⟨k, q, hq, h1, h2⟩
    -- all of the part lies in the middle, not yet seen
    have mid : ∀ w, Cn (E2 n a b) (n + i) w → ∃ v, v < n ∧ w = n + v ∧ s.getD v false = false := fun w hw => by
      refine Cn.closed (S := fun w => ∃ v, v < n ∧ w = n + v ∧ s.getD v false = false) (fun w z hw hE => ?_) hw ⟨i, hi, rfl, hc⟩
      obtain ⟨v, hv, rfl, hsv⟩ := hw
      have go : ∀ k, z = vx n k (mt a b k (ep n k v)) → ∃ v, v < n ∧ z = n + v ∧ s.getD v false = false := fun k hz => by
        obtain ⟨h3, h4⟩ := hG v hv hsv k
        exact ⟨_, md_lt (mt_lt ha hb (ep_lt hv)) h3, by rw [hz]; exact vx_md h3, h4⟩
      rw [← vx_ep (n := n) (x := v) (l := true)] at hE
      rcases E2_vx ha hb (ep_lt (n := n) (l := true) hv) hE with h | ⟨_, h⟩
      · exact go true h
      · rw [md_ep] at h; exact go false h
    have marked : ∀ v, v < n → Cn (E2 n a b) (n + i) (n + v) → ∃ k q, (k, q) ∈ metL n a b i 8 true i ∧ md n k (mt a b k q) = v := fun v hv h => by
      have h3 := (hnw v hv).2 h
      rw [← q2] at h3
      rcases flI_met 8 true i s h3.1 with h4 | h4
      · rw [h3.2] at h4; cases h4
      · exact h4
    obtain ⟨x, hx, hvx, hsx⟩ := mid _ h2
    have hqx : q = ep n k x := by
      cases k <;> simp only [vx, ep] at hvx ⊢ <;> omega
    obtain ⟨k1, p1, h3, h4⟩ := marked x hx (by rw [← hvx]; exact h2)
    obtain ⟨o1, o2, o3, o4⟩ := hok k1 p1 h3
    by_cases hk : k1 = k
    · subst hk
      refine ⟨(k1, p1), h3, ?_⟩
      have := hB k1 p1 o1
      rw [show mt a b k1 p1 = q from by rw [hqx, ← h4, ep_md o2]] at this
      exact this ▸ h1
    · have hk' : (!k1) = k := by cases k1 <;> cases k <;> simp at hk ⊢
      by_cases hxi : x = i
      · subst hxi
        cases k with
        | true =>
          refine ⟨(true, x), by rw [metL]; exact List.mem_cons_self, ?_⟩
          have : q = x := hqx
          rw [this] at h1; exact h1
        | false =>
          obtain ⟨g1, g2⟩ := hG x hx hc false
          have hz : sg n a b false x < n := md_lt (mt_lt ha hb (ep_lt hx)) g1
          have hE : E2 n a b (n + x) (n + sg n a b false x) := by
            have := E2_mt ha hb (l := false) (ep_lt (l := false) hx)
            rw [vx_ep] at this
            rw [show n + sg n a b false x = vx n false (mt a b false (ep n false x)) from (vx_md g1).symm]; exact this
          obtain ⟨k2, p2, h5, h6⟩ := marked _ hz (Cn.one hE)
          obtain ⟨o5, o6, o7, o8⟩ := hok k2 p2 h5
          have hback : ep n false (sg n a b false x) = mt a b false (ep n false x) := ep_md g1
          have hmm : mt a b false (mt a b false (ep n false x)) = ep n false x := mt_mt ha hb (ep_lt hx)
          cases k2 with
          | false =>
            have e2 : mt a b false p2 = mt a b false (ep n false x) := by rw [← hback, ← h6, ep_md o6]
            have e3 : p2 = ep n false x := by rw [← mt_mt ha hb (l := false) o5, e2, hmm]
            exact ⟨(false, p2), h5, by rw [e3, ← hqx]; exact h1⟩
          | true =>
            have hne : sg n a b false x ≠ x := fun e => by
              rw [e] at hback
              exact mt_ne ha hb (l := false) (ep_lt hx) hback.symm
            have h7 := o8 (by rw [h6]; exact hne)
            rw [h6] at h7
            refine ⟨_, h7, ?_⟩
            have h8 := hB false (ep n false x) (ep_lt hx)
            show bl2 ba bb false (ep n false (sg n a b false x)) = true
            rw [hback, h8, ← hqx]; exact h1
      · have h7 := o4 (by rw [h4]; exact hxi)
        rw [h4, hk'] at h7
        exact ⟨_, h7, by show bl2 ba bb k (ep n k x) = true; rw [← hqx]; exact h1⟩
end
end Go.Proofs.Ytcibbadioijmcaa.VE

namespace Go.Proofs.Ytcibbadioijmcaa.VE
open Go
set_option maxHeartbeats 800000
set_option maxRecDepth 100000

/-! plain: leaders -/
def jnL (L : Nat → Nat) (i k : Nat) : Nat → Nat := fun j => if L j = L k then L i else L j
def EL (es : List (Nat × Nat)) (x y : Nat) : Prop := (x, y) ∈ es ∨ (y, x) ∈ es
def Le (es : List (Nat × Nat)) (L : Nat → Nat) : Nat → Nat := es.foldl (fun L e => jnL L e.1 e.2) L
theorem jnL_cn {L : Nat → Nat} {E : Nat → Nat → Prop} (hE : ∀ x y, E x y → E y x) (h : ∀ x y, L x = L y ↔ Cn E x y) (i k : Nat) : ∀ x y, jnL L i k x = jnL L i k y ↔ Cn (fun x y => E x y ∨ (x = i ∧ y = k) ∨ (x = k ∧ y = i)) x y := by
  have up : ∀ {x y}, Cn E x y → Cn (fun x y => E x y ∨ (x = i ∧ y = k) ∨ (x = k ∧ y = i)) x y := fun h => h.mono fun _ _ e => Cn.one (.inl e)
  have ik : Cn (fun x y => E x y ∨ (x = i ∧ y = k) ∨ (x = k ∧ y = i)) i k := Cn.one (.inr (.inl ⟨rfl, rfl⟩))
  have ki : Cn (fun x y => E x y ∨ (x = i ∧ y = k) ∨ (x = k ∧ y = i)) k i := Cn.one (.inr (.inr ⟨rfl, rfl⟩))
  intro x y
  constructor
  · intro he
    unfold jnL at he
    by_cases h1 : L x = L k
    · rw [if_pos h1] at he
      by_cases h2 : L y = L k
      · exact up ((h x y).1 (h1.trans h2.symm))
      · rw [if_neg h2] at he
        exact ((up ((h x k).1 h1)).trans ki).trans (up ((h i y).1 he))
    · rw [if_neg h1] at he
      by_cases h2 : L y = L k
      · rw [if_pos h2] at he
        exact ((up ((h x i).1 he)).trans ik).trans (up ((h k y).1 h2.symm))
      · rw [if_neg h2] at he
        exact up ((h x y).1 he)
  · intro hc
    induction hc with
    | refl => rfl
    | step _ e ih =>
      rw [ih]
      unfold jnL
      rcases e with e | ⟨rfl, rfl⟩ | ⟨rfl, rfl⟩
      · rw [(h _ _).2 (Cn.one e)]
      · rw [if_pos (rfl : L _ = L _)]
        split <;> rfl
      · rw [if_pos (rfl : L _ = L _)]
        split <;> rfl
theorem Le_cn : ∀ (es : List (Nat × Nat)) (L : Nat → Nat) (E : Nat → Nat → Prop), (∀ x y, E x y → E y x) → (∀ x y, L x = L y ↔ Cn E x y) → ∀ x y, Le es L x = Le es L y ↔ Cn (fun x y => E x y ∨ EL es x y) x y
  | [], L, E, _, h, x, y => by
    rw [show Le [] L = L from rfl, h]
    constructor
    · exact fun h => h.mono fun _ _ e => Cn.one (.inl e)
    · refine fun h => h.mono fun _ _ e => Cn.one ?_
      rcases e with e | e | e
      · exact e
      · simp at e
      · simp at e
  | (i, k) :: r, L, E, hE, h, x, y => by
    rw [show Le ((i, k) :: r) L = Le r (jnL L i k) from rfl, Le_cn r (jnL L i k) _ (fun x y e => by
      rcases e with e | ⟨rfl, rfl⟩ | ⟨rfl, rfl⟩
      · exact .inl (hE _ _ e)
      · exact .inr (.inr ⟨rfl, rfl⟩)
      · exact .inr (.inl ⟨rfl, rfl⟩)) (jnL_cn hE h i k)]
    constructor
    · refine fun h => h.mono fun _ _ e => Cn.one ?_
      rcases e with (e | ⟨rfl, rfl⟩ | ⟨rfl, rfl⟩) | e | e
      · exact .inl e
      · exact .inr (.inl List.mem_cons_self)
      · exact .inr (.inr List.mem_cons_self)
      · exact .inr (.inl (List.mem_cons_of_mem _ e))
      · exact .inr (.inr (List.mem_cons_of_mem _ e))
    · refine fun h => h.mono fun _ _ e => Cn.one ?_
      rcases e with e | e | e
      · exact .inl (.inl e)
      · rcases List.mem_cons.1 e with e | e
        · obtain ⟨rfl, rfl⟩ := Prod.mk.inj e
          exact .inl (.inr (.inl ⟨rfl, rfl⟩))
        · exact .inr (.inl e)
      · rcases List.mem_cons.1 e with e | e
        · obtain ⟨rfl, rfl⟩ := Prod.mk.inj e
          exact .inl (.inr (.inr ⟨rfl, rfl⟩))
        · exact .inr (.inr e)
/-- The lines of both, and what lies one on the other. -/
def e1L (a b : List Nat) (k : Nat) : List (Nat × Nat) := (List.range k).flatMap fun i => [(i, a.getD i 0), (16 + i, 16 + b.getD i 0)]
def e2L (n k : Nat) : List (Nat × Nat) := (List.range k).map fun i => (n + i, 16 + i)
def LA (a b : List Nat) (k : Nat) : Nat → Nat := Le (e1L a b k) fun x => x
def LB (n : Nat) (a b : List Nat) (k : Nat) : Nat → Nat := Le (e2L n k) (LA a b (2 * n))
theorem LA_succ {a b : List Nat} {k : Nat} : LA a b (k + 1) = jnL (jnL (LA a b k) k (a.getD k 0)) (16 + k) (16 + b.getD k 0) := by
  simp [LA, Le, e1L, List.range_succ]
theorem LB_succ {n : Nat} {a b : List Nat} {k : Nat} : LB n a b (k + 1) = jnL (LB n a b k) (n + k) (16 + k) := by
  simp [LB, Le, e2L, List.range_succ]
theorem jnL_lt {L : Nat → Nat} {i k : Nat} (h : ∀ j, j < 32 → L j < 32) (hi : i < 32) : ∀ j, j < 32 → jnL L i k j < 32 := fun j hj => by
  unfold jnL; split
  · exact h i hi
  · exact h j hj
def phi (n x : Nat) : Nat := if x < 16 then x else x - 16 + n
section
variable {n : Nat} {a b : List Nat} (ha : IsV n a) (hb : IsV n b)
include ha hb
theorem LA_lt : ∀ k, k ≤ 2 * n → ∀ j, j < 32 → LA a b k j < 32
  | 0, _, j, hj => hj
  | k + 1, hk, j, hj => by
    have hn := ha.n8
    rw [LA_succ]
    exact jnL_lt (jnL_lt (LA_lt k (by omega)) (by omega)) (by omega) j hj
theorem LB_lt : ∀ k, k ≤ n → ∀ j, j < 32 → LB n a b k j < 32
  | 0, _, j, hj => LA_lt ha hb (2 * n) (Nat.le_refl _) j hj
  | k + 1, hk, j, hj => by
    have hn := ha.n8
    rw [LB_succ]
    exact jnL_lt (LB_lt k (by omega)) (by omega) j hj
/-- Two points have one leader where they are joined. -/
theorem LB_iff {x y : Nat} (hx : x < 2 * n ∨ (16 ≤ x ∧ x < 16 + 2 * n)) (hy : y < 2 * n ∨ (16 ≤ y ∧ y < 16 + 2 * n)) : LB n a b n x = LB n a b n y ↔ Cn (E2 n a b) (phi n x) (phi n y) := by
  have hn := ha.n8
  have h1 := Le_cn (e1L a b (2 * n)) (fun x => x) (fun _ _ => False) (fun _ _ h => h.elim) (fun x y => ⟨fun h => by subst h; exact .refl _, fun h => by
    induction h with
    | refl => rfl
    | step _ e _ => exact e.elim⟩)
  have h2 := Le_cn (e2L n n) (LA a b (2 * n)) _ (fun x y h => by
    rcases h with h | h | h
    · exact .inl h
    · exact .inr (.inr h)
    · exact .inr (.inl h)) h1
  have hsym := E2.symm ha hb
  rw [show LB n a b n x = Le (e2L n n) (LA a b (2 * n)) x from rfl, show LB n a b n y = Le (e2L n n) (LA a b (2 * n)) y from rfl, h2]
  have hm1 : ∀ u v, (u, v) ∈ e1L a b (2 * n) ↔ ∃ i, i < 2 * n ∧ ((u = i ∧ v = a.getD i 0) ∨ (u = 16 + i ∧ v = 16 + b.getD i 0)) := fun u v => by
    simp only [e1L, List.mem_flatMap, List.mem_range, List.mem_cons, Prod.mk.injEq, List.not_mem_nil, or_false]
  have hm2 : ∀ u v, (u, v) ∈ e2L n n ↔ ∃ i, i < n ∧ u = n + i ∧ v = 16 + i := fun u v => by
    simp only [e2L, List.mem_map, List.mem_range, Prod.mk.injEq]
    exact ⟨fun ⟨i, h1, h2, h3⟩ => ⟨i, h1, h2.symm, h3.symm⟩, fun ⟨i, h1, h2, h3⟩ => ⟨i, h1, h2.symm, h3.symm⟩⟩
  have fwd : ∀ u v, ((u, v) ∈ e1L a b (2 * n) ∨ (u, v) ∈ e2L n n) → Cn (E2 n a b) (phi n u) (phi n v) := fun u v h => by
    rcases h with h | h
    · obtain ⟨i, hi, ⟨rfl, rfl⟩ | ⟨rfl, rfl⟩⟩ := (hm1 u v).1 h
      · have h3 := ha.lt u hi
        unfold phi
        rw [if_pos (by omega), if_pos (by omega)]
        exact Cn.one (.inl ⟨hi, rfl⟩)
      · have h3 := hb.lt i hi
        unfold phi
        rw [if_neg (by omega), if_neg (by omega)]
        refine Cn.one (.inr ⟨by omega, by omega, ?_⟩)
        rw [show 16 + i - 16 + n - n = i from by omega]; omega
    · obtain ⟨i, hi, rfl, rfl⟩ := (hm2 u v).1 h
      unfold phi
      rw [if_pos (by omega), if_neg (by omega), show 16 + i - 16 + n = n + i from by omega]
      exact .refl _
  constructor
  · intro h
    have key : ∀ {u v}, Cn (fun x y => (False ∨ EL (e1L a b (2 * n)) x y) ∨ EL (e2L n n) x y) u v → Cn (E2 n a b) (phi n u) (phi n v) := fun h => by
      induction h with
      | refl => exact .refl _
      | step _ e ih =>
        refine ih.trans ?_
        rcases e with (e | e | e) | e | e
        · exact e.elim
        · exact fwd _ _ (.inl e)
        · exact (fwd _ _ (.inl e)).symm hsym
        · exact fwd _ _ (.inr e)
        · exact (fwd _ _ (.inr e)).symm hsym
    exact key h
  · intro h
    -- a point for each vertex
    have idE : ∀ i, i < n → Cn (fun x y => (False ∨ EL (e1L a b (2 * n)) x y) ∨ EL (e2L n n) x y) (n + i) (16 + i) := fun i hi => Cn.one (.inr (.inl ((hm2 _ _).2 ⟨i, hi, rfl, rfl⟩)))
    have idE' : ∀ i, i < n → Cn (fun x y => (False ∨ EL (e1L a b (2 * n)) x y) ∨ EL (e2L n n) x y) (16 + i) (n + i) := fun i hi => Cn.one (.inr (.inr ((hm2 _ _).2 ⟨i, hi, rfl, rfl⟩)))
    have psi : ∀ v, v < 3 * n → n ≤ v → Cn (fun x y => (False ∨ EL (e1L a b (2 * n)) x y) ∨ EL (e2L n n) x y) (if v < 2 * n then v else 16 + (v - n)) (16 + (v - n)) := fun v hv hv2 => by
      by_cases h3 : v < 2 * n
      · rw [if_pos h3]
        have := idE (v - n) (by omega)
        rwa [show n + (v - n) = v from by omega] at this
      · rw [if_neg h3]; exact .refl _
    have psi' : ∀ v, v < 3 * n → n ≤ v → Cn (fun x y => (False ∨ EL (e1L a b (2 * n)) x y) ∨ EL (e2L n n) x y) (16 + (v - n)) (if v < 2 * n then v else 16 + (v - n)) := fun v hv hv2 => by
      by_cases h3 : v < 2 * n
      · rw [if_pos h3]
        have := idE' (v - n) (by omega)
        rwa [show n + (v - n) = v from by omega] at this
      · rw [if_neg h3]; exact .refl _
    have key : ∀ {u v}, Cn (E2 n a b) u v → Cn (fun x y => (False ∨ EL (e1L a b (2 * n)) x y) ∨ EL (e2L n n) x y) (if u < 2 * n then u else 16 + (u - n)) (if v < 2 * n then v else 16 + (v - n)) := fun h => by
      induction h with
      | refl => exact .refl _
      | step _ e ih =>
        refine ih.trans ?_
        rcases e with ⟨h3, rfl⟩ | ⟨h3, h4, rfl⟩
        · have h5 := ha.lt _ h3
          rw [if_pos h3, if_pos h5]
          exact Cn.one (.inl (.inr (.inl ((hm1 _ _).2 ⟨_, h3, .inl ⟨rfl, rfl⟩⟩))))
        · rename_i u _
          have h5 := hb.lt (u - n) (by omega)
          refine (psi u h4 h3).trans (Cn.trans (Cn.one (.inl (.inr (.inl ((hm1 _ _).2 ⟨u - n, by omega, .inr ⟨rfl, rfl⟩⟩))))) ?_)
          have := psi' (n + b.getD (u - n) 0) (by omega) (by omega)
          rw [Nat.add_sub_cancel_left] at this ⊢
          exact this
    have ends1 : ∀ x, (x < 2 * n ∨ (16 ≤ x ∧ x < 16 + 2 * n)) → Cn (fun x y => (False ∨ EL (e1L a b (2 * n)) x y) ∨ EL (e2L n n) x y) x (if phi n x < 2 * n then phi n x else 16 + (phi n x - n)) ∧ Cn (fun x y => (False ∨ EL (e1L a b (2 * n)) x y) ∨ EL (e2L n n) x y) (if phi n x < 2 * n then phi n x else 16 + (phi n x - n)) x := fun x hx => by
      rcases hx with hx | ⟨hx1, hx2⟩
      · have : phi n x = x := by unfold phi; rw [if_pos (by omega)]
        rw [this, if_pos hx]; exact ⟨.refl _, .refl _⟩
      · have hp : phi n x = x - 16 + n := by unfold phi; rw [if_neg (by omega)]
        have e := show 16 + (phi n x - n) = x from by omega
        have h3 := psi (phi n x) (by omega) (by omega)
        have h4 := psi' (phi n x) (by omega) (by omega)
        rw [e] at h3 h4
        rw [e]
        exact ⟨h4, h3⟩
    exact ((ends1 x hx).1.trans (key h)).trans (ends1 y hy).2
end
end Go.Proofs.Ytcibbadioijmcaa.VE

namespace Go.Proofs.Ytcibbadioijmcaa.VE
open Go
set_option maxHeartbeats 800000
set_option maxRecDepth 100000

/-! plain: the reference's flags -/
def Bk (ba bb : List Bool) (L : Nat → Nat) : Nat → Nat → Bool
  | 0, _ => false
  | i + 1, v => (Bk ba bb L i v || (ba.getD i false && decide (v = L i))) || (bb.getD i false && decide (v = L (16 + i)))
def Ok (n : Nat) (L : Nat → Nat) : Nat → Nat → Bool
  | 0, _ => false
  | i + 1, v => (Ok n L i v || decide (v = L i)) || decide (v = L (16 + n + i))
def lpS (n : Nat) (L : Nat → Nat) (B : Nat → Bool) : Nat → Nat → (Nat → Bool) → Nat × Nat → Nat × Nat
  | 0, _, _, c => c
  | d + 1, j, O, c => if O (L (n + j)) = true then lpS n L B d (j + 1) O c else lpS n L B d (j + 1) (fun v => O v || decide (v = L (n + j))) (lpC (B (L (n + j))) c)
def rB (n : Nat) (L : Nat → Nat) (B : Nat → Bool) : Nat → List Bool
  | 0 => List.replicate 16 false
  | i + 1 => ((rB n L B i).set i (B (L i))).set (n + i) (B (L (16 + n + i)))
theorem Bk_iff {ba bb : List Bool} {L : Nat → Nat} {v : Nat} : ∀ k, Bk ba bb L k v = true ↔ ∃ i, i < k ∧ ((ba.getD i false = true ∧ v = L i) ∨ (bb.getD i false = true ∧ v = L (16 + i)))
  | 0 => by simp [Bk]
  | k + 1 => by
    rw [Bk, Bool.or_eq_true, Bool.or_eq_true, Bk_iff k, Bool.and_eq_true, Bool.and_eq_true, decide_eq_true_eq, decide_eq_true_eq]
    constructor
    · rintro ((⟨i, h1, h2⟩ | h) | h)
      · exact ⟨i, by omega, h2⟩
      · exact ⟨k, by omega, .inl h⟩
      · exact ⟨k, by omega, .inr h⟩
    · rintro ⟨i, h1, h2⟩
      by_cases hk : i = k
      · subst hk
        rcases h2 with h2 | h2
        · exact .inl (.inr h2)
        · exact .inr h2
      · exact .inl (.inl ⟨i, by omega, h2⟩)
theorem Ok_iff {n : Nat} {L : Nat → Nat} {v : Nat} : ∀ k, Ok n L k v = true ↔ ∃ i, i < k ∧ (v = L i ∨ v = L (16 + n + i))
  | 0 => by simp [Ok]
  | k + 1 => by
    rw [Ok, Bool.or_eq_true, Bool.or_eq_true, Ok_iff k, decide_eq_true_eq, decide_eq_true_eq]
    constructor
    · rintro ((⟨i, h1, h2⟩ | h) | h)
      · exact ⟨i, by omega, h2⟩
      · exact ⟨k, by omega, .inl h⟩
      · exact ⟨k, by omega, .inr h⟩
    · rintro ⟨i, h1, h2⟩
      by_cases hk : i = k
      · subst hk
        rcases h2 with h2 | h2
        · exact .inl (.inr h2)
        · exact .inr h2
      · exact .inl (.inl ⟨i, by omega, h2⟩)
theorem bool_iff {x y : Bool} (h : x = true ↔ y = true) : x = y := by cases x <;> cases y <;> simp at h ⊢
section
variable {n : Nat} {a b : List Nat} (ha : IsV n a) (hb : IsV n b) {ba bb : List Bool}
  (hB : ∀ l p, p < 2 * n → bl2 ba bb l (mt a b l p) = bl2 ba bb l p)
include ha hb
theorem bk_has {x : Nat} (hx : x < 2 * n ∨ (16 ≤ x ∧ x < 16 + 2 * n)) : Bk ba bb (LB n a b n) (2 * n) (LB n a b n x) = true ↔ hasB n a b ba bb (phi n x) := by
  have hn := ha.n8
  rw [Bk_iff]
  have p1 : ∀ i, i < 2 * n → phi n i = vx n false i := fun i hi => by unfold phi vx; rw [if_pos (by omega)]
  have p2 : ∀ i, i < 2 * n → phi n (16 + i) = vx n true i := fun i hi => by
    show (if 16 + i < 16 then 16 + i else 16 + i - 16 + n) = n + i
    rw [if_neg (by omega)]; omega
  constructor
  · rintro ⟨i, hi, ⟨h1, h2⟩ | ⟨h1, h2⟩⟩
    · have := (LB_iff ha hb hx (.inl hi)).1 h2
      rw [p1 i hi] at this
      exact ⟨false, i, hi, h1, this⟩
    · have := (LB_iff ha hb hx (.inr (by omega))).1 h2
      rw [p2 i hi] at this
      exact ⟨true, i, hi, h1, this⟩
  · rintro ⟨k, q, hq, h1, h2⟩
    cases k with
    | false =>
      rw [← p1 q hq] at h2
      exact ⟨q, hq, .inl ⟨h1, (LB_iff ha hb hx (.inl hq)).2 h2⟩⟩
    | true =>
      rw [← p2 q hq] at h2
      exact ⟨q, hq, .inr ⟨h1, (LB_iff ha hb hx (.inr (by omega))).2 h2⟩⟩
theorem ok_seen {x : Nat} (hx : x < n) : Ok n (LB n a b n) n (LB n a b n (n + x)) = true ↔ ∃ y, y ∈ outL n ∧ Cn (E2 n a b) y (n + x) := by
  have hn := ha.n8
  have hsym := E2.symm ha hb
  rw [Ok_iff]
  have hv : n + x < 2 * n ∨ (16 ≤ n + x ∧ n + x < 16 + 2 * n) := .inl (by omega)
  have pv : phi n (n + x) = n + x := by unfold phi; rw [if_pos (by omega)]
  constructor
  · rintro ⟨i, hi, h | h⟩
    · have := (LB_iff ha hb hv (.inl (by omega))).1 h
      rw [pv, show phi n i = i from by unfold phi; rw [if_pos (by omega)]] at this
      exact ⟨i, mem_outL.2 (.inl hi), this.symm hsym⟩
    · have := (LB_iff ha hb hv (.inr (by omega))).1 h
      rw [pv, show phi n (16 + n + i) = 2 * n + i from by unfold phi; rw [if_neg (by omega)]; omega] at this
      exact ⟨2 * n + i, mem_outL.2 (.inr (by omega)), this.symm hsym⟩
  · rintro ⟨y, hy, h⟩
    rcases mem_outL.1 hy with h1 | ⟨h1, h2⟩
    · refine ⟨y, h1, .inl ((LB_iff ha hb hv (.inl (by omega))).2 ?_)⟩
      rw [pv, show phi n y = y from by unfold phi; rw [if_pos (by omega)]]
      exact h.symm hsym
    · refine ⟨y - 2 * n, by omega, .inr ((LB_iff ha hb hv (.inr (by omega))).2 ?_)⟩
      rw [pv, show phi n (16 + n + (y - 2 * n)) = y from by unfold phi; rw [if_neg (by omega)]; omega]
      exact h.symm hsym
include hB
theorem rB_eq : ∀ k, k ≤ n → rB n (LB n a b n) (Bk ba bb (LB n a b n) (2 * n)) k = bbO n a b ba bb k
  | 0, _ => rfl
  | k + 1, hk => by
    have hn := ha.n8
    rw [rB, bbO, rB_eq k (by omega)]
    have h1 : Bk ba bb (LB n a b n) (2 * n) (LB n a b n k) = mB n a b ba bb 17 false k := bool_iff (by
      have h := mB_iff ha hb hB (p := k) (by omega)
      rw [show lay n k = false from decide_eq_false (by omega), show op n k = k from if_pos (by omega)] at h
      rw [bk_has ha hb (.inl (by omega)), show phi n k = k from if_pos (by omega)]
      exact h.symm)
    have h2 : Bk ba bb (LB n a b n) (2 * n) (LB n a b n (16 + n + k)) = mB n a b ba bb 17 true (n + k) := bool_iff (by
      have h := mB_iff ha hb hB (p := n + k) (by omega)
      rw [show lay n (n + k) = true from decide_eq_true (by omega), show op n (n + k) = n + (n + k) from if_neg (by omega)] at h
      rw [bk_has ha hb (.inr (by omega)), show phi n (16 + n + k) = n + (n + k) from by unfold phi; rw [if_neg (by omega)]; omega]
      exact h.symm)
    rw [h1, h2]
theorem lpS_eq : ∀ (d j : Nat) (s : List Bool) (c : Nat × Nat) (seen : List Nat) (O : Nat → Bool), j + d = n → s.length = 8 → G n a b s → (∀ x, x < n → (s.getD x false = true ↔ ∃ y, y ∈ seen ∧ Cn (E2 n a b) y (n + x))) → (∀ x, x < n → (O (LB n a b n (n + x)) = true ↔ ∃ y, y ∈ seen ∧ Cn (E2 n a b) y (n + x))) →
    lpOB n a b ba bb d j s c = lpS n (LB n a b n) (Bk ba bb (LB n a b n) (2 * n)) d j O c
  | 0, _, _, _, _, _, _, _, _, _, _ => rfl
  | d + 1, j, s, c, seen, O, hj, hs, hG, hI, hO => by
    have hn := ha.n8
    have hsym := E2.symm ha hb
    rw [lpOB, lpS]
    have hsO : s.getD j false = O (LB n a b n (n + j)) := bool_iff ((hI j (by omega)).trans (hO j (by omega)).symm)
    rw [← hsO]
    cases hc : s.getD j false with
    | true =>
      rw [if_pos rfl, if_pos rfl]
      exact lpS_eq d (j + 1) s c seen O (by omega) hs hG hI hO
    | false =>
      rw [if_neg (show ¬ (false = true) by decide), if_neg (show ¬ (false = true) by decide)]
      obtain ⟨k1, k2, _, k4⟩ := spI_class ha hb hs hG (show j < n by omega) hI hc
      have hm : mL n a b ba bb j 8 true j = Bk ba bb (LB n a b n) (2 * n) (LB n a b n (n + j)) := bool_iff (by
        rw [mL_iff ha hb hB hs hG (show j < n by omega) hI hc, bk_has ha hb (.inl (by omega)), show phi n (n + j) = n + j from if_pos (by omega)])
      rw [← hm]
      refine lpS_eq d (j + 1) (spI n a b 8 j s) _ ((n + j) :: seen) _ (by omega) k1 k2 k4 fun x hx => ?_
      rw [Bool.or_eq_true, decide_eq_true_eq, hO x hx, LB_iff ha hb (.inl (by omega)) (.inl (by omega)), show phi n (n + x) = n + x from if_pos (by omega), show phi n (n + j) = n + j from if_pos (by omega)]
      constructor
      · rintro (⟨y, hy, h⟩ | h)
        · exact ⟨y, by simp [hy], h⟩
        · exact ⟨n + j, by simp, h.symm hsym⟩
      · rintro ⟨y, hy, h⟩
        rcases List.mem_cons.1 hy with rfl | hy
        · exact .inr (h.symm hsym)
        · exact .inl ⟨y, hy, h⟩
theorem lpNB_eq : lpNB n a b ba bb = lpS n (LB n a b n) (Bk ba bb (LB n a b n) (2 * n)) n 0 (Ok n (LB n a b n) n) (0, 0) :=
  lpS_eq ha hb hB n 0 (oL n a b n).2 (0, 0) (outL n) _ (by omega) (oL_inv ha hb n (Nat.le_refl n)).2.1 (oL_G ha hb) (fun x hx => oL_seen ha hb hx) fun x hx => ok_seen ha hb hx
end
end Go.Proofs.Ytcibbadioijmcaa.VE
