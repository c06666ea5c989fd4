/- Contracts of functions of the given program, for all arguments that the contract names; see each theorem. -/
import Derived.Test.YtcibbadioijmcaaM6
set_option linter.all false
namespace Go.Proofs.Ytcibbadioijmcaa.VE
open Go
set_option maxHeartbeats 800000
set_option maxRecDepth 100000

/-! plain: the loops, without and with blobs -/
def metL (n : Nat) (a b : List Nat) (m : Nat) : Nat → Bool → Nat → List (Bool × Nat)
  | 0, _, _ => []
  | d + 1, l, p => (l, p) :: (if md n l (mt a b l p) = m then [] else metL n a b m d (!l) (ep n (!l) (md n l (mt a b l p))))
theorem mL_any {n : Nat} {a b : List Nat} {ba bb : List Bool} {m : Nat} : ∀ (d : Nat) (l : Bool) (p : Nat), mL n a b ba bb m d l p = (metL n a b m d l p).any fun x => bl2 ba bb x.1 x.2
  | 0, _, _ => rfl
  | d + 1, l, p => by
    rw [mL_pack, metL, List.any_cons]
    congr 1
    split
    · rfl
    · exact mL_any d _ _
theorem flI_met {n : Nat} {a b : List Nat} {m x : Nat} : ∀ (d : Nat) (l : Bool) (p : Nat) (s : List Bool), (flI n a b m d l p s).getD x false = true → s.getD x false = true ∨ ∃ k q, (k, q) ∈ metL n a b m d l p ∧ md n k (mt a b k q) = x
  | 0, _, _, _, h => .inl h
  | d + 1, l, p, s, h => by
    rw [flI] at h
    rw [metL]
    have set_or : ∀ s : List Bool, (s.set (md n l (mt a b l p)) true).getD x false = true → s.getD x false = true ∨ md n l (mt a b l p) = x := fun s h => by
      by_cases hv : md n l (mt a b l p) = x
      · exact .inr hv
      · refine .inl ?_
        rw [List.getD_eq_getElem?_getD, List.getElem?_set_ne hv] at h
        rwa [List.getD_eq_getElem?_getD]
    split at h
    · rcases set_or s h with h | h
      · exact .inl h
      · exact .inr ⟨l, p, by simp, h⟩
    · rename_i hne
      rw [if_neg hne]
      rcases flI_met d _ _ _ h with h | ⟨k, q, h1, h2⟩
      · rcases set_or s h with h | h
        · exact .inl h
        · exact .inr ⟨l, p, by simp, h⟩
      · exact .inr ⟨k, q, List.mem_cons_of_mem _ h1, h2⟩
section
variable {n : Nat} {a b : List Nat} (ha : IsV n a) (hb : IsV n b)
include ha hb
theorem met_ok {m : Nat} : ∀ (d : Nat) (l : Bool) (p : Nat), p < 2 * n → endM n a b m d l p → ∀ k q, (k, q) ∈ metL n a b m d l p →
    q < 2 * n ∧ isOut n k (mt a b k q) = false ∧ Cn (E2 n a b) (vx n l p) (vx n k q) ∧ (md n k (mt a b k q) ≠ m → (!k, ep n (!k) (md n k (mt a b k q))) ∈ metL n a b m d l p)
  | 0, _, _, _, h, _, _, _ => h.elim
  | d + 1, l, p, hp, he, k, q, h => by
    have hl := mt_lt ha hb (l := l) hp
    obtain ⟨ho, he⟩ := (show isOut n l (mt a b l p) = false ∧ (md n l (mt a b l p) = m ∨ endM n a b m d (!l) (ep n (!l) (md n l (mt a b l p)))) from he)
    rw [metL] at h ⊢
    have hy := md_lt hl ho
    rcases List.mem_cons.1 h with h | h
    · obtain ⟨rfl, rfl⟩ := Prod.mk.inj h
      refine ⟨hp, ho, .refl _, fun hne => ?_⟩
      rw [if_neg hne]
      cases d with
      | zero => exact (he.resolve_left hne).elim
      | succ d => exact List.mem_cons_of_mem _ (by rw [metL]; exact List.mem_cons_self)
    · by_cases hm : md n l (mt a b l p) = m
      · rw [if_pos hm] at h; simp at h
      · rw [if_neg hm] at h ⊢
        obtain ⟨h1, h2, h3, h4⟩ := met_ok d _ _ (ep_lt hy) (he.resolve_left hm) k q h
        rw [vx_ep, ← vx_md ho] at h3
        exact ⟨h1, h2, (Cn.one (E2_mt ha hb hp)).trans h3, fun hne => List.mem_cons_of_mem _ (h4 hne)⟩
end
section
variable {n : Nat} {a b : List Nat} (ha : IsV n a) (hb : IsV n b) {ba bb : List Bool}
  (hB : ∀ l p, p < 2 * n → bl2 ba bb l (mt a b l p) = bl2 ba bb l p)
  {s : List Bool} {seen : List Nat} {i : Nat} (hs : s.length = 8) (hG : G n a b s) (hi : i < n)
  (hI : ∀ x, x < n → (s.getD x false = true ↔ ∃ y, y ∈ seen ∧ Cn (E2 n a b) y (n + x)))
  (hc : s.getD i false = false)
include ha hb hs hG hi hI hc
theorem spI_class : (spI n a b 8 i s).length = 8 ∧ G n a b (spI n a b 8 i s) ∧ (∀ x, x < n → (nw s (spI n a b 8 i s) x ↔ Cn (E2 n a b) (n + i) (n + x))) ∧
    ∀ x, x < n → ((spI n a b 8 i s).getD x false = true ↔ ∃ y, y ∈ (n + i) :: seen ∧ Cn (E2 n a b) y (n + x)) := by
  have hsym : ∀ x y, Cn (E2 n a b) x y → Cn (E2 n a b) y x := fun x y h => h.symm (E2.symm ha hb)
  have hno : ¬ ∃ y, y ∈ seen ∧ Cn (E2 n a b) y (n + i) := fun h => by rw [(hI i (by omega)).2 h] at hc; cases hc
  have hcf := cF_all (s := s)
  have hn0 : ∀ v, ¬ nw s s v := fun v h => by have := h.1; rw [h.2] at this; cases this
  have hR := spI_res ha hb hs hG (show i < n by omega) hc 8 i s hs (by omega) (fun v h => h) (by omega) hc (.inl ⟨rfl, rfl⟩) fun T h _ => ⟨fun v hv => absurd hv (hn0 v), h⟩
  have hG2 := Res.G ha hb hs hG (show i < n by omega) hc hR
  have edge : ∀ v, v < n → s.getD v false = false → ∀ k, E2 n a b (n + v) (n + sg n a b k v) := fun v hv hsv k => by
    have ho := (hG v hv hsv k).1
    have := E2_mt ha hb (l := k) (ep_lt (l := k) hv)
    rw [vx_ep] at this
    rw [show n + sg n a b k v = vx n k (mt a b k (ep n k v)) from (vx_md ho).symm]; exact this
  have hnw : ∀ x, x < n → (nw s (spI n a b 8 i s) x ↔ Cn (E2 n a b) (n + i) (n + x)) := fun x hx => by
    constructor
    · exact hR.mn (fun v => Cn (E2 n a b) (n + i) (n + v)) (.refl _) (fun v hv hsv h k => .step h (edge v hv hsv k)) x
    · intro h
      have hcl := Cn.closed (S := fun w => ∃ v, v < n ∧ w = n + v ∧ nw s (spI n a b 8 i s) v) (fun w z hw hE => by
        obtain ⟨v, hv, rfl, hnv⟩ := hw
        have go : ∀ k, z = vx n k (mt a b k (ep n k v)) → ∃ v, v < n ∧ z = n + v ∧ nw s (spI n a b 8 i s) v := fun k hz => by
          have ho := (hG v hv hnv.2 k).1
          have h5 := hR.cl v hnv k
          exact ⟨_, hR.lt _ h5, by rw [hz]; exact vx_md ho, h5⟩
        rw [← vx_ep (n := n) (x := v) (l := true)] at hE
        rcases E2_vx ha hb (ep_lt (n := n) (l := true) hv) hE with h | ⟨_, h⟩
        · exact go true h
        · rw [md_ep] at h; exact go false h) h ⟨i, by omega, rfl, hR.st⟩
      obtain ⟨v, _, h1, h2⟩ := hcl
      have : x = v := by omega
      rw [this]; exact h2
  refine ⟨hR.len, hG2, hnw, fun x hx => ?_⟩
  constructor
  · intro h
    cases hsx : s.getD x false with
    | true =>
      obtain ⟨y, hy, hr⟩ := (hI x hx).1 hsx
      exact ⟨y, by simp [hy], hr⟩
    | false => exact ⟨n + i, by simp, (hnw x hx).1 ⟨h, hsx⟩⟩
  · rintro ⟨y, hy, hr⟩
    rcases List.mem_cons.1 hy with rfl | hy
    · exact ((hnw x hx).2 hr).1
    · exact hR.mono x ((hI x hx).2 ⟨y, hy, hr⟩)
include hB
theorem mL_iff : mL n a b ba bb i 8 true i = true ↔ hasB n a b ba bb (n + i) := by
  obtain ⟨q1, q2, q3⟩ := loop_eq ha hb hs hG hi hc
  obtain ⟨_, _, hnw, _⟩ := spI_class ha hb hs hG hi hI hc
  have hok := met_ok ha hb 8 true i (by omega) q1
  rw [mL_any, List.any_eq_true]
  constructor
  · rintro ⟨⟨k, q⟩, h1, h2⟩
    obtain ⟨h3, _, h5, _⟩ := hok k q h1
    exact ⟨k, q, h3, h2, h5⟩
  · rintro ⟨k, q, hq, h1, h2⟩
    -- all of the part lies in the middle, not yet seen
    have mid : ∀ w, Cn (E2 n a b) (n + i) w → ∃ v, v < n ∧ w = n + v ∧ s.getD v false = false := fun w hw => by
      refine Cn.closed (S := fun w => ∃ v, v < n ∧ w = n + v ∧ s.getD v false = false) (fun w z hw hE => ?_) hw ⟨i, hi, rfl, hc⟩
      obtain ⟨v, hv, rfl, hsv⟩ := hw
      have go : ∀ k, z = vx n k (mt a b k (ep n k v)) → ∃ v, v < n ∧ z = n + v ∧ s.getD v false = false := fun k hz => by
        obtain ⟨h3, h4⟩ := hG v hv hsv k
        exact ⟨_, md_lt (mt_lt ha hb (ep_lt hv)) h3, by rw [hz]; exact vx_md h3, h4⟩
      rw [← vx_ep (n := n) (x := v) (l := true)] at hE
      rcases E2_vx ha hb (ep_lt (n := n) (l := true) hv) hE with h | ⟨_, h⟩
      · exact go true h
      · rw [md_ep] at h; exact go false h
    have marked : ∀ v, v < n → Cn (E2 n a b) (n + i) (n + v) → ∃ k q, (k, q) ∈ metL n a b i 8 true i ∧ md n k (mt a b k q) = v := fun v hv h => by
      have h3 := (hnw v hv).2 h
      rw [← q2] at h3
      rcases flI_met 8 true i s h3.1 with h4 | h4
      · rw [h3.2] at h4; cases h4
      · exact h4
    obtain ⟨x, hx, hvx, hsx⟩ := mid _ h2
    have hqx : q = ep n k x := by
      cases k <;> simp only [vx, ep] at hvx ⊢ <;> omega
    obtain ⟨k1, p1, h3, h4⟩ := marked x hx (by rw [← hvx]; exact h2)
    obtain ⟨o1, o2, o3, o4⟩ := hok k1 p1 h3
    by_cases hk : k1 = k
    · subst hk
      refine ⟨(k1, p1), h3, ?_⟩
      have := hB k1 p1 o1
      rw [show mt a b k1 p1 = q from by rw [hqx, ← h4, ep_md o2]] at this
      exact this ▸ h1
    · have hk' : (!k1) = k := by cases k1 <;> cases k <;> simp at hk ⊢
      by_cases hxi : x = i
      · subst hxi
        cases k with
        | true =>
          refine ⟨(true, x), by rw [metL]; exact List.mem_cons_self, ?_⟩
          have : q = x := hqx
          rw [this] at h1; exact h1
        | false =>
          obtain ⟨g1, g2⟩ := hG x hx hc false
          have hz : sg n a b false x < n := md_lt (mt_lt ha hb (ep_lt hx)) g1
          have hE : E2 n a b (n + x) (n + sg n a b false x) := by
            have := E2_mt ha hb (l := false) (ep_lt (l := false) hx)
            rw [vx_ep] at this
            rw [show n + sg n a b false x = vx n false (mt a b false (ep n false x)) from (vx_md g1).symm]; exact this
          obtain ⟨k2, p2, h5, h6⟩ := marked _ hz (Cn.one hE)
          obtain ⟨o5, o6, o7, o8⟩ := hok k2 p2 h5
          have hback : ep n false (sg n a b false x) = mt a b false (ep n false x) := ep_md g1
          have hmm : mt a b false (mt a b false (ep n false x)) = ep n false x := mt_mt ha hb (ep_lt hx)
          cases k2 with
          | false =>
            have e2 : mt a b false p2 = mt a b false (ep n false x) := by rw [← hback, ← h6, ep_md o6]
            have e3 : p2 = ep n false x := by rw [← mt_mt ha hb (l := false) o5, e2, hmm]
            exact ⟨(false, p2), h5, by rw [e3, ← hqx]; exact h1⟩
          | true =>
            have hne : sg n a b false x ≠ x := fun e => by
              rw [e] at hback
              exact mt_ne ha hb (l := false) (ep_lt hx) hback.symm
            have h7 := o8 (by rw [h6]; exact hne)
            rw [h6] at h7
            refine ⟨_, h7, ?_⟩
            have h8 := hB false (ep n false x) (ep_lt hx)
            show bl2 ba bb false (ep n false (sg n a b false x)) = true
            rw [hback, h8, ← hqx]; exact h1
      · have h7 := o4 (by rw [h4]; exact hxi)
        rw [h4, hk'] at h7
        exact ⟨_, h7, by show bl2 ba bb k (ep n k x) = true; rw [← hqx]; exact h1⟩
end
end Go.Proofs.Ytcibbadioijmcaa.VE
