/- Contracts of functions of the given program, for all arguments that the contract names; see each theorem. -/
import Derived.Test.YtcibbadioijmcaaM8
import Derived.Test.YtcibbadioijmcaaM4
set_option linter.all false
namespace Go.Proofs.Ytcibbadioijmcaa.VE
open Go
set_option maxHeartbeats 800000
set_option maxRecDepth 100000

/-! plain: the reference's flags -/
def Bk (ba bb : List Bool) (L : Nat → Nat) : Nat → Nat → Bool
  | 0, _ => false
  | i + 1, v => (Bk ba bb L i v || (ba.getD i false && decide (v = L i))) || (bb.getD i false && decide (v = L (16 + i)))
def Ok (n : Nat) (L : Nat → Nat) : Nat → Nat → Bool
  | 0, _ => false
  | i + 1, v => (Ok n L i v || decide (v = L i)) || decide (v = L (16 + n + i))
def lpS (n : Nat) (L : Nat → Nat) (B : Nat → Bool) : Nat → Nat → (Nat → Bool) → Nat × Nat → Nat × Nat
  | 0, _, _, c => c
  | d + 1, j, O, c => if O (L (n + j)) = true then lpS n L B d (j + 1) O c else lpS n L B d (j + 1) (fun v => O v || decide (v = L (n + j))) (lpC (B (L (n + j))) c)
def rB (n : Nat) (L : Nat → Nat) (B : Nat → Bool) : Nat → List Bool
  | 0 => List.replicate 16 false
  | i + 1 => ((rB n L B i).set i (B (L i))).set (n + i) (B (L (16 + n + i)))
theorem Bk_iff {ba bb : List Bool} {L : Nat → Nat} {v : Nat} : ∀ k, Bk ba bb L k v = true ↔ ∃ i, i < k ∧ ((ba.getD i false = true ∧ v = L i) ∨ (bb.getD i false = true ∧ v = L (16 + i)))
  | 0 => by simp [Bk]
  | k + 1 => by
    rw [Bk, Bool.or_eq_true, Bool.or_eq_true, Bk_iff k, Bool.and_eq_true, Bool.and_eq_true, decide_eq_true_eq, decide_eq_true_eq]
    constructor
    · rintro ((⟨i, h1, h2⟩ | h) | h)
      · exact ⟨i, by omega, h2⟩
      · exact ⟨k, by omega, .inl h⟩
      · exact ⟨k, by omega, .inr h⟩
    · rintro ⟨i, h1, h2⟩
      by_cases hk : i = k
      · subst hk
        rcases h2 with h2 | h2
        · exact .inl (.inr h2)
        · exact .inr h2
      · exact .inl (.inl ⟨i, by omega, h2⟩)
theorem Ok_iff {n : Nat} {L : Nat → Nat} {v : Nat} : ∀ k, Ok n L k v = true ↔ ∃ i, i < k ∧ (v = L i ∨ v = L (16 + n + i))
  | 0 => by simp [Ok]
  | k + 1 => by
    rw [Ok, Bool.or_eq_true, Bool.or_eq_true, Ok_iff k, decide_eq_true_eq, decide_eq_true_eq]
    constructor
    · rintro ((⟨i, h1, h2⟩ | h) | h)
      · exact ⟨i, by omega, h2⟩
      · exact ⟨k, by omega, .inl h⟩
      · exact ⟨k, by omega, .inr h⟩
    · rintro ⟨i, h1, h2⟩
      by_cases hk : i = k
      · subst hk
        rcases h2 with h2 | h2
        · exact .inl (.inr h2)
        · exact .inr h2
      · exact .inl (.inl ⟨i, by omega, h2⟩)
theorem bool_iff {x y : Bool} (h : x = true ↔ y = true) : x = y := by cases x <;> cases y <;> simp at h ⊢
section
variable {n : Nat} {a b : List Nat} (ha : IsV n a) (hb : IsV n b) {ba bb : List Bool}
  (hB : ∀ l p, p < 2 * n → bl2 ba bb l (mt a b l p) = bl2 ba bb l p)
include ha hb
theorem bk_has {x : Nat} (hx : x < 2 * n ∨ (16 ≤ x ∧ x < 16 + 2 * n)) : Bk ba bb (LB n a b n) (2 * n) (LB n a b n x) = true ↔ hasB n a b ba bb (phi n x) := by
  have hn := ha.n8
  rw [Bk_iff]
  have p1 : ∀ i, i < 2 * n → phi n i = vx n false i := fun i hi => by unfold phi vx; rw [if_pos (by omega)]
  have p2 : ∀ i, i < 2 * n → phi n (16 + i) = vx n true i := fun i hi => by
    show (if 16 + i < 16 then 16 + i else 16 + i - 16 + n) = n + i
    rw [if_neg (by omega)]; omega
  constructor
  · rintro ⟨i, hi, ⟨h1, h2⟩ | ⟨h1, h2⟩⟩
    · have := (LB_iff ha hb hx (.inl hi)).1 h2
      rw [p1 i hi] at this
      exact ⟨false, i, hi, h1, this⟩
    · have := (LB_iff ha hb hx (.inr (by omega))).1 h2
      rw [p2 i hi] at this
      exact ⟨true, i, hi, h1, this⟩
  · rintro ⟨k, q, hq, h1, h2⟩
    cases k with
    | false =>
      rw [← p1 q hq] at h2
      exact ⟨q, hq, .inl ⟨h1, (LB_iff ha hb hx (.inl hq)).2 h2⟩⟩
    | true =>
      rw [← p2 q hq] at h2
      exact ⟨q, hq, .inr ⟨h1, (LB_iff ha hb hx (.inr (by omega))).2 h2⟩⟩
theorem ok_seen {x : Nat} (hx : x < n) : Ok n (LB n a b n) n (LB n a b n (n + x)) = true ↔ ∃ y, y ∈ outL n ∧ Cn (E2 n a b) y (n + x) := by
  have hn := ha.n8
  have hsym := E2.symm ha hb
  rw [Ok_iff]
  have hv : n + x < 2 * n ∨ (16 ≤ n + x ∧ n + x < 16 + 2 * n) := .inl (by omega)
  have pv : phi n (n + x) = n + x := by unfold phi; rw [if_pos (by omega)]
  constructor
  · rintro ⟨i, hi, h | h⟩
    · have := (LB_iff ha hb hv (.inl (by omega))).1 h
      rw [pv, show phi n i = i from by unfold phi; rw [if_pos (by omega)]] at this
      exact ⟨i, mem_outL.2 (.inl hi), this.symm hsym⟩
    · have := (LB_iff ha hb hv (.inr (by omega))).1 h
      rw [pv, show phi n (16 + n + i) = 2 * n + i from by unfold phi; rw [if_neg (by omega)]; omega] at this
      exact ⟨2 * n + i, mem_outL.2 (.inr (by omega)), this.symm hsym⟩
  · rintro ⟨y, hy, h⟩
    rcases mem_outL.1 hy with h1 | ⟨h1, h2⟩
    · refine ⟨y, h1, .inl ((LB_iff ha hb hv (.inl (by omega))).2 ?_)⟩
      rw [pv, show phi n y = y from by unfold phi; rw [if_pos (by omega)]]
      exact h.symm hsym
    · refine ⟨y - 2 * n, by omega, .inr ((LB_iff ha hb hv (.inr (by omega))).2 ?_)⟩
      rw [pv, show phi n (16 + n + (y - 2 * n)) = y from by unfold phi; rw [if_neg (by omega)]; omega]
      exact h.symm hsym
include hB
theorem rB_eq : ∀ k, k ≤ n → rB n (LB n a b n) (Bk ba bb (LB n a b n) (2 * n)) k = bbO n a b ba bb k
  | 0, _ => rfl
  | k + 1, hk => by
    have hn := ha.n8
    rw [rB, bbO, rB_eq k (by omega)]
    have h1 : Bk ba bb (LB n a b n) (2 * n) (LB n a b n k) = mB n a b ba bb 17 false k := bool_iff (by
      have h := mB_iff ha hb hB (p := k) (by omega)
      rw [show lay n k = false from decide_eq_false (by omega), show op n k = k from if_pos (by omega)] at h
      rw [bk_has ha hb (.inl (by omega)), show phi n k = k from if_pos (by omega)]
      exact h.symm)
    have h2 : Bk ba bb (LB n a b n) (2 * n) (LB n a b n (16 + n + k)) = mB n a b ba bb 17 true (n + k) := bool_iff (by
      have h := mB_iff ha hb hB (p := n + k) (by omega)
      rw [show lay n (n + k) = true from decide_eq_true (by omega), show op n (n + k) = n + (n + k) from if_neg (by omega)] at h
      rw [bk_has ha hb (.inr (by omega)), show phi n (16 + n + k) = n + (n + k) from by unfold phi; rw [if_neg (by omega)]; omega]
      exact h.symm)
    rw [h1, h2]
theorem lpS_eq : ∀ (d j : Nat) (s : List Bool) (c : Nat × Nat) (seen : List Nat) (O : Nat → Bool), j + d = n → s.length = 8 → G n a b s → (∀ x, x < n → (s.getD x false = true ↔ ∃ y, y ∈ seen ∧ Cn (E2 n a b) y (n + x))) → (∀ x, x < n → (O (LB n a b n (n + x)) = true ↔ ∃ y, y ∈ seen ∧ Cn (E2 n a b) y (n + x))) →
    lpOB n a b ba bb d j s c = lpS n (LB n a b n) (Bk ba bb (LB n a b n) (2 * n)) d j O c
  | 0, _, _, _, _, _, _, _, _, _, _ => rfl
  | d + 1, j, s, c, seen, O, hj, hs, hG, hI, hO => by
    have hn := ha.n8
    have hsym := E2.symm ha hb
    rw [lpOB, lpS]
    have hsO : s.getD j false = O (LB n a b n (n + j)) := bool_iff ((hI j (by omega)).trans (hO j (by omega)).symm)
    rw [← hsO]
    cases hc : s.getD j false with
    | true =>
      rw [if_pos rfl, if_pos rfl]
      exact lpS_eq d (j + 1) s c seen O (by omega) hs hG hI hO
    | false =>
      rw [if_neg (show ¬ (false = true) by decide), if_neg (show ¬ (false = true) by decide)]
      obtain ⟨k1, k2, _, k4⟩ := spI_class ha hb hs hG (show j < n by omega) hI hc
      have hm : mL n a b ba bb j 8 true j = Bk ba bb (LB n a b n) (2 * n) (LB n a b n (n + j)) := bool_iff (by
        rw [mL_iff ha hb hB hs hG (show j < n by omega) hI hc, bk_has ha hb (.inl (by omega)), show phi n (n + j) = n + j from if_pos (by omega)])
      rw [← hm]
      refine lpS_eq d (j + 1) (spI n a b 8 j s) _ ((n + j) :: seen) _ (by omega) k1 k2 k4 fun x hx => ?_
      rw [Bool.or_eq_true, decide_eq_true_eq, hO x hx, LB_iff ha hb (.inl (by omega)) (.inl (by omega)), show phi n (n + x) = n + x from if_pos (by omega), show phi n (n + j) = n + j from if_pos (by omega)]
      constructor
      · rintro (⟨y, hy, h⟩ | h)
        · exact ⟨y, by simp [hy], h⟩
        · exact ⟨n + j, by simp, h.symm hsym⟩
      · rintro ⟨y, hy, h⟩
        rcases List.mem_cons.1 hy with rfl | hy
        · exact .inr (h.symm hsym)
        · exact .inl ⟨y, hy, h⟩
theorem lpNB_eq : lpNB n a b ba bb = lpS n (LB n a b n) (Bk ba bb (LB n a b n) (2 * n)) n 0 (Ok n (LB n a b n) n) (0, 0) :=
  lpS_eq ha hb hB n 0 (oL n a b n).2 (0, 0) (outL n) _ (by omega) (oL_inv ha hb n (Nat.le_refl n)).2.1 (oL_G ha hb) (fun x hx => oL_seen ha hb hx) fun x hx => ok_seen ha hb hx
end
end Go.Proofs.Ytcibbadioijmcaa.VE
