/- Contracts of functions of the given program, for all arguments that the contract names; see each theorem. -/
import Derived.Test.YtcibbadioijmcaaM12
import Derived.Test.YtcibbadioijmcaaU21
set_option linter.all false
namespace Go.Proofs.Ytcibbadioijmcaa.VE
open Go
set_option maxHeartbeats 800000
set_option maxRecDepth 100000

/-! plain: words of blobs and generators -/
theorem lpOB_le {n : Nat} {a b : List Nat} {ba bb : List Bool} : ∀ d j s c, (lpOB n a b ba bb d j s c).1 + (lpOB n a b ba bb d j s c).2 ≤ c.1 + c.2 + d
  | 0, _, _, c => Nat.le_refl _
  | d + 1, j, s, c => by
    rw [lpOB]; split
    · have := lpOB_le (n := n) (a := a) (b := b) (ba := ba) (bb := bb) d (j + 1) s c; omega
    · have := lpOB_le (n := n) (a := a) (b := b) (ba := ba) (bb := bb) d (j + 1) (spI n a b 8 j s) (if mL n a b ba bb j 8 true j = true then (c.1, c.2 + 1) else (c.1 + 1, c.2))
      split at this <;> simp only [] at this <;> simp_all <;> omega
theorem lpNB_le {n : Nat} {a b : List Nat} {ba bb : List Bool} : (lpNB n a b ba bb).1 + (lpNB n a b ba bb).2 ≤ n := by
  have := lpOB_le (n := n) (a := a) (b := b) (ba := ba) (bb := bb) n 0 (oL n a b n).2 (0, 0)
  unfold lpNB; simp only [] at this; omega
theorem bbO_get {n : Nat} {a b : List Nat} {ba bb : List Bool} (hn : n ≤ 8) : ∀ k, k ≤ n → ∀ j, (bbO n a b ba bb k).getD j false = if j < k then mB n a b ba bb 17 false j else if n ≤ j ∧ j < n + k then mB n a b ba bb 17 true j else false
  | 0, _, j => by
    rw [if_neg (by omega), if_neg (by omega)]
    simp only [bbO, List.getD_eq_getElem?_getD, List.getElem?_replicate]
    split <;> rfl
  | k + 1, hk, j => by
    have ih := bbO_get (a := a) (b := b) (ba := ba) (bb := bb) hn k (by omega) j
    have hl := bbO_len (n := n) (a := a) (b := b) (ba := ba) (bb := bb) (i := k)
    rw [bbO, getB_set (by rw [List.length_set]; omega), getB_set (by omega), ih]
    by_cases h1 : n + k = j
    · subst h1; rw [if_pos rfl, if_neg (by omega), if_pos (by omega)]
    · rw [if_neg h1]
      by_cases h2 : k = j
      · subst h2; rw [if_pos rfl, if_pos (by omega)]
      · rw [if_neg h2]
        by_cases h3 : j < k
        · rw [if_pos h3, if_pos (show j < k + 1 by omega)]
        · rw [if_neg h3, if_neg (show ¬ j < k + 1 by omega)]
          by_cases h4 : n ≤ j ∧ j < n + k
          · rw [if_pos h4, if_pos (show n ≤ j ∧ j < n + (k + 1) by omega)]
          · rw [if_neg h4, if_neg (show ¬ (n ≤ j ∧ j < n + (k + 1)) by omega)]
/-- Both ends of a line tell the same. -/
def symB (n : Nat) (m : List Nat) (bs : List Bool) : Prop := ∀ p, p < 2 * n → bs.getD (m.getD p 0) false = bs.getD p false
theorem symB2 {n : Nat} {a b : List Nat} {ba bb : List Bool} (h1 : symB n a ba) (h2 : symB n b bb) : ∀ l p, p < 2 * n → bl2 ba bb l (mt a b l p) = bl2 ba bb l p := fun l p hp => by
  cases l
  · exact h1 p hp
  · exact h2 p hp
theorem bbO_sym {n : Nat} {a b : List Nat} {ba bb : List Bool} (ha : IsV n a) (hb : IsV n b) (h1 : symB n a ba) (h2 : symB n b bb) : symB n (oL n a b n).1 (bbO n a b ba bb n) := by
  intro p hp
  have hn := ha.n8
  have hB := symB2 h1 h2
  have hget : ∀ j, j < 2 * n → (bbO n a b ba bb n).getD j false = mB n a b ba bb 17 (lay n j) j := fun j hj => by
    rw [bbO_get hn n (Nat.le_refl n)]
    by_cases h : j < n
    · rw [if_pos h, show lay n j = false from decide_eq_false (by omega)]
    · rw [if_neg h, if_pos (by omega), show lay n j = true from decide_eq_true (by omega)]
  have ho : (oL n a b n).1.getD p 0 = om n a b p := by
    rw [oL_get ha hb n (Nat.le_refl n)]
    by_cases h : p < n
    · rw [if_pos h]
    · rw [if_neg h, if_pos (by omega)]
  have hol := om_lt ha hb hp
  have hc := om_conn ha hb hp
  rw [ho, hget _ hol, hget p hp]
  refine bool_iff ?_
  rw [mB_iff ha hb hB hol, mB_iff ha hb hB hp]
  constructor
  · rintro ⟨k, q, h3, h4, h5⟩; exact ⟨k, q, h3, h4, hc.trans h5⟩
  · rintro ⟨k, q, h3, h4, h5⟩; exact ⟨k, q, h3, h4, (hc.symm (E2.symm ha hb)).trans h5⟩
def gm (n : Nat) (x : Int) : List Nat := if x < 0 then un n else gen n x.toNat
def gbl (n : Nat) (x : Int) : List Bool := if x < 0 then ((List.replicate 16 false).set 0 true).set n true else List.replicate 16 false
theorem gbl_len {n : Nat} {x : Int} : (gbl n x).length = 16 := by unfold gbl; split <;> simp
theorem gm_V {n : Nat} {x : Int} (hn1 : 1 ≤ n) (hn : n ≤ 8) (h : x ≤ (n : Int) - 2) : IsV n (gm n x) := by
  unfold gm; split
  · exact un_V hn1 hn
  · exact gen_V hn (by omega)
theorem gbl_sym {n : Nat} {x : Int} (hn1 : 1 ≤ n) (hn : n ≤ 8) : symB n (gm n x) (gbl n x) := by
  intro p hp
  unfold gm gbl
  by_cases h : x < 0
  · rw [if_pos h, if_pos h]
    have hg : ∀ j, (((List.replicate 16 false).set 0 true).set n true).getD j false = if n = j then true else if 0 = j then true else (List.replicate 16 false).getD j false := fun j => by
      rw [getB_set (by simp; omega), getB_set (by simp)]
    have hz : ∀ j, (List.replicate 16 false).getD j false = false := fun j => by
      rw [List.getD_eq_getElem?_getD, List.getElem?_replicate]; split <;> rfl
    rw [un_get hn, hg, hg, hz, hz]
    by_cases h1 : p < n
    · rw [if_pos h1]
      by_cases h2 : p = 0
      · subst h2; rw [if_pos (by omega), if_neg (by omega), if_pos rfl]
      · rw [if_neg (by omega), if_neg (by omega), if_neg (by omega), if_neg (by omega)]
    · rw [if_neg h1, if_pos hp]
      by_cases h2 : p = n
      · subst h2; rw [if_neg (by omega), if_pos (by omega), if_pos rfl]
      · rw [if_neg (by omega), if_neg (by omega), if_neg (by omega), if_neg (by omega)]
  · rw [if_neg h, if_neg h]
    have hz : ∀ j, (List.replicate 16 false).getD j false = false := fun j => by
      rw [List.getD_eq_getElem?_getD, List.getElem?_replicate]; split <;> rfl
    rw [hz, hz]
def vB (n : Nat) (g : Nat → Int) : Nat → List Nat × List Bool × (Nat × Nat)
  | 0 => (un n, List.replicate 16 false, (0, 0))
  | k + 1 => ((oL n (vB n g k).1 (gm n (g k)) n).1, bbO n (vB n g k).1 (gm n (g k)) (vB n g k).2.1 (gbl n (g k)) n,
      ((vB n g k).2.2.1 + (lpNB n (vB n g k).1 (gm n (g k)) (vB n g k).2.1 (gbl n (g k))).1, (vB n g k).2.2.2 + (lpNB n (vB n g k).1 (gm n (g k)) (vB n g k).2.1 (gbl n (g k))).2))
def okB (n : Int) (g : Nat → Int) (N : Nat) : Prop := ∀ j, j < N → -1 ≤ g j ∧ g j ≤ n - 2
theorem vB_ok {n : Nat} {g : Nat → Int} (hn1 : 1 ≤ n) (hn : n ≤ 8) : ∀ k, okB n g k → IsV n (vB n g k).1 ∧ (vB n g k).2.1.length = 16 ∧ symB n (vB n g k).1 (vB n g k).2.1 ∧ (vB n g k).2.2.1 + (vB n g k).2.2.2 ≤ 8 * k
  | 0, _ => ⟨un_V hn1 hn, by simp [vB], fun p _ => by
      have hz : ∀ j, (List.replicate 16 false).getD j false = false := fun j => by
        rw [List.getD_eq_getElem?_getD, List.getElem?_replicate]; split <;> rfl
      show (List.replicate 16 false).getD _ false = (List.replicate 16 false).getD _ false
      rw [hz, hz], by simp [vB]⟩
  | k + 1, h => by
    have hk := h k (by omega)
    obtain ⟨h1, h2, h3, h4⟩ := vB_ok hn1 hn k fun j hj => h j (by omega)
    have hV := gm_V (n := n) (x := g k) hn1 hn hk.2
    have hle := lpNB_le (n := n) (a := (vB n g k).1) (b := gm n (g k)) (ba := (vB n g k).2.1) (bb := gbl n (g k))
    refine ⟨oL_V h1 hV, bbO_len, bbO_sym h1 hV h3 (gbl_sym hn1 hn), ?_⟩
    show (vB n g k).2.2.1 + _ + ((vB n g k).2.2.2 + _) ≤ _
    omega
end Go.Proofs.Ytcibbadioijmcaa.VE
