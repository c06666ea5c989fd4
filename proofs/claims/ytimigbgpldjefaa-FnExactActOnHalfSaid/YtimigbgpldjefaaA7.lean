/- Contracts of functions of the given program, for all arguments that the contract names; see each theorem. -/
import Derived.Test.YtimigbgpldjefaaA6
import Derived.Test.YtimigbgpldjefaaK1
import Derived.Test.YtimigbgpldjefaaU13a
import Derived.Test.YtimigbgpldjefaaU18a
set_option linter.all false
namespace Go.Proofs.Ytimigbgpldjefaa.VE
open Go
set_option maxHeartbeats 800000
set_option maxRecDepth 100000

theorem nodup_le : ∀ {l m : List Nat}, l.Nodup → (∀ x ∈ l, x ∈ m) → l.length ≤ m.length
  | [], _, _, _ => Nat.zero_le _
  | a :: l, m, hn, hs => by
    have ha := hs a (by simp)
    have h1 := List.length_erase_of_mem ha
    have h2 := List.length_pos_of_mem ha
    rw [List.nodup_cons] at hn
    have h3 := nodup_le (l := l) (m := m.erase a) hn.2 fun x hx => by
      have hxa : x ≠ a := fun e => hn.1 (e ▸ hx)
      exact (List.mem_erase_of_ne hxa).2 (hs x (by simp [hx]))
    simp only [List.length_cons]
    omega
theorem hB_tb {n : Nat} {m : List Nat} {fr i : Nat} (h : i < n) : tb (hB n m fr n) i = (hch n m fr i).toNat := by
  unfold tb hB hL
  rw [show (ByteArray.mk ((List.range n).map (hch n m fr)).toArray)[i]? = ((List.range n).map (hch n m fr))[i]? from by
    by_cases hi : i < ((List.range n).map (hch n m fr)).length
    · rw [getElem?_pos _ i (by exact hi), getElem?_pos _ i hi]; rfl
    · rw [getElem?_neg _ i (by exact hi), getElem?_neg _ i hi]]
  simp [h]
theorem hB_size {n : Nat} {m : List Nat} {fr : Nat} : (hB n m fr n).size = n := by
  show (((List.range n).map (hch n m fr)).toArray).size = n
  simp
theorem hch_bar {n : Nat} {m : List Nat} {i : Nat} : (hch n m 0 i).toNat = 124 ↔ n ≤ m.getD i 0 := by
  unfold hch
  rw [Nat.zero_add, Nat.zero_add]
  by_cases h : 0 ≤ m.getD i 0 ∧ m.getD i 0 < n
  · rw [if_pos h]
    refine ⟨fun e => ?_, fun e => by omega⟩
    split at e <;> exact absurd e (by decide)
  · rw [if_neg h]
    exact ⟨fun _ => by omega, fun _ => rfl⟩
section
variable {n : Nat} {d : List Nat} {t o : Nat → Nat} (hd : IsV n d) (h : ∀ j, j < n → o j < n ∧ o (o j) = j ∧ (o j = j ↔ t j = 124))
include hd h
/-- The halves' through lines do not grow. -/
theorem act_le : (opn (tb (hB n (oL n d (ml (hdF n t o)) n).1 0 n)) n).length ≤ (opn t n).length := by
  have hn1 := hd.n1
  have hn8 := hd.n8
  have hV := hd_V hn1 hn8 h
  generalize hb : ml (hdF n t o) = b at hV ⊢
  have hget : ∀ i, i < 2 * n → (oL n d b n).1.getD i 0 = om n d b i := fun i hi => by
    rw [oL_get hd hV n (Nat.le_refl n)]
    by_cases h1 : i < n
    · rw [if_pos h1]
    · rw [if_neg h1, if_pos (by omega)]
  have hmem : ∀ i, i ∈ opn (tb (hB n (oL n d b n).1 0 n)) n → i < n ∧ n ≤ om n d b i ∧ om n d b i < 2 * n := fun i hi => by
    obtain ⟨h1, h2⟩ := mem_opn.1 hi
    rw [hB_tb h1, hch_bar, hget i (by omega)] at h2
    exact ⟨h1, h2, om_lt hd hV (by omega)⟩
  have key := nodup_le (l := (opn (tb (hB n (oL n d b n).1 0 n)) n).map fun i => om n d b i - n) (m := opn t n) ?_ ?_
  · simpa using key
  · rw [List.Nodup, List.pairwise_map]
    refine List.Pairwise.imp_of_mem ?_ opn_nd
    intro x y hx hy hxy e
    obtain ⟨x1, x2, x3⟩ := hmem x hx
    obtain ⟨y1, y2, y3⟩ := hmem y hy
    have e2 : om n d b x = om n d b y := by omega
    have e3 := om_inv hd hV (p := x) (by omega)
    rw [e2, om_inv hd hV (by omega)] at e3
    exact hxy e3.symm
  · intro z hz
    obtain ⟨i, hi, rfl⟩ := List.mem_map.1 hz
    obtain ⟨i1, i2, i3⟩ := hmem i hi
    refine mem_opn.2 ⟨by omega, ?_⟩
    refine Decidable.byContradiction fun ht => ?_
    have e1 := om_inv hd hV (p := i) (by omega)
    generalize om n d b i = q at i2 i3 ht e1
    have hbq : b.getD q 0 = n + o (q - n) := by
      rw [← hb, ml_get (by omega)]
      unfold hdF
      rw [if_neg (by omega), if_pos i3, if_neg ht]
    have e2 : om n d b q = b.getD q 0 := by
      unfold om
      rw [show lay n q = true from decide_eq_true i2]
      show (if decide (n ≤ b.getD q 0) = true then (b.getD q 0, true, []) else _).1 = _
      rw [if_pos (decide_eq_true (by omega))]
    omega
end
/-- What acting gives. -/
def acP (d : List Nat) (bs : ByteArray) : List Nat := (oL bs.size d (ml (hdF bs.size (tb bs) (phR bs).2.2)) bs.size).1
def acL (d : List Nat) (bs : ByteArray) : Nat := lpN bs.size d (ml (hdF bs.size (tb bs) (phR bs).2.2))
def acS (d : List Nat) (bs : ByteArray) : ByteArray := if (opn (tb (hB bs.size (acP d bs) 0 bs.size)) bs.size).length < (opn (tb bs) bs.size).length then ⟨#[]⟩ else hB bs.size (acP d bs) 0 bs.size
end Go.Proofs.Ytimigbgpldjefaa.VE
