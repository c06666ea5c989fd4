/- Contracts of functions of the given program, for all arguments that the contract names; see each theorem. -/
import Derived.Test.YtimigbgpldjefaaA3
import Derived.Test.YtimigbgpldjefaaU21
set_option linter.all false
namespace Go.Proofs.Ytimigbgpldjefaa.VE
open Go
set_option maxHeartbeats 800000
set_option maxRecDepth 100000

/-! the diagram of a half diagram with itself below -/
def ml (f : Nat → Nat) : List Nat := (List.range 16).map f
theorem ml_len {f : Nat → Nat} : (ml f).length = 16 := by simp [ml]
theorem ml_get {f : Nat → Nat} {j : Nat} (h : j < 16) : (ml f).getD j 0 = f j := by
  simp [ml, List.getD_eq_getElem?_getD, h]
theorem ml_set {f g : Nat → Nat} {i v : Nat} (h : ∀ j, j < 16 → g j = if j = i then v else f j) : (ml f).set i v = ml g := by
  refine eq_of_getD (N := 16) (by simp [ml]) ml_len fun j hj => ?_
  by_cases hi : i < 16
  · rw [getD_set' (by simp [ml]; exact hi), ml_get hj, ml_get hj, h j hj]
    by_cases e : i = j
    · rw [if_pos e, if_pos e.symm]
    · rw [if_neg e, if_neg (fun x => e x.symm)]
  · rw [List.set_eq_of_length_le (by simp [ml]; omega), ml_get hj, ml_get hj, h j hj, if_neg (by omega)]
theorem ml_congr {f g : Nat → Nat} (h : ∀ j, j < 16 → f j = g j) : ml f = ml g := by
  refine List.map_congr_left fun j hj => h j (List.mem_range.1 hj)
def opn (t : Nat → Nat) (k : Nat) : List Nat := (List.range k).filter fun i => decide (t i = 124)
def ol (l : List Nat) : List Value := l.map fun (x : Nat) => .int .i64 (x : Int)
theorem opn_t {t : Nat → Nat} {k : Nat} (h : t k = 124) : opn t (k + 1) = opn t k ++ [k] := by simp [opn, List.range_succ, h]
theorem opn_f {t : Nat → Nat} {k : Nat} (h : t k ≠ 124) : opn t (k + 1) = opn t k := by simp [opn, List.range_succ, h]
theorem mem_opn {t : Nat → Nat} {k x : Nat} : x ∈ opn t k ↔ x < k ∧ t x = 124 := by simp [opn]
theorem opn_le {t : Nat → Nat} {k : Nat} : (opn t k).length ≤ k := Nat.le_trans (List.length_filter_le _ _) (by simp)
theorem ol_at {l : List Nat} {i x : Nat} (h : l[i]? = some x) : (ol l)[i]? = some (.int .i64 (x : Int)) := by simp [ol, h]
theorem mem_take {l : List Nat} {k x j : Nat} (h : l[k]? = some x) : j ∈ l.take (k + 1) ↔ j ∈ l.take k ∨ j = x := by
  rw [List.take_add_one, h]; simp
theorem opn_nd {t : Nat → Nat} {k : Nat} : (opn t k).Nodup := List.nodup_range.filter _

/-- The lines of a half diagram with itself below. -/
def hdF (n : Nat) (t o : Nat → Nat) (j : Nat) : Nat := if j < n then (if t j = 124 then n + j else o j) else if j < 2 * n then (if t (j - n) = 124 then j - n else n + o (j - n)) else 0
theorem hd_V {n : Nat} {t o : Nat → Nat} (hn1 : 1 ≤ n) (hn : n ≤ 8) (h : ∀ j, j < n → o j < n ∧ o (o j) = j ∧ (o j = j ↔ t j = 124)) : IsV n (ml (hdF n t o)) := by
  have key : ∀ j, j < 2 * n → hdF n t o j < 2 * n ∧ hdF n t o j ≠ j ∧ hdF n t o (hdF n t o j) = j := by
    intro j hj
    by_cases h1 : j < n
    · obtain ⟨a, b, c⟩ := h j h1
      by_cases h2 : t j = 124
      · have e : hdF n t o j = n + j := by unfold hdF; rw [if_pos h1, if_pos h2]
        refine ⟨by omega, by omega, ?_⟩
        rw [e]; unfold hdF; rw [if_neg (by omega), if_pos (by omega), Nat.add_sub_cancel_left, if_pos h2]
      · have e : hdF n t o j = o j := by unfold hdF; rw [if_pos h1, if_neg h2]
        have h3 : t (o j) ≠ 124 := fun e2 => by
          have := ((h (o j) a).2.2).2 e2
          rw [b] at this; exact h2 (c.1 this.symm)
        refine ⟨by omega, fun e2 => h2 (c.1 (e ▸ e2)), ?_⟩
        rw [e]; unfold hdF; rw [if_pos a, if_neg h3, b]
    · obtain ⟨a, b, c⟩ := h (j - n) (by omega)
      by_cases h2 : t (j - n) = 124
      · have e : hdF n t o j = j - n := by unfold hdF; rw [if_neg h1, if_pos hj, if_pos h2]
        refine ⟨by omega, by omega, ?_⟩
        rw [e]; unfold hdF; rw [if_pos (by omega), if_pos h2]; omega
      · have e : hdF n t o j = n + o (j - n) := by unfold hdF; rw [if_neg h1, if_pos hj, if_neg h2]
        have h3 : t (o (j - n)) ≠ 124 := fun e2 => by
          have := ((h (o (j - n)) a).2.2).2 e2
          rw [b] at this; exact h2 (c.1 this.symm)
        refine ⟨by omega, fun e2 => h2 (c.1 (by omega)), ?_⟩
        rw [e]; unfold hdF; rw [if_neg (by omega), if_pos (by omega), Nat.add_sub_cancel_left, if_neg h3, b]; omega
  refine ⟨hn1, hn, ml_len, fun j hj => ?_, fun j hj => ?_, fun j hj => ?_, fun j hj => ?_⟩
  · rw [ml_get (by omega)]; exact (key j hj).1
  · rw [ml_get (by omega)]; exact (key j hj).2.1
  · have := key j hj
    rw [ml_get (show j < 16 by omega), ml_get (by omega)]; exact this.2.2
  · by_cases h16 : j < 16
    · rw [ml_get h16]; unfold hdF; rw [if_neg (by omega), if_neg (by omega)]
    · rw [List.getD_eq_getElem?_getD, List.getElem?_eq_none (by rw [ml_len]; omega)]; rfl

/-- On the way: the reference's first loop, the program's first loop, and the joins. -/
def g1F (n : Nat) (o : Nat → Nat) (i j : Nat) : Nat := if j < i then o j else if n ≤ j ∧ j < n + i then n + o (j - n) else 0
def jnF (n : Nat) (l : List Nat) (f : Nat → Nat) (j : Nat) : Nat := if j < n ∧ j ∈ l then n + j else if n ≤ j ∧ j < 2 * n ∧ j - n ∈ l then j - n else f j
theorem g1_set {n : Nat} {o : Nat → Nat} {i : Nat} (hi : i < n) : ((ml (g1F n o i)).set i (o i)).set (n + i) (n + o i) = ml (g1F n o (i + 1)) := by
  rw [ml_set (g := fun j => if j = i then o i else g1F n o i j) (fun j _ => rfl)]
  refine ml_set fun j _ => ?_
  unfold g1F
  by_cases h1 : j = n + i
  · subst h1; rw [if_pos rfl, if_neg (by omega), if_pos (by omega), Nat.add_sub_cancel_left]
  · rw [if_neg h1]
    by_cases h2 : j = i
    · subst h2; rw [if_pos rfl, if_pos (by omega)]
    · rw [if_neg h2]
      by_cases h3 : j < i
      · rw [if_pos h3, if_pos (by omega)]
      · rw [if_neg h3, if_neg (by omega)]
        by_cases h4 : n ≤ j ∧ j < n + i
        · rw [if_pos h4, if_pos (by omega)]
        · rw [if_neg h4, if_neg (by omega)]
theorem jn_set {n : Nat} {l : List Nat} {f : Nat → Nat} {k x : Nat} (h : l[k]? = some x) (hx : x < n) : jn2 (ml (jnF n (l.take k) f)) x (n + x) = ml (jnF n (l.take (k + 1)) f) := by
  unfold jn2
  rw [ml_set (g := fun j => if j = x then n + x else jnF n (l.take k) f j) (fun j _ => rfl)]
  refine ml_set fun j _ => ?_
  unfold jnF
  have hm := fun j => mem_take (j := j) h
  by_cases h1 : j = n + x
  · subst h1
    rw [if_pos rfl, if_neg (by omega), if_pos ⟨by omega, by omega, by rw [Nat.add_sub_cancel_left]; exact (hm x).2 (.inr rfl)⟩, Nat.add_sub_cancel_left]
  · rw [if_neg h1]
    by_cases h2 : j = x
    · subst h2; rw [if_pos rfl, if_pos ⟨hx, (hm j).2 (.inr rfl)⟩]
    · rw [if_neg h2]
      by_cases h3 : j < n ∧ j ∈ l.take k
      · rw [if_pos h3, if_pos ⟨h3.1, (hm j).2 (.inl h3.2)⟩]
      · rw [if_neg h3, if_neg (show ¬ (j < n ∧ j ∈ l.take (k + 1)) from fun e => by
          rcases (hm j).1 e.2 with e2 | e2
          · exact h3 ⟨e.1, e2⟩
          · exact h2 e2)]
        by_cases h4 : n ≤ j ∧ j < 2 * n ∧ j - n ∈ l.take k
        · rw [if_pos h4, if_pos ⟨h4.1, h4.2.1, (hm (j - n)).2 (.inl h4.2.2)⟩]
        · rw [if_neg h4, if_neg (show ¬ (n ≤ j ∧ j < 2 * n ∧ j - n ∈ l.take (k + 1)) from fun e => by
            rcases (hm (j - n)).1 e.2.2 with e2 | e2
            · exact h4 ⟨e.1, e.2.1, e2⟩
            · omega)]
theorem jn_0 {n : Nat} {l : List Nat} {f : Nat → Nat} : ml (jnF n (l.take 0) f) = ml f := ml_congr fun j _ => by
  unfold jnF; rw [if_neg (by simp), if_neg (by simp)]
theorem jn_end {n : Nat} {t o f : Nat → Nat} (hf : ∀ j, j < 16 → (j < n → t j ≠ 124 → f j = o j) ∧ (n ≤ j → j < 2 * n → t (j - n) ≠ 124 → f j = n + o (j - n)) ∧ (2 * n ≤ j → f j = 0)) : ml (jnF n ((opn t n).take (opn t n).length) f) = ml (hdF n t o) := ml_congr fun j hj => by
  rw [List.take_length]
  obtain ⟨a, b, c⟩ := hf j hj
  unfold jnF hdF
  by_cases h1 : j < n
  · rw [if_pos h1]
    by_cases h2 : t j = 124
    · rw [if_pos ⟨h1, mem_opn.2 ⟨h1, h2⟩⟩, if_pos h2]
    · rw [if_neg (fun e => h2 (mem_opn.1 e.2).2), if_neg (by omega), if_neg h2, a h1 h2]
  · rw [if_neg h1, if_neg (fun e => h1 e.1)]
    by_cases h3 : j < 2 * n
    · rw [if_pos h3]
      by_cases h2 : t (j - n) = 124
      · rw [if_pos ⟨by omega, h3, mem_opn.2 ⟨by omega, h2⟩⟩, if_pos h2]
      · rw [if_neg (fun e => h2 (mem_opn.1 e.2.2).2), if_neg h2, b (by omega) h3 h2]
    · rw [if_neg h3, if_neg (fun e => h3 e.2.1), c (by omega)]
/-- The program's first loops. -/
def h0F (t o : Nat → Nat) (i j : Nat) : Nat := if j < i ∧ t j ≠ 124 then o j else 0
def h1F (n : Nat) (t o : Nat → Nat) (i j : Nat) : Nat := if j < n then (if t j ≠ 124 then o j else 0) else if j < n + i ∧ t (j - n) ≠ 124 then n + o (j - n) else 0
def hhF (n : Nat) (t o : Nat → Nat) : Nat → Nat → Nat → Nat
  | 0 => h0F t o
  | _ + 1 => h1F n t o
theorem hh_next {n : Nat} {t o : Nat → Nat} {fr : Nat} (h : fr = 0) : ml (hhF n t o fr n) = ml (hhF n t o (fr + 1) 0) := ml_congr fun j _ => by
  subst h
  show h0F t o n j = h1F n t o 0 j
  unfold h0F h1F
  by_cases h1 : j < n
  · rw [if_pos h1]
    by_cases h2 : t j ≠ 124
    · rw [if_pos ⟨h1, h2⟩, if_pos h2]
    · rw [if_neg (fun e => h2 e.2), if_neg h2]
  · rw [if_neg (fun e => h1 e.1), if_neg h1, if_neg (by omega)]
theorem hh_skip {n : Nat} {t o : Nat → Nat} {fr i : Nat} (hi : i < n) (h : t i = 124) : ml (hhF n t o fr i) = ml (hhF n t o fr (i + 1)) := ml_congr fun j _ => by
  cases fr with
  | zero =>
    show h0F t o i j = h0F t o (i + 1) j
    unfold h0F
    by_cases h1 : j < i ∧ t j ≠ 124
    · rw [if_pos h1, if_pos ⟨by omega, h1.2⟩]
    · rw [if_neg h1, if_neg]
      rintro ⟨h2, h3⟩
      by_cases hji : j = i
      · subst hji; exact h3 h
      · exact h1 ⟨by omega, h3⟩
  | succ fr =>
    show h1F n t o i j = h1F n t o (i + 1) j
    unfold h1F
    by_cases h0 : j < n
    · rw [if_pos h0, if_pos h0]
    · rw [if_neg h0, if_neg h0]
      by_cases h1 : j < n + i ∧ t (j - n) ≠ 124
      · rw [if_pos h1, if_pos ⟨by omega, h1.2⟩]
      · rw [if_neg h1, if_neg]
        rintro ⟨h2, h3⟩
        by_cases hji : j = n + i
        · subst hji; rw [Nat.add_sub_cancel_left] at h3; exact h3 h
        · exact h1 ⟨by omega, h3⟩
theorem hh_set {n : Nat} {t o : Nat → Nat} {fr i : Nat} (hfr : fr ≤ 1) (hi : i < n) (h : t i ≠ 124) : (ml (hhF n t o fr i)).set (fr * n + i) (fr * n + o i) = ml (hhF n t o fr (i + 1)) := by
  refine ml_set fun j _ => ?_
  rcases fr with _ | fr
  · rw [Nat.zero_mul, Nat.zero_add, Nat.zero_add]
    show h0F t o (i + 1) j = if j = i then o i else h0F t o i j
    unfold h0F
    by_cases hji : j = i
    · subst hji; rw [if_pos rfl, if_pos ⟨by omega, h⟩]
    · rw [if_neg hji]
      by_cases h1 : j < i ∧ t j ≠ 124
      · rw [if_pos h1, if_pos ⟨by omega, h1.2⟩]
      · rw [if_neg h1, if_neg (fun e => h1 ⟨by omega, e.2⟩)]
  · obtain rfl : fr = 0 := by omega
    rw [show (0 + 1) * n = n from by omega]
    show h1F n t o (i + 1) j = if j = n + i then n + o i else h1F n t o i j
    unfold h1F
    by_cases hji : j = n + i
    · subst hji; rw [if_pos rfl, if_neg (by omega), if_pos ⟨by omega, by rw [Nat.add_sub_cancel_left]; exact h⟩, Nat.add_sub_cancel_left]
    · rw [if_neg hji]
      by_cases h0 : j < n
      · rw [if_pos h0, if_pos h0]
      · rw [if_neg h0, if_neg h0]
        by_cases h1 : j < n + i ∧ t (j - n) ≠ 124
        · rw [if_pos h1, if_pos ⟨by omega, h1.2⟩]
        · rw [if_neg h1, if_neg (fun e => h1 ⟨by omega, e.2⟩)]
end Go.Proofs.Ytimigbgpldjefaa.VE
