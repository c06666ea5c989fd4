/- Contracts of functions of the given program, for all arguments that the contract names; see each theorem. -/
import Derived.Test.YtpangmameocfmaaT34
import Derived.Test.YtpangmameocfmaaW1
set_option linter.all false
namespace Go.Proofs.Ytpangmameocfmaa.VE.P
open Go
set_option maxHeartbeats 800000
set_option maxRecDepth 100000

/-! plain: powers come again -/
theorem pigeon : ∀ (B : Nat) (l : List Nat), l.Nodup → (∀ x ∈ l, x < B) → l.length ≤ B
  | 0, l, _, h => by
    cases l with
    | nil => simp
    | cons a r => exact absurd (h a (by simp)) (by omega)
  | B + 1, l, hn, h => by
    by_cases hb : B ∈ l
    · have h1 := List.length_erase_of_mem hb
      have h2 := pigeon B (l.erase B) (hn.erase B) fun x hx => by
        have h3 := h x (List.mem_of_mem_erase hx)
        have h4 : x ≠ B := fun e => by subst e; exact (List.Nodup.not_mem_erase hn) hx
        omega
      omega
    · have := pigeon B l hn fun x hx => by
        have h3 := h x hx
        have h4 : x ≠ B := fun e => hb (e ▸ hx)
        omega
      omega
theorem least_of {p : Nat → Prop} (h : ∃ n, p n) : ∃ n, p n ∧ ∀ m, m < n → ¬ p m := by
  obtain ⟨n, hn⟩ := h
  induction n using Nat.strongRecOn with
  | _ n ih =>
    by_cases hm : ∃ m, m < n ∧ p m
    · obtain ⟨m, h1, h2⟩ := hm; exact ih m h1 h2
    · exact ⟨n, hn, fun m h1 h2 => hm ⟨m, h1, h2⟩⟩
def dg8 : List Nat → Nat
  | [] => 0
  | x :: r => x + 8 * dg8 r
theorem dg8_inj : ∀ {a b : List Nat}, a.length = b.length → (∀ x ∈ a, x < 8) → (∀ x ∈ b, x < 8) → dg8 a = dg8 b → a = b
  | [], [], _, _, _, _ => rfl
  | [], _ :: _, h, _, _, _ => by simp at h
  | _ :: _, [], h, _, _, _ => by simp at h
  | x :: a, y :: b, h, ha, hb, he => by
    have h1 := ha x (by simp)
    have h2 := hb y (by simp)
    simp only [dg8] at he
    rw [dg8_inj (a := a) (b := b) (by simpa using h) (fun z hz => ha z (by simp [hz])) (fun z hz => hb z (by simp [hz])) (by omega), show x = y from by omega]
theorem dg8_lt : ∀ {a : List Nat}, (∀ x ∈ a, x < 8) → dg8 a < 8 ^ a.length
  | [], _ => by simp [dg8]
  | x :: a, h => by
    have h1 := h x (by simp)
    have h2 := dg8_lt (a := a) fun z hz => h z (by simp [hz])
    simp only [dg8, List.length_cons, Nat.pow_succ]
    omega
theorem nm_lt {g : Nat → Int} {n : Nat} (hn : n ≤ 4) (j : Nat) : (nm g n).getD j 0 < 8 :=
  nmL_lt (2 * n) 0 [] (List.replicate 8 0) (by simp; omega) (fun j => by rw [List.getD_eq_getElem?_getD, List.getElem?_replicate]; split <;> simp) (by simp) (by omega)
/-- The powers' parts: pw 0 is the partition itself. -/
def pw (n : Nat) (m : List Nat) : Nat → List Nat
  | 0 => m
  | k + 1 => nm (gM (gd (pw n m k)) (gd m) n) n
theorem pw_len {n : Nat} {m : List Nat} (hm : m.length = 8) : ∀ k, (pw n m k).length = 8
  | 0 => hm
  | _ + 1 => nm_len
theorem pw_lt {n : Nat} {m : List Nat} (hm : ∀ j, m.getD j 0 < 8) (hn : n ≤ 4) : ∀ k j, (pw n m k).getD j 0 < 8
  | 0, j => hm j
  | _ + 1, j => nm_lt hn j
theorem lt_mem {l : List Nat} {B : Nat} (h : ∀ j, l.getD j 0 < B) : ∀ x ∈ l, x < B := fun x hx => by
  obtain ⟨i, hi⟩ := List.getElem?_of_mem hx
  have := h i
  rw [List.getD_eq_getElem?_getD, hi] at this; exact this
theorem pw_rep {n : Nat} {m : List Nat} (hm : m.length = 8) (hl : ∀ j, m.getD j 0 < 8) (hn : n ≤ 4) :
    ∃ K i, i < K ∧ K ≤ 16777216 ∧ pw n m i = pw n m K ∧ ∀ j k, j < k → k < K → pw n m j ≠ pw n m k := by
  have hex : ∃ K, ∃ i, i < K ∧ pw n m i = pw n m K := by
    refine Classical.byContradiction fun hno => ?_
    have hne : ∀ i k, i < k → pw n m i ≠ pw n m k := fun i k h e => hno ⟨k, i, h, e⟩
    have := pigeon (8 ^ 8) ((List.range (8 ^ 8 + 1)).map fun k => dg8 (pw n m k)) (by
      rw [List.Nodup, List.pairwise_map]
      refine List.Pairwise.imp ?_ List.pairwise_lt_range
      intro i k h e
      exact hne i k h (dg8_inj (by rw [pw_len hm, pw_len hm]) (lt_mem (pw_lt hl hn i)) (lt_mem (pw_lt hl hn k)) e)) (by
      intro x hx
      obtain ⟨k, _, rfl⟩ := List.mem_map.1 hx
      have := dg8_lt (lt_mem (pw_lt hl hn k))
      rwa [pw_len hm] at this)
    rw [List.length_map, List.length_range] at this
    omega
  obtain ⟨K, ⟨i, hi, he⟩, hmin⟩ := least_of hex
  refine ⟨K, i, hi, ?_, he, fun j k hj hk e => hmin k hk ⟨j, hj, e⟩⟩
  have := pigeon (8 ^ 8) ((List.range K).map fun k => dg8 (pw n m k)) (by
      rw [List.Nodup, List.pairwise_map]
      refine List.Pairwise.imp_of_mem ?_ List.pairwise_lt_range
      intro i k _ hk h e
      exact hmin k (List.mem_range.1 hk) ⟨i, h, dg8_inj (by rw [pw_len hm, pw_len hm]) (lt_mem (pw_lt hl hn i)) (lt_mem (pw_lt hl hn k)) e⟩) (by
      intro x hx
      obtain ⟨k, _, rfl⟩ := List.mem_map.1 hx
      have := dg8_lt (lt_mem (pw_lt hl hn k))
      rwa [pw_len hm] at this)
  rw [List.length_map, List.length_range] at this
  omega
/-- The first t powers, as a row. -/
def rpl (n : Nat) (m : List Nat) (t : Nat) : List (Int × List Nat) := (List.range t).map fun k => ((n : Int), pw n m k)
def rpw (n : Nat) (m : List Nat) (t : Nat) : List Value := rowP (rpl n m t)
theorem rowP_append : ∀ (a b : List (Int × List Nat)), rowP (a ++ b) = rowP a ++ rowP b
  | [], _ => rfl
  | p :: a, b => by simp [rowP, rowP_append a b]
theorem rpw_succ {n : Nat} {m : List Nat} {t : Nat} : rpw n m t ++ pcl (n : Int) (pw n m t) = rpw n m (t + 1) := by
  simp [rpw, rpl, List.range_succ, rowP_append, rowP]
theorem rpw_1 {n : Nat} {m : List Nat} : rowP [((n : Int), m)] = rpw n m 1 := rfl
theorem rpw_at {n : Nat} {m : List Nat} (hm : m.length = 8) {t i : Nat} (h : i < t) : ((rpw n m t).drop (i * 9)).take 9 = pcl (n : Int) (pw n m i) :=
  rowP_at (N := 8) (l := rpl n m t) (i := i) (p := ((n : Int), pw n m i)) (fun p hp => by
    obtain ⟨k, _, rfl⟩ := List.mem_map.1 hp; exact pw_len hm k) (by simp [rpl, h])
theorem row1sP {c : List Value} {s : Int} {m : List Nat} {N : Nat} (h : c.length ≤ N) : c.take (0 * N) ++ pcl s m ++ c.drop (0 * N + N) = pcl s m := by
  simp [List.drop_of_length_le h]
end Go.Proofs.Ytpangmameocfmaa.VE.P
