/- Contracts of functions of the given program, for all arguments that the contract names; see each theorem. -/
import Derived.Test.YtpangmameocfmaaT30
import Derived.Test.YtpangmameocfmaaVE3
set_option linter.all false
namespace Go.Proofs.Ytpangmameocfmaa.VE.P
open Go
set_option maxHeartbeats 800000
set_option maxRecDepth 100000

/-! sets as maps from ints to true -/
def entT (ks : List Int) : List (Value × V) := ks.map fun k => (.int .i64 k, .raw (.bool true))
def addk (ks : List Int) (k : Int) : List Int := if k ∈ ks then ks else ks ++ [k]
theorem entT_find {k : Int} : ∀ {ks : List Int}, findI k (entT ks) = some (if k ∈ ks then some (.raw (.bool true)) else none)
  | [] => rfl
  | q :: r => by
    simp only [entT, List.map_cons, findI]
    by_cases h : k = q
    · rw [if_pos h, if_pos (by rw [h]; exact List.mem_cons_self)]
    · rw [if_neg h]
      have ih := entT_find (k := k) (ks := r)
      simp only [entT] at ih
      rw [ih]
      simp [h]
theorem entT_set {k : Int} : ∀ {ks : List Int}, setI k (.raw (.bool true)) (entT ks) = entT (addk ks k)
  | [] => rfl
  | q :: r => by
    simp only [entT, List.map_cons, setI]
    by_cases h : k = q
    · rw [if_pos h]; subst h; simp [addk]
    · rw [if_neg h]
      have ih := entT_set (k := k) (ks := r)
      simp only [entT] at ih
      rw [ih]
      by_cases h2 : k ∈ r
      · simp [addk, h2]
      · simp [addk, h2, h]
theorem entT_mod {ks : List Int} : ∀ {j : Nat}, ((entT ks).modify j fun p => (p.1, V.raw (.bool true))) = entT ks := by
  intro j
  apply List.ext_getElem?
  intro i
  rw [List.getElem?_modify]
  split
  · simp only [entT, List.getElem?_map]
    cases ks[i]? <;> rfl
  · simp
theorem entT_new {ks : List Int} {k : Int} : ((entT ks ++ [(Value.int .i64 k, V.raw (.bool false))]).modify (entT ks).length fun p => (p.1, V.raw (.bool true))) = entT (ks ++ [k]) := by
  apply List.ext_getElem?
  intro i
  rw [List.getElem?_modify]
  by_cases hi : (entT ks).length = i
  · subst hi; simp [entT]
  · simp only [if_neg hi]
    rw [show (fun (a : Value × V) => a) = id from rfl, id_map]
    simp only [entT, List.map_append, List.map_cons, List.map_nil, List.length_map] at hi ⊢
    by_cases h2 : i < ks.length
    · rw [List.getElem?_append_left (by simpa using h2), List.getElem?_append_left (by simpa using h2)]
    · rw [List.getElem?_eq_none (by simp; omega), List.getElem?_eq_none (by simp; omega)]
theorem entT_len {ks : List Int} : (entT ks).length = ks.length := by simp [entT]
theorem posI_lt {k : Int} : ∀ {ks : List Int}, k ∈ ks → posI k (entT ks) < (entT ks).length
  | [], h => by simp at h
  | q :: r, h => by
    simp only [entT, List.map_cons, posI, List.length_cons]
    by_cases hq : k = q
    · rw [if_pos hq]; omega
    · rw [if_neg hq]
      have := posI_lt (k := k) (ks := r) (by simpa [hq] using h)
      simp only [entT] at this
      omega
theorem mem_addk {ks : List Int} {k x : Int} : x ∈ addk ks k ↔ x ∈ ks ∨ x = k := by
  unfold addk; split
  · rename_i h
    exact ⟨fun h1 => Or.inl h1, fun h1 => by rcases h1 with h1 | h1; exact h1; rw [h1]; exact h⟩
  · simp
theorem addk_len {ks : List Int} {k : Int} : (addk ks k).length ≤ ks.length + 1 := by
  unfold addk; split <;> simp

/-! the outer classes, and those that are left -/
def rI (r : Nat → Nat) (x : Nat) : Int := ((r x : Nat) : Int)
def oK (r : Nat → Nat) (n : Nat) : Nat → List Int
  | 0 => []
  | i + 1 => addk (addk (oK r n i) (rI r i)) (rI r (2 * n + i))
def lK (r : Nat → Nat) (n : Nat) : Nat → List Int
  | 0 => []
  | i + 1 => if rI r (n + i) ∈ oK r n n then lK r n i else addk (lK r n i) (rI r (n + i))
theorem mem_oK {r : Nat → Nat} {n : Nat} {x : Int} : ∀ {i}, x ∈ oK r n i ↔ ∃ y, y < i ∧ (x = rI r y ∨ x = rI r (2 * n + y))
  | 0 => by simp [oK]
  | i + 1 => by
    simp only [oK, mem_addk, mem_oK (i := i)]
    constructor
    · rintro ((⟨y, h1, h2⟩ | h) | h)
      · exact ⟨y, by omega, h2⟩
      · exact ⟨i, by omega, Or.inl h⟩
      · exact ⟨i, by omega, Or.inr h⟩
    · rintro ⟨y, h1, h2⟩
      by_cases hy : y = i
      · subst hy
        rcases h2 with h2 | h2
        · exact Or.inl (Or.inr h2)
        · exact Or.inr h2
      · exact Or.inl (Or.inl ⟨y, by omega, h2⟩)
theorem lK_len {r : Nat → Nat} {n : Nat} : ∀ i, (lK r n i).length ≤ i
  | 0 => Nat.le_refl _
  | i + 1 => by
    have := lK_len (r := r) (n := n) i
    have h2 := addk_len (ks := lK r n i) (k := rI r (n + i))
    unfold lK; split <;> omega
theorem rI_eq {r : Nat → Nat} {x y : Nat} : rI r x = rI r y ↔ r x = r y := by unfold rI; omega
theorem lK_ct {a b : Nat → Nat} {n : Nat} (ha : ∀ i, i < 2 * n → a i < 8) : ∀ i, i ≤ n →
    (lK (gI a b n (2 * n)).2.1 n i).length = (ctI a b n i).2 ∧
    ∀ x, x < n → ((ctI a b n i).1 (ldI a b n n (a (n + x))) = true ↔ rI (gI a b n (2 * n)).2.1 (n + x) ∈ oK (gI a b n (2 * n)).2.1 n n ∨ rI (gI a b n (2 * n)).2.1 (n + x) ∈ lK (gI a b n (2 * n)).2.1 n i)
  | 0, _ => by
    refine ⟨rfl, fun x hx => ?_⟩
    have hk : ∀ y, y < 3 * n → (rI (gI a b n (2 * n)).2.1 (n + x) = rI (gI a b n (2 * n)).2.1 y ↔ ldI a b n n (a (n + x)) = ldI a b n n (lam a b n y)) := fun y hy => by
      rw [rI_eq, mul_ker ha (by omega) hy, show lam a b n (n + x) = a (n + x) from if_pos (by omega)]
    simp only [ctI, kp0, List.any_eq_true, List.mem_range, decide_eq_true_eq, lK, List.not_mem_nil, or_false, mem_oK]
    constructor
    · rintro ⟨y, h1, h2⟩
      by_cases hy : y < n
      · refine ⟨y, hy, Or.inl ((hk y (by omega)).2 ?_)⟩
        rw [← h2, show sL a b n y = a y from if_pos hy, show lam a b n y = a y from if_pos (by omega)]
      · refine ⟨y - n, by omega, Or.inr ((hk (2 * n + (y - n)) (by omega)).2 ?_)⟩
        rw [← h2, show sL a b n y = 8 + b y from if_neg hy, show lam a b n (2 * n + (y - n)) = 8 + b (2 * n + (y - n) - n) from if_neg (by omega), show 2 * n + (y - n) - n = y from by omega]
    · rintro ⟨y, h1, h2 | h2⟩
      · refine ⟨y, by omega, ?_⟩
        rw [(hk y (by omega)).1 h2, show sL a b n y = a y from if_pos h1, show lam a b n y = a y from if_pos (by omega)]
      · refine ⟨n + y, by omega, ?_⟩
        rw [(hk (2 * n + y) (by omega)).1 h2, show sL a b n (n + y) = 8 + b (n + y) from if_neg (by omega), show lam a b n (2 * n + y) = 8 + b (2 * n + y - n) from if_neg (by omega), show 2 * n + y - n = n + y from by omega]
  | i + 1, hi => by
    obtain ⟨ih1, ih2⟩ := lK_ct ha i (by omega)
    have hi2 := ih2 i (by omega)
    have hk : ∀ x, x < n → (rI (gI a b n (2 * n)).2.1 (n + x) = rI (gI a b n (2 * n)).2.1 (n + i) ↔ ldI a b n n (a (n + x)) = ldI a b n n (a (n + i))) := fun x hx => by
      rw [rI_eq, mul_ker ha (by omega) (by omega), show lam a b n (n + x) = a (n + x) from if_pos (by omega), show lam a b n (n + i) = a (n + i) from if_pos (by omega)]
    generalize (gI a b n (2 * n)).2.1 = r at *
    generalize hl : ldI a b n n = l at *
    simp only [ctI, lK, hl]
    by_cases ho : rI r (n + i) ∈ oK r n n
    · rw [if_pos (hi2.2 (Or.inl ho)), if_pos ho]
      exact ⟨ih1, ih2⟩
    · rw [if_neg ho]
      by_cases hlk : rI r (n + i) ∈ lK r n i
      · rw [if_pos (hi2.2 (Or.inr hlk)), show addk (lK r n i) (rI r (n + i)) = lK r n i from if_pos hlk]
        exact ⟨ih1, ih2⟩
      · rw [if_neg (fun h => by rcases hi2.1 h with h | h; exact ho h; exact hlk h), show addk (lK r n i) (rI r (n + i)) = lK r n i ++ [rI r (n + i)] from if_neg hlk]
        refine ⟨by simp [ih1], fun x hx => ?_⟩
        have hx2 := ih2 x hx
        have hkx := hk x hx
        simp only [List.mem_append, List.mem_singleton]
        by_cases he : l (a (n + x)) = l (a (n + i))
        · simp only [he, if_true, true_iff]
          exact Or.inr (Or.inr (hkx.2 he))
        · simp only [if_neg he]
          rw [hx2]
          constructor
          · rintro (h | h)
            · exact Or.inl h
            · exact Or.inr (Or.inl h)
          · rintro (h | h | h)
            · exact Or.inl h
            · exact Or.inr h
            · exact absurd (hkx.1 h) he
end Go.Proofs.Ytpangmameocfmaa.VE.P
