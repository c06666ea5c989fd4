/- Contracts of functions of the given program, for all arguments that the contract names; see each theorem. -/
import Derived.Test.YtcibbadioijmcaaM7
set_option linter.all false
namespace Go.Proofs.Ytcibbadioijmcaa.VE
open Go
set_option maxHeartbeats 800000
set_option maxRecDepth 100000

/-! plain: leaders -/
def jnL (L : Nat → Nat) (i k : Nat) : Nat → Nat := fun j => if L j = L k then L i else L j
def EL (es : List (Nat × Nat)) (x y : Nat) : Prop := (x, y) ∈ es ∨ (y, x) ∈ es
def Le (es : List (Nat × Nat)) (L : Nat → Nat) : Nat → Nat := es.foldl (fun L e => jnL L e.1 e.2) L
theorem jnL_cn {L : Nat → Nat} {E : Nat → Nat → Prop} (hE : ∀ x y, E x y → E y x) (h : ∀ x y, L x = L y ↔ Cn E x y) (i k : Nat) : ∀ x y, jnL L i k x = jnL L i k y ↔ Cn (fun x y => E x y ∨ (x = i ∧ y = k) ∨ (x = k ∧ y = i)) x y := by
  have up : ∀ {x y}, Cn E x y → Cn (fun x y => E x y ∨ (x = i ∧ y = k) ∨ (x = k ∧ y = i)) x y := fun h => h.mono fun _ _ e => Cn.one (.inl e)
  have ik : Cn (fun x y => E x y ∨ (x = i ∧ y = k) ∨ (x = k ∧ y = i)) i k := Cn.one (.inr (.inl ⟨rfl, rfl⟩))
  have ki : Cn (fun x y => E x y ∨ (x = i ∧ y = k) ∨ (x = k ∧ y = i)) k i := Cn.one (.inr (.inr ⟨rfl, rfl⟩))
  intro x y
  constructor
  · intro he
    unfold jnL at he
    by_cases h1 : L x = L k
    · rw [if_pos h1] at he
      by_cases h2 : L y = L k
      · exact up ((h x y).1 (h1.trans h2.symm))
      · rw [if_neg h2] at he
        exact ((up ((h x k).1 h1)).trans ki).trans (up ((h i y).1 he))
    · rw [if_neg h1] at he
      by_cases h2 : L y = L k
      · rw [if_pos h2] at he
        exact ((up ((h x i).1 he)).trans ik).trans (up ((h k y).1 h2.symm))
      · rw [if_neg h2] at he
        exact up ((h x y).1 he)
  · intro hc
    induction hc with
    | refl => rfl
    | step _ e ih =>
      rw [ih]
      unfold jnL
      rcases e with e | ⟨rfl, rfl⟩ | ⟨rfl, rfl⟩
      · rw [(h _ _).2 (Cn.one e)]
      · rw [if_pos (rfl : L _ = L _)]
        split <;> rfl
      · rw [if_pos (rfl : L _ = L _)]
        split <;> rfl
theorem Le_cn : ∀ (es : List (Nat × Nat)) (L : Nat → Nat) (E : Nat → Nat → Prop), (∀ x y, E x y → E y x) → (∀ x y, L x = L y ↔ Cn E x y) → ∀ x y, Le es L x = Le es L y ↔ Cn (fun x y => E x y ∨ EL es x y) x y
  | [], L, E, _, h, x, y => by
    rw [show Le [] L = L from rfl, h]
    constructor
    · exact fun h => h.mono fun _ _ e => Cn.one (.inl e)
    · refine fun h => h.mono fun _ _ e => Cn.one ?_
      rcases e with e | e | e
      · exact e
      · simp at e
      · simp at e
  | (i, k) :: r, L, E, hE, h, x, y => by
    rw [show Le ((i, k) :: r) L = Le r (jnL L i k) from rfl, Le_cn r (jnL L i k) _ (fun x y e => by
      rcases e with e | ⟨rfl, rfl⟩ | ⟨rfl, rfl⟩
      · exact .inl (hE _ _ e)
      · exact .inr (.inr ⟨rfl, rfl⟩)
      · exact .inr (.inl ⟨rfl, rfl⟩)) (jnL_cn hE h i k)]
    constructor
    · refine fun h => h.mono fun _ _ e => Cn.one ?_
      rcases e with (e | ⟨rfl, rfl⟩ | ⟨rfl, rfl⟩) | e | e
      · exact .inl e
      · exact .inr (.inl List.mem_cons_self)
      · exact .inr (.inr List.mem_cons_self)
      · exact .inr (.inl (List.mem_cons_of_mem _ e))
      · exact .inr (.inr (List.mem_cons_of_mem _ e))
    · refine fun h => h.mono fun _ _ e => Cn.one ?_
      rcases e with e | e | e
      · exact .inl (.inl e)
      · rcases List.mem_cons.1 e with e | e
        · obtain ⟨rfl, rfl⟩ := Prod.mk.inj e
          exact .inl (.inr (.inl ⟨rfl, rfl⟩))
        · exact .inr (.inl e)
      · rcases List.mem_cons.1 e with e | e
        · obtain ⟨rfl, rfl⟩ := Prod.mk.inj e
          exact .inl (.inr (.inr ⟨rfl, rfl⟩))
        · exact .inr (.inr e)
/-- The lines of both, and what lies one on the other. -/
def e1L (a b : List Nat) (k : Nat) : List (Nat × Nat) := (List.range k).flatMap fun i => [(i, a.getD i 0), (16 + i, 16 + b.getD i 0)]
def e2L (n k : Nat) : List (Nat × Nat) := (List.range k).map fun i => (n + i, 16 + i)
def LA (a b : List Nat) (k : Nat) : Nat → Nat := Le (e1L a b k) fun x => x
def LB (n : Nat) (a b : List Nat) (k : Nat) : Nat → Nat := Le (e2L n k) (LA a b (2 * n))
theorem LA_succ {a b : List Nat} {k : Nat} : LA a b (k + 1) = jnL (jnL (LA a b k) k (a.getD k 0)) (16 + k) (16 + b.getD k 0) := by
  simp [LA, Le, e1L, List.range_succ]
theorem LB_succ {n : Nat} {a b : List Nat} {k : Nat} : LB n a b (k + 1) = jnL (LB n a b k) (n + k) (16 + k) := by
  simp [LB, Le, e2L, List.range_succ]
theorem jnL_lt {L : Nat → Nat} {i k : Nat} (h : ∀ j, j < 32 → L j < 32) (hi : i < 32) : ∀ j, j < 32 → jnL L i k j < 32 := fun j hj => by
  unfold jnL; split
  · exact h i hi
  · exact h j hj
def phi (n x : Nat) : Nat := if x < 16 then x else x - 16 + n
section
variable {n : Nat} {a b : List Nat} (ha : IsV n a) (hb : IsV n b)
include ha hb
theorem LA_lt : ∀ k, k ≤ 2 * n → ∀ j, j < 32 → LA a b k j < 32
  | 0, _, j, hj => hj
  | k + 1, hk, j, hj => by
    have hn := ha.n8
    rw [LA_succ]
    exact jnL_lt (jnL_lt (LA_lt k (by omega)) (by omega)) (by omega) j hj
theorem LB_lt : ∀ k, k ≤ n → ∀ j, j < 32 → LB n a b k j < 32
  | 0, _, j, hj => LA_lt ha hb (2 * n) (Nat.le_refl _) j hj
  | k + 1, hk, j, hj => by
    have hn := ha.n8
    rw [LB_succ]
    exact jnL_lt (LB_lt k (by omega)) (by omega) j hj
/-- Two points have one leader where they are joined. -/
theorem LB_iff {x y : Nat} (hx : x < 2 * n ∨ (16 ≤ x ∧ x < 16 + 2 * n)) (hy : y < 2 * n ∨ (16 ≤ y ∧ y < 16 + 2 * n)) : LB n a b n x = LB n a b n y ↔ Cn (E2 n a b) (phi n x) (phi n y) := by
  have hn := ha.n8
  have h1 := Le_cn (e1L a b (2 * n)) (fun x => x) (fun _ _ => False) (fun _ _ h => h.elim) (fun x y => ⟨fun h => by subst h; exact .refl _, fun h => by
    induction h with
    | refl => rfl
    | step _ e _ => exact e.elim⟩)
  have h2 := Le_cn (e2L n n) (LA a b (2 * n)) _ (fun x y h => by
    rcases h with h | h | h
    · exact .inl h
    · exact .inr (.inr h)
    · exact .inr (.inl h)) h1
  have hsym := E2.symm ha hb
  rw [show LB n a b n x = Le (e2L n n) (LA a b (2 * n)) x from rfl, show LB n a b n y = Le (e2L n n) (LA a b (2 * n)) y from rfl, h2]
  have hm1 : ∀ u v, (u, v) ∈ e1L a b (2 * n) ↔ ∃ i, i < 2 * n ∧ ((u = i ∧ v = a.getD i 0) ∨ (u = 16 + i ∧ v = 16 + b.getD i 0)) := fun u v => by
    simp only [e1L, List.mem_flatMap, List.mem_range, List.mem_cons, Prod.mk.injEq, List.not_mem_nil, or_false]
  have hm2 : ∀ u v, (u, v) ∈ e2L n n ↔ ∃ i, i < n ∧ u = n + i ∧ v = 16 + i := fun u v => by
    simp only [e2L, List.mem_map, List.mem_range, Prod.mk.injEq]
    exact ⟨fun ⟨i, h1, h2, h3⟩ => ⟨i, h1, h2.symm, h3.symm⟩, fun ⟨i, h1, h2, h3⟩ => ⟨i, h1, h2.symm, h3.symm⟩⟩
  have fwd : ∀ u v, ((u, v) ∈ e1L a b (2 * n) ∨ (u, v) ∈ e2L n n) → Cn (E2 n a b) (phi n u) (phi n v) := fun u v h => by
    rcases h with h | h
    · obtain ⟨i, hi, ⟨rfl, rfl⟩ | ⟨rfl, rfl⟩⟩ := (hm1 u v).1 h
      · have h3 := ha.lt u hi
        unfold phi
        rw [if_pos (by omega), if_pos (by omega)]
        exact Cn.one (.inl ⟨hi, rfl⟩)
      · have h3 := hb.lt i hi
        unfold phi
        rw [if_neg (by omega), if_neg (by omega)]
        refine Cn.one (.inr ⟨by omega, by omega, ?_⟩)
        rw [show 16 + i - 16 + n - n = i from by omega]; omega
    · obtain ⟨i, hi, rfl, rfl⟩ := (hm2 u v).1 h
      unfold phi
      rw [if_pos (by omega), if_neg (by omega), show 16 + i - 16 + n = n + i from by omega]
      exact .refl _
  constructor
  · intro h
    have key : ∀ {u v}, Cn (fun x y => (False ∨ EL (e1L a b (2 * n)) x y) ∨ EL (e2L n n) x y) u v → Cn (E2 n a b) (phi n u) (phi n v) := fun h => by
      induction h with
      | refl => exact .refl _
      | step _ e ih =>
        refine ih.trans ?_
        rcases e with (e | e | e) | e | e
        · exact e.elim
        · exact fwd _ _ (.inl e)
        · exact (fwd _ _ (.inl e)).symm hsym
        · exact fwd _ _ (.inr e)
        · exact (fwd _ _ (.inr e)).symm hsym
    exact key h
  · intro h
    -- a point for each vertex
    have idE : ∀ i, i < n → Cn (fun x y => (False ∨ EL (e1L a b (2 * n)) x y) ∨ EL (e2L n n) x y) (n + i) (16 + i) := fun i hi => Cn.one (.inr (.inl ((hm2 _ _).2 ⟨i, hi, rfl, rfl⟩)))
    have idE' : ∀ i, i < n → Cn (fun x y => (False ∨ EL (e1L a b (2 * n)) x y) ∨ EL (e2L n n) x y) (16 + i) (n + i) := fun i hi => Cn.one (.inr (.inr ((hm2 _ _).2 ⟨i, hi, rfl, rfl⟩)))
    have psi : ∀ v, v < 3 * n → n ≤ v → Cn (fun x y => (False ∨ EL (e1L a b (2 * n)) x y) ∨ EL (e2L n n) x y) (if v < 2 * n then v else 16 + (v - n)) (16 + (v - n)) := fun v hv hv2 => by
      by_cases h3 : v < 2 * n
      · rw [if_pos h3]
        have := idE (v - n) (by omega)
        rwa [show n + (v - n) = v from by omega] at this
      · rw [if_neg h3]; exact .refl _
    have psi' : ∀ v, v < 3 * n → n ≤ v → Cn (fun x y => (False ∨ EL (e1L a b (2 * n)) x y) ∨ EL (e2L n n) x y) (16 + (v - n)) (if v < 2 * n then v else 16 + (v - n)) := fun v hv hv2 => by
      by_cases h3 : v < 2 * n
      · rw [if_pos h3]
        have := idE' (v - n) (by omega)
        rwa [show n + (v - n) = v from by omega] at this
      · rw [if_neg h3]; exact .refl _
    have key : ∀ {u v}, Cn (E2 n a b) u v → Cn (fun x y => (False ∨ EL (e1L a b (2 * n)) x y) ∨ EL (e2L n n) x y) (if u < 2 * n then u else 16 + (u - n)) (if v < 2 * n then v else 16 + (v - n)) := fun h => by
      induction h with
      | refl => exact .refl _
      | step _ e ih =>
        refine ih.trans ?_
        rcases e with ⟨h3, rfl⟩ | ⟨h3, h4, rfl⟩
        · have h5 := ha.lt _ h3
          rw [if_pos h3, if_pos h5]
          exact Cn.one (.inl (.inr (.inl ((hm1 _ _).2 ⟨_, h3, .inl ⟨rfl, rfl⟩⟩))))
        · rename_i u _
          have h5 := hb.lt (u - n) (by omega)
          refine (psi u h4 h3).trans (Cn.trans (Cn.one (.inl (.inr (.inl ((hm1 _ _).2 ⟨u - n, by omega, .inr ⟨rfl, rfl⟩⟩))))) ?_)
          have := psi' (n + b.getD (u - n) 0) (by omega) (by omega)
          rw [Nat.add_sub_cancel_left] at this ⊢
          exact this
    have ends1 : ∀ x, (x < 2 * n ∨ (16 ≤ x ∧ x < 16 + 2 * n)) → Cn (fun x y => (False ∨ EL (e1L a b (2 * n)) x y) ∨ EL (e2L n n) x y) x (if phi n x < 2 * n then phi n x else 16 + (phi n x - n)) ∧ Cn (fun x y => (False ∨ EL (e1L a b (2 * n)) x y) ∨ EL (e2L n n) x y) (if phi n x < 2 * n then phi n x else 16 + (phi n x - n)) x := fun x hx => by
      rcases hx with hx | ⟨hx1, hx2⟩
      · have : phi n x = x := by unfold phi; rw [if_pos (by omega)]
        rw [this, if_pos hx]; exact ⟨.refl _, .refl _⟩
      · have hp : phi n x = x - 16 + n := by unfold phi; rw [if_neg (by omega)]
        have e := show 16 + (phi n x - n) = x from by omega
        have h3 := psi (phi n x) (by omega) (by omega)
        have h4 := psi' (phi n x) (by omega) (by omega)
        rw [e] at h3 h4
        rw [e]
        exact ⟨h4, h3⟩
    exact ((ends1 x hx).1.trans (key h)).trans (ends1 y hy).2
end
end Go.Proofs.Ytcibbadioijmcaa.VE
