/- Contracts of functions of the given program, for all arguments that the contract names; see each theorem. -/
import Derived.Test.YtimigbgpldjefaaEd
set_option linter.all false
namespace Go.Proofs.Ytimigbgpldjefaa.VE
open Go
set_option maxHeartbeats 800000
set_option maxRecDepth 100000

/-! plain: primes up to 97, and inverses -/
def prB (p : Nat) : Bool := (List.range p).all fun k => decide (k < 2) || decide (p % k ≠ 0)
theorem prB_iff {p : Nat} : prB p = true ↔ ∀ k, 2 ≤ k → k < p → p % k ≠ 0 := by
  simp only [prB, List.all_eq_true, List.mem_range, Bool.or_eq_true, decide_eq_true_eq]
  constructor
  · intro h k h1 h2
    rcases h k h2 with h3 | h3
    · omega
    · exact h3
  · intro h k h1
    by_cases h2 : k < 2
    · exact .inl h2
    · exact .inr (h k (by omega) h1)
def prI (p : Int) : Bool := decide (2 ≤ p ∧ p ≤ 97) && prB p.toNat
theorem prI_elim {p : Int} (h : prI p = true) : ∃ k : Nat, p = k ∧ 2 ≤ k ∧ k ≤ 97 ∧ prB k = true := by
  unfold prI at h
  simp only [Bool.and_eq_true, decide_eq_true_eq] at h
  obtain ⟨k, rfl⟩ : ∃ k : Nat, p = k := ⟨p.toNat, by omega⟩
  exact ⟨k, rfl, by omega, by omega, h.2⟩
theorem sq_all : ((List.range 98).all fun p => decide (p < 2) || prB p || (List.range 10).any fun k => decide (2 ≤ k) && decide (k * k ≤ p) && decide (p % k = 0)) = true := by decide +kernel
theorem prB_sq {p : Nat} (h2 : 2 ≤ p) (h97 : p ≤ 97) (h : ∀ k, 2 ≤ k → k * k ≤ p → p % k ≠ 0) : prB p = true := by
  have := List.all_eq_true.1 sq_all p (List.mem_range.2 (by omega))
  simp only [Bool.or_eq_true, decide_eq_true_eq, List.any_eq_true, List.mem_range, Bool.and_eq_true] at this
  rcases this with (h1 | h1) | ⟨k, _, ⟨h3, h4⟩, h5⟩
  · omega
  · exact h1
  · exact absurd h5 (h k h3 h4)
def pwN (a p : Nat) : Nat → Nat
  | 0 => 1
  | k + 1 => pwN a p k * a % p
theorem pwN_lt {a p : Nat} (hp : 2 ≤ p) : ∀ k, pwN a p k < p
  | 0 => by simp [pwN]; omega
  | k + 1 => Nat.mod_lt _ (by omega)
def invF (p x : Nat) : Nat → Nat → Nat
  | 0, _ => 0
  | d + 1, k => if k * x % p = 1 then k else invF p x d (k + 1)
def invS (p x : Nat) : Nat := invF p x (p - 1) 1
theorem inv_all : ((List.range 98).all fun p => !prB p || (List.range p).all fun x => decide (x = 0) || decide (invS p x = pwN x p (p - 2))) = true := by decide +kernel
theorem inv_eq {p x : Nat} (h97 : p ≤ 97) (hp : prB p = true) (h1 : 1 ≤ x) (hx : x < p) : invS p x = pwN x p (p - 2) := by
  have := List.all_eq_true.1 inv_all p (List.mem_range.2 (by omega))
  simp only [hp, Bool.not_true, Bool.false_or] at this
  have := List.all_eq_true.1 this x (List.mem_range.2 hx)
  simp only [Bool.or_eq_true, decide_eq_true_eq] at this
  rcases this with h | h
  · omega
  · exact h
/-- The remainder of a remainder. -/
theorem tmod_emod (x p : Int) : (x.tmod p) % p = x % p := by
  have := Int.tmod_eq_emod (a := x) (b := p)
  rw [this]
  split
  · simp
  · rw [Int.sub_emod, ← Int.sub_emod]
    have e : (x % p - (p.natAbs : Int)) % p = x % p := by
      rcases Int.natAbs_eq p with h | h
      · rw [← h]; simp
      · have : (p.natAbs : Int) = -p := by omega
        rw [this]; simp
    exact e
theorem tmod_bd {x p : Int} (hp : 0 < p) : -p < x.tmod p ∧ x.tmod p < p := by
  rw [Int.tmod_eq_emod]
  have h1 := Int.emod_nonneg x (show p ≠ 0 by omega)
  have h2 := Int.emod_lt_of_pos x hp
  split
  · omega
  · have : (p.natAbs : Int) = p := by omega
    rename_i h
    have : x % p ≠ 0 := fun e => h (.inr (Int.dvd_of_emod_eq_zero e))
    omega
theorem tmod_nn {x p : Int} (hx : 0 ≤ x) (hp : 0 < p) : x.tmod p = x % p := Int.tmod_eq_emod_of_nonneg hx
theorem rest_eq {x p : Int} (hp : 0 < p) : (x.tmod p + p).tmod p = x % p := by
  have := tmod_bd (x := x) hp
  have e : (x.tmod p + p) % p = x.tmod p % p := by simp
  rw [tmod_nn (by omega) hp, e, tmod_emod]
end Go.Proofs.Ytimigbgpldjefaa.VE
