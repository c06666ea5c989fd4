/- Contracts of functions of the given program, for all arguments that the contract names; see each theorem. -/
import Derived.Test.YtimigbgpldjefaaD6
set_option linter.all false
namespace Go.Proofs.Ytimigbgpldjefaa.VE
open Go
set_option maxHeartbeats 800000
set_option maxRecDepth 100000

/-! weights -/
def on : Nat → Nat → Nat
  | 0, _ => 0
  | d + 1, u => u % 2 + on d (u / 2)
theorem on_0 : ∀ d, on d 0 = 0
  | 0 => rfl
  | d + 1 => by simp [on, on_0 d]
theorem on_le : ∀ d u, on d u ≤ d
  | 0, _ => Nat.le_refl 0
  | d + 1, u => by have := on_le d (u / 2); simp only [on]; omega
theorem s_ones (n u0 : Nat) (hn : n ≤ 60) (hu0 : u0 < 2 ^ n) : Spec Try.prog n_i_ones [vi u0] [] (vi (on n u0 : Nat)) [] := by
  have h60 : (2 : Nat) ^ n ≤ 2 ^ 60 := Nat.pow_le_pow_right (by omega) hn
  refine SpecW.of_EV hf_i_ones hc_i_ones rfl rfl rfl fun w0 B ρ0 _ => ?_
  (repeat' (first | refine And.intro (neI rfl) ?_ | refine And.intro ⟨rfl, leR rfl, onesR rfl⟩ ?_ | refine And.intro ⟨rfl, leR rfl⟩ ?_ | refine draw_rule2 hfol (fun KK hKK => ?_) | refine hKK _ _ _ (by kernel_rfl) ?_ | refine region_rule (fun KK hKK => ?_) | refine hKK _ _ ?_ | refine And.intro (Eq.refl true) ?_ | refine Exists.intro _ (And.intro (wI (by omega)) ?_) | refine Exists.intro _ (And.intro (wU (by omega)) ?_) | refine Exists.intro _ (And.intro ⟨rfl, by omega⟩ ?_) | refine Exists.intro _ (And.intro rfl ?_) | refine And.intro rfl ?_ | refine And.intro ⟨rfl, rfl⟩ ?_ | ((refine And.intro (fun _ => ?_) (fun _ => ?_)) <;> try (exfalso; omega))))
  refine loop_rule (α := Nat × Nat × Nat) (fun (d, u, c) => d ≤ n ∧ u < 2 ^ d ∧ u ≤ u0 ∧ c + on d u = on n u0) (fun (d, u, c) => [(0, vi u), (3, vi c)]) (fun _ => []) (fun (d, _, _) => d) (n, u0, 0) []
    ⟨by omega, hu0, by omega, by omega⟩ ⟨⟨rfl, rfl, trivial⟩, trivial, rfl⟩ ?_
  rintro ⟨d, u, c⟩ g ⟨hd, hu, hle, hR⟩
  by_cases h9 : u = 0
  · subst h9
    rw [on_0] at hR
    (repeat' (first | refine And.intro (neI rfl) ?_ | refine And.intro ⟨rfl, leR rfl, onesR rfl⟩ ?_ | refine And.intro ⟨rfl, leR rfl⟩ ?_ | refine draw_rule2 hfol (fun KK hKK => ?_) | refine hKK _ _ _ (by kernel_rfl) ?_ | refine region_rule (fun KK hKK => ?_) | refine hKK _ _ ?_ | refine And.intro (Eq.refl true) ?_ | refine Exists.intro _ (And.intro (wI (by omega)) ?_) | refine Exists.intro _ (And.intro (wU (by omega)) ?_) | refine Exists.intro _ (And.intro ⟨rfl, by omega⟩ ?_) | refine Exists.intro _ (And.intro rfl ?_) | refine And.intro rfl ?_ | refine And.intro ⟨rfl, rfl⟩ ?_ | ((refine And.intro (fun _ => ?_) (fun _ => ?_)) <;> try (exfalso; omega))))
    exact Exists.intro [] (And.intro (by rw [← hR]; rfl) (And.intro trivial rfl))
  obtain ⟨d, rfl⟩ : ∃ e, d = e + 1 := ⟨d - 1, by cases d with
    | zero => simp at hu; omega
    | succ d => rfl⟩
  have ho := on_le n u0
  have e1 := and1 u (by omega)
  have e2 : (u : Int).fdiv (2 ^ (min (1 : Int).toNat 64)) = ((u / 2 : Nat) : Int) := shrN u 1 (by omega)
  have hu2 : u / 2 < 2 ^ d := by rw [Nat.pow_succ] at hu; omega
  simp only [on] at hR
  have e3 : IntKind.i64.wrap ((c : Int) + ((u % 2 : Nat) : Int)) = ((c + u % 2 : Nat) : Int) := wC (by omega) (by omega)
  (repeat' (first | refine Exists.intro _ (And.intro e1 ?_) | refine And.intro (by omega) (Exists.intro _ (And.intro e2 ?_)) | refine Exists.intro _ (And.intro e3 ?_) | refine And.intro (neI rfl) ?_ | refine And.intro ⟨rfl, leR rfl, onesR rfl⟩ ?_ | refine And.intro ⟨rfl, leR rfl⟩ ?_ | refine draw_rule2 hfol (fun KK hKK => ?_) | refine hKK _ _ _ (by kernel_rfl) ?_ | refine region_rule (fun KK hKK => ?_) | refine hKK _ _ ?_ | refine And.intro (Eq.refl true) ?_ | refine Exists.intro _ (And.intro (wI (by omega)) ?_) | refine Exists.intro _ (And.intro (wU (by omega)) ?_) | refine Exists.intro _ (And.intro ⟨rfl, by omega⟩ ?_) | refine Exists.intro _ (And.intro rfl ?_) | refine And.intro rfl ?_ | refine And.intro ⟨rfl, rfl⟩ ?_ | ((refine And.intro (fun _ => ?_) (fun _ => ?_)) <;> try (exfalso; omega))))
  refine Exists.intro (d, u / 2, c + u % 2) (Exists.intro [] (And.intro ⟨⟨by omega, hu2, Nat.le_trans (Nat.div_le_self _ _) hle, by omega⟩, (by show d < d + 1; omega)⟩ ⟨⟨rfl, rfl, trivial⟩, trivial, rfl⟩))
/-- How many of the first i letters are ones. -/
def cz (n u : Nat) : Nat → Nat
  | 0 => 0
  | i + 1 => cz n u i + lt1 u (n - 1 - i)
theorem cz_le {n u : Nat} : ∀ i, cz n u i ≤ i
  | 0 => Nat.le_refl 0
  | i + 1 => by
    have := cz_le (n := n) (u := u) i
    rcases lt1_01 u (n - 1 - i) with h | h <;> simp only [cz, h] <;> omega
/-- The same, counted from the other end. -/
theorem on_sum : ∀ d u, on d u = ((List.range d).map fun e => lt1 u e).sum
  | 0, _ => rfl
  | d + 1, u => by
    rw [on, on_sum d, List.range_succ_eq_map, List.map_cons, List.sum_cons, List.map_map]
    have e0 : lt1 u 0 = u % 2 := by simp [lt1]
    rw [e0]
    congr 2
    refine List.map_congr_left fun e _ => ?_
    simp only [lt1, Function.comp]
    rw [Nat.div_div_eq_div_mul, Nat.pow_succ, Nat.mul_comm]
theorem cz_sum {n u : Nat} : ∀ i, i ≤ n → cz n u i + ((List.range (n - i)).map fun e => lt1 u e).sum = ((List.range n).map fun e => lt1 u e).sum
  | 0, _ => by simp [cz]
  | i + 1, hi => by
    have ih := cz_sum (n := n) (u := u) i (by omega)
    rw [← ih, show n - i = n - (i + 1) + 1 from by omega, List.range_succ, List.map_append, List.sum_append, cz, show n - 1 - i = n - (i + 1) from by omega]
    simp; omega
theorem cz_on {n u : Nat} : cz n u n = on n u := by
  have := cz_sum (n := n) (u := u) n (Nat.le_refl n)
  rw [on_sum]; simpa using this
/-- One letter's weight, and the product of the first ones with the entry. -/
def wt1 (n : Nat) (p q r : Int) (u i : Nat) : Int := if lt1 u (n - 1 - i) = 1 then p - q else p - r
def owN (n : Nat) (m : List Nat) (p q r : Int) (u : Nat) : Nat → Int
  | 0 => ent n m p q r u u
  | i + 1 => owN n m p q r u i * wt1 n p q r u i % p
def wtW (n : Nat) (p q r : Int) (u : Nat) : Int := ((pwN (p - r).toNat p.toNat (n - on n u) : Nat) : Int) * ((pwN (p - q).toNat p.toNat (on n u) : Nat) : Int) % p
theorem pwN_pow {A p : Nat} (hp : 2 ≤ p) : ∀ k, ((pwN A p k : Nat) : Int) = (A : Int) ^ k % (p : Int)
  | 0 => by rw [pwN, Int.pow_zero, Int.emod_eq_of_lt (by omega) (by omega)]; rfl
  | k + 1 => by
    rw [pwN, Int.natCast_emod, Int.natCast_mul, pwN_pow hp k, mulmod, Int.pow_succ]
theorem owN_eq {n : Nat} {m : List Nat} {p q r : Int} {u : Nat} (hp : 2 ≤ p) : ∀ i, owN n m p q r u i = ent n m p q r u u * ((p - r) ^ (i - cz n u i) * (p - q) ^ (cz n u i)) % p
  | 0 => by
    have h := ent_bd (n := n) (m := m) (p := p) (q := q) (r := r) (u := u) (v := u) hp
    simp only [owN, cz, Nat.sub_self, Int.pow_zero, Int.mul_one]
    exact (Int.emod_eq_of_lt h.1 h.2).symm
  | i + 1 => by
    have hle := cz_le (n := n) (u := u) i
    rw [owN, owN_eq hp i, mulmod, Int.mul_assoc]
    congr 2
    rcases lt1_01 u (n - 1 - i) with h | h
    · rw [wt1, if_neg (by rw [h]; decide), cz, h, show cz n u i + 0 = cz n u i from rfl, show i + 1 - cz n u i = i - cz n u i + 1 from by omega, Int.pow_succ]
      rw [Int.mul_assoc, Int.mul_comm ((p - q) ^ _), ← Int.mul_assoc]
    · rw [wt1, if_pos h, cz, h, show i + 1 - (cz n u i + 1) = i - cz n u i from by omega, Int.pow_succ, Int.mul_assoc]
theorem owN_n {n : Nat} {m : List Nat} {p q r : Int} {u : Nat} (hp : 2 ≤ p) (hq : 0 ≤ q ∧ q < p) (hr : 0 ≤ r ∧ r < p) : owN n m p q r u n = ent n m p q r u u * wtW n p q r u % p := by
  rw [owN_eq hp, cz_on, wtW]
  obtain ⟨P, rfl⟩ : ∃ P : Nat, p = P := ⟨p.toNat, by omega⟩
  rw [Int.toNat_natCast, pwN_pow (by omega), pwN_pow (by omega), Int.toNat_of_nonneg (by omega), Int.toNat_of_nonneg (by omega), ← Int.mul_emod]
  rw [Int.mul_emod, Int.mul_emod (ent n m P q r u u) (_ % _), Int.emod_emod]
theorem wtW_bd {n : Nat} {p q r : Int} {u : Nat} (hp : 2 ≤ p) : 0 ≤ wtW n p q r u ∧ wtW n p q r u < p :=
  ⟨Int.emod_nonneg _ (by omega), Int.emod_lt_of_pos _ (by omega)⟩
end Go.Proofs.Ytimigbgpldjefaa.VE
