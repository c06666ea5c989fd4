/- Contracts of functions of the given program, for all arguments that the contract names; see each theorem. -/
import Derived.Test.YtimigbgpldjefaaD1
import Derived.Test.YtimigbgpldjefaaU9
import Derived.Test.YtimigbgpldjefaaU10b
set_option linter.all false
namespace Go.Proofs.Ytimigbgpldjefaa.VE
open Go
set_option maxHeartbeats 800000
set_option maxRecDepth 100000

theorem tmodC (a b : Nat) : Int.tmod (a : Int) (b : Int) = ((a % b : Nat) : Int) := tmN a b
theorem prI_false {p : Int} {k : Nat} (h2 : 2 ≤ k) (hk : (k : Int) < p) (h : Int.tmod p k = 0) : prI p = false := by
  cases hq : prI p with
  | false => rfl
  | true =>
    obtain ⟨n, rfl, h3, h4, h5⟩ := prI_elim hq
    rw [tmodC] at h
    exact absurd (by omega) (prB_iff.1 h5 k h2 (by omega))
theorem prI_true {p : Int} {k : Nat} (hp : 2 ≤ p ∧ p ≤ 97) (h : ∀ j : Nat, 2 ≤ j → (j : Int) < p → Int.tmod p j ≠ 0) : prI p = true := by
  obtain ⟨n, rfl⟩ : ∃ n : Nat, p = n := ⟨p.toNat, by omega⟩
  unfold prI
  rw [decide_eq_true hp, Bool.true_and, Int.toNat_natCast]
  refine prB_iff.2 fun j h1 h2 h3 => h j h1 (by omega) ?_
  rw [tmodC, h3]; rfl
theorem s_sprime (p : Int) : Spec Try.prog n_s_l01Prime [vi p] [] (vb (prI p)) [] := by
  have hin := s_in p 2 97
  refine SpecW.of_EV hf_s_l01Prime hc_s_l01Prime rfl rfl rfl fun w0 B ρ0 _ => ?_
  (repeat' (first | refine And.intro (neI rfl) ?_ | refine And.intro ⟨rfl, leR rfl, onesR rfl⟩ ?_ | refine And.intro ⟨rfl, leR rfl⟩ ?_ | refine draw_rule2 hfol (fun KK hKK => ?_) | refine hKK _ _ _ (by kernel_rfl) ?_ | refine region_rule (fun KK hKK => ?_) | refine hKK _ _ ?_ | refine And.intro (Eq.refl true) ?_ | refine Exists.intro _ (And.intro (wI (by omega)) ?_) | refine Exists.intro _ (And.intro (wU (by omega)) ?_) | refine Exists.intro _ (And.intro ⟨rfl, by omega⟩ ?_) | refine Exists.intro _ (And.intro rfl ?_) | refine And.intro rfl ?_ | refine And.intro ⟨rfl, rfl⟩ ?_ | ((refine And.intro (fun _ => ?_) (fun _ => ?_)) <;> try (exfalso; omega))))
  refine loop_rule (α := Nat) (fun k => 2 ≤ k ∧ k ≤ 100 ∧ ∀ j : Nat, 2 ≤ j → j < k → (j : Int) < p → Int.tmod p j ≠ 0) (fun k => [(0, vi p), (3, vi k)]) (fun _ => []) (fun k => 100 - k) 2 []
    ⟨by omega, by omega, fun j _ _ => by omega⟩ ⟨⟨rfl, rfl, trivial⟩, trivial, rfl⟩ ?_
  rintro k g ⟨h2, h100, hno⟩
  by_cases h9 : (k : Int) < p ∧ k < 100
  · have hne : (k : Int) ≠ 0 := by omega
    by_cases hd : Int.tmod p k = 0
    · rw [prI_false h2 h9.1 hd]
      (repeat' (first | refine And.intro hne ?_ | refine Exists.intro _ (And.intro hd ?_) | refine And.intro (neI rfl) ?_ | refine And.intro ⟨rfl, leR rfl, onesR rfl⟩ ?_ | refine And.intro ⟨rfl, leR rfl⟩ ?_ | refine draw_rule2 hfol (fun KK hKK => ?_) | refine hKK _ _ _ (by kernel_rfl) ?_ | refine region_rule (fun KK hKK => ?_) | refine hKK _ _ ?_ | refine And.intro (Eq.refl true) ?_ | refine Exists.intro _ (And.intro (wI (by omega)) ?_) | refine Exists.intro _ (And.intro (wU (by omega)) ?_) | refine Exists.intro _ (And.intro ⟨rfl, by omega⟩ ?_) | refine Exists.intro _ (And.intro rfl ?_) | refine And.intro rfl ?_ | refine And.intro ⟨rfl, rfl⟩ ?_ | ((refine And.intro (fun _ => ?_) (fun _ => ?_)) <;> try (exfalso; omega))))
      exact Exists.intro [] (And.intro (rfl) (And.intro trivial rfl))
    · (repeat' (first | refine And.intro hne ?_ | refine And.intro (neI rfl) ?_ | refine And.intro ⟨rfl, leR rfl, onesR rfl⟩ ?_ | refine And.intro ⟨rfl, leR rfl⟩ ?_ | refine draw_rule2 hfol (fun KK hKK => ?_) | refine hKK _ _ _ (by kernel_rfl) ?_ | refine region_rule (fun KK hKK => ?_) | refine hKK _ _ ?_ | refine And.intro (Eq.refl true) ?_ | refine Exists.intro _ (And.intro (wI (by omega)) ?_) | refine Exists.intro _ (And.intro (wU (by omega)) ?_) | refine Exists.intro _ (And.intro ⟨rfl, by omega⟩ ?_) | refine Exists.intro _ (And.intro rfl ?_) | refine And.intro rfl ?_ | refine And.intro ⟨rfl, rfl⟩ ?_ | ((refine And.intro (fun _ => ?_) (fun _ => ?_)) <;> try (exfalso; omega))))
      refine Exists.intro (k + 1) (Exists.intro [] (And.intro ⟨⟨by omega, by omega, fun j h3 h4 h5 => ?_⟩, (by show 100 - (k + 1) < 100 - k; omega)⟩ ⟨⟨rfl, rfl, trivial⟩, trivial, rfl⟩))
      by_cases hjk : j = k
      · subst hjk; exact hd
      · exact hno j h3 (by omega) h5
  · by_cases hr : 2 ≤ p ∧ p ≤ 97
    · rw [decide_eq_true hr] at hin
      rw [prI_true (k := 0) hr fun j h3 h4 => hno j h3 (by omega) h4]
      (repeat' (first | refine (hin).pure rfl ?_ | refine And.intro (neI rfl) ?_ | refine And.intro ⟨rfl, leR rfl, onesR rfl⟩ ?_ | refine And.intro ⟨rfl, leR rfl⟩ ?_ | refine draw_rule2 hfol (fun KK hKK => ?_) | refine hKK _ _ _ (by kernel_rfl) ?_ | refine region_rule (fun KK hKK => ?_) | refine hKK _ _ ?_ | refine And.intro (Eq.refl true) ?_ | refine Exists.intro _ (And.intro (wI (by omega)) ?_) | refine Exists.intro _ (And.intro (wU (by omega)) ?_) | refine Exists.intro _ (And.intro ⟨rfl, by omega⟩ ?_) | refine Exists.intro _ (And.intro rfl ?_) | refine And.intro rfl ?_ | refine And.intro ⟨rfl, rfl⟩ ?_ | ((refine And.intro (fun _ => ?_) (fun _ => ?_)) <;> try (exfalso; omega))))
      all_goals exact Exists.intro [] (And.intro (rfl) (And.intro trivial rfl))
    · rw [decide_eq_false hr] at hin
      have hf : prI p = false := by unfold prI; rw [decide_eq_false hr]; rfl
      rw [hf]
      (repeat' (first | refine (hin).pure rfl ?_ | refine And.intro (neI rfl) ?_ | refine And.intro ⟨rfl, leR rfl, onesR rfl⟩ ?_ | refine And.intro ⟨rfl, leR rfl⟩ ?_ | refine draw_rule2 hfol (fun KK hKK => ?_) | refine hKK _ _ _ (by kernel_rfl) ?_ | refine region_rule (fun KK hKK => ?_) | refine hKK _ _ ?_ | refine And.intro (Eq.refl true) ?_ | refine Exists.intro _ (And.intro (wI (by omega)) ?_) | refine Exists.intro _ (And.intro (wU (by omega)) ?_) | refine Exists.intro _ (And.intro ⟨rfl, by omega⟩ ?_) | refine Exists.intro _ (And.intro rfl ?_) | refine And.intro rfl ?_ | refine And.intro ⟨rfl, rfl⟩ ?_ | ((refine And.intro (fun _ => ?_) (fun _ => ?_)) <;> try (exfalso; omega))))
      all_goals exact Exists.intro [] (And.intro (rfl) (And.intro trivial rfl))
theorem s_iprime (p : Int) : Spec Try.prog n_i_isPrime [vi p] [] (vb (prI p)) [] := by
  have hin := s_iin p 2 97
  refine SpecW.of_EV hf_i_isPrime hc_i_isPrime rfl rfl rfl fun w0 B ρ0 _ => ?_
  by_cases hr : 2 ≤ p ∧ p ≤ 97
  rotate_left
  · rw [decide_eq_false hr] at hin
    have hf : prI p = false := by unfold prI; rw [decide_eq_false hr]; rfl
    rw [hf]
    (repeat' (first | refine (hin).pure rfl ?_ | refine And.intro (neI rfl) ?_ | refine And.intro ⟨rfl, leR rfl, onesR rfl⟩ ?_ | refine And.intro ⟨rfl, leR rfl⟩ ?_ | refine draw_rule2 hfol (fun KK hKK => ?_) | refine hKK _ _ _ (by kernel_rfl) ?_ | refine region_rule (fun KK hKK => ?_) | refine hKK _ _ ?_ | refine And.intro (Eq.refl true) ?_ | refine Exists.intro _ (And.intro (wI (by omega)) ?_) | refine Exists.intro _ (And.intro (wU (by omega)) ?_) | refine Exists.intro _ (And.intro ⟨rfl, by omega⟩ ?_) | refine Exists.intro _ (And.intro rfl ?_) | refine And.intro rfl ?_ | refine And.intro ⟨rfl, rfl⟩ ?_ | ((refine And.intro (fun _ => ?_) (fun _ => ?_)) <;> try (exfalso; omega))))
    exact Exists.intro [] (And.intro (rfl) (And.intro trivial rfl))
  rw [decide_eq_true hr] at hin
  obtain ⟨n, rfl⟩ : ∃ n : Nat, p = n := ⟨p.toNat, by omega⟩
  (repeat' (first | refine (hin).pure rfl ?_ | refine And.intro (neI rfl) ?_ | refine And.intro ⟨rfl, leR rfl, onesR rfl⟩ ?_ | refine And.intro ⟨rfl, leR rfl⟩ ?_ | refine draw_rule2 hfol (fun KK hKK => ?_) | refine hKK _ _ _ (by kernel_rfl) ?_ | refine region_rule (fun KK hKK => ?_) | refine hKK _ _ ?_ | refine And.intro (Eq.refl true) ?_ | refine Exists.intro _ (And.intro (wI (by omega)) ?_) | refine Exists.intro _ (And.intro (wU (by omega)) ?_) | refine Exists.intro _ (And.intro ⟨rfl, by omega⟩ ?_) | refine Exists.intro _ (And.intro rfl ?_) | refine And.intro rfl ?_ | refine And.intro ⟨rfl, rfl⟩ ?_ | ((refine And.intro (fun _ => ?_) (fun _ => ?_)) <;> try (exfalso; omega))))
  refine loop_rule (α := Nat) (fun k => 2 ≤ k ∧ k ≤ 100 ∧ ∀ j : Nat, 2 ≤ j → j < k → n % j ≠ 0) (fun k => [(0, vi n), (3, vi k)]) (fun _ => []) (fun k => 100 - k) 2 []
    ⟨by omega, by omega, fun j _ _ => by omega⟩ ⟨⟨rfl, rfl, trivial⟩, trivial, rfl⟩ ?_
  rintro k g ⟨h2, h100, hno⟩
  have hkk : k * k ≤ 10000 := Nat.mul_le_mul h100 h100
  have e1 : IntKind.i64.wrap ((k : Int) * (k : Int)) = ((k * k : Nat) : Int) := wC (by rw [Int.natCast_mul]) (by omega)
  have hlt : k < k * k := by
    have := Nat.mul_le_mul_right k h2; omega
  by_cases h9 : k * k ≤ n
  · have hne : (k : Int) ≠ 0 := by omega
    have e2 : Int.tmod (n : Int) (k : Int) = ((n % k : Nat) : Int) := tmodC n k
    by_cases hd : n % k = 0
    · rw [show prI n = false from prI_false h2 (by omega) (by rw [e2, hd]; rfl)]
      rw [hd] at e2
      (repeat' (first | refine And.intro hne ?_ | refine Exists.intro _ (And.intro e1 ?_) | refine Exists.intro _ (And.intro e2 ?_) | refine And.intro (neI rfl) ?_ | refine And.intro ⟨rfl, leR rfl, onesR rfl⟩ ?_ | refine And.intro ⟨rfl, leR rfl⟩ ?_ | refine draw_rule2 hfol (fun KK hKK => ?_) | refine hKK _ _ _ (by kernel_rfl) ?_ | refine region_rule (fun KK hKK => ?_) | refine hKK _ _ ?_ | refine And.intro (Eq.refl true) ?_ | refine Exists.intro _ (And.intro (wI (by omega)) ?_) | refine Exists.intro _ (And.intro (wU (by omega)) ?_) | refine Exists.intro _ (And.intro ⟨rfl, by omega⟩ ?_) | refine Exists.intro _ (And.intro rfl ?_) | refine And.intro rfl ?_ | refine And.intro ⟨rfl, rfl⟩ ?_ | ((refine And.intro (fun _ => ?_) (fun _ => ?_)) <;> try (exfalso; omega))))
      exact Exists.intro [] (And.intro (rfl) (And.intro trivial rfl))
    · (repeat' (first | refine And.intro hne ?_ | refine Exists.intro _ (And.intro e1 ?_) | refine Exists.intro _ (And.intro e2 ?_) | refine And.intro (neI rfl) ?_ | refine And.intro ⟨rfl, leR rfl, onesR rfl⟩ ?_ | refine And.intro ⟨rfl, leR rfl⟩ ?_ | refine draw_rule2 hfol (fun KK hKK => ?_) | refine hKK _ _ _ (by kernel_rfl) ?_ | refine region_rule (fun KK hKK => ?_) | refine hKK _ _ ?_ | refine And.intro (Eq.refl true) ?_ | refine Exists.intro _ (And.intro (wI (by omega)) ?_) | refine Exists.intro _ (And.intro (wU (by omega)) ?_) | refine Exists.intro _ (And.intro ⟨rfl, by omega⟩ ?_) | refine Exists.intro _ (And.intro rfl ?_) | refine And.intro rfl ?_ | refine And.intro ⟨rfl, rfl⟩ ?_ | ((refine And.intro (fun _ => ?_) (fun _ => ?_)) <;> try (exfalso; omega))))
      refine Exists.intro (k + 1) (Exists.intro [] (And.intro ⟨⟨by omega, ?_, fun j h3 h4 => ?_⟩, (by show 100 - (k + 1) < 100 - k; omega)⟩ ⟨⟨rfl, rfl, trivial⟩, trivial, rfl⟩))
      · have : k < 100 := Nat.lt_of_not_le fun h => by have := Nat.mul_le_mul h h; omega
        omega
      · by_cases hjk : j = k
        · subst hjk; exact hd
        · exact hno j h3 (by omega)
  · have ht : prI n = true := by
      unfold prI
      rw [decide_eq_true hr, Bool.true_and, Int.toNat_natCast]
      refine prB_sq (by omega) (by omega) fun j h3 h4 => hno j h3 ?_
      refine Nat.lt_of_not_le fun h => ?_
      have := Nat.mul_le_mul h h; omega
    rw [ht]
    (repeat' (first | refine Exists.intro _ (And.intro e1 ?_) | refine And.intro (neI rfl) ?_ | refine And.intro ⟨rfl, leR rfl, onesR rfl⟩ ?_ | refine And.intro ⟨rfl, leR rfl⟩ ?_ | refine draw_rule2 hfol (fun KK hKK => ?_) | refine hKK _ _ _ (by kernel_rfl) ?_ | refine region_rule (fun KK hKK => ?_) | refine hKK _ _ ?_ | refine And.intro (Eq.refl true) ?_ | refine Exists.intro _ (And.intro (wI (by omega)) ?_) | refine Exists.intro _ (And.intro (wU (by omega)) ?_) | refine Exists.intro _ (And.intro ⟨rfl, by omega⟩ ?_) | refine Exists.intro _ (And.intro rfl ?_) | refine And.intro rfl ?_ | refine And.intro ⟨rfl, rfl⟩ ?_ | ((refine And.intro (fun _ => ?_) (fun _ => ?_)) <;> try (exfalso; omega))))
    exact Exists.intro [] (And.intro (rfl) (And.intro trivial rfl))
theorem s_power (a p k : Nat) (hp : 2 ≤ p) (hp97 : p ≤ 97) (ha : a ≤ 97) (hk : k ≤ 1000) : Spec Try.prog n_i_power [vi a, vi k, vi p] [] (vi (pwN a p k : Nat)) [] := by
  refine SpecW.of_EV hf_i_power hc_i_power rfl rfl rfl fun w0 B ρ0 _ => ?_
  (repeat' (first | refine And.intro (neI rfl) ?_ | refine And.intro ⟨rfl, leR rfl, onesR rfl⟩ ?_ | refine And.intro ⟨rfl, leR rfl⟩ ?_ | refine draw_rule2 hfol (fun KK hKK => ?_) | refine hKK _ _ _ (by kernel_rfl) ?_ | refine region_rule (fun KK hKK => ?_) | refine hKK _ _ ?_ | refine And.intro (Eq.refl true) ?_ | refine Exists.intro _ (And.intro (wI (by omega)) ?_) | refine Exists.intro _ (And.intro (wU (by omega)) ?_) | refine Exists.intro _ (And.intro ⟨rfl, by omega⟩ ?_) | refine Exists.intro _ (And.intro rfl ?_) | refine And.intro rfl ?_ | refine And.intro ⟨rfl, rfl⟩ ?_ | ((refine And.intro (fun _ => ?_) (fun _ => ?_)) <;> try (exfalso; omega))))
  refine loop_rule (α := Nat) (fun j => j ≤ k) (fun j => [(0, vi a), (2, vi p), (7, vi (pwN a p j : Nat)), (8, vi k), (9, vi j)]) (fun _ => []) (fun j => k - j) 0 []
    (by omega) ⟨⟨rfl, rfl, rfl, rfl, rfl, trivial⟩, trivial, rfl⟩ ?_
  rintro j g hj
  by_cases h9 : j = k
  · subst h9
    (repeat' (first | refine And.intro (neI rfl) ?_ | refine And.intro ⟨rfl, leR rfl, onesR rfl⟩ ?_ | refine And.intro ⟨rfl, leR rfl⟩ ?_ | refine draw_rule2 hfol (fun KK hKK => ?_) | refine hKK _ _ _ (by kernel_rfl) ?_ | refine region_rule (fun KK hKK => ?_) | refine hKK _ _ ?_ | refine And.intro (Eq.refl true) ?_ | refine Exists.intro _ (And.intro (wI (by omega)) ?_) | refine Exists.intro _ (And.intro (wU (by omega)) ?_) | refine Exists.intro _ (And.intro ⟨rfl, by omega⟩ ?_) | refine Exists.intro _ (And.intro rfl ?_) | refine And.intro rfl ?_ | refine And.intro ⟨rfl, rfl⟩ ?_ | ((refine And.intro (fun _ => ?_) (fun _ => ?_)) <;> try (exfalso; omega))))
    exact Exists.intro [] (And.intro (rfl) (And.intro trivial rfl))
  have hl := pwN_lt (a := a) hp j
  have hne : (p : Int) ≠ 0 := by omega
  have hb : pwN a p j * a ≤ 97 * 97 := Nat.mul_le_mul (by omega) (by omega)
  have e1 : IntKind.i64.wrap (((pwN a p j : Nat) : Int) * (a : Int)) = ((pwN a p j * a : Nat) : Int) := wC (by rw [Int.natCast_mul]) (by omega)
  have e2 : Int.tmod ((pwN a p j * a : Nat) : Int) (p : Int) = ((pwN a p (j + 1) : Nat) : Int) := tmodC _ _
  (repeat' (first | refine And.intro hne ?_ | refine Exists.intro _ (And.intro e1 ?_) | refine Exists.intro _ (And.intro e2 ?_) | refine And.intro (neI rfl) ?_ | refine And.intro ⟨rfl, leR rfl, onesR rfl⟩ ?_ | refine And.intro ⟨rfl, leR rfl⟩ ?_ | refine draw_rule2 hfol (fun KK hKK => ?_) | refine hKK _ _ _ (by kernel_rfl) ?_ | refine region_rule (fun KK hKK => ?_) | refine hKK _ _ ?_ | refine And.intro (Eq.refl true) ?_ | refine Exists.intro _ (And.intro (wI (by omega)) ?_) | refine Exists.intro _ (And.intro (wU (by omega)) ?_) | refine Exists.intro _ (And.intro ⟨rfl, by omega⟩ ?_) | refine Exists.intro _ (And.intro rfl ?_) | refine And.intro rfl ?_ | refine And.intro ⟨rfl, rfl⟩ ?_ | ((refine And.intro (fun _ => ?_) (fun _ => ?_)) <;> try (exfalso; omega))))
  refine Exists.intro (j + 1) (Exists.intro [] (And.intro ⟨by omega, (by show k - (j + 1) < k - j; omega)⟩ ⟨⟨rfl, rfl, rfl, rfl, rfl, trivial⟩, trivial, rfl⟩))
end Go.Proofs.Ytimigbgpldjefaa.VE
