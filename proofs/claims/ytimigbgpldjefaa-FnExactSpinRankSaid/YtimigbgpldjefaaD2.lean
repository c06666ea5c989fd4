/- Contracts of functions of the given program, for all arguments that the contract names; see each theorem. -/
import Derived.Test.YtimigbgpldjefaaD2a
set_option linter.all false
namespace Go.Proofs.Ytimigbgpldjefaa.VE
open Go
set_option maxHeartbeats 800000
set_option maxRecDepth 100000

theorem s_iinv (q p : Nat) (hp : 2 ≤ p) (hp97 : p ≤ 97) (hq : q < p) : Spec Try.prog n_i_inverse [vi q, vi p] [] (vi (pwN q p (p - 2) : Nat)) [] := by
  have h := s_power q p (p - 2) hp hp97 (by omega) (by omega)
  have e1 : IntKind.i64.wrap ((p : Int) - 2) = ((p - 2 : Nat) : Int) := wC (by omega) (by omega)
  refine SpecW.of_EV hf_i_inverse hc_i_inverse rfl rfl rfl fun w0 B ρ0 _ => ?_
  (repeat' (first | refine Exists.intro _ (And.intro e1 ?_) | refine (h).pure rfl ?_ | refine And.intro (neI rfl) ?_ | refine And.intro ⟨rfl, leR rfl, onesR rfl⟩ ?_ | refine And.intro ⟨rfl, leR rfl⟩ ?_ | refine draw_rule2 hfol (fun KK hKK => ?_) | refine hKK _ _ _ (by kernel_rfl) ?_ | refine region_rule (fun KK hKK => ?_) | refine hKK _ _ ?_ | refine And.intro (Eq.refl true) ?_ | refine Exists.intro _ (And.intro (wI (by omega)) ?_) | refine Exists.intro _ (And.intro (wU (by omega)) ?_) | refine Exists.intro _ (And.intro ⟨rfl, by omega⟩ ?_) | refine Exists.intro _ (And.intro rfl ?_) | refine And.intro rfl ?_ | refine And.intro ⟨rfl, rfl⟩ ?_ | ((refine And.intro (fun _ => ?_) (fun _ => ?_)) <;> try (exfalso; omega))))
  exact Exists.intro [] (And.intro (rfl) (And.intro trivial rfl))
theorem s_mod (p x : Int) (hp : 0 < p ∧ p ≤ 1000) (hx : -4000000000000000000 ≤ x ∧ x ≤ 4000000000000000000) : Spec Try.prog n_s_l01Mod [vi p, vi x] [] (vi (x % p)) [] := by
  have hne : p ≠ 0 := by omega
  have hb := tmod_bd (x := x) hp.1
  have e1 : IntKind.i64.wrap (x.tmod p + p) = x.tmod p + p := wI (by omega)
  have e2 := rest_eq (x := x) hp.1
  refine SpecW.of_EV hf_s_l01Mod hc_s_l01Mod rfl rfl rfl fun w0 B ρ0 _ => ?_
  (repeat' (first | refine And.intro hne ?_ | refine Exists.intro _ (And.intro e1 ?_) | refine Exists.intro _ (And.intro e2 ?_) | refine And.intro (neI rfl) ?_ | refine And.intro ⟨rfl, leR rfl, onesR rfl⟩ ?_ | refine And.intro ⟨rfl, leR rfl⟩ ?_ | refine draw_rule2 hfol (fun KK hKK => ?_) | refine hKK _ _ _ (by kernel_rfl) ?_ | refine region_rule (fun KK hKK => ?_) | refine hKK _ _ ?_ | refine And.intro (Eq.refl true) ?_ | refine Exists.intro _ (And.intro (wI (by omega)) ?_) | refine Exists.intro _ (And.intro (wU (by omega)) ?_) | refine Exists.intro _ (And.intro ⟨rfl, by omega⟩ ?_) | refine Exists.intro _ (And.intro rfl ?_) | refine And.intro rfl ?_ | refine And.intro ⟨rfl, rfl⟩ ?_ | ((refine And.intro (fun _ => ?_) (fun _ => ?_)) <;> try (exfalso; omega))))
  exact Exists.intro [] (And.intro (rfl) (And.intro trivial rfl))
theorem s_rest (x p : Int) (hp : 0 < p ∧ p ≤ 1000) (hx : -4000000000000000000 ≤ x ∧ x ≤ 4000000000000000000) : Spec Try.prog n_i_rest [vi x, vi p] [] (vi (x % p)) [] := by
  have hne : p ≠ 0 := by omega
  have hb := tmod_bd (x := x) hp.1
  have e1 : IntKind.i64.wrap (x.tmod p + p) = x.tmod p + p := wI (by omega)
  have e2 := rest_eq (x := x) hp.1
  refine SpecW.of_EV hf_i_rest hc_i_rest rfl rfl rfl fun w0 B ρ0 _ => ?_
  (repeat' (first | refine And.intro hne ?_ | refine Exists.intro _ (And.intro e1 ?_) | refine Exists.intro _ (And.intro e2 ?_) | refine And.intro (neI rfl) ?_ | refine And.intro ⟨rfl, leR rfl, onesR rfl⟩ ?_ | refine And.intro ⟨rfl, leR rfl⟩ ?_ | refine draw_rule2 hfol (fun KK hKK => ?_) | refine hKK _ _ _ (by kernel_rfl) ?_ | refine region_rule (fun KK hKK => ?_) | refine hKK _ _ ?_ | refine And.intro (Eq.refl true) ?_ | refine Exists.intro _ (And.intro (wI (by omega)) ?_) | refine Exists.intro _ (And.intro (wU (by omega)) ?_) | refine Exists.intro _ (And.intro ⟨rfl, by omega⟩ ?_) | refine Exists.intro _ (And.intro rfl ?_) | refine And.intro rfl ?_ | refine And.intro ⟨rfl, rfl⟩ ?_ | ((refine And.intro (fun _ => ?_) (fun _ => ?_)) <;> try (exfalso; omega))))
  exact Exists.intro [] (And.intro (rfl) (And.intro trivial rfl))
theorem s_sinv (p x : Nat) (hp : 2 ≤ p) (hp97 : p ≤ 97) (hx : x < p) : Spec Try.prog n_s_l01Inverse [vi p, vi x] [] (vi (invS p x : Nat)) [] := by
  have hm := s_mod p x (by omega) (by omega)
  rw [show (x : Int) % (p : Int) = ((x : Nat) : Int) from Int.emod_eq_of_lt (by omega) (by omega)] at hm
  refine SpecW.of_EV hf_s_l01Inverse hc_s_l01Inverse rfl rfl rfl fun w0 B ρ0 _ => ?_
  (repeat' (first | refine And.intro (neI rfl) ?_ | refine And.intro ⟨rfl, leR rfl, onesR rfl⟩ ?_ | refine And.intro ⟨rfl, leR rfl⟩ ?_ | refine draw_rule2 hfol (fun KK hKK => ?_) | refine hKK _ _ _ (by kernel_rfl) ?_ | refine region_rule (fun KK hKK => ?_) | refine hKK _ _ ?_ | refine And.intro (Eq.refl true) ?_ | refine Exists.intro _ (And.intro (wI (by omega)) ?_) | refine Exists.intro _ (And.intro (wU (by omega)) ?_) | refine Exists.intro _ (And.intro ⟨rfl, by omega⟩ ?_) | refine Exists.intro _ (And.intro rfl ?_) | refine And.intro rfl ?_ | refine And.intro ⟨rfl, rfl⟩ ?_ | ((refine And.intro (fun _ => ?_) (fun _ => ?_)) <;> try (exfalso; omega))))
  refine loop_rule (α := Nat × Nat) (fun (d, k) => d + k = p ∧ 1 ≤ k ∧ invF p x d k = invS p x) (fun (d, k) => [(0, vi p), (1, vi x), (5, vi k)]) (fun _ => []) (fun (d, k) => d) (p - 1, 1) []
    ⟨by omega, by omega, rfl⟩ ⟨⟨rfl, rfl, rfl, trivial⟩, trivial, rfl⟩ ?_
  rintro ⟨d, k⟩ g ⟨hd, hk, hR⟩
  by_cases h9 : k = p
  · obtain rfl : d = 0 := by omega
    (repeat' (first | refine And.intro (neI rfl) ?_ | refine And.intro ⟨rfl, leR rfl, onesR rfl⟩ ?_ | refine And.intro ⟨rfl, leR rfl⟩ ?_ | refine draw_rule2 hfol (fun KK hKK => ?_) | refine hKK _ _ _ (by kernel_rfl) ?_ | refine region_rule (fun KK hKK => ?_) | refine hKK _ _ ?_ | refine And.intro (Eq.refl true) ?_ | refine Exists.intro _ (And.intro (wI (by omega)) ?_) | refine Exists.intro _ (And.intro (wU (by omega)) ?_) | refine Exists.intro _ (And.intro ⟨rfl, by omega⟩ ?_) | refine Exists.intro _ (And.intro rfl ?_) | refine And.intro rfl ?_ | refine And.intro ⟨rfl, rfl⟩ ?_ | ((refine And.intro (fun _ => ?_) (fun _ => ?_)) <;> try (exfalso; omega))))
    exact Exists.intro [] (And.intro (by rw [← hR]; rfl) (And.intro trivial rfl))
  obtain ⟨e, rfl⟩ : ∃ e, d = e + 1 := ⟨d - 1, by omega⟩
  have hb : k * x ≤ 97 * 97 := Nat.mul_le_mul (by omega) (by omega)
  have hne : (p : Int) ≠ 0 := by omega
  have e1 : IntKind.i64.wrap ((k : Int) * (x : Int)) = ((k * x : Nat) : Int) := wC (by rw [Int.natCast_mul]) (by omega)
  have e2 : Int.tmod ((k * x : Nat) : Int) (p : Int) = ((k * x % p : Nat) : Int) := tmodC _ _
  unfold invF at hR
  by_cases h1 : k * x % p = 1
  · rw [if_pos h1] at hR
    rw [h1] at e2
    (repeat' (first | refine And.intro hne ?_ | refine Exists.intro _ (And.intro e1 ?_) | refine Exists.intro _ (And.intro e2 ?_) | refine (hm).pure rfl ?_ | refine And.intro (neI rfl) ?_ | refine And.intro ⟨rfl, leR rfl, onesR rfl⟩ ?_ | refine And.intro ⟨rfl, leR rfl⟩ ?_ | refine draw_rule2 hfol (fun KK hKK => ?_) | refine hKK _ _ _ (by kernel_rfl) ?_ | refine region_rule (fun KK hKK => ?_) | refine hKK _ _ ?_ | refine And.intro (Eq.refl true) ?_ | refine Exists.intro _ (And.intro (wI (by omega)) ?_) | refine Exists.intro _ (And.intro (wU (by omega)) ?_) | refine Exists.intro _ (And.intro ⟨rfl, by omega⟩ ?_) | refine Exists.intro _ (And.intro rfl ?_) | refine And.intro rfl ?_ | refine And.intro ⟨rfl, rfl⟩ ?_ | ((refine And.intro (fun _ => ?_) (fun _ => ?_)) <;> try (exfalso; omega))))
    exact Exists.intro [] (And.intro (by rw [← hR]; rfl) (And.intro trivial rfl))
  · rw [if_neg h1] at hR
    (repeat' (first | refine And.intro hne ?_ | refine Exists.intro _ (And.intro e1 ?_) | refine Exists.intro _ (And.intro e2 ?_) | refine (hm).pure rfl ?_ | refine And.intro (neI rfl) ?_ | refine And.intro ⟨rfl, leR rfl, onesR rfl⟩ ?_ | refine And.intro ⟨rfl, leR rfl⟩ ?_ | refine draw_rule2 hfol (fun KK hKK => ?_) | refine hKK _ _ _ (by kernel_rfl) ?_ | refine region_rule (fun KK hKK => ?_) | refine hKK _ _ ?_ | refine And.intro (Eq.refl true) ?_ | refine Exists.intro _ (And.intro (wI (by omega)) ?_) | refine Exists.intro _ (And.intro (wU (by omega)) ?_) | refine Exists.intro _ (And.intro ⟨rfl, by omega⟩ ?_) | refine Exists.intro _ (And.intro rfl ?_) | refine And.intro rfl ?_ | refine And.intro ⟨rfl, rfl⟩ ?_ | ((refine And.intro (fun _ => ?_) (fun _ => ?_)) <;> try (exfalso; omega))))
    refine Exists.intro (e, k + 1) (Exists.intro [] (And.intro ⟨⟨by omega, by omega, hR⟩, (by show e < e + 1; omega)⟩ ⟨⟨rfl, rfl, rfl, trivial⟩, trivial, rfl⟩))
/-- A field, with a number. -/
def nmB (p q : Int) : Bool := prI p && decide (1 ≤ q ∧ q ≤ p - 1)
theorem s_snum (p q : Int) : Spec Try.prog n_s_l10Numbers [vi p, vi q] [] (vb (nmB p q)) [] := by
  have h1 := s_sprime p
  refine SpecW.of_EV hf_s_l10Numbers hc_s_l10Numbers rfl rfl rfl fun w0 B ρ0 _ => ?_
  cases hp : prI p with
  | false =>
    rw [hp] at h1
    have : nmB p q = false := by unfold nmB; rw [hp]; rfl
    rw [this]
    (repeat' (first | refine (h1).pure rfl ?_ | refine And.intro (neI rfl) ?_ | refine And.intro ⟨rfl, leR rfl, onesR rfl⟩ ?_ | refine And.intro ⟨rfl, leR rfl⟩ ?_ | refine draw_rule2 hfol (fun KK hKK => ?_) | refine hKK _ _ _ (by kernel_rfl) ?_ | refine region_rule (fun KK hKK => ?_) | refine hKK _ _ ?_ | refine And.intro (Eq.refl true) ?_ | refine Exists.intro _ (And.intro (wI (by omega)) ?_) | refine Exists.intro _ (And.intro (wU (by omega)) ?_) | refine Exists.intro _ (And.intro ⟨rfl, by omega⟩ ?_) | refine Exists.intro _ (And.intro rfl ?_) | refine And.intro rfl ?_ | refine And.intro ⟨rfl, rfl⟩ ?_ | ((refine And.intro (fun _ => ?_) (fun _ => ?_)) <;> try (exfalso; omega))))
    exact Exists.intro [] (And.intro (rfl) (And.intro trivial rfl))
  | true =>
    rw [hp] at h1
    obtain ⟨n, rfl, h2, h3, _⟩ := prI_elim hp
    have h4 := s_in q 1 ((n : Int) - 1)
    have e1 : IntKind.i64.wrap ((n : Int) - 1) = (n : Int) - 1 := wI (by omega)
    have : nmB n q = decide (1 ≤ q ∧ q ≤ (n : Int) - 1) := by unfold nmB; rw [hp]; rfl
    rw [this]
    generalize decide (1 ≤ q ∧ q ≤ (n : Int) - 1) = b at h4 ⊢
    (repeat' (first | refine (h1).pure rfl ?_ | refine Exists.intro _ (And.intro e1 ?_) | refine (h4).pure rfl ?_ | refine And.intro (neI rfl) ?_ | refine And.intro ⟨rfl, leR rfl, onesR rfl⟩ ?_ | refine And.intro ⟨rfl, leR rfl⟩ ?_ | refine draw_rule2 hfol (fun KK hKK => ?_) | refine hKK _ _ _ (by kernel_rfl) ?_ | refine region_rule (fun KK hKK => ?_) | refine hKK _ _ ?_ | refine And.intro (Eq.refl true) ?_ | refine Exists.intro _ (And.intro (wI (by omega)) ?_) | refine Exists.intro _ (And.intro (wU (by omega)) ?_) | refine Exists.intro _ (And.intro ⟨rfl, by omega⟩ ?_) | refine Exists.intro _ (And.intro rfl ?_) | refine And.intro rfl ?_ | refine And.intro ⟨rfl, rfl⟩ ?_ | ((refine And.intro (fun _ => ?_) (fun _ => ?_)) <;> try (exfalso; omega))))
    exact Exists.intro [] (And.intro (rfl) (And.intro trivial rfl))
theorem s_inum (p q : Int) : Spec Try.prog n_i_numberOk [vi p, vi q] [] (vb (nmB p q)) [] := by
  have h1 := s_iprime p
  refine SpecW.of_EV hf_i_numberOk hc_i_numberOk rfl rfl rfl fun w0 B ρ0 _ => ?_
  cases hp : prI p with
  | false =>
    rw [hp] at h1
    have : nmB p q = false := by unfold nmB; rw [hp]; rfl
    rw [this]
    (repeat' (first | refine (h1).pure rfl ?_ | refine And.intro (neI rfl) ?_ | refine And.intro ⟨rfl, leR rfl, onesR rfl⟩ ?_ | refine And.intro ⟨rfl, leR rfl⟩ ?_ | refine draw_rule2 hfol (fun KK hKK => ?_) | refine hKK _ _ _ (by kernel_rfl) ?_ | refine region_rule (fun KK hKK => ?_) | refine hKK _ _ ?_ | refine And.intro (Eq.refl true) ?_ | refine Exists.intro _ (And.intro (wI (by omega)) ?_) | refine Exists.intro _ (And.intro (wU (by omega)) ?_) | refine Exists.intro _ (And.intro ⟨rfl, by omega⟩ ?_) | refine Exists.intro _ (And.intro rfl ?_) | refine And.intro rfl ?_ | refine And.intro ⟨rfl, rfl⟩ ?_ | ((refine And.intro (fun _ => ?_) (fun _ => ?_)) <;> try (exfalso; omega))))
    exact Exists.intro [] (And.intro (rfl) (And.intro trivial rfl))
  | true =>
    rw [hp] at h1
    obtain ⟨n, rfl, h2, h3, _⟩ := prI_elim hp
    have h4 := s_iin q 1 ((n : Int) - 1)
    have e1 : IntKind.i64.wrap ((n : Int) - 1) = (n : Int) - 1 := wI (by omega)
    have : nmB n q = decide (1 ≤ q ∧ q ≤ (n : Int) - 1) := by unfold nmB; rw [hp]; rfl
    rw [this]
    generalize decide (1 ≤ q ∧ q ≤ (n : Int) - 1) = b at h4 ⊢
    (repeat' (first | refine (h1).pure rfl ?_ | refine Exists.intro _ (And.intro e1 ?_) | refine (h4).pure rfl ?_ | refine And.intro (neI rfl) ?_ | refine And.intro ⟨rfl, leR rfl, onesR rfl⟩ ?_ | refine And.intro ⟨rfl, leR rfl⟩ ?_ | refine draw_rule2 hfol (fun KK hKK => ?_) | refine hKK _ _ _ (by kernel_rfl) ?_ | refine region_rule (fun KK hKK => ?_) | refine hKK _ _ ?_ | refine And.intro (Eq.refl true) ?_ | refine Exists.intro _ (And.intro (wI (by omega)) ?_) | refine Exists.intro _ (And.intro (wU (by omega)) ?_) | refine Exists.intro _ (And.intro ⟨rfl, by omega⟩ ?_) | refine Exists.intro _ (And.intro rfl ?_) | refine And.intro rfl ?_ | refine And.intro ⟨rfl, rfl⟩ ?_ | ((refine And.intro (fun _ => ?_) (fun _ => ?_)) <;> try (exfalso; omega))))
    exact Exists.intro [] (And.intro (rfl) (And.intro trivial rfl))
theorem nmB_elim {p q : Int} (h : nmB p q = true) : ∃ P Q : Nat, p = P ∧ q = Q ∧ 2 ≤ P ∧ P ≤ 97 ∧ prB P = true ∧ 1 ≤ Q ∧ Q < P := by
  unfold nmB at h
  simp only [Bool.and_eq_true, decide_eq_true_eq] at h
  obtain ⟨P, rfl, h1, h2, h3⟩ := prI_elim h.1
  obtain ⟨Q, rfl⟩ : ∃ Q : Nat, q = Q := ⟨q.toNat, by omega⟩
  exact ⟨P, Q, rfl, rfl, h1, h2, h3, by omega, by omega⟩
/-- The field, the number and its inverse. -/
def spV (p q r : Int) : List Value := [.int .i64 p, .int .i64 q, .int .i64 r]
abbrev spA (p q r : Int) : V := .raw (.agg (spV p q r).toArray)
def spR (p q : Int) : Int × Int × Int × Bool := if nmB p q = true then (p, q, ((pwN q.toNat p.toNat (p.toNat - 2) : Nat) : Int), true) else (0, 0, 0, false)
theorem s_spinsOf (p q : Int) : Spec Try.prog n_i_spinsOf [vi p, vi q] [] (.tup [spA (spR p q).1 (spR p q).2.1 (spR p q).2.2.1, vb (spR p q).2.2.2]) [] := by
  have h1 := s_inum p q
  refine SpecW.of_EV hf_i_spinsOf hc_i_spinsOf rfl rfl rfl fun w0 B ρ0 _ => ?_
  by_cases h : nmB p q = true
  · have hr : spR p q = (p, q, ((pwN q.toNat p.toNat (p.toNat - 2) : Nat) : Int), true) := if_pos h
    rw [hr]
    rw [h] at h1
    obtain ⟨P, Q, rfl, rfl, h2, h3, h4, h5, h6⟩ := nmB_elim h
    have hi := s_iinv Q P h2 h3 h6
    (repeat' (first | refine (h1).pure rfl ?_ | refine (hi).pure rfl ?_ | refine Exists.intro (spV P Q (pwN Q P (P - 2) : Nat)) (And.intro ⟨leR rfl, rfl⟩ ?_) | refine Exists.intro (spV P Q (pwN Q P (P - 2) : Nat)) (And.intro ⟨rfl, rfl⟩ ?_) | refine And.intro (neI rfl) ?_ | refine And.intro ⟨rfl, leR rfl, onesR rfl⟩ ?_ | refine And.intro ⟨rfl, leR rfl⟩ ?_ | refine draw_rule2 hfol (fun KK hKK => ?_) | refine hKK _ _ _ (by kernel_rfl) ?_ | refine region_rule (fun KK hKK => ?_) | refine hKK _ _ ?_ | refine And.intro (Eq.refl true) ?_ | refine Exists.intro _ (And.intro (wI (by omega)) ?_) | refine Exists.intro _ (And.intro (wU (by omega)) ?_) | refine Exists.intro _ (And.intro ⟨rfl, by omega⟩ ?_) | refine Exists.intro _ (And.intro rfl ?_) | refine And.intro rfl ?_ | refine And.intro ⟨rfl, rfl⟩ ?_ | ((refine And.intro (fun _ => ?_) (fun _ => ?_)) <;> try (exfalso; omega))))
    exact Exists.intro [] (And.intro (rfl) (And.intro trivial rfl))
  · have hr : spR p q = (0, 0, 0, false) := if_neg h
    rw [hr]
    rw [show nmB p q = false from by cases hb : nmB p q <;> simp [hb] at h ⊢] at h1
    (repeat' (first | refine (h1).pure rfl ?_ | refine Exists.intro (spV 0 0 0) (And.intro ⟨leR rfl, rfl⟩ ?_) | refine Exists.intro (spV 0 0 0) (And.intro ⟨rfl, rfl⟩ ?_) | refine And.intro (neI rfl) ?_ | refine And.intro ⟨rfl, leR rfl, onesR rfl⟩ ?_ | refine And.intro ⟨rfl, leR rfl⟩ ?_ | refine draw_rule2 hfol (fun KK hKK => ?_) | refine hKK _ _ _ (by kernel_rfl) ?_ | refine region_rule (fun KK hKK => ?_) | refine hKK _ _ ?_ | refine And.intro (Eq.refl true) ?_ | refine Exists.intro _ (And.intro (wI (by omega)) ?_) | refine Exists.intro _ (And.intro (wU (by omega)) ?_) | refine Exists.intro _ (And.intro ⟨rfl, by omega⟩ ?_) | refine Exists.intro _ (And.intro rfl ?_) | refine And.intro rfl ?_ | refine And.intro ⟨rfl, rfl⟩ ?_ | ((refine And.intro (fun _ => ?_) (fun _ => ?_)) <;> try (exfalso; omega))))
    exact Exists.intro [] (And.intro (rfl) (And.intro trivial rfl))
end Go.Proofs.Ytimigbgpldjefaa.VE
