/- Contracts of functions of the given program, for all arguments that the contract names; see each theorem. -/
import Derived.Test.YtimigbgpldjefaaD5
set_option linter.all false
namespace Go.Proofs.Ytimigbgpldjefaa.VE
open Go
set_option maxHeartbeats 800000
set_option maxRecDepth 100000

/-! traces -/
/-- The sum of the entries at u and u, each with a weight. -/
def trN (n : Nat) (m : List Nat) (p q r : Int) (w : Nat → Int) : Nat → Int
  | 0 => 0
  | u + 1 => (trN n m p q r w u + ent n m p q r u u * w u) % p
theorem s_one1 (u : Nat) : Spec Try.prog n_i_PlainTrace_1 [vi u] [] (vi 1) [] := by
  refine SpecW.of_EV hf_i_PlainTrace_1 hc_i_PlainTrace_1 rfl rfl rfl fun w0 B ρ0 _ => ?_
  (repeat' (first | refine And.intro (neI rfl) ?_ | refine And.intro ⟨rfl, leR rfl, onesR rfl⟩ ?_ | refine And.intro ⟨rfl, leR rfl⟩ ?_ | refine draw_rule2 hfol (fun KK hKK => ?_) | refine hKK _ _ _ (by kernel_rfl) ?_ | refine region_rule (fun KK hKK => ?_) | refine hKK _ _ ?_ | refine And.intro (Eq.refl true) ?_ | refine Exists.intro _ (And.intro (wI (by omega)) ?_) | refine Exists.intro _ (And.intro (wU (by omega)) ?_) | refine Exists.intro _ (And.intro ⟨rfl, by omega⟩ ?_) | refine Exists.intro _ (And.intro rfl ?_) | refine And.intro rfl ?_ | refine And.intro ⟨rfl, rfl⟩ ?_ | ((refine And.intro (fun _ => ?_) (fun _ => ?_)) <;> try (exfalso; omega))))
  exact Exists.intro [] (And.intro (rfl) (And.intro trivial rfl))
theorem s_diagP (n : Nat) (m : List Nat) (hV : IsV n m) (p q r : Int) (hp : 2 ≤ p ∧ p ≤ 97) (hq : 0 ≤ q ∧ q < p) (hr : 0 ≤ r ∧ r < p) (hwb : ∀ u, u < 2 ^ n → 0 ≤ (fun _ : Nat => (1 : Int)) u ∧ (fun _ : Nat => (1 : Int)) u < p) :
    Spec Try.prog n_i_spins_diagonal [spA p q r, .ptr 0 0, .fn (.func n_i_PlainTrace_1) [] []] [.pc (pcl n m) T_i_Diagram] (vi (trN n m p q r (fun _ => (1 : Int)) (2 ^ n))) [.pc (pcl n m) T_i_Diagram] := by
  have hfol : Try.prog.follows .mixedOrders = true := rfl
  have hw := s_words n m hV.n8
  have h2 := two_pow8 hV.n8
  have hp0 : p ≠ 0 := by omega
  refine SpecW.of_EV hf_i_spins_diagonal hc_i_spins_diagonal rfl rfl rfl fun w0 B ρ0 _ => ?_
  (repeat' (first | refine (hw).read [0] rfl ⟨rfl, trivial⟩ ?_ | refine And.intro (neI rfl) ?_ | refine And.intro ⟨rfl, leR rfl, onesR rfl⟩ ?_ | refine And.intro ⟨rfl, leR rfl⟩ ?_ | refine draw_rule2 hfol (fun KK hKK => ?_) | refine hKK _ _ _ (by kernel_rfl) ?_ | refine region_rule (fun KK hKK => ?_) | refine hKK _ _ ?_ | refine And.intro (Eq.refl true) ?_ | refine Exists.intro _ (And.intro (wI (by omega)) ?_) | refine Exists.intro _ (And.intro (wU (by omega)) ?_) | refine Exists.intro _ (And.intro ⟨rfl, by omega⟩ ?_) | refine Exists.intro _ (And.intro rfl ?_) | refine And.intro rfl ?_ | refine And.intro ⟨rfl, rfl⟩ ?_ | ((refine And.intro (fun _ => ?_) (fun _ => ?_)) <;> try (exfalso; omega))))
  refine loop_rule (α := Nat × Int) (fun (u, s) => u ≤ 2 ^ n ∧ (0 ≤ s ∧ s ≤ 97 * u) ∧ s % p = trN n m p q r (fun _ => (1 : Int)) u)
    (fun (u, s) => [(1, .ptr 0 0), (2, .fn (.func n_i_PlainTrace_1) [] []), (3, .ptr 1 0), (7, vi s), (10, vi (2 ^ n : Nat)), (11, vi u)]) (fun _ => [.pc (pcl n m) T_i_Diagram, .pc (spV p q r) T_i_spins]) (fun (u, _) => 2 ^ n - u) (0, 0) [0, 1]
    ⟨by omega, by omega, by simp [trN]⟩ ⟨⟨rfl, rfl, rfl, rfl, rfl, rfl, trivial⟩, ⟨rfl, rfl, trivial⟩, rfl⟩ ?_
  rintro ⟨u, s⟩ g ⟨hu, hs, hR⟩
  by_cases h9 : u = 2 ^ n
  · subst h9
    have hrest := s_rest s p (by omega) (by omega)
    rw [hR] at hrest
    (repeat' (first | refine (hrest).pure rfl ?_ | refine And.intro (neI rfl) ?_ | refine And.intro ⟨rfl, leR rfl, onesR rfl⟩ ?_ | refine And.intro ⟨rfl, leR rfl⟩ ?_ | refine draw_rule2 hfol (fun KK hKK => ?_) | refine hKK _ _ _ (by kernel_rfl) ?_ | refine region_rule (fun KK hKK => ?_) | refine hKK _ _ ?_ | refine And.intro (Eq.refl true) ?_ | refine Exists.intro _ (And.intro (wI (by omega)) ?_) | refine Exists.intro _ (And.intro (wU (by omega)) ?_) | refine Exists.intro _ (And.intro ⟨rfl, by omega⟩ ?_) | refine Exists.intro _ (And.intro rfl ?_) | refine And.intro rfl ?_ | refine And.intro ⟨rfl, rfl⟩ ?_ | ((refine And.intro (fun _ => ?_) (fun _ => ?_)) <;> try (exfalso; omega))))
    exact Exists.intro [0] (And.intro (rfl) (And.intro ⟨rfl, trivial⟩ rfl))
  have hul : u < 2 ^ n := by omega
  have he := s_ient n m hV p q r hp hq hr u u (by omega) (by omega)
  have hebd := ent_bd (n := n) (m := m) (p := p) (q := q) (r := r) (u := u) (v := u) hp.1
  have hcall := s_one1 u
  have hwbd := hwb u hul
  have hmb := mulbd (o := ent n m p q r u u) (f := (fun _ => (1 : Int)) u) (p := p) (by omega) (by omega)
  have hnn : 0 ≤ ent n m p q r u u * (fun _ => (1 : Int)) u := Int.mul_nonneg hebd.1 hwbd.1
  have e1 : IntKind.i64.wrap (ent n m p q r u u * (fun _ => (1 : Int)) u) = ent n m p q r u u * (fun _ => (1 : Int)) u := wI (by omega)
  have e2 : Int.tmod (ent n m p q r u u * (fun _ => (1 : Int)) u) p = ent n m p q r u u * (fun _ => (1 : Int)) u % p := tmod_nn hnn (by omega)
  have hx := Int.emod_nonneg (ent n m p q r u u * (fun _ => (1 : Int)) u) hp0
  have hy := Int.emod_lt_of_pos (ent n m p q r u u * (fun _ => (1 : Int)) u) (show 0 < p by omega)
  have e3 : IntKind.i64.wrap (s + ent n m p q r u u * (fun _ => (1 : Int)) u % p) = s + ent n m p q r u u * (fun _ => (1 : Int)) u % p := wI (by omega)
  (repeat' (first | refine Exists.intro (spV p q r) (And.intro ⟨rfl, rfl⟩ ?_) | refine (he).read [0] rfl ⟨rfl, trivial⟩ ?_ | refine (hcall).pure rfl ?_ | refine Exists.intro _ (And.intro e1 ?_) | refine Exists.intro _ (And.intro e2 ?_) | refine Exists.intro _ (And.intro e3 ?_) | refine And.intro hp0 ?_ | refine And.intro (neI rfl) ?_ | refine And.intro ⟨rfl, leR rfl, onesR rfl⟩ ?_ | refine And.intro ⟨rfl, leR rfl⟩ ?_ | refine draw_rule2 hfol (fun KK hKK => ?_) | refine hKK _ _ _ (by kernel_rfl) ?_ | refine region_rule (fun KK hKK => ?_) | refine hKK _ _ ?_ | refine And.intro (Eq.refl true) ?_ | refine Exists.intro _ (And.intro (wI (by omega)) ?_) | refine Exists.intro _ (And.intro (wU (by omega)) ?_) | refine Exists.intro _ (And.intro ⟨rfl, by omega⟩ ?_) | refine Exists.intro _ (And.intro rfl ?_) | refine And.intro rfl ?_ | refine And.intro ⟨rfl, rfl⟩ ?_ | ((refine And.intro (fun _ => ?_) (fun _ => ?_)) <;> try (exfalso; omega))))
  refine Exists.intro (u + 1, s + ent n m p q r u u * (fun _ => (1 : Int)) u % p) (Exists.intro [0, 1] (And.intro ⟨⟨by omega, by omega, ?_⟩, (by show 2 ^ n - (u + 1) < 2 ^ n - u; omega)⟩ ⟨⟨rfl, rfl, rfl, rfl, rfl, rfl, trivial⟩, ⟨rfl, rfl, trivial⟩, rfl⟩))
  rw [trN, ← hR, Int.add_emod, Int.emod_emod, ← Int.add_emod]
  conv => rhs; rw [Int.add_emod, Int.emod_emod, ← Int.add_emod]

end Go.Proofs.Ytimigbgpldjefaa.VE
