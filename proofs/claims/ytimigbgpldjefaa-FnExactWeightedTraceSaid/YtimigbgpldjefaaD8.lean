/- Contracts of functions of the given program, for all arguments that the contract names; see each theorem. -/
import Derived.Test.YtimigbgpldjefaaD7
set_option linter.all false
namespace Go.Proofs.Ytimigbgpldjefaa.VE
open Go
set_option maxHeartbeats 800000
set_option maxRecDepth 100000

theorem s_wt1 (n : Nat) (m : List Nat) (hn : n ≤ 8) (p q r : Int) (hp : 2 ≤ p ∧ p ≤ 97) (hq : 0 ≤ q ∧ q < p) (hr : 0 ≤ r ∧ r < p) (u : Nat) (hu : u < 2 ^ n) :
    Spec Try.prog n_i_WeightedTrace_1 [vi u, .ptr 0 0, .ptr 1 0, .ptr 2 0] [.pc [.int .i64 p] T_int64, .pc (spV p q r) T_i_spins, .pc (pcl n m) T_i_Diagram] (vi (wtW n p q r u)) [.pc [.int .i64 p] T_int64, .pc (spV p q r) T_i_spins, .pc (pcl n m) T_i_Diagram] := by
  have hfol : Try.prog.follows .mixedOrders = true := rfl
  have hon := s_ones n u (by omega) hu
  have hle := on_le n u
  have hp0 : p ≠ 0 := by omega
  have h1 := s_power (p - r).toNat p.toNat (n - on n u) (by omega) (by omega) (by omega) (by omega)
  have h2 := s_power (p - q).toNat p.toNat (on n u) (by omega) (by omega) (by omega) (by omega)
  have l1 := pwN_lt (a := (p - r).toNat) (p := p.toNat) (by omega) (n - on n u)
  have l2 := pwN_lt (a := (p - q).toNat) (p := p.toNat) (by omega) (on n u)
  rw [Int.toNat_of_nonneg (show 0 ≤ p - r by omega), Int.toNat_of_nonneg (show 0 ≤ p by omega)] at h1
  rw [Int.toNat_of_nonneg (show 0 ≤ p - q by omega), Int.toNat_of_nonneg (show 0 ≤ p by omega)] at h2
  have hw : wtW n p q r u = ((pwN (p - r).toNat p.toNat (n - on n u) : Nat) : Int) * ((pwN (p - q).toNat p.toNat (on n u) : Nat) : Int) % p := rfl
  generalize pwN (p - r).toNat p.toNat (n - on n u) = A at h1 l1 hw
  generalize pwN (p - q).toNat p.toNat (on n u) = B' at h2 l2 hw
  rw [hw]
  have hAB : A * B' ≤ 97 * 97 := Nat.mul_le_mul (by omega) (by omega)
  have e0 : IntKind.i64.wrap ((n : Int) - ((on n u : Nat) : Int)) = ((n - on n u : Nat) : Int) := wC (by omega) (by omega)
  have e1 : IntKind.i64.wrap (p - r) = p - r := wI (by omega)
  have e2 : IntKind.i64.wrap (p - q) = p - q := wI (by omega)
  have e3 : IntKind.i64.wrap ((A : Int) * (B' : Int)) = (A : Int) * (B' : Int) := by rw [← Int.natCast_mul]; exact wI (by omega)
  have e4 : Int.tmod ((A : Int) * (B' : Int)) p = (A : Int) * (B' : Int) % p := tmod_nn (by rw [← Int.natCast_mul]; omega) (by omega)
  refine SpecW.of_EV hf_i_WeightedTrace_1 hc_i_WeightedTrace_1 rfl rfl rfl fun w0 B ρ0 _ => ?_
  (repeat' (first | refine (hon).pure rfl ?_ | refine Exists.intro _ (And.intro e0 ?_) | refine Exists.intro _ (And.intro e1 ?_) | refine Exists.intro _ (And.intro e2 ?_) | refine (h1).pure rfl ?_ | refine (h2).pure rfl ?_ | refine Exists.intro _ (And.intro e3 ?_) | refine Exists.intro _ (And.intro e4 ?_) | refine And.intro hp0 ?_ | refine And.intro (neI rfl) ?_ | refine And.intro ⟨rfl, leR rfl, onesR rfl⟩ ?_ | refine And.intro ⟨rfl, leR rfl⟩ ?_ | refine draw_rule2 hfol (fun KK hKK => ?_) | refine hKK _ _ _ (by kernel_rfl) ?_ | refine region_rule (fun KK hKK => ?_) | refine hKK _ _ ?_ | refine And.intro (Eq.refl true) ?_ | refine Exists.intro _ (And.intro (wI (by omega)) ?_) | refine Exists.intro _ (And.intro (wU (by omega)) ?_) | refine Exists.intro _ (And.intro ⟨rfl, by omega⟩ ?_) | refine Exists.intro _ (And.intro rfl ?_) | refine And.intro rfl ?_ | refine And.intro ⟨rfl, rfl⟩ ?_ | ((refine And.intro (fun _ => ?_) (fun _ => ?_)) <;> try (exfalso; omega))))
  exact Exists.intro [0,1,2] (And.intro (rfl) (And.intro ⟨rfl, rfl, rfl, trivial⟩ rfl))
theorem s_diagW (n : Nat) (m : List Nat) (hV : IsV n m) (p q r : Int) (hp : 2 ≤ p ∧ p ≤ 97) (hq : 0 ≤ q ∧ q < p) (hr : 0 ≤ r ∧ r < p) (hwb : ∀ u, u < 2 ^ n → 0 ≤ wtW n p q r u ∧ wtW n p q r u < p) :
    Spec Try.prog n_i_spins_diagonal [spA p q r, .ptr 0 0, .fn (.func n_i_WeightedTrace_1) [] [.ptr 1 0, .ptr 2 0, .ptr 0 0]] [.pc (pcl n m) T_i_Diagram, .pc [.int .i64 p] T_int64, .pc (spV p q r) T_i_spins] (vi (trN n m p q r (wtW n p q r) (2 ^ n))) [.pc (pcl n m) T_i_Diagram, .pc [.int .i64 p] T_int64, .pc (spV p q r) T_i_spins] := by
  have hfol : Try.prog.follows .mixedOrders = true := rfl
  have hw := s_words n m hV.n8
  have h2 := two_pow8 hV.n8
  have hp0 : p ≠ 0 := by omega
  refine SpecW.of_EV hf_i_spins_diagonal hc_i_spins_diagonal rfl rfl rfl fun w0 B ρ0 _ => ?_
  (repeat' (first | refine (hw).read [0] rfl ⟨rfl, trivial⟩ ?_ | refine And.intro (neI rfl) ?_ | refine And.intro ⟨rfl, leR rfl, onesR rfl⟩ ?_ | refine And.intro ⟨rfl, leR rfl⟩ ?_ | refine draw_rule2 hfol (fun KK hKK => ?_) | refine hKK _ _ _ (by kernel_rfl) ?_ | refine region_rule (fun KK hKK => ?_) | refine hKK _ _ ?_ | refine And.intro (Eq.refl true) ?_ | refine Exists.intro _ (And.intro (wI (by omega)) ?_) | refine Exists.intro _ (And.intro (wU (by omega)) ?_) | refine Exists.intro _ (And.intro ⟨rfl, by omega⟩ ?_) | refine Exists.intro _ (And.intro rfl ?_) | refine And.intro rfl ?_ | refine And.intro ⟨rfl, rfl⟩ ?_ | ((refine And.intro (fun _ => ?_) (fun _ => ?_)) <;> try (exfalso; omega))))
  refine loop_rule (α := Nat × Int) (fun (u, s) => u ≤ 2 ^ n ∧ (0 ≤ s ∧ s ≤ 97 * u) ∧ s % p = trN n m p q r (wtW n p q r) u)
    (fun (u, s) => [(1, .ptr 0 0), (2, .fn (.func n_i_WeightedTrace_1) [] [.ptr 1 0, .ptr 2 0, .ptr 0 0]), (3, .ptr 3 0), (7, vi s), (10, vi (2 ^ n : Nat)), (11, vi u)]) (fun _ => [.pc (pcl n m) T_i_Diagram, .pc [.int .i64 p] T_int64, .pc (spV p q r) T_i_spins, .pc (spV p q r) T_i_spins]) (fun (u, _) => 2 ^ n - u) (0, 0) [0, 1, 2, 3]
    ⟨by omega, by omega, by simp [trN]⟩ ⟨⟨rfl, rfl, rfl, rfl, rfl, rfl, trivial⟩, ⟨rfl, rfl, rfl, rfl, trivial⟩, rfl⟩ ?_
  rintro ⟨u, s⟩ g ⟨hu, hs, hR⟩
  by_cases h9 : u = 2 ^ n
  · subst h9
    have hrest := s_rest s p (by omega) (by omega)
    rw [hR] at hrest
    (repeat' (first | refine (hrest).pure rfl ?_ | refine And.intro (neI rfl) ?_ | refine And.intro ⟨rfl, leR rfl, onesR rfl⟩ ?_ | refine And.intro ⟨rfl, leR rfl⟩ ?_ | refine draw_rule2 hfol (fun KK hKK => ?_) | refine hKK _ _ _ (by kernel_rfl) ?_ | refine region_rule (fun KK hKK => ?_) | refine hKK _ _ ?_ | refine And.intro (Eq.refl true) ?_ | refine Exists.intro _ (And.intro (wI (by omega)) ?_) | refine Exists.intro _ (And.intro (wU (by omega)) ?_) | refine Exists.intro _ (And.intro ⟨rfl, by omega⟩ ?_) | refine Exists.intro _ (And.intro rfl ?_) | refine And.intro rfl ?_ | refine And.intro ⟨rfl, rfl⟩ ?_ | ((refine And.intro (fun _ => ?_) (fun _ => ?_)) <;> try (exfalso; omega))))
    exact Exists.intro [0, 1, 2] (And.intro (rfl) (And.intro ⟨rfl, rfl, rfl, trivial⟩ rfl))
  have hul : u < 2 ^ n := by omega
  have he := s_ient n m hV p q r hp hq hr u u (by omega) (by omega)
  have hebd := ent_bd (n := n) (m := m) (p := p) (q := q) (r := r) (u := u) (v := u) hp.1
  have hcall := s_wt1 n m hV.n8 p q r hp hq hr u hul
  have hwbd := hwb u hul
  have hmb := mulbd (o := ent n m p q r u u) (f := (wtW n p q r) u) (p := p) (by omega) (by omega)
  have hnn : 0 ≤ ent n m p q r u u * (wtW n p q r) u := Int.mul_nonneg hebd.1 hwbd.1
  have e1 : IntKind.i64.wrap (ent n m p q r u u * (wtW n p q r) u) = ent n m p q r u u * (wtW n p q r) u := wI (by omega)
  have e2 : Int.tmod (ent n m p q r u u * (wtW n p q r) u) p = ent n m p q r u u * (wtW n p q r) u % p := tmod_nn hnn (by omega)
  have hx := Int.emod_nonneg (ent n m p q r u u * (wtW n p q r) u) hp0
  have hy := Int.emod_lt_of_pos (ent n m p q r u u * (wtW n p q r) u) (show 0 < p by omega)
  have e3 : IntKind.i64.wrap (s + ent n m p q r u u * (wtW n p q r) u % p) = s + ent n m p q r u u * (wtW n p q r) u % p := wI (by omega)
  (repeat' (first | refine Exists.intro (spV p q r) (And.intro ⟨rfl, rfl⟩ ?_) | refine (he).read [0] rfl ⟨rfl, trivial⟩ ?_ | refine (hcall).read [1, 2, 0] rfl ⟨rfl, rfl, rfl, trivial⟩ ?_ | refine Exists.intro _ (And.intro e1 ?_) | refine Exists.intro _ (And.intro e2 ?_) | refine Exists.intro _ (And.intro e3 ?_) | refine And.intro hp0 ?_ | refine And.intro (neI rfl) ?_ | refine And.intro ⟨rfl, leR rfl, onesR rfl⟩ ?_ | refine And.intro ⟨rfl, leR rfl⟩ ?_ | refine draw_rule2 hfol (fun KK hKK => ?_) | refine hKK _ _ _ (by kernel_rfl) ?_ | refine region_rule (fun KK hKK => ?_) | refine hKK _ _ ?_ | refine And.intro (Eq.refl true) ?_ | refine Exists.intro _ (And.intro (wI (by omega)) ?_) | refine Exists.intro _ (And.intro (wU (by omega)) ?_) | refine Exists.intro _ (And.intro ⟨rfl, by omega⟩ ?_) | refine Exists.intro _ (And.intro rfl ?_) | refine And.intro rfl ?_ | refine And.intro ⟨rfl, rfl⟩ ?_ | ((refine And.intro (fun _ => ?_) (fun _ => ?_)) <;> try (exfalso; omega))))
  refine Exists.intro (u + 1, s + ent n m p q r u u * (wtW n p q r) u % p) (Exists.intro [0, 1, 2, 3] (And.intro ⟨⟨by omega, by omega, ?_⟩, (by show 2 ^ n - (u + 1) < 2 ^ n - u; omega)⟩ ⟨⟨rfl, rfl, rfl, rfl, rfl, rfl, trivial⟩, ⟨rfl, rfl, rfl, rfl, trivial⟩, rfl⟩))
  rw [trN, ← hR, Int.add_emod, Int.emod_emod, ← Int.add_emod]
  conv => rhs; rw [Int.add_emod, Int.emod_emod, ← Int.add_emod]


theorem s_trP (n : Nat) (m : List Nat) (hm : m.length = 16) (hV : IsV n m) (P Q : Nat) (a1 : 2 ≤ P) (a2 : P ≤ 97) (a3 : prB P = true) (a4 : 1 ≤ Q) (a5 : Q < P) :
    Spec Try.prog n_s_l10Trace [vi P, vi Q, pv n m, vb false] [] (vi (trN n m P Q ((pwN Q P (P - 2) : Nat) : Int) (fun _ => (1 : Int)) (2 ^ n))) [] := by
  have hiv := s_sinv P Q a1 a2 a5
  rw [inv_eq a2 a3 a4 a5] at hiv
  have hrl := pwN_lt (a := Q) a1 (P - 2)
  generalize pwN Q P (P - 2) = r at hiv hrl ⊢
  have hn := hV.n8
  have h2 := two_pow8 hn
  have e0 : IntKind.u64.wrap (n : Int) = (n : Int) := wU64 (by omega)
  have e1 := shlN n (by omega)
  have hp0 : (P : Int) ≠ 0 := by omega
  refine SpecW.of_EV hf_s_l10Trace hc_s_l10Trace rfl rfl rfl fun w0 B ρ0 _ => ?_
  (repeat' (first | refine (hiv).pure rfl ?_ | refine And.intro (neI rfl) ?_ | refine And.intro ⟨rfl, leR rfl, onesR rfl⟩ ?_ | refine And.intro ⟨rfl, leR rfl⟩ ?_ | refine draw_rule2 hfol (fun KK hKK => ?_) | refine hKK _ _ _ (by kernel_rfl) ?_ | refine region_rule (fun KK hKK => ?_) | refine hKK _ _ ?_ | refine And.intro (Eq.refl true) ?_ | refine Exists.intro _ (And.intro (wI (by omega)) ?_) | refine Exists.intro _ (And.intro (wU (by omega)) ?_) | refine Exists.intro _ (And.intro ⟨rfl, by omega⟩ ?_) | refine Exists.intro _ (And.intro rfl ?_) | refine And.intro rfl ?_ | refine And.intro ⟨rfl, rfl⟩ ?_ | ((refine And.intro (fun _ => ?_) (fun _ => ?_)) <;> try (exfalso; omega))))
  refine loop_rule (α := Nat) (fun u => u ≤ 2 ^ n) (fun u => [(0, vi P), (1, vi Q), (3, vb false), (6, .ptr 0 0), (9, vi (trN n m P Q r (fun _ => (1 : Int)) u)), (10, vi r), (11, vi u)]) (fun _ => [.pc (pcl n m) T_i_Diagram]) (fun u => 2 ^ n - u) 0 [0]
    (by omega) ⟨⟨rfl, rfl, rfl, rfl, rfl, rfl, rfl, trivial⟩, ⟨rfl, trivial⟩, rfl⟩ ?_
  rintro u g hu
  by_cases h9 : u = 2 ^ n
  · subst h9
    (repeat' (first | refine Exists.intro _ (And.intro e0 ?_) | refine And.intro (by omega) (Exists.intro _ (And.intro e1 ?_)) | refine And.intro (neI rfl) ?_ | refine And.intro ⟨rfl, leR rfl, onesR rfl⟩ ?_ | refine And.intro ⟨rfl, leR rfl⟩ ?_ | refine draw_rule2 hfol (fun KK hKK => ?_) | refine hKK _ _ _ (by kernel_rfl) ?_ | refine region_rule (fun KK hKK => ?_) | refine hKK _ _ ?_ | refine And.intro (Eq.refl true) ?_ | refine Exists.intro _ (And.intro (wI (by omega)) ?_) | refine Exists.intro _ (And.intro (wU (by omega)) ?_) | refine Exists.intro _ (And.intro ⟨rfl, by omega⟩ ?_) | refine Exists.intro _ (And.intro rfl ?_) | refine And.intro rfl ?_ | refine And.intro ⟨rfl, rfl⟩ ?_ | ((refine And.intro (fun _ => ?_) (fun _ => ?_)) <;> try (exfalso; omega))))
    exact Exists.intro [] (And.intro (rfl) (And.intro trivial rfl))
  have hul : u < 2 ^ n := by omega
  have he := s_sent n m hV P Q r (by omega) (by omega) (by omega) u u (by omega) (by omega)
  have hebd := ent_bd (n := n) (m := m) (p := P) (q := Q) (r := r) (u := u) (v := u) (by omega)
  have htb : 0 ≤ trN n m P Q r (fun _ => (1 : Int)) u ∧ trN n m P Q r (fun _ => (1 : Int)) u < P := by
    cases u with
    | zero => exact ⟨Int.le_refl 0, by show (0 : Int) < P; omega⟩
    | succ u => exact ⟨Int.emod_nonneg _ (by omega), Int.emod_lt_of_pos _ (by omega)⟩
  have e2 : IntKind.i64.wrap (trN n m P Q r (fun _ => (1 : Int)) u + ent n m P Q r u u) = trN n m P Q r (fun _ => (1 : Int)) u + ent n m P Q r u u := wI (by omega)
  have e3 : Int.tmod (trN n m P Q r (fun _ => (1 : Int)) u + ent n m P Q r u u) P = trN n m P Q r (fun _ => (1 : Int)) (u + 1) := by
    rw [tmod_nn (by omega) (by omega), trN, Int.mul_one]
  (repeat' (first | refine Exists.intro (pcl (n : Int) m) (And.intro ⟨pcl_len hm, pcl_all hm⟩ ?_) | refine And.intro ⟨pcl_len hm, leR rfl, pcl_ones⟩ ?_ | refine Exists.intro (pcl (n : Int) m) (And.intro ⟨leR rfl, spl0 (leR rfl)⟩ ?_) | refine Exists.intro _ (And.intro e0 ?_) | refine And.intro (by omega) (Exists.intro _ (And.intro e1 ?_)) | refine (he).pure rfl ?_ | refine And.intro (neI rfl) ?_ | refine And.intro ⟨rfl, leR rfl, onesR rfl⟩ ?_ | refine And.intro ⟨rfl, leR rfl⟩ ?_ | refine draw_rule2 hfol (fun KK hKK => ?_) | refine hKK _ _ _ (by kernel_rfl) ?_ | refine region_rule (fun KK hKK => ?_) | refine hKK _ _ ?_ | refine And.intro (Eq.refl true) ?_ | refine Exists.intro _ (And.intro (wI (by omega)) ?_) | refine Exists.intro _ (And.intro (wU (by omega)) ?_) | refine Exists.intro _ (And.intro ⟨rfl, by omega⟩ ?_) | refine Exists.intro _ (And.intro rfl ?_) | refine And.intro rfl ?_ | refine And.intro ⟨rfl, rfl⟩ ?_ | ((refine And.intro (fun _ => ?_) (fun _ => ?_)) <;> try (exfalso; omega))))
  refine loop_rule (α := Unit) (fun _ => True) (fun _ => [(0, vi P), (1, vi Q), (3, vb false), (6, .ptr 0 0), (9, vi (trN n m P Q r (fun _ => (1 : Int)) u)), (10, vi r), (11, vi u), (12, vi (ent n m P Q r u u)), (13, vi 0)]) (fun _ => [.pc (pcl n m) T_i_Diagram]) (fun _ => 0) () [0]
    trivial ⟨⟨rfl, rfl, rfl, rfl, rfl, rfl, rfl, rfl, rfl, trivial⟩, ⟨rfl, trivial⟩, rfl⟩ ?_
  rintro _ g2 _
  have hn1 := hV.n1
  (repeat' (first | refine Exists.intro _ (And.intro e2 ?_) | refine Exists.intro _ (And.intro e3 ?_) | refine And.intro hp0 ?_ | refine And.intro (neI rfl) ?_ | refine And.intro ⟨rfl, leR rfl, onesR rfl⟩ ?_ | refine And.intro ⟨rfl, leR rfl⟩ ?_ | refine draw_rule2 hfol (fun KK hKK => ?_) | refine hKK _ _ _ (by kernel_rfl) ?_ | refine region_rule (fun KK hKK => ?_) | refine hKK _ _ ?_ | refine And.intro (Eq.refl true) ?_ | refine Exists.intro _ (And.intro (wI (by omega)) ?_) | refine Exists.intro _ (And.intro (wU (by omega)) ?_) | refine Exists.intro _ (And.intro ⟨rfl, by omega⟩ ?_) | refine Exists.intro _ (And.intro rfl ?_) | refine And.intro rfl ?_ | refine And.intro ⟨rfl, rfl⟩ ?_ | ((refine And.intro (fun _ => ?_) (fun _ => ?_)) <;> try (exfalso; omega))))
  refine Exists.intro (u + 1) (Exists.intro [0] (And.intro ⟨by omega, (by show 2 ^ n - (u + 1) < 2 ^ n - u; omega)⟩ ⟨⟨rfl, rfl, rfl, rfl, rfl, rfl, rfl, trivial⟩, ⟨rfl, trivial⟩, rfl⟩))
theorem s_trW (n : Nat) (m : List Nat) (hm : m.length = 16) (hV : IsV n m) (P Q : Nat) (a1 : 2 ≤ P) (a2 : P ≤ 97) (a3 : prB P = true) (a4 : 1 ≤ Q) (a5 : Q < P) :
    Spec Try.prog n_s_l10Trace [vi P, vi Q, pv n m, vb true] [] (vi (trN n m P Q ((pwN Q P (P - 2) : Nat) : Int) (wtW n P Q ((pwN Q P (P - 2) : Nat) : Int)) (2 ^ n))) [] := by
  have hiv := s_sinv P Q a1 a2 a5
  rw [inv_eq a2 a3 a4 a5] at hiv
  have hrl := pwN_lt (a := Q) a1 (P - 2)
  generalize pwN Q P (P - 2) = r at hiv hrl ⊢
  have hn := hV.n8
  have hn1 := hV.n1
  have h2 := two_pow8 hn
  have e0 : IntKind.u64.wrap (n : Int) = (n : Int) := wU64 (by omega)
  have e1 := shlN n (by omega)
  have hp0 : (P : Int) ≠ 0 := by omega
  refine SpecW.of_EV hf_s_l10Trace hc_s_l10Trace rfl rfl rfl fun w0 B ρ0 _ => ?_
  (repeat' (first | refine (hiv).pure rfl ?_ | refine And.intro (neI rfl) ?_ | refine And.intro ⟨rfl, leR rfl, onesR rfl⟩ ?_ | refine And.intro ⟨rfl, leR rfl⟩ ?_ | refine draw_rule2 hfol (fun KK hKK => ?_) | refine hKK _ _ _ (by kernel_rfl) ?_ | refine region_rule (fun KK hKK => ?_) | refine hKK _ _ ?_ | refine And.intro (Eq.refl true) ?_ | refine Exists.intro _ (And.intro (wI (by omega)) ?_) | refine Exists.intro _ (And.intro (wU (by omega)) ?_) | refine Exists.intro _ (And.intro ⟨rfl, by omega⟩ ?_) | refine Exists.intro _ (And.intro rfl ?_) | refine And.intro rfl ?_ | refine And.intro ⟨rfl, rfl⟩ ?_ | ((refine And.intro (fun _ => ?_) (fun _ => ?_)) <;> try (exfalso; omega))))
  refine loop_rule (α := Nat) (fun u => u ≤ 2 ^ n) (fun u => [(0, vi P), (1, vi Q), (3, vb true), (6, .ptr 0 0), (9, vi (trN n m P Q r (wtW n P Q r) u)), (10, vi r), (11, vi u)]) (fun _ => [.pc (pcl n m) T_i_Diagram]) (fun u => 2 ^ n - u) 0 [0]
    (by omega) ⟨⟨rfl, rfl, rfl, rfl, rfl, rfl, rfl, trivial⟩, ⟨rfl, trivial⟩, rfl⟩ ?_
  rintro u g hu
  by_cases h9 : u = 2 ^ n
  · subst h9
    (repeat' (first | refine Exists.intro _ (And.intro e0 ?_) | refine And.intro (by omega) (Exists.intro _ (And.intro e1 ?_)) | refine And.intro (neI rfl) ?_ | refine And.intro ⟨rfl, leR rfl, onesR rfl⟩ ?_ | refine And.intro ⟨rfl, leR rfl⟩ ?_ | refine draw_rule2 hfol (fun KK hKK => ?_) | refine hKK _ _ _ (by kernel_rfl) ?_ | refine region_rule (fun KK hKK => ?_) | refine hKK _ _ ?_ | refine And.intro (Eq.refl true) ?_ | refine Exists.intro _ (And.intro (wI (by omega)) ?_) | refine Exists.intro _ (And.intro (wU (by omega)) ?_) | refine Exists.intro _ (And.intro ⟨rfl, by omega⟩ ?_) | refine Exists.intro _ (And.intro rfl ?_) | refine And.intro rfl ?_ | refine And.intro ⟨rfl, rfl⟩ ?_ | ((refine And.intro (fun _ => ?_) (fun _ => ?_)) <;> try (exfalso; omega))))
    exact Exists.intro [] (And.intro (rfl) (And.intro trivial rfl))
  have hul : u < 2 ^ n := by omega
  have he := s_sent n m hV P Q r (by omega) (by omega) (by omega) u u (by omega) (by omega)
  have hebd := ent_bd (n := n) (m := m) (p := P) (q := Q) (r := r) (u := u) (v := u) (by omega)
  have htb : 0 ≤ trN n m P Q r (wtW n P Q r) u ∧ trN n m P Q r (wtW n P Q r) u < P := by
    cases u with
    | zero => exact ⟨Int.le_refl 0, by show (0 : Int) < P; omega⟩
    | succ u => exact ⟨Int.emod_nonneg _ (by omega), Int.emod_lt_of_pos _ (by omega)⟩
  have hob : ∀ i, 0 ≤ owN n m P Q r u i ∧ owN n m P Q r u i < P := fun i => by
    cases i with
    | zero => exact hebd
    | succ i => exact ⟨Int.emod_nonneg _ (by omega), Int.emod_lt_of_pos _ (by omega)⟩
  (repeat' (first | refine Exists.intro (pcl (n : Int) m) (And.intro ⟨pcl_len hm, pcl_all hm⟩ ?_) | refine And.intro ⟨pcl_len hm, leR rfl, pcl_ones⟩ ?_ | refine Exists.intro (pcl (n : Int) m) (And.intro ⟨leR rfl, spl0 (leR rfl)⟩ ?_) | refine Exists.intro _ (And.intro e0 ?_) | refine And.intro (by omega) (Exists.intro _ (And.intro e1 ?_)) | refine (he).pure rfl ?_ | refine And.intro (neI rfl) ?_ | refine And.intro ⟨rfl, leR rfl, onesR rfl⟩ ?_ | refine And.intro ⟨rfl, leR rfl⟩ ?_ | refine draw_rule2 hfol (fun KK hKK => ?_) | refine hKK _ _ _ (by kernel_rfl) ?_ | refine region_rule (fun KK hKK => ?_) | refine hKK _ _ ?_ | refine And.intro (Eq.refl true) ?_ | refine Exists.intro _ (And.intro (wI (by omega)) ?_) | refine Exists.intro _ (And.intro (wU (by omega)) ?_) | refine Exists.intro _ (And.intro ⟨rfl, by omega⟩ ?_) | refine Exists.intro _ (And.intro rfl ?_) | refine And.intro rfl ?_ | refine And.intro ⟨rfl, rfl⟩ ?_ | ((refine And.intro (fun _ => ?_) (fun _ => ?_)) <;> try (exfalso; omega))))
  refine loop_rule (α := Nat) (fun i => i ≤ n) (fun i => [(0, vi P), (1, vi Q), (3, vb true), (6, .ptr 0 0), (9, vi (trN n m P Q r (wtW n P Q r) u)), (10, vi r), (11, vi u), (12, vi (owN n m P Q r u i)), (13, vi i)]) (fun _ => [.pc (pcl n m) T_i_Diagram]) (fun i => n - i) 0 [0]
    (by omega) ⟨⟨rfl, rfl, rfl, rfl, rfl, rfl, rfl, rfl, rfl, trivial⟩, ⟨rfl, trivial⟩, rfl⟩ ?_
  rintro i g2 hi
  have ho := hob i
  by_cases h8 : i = n
  · subst h8
    have e2 : IntKind.i64.wrap (trN i m P Q r (wtW i P Q r) u + owN i m P Q r u i) = trN i m P Q r (wtW i P Q r) u + owN i m P Q r u i := wI (by omega)
    have e3 : Int.tmod (trN i m P Q r (wtW i P Q r) u + owN i m P Q r u i) P = trN i m P Q r (wtW i P Q r) (u + 1) := by
      rw [tmod_nn (by omega) (by omega), trN, owN_n (by omega) (by omega) (by omega)]
      rw [Int.add_emod, Int.emod_emod, ← Int.add_emod]
    (repeat' (first | refine Exists.intro _ (And.intro e2 ?_) | refine Exists.intro _ (And.intro e3 ?_) | refine And.intro hp0 ?_ | refine And.intro (neI rfl) ?_ | refine And.intro ⟨rfl, leR rfl, onesR rfl⟩ ?_ | refine And.intro ⟨rfl, leR rfl⟩ ?_ | refine draw_rule2 hfol (fun KK hKK => ?_) | refine hKK _ _ _ (by kernel_rfl) ?_ | refine region_rule (fun KK hKK => ?_) | refine hKK _ _ ?_ | refine And.intro (Eq.refl true) ?_ | refine Exists.intro _ (And.intro (wI (by omega)) ?_) | refine Exists.intro _ (And.intro (wU (by omega)) ?_) | refine Exists.intro _ (And.intro ⟨rfl, by omega⟩ ?_) | refine Exists.intro _ (And.intro rfl ?_) | refine And.intro rfl ?_ | refine And.intro ⟨rfl, rfl⟩ ?_ | ((refine And.intro (fun _ => ?_) (fun _ => ?_)) <;> try (exfalso; omega))))
    refine Exists.intro (u + 1) (Exists.intro [0] (And.intro ⟨by omega, (by show 2 ^ i - (u + 1) < 2 ^ i - u; omega)⟩ ⟨⟨rfl, rfl, rfl, rfl, rfl, rfl, rfl, trivial⟩, ⟨rfl, trivial⟩, rfl⟩))
  have hil : i < n := by omega
  have hl := s_slett u n i (n - 1 - i) (by omega) (by omega) (by omega) (by omega)
  have f1 : IntKind.i64.wrap ((P : Int) - (r : Int)) = (P : Int) - (r : Int) := wI (by omega)
  have f2 : IntKind.i64.wrap ((P : Int) - (Q : Int)) = (P : Int) - (Q : Int) := wI (by omega)
  have hnx : owN n m P Q r u (i + 1) = owN n m P Q r u i * wt1 n P Q r u i % P := rfl
  rcases lt1_01 u (n - 1 - i) with hb | hb
  · rw [wt1, hb, if_neg (by decide)] at hnx
    rw [hb] at hl
    have hmb := mulbd (o := owN n m P Q r u i) (f := (P : Int) - (r : Int)) (p := P) (by omega) (by omega)
    have hnn : 0 ≤ owN n m P Q r u i * ((P : Int) - (r : Int)) := Int.mul_nonneg ho.1 (by omega)
    have f3 : IntKind.i64.wrap (owN n m P Q r u i * ((P : Int) - (r : Int))) = owN n m P Q r u i * ((P : Int) - (r : Int)) := wI (by omega)
    have f4 : Int.tmod (owN n m P Q r u i * ((P : Int) - (r : Int))) P = owN n m P Q r u (i + 1) := by rw [hnx]; exact tmod_nn hnn (by omega)
    (repeat' (first | refine (hl).pure rfl ?_ | refine Exists.intro _ (And.intro f1 ?_) | refine Exists.intro _ (And.intro f2 ?_) | refine Exists.intro _ (And.intro f3 ?_) | refine Exists.intro _ (And.intro f4 ?_) | refine And.intro hp0 ?_ | refine And.intro (neI rfl) ?_ | refine And.intro ⟨rfl, leR rfl, onesR rfl⟩ ?_ | refine And.intro ⟨rfl, leR rfl⟩ ?_ | refine draw_rule2 hfol (fun KK hKK => ?_) | refine hKK _ _ _ (by kernel_rfl) ?_ | refine region_rule (fun KK hKK => ?_) | refine hKK _ _ ?_ | refine And.intro (Eq.refl true) ?_ | refine Exists.intro _ (And.intro (wI (by omega)) ?_) | refine Exists.intro _ (And.intro (wU (by omega)) ?_) | refine Exists.intro _ (And.intro ⟨rfl, by omega⟩ ?_) | refine Exists.intro _ (And.intro rfl ?_) | refine And.intro rfl ?_ | refine And.intro ⟨rfl, rfl⟩ ?_ | ((refine And.intro (fun _ => ?_) (fun _ => ?_)) <;> try (exfalso; omega))))
    refine Exists.intro (i + 1) (Exists.intro [0] (And.intro ⟨by omega, (by show n - (i + 1) < n - i; omega)⟩ ⟨⟨rfl, rfl, rfl, rfl, rfl, rfl, rfl, rfl, rfl, trivial⟩, ⟨rfl, trivial⟩, rfl⟩))
  · rw [wt1, if_pos hb] at hnx
    rw [hb] at hl
    have hmb := mulbd (o := owN n m P Q r u i) (f := (P : Int) - (Q : Int)) (p := P) (by omega) (by omega)
    have hnn : 0 ≤ owN n m P Q r u i * ((P : Int) - (Q : Int)) := Int.mul_nonneg ho.1 (by omega)
    have f3 : IntKind.i64.wrap (owN n m P Q r u i * ((P : Int) - (Q : Int))) = owN n m P Q r u i * ((P : Int) - (Q : Int)) := wI (by omega)
    have f4 : Int.tmod (owN n m P Q r u i * ((P : Int) - (Q : Int))) P = owN n m P Q r u (i + 1) := by rw [hnx]; exact tmod_nn hnn (by omega)
    (repeat' (first | refine (hl).pure rfl ?_ | refine Exists.intro _ (And.intro f1 ?_) | refine Exists.intro _ (And.intro f2 ?_) | refine Exists.intro _ (And.intro f3 ?_) | refine Exists.intro _ (And.intro f4 ?_) | refine And.intro hp0 ?_ | refine And.intro (neI rfl) ?_ | refine And.intro ⟨rfl, leR rfl, onesR rfl⟩ ?_ | refine And.intro ⟨rfl, leR rfl⟩ ?_ | refine draw_rule2 hfol (fun KK hKK => ?_) | refine hKK _ _ _ (by kernel_rfl) ?_ | refine region_rule (fun KK hKK => ?_) | refine hKK _ _ ?_ | refine And.intro (Eq.refl true) ?_ | refine Exists.intro _ (And.intro (wI (by omega)) ?_) | refine Exists.intro _ (And.intro (wU (by omega)) ?_) | refine Exists.intro _ (And.intro ⟨rfl, by omega⟩ ?_) | refine Exists.intro _ (And.intro rfl ?_) | refine And.intro rfl ?_ | refine And.intro ⟨rfl, rfl⟩ ?_ | ((refine And.intro (fun _ => ?_) (fun _ => ?_)) <;> try (exfalso; omega))))
    refine Exists.intro (i + 1) (Exists.intro [0] (And.intro ⟨by omega, (by show n - (i + 1) < n - i; omega)⟩ ⟨⟨rfl, rfl, rfl, rfl, rfl, rfl, rfl, rfl, rfl, trivial⟩, ⟨rfl, trivial⟩, rfl⟩))
end Go.Proofs.Ytimigbgpldjefaa.VE
