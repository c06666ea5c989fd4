/- Contracts of functions of the given program, for all arguments that the contract names; see each theorem. -/
import Derived.Test.YtimigbgpldjefaaD5
import Derived.Test.YtimigbgpldjefaaW3
import Derived.Test.YtimigbgpldjefaaW4
set_option linter.all false
namespace Go.Proofs.Ytimigbgpldjefaa.VE
open Go
set_option maxHeartbeats 1600000
set_option maxRecDepth 100000

/-! ApplyToSpins -/
def apS (n : Nat) (m : List Nat) (p q r : Int) (x : Nat → Int) (u : Nat) : Nat → Int
  | 0 => 0
  | k + 1 => (apS n m p q r x u k + ent n m p q r u k * x k) % p
theorem apS_bd {n : Nat} {m : List Nat} {p q r : Int} {x : Nat → Int} {u : Nat} (hp : 0 < p) : ∀ k, 0 ≤ apS n m p q r x u k ∧ apS n m p q r x u k < p
  | 0 => ⟨Int.le_refl 0, hp⟩
  | k + 1 => ⟨Int.emod_nonneg _ (by omega), Int.emod_lt_of_pos _ hp⟩
def ltP (p : Int) (i : Int) : Bool := decide (0 ≤ i ∧ i ≤ p - 1)
def apC (p q s : Int) (m : List Nat) (x : Nat → Int) (N : Nat) : Int :=
  if isDi s m = true then (if s ≤ 6 then (if prI p = true ∧ N = 2 ^ s.toNat ∧ (∀ j, j < N → ltP p (x j) = true) then (if nmB p q = true then 0 else 2) else 1) else 2) else 1
theorem s_ap1 (p i : Int) (hp : 2 ≤ p ∧ p ≤ 97) : Spec Try.prog n_i_ApplyToSpins_1 [vi i, .ptr 0 0] [.pc [.int .i64 p] T_int64] (vb (!ltP p i)) [.pc [.int .i64 p] T_int64] := by
  have hin := s_iin i 0 (p - 1)
  have hl : decide (0 ≤ i ∧ i ≤ p - 1) = ltP p i := rfl
  rw [hl] at hin
  generalize ltP p i = b at hin
  have e1 : IntKind.i64.wrap (p - 1) = p - 1 := wI (by omega)
  refine SpecW.of_EV hf_i_ApplyToSpins_1 hc_i_ApplyToSpins_1 rfl rfl rfl fun w0 B ρ0 _ => ?_
  cases b <;>
  · (repeat' (first | refine Exists.intro _ (And.intro e1 ?_) | refine (hin).pure rfl ?_ | refine And.intro (neI rfl) ?_ | refine And.intro ⟨rfl, leR rfl, onesR rfl⟩ ?_ | refine And.intro ⟨rfl, leR rfl⟩ ?_ | refine draw_rule2 hfol (fun KK hKK => ?_) | refine hKK _ _ _ (by kernel_rfl) ?_ | refine region_rule (fun KK hKK => ?_) | refine hKK _ _ ?_ | refine And.intro (Eq.refl true) ?_ | refine Exists.intro _ (And.intro (wI (by omega)) ?_) | refine Exists.intro _ (And.intro (wU (by omega)) ?_) | refine Exists.intro _ (And.intro ⟨rfl, by omega⟩ ?_) | refine Exists.intro _ (And.intro rfl ?_) | refine And.intro rfl ?_ | refine And.intro ⟨rfl, rfl⟩ ?_ | ((refine And.intro (fun _ => ?_) (fun _ => ?_)) <;> try (exfalso; omega))))
    exact Exists.intro [0] (And.intro (rfl) (And.intro ⟨rfl, trivial⟩ rfl))
theorem s_sAp (p q : Int) (n : Nat) (m : List Nat) (hm : m.length = 16) (hd : IsD n m) (x : Nat → Int) (P Q : Nat) (hpP : p = P) (hqQ : q = Q) (hn6 : n ≤ 6) (a1 : 2 ≤ P) (a2 : P ≤ 97) (a3 : prB P = true) (a4 : 1 ≤ Q) (a5 : Q < P) (hb : ∀ x ∈ m, x < 256) (hdi : isDi n m = true) (hpr : prI P = true) (hnm : nmB P Q = true) (hx : ∀ j, j < 2 ^ n → ltP P (x j) = true) :
    Spec Try.prog n_s_ApplyToSpins [vi p, vi q, pv n m, .sl 0] [.pr T_int64 1 (2 ^ n) (il x (2 ^ n))] (.tup [.sl 1, vi 0]) [.pr T_int64 1 (2 ^ n) (il x (2 ^ n)), .pr T_int64 1 (2 ^ n) (il (fun u => apS n m P Q ((pwN Q P (P - 2) : Nat) : Int) x u (2 ^ n)) (2 ^ n))] := by
  subst hpP hqQ
  have hfol : Try.prog.follows .mixedOrders = true := rfl
  have h1 := s_sIs' n m hm hb
  rw [hdi] at h1
  have h2 := s_sprime P
  rw [hpr] at h2
  have h3 := s_snum P Q
  rw [hnm] at h3
  have hiv := s_sinv P Q a1 a2 a5
  rw [inv_eq a2 a3 a4 a5] at hiv
  have hrl := pwN_lt (a := Q) a1 (P - 2)
  generalize pwN Q P (P - 2) = r at hiv hrl ⊢
  have ht8 := two_pow8 hd.n8
  have e0 : IntKind.u64.wrap (n : Int) = (n : Int) := wU64 (by omega)
  have e1 := shlN n (by omega)
  have e2 : IntKind.i64.wrap ((P : Int) - 1) = (P : Int) - 1 := wI (by omega)
  have hp0 : (P : Int) ≠ 0 := by omega
  refine SpecW.of_EV hf_s_ApplyToSpins hc_s_ApplyToSpins rfl rfl rfl fun w0 B ρ0 _ => ?_
  (repeat' (first | refine (h1).pure rfl ?_ | refine (h2).pure rfl ?_ | refine Exists.intro (pcl (n : Int) m) (And.intro ⟨pcl_len hm, pcl_all hm⟩ ?_) | refine And.intro ⟨pcl_len hm, leR rfl, pcl_ones⟩ ?_ | refine Exists.intro (pcl (n : Int) m) (And.intro ⟨leR rfl, spl0 (leR rfl)⟩ ?_) | refine Exists.intro _ (And.intro e0 ?_) | refine And.intro (by omega) (Exists.intro _ (And.intro e1 ?_)) | refine And.intro (neI rfl) ?_ | refine And.intro ⟨rfl, leR rfl, onesR rfl⟩ ?_ | refine And.intro ⟨rfl, leR rfl⟩ ?_ | refine draw_rule2 hfol (fun KK hKK => ?_) | refine hKK _ _ _ (by kernel_rfl) ?_ | refine region_rule (fun KK hKK => ?_) | refine hKK _ _ ?_ | refine And.intro (Eq.refl true) ?_ | refine Exists.intro _ (And.intro (wI (by omega)) ?_) | refine Exists.intro _ (And.intro (wU (by omega)) ?_) | refine Exists.intro _ (And.intro ⟨rfl, by omega⟩ ?_) | refine Exists.intro _ (And.intro rfl ?_) | refine And.intro rfl ?_ | refine And.intro ⟨rfl, rfl⟩ ?_ | ((refine And.intro (fun _ => ?_) (fun _ => ?_)) <;> try (exfalso; omega))))
  refine loop_rule (α := Nat) (fun i => i ≤ 2 ^ n) (fun i => [(0, vi P), (1, vi Q), (3, .sl 0), (6, .ptr 1 0), (10, vi i)]) (fun _ => [.pr T_int64 1 (2 ^ n) (il x (2 ^ n)), .pc (pcl n m) T_i_Diagram]) (fun i => 2 ^ n - i) 0 [0, 1]
    (by omega) ⟨⟨rfl, rfl, rfl, rfl, rfl, trivial⟩, ⟨rfl, rfl, trivial⟩, rfl⟩ ?_
  rintro i g hi
  by_cases h9 : i < 2 ^ n
  · have hin := s_in (x i) 0 ((P : Int) - 1)
    rw [show decide (0 ≤ x i ∧ x i ≤ (P : Int) - 1) = true from hx i h9] at hin
    (repeat' (first | refine Exists.intro _ (And.intro (il_at h9) ?_) | refine Exists.intro _ (And.intro e2 ?_) | refine (hin).pure rfl ?_ | refine And.intro (neI rfl) ?_ | refine And.intro ⟨rfl, leR rfl, onesR rfl⟩ ?_ | refine And.intro ⟨rfl, leR rfl⟩ ?_ | refine draw_rule2 hfol (fun KK hKK => ?_) | refine hKK _ _ _ (by kernel_rfl) ?_ | refine region_rule (fun KK hKK => ?_) | refine hKK _ _ ?_ | refine And.intro (Eq.refl true) ?_ | refine Exists.intro _ (And.intro (wI (by omega)) ?_) | refine Exists.intro _ (And.intro (wU (by omega)) ?_) | refine Exists.intro _ (And.intro ⟨rfl, by omega⟩ ?_) | refine Exists.intro _ (And.intro rfl ?_) | refine And.intro rfl ?_ | refine And.intro ⟨rfl, rfl⟩ ?_ | ((refine And.intro (fun _ => ?_) (fun _ => ?_)) <;> try (exfalso; omega))))
    refine Exists.intro (i + 1) (Exists.intro [0, 1] (And.intro ⟨by omega, (by show 2 ^ n - (i + 1) < 2 ^ n - i; omega)⟩ ⟨⟨rfl, rfl, rfl, rfl, rfl, trivial⟩, ⟨rfl, rfl, trivial⟩, rfl⟩))
  have h9 : i = 2 ^ n := by omega
  subst h9
  (repeat' (first | refine (h3).pure rfl ?_ | refine (hiv).pure rfl ?_ | refine And.intro (neI rfl) ?_ | refine And.intro ⟨rfl, leR rfl, onesR rfl⟩ ?_ | refine And.intro ⟨rfl, leR rfl⟩ ?_ | refine draw_rule2 hfol (fun KK hKK => ?_) | refine hKK _ _ _ (by kernel_rfl) ?_ | refine region_rule (fun KK hKK => ?_) | refine hKK _ _ ?_ | refine And.intro (Eq.refl true) ?_ | refine Exists.intro _ (And.intro (wI (by omega)) ?_) | refine Exists.intro _ (And.intro (wU (by omega)) ?_) | refine Exists.intro _ (And.intro ⟨rfl, by omega⟩ ?_) | refine Exists.intro _ (And.intro rfl ?_) | refine And.intro rfl ?_ | refine And.intro ⟨rfl, rfl⟩ ?_ | ((refine And.intro (fun _ => ?_) (fun _ => ?_)) <;> try (exfalso; omega))))
  refine loop_rule (α := Nat) (fun u => u ≤ 2 ^ n) (fun u => [(0, vi P), (1, vi Q), (3, .sl 0), (6, .ptr 1 0), (11, .sl 2), (12, vi r), (13, vi u)]) (fun u => [.pr T_int64 1 (2 ^ n) (il x (2 ^ n)), .pc (pcl n m) T_i_Diagram, .pr T_int64 1 u (il (fun u => apS n m P Q r x u (2 ^ n)) u)]) (fun u => 2 ^ n - u) 0 [0, 1, 2]
    (by omega) ⟨⟨rfl, rfl, rfl, rfl, rfl, rfl, rfl, trivial⟩, ⟨rfl, rfl, rfl, trivial⟩, rfl⟩ ?_
  rintro u g2 hu
  by_cases h9 : u = 2 ^ n
  · rw [h9]
    (repeat' (first | refine And.intro (neI rfl) ?_ | refine And.intro ⟨rfl, leR rfl, onesR rfl⟩ ?_ | refine And.intro ⟨rfl, leR rfl⟩ ?_ | refine draw_rule2 hfol (fun KK hKK => ?_) | refine hKK _ _ _ (by kernel_rfl) ?_ | refine region_rule (fun KK hKK => ?_) | refine hKK _ _ ?_ | refine And.intro (Eq.refl true) ?_ | refine Exists.intro _ (And.intro (wI (by omega)) ?_) | refine Exists.intro _ (And.intro (wU (by omega)) ?_) | refine Exists.intro _ (And.intro ⟨rfl, by omega⟩ ?_) | refine Exists.intro _ (And.intro rfl ?_) | refine And.intro rfl ?_ | refine And.intro ⟨rfl, rfl⟩ ?_ | ((refine And.intro (fun _ => ?_) (fun _ => ?_)) <;> try (exfalso; omega))))
    exact Exists.intro [0,2] (And.intro (rfl) (And.intro ⟨rfl, rfl, trivial⟩ rfl))
  have hul : u < 2 ^ n := by omega
  (repeat' (first | refine And.intro (neI rfl) ?_ | refine And.intro ⟨rfl, leR rfl, onesR rfl⟩ ?_ | refine And.intro ⟨rfl, leR rfl⟩ ?_ | refine draw_rule2 hfol (fun KK hKK => ?_) | refine hKK _ _ _ (by kernel_rfl) ?_ | refine region_rule (fun KK hKK => ?_) | refine hKK _ _ ?_ | refine And.intro (Eq.refl true) ?_ | refine Exists.intro _ (And.intro (wI (by omega)) ?_) | refine Exists.intro _ (And.intro (wU (by omega)) ?_) | refine Exists.intro _ (And.intro ⟨rfl, by omega⟩ ?_) | refine Exists.intro _ (And.intro rfl ?_) | refine And.intro rfl ?_ | refine And.intro ⟨rfl, rfl⟩ ?_ | ((refine And.intro (fun _ => ?_) (fun _ => ?_)) <;> try (exfalso; omega))))
  refine loop_rule (α := Nat) (fun k => k ≤ 2 ^ n) (fun k => [(0, vi P), (1, vi Q), (3, .sl 0), (6, .ptr 1 0), (11, .sl 2), (12, vi r), (13, vi u), (14, vi (apS n m P Q r x u k)), (15, vi k)]) (fun _ => [.pr T_int64 1 (2 ^ n) (il x (2 ^ n)), .pc (pcl n m) T_i_Diagram, .pr T_int64 1 u (il (fun u => apS n m P Q r x u (2 ^ n)) u)]) (fun k => 2 ^ n - k) 0 [0, 1, 2]
    (by omega) ⟨⟨rfl, rfl, rfl, rfl, rfl, rfl, rfl, rfl, rfl, trivial⟩, ⟨rfl, rfl, rfl, trivial⟩, rfl⟩ ?_
  rintro k g3 hk
  by_cases h8 : k = 2 ^ n
  · rw [h8]
    (repeat' (first | refine And.intro ⟨rfl, mkL rfl⟩ ?_ | refine Exists.intro [Value.int .i64 (apS n m P Q r x u (2 ^ n))] (And.intro (row1s (mkL' rfl)) ?_) | refine Exists.intro (il (fun u => apS n m P Q r x u (2 ^ n)) (u + 1)) (And.intro ⟨rfl, onesR rfl, by omega, by omega, il_succ⟩ ?_) | refine And.intro (neI rfl) ?_ | refine And.intro ⟨rfl, leR rfl, onesR rfl⟩ ?_ | refine And.intro ⟨rfl, leR rfl⟩ ?_ | refine draw_rule2 hfol (fun KK hKK => ?_) | refine hKK _ _ _ (by kernel_rfl) ?_ | refine region_rule (fun KK hKK => ?_) | refine hKK _ _ ?_ | refine And.intro (Eq.refl true) ?_ | refine Exists.intro _ (And.intro (wI (by omega)) ?_) | refine Exists.intro _ (And.intro (wU (by omega)) ?_) | refine Exists.intro _ (And.intro ⟨rfl, by omega⟩ ?_) | refine Exists.intro _ (And.intro rfl ?_) | refine And.intro rfl ?_ | refine And.intro ⟨rfl, rfl⟩ ?_ | ((refine And.intro (fun _ => ?_) (fun _ => ?_)) <;> try (exfalso; omega))))
    refine Exists.intro (u + 1) (Exists.intro [0, 1, 4] (And.intro ⟨by omega, (by show 2 ^ n - (u + 1) < 2 ^ n - u; omega)⟩ ⟨⟨rfl, rfl, rfl, rfl, rfl, rfl, rfl, trivial⟩, ⟨rfl, rfl, rfl, trivial⟩, rfl⟩))
  have hkl : k < 2 ^ n := by omega
  have hxk : 0 ≤ x k ∧ x k ≤ (P : Int) - 1 := of_decide_eq_true (hx k hkl)
  have hbd := apS_bd (n := n) (m := m) (p := P) (q := Q) (r := r) (x := x) (u := u) (by omega) k
  by_cases hz : x k = 0
  · have hnx : apS n m P Q r x u (k + 1) = apS n m P Q r x u k := by
      rw [apS, hz, Int.mul_zero, Int.add_zero]; exact Int.emod_eq_of_lt hbd.1 hbd.2
    (repeat' (first | refine Exists.intro _ (And.intro (il_at hkl) ?_) | refine And.intro (neI rfl) ?_ | refine And.intro ⟨rfl, leR rfl, onesR rfl⟩ ?_ | refine And.intro ⟨rfl, leR rfl⟩ ?_ | refine draw_rule2 hfol (fun KK hKK => ?_) | refine hKK _ _ _ (by kernel_rfl) ?_ | refine region_rule (fun KK hKK => ?_) | refine hKK _ _ ?_ | refine And.intro (Eq.refl true) ?_ | refine Exists.intro _ (And.intro (wI (by omega)) ?_) | refine Exists.intro _ (And.intro (wU (by omega)) ?_) | refine Exists.intro _ (And.intro ⟨rfl, by omega⟩ ?_) | refine Exists.intro _ (And.intro rfl ?_) | refine And.intro rfl ?_ | refine And.intro ⟨rfl, rfl⟩ ?_ | ((refine And.intro (fun _ => ?_) (fun _ => ?_)) <;> try (exfalso; omega))))
    refine Exists.intro (k + 1) (Exists.intro [0, 1, 2] (And.intro ⟨by omega, (by show 2 ^ n - (k + 1) < 2 ^ n - k; omega)⟩ ⟨⟨rfl, rfl, rfl, rfl, rfl, rfl, rfl, by rw [hnx]; rfl, rfl, trivial⟩, ⟨rfl, rfl, rfl, trivial⟩, rfl⟩))
  · have he := s_sent n m hd.toIsV P Q r (by omega) (by omega) (by omega) u k (by omega) (by omega)
    have hebd := ent_bd (n := n) (m := m) (p := P) (q := Q) (r := r) (u := u) (v := k) (by omega)
    have hmb := mulbd (o := ent n m P Q r u k) (f := x k) (p := P) (by omega) (by omega)
    have hnn : 0 ≤ ent n m P Q r u k * x k := Int.mul_nonneg hebd.1 hxk.1
    have f1 : IntKind.i64.wrap (ent n m P Q r u k * x k) = ent n m P Q r u k * x k := wI (by omega)
    have f2 : IntKind.i64.wrap (apS n m P Q r x u k + ent n m P Q r u k * x k) = apS n m P Q r x u k + ent n m P Q r u k * x k := wI (by omega)
    have f3 : Int.tmod (apS n m P Q r x u k + ent n m P Q r u k * x k) P = apS n m P Q r x u (k + 1) := by rw [tmod_nn (by omega) (by omega)]; rfl
    (repeat' (first | refine Exists.intro _ (And.intro (il_at hkl) ?_) | refine Exists.intro (pcl (n : Int) m) (And.intro ⟨pcl_len hm, pcl_all hm⟩ ?_) | refine And.intro ⟨pcl_len hm, leR rfl, pcl_ones⟩ ?_ | refine Exists.intro (pcl (n : Int) m) (And.intro ⟨leR rfl, spl0 (leR rfl)⟩ ?_) | refine (he).pure rfl ?_ | refine Exists.intro _ (And.intro f1 ?_) | refine Exists.intro _ (And.intro f2 ?_) | refine Exists.intro _ (And.intro f3 ?_) | refine And.intro hp0 ?_ | refine And.intro (neI rfl) ?_ | refine And.intro ⟨rfl, leR rfl, onesR rfl⟩ ?_ | refine And.intro ⟨rfl, leR rfl⟩ ?_ | refine draw_rule2 hfol (fun KK hKK => ?_) | refine hKK _ _ _ (by kernel_rfl) ?_ | refine region_rule (fun KK hKK => ?_) | refine hKK _ _ ?_ | refine And.intro (Eq.refl true) ?_ | refine Exists.intro _ (And.intro (wI (by omega)) ?_) | refine Exists.intro _ (And.intro (wU (by omega)) ?_) | refine Exists.intro _ (And.intro ⟨rfl, by omega⟩ ?_) | refine Exists.intro _ (And.intro rfl ?_) | refine And.intro rfl ?_ | refine And.intro ⟨rfl, rfl⟩ ?_ | ((refine And.intro (fun _ => ?_) (fun _ => ?_)) <;> try (exfalso; omega))))
    refine Exists.intro (k + 1) (Exists.intro [0, 1, 2] (And.intro ⟨by omega, (by show 2 ^ n - (k + 1) < 2 ^ n - k; omega)⟩ ⟨⟨rfl, rfl, rfl, rfl, rfl, rfl, rfl, rfl, rfl, trivial⟩, ⟨rfl, rfl, rfl, trivial⟩, rfl⟩))
theorem s_iAp (p q : Int) (n : Nat) (m : List Nat) (hm : m.length = 16) (hd : IsD n m) (x : Nat → Int) (P Q : Nat) (hpP : p = P) (hqQ : q = Q) (hn6 : n ≤ 6) (a1 : 2 ≤ P) (a2 : P ≤ 97) (a3 : prB P = true) (a4 : 1 ≤ Q) (a5 : Q < P) (hb : ∀ x ∈ m, x < 256) (hdi : isDi n m = true) (hpr : prI P = true) (hnm : nmB P Q = true) (hx : ∀ j, j < 2 ^ n → ltP P (x j) = true) :
    Spec Try.prog n_i_ApplyToSpins [vi p, vi q, pv n m, .sl 0] [.pr T_int64 1 (2 ^ n) (il x (2 ^ n))] (.tup [.sl 1, vi 0]) [.pr T_int64 1 (2 ^ n) (il x (2 ^ n)), .pr T_int64 1 (2 ^ n) (il (fun u => apS n m P Q ((pwN Q P (P - 2) : Nat) : Int) x u (2 ^ n)) (2 ^ n))] := by
  subst hpP hqQ
  have hfol : Try.prog.follows .mixedOrders = true := rfl
  have h1 := s_invalid1D n m hm hb
  rw [hdi] at h1
  simp only [Bool.not_true, cond_false] at h1
  have h2 := s_iprime P
  rw [hpr] at h2
  have h3 := s_spinsOf P Q
  have hsp : spR P Q = ((P : Int), (Q : Int), ((pwN Q P (P - 2) : Nat) : Int), true) := if_pos hnm
  rw [hsp] at h3
  have hrl := pwN_lt (a := Q) a1 (P - 2)
  generalize pwN Q P (P - 2) = r at h3 hrl ⊢
  have ht8 := two_pow8 hd.n8
  have hw := s_words n m hd.n8
  have hany := s_anyct n_i_ApplyToSpins_1 P (ltP P) (fun i => s_ap1 P i (by omega)) x (2 ^ n) (by omega) true (decide_eq_true hx)
  have hp0 : (P : Int) ≠ 0 := by omega
  refine SpecW.of_EV hf_i_ApplyToSpins hc_i_ApplyToSpins rfl rfl rfl fun w0 B ρ0 _ => ?_
  (repeat' (first | refine (h1).read [3] rfl ⟨rfl, trivial⟩ ?_ | refine (h2).pure rfl ?_ | refine (hw).read [2] rfl ⟨rfl, trivial⟩ ?_ | refine (hany).read [0,1] rfl ⟨rfl, rfl, trivial⟩ ?_ | refine (h3).pure rfl ?_ | refine Exists.intro (pcl (n : Int) m) (And.intro ⟨pcl_len hm, pcl_all hm⟩ ?_) | refine And.intro ⟨pcl_len hm, leR rfl, pcl_ones⟩ ?_ | refine Exists.intro (pcl (n : Int) m) (And.intro ⟨leR rfl, spl0 (leR rfl)⟩ ?_) | refine And.intro ⟨pcl_len hm, mkL rfl⟩ ?_ | refine Exists.intro (rowP [((n : Int), m)]) (And.intro (row1 (N := 17) (p := ((n : Int), m)) (mkL' rfl)) ?_) | refine Exists.intro (spV P Q r) (And.intro ⟨rfl, rfl⟩ ?_) | refine Exists.intro (spV P Q r) (And.intro ⟨leR rfl, rfl⟩ ?_) | refine And.intro (neI rfl) ?_ | refine And.intro ⟨rfl, leR rfl, onesR rfl⟩ ?_ | refine And.intro ⟨rfl, leR rfl⟩ ?_ | refine draw_rule2 hfol (fun KK hKK => ?_) | refine hKK _ _ _ (by kernel_rfl) ?_ | refine region_rule (fun KK hKK => ?_) | refine hKK _ _ ?_ | refine And.intro (Eq.refl true) ?_ | refine Exists.intro _ (And.intro (wI (by omega)) ?_) | refine Exists.intro _ (And.intro (wU (by omega)) ?_) | refine Exists.intro _ (And.intro ⟨rfl, by omega⟩ ?_) | refine Exists.intro _ (And.intro rfl ?_) | refine And.intro rfl ?_ | refine And.intro ⟨rfl, rfl⟩ ?_ | ((refine And.intro (fun _ => ?_) (fun _ => ?_)) <;> try (exfalso; omega))))
  refine loop_rule (α := Nat) (fun u => u ≤ 2 ^ n) (fun u => [(3, .sl 0), (4, .ptr 1 0), (6, .ptr 2 0), (10, .ptr 3 0), (12, .sl 4), (50, vi (2 ^ n : Nat)), (51, vi u)])
    (fun u => [.pr T_int64 1 (2 ^ n) (il x (2 ^ n)), .pc [.int .i64 P] T_int64, .pc (pcl n m) T_i_Diagram, .pc (spV P Q r) T_i_spins, .pr T_int64 1 u (il (fun u => apS n m P Q r x u (2 ^ n)) u)]) (fun u => 2 ^ n - u) 0 [0, 1, 2, 4, 5]
    (by omega) ⟨⟨rfl, rfl, rfl, rfl, rfl, rfl, rfl, trivial⟩, ⟨rfl, rfl, rfl, rfl, rfl, trivial⟩, rfl⟩ ?_
  rintro u g2 hu
  by_cases h9 : u = 2 ^ n
  · rw [h9]
    (repeat' (first | refine And.intro (neI rfl) ?_ | refine And.intro ⟨rfl, leR rfl, onesR rfl⟩ ?_ | refine And.intro ⟨rfl, leR rfl⟩ ?_ | refine draw_rule2 hfol (fun KK hKK => ?_) | refine hKK _ _ _ (by kernel_rfl) ?_ | refine region_rule (fun KK hKK => ?_) | refine hKK _ _ ?_ | refine And.intro (Eq.refl true) ?_ | refine Exists.intro _ (And.intro (wI (by omega)) ?_) | refine Exists.intro _ (And.intro (wU (by omega)) ?_) | refine Exists.intro _ (And.intro ⟨rfl, by omega⟩ ?_) | refine Exists.intro _ (And.intro rfl ?_) | refine And.intro rfl ?_ | refine And.intro ⟨rfl, rfl⟩ ?_ | ((refine And.intro (fun _ => ?_) (fun _ => ?_)) <;> try (exfalso; omega))))
    exact Exists.intro [0,4] (And.intro (rfl) (And.intro ⟨rfl, rfl, trivial⟩ rfl))
  have hul : u < 2 ^ n := by omega
  (repeat' (first | refine And.intro (neI rfl) ?_ | refine And.intro ⟨rfl, leR rfl, onesR rfl⟩ ?_ | refine And.intro ⟨rfl, leR rfl⟩ ?_ | refine draw_rule2 hfol (fun KK hKK => ?_) | refine hKK _ _ _ (by kernel_rfl) ?_ | refine region_rule (fun KK hKK => ?_) | refine hKK _ _ ?_ | refine And.intro (Eq.refl true) ?_ | refine Exists.intro _ (And.intro (wI (by omega)) ?_) | refine Exists.intro _ (And.intro (wU (by omega)) ?_) | refine Exists.intro _ (And.intro ⟨rfl, by omega⟩ ?_) | refine Exists.intro _ (And.intro rfl ?_) | refine And.intro rfl ?_ | refine And.intro ⟨rfl, rfl⟩ ?_ | ((refine And.intro (fun _ => ?_) (fun _ => ?_)) <;> try (exfalso; omega))))
  refine loop_rule (α := Nat × Int) (fun (k, s) => k ≤ 2 ^ n ∧ (0 ≤ s ∧ s ≤ 97 * k) ∧ s % P = apS n m P Q r x u k)
    (fun (k, s) => [(3, .sl 0), (4, .ptr 1 0), (6, .ptr 2 0), (10, .ptr 3 0), (12, .sl 4), (13, vi u), (14, vi s), (50, vi (2 ^ n : Nat)), (51, vi u), (54, .sl 0), (55, vi (2 ^ n : Nat)), (56, vi k)])
    (fun (k, s) => [.pr T_int64 1 (2 ^ n) (il x (2 ^ n)), .pc [.int .i64 P] T_int64, .pc (pcl n m) T_i_Diagram, .pc (spV P Q r) T_i_spins, .pr T_int64 1 u (il (fun u => apS n m P Q r x u (2 ^ n)) u)]) (fun (k, _) => 2 ^ n - k) (0, 0) [0, 1, 2, 3, 4]
    ⟨by omega, by omega, by simp [apS]⟩ ⟨⟨rfl, rfl, rfl, rfl, rfl, rfl, rfl, rfl, rfl, rfl, rfl, rfl, trivial⟩, ⟨rfl, rfl, rfl, rfl, rfl, trivial⟩, rfl⟩ ?_
  rintro ⟨k, s⟩ g3 ⟨hk, hs, hR⟩
  by_cases h8 : k = 2 ^ n
  · subst h8
    have hs0 : 0 ≤ s := hs.1
    have f1 : Int.tmod s P = apS n m P Q r x u (2 ^ n) := by rw [← hR]; exact tmod_nn hs0 (by omega)
    (repeat' (first | refine And.intro hp0 ?_ | refine Exists.intro _ (And.intro f1 ?_) | refine And.intro ⟨rfl, mkL rfl⟩ ?_ | refine Exists.intro [Value.int .i64 (apS n m P Q r x u (2 ^ n))] (And.intro (row1s (mkL' rfl)) ?_) | refine Exists.intro (il (fun u => apS n m P Q r x u (2 ^ n)) (u + 1)) (And.intro ⟨rfl, onesR rfl, by omega, by omega, il_succ⟩ ?_) | refine And.intro (neI rfl) ?_ | refine And.intro ⟨rfl, leR rfl, onesR rfl⟩ ?_ | refine And.intro ⟨rfl, leR rfl⟩ ?_ | refine draw_rule2 hfol (fun KK hKK => ?_) | refine hKK _ _ _ (by kernel_rfl) ?_ | refine region_rule (fun KK hKK => ?_) | refine hKK _ _ ?_ | refine And.intro (Eq.refl true) ?_ | refine Exists.intro _ (And.intro (wI (by omega)) ?_) | refine Exists.intro _ (And.intro (wU (by omega)) ?_) | refine Exists.intro _ (And.intro ⟨rfl, by omega⟩ ?_) | refine Exists.intro _ (And.intro rfl ?_) | refine And.intro rfl ?_ | refine And.intro ⟨rfl, rfl⟩ ?_ | ((refine And.intro (fun _ => ?_) (fun _ => ?_)) <;> try (exfalso; omega))))
    refine Exists.intro (u + 1) (Exists.intro [0, 1, 2, 3, 6] (And.intro ⟨by omega, (by show 2 ^ n - (u + 1) < 2 ^ n - u; omega)⟩ ⟨⟨rfl, rfl, rfl, rfl, rfl, rfl, rfl, trivial⟩, ⟨rfl, rfl, rfl, rfl, rfl, trivial⟩, rfl⟩))
  have hkl : k < 2 ^ n := by omega
  have hxk : 0 ≤ x k ∧ x k ≤ (P : Int) - 1 := of_decide_eq_true (hx k hkl)
  have he := s_ient n m hd.toIsV P Q r (by omega) (by omega) (by omega) u k (by omega) (by omega)
  have hebd := ent_bd (n := n) (m := m) (p := P) (q := Q) (r := r) (u := u) (v := k) (by omega)
  have hmb := mulbd (o := x k) (f := ent n m P Q r u k) (p := P) (by omega) (by omega)
  have hnn : 0 ≤ x k * ent n m P Q r u k := Int.mul_nonneg hxk.1 hebd.1
  have f1 : IntKind.i64.wrap (x k * ent n m P Q r u k) = x k * ent n m P Q r u k := wI (by omega)
  have f3 : Int.tmod (x k * ent n m P Q r u k) P = x k * ent n m P Q r u k % P := tmod_nn hnn (by omega)
  have hx0 := Int.emod_nonneg (x k * ent n m P Q r u k) hp0
  have hx1 := Int.emod_lt_of_pos (x k * ent n m P Q r u k) (show 0 < (P : Int) by omega)
  have f2 : IntKind.i64.wrap (s + x k * ent n m P Q r u k % P) = s + x k * ent n m P Q r u k % P := wI (by omega)
  (repeat' (first | refine Exists.intro _ (And.intro (il_at hkl) ?_) | refine (he).read [2] rfl ⟨rfl, trivial⟩ ?_ | refine Exists.intro (spV P Q r) (And.intro ⟨rfl, rfl⟩ ?_) | refine Exists.intro _ (And.intro f1 ?_) | refine Exists.intro _ (And.intro f2 ?_) | refine Exists.intro _ (And.intro f3 ?_) | refine And.intro hp0 ?_ | refine And.intro (neI rfl) ?_ | refine And.intro ⟨rfl, leR rfl, onesR rfl⟩ ?_ | refine And.intro ⟨rfl, leR rfl⟩ ?_ | refine draw_rule2 hfol (fun KK hKK => ?_) | refine hKK _ _ _ (by kernel_rfl) ?_ | refine region_rule (fun KK hKK => ?_) | refine hKK _ _ ?_ | refine And.intro (Eq.refl true) ?_ | refine Exists.intro _ (And.intro (wI (by omega)) ?_) | refine Exists.intro _ (And.intro (wU (by omega)) ?_) | refine Exists.intro _ (And.intro ⟨rfl, by omega⟩ ?_) | refine Exists.intro _ (And.intro rfl ?_) | refine And.intro rfl ?_ | refine And.intro ⟨rfl, rfl⟩ ?_ | ((refine And.intro (fun _ => ?_) (fun _ => ?_)) <;> try (exfalso; omega))))
  refine Exists.intro (k + 1, s + x k * ent n m P Q r u k % P) (Exists.intro [0, 1, 2, 3, 4] (And.intro ⟨⟨by omega, by omega, ?_⟩, (by show 2 ^ n - (k + 1) < 2 ^ n - k; omega)⟩ ⟨⟨rfl, rfl, rfl, rfl, rfl, rfl, rfl, rfl, rfl, rfl, rfl, rfl, trivial⟩, ⟨rfl, rfl, rfl, rfl, rfl, trivial⟩, rfl⟩))
  rw [apS, ← hR, Int.mul_comm (ent n m P Q r u k), Int.add_emod, Int.emod_emod, ← Int.add_emod]
  conv => rhs; rw [Int.add_emod, Int.emod_emod, ← Int.add_emod]
end Go.Proofs.Ytimigbgpldjefaa.VE
