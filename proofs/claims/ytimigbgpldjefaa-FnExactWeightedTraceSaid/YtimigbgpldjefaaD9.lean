/- Contracts of functions of the given program, for all arguments that the contract names; see each theorem. -/
import Derived.Test.YtimigbgpldjefaaD8
set_option linter.all false
namespace Go.Proofs.Ytimigbgpldjefaa.VE
open Go
set_option maxHeartbeats 800000
set_option maxRecDepth 100000

def trPR (p q s : Int) (m : List Nat) : Int × Int := if fltR p q s m 6 = 0 then (trN s.toNat m p q ((pwN q.toNat p.toNat (p.toNat - 2) : Nat) : Int) (fun _ => (1 : Int)) (2 ^ s.toNat), 0) else (0, fltR p q s m 6)
theorem s_sTrP (p q s : Int) (m : List Nat) (hm : m.length = 16) (hb : ∀ x ∈ m, x < 256) : Spec Try.prog n_s_PlainTrace [vi p, vi q, pv s m] [] (iiV (trPR p q s m)) [] := by
  have hf := s_sflt p q s m hm hb 6
  refine SpecW.of_EV hf_s_PlainTrace hc_s_PlainTrace rfl rfl rfl fun w0 B ρ0 _ => ?_
  rcases flt_c (p := p) (q := q) (s := s) (m := m) (most := 6) with h0 | h0 | h0
  · have hr : trPR p q s m = (trN s.toNat m p q ((pwN q.toNat p.toNat (p.toNat - 2) : Nat) : Int) (fun _ => (1 : Int)) (2 ^ s.toNat), 0) := if_pos h0
    rw [h0] at hf
    obtain ⟨n, P, Q, rfl, hd, hn8, rfl, rfl, a1, a2, a3, a4, a5, a6⟩ := flt_0 hm h0
    have ht := s_trP n m hm hd.toIsV P Q a1 a2 a3 a4 a5
    (repeat' (first | refine (hf).pure rfl ?_ | refine (ht).pure rfl ?_ | refine Exists.intro (pcl (n : Int) m) (And.intro ⟨pcl_len hm, pcl_all hm⟩ ?_) | refine And.intro ⟨pcl_len hm, leR rfl, pcl_ones⟩ ?_ | refine Exists.intro (pcl (n : Int) m) (And.intro ⟨leR rfl, spl0 (leR rfl)⟩ ?_) | refine And.intro (neI rfl) ?_ | refine And.intro ⟨rfl, leR rfl, onesR rfl⟩ ?_ | refine And.intro ⟨rfl, leR rfl⟩ ?_ | refine draw_rule2 hfol (fun KK hKK => ?_) | refine hKK _ _ _ (by kernel_rfl) ?_ | refine region_rule (fun KK hKK => ?_) | refine hKK _ _ ?_ | refine And.intro (Eq.refl true) ?_ | refine Exists.intro _ (And.intro (wI (by omega)) ?_) | refine Exists.intro _ (And.intro (wU (by omega)) ?_) | refine Exists.intro _ (And.intro ⟨rfl, by omega⟩ ?_) | refine Exists.intro _ (And.intro rfl ?_) | refine And.intro rfl ?_ | refine And.intro ⟨rfl, rfl⟩ ?_ | ((refine And.intro (fun _ => ?_) (fun _ => ?_)) <;> try (exfalso; omega))))
    exact Exists.intro [] (And.intro (by rw [hr]; rfl) (And.intro trivial rfl))
  · have hr : trPR p q s m = (0, 1) := by unfold trPR; rw [if_neg (by rw [h0]; decide), h0]
    rw [h0] at hf
    (repeat' (first | refine (hf).pure rfl ?_ | refine Exists.intro (pcl s m) (And.intro ⟨pcl_len hm, pcl_all hm⟩ ?_) | refine And.intro ⟨pcl_len hm, leR rfl, pcl_ones⟩ ?_ | refine Exists.intro (pcl s m) (And.intro ⟨leR rfl, spl0 (leR rfl)⟩ ?_) | refine And.intro (neI rfl) ?_ | refine And.intro ⟨rfl, leR rfl, onesR rfl⟩ ?_ | refine And.intro ⟨rfl, leR rfl⟩ ?_ | refine draw_rule2 hfol (fun KK hKK => ?_) | refine hKK _ _ _ (by kernel_rfl) ?_ | refine region_rule (fun KK hKK => ?_) | refine hKK _ _ ?_ | refine And.intro (Eq.refl true) ?_ | refine Exists.intro _ (And.intro (wI (by omega)) ?_) | refine Exists.intro _ (And.intro (wU (by omega)) ?_) | refine Exists.intro _ (And.intro ⟨rfl, by omega⟩ ?_) | refine Exists.intro _ (And.intro rfl ?_) | refine And.intro rfl ?_ | refine And.intro ⟨rfl, rfl⟩ ?_ | ((refine And.intro (fun _ => ?_) (fun _ => ?_)) <;> try (exfalso; omega))))
    exact Exists.intro [] (And.intro (by rw [hr]; rfl) (And.intro trivial rfl))
  · have hr : trPR p q s m = (0, 2) := by unfold trPR; rw [if_neg (by rw [h0]; decide), h0]
    rw [h0] at hf
    (repeat' (first | refine (hf).pure rfl ?_ | refine Exists.intro (pcl s m) (And.intro ⟨pcl_len hm, pcl_all hm⟩ ?_) | refine And.intro ⟨pcl_len hm, leR rfl, pcl_ones⟩ ?_ | refine Exists.intro (pcl s m) (And.intro ⟨leR rfl, spl0 (leR rfl)⟩ ?_) | refine And.intro (neI rfl) ?_ | refine And.intro ⟨rfl, leR rfl, onesR rfl⟩ ?_ | refine And.intro ⟨rfl, leR rfl⟩ ?_ | refine draw_rule2 hfol (fun KK hKK => ?_) | refine hKK _ _ _ (by kernel_rfl) ?_ | refine region_rule (fun KK hKK => ?_) | refine hKK _ _ ?_ | refine And.intro (Eq.refl true) ?_ | refine Exists.intro _ (And.intro (wI (by omega)) ?_) | refine Exists.intro _ (And.intro (wU (by omega)) ?_) | refine Exists.intro _ (And.intro ⟨rfl, by omega⟩ ?_) | refine Exists.intro _ (And.intro rfl ?_) | refine And.intro rfl ?_ | refine And.intro ⟨rfl, rfl⟩ ?_ | ((refine And.intro (fun _ => ?_) (fun _ => ?_)) <;> try (exfalso; omega))))
    exact Exists.intro [] (And.intro (by rw [hr]; rfl) (And.intro trivial rfl))
theorem s_iTrP (p q s : Int) (m : List Nat) (hm : m.length = 16) (hb : ∀ x ∈ m, x < 256) : Spec Try.prog n_i_PlainTrace [vi p, vi q, pv s m] [] (iiV (trPR p q s m)) [] := by
  have hf := s_iflt p q s m hm hb 6
  refine SpecW.of_EV hf_i_PlainTrace hc_i_PlainTrace rfl rfl rfl fun w0 B ρ0 _ => ?_
  rcases flt_c (p := p) (q := q) (s := s) (m := m) (most := 6) with h0 | h0 | h0
  · have hr : trPR p q s m = (trN s.toNat m p q ((pwN q.toNat p.toNat (p.toNat - 2) : Nat) : Int) (fun _ => (1 : Int)) (2 ^ s.toNat), 0) := if_pos h0
    rw [h0] at hf
    obtain ⟨n, P, Q, rfl, hd, hn8, rfl, rfl, a1, a2, a3, a4, a5, a6⟩ := flt_0 hm h0
    have hsp : spR P Q = ((P : Int), (Q : Int), ((pwN Q P (P - 2) : Nat) : Int), true) := if_pos a6
    rw [hsp] at hf
    replace hr : trPR P Q n m = (trN n m P Q ((pwN Q P (P - 2) : Nat) : Int) (fun _ => (1 : Int)) (2 ^ n), 0) := hr
    have hrl := pwN_lt (a := Q) a1 (P - 2)
    generalize hgr : pwN Q P (P - 2) = r at hf hr hrl
    have ht := s_diagP n m hd.toIsV P Q r (by omega) (by omega) (by omega) (fun u _ => ⟨by show (0 : Int) ≤ 1; omega, by show (1 : Int) < P; omega⟩)
    (repeat' (first | refine (hf).pure rfl ?_ | refine (ht).read [0] rfl ⟨rfl, trivial⟩ ?_ | refine Exists.intro (pcl (n : Int) m) (And.intro ⟨pcl_len hm, pcl_all hm⟩ ?_) | refine And.intro ⟨pcl_len hm, leR rfl, pcl_ones⟩ ?_ | refine Exists.intro (pcl (n : Int) m) (And.intro ⟨leR rfl, spl0 (leR rfl)⟩ ?_) | refine Exists.intro (spV P Q r) (And.intro ⟨rfl, rfl⟩ ?_) | refine Exists.intro (spV P Q r) (And.intro ⟨leR rfl, rfl⟩ ?_) | refine And.intro (neI rfl) ?_ | refine And.intro ⟨rfl, leR rfl, onesR rfl⟩ ?_ | refine And.intro ⟨rfl, leR rfl⟩ ?_ | refine draw_rule2 hfol (fun KK hKK => ?_) | refine hKK _ _ _ (by kernel_rfl) ?_ | refine region_rule (fun KK hKK => ?_) | refine hKK _ _ ?_ | refine And.intro (Eq.refl true) ?_ | refine Exists.intro _ (And.intro (wI (by omega)) ?_) | refine Exists.intro _ (And.intro (wU (by omega)) ?_) | refine Exists.intro _ (And.intro ⟨rfl, by omega⟩ ?_) | refine Exists.intro _ (And.intro rfl ?_) | refine And.intro rfl ?_ | refine And.intro ⟨rfl, rfl⟩ ?_ | ((refine And.intro (fun _ => ?_) (fun _ => ?_)) <;> try (exfalso; omega))))
    exact Exists.intro [] (And.intro (by rw [hr]; rfl) (And.intro trivial rfl))
  · have hr : trPR p q s m = (0, 1) := by unfold trPR; rw [if_neg (by rw [h0]; decide), h0]
    rw [h0] at hf
    generalize spR p q = R at hf
    (repeat' (first | refine (hf).pure rfl ?_ | refine Exists.intro (pcl s m) (And.intro ⟨pcl_len hm, pcl_all hm⟩ ?_) | refine And.intro ⟨pcl_len hm, leR rfl, pcl_ones⟩ ?_ | refine Exists.intro (pcl s m) (And.intro ⟨leR rfl, spl0 (leR rfl)⟩ ?_) | refine Exists.intro (spV R.1 R.2.1 R.2.2.1) (And.intro ⟨rfl, rfl⟩ ?_) | refine Exists.intro (spV R.1 R.2.1 R.2.2.1) (And.intro ⟨leR rfl, rfl⟩ ?_) | refine And.intro (neI rfl) ?_ | refine And.intro ⟨rfl, leR rfl, onesR rfl⟩ ?_ | refine And.intro ⟨rfl, leR rfl⟩ ?_ | refine draw_rule2 hfol (fun KK hKK => ?_) | refine hKK _ _ _ (by kernel_rfl) ?_ | refine region_rule (fun KK hKK => ?_) | refine hKK _ _ ?_ | refine And.intro (Eq.refl true) ?_ | refine Exists.intro _ (And.intro (wI (by omega)) ?_) | refine Exists.intro _ (And.intro (wU (by omega)) ?_) | refine Exists.intro _ (And.intro ⟨rfl, by omega⟩ ?_) | refine Exists.intro _ (And.intro rfl ?_) | refine And.intro rfl ?_ | refine And.intro ⟨rfl, rfl⟩ ?_ | ((refine And.intro (fun _ => ?_) (fun _ => ?_)) <;> try (exfalso; omega))))
    exact Exists.intro [] (And.intro (by rw [hr]; rfl) (And.intro trivial rfl))
  · have hr : trPR p q s m = (0, 2) := by unfold trPR; rw [if_neg (by rw [h0]; decide), h0]
    rw [h0] at hf
    generalize spR p q = R at hf
    (repeat' (first | refine (hf).pure rfl ?_ | refine Exists.intro (pcl s m) (And.intro ⟨pcl_len hm, pcl_all hm⟩ ?_) | refine And.intro ⟨pcl_len hm, leR rfl, pcl_ones⟩ ?_ | refine Exists.intro (pcl s m) (And.intro ⟨leR rfl, spl0 (leR rfl)⟩ ?_) | refine Exists.intro (spV R.1 R.2.1 R.2.2.1) (And.intro ⟨rfl, rfl⟩ ?_) | refine Exists.intro (spV R.1 R.2.1 R.2.2.1) (And.intro ⟨leR rfl, rfl⟩ ?_) | refine And.intro (neI rfl) ?_ | refine And.intro ⟨rfl, leR rfl, onesR rfl⟩ ?_ | refine And.intro ⟨rfl, leR rfl⟩ ?_ | refine draw_rule2 hfol (fun KK hKK => ?_) | refine hKK _ _ _ (by kernel_rfl) ?_ | refine region_rule (fun KK hKK => ?_) | refine hKK _ _ ?_ | refine And.intro (Eq.refl true) ?_ | refine Exists.intro _ (And.intro (wI (by omega)) ?_) | refine Exists.intro _ (And.intro (wU (by omega)) ?_) | refine Exists.intro _ (And.intro ⟨rfl, by omega⟩ ?_) | refine Exists.intro _ (And.intro rfl ?_) | refine And.intro rfl ?_ | refine And.intro ⟨rfl, rfl⟩ ?_ | ((refine And.intro (fun _ => ?_) (fun _ => ?_)) <;> try (exfalso; omega))))
    exact Exists.intro [] (And.intro (by rw [hr]; rfl) (And.intro trivial rfl))
theorem s_lawTrP (p : Int) (_ : -9223372036854775808 ≤ p ∧ p ≤ 9223372036854775807) (q : Int) (_ : -9223372036854775808 ≤ q ∧ q ≤ 9223372036854775807) (s : Int) (m : List Nat) (hm : m.length = 16) (hb : ∀ x ∈ m, x < 256) :
    Spec Try.prog n_l_FnExactPlainTrace [vi p, vi q, pv s m] [] (vb true) [] := by
  have h1 := s_sTrP p q s m hm hb
  have h2 := s_iTrP p q s m hm hb
  generalize trPR p q s m = R at h1 h2
  refine SpecW.of_EV hf_l_FnExactPlainTrace hc_l_FnExactPlainTrace rfl rfl rfl fun w0 B ρ0 _ => ?_
  (repeat' (first | refine (s_toD s m hm).pure rfl ?_ | refine (h1).pure rfl ?_ | refine (h2).pure rfl ?_ | refine Exists.intro (pcl s m) (And.intro ⟨pcl_len hm, pcl_all hm⟩ ?_) | refine And.intro ⟨pcl_len hm, leR rfl, pcl_ones⟩ ?_ | refine Exists.intro (pcl s m) (And.intro ⟨leR rfl, spl0 (leR rfl)⟩ ?_) | refine And.intro (fun _ => ?_) (fun h => absurd rfl h) | refine And.intro (neI rfl) ?_ | refine And.intro ⟨rfl, leR rfl, onesR rfl⟩ ?_ | refine And.intro ⟨rfl, leR rfl⟩ ?_ | refine draw_rule2 hfol (fun KK hKK => ?_) | refine hKK _ _ _ (by kernel_rfl) ?_ | refine region_rule (fun KK hKK => ?_) | refine hKK _ _ ?_ | refine And.intro (Eq.refl true) ?_ | refine Exists.intro _ (And.intro (wI (by omega)) ?_) | refine Exists.intro _ (And.intro (wU (by omega)) ?_) | refine Exists.intro _ (And.intro ⟨rfl, by omega⟩ ?_) | refine Exists.intro _ (And.intro rfl ?_) | refine And.intro rfl ?_ | refine And.intro ⟨rfl, rfl⟩ ?_ | ((refine And.intro (fun _ => ?_) (fun _ => ?_)) <;> try (exfalso; omega))))
  exact finP rfl

def trWR (p q s : Int) (m : List Nat) : Int × Int := if fltR p q s m 6 = 0 then (trN s.toNat m p q ((pwN q.toNat p.toNat (p.toNat - 2) : Nat) : Int) (wtW s.toNat p q ((pwN q.toNat p.toNat (p.toNat - 2) : Nat) : Int)) (2 ^ s.toNat), 0) else (0, fltR p q s m 6)
theorem s_sTrW (p q s : Int) (m : List Nat) (hm : m.length = 16) (hb : ∀ x ∈ m, x < 256) : Spec Try.prog n_s_WeightedTrace [vi p, vi q, pv s m] [] (iiV (trWR p q s m)) [] := by
  have hf := s_sflt p q s m hm hb 6
  refine SpecW.of_EV hf_s_WeightedTrace hc_s_WeightedTrace rfl rfl rfl fun w0 B ρ0 _ => ?_
  rcases flt_c (p := p) (q := q) (s := s) (m := m) (most := 6) with h0 | h0 | h0
  · have hr : trWR p q s m = (trN s.toNat m p q ((pwN q.toNat p.toNat (p.toNat - 2) : Nat) : Int) (wtW s.toNat p q ((pwN q.toNat p.toNat (p.toNat - 2) : Nat) : Int)) (2 ^ s.toNat), 0) := if_pos h0
    rw [h0] at hf
    obtain ⟨n, P, Q, rfl, hd, hn8, rfl, rfl, a1, a2, a3, a4, a5, a6⟩ := flt_0 hm h0
    have ht := s_trW n m hm hd.toIsV P Q a1 a2 a3 a4 a5
    (repeat' (first | refine (hf).pure rfl ?_ | refine (ht).pure rfl ?_ | refine Exists.intro (pcl (n : Int) m) (And.intro ⟨pcl_len hm, pcl_all hm⟩ ?_) | refine And.intro ⟨pcl_len hm, leR rfl, pcl_ones⟩ ?_ | refine Exists.intro (pcl (n : Int) m) (And.intro ⟨leR rfl, spl0 (leR rfl)⟩ ?_) | refine And.intro (neI rfl) ?_ | refine And.intro ⟨rfl, leR rfl, onesR rfl⟩ ?_ | refine And.intro ⟨rfl, leR rfl⟩ ?_ | refine draw_rule2 hfol (fun KK hKK => ?_) | refine hKK _ _ _ (by kernel_rfl) ?_ | refine region_rule (fun KK hKK => ?_) | refine hKK _ _ ?_ | refine And.intro (Eq.refl true) ?_ | refine Exists.intro _ (And.intro (wI (by omega)) ?_) | refine Exists.intro _ (And.intro (wU (by omega)) ?_) | refine Exists.intro _ (And.intro ⟨rfl, by omega⟩ ?_) | refine Exists.intro _ (And.intro rfl ?_) | refine And.intro rfl ?_ | refine And.intro ⟨rfl, rfl⟩ ?_ | ((refine And.intro (fun _ => ?_) (fun _ => ?_)) <;> try (exfalso; omega))))
    exact Exists.intro [] (And.intro (by rw [hr]; rfl) (And.intro trivial rfl))
  · have hr : trWR p q s m = (0, 1) := by unfold trWR; rw [if_neg (by rw [h0]; decide), h0]
    rw [h0] at hf
    (repeat' (first | refine (hf).pure rfl ?_ | refine Exists.intro (pcl s m) (And.intro ⟨pcl_len hm, pcl_all hm⟩ ?_) | refine And.intro ⟨pcl_len hm, leR rfl, pcl_ones⟩ ?_ | refine Exists.intro (pcl s m) (And.intro ⟨leR rfl, spl0 (leR rfl)⟩ ?_) | refine And.intro (neI rfl) ?_ | refine And.intro ⟨rfl, leR rfl, onesR rfl⟩ ?_ | refine And.intro ⟨rfl, leR rfl⟩ ?_ | refine draw_rule2 hfol (fun KK hKK => ?_) | refine hKK _ _ _ (by kernel_rfl) ?_ | refine region_rule (fun KK hKK => ?_) | refine hKK _ _ ?_ | refine And.intro (Eq.refl true) ?_ | refine Exists.intro _ (And.intro (wI (by omega)) ?_) | refine Exists.intro _ (And.intro (wU (by omega)) ?_) | refine Exists.intro _ (And.intro ⟨rfl, by omega⟩ ?_) | refine Exists.intro _ (And.intro rfl ?_) | refine And.intro rfl ?_ | refine And.intro ⟨rfl, rfl⟩ ?_ | ((refine And.intro (fun _ => ?_) (fun _ => ?_)) <;> try (exfalso; omega))))
    exact Exists.intro [] (And.intro (by rw [hr]; rfl) (And.intro trivial rfl))
  · have hr : trWR p q s m = (0, 2) := by unfold trWR; rw [if_neg (by rw [h0]; decide), h0]
    rw [h0] at hf
    (repeat' (first | refine (hf).pure rfl ?_ | refine Exists.intro (pcl s m) (And.intro ⟨pcl_len hm, pcl_all hm⟩ ?_) | refine And.intro ⟨pcl_len hm, leR rfl, pcl_ones⟩ ?_ | refine Exists.intro (pcl s m) (And.intro ⟨leR rfl, spl0 (leR rfl)⟩ ?_) | refine And.intro (neI rfl) ?_ | refine And.intro ⟨rfl, leR rfl, onesR rfl⟩ ?_ | refine And.intro ⟨rfl, leR rfl⟩ ?_ | refine draw_rule2 hfol (fun KK hKK => ?_) | refine hKK _ _ _ (by kernel_rfl) ?_ | refine region_rule (fun KK hKK => ?_) | refine hKK _ _ ?_ | refine And.intro (Eq.refl true) ?_ | refine Exists.intro _ (And.intro (wI (by omega)) ?_) | refine Exists.intro _ (And.intro (wU (by omega)) ?_) | refine Exists.intro _ (And.intro ⟨rfl, by omega⟩ ?_) | refine Exists.intro _ (And.intro rfl ?_) | refine And.intro rfl ?_ | refine And.intro ⟨rfl, rfl⟩ ?_ | ((refine And.intro (fun _ => ?_) (fun _ => ?_)) <;> try (exfalso; omega))))
    exact Exists.intro [] (And.intro (by rw [hr]; rfl) (And.intro trivial rfl))
theorem s_iTrW (p q s : Int) (m : List Nat) (hm : m.length = 16) (hb : ∀ x ∈ m, x < 256) : Spec Try.prog n_i_WeightedTrace [vi p, vi q, pv s m] [] (iiV (trWR p q s m)) [] := by
  have hf := s_iflt p q s m hm hb 6
  refine SpecW.of_EV hf_i_WeightedTrace hc_i_WeightedTrace rfl rfl rfl fun w0 B ρ0 _ => ?_
  rcases flt_c (p := p) (q := q) (s := s) (m := m) (most := 6) with h0 | h0 | h0
  · have hr : trWR p q s m = (trN s.toNat m p q ((pwN q.toNat p.toNat (p.toNat - 2) : Nat) : Int) (wtW s.toNat p q ((pwN q.toNat p.toNat (p.toNat - 2) : Nat) : Int)) (2 ^ s.toNat), 0) := if_pos h0
    rw [h0] at hf
    obtain ⟨n, P, Q, rfl, hd, hn8, rfl, rfl, a1, a2, a3, a4, a5, a6⟩ := flt_0 hm h0
    have hsp : spR P Q = ((P : Int), (Q : Int), ((pwN Q P (P - 2) : Nat) : Int), true) := if_pos a6
    rw [hsp] at hf
    replace hr : trWR P Q n m = (trN n m P Q ((pwN Q P (P - 2) : Nat) : Int) (wtW n P Q ((pwN Q P (P - 2) : Nat) : Int)) (2 ^ n), 0) := hr
    have hrl := pwN_lt (a := Q) a1 (P - 2)
    generalize hgr : pwN Q P (P - 2) = r at hf hr hrl
    have ht := s_diagW n m hd.toIsV P Q r (by omega) (by omega) (by omega) (fun u _ => wtW_bd (by omega))
    (repeat' (first | refine (hf).pure rfl ?_ | refine (ht).read [1, 0, 2] rfl ⟨rfl, rfl, rfl, trivial⟩ ?_ | refine Exists.intro (pcl (n : Int) m) (And.intro ⟨pcl_len hm, pcl_all hm⟩ ?_) | refine And.intro ⟨pcl_len hm, leR rfl, pcl_ones⟩ ?_ | refine Exists.intro (pcl (n : Int) m) (And.intro ⟨leR rfl, spl0 (leR rfl)⟩ ?_) | refine Exists.intro (spV P Q r) (And.intro ⟨rfl, rfl⟩ ?_) | refine Exists.intro (spV P Q r) (And.intro ⟨leR rfl, rfl⟩ ?_) | refine And.intro (neI rfl) ?_ | refine And.intro ⟨rfl, leR rfl, onesR rfl⟩ ?_ | refine And.intro ⟨rfl, leR rfl⟩ ?_ | refine draw_rule2 hfol (fun KK hKK => ?_) | refine hKK _ _ _ (by kernel_rfl) ?_ | refine region_rule (fun KK hKK => ?_) | refine hKK _ _ ?_ | refine And.intro (Eq.refl true) ?_ | refine Exists.intro _ (And.intro (wI (by omega)) ?_) | refine Exists.intro _ (And.intro (wU (by omega)) ?_) | refine Exists.intro _ (And.intro ⟨rfl, by omega⟩ ?_) | refine Exists.intro _ (And.intro rfl ?_) | refine And.intro rfl ?_ | refine And.intro ⟨rfl, rfl⟩ ?_ | ((refine And.intro (fun _ => ?_) (fun _ => ?_)) <;> try (exfalso; omega))))
    exact Exists.intro [] (And.intro (by rw [hr]; rfl) (And.intro trivial rfl))
  · have hr : trWR p q s m = (0, 1) := by unfold trWR; rw [if_neg (by rw [h0]; decide), h0]
    rw [h0] at hf
    generalize spR p q = R at hf
    (repeat' (first | refine (hf).pure rfl ?_ | refine Exists.intro (pcl s m) (And.intro ⟨pcl_len hm, pcl_all hm⟩ ?_) | refine And.intro ⟨pcl_len hm, leR rfl, pcl_ones⟩ ?_ | refine Exists.intro (pcl s m) (And.intro ⟨leR rfl, spl0 (leR rfl)⟩ ?_) | refine Exists.intro (spV R.1 R.2.1 R.2.2.1) (And.intro ⟨rfl, rfl⟩ ?_) | refine Exists.intro (spV R.1 R.2.1 R.2.2.1) (And.intro ⟨leR rfl, rfl⟩ ?_) | refine And.intro (neI rfl) ?_ | refine And.intro ⟨rfl, leR rfl, onesR rfl⟩ ?_ | refine And.intro ⟨rfl, leR rfl⟩ ?_ | refine draw_rule2 hfol (fun KK hKK => ?_) | refine hKK _ _ _ (by kernel_rfl) ?_ | refine region_rule (fun KK hKK => ?_) | refine hKK _ _ ?_ | refine And.intro (Eq.refl true) ?_ | refine Exists.intro _ (And.intro (wI (by omega)) ?_) | refine Exists.intro _ (And.intro (wU (by omega)) ?_) | refine Exists.intro _ (And.intro ⟨rfl, by omega⟩ ?_) | refine Exists.intro _ (And.intro rfl ?_) | refine And.intro rfl ?_ | refine And.intro ⟨rfl, rfl⟩ ?_ | ((refine And.intro (fun _ => ?_) (fun _ => ?_)) <;> try (exfalso; omega))))
    exact Exists.intro [] (And.intro (by rw [hr]; rfl) (And.intro trivial rfl))
  · have hr : trWR p q s m = (0, 2) := by unfold trWR; rw [if_neg (by rw [h0]; decide), h0]
    rw [h0] at hf
    generalize spR p q = R at hf
    (repeat' (first | refine (hf).pure rfl ?_ | refine Exists.intro (pcl s m) (And.intro ⟨pcl_len hm, pcl_all hm⟩ ?_) | refine And.intro ⟨pcl_len hm, leR rfl, pcl_ones⟩ ?_ | refine Exists.intro (pcl s m) (And.intro ⟨leR rfl, spl0 (leR rfl)⟩ ?_) | refine Exists.intro (spV R.1 R.2.1 R.2.2.1) (And.intro ⟨rfl, rfl⟩ ?_) | refine Exists.intro (spV R.1 R.2.1 R.2.2.1) (And.intro ⟨leR rfl, rfl⟩ ?_) | refine And.intro (neI rfl) ?_ | refine And.intro ⟨rfl, leR rfl, onesR rfl⟩ ?_ | refine And.intro ⟨rfl, leR rfl⟩ ?_ | refine draw_rule2 hfol (fun KK hKK => ?_) | refine hKK _ _ _ (by kernel_rfl) ?_ | refine region_rule (fun KK hKK => ?_) | refine hKK _ _ ?_ | refine And.intro (Eq.refl true) ?_ | refine Exists.intro _ (And.intro (wI (by omega)) ?_) | refine Exists.intro _ (And.intro (wU (by omega)) ?_) | refine Exists.intro _ (And.intro ⟨rfl, by omega⟩ ?_) | refine Exists.intro _ (And.intro rfl ?_) | refine And.intro rfl ?_ | refine And.intro ⟨rfl, rfl⟩ ?_ | ((refine And.intro (fun _ => ?_) (fun _ => ?_)) <;> try (exfalso; omega))))
    exact Exists.intro [] (And.intro (by rw [hr]; rfl) (And.intro trivial rfl))
theorem s_lawTrW (p : Int) (_ : -9223372036854775808 ≤ p ∧ p ≤ 9223372036854775807) (q : Int) (_ : -9223372036854775808 ≤ q ∧ q ≤ 9223372036854775807) (s : Int) (m : List Nat) (hm : m.length = 16) (hb : ∀ x ∈ m, x < 256) :
    Spec Try.prog n_l_FnExactWeightedTrace [vi p, vi q, pv s m] [] (vb true) [] := by
  have h1 := s_sTrW p q s m hm hb
  have h2 := s_iTrW p q s m hm hb
  generalize trWR p q s m = R at h1 h2
  refine SpecW.of_EV hf_l_FnExactWeightedTrace hc_l_FnExactWeightedTrace rfl rfl rfl fun w0 B ρ0 _ => ?_
  (repeat' (first | refine (s_toD s m hm).pure rfl ?_ | refine (h1).pure rfl ?_ | refine (h2).pure rfl ?_ | refine Exists.intro (pcl s m) (And.intro ⟨pcl_len hm, pcl_all hm⟩ ?_) | refine And.intro ⟨pcl_len hm, leR rfl, pcl_ones⟩ ?_ | refine Exists.intro (pcl s m) (And.intro ⟨leR rfl, spl0 (leR rfl)⟩ ?_) | refine And.intro (fun _ => ?_) (fun h => absurd rfl h) | refine And.intro (neI rfl) ?_ | refine And.intro ⟨rfl, leR rfl, onesR rfl⟩ ?_ | refine And.intro ⟨rfl, leR rfl⟩ ?_ | refine draw_rule2 hfol (fun KK hKK => ?_) | refine hKK _ _ _ (by kernel_rfl) ?_ | refine region_rule (fun KK hKK => ?_) | refine hKK _ _ ?_ | refine And.intro (Eq.refl true) ?_ | refine Exists.intro _ (And.intro (wI (by omega)) ?_) | refine Exists.intro _ (And.intro (wU (by omega)) ?_) | refine Exists.intro _ (And.intro ⟨rfl, by omega⟩ ?_) | refine Exists.intro _ (And.intro rfl ?_) | refine And.intro rfl ?_ | refine And.intro ⟨rfl, rfl⟩ ?_ | ((refine And.intro (fun _ => ?_) (fun _ => ?_)) <;> try (exfalso; omega))))
  exact finP rfl
end Go.Proofs.Ytimigbgpldjefaa.VE
