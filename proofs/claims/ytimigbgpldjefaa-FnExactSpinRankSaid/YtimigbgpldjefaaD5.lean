/- Contracts of functions of the given program, for all arguments that the contract names; see each theorem. -/
import Derived.Test.YtimigbgpldjefaaD4
set_option linter.all false

namespace Go.Proofs.Ytimigbgpldjefaa.VE
open Go
set_option maxHeartbeats 800000
set_option maxRecDepth 100000

/-! the errors, and SpinEntry -/
def fltR (p q s : Int) (m : List Nat) (most : Int) : Int := if isDi s m = true then (if nmB p q = true ∧ s ≤ most then 0 else 2) else 1
theorem s_sflt (p q s : Int) (m : List Nat) (hm : m.length = 16) (hb : ∀ x ∈ m, x < 256) (most : Int) : Spec Try.prog n_s_l10Code [vi p, vi q, pv s m, vi most] [] (vi (fltR p q s m most)) [] := by
  have h1 := s_sIs' s m hm hb
  have h2 := s_snum p q
  refine SpecW.of_EV hf_s_l10Code hc_s_l10Code rfl rfl rfl fun w0 B ρ0 _ => ?_
  cases hv : isDi s m with
  | false =>
    rw [hv] at h1
    have hr : fltR p q s m most = 1 := by unfold fltR; rw [hv]; rfl
    (repeat' (first | refine (h1).pure rfl ?_ | refine Exists.intro (pcl s m) (And.intro ⟨pcl_len hm, pcl_all hm⟩ ?_) | refine And.intro ⟨pcl_len hm, leR rfl, pcl_ones⟩ ?_ | refine Exists.intro (pcl s m) (And.intro ⟨leR rfl, spl0 (leR rfl)⟩ ?_) | refine And.intro (neI rfl) ?_ | refine And.intro ⟨rfl, leR rfl, onesR rfl⟩ ?_ | refine And.intro ⟨rfl, leR rfl⟩ ?_ | refine draw_rule2 hfol (fun KK hKK => ?_) | refine hKK _ _ _ (by kernel_rfl) ?_ | refine region_rule (fun KK hKK => ?_) | refine hKK _ _ ?_ | refine And.intro (Eq.refl true) ?_ | refine Exists.intro _ (And.intro (wI (by omega)) ?_) | refine Exists.intro _ (And.intro (wU (by omega)) ?_) | refine Exists.intro _ (And.intro ⟨rfl, by omega⟩ ?_) | refine Exists.intro _ (And.intro rfl ?_) | refine And.intro rfl ?_ | refine And.intro ⟨rfl, rfl⟩ ?_ | ((refine And.intro (fun _ => ?_) (fun _ => ?_)) <;> try (exfalso; omega))))
    exact Exists.intro [] (And.intro (by rw [hr]; rfl) (And.intro trivial rfl))
  | true =>
    rw [hv] at h1
    cases hn : nmB p q with
    | false =>
      rw [hn] at h2
      have hr : fltR p q s m most = 2 := by unfold fltR; rw [if_pos hv, if_neg (by rw [hn]; simp)]
      (repeat' (first | refine (h1).pure rfl ?_ | refine (h2).pure rfl ?_ | refine Exists.intro (pcl s m) (And.intro ⟨pcl_len hm, pcl_all hm⟩ ?_) | refine And.intro ⟨pcl_len hm, leR rfl, pcl_ones⟩ ?_ | refine Exists.intro (pcl s m) (And.intro ⟨leR rfl, spl0 (leR rfl)⟩ ?_) | refine And.intro (neI rfl) ?_ | refine And.intro ⟨rfl, leR rfl, onesR rfl⟩ ?_ | refine And.intro ⟨rfl, leR rfl⟩ ?_ | refine draw_rule2 hfol (fun KK hKK => ?_) | refine hKK _ _ _ (by kernel_rfl) ?_ | refine region_rule (fun KK hKK => ?_) | refine hKK _ _ ?_ | refine And.intro (Eq.refl true) ?_ | refine Exists.intro _ (And.intro (wI (by omega)) ?_) | refine Exists.intro _ (And.intro (wU (by omega)) ?_) | refine Exists.intro _ (And.intro ⟨rfl, by omega⟩ ?_) | refine Exists.intro _ (And.intro rfl ?_) | refine And.intro rfl ?_ | refine And.intro ⟨rfl, rfl⟩ ?_ | ((refine And.intro (fun _ => ?_) (fun _ => ?_)) <;> try (exfalso; omega))))
      exact Exists.intro [] (And.intro (by rw [hr]; rfl) (And.intro trivial rfl))
    | true =>
      rw [hn] at h2
      by_cases hs : s ≤ most
      · have hr : fltR p q s m most = 0 := by unfold fltR; rw [if_pos hv, if_pos ⟨hn, hs⟩]
        (repeat' (first | refine (h1).pure rfl ?_ | refine (h2).pure rfl ?_ | refine Exists.intro (pcl s m) (And.intro ⟨pcl_len hm, pcl_all hm⟩ ?_) | refine And.intro ⟨pcl_len hm, leR rfl, pcl_ones⟩ ?_ | refine Exists.intro (pcl s m) (And.intro ⟨leR rfl, spl0 (leR rfl)⟩ ?_) | refine And.intro (neI rfl) ?_ | refine And.intro ⟨rfl, leR rfl, onesR rfl⟩ ?_ | refine And.intro ⟨rfl, leR rfl⟩ ?_ | refine draw_rule2 hfol (fun KK hKK => ?_) | refine hKK _ _ _ (by kernel_rfl) ?_ | refine region_rule (fun KK hKK => ?_) | refine hKK _ _ ?_ | refine And.intro (Eq.refl true) ?_ | refine Exists.intro _ (And.intro (wI (by omega)) ?_) | refine Exists.intro _ (And.intro (wU (by omega)) ?_) | refine Exists.intro _ (And.intro ⟨rfl, by omega⟩ ?_) | refine Exists.intro _ (And.intro rfl ?_) | refine And.intro rfl ?_ | refine And.intro ⟨rfl, rfl⟩ ?_ | ((refine And.intro (fun _ => ?_) (fun _ => ?_)) <;> try (exfalso; omega))))
        exact Exists.intro [] (And.intro (by rw [hr]; rfl) (And.intro trivial rfl))
      · have hr : fltR p q s m most = 2 := by unfold fltR; rw [if_pos hv, if_neg (fun h => hs h.2)]
        (repeat' (first | refine (h1).pure rfl ?_ | refine (h2).pure rfl ?_ | refine Exists.intro (pcl s m) (And.intro ⟨pcl_len hm, pcl_all hm⟩ ?_) | refine And.intro ⟨pcl_len hm, leR rfl, pcl_ones⟩ ?_ | refine Exists.intro (pcl s m) (And.intro ⟨leR rfl, spl0 (leR rfl)⟩ ?_) | refine And.intro (neI rfl) ?_ | refine And.intro ⟨rfl, leR rfl, onesR rfl⟩ ?_ | refine And.intro ⟨rfl, leR rfl⟩ ?_ | refine draw_rule2 hfol (fun KK hKK => ?_) | refine hKK _ _ _ (by kernel_rfl) ?_ | refine region_rule (fun KK hKK => ?_) | refine hKK _ _ ?_ | refine And.intro (Eq.refl true) ?_ | refine Exists.intro _ (And.intro (wI (by omega)) ?_) | refine Exists.intro _ (And.intro (wU (by omega)) ?_) | refine Exists.intro _ (And.intro ⟨rfl, by omega⟩ ?_) | refine Exists.intro _ (And.intro rfl ?_) | refine And.intro rfl ?_ | refine And.intro ⟨rfl, rfl⟩ ?_ | ((refine And.intro (fun _ => ?_) (fun _ => ?_)) <;> try (exfalso; omega))))
        exact Exists.intro [] (And.intro (by rw [hr]; rfl) (And.intro trivial rfl))
abbrev spO (p : Int × Int × Int × Bool) : V := spA p.1 p.2.1 p.2.2.1
theorem s_iflt (p q s : Int) (m : List Nat) (hm : m.length = 16) (hb : ∀ x ∈ m, x < 256) (most : Int) : Spec Try.prog n_i_spinsFault [vi p, vi q, pv s m, vi most] [] (.tup [spO (spR p q), vi (fltR p q s m most)]) [] := by
  have h2 := s_spinsOf p q
  have hq := s_invalid1D s m hm hb
  have hok : (spR p q).2.2.2 = nmB p q := by unfold spR; cases nmB p q <;> rfl
  rw [hok] at h2
  generalize spR p q = R at h2
  refine SpecW.of_EV hf_i_spinsFault hc_i_spinsFault rfl rfl rfl fun w0 B ρ0 _ => ?_
  cases hv : isDi s m with
  | false =>
    rw [hv] at hq
    simp only [Bool.not_false, Bool.not_true, cond_true, cond_false] at hq
    have hr : fltR p q s m most = 1 := by unfold fltR; rw [hv]; rfl
    (repeat' (first | refine (h2).pure rfl ?_ | refine (hq).read [3] rfl ⟨rfl, trivial⟩ ?_ | refine Exists.intro (pcl s m) (And.intro ⟨pcl_len hm, pcl_all hm⟩ ?_) | refine And.intro ⟨pcl_len hm, leR rfl, pcl_ones⟩ ?_ | refine Exists.intro (pcl s m) (And.intro ⟨leR rfl, spl0 (leR rfl)⟩ ?_) | refine And.intro ⟨pcl_len hm, mkL rfl⟩ ?_ | refine Exists.intro (rowP [(s, m)]) (And.intro (row1 (N := 17) (p := (s, m)) (mkL' rfl)) ?_) | refine Exists.intro (spV R.1 R.2.1 R.2.2.1) (And.intro ⟨rfl, rfl⟩ ?_) | refine Exists.intro (spV R.1 R.2.1 R.2.2.1) (And.intro ⟨leR rfl, rfl⟩ ?_) | refine And.intro (neI rfl) ?_ | refine And.intro ⟨rfl, leR rfl, onesR rfl⟩ ?_ | refine And.intro ⟨rfl, leR rfl⟩ ?_ | refine draw_rule2 hfol (fun KK hKK => ?_) | refine hKK _ _ _ (by kernel_rfl) ?_ | refine region_rule (fun KK hKK => ?_) | refine hKK _ _ ?_ | refine And.intro (Eq.refl true) ?_ | refine Exists.intro _ (And.intro (wI (by omega)) ?_) | refine Exists.intro _ (And.intro (wU (by omega)) ?_) | refine Exists.intro _ (And.intro ⟨rfl, by omega⟩ ?_) | refine Exists.intro _ (And.intro rfl ?_) | refine And.intro rfl ?_ | refine And.intro ⟨rfl, rfl⟩ ?_ | ((refine And.intro (fun _ => ?_) (fun _ => ?_)) <;> try (exfalso; omega))))
    exact Exists.intro [] (And.intro (by rw [hr]; rfl) (And.intro trivial rfl))
  | true =>
    rw [hv] at hq
    simp only [Bool.not_false, Bool.not_true, cond_true, cond_false] at hq
    cases hn : nmB p q with
    | false =>
      rw [hn] at h2
      have hr : fltR p q s m most = 2 := by unfold fltR; rw [if_pos hv, if_neg (by rw [hn]; simp)]
      (repeat' (first | refine (h2).pure rfl ?_ | refine (hq).read [3] rfl ⟨rfl, trivial⟩ ?_ | refine Exists.intro (pcl s m) (And.intro ⟨pcl_len hm, pcl_all hm⟩ ?_) | refine And.intro ⟨pcl_len hm, leR rfl, pcl_ones⟩ ?_ | refine Exists.intro (pcl s m) (And.intro ⟨leR rfl, spl0 (leR rfl)⟩ ?_) | refine And.intro ⟨pcl_len hm, mkL rfl⟩ ?_ | refine Exists.intro (rowP [(s, m)]) (And.intro (row1 (N := 17) (p := (s, m)) (mkL' rfl)) ?_) | refine Exists.intro (spV R.1 R.2.1 R.2.2.1) (And.intro ⟨rfl, rfl⟩ ?_) | refine Exists.intro (spV R.1 R.2.1 R.2.2.1) (And.intro ⟨leR rfl, rfl⟩ ?_) | refine And.intro (neI rfl) ?_ | refine And.intro ⟨rfl, leR rfl, onesR rfl⟩ ?_ | refine And.intro ⟨rfl, leR rfl⟩ ?_ | refine draw_rule2 hfol (fun KK hKK => ?_) | refine hKK _ _ _ (by kernel_rfl) ?_ | refine region_rule (fun KK hKK => ?_) | refine hKK _ _ ?_ | refine And.intro (Eq.refl true) ?_ | refine Exists.intro _ (And.intro (wI (by omega)) ?_) | refine Exists.intro _ (And.intro (wU (by omega)) ?_) | refine Exists.intro _ (And.intro ⟨rfl, by omega⟩ ?_) | refine Exists.intro _ (And.intro rfl ?_) | refine And.intro rfl ?_ | refine And.intro ⟨rfl, rfl⟩ ?_ | ((refine And.intro (fun _ => ?_) (fun _ => ?_)) <;> try (exfalso; omega))))
      exact Exists.intro [] (And.intro (by rw [hr]; rfl) (And.intro trivial rfl))
    | true =>
      rw [hn] at h2
      by_cases hs : s ≤ most
      · have hr : fltR p q s m most = 0 := by unfold fltR; rw [if_pos hv, if_pos ⟨hn, hs⟩]
        (repeat' (first | refine (h2).pure rfl ?_ | refine (hq).read [3] rfl ⟨rfl, trivial⟩ ?_ | refine Exists.intro (pcl s m) (And.intro ⟨pcl_len hm, pcl_all hm⟩ ?_) | refine And.intro ⟨pcl_len hm, leR rfl, pcl_ones⟩ ?_ | refine Exists.intro (pcl s m) (And.intro ⟨leR rfl, spl0 (leR rfl)⟩ ?_) | refine And.intro ⟨pcl_len hm, mkL rfl⟩ ?_ | refine Exists.intro (rowP [(s, m)]) (And.intro (row1 (N := 17) (p := (s, m)) (mkL' rfl)) ?_) | refine Exists.intro (spV R.1 R.2.1 R.2.2.1) (And.intro ⟨rfl, rfl⟩ ?_) | refine Exists.intro (spV R.1 R.2.1 R.2.2.1) (And.intro ⟨leR rfl, rfl⟩ ?_) | refine And.intro (neI rfl) ?_ | refine And.intro ⟨rfl, leR rfl, onesR rfl⟩ ?_ | refine And.intro ⟨rfl, leR rfl⟩ ?_ | refine draw_rule2 hfol (fun KK hKK => ?_) | refine hKK _ _ _ (by kernel_rfl) ?_ | refine region_rule (fun KK hKK => ?_) | refine hKK _ _ ?_ | refine And.intro (Eq.refl true) ?_ | refine Exists.intro _ (And.intro (wI (by omega)) ?_) | refine Exists.intro _ (And.intro (wU (by omega)) ?_) | refine Exists.intro _ (And.intro ⟨rfl, by omega⟩ ?_) | refine Exists.intro _ (And.intro rfl ?_) | refine And.intro rfl ?_ | refine And.intro ⟨rfl, rfl⟩ ?_ | ((refine And.intro (fun _ => ?_) (fun _ => ?_)) <;> try (exfalso; omega))))
        exact Exists.intro [] (And.intro (by rw [hr]; rfl) (And.intro trivial rfl))
      · have hr : fltR p q s m most = 2 := by unfold fltR; rw [if_pos hv, if_neg (fun h => hs h.2)]
        (repeat' (first | refine (h2).pure rfl ?_ | refine (hq).read [3] rfl ⟨rfl, trivial⟩ ?_ | refine Exists.intro (pcl s m) (And.intro ⟨pcl_len hm, pcl_all hm⟩ ?_) | refine And.intro ⟨pcl_len hm, leR rfl, pcl_ones⟩ ?_ | refine Exists.intro (pcl s m) (And.intro ⟨leR rfl, spl0 (leR rfl)⟩ ?_) | refine And.intro ⟨pcl_len hm, mkL rfl⟩ ?_ | refine Exists.intro (rowP [(s, m)]) (And.intro (row1 (N := 17) (p := (s, m)) (mkL' rfl)) ?_) | refine Exists.intro (spV R.1 R.2.1 R.2.2.1) (And.intro ⟨rfl, rfl⟩ ?_) | refine Exists.intro (spV R.1 R.2.1 R.2.2.1) (And.intro ⟨leR rfl, rfl⟩ ?_) | refine And.intro (neI rfl) ?_ | refine And.intro ⟨rfl, leR rfl, onesR rfl⟩ ?_ | refine And.intro ⟨rfl, leR rfl⟩ ?_ | refine draw_rule2 hfol (fun KK hKK => ?_) | refine hKK _ _ _ (by kernel_rfl) ?_ | refine region_rule (fun KK hKK => ?_) | refine hKK _ _ ?_ | refine And.intro (Eq.refl true) ?_ | refine Exists.intro _ (And.intro (wI (by omega)) ?_) | refine Exists.intro _ (And.intro (wU (by omega)) ?_) | refine Exists.intro _ (And.intro ⟨rfl, by omega⟩ ?_) | refine Exists.intro _ (And.intro rfl ?_) | refine And.intro rfl ?_ | refine And.intro ⟨rfl, rfl⟩ ?_ | ((refine And.intro (fun _ => ?_) (fun _ => ?_)) <;> try (exfalso; omega))))
        exact Exists.intro [] (And.intro (by rw [hr]; rfl) (And.intro trivial rfl))
theorem flt_0 {p q s : Int} {m : List Nat} {most : Int} (hm : m.length = 16) (h : fltR p q s m most = 0) : ∃ n P Q : Nat, s = n ∧ IsD n m ∧ (n : Int) ≤ most ∧ p = P ∧ q = Q ∧ 2 ≤ P ∧ P ≤ 97 ∧ prB P = true ∧ 1 ≤ Q ∧ Q < P ∧ nmB p q = true := by
  unfold fltR at h
  split at h
  · rename_i h1
    split at h
    · rename_i h2
      obtain ⟨n, rfl, hd⟩ := isDi_elim hm h1
      obtain ⟨P, Q, rfl, rfl, a, b, c, d, e⟩ := nmB_elim h2.1
      exact ⟨n, P, Q, rfl, hd, h2.2, rfl, rfl, a, b, c, d, e, h2.1⟩
    · cases h
  · cases h
theorem flt_c {p q s : Int} {m : List Nat} {most : Int} : fltR p q s m most = 0 ∨ fltR p q s m most = 1 ∨ fltR p q s m most = 2 := by
  unfold fltR; split
  · split
    · exact .inl rfl
    · exact .inr (.inr rfl)
  · exact .inr (.inl rfl)
/-- Is it a word of n letters? -/
def wdU (n : Nat) (u : Int) : Bool := decide (0 ≤ u ∧ u ≤ (2 ^ n : Nat) - 1)
def seR (p q s : Int) (m : List Nat) (u v : Int) : Int × Int :=
  if fltR p q s m 8 = 0 then (if (wdU s.toNat u && wdU s.toNat v) = true then (ent s.toNat m p q ((pwN q.toNat p.toNat (p.toNat - 2) : Nat) : Int) u.toNat v.toNat, 0) else (0, 2)) else (0, fltR p q s m 8)
theorem two_pow8 {n : Nat} (h : n ≤ 8) : 1 ≤ 2 ^ n ∧ 2 ^ n ≤ 256 := ⟨Nat.pow_pos (by omega), Nat.pow_le_pow_right (by omega) h⟩
theorem s_sSE (p q s : Int) (m : List Nat) (hm : m.length = 16) (hb : ∀ x ∈ m, x < 256) (u v : Int) : Spec Try.prog n_s_SpinEntry [vi p, vi q, pv s m, vi u, vi v] [] (iiV (seR p q s m u v)) [] := by
  have hfol : Try.prog.follows .mixedOrders = true := rfl
  have hf := s_sflt p q s m hm hb 8
  obtain ⟨e, he8, hmx, hmn⟩ : ∃ e : Nat, e ≤ 8 ∧ (if (0 : Int) > s then (0 : Int) else s) = max s 0 ∧ (if (8 : Int) < max s 0 then (8 : Int) else max s 0) = (e : Int) :=
    ⟨(min (max s 0) 8).toNat, by omega, by split <;> omega, by split <;> omega⟩
  have e1 := shlN e (by omega)
  have h2 := two_pow8 he8
  have e0 : IntKind.u64.wrap (e : Int) = (e : Int) := wU64 (by omega)
  have e2 : IntKind.i64.wrap (((2 ^ e : Nat) : Int) - 1) = ((2 ^ e : Nat) : Int) - 1 := wI (by omega)
  refine SpecW.of_EV hf_s_SpinEntry hc_s_SpinEntry rfl rfl rfl fun w0 B ρ0 _ => ?_
  rcases flt_c (p := p) (q := q) (s := s) (m := m) (most := 8) with h0 | h0 | h0
  · rw [h0] at hf
    obtain ⟨n, P, Q, rfl, hd, hn8, rfl, rfl, a1, a2, a3, a4, a5, a6⟩ := flt_0 hm h0
    have hen : e = n := by
      have := hd.n8
      have : max (n : Int) 0 = n := by omega
      rw [this] at hmn
      split at hmn <;> omega
    subst hen
    have hr : seR P Q e m u v = if (wdU e u && wdU e v) = true then (ent e m P Q ((pwN Q P (P - 2) : Nat) : Int) u.toNat v.toNat, 0) else (0, 2) := by
      unfold seR; rw [if_pos h0]; rfl
    have i1 := s_in u 0 (((2 ^ e : Nat) : Int) - 1)
    have i2 := s_in v 0 (((2 ^ e : Nat) : Int) - 1)
    have hiv := s_sinv P Q a1 a2 a5
    rw [inv_eq a2 a3 a4 a5] at hiv
    cases hu : wdU e u with
    | false =>
      rw [hu] at hr
      rw [show decide (0 ≤ u ∧ u ≤ ((2 ^ e : Nat) : Int) - 1) = false from hu] at i1
      (repeat' (first | refine (hf).pure rfl ?_ | refine (i1).pure rfl ?_ | refine (i2).pure rfl ?_ | refine Exists.intro _ (And.intro hmx ?_) | refine Exists.intro _ (And.intro hmn ?_) | refine Exists.intro _ (And.intro e0 ?_) | refine And.intro (by omega) (Exists.intro _ (And.intro e1 ?_)) | refine Exists.intro _ (And.intro e2 ?_) | refine Exists.intro (pcl (e : Int) m) (And.intro ⟨pcl_len hm, pcl_all hm⟩ ?_) | refine And.intro ⟨pcl_len hm, leR rfl, pcl_ones⟩ ?_ | refine Exists.intro (pcl (e : Int) m) (And.intro ⟨leR rfl, spl0 (leR rfl)⟩ ?_) | refine And.intro (neI rfl) ?_ | refine And.intro ⟨rfl, leR rfl, onesR rfl⟩ ?_ | refine And.intro ⟨rfl, leR rfl⟩ ?_ | refine draw_rule2 hfol (fun KK hKK => ?_) | refine hKK _ _ _ (by kernel_rfl) ?_ | refine region_rule (fun KK hKK => ?_) | refine hKK _ _ ?_ | refine And.intro (Eq.refl true) ?_ | refine Exists.intro _ (And.intro (wI (by omega)) ?_) | refine Exists.intro _ (And.intro (wU (by omega)) ?_) | refine Exists.intro _ (And.intro ⟨rfl, by omega⟩ ?_) | refine Exists.intro _ (And.intro rfl ?_) | refine And.intro rfl ?_ | refine And.intro ⟨rfl, rfl⟩ ?_ | ((refine And.intro (fun _ => ?_) (fun _ => ?_)) <;> try (exfalso; omega))))
      exact Exists.intro [] (And.intro (by rw [hr]; rfl) (And.intro trivial rfl))
    | true =>
      rw [hu] at hr
      rw [show decide (0 ≤ u ∧ u ≤ ((2 ^ e : Nat) : Int) - 1) = true from hu] at i1
      cases hv : wdU e v with
      | false =>
        rw [hv] at hr
        rw [show decide (0 ≤ v ∧ v ≤ ((2 ^ e : Nat) : Int) - 1) = false from hv] at i2
        (repeat' (first | refine (hf).pure rfl ?_ | refine (i1).pure rfl ?_ | refine (i2).pure rfl ?_ | refine Exists.intro _ (And.intro hmx ?_) | refine Exists.intro _ (And.intro hmn ?_) | refine Exists.intro _ (And.intro e0 ?_) | refine And.intro (by omega) (Exists.intro _ (And.intro e1 ?_)) | refine Exists.intro _ (And.intro e2 ?_) | refine Exists.intro (pcl (e : Int) m) (And.intro ⟨pcl_len hm, pcl_all hm⟩ ?_) | refine And.intro ⟨pcl_len hm, leR rfl, pcl_ones⟩ ?_ | refine Exists.intro (pcl (e : Int) m) (And.intro ⟨leR rfl, spl0 (leR rfl)⟩ ?_) | refine And.intro (neI rfl) ?_ | refine And.intro ⟨rfl, leR rfl, onesR rfl⟩ ?_ | refine And.intro ⟨rfl, leR rfl⟩ ?_ | refine draw_rule2 hfol (fun KK hKK => ?_) | refine hKK _ _ _ (by kernel_rfl) ?_ | refine region_rule (fun KK hKK => ?_) | refine hKK _ _ ?_ | refine And.intro (Eq.refl true) ?_ | refine Exists.intro _ (And.intro (wI (by omega)) ?_) | refine Exists.intro _ (And.intro (wU (by omega)) ?_) | refine Exists.intro _ (And.intro ⟨rfl, by omega⟩ ?_) | refine Exists.intro _ (And.intro rfl ?_) | refine And.intro rfl ?_ | refine And.intro ⟨rfl, rfl⟩ ?_ | ((refine And.intro (fun _ => ?_) (fun _ => ?_)) <;> try (exfalso; omega))))
        exact Exists.intro [] (And.intro (by rw [hr]; rfl) (And.intro trivial rfl))
      | true =>
        rw [hv] at hr
        rw [show decide (0 ≤ v ∧ v ≤ ((2 ^ e : Nat) : Int) - 1) = true from hv] at i2
        have hu' : 0 ≤ u ∧ u ≤ ((2 ^ e : Nat) : Int) - 1 := of_decide_eq_true hu
        have hv' : 0 ≤ v ∧ v ≤ ((2 ^ e : Nat) : Int) - 1 := of_decide_eq_true hv
        have hl := pwN_lt (a := Q) a1 (P - 2)
        have hen := s_sent e m hd.toIsV P Q ((pwN Q P (P - 2) : Nat) : Int) (by omega) (by omega) (by omega) u.toNat v.toNat (by omega) (by omega)
        rw [Int.toNat_of_nonneg hu'.1, Int.toNat_of_nonneg hv'.1] at hen
        (repeat' (first | refine (hf).pure rfl ?_ | refine (i1).pure rfl ?_ | refine (i2).pure rfl ?_ | refine (hiv).pure rfl ?_ | refine (hen).pure rfl ?_ | refine Exists.intro _ (And.intro hmx ?_) | refine Exists.intro _ (And.intro hmn ?_) | refine Exists.intro _ (And.intro e0 ?_) | refine And.intro (by omega) (Exists.intro _ (And.intro e1 ?_)) | refine Exists.intro _ (And.intro e2 ?_) | refine Exists.intro (pcl (e : Int) m) (And.intro ⟨pcl_len hm, pcl_all hm⟩ ?_) | refine And.intro ⟨pcl_len hm, leR rfl, pcl_ones⟩ ?_ | refine Exists.intro (pcl (e : Int) m) (And.intro ⟨leR rfl, spl0 (leR rfl)⟩ ?_) | refine And.intro (neI rfl) ?_ | refine And.intro ⟨rfl, leR rfl, onesR rfl⟩ ?_ | refine And.intro ⟨rfl, leR rfl⟩ ?_ | refine draw_rule2 hfol (fun KK hKK => ?_) | refine hKK _ _ _ (by kernel_rfl) ?_ | refine region_rule (fun KK hKK => ?_) | refine hKK _ _ ?_ | refine And.intro (Eq.refl true) ?_ | refine Exists.intro _ (And.intro (wI (by omega)) ?_) | refine Exists.intro _ (And.intro (wU (by omega)) ?_) | refine Exists.intro _ (And.intro ⟨rfl, by omega⟩ ?_) | refine Exists.intro _ (And.intro rfl ?_) | refine And.intro rfl ?_ | refine And.intro ⟨rfl, rfl⟩ ?_ | ((refine And.intro (fun _ => ?_) (fun _ => ?_)) <;> try (exfalso; omega))))
        exact Exists.intro [] (And.intro (by rw [hr]; rfl) (And.intro trivial rfl))
  · have hr : seR p q s m u v = (0, 1) := by unfold seR; rw [if_neg (by rw [h0]; decide), h0]
    rw [h0] at hf
    (repeat' (first | refine (hf).pure rfl ?_ | refine Exists.intro _ (And.intro hmx ?_) | refine Exists.intro _ (And.intro hmn ?_) | refine Exists.intro _ (And.intro e0 ?_) | refine And.intro (by omega) (Exists.intro _ (And.intro e1 ?_)) | refine Exists.intro _ (And.intro e2 ?_) | refine Exists.intro (pcl s m) (And.intro ⟨pcl_len hm, pcl_all hm⟩ ?_) | refine And.intro ⟨pcl_len hm, leR rfl, pcl_ones⟩ ?_ | refine Exists.intro (pcl s m) (And.intro ⟨leR rfl, spl0 (leR rfl)⟩ ?_) | refine And.intro (neI rfl) ?_ | refine And.intro ⟨rfl, leR rfl, onesR rfl⟩ ?_ | refine And.intro ⟨rfl, leR rfl⟩ ?_ | refine draw_rule2 hfol (fun KK hKK => ?_) | refine hKK _ _ _ (by kernel_rfl) ?_ | refine region_rule (fun KK hKK => ?_) | refine hKK _ _ ?_ | refine And.intro (Eq.refl true) ?_ | refine Exists.intro _ (And.intro (wI (by omega)) ?_) | refine Exists.intro _ (And.intro (wU (by omega)) ?_) | refine Exists.intro _ (And.intro ⟨rfl, by omega⟩ ?_) | refine Exists.intro _ (And.intro rfl ?_) | refine And.intro rfl ?_ | refine And.intro ⟨rfl, rfl⟩ ?_ | ((refine And.intro (fun _ => ?_) (fun _ => ?_)) <;> try (exfalso; omega))))
    exact Exists.intro [] (And.intro (by rw [hr]; rfl) (And.intro trivial rfl))
  · have hr : seR p q s m u v = (0, 2) := by unfold seR; rw [if_neg (by rw [h0]; decide), h0]
    rw [h0] at hf
    (repeat' (first | refine (hf).pure rfl ?_ | refine Exists.intro _ (And.intro hmx ?_) | refine Exists.intro _ (And.intro hmn ?_) | refine Exists.intro _ (And.intro e0 ?_) | refine And.intro (by omega) (Exists.intro _ (And.intro e1 ?_)) | refine Exists.intro _ (And.intro e2 ?_) | refine Exists.intro (pcl s m) (And.intro ⟨pcl_len hm, pcl_all hm⟩ ?_) | refine And.intro ⟨pcl_len hm, leR rfl, pcl_ones⟩ ?_ | refine Exists.intro (pcl s m) (And.intro ⟨leR rfl, spl0 (leR rfl)⟩ ?_) | refine And.intro (neI rfl) ?_ | refine And.intro ⟨rfl, leR rfl, onesR rfl⟩ ?_ | refine And.intro ⟨rfl, leR rfl⟩ ?_ | refine draw_rule2 hfol (fun KK hKK => ?_) | refine hKK _ _ _ (by kernel_rfl) ?_ | refine region_rule (fun KK hKK => ?_) | refine hKK _ _ ?_ | refine And.intro (Eq.refl true) ?_ | refine Exists.intro _ (And.intro (wI (by omega)) ?_) | refine Exists.intro _ (And.intro (wU (by omega)) ?_) | refine Exists.intro _ (And.intro ⟨rfl, by omega⟩ ?_) | refine Exists.intro _ (And.intro rfl ?_) | refine And.intro rfl ?_ | refine And.intro ⟨rfl, rfl⟩ ?_ | ((refine And.intro (fun _ => ?_) (fun _ => ?_)) <;> try (exfalso; omega))))
    exact Exists.intro [] (And.intro (by rw [hr]; rfl) (And.intro trivial rfl))
theorem s_iSE (p q s : Int) (m : List Nat) (hm : m.length = 16) (hb : ∀ x ∈ m, x < 256) (u v : Int) : Spec Try.prog n_i_SpinEntry [vi p, vi q, pv s m, vi u, vi v] [] (iiV (seR p q s m u v)) [] := by
  have hf := s_iflt p q s m hm hb 8
  refine SpecW.of_EV hf_i_SpinEntry hc_i_SpinEntry rfl rfl rfl fun w0 B ρ0 _ => ?_
  rcases flt_c (p := p) (q := q) (s := s) (m := m) (most := 8) with h0 | h0 | h0
  · rw [h0] at hf
    obtain ⟨e, P, Q, rfl, hd, hn8, rfl, rfl, a1, a2, a3, a4, a5, a6⟩ := flt_0 hm h0
    have h2 := two_pow8 hd.n8
    have e2 : IntKind.i64.wrap (((2 ^ e : Nat) : Int) - 1) = ((2 ^ e : Nat) : Int) - 1 := wI (by omega)
    have hr : seR P Q e m u v = if (wdU e u && wdU e v) = true then (ent e m P Q ((pwN Q P (P - 2) : Nat) : Int) u.toNat v.toNat, 0) else (0, 2) := by
      unfold seR; rw [if_pos h0]; rfl
    have hsp : spR P Q = ((P : Int), (Q : Int), ((pwN Q P (P - 2) : Nat) : Int), true) := if_pos a6
    rw [hsp] at hf
    have i1 := s_iin u 0 (((2 ^ e : Nat) : Int) - 1)
    have i2 := s_iin v 0 (((2 ^ e : Nat) : Int) - 1)
    have hw := s_words e m hd.n8
    cases hu : wdU e u with
    | false =>
      rw [hu] at hr
      rw [show decide (0 ≤ u ∧ u ≤ ((2 ^ e : Nat) : Int) - 1) = false from hu] at i1
      (repeat' (first | refine (hf).pure rfl ?_ | refine (hw).read [0] rfl ⟨rfl, trivial⟩ ?_ | refine (i1).pure rfl ?_ | refine (i2).pure rfl ?_ | refine Exists.intro _ (And.intro e2 ?_) | refine Exists.intro (pcl (e : Int) m) (And.intro ⟨pcl_len hm, pcl_all hm⟩ ?_) | refine And.intro ⟨pcl_len hm, leR rfl, pcl_ones⟩ ?_ | refine Exists.intro (pcl (e : Int) m) (And.intro ⟨leR rfl, spl0 (leR rfl)⟩ ?_) | refine Exists.intro (spV P Q (pwN Q P (P - 2) : Nat)) (And.intro ⟨rfl, rfl⟩ ?_) | refine Exists.intro (spV P Q (pwN Q P (P - 2) : Nat)) (And.intro ⟨leR rfl, rfl⟩ ?_) | refine And.intro (neI rfl) ?_ | refine And.intro ⟨rfl, leR rfl, onesR rfl⟩ ?_ | refine And.intro ⟨rfl, leR rfl⟩ ?_ | refine draw_rule2 hfol (fun KK hKK => ?_) | refine hKK _ _ _ (by kernel_rfl) ?_ | refine region_rule (fun KK hKK => ?_) | refine hKK _ _ ?_ | refine And.intro (Eq.refl true) ?_ | refine Exists.intro _ (And.intro (wI (by omega)) ?_) | refine Exists.intro _ (And.intro (wU (by omega)) ?_) | refine Exists.intro _ (And.intro ⟨rfl, by omega⟩ ?_) | refine Exists.intro _ (And.intro rfl ?_) | refine And.intro rfl ?_ | refine And.intro ⟨rfl, rfl⟩ ?_ | ((refine And.intro (fun _ => ?_) (fun _ => ?_)) <;> try (exfalso; omega))))
      exact Exists.intro [] (And.intro (by rw [hr]; rfl) (And.intro trivial rfl))
    | true =>
      rw [hu] at hr
      rw [show decide (0 ≤ u ∧ u ≤ ((2 ^ e : Nat) : Int) - 1) = true from hu] at i1
      cases hv : wdU e v with
      | false =>
        rw [hv] at hr
        rw [show decide (0 ≤ v ∧ v ≤ ((2 ^ e : Nat) : Int) - 1) = false from hv] at i2
        (repeat' (first | refine (hf).pure rfl ?_ | refine (hw).read [0] rfl ⟨rfl, trivial⟩ ?_ | refine (i1).pure rfl ?_ | refine (i2).pure rfl ?_ | refine Exists.intro _ (And.intro e2 ?_) | refine Exists.intro (pcl (e : Int) m) (And.intro ⟨pcl_len hm, pcl_all hm⟩ ?_) | refine And.intro ⟨pcl_len hm, leR rfl, pcl_ones⟩ ?_ | refine Exists.intro (pcl (e : Int) m) (And.intro ⟨leR rfl, spl0 (leR rfl)⟩ ?_) | refine Exists.intro (spV P Q (pwN Q P (P - 2) : Nat)) (And.intro ⟨rfl, rfl⟩ ?_) | refine Exists.intro (spV P Q (pwN Q P (P - 2) : Nat)) (And.intro ⟨leR rfl, rfl⟩ ?_) | refine And.intro (neI rfl) ?_ | refine And.intro ⟨rfl, leR rfl, onesR rfl⟩ ?_ | refine And.intro ⟨rfl, leR rfl⟩ ?_ | refine draw_rule2 hfol (fun KK hKK => ?_) | refine hKK _ _ _ (by kernel_rfl) ?_ | refine region_rule (fun KK hKK => ?_) | refine hKK _ _ ?_ | refine And.intro (Eq.refl true) ?_ | refine Exists.intro _ (And.intro (wI (by omega)) ?_) | refine Exists.intro _ (And.intro (wU (by omega)) ?_) | refine Exists.intro _ (And.intro ⟨rfl, by omega⟩ ?_) | refine Exists.intro _ (And.intro rfl ?_) | refine And.intro rfl ?_ | refine And.intro ⟨rfl, rfl⟩ ?_ | ((refine And.intro (fun _ => ?_) (fun _ => ?_)) <;> try (exfalso; omega))))
        exact Exists.intro [] (And.intro (by rw [hr]; rfl) (And.intro trivial rfl))
      | true =>
        rw [hv] at hr
        rw [show decide (0 ≤ v ∧ v ≤ ((2 ^ e : Nat) : Int) - 1) = true from hv] at i2
        have hu' : 0 ≤ u ∧ u ≤ ((2 ^ e : Nat) : Int) - 1 := of_decide_eq_true hu
        have hv' : 0 ≤ v ∧ v ≤ ((2 ^ e : Nat) : Int) - 1 := of_decide_eq_true hv
        have hl := pwN_lt (a := Q) a1 (P - 2)
        have hen := s_ient e m hd.toIsV P Q ((pwN Q P (P - 2) : Nat) : Int) (by omega) (by omega) (by omega) u.toNat v.toNat (by omega) (by omega)
        rw [Int.toNat_of_nonneg hu'.1, Int.toNat_of_nonneg hv'.1] at hen
        (repeat' (first | refine (hf).pure rfl ?_ | refine (hw).read [0] rfl ⟨rfl, trivial⟩ ?_ | refine (i1).pure rfl ?_ | refine (i2).pure rfl ?_ | refine Exists.intro _ (And.intro e2 ?_) | refine (hen).read [0] rfl ⟨rfl, trivial⟩ ?_ | refine Exists.intro (pcl (e : Int) m) (And.intro ⟨pcl_len hm, pcl_all hm⟩ ?_) | refine And.intro ⟨pcl_len hm, leR rfl, pcl_ones⟩ ?_ | refine Exists.intro (pcl (e : Int) m) (And.intro ⟨leR rfl, spl0 (leR rfl)⟩ ?_) | refine Exists.intro (spV P Q (pwN Q P (P - 2) : Nat)) (And.intro ⟨rfl, rfl⟩ ?_) | refine Exists.intro (spV P Q (pwN Q P (P - 2) : Nat)) (And.intro ⟨leR rfl, rfl⟩ ?_) | refine And.intro (neI rfl) ?_ | refine And.intro ⟨rfl, leR rfl, onesR rfl⟩ ?_ | refine And.intro ⟨rfl, leR rfl⟩ ?_ | refine draw_rule2 hfol (fun KK hKK => ?_) | refine hKK _ _ _ (by kernel_rfl) ?_ | refine region_rule (fun KK hKK => ?_) | refine hKK _ _ ?_ | refine And.intro (Eq.refl true) ?_ | refine Exists.intro _ (And.intro (wI (by omega)) ?_) | refine Exists.intro _ (And.intro (wU (by omega)) ?_) | refine Exists.intro _ (And.intro ⟨rfl, by omega⟩ ?_) | refine Exists.intro _ (And.intro rfl ?_) | refine And.intro rfl ?_ | refine And.intro ⟨rfl, rfl⟩ ?_ | ((refine And.intro (fun _ => ?_) (fun _ => ?_)) <;> try (exfalso; omega))))
        exact Exists.intro [] (And.intro (by rw [hr]; rfl) (And.intro trivial rfl))
  · have hr : seR p q s m u v = (0, 1) := by unfold seR; rw [if_neg (by rw [h0]; decide), h0]
    rw [h0] at hf
    generalize spR p q = R at hf
    (repeat' (first | refine (hf).pure rfl ?_ | refine Exists.intro (pcl s m) (And.intro ⟨pcl_len hm, pcl_all hm⟩ ?_) | refine And.intro ⟨pcl_len hm, leR rfl, pcl_ones⟩ ?_ | refine Exists.intro (pcl s m) (And.intro ⟨leR rfl, spl0 (leR rfl)⟩ ?_) | refine Exists.intro (spV R.1 R.2.1 R.2.2.1) (And.intro ⟨rfl, rfl⟩ ?_) | refine Exists.intro (spV R.1 R.2.1 R.2.2.1) (And.intro ⟨leR rfl, rfl⟩ ?_) | refine And.intro (neI rfl) ?_ | refine And.intro ⟨rfl, leR rfl, onesR rfl⟩ ?_ | refine And.intro ⟨rfl, leR rfl⟩ ?_ | refine draw_rule2 hfol (fun KK hKK => ?_) | refine hKK _ _ _ (by kernel_rfl) ?_ | refine region_rule (fun KK hKK => ?_) | refine hKK _ _ ?_ | refine And.intro (Eq.refl true) ?_ | refine Exists.intro _ (And.intro (wI (by omega)) ?_) | refine Exists.intro _ (And.intro (wU (by omega)) ?_) | refine Exists.intro _ (And.intro ⟨rfl, by omega⟩ ?_) | refine Exists.intro _ (And.intro rfl ?_) | refine And.intro rfl ?_ | refine And.intro ⟨rfl, rfl⟩ ?_ | ((refine And.intro (fun _ => ?_) (fun _ => ?_)) <;> try (exfalso; omega))))
    exact Exists.intro [] (And.intro (by rw [hr]; rfl) (And.intro trivial rfl))
  · have hr : seR p q s m u v = (0, 2) := by unfold seR; rw [if_neg (by rw [h0]; decide), h0]
    rw [h0] at hf
    generalize spR p q = R at hf
    (repeat' (first | refine (hf).pure rfl ?_ | refine Exists.intro (pcl s m) (And.intro ⟨pcl_len hm, pcl_all hm⟩ ?_) | refine And.intro ⟨pcl_len hm, leR rfl, pcl_ones⟩ ?_ | refine Exists.intro (pcl s m) (And.intro ⟨leR rfl, spl0 (leR rfl)⟩ ?_) | refine Exists.intro (spV R.1 R.2.1 R.2.2.1) (And.intro ⟨rfl, rfl⟩ ?_) | refine Exists.intro (spV R.1 R.2.1 R.2.2.1) (And.intro ⟨leR rfl, rfl⟩ ?_) | refine And.intro (neI rfl) ?_ | refine And.intro ⟨rfl, leR rfl, onesR rfl⟩ ?_ | refine And.intro ⟨rfl, leR rfl⟩ ?_ | refine draw_rule2 hfol (fun KK hKK => ?_) | refine hKK _ _ _ (by kernel_rfl) ?_ | refine region_rule (fun KK hKK => ?_) | refine hKK _ _ ?_ | refine And.intro (Eq.refl true) ?_ | refine Exists.intro _ (And.intro (wI (by omega)) ?_) | refine Exists.intro _ (And.intro (wU (by omega)) ?_) | refine Exists.intro _ (And.intro ⟨rfl, by omega⟩ ?_) | refine Exists.intro _ (And.intro rfl ?_) | refine And.intro rfl ?_ | refine And.intro ⟨rfl, rfl⟩ ?_ | ((refine And.intro (fun _ => ?_) (fun _ => ?_)) <;> try (exfalso; omega))))
    exact Exists.intro [] (And.intro (by rw [hr]; rfl) (And.intro trivial rfl))
theorem s_lawSE (p : Int) (_ : -9223372036854775808 ≤ p ∧ p ≤ 9223372036854775807) (q : Int) (_ : -9223372036854775808 ≤ q ∧ q ≤ 9223372036854775807) (s : Int) (m : List Nat) (hm : m.length = 16) (hb : ∀ x ∈ m, x < 256) (u : Int) (_ : -9223372036854775808 ≤ u ∧ u ≤ 9223372036854775807) (v : Int) (_ : -9223372036854775808 ≤ v ∧ v ≤ 9223372036854775807) :
    Spec Try.prog n_l_FnExactSpinEntry [vi p, vi q, pv s m, vi u, vi v] [] (vb true) [] := by
  have h1 := s_sSE p q s m hm hb u v
  have h2 := s_iSE p q s m hm hb u v
  generalize seR p q s m u v = R at h1 h2
  refine SpecW.of_EV hf_l_FnExactSpinEntry hc_l_FnExactSpinEntry rfl rfl rfl fun w0 B ρ0 _ => ?_
  (repeat' (first | refine (s_toD s m hm).pure rfl ?_ | refine (h1).pure rfl ?_ | refine (h2).pure rfl ?_ | refine Exists.intro (pcl s m) (And.intro ⟨pcl_len hm, pcl_all hm⟩ ?_) | refine And.intro ⟨pcl_len hm, leR rfl, pcl_ones⟩ ?_ | refine Exists.intro (pcl s m) (And.intro ⟨leR rfl, spl0 (leR rfl)⟩ ?_) | refine And.intro (fun _ => ?_) (fun h => absurd rfl h) | refine And.intro (neI rfl) ?_ | refine And.intro ⟨rfl, leR rfl, onesR rfl⟩ ?_ | refine And.intro ⟨rfl, leR rfl⟩ ?_ | refine draw_rule2 hfol (fun KK hKK => ?_) | refine hKK _ _ _ (by kernel_rfl) ?_ | refine region_rule (fun KK hKK => ?_) | refine hKK _ _ ?_ | refine And.intro (Eq.refl true) ?_ | refine Exists.intro _ (And.intro (wI (by omega)) ?_) | refine Exists.intro _ (And.intro (wU (by omega)) ?_) | refine Exists.intro _ (And.intro ⟨rfl, by omega⟩ ?_) | refine Exists.intro _ (And.intro rfl ?_) | refine And.intro rfl ?_ | refine And.intro ⟨rfl, rfl⟩ ?_ | ((refine And.intro (fun _ => ?_) (fun _ => ?_)) <;> try (exfalso; omega))))
  exact finP rfl
end Go.Proofs.Ytimigbgpldjefaa.VE
