/- Contracts of functions of the given program, for all arguments that the contract names; see each theorem. -/
import Derived.Test.YtimigbgpldjefaaY6
set_option linter.all false
namespace Go.Proofs.Ytimigbgpldjefaa.VE
open Go
set_option maxHeartbeats 1600000
set_option maxRecDepth 100000

theorem s_iSBok (n : Nat) (m : List Nat) (hm : m.length = 16) (hb : ∀ x ∈ m, x < 256) (P Q : Nat) (h0 : fltR P Q n m 4 = 0) (hd : IsD n m) (a1 : 2 ≤ P) (a2 : P ≤ 97) (a4 : 1 ≤ Q) (a5 : Q < P) (a6 : nmB P Q = true) (k : Int) (hk : 0 ≤ k ∧ k ≤ n) :
    Spec Try.prog n_i_SpinBlock [vi P, vi Q, pv n m, vi k] [] (.tup [.sl 0, vi 0]) [tbI 1 (sel (onB n k) (2 ^ n)).length, ppI (tabG n m P Q ((pwN Q P (P - 2) : Nat) : Int) (onB n k)) (fun _ : Nat => (sel (onB n k) (2 ^ n)).length) (sel (onB n k) (2 ^ n)).length] := by
  have hf := s_iflt P Q n m hm hb 4
  have hsp : spR P Q = ((P : Int), (Q : Int), ((pwN Q P (P - 2) : Nat) : Int), true) := if_pos a6
  rw [h0, hsp] at hf
  have hik := s_iin k 0 n
  rw [decide_eq_true hk] at hik
  have hrl := pwN_lt (a := Q) a1 (P - 2)
  generalize hgr : pwN Q P (P - 2) = r at hf hrl ⊢
  have ht := s_tabB n m hd.toIsV P Q r (by omega) (by omega) (by omega) k
  refine SpecW.of_EV hf_i_SpinBlock hc_i_SpinBlock rfl rfl (ha_all rfl (by repeat' (first | exact trivial | exact okO_pl rfl | exact okO_pls rfl | exact okO_pla rfl | exact okO_rs | exact okO_rss rfl | exact okO_r rfl | refine And.intro ?_ ?_)) rfl (by repeat' (first | exact trivial | exact okO_pl rfl | exact okO_pls rfl | exact okO_pla rfl | exact okO_rs | exact okO_rss rfl | exact okO_r rfl | refine And.intro ?_ ?_))) fun w0 B ρ0 _ => ?_
  (repeat' (first | refine (hf).pure rfl ?_ | refine (hik).pure rfl ?_ | refine Exists.intro (pcl (n : Int) m) (And.intro ⟨pcl_len hm, pcl_all hm⟩ ?_) | refine And.intro ⟨pcl_len hm, leR rfl, pcl_ones⟩ ?_ | refine Exists.intro (pcl (n : Int) m) (And.intro ⟨leR rfl, spl0 (leR rfl)⟩ ?_) | refine Exists.intro (spV P Q r) (And.intro ⟨rfl, rfl⟩ ?_) | refine Exists.intro (spV P Q r) (And.intro ⟨leR rfl, rfl⟩ ?_) | refine ht.makeN [0, 1] rfl ⟨rfl, rfl, trivial⟩ (effR rfl rfl (nwR crM (nwR poM rfl))) ?_ | refine And.intro (neI rfl) ?_ | refine And.intro ⟨rfl, leR rfl, onesR rfl⟩ ?_ | refine And.intro ⟨rfl, leR rfl⟩ ?_ | refine draw_rule2 hfol (fun KK hKK => ?_) | refine hKK _ _ _ (by kernel_rfl) ?_ | refine region_rule (fun KK hKK => ?_) | refine hKK _ _ ?_ | refine And.intro (Eq.refl true) ?_ | refine Exists.intro _ (And.intro (wI (by omega)) ?_) | refine Exists.intro _ (And.intro (wU (by omega)) ?_) | refine Exists.intro _ (And.intro ⟨rfl, by omega⟩ ?_) | refine Exists.intro _ (And.intro rfl ?_) | refine And.intro rfl ?_ | refine And.intro ⟨rfl, rfl⟩ ?_ | ((refine And.intro (fun _ => ?_) (fun _ => ?_)) <;> try (exfalso; omega))))
  exact Exists.intro [3, 4] (And.intro rfl (And.intro (by repeat' (first | exact trivial | exact crP rfl | exact crS rfl | exact crA rfl | exact poP rfl | exact poS rfl | exact rfl | refine And.intro ?_ ?_)) (goodB_all rfl (by repeat' (first | exact trivial | exact okO_pl rfl | exact okO_pls rfl | exact okO_pla rfl | exact okO_rs | exact okO_rss rfl | exact okO_r rfl | refine And.intro ?_ ?_)) rfl)))
def sbE (p q s : Int) (m : List Nat) (k : Int) : Int := if fltR p q s m 4 = 0 then 2 else fltR p q s m 4
theorem s_sSBer (p q s : Int) (m : List Nat) (hm : m.length = 16) (hb : ∀ x ∈ m, x < 256) (k : Int) (h0 : fltR p q s m 4 = 0 → ¬ (0 ≤ k ∧ k ≤ s)) : Spec Try.prog n_s_SpinBlock [vi p, vi q, pv s m, vi k] [] (.tup [.raw (.slice none 0 0), vi (sbE p q s m k)]) [] := by
  have hf := s_sflt p q s m hm hb 4
  have hik := s_in k 0 s
  refine SpecW.of_EV hf_s_SpinBlock hc_s_SpinBlock rfl rfl rfl fun w0 B ρ0 _ => ?_
  unfold sbE
  rcases flt_c (p := p) (q := q) (s := s) (m := m) (most := 4) with h | h | h
  · rw [decide_eq_false (h0 h)] at hik
    rw [h] at hf ⊢
    (repeat' (first | refine (hf).pure rfl ?_ | refine (hik).pure rfl ?_ | refine Exists.intro (pcl s m) (And.intro ⟨pcl_len hm, pcl_all hm⟩ ?_) | refine And.intro ⟨pcl_len hm, leR rfl, pcl_ones⟩ ?_ | refine Exists.intro (pcl s m) (And.intro ⟨leR rfl, spl0 (leR rfl)⟩ ?_) | refine And.intro (neI rfl) ?_ | refine And.intro ⟨rfl, leR rfl, onesR rfl⟩ ?_ | refine And.intro ⟨rfl, leR rfl⟩ ?_ | refine draw_rule2 hfol (fun KK hKK => ?_) | refine hKK _ _ _ (by kernel_rfl) ?_ | refine region_rule (fun KK hKK => ?_) | refine hKK _ _ ?_ | refine And.intro (Eq.refl true) ?_ | refine Exists.intro _ (And.intro (wI (by omega)) ?_) | refine Exists.intro _ (And.intro (wU (by omega)) ?_) | refine Exists.intro _ (And.intro ⟨rfl, by omega⟩ ?_) | refine Exists.intro _ (And.intro rfl ?_) | refine And.intro rfl ?_ | refine And.intro ⟨rfl, rfl⟩ ?_ | ((refine And.intro (fun _ => ?_) (fun _ => ?_)) <;> try (exfalso; omega))))
    exact Exists.intro [] (And.intro (rfl) (And.intro trivial rfl))
  · rw [h] at hf ⊢
    (repeat' (first | refine (hf).pure rfl ?_ | refine Exists.intro (pcl s m) (And.intro ⟨pcl_len hm, pcl_all hm⟩ ?_) | refine And.intro ⟨pcl_len hm, leR rfl, pcl_ones⟩ ?_ | refine Exists.intro (pcl s m) (And.intro ⟨leR rfl, spl0 (leR rfl)⟩ ?_) | refine And.intro (neI rfl) ?_ | refine And.intro ⟨rfl, leR rfl, onesR rfl⟩ ?_ | refine And.intro ⟨rfl, leR rfl⟩ ?_ | refine draw_rule2 hfol (fun KK hKK => ?_) | refine hKK _ _ _ (by kernel_rfl) ?_ | refine region_rule (fun KK hKK => ?_) | refine hKK _ _ ?_ | refine And.intro (Eq.refl true) ?_ | refine Exists.intro _ (And.intro (wI (by omega)) ?_) | refine Exists.intro _ (And.intro (wU (by omega)) ?_) | refine Exists.intro _ (And.intro ⟨rfl, by omega⟩ ?_) | refine Exists.intro _ (And.intro rfl ?_) | refine And.intro rfl ?_ | refine And.intro ⟨rfl, rfl⟩ ?_ | ((refine And.intro (fun _ => ?_) (fun _ => ?_)) <;> try (exfalso; omega))))
    exact Exists.intro [] (And.intro (rfl) (And.intro trivial rfl))
  · rw [h] at hf ⊢
    (repeat' (first | refine (hf).pure rfl ?_ | refine Exists.intro (pcl s m) (And.intro ⟨pcl_len hm, pcl_all hm⟩ ?_) | refine And.intro ⟨pcl_len hm, leR rfl, pcl_ones⟩ ?_ | refine Exists.intro (pcl s m) (And.intro ⟨leR rfl, spl0 (leR rfl)⟩ ?_) | refine And.intro (neI rfl) ?_ | refine And.intro ⟨rfl, leR rfl, onesR rfl⟩ ?_ | refine And.intro ⟨rfl, leR rfl⟩ ?_ | refine draw_rule2 hfol (fun KK hKK => ?_) | refine hKK _ _ _ (by kernel_rfl) ?_ | refine region_rule (fun KK hKK => ?_) | refine hKK _ _ ?_ | refine And.intro (Eq.refl true) ?_ | refine Exists.intro _ (And.intro (wI (by omega)) ?_) | refine Exists.intro _ (And.intro (wU (by omega)) ?_) | refine Exists.intro _ (And.intro ⟨rfl, by omega⟩ ?_) | refine Exists.intro _ (And.intro rfl ?_) | refine And.intro rfl ?_ | refine And.intro ⟨rfl, rfl⟩ ?_ | ((refine And.intro (fun _ => ?_) (fun _ => ?_)) <;> try (exfalso; omega))))
    exact Exists.intro [] (And.intro (rfl) (And.intro trivial rfl))
theorem s_iSBer (p q s : Int) (m : List Nat) (hm : m.length = 16) (hb : ∀ x ∈ m, x < 256) (k : Int) (h0 : fltR p q s m 4 = 0 → ¬ (0 ≤ k ∧ k ≤ s)) : Spec Try.prog n_i_SpinBlock [vi p, vi q, pv s m, vi k] [] (.tup [.raw (.slice none 0 0), vi (sbE p q s m k)]) [] := by
  have hf := s_iflt p q s m hm hb 4
  have hik := s_iin k 0 s
  generalize spR p q = R at hf
  refine SpecW.of_EV hf_i_SpinBlock hc_i_SpinBlock rfl rfl rfl fun w0 B ρ0 _ => ?_
  unfold sbE
  rcases flt_c (p := p) (q := q) (s := s) (m := m) (most := 4) with h | h | h
  · rw [decide_eq_false (h0 h)] at hik
    rw [h] at hf ⊢
    (repeat' (first | refine (hf).pure rfl ?_ | refine (hik).pure rfl ?_ | refine Exists.intro (pcl s m) (And.intro ⟨pcl_len hm, pcl_all hm⟩ ?_) | refine And.intro ⟨pcl_len hm, leR rfl, pcl_ones⟩ ?_ | refine Exists.intro (pcl s m) (And.intro ⟨leR rfl, spl0 (leR rfl)⟩ ?_) | refine Exists.intro (spV R.1 R.2.1 R.2.2.1) (And.intro ⟨rfl, rfl⟩ ?_) | refine Exists.intro (spV R.1 R.2.1 R.2.2.1) (And.intro ⟨leR rfl, rfl⟩ ?_) | refine And.intro (neI rfl) ?_ | refine And.intro ⟨rfl, leR rfl, onesR rfl⟩ ?_ | refine And.intro ⟨rfl, leR rfl⟩ ?_ | refine draw_rule2 hfol (fun KK hKK => ?_) | refine hKK _ _ _ (by kernel_rfl) ?_ | refine region_rule (fun KK hKK => ?_) | refine hKK _ _ ?_ | refine And.intro (Eq.refl true) ?_ | refine Exists.intro _ (And.intro (wI (by omega)) ?_) | refine Exists.intro _ (And.intro (wU (by omega)) ?_) | refine Exists.intro _ (And.intro ⟨rfl, by omega⟩ ?_) | refine Exists.intro _ (And.intro rfl ?_) | refine And.intro rfl ?_ | refine And.intro ⟨rfl, rfl⟩ ?_ | ((refine And.intro (fun _ => ?_) (fun _ => ?_)) <;> try (exfalso; omega))))
    exact Exists.intro [] (And.intro (rfl) (And.intro trivial rfl))
  · rw [h] at hf ⊢
    (repeat' (first | refine (hf).pure rfl ?_ | refine Exists.intro (pcl s m) (And.intro ⟨pcl_len hm, pcl_all hm⟩ ?_) | refine And.intro ⟨pcl_len hm, leR rfl, pcl_ones⟩ ?_ | refine Exists.intro (pcl s m) (And.intro ⟨leR rfl, spl0 (leR rfl)⟩ ?_) | refine Exists.intro (spV R.1 R.2.1 R.2.2.1) (And.intro ⟨rfl, rfl⟩ ?_) | refine Exists.intro (spV R.1 R.2.1 R.2.2.1) (And.intro ⟨leR rfl, rfl⟩ ?_) | refine And.intro (neI rfl) ?_ | refine And.intro ⟨rfl, leR rfl, onesR rfl⟩ ?_ | refine And.intro ⟨rfl, leR rfl⟩ ?_ | refine draw_rule2 hfol (fun KK hKK => ?_) | refine hKK _ _ _ (by kernel_rfl) ?_ | refine region_rule (fun KK hKK => ?_) | refine hKK _ _ ?_ | refine And.intro (Eq.refl true) ?_ | refine Exists.intro _ (And.intro (wI (by omega)) ?_) | refine Exists.intro _ (And.intro (wU (by omega)) ?_) | refine Exists.intro _ (And.intro ⟨rfl, by omega⟩ ?_) | refine Exists.intro _ (And.intro rfl ?_) | refine And.intro rfl ?_ | refine And.intro ⟨rfl, rfl⟩ ?_ | ((refine And.intro (fun _ => ?_) (fun _ => ?_)) <;> try (exfalso; omega))))
    exact Exists.intro [] (And.intro (rfl) (And.intro trivial rfl))
  · rw [h] at hf ⊢
    (repeat' (first | refine (hf).pure rfl ?_ | refine Exists.intro (pcl s m) (And.intro ⟨pcl_len hm, pcl_all hm⟩ ?_) | refine And.intro ⟨pcl_len hm, leR rfl, pcl_ones⟩ ?_ | refine Exists.intro (pcl s m) (And.intro ⟨leR rfl, spl0 (leR rfl)⟩ ?_) | refine Exists.intro (spV R.1 R.2.1 R.2.2.1) (And.intro ⟨rfl, rfl⟩ ?_) | refine Exists.intro (spV R.1 R.2.1 R.2.2.1) (And.intro ⟨leR rfl, rfl⟩ ?_) | refine And.intro (neI rfl) ?_ | refine And.intro ⟨rfl, leR rfl, onesR rfl⟩ ?_ | refine And.intro ⟨rfl, leR rfl⟩ ?_ | refine draw_rule2 hfol (fun KK hKK => ?_) | refine hKK _ _ _ (by kernel_rfl) ?_ | refine region_rule (fun KK hKK => ?_) | refine hKK _ _ ?_ | refine And.intro (Eq.refl true) ?_ | refine Exists.intro _ (And.intro (wI (by omega)) ?_) | refine Exists.intro _ (And.intro (wU (by omega)) ?_) | refine Exists.intro _ (And.intro ⟨rfl, by omega⟩ ?_) | refine Exists.intro _ (And.intro rfl ?_) | refine And.intro rfl ?_ | refine And.intro ⟨rfl, rfl⟩ ?_ | ((refine And.intro (fun _ => ?_) (fun _ => ?_)) <;> try (exfalso; omega))))
    exact Exists.intro [] (And.intro (rfl) (And.intro trivial rfl))
theorem lawok_SpinBlock (p q s : Int) (m : List Nat) (hm : m.length = 16) (k : Int) (R : Nat) (N : Nat → Nat) (g : Nat → Nat → Int) (c : Int) (hR : R ≤ 1000) (hN : ∀ j, j < R → N j ≤ 1000) (hS : Spec Try.prog n_s_SpinBlock [vi p, vi q, pv s m, vi k] [] (.tup [.sl 0, vi c]) [tbI 1 R, ppI g N R]) (hI : Spec Try.prog n_i_SpinBlock [vi p, vi q, pv s m, vi k] [] (.tup [.sl 0, vi c]) [tbI 1 R, ppI g N R]) :
    Spec Try.prog n_l_FnExactSpinBlock [vi p, vi q, pv s m, vi k] [] (vb true) [] := by
  have he := s_eqII g N R hR (fun j hj => by have := hN j hj; omega)
  have hm1 := s_markII g N R 1 hR hN (by omega)
  have hh1 := s_heldII N R 1 hR hN (by omega)
  refine SpecW.of_EV hf_l_FnExactSpinBlock hc_l_FnExactSpinBlock rfl rfl rfl fun w0 B ρ0 _ => ?_
  (repeat' (first | refine (s_toD s m hm).pure rfl ?_ | refine Exists.intro (pcl s m) (And.intro ⟨pcl_len hm, pcl_all hm⟩ ?_) | refine And.intro ⟨pcl_len hm, leR rfl, pcl_ones⟩ ?_ | refine Exists.intro (pcl s m) (And.intro ⟨leR rfl, spl0 (leR rfl)⟩ ?_) | refine (hS).makeN [] rfl trivial (effR rfl rfl (nwR crM (nwR poM rfl))) ?_ | refine (hI).makeN [] rfl trivial (effR rfl rfl (nwR crM (nwR poM rfl))) ?_ | refine he.read [3, 4, 1, 2] rfl ⟨crP rfl, poP rfl, crP rfl, poP rfl, trivial⟩ ?_ | refine he.read [5, 6, 1, 2] rfl ⟨crP rfl, poP rfl, crP rfl, poP rfl, trivial⟩ ?_ | refine hm1.makeN [3, 4] rfl ⟨crP rfl, poP rfl, trivial⟩ (effR rfl (wrR crM (wrR poM rfl)) rfl) ?_ | refine hh1.read [3, 4] rfl ⟨crP rfl, poP rfl, trivial⟩ ?_ | refine And.intro (fun _ => ?_) (fun h => absurd rfl h) | refine And.intro (fun h => absurd rfl h) (fun _ => ?_) | refine And.intro (neI rfl) ?_ | refine And.intro ⟨rfl, leR rfl, onesR rfl⟩ ?_ | refine And.intro ⟨rfl, leR rfl⟩ ?_ | refine draw_rule2 hfol (fun KK hKK => ?_) | refine hKK _ _ _ (by kernel_rfl) ?_ | refine region_rule (fun KK hKK => ?_) | refine hKK _ _ ?_ | refine And.intro (Eq.refl true) ?_ | refine Exists.intro _ (And.intro (wI (by omega)) ?_) | refine Exists.intro _ (And.intro (wU (by omega)) ?_) | refine Exists.intro _ (And.intro ⟨rfl, by omega⟩ ?_) | refine Exists.intro _ (And.intro rfl ?_) | refine And.intro rfl ?_ | refine And.intro ⟨rfl, rfl⟩ ?_ | ((refine And.intro (fun _ => ?_) (fun _ => ?_)) <;> try (exfalso; omega))))
  exact finP rfl
theorem lawerr_SpinBlock (p q s : Int) (m : List Nat) (hm : m.length = 16) (k : Int) (c : Int) (hS : Spec Try.prog n_s_SpinBlock [vi p, vi q, pv s m, vi k] [] (.tup [.raw (.slice none 0 0), vi c]) []) (hI : Spec Try.prog n_i_SpinBlock [vi p, vi q, pv s m, vi k] [] (.tup [.raw (.slice none 0 0), vi c]) []) :
    Spec Try.prog n_l_FnExactSpinBlock [vi p, vi q, pv s m, vi k] [] (vb true) [] := by
  have hm1 := s_markII0 1
  have hh1 := s_heldII0 1
  refine SpecW.of_EV hf_l_FnExactSpinBlock hc_l_FnExactSpinBlock rfl rfl rfl fun w0 B ρ0 _ => ?_
  (repeat' (first | refine (s_toD s m hm).pure rfl ?_ | refine Exists.intro (pcl s m) (And.intro ⟨pcl_len hm, pcl_all hm⟩ ?_) | refine And.intro ⟨pcl_len hm, leR rfl, pcl_ones⟩ ?_ | refine Exists.intro (pcl s m) (And.intro ⟨leR rfl, spl0 (leR rfl)⟩ ?_) | refine (hS).pure rfl ?_ | refine (hI).pure rfl ?_ | refine (s_eqII0).pure rfl ?_ | refine (hm1).pure rfl ?_ | refine (hh1).pure rfl ?_ | refine And.intro (fun _ => ?_) (fun h => absurd rfl h) | refine And.intro (fun h => absurd rfl h) (fun _ => ?_) | refine And.intro (neI rfl) ?_ | refine And.intro ⟨rfl, leR rfl, onesR rfl⟩ ?_ | refine And.intro ⟨rfl, leR rfl⟩ ?_ | refine draw_rule2 hfol (fun KK hKK => ?_) | refine hKK _ _ _ (by kernel_rfl) ?_ | refine region_rule (fun KK hKK => ?_) | refine hKK _ _ ?_ | refine And.intro (Eq.refl true) ?_ | refine Exists.intro _ (And.intro (wI (by omega)) ?_) | refine Exists.intro _ (And.intro (wU (by omega)) ?_) | refine Exists.intro _ (And.intro ⟨rfl, by omega⟩ ?_) | refine Exists.intro _ (And.intro rfl ?_) | refine And.intro rfl ?_ | refine And.intro ⟨rfl, rfl⟩ ?_ | ((refine And.intro (fun _ => ?_) (fun _ => ?_)) <;> try (exfalso; omega))))
  exact finP rfl

theorem s_lawSB (p : Int) (_ : -9223372036854775808 ≤ p ∧ p ≤ 9223372036854775807) (q : Int) (_ : -9223372036854775808 ≤ q ∧ q ≤ 9223372036854775807) (s : Int) (m : List Nat) (hm : m.length = 16) (hb : ∀ x ∈ m, x < 256) (k : Int) (_ : -9223372036854775808 ≤ k ∧ k ≤ 9223372036854775807) :
    Spec Try.prog n_l_FnExactSpinBlock [vi p, vi q, pv s m, vi k] [] (vb true) [] := by
  by_cases h0 : fltR p q s m 4 = 0 ∧ (0 ≤ k ∧ k ≤ s)
  · obtain ⟨h0, hk⟩ := h0
    have h0' := h0
    obtain ⟨n, P, Q, rfl, hd, hn8, rfl, rfl, a1, a2, a3, a4, a5, a6⟩ := flt_0 hm h0
    have h2 := two_pow8 hd.n8
    have hlw := sel_le (onB n k) (2 ^ n)
    exact lawok_SpinBlock P Q n m hm k _ (fun _ : Nat => (sel (onB n k) (2 ^ n)).length) _ 0 (by omega) (fun j _ => by show (sel (onB n k) (2 ^ n)).length ≤ 1000; omega) (s_sSBok n m hm hb P Q h0' hd a1 a2 a3 a4 a5 k hk) (s_iSBok n m hm hb P Q h0' hd a1 a2 a4 a5 a6 k hk)
  · exact lawerr_SpinBlock p q s m hm k (sbE p q s m k) (s_sSBer p q s m hm hb k fun h hk => h0 ⟨h, hk⟩) (s_iSBer p q s m hm hb k fun h hk => h0 ⟨h, hk⟩)
end Go.Proofs.Ytimigbgpldjefaa.VE
