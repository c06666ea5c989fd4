/- Contracts of functions of the given program, for all arguments that the contract names; see each theorem. -/
import Derived.Test.YtimigbgpldjefaaZ4
import Derived.Test.YtimigbgpldjefaaY4
set_option linter.all false
namespace Go.Proofs.Ytimigbgpldjefaa.VE
open Go
set_option maxHeartbeats 1600000
set_option maxRecDepth 100000

theorem ent_bnd {n P : Nat} {m : List Nat} {q r : Int} (hP : 2 ≤ P) (W : Nat) : bnd P W (entG n m P q r) := fun u v _ _ => ent_bd (by omega)
def rkV (n : Nat) (m : List Nat) (P Q : Nat) : Nat := (ekF P (2 ^ n) (invS P) (2 ^ n) 0 0 1 (entG n m P Q ((pwN Q P (P - 2) : Nat) : Int))).1
def srR (p q s : Int) (m : List Nat) : Int × Int := if fltR p q s m 4 = 0 then (((rkV s.toNat m p.toNat q.toNat : Nat) : Int), 0) else (0, fltR p q s m 4)
theorem s_sSR (p q s : Int) (m : List Nat) (hm : m.length = 16) (hb : ∀ x ∈ m, x < 256) : Spec Try.prog n_s_SpinRank [vi p, vi q, pv s m] [] (iiV (srR p q s m)) [] := by
  have hf := s_sflt p q s m hm hb 4
  refine SpecW.of_EV hf_s_SpinRank hc_s_SpinRank rfl rfl rfl fun w0 B ρ0 _ => ?_
  rcases flt_c (p := p) (q := q) (s := s) (m := m) (most := 4) with h0 | h0 | h0
  · have hr : srR p q s m = (((rkV s.toNat m p.toNat q.toNat : Nat) : Int), 0) := if_pos h0
    rw [h0] at hf
    obtain ⟨n, P, Q, rfl, hd, hn8, rfl, rfl, a1, a2, a3, a4, a5, a6⟩ := flt_0 hm h0
    have h2 := two_pow8 hd.n8
    have ht := s_stab n m hm hd.toIsV P Q a1 a2 a3 a4 a5
    have he := s_sech P (2 ^ n) a1 a2 (by omega) (entG n m P Q ((pwN Q P (P - 2) : Nat) : Int)) (ent_bnd a1 _)
    have hk : rkV n m P Q = (ekF P (2 ^ n) (invS P) (2 ^ n) 0 0 1 (entG n m P Q ((pwN Q P (P - 2) : Nat) : Int))).1 := rfl
    rw [← hk] at he
    (repeat' (first | refine (hf).pure rfl ?_ | refine ht.makeN [] rfl trivial (effR rfl rfl (nwR crM (nwR poM rfl))) ?_ | refine he.makeN [1, 2] rfl ⟨crP rfl, poP rfl, trivial⟩ (effR rfl rfl rfl) ?_ | refine Exists.intro (pcl (n : Int) m) (And.intro ⟨pcl_len hm, pcl_all hm⟩ ?_) | refine And.intro ⟨pcl_len hm, leR rfl, pcl_ones⟩ ?_ | refine Exists.intro (pcl (n : Int) m) (And.intro ⟨leR rfl, spl0 (leR rfl)⟩ ?_) | refine And.intro (neI rfl) ?_ | refine And.intro ⟨rfl, leR rfl, onesR rfl⟩ ?_ | refine And.intro ⟨rfl, leR rfl⟩ ?_ | refine draw_rule2 hfol (fun KK hKK => ?_) | refine hKK _ _ _ (by kernel_rfl) ?_ | refine region_rule (fun KK hKK => ?_) | refine hKK _ _ ?_ | refine And.intro (Eq.refl true) ?_ | refine Exists.intro _ (And.intro (wI (by omega)) ?_) | refine Exists.intro _ (And.intro (wU (by omega)) ?_) | refine Exists.intro _ (And.intro ⟨rfl, by omega⟩ ?_) | refine Exists.intro _ (And.intro rfl ?_) | refine And.intro rfl ?_ | refine And.intro ⟨rfl, rfl⟩ ?_ | ((refine And.intro (fun _ => ?_) (fun _ => ?_)) <;> try (exfalso; omega))))
    exact Exists.intro [] (And.intro (by rw [hr]; rfl) (And.intro trivial rfl))
  · have hr : srR p q s m = (0, 1) := by unfold srR; rw [if_neg (by rw [h0]; decide), h0]
    rw [h0] at hf
    (repeat' (first | refine (hf).pure rfl ?_ | refine Exists.intro (pcl s m) (And.intro ⟨pcl_len hm, pcl_all hm⟩ ?_) | refine And.intro ⟨pcl_len hm, leR rfl, pcl_ones⟩ ?_ | refine Exists.intro (pcl s m) (And.intro ⟨leR rfl, spl0 (leR rfl)⟩ ?_) | refine And.intro (neI rfl) ?_ | refine And.intro ⟨rfl, leR rfl, onesR rfl⟩ ?_ | refine And.intro ⟨rfl, leR rfl⟩ ?_ | refine draw_rule2 hfol (fun KK hKK => ?_) | refine hKK _ _ _ (by kernel_rfl) ?_ | refine region_rule (fun KK hKK => ?_) | refine hKK _ _ ?_ | refine And.intro (Eq.refl true) ?_ | refine Exists.intro _ (And.intro (wI (by omega)) ?_) | refine Exists.intro _ (And.intro (wU (by omega)) ?_) | refine Exists.intro _ (And.intro ⟨rfl, by omega⟩ ?_) | refine Exists.intro _ (And.intro rfl ?_) | refine And.intro rfl ?_ | refine And.intro ⟨rfl, rfl⟩ ?_ | ((refine And.intro (fun _ => ?_) (fun _ => ?_)) <;> try (exfalso; omega))))
    exact Exists.intro [] (And.intro (by rw [hr]; rfl) (And.intro trivial rfl))
  · have hr : srR p q s m = (0, 2) := by unfold srR; rw [if_neg (by rw [h0]; decide), h0]
    rw [h0] at hf
    (repeat' (first | refine (hf).pure rfl ?_ | refine Exists.intro (pcl s m) (And.intro ⟨pcl_len hm, pcl_all hm⟩ ?_) | refine And.intro ⟨pcl_len hm, leR rfl, pcl_ones⟩ ?_ | refine Exists.intro (pcl s m) (And.intro ⟨leR rfl, spl0 (leR rfl)⟩ ?_) | refine And.intro (neI rfl) ?_ | refine And.intro ⟨rfl, leR rfl, onesR rfl⟩ ?_ | refine And.intro ⟨rfl, leR rfl⟩ ?_ | refine draw_rule2 hfol (fun KK hKK => ?_) | refine hKK _ _ _ (by kernel_rfl) ?_ | refine region_rule (fun KK hKK => ?_) | refine hKK _ _ ?_ | refine And.intro (Eq.refl true) ?_ | refine Exists.intro _ (And.intro (wI (by omega)) ?_) | refine Exists.intro _ (And.intro (wU (by omega)) ?_) | refine Exists.intro _ (And.intro ⟨rfl, by omega⟩ ?_) | refine Exists.intro _ (And.intro rfl ?_) | refine And.intro rfl ?_ | refine And.intro ⟨rfl, rfl⟩ ?_ | ((refine And.intro (fun _ => ?_) (fun _ => ?_)) <;> try (exfalso; omega))))
    exact Exists.intro [] (And.intro (by rw [hr]; rfl) (And.intro trivial rfl))
theorem s_iSR (p q s : Int) (m : List Nat) (hm : m.length = 16) (hb : ∀ x ∈ m, x < 256) : Spec Try.prog n_i_SpinRank [vi p, vi q, pv s m] [] (iiV (srR p q s m)) [] := by
  refine SpecW.of_EV hf_i_SpinRank hc_i_SpinRank rfl rfl rfl fun w0 B ρ0 _ => ?_
  by_cases h0 : fltR p q s m 4 = 0
  · have hr : srR p q s m = (((rkV s.toNat m p.toNat q.toNat : Nat) : Int), 0) := if_pos h0
    have h0' := h0
    obtain ⟨n, P, Q, rfl, hd, hn8, rfl, rfl, a1, a2, a3, a4, a5, a6⟩ := flt_0 hm h0
    have h2 := two_pow8 hd.n8
    have ht := s_iSTok n m hm hb P Q h0' hd a1 a2 a4 a5 a6
    have he := s_iech P (2 ^ n) a1 a2 a3 (by omega) (entG n m P Q ((pwN Q P (P - 2) : Nat) : Int)) (ent_bnd a1 _)
    have hk : rkV n m P Q = (ekF P (2 ^ n) (invS P) (2 ^ n) 0 0 1 (entG n m P Q ((pwN Q P (P - 2) : Nat) : Int))).1 := rfl
    rw [← hk] at he
    (repeat' (first | refine ht.makeN [] rfl trivial (effR rfl rfl (nwR crM (nwR poM rfl))) ?_ | refine he.makeN [1, 2] rfl ⟨crP rfl, poP rfl, trivial⟩ (effR rfl rfl rfl) ?_ | refine Exists.intro (pcl (n : Int) m) (And.intro ⟨pcl_len hm, pcl_all hm⟩ ?_) | refine And.intro ⟨pcl_len hm, leR rfl, pcl_ones⟩ ?_ | refine Exists.intro (pcl (n : Int) m) (And.intro ⟨leR rfl, spl0 (leR rfl)⟩ ?_) | refine And.intro (neI rfl) ?_ | refine And.intro ⟨rfl, leR rfl, onesR rfl⟩ ?_ | refine And.intro ⟨rfl, leR rfl⟩ ?_ | refine draw_rule2 hfol (fun KK hKK => ?_) | refine hKK _ _ _ (by kernel_rfl) ?_ | refine region_rule (fun KK hKK => ?_) | refine hKK _ _ ?_ | refine And.intro (Eq.refl true) ?_ | refine Exists.intro _ (And.intro (wI (by omega)) ?_) | refine Exists.intro _ (And.intro (wU (by omega)) ?_) | refine Exists.intro _ (And.intro ⟨rfl, by omega⟩ ?_) | refine Exists.intro _ (And.intro rfl ?_) | refine And.intro rfl ?_ | refine And.intro ⟨rfl, rfl⟩ ?_ | ((refine And.intro (fun _ => ?_) (fun _ => ?_)) <;> try (exfalso; omega))))
    exact Exists.intro [] (And.intro (by rw [hr]; rfl) (And.intro trivial rfl))
  · have hr : srR p q s m = (0, fltR p q s m 4) := if_neg h0
    have ht := s_iSTer p q s m hm hb h0
    (repeat' (first | refine (ht).pure rfl ?_ | refine Exists.intro (pcl s m) (And.intro ⟨pcl_len hm, pcl_all hm⟩ ?_) | refine And.intro ⟨pcl_len hm, leR rfl, pcl_ones⟩ ?_ | refine Exists.intro (pcl s m) (And.intro ⟨leR rfl, spl0 (leR rfl)⟩ ?_) | refine And.intro (neI rfl) ?_ | refine And.intro ⟨rfl, leR rfl, onesR rfl⟩ ?_ | refine And.intro ⟨rfl, leR rfl⟩ ?_ | refine draw_rule2 hfol (fun KK hKK => ?_) | refine hKK _ _ _ (by kernel_rfl) ?_ | refine region_rule (fun KK hKK => ?_) | refine hKK _ _ ?_ | refine And.intro (Eq.refl true) ?_ | refine Exists.intro _ (And.intro (wI (by omega)) ?_) | refine Exists.intro _ (And.intro (wU (by omega)) ?_) | refine Exists.intro _ (And.intro ⟨rfl, by omega⟩ ?_) | refine Exists.intro _ (And.intro rfl ?_) | refine And.intro rfl ?_ | refine And.intro ⟨rfl, rfl⟩ ?_ | ((refine And.intro (fun _ => ?_) (fun _ => ?_)) <;> try (exfalso; omega))))
    exact Exists.intro [] (And.intro (by rw [hr]; rfl) (And.intro trivial rfl))
theorem s_lawSR (p : Int) (_ : -9223372036854775808 ≤ p ∧ p ≤ 9223372036854775807) (q : Int) (_ : -9223372036854775808 ≤ q ∧ q ≤ 9223372036854775807) (s : Int) (m : List Nat) (hm : m.length = 16) (hb : ∀ x ∈ m, x < 256) :
    Spec Try.prog n_l_FnExactSpinRank [vi p, vi q, pv s m] [] (vb true) [] := by
  have h1 := s_sSR p q s m hm hb
  have h2 := s_iSR p q s m hm hb
  generalize srR p q s m = R at h1 h2
  refine SpecW.of_EV hf_l_FnExactSpinRank hc_l_FnExactSpinRank rfl rfl rfl fun w0 B ρ0 _ => ?_
  (repeat' (first | refine (s_toD s m hm).pure rfl ?_ | refine (h1).pure rfl ?_ | refine (h2).pure rfl ?_ | refine Exists.intro (pcl s m) (And.intro ⟨pcl_len hm, pcl_all hm⟩ ?_) | refine And.intro ⟨pcl_len hm, leR rfl, pcl_ones⟩ ?_ | refine Exists.intro (pcl s m) (And.intro ⟨leR rfl, spl0 (leR rfl)⟩ ?_) | refine And.intro (fun _ => ?_) (fun h => absurd rfl h) | refine And.intro (neI rfl) ?_ | refine And.intro ⟨rfl, leR rfl, onesR rfl⟩ ?_ | refine And.intro ⟨rfl, leR rfl⟩ ?_ | refine draw_rule2 hfol (fun KK hKK => ?_) | refine hKK _ _ _ (by kernel_rfl) ?_ | refine region_rule (fun KK hKK => ?_) | refine hKK _ _ ?_ | refine And.intro (Eq.refl true) ?_ | refine Exists.intro _ (And.intro (wI (by omega)) ?_) | refine Exists.intro _ (And.intro (wU (by omega)) ?_) | refine Exists.intro _ (And.intro ⟨rfl, by omega⟩ ?_) | refine Exists.intro _ (And.intro rfl ?_) | refine And.intro rfl ?_ | refine And.intro ⟨rfl, rfl⟩ ?_ | ((refine And.intro (fun _ => ?_) (fun _ => ?_)) <;> try (exfalso; omega))))
  exact finP rfl
end Go.Proofs.Ytimigbgpldjefaa.VE
