/- Contracts of functions of the given program, for all arguments that the contract names; see each theorem. -/
import Derived.Test.YtpangmameocfmaaT38
set_option linter.all false
namespace Go.Proofs.Ytpangmameocfmaa.VE.P
open Go
set_option maxHeartbeats 1600000
set_option maxRecDepth 100000

theorem s_sPowE (s : Int) (m : List Nat) (hm : m.length = 8) (hmb : ∀ x ∈ m, x < 256) (hv : isPi s m = false) : Spec Try.prog n_s_PowersOfPartition [pv s m] [] (.tup [.raw (.slice none 0 0), vi 1]) [] := by
  have h1 := s_is s m hm hmb
  rw [isP_eq _ m hm, hv] at h1
  refine SpecW.of_EV hf_s_PowersOfPartition hc_s_PowersOfPartition rfl rfl rfl fun w0 B ρ0 _ => ?_
  (repeat' (first | refine (h1).pure rfl ?_ | refine Exists.intro (pcl s m) (And.intro ⟨pcl_len hm, pcl_all hm⟩ ?_) | refine And.intro ⟨pcl_len hm, leR rfl, pcl_ones⟩ ?_ | refine Exists.intro (pcl s m) (And.intro ⟨leR rfl, spl0 (leR rfl)⟩ ?_) | refine And.intro (neI rfl) ?_ | refine And.intro ⟨rfl, leR rfl, onesR rfl⟩ ?_ | refine And.intro ⟨rfl, leR rfl⟩ ?_ | refine draw_rule2 hfol (fun KK hKK => ?_) | refine hKK _ _ _ (by kernel_rfl) ?_ | refine region_rule (fun KK hKK => ?_) | refine hKK _ _ ?_ | refine And.intro (Eq.refl true) ?_ | refine Exists.intro _ (And.intro (wI (by omega)) ?_) | refine Exists.intro _ (And.intro (wU (by omega)) ?_) | refine Exists.intro _ (And.intro ⟨rfl, by omega⟩ ?_) | refine Exists.intro _ (And.intro rfl ?_) | refine And.intro rfl ?_ | refine And.intro ⟨rfl, rfl⟩ ?_ | ((refine And.intro (fun _ => ?_) (fun _ => ?_)) <;> try (exfalso; omega))))
  exact Exists.intro [] (And.intro (rfl) (And.intro trivial rfl))
theorem s_iPowE (s : Int) (m : List Nat) (hm : m.length = 8) (hmb : ∀ x ∈ m, x < 256) (hv : isPi s m = false) : Spec Try.prog n_i_PowersOfPartition [pv s m] [] (.tup [.raw (.slice none 0 0), vi 1]) [] := by
  have hq := s_bad [(s, m)] (fun p hp => by simp at hp; subst hp; exact ⟨hm, hmb⟩) (by simp)
  rw [show ([(s, m)].any fun p => !isPi p.1 p.2) = true from by simp [hv]] at hq
  refine SpecW.of_EV hf_i_PowersOfPartition hc_i_PowersOfPartition rfl rfl rfl fun w0 B ρ0 _ => ?_
  (repeat' (first | refine (hq).read [1] rfl ⟨rfl, trivial⟩ ?_ | refine Exists.intro (pcl s m) (And.intro ⟨pcl_len hm, pcl_all hm⟩ ?_) | refine And.intro ⟨pcl_len hm, mkL rfl⟩ ?_ | refine Exists.intro (rowP [(s, m)]) (And.intro (row1 (N := 9) (p := (s, m)) (mkL' rfl)) ?_) | refine And.intro (neI rfl) ?_ | refine And.intro ⟨rfl, leR rfl, onesR rfl⟩ ?_ | refine And.intro ⟨rfl, leR rfl⟩ ?_ | refine draw_rule2 hfol (fun KK hKK => ?_) | refine hKK _ _ _ (by kernel_rfl) ?_ | refine region_rule (fun KK hKK => ?_) | refine hKK _ _ ?_ | refine And.intro (Eq.refl true) ?_ | refine Exists.intro _ (And.intro (wI (by omega)) ?_) | refine Exists.intro _ (And.intro (wU (by omega)) ?_) | refine Exists.intro _ (And.intro ⟨rfl, by omega⟩ ?_) | refine Exists.intro _ (And.intro rfl ?_) | refine And.intro rfl ?_ | refine And.intro ⟨rfl, rfl⟩ ?_ | ((refine And.intro (fun _ => ?_) (fun _ => ?_)) <;> try (exfalso; omega))))
  exact Exists.intro [] (And.intro (rfl) (And.intro trivial rfl))
theorem lawok_PowersOfPartition (s : Int) (m : List Nat) (hm : m.length = 8) (N : Nat) (g : Nat → Int) (c : Int) (hN : N ≤ 4000000) (hS : Spec Try.prog n_s_PowersOfPartition [pv s m] [] (.tup [.sl 0, vi c]) [.pr T_int64 1 N (il g N)]) (hI : Spec Try.prog n_i_PowersOfPartition [pv s m] [] (.tup [.sl 0, vi c]) [.pr T_int64 1 N (il g N)]) :
    Spec Try.prog n_l_FnExactPowersOfPartition [pv s m] [] (vb true) [] := by
  have he := s_eqI g N hN
  have hm1 := s_markI g N 1 hN (by omega)
  have hh1 := s_heldI N 1 hN (by omega)
  refine SpecW.of_EV hf_l_FnExactPowersOfPartition hc_l_FnExactPowersOfPartition rfl rfl rfl fun w0 B ρ0 _ => ?_
  (repeat' (first | refine (s_toP s m hm).pure rfl ?_ | refine Exists.intro (pcl s m) (And.intro ⟨pcl_len hm, pcl_all hm⟩ ?_) | refine And.intro ⟨pcl_len hm, leR rfl, pcl_ones⟩ ?_ | refine Exists.intro (pcl s m) (And.intro ⟨leR rfl, spl0 (leR rfl)⟩ ?_) | refine (hS).make [] rfl trivial ?_ | refine (hI).make [] rfl trivial ?_ | refine (he).read [2,1] rfl ⟨rfl, rfl, trivial⟩ ?_ | refine (he).read [3,1] rfl ⟨rfl, rfl, trivial⟩ ?_ | refine (hm1).make [2] rfl ⟨rfl, trivial⟩ ?_ | refine (hh1).read [2] rfl ⟨rfl, trivial⟩ ?_ | refine And.intro (fun _ => ?_) (fun h => absurd rfl h) | refine And.intro (fun h => absurd rfl h) (fun _ => ?_) | refine And.intro (neI rfl) ?_ | refine And.intro ⟨rfl, leR rfl, onesR rfl⟩ ?_ | refine And.intro ⟨rfl, leR rfl⟩ ?_ | refine draw_rule2 hfol (fun KK hKK => ?_) | refine hKK _ _ _ (by kernel_rfl) ?_ | refine region_rule (fun KK hKK => ?_) | refine hKK _ _ ?_ | refine And.intro (Eq.refl true) ?_ | refine Exists.intro _ (And.intro (wI (by omega)) ?_) | refine Exists.intro _ (And.intro (wU (by omega)) ?_) | refine Exists.intro _ (And.intro ⟨rfl, by omega⟩ ?_) | refine Exists.intro _ (And.intro rfl ?_) | refine And.intro rfl ?_ | refine And.intro ⟨rfl, rfl⟩ ?_ | ((refine And.intro (fun _ => ?_) (fun _ => ?_)) <;> try (exfalso; omega))))
  exact finP rfl
theorem lawerr_PowersOfPartition (s : Int) (m : List Nat) (hm : m.length = 8) (c : Int) (hS : Spec Try.prog n_s_PowersOfPartition [pv s m] [] (.tup [.raw (.slice none 0 0), vi c]) []) (hI : Spec Try.prog n_i_PowersOfPartition [pv s m] [] (.tup [.raw (.slice none 0 0), vi c]) []) :
    Spec Try.prog n_l_FnExactPowersOfPartition [pv s m] [] (vb true) [] := by
  have hm1 := s_markI0 1
  have hh1 := s_heldI0 1
  refine SpecW.of_EV hf_l_FnExactPowersOfPartition hc_l_FnExactPowersOfPartition rfl rfl rfl fun w0 B ρ0 _ => ?_
  (repeat' (first | refine (s_toP s m hm).pure rfl ?_ | refine Exists.intro (pcl s m) (And.intro ⟨pcl_len hm, pcl_all hm⟩ ?_) | refine And.intro ⟨pcl_len hm, leR rfl, pcl_ones⟩ ?_ | refine Exists.intro (pcl s m) (And.intro ⟨leR rfl, spl0 (leR rfl)⟩ ?_) | refine (hS).pure rfl ?_ | refine (hI).pure rfl ?_ | refine (s_eqI0).pure rfl ?_ | refine (hm1).pure rfl ?_ | refine (hh1).pure rfl ?_ | refine And.intro (fun _ => ?_) (fun h => absurd rfl h) | refine And.intro (fun h => absurd rfl h) (fun _ => ?_) | refine And.intro (neI rfl) ?_ | refine And.intro ⟨rfl, leR rfl, onesR rfl⟩ ?_ | refine And.intro ⟨rfl, leR rfl⟩ ?_ | refine draw_rule2 hfol (fun KK hKK => ?_) | refine hKK _ _ _ (by kernel_rfl) ?_ | refine region_rule (fun KK hKK => ?_) | refine hKK _ _ ?_ | refine And.intro (Eq.refl true) ?_ | refine Exists.intro _ (And.intro (wI (by omega)) ?_) | refine Exists.intro _ (And.intro (wU (by omega)) ?_) | refine Exists.intro _ (And.intro ⟨rfl, by omega⟩ ?_) | refine Exists.intro _ (And.intro rfl ?_) | refine And.intro rfl ?_ | refine And.intro ⟨rfl, rfl⟩ ?_ | ((refine And.intro (fun _ => ?_) (fun _ => ?_)) <;> try (exfalso; omega))))
  exact finP rfl

theorem s_lawPow (s : Int) (m : List Nat) (hm : m.length = 8) (hmb : ∀ x ∈ m, x < 256) : Spec Try.prog n_l_FnExactPowersOfPartition [pv s m] [] (vb true) [] := by
  cases hv : isPi s m with
  | false => exact lawerr_PowersOfPartition s m hm 1 (s_sPowE s m hm hmb hv) (s_iPowE s m hm hmb hv)
  | true =>
    obtain ⟨n, rfl, hn1, hn⟩ := isPi_size hv
    obtain ⟨K, i0, hi0, hK, he, hd⟩ := pw_rep (n := n) hm (isPi_lt hv) hn
    exact lawok_PowersOfPartition n m hm 2 _ 0 (by omega) (s_sPow n m hm hmb hv hn1 hn K i0 hi0 hK he hd) (s_iPow n m hm hmb hv hn1 hn K i0 hi0 hK he hd)
end Go.Proofs.Ytpangmameocfmaa.VE.P
