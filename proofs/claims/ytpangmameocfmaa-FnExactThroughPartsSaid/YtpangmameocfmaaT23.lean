/- Contracts of functions of the given program, for all arguments that the contract names; see each theorem. -/
import Derived.Test.YtpangmameocfmaaT22
set_option linter.all false
namespace Go.Proofs.Ytpangmameocfmaa.VE
open Go
set_option maxHeartbeats 800000
set_option maxRecDepth 100000

theorem s_iThr (s : Int) (m : List Nat) (hm : m.length = 8) (hb : ∀ x ∈ m, x < 256) : Spec Try.prog n_i_ThroughParts [pv s m] [] (iiV (thrR s m)) [] := by
  have hq := s_bad [(s, m)] (fun p hp => by simp at hp; subst hp; exact ⟨hm, hb⟩) (by simp)
  simp only [List.any_cons, List.any_nil, Bool.or_false] at hq
  have hr : thrR s m = if isPi s m then (((tN (kC (key s.toNat m) (2 * s.toNat)) (mx m (2 * s.toNat)) : Nat) : Int), 0) else (0, 1) := rfl
  refine SpecW.of_EV hf_i_ThroughParts hc_i_ThroughParts rfl rfl rfl fun w0 B ρ0 _ => ?_
  cases hv : isPi s m with
  | false =>
    rw [hv] at hq hr
    (repeat' (first | refine hq.read [1] rfl ⟨rfl, trivial⟩ ?_ | refine Exists.intro (pcl s m) (And.intro ⟨pcl_len hm, pcl_all hm⟩ ?_) | refine And.intro ⟨pcl_len hm, mkL rfl⟩ ?_ | refine Exists.intro (rowP [(s, m)]) (And.intro (row1 (N := 9) (p := (s, m)) (mkL' rfl)) ?_) | refine And.intro (neI rfl) ?_ | refine And.intro ⟨rfl, leR rfl, onesR rfl⟩ ?_ | refine And.intro ⟨rfl, leR rfl⟩ ?_ | refine draw_rule hfol ?_ | refine And.intro (Eq.refl true) ?_ | refine Exists.intro _ (And.intro (wI (by omega)) ?_) | refine Exists.intro _ (And.intro (wU (by omega)) ?_) | refine Exists.intro _ (And.intro ⟨rfl, by omega⟩ ?_) | refine Exists.intro _ (And.intro rfl ?_) | refine And.intro rfl ?_ | refine And.intro ⟨rfl, rfl⟩ ?_ | ((refine And.intro (fun _ => ?_) (fun _ => ?_)) <;> try (exfalso; omega))))
    exact Exists.intro [] (And.intro (by rw [hr]; rfl) (And.intro trivial rfl))
  | true =>
    rw [hv] at hq hr
    obtain ⟨n, rfl, hn1, hn⟩ := isPi_size hv
    have hs := s_sides n m hm hv hn1 hn
    have h8 := mx_le (isPi_lt hv) (2 * n)
    (repeat' (first | refine hq.read [1] rfl ⟨rfl, trivial⟩ ?_ | refine hs.make [0] rfl ⟨rfl, trivial⟩ ?_ | refine Exists.intro (pcl n m) (And.intro ⟨pcl_len hm, pcl_all hm⟩ ?_) | refine And.intro ⟨pcl_len hm, mkL rfl⟩ ?_ | refine Exists.intro (rowP [((n : Int), m)]) (And.intro (row1 (N := 9) (p := ((n : Int), m)) (mkL' rfl)) ?_) | refine And.intro (neI rfl) ?_ | refine And.intro ⟨rfl, leR rfl, onesR rfl⟩ ?_ | refine And.intro ⟨rfl, leR rfl⟩ ?_ | refine draw_rule hfol ?_ | refine And.intro (Eq.refl true) ?_ | refine Exists.intro _ (And.intro (wI (by omega)) ?_) | refine Exists.intro _ (And.intro (wU (by omega)) ?_) | refine Exists.intro _ (And.intro ⟨rfl, by omega⟩ ?_) | refine Exists.intro _ (And.intro rfl ?_) | refine And.intro rfl ?_ | refine And.intro ⟨rfl, rfl⟩ ?_ | ((refine And.intro (fun _ => ?_) (fun _ => ?_)) <;> try (exfalso; omega))))
    refine loop_rule (α := Nat) (fun k => k ≤ mx m (2 * n))
      (fun k => [(4, vi (tN (kC (key n m) (2 * n)) k : Nat)), (10, .sl 0), (11, vi (mx m (2 * n) : Nat)), (12, vi k)])
      (fun k => [.pr T_a2q_int 2 (mx m (2 * n)) (il (cF n m (2 * n)) (2 * mx m (2 * n)))]) (fun k => mx m (2 * n) - k) 0 [2]
      (by omega) ⟨⟨rfl, rfl, rfl, rfl, trivial⟩, ⟨rfl, trivial⟩, rfl⟩ ?_
    rintro k g hk
    by_cases h9 : k = mx m (2 * n)
    · subst h9
      (repeat' (first | refine And.intro (neI rfl) ?_ | refine And.intro ⟨rfl, leR rfl, onesR rfl⟩ ?_ | refine And.intro ⟨rfl, leR rfl⟩ ?_ | refine draw_rule hfol ?_ | refine And.intro (Eq.refl true) ?_ | refine Exists.intro _ (And.intro (wI (by omega)) ?_) | refine Exists.intro _ (And.intro (wU (by omega)) ?_) | refine Exists.intro _ (And.intro ⟨rfl, by omega⟩ ?_) | refine Exists.intro _ (And.intro rfl ?_) | refine And.intro rfl ?_ | refine And.intro ⟨rfl, rfl⟩ ?_ | ((refine And.intro (fun _ => ?_) (fun _ => ?_)) <;> try (exfalso; omega))))
      exact Exists.intro [] (And.intro (by rw [hr]; rfl) (And.intro trivial rfl))
    have hkl : k < mx m (2 * n) := by omega
    have ht := tN_le (f := kC (key n m) (2 * n)) k
    have hu : cF n m (2 * n) (2 * k) = ((kC (key n m) (2 * n) (2 * k) : Nat) : Int) := rfl
    have hl : cF n m (2 * n) (2 * k + 1) = ((kC (key n m) (2 * n) (2 * k + 1) : Nat) : Int) := rfl
    (repeat' (first | refine Exists.intro [Value.int .i64 (cF n m (2 * n) (2 * k)), Value.int .i64 (cF n m (2 * n) (2 * k + 1))] (And.intro ⟨rfl, il_pair hkl⟩ ?_) | refine Exists.intro [Value.int .i64 (cF n m (2 * n) (2 * k)), Value.int .i64 (cF n m (2 * n) (2 * k + 1))] (And.intro ⟨leR rfl, rfl⟩ ?_) | refine Exists.intro 0 (And.intro ⟨rfl, leR rfl⟩ ?_) | refine Exists.intro 1 (And.intro ⟨rfl, leR rfl⟩ ?_) | refine And.intro (neI rfl) ?_ | refine And.intro ⟨rfl, leR rfl, onesR rfl⟩ ?_ | refine And.intro ⟨rfl, leR rfl⟩ ?_ | refine draw_rule hfol ?_ | refine And.intro (Eq.refl true) ?_ | refine Exists.intro _ (And.intro (wI (by omega)) ?_) | refine Exists.intro _ (And.intro (wU (by omega)) ?_) | refine Exists.intro _ (And.intro ⟨rfl, by omega⟩ ?_) | refine Exists.intro _ (And.intro rfl ?_) | refine And.intro rfl ?_ | refine And.intro ⟨rfl, rfl⟩ ?_ | ((refine And.intro (fun _ => ?_) (fun _ => ?_)) <;> try (exfalso; omega))))
    all_goals
      refine Exists.intro (k + 1) (Exists.intro [0] (And.intro ⟨by omega, (by show mx m (2 * n) - (k + 1) < mx m (2 * n) - k; omega)⟩ ⟨⟨viR (by simp only [tN]; split <;> omega), rfl, rfl, rfl, trivial⟩, ⟨rfl, trivial⟩, rfl⟩))

theorem s_lawThr (s : Int) (m : List Nat) (hm : m.length = 8) (hb : ∀ x ∈ m, x < 256) : Spec Try.prog n_l_FnExactThroughParts [pv s m] [] (vb true) [] := by
  have h1 := s_sThr s m hm hb
  have h2 := s_iThr s m hm hb
  generalize thrR s m = p at h1 h2
  refine SpecW.of_EV hf_l_FnExactThroughParts hc_l_FnExactThroughParts rfl rfl rfl fun w0 B ρ0 _ => ?_
  (repeat' (first | refine (s_toP s m hm).pure rfl ?_ | refine h1.pure rfl ?_ | refine h2.pure rfl ?_ | refine Exists.intro (pcl s m) (And.intro ⟨pcl_len hm, pcl_all hm⟩ ?_) | refine And.intro (fun _ => ?_) (fun h => absurd rfl h) | refine And.intro (neI rfl) ?_ | refine And.intro ⟨rfl, leR rfl, onesR rfl⟩ ?_ | refine And.intro ⟨rfl, leR rfl⟩ ?_ | refine draw_rule hfol ?_ | refine And.intro (Eq.refl true) ?_ | refine Exists.intro _ (And.intro (wI (by omega)) ?_) | refine Exists.intro _ (And.intro (wU (by omega)) ?_) | refine Exists.intro _ (And.intro ⟨rfl, by omega⟩ ?_) | refine Exists.intro _ (And.intro rfl ?_) | refine And.intro rfl ?_ | refine And.intro ⟨rfl, rfl⟩ ?_ | ((refine And.intro (fun _ => ?_) (fun _ => ?_)) <;> try (exfalso; omega))))
  exact finP rfl
end Go.Proofs.Ytpangmameocfmaa.VE
