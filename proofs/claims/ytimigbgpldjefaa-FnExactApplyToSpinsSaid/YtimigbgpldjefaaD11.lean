/- Contracts of functions of the given program, for all arguments that the contract names; see each theorem. -/
import Derived.Test.YtimigbgpldjefaaD10
set_option linter.all false
namespace Go.Proofs.Ytimigbgpldjefaa.VE
open Go
set_option maxHeartbeats 1600000
set_option maxRecDepth 100000

theorem boolF {b : Bool} (h : ¬ b = true) : b = false := by cases b <;> simp at h ⊢
theorem s_sApE (p q s : Int) (m : List Nat) (hm : m.length = 16) (hb : ∀ x ∈ m, x < 256) (x : Nat → Int) (N : Nat) (hN : N ≤ 1048576) (hc : apC p q s m x N ≠ 0) :
    Spec Try.prog n_s_ApplyToSpins [vi p, vi q, pv s m, .sl 0] [.pr T_int64 1 N (il x N)] (.tup [.raw (.slice none 0 0), vi (apC p q s m x N)]) [.pr T_int64 1 N (il x N)] := by
  have h1 := s_sIs' s m hm hb
  have h2 := s_sprime p
  have h3 := s_snum p q
  refine SpecW.of_EV hf_s_ApplyToSpins hc_s_ApplyToSpins rfl rfl rfl fun w0 B ρ0 _ => ?_
  by_cases hv : isDi s m = true
  rotate_left
  · have hr : apC p q s m x N = 1 := if_neg hv
    rw [boolF hv] at h1
    (repeat' (first | refine (h1).pure rfl ?_ | refine Exists.intro (pcl s m) (And.intro ⟨pcl_len hm, pcl_all hm⟩ ?_) | refine And.intro ⟨pcl_len hm, leR rfl, pcl_ones⟩ ?_ | refine Exists.intro (pcl s m) (And.intro ⟨leR rfl, spl0 (leR rfl)⟩ ?_) | refine And.intro (neI rfl) ?_ | refine And.intro ⟨rfl, leR rfl, onesR rfl⟩ ?_ | refine And.intro ⟨rfl, leR rfl⟩ ?_ | refine draw_rule2 hfol (fun KK hKK => ?_) | refine hKK _ _ _ (by kernel_rfl) ?_ | refine region_rule (fun KK hKK => ?_) | refine hKK _ _ ?_ | refine And.intro (Eq.refl true) ?_ | refine Exists.intro _ (And.intro (wI (by omega)) ?_) | refine Exists.intro _ (And.intro (wU (by omega)) ?_) | refine Exists.intro _ (And.intro ⟨rfl, by omega⟩ ?_) | refine Exists.intro _ (And.intro rfl ?_) | refine And.intro rfl ?_ | refine And.intro ⟨rfl, rfl⟩ ?_ | ((refine And.intro (fun _ => ?_) (fun _ => ?_)) <;> try (exfalso; omega))))
    exact Exists.intro [0] (And.intro (by rw [hr]; rfl) (And.intro ⟨rfl, trivial⟩ rfl))
  rw [hv] at h1
  obtain ⟨n, rfl, hd⟩ := isDi_elim hm hv
  have hn8 := hd.n8
  by_cases h6 : (n : Int) ≤ 6
  rotate_left
  · have hr : apC p q n m x N = 2 := by unfold apC; rw [if_pos hv, if_neg h6]
    (repeat' (first | refine (h1).pure rfl ?_ | refine Exists.intro (pcl (n : Int) m) (And.intro ⟨pcl_len hm, pcl_all hm⟩ ?_) | refine And.intro ⟨pcl_len hm, leR rfl, pcl_ones⟩ ?_ | refine Exists.intro (pcl (n : Int) m) (And.intro ⟨leR rfl, spl0 (leR rfl)⟩ ?_) | refine And.intro (neI rfl) ?_ | refine And.intro ⟨rfl, leR rfl, onesR rfl⟩ ?_ | refine And.intro ⟨rfl, leR rfl⟩ ?_ | refine draw_rule2 hfol (fun KK hKK => ?_) | refine hKK _ _ _ (by kernel_rfl) ?_ | refine region_rule (fun KK hKK => ?_) | refine hKK _ _ ?_ | refine And.intro (Eq.refl true) ?_ | refine Exists.intro _ (And.intro (wI (by omega)) ?_) | refine Exists.intro _ (And.intro (wU (by omega)) ?_) | refine Exists.intro _ (And.intro ⟨rfl, by omega⟩ ?_) | refine Exists.intro _ (And.intro rfl ?_) | refine And.intro rfl ?_ | refine And.intro ⟨rfl, rfl⟩ ?_ | ((refine And.intro (fun _ => ?_) (fun _ => ?_)) <;> try (exfalso; omega))))
    exact Exists.intro [0] (And.intro (by rw [hr]; rfl) (And.intro ⟨rfl, trivial⟩ rfl))
  have e0 : IntKind.u64.wrap (n : Int) = (n : Int) := wU64 (by omega)
  have e1 := shlN n (by omega)
  have ht8 := two_pow8 hn8
  by_cases hpr : prI p = true
  rotate_left
  · have hr : apC p q n m x N = 1 := by unfold apC; rw [if_pos hv, if_pos h6, if_neg (fun h => hpr h.1)]
    rw [boolF hpr] at h2
    (repeat' (first | refine (h1).pure rfl ?_ | refine (h2).pure rfl ?_ | refine Exists.intro (pcl (n : Int) m) (And.intro ⟨pcl_len hm, pcl_all hm⟩ ?_) | refine And.intro ⟨pcl_len hm, leR rfl, pcl_ones⟩ ?_ | refine Exists.intro (pcl (n : Int) m) (And.intro ⟨leR rfl, spl0 (leR rfl)⟩ ?_) | refine And.intro (neI rfl) ?_ | refine And.intro ⟨rfl, leR rfl, onesR rfl⟩ ?_ | refine And.intro ⟨rfl, leR rfl⟩ ?_ | refine draw_rule2 hfol (fun KK hKK => ?_) | refine hKK _ _ _ (by kernel_rfl) ?_ | refine region_rule (fun KK hKK => ?_) | refine hKK _ _ ?_ | refine And.intro (Eq.refl true) ?_ | refine Exists.intro _ (And.intro (wI (by omega)) ?_) | refine Exists.intro _ (And.intro (wU (by omega)) ?_) | refine Exists.intro _ (And.intro ⟨rfl, by omega⟩ ?_) | refine Exists.intro _ (And.intro rfl ?_) | refine And.intro rfl ?_ | refine And.intro ⟨rfl, rfl⟩ ?_ | ((refine And.intro (fun _ => ?_) (fun _ => ?_)) <;> try (exfalso; omega))))
    exact Exists.intro [0] (And.intro (by rw [hr]; rfl) (And.intro ⟨rfl, trivial⟩ rfl))
  rw [hpr] at h2
  by_cases hNn : N = 2 ^ n
  rotate_left
  · have hr : apC p q n m x N = 1 := by unfold apC; rw [if_pos hv, if_pos h6, if_neg (fun h => hNn h.2.1)]
    (repeat' (first | refine (h1).pure rfl ?_ | refine (h2).pure rfl ?_ | refine Exists.intro (pcl (n : Int) m) (And.intro ⟨pcl_len hm, pcl_all hm⟩ ?_) | refine And.intro ⟨pcl_len hm, leR rfl, pcl_ones⟩ ?_ | refine Exists.intro (pcl (n : Int) m) (And.intro ⟨leR rfl, spl0 (leR rfl)⟩ ?_) | refine Exists.intro _ (And.intro e0 ?_) | refine And.intro (by omega) (Exists.intro _ (And.intro e1 ?_)) | refine And.intro (neI rfl) ?_ | refine And.intro ⟨rfl, leR rfl, onesR rfl⟩ ?_ | refine And.intro ⟨rfl, leR rfl⟩ ?_ | refine draw_rule2 hfol (fun KK hKK => ?_) | refine hKK _ _ _ (by kernel_rfl) ?_ | refine region_rule (fun KK hKK => ?_) | refine hKK _ _ ?_ | refine And.intro (Eq.refl true) ?_ | refine Exists.intro _ (And.intro (wI (by omega)) ?_) | refine Exists.intro _ (And.intro (wU (by omega)) ?_) | refine Exists.intro _ (And.intro ⟨rfl, by omega⟩ ?_) | refine Exists.intro _ (And.intro rfl ?_) | refine And.intro rfl ?_ | refine And.intro ⟨rfl, rfl⟩ ?_ | ((refine And.intro (fun _ => ?_) (fun _ => ?_)) <;> try (exfalso; omega))))
    exact Exists.intro [0] (And.intro (by rw [hr]; rfl) (And.intro ⟨rfl, trivial⟩ rfl))
  obtain ⟨P, rfl, a1, a2, a3⟩ := prI_elim hpr
  have e2 : IntKind.i64.wrap ((P : Int) - 1) = (P : Int) - 1 := wI (by omega)
  (repeat' (first | refine (h1).pure rfl ?_ | refine (h2).pure rfl ?_ | refine Exists.intro (pcl (n : Int) m) (And.intro ⟨pcl_len hm, pcl_all hm⟩ ?_) | refine And.intro ⟨pcl_len hm, leR rfl, pcl_ones⟩ ?_ | refine Exists.intro (pcl (n : Int) m) (And.intro ⟨leR rfl, spl0 (leR rfl)⟩ ?_) | refine Exists.intro _ (And.intro e0 ?_) | refine And.intro (by omega) (Exists.intro _ (And.intro e1 ?_)) | refine And.intro (neI rfl) ?_ | refine And.intro ⟨rfl, leR rfl, onesR rfl⟩ ?_ | refine And.intro ⟨rfl, leR rfl⟩ ?_ | refine draw_rule2 hfol (fun KK hKK => ?_) | refine hKK _ _ _ (by kernel_rfl) ?_ | refine region_rule (fun KK hKK => ?_) | refine hKK _ _ ?_ | refine And.intro (Eq.refl true) ?_ | refine Exists.intro _ (And.intro (wI (by omega)) ?_) | refine Exists.intro _ (And.intro (wU (by omega)) ?_) | refine Exists.intro _ (And.intro ⟨rfl, by omega⟩ ?_) | refine Exists.intro _ (And.intro rfl ?_) | refine And.intro rfl ?_ | refine And.intro ⟨rfl, rfl⟩ ?_ | ((refine And.intro (fun _ => ?_) (fun _ => ?_)) <;> try (exfalso; omega))))
  refine loop_rule (α := Nat) (fun i => i ≤ N ∧ ∀ j, j < i → ltP P (x j) = true) (fun i => [(0, vi P), (1, vi q), (3, .sl 0), (6, .ptr 1 0), (10, vi i)]) (fun _ => [.pr T_int64 1 N (il x N), .pc (pcl n m) T_i_Diagram]) (fun i => N - i) 0 [0, 1]
    ⟨by omega, fun j hj => by omega⟩ ⟨⟨rfl, rfl, rfl, rfl, rfl, trivial⟩, ⟨rfl, rfl, trivial⟩, rfl⟩ ?_
  rintro i g ⟨hi, hno⟩
  by_cases h9 : i < N
  · have hin := s_in (x i) 0 ((P : Int) - 1)
    by_cases hx : ltP P (x i) = true
    · rw [show decide (0 ≤ x i ∧ x i ≤ (P : Int) - 1) = true from hx] at hin
      (repeat' (first | refine Exists.intro _ (And.intro (il_at h9) ?_) | refine Exists.intro _ (And.intro e2 ?_) | refine (hin).pure rfl ?_ | refine And.intro (neI rfl) ?_ | refine And.intro ⟨rfl, leR rfl, onesR rfl⟩ ?_ | refine And.intro ⟨rfl, leR rfl⟩ ?_ | refine draw_rule2 hfol (fun KK hKK => ?_) | refine hKK _ _ _ (by kernel_rfl) ?_ | refine region_rule (fun KK hKK => ?_) | refine hKK _ _ ?_ | refine And.intro (Eq.refl true) ?_ | refine Exists.intro _ (And.intro (wI (by omega)) ?_) | refine Exists.intro _ (And.intro (wU (by omega)) ?_) | refine Exists.intro _ (And.intro ⟨rfl, by omega⟩ ?_) | refine Exists.intro _ (And.intro rfl ?_) | refine And.intro rfl ?_ | refine And.intro ⟨rfl, rfl⟩ ?_ | ((refine And.intro (fun _ => ?_) (fun _ => ?_)) <;> try (exfalso; omega))))
      refine Exists.intro (i + 1) (Exists.intro [0, 1] (And.intro ⟨⟨by omega, fun j hj => ?_⟩, (by show N - (i + 1) < N - i; omega)⟩ ⟨⟨rfl, rfl, rfl, rfl, rfl, trivial⟩, ⟨rfl, rfl, trivial⟩, rfl⟩))
      by_cases hji : j = i
      · subst hji; exact hx
      · exact hno j (by omega)
    · have hr : apC P q n m x N = 1 := by unfold apC; rw [if_pos hv, if_pos h6, if_neg (fun h => hx (h.2.2 i h9))]
      rw [show decide (0 ≤ x i ∧ x i ≤ (P : Int) - 1) = false from boolF hx] at hin
      (repeat' (first | refine Exists.intro _ (And.intro (il_at h9) ?_) | refine Exists.intro _ (And.intro e2 ?_) | refine (hin).pure rfl ?_ | refine And.intro (neI rfl) ?_ | refine And.intro ⟨rfl, leR rfl, onesR rfl⟩ ?_ | refine And.intro ⟨rfl, leR rfl⟩ ?_ | refine draw_rule2 hfol (fun KK hKK => ?_) | refine hKK _ _ _ (by kernel_rfl) ?_ | refine region_rule (fun KK hKK => ?_) | refine hKK _ _ ?_ | refine And.intro (Eq.refl true) ?_ | refine Exists.intro _ (And.intro (wI (by omega)) ?_) | refine Exists.intro _ (And.intro (wU (by omega)) ?_) | refine Exists.intro _ (And.intro ⟨rfl, by omega⟩ ?_) | refine Exists.intro _ (And.intro rfl ?_) | refine And.intro rfl ?_ | refine And.intro ⟨rfl, rfl⟩ ?_ | ((refine And.intro (fun _ => ?_) (fun _ => ?_)) <;> try (exfalso; omega))))
      exact Exists.intro [0] (And.intro (by rw [hr]; rfl) (And.intro ⟨rfl, trivial⟩ rfl))
  have h9 : i = N := by omega
  have hnm : ¬ nmB P q = true := fun h => hc (by unfold apC; rw [if_pos hv, if_pos h6, if_pos ⟨hpr, hNn, by rw [← h9]; exact hno⟩, if_pos h])
  have hr : apC P q n m x N = 2 := by unfold apC; rw [if_pos hv, if_pos h6, if_pos ⟨hpr, hNn, by rw [← h9]; exact hno⟩, if_neg hnm]
  rw [boolF hnm] at h3
  (repeat' (first | refine (h3).pure rfl ?_ | refine And.intro (neI rfl) ?_ | refine And.intro ⟨rfl, leR rfl, onesR rfl⟩ ?_ | refine And.intro ⟨rfl, leR rfl⟩ ?_ | refine draw_rule2 hfol (fun KK hKK => ?_) | refine hKK _ _ _ (by kernel_rfl) ?_ | refine region_rule (fun KK hKK => ?_) | refine hKK _ _ ?_ | refine And.intro (Eq.refl true) ?_ | refine Exists.intro _ (And.intro (wI (by omega)) ?_) | refine Exists.intro _ (And.intro (wU (by omega)) ?_) | refine Exists.intro _ (And.intro ⟨rfl, by omega⟩ ?_) | refine Exists.intro _ (And.intro rfl ?_) | refine And.intro rfl ?_ | refine And.intro ⟨rfl, rfl⟩ ?_ | ((refine And.intro (fun _ => ?_) (fun _ => ?_)) <;> try (exfalso; omega))))
  exact Exists.intro [0] (And.intro (by rw [hr]; rfl) (And.intro ⟨rfl, trivial⟩ rfl))
theorem s_iApE (p q s : Int) (m : List Nat) (hm : m.length = 16) (hb : ∀ x ∈ m, x < 256) (x : Nat → Int) (N : Nat) (hN : N ≤ 1048576) (hc : apC p q s m x N ≠ 0) :
    Spec Try.prog n_i_ApplyToSpins [vi p, vi q, pv s m, .sl 0] [.pr T_int64 1 N (il x N)] (.tup [.raw (.slice none 0 0), vi (apC p q s m x N)]) [.pr T_int64 1 N (il x N)] := by
  have h1 := s_invalid1D s m hm hb
  have h2 := s_iprime p
  have h3 := s_spinsOf p q
  refine SpecW.of_EV hf_i_ApplyToSpins hc_i_ApplyToSpins rfl rfl rfl fun w0 B ρ0 _ => ?_
  by_cases hv : isDi s m = true
  rotate_left
  · have hr : apC p q s m x N = 1 := if_neg hv
    rw [boolF hv] at h1
    simp only [Bool.not_false, cond_true] at h1
    (repeat' (first | refine (h1).read [3] rfl ⟨rfl, trivial⟩ ?_ | refine Exists.intro (pcl s m) (And.intro ⟨pcl_len hm, pcl_all hm⟩ ?_) | refine And.intro ⟨pcl_len hm, leR rfl, pcl_ones⟩ ?_ | refine Exists.intro (pcl s m) (And.intro ⟨leR rfl, spl0 (leR rfl)⟩ ?_) | refine And.intro ⟨pcl_len hm, mkL rfl⟩ ?_ | refine Exists.intro (rowP [(s, m)]) (And.intro (row1 (N := 17) (p := (s, m)) (mkL' rfl)) ?_) | refine And.intro (neI rfl) ?_ | refine And.intro ⟨rfl, leR rfl, onesR rfl⟩ ?_ | refine And.intro ⟨rfl, leR rfl⟩ ?_ | refine draw_rule2 hfol (fun KK hKK => ?_) | refine hKK _ _ _ (by kernel_rfl) ?_ | refine region_rule (fun KK hKK => ?_) | refine hKK _ _ ?_ | refine And.intro (Eq.refl true) ?_ | refine Exists.intro _ (And.intro (wI (by omega)) ?_) | refine Exists.intro _ (And.intro (wU (by omega)) ?_) | refine Exists.intro _ (And.intro ⟨rfl, by omega⟩ ?_) | refine Exists.intro _ (And.intro rfl ?_) | refine And.intro rfl ?_ | refine And.intro ⟨rfl, rfl⟩ ?_ | ((refine And.intro (fun _ => ?_) (fun _ => ?_)) <;> try (exfalso; omega))))
    exact Exists.intro [0] (And.intro (by rw [hr]; rfl) (And.intro ⟨rfl, trivial⟩ rfl))
  rw [hv] at h1
  simp only [Bool.not_true, cond_false] at h1
  obtain ⟨n, rfl, hd⟩ := isDi_elim hm hv
  have hn8 := hd.n8
  by_cases h6 : (n : Int) ≤ 6
  rotate_left
  · have hr : apC p q n m x N = 2 := by unfold apC; rw [if_pos hv, if_neg h6]
    (repeat' (first | refine (h1).read [3] rfl ⟨rfl, trivial⟩ ?_ | refine Exists.intro (pcl (n : Int) m) (And.intro ⟨pcl_len hm, pcl_all hm⟩ ?_) | refine And.intro ⟨pcl_len hm, leR rfl, pcl_ones⟩ ?_ | refine Exists.intro (pcl (n : Int) m) (And.intro ⟨leR rfl, spl0 (leR rfl)⟩ ?_) | refine And.intro ⟨pcl_len hm, mkL rfl⟩ ?_ | refine Exists.intro (rowP [((n : Int), m)]) (And.intro (row1 (N := 17) (p := ((n : Int), m)) (mkL' rfl)) ?_) | refine And.intro (neI rfl) ?_ | refine And.intro ⟨rfl, leR rfl, onesR rfl⟩ ?_ | refine And.intro ⟨rfl, leR rfl⟩ ?_ | refine draw_rule2 hfol (fun KK hKK => ?_) | refine hKK _ _ _ (by kernel_rfl) ?_ | refine region_rule (fun KK hKK => ?_) | refine hKK _ _ ?_ | refine And.intro (Eq.refl true) ?_ | refine Exists.intro _ (And.intro (wI (by omega)) ?_) | refine Exists.intro _ (And.intro (wU (by omega)) ?_) | refine Exists.intro _ (And.intro ⟨rfl, by omega⟩ ?_) | refine Exists.intro _ (And.intro rfl ?_) | refine And.intro rfl ?_ | refine And.intro ⟨rfl, rfl⟩ ?_ | ((refine And.intro (fun _ => ?_) (fun _ => ?_)) <;> try (exfalso; omega))))
    exact Exists.intro [0] (And.intro (by rw [hr]; rfl) (And.intro ⟨rfl, trivial⟩ rfl))
  have hw := s_words n m hn8
  have ht8 := two_pow8 hn8
  by_cases hpr : prI p = true
  rotate_left
  · have hr : apC p q n m x N = 1 := by unfold apC; rw [if_pos hv, if_pos h6, if_neg (fun h => hpr h.1)]
    rw [boolF hpr] at h2
    (repeat' (first | refine (h1).read [3] rfl ⟨rfl, trivial⟩ ?_ | refine (h2).pure rfl ?_ | refine Exists.intro (pcl (n : Int) m) (And.intro ⟨pcl_len hm, pcl_all hm⟩ ?_) | refine And.intro ⟨pcl_len hm, leR rfl, pcl_ones⟩ ?_ | refine Exists.intro (pcl (n : Int) m) (And.intro ⟨leR rfl, spl0 (leR rfl)⟩ ?_) | refine And.intro ⟨pcl_len hm, mkL rfl⟩ ?_ | refine Exists.intro (rowP [((n : Int), m)]) (And.intro (row1 (N := 17) (p := ((n : Int), m)) (mkL' rfl)) ?_) | refine And.intro (neI rfl) ?_ | refine And.intro ⟨rfl, leR rfl, onesR rfl⟩ ?_ | refine And.intro ⟨rfl, leR rfl⟩ ?_ | refine draw_rule2 hfol (fun KK hKK => ?_) | refine hKK _ _ _ (by kernel_rfl) ?_ | refine region_rule (fun KK hKK => ?_) | refine hKK _ _ ?_ | refine And.intro (Eq.refl true) ?_ | refine Exists.intro _ (And.intro (wI (by omega)) ?_) | refine Exists.intro _ (And.intro (wU (by omega)) ?_) | refine Exists.intro _ (And.intro ⟨rfl, by omega⟩ ?_) | refine Exists.intro _ (And.intro rfl ?_) | refine And.intro rfl ?_ | refine And.intro ⟨rfl, rfl⟩ ?_ | ((refine And.intro (fun _ => ?_) (fun _ => ?_)) <;> try (exfalso; omega))))
    exact Exists.intro [0] (And.intro (by rw [hr]; rfl) (And.intro ⟨rfl, trivial⟩ rfl))
  rw [hpr] at h2
  by_cases hNn : N = 2 ^ n
  rotate_left
  · have hr : apC p q n m x N = 1 := by unfold apC; rw [if_pos hv, if_pos h6, if_neg (fun h => hNn h.2.1)]
    (repeat' (first | refine (h1).read [3] rfl ⟨rfl, trivial⟩ ?_ | refine (h2).pure rfl ?_ | refine Exists.intro (pcl (n : Int) m) (And.intro ⟨pcl_len hm, pcl_all hm⟩ ?_) | refine And.intro ⟨pcl_len hm, leR rfl, pcl_ones⟩ ?_ | refine Exists.intro (pcl (n : Int) m) (And.intro ⟨leR rfl, spl0 (leR rfl)⟩ ?_) | refine And.intro ⟨pcl_len hm, mkL rfl⟩ ?_ | refine Exists.intro (rowP [((n : Int), m)]) (And.intro (row1 (N := 17) (p := ((n : Int), m)) (mkL' rfl)) ?_) | refine (hw).read [2] rfl ⟨rfl, trivial⟩ ?_ | refine And.intro (neI rfl) ?_ | refine And.intro ⟨rfl, leR rfl, onesR rfl⟩ ?_ | refine And.intro ⟨rfl, leR rfl⟩ ?_ | refine draw_rule2 hfol (fun KK hKK => ?_) | refine hKK _ _ _ (by kernel_rfl) ?_ | refine region_rule (fun KK hKK => ?_) | refine hKK _ _ ?_ | refine And.intro (Eq.refl true) ?_ | refine Exists.intro _ (And.intro (wI (by omega)) ?_) | refine Exists.intro _ (And.intro (wU (by omega)) ?_) | refine Exists.intro _ (And.intro ⟨rfl, by omega⟩ ?_) | refine Exists.intro _ (And.intro rfl ?_) | refine And.intro rfl ?_ | refine And.intro ⟨rfl, rfl⟩ ?_ | ((refine And.intro (fun _ => ?_) (fun _ => ?_)) <;> try (exfalso; omega))))
    exact Exists.intro [0] (And.intro (by rw [hr]; rfl) (And.intro ⟨rfl, trivial⟩ rfl))
  subst hNn
  obtain ⟨P, rfl, a1, a2, a3⟩ := prI_elim hpr
  by_cases hx : ∀ j, j < 2 ^ n → ltP P (x j) = true
  · have hany := s_anyct n_i_ApplyToSpins_1 P (ltP P) (fun i => s_ap1 P i (by omega)) x (2 ^ n) (by omega) true (decide_eq_true hx)
    have hnm : ¬ nmB P q = true := fun h => hc (by unfold apC; rw [if_pos hv, if_pos h6, if_pos ⟨hpr, rfl, hx⟩, if_pos h])
    have hr : apC P q n m x (2 ^ n) = 2 := by unfold apC; rw [if_pos hv, if_pos h6, if_pos ⟨hpr, rfl, hx⟩, if_neg hnm]
    have hsp : spR P q = (0, 0, 0, false) := if_neg hnm
    rw [hsp] at h3
    (repeat' (first | refine (h1).read [3] rfl ⟨rfl, trivial⟩ ?_ | refine (h2).pure rfl ?_ | refine Exists.intro (pcl (n : Int) m) (And.intro ⟨pcl_len hm, pcl_all hm⟩ ?_) | refine And.intro ⟨pcl_len hm, leR rfl, pcl_ones⟩ ?_ | refine Exists.intro (pcl (n : Int) m) (And.intro ⟨leR rfl, spl0 (leR rfl)⟩ ?_) | refine And.intro ⟨pcl_len hm, mkL rfl⟩ ?_ | refine Exists.intro (rowP [((n : Int), m)]) (And.intro (row1 (N := 17) (p := ((n : Int), m)) (mkL' rfl)) ?_) | refine (hw).read [2] rfl ⟨rfl, trivial⟩ ?_ | refine (hany).read [0,1] rfl ⟨rfl, rfl, trivial⟩ ?_ | refine (h3).pure rfl ?_ | refine Exists.intro (spV 0 0 0) (And.intro ⟨rfl, rfl⟩ ?_) | refine Exists.intro (spV 0 0 0) (And.intro ⟨leR rfl, rfl⟩ ?_) | refine And.intro (neI rfl) ?_ | refine And.intro ⟨rfl, leR rfl, onesR rfl⟩ ?_ | refine And.intro ⟨rfl, leR rfl⟩ ?_ | refine draw_rule2 hfol (fun KK hKK => ?_) | refine hKK _ _ _ (by kernel_rfl) ?_ | refine region_rule (fun KK hKK => ?_) | refine hKK _ _ ?_ | refine And.intro (Eq.refl true) ?_ | refine Exists.intro _ (And.intro (wI (by omega)) ?_) | refine Exists.intro _ (And.intro (wU (by omega)) ?_) | refine Exists.intro _ (And.intro ⟨rfl, by omega⟩ ?_) | refine Exists.intro _ (And.intro rfl ?_) | refine And.intro rfl ?_ | refine And.intro ⟨rfl, rfl⟩ ?_ | ((refine And.intro (fun _ => ?_) (fun _ => ?_)) <;> try (exfalso; omega))))
    exact Exists.intro [0] (And.intro (by rw [hr]; rfl) (And.intro ⟨rfl, trivial⟩ rfl))
  · have hany := s_anyct n_i_ApplyToSpins_1 P (ltP P) (fun i => s_ap1 P i (by omega)) x (2 ^ n) (by omega) false (decide_eq_false hx)
    have hr : apC P q n m x (2 ^ n) = 1 := by unfold apC; rw [if_pos hv, if_pos h6, if_neg (fun h => hx h.2.2)]
    (repeat' (first | refine (h1).read [3] rfl ⟨rfl, trivial⟩ ?_ | refine (h2).pure rfl ?_ | refine Exists.intro (pcl (n : Int) m) (And.intro ⟨pcl_len hm, pcl_all hm⟩ ?_) | refine And.intro ⟨pcl_len hm, leR rfl, pcl_ones⟩ ?_ | refine Exists.intro (pcl (n : Int) m) (And.intro ⟨leR rfl, spl0 (leR rfl)⟩ ?_) | refine And.intro ⟨pcl_len hm, mkL rfl⟩ ?_ | refine Exists.intro (rowP [((n : Int), m)]) (And.intro (row1 (N := 17) (p := ((n : Int), m)) (mkL' rfl)) ?_) | refine (hw).read [2] rfl ⟨rfl, trivial⟩ ?_ | refine (hany).read [0,1] rfl ⟨rfl, rfl, trivial⟩ ?_ | refine And.intro (neI rfl) ?_ | refine And.intro ⟨rfl, leR rfl, onesR rfl⟩ ?_ | refine And.intro ⟨rfl, leR rfl⟩ ?_ | refine draw_rule2 hfol (fun KK hKK => ?_) | refine hKK _ _ _ (by kernel_rfl) ?_ | refine region_rule (fun KK hKK => ?_) | refine hKK _ _ ?_ | refine And.intro (Eq.refl true) ?_ | refine Exists.intro _ (And.intro (wI (by omega)) ?_) | refine Exists.intro _ (And.intro (wU (by omega)) ?_) | refine Exists.intro _ (And.intro ⟨rfl, by omega⟩ ?_) | refine Exists.intro _ (And.intro rfl ?_) | refine And.intro rfl ?_ | refine And.intro ⟨rfl, rfl⟩ ?_ | ((refine And.intro (fun _ => ?_) (fun _ => ?_)) <;> try (exfalso; omega))))
    exact Exists.intro [0] (And.intro (by rw [hr]; rfl) (And.intro ⟨rfl, trivial⟩ rfl))
theorem s_lawApE {W : World → (Nat → Prop) → Prop} {v : Value} {x : Nat → Int} {N : Nat} (hA : ArgI W v x N) (p q s : Int) (m : List Nat) (hm : m.length = 16) (hb : ∀ x ∈ m, x < 256) (hN : N ≤ 1048576) (hc : apC p q s m x N ≠ 0) :
    SpecW Try.prog W n_l_FnExactApplyToSpins [vi p, vi q, pv s m, .raw v] [] (vb true) [] := by
  obtain ⟨a, cap, hv⟩ := hA.form
  have h1 := s_sApE p q s m hm hb x N hN hc
  have h2 := s_iApE p q s m hm hb x N hN hc
  generalize apC p q s m x N = c at h1 h2
  have ht := s_toI hA hN
  have he := s_eqI x N (by omega)
  have hm1 := s_markI x N 1 (by omega) (by omega)
  have hm0 := s_markI0 1
  have hh0 := s_heldI0 1
  refine SpecW.of_EV hf_l_FnExactApplyToSpins hc_l_FnExactApplyToSpins rfl rfl rfl fun w0 B ρ0 hW => ?_
  have hp := ArgK.pass (Γ := ⟨w0, B, ([] : List O).length, ρ0⟩) hA hW
  rw [hv] at ht ⊢
  (repeat' (first | refine (s_toD s m hm).pure rfl ?_ | refine ht.makeW hp [] rfl trivial ?_ | refine (h1).read [1] rfl ⟨rfl, trivial⟩ ?_ | refine (h2).read [2] rfl ⟨rfl, trivial⟩ ?_ | refine (h2).read [4] rfl ⟨rfl, trivial⟩ ?_ | refine (s_eqI0).pure rfl ?_ | refine (he).read [2,3] rfl ⟨rfl, rfl, trivial⟩ ?_ | refine (hm1).make [2] rfl ⟨rfl, trivial⟩ ?_ | refine (hm0).pure rfl ?_ | refine (hh0).pure rfl ?_ | refine Exists.intro (pcl s m) (And.intro ⟨pcl_len hm, pcl_all hm⟩ ?_) | refine And.intro ⟨pcl_len hm, leR rfl, pcl_ones⟩ ?_ | refine Exists.intro (pcl s m) (And.intro ⟨leR rfl, spl0 (leR rfl)⟩ ?_) | refine And.intro (fun h => absurd rfl h) (fun _ => ?_) | refine And.intro (fun _ => ?_) (fun h => absurd rfl h) | refine And.intro (neI rfl) ?_ | refine And.intro ⟨rfl, leR rfl, onesR rfl⟩ ?_ | refine And.intro ⟨rfl, leR rfl⟩ ?_ | refine draw_rule2 hfol (fun KK hKK => ?_) | refine hKK _ _ _ (by kernel_rfl) ?_ | refine region_rule (fun KK hKK => ?_) | refine hKK _ _ ?_ | refine And.intro (Eq.refl true) ?_ | refine Exists.intro _ (And.intro (wI (by omega)) ?_) | refine Exists.intro _ (And.intro (wU (by omega)) ?_) | refine Exists.intro _ (And.intro ⟨rfl, by omega⟩ ?_) | refine Exists.intro _ (And.intro rfl ?_) | refine And.intro rfl ?_ | refine And.intro ⟨rfl, rfl⟩ ?_ | ((refine And.intro (fun _ => ?_) (fun _ => ?_)) <;> try (exfalso; omega))))
  exact finP rfl
theorem s_lawApO {W : World → (Nat → Prop) → Prop} {v : Value} {x : Nat → Int} (n : Nat) (hA : ArgI W v x (2 ^ n)) (p q : Int) (m : List Nat) (hm : m.length = 16) (G : Nat → Int) (hn : n ≤ 8)
    (h1 : Spec Try.prog n_s_ApplyToSpins [vi p, vi q, pv n m, .sl 0] [.pr T_int64 1 (2 ^ n) (il x (2 ^ n))] (.tup [.sl 1, vi 0]) [.pr T_int64 1 (2 ^ n) (il x (2 ^ n)), .pr T_int64 1 (2 ^ n) (il G (2 ^ n))])
    (h2 : Spec Try.prog n_i_ApplyToSpins [vi p, vi q, pv n m, .sl 0] [.pr T_int64 1 (2 ^ n) (il x (2 ^ n))] (.tup [.sl 1, vi 0]) [.pr T_int64 1 (2 ^ n) (il x (2 ^ n)), .pr T_int64 1 (2 ^ n) (il G (2 ^ n))]) :
    SpecW Try.prog W n_l_FnExactApplyToSpins [vi p, vi q, pv n m, .raw v] [] (vb true) [] := by
  obtain ⟨a, cap, hv⟩ := hA.form
  have ht8 := two_pow8 hn
  have ht := s_toI hA (by omega)
  have he := s_eqI x (2 ^ n) (by omega)
  have heG := s_eqI G (2 ^ n) (by omega)
  have hm1 := s_markI x (2 ^ n) 1 (by omega) (by omega)
  have hmG := s_markI G (2 ^ n) 1 (by omega) (by omega)
  have hhG := s_heldI (2 ^ n) 1 (by omega) (by omega)
  refine SpecW.of_EV hf_l_FnExactApplyToSpins hc_l_FnExactApplyToSpins rfl rfl rfl fun w0 B ρ0 hW => ?_
  have hp := ArgK.pass (Γ := ⟨w0, B, ([] : List O).length, ρ0⟩) hA hW
  rw [hv] at ht ⊢
  (repeat' (first | refine (s_toD n m hm).pure rfl ?_ | refine ht.makeW hp [] rfl trivial ?_ | refine (h1).make [1] rfl ⟨rfl, trivial⟩ ?_ | refine (h2).make [3] rfl ⟨rfl, trivial⟩ ?_ | refine (h2).make [6] rfl ⟨rfl, trivial⟩ ?_ | refine (heG).read [4,2] rfl ⟨rfl, rfl, trivial⟩ ?_ | refine (heG).read [7,2] rfl ⟨rfl, rfl, trivial⟩ ?_ | refine (he).read [3,5] rfl ⟨rfl, rfl, trivial⟩ ?_ | refine (hm1).make [3] rfl ⟨rfl, trivial⟩ ?_ | refine (hmG).make [4] rfl ⟨rfl, trivial⟩ ?_ | refine (hhG).read [4] rfl ⟨rfl, trivial⟩ ?_ | refine Exists.intro (pcl (n : Int) m) (And.intro ⟨pcl_len hm, pcl_all hm⟩ ?_) | refine And.intro ⟨pcl_len hm, leR rfl, pcl_ones⟩ ?_ | refine Exists.intro (pcl (n : Int) m) (And.intro ⟨leR rfl, spl0 (leR rfl)⟩ ?_) | refine And.intro (fun h => absurd rfl h) (fun _ => ?_) | refine And.intro (fun _ => ?_) (fun h => absurd rfl h) | refine And.intro (neI rfl) ?_ | refine And.intro ⟨rfl, leR rfl, onesR rfl⟩ ?_ | refine And.intro ⟨rfl, leR rfl⟩ ?_ | refine draw_rule2 hfol (fun KK hKK => ?_) | refine hKK _ _ _ (by kernel_rfl) ?_ | refine region_rule (fun KK hKK => ?_) | refine hKK _ _ ?_ | refine And.intro (Eq.refl true) ?_ | refine Exists.intro _ (And.intro (wI (by omega)) ?_) | refine Exists.intro _ (And.intro (wU (by omega)) ?_) | refine Exists.intro _ (And.intro ⟨rfl, by omega⟩ ?_) | refine Exists.intro _ (And.intro rfl ?_) | refine And.intro rfl ?_ | refine And.intro ⟨rfl, rfl⟩ ?_ | ((refine And.intro (fun _ => ?_) (fun _ => ?_)) <;> try (exfalso; omega))))
  exact finP rfl
theorem s_lawAp {W : World → (Nat → Prop) → Prop} {v : Value} {x : Nat → Int} {N : Nat} (p : Int) (_ : -9223372036854775808 ≤ p ∧ p ≤ 9223372036854775807) (q : Int) (_ : -9223372036854775808 ≤ q ∧ q ≤ 9223372036854775807) (s : Int) (m : List Nat) (hm : m.length = 16) (hb : ∀ x ∈ m, x < 256) (hA : ArgI W v x N) :
    SpecW Try.prog W n_l_FnExactApplyToSpins [vi p, vi q, pv s m, .raw v] [] (vb true) [] := by
  by_cases hN : N ≤ 1048576
  · by_cases hc : apC p q s m x N = 0
    · have hc' := hc
      unfold apC at hc'
      split at hc'
      · rename_i h1
        split at hc'
        · rename_i h2
          split at hc'
          · rename_i h3
            split at hc'
            · rename_i h4
              obtain ⟨n, rfl, hd⟩ := isDi_elim hm h1
              obtain ⟨P, Q, hpP, hqQ, a1, a2, a3, a4, a5⟩ := nmB_elim h4
              obtain ⟨h5, h6, h7⟩ := h3
              rw [Int.toNat_natCast] at h6
              subst h6 hpP hqQ
              exact s_lawApO n hA P Q m hm _ hd.n8 (s_sAp P Q n m hm hd x P Q rfl rfl (by omega) a1 a2 a3 a4 a5 hb h1 h5 h4 h7) (s_iAp P Q n m hm hd x P Q rfl rfl (by omega) a1 a2 a3 a4 a5 hb h1 h5 h4 h7)
            · cases hc'
          · cases hc'
        · cases hc'
      · cases hc'
    · exact s_lawApE hA p q s m hm hb hN hc
  · obtain ⟨a, cap, hv⟩ := hA.form
    refine SpecW.of_EV hf_l_FnExactApplyToSpins hc_l_FnExactApplyToSpins rfl rfl rfl fun w0 B ρ0 hW => ?_
    rw [hv]
    (repeat' (first | refine Exists.intro (pcl s m) (And.intro ⟨pcl_len hm, pcl_all hm⟩ ?_) | refine And.intro ⟨pcl_len hm, leR rfl, pcl_ones⟩ ?_ | refine Exists.intro (pcl s m) (And.intro ⟨leR rfl, spl0 (leR rfl)⟩ ?_) | refine And.intro (neI rfl) ?_ | refine And.intro ⟨rfl, leR rfl, onesR rfl⟩ ?_ | refine And.intro ⟨rfl, leR rfl⟩ ?_ | refine draw_rule2 hfol (fun KK hKK => ?_) | refine hKK _ _ _ (by kernel_rfl) ?_ | refine region_rule (fun KK hKK => ?_) | refine hKK _ _ ?_ | refine And.intro (Eq.refl true) ?_ | refine Exists.intro _ (And.intro (wI (by omega)) ?_) | refine Exists.intro _ (And.intro (wU (by omega)) ?_) | refine Exists.intro _ (And.intro ⟨rfl, by omega⟩ ?_) | refine Exists.intro _ (And.intro rfl ?_) | refine And.intro rfl ?_ | refine And.intro ⟨rfl, rfl⟩ ?_ | ((refine And.intro (fun _ => ?_) (fun _ => ?_)) <;> try (exfalso; omega))))
    exact finP rfl
end Go.Proofs.Ytimigbgpldjefaa.VE
