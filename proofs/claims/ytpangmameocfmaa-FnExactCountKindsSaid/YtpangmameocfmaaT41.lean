/- Contracts of functions of the given program, for all arguments that the contract names; see each theorem. -/
import Derived.Test.YtpangmameocfmaaT40
set_option linter.all false
namespace Go.Proofs.Ytpangmameocfmaa.VE.P
open Go
set_option maxHeartbeats 1600000
set_option maxRecDepth 100000

abbrev rO (n : Nat) (l : List (List Nat)) : O := .pr T_i_Partition 9 l.length (rPn n l)
theorem rO_app {n : Nat} {a b : List (List Nat)} {N : Nat} (hN : a.length + b.length = N) : O.pr T_i_Partition 9 N (rPn n (a ++ b)) = rO n (a ++ b) := by
  rw [rO, List.length_append, hN]

theorem s_fill (n : Nat) (hn1 : 1 ≤ n) (hn : n ≤ 4) : ∀ d m i nx, i + d = 2 * n → m.length = 8 → nx + d ≤ 8 →
    Spec Try.prog n_s_l07Fill [.raw (.slice none 0 0), pv n m, vi i, vu nx] [] (.sl 0) [rO n (fillL d m i nx)] ∧
    ∀ l : List (List Nat), l.length + 9 ^ d ≤ 1000000000 → Spec Try.prog n_s_l07Fill [.sl 0, pv n m, vi i, vu nx] [rO n l] (.sl 1) [.dead, rO n (l ++ fillL d m i nx)]
  | 0, m, i, nx, hi, hm, hnx => by
    have hi' : i = 2 * n := by omega
    subst hi'
    have w2 : IntKind.i64.wrap (2 * (n : Int)) = ((2 * n : Nat) : Int) := wC (by omega) (by omega)
    constructor
    · refine SpecW.of_EV hf_s_l07Fill hc_s_l07Fill rfl rfl rfl fun w0 B ρ0 _ => ?_
      (repeat' (first | refine Exists.intro (pcl (n : Int) m) (And.intro ⟨pcl_len hm, pcl_all hm⟩ ?_) | refine And.intro ⟨pcl_len hm, leR rfl, pcl_ones⟩ ?_ | refine Exists.intro (pcl (n : Int) m) (And.intro ⟨leR rfl, spl0 (leR rfl)⟩ ?_) | refine Exists.intro _ (And.intro w2 ?_) | refine And.intro ⟨pcl_len hm, mkL rfl⟩ ?_ | refine Exists.intro (pcl n m) (And.intro (row1sP (N := 9) (mkL' rfl)) ?_) | refine And.intro ⟨rfl, pcl_ones, by omega, by omega⟩ ?_ | refine And.intro (neI rfl) ?_ | refine And.intro ⟨rfl, leR rfl, onesR rfl⟩ ?_ | refine And.intro ⟨rfl, leR rfl⟩ ?_ | refine draw_rule2 hfol (fun KK hKK => ?_) | refine hKK _ _ _ (by kernel_rfl) ?_ | refine region_rule (fun KK hKK => ?_) | refine hKK _ _ ?_ | refine And.intro (Eq.refl true) ?_ | refine Exists.intro _ (And.intro (wI (by omega)) ?_) | refine Exists.intro _ (And.intro (wU (by omega)) ?_) | refine Exists.intro _ (And.intro ⟨rfl, by omega⟩ ?_) | refine Exists.intro _ (And.intro rfl ?_) | refine And.intro rfl ?_ | refine And.intro ⟨rfl, rfl⟩ ?_ | ((refine And.intro (fun _ => ?_) (fun _ => ?_)) <;> try (exfalso; omega))))
      exact Exists.intro [2] (And.intro rfl (And.intro ⟨congrArg some (congrArg (O.pr T_i_Partition 9 1) rPn_one.symm), trivial⟩ rfl))
    · intro l hl
      refine SpecW.of_EV hf_s_l07Fill hc_s_l07Fill rfl rfl rfl fun w0 B ρ0 _ => ?_
      (repeat' (first | refine Exists.intro (pcl (n : Int) m) (And.intro ⟨pcl_len hm, pcl_all hm⟩ ?_) | refine And.intro ⟨pcl_len hm, leR rfl, pcl_ones⟩ ?_ | refine Exists.intro (pcl (n : Int) m) (And.intro ⟨leR rfl, spl0 (leR rfl)⟩ ?_) | refine Exists.intro _ (And.intro w2 ?_) | refine And.intro ⟨pcl_len hm, mkL rfl⟩ ?_ | refine Exists.intro (pcl n m) (And.intro (row1sP (N := 9) (mkL' rfl)) ?_) | refine Exists.intro (rPn n (l ++ [m])) (And.intro ⟨rfl, pcl_ones, by omega, by omega, by rw [rPn_append, rPn_one]⟩ ?_) | refine And.intro (neI rfl) ?_ | refine And.intro ⟨rfl, leR rfl, onesR rfl⟩ ?_ | refine And.intro ⟨rfl, leR rfl⟩ ?_ | refine draw_rule2 hfol (fun KK hKK => ?_) | refine hKK _ _ _ (by kernel_rfl) ?_ | refine region_rule (fun KK hKK => ?_) | refine hKK _ _ ?_ | refine And.intro (Eq.refl true) ?_ | refine Exists.intro _ (And.intro (wI (by omega)) ?_) | refine Exists.intro _ (And.intro (wU (by omega)) ?_) | refine Exists.intro _ (And.intro ⟨rfl, by omega⟩ ?_) | refine Exists.intro _ (And.intro rfl ?_) | refine And.intro rfl ?_ | refine And.intro ⟨rfl, rfl⟩ ?_ | ((refine And.intro (fun _ => ?_) (fun _ => ?_)) <;> try (exfalso; omega))))
      exact Exists.intro [0, 3] (And.intro rfl (And.intro ⟨rfl, congrArg some (rO_app (a := l) (b := [m]) rfl), trivial⟩ rfl))
  | d + 1, m, i, nx, hi, hm, hnx => by
    have w2 : IntKind.i64.wrap (2 * (n : Int)) = ((2 * n : Nat) : Int) := wC (by omega) (by omega)
    have hne : ((i : Int) = ((2 * n : Nat) : Int)) → False := fun h => by omega
    have ih := fun m i nx => s_fill n hn1 hn d m i nx
    have hkl := fillK_len (d := d) (m := m) (i := i) (nx := nx) hnx
    constructor
    · refine SpecW.of_EV hf_s_l07Fill hc_s_l07Fill rfl rfl rfl fun w0 B ρ0 _ => ?_
      (repeat' (first | refine Exists.intro (pcl (n : Int) m) (And.intro ⟨pcl_len hm, pcl_all hm⟩ ?_) | refine And.intro ⟨pcl_len hm, leR rfl, pcl_ones⟩ ?_ | refine Exists.intro (pcl (n : Int) m) (And.intro ⟨leR rfl, spl0 (leR rfl)⟩ ?_) | refine Exists.intro _ (And.intro w2 ?_) | refine And.intro (neI rfl) ?_ | refine And.intro ⟨rfl, leR rfl, onesR rfl⟩ ?_ | refine And.intro ⟨rfl, leR rfl⟩ ?_ | refine draw_rule2 hfol (fun KK hKK => ?_) | refine hKK _ _ _ (by kernel_rfl) ?_ | refine region_rule (fun KK hKK => ?_) | refine hKK _ _ ?_ | refine And.intro (Eq.refl true) ?_ | refine Exists.intro _ (And.intro (wI (by omega)) ?_) | refine Exists.intro _ (And.intro (wU (by omega)) ?_) | refine Exists.intro _ (And.intro ⟨rfl, by omega⟩ ?_) | refine Exists.intro _ (And.intro rfl ?_) | refine And.intro rfl ?_ | refine And.intro ⟨rfl, rfl⟩ ?_ | ((refine And.intro (fun _ => ?_) (fun _ => ?_)) <;> try (exfalso; omega))))
      refine loop_rule (α := Nat × List Nat) (fun (k, m') => k ≤ nx + 1 ∧ m'.length = 8 ∧ ∀ q, m'.set i q = m.set i q)
        (fun (k, m') => match k with
          | 0 => [(0, .raw (.slice none 0 0)), (2, vi i), (3, vu nx), (5, .ptr 0 0), (9, vu (0 : Nat))]
          | k + 1 => [(0, .sl 1), (2, vi i), (3, vu nx), (5, .ptr 0 0), (9, vu (k + 1 : Nat))])
        (fun (k, m') => match k with
          | 0 => [.pc (pcl n m') T_i_Partition]
          | k + 1 => [.pc (pcl n m') T_i_Partition, rO n (fillK d m i nx (k + 1))]) (fun (k, _) => nx + 1 - k) (0, m) [0]
        ⟨by omega, hm, fun _ => rfl⟩ ⟨⟨rfl, rfl, rfl, rfl, rfl, trivial⟩, ⟨rfl, trivial⟩, rfl⟩ ?_
      rintro ⟨k, m'⟩ g ⟨hk, hm', hset⟩
      have hmk : (m'.set i k).length = 8 := by simpa using hm'
      have hagain : ∀ q, (m'.set i k).set i q = m.set i q := fun q => by rw [List.set_set]; exact hset q
      by_cases h9 : k = nx + 1
      · subst h9
        (repeat' (first | refine And.intro (neI rfl) ?_ | refine And.intro ⟨rfl, leR rfl, onesR rfl⟩ ?_ | refine And.intro ⟨rfl, leR rfl⟩ ?_ | refine draw_rule2 hfol (fun KK hKK => ?_) | refine hKK _ _ _ (by kernel_rfl) ?_ | refine region_rule (fun KK hKK => ?_) | refine hKK _ _ ?_ | refine And.intro (Eq.refl true) ?_ | refine Exists.intro _ (And.intro (wI (by omega)) ?_) | refine Exists.intro _ (And.intro (wU (by omega)) ?_) | refine Exists.intro _ (And.intro ⟨rfl, by omega⟩ ?_) | refine Exists.intro _ (And.intro rfl ?_) | refine And.intro rfl ?_ | refine And.intro ⟨rfl, rfl⟩ ?_ | ((refine And.intro (fun _ => ?_) (fun _ => ?_)) <;> try (exfalso; omega))))
        exact Exists.intro [1] (And.intro rfl (And.intro ⟨rfl, trivial⟩ rfl))
      have hkn : k ≤ nx := by omega
      have h2 := (ih (m'.set i k) (i + 1) (nx1 k nx) (by omega) hmk (by unfold nx1; split <;> omega))
      rw [hset k] at h2
      have hsuc := fillK_succ (d := d) (m := m) (i := i) (nx := nx) (k := k)
      have hlk := hkl k hk
      have hlk2 : 9 ^ d ≤ (nx + 1 - k) * 9 ^ d := Nat.le_mul_of_pos_left _ (by omega)
      have hp9 : 9 ^ (d + 1) ≤ 9 ^ 8 := Nat.pow_le_pow_right (by omega) (by omega)
      rcases k with _ | k
      · have h3 := h2.1
        rw [show fillL d (m.set i 0) (i + 1) (nx1 0 nx) = fillK d m i nx 1 from by rw [hsuc]; rfl] at h3
        by_cases hkx : 0 = nx
        · rw [show nx1 0 nx = nx + 1 from if_pos hkx, ← hset 0] at h3
          (repeat' (first | refine Exists.intro (pcl n (m'.set i 0)) (And.intro ⟨by rw [pcl_len hm']; omega, pcl_set⟩ ?_) | refine Exists.intro (pcl (n : Int) (m'.set i 0)) (And.intro ⟨pcl_len hmk, pcl_all hmk⟩ ?_) | refine And.intro ⟨pcl_len hmk, leR rfl, pcl_ones⟩ ?_ | refine Exists.intro (pcl (n : Int) (m'.set i 0)) (And.intro ⟨leR rfl, spl0 (leR rfl)⟩ ?_) | refine (h3).make [] rfl trivial ?_ | refine And.intro (neI rfl) ?_ | refine And.intro ⟨rfl, leR rfl, onesR rfl⟩ ?_ | refine And.intro ⟨rfl, leR rfl⟩ ?_ | refine draw_rule2 hfol (fun KK hKK => ?_) | refine hKK _ _ _ (by kernel_rfl) ?_ | refine region_rule (fun KK hKK => ?_) | refine hKK _ _ ?_ | refine And.intro (Eq.refl true) ?_ | refine Exists.intro _ (And.intro (wI (by omega)) ?_) | refine Exists.intro _ (And.intro (wU (by omega)) ?_) | refine Exists.intro _ (And.intro ⟨rfl, by omega⟩ ?_) | refine Exists.intro _ (And.intro rfl ?_) | refine And.intro rfl ?_ | refine And.intro ⟨rfl, rfl⟩ ?_ | ((refine And.intro (fun _ => ?_) (fun _ => ?_)) <;> try (exfalso; omega))))
          refine Exists.intro (1, m'.set i 0) (Exists.intro [0, 1] (And.intro ⟨⟨by omega, hmk, hagain⟩, (by show nx + 1 - 1 < nx + 1 - 0; omega)⟩ ⟨⟨rfl, rfl, rfl, rfl, rfl, trivial⟩, ⟨rfl, rfl, trivial⟩, rfl⟩))
        · rw [show nx1 0 nx = nx from if_neg hkx, ← hset 0] at h3
          (repeat' (first | refine Exists.intro (pcl n (m'.set i 0)) (And.intro ⟨by rw [pcl_len hm']; omega, pcl_set⟩ ?_) | refine Exists.intro (pcl (n : Int) (m'.set i 0)) (And.intro ⟨pcl_len hmk, pcl_all hmk⟩ ?_) | refine And.intro ⟨pcl_len hmk, leR rfl, pcl_ones⟩ ?_ | refine Exists.intro (pcl (n : Int) (m'.set i 0)) (And.intro ⟨leR rfl, spl0 (leR rfl)⟩ ?_) | refine (h3).make [] rfl trivial ?_ | refine And.intro (neI rfl) ?_ | refine And.intro ⟨rfl, leR rfl, onesR rfl⟩ ?_ | refine And.intro ⟨rfl, leR rfl⟩ ?_ | refine draw_rule2 hfol (fun KK hKK => ?_) | refine hKK _ _ _ (by kernel_rfl) ?_ | refine region_rule (fun KK hKK => ?_) | refine hKK _ _ ?_ | refine And.intro (Eq.refl true) ?_ | refine Exists.intro _ (And.intro (wI (by omega)) ?_) | refine Exists.intro _ (And.intro (wU (by omega)) ?_) | refine Exists.intro _ (And.intro ⟨rfl, by omega⟩ ?_) | refine Exists.intro _ (And.intro rfl ?_) | refine And.intro rfl ?_ | refine And.intro ⟨rfl, rfl⟩ ?_ | ((refine And.intro (fun _ => ?_) (fun _ => ?_)) <;> try (exfalso; omega))))
          refine Exists.intro (1, m'.set i 0) (Exists.intro [0, 1] (And.intro ⟨⟨by omega, hmk, hagain⟩, (by show nx + 1 - 1 < nx + 1 - 0; omega)⟩ ⟨⟨rfl, rfl, rfl, rfl, rfl, trivial⟩, ⟨rfl, rfl, trivial⟩, rfl⟩))
      · have h3 := h2.2 (fillK d m i nx (k + 1)) (by omega)
        rw [← hsuc] at h3
        by_cases hkx : k + 1 = nx
        · rw [show nx1 (k + 1) nx = nx + 1 from if_pos hkx, ← hset (k + 1)] at h3
          (repeat' (first | refine Exists.intro (pcl n (m'.set i (k + 1))) (And.intro ⟨by rw [pcl_len hm']; omega, pcl_set⟩ ?_) | refine Exists.intro (pcl (n : Int) (m'.set i (k + 1))) (And.intro ⟨pcl_len hmk, pcl_all hmk⟩ ?_) | refine And.intro ⟨pcl_len hmk, leR rfl, pcl_ones⟩ ?_ | refine Exists.intro (pcl (n : Int) (m'.set i (k + 1))) (And.intro ⟨leR rfl, spl0 (leR rfl)⟩ ?_) | refine (h3).make [1] rfl ⟨rfl, trivial⟩ ?_ | refine And.intro (neI rfl) ?_ | refine And.intro ⟨rfl, leR rfl, onesR rfl⟩ ?_ | refine And.intro ⟨rfl, leR rfl⟩ ?_ | refine draw_rule2 hfol (fun KK hKK => ?_) | refine hKK _ _ _ (by kernel_rfl) ?_ | refine region_rule (fun KK hKK => ?_) | refine hKK _ _ ?_ | refine And.intro (Eq.refl true) ?_ | refine Exists.intro _ (And.intro (wI (by omega)) ?_) | refine Exists.intro _ (And.intro (wU (by omega)) ?_) | refine Exists.intro _ (And.intro ⟨rfl, by omega⟩ ?_) | refine Exists.intro _ (And.intro rfl ?_) | refine And.intro rfl ?_ | refine And.intro ⟨rfl, rfl⟩ ?_ | ((refine And.intro (fun _ => ?_) (fun _ => ?_)) <;> try (exfalso; omega))))
          refine Exists.intro (k + 2, m'.set i (k + 1)) (Exists.intro [0, 2] (And.intro ⟨⟨by omega, hmk, hagain⟩, (by show nx + 1 - (k + 2) < nx + 1 - (k + 1); omega)⟩ ⟨⟨rfl, rfl, rfl, rfl, rfl, trivial⟩, ⟨rfl, rfl, trivial⟩, rfl⟩))
        · rw [show nx1 (k + 1) nx = nx from if_neg hkx, ← hset (k + 1)] at h3
          (repeat' (first | refine Exists.intro (pcl n (m'.set i (k + 1))) (And.intro ⟨by rw [pcl_len hm']; omega, pcl_set⟩ ?_) | refine Exists.intro (pcl (n : Int) (m'.set i (k + 1))) (And.intro ⟨pcl_len hmk, pcl_all hmk⟩ ?_) | refine And.intro ⟨pcl_len hmk, leR rfl, pcl_ones⟩ ?_ | refine Exists.intro (pcl (n : Int) (m'.set i (k + 1))) (And.intro ⟨leR rfl, spl0 (leR rfl)⟩ ?_) | refine (h3).make [1] rfl ⟨rfl, trivial⟩ ?_ | refine And.intro (neI rfl) ?_ | refine And.intro ⟨rfl, leR rfl, onesR rfl⟩ ?_ | refine And.intro ⟨rfl, leR rfl⟩ ?_ | refine draw_rule2 hfol (fun KK hKK => ?_) | refine hKK _ _ _ (by kernel_rfl) ?_ | refine region_rule (fun KK hKK => ?_) | refine hKK _ _ ?_ | refine And.intro (Eq.refl true) ?_ | refine Exists.intro _ (And.intro (wI (by omega)) ?_) | refine Exists.intro _ (And.intro (wU (by omega)) ?_) | refine Exists.intro _ (And.intro ⟨rfl, by omega⟩ ?_) | refine Exists.intro _ (And.intro rfl ?_) | refine And.intro rfl ?_ | refine And.intro ⟨rfl, rfl⟩ ?_ | ((refine And.intro (fun _ => ?_) (fun _ => ?_)) <;> try (exfalso; omega))))
          refine Exists.intro (k + 2, m'.set i (k + 1)) (Exists.intro [0, 2] (And.intro ⟨⟨by omega, hmk, hagain⟩, (by show nx + 1 - (k + 2) < nx + 1 - (k + 1); omega)⟩ ⟨⟨rfl, rfl, rfl, rfl, rfl, trivial⟩, ⟨rfl, rfl, trivial⟩, rfl⟩))
    · intro l hl
      refine SpecW.of_EV hf_s_l07Fill hc_s_l07Fill rfl rfl rfl fun w0 B ρ0 _ => ?_
      (repeat' (first | refine Exists.intro (pcl (n : Int) m) (And.intro ⟨pcl_len hm, pcl_all hm⟩ ?_) | refine And.intro ⟨pcl_len hm, leR rfl, pcl_ones⟩ ?_ | refine Exists.intro (pcl (n : Int) m) (And.intro ⟨leR rfl, spl0 (leR rfl)⟩ ?_) | refine Exists.intro _ (And.intro w2 ?_) | refine And.intro (neI rfl) ?_ | refine And.intro ⟨rfl, leR rfl, onesR rfl⟩ ?_ | refine And.intro ⟨rfl, leR rfl⟩ ?_ | refine draw_rule2 hfol (fun KK hKK => ?_) | refine hKK _ _ _ (by kernel_rfl) ?_ | refine region_rule (fun KK hKK => ?_) | refine hKK _ _ ?_ | refine And.intro (Eq.refl true) ?_ | refine Exists.intro _ (And.intro (wI (by omega)) ?_) | refine Exists.intro _ (And.intro (wU (by omega)) ?_) | refine Exists.intro _ (And.intro ⟨rfl, by omega⟩ ?_) | refine Exists.intro _ (And.intro rfl ?_) | refine And.intro rfl ?_ | refine And.intro ⟨rfl, rfl⟩ ?_ | ((refine And.intro (fun _ => ?_) (fun _ => ?_)) <;> try (exfalso; omega))))
      refine loop_rule (α := Nat × List Nat) (fun (k, m') => k ≤ nx + 1 ∧ m'.length = 8 ∧ ∀ q, m'.set i q = m.set i q)
        (fun (k, m') => match k with
          | 0 => [(0, .sl 0), (2, vi i), (3, vu nx), (5, .ptr 1 0), (9, vu (0 : Nat))]
          | k + 1 => [(0, .sl 2), (2, vi i), (3, vu nx), (5, .ptr 1 0), (9, vu (k + 1 : Nat))])
        (fun (k, m') => match k with
          | 0 => [rO n l, .pc (pcl n m') T_i_Partition]
          | k + 1 => [.dead, .pc (pcl n m') T_i_Partition, rO n (l ++ fillK d m i nx (k + 1))]) (fun (k, _) => nx + 1 - k) (0, m) [0, 1]
        ⟨by omega, hm, fun _ => rfl⟩ ⟨⟨rfl, rfl, rfl, rfl, rfl, trivial⟩, ⟨rfl, rfl, trivial⟩, rfl⟩ ?_
      rintro ⟨k, m'⟩ g ⟨hk, hm', hset⟩
      have hmk : (m'.set i k).length = 8 := by simpa using hm'
      have hagain : ∀ q, (m'.set i k).set i q = m.set i q := fun q => by rw [List.set_set]; exact hset q
      by_cases h9 : k = nx + 1
      · subst h9
        (repeat' (first | refine And.intro (neI rfl) ?_ | refine And.intro ⟨rfl, leR rfl, onesR rfl⟩ ?_ | refine And.intro ⟨rfl, leR rfl⟩ ?_ | refine draw_rule2 hfol (fun KK hKK => ?_) | refine hKK _ _ _ (by kernel_rfl) ?_ | refine region_rule (fun KK hKK => ?_) | refine hKK _ _ ?_ | refine And.intro (Eq.refl true) ?_ | refine Exists.intro _ (And.intro (wI (by omega)) ?_) | refine Exists.intro _ (And.intro (wU (by omega)) ?_) | refine Exists.intro _ (And.intro ⟨rfl, by omega⟩ ?_) | refine Exists.intro _ (And.intro rfl ?_) | refine And.intro rfl ?_ | refine And.intro ⟨rfl, rfl⟩ ?_ | ((refine And.intro (fun _ => ?_) (fun _ => ?_)) <;> try (exfalso; omega))))
        exact Exists.intro [0, 2] (And.intro rfl (And.intro ⟨rfl, rfl, trivial⟩ rfl))
      have hkn : k ≤ nx := by omega
      have h2 := (ih (m'.set i k) (i + 1) (nx1 k nx) (by omega) hmk (by unfold nx1; split <;> omega))
      rw [hset k] at h2
      have hsuc := fillK_succ (d := d) (m := m) (i := i) (nx := nx) (k := k)
      have hlk := hkl k hk
      have hlk2 : 9 ^ d ≤ (nx + 1 - k) * 9 ^ d := Nat.le_mul_of_pos_left _ (by omega)
      rcases k with _ | k
      · have h3 := h2.2 l (by have : 9 ^ d ≤ 9 ^ (d + 1) := Nat.pow_le_pow_right (by omega) (by omega); omega)
        rw [show fillL d (m.set i 0) (i + 1) (nx1 0 nx) = fillK d m i nx 1 from by rw [hsuc]; rfl] at h3
        by_cases hkx : 0 = nx
        · rw [show nx1 0 nx = nx + 1 from if_pos hkx, ← hset 0] at h3
          (repeat' (first | refine Exists.intro (pcl n (m'.set i 0)) (And.intro ⟨by rw [pcl_len hm']; omega, pcl_set⟩ ?_) | refine Exists.intro (pcl (n : Int) (m'.set i 0)) (And.intro ⟨pcl_len hmk, pcl_all hmk⟩ ?_) | refine And.intro ⟨pcl_len hmk, leR rfl, pcl_ones⟩ ?_ | refine Exists.intro (pcl (n : Int) (m'.set i 0)) (And.intro ⟨leR rfl, spl0 (leR rfl)⟩ ?_) | refine (h3).make [0] rfl ⟨rfl, trivial⟩ ?_ | refine And.intro (neI rfl) ?_ | refine And.intro ⟨rfl, leR rfl, onesR rfl⟩ ?_ | refine And.intro ⟨rfl, leR rfl⟩ ?_ | refine draw_rule2 hfol (fun KK hKK => ?_) | refine hKK _ _ _ (by kernel_rfl) ?_ | refine region_rule (fun KK hKK => ?_) | refine hKK _ _ ?_ | refine And.intro (Eq.refl true) ?_ | refine Exists.intro _ (And.intro (wI (by omega)) ?_) | refine Exists.intro _ (And.intro (wU (by omega)) ?_) | refine Exists.intro _ (And.intro ⟨rfl, by omega⟩ ?_) | refine Exists.intro _ (And.intro rfl ?_) | refine And.intro rfl ?_ | refine And.intro ⟨rfl, rfl⟩ ?_ | ((refine And.intro (fun _ => ?_) (fun _ => ?_)) <;> try (exfalso; omega))))
          refine Exists.intro (1, m'.set i 0) (Exists.intro [0, 1, 2] (And.intro ⟨⟨by omega, hmk, hagain⟩, (by show nx + 1 - 1 < nx + 1 - 0; omega)⟩ ⟨⟨rfl, rfl, rfl, rfl, rfl, trivial⟩, ⟨rfl, rfl, rfl, trivial⟩, rfl⟩))
        · rw [show nx1 0 nx = nx from if_neg hkx, ← hset 0] at h3
          (repeat' (first | refine Exists.intro (pcl n (m'.set i 0)) (And.intro ⟨by rw [pcl_len hm']; omega, pcl_set⟩ ?_) | refine Exists.intro (pcl (n : Int) (m'.set i 0)) (And.intro ⟨pcl_len hmk, pcl_all hmk⟩ ?_) | refine And.intro ⟨pcl_len hmk, leR rfl, pcl_ones⟩ ?_ | refine Exists.intro (pcl (n : Int) (m'.set i 0)) (And.intro ⟨leR rfl, spl0 (leR rfl)⟩ ?_) | refine (h3).make [0] rfl ⟨rfl, trivial⟩ ?_ | refine And.intro (neI rfl) ?_ | refine And.intro ⟨rfl, leR rfl, onesR rfl⟩ ?_ | refine And.intro ⟨rfl, leR rfl⟩ ?_ | refine draw_rule2 hfol (fun KK hKK => ?_) | refine hKK _ _ _ (by kernel_rfl) ?_ | refine region_rule (fun KK hKK => ?_) | refine hKK _ _ ?_ | refine And.intro (Eq.refl true) ?_ | refine Exists.intro _ (And.intro (wI (by omega)) ?_) | refine Exists.intro _ (And.intro (wU (by omega)) ?_) | refine Exists.intro _ (And.intro ⟨rfl, by omega⟩ ?_) | refine Exists.intro _ (And.intro rfl ?_) | refine And.intro rfl ?_ | refine And.intro ⟨rfl, rfl⟩ ?_ | ((refine And.intro (fun _ => ?_) (fun _ => ?_)) <;> try (exfalso; omega))))
          refine Exists.intro (1, m'.set i 0) (Exists.intro [0, 1, 2] (And.intro ⟨⟨by omega, hmk, hagain⟩, (by show nx + 1 - 1 < nx + 1 - 0; omega)⟩ ⟨⟨rfl, rfl, rfl, rfl, rfl, trivial⟩, ⟨rfl, rfl, rfl, trivial⟩, rfl⟩))
      · have h3 := h2.2 (l ++ fillK d m i nx (k + 1)) (by rw [List.length_append]; omega)
        rw [List.append_assoc, ← hsuc] at h3
        by_cases hkx : k + 1 = nx
        · rw [show nx1 (k + 1) nx = nx + 1 from if_pos hkx, ← hset (k + 1)] at h3
          (repeat' (first | refine Exists.intro (pcl n (m'.set i (k + 1))) (And.intro ⟨by rw [pcl_len hm']; omega, pcl_set⟩ ?_) | refine Exists.intro (pcl (n : Int) (m'.set i (k + 1))) (And.intro ⟨pcl_len hmk, pcl_all hmk⟩ ?_) | refine And.intro ⟨pcl_len hmk, leR rfl, pcl_ones⟩ ?_ | refine Exists.intro (pcl (n : Int) (m'.set i (k + 1))) (And.intro ⟨leR rfl, spl0 (leR rfl)⟩ ?_) | refine (h3).make [2] rfl ⟨rfl, trivial⟩ ?_ | refine And.intro (neI rfl) ?_ | refine And.intro ⟨rfl, leR rfl, onesR rfl⟩ ?_ | refine And.intro ⟨rfl, leR rfl⟩ ?_ | refine draw_rule2 hfol (fun KK hKK => ?_) | refine hKK _ _ _ (by kernel_rfl) ?_ | refine region_rule (fun KK hKK => ?_) | refine hKK _ _ ?_ | refine And.intro (Eq.refl true) ?_ | refine Exists.intro _ (And.intro (wI (by omega)) ?_) | refine Exists.intro _ (And.intro (wU (by omega)) ?_) | refine Exists.intro _ (And.intro ⟨rfl, by omega⟩ ?_) | refine Exists.intro _ (And.intro rfl ?_) | refine And.intro rfl ?_ | refine And.intro ⟨rfl, rfl⟩ ?_ | ((refine And.intro (fun _ => ?_) (fun _ => ?_)) <;> try (exfalso; omega))))
          refine Exists.intro (k + 2, m'.set i (k + 1)) (Exists.intro [0, 1, 3] (And.intro ⟨⟨by omega, hmk, hagain⟩, (by show nx + 1 - (k + 2) < nx + 1 - (k + 1); omega)⟩ ⟨⟨rfl, rfl, rfl, rfl, rfl, trivial⟩, ⟨rfl, rfl, rfl, trivial⟩, rfl⟩))
        · rw [show nx1 (k + 1) nx = nx from if_neg hkx, ← hset (k + 1)] at h3
          (repeat' (first | refine Exists.intro (pcl n (m'.set i (k + 1))) (And.intro ⟨by rw [pcl_len hm']; omega, pcl_set⟩ ?_) | refine Exists.intro (pcl (n : Int) (m'.set i (k + 1))) (And.intro ⟨pcl_len hmk, pcl_all hmk⟩ ?_) | refine And.intro ⟨pcl_len hmk, leR rfl, pcl_ones⟩ ?_ | refine Exists.intro (pcl (n : Int) (m'.set i (k + 1))) (And.intro ⟨leR rfl, spl0 (leR rfl)⟩ ?_) | refine (h3).make [2] rfl ⟨rfl, trivial⟩ ?_ | refine And.intro (neI rfl) ?_ | refine And.intro ⟨rfl, leR rfl, onesR rfl⟩ ?_ | refine And.intro ⟨rfl, leR rfl⟩ ?_ | refine draw_rule2 hfol (fun KK hKK => ?_) | refine hKK _ _ _ (by kernel_rfl) ?_ | refine region_rule (fun KK hKK => ?_) | refine hKK _ _ ?_ | refine And.intro (Eq.refl true) ?_ | refine Exists.intro _ (And.intro (wI (by omega)) ?_) | refine Exists.intro _ (And.intro (wU (by omega)) ?_) | refine Exists.intro _ (And.intro ⟨rfl, by omega⟩ ?_) | refine Exists.intro _ (And.intro rfl ?_) | refine And.intro rfl ?_ | refine And.intro ⟨rfl, rfl⟩ ?_ | ((refine And.intro (fun _ => ?_) (fun _ => ?_)) <;> try (exfalso; omega))))
          refine Exists.intro (k + 2, m'.set i (k + 1)) (Exists.intro [0, 1, 3] (And.intro ⟨⟨by omega, hmk, hagain⟩, (by show nx + 1 - (k + 2) < nx + 1 - (k + 1); omega)⟩ ⟨⟨rfl, rfl, rfl, rfl, rfl, trivial⟩, ⟨rfl, rfl, rfl, trivial⟩, rfl⟩))
end Go.Proofs.Ytpangmameocfmaa.VE.P
