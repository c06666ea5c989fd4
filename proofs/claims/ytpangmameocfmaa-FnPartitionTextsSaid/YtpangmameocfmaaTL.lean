/- Contracts of functions of the given program, for all arguments that the contract names; see each theorem. -/
import Derived.Test.YtpangmameocfmaaTF
set_option linter.all false
namespace Go.Proofs.Ytpangmameocfmaa.VE.P
open Go
set_option maxHeartbeats 800000
set_option maxRecDepth 100000

/-- How often a key comes among the first i. -/
def kC (key : Nat → Nat) : Nat → Nat → Nat
  | 0, _ => 0
  | i + 1, j => kC key i j + (if key i = j then 1 else 0)
theorem kC_le {key : Nat → Nat} {j : Nat} : ∀ i, kC key i j ≤ i
  | 0 => Nat.le_refl _
  | i + 1 => by have := kC_le (key := key) (j := j) i; simp only [kC]; split <;> omega
def key (n : Nat) (m : List Nat) (t : Nat) : Nat := 2 * m.getD t 0 + t / n
/-- The greatest label among the first i, and one. -/
def mx (m : List Nat) : Nat → Nat
  | 0 => 0
  | i + 1 => max (mx m i) (m.getD i 0 + 1)
def tN (f : Nat → Nat) : Nat → Nat
  | 0 => 0
  | k + 1 => tN f k + (if 0 < f (2 * k) ∧ 0 < f (2 * k + 1) then 1 else 0)
theorem tN_le {f : Nat → Nat} : ∀ k, tN f k ≤ k
  | 0 => Nat.le_refl _
  | k + 1 => by have := tN_le (f := f) k; simp only [tN]; split <;> omega
theorem mx_le {m : List Nat} (h : ∀ j, m.getD j 0 < 8) : ∀ i, mx m i ≤ 8
  | 0 => by simp [mx]
  | i + 1 => by have := mx_le h i; have := h i; simp only [mx]; omega

theorem il_ones {f : Nat → Int} {N : Nat} : ones (il f N) := by
  intro u hu
  simp only [il, List.mem_map] at hu
  obtain ⟨x, _, rfl⟩ := hu; rfl
theorem il_all {f : Nat → Int} {N : Nat} : ((il f N).drop 0).take N = il f N := by
  rw [List.drop_zero, List.take_of_length_le (by rw [il_len]; exact Nat.le_refl _)]

def uF (n : Nat) (m : List Nat) (i : Nat) (j : Nat) : Int := ((kC (key n m) i (2 * j) : Nat) : Int)
def lF (n : Nat) (m : List Nat) (i : Nat) (j : Nat) : Int := ((kC (key n m) i (2 * j + 1) : Nat) : Int)
theorem key_up {n : Nat} {m : List Nat} {i : Nat} (h : i < n) : key n m i = 2 * m.getD i 0 := by simp [key, Nat.div_eq_of_lt h]
theorem key_lo {n : Nat} {m : List Nat} {i : Nat} (h : ¬ i < n) (h2 : i < 2 * n) : key n m i = 2 * m.getD i 0 + 1 := by
  have : i / n = 1 := by rw [Nat.div_eq_iff (by omega)]; omega
  simp [key, this]

abbrev cntV (u l : List Value) (p : Int) : V := .tup [.raw (.agg u.toArray), .raw (.agg l.toArray), vi p]
theorem s_counts (n : Nat) (m : List Nat) (hm : m.length = 8) (hb : ∀ j, m.getD j 0 < 8) (hn : n ≤ 4) : Spec Try.prog n_s_l07Counts [pv n m] [] (cntV (il (uF n m (2 * n)) 8) (il (lF n m (2 * n)) 8) (mx m (2 * n) : Nat)) [] := by
  refine SpecW.of_EV hf_s_l07Counts hc_s_l07Counts rfl rfl rfl fun w0 B ρ0 _ => ?_
  (repeat' (first | refine Exists.intro (il (fun _ => 0) 8) (And.intro ⟨leR rfl, rfl⟩ ?_) | refine And.intro (neI rfl) ?_ | refine And.intro ⟨rfl, leR rfl, onesR rfl⟩ ?_ | refine And.intro ⟨rfl, leR rfl⟩ ?_ | refine draw_rule2 hfol (fun KK hKK => ?_) | refine hKK _ _ _ (by kernel_rfl) ?_ | refine region_rule (fun KK hKK => ?_) | refine hKK _ _ ?_ | refine And.intro (Eq.refl true) ?_ | refine Exists.intro _ (And.intro (wI (by omega)) ?_) | refine Exists.intro _ (And.intro (wU (by omega)) ?_) | refine Exists.intro _ (And.intro ⟨rfl, by omega⟩ ?_) | refine Exists.intro _ (And.intro rfl ?_) | refine And.intro rfl ?_ | refine And.intro ⟨rfl, rfl⟩ ?_ | ((refine And.intro (fun _ => ?_) (fun _ => ?_)) <;> try (exfalso; omega))))
  refine loop_rule (α := Nat) (fun i => i ≤ 2 * n)
    (fun i => [(1, .ptr 0 0), (2, .ptr 1 0), (3, .ptr 2 0), (5, .ptr 3 0), (6, .ptr 4 0), (7, vi (mx m i : Nat)), (8, vi i)])
    (fun i => [.pc (pcl n m) T_i_Partition, .pc (il (fun _ => 0) 8) T_a8q_int64, .pc (il (fun _ => 0) 8) T_a8q_int64, .pc (il (uF n m i) 8) T_a8q_int64, .pc (il (lF n m i) 8) T_a8q_int64]) (fun i => 2 * n - i) 0 [0, 1, 2, 3, 4]
    (by omega) ⟨⟨rfl, rfl, rfl, rfl, rfl, rfl, rfl, trivial⟩, ⟨rfl, rfl, rfl, rfl, rfl, trivial⟩, rfl⟩ ?_
  rintro i g hi
  by_cases h8 : i = 2 * n
  · subst h8
    (repeat' (first | refine Exists.intro (il (uF n m (2 * n)) 8) (And.intro ⟨il_len, il_all⟩ ?_) | refine Exists.intro (il (lF n m (2 * n)) 8) (And.intro ⟨il_len, il_all⟩ ?_) | refine And.intro ⟨il_len, leR rfl, il_ones⟩ ?_ | refine Exists.intro (il (uF n m (2 * n)) 8) (And.intro ⟨leR rfl, spl0 (leR rfl)⟩ ?_) | refine Exists.intro (il (lF n m (2 * n)) 8) (And.intro ⟨leR rfl, spl0 (leR rfl)⟩ ?_) | refine And.intro (neI rfl) ?_ | refine And.intro ⟨rfl, leR rfl, onesR rfl⟩ ?_ | refine And.intro ⟨rfl, leR rfl⟩ ?_ | refine draw_rule2 hfol (fun KK hKK => ?_) | refine hKK _ _ _ (by kernel_rfl) ?_ | refine region_rule (fun KK hKK => ?_) | refine hKK _ _ ?_ | refine And.intro (Eq.refl true) ?_ | refine Exists.intro _ (And.intro (wI (by omega)) ?_) | refine Exists.intro _ (And.intro (wU (by omega)) ?_) | refine Exists.intro _ (And.intro ⟨rfl, by omega⟩ ?_) | refine Exists.intro _ (And.intro rfl ?_) | refine And.intro rfl ?_ | refine And.intro ⟨rfl, rfl⟩ ?_ | ((refine And.intro (fun _ => ?_) (fun _ => ?_)) <;> try (exfalso; omega))))
    exact Exists.intro [] (And.intro rfl (And.intro trivial rfl))
  have hil : i < 2 * n := by omega
  have hbi := hb i
  have hmx := mx_le hb i
  by_cases hup : i < n
  · have hk := key_up (m := m) hup
    have hkl := kC_le (key := key n m) (j := 2 * m.getD i 0) i
    have hu : (il (uF n m i) 8).set (m.getD i 0) (.int .i64 (uF n m i (m.getD i 0) + 1)) = il (uF n m (i + 1)) 8 := il_set fun j hj => by
      simp only [uF, kC, hk]
      by_cases h : j = m.getD i 0
      · rw [if_pos h, if_pos (by omega), h]; omega
      · rw [if_neg h, if_neg (by omega)]; omega
    have hl : il (lF n m (i + 1)) 8 = il (lF n m i) 8 := il_congr fun j hj => by
      simp only [lF, kC, hk]; rw [if_neg (by omega)]; omega
    have hw : IntKind.i64.wrap (uF n m i (m.getD i 0) + 1) = uF n m i (m.getD i 0) + 1 := wI (by simp only [uF]; omega)
    (repeat' (first | refine Exists.intro _ (And.intro (il_at (by omega)) ?_) | refine Exists.intro _ (And.intro hw ?_) | refine Exists.intro _ (And.intro (pcl_at (by omega)) ?_) | refine Exists.intro (il (uF n m (i + 1)) 8) (And.intro ⟨by rw [il_len]; omega, hu⟩ ?_) | refine And.intro (neI rfl) ?_ | refine And.intro ⟨rfl, leR rfl, onesR rfl⟩ ?_ | refine And.intro ⟨rfl, leR rfl⟩ ?_ | refine draw_rule2 hfol (fun KK hKK => ?_) | refine hKK _ _ _ (by kernel_rfl) ?_ | refine region_rule (fun KK hKK => ?_) | refine hKK _ _ ?_ | refine And.intro (Eq.refl true) ?_ | refine Exists.intro _ (And.intro (wI (by omega)) ?_) | refine Exists.intro _ (And.intro (wU (by omega)) ?_) | refine Exists.intro _ (And.intro ⟨rfl, by omega⟩ ?_) | refine Exists.intro _ (And.intro rfl ?_) | refine And.intro rfl ?_ | refine And.intro ⟨rfl, rfl⟩ ?_ | ((refine And.intro (fun _ => ?_) (fun _ => ?_)) <;> try (exfalso; omega))))
    refine Exists.intro (i + 1) (Exists.intro [0, 1, 2, 3, 4] (And.intro ⟨by omega, (by show 2 * n - (i + 1) < 2 * n - i; omega)⟩ ⟨⟨rfl, rfl, rfl, rfl, rfl, viR (by simp only [mx]; omega), rfl, trivial⟩, ⟨rfl, rfl, rfl, rfl, by rw [hl]; rfl, trivial⟩, rfl⟩))
  · have hk := key_lo (m := m) hup hil
    have hkl := kC_le (key := key n m) (j := 2 * m.getD i 0 + 1) i
    have hl : (il (lF n m i) 8).set (m.getD i 0) (.int .i64 (lF n m i (m.getD i 0) + 1)) = il (lF n m (i + 1)) 8 := il_set fun j hj => by
      simp only [lF, kC, hk]
      by_cases h : j = m.getD i 0
      · rw [if_pos h, if_pos (by omega), h]; omega
      · rw [if_neg h, if_neg (by omega)]; omega
    have hu : il (uF n m (i + 1)) 8 = il (uF n m i) 8 := il_congr fun j hj => by
      simp only [uF, kC, hk]; rw [if_neg (by omega)]; omega
    have hw : IntKind.i64.wrap (lF n m i (m.getD i 0) + 1) = lF n m i (m.getD i 0) + 1 := wI (by simp only [lF]; omega)
    (repeat' (first | refine Exists.intro _ (And.intro (il_at (by omega)) ?_) | refine Exists.intro _ (And.intro hw ?_) | refine Exists.intro _ (And.intro (pcl_at (by omega)) ?_) | refine Exists.intro (il (lF n m (i + 1)) 8) (And.intro ⟨by rw [il_len]; omega, hl⟩ ?_) | refine And.intro (neI rfl) ?_ | refine And.intro ⟨rfl, leR rfl, onesR rfl⟩ ?_ | refine And.intro ⟨rfl, leR rfl⟩ ?_ | refine draw_rule2 hfol (fun KK hKK => ?_) | refine hKK _ _ _ (by kernel_rfl) ?_ | refine region_rule (fun KK hKK => ?_) | refine hKK _ _ ?_ | refine And.intro (Eq.refl true) ?_ | refine Exists.intro _ (And.intro (wI (by omega)) ?_) | refine Exists.intro _ (And.intro (wU (by omega)) ?_) | refine Exists.intro _ (And.intro ⟨rfl, by omega⟩ ?_) | refine Exists.intro _ (And.intro rfl ?_) | refine And.intro rfl ?_ | refine And.intro ⟨rfl, rfl⟩ ?_ | ((refine And.intro (fun _ => ?_) (fun _ => ?_)) <;> try (exfalso; omega))))
    refine Exists.intro (i + 1) (Exists.intro [0, 1, 2, 3, 4] (And.intro ⟨by omega, (by show 2 * n - (i + 1) < 2 * n - i; omega)⟩ ⟨⟨rfl, rfl, rfl, rfl, rfl, viR (by simp only [mx]; omega), rfl, trivial⟩, ⟨rfl, rfl, rfl, by rw [hu]; rfl, rfl, trivial⟩, rfl⟩))

/-- The reference's. -/
def thrR (s : Int) (m : List Nat) : Int × Int := if isPi s m then ((tN (kC (key s.toNat m) (2 * s.toNat)) (mx m (2 * s.toNat)) : Nat), 0) else (0, 1)
abbrev iiV (p : Int × Int) : V := .tup [vi p.1, vi p.2]

theorem s_sThr (s : Int) (m : List Nat) (hm : m.length = 8) (hb : ∀ x ∈ m, x < 256) : Spec Try.prog n_s_ThroughParts [pv s m] [] (iiV (thrR s m)) [] := by
  have hq := s_is s m hm hb
  rw [isP_eq s m hm] at hq
  have hr : thrR s m = if isPi s m then (((tN (kC (key s.toNat m) (2 * s.toNat)) (mx m (2 * s.toNat)) : Nat) : Int), 0) else (0, 1) := rfl
  refine SpecW.of_EV hf_s_ThroughParts hc_s_ThroughParts rfl rfl rfl fun w0 B ρ0 _ => ?_
  cases hv : isPi s m with
  | false =>
    rw [hv] at hq hr
    (repeat' (first | refine hq.pure rfl ?_ | refine Exists.intro (pcl s m) (And.intro ⟨pcl_len hm, pcl_all hm⟩ ?_) | refine And.intro (neI rfl) ?_ | refine And.intro ⟨rfl, leR rfl, onesR rfl⟩ ?_ | refine And.intro ⟨rfl, leR rfl⟩ ?_ | refine draw_rule2 hfol (fun KK hKK => ?_) | refine hKK _ _ _ (by kernel_rfl) ?_ | refine region_rule (fun KK hKK => ?_) | refine hKK _ _ ?_ | refine And.intro (Eq.refl true) ?_ | refine Exists.intro _ (And.intro (wI (by omega)) ?_) | refine Exists.intro _ (And.intro (wU (by omega)) ?_) | refine Exists.intro _ (And.intro ⟨rfl, by omega⟩ ?_) | refine Exists.intro _ (And.intro rfl ?_) | refine And.intro rfl ?_ | refine And.intro ⟨rfl, rfl⟩ ?_ | ((refine And.intro (fun _ => ?_) (fun _ => ?_)) <;> try (exfalso; omega))))
    exact Exists.intro [] (And.intro (by rw [hr]; rfl) (And.intro trivial rfl))
  | true =>
    rw [hv] at hq hr
    obtain ⟨n, rfl, hn1, hn⟩ := isPi_size hv
    have hc := s_counts n m hm (isPi_lt hv) hn
    have h8 := mx_le (isPi_lt hv) (2 * n)
    (repeat' (first | refine hq.pure rfl ?_ | refine hc.pure rfl ?_ | refine Exists.intro (pcl n m) (And.intro ⟨pcl_len hm, pcl_all hm⟩ ?_) | refine And.intro ⟨il_len, leR rfl, il_ones⟩ ?_ | refine Exists.intro (il (uF n m (2 * n)) 8) (And.intro ⟨leR rfl, spl0 (leR rfl)⟩ ?_) | refine Exists.intro (il (lF n m (2 * n)) 8) (And.intro ⟨leR rfl, spl0 (leR rfl)⟩ ?_) | refine And.intro (neI rfl) ?_ | refine And.intro ⟨rfl, leR rfl, onesR rfl⟩ ?_ | refine And.intro ⟨rfl, leR rfl⟩ ?_ | refine draw_rule2 hfol (fun KK hKK => ?_) | refine hKK _ _ _ (by kernel_rfl) ?_ | refine region_rule (fun KK hKK => ?_) | refine hKK _ _ ?_ | refine And.intro (Eq.refl true) ?_ | refine Exists.intro _ (And.intro (wI (by omega)) ?_) | refine Exists.intro _ (And.intro (wU (by omega)) ?_) | refine Exists.intro _ (And.intro ⟨rfl, by omega⟩ ?_) | refine Exists.intro _ (And.intro rfl ?_) | refine And.intro rfl ?_ | refine And.intro ⟨rfl, rfl⟩ ?_ | ((refine And.intro (fun _ => ?_) (fun _ => ?_)) <;> try (exfalso; omega))))
    refine loop_rule (α := Nat) (fun k => k ≤ mx m (2 * n))
      (fun k => [(4, .ptr 1 0), (5, .ptr 2 0), (6, vi (mx m (2 * n) : Nat)), (7, vi (tN (kC (key n m) (2 * n)) k : Nat)), (8, vi k)])
      (fun k => [.pc (pcl n m) T_i_Partition, .pc (il (uF n m (2 * n)) 8) T_a8q_int64, .pc (il (lF n m (2 * n)) 8) T_a8q_int64]) (fun k => mx m (2 * n) - k) 0 [0, 1, 2]
      (by omega) ⟨⟨rfl, rfl, rfl, rfl, rfl, trivial⟩, ⟨rfl, rfl, rfl, trivial⟩, rfl⟩ ?_
    rintro k g hk
    by_cases h9 : k = mx m (2 * n)
    · subst h9
      (repeat' (first | refine And.intro (neI rfl) ?_ | refine And.intro ⟨rfl, leR rfl, onesR rfl⟩ ?_ | refine And.intro ⟨rfl, leR rfl⟩ ?_ | refine draw_rule2 hfol (fun KK hKK => ?_) | refine hKK _ _ _ (by kernel_rfl) ?_ | refine region_rule (fun KK hKK => ?_) | refine hKK _ _ ?_ | refine And.intro (Eq.refl true) ?_ | refine Exists.intro _ (And.intro (wI (by omega)) ?_) | refine Exists.intro _ (And.intro (wU (by omega)) ?_) | refine Exists.intro _ (And.intro ⟨rfl, by omega⟩ ?_) | refine Exists.intro _ (And.intro rfl ?_) | refine And.intro rfl ?_ | refine And.intro ⟨rfl, rfl⟩ ?_ | ((refine And.intro (fun _ => ?_) (fun _ => ?_)) <;> try (exfalso; omega))))
      exact Exists.intro [] (And.intro (by rw [hr]; rfl) (And.intro trivial rfl))
    have hkl : k < mx m (2 * n) := by omega
    have ht := tN_le (f := kC (key n m) (2 * n)) k
    have hu : uF n m (2 * n) k = ((kC (key n m) (2 * n) (2 * k) : Nat) : Int) := rfl
    have hl : lF n m (2 * n) k = ((kC (key n m) (2 * n) (2 * k + 1) : Nat) : Int) := rfl
    (repeat' (first | refine Exists.intro _ (And.intro (il_at (by omega)) ?_) | refine And.intro (neI rfl) ?_ | refine And.intro ⟨rfl, leR rfl, onesR rfl⟩ ?_ | refine And.intro ⟨rfl, leR rfl⟩ ?_ | refine draw_rule2 hfol (fun KK hKK => ?_) | refine hKK _ _ _ (by kernel_rfl) ?_ | refine region_rule (fun KK hKK => ?_) | refine hKK _ _ ?_ | refine And.intro (Eq.refl true) ?_ | refine Exists.intro _ (And.intro (wI (by omega)) ?_) | refine Exists.intro _ (And.intro (wU (by omega)) ?_) | refine Exists.intro _ (And.intro ⟨rfl, by omega⟩ ?_) | refine Exists.intro _ (And.intro rfl ?_) | refine And.intro rfl ?_ | refine And.intro ⟨rfl, rfl⟩ ?_ | ((refine And.intro (fun _ => ?_) (fun _ => ?_)) <;> try (exfalso; omega))))
    all_goals
      refine Exists.intro (k + 1) (Exists.intro [0, 1, 2] (And.intro ⟨by omega, (by show mx m (2 * n) - (k + 1) < mx m (2 * n) - k; omega)⟩ ⟨⟨rfl, rfl, rfl, viR (by simp only [tN]; split <;> omega), rfl, trivial⟩, ⟨rfl, rfl, rfl, trivial⟩, rfl⟩))
end Go.Proofs.Ytpangmameocfmaa.VE.P
namespace Go.Proofs.Ytpangmameocfmaa.VE.P
open Go
set_option maxHeartbeats 800000
set_option maxRecDepth 100000

theorem isPL_valid {s : Nat} {m : List Nat} : ∀ (d i nx : Nat), isPL s m d i nx = true → nx = mx m i → ∀ j, i ≤ j → j < i + d → j < 2 * s → m.getD j 0 ≤ mx m j
  | 0, i, nx, _, _, j, h1, h2, _ => by omega
  | d + 1, i, nx, h, hnx, j, h1, h2, h3 => by
    unfold isPL at h
    split at h
    · cases h
    · split at h
      · cases h
      · rename_i h4
        have h5 : m.getD i 0 ≤ nx := by
          by_cases hi : (i : Int) < 2 * (s : Int)
          · exact Nat.le_of_not_lt fun hh => h4 ⟨hi, hh⟩
          · omega
        by_cases hij : j = i
        · subst hij; omega
        · split at h
          · rename_i h6
            exact isPL_valid d (i + 1) (nx + 1) h (by simp only [mx]; omega) j (by omega) (by omega) h3
          · rename_i h6
            have h7 : m.getD i 0 ≠ nx := fun hh => h6 ⟨by omega, hh⟩
            exact isPL_valid d (i + 1) nx h (by simp only [mx]; omega) j (by omega) (by omega) h3
theorem isPi_valid {n : Nat} {m : List Nat} (hm : m.length = 8) (h : isPi n m = true) (hn : n ≤ 4) (i : Nat) (hi : i < 2 * n) : m.getD i 0 ≤ mx m i := by
  rw [← isP_eq _ _ hm] at h
  unfold isP at h
  simp only [Bool.and_eq_true] at h
  exact isPL_valid 8 0 0 h.2 rfl i (by omega) (by omega) hi
theorem mx_gt {m : List Nat} : ∀ {i t : Nat}, t < i → m.getD t 0 < mx m i
  | i + 1, t, h => by
    simp only [mx]
    by_cases ht : t = i
    · subst ht; omega
    · have := mx_gt (m := m) (show t < i by omega); omega
theorem kC_zero {key : Nat → Nat} {j : Nat} : ∀ {i : Nat}, (∀ t, t < i → key t ≠ j) → kC key i j = 0
  | 0, _ => rfl
  | i + 1, h => by rw [kC, kC_zero fun t ht => h t (by omega), if_neg (h i (by omega))]

def cF (n : Nat) (m : List Nat) (i : Nat) (j : Nat) : Int := ((kC (key n m) i j : Nat) : Int)
theorem il_pair {f : Nat → Int} {K k : Nat} (h : k < K) : ((il f (2 * K)).drop (k * 2)).take 2 = [.int .i64 (f (2 * k)), .int .i64 (f (2 * k + 1))] := by
  have l : (il f (2 * K)).length = 2 * K := il_len
  rw [List.drop_eq_getElem_cons (by omega), List.take_succ_cons, List.drop_eq_getElem_cons (by omega), List.take_succ_cons, List.take_zero]
  simp [il, Nat.mul_comm]
theorem addK_in {a b : Nat} {K : Nat → Prop} (h : K (a + b)) : addK a b K := by
  cases a with
  | zero => simpa [addK] using h
  | succ a => exact h
theorem fill0 {c A : List Value} {N : Nat} (h : c.length ≤ N) : c.take (0 * N) ++ A ++ c.drop (0 * N + N) = A := by
  simp [List.drop_of_length_le h]

theorem s_sides (n : Nat) (m : List Nat) (hm : m.length = 8) (hv : isPi n m = true) (hn1 : 1 ≤ n) (hn : n ≤ 4) : Spec Try.prog n_i_Partition_sides [.ptr 0 0] [.pc (pcl n m) T_i_Partition] (.sl 1) [.pc (pcl n m) T_i_Partition, .pr T_a2q_int 2 (mx m (2 * n)) (il (cF n m (2 * n)) (2 * mx m (2 * n)))] := by
  refine SpecW.of_EV hf_i_Partition_sides hc_i_Partition_sides rfl rfl rfl fun w0 B ρ0 _ => ?_
  (repeat' (first | refine (s_parts n m hn).read [0] rfl ⟨rfl, trivial⟩ ?_ | refine And.intro (neI rfl) ?_ | refine And.intro ⟨rfl, leR rfl, onesR rfl⟩ ?_ | refine And.intro ⟨rfl, leR rfl⟩ ?_ | refine draw_rule2 hfol (fun KK hKK => ?_) | refine hKK _ _ _ (by kernel_rfl) ?_ | refine region_rule (fun KK hKK => ?_) | refine hKK _ _ ?_ | refine And.intro (Eq.refl true) ?_ | refine Exists.intro _ (And.intro (wI (by omega)) ?_) | refine Exists.intro _ (And.intro (wU (by omega)) ?_) | refine Exists.intro _ (And.intro ⟨rfl, by omega⟩ ?_) | refine Exists.intro _ (And.intro rfl ?_) | refine And.intro rfl ?_ | refine And.intro ⟨rfl, rfl⟩ ?_ | ((refine And.intro (fun _ => ?_) (fun _ => ?_)) <;> try (exfalso; omega))))
  refine loop_rule (α := Nat) (fun i => i ≤ 2 * n)
    (fun i => [(0, .ptr 0 0), (3, .sl 1), (8, .asl 0 1 (2 * n) 8), (9, vi (2 * n : Nat)), (10, vi i)])
    (fun i => [.pc (pcl n m) T_i_Partition, .pr T_a2q_int 2 (mx m i) (il (cF n m i) (2 * mx m i))]) (fun i => 2 * n - i) 0 [0, 1]
    (by omega) ⟨⟨rfl, rfl, rfl, rfl, rfl, trivial⟩, ⟨rfl, rfl, trivial⟩, rfl⟩ ?_
  rintro i g hi
  by_cases h8 : i = 2 * n
  · subst h8
    (repeat' (first | refine And.intro (neI rfl) ?_ | refine And.intro ⟨rfl, leR rfl, onesR rfl⟩ ?_ | refine And.intro ⟨rfl, leR rfl⟩ ?_ | refine draw_rule2 hfol (fun KK hKK => ?_) | refine hKK _ _ _ (by kernel_rfl) ?_ | refine region_rule (fun KK hKK => ?_) | refine hKK _ _ ?_ | refine And.intro (Eq.refl true) ?_ | refine Exists.intro _ (And.intro (wI (by omega)) ?_) | refine Exists.intro _ (And.intro (wU (by omega)) ?_) | refine Exists.intro _ (And.intro ⟨rfl, by omega⟩ ?_) | refine Exists.intro _ (And.intro rfl ?_) | refine And.intro rfl ?_ | refine And.intro ⟨rfl, rfl⟩ ?_ | ((refine And.intro (fun _ => ?_) (fun _ => ?_)) <;> try (exfalso; omega))))
    exact Exists.intro [0, 1] (And.intro rfl (And.intro ⟨rfl, rfl, trivial⟩ rfl))
  have hil : i < 2 * n := by omega
  have hbi := isPi_lt hv i
  have hva := isPi_valid hm hv hn i hil
  have hmx := mx_le (isPi_lt hv) i
  have hd2 : i / n < 2 := by rw [Nat.div_lt_iff_lt_mul (by omega)]; omega
  have hd : IntKind.i64.wrap (Int.tdiv (i : Int) (n : Int)) = ((i / n : Nat) : Int) := by rw [tdN]; generalize i / n = x at hd2 ⊢; exact wI (by omega)
  have hne : (n : Int) ≠ 0 := by omega
  have hk1 : key n m i = m.getD i 0 * 2 + i / n := by simp only [key]; omega
  have hkl := kC_le (key := key n m) (j := key n m i) i
  have hld : ∀ k, m.getD i 0 < k → (il (cF n m i) (2 * k))[m.getD i 0 * 2 + i / n]? = some (.int .i64 (cF n m i (key n m i))) := fun k hk => by rw [← hk1]; exact il_at (by omega)
  have hw : IntKind.i64.wrap (cF n m i (key n m i) + 1) = cF n m i (key n m i) + 1 := wI (by simp only [cF]; omega)
  have hst : ∀ k, (il (cF n m i) (2 * k)).set (m.getD i 0 * 2 + i / n) (.int .i64 (cF n m i (key n m i) + 1)) = il (cF n m (i + 1)) (2 * k) := fun k => by
    rw [← hk1]
    refine il_set fun j hj => ?_
    simp only [cF, kC]
    by_cases h : j = key n m i
    · rw [if_pos h, if_pos h.symm, h]; omega
    · rw [if_neg h, if_neg (fun e => h e.symm)]; omega
  have hpc : (pcl n m)[1 + i]? = some (.int .u8 ((m.getD i 0 : Nat) : Int)) := pcl_at (by omega)
  have hmxA : m.getD i 0 = mx m i → mx m (i + 1) = mx m i + 1 := fun h => by simp only [mx]; omega
  have hmxB : ¬ m.getD i 0 = mx m i → mx m (i + 1) = mx m i := fun h => by simp only [mx]; omega
  have hz : ∀ x, x < 2 → cF n m i (2 * mx m i + x) = 0 := fun x hx => by
    simp only [cF]
    rw [kC_zero fun t ht => ?_]; rfl
    have := mx_gt (m := m) ht
    have ht2 : t / n < 2 := by rw [Nat.div_lt_iff_lt_mul (by omega)]; omega
    simp only [key]; omega
  have happ : il (cF n m i) (2 * mx m i) ++ [Value.int .i64 0, Value.int .i64 0] = il (cF n m i) (2 * (mx m i + 1)) := by
    rw [show 2 * (mx m i + 1) = 2 * mx m i + 1 + 1 from by omega, ← il_succ, ← il_succ, hz 1 (by omega), show cF n m i (2 * mx m i) = 0 from hz 0 (by omega)]
    simp
  generalize m.getD i 0 = x at hbi hva hk1 hld hst hpc hmxA hmxB
  generalize hkk : key n m i = kk at hk1 hkl hld hw hst
  by_cases hnew : x = mx m i
  · have hmx1 := hmxA hnew
    rcases x with _ | x
    · simp only [Nat.zero_mul, Nat.zero_add] at hld hst hk1
      (repeat' (first | refine (s_n n m).read [0] rfl ⟨rfl, trivial⟩ ?_ | refine And.intro hne ?_ | refine Exists.intro _ (And.intro hd ?_) | refine Exists.intro _ (And.intro (hld (mx m i + 1) (by omega)) ?_) | refine Exists.intro _ (And.intro hw ?_) | refine Exists.intro _ (And.intro hpc ?_) | refine And.intro ⟨rfl, mkL rfl⟩ ?_ | refine Exists.intro [Value.int .i64 0, Value.int .i64 0] (And.intro (fill0 (mkL' rfl)) ?_) | refine Exists.intro (il (cF n m i) (2 * (mx m i + 1))) (And.intro ⟨rfl, onesR rfl, by omega, by omega, happ⟩ ?_) | refine Exists.intro (il (cF n m (i + 1)) (2 * (mx m i + 1))) (And.intro ⟨by rw [il_len]; omega, hst _⟩ ?_) | refine And.intro (neI rfl) ?_ | refine And.intro ⟨rfl, leR rfl, onesR rfl⟩ ?_ | refine And.intro ⟨rfl, leR rfl⟩ ?_ | refine draw_rule2 hfol (fun KK hKK => ?_) | refine hKK _ _ _ (by kernel_rfl) ?_ | refine region_rule (fun KK hKK => ?_) | refine hKK _ _ ?_ | refine And.intro (Eq.refl true) ?_ | refine Exists.intro _ (And.intro (wI (by omega)) ?_) | refine Exists.intro _ (And.intro (wU (by omega)) ?_) | refine Exists.intro _ (And.intro ⟨rfl, by omega⟩ ?_) | refine Exists.intro _ (And.intro rfl ?_) | refine And.intro rfl ?_ | refine And.intro ⟨rfl, rfl⟩ ?_ | ((refine And.intro (fun _ => ?_) (fun _ => ?_)) <;> try (exfalso; omega))))
      refine Exists.intro (i + 1) (Exists.intro [0, 3] (And.intro ⟨by omega, (by show 2 * n - (i + 1) < 2 * n - i; omega)⟩ ⟨⟨rfl, rfl, rfl, rfl, rfl, trivial⟩, ⟨rfl, by rw [hmx1]; rfl, trivial⟩, rfl⟩))
    · (repeat' (first | refine (s_n n m).read [0] rfl ⟨rfl, trivial⟩ ?_ | refine And.intro hne ?_ | refine Exists.intro _ (And.intro hd ?_) | refine Exists.intro _ (And.intro (hld (mx m i + 1) (by omega)) ?_) | refine Exists.intro _ (And.intro hw ?_) | refine Exists.intro _ (And.intro hpc ?_) | refine And.intro ⟨rfl, mkL rfl⟩ ?_ | refine Exists.intro [Value.int .i64 0, Value.int .i64 0] (And.intro (fill0 (mkL' rfl)) ?_) | refine Exists.intro (il (cF n m i) (2 * (mx m i + 1))) (And.intro ⟨rfl, onesR rfl, by omega, by omega, happ⟩ ?_) | refine Exists.intro (il (cF n m (i + 1)) (2 * (mx m i + 1))) (And.intro ⟨by rw [il_len]; omega, hst _⟩ ?_) | refine And.intro (neI rfl) ?_ | refine And.intro ⟨rfl, leR rfl, onesR rfl⟩ ?_ | refine And.intro ⟨rfl, leR rfl⟩ ?_ | refine draw_rule2 hfol (fun KK hKK => ?_) | refine hKK _ _ _ (by kernel_rfl) ?_ | refine region_rule (fun KK hKK => ?_) | refine hKK _ _ ?_ | refine And.intro (Eq.refl true) ?_ | refine Exists.intro _ (And.intro (wI (by omega)) ?_) | refine Exists.intro _ (And.intro (wU (by omega)) ?_) | refine Exists.intro _ (And.intro ⟨rfl, by omega⟩ ?_) | refine Exists.intro _ (And.intro rfl ?_) | refine And.intro rfl ?_ | refine And.intro ⟨rfl, rfl⟩ ?_ | ((refine And.intro (fun _ => ?_) (fun _ => ?_)) <;> try (exfalso; omega))))
      refine Exists.intro (i + 1) (Exists.intro [0, 3] (And.intro ⟨by omega, (by show 2 * n - (i + 1) < 2 * n - i; omega)⟩ ⟨⟨rfl, rfl, rfl, rfl, rfl, trivial⟩, ⟨rfl, by rw [hmx1]; rfl, trivial⟩, rfl⟩))
  · have hmx1 := hmxB hnew
    rcases x with _ | x
    · simp only [Nat.zero_mul, Nat.zero_add] at hld hst hk1
      (repeat' (first | refine (s_n n m).read [0] rfl ⟨rfl, trivial⟩ ?_ | refine And.intro hne ?_ | refine Exists.intro _ (And.intro hd ?_) | refine Exists.intro _ (And.intro (hld (mx m i) (by omega)) ?_) | refine Exists.intro _ (And.intro hw ?_) | refine Exists.intro _ (And.intro hpc ?_) | refine Exists.intro (il (cF n m (i + 1)) (2 * mx m i)) (And.intro ⟨by rw [il_len]; omega, hst _⟩ ?_) | refine And.intro (neI rfl) ?_ | refine And.intro ⟨rfl, leR rfl, onesR rfl⟩ ?_ | refine And.intro ⟨rfl, leR rfl⟩ ?_ | refine draw_rule2 hfol (fun KK hKK => ?_) | refine hKK _ _ _ (by kernel_rfl) ?_ | refine region_rule (fun KK hKK => ?_) | refine hKK _ _ ?_ | refine And.intro (Eq.refl true) ?_ | refine Exists.intro _ (And.intro (wI (by omega)) ?_) | refine Exists.intro _ (And.intro (wU (by omega)) ?_) | refine Exists.intro _ (And.intro ⟨rfl, by omega⟩ ?_) | refine Exists.intro _ (And.intro rfl ?_) | refine And.intro rfl ?_ | refine And.intro ⟨rfl, rfl⟩ ?_ | ((refine And.intro (fun _ => ?_) (fun _ => ?_)) <;> try (exfalso; omega))))
      refine Exists.intro (i + 1) (Exists.intro [0, 1] (And.intro ⟨by omega, (by show 2 * n - (i + 1) < 2 * n - i; omega)⟩ ⟨⟨rfl, rfl, rfl, rfl, rfl, trivial⟩, ⟨rfl, by rw [hmx1]; rfl, trivial⟩, rfl⟩))
    · (repeat' (first | refine (s_n n m).read [0] rfl ⟨rfl, trivial⟩ ?_ | refine And.intro hne ?_ | refine Exists.intro _ (And.intro hd ?_) | refine Exists.intro _ (And.intro (hld (mx m i) (by omega)) ?_) | refine Exists.intro _ (And.intro hw ?_) | refine Exists.intro _ (And.intro hpc ?_) | refine Exists.intro (il (cF n m (i + 1)) (2 * mx m i)) (And.intro ⟨by rw [il_len]; omega, hst _⟩ ?_) | refine And.intro (neI rfl) ?_ | refine And.intro ⟨rfl, leR rfl, onesR rfl⟩ ?_ | refine And.intro ⟨rfl, leR rfl⟩ ?_ | refine draw_rule2 hfol (fun KK hKK => ?_) | refine hKK _ _ _ (by kernel_rfl) ?_ | refine region_rule (fun KK hKK => ?_) | refine hKK _ _ ?_ | refine And.intro (Eq.refl true) ?_ | refine Exists.intro _ (And.intro (wI (by omega)) ?_) | refine Exists.intro _ (And.intro (wU (by omega)) ?_) | refine Exists.intro _ (And.intro ⟨rfl, by omega⟩ ?_) | refine Exists.intro _ (And.intro rfl ?_) | refine And.intro rfl ?_ | refine And.intro ⟨rfl, rfl⟩ ?_ | ((refine And.intro (fun _ => ?_) (fun _ => ?_)) <;> try (exfalso; omega))))
      refine Exists.intro (i + 1) (Exists.intro [0, 1] (And.intro ⟨by omega, (by show 2 * n - (i + 1) < 2 * n - i; omega)⟩ ⟨⟨rfl, rfl, rfl, rfl, rfl, trivial⟩, ⟨rfl, by rw [hmx1]; rfl, trivial⟩, rfl⟩))
end Go.Proofs.Ytpangmameocfmaa.VE.P
namespace Go.Proofs.Ytpangmameocfmaa.VE.P
open Go
set_option maxHeartbeats 800000
set_option maxRecDepth 100000

theorem s_iThr (s : Int) (m : List Nat) (hm : m.length = 8) (hb : ∀ x ∈ m, x < 256) : Spec Try.prog n_i_ThroughParts [pv s m] [] (iiV (thrR s m)) [] := by
  have hq := s_bad [(s, m)] (fun p hp => by simp at hp; subst hp; exact ⟨hm, hb⟩) (by simp)
  simp only [List.any_cons, List.any_nil, Bool.or_false] at hq
  have hr : thrR s m = if isPi s m then (((tN (kC (key s.toNat m) (2 * s.toNat)) (mx m (2 * s.toNat)) : Nat) : Int), 0) else (0, 1) := rfl
  refine SpecW.of_EV hf_i_ThroughParts hc_i_ThroughParts rfl rfl rfl fun w0 B ρ0 _ => ?_
  cases hv : isPi s m with
  | false =>
    rw [hv] at hq hr
    (repeat' (first | refine hq.read [1] rfl ⟨rfl, trivial⟩ ?_ | refine Exists.intro (pcl s m) (And.intro ⟨pcl_len hm, pcl_all hm⟩ ?_) | refine And.intro ⟨pcl_len hm, mkL rfl⟩ ?_ | refine Exists.intro (rowP [(s, m)]) (And.intro (row1 (N := 9) (p := (s, m)) (mkL' rfl)) ?_) | refine And.intro (neI rfl) ?_ | refine And.intro ⟨rfl, leR rfl, onesR rfl⟩ ?_ | refine And.intro ⟨rfl, leR rfl⟩ ?_ | refine draw_rule2 hfol (fun KK hKK => ?_) | refine hKK _ _ _ (by kernel_rfl) ?_ | refine region_rule (fun KK hKK => ?_) | refine hKK _ _ ?_ | refine And.intro (Eq.refl true) ?_ | refine Exists.intro _ (And.intro (wI (by omega)) ?_) | refine Exists.intro _ (And.intro (wU (by omega)) ?_) | refine Exists.intro _ (And.intro ⟨rfl, by omega⟩ ?_) | refine Exists.intro _ (And.intro rfl ?_) | refine And.intro rfl ?_ | refine And.intro ⟨rfl, rfl⟩ ?_ | ((refine And.intro (fun _ => ?_) (fun _ => ?_)) <;> try (exfalso; omega))))
    exact Exists.intro [] (And.intro (by rw [hr]; rfl) (And.intro trivial rfl))
  | true =>
    rw [hv] at hq hr
    obtain ⟨n, rfl, hn1, hn⟩ := isPi_size hv
    have hs := s_sides n m hm hv hn1 hn
    have h8 := mx_le (isPi_lt hv) (2 * n)
    (repeat' (first | refine hq.read [1] rfl ⟨rfl, trivial⟩ ?_ | refine hs.make [0] rfl ⟨rfl, trivial⟩ ?_ | refine Exists.intro (pcl n m) (And.intro ⟨pcl_len hm, pcl_all hm⟩ ?_) | refine And.intro ⟨pcl_len hm, mkL rfl⟩ ?_ | refine Exists.intro (rowP [((n : Int), m)]) (And.intro (row1 (N := 9) (p := ((n : Int), m)) (mkL' rfl)) ?_) | refine And.intro (neI rfl) ?_ | refine And.intro ⟨rfl, leR rfl, onesR rfl⟩ ?_ | refine And.intro ⟨rfl, leR rfl⟩ ?_ | refine draw_rule2 hfol (fun KK hKK => ?_) | refine hKK _ _ _ (by kernel_rfl) ?_ | refine region_rule (fun KK hKK => ?_) | refine hKK _ _ ?_ | refine And.intro (Eq.refl true) ?_ | refine Exists.intro _ (And.intro (wI (by omega)) ?_) | refine Exists.intro _ (And.intro (wU (by omega)) ?_) | refine Exists.intro _ (And.intro ⟨rfl, by omega⟩ ?_) | refine Exists.intro _ (And.intro rfl ?_) | refine And.intro rfl ?_ | refine And.intro ⟨rfl, rfl⟩ ?_ | ((refine And.intro (fun _ => ?_) (fun _ => ?_)) <;> try (exfalso; omega))))
    refine loop_rule (α := Nat) (fun k => k ≤ mx m (2 * n))
      (fun k => [(4, vi (tN (kC (key n m) (2 * n)) k : Nat)), (10, .sl 0), (11, vi (mx m (2 * n) : Nat)), (12, vi k)])
      (fun k => [.pr T_a2q_int 2 (mx m (2 * n)) (il (cF n m (2 * n)) (2 * mx m (2 * n)))]) (fun k => mx m (2 * n) - k) 0 [2]
      (by omega) ⟨⟨rfl, rfl, rfl, rfl, trivial⟩, ⟨rfl, trivial⟩, rfl⟩ ?_
    rintro k g hk
    by_cases h9 : k = mx m (2 * n)
    · subst h9
      (repeat' (first | refine And.intro (neI rfl) ?_ | refine And.intro ⟨rfl, leR rfl, onesR rfl⟩ ?_ | refine And.intro ⟨rfl, leR rfl⟩ ?_ | refine draw_rule2 hfol (fun KK hKK => ?_) | refine hKK _ _ _ (by kernel_rfl) ?_ | refine region_rule (fun KK hKK => ?_) | refine hKK _ _ ?_ | refine And.intro (Eq.refl true) ?_ | refine Exists.intro _ (And.intro (wI (by omega)) ?_) | refine Exists.intro _ (And.intro (wU (by omega)) ?_) | refine Exists.intro _ (And.intro ⟨rfl, by omega⟩ ?_) | refine Exists.intro _ (And.intro rfl ?_) | refine And.intro rfl ?_ | refine And.intro ⟨rfl, rfl⟩ ?_ | ((refine And.intro (fun _ => ?_) (fun _ => ?_)) <;> try (exfalso; omega))))
      exact Exists.intro [] (And.intro (by rw [hr]; rfl) (And.intro trivial rfl))
    have hkl : k < mx m (2 * n) := by omega
    have ht := tN_le (f := kC (key n m) (2 * n)) k
    have hu : cF n m (2 * n) (2 * k) = ((kC (key n m) (2 * n) (2 * k) : Nat) : Int) := rfl
    have hl : cF n m (2 * n) (2 * k + 1) = ((kC (key n m) (2 * n) (2 * k + 1) : Nat) : Int) := rfl
    (repeat' (first | refine Exists.intro [Value.int .i64 (cF n m (2 * n) (2 * k)), Value.int .i64 (cF n m (2 * n) (2 * k + 1))] (And.intro ⟨rfl, il_pair hkl⟩ ?_) | refine Exists.intro [Value.int .i64 (cF n m (2 * n) (2 * k)), Value.int .i64 (cF n m (2 * n) (2 * k + 1))] (And.intro ⟨leR rfl, rfl⟩ ?_) | refine Exists.intro 0 (And.intro ⟨rfl, leR rfl⟩ ?_) | refine Exists.intro 1 (And.intro ⟨rfl, leR rfl⟩ ?_) | refine And.intro (neI rfl) ?_ | refine And.intro ⟨rfl, leR rfl, onesR rfl⟩ ?_ | refine And.intro ⟨rfl, leR rfl⟩ ?_ | refine draw_rule2 hfol (fun KK hKK => ?_) | refine hKK _ _ _ (by kernel_rfl) ?_ | refine region_rule (fun KK hKK => ?_) | refine hKK _ _ ?_ | refine And.intro (Eq.refl true) ?_ | refine Exists.intro _ (And.intro (wI (by omega)) ?_) | refine Exists.intro _ (And.intro (wU (by omega)) ?_) | refine Exists.intro _ (And.intro ⟨rfl, by omega⟩ ?_) | refine Exists.intro _ (And.intro rfl ?_) | refine And.intro rfl ?_ | refine And.intro ⟨rfl, rfl⟩ ?_ | ((refine And.intro (fun _ => ?_) (fun _ => ?_)) <;> try (exfalso; omega))))
    all_goals
      refine Exists.intro (k + 1) (Exists.intro [0] (And.intro ⟨by omega, (by show mx m (2 * n) - (k + 1) < mx m (2 * n) - k; omega)⟩ ⟨⟨viR (by simp only [tN]; split <;> omega), rfl, rfl, rfl, trivial⟩, ⟨rfl, trivial⟩, rfl⟩))

theorem s_lawThr (s : Int) (m : List Nat) (hm : m.length = 8) (hb : ∀ x ∈ m, x < 256) : Spec Try.prog n_l_FnExactThroughParts [pv s m] [] (vb true) [] := by
  have h1 := s_sThr s m hm hb
  have h2 := s_iThr s m hm hb
  generalize thrR s m = p at h1 h2
  refine SpecW.of_EV hf_l_FnExactThroughParts hc_l_FnExactThroughParts rfl rfl rfl fun w0 B ρ0 _ => ?_
  (repeat' (first | refine (s_toP s m hm).pure rfl ?_ | refine h1.pure rfl ?_ | refine h2.pure rfl ?_ | refine Exists.intro (pcl s m) (And.intro ⟨pcl_len hm, pcl_all hm⟩ ?_) | refine And.intro (fun _ => ?_) (fun h => absurd rfl h) | refine And.intro (neI rfl) ?_ | refine And.intro ⟨rfl, leR rfl, onesR rfl⟩ ?_ | refine And.intro ⟨rfl, leR rfl⟩ ?_ | refine draw_rule2 hfol (fun KK hKK => ?_) | refine hKK _ _ _ (by kernel_rfl) ?_ | refine region_rule (fun KK hKK => ?_) | refine hKK _ _ ?_ | refine And.intro (Eq.refl true) ?_ | refine Exists.intro _ (And.intro (wI (by omega)) ?_) | refine Exists.intro _ (And.intro (wU (by omega)) ?_) | refine Exists.intro _ (And.intro ⟨rfl, by omega⟩ ?_) | refine Exists.intro _ (And.intro rfl ?_) | refine And.intro rfl ?_ | refine And.intro ⟨rfl, rfl⟩ ?_ | ((refine And.intro (fun _ => ?_) (fun _ => ?_)) <;> try (exfalso; omega))))
  exact finP rfl
end Go.Proofs.Ytpangmameocfmaa.VE.P
