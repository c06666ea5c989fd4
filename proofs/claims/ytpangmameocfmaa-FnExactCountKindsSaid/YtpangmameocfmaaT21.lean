/- Contracts of functions of the given program, for all arguments that the contract names; see each theorem. -/
import Derived.Test.YtpangmameocfmaaT16
set_option linter.all false
namespace Go.Proofs.Ytpangmameocfmaa.VE.P
open Go
set_option maxHeartbeats 800000
set_option maxRecDepth 100000

/-- How often a key comes among the first i. -/
def kC (key : Nat → Nat) : Nat → Nat → Nat
  | 0, _ => 0
  | i + 1, j => kC key i j + (if key i = j then 1 else 0)
theorem kC_le {key : Nat → Nat} {j : Nat} : ∀ i, kC key i j ≤ i
  | 0 => Nat.le_refl _
  | i + 1 => by have := kC_le (key := key) (j := j) i; simp only [kC]; split <;> omega
def key (n : Nat) (m : List Nat) (t : Nat) : Nat := 2 * m.getD t 0 + t / n
/-- The greatest label among the first i, and one. -/
def mx (m : List Nat) : Nat → Nat
  | 0 => 0
  | i + 1 => max (mx m i) (m.getD i 0 + 1)
def tN (f : Nat → Nat) : Nat → Nat
  | 0 => 0
  | k + 1 => tN f k + (if 0 < f (2 * k) ∧ 0 < f (2 * k + 1) then 1 else 0)
theorem tN_le {f : Nat → Nat} : ∀ k, tN f k ≤ k
  | 0 => Nat.le_refl _
  | k + 1 => by have := tN_le (f := f) k; simp only [tN]; split <;> omega
theorem mx_le {m : List Nat} (h : ∀ j, m.getD j 0 < 8) : ∀ i, mx m i ≤ 8
  | 0 => by simp [mx]
  | i + 1 => by have := mx_le h i; have := h i; simp only [mx]; omega

theorem il_ones {f : Nat → Int} {N : Nat} : ones (il f N) := by
  intro u hu
  simp only [il, List.mem_map] at hu
  obtain ⟨x, _, rfl⟩ := hu; rfl
theorem il_all {f : Nat → Int} {N : Nat} : ((il f N).drop 0).take N = il f N := by
  rw [List.drop_zero, List.take_of_length_le (by rw [il_len]; exact Nat.le_refl _)]

def uF (n : Nat) (m : List Nat) (i : Nat) (j : Nat) : Int := ((kC (key n m) i (2 * j) : Nat) : Int)
def lF (n : Nat) (m : List Nat) (i : Nat) (j : Nat) : Int := ((kC (key n m) i (2 * j + 1) : Nat) : Int)
theorem key_up {n : Nat} {m : List Nat} {i : Nat} (h : i < n) : key n m i = 2 * m.getD i 0 := by simp [key, Nat.div_eq_of_lt h]
theorem key_lo {n : Nat} {m : List Nat} {i : Nat} (h : ¬ i < n) (h2 : i < 2 * n) : key n m i = 2 * m.getD i 0 + 1 := by
  have : i / n = 1 := by rw [Nat.div_eq_iff (by omega)]; omega
  simp [key, this]

abbrev cntV (u l : List Value) (p : Int) : V := .tup [.raw (.agg u.toArray), .raw (.agg l.toArray), vi p]
theorem s_counts (n : Nat) (m : List Nat) (hm : m.length = 8) (hb : ∀ j, m.getD j 0 < 8) (hn : n ≤ 4) : Spec Try.prog n_s_l07Counts [pv n m] [] (cntV (il (uF n m (2 * n)) 8) (il (lF n m (2 * n)) 8) (mx m (2 * n) : Nat)) [] := by
  refine SpecW.of_EV hf_s_l07Counts hc_s_l07Counts rfl rfl rfl fun w0 B ρ0 _ => ?_
  (repeat' (first | refine Exists.intro (il (fun _ => 0) 8) (And.intro ⟨leR rfl, rfl⟩ ?_) | refine And.intro (neI rfl) ?_ | refine And.intro ⟨rfl, leR rfl, onesR rfl⟩ ?_ | refine And.intro ⟨rfl, leR rfl⟩ ?_ | refine draw_rule2 hfol (fun KK hKK => ?_) | refine hKK _ _ _ (by kernel_rfl) ?_ | refine region_rule (fun KK hKK => ?_) | refine hKK _ _ ?_ | refine And.intro (Eq.refl true) ?_ | refine Exists.intro _ (And.intro (wI (by omega)) ?_) | refine Exists.intro _ (And.intro (wU (by omega)) ?_) | refine Exists.intro _ (And.intro ⟨rfl, by omega⟩ ?_) | refine Exists.intro _ (And.intro rfl ?_) | refine And.intro rfl ?_ | refine And.intro ⟨rfl, rfl⟩ ?_ | ((refine And.intro (fun _ => ?_) (fun _ => ?_)) <;> try (exfalso; omega))))
  refine loop_rule (α := Nat) (fun i => i ≤ 2 * n)
    (fun i => [(1, .ptr 0 0), (2, .ptr 1 0), (3, .ptr 2 0), (5, .ptr 3 0), (6, .ptr 4 0), (7, vi (mx m i : Nat)), (8, vi i)])
    (fun i => [.pc (pcl n m) T_i_Partition, .pc (il (fun _ => 0) 8) T_a8q_int64, .pc (il (fun _ => 0) 8) T_a8q_int64, .pc (il (uF n m i) 8) T_a8q_int64, .pc (il (lF n m i) 8) T_a8q_int64]) (fun i => 2 * n - i) 0 [0, 1, 2, 3, 4]
    (by omega) ⟨⟨rfl, rfl, rfl, rfl, rfl, rfl, rfl, trivial⟩, ⟨rfl, rfl, rfl, rfl, rfl, trivial⟩, rfl⟩ ?_
  rintro i g hi
  by_cases h8 : i = 2 * n
  · subst h8
    (repeat' (first | refine Exists.intro (il (uF n m (2 * n)) 8) (And.intro ⟨il_len, il_all⟩ ?_) | refine Exists.intro (il (lF n m (2 * n)) 8) (And.intro ⟨il_len, il_all⟩ ?_) | refine And.intro ⟨il_len, leR rfl, il_ones⟩ ?_ | refine Exists.intro (il (uF n m (2 * n)) 8) (And.intro ⟨leR rfl, spl0 (leR rfl)⟩ ?_) | refine Exists.intro (il (lF n m (2 * n)) 8) (And.intro ⟨leR rfl, spl0 (leR rfl)⟩ ?_) | refine And.intro (neI rfl) ?_ | refine And.intro ⟨rfl, leR rfl, onesR rfl⟩ ?_ | refine And.intro ⟨rfl, leR rfl⟩ ?_ | refine draw_rule2 hfol (fun KK hKK => ?_) | refine hKK _ _ _ (by kernel_rfl) ?_ | refine region_rule (fun KK hKK => ?_) | refine hKK _ _ ?_ | refine And.intro (Eq.refl true) ?_ | refine Exists.intro _ (And.intro (wI (by omega)) ?_) | refine Exists.intro _ (And.intro (wU (by omega)) ?_) | refine Exists.intro _ (And.intro ⟨rfl, by omega⟩ ?_) | refine Exists.intro _ (And.intro rfl ?_) | refine And.intro rfl ?_ | refine And.intro ⟨rfl, rfl⟩ ?_ | ((refine And.intro (fun _ => ?_) (fun _ => ?_)) <;> try (exfalso; omega))))
    exact Exists.intro [] (And.intro rfl (And.intro trivial rfl))
  have hil : i < 2 * n := by omega
  have hbi := hb i
  have hmx := mx_le hb i
  by_cases hup : i < n
  · have hk := key_up (m := m) hup
    have hkl := kC_le (key := key n m) (j := 2 * m.getD i 0) i
    have hu : (il (uF n m i) 8).set (m.getD i 0) (.int .i64 (uF n m i (m.getD i 0) + 1)) = il (uF n m (i + 1)) 8 := il_set fun j hj => by
      simp only [uF, kC, hk]
      by_cases h : j = m.getD i 0
      · rw [if_pos h, if_pos (by omega), h]; omega
      · rw [if_neg h, if_neg (by omega)]; omega
    have hl : il (lF n m (i + 1)) 8 = il (lF n m i) 8 := il_congr fun j hj => by
      simp only [lF, kC, hk]; rw [if_neg (by omega)]; omega
    have hw : IntKind.i64.wrap (uF n m i (m.getD i 0) + 1) = uF n m i (m.getD i 0) + 1 := wI (by simp only [uF]; omega)
    (repeat' (first | refine Exists.intro _ (And.intro (il_at (by omega)) ?_) | refine Exists.intro _ (And.intro hw ?_) | refine Exists.intro _ (And.intro (pcl_at (by omega)) ?_) | refine Exists.intro (il (uF n m (i + 1)) 8) (And.intro ⟨by rw [il_len]; omega, hu⟩ ?_) | refine And.intro (neI rfl) ?_ | refine And.intro ⟨rfl, leR rfl, onesR rfl⟩ ?_ | refine And.intro ⟨rfl, leR rfl⟩ ?_ | refine draw_rule2 hfol (fun KK hKK => ?_) | refine hKK _ _ _ (by kernel_rfl) ?_ | refine region_rule (fun KK hKK => ?_) | refine hKK _ _ ?_ | refine And.intro (Eq.refl true) ?_ | refine Exists.intro _ (And.intro (wI (by omega)) ?_) | refine Exists.intro _ (And.intro (wU (by omega)) ?_) | refine Exists.intro _ (And.intro ⟨rfl, by omega⟩ ?_) | refine Exists.intro _ (And.intro rfl ?_) | refine And.intro rfl ?_ | refine And.intro ⟨rfl, rfl⟩ ?_ | ((refine And.intro (fun _ => ?_) (fun _ => ?_)) <;> try (exfalso; omega))))
    refine Exists.intro (i + 1) (Exists.intro [0, 1, 2, 3, 4] (And.intro ⟨by omega, (by show 2 * n - (i + 1) < 2 * n - i; omega)⟩ ⟨⟨rfl, rfl, rfl, rfl, rfl, viR (by simp only [mx]; omega), rfl, trivial⟩, ⟨rfl, rfl, rfl, rfl, by rw [hl]; rfl, trivial⟩, rfl⟩))
  · have hk := key_lo (m := m) hup hil
    have hkl := kC_le (key := key n m) (j := 2 * m.getD i 0 + 1) i
    have hl : (il (lF n m i) 8).set (m.getD i 0) (.int .i64 (lF n m i (m.getD i 0) + 1)) = il (lF n m (i + 1)) 8 := il_set fun j hj => by
      simp only [lF, kC, hk]
      by_cases h : j = m.getD i 0
      · rw [if_pos h, if_pos (by omega), h]; omega
      · rw [if_neg h, if_neg (by omega)]; omega
    have hu : il (uF n m (i + 1)) 8 = il (uF n m i) 8 := il_congr fun j hj => by
      simp only [uF, kC, hk]; rw [if_neg (by omega)]; omega
    have hw : IntKind.i64.wrap (lF n m i (m.getD i 0) + 1) = lF n m i (m.getD i 0) + 1 := wI (by simp only [lF]; omega)
    (repeat' (first | refine Exists.intro _ (And.intro (il_at (by omega)) ?_) | refine Exists.intro _ (And.intro hw ?_) | refine Exists.intro _ (And.intro (pcl_at (by omega)) ?_) | refine Exists.intro (il (lF n m (i + 1)) 8) (And.intro ⟨by rw [il_len]; omega, hl⟩ ?_) | refine And.intro (neI rfl) ?_ | refine And.intro ⟨rfl, leR rfl, onesR rfl⟩ ?_ | refine And.intro ⟨rfl, leR rfl⟩ ?_ | refine draw_rule2 hfol (fun KK hKK => ?_) | refine hKK _ _ _ (by kernel_rfl) ?_ | refine region_rule (fun KK hKK => ?_) | refine hKK _ _ ?_ | refine And.intro (Eq.refl true) ?_ | refine Exists.intro _ (And.intro (wI (by omega)) ?_) | refine Exists.intro _ (And.intro (wU (by omega)) ?_) | refine Exists.intro _ (And.intro ⟨rfl, by omega⟩ ?_) | refine Exists.intro _ (And.intro rfl ?_) | refine And.intro rfl ?_ | refine And.intro ⟨rfl, rfl⟩ ?_ | ((refine And.intro (fun _ => ?_) (fun _ => ?_)) <;> try (exfalso; omega))))
    refine Exists.intro (i + 1) (Exists.intro [0, 1, 2, 3, 4] (And.intro ⟨by omega, (by show 2 * n - (i + 1) < 2 * n - i; omega)⟩ ⟨⟨rfl, rfl, rfl, rfl, rfl, viR (by simp only [mx]; omega), rfl, trivial⟩, ⟨rfl, rfl, rfl, by rw [hu]; rfl, rfl, trivial⟩, rfl⟩))

/-- The reference's. -/
def thrR (s : Int) (m : List Nat) : Int × Int := if isPi s m then ((tN (kC (key s.toNat m) (2 * s.toNat)) (mx m (2 * s.toNat)) : Nat), 0) else (0, 1)
abbrev iiV (p : Int × Int) : V := .tup [vi p.1, vi p.2]

theorem s_sThr (s : Int) (m : List Nat) (hm : m.length = 8) (hb : ∀ x ∈ m, x < 256) : Spec Try.prog n_s_ThroughParts [pv s m] [] (iiV (thrR s m)) [] := by
  have hq := s_is s m hm hb
  rw [isP_eq s m hm] at hq
  have hr : thrR s m = if isPi s m then (((tN (kC (key s.toNat m) (2 * s.toNat)) (mx m (2 * s.toNat)) : Nat) : Int), 0) else (0, 1) := rfl
  refine SpecW.of_EV hf_s_ThroughParts hc_s_ThroughParts rfl rfl rfl fun w0 B ρ0 _ => ?_
  cases hv : isPi s m with
  | false =>
    rw [hv] at hq hr
    (repeat' (first | refine hq.pure rfl ?_ | refine Exists.intro (pcl s m) (And.intro ⟨pcl_len hm, pcl_all hm⟩ ?_) | refine And.intro (neI rfl) ?_ | refine And.intro ⟨rfl, leR rfl, onesR rfl⟩ ?_ | refine And.intro ⟨rfl, leR rfl⟩ ?_ | refine draw_rule2 hfol (fun KK hKK => ?_) | refine hKK _ _ _ (by kernel_rfl) ?_ | refine region_rule (fun KK hKK => ?_) | refine hKK _ _ ?_ | refine And.intro (Eq.refl true) ?_ | refine Exists.intro _ (And.intro (wI (by omega)) ?_) | refine Exists.intro _ (And.intro (wU (by omega)) ?_) | refine Exists.intro _ (And.intro ⟨rfl, by omega⟩ ?_) | refine Exists.intro _ (And.intro rfl ?_) | refine And.intro rfl ?_ | refine And.intro ⟨rfl, rfl⟩ ?_ | ((refine And.intro (fun _ => ?_) (fun _ => ?_)) <;> try (exfalso; omega))))
    exact Exists.intro [] (And.intro (by rw [hr]; rfl) (And.intro trivial rfl))
  | true =>
    rw [hv] at hq hr
    obtain ⟨n, rfl, hn1, hn⟩ := isPi_size hv
    have hc := s_counts n m hm (isPi_lt hv) hn
    have h8 := mx_le (isPi_lt hv) (2 * n)
    (repeat' (first | refine hq.pure rfl ?_ | refine hc.pure rfl ?_ | refine Exists.intro (pcl n m) (And.intro ⟨pcl_len hm, pcl_all hm⟩ ?_) | refine And.intro ⟨il_len, leR rfl, il_ones⟩ ?_ | refine Exists.intro (il (uF n m (2 * n)) 8) (And.intro ⟨leR rfl, spl0 (leR rfl)⟩ ?_) | refine Exists.intro (il (lF n m (2 * n)) 8) (And.intro ⟨leR rfl, spl0 (leR rfl)⟩ ?_) | refine And.intro (neI rfl) ?_ | refine And.intro ⟨rfl, leR rfl, onesR rfl⟩ ?_ | refine And.intro ⟨rfl, leR rfl⟩ ?_ | refine draw_rule2 hfol (fun KK hKK => ?_) | refine hKK _ _ _ (by kernel_rfl) ?_ | refine region_rule (fun KK hKK => ?_) | refine hKK _ _ ?_ | refine And.intro (Eq.refl true) ?_ | refine Exists.intro _ (And.intro (wI (by omega)) ?_) | refine Exists.intro _ (And.intro (wU (by omega)) ?_) | refine Exists.intro _ (And.intro ⟨rfl, by omega⟩ ?_) | refine Exists.intro _ (And.intro rfl ?_) | refine And.intro rfl ?_ | refine And.intro ⟨rfl, rfl⟩ ?_ | ((refine And.intro (fun _ => ?_) (fun _ => ?_)) <;> try (exfalso; omega))))
    refine loop_rule (α := Nat) (fun k => k ≤ mx m (2 * n))
      (fun k => [(4, .ptr 1 0), (5, .ptr 2 0), (6, vi (mx m (2 * n) : Nat)), (7, vi (tN (kC (key n m) (2 * n)) k : Nat)), (8, vi k)])
      (fun k => [.pc (pcl n m) T_i_Partition, .pc (il (uF n m (2 * n)) 8) T_a8q_int64, .pc (il (lF n m (2 * n)) 8) T_a8q_int64]) (fun k => mx m (2 * n) - k) 0 [0, 1, 2]
      (by omega) ⟨⟨rfl, rfl, rfl, rfl, rfl, trivial⟩, ⟨rfl, rfl, rfl, trivial⟩, rfl⟩ ?_
    rintro k g hk
    by_cases h9 : k = mx m (2 * n)
    · subst h9
      (repeat' (first | refine And.intro (neI rfl) ?_ | refine And.intro ⟨rfl, leR rfl, onesR rfl⟩ ?_ | refine And.intro ⟨rfl, leR rfl⟩ ?_ | refine draw_rule2 hfol (fun KK hKK => ?_) | refine hKK _ _ _ (by kernel_rfl) ?_ | refine region_rule (fun KK hKK => ?_) | refine hKK _ _ ?_ | refine And.intro (Eq.refl true) ?_ | refine Exists.intro _ (And.intro (wI (by omega)) ?_) | refine Exists.intro _ (And.intro (wU (by omega)) ?_) | refine Exists.intro _ (And.intro ⟨rfl, by omega⟩ ?_) | refine Exists.intro _ (And.intro rfl ?_) | refine And.intro rfl ?_ | refine And.intro ⟨rfl, rfl⟩ ?_ | ((refine And.intro (fun _ => ?_) (fun _ => ?_)) <;> try (exfalso; omega))))
      exact Exists.intro [] (And.intro (by rw [hr]; rfl) (And.intro trivial rfl))
    have hkl : k < mx m (2 * n) := by omega
    have ht := tN_le (f := kC (key n m) (2 * n)) k
    have hu : uF n m (2 * n) k = ((kC (key n m) (2 * n) (2 * k) : Nat) : Int) := rfl
    have hl : lF n m (2 * n) k = ((kC (key n m) (2 * n) (2 * k + 1) : Nat) : Int) := rfl
    (repeat' (first | refine Exists.intro _ (And.intro (il_at (by omega)) ?_) | refine And.intro (neI rfl) ?_ | refine And.intro ⟨rfl, leR rfl, onesR rfl⟩ ?_ | refine And.intro ⟨rfl, leR rfl⟩ ?_ | refine draw_rule2 hfol (fun KK hKK => ?_) | refine hKK _ _ _ (by kernel_rfl) ?_ | refine region_rule (fun KK hKK => ?_) | refine hKK _ _ ?_ | refine And.intro (Eq.refl true) ?_ | refine Exists.intro _ (And.intro (wI (by omega)) ?_) | refine Exists.intro _ (And.intro (wU (by omega)) ?_) | refine Exists.intro _ (And.intro ⟨rfl, by omega⟩ ?_) | refine Exists.intro _ (And.intro rfl ?_) | refine And.intro rfl ?_ | refine And.intro ⟨rfl, rfl⟩ ?_ | ((refine And.intro (fun _ => ?_) (fun _ => ?_)) <;> try (exfalso; omega))))
    all_goals
      refine Exists.intro (k + 1) (Exists.intro [0, 1, 2] (And.intro ⟨by omega, (by show mx m (2 * n) - (k + 1) < mx m (2 * n) - k; omega)⟩ ⟨⟨rfl, rfl, rfl, viR (by simp only [tN]; split <;> omega), rfl, trivial⟩, ⟨rfl, rfl, rfl, trivial⟩, rfl⟩))
end Go.Proofs.Ytpangmameocfmaa.VE.P
