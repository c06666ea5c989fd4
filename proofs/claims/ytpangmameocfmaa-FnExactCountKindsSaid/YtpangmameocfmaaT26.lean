/- Contracts of functions of the given program, for all arguments that the contract names; see each theorem. -/
import Derived.Test.YtpangmameocfmaaT24
import Derived.Test.YtpangmameocfmaaW2
import Derived.Test.YtpangmameocfmaaEd
set_option linter.all false
namespace Go.Proofs.Ytpangmameocfmaa.VE.P
open Go
set_option maxHeartbeats 1600000
set_option maxRecDepth 100000

def kPair (u d : Nat) : Bool := decide (u + d = 2)
def kFew (u d : Nat) : Bool := decide (u + d ≤ 2)
def kRook (u d : Nat) : Bool := decide (u ≤ 1 ∧ d ≤ 1)
def kIdeal (u d : Nat) : Bool := decide (u = 0 ∨ d = 0)
def kUni (u d : Nat) : Bool := decide (u = d)

theorem s_kPair (u d : Nat) (hu : u ≤ 8) (hd : d ≤ 8) : Spec Try.prog n_i_Partition_kinds_2 [vi u, vi d] [] (vb (kPair u d)) [] := by
  refine SpecW.of_EV hf_i_Partition_kinds_2 hc_i_Partition_kinds_2 rfl rfl rfl fun w0 B ρ0 _ => ?_
  (repeat' (first | refine And.intro (neI rfl) ?_ | refine And.intro ⟨rfl, leR rfl, onesR rfl⟩ ?_ | refine And.intro ⟨rfl, leR rfl⟩ ?_ | refine draw_rule2 hfol (fun KK hKK => ?_) | refine hKK _ _ _ (by kernel_rfl) ?_ | refine region_rule (fun KK hKK => ?_) | refine hKK _ _ ?_ | refine And.intro (Eq.refl true) ?_ | refine Exists.intro _ (And.intro (wI (by omega)) ?_) | refine Exists.intro _ (And.intro (wU (by omega)) ?_) | refine Exists.intro _ (And.intro ⟨rfl, by omega⟩ ?_) | refine Exists.intro _ (And.intro rfl ?_) | refine And.intro rfl ?_ | refine And.intro ⟨rfl, rfl⟩ ?_ | ((refine And.intro (fun _ => ?_) (fun _ => ?_)) <;> try (exfalso; omega))))
  all_goals exact finP (vbR (by unfold kPair; first | rw [decide_eq_true (by omega)] | rw [decide_eq_false (by omega)]))

theorem s_kFew (u d : Nat) (hu : u ≤ 8) (hd : d ≤ 8) : Spec Try.prog n_i_Partition_kinds_3 [vi u, vi d] [] (vb (kFew u d)) [] := by
  refine SpecW.of_EV hf_i_Partition_kinds_3 hc_i_Partition_kinds_3 rfl rfl rfl fun w0 B ρ0 _ => ?_
  (repeat' (first | refine And.intro (neI rfl) ?_ | refine And.intro ⟨rfl, leR rfl, onesR rfl⟩ ?_ | refine And.intro ⟨rfl, leR rfl⟩ ?_ | refine draw_rule2 hfol (fun KK hKK => ?_) | refine hKK _ _ _ (by kernel_rfl) ?_ | refine region_rule (fun KK hKK => ?_) | refine hKK _ _ ?_ | refine And.intro (Eq.refl true) ?_ | refine Exists.intro _ (And.intro (wI (by omega)) ?_) | refine Exists.intro _ (And.intro (wU (by omega)) ?_) | refine Exists.intro _ (And.intro ⟨rfl, by omega⟩ ?_) | refine Exists.intro _ (And.intro rfl ?_) | refine And.intro rfl ?_ | refine And.intro ⟨rfl, rfl⟩ ?_ | ((refine And.intro (fun _ => ?_) (fun _ => ?_)) <;> try (exfalso; omega))))
  all_goals exact finP (vbR (by unfold kFew; first | rw [decide_eq_true (by omega)] | rw [decide_eq_false (by omega)]))

theorem s_kRook (u d : Nat) (hu : u ≤ 8) (hd : d ≤ 8) : Spec Try.prog n_i_Partition_kinds_4 [vi u, vi d] [] (vb (kRook u d)) [] := by
  refine SpecW.of_EV hf_i_Partition_kinds_4 hc_i_Partition_kinds_4 rfl rfl rfl fun w0 B ρ0 _ => ?_
  (repeat' (first | refine And.intro (neI rfl) ?_ | refine And.intro ⟨rfl, leR rfl, onesR rfl⟩ ?_ | refine And.intro ⟨rfl, leR rfl⟩ ?_ | refine draw_rule2 hfol (fun KK hKK => ?_) | refine hKK _ _ _ (by kernel_rfl) ?_ | refine region_rule (fun KK hKK => ?_) | refine hKK _ _ ?_ | refine And.intro (Eq.refl true) ?_ | refine Exists.intro _ (And.intro (wI (by omega)) ?_) | refine Exists.intro _ (And.intro (wU (by omega)) ?_) | refine Exists.intro _ (And.intro ⟨rfl, by omega⟩ ?_) | refine Exists.intro _ (And.intro rfl ?_) | refine And.intro rfl ?_ | refine And.intro ⟨rfl, rfl⟩ ?_ | ((refine And.intro (fun _ => ?_) (fun _ => ?_)) <;> try (exfalso; omega))))
  all_goals exact finP (vbR (by unfold kRook; first | rw [decide_eq_true (by omega)] | rw [decide_eq_false (by omega)]))

theorem s_kIdeal (u d : Nat) (hu : u ≤ 8) (hd : d ≤ 8) : Spec Try.prog n_i_Partition_kinds_5 [vi u, vi d] [] (vb (kIdeal u d)) [] := by
  refine SpecW.of_EV hf_i_Partition_kinds_5 hc_i_Partition_kinds_5 rfl rfl rfl fun w0 B ρ0 _ => ?_
  (repeat' (first | refine And.intro (neI rfl) ?_ | refine And.intro ⟨rfl, leR rfl, onesR rfl⟩ ?_ | refine And.intro ⟨rfl, leR rfl⟩ ?_ | refine draw_rule2 hfol (fun KK hKK => ?_) | refine hKK _ _ _ (by kernel_rfl) ?_ | refine region_rule (fun KK hKK => ?_) | refine hKK _ _ ?_ | refine And.intro (Eq.refl true) ?_ | refine Exists.intro _ (And.intro (wI (by omega)) ?_) | refine Exists.intro _ (And.intro (wU (by omega)) ?_) | refine Exists.intro _ (And.intro ⟨rfl, by omega⟩ ?_) | refine Exists.intro _ (And.intro rfl ?_) | refine And.intro rfl ?_ | refine And.intro ⟨rfl, rfl⟩ ?_ | ((refine And.intro (fun _ => ?_) (fun _ => ?_)) <;> try (exfalso; omega))))
  all_goals exact finP (vbR (by unfold kIdeal; first | rw [decide_eq_true (by omega)] | rw [decide_eq_false (by omega)]))

theorem s_kUni (u d : Nat) (hu : u ≤ 8) (hd : d ≤ 8) : Spec Try.prog n_i_Partition_kinds_6 [vi u, vi d] [] (vb (kUni u d)) [] := by
  refine SpecW.of_EV hf_i_Partition_kinds_6 hc_i_Partition_kinds_6 rfl rfl rfl fun w0 B ρ0 _ => ?_
  (repeat' (first | refine And.intro (neI rfl) ?_ | refine And.intro ⟨rfl, leR rfl, onesR rfl⟩ ?_ | refine And.intro ⟨rfl, leR rfl⟩ ?_ | refine draw_rule2 hfol (fun KK hKK => ?_) | refine hKK _ _ _ (by kernel_rfl) ?_ | refine region_rule (fun KK hKK => ?_) | refine hKK _ _ ?_ | refine And.intro (Eq.refl true) ?_ | refine Exists.intro _ (And.intro (wI (by omega)) ?_) | refine Exists.intro _ (And.intro (wU (by omega)) ?_) | refine Exists.intro _ (And.intro ⟨rfl, by omega⟩ ?_) | refine Exists.intro _ (And.intro rfl ?_) | refine And.intro rfl ?_ | refine And.intro ⟨rfl, rfl⟩ ?_ | ((refine And.intro (fun _ => ?_) (fun _ => ?_)) <;> try (exfalso; omega))))
  all_goals exact finP (vbR (by unfold kUni; first | rw [decide_eq_true (by omega)] | rw [decide_eq_false (by omega)]))

def allK (is : Nat → Nat → Bool) (f : Nat → Nat) : Nat → Bool
  | 0 => true
  | k + 1 => allK is f k && is (f (2 * k)) (f (2 * k + 1))
theorem allK_true {is : Nat → Nat → Bool} {f : Nat → Nat} : ∀ {k}, allK is f k = true ↔ ∀ j, j < k → is (f (2 * j)) (f (2 * j + 1)) = true
  | 0 => by simp [allK]
  | k + 1 => by
    rw [allK, Bool.and_eq_true, allK_true (k := k)]
    constructor
    · rintro ⟨h1, h2⟩ j hj
      by_cases hjk : j = k
      · subst hjk; exact h2
      · exact h1 j (by omega)
    · intro h; exact ⟨fun j hj => h j (by omega), h k (by omega)⟩
abbrev T_pP : TypeId := 83
section
variable (G : FuncId) (is : Nat → Nat → Bool) (hc : ∀ u d : Nat, u ≤ 8 → d ≤ 8 → Spec Try.prog G [vi u, vi d] [] (vb (is u d)) [])
include hc
theorem s_kk (u d : Nat) (hu : u ≤ 8) (hd : d ≤ 8) : Spec Try.prog n_i_Partition_kinds_1q_1 [.raw (.agg #[.int .i64 u, .int .i64 d]), .ptr 0 0] [.cc [.fn (.func G) [] []] T_f_int_int_bool] (vb (!is u d)) [.cc [.fn (.func G) [] []] T_f_int_int_bool] := by
  have hq := hc u d hu hd
  generalize is u d = b at hq
  refine SpecW.of_EV hf_i_Partition_kinds_1q_1 hc_i_Partition_kinds_1q_1 rfl rfl rfl fun w0 B ρ0 _ => ?_
  cases b <;>
  · (repeat' (first | refine (hq).pure rfl ?_ | refine Exists.intro 0 (And.intro ⟨rfl, leR rfl⟩ ?_) | refine Exists.intro 1 (And.intro ⟨rfl, leR rfl⟩ ?_) | refine And.intro (neI rfl) ?_ | refine And.intro ⟨rfl, leR rfl, onesR rfl⟩ ?_ | refine And.intro ⟨rfl, leR rfl⟩ ?_ | refine draw_rule2 hfol (fun KK hKK => ?_) | refine hKK _ _ _ (by kernel_rfl) ?_ | refine region_rule (fun KK hKK => ?_) | refine hKK _ _ ?_ | refine And.intro (Eq.refl true) ?_ | refine Exists.intro _ (And.intro (wI (by omega)) ?_) | refine Exists.intro _ (And.intro (wU (by omega)) ?_) | refine Exists.intro _ (And.intro ⟨rfl, by omega⟩ ?_) | refine Exists.intro _ (And.intro rfl ?_) | refine And.intro rfl ?_ | refine And.intro ⟨rfl, rfl⟩ ?_ | ((refine And.intro (fun _ => ?_) (fun _ => ?_)) <;> try (exfalso; omega))))
    exact Exists.intro [0] (And.intro (rfl) (And.intro ⟨rfl, trivial⟩ rfl))
theorem s_kindex (f : Nat → Nat) (K : Nat) (hK : K ≤ 8) (hf : ∀ j, f j ≤ 8) : ∃ r : Int, decide (r ≥ 0) = !(allK is f K) ∧ Spec Try.prog n_g_IndexFunc_2_int [.sl 0, .fn (.func n_i_Partition_kinds_1q_1) [] [.ptr 1 0]] [.pr T_a2q_int 2 K (il (fun j => ((f j : Nat) : Int)) (2 * K)), .cc [.fn (.func G) [] []] T_f_int_int_bool] (vi r) [.pr T_a2q_int 2 K (il (fun j => ((f j : Nat) : Int)) (2 * K)), .cc [.fn (.func G) [] []] T_f_int_int_bool] := by
  have hex : ∃ r : Int, (∃ p, p < K ∧ is (f (2 * p)) (f (2 * p + 1)) = false ∧ r = p ∧ ∀ q, q < p → is (f (2 * q)) (f (2 * q + 1)) = true) ∨ (r = -1 ∧ ∀ q, q < K → is (f (2 * q)) (f (2 * q + 1)) = true) := by
    have : ∀ d, d ≤ K → (∃ p, p < d ∧ is (f (2 * p)) (f (2 * p + 1)) = false ∧ ∀ q, q < p → is (f (2 * q)) (f (2 * q + 1)) = true) ∨ ∀ q, q < d → is (f (2 * q)) (f (2 * q + 1)) = true := by
      intro d
      induction d with
      | zero => exact fun _ => .inr fun q hq => by omega
      | succ d ih =>
        intro hd
        rcases ih (by omega) with ⟨p, h1, h2⟩ | h
        · exact .inl ⟨p, by omega, h2⟩
        · cases hx : is (f (2 * d)) (f (2 * d + 1)) with
          | false => exact .inl ⟨d, by omega, hx, h⟩
          | true =>
            refine .inr fun q hq => ?_
            by_cases hqd : q = d
            · subst hqd; exact hx
            · exact h q (by omega)
    rcases this K (Nat.le_refl _) with ⟨p, h1, h2, h3⟩ | h
    · exact ⟨p, .inl ⟨p, h1, h2, rfl, h3⟩⟩
    · exact ⟨-1, .inr ⟨rfl, h⟩⟩
  obtain ⟨r, hr⟩ := hex
  refine ⟨r, ?_, ?_⟩
  · rcases hr with ⟨p, h1, h2, rfl, _⟩ | ⟨rfl, h⟩
    · have : allK is f K = false := by
        cases ha : allK is f K with
        | false => rfl
        | true => rw [allK_true.1 ha p h1] at h2; cases h2
      rw [this]; exact decide_eq_true (by omega)
    · rw [allK_true.2 h]; rfl
  refine SpecW.of_EV hf_g_IndexFunc_2_int hc_g_IndexFunc_2_int rfl rfl rfl fun w0 B ρ0 _ => ?_
  (repeat' (first | refine And.intro (neI rfl) ?_ | refine And.intro ⟨rfl, leR rfl, onesR rfl⟩ ?_ | refine And.intro ⟨rfl, leR rfl⟩ ?_ | refine draw_rule2 hfol (fun KK hKK => ?_) | refine hKK _ _ _ (by kernel_rfl) ?_ | refine region_rule (fun KK hKK => ?_) | refine hKK _ _ ?_ | refine And.intro (Eq.refl true) ?_ | refine Exists.intro _ (And.intro (wI (by omega)) ?_) | refine Exists.intro _ (And.intro (wU (by omega)) ?_) | refine Exists.intro _ (And.intro ⟨rfl, by omega⟩ ?_) | refine Exists.intro _ (And.intro rfl ?_) | refine And.intro rfl ?_ | refine And.intro ⟨rfl, rfl⟩ ?_ | ((refine And.intro (fun _ => ?_) (fun _ => ?_)) <;> try (exfalso; omega))))
  refine loop_rule (α := Nat) (fun i => i ≤ K ∧ ∀ q, q < i → is (f (2 * q)) (f (2 * q + 1)) = true)
      (fun i => [(0, .sl 0), (1, .fn (.func n_i_Partition_kinds_1q_1) [] [.ptr 1 0]), (7, vi K), (8, vi i)]) (fun _ => [.pr T_a2q_int 2 K (il (fun j => ((f j : Nat) : Int)) (2 * K)), .cc [.fn (.func G) [] []] T_f_int_int_bool]) (fun i => K - i) 0 [0, 1]
      ⟨by omega, fun q hq => by omega⟩ ⟨⟨rfl, rfl, rfl, rfl, trivial⟩, ⟨rfl, rfl, trivial⟩, rfl⟩ ?_
  rintro i g ⟨hi, hno⟩
  by_cases h9 : i = K
  · subst h9
    have : r = -1 := by
      rcases hr with ⟨p, h1, h2, _⟩ | ⟨h, _⟩
      · rw [hno p h1] at h2; cases h2
      · exact h
    subst this
    (repeat' (first | refine And.intro (neI rfl) ?_ | refine And.intro ⟨rfl, leR rfl, onesR rfl⟩ ?_ | refine And.intro ⟨rfl, leR rfl⟩ ?_ | refine draw_rule2 hfol (fun KK hKK => ?_) | refine hKK _ _ _ (by kernel_rfl) ?_ | refine region_rule (fun KK hKK => ?_) | refine hKK _ _ ?_ | refine And.intro (Eq.refl true) ?_ | refine Exists.intro _ (And.intro (wI (by omega)) ?_) | refine Exists.intro _ (And.intro (wU (by omega)) ?_) | refine Exists.intro _ (And.intro ⟨rfl, by omega⟩ ?_) | refine Exists.intro _ (And.intro rfl ?_) | refine And.intro rfl ?_ | refine And.intro ⟨rfl, rfl⟩ ?_ | ((refine And.intro (fun _ => ?_) (fun _ => ?_)) <;> try (exfalso; omega))))
    exact Exists.intro [0,1] (And.intro (rfl) (And.intro ⟨rfl, rfl, trivial⟩ rfl))
  have hil : i < K := by omega
  have hq := s_kk G is hc (f (2 * i)) (f (2 * i + 1)) (hf _) (hf _)
  cases hx : is (f (2 * i)) (f (2 * i + 1)) with
  | false =>
    have hri : r = i := by
      rcases hr with ⟨p, h1, h2, h3, h4⟩ | ⟨_, h⟩
      · rcases Nat.lt_trichotomy p i with h | h | h
        · rw [hno p h] at h2; cases h2
        · rw [h3, h]
        · rw [h4 i h] at hx; cases hx
      · rw [h i hil] at hx; cases hx
    subst hri
    rw [hx] at hq
    (repeat' (first | refine Exists.intro [Value.int .i64 ((f (2 * i) : Nat) : Int), Value.int .i64 ((f (2 * i + 1) : Nat) : Int)] (And.intro ⟨rfl, il_pair hil⟩ ?_) | refine (hq).read [1] rfl ⟨rfl, trivial⟩ ?_ | refine And.intro (neI rfl) ?_ | refine And.intro ⟨rfl, leR rfl, onesR rfl⟩ ?_ | refine And.intro ⟨rfl, leR rfl⟩ ?_ | refine draw_rule2 hfol (fun KK hKK => ?_) | refine hKK _ _ _ (by kernel_rfl) ?_ | refine region_rule (fun KK hKK => ?_) | refine hKK _ _ ?_ | refine And.intro (Eq.refl true) ?_ | refine Exists.intro _ (And.intro (wI (by omega)) ?_) | refine Exists.intro _ (And.intro (wU (by omega)) ?_) | refine Exists.intro _ (And.intro ⟨rfl, by omega⟩ ?_) | refine Exists.intro _ (And.intro rfl ?_) | refine And.intro rfl ?_ | refine And.intro ⟨rfl, rfl⟩ ?_ | ((refine And.intro (fun _ => ?_) (fun _ => ?_)) <;> try (exfalso; omega))))
    exact Exists.intro [0,1] (And.intro (rfl) (And.intro ⟨rfl, rfl, trivial⟩ rfl))
  | true =>
    rw [hx] at hq
    (repeat' (first | refine Exists.intro [Value.int .i64 ((f (2 * i) : Nat) : Int), Value.int .i64 ((f (2 * i + 1) : Nat) : Int)] (And.intro ⟨rfl, il_pair hil⟩ ?_) | refine (hq).read [1] rfl ⟨rfl, trivial⟩ ?_ | refine And.intro (neI rfl) ?_ | refine And.intro ⟨rfl, leR rfl, onesR rfl⟩ ?_ | refine And.intro ⟨rfl, leR rfl⟩ ?_ | refine draw_rule2 hfol (fun KK hKK => ?_) | refine hKK _ _ _ (by kernel_rfl) ?_ | refine region_rule (fun KK hKK => ?_) | refine hKK _ _ ?_ | refine And.intro (Eq.refl true) ?_ | refine Exists.intro _ (And.intro (wI (by omega)) ?_) | refine Exists.intro _ (And.intro (wU (by omega)) ?_) | refine Exists.intro _ (And.intro ⟨rfl, by omega⟩ ?_) | refine Exists.intro _ (And.intro rfl ?_) | refine And.intro rfl ?_ | refine And.intro ⟨rfl, rfl⟩ ?_ | ((refine And.intro (fun _ => ?_) (fun _ => ?_)) <;> try (exfalso; omega))))
    refine Exists.intro (i + 1) (Exists.intro [0, 1] (And.intro ⟨⟨by omega, fun q hq => ?_⟩, (by show K - (i + 1) < K - i; omega)⟩ ⟨⟨rfl, rfl, rfl, rfl, trivial⟩, ⟨rfl, rfl, trivial⟩, rfl⟩))
    by_cases hqi : q = i
    · subst hqi; exact hx
    · exact hno q (by omega)
theorem s_kcontains (f : Nat → Nat) (K : Nat) (hK : K ≤ 8) (hf : ∀ j, f j ≤ 8) : Spec Try.prog n_g_ContainsFunc_2_int [.sl 0, .fn (.func n_i_Partition_kinds_1q_1) [] [.ptr 1 0]] [.pr T_a2q_int 2 K (il (fun j => ((f j : Nat) : Int)) (2 * K)), .cc [.fn (.func G) [] []] T_f_int_int_bool] (vb (!(allK is f K))) [.pr T_a2q_int 2 K (il (fun j => ((f j : Nat) : Int)) (2 * K)), .cc [.fn (.func G) [] []] T_f_int_int_bool] := by
  obtain ⟨r, hr, hq⟩ := s_kindex G is hc f K hK hf
  rw [← hr]
  refine SpecW.of_EV hf_g_ContainsFunc_2_int hc_g_ContainsFunc_2_int rfl rfl rfl fun w0 B ρ0 _ => ?_
  (repeat' (first | refine (hq).read [0,1] rfl ⟨rfl, rfl, trivial⟩ ?_ | refine And.intro (neI rfl) ?_ | refine And.intro ⟨rfl, leR rfl, onesR rfl⟩ ?_ | refine And.intro ⟨rfl, leR rfl⟩ ?_ | refine draw_rule2 hfol (fun KK hKK => ?_) | refine hKK _ _ _ (by kernel_rfl) ?_ | refine region_rule (fun KK hKK => ?_) | refine hKK _ _ ?_ | refine And.intro (Eq.refl true) ?_ | refine Exists.intro _ (And.intro (wI (by omega)) ?_) | refine Exists.intro _ (And.intro (wU (by omega)) ?_) | refine Exists.intro _ (And.intro ⟨rfl, by omega⟩ ?_) | refine Exists.intro _ (And.intro rfl ?_) | refine And.intro rfl ?_ | refine And.intro ⟨rfl, rfl⟩ ?_ | ((refine And.intro (fun _ => ?_) (fun _ => ?_)) <;> try (exfalso; omega))))
  all_goals exact Exists.intro [0,1] (And.intro (vbR (by first | rw [decide_eq_true (by omega)] | rw [decide_eq_false (by omega)])) (And.intro ⟨rfl, rfl, trivial⟩ rfl))
theorem s_every (n : Nat) (m : List Nat) (hm : m.length = 8) (hv : isPi n m = true) (hn1 : 1 ≤ n) (hn : n ≤ 4) : Spec Try.prog n_i_Partition_kinds_1 [.fn (.func G) [] [], .ptr 0 0] [.cc [.ptr 1 0] T_pP, .pc (pcl n m) T_i_Partition] (vb (allK is (kC (key n m) (2 * n)) (mx m (2 * n)))) [.cc [.ptr 1 0] T_pP, .pc (pcl n m) T_i_Partition] := by
  have hs := s_sides n m hm hv hn1 hn
  have hq := s_kcontains G is hc (kC (key n m) (2 * n)) (mx m (2 * n)) (mx_le (isPi_lt hv) (2 * n)) fun j => by have := kC_le (key := key n m) (j := j) (2 * n); omega
  generalize allK is (kC (key n m) (2 * n)) (mx m (2 * n)) = b at hq
  refine SpecW.of_EV hf_i_Partition_kinds_1 hc_i_Partition_kinds_1 rfl rfl rfl fun w0 B ρ0 _ => ?_
  cases b <;>
  · (repeat' (first | refine (hs).make [1] rfl ⟨rfl, trivial⟩ ?_ | refine (hq).read [3,2] rfl ⟨rfl, rfl, trivial⟩ ?_ | refine And.intro (neI rfl) ?_ | refine And.intro ⟨rfl, leR rfl, onesR rfl⟩ ?_ | refine And.intro ⟨rfl, leR rfl⟩ ?_ | refine draw_rule2 hfol (fun KK hKK => ?_) | refine hKK _ _ _ (by kernel_rfl) ?_ | refine region_rule (fun KK hKK => ?_) | refine hKK _ _ ?_ | refine And.intro (Eq.refl true) ?_ | refine Exists.intro _ (And.intro (wI (by omega)) ?_) | refine Exists.intro _ (And.intro (wU (by omega)) ?_) | refine Exists.intro _ (And.intro ⟨rfl, by omega⟩ ?_) | refine Exists.intro _ (And.intro rfl ?_) | refine And.intro rfl ?_ | refine And.intro ⟨rfl, rfl⟩ ?_ | ((refine And.intro (fun _ => ?_) (fun _ => ?_)) <;> try (exfalso; omega))))
    exact Exists.intro [0,1] (And.intro (rfl) (And.intro ⟨rfl, rfl, trivial⟩ rfl))
end

def KDb (p a b c d e : Bool) : Nat → Bool
  | 0 => p
  | 1 => a
  | 2 => p && b
  | 3 => c
  | 4 => c && a
  | 5 => d
  | _ => e
noncomputable def KD (n : Nat) (m : List Nat) : Nat → Bool := KDb (plB n m) (allK kPair (kC (key n m) (2 * n)) (mx m (2 * n))) (allK kFew (kC (key n m) (2 * n)) (mx m (2 * n))) (allK kRook (kC (key n m) (2 * n)) (mx m (2 * n))) (allK kIdeal (kC (key n m) (2 * n)) (mx m (2 * n))) (allK kUni (kC (key n m) (2 * n)) (mx m (2 * n)))

theorem mk_len {z : Array Value} {n : Nat} : (madeCells z n).toList.length = n := by rw [Array.length_toList, size_madeCells]
def wr (i : Nat) (v : Value) (c : List Value) : List Value := c.take (i * 1) ++ v.cells.toList ++ c.drop (i * 1 + 1)
theorem wr_len {c : List Value} {k i : Nat} {b : Bool} (h : c.length = 7) (hi : Nat.ble (i * 1 + 1) 7 = true) (hk : Nat.ble (k * 1 + 1) 7 = true) : k * 1 + 1 ≤ (wr i (.bool b) c).length ∧ (wr i (.bool b) c).length = 7 := by
  have := Nat.le_of_ble_eq_true hi
  have := Nat.le_of_ble_eq_true hk
  have he : (Value.bool b).cells.toList.length = 1 := rfl
  have hh : (wr i (.bool b) c).length = 7 := by
    unfold wr
    rw [List.length_append, List.length_append, List.length_take, List.length_drop, he]
    omega
  exact ⟨by omega, hh⟩
theorem row7 {c : List Value} {b0 b1 b2 b3 b4 b5 b6 : Bool} (h : c.length = 7) : wr 6 (.bool b6) (wr 5 (.bool b5) (wr 4 (.bool b4) (wr 3 (.bool b3) (wr 2 (.bool b2) (wr 1 (.bool b1) (wr 0 (.bool b0) c)))))) = [.bool b0, .bool b1, .bool b2, .bool b3, .bool b4, .bool b5, .bool b6] := by
  match c, h with
  | [_, _, _, _, _, _, _], _ => rfl
theorem wrl1 {c : List Value} {b0 : Bool} (h : c.length = 7) : 1 * 1 + 1 ≤ (wr 0 (.bool b0) c).length := (wr_len h rfl rfl).1
theorem wrl2 {c : List Value} {b0 b1 : Bool} (h : c.length = 7) : 2 * 1 + 1 ≤ (wr 1 (.bool b1) (wr 0 (.bool b0) c)).length := (wr_len (wr_len (k := 0) h rfl rfl).2 rfl rfl).1
theorem wrl3 {c : List Value} {b0 b1 b2 : Bool} (h : c.length = 7) : 3 * 1 + 1 ≤ (wr 2 (.bool b2) (wr 1 (.bool b1) (wr 0 (.bool b0) c))).length := (wr_len (wr_len (k := 0) (wr_len (k := 0) h rfl rfl).2 rfl rfl).2 rfl rfl).1
theorem wrl4 {c : List Value} {b0 b1 b2 b3 : Bool} (h : c.length = 7) : 4 * 1 + 1 ≤ (wr 3 (.bool b3) (wr 2 (.bool b2) (wr 1 (.bool b1) (wr 0 (.bool b0) c)))).length := (wr_len (wr_len (k := 0) (wr_len (k := 0) (wr_len (k := 0) h rfl rfl).2 rfl rfl).2 rfl rfl).2 rfl rfl).1
theorem wrl5 {c : List Value} {b0 b1 b2 b3 b4 : Bool} (h : c.length = 7) : 5 * 1 + 1 ≤ (wr 4 (.bool b4) (wr 3 (.bool b3) (wr 2 (.bool b2) (wr 1 (.bool b1) (wr 0 (.bool b0) c))))).length := (wr_len (wr_len (k := 0) (wr_len (k := 0) (wr_len (k := 0) (wr_len (k := 0) h rfl rfl).2 rfl rfl).2 rfl rfl).2 rfl rfl).2 rfl rfl).1
theorem wrl6 {c : List Value} {b0 b1 b2 b3 b4 b5 : Bool} (h : c.length = 7) : 6 * 1 + 1 ≤ (wr 5 (.bool b5) (wr 4 (.bool b4) (wr 3 (.bool b3) (wr 2 (.bool b2) (wr 1 (.bool b1) (wr 0 (.bool b0) c)))))).length := (wr_len (wr_len (k := 0) (wr_len (k := 0) (wr_len (k := 0) (wr_len (k := 0) (wr_len (k := 0) h rfl rfl).2 rfl rfl).2 rfl rfl).2 rfl rfl).2 rfl rfl).2 rfl rfl).1

theorem s_ikinds (n : Nat) (m : List Nat) (hm : m.length = 8) (hb : ∀ x ∈ m, x < 256) (hv : isPi n m = true) (hn1 : 1 ≤ n) (hn : n ≤ 4) : Spec Try.prog n_i_Partition_kinds [.ptr 0 0] [.pc (pcl n m) T_i_Partition] (.sl 1) [.pc (pcl n m) T_i_Partition, .pr T_bool 1 7 (bl (KD n m) 7)] := by
  have h0 := s_iplanar n m hm hb hn
  have h1 := s_every n_i_Partition_kinds_2 kPair s_kPair n m hm hv hn1 hn
  have h2 := s_every n_i_Partition_kinds_3 kFew s_kFew n m hm hv hn1 hn
  have h3 := s_every n_i_Partition_kinds_4 kRook s_kRook n m hm hv hn1 hn
  have h4 := s_every n_i_Partition_kinds_5 kIdeal s_kIdeal n m hm hv hn1 hn
  have h5 := s_every n_i_Partition_kinds_6 kUni s_kUni n m hm hv hn1 hn
  unfold KD
  generalize plB n m = p at h0
  generalize allK kPair (kC (key n m) (2 * n)) (mx m (2 * n)) = a at h1
  generalize allK kFew (kC (key n m) (2 * n)) (mx m (2 * n)) = b at h2
  generalize allK kRook (kC (key n m) (2 * n)) (mx m (2 * n)) = c at h3
  generalize allK kIdeal (kC (key n m) (2 * n)) (mx m (2 * n)) = d at h4
  generalize allK kUni (kC (key n m) (2 * n)) (mx m (2 * n)) = e at h5
  refine SpecW.of_EV hf_i_Partition_kinds hc_i_Partition_kinds rfl rfl rfl fun w0 B ρ0 _ => ?_
  cases p <;> cases c <;>
  · (repeat' (first | refine (h0).read [0] rfl ⟨rfl, trivial⟩ ?_ | refine (h1).read [1,0] rfl ⟨rfl, rfl, trivial⟩ ?_ | refine (h2).read [1,0] rfl ⟨rfl, rfl, trivial⟩ ?_ | refine (h3).read [1,0] rfl ⟨rfl, rfl, trivial⟩ ?_ | refine (h4).read [1,0] rfl ⟨rfl, rfl, trivial⟩ ?_ | refine (h5).read [1,0] rfl ⟨rfl, rfl, trivial⟩ ?_ | refine And.intro ⟨rfl, mkL rfl⟩ ?_ | refine And.intro ⟨rfl, wrl1 mk_len⟩ ?_ | refine And.intro ⟨rfl, wrl2 mk_len⟩ ?_ | refine And.intro ⟨rfl, wrl3 mk_len⟩ ?_ | refine And.intro ⟨rfl, wrl4 mk_len⟩ ?_ | refine And.intro ⟨rfl, wrl5 mk_len⟩ ?_ | refine And.intro ⟨rfl, wrl6 mk_len⟩ ?_ | refine Exists.intro (bl (KDb _ a b _ d e) 7) (And.intro (row7 mk_len) ?_) | refine And.intro (neI rfl) ?_ | refine And.intro ⟨rfl, leR rfl, onesR rfl⟩ ?_ | refine And.intro ⟨rfl, leR rfl⟩ ?_ | refine draw_rule2 hfol (fun KK hKK => ?_) | refine hKK _ _ _ (by kernel_rfl) ?_ | refine region_rule (fun KK hKK => ?_) | refine hKK _ _ ?_ | refine And.intro (Eq.refl true) ?_ | refine Exists.intro _ (And.intro (wI (by omega)) ?_) | refine Exists.intro _ (And.intro (wU (by omega)) ?_) | refine Exists.intro _ (And.intro ⟨rfl, by omega⟩ ?_) | refine Exists.intro _ (And.intro rfl ?_) | refine And.intro rfl ?_ | refine And.intro ⟨rfl, rfl⟩ ?_ | ((refine And.intro (fun _ => ?_) (fun _ => ?_)) <;> try (exfalso; omega))))
    exact Exists.intro [0,2] (And.intro (rfl) (And.intro ⟨rfl, rfl, trivial⟩ rfl))

theorem s_skinds (n : Nat) (m : List Nat) (hm : m.length = 8) (hv : isPi n m = true) (hn1 : 1 ≤ n) (hn : n ≤ 4) : Spec Try.prog n_s_l07Kinds [pv n m] [] (.sl 0) [.pr T_bool 1 7 (bl (KD n m) 7)] := by
  have hc := s_counts n m hm (isPi_lt hv) hn
  have hpl := s_splanar n m hm hn
  have h8 := mx_le (isPi_lt hv) (2 * n)
  refine SpecW.of_EV hf_s_l07Kinds hc_s_l07Kinds rfl rfl rfl fun w0 B ρ0 _ => ?_
  (repeat' (first | refine (hc).pure rfl ?_ | refine (hpl).pure rfl ?_ | refine Exists.intro (pcl n m) (And.intro ⟨pcl_len hm, pcl_all hm⟩ ?_) | refine And.intro ⟨il_len, leR rfl, il_ones⟩ ?_ | refine Exists.intro (il (uF n m (2 * n)) 8) (And.intro ⟨leR rfl, spl0 (leR rfl)⟩ ?_) | refine Exists.intro (il (lF n m (2 * n)) 8) (And.intro ⟨leR rfl, spl0 (leR rfl)⟩ ?_) | refine And.intro (neI rfl) ?_ | refine And.intro ⟨rfl, leR rfl, onesR rfl⟩ ?_ | refine And.intro ⟨rfl, leR rfl⟩ ?_ | refine draw_rule2 hfol (fun KK hKK => ?_) | refine hKK _ _ _ (by kernel_rfl) ?_ | refine region_rule (fun KK hKK => ?_) | refine hKK _ _ ?_ | refine And.intro (Eq.refl true) ?_ | refine Exists.intro _ (And.intro (wI (by omega)) ?_) | refine Exists.intro _ (And.intro (wU (by omega)) ?_) | refine Exists.intro _ (And.intro ⟨rfl, by omega⟩ ?_) | refine Exists.intro _ (And.intro rfl ?_) | refine And.intro rfl ?_ | refine And.intro ⟨rfl, rfl⟩ ?_ | ((refine And.intro (fun _ => ?_) (fun _ => ?_)) <;> try (exfalso; omega))))
  refine loop_rule (α := Nat) (fun k => k ≤ mx m (2 * n))
    (fun k => [(1, .ptr 0 0), (3, .ptr 1 0), (4, .ptr 2 0), (5, vi (mx m (2 * n) : Nat)), (6, vb (plB n m)), (7, vb (allK kPair (kC (key n m) (2 * n)) k)), (8, vb (allK kFew (kC (key n m) (2 * n)) k)), (9, vb (allK kRook (kC (key n m) (2 * n)) k)), (10, vb (allK kIdeal (kC (key n m) (2 * n)) k)), (11, vb (allK kUni (kC (key n m) (2 * n)) k)), (12, vi k)])
    (fun _ => [.pc (pcl n m) T_i_Partition, .pc (il (uF n m (2 * n)) 8) T_a8q_int64, .pc (il (lF n m (2 * n)) 8) T_a8q_int64]) (fun k => mx m (2 * n) - k) 0 [0, 1, 2]
    (by omega) ⟨⟨rfl, rfl, rfl, rfl, rfl, rfl, rfl, rfl, rfl, rfl, rfl, trivial⟩, ⟨rfl, rfl, rfl, trivial⟩, rfl⟩ ?_
  rintro k g hk
  by_cases h9 : k = mx m (2 * n)
  · subst h9
    unfold KD
    generalize plB n m = p
    generalize allK kPair (kC (key n m) (2 * n)) (mx m (2 * n)) = a
    generalize allK kFew (kC (key n m) (2 * n)) (mx m (2 * n)) = b
    generalize allK kRook (kC (key n m) (2 * n)) (mx m (2 * n)) = c
    generalize allK kIdeal (kC (key n m) (2 * n)) (mx m (2 * n)) = d
    generalize allK kUni (kC (key n m) (2 * n)) (mx m (2 * n)) = e
    cases p <;> cases c <;>
    · (repeat' (first | refine And.intro ⟨rfl, mkL rfl⟩ ?_ | refine And.intro ⟨rfl, wrl1 mk_len⟩ ?_ | refine And.intro ⟨rfl, wrl2 mk_len⟩ ?_ | refine And.intro ⟨rfl, wrl3 mk_len⟩ ?_ | refine And.intro ⟨rfl, wrl4 mk_len⟩ ?_ | refine And.intro ⟨rfl, wrl5 mk_len⟩ ?_ | refine And.intro ⟨rfl, wrl6 mk_len⟩ ?_ | refine Exists.intro (bl (KDb _ a b _ d e) 7) (And.intro (row7 mk_len) ?_) | refine And.intro (neI rfl) ?_ | refine And.intro ⟨rfl, leR rfl, onesR rfl⟩ ?_ | refine And.intro ⟨rfl, leR rfl⟩ ?_ | refine draw_rule2 hfol (fun KK hKK => ?_) | refine hKK _ _ _ (by kernel_rfl) ?_ | refine region_rule (fun KK hKK => ?_) | refine hKK _ _ ?_ | refine And.intro (Eq.refl true) ?_ | refine Exists.intro _ (And.intro (wI (by omega)) ?_) | refine Exists.intro _ (And.intro (wU (by omega)) ?_) | refine Exists.intro _ (And.intro ⟨rfl, by omega⟩ ?_) | refine Exists.intro _ (And.intro rfl ?_) | refine And.intro rfl ?_ | refine And.intro ⟨rfl, rfl⟩ ?_ | ((refine And.intro (fun _ => ?_) (fun _ => ?_)) <;> try (exfalso; omega))))
      exact Exists.intro [3] (And.intro (rfl) (And.intro ⟨rfl, trivial⟩ rfl))
  have hkl : k < mx m (2 * n) := by omega
  have hu : uF n m (2 * n) k = (((kC (key n m) (2 * n)) (2 * k) : Nat) : Int) := rfl
  have hl : lF n m (2 * n) k = (((kC (key n m) (2 * n)) (2 * k + 1) : Nat) : Int) := rfl
  have b1 := kC_le (key := key n m) (j := 2 * k) (2 * n)
  have b2 := kC_le (key := key n m) (j := 2 * k + 1) (2 * n)
  have au : (il (uF n m (2 * n)) 8)[k]? = some (.int .i64 (((kC (key n m) (2 * n)) (2 * k) : Nat) : Int)) := il_at (by omega)
  have al : (il (lF n m (2 * n)) 8)[k]? = some (.int .i64 (((kC (key n m) (2 * n)) (2 * k + 1) : Nat) : Int)) := il_at (by omega)
  have es : IntKind.i64.wrap ((((kC (key n m) (2 * n)) (2 * k) : Nat) : Int) + (((kC (key n m) (2 * n)) (2 * k + 1) : Nat) : Int)) = (((kC (key n m) (2 * n)) (2 * k) + (kC (key n m) (2 * n)) (2 * k + 1) : Nat) : Int) := wC (by omega) (by omega)
  refine region_rule (fun KK hKK => ?_)
  (repeat' (first | refine And.intro (neI rfl) ?_ | refine And.intro ⟨rfl, leR rfl, onesR rfl⟩ ?_ | refine And.intro ⟨rfl, leR rfl⟩ ?_ | refine hKK _ _ _ (by kernel_rfl) ?_ | refine hKK _ _ ?_ | refine And.intro (Eq.refl true) ?_ | refine Exists.intro _ (And.intro (wI (by omega)) ?_) | refine Exists.intro _ (And.intro (wU (by omega)) ?_) | refine Exists.intro _ (And.intro ⟨rfl, by omega⟩ ?_) | refine Exists.intro _ (And.intro rfl ?_) | refine And.intro rfl ?_ | refine And.intro ⟨rfl, rfl⟩ ?_ | ((refine And.intro (fun _ => ?_) (fun _ => ?_)) <;> try (exfalso; omega))))
  refine draw_join (α := Unit) (fun _ => True) (fun _ => [(1, .ptr 0 0), (3, .ptr 1 0), (4, .ptr 2 0), (5, vi (mx m (2 * n) : Nat)), (6, vb (plB n m)), (7, vb (allK kPair (kC (key n m) (2 * n)) k)), (8, vb (allK kFew (kC (key n m) (2 * n)) k)), (9, vb (allK kRook (kC (key n m) (2 * n)) k)), (10, vb (allK kIdeal (kC (key n m) (2 * n)) k)), (11, vb (allK kUni (kC (key n m) (2 * n)) k)), (12, vi k), (13, vi ((kC (key n m) (2 * n)) (2 * k) + (kC (key n m) (2 * n)) (2 * k + 1) : Nat))]) (fun _ => [.pc (pcl n m) T_i_Partition, .pc (il (uF n m (2 * n)) 8) T_a8q_int64, .pc (il (lF n m (2 * n)) 8) T_a8q_int64]) ?_ ?_
  · refine draw_rule2 hfol (fun KK hKK => ?_)
    (repeat' (first | refine Exists.intro _ (And.intro au ?_) | refine Exists.intro _ (And.intro al ?_) | refine Exists.intro _ (And.intro es ?_) | refine And.intro (neI rfl) ?_ | refine And.intro ⟨rfl, leR rfl, onesR rfl⟩ ?_ | refine And.intro ⟨rfl, leR rfl⟩ ?_ | refine hKK _ _ _ (by kernel_rfl) ?_ | refine hKK _ _ ?_ | refine And.intro (Eq.refl true) ?_ | refine Exists.intro _ (And.intro (wI (by omega)) ?_) | refine Exists.intro _ (And.intro (wU (by omega)) ?_) | refine Exists.intro _ (And.intro ⟨rfl, by omega⟩ ?_) | refine Exists.intro _ (And.intro rfl ?_) | refine And.intro rfl ?_ | refine And.intro ⟨rfl, rfl⟩ ?_ | ((refine And.intro (fun _ => ?_) (fun _ => ?_)) <;> try (exfalso; omega))))
    exact Exists.intro () (Exists.intro [0, 1, 2] (And.intro trivial ⟨⟨rfl, rfl, rfl, rfl, rfl, rfl, rfl, rfl, rfl, rfl, rfl, rfl, trivial⟩, ⟨rfl, rfl, rfl, trivial⟩, rfl⟩))
  rintro _ g1 _

  refine reg_join (α := Unit) (fun _ => True) (fun _ => [(1, .ptr 0 0), (3, .ptr 1 0), (4, .ptr 2 0), (5, vi (mx m (2 * n) : Nat)), (6, vb (plB n m)), (7, vb (allK kPair (kC (key n m) (2 * n)) k && kPair ((kC (key n m) (2 * n)) (2 * k)) ((kC (key n m) (2 * n)) (2 * k + 1)))), (8, vb (allK kFew (kC (key n m) (2 * n)) k)), (9, vb (allK kRook (kC (key n m) (2 * n)) k)), (10, vb (allK kIdeal (kC (key n m) (2 * n)) k)), (11, vb (allK kUni (kC (key n m) (2 * n)) k)), (12, vi k), (13, vi ((kC (key n m) (2 * n)) (2 * k) + (kC (key n m) (2 * n)) (2 * k + 1) : Nat))]) (fun _ => [.pc (pcl n m) T_i_Partition, .pc (il (uF n m (2 * n)) 8) T_a8q_int64, .pc (il (lF n m (2 * n)) 8) T_a8q_int64]) ?_ ?_
  · generalize allK kPair (kC (key n m) (2 * n)) k = b
    cases b
    · refine region_rule (fun KK hKK => ?_)
      (repeat' (first | refine Exists.intro _ (And.intro au ?_) | refine Exists.intro _ (And.intro al ?_) | refine And.intro (neI rfl) ?_ | refine And.intro ⟨rfl, leR rfl, onesR rfl⟩ ?_ | refine And.intro ⟨rfl, leR rfl⟩ ?_ | refine hKK _ _ _ (by kernel_rfl) ?_ | refine hKK _ _ ?_ | refine And.intro (Eq.refl true) ?_ | refine Exists.intro _ (And.intro (wI (by omega)) ?_) | refine Exists.intro _ (And.intro (wU (by omega)) ?_) | refine Exists.intro _ (And.intro ⟨rfl, by omega⟩ ?_) | refine Exists.intro _ (And.intro rfl ?_) | refine And.intro rfl ?_ | refine And.intro ⟨rfl, rfl⟩ ?_ | ((refine And.intro (fun _ => ?_) (fun _ => ?_)) <;> try (exfalso; omega))))
      exact Exists.intro () (Exists.intro [0, 1, 2] (And.intro trivial ⟨⟨rfl, rfl, rfl, rfl, rfl, rfl, rfl, rfl, rfl, rfl, rfl, rfl, trivial⟩, ⟨rfl, rfl, rfl, trivial⟩, rfl⟩))
    · refine region_rule (fun KK hKK => ?_)
      (repeat' (first | refine Exists.intro _ (And.intro au ?_) | refine Exists.intro _ (And.intro al ?_) | refine And.intro (neI rfl) ?_ | refine And.intro ⟨rfl, leR rfl, onesR rfl⟩ ?_ | refine And.intro ⟨rfl, leR rfl⟩ ?_ | refine hKK _ _ _ (by kernel_rfl) ?_ | refine hKK _ _ ?_ | refine And.intro (Eq.refl true) ?_ | refine Exists.intro _ (And.intro (wI (by omega)) ?_) | refine Exists.intro _ (And.intro (wU (by omega)) ?_) | refine Exists.intro _ (And.intro ⟨rfl, by omega⟩ ?_) | refine Exists.intro _ (And.intro rfl ?_) | refine And.intro rfl ?_ | refine And.intro ⟨rfl, rfl⟩ ?_ | ((refine And.intro (fun _ => ?_) (fun _ => ?_)) <;> try (exfalso; omega))))
      all_goals exact Exists.intro () (Exists.intro [0, 1, 2] (And.intro trivial ⟨⟨rfl, rfl, rfl, rfl, rfl, vbR (by rw [Bool.true_and]; unfold kPair; first | exact (decide_eq_true (by omega)).symm | exact (decide_eq_false (by omega)).symm), rfl, rfl, rfl, rfl, rfl, rfl, trivial⟩, ⟨rfl, rfl, rfl, trivial⟩, rfl⟩))
  rintro _ g2 _
  refine reg_join (α := Unit) (fun _ => True) (fun _ => [(1, .ptr 0 0), (3, .ptr 1 0), (4, .ptr 2 0), (5, vi (mx m (2 * n) : Nat)), (6, vb (plB n m)), (7, vb (allK kPair (kC (key n m) (2 * n)) k && kPair ((kC (key n m) (2 * n)) (2 * k)) ((kC (key n m) (2 * n)) (2 * k + 1)))), (8, vb (allK kFew (kC (key n m) (2 * n)) k && kFew ((kC (key n m) (2 * n)) (2 * k)) ((kC (key n m) (2 * n)) (2 * k + 1)))), (9, vb (allK kRook (kC (key n m) (2 * n)) k)), (10, vb (allK kIdeal (kC (key n m) (2 * n)) k)), (11, vb (allK kUni (kC (key n m) (2 * n)) k)), (12, vi k), (13, vi ((kC (key n m) (2 * n)) (2 * k) + (kC (key n m) (2 * n)) (2 * k + 1) : Nat))]) (fun _ => [.pc (pcl n m) T_i_Partition, .pc (il (uF n m (2 * n)) 8) T_a8q_int64, .pc (il (lF n m (2 * n)) 8) T_a8q_int64]) ?_ ?_
  · generalize allK kFew (kC (key n m) (2 * n)) k = b
    cases b
    · refine region_rule (fun KK hKK => ?_)
      (repeat' (first | refine Exists.intro _ (And.intro au ?_) | refine Exists.intro _ (And.intro al ?_) | refine And.intro (neI rfl) ?_ | refine And.intro ⟨rfl, leR rfl, onesR rfl⟩ ?_ | refine And.intro ⟨rfl, leR rfl⟩ ?_ | refine hKK _ _ _ (by kernel_rfl) ?_ | refine hKK _ _ ?_ | refine And.intro (Eq.refl true) ?_ | refine Exists.intro _ (And.intro (wI (by omega)) ?_) | refine Exists.intro _ (And.intro (wU (by omega)) ?_) | refine Exists.intro _ (And.intro ⟨rfl, by omega⟩ ?_) | refine Exists.intro _ (And.intro rfl ?_) | refine And.intro rfl ?_ | refine And.intro ⟨rfl, rfl⟩ ?_ | ((refine And.intro (fun _ => ?_) (fun _ => ?_)) <;> try (exfalso; omega))))
      exact Exists.intro () (Exists.intro [0, 1, 2] (And.intro trivial ⟨⟨rfl, rfl, rfl, rfl, rfl, rfl, rfl, rfl, rfl, rfl, rfl, rfl, trivial⟩, ⟨rfl, rfl, rfl, trivial⟩, rfl⟩))
    · refine region_rule (fun KK hKK => ?_)
      (repeat' (first | refine Exists.intro _ (And.intro au ?_) | refine Exists.intro _ (And.intro al ?_) | refine And.intro (neI rfl) ?_ | refine And.intro ⟨rfl, leR rfl, onesR rfl⟩ ?_ | refine And.intro ⟨rfl, leR rfl⟩ ?_ | refine hKK _ _ _ (by kernel_rfl) ?_ | refine hKK _ _ ?_ | refine And.intro (Eq.refl true) ?_ | refine Exists.intro _ (And.intro (wI (by omega)) ?_) | refine Exists.intro _ (And.intro (wU (by omega)) ?_) | refine Exists.intro _ (And.intro ⟨rfl, by omega⟩ ?_) | refine Exists.intro _ (And.intro rfl ?_) | refine And.intro rfl ?_ | refine And.intro ⟨rfl, rfl⟩ ?_ | ((refine And.intro (fun _ => ?_) (fun _ => ?_)) <;> try (exfalso; omega))))
      all_goals exact Exists.intro () (Exists.intro [0, 1, 2] (And.intro trivial ⟨⟨rfl, rfl, rfl, rfl, rfl, rfl, vbR (by rw [Bool.true_and]; unfold kFew; first | exact (decide_eq_true (by omega)).symm | exact (decide_eq_false (by omega)).symm), rfl, rfl, rfl, rfl, rfl, trivial⟩, ⟨rfl, rfl, rfl, trivial⟩, rfl⟩))
  rintro _ g3 _
  refine reg_join (α := Unit) (fun _ => True) (fun _ => [(1, .ptr 0 0), (3, .ptr 1 0), (4, .ptr 2 0), (5, vi (mx m (2 * n) : Nat)), (6, vb (plB n m)), (7, vb (allK kPair (kC (key n m) (2 * n)) k && kPair ((kC (key n m) (2 * n)) (2 * k)) ((kC (key n m) (2 * n)) (2 * k + 1)))), (8, vb (allK kFew (kC (key n m) (2 * n)) k && kFew ((kC (key n m) (2 * n)) (2 * k)) ((kC (key n m) (2 * n)) (2 * k + 1)))), (9, vb (allK kRook (kC (key n m) (2 * n)) k && kRook ((kC (key n m) (2 * n)) (2 * k)) ((kC (key n m) (2 * n)) (2 * k + 1)))), (10, vb (allK kIdeal (kC (key n m) (2 * n)) k)), (11, vb (allK kUni (kC (key n m) (2 * n)) k)), (12, vi k), (13, vi ((kC (key n m) (2 * n)) (2 * k) + (kC (key n m) (2 * n)) (2 * k + 1) : Nat))]) (fun _ => [.pc (pcl n m) T_i_Partition, .pc (il (uF n m (2 * n)) 8) T_a8q_int64, .pc (il (lF n m (2 * n)) 8) T_a8q_int64]) ?_ ?_
  · generalize allK kRook (kC (key n m) (2 * n)) k = b
    cases b
    · refine region_rule (fun KK hKK => ?_)
      (repeat' (first | refine Exists.intro _ (And.intro au ?_) | refine Exists.intro _ (And.intro al ?_) | refine And.intro (neI rfl) ?_ | refine And.intro ⟨rfl, leR rfl, onesR rfl⟩ ?_ | refine And.intro ⟨rfl, leR rfl⟩ ?_ | refine hKK _ _ _ (by kernel_rfl) ?_ | refine hKK _ _ ?_ | refine And.intro (Eq.refl true) ?_ | refine Exists.intro _ (And.intro (wI (by omega)) ?_) | refine Exists.intro _ (And.intro (wU (by omega)) ?_) | refine Exists.intro _ (And.intro ⟨rfl, by omega⟩ ?_) | refine Exists.intro _ (And.intro rfl ?_) | refine And.intro rfl ?_ | refine And.intro ⟨rfl, rfl⟩ ?_ | ((refine And.intro (fun _ => ?_) (fun _ => ?_)) <;> try (exfalso; omega))))
      exact Exists.intro () (Exists.intro [0, 1, 2] (And.intro trivial ⟨⟨rfl, rfl, rfl, rfl, rfl, rfl, rfl, rfl, rfl, rfl, rfl, rfl, trivial⟩, ⟨rfl, rfl, rfl, trivial⟩, rfl⟩))
    · refine region_rule (fun KK hKK => ?_)
      (repeat' (first | refine Exists.intro _ (And.intro au ?_) | refine Exists.intro _ (And.intro al ?_) | refine And.intro (neI rfl) ?_ | refine And.intro ⟨rfl, leR rfl, onesR rfl⟩ ?_ | refine And.intro ⟨rfl, leR rfl⟩ ?_ | refine hKK _ _ _ (by kernel_rfl) ?_ | refine hKK _ _ ?_ | refine And.intro (Eq.refl true) ?_ | refine Exists.intro _ (And.intro (wI (by omega)) ?_) | refine Exists.intro _ (And.intro (wU (by omega)) ?_) | refine Exists.intro _ (And.intro ⟨rfl, by omega⟩ ?_) | refine Exists.intro _ (And.intro rfl ?_) | refine And.intro rfl ?_ | refine And.intro ⟨rfl, rfl⟩ ?_ | ((refine And.intro (fun _ => ?_) (fun _ => ?_)) <;> try (exfalso; omega))))
      all_goals exact Exists.intro () (Exists.intro [0, 1, 2] (And.intro trivial ⟨⟨rfl, rfl, rfl, rfl, rfl, rfl, rfl, vbR (by rw [Bool.true_and]; unfold kRook; first | exact (decide_eq_true (by omega)).symm | exact (decide_eq_false (by omega)).symm), rfl, rfl, rfl, rfl, trivial⟩, ⟨rfl, rfl, rfl, trivial⟩, rfl⟩))
  rintro _ g4 _
  refine reg_join (α := Unit) (fun _ => True) (fun _ => [(1, .ptr 0 0), (3, .ptr 1 0), (4, .ptr 2 0), (5, vi (mx m (2 * n) : Nat)), (6, vb (plB n m)), (7, vb (allK kPair (kC (key n m) (2 * n)) k && kPair ((kC (key n m) (2 * n)) (2 * k)) ((kC (key n m) (2 * n)) (2 * k + 1)))), (8, vb (allK kFew (kC (key n m) (2 * n)) k && kFew ((kC (key n m) (2 * n)) (2 * k)) ((kC (key n m) (2 * n)) (2 * k + 1)))), (9, vb (allK kRook (kC (key n m) (2 * n)) k && kRook ((kC (key n m) (2 * n)) (2 * k)) ((kC (key n m) (2 * n)) (2 * k + 1)))), (10, vb (allK kIdeal (kC (key n m) (2 * n)) k && kIdeal ((kC (key n m) (2 * n)) (2 * k)) ((kC (key n m) (2 * n)) (2 * k + 1)))), (11, vb (allK kUni (kC (key n m) (2 * n)) k)), (12, vi k), (13, vi ((kC (key n m) (2 * n)) (2 * k) + (kC (key n m) (2 * n)) (2 * k + 1) : Nat))]) (fun _ => [.pc (pcl n m) T_i_Partition, .pc (il (uF n m (2 * n)) 8) T_a8q_int64, .pc (il (lF n m (2 * n)) 8) T_a8q_int64]) ?_ ?_
  · generalize allK kIdeal (kC (key n m) (2 * n)) k = b
    cases b
    · refine region_rule (fun KK hKK => ?_)
      (repeat' (first | refine Exists.intro _ (And.intro au ?_) | refine Exists.intro _ (And.intro al ?_) | refine And.intro (neI rfl) ?_ | refine And.intro ⟨rfl, leR rfl, onesR rfl⟩ ?_ | refine And.intro ⟨rfl, leR rfl⟩ ?_ | refine hKK _ _ _ (by kernel_rfl) ?_ | refine hKK _ _ ?_ | refine And.intro (Eq.refl true) ?_ | refine Exists.intro _ (And.intro (wI (by omega)) ?_) | refine Exists.intro _ (And.intro (wU (by omega)) ?_) | refine Exists.intro _ (And.intro ⟨rfl, by omega⟩ ?_) | refine Exists.intro _ (And.intro rfl ?_) | refine And.intro rfl ?_ | refine And.intro ⟨rfl, rfl⟩ ?_ | ((refine And.intro (fun _ => ?_) (fun _ => ?_)) <;> try (exfalso; omega))))
      exact Exists.intro () (Exists.intro [0, 1, 2] (And.intro trivial ⟨⟨rfl, rfl, rfl, rfl, rfl, rfl, rfl, rfl, rfl, rfl, rfl, rfl, trivial⟩, ⟨rfl, rfl, rfl, trivial⟩, rfl⟩))
    · refine region_rule (fun KK hKK => ?_)
      (repeat' (first | refine Exists.intro _ (And.intro au ?_) | refine Exists.intro _ (And.intro al ?_) | refine And.intro (neI rfl) ?_ | refine And.intro ⟨rfl, leR rfl, onesR rfl⟩ ?_ | refine And.intro ⟨rfl, leR rfl⟩ ?_ | refine hKK _ _ _ (by kernel_rfl) ?_ | refine hKK _ _ ?_ | refine And.intro (Eq.refl true) ?_ | refine Exists.intro _ (And.intro (wI (by omega)) ?_) | refine Exists.intro _ (And.intro (wU (by omega)) ?_) | refine Exists.intro _ (And.intro ⟨rfl, by omega⟩ ?_) | refine Exists.intro _ (And.intro rfl ?_) | refine And.intro rfl ?_ | refine And.intro ⟨rfl, rfl⟩ ?_ | ((refine And.intro (fun _ => ?_) (fun _ => ?_)) <;> try (exfalso; omega))))
      all_goals exact Exists.intro () (Exists.intro [0, 1, 2] (And.intro trivial ⟨⟨rfl, rfl, rfl, rfl, rfl, rfl, rfl, rfl, vbR (by rw [Bool.true_and]; unfold kIdeal; first | exact (decide_eq_true (by omega)).symm | exact (decide_eq_false (by omega)).symm), rfl, rfl, rfl, trivial⟩, ⟨rfl, rfl, rfl, trivial⟩, rfl⟩))
  rintro _ g5 _
  refine draw_join (α := Unit) (fun _ => True) (fun _ => [(1, .ptr 0 0), (3, .ptr 1 0), (4, .ptr 2 0), (5, vi (mx m (2 * n) : Nat)), (6, vb (plB n m)), (7, vb (allK kPair (kC (key n m) (2 * n)) k && kPair ((kC (key n m) (2 * n)) (2 * k)) ((kC (key n m) (2 * n)) (2 * k + 1)))), (8, vb (allK kFew (kC (key n m) (2 * n)) k && kFew ((kC (key n m) (2 * n)) (2 * k)) ((kC (key n m) (2 * n)) (2 * k + 1)))), (9, vb (allK kRook (kC (key n m) (2 * n)) k && kRook ((kC (key n m) (2 * n)) (2 * k)) ((kC (key n m) (2 * n)) (2 * k + 1)))), (10, vb (allK kIdeal (kC (key n m) (2 * n)) k && kIdeal ((kC (key n m) (2 * n)) (2 * k)) ((kC (key n m) (2 * n)) (2 * k + 1)))), (11, vb (allK kUni (kC (key n m) (2 * n)) k && kUni ((kC (key n m) (2 * n)) (2 * k)) ((kC (key n m) (2 * n)) (2 * k + 1)))), (12, vi k), (13, vi ((kC (key n m) (2 * n)) (2 * k) + (kC (key n m) (2 * n)) (2 * k + 1) : Nat))]) (fun _ => [.pc (pcl n m) T_i_Partition, .pc (il (uF n m (2 * n)) 8) T_a8q_int64, .pc (il (lF n m (2 * n)) 8) T_a8q_int64]) ?_ ?_
  · generalize allK kUni (kC (key n m) (2 * n)) k = b
    cases b
    · refine draw_rule2 hfol (fun KK hKK => ?_)
      (repeat' (first | refine Exists.intro _ (And.intro au ?_) | refine Exists.intro _ (And.intro al ?_) | refine And.intro (neI rfl) ?_ | refine And.intro ⟨rfl, leR rfl, onesR rfl⟩ ?_ | refine And.intro ⟨rfl, leR rfl⟩ ?_ | refine hKK _ _ _ (by kernel_rfl) ?_ | refine hKK _ _ ?_ | refine And.intro (Eq.refl true) ?_ | refine Exists.intro _ (And.intro (wI (by omega)) ?_) | refine Exists.intro _ (And.intro (wU (by omega)) ?_) | refine Exists.intro _ (And.intro ⟨rfl, by omega⟩ ?_) | refine Exists.intro _ (And.intro rfl ?_) | refine And.intro rfl ?_ | refine And.intro ⟨rfl, rfl⟩ ?_ | ((refine And.intro (fun _ => ?_) (fun _ => ?_)) <;> try (exfalso; omega))))
      exact Exists.intro () (Exists.intro [0, 1, 2] (And.intro trivial ⟨⟨rfl, rfl, rfl, rfl, rfl, rfl, rfl, rfl, rfl, rfl, rfl, rfl, trivial⟩, ⟨rfl, rfl, rfl, trivial⟩, rfl⟩))
    · refine draw_rule2 hfol (fun KK hKK => ?_)
      (repeat' (first | refine Exists.intro _ (And.intro au ?_) | refine Exists.intro _ (And.intro al ?_) | refine And.intro (neI rfl) ?_ | refine And.intro ⟨rfl, leR rfl, onesR rfl⟩ ?_ | refine And.intro ⟨rfl, leR rfl⟩ ?_ | refine hKK _ _ _ (by kernel_rfl) ?_ | refine hKK _ _ ?_ | refine And.intro (Eq.refl true) ?_ | refine Exists.intro _ (And.intro (wI (by omega)) ?_) | refine Exists.intro _ (And.intro (wU (by omega)) ?_) | refine Exists.intro _ (And.intro ⟨rfl, by omega⟩ ?_) | refine Exists.intro _ (And.intro rfl ?_) | refine And.intro rfl ?_ | refine And.intro ⟨rfl, rfl⟩ ?_ | ((refine And.intro (fun _ => ?_) (fun _ => ?_)) <;> try (exfalso; omega))))
      all_goals exact Exists.intro () (Exists.intro [0, 1, 2] (And.intro trivial ⟨⟨rfl, rfl, rfl, rfl, rfl, rfl, rfl, rfl, rfl, vbR (by rw [Bool.true_and]; unfold kUni; first | exact (decide_eq_true (by omega)).symm | exact (decide_eq_false (by omega)).symm), rfl, rfl, trivial⟩, ⟨rfl, rfl, rfl, trivial⟩, rfl⟩))
  rintro _ g6 _
  (repeat' (first | refine And.intro (neI rfl) ?_ | refine And.intro ⟨rfl, leR rfl, onesR rfl⟩ ?_ | refine And.intro ⟨rfl, leR rfl⟩ ?_ | refine draw_rule2 hfol (fun KK hKK => ?_) | refine hKK _ _ _ (by kernel_rfl) ?_ | refine region_rule (fun KK hKK => ?_) | refine hKK _ _ ?_ | refine And.intro (Eq.refl true) ?_ | refine Exists.intro _ (And.intro (wI (by omega)) ?_) | refine Exists.intro _ (And.intro (wU (by omega)) ?_) | refine Exists.intro _ (And.intro ⟨rfl, by omega⟩ ?_) | refine Exists.intro _ (And.intro rfl ?_) | refine And.intro rfl ?_ | refine And.intro ⟨rfl, rfl⟩ ?_ | ((refine And.intro (fun _ => ?_) (fun _ => ?_)) <;> try (exfalso; omega))))
  refine Exists.intro (k + 1) (Exists.intro [0, 1, 2] (And.intro ⟨by omega, (by show mx m (2 * n) - (k + 1) < mx m (2 * n) - k; omega)⟩ ⟨⟨rfl, rfl, rfl, rfl, rfl, rfl, rfl, rfl, rfl, rfl, rfl, trivial⟩, ⟨rfl, rfl, rfl, trivial⟩, rfl⟩))

def nilR : V := .raw (.slice none 0 0)
theorem s_sKin (s : Int) (m : List Nat) (hm : m.length = 8) (hb : ∀ x ∈ m, x < 256) (n : Nat) (hsn : s = n) (hn1 : 1 ≤ n) (hn : n ≤ 4) (hv : isPi s m = true) : Spec Try.prog n_s_KindsOf [pv s m] [] (.tup [.sl 0, vi 0]) [.pr T_bool 1 7 (bl (KD n m) 7)] := by
  subst hsn
  have hq := s_is n m hm hb
  rw [isP_eq _ m hm, hv] at hq
  have hk := s_skinds n m hm hv hn1 hn
  refine SpecW.of_EV hf_s_KindsOf hc_s_KindsOf rfl rfl rfl fun w0 B ρ0 _ => ?_
  (repeat' (first | refine (hq).pure rfl ?_ | refine (hk).make [] rfl trivial ?_ | refine Exists.intro (pcl n m) (And.intro ⟨pcl_len hm, pcl_all hm⟩ ?_) | refine And.intro (neI rfl) ?_ | refine And.intro ⟨rfl, leR rfl, onesR rfl⟩ ?_ | refine And.intro ⟨rfl, leR rfl⟩ ?_ | refine draw_rule2 hfol (fun KK hKK => ?_) | refine hKK _ _ _ (by kernel_rfl) ?_ | refine region_rule (fun KK hKK => ?_) | refine hKK _ _ ?_ | refine And.intro (Eq.refl true) ?_ | refine Exists.intro _ (And.intro (wI (by omega)) ?_) | refine Exists.intro _ (And.intro (wU (by omega)) ?_) | refine Exists.intro _ (And.intro ⟨rfl, by omega⟩ ?_) | refine Exists.intro _ (And.intro rfl ?_) | refine And.intro rfl ?_ | refine And.intro ⟨rfl, rfl⟩ ?_ | ((refine And.intro (fun _ => ?_) (fun _ => ?_)) <;> try (exfalso; omega))))
  exact Exists.intro [1] (And.intro (rfl) (And.intro ⟨rfl, trivial⟩ rfl))
theorem s_iKin (s : Int) (m : List Nat) (hm : m.length = 8) (hb : ∀ x ∈ m, x < 256) (n : Nat) (hsn : s = n) (hn1 : 1 ≤ n) (hn : n ≤ 4) (hv : isPi s m = true) : Spec Try.prog n_i_KindsOf [pv s m] [] (.tup [.sl 0, vi 0]) [.pr T_bool 1 7 (bl (KD n m) 7)] := by
  subst hsn
  have hq := s_bad [((n : Int), m)] (fun p hp => by simp at hp; subst hp; exact ⟨hm, hb⟩) (by simp)
  simp only [List.any_cons, List.any_nil, Bool.or_false] at hq
  rw [hv] at hq
  have hk := s_ikinds n m hm hb hv hn1 hn
  refine SpecW.of_EV hf_i_KindsOf hc_i_KindsOf rfl rfl rfl fun w0 B ρ0 _ => ?_
  (repeat' (first | refine (hq).read [1] rfl ⟨rfl, trivial⟩ ?_ | refine (hk).make [0] rfl ⟨rfl, trivial⟩ ?_ | refine Exists.intro (pcl n m) (And.intro ⟨pcl_len hm, pcl_all hm⟩ ?_) | refine And.intro ⟨pcl_len hm, mkL rfl⟩ ?_ | refine Exists.intro (rowP [((n : Int), m)]) (And.intro (row1 (N := 9) (p := ((n : Int), m)) (mkL' rfl)) ?_) | refine And.intro (neI rfl) ?_ | refine And.intro ⟨rfl, leR rfl, onesR rfl⟩ ?_ | refine And.intro ⟨rfl, leR rfl⟩ ?_ | refine draw_rule2 hfol (fun KK hKK => ?_) | refine hKK _ _ _ (by kernel_rfl) ?_ | refine region_rule (fun KK hKK => ?_) | refine hKK _ _ ?_ | refine And.intro (Eq.refl true) ?_ | refine Exists.intro _ (And.intro (wI (by omega)) ?_) | refine Exists.intro _ (And.intro (wU (by omega)) ?_) | refine Exists.intro _ (And.intro ⟨rfl, by omega⟩ ?_) | refine Exists.intro _ (And.intro rfl ?_) | refine And.intro rfl ?_ | refine And.intro ⟨rfl, rfl⟩ ?_ | ((refine And.intro (fun _ => ?_) (fun _ => ?_)) <;> try (exfalso; omega))))
  exact Exists.intro [2] (And.intro (rfl) (And.intro ⟨rfl, trivial⟩ rfl))
theorem s_sKinE (s : Int) (m : List Nat) (hm : m.length = 8) (hb : ∀ x ∈ m, x < 256) (hv : isPi s m = false) : Spec Try.prog n_s_KindsOf [pv s m] [] (.tup [.raw (.slice none 0 0), vi 1]) [] := by
  have hq := s_is s m hm hb
  rw [isP_eq _ m hm, hv] at hq
  refine SpecW.of_EV hf_s_KindsOf hc_s_KindsOf rfl rfl rfl fun w0 B ρ0 _ => ?_
  (repeat' (first | refine (hq).pure rfl ?_ | refine Exists.intro (pcl s m) (And.intro ⟨pcl_len hm, pcl_all hm⟩ ?_) | refine And.intro (neI rfl) ?_ | refine And.intro ⟨rfl, leR rfl, onesR rfl⟩ ?_ | refine And.intro ⟨rfl, leR rfl⟩ ?_ | refine draw_rule2 hfol (fun KK hKK => ?_) | refine hKK _ _ _ (by kernel_rfl) ?_ | refine region_rule (fun KK hKK => ?_) | refine hKK _ _ ?_ | refine And.intro (Eq.refl true) ?_ | refine Exists.intro _ (And.intro (wI (by omega)) ?_) | refine Exists.intro _ (And.intro (wU (by omega)) ?_) | refine Exists.intro _ (And.intro ⟨rfl, by omega⟩ ?_) | refine Exists.intro _ (And.intro rfl ?_) | refine And.intro rfl ?_ | refine And.intro ⟨rfl, rfl⟩ ?_ | ((refine And.intro (fun _ => ?_) (fun _ => ?_)) <;> try (exfalso; omega))))
  exact Exists.intro [] (And.intro (rfl) (And.intro trivial rfl))
theorem s_iKinE (s : Int) (m : List Nat) (hm : m.length = 8) (hb : ∀ x ∈ m, x < 256) (hv : isPi s m = false) : Spec Try.prog n_i_KindsOf [pv s m] [] (.tup [.raw (.slice none 0 0), vi 1]) [] := by
  have hq := s_bad [(s, m)] (fun p hp => by simp at hp; subst hp; exact ⟨hm, hb⟩) (by simp)
  simp only [List.any_cons, List.any_nil, Bool.or_false] at hq
  rw [hv] at hq
  refine SpecW.of_EV hf_i_KindsOf hc_i_KindsOf rfl rfl rfl fun w0 B ρ0 _ => ?_
  (repeat' (first | refine (hq).read [1] rfl ⟨rfl, trivial⟩ ?_ | refine Exists.intro (pcl s m) (And.intro ⟨pcl_len hm, pcl_all hm⟩ ?_) | refine And.intro ⟨pcl_len hm, mkL rfl⟩ ?_ | refine Exists.intro (rowP [(s, m)]) (And.intro (row1 (N := 9) (p := (s, m)) (mkL' rfl)) ?_) | refine And.intro (neI rfl) ?_ | refine And.intro ⟨rfl, leR rfl, onesR rfl⟩ ?_ | refine And.intro ⟨rfl, leR rfl⟩ ?_ | refine draw_rule2 hfol (fun KK hKK => ?_) | refine hKK _ _ _ (by kernel_rfl) ?_ | refine region_rule (fun KK hKK => ?_) | refine hKK _ _ ?_ | refine And.intro (Eq.refl true) ?_ | refine Exists.intro _ (And.intro (wI (by omega)) ?_) | refine Exists.intro _ (And.intro (wU (by omega)) ?_) | refine Exists.intro _ (And.intro ⟨rfl, by omega⟩ ?_) | refine Exists.intro _ (And.intro rfl ?_) | refine And.intro rfl ?_ | refine And.intro ⟨rfl, rfl⟩ ?_ | ((refine And.intro (fun _ => ?_) (fun _ => ?_)) <;> try (exfalso; omega))))
  exact Exists.intro [] (And.intro (rfl) (And.intro trivial rfl))
theorem s_lawKin (s : Int) (m : List Nat) (hm : m.length = 8) (hb : ∀ x ∈ m, x < 256) : Spec Try.prog n_l_FnExactKindsOf [pv s m] [] (vb true) [] := by
  cases hv : isPi s m with
  | false =>
    have h1 := s_sKinE s m hm hb hv
    have h2 := s_iKinE s m hm hb hv
    have hm1 := s_markB0 1
    have hh1 := s_heldB0 1
    refine SpecW.of_EV hf_l_FnExactKindsOf hc_l_FnExactKindsOf rfl rfl rfl fun w0 B ρ0 _ => ?_
    (repeat' (first | refine (s_toP s m hm).pure rfl ?_ | refine Exists.intro (pcl s m) (And.intro ⟨pcl_len hm, pcl_all hm⟩ ?_) | refine (h1).pure rfl ?_ | refine (h2).pure rfl ?_ | refine (s_eqB0).pure rfl ?_ | refine (hm1).pure rfl ?_ | refine (hh1).pure rfl ?_ | refine And.intro (fun _ => ?_) (fun h => absurd rfl h) | refine And.intro (fun h => absurd rfl h) (fun _ => ?_) | refine And.intro (neI rfl) ?_ | refine And.intro ⟨rfl, leR rfl, onesR rfl⟩ ?_ | refine And.intro ⟨rfl, leR rfl⟩ ?_ | refine draw_rule2 hfol (fun KK hKK => ?_) | refine hKK _ _ _ (by kernel_rfl) ?_ | refine region_rule (fun KK hKK => ?_) | refine hKK _ _ ?_ | refine And.intro (Eq.refl true) ?_ | refine Exists.intro _ (And.intro (wI (by omega)) ?_) | refine Exists.intro _ (And.intro (wU (by omega)) ?_) | refine Exists.intro _ (And.intro ⟨rfl, by omega⟩ ?_) | refine Exists.intro _ (And.intro rfl ?_) | refine And.intro rfl ?_ | refine And.intro ⟨rfl, rfl⟩ ?_ | ((refine And.intro (fun _ => ?_) (fun _ => ?_)) <;> try (exfalso; omega))))
    exact finP rfl
  | true =>
    obtain ⟨n, hsn, hn1, hn⟩ := isPi_size hv
    have h1 := s_sKin s m hm hb n hsn hn1 hn hv
    have h2 := s_iKin s m hm hb n hsn hn1 hn hv
    have he := s_eqB (KD n m) 7 (by omega)
    have hm1 := s_markB (KD n m) 7 1 (by omega) (by omega)
    have hh1 := s_heldB 7 1 (by omega) (by omega)
    refine SpecW.of_EV hf_l_FnExactKindsOf hc_l_FnExactKindsOf rfl rfl rfl fun w0 B ρ0 _ => ?_
    (repeat' (first | refine (s_toP s m hm).pure rfl ?_ | refine Exists.intro (pcl s m) (And.intro ⟨pcl_len hm, pcl_all hm⟩ ?_) | refine (h1).make [] rfl trivial ?_ | refine (h2).make [] rfl trivial ?_ | refine (he).read [2,1] rfl ⟨rfl, rfl, trivial⟩ ?_ | refine (he).read [3,1] rfl ⟨rfl, rfl, trivial⟩ ?_ | refine (hm1).make [2] rfl ⟨rfl, trivial⟩ ?_ | refine (hh1).read [2] rfl ⟨rfl, trivial⟩ ?_ | refine And.intro (fun _ => ?_) (fun h => absurd rfl h) | refine And.intro (fun h => absurd rfl h) (fun _ => ?_) | refine And.intro (neI rfl) ?_ | refine And.intro ⟨rfl, leR rfl, onesR rfl⟩ ?_ | refine And.intro ⟨rfl, leR rfl⟩ ?_ | refine draw_rule2 hfol (fun KK hKK => ?_) | refine hKK _ _ _ (by kernel_rfl) ?_ | refine region_rule (fun KK hKK => ?_) | refine hKK _ _ ?_ | refine And.intro (Eq.refl true) ?_ | refine Exists.intro _ (And.intro (wI (by omega)) ?_) | refine Exists.intro _ (And.intro (wU (by omega)) ?_) | refine Exists.intro _ (And.intro ⟨rfl, by omega⟩ ?_) | refine Exists.intro _ (And.intro rfl ?_) | refine And.intro rfl ?_ | refine And.intro ⟨rfl, rfl⟩ ?_ | ((refine And.intro (fun _ => ?_) (fun _ => ?_)) <;> try (exfalso; omega))))
    exact finP rfl
end Go.Proofs.Ytpangmameocfmaa.VE.P
