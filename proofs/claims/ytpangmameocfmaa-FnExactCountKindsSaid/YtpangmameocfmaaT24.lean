/- Contracts of functions of the given program, for all arguments that the contract names; see each theorem. -/
import Derived.Test.YtpangmameocfmaaT22
import Derived.Test.YtpangmameocfmaaU1
set_option linter.all false
namespace Go.Proofs.Ytpangmameocfmaa.VE.P
open Go
set_option maxHeartbeats 800000
set_option maxRecDepth 100000

/-- The part at a place. -/
def xa (n : Nat) (m : List Nat) (k : Nat) : Nat := m.getD (plc n k) 0
def ul (f : Nat → Nat) (k : Nat) : List Value := (List.range k).map fun i => .int .u8 ((f i : Nat) : Int)
theorem ul_at {f : Nat → Nat} {k i : Nat} (h : i < k) : (ul f k)[i]? = some (.int .u8 ((f i : Nat) : Int)) := by simp [ul, h]
theorem ul_succ {f : Nat → Nat} {k : Nat} : ul f k ++ [.int .u8 ((f k : Nat) : Int)] = ul f (k + 1) := by simp [ul, List.range_succ]

theorem s_at (n : Nat) (m : List Nat) (k : Nat) (hm : m.length = 8) (hn : n ≤ 4) (hk : k < 2 * n) : Spec Try.prog n_s_l07At [pv n m, vi k] [] (vu (xa n m k : Nat)) [] := by
  have hp := plc_lt hk
  have hc := VE.s_place n k (by omega) hk
  refine SpecW.of_EV hf_s_l07At hc_s_l07At rfl rfl rfl fun w0 B ρ0 _ => ?_
  (repeat' (first | refine (hc).pure rfl ?_ | refine Exists.intro _ (And.intro (pcl_at (by omega)) ?_) | refine And.intro (neI rfl) ?_ | refine And.intro ⟨rfl, leR rfl, onesR rfl⟩ ?_ | refine And.intro ⟨rfl, leR rfl⟩ ?_ | refine draw_rule2 hfol (fun KK hKK => ?_) | refine hKK _ _ _ (by kernel_rfl) ?_ | refine region_rule (fun KK hKK => ?_) | refine hKK _ _ ?_ | refine And.intro (Eq.refl true) ?_ | refine Exists.intro _ (And.intro (wI (by omega)) ?_) | refine Exists.intro _ (And.intro (wU (by omega)) ?_) | refine Exists.intro _ (And.intro ⟨rfl, by omega⟩ ?_) | refine Exists.intro _ (And.intro rfl ?_) | refine And.intro rfl ?_ | refine And.intro ⟨rfl, rfl⟩ ?_ | ((refine And.intro (fun _ => ?_) (fun _ => ?_)) <;> try (exfalso; omega))))
  exact Exists.intro [] (And.intro (rfl) (And.intro trivial rfl))

theorem s_around (n : Nat) (m : List Nat) (hm : m.length = 8) (hn : n ≤ 4) : Spec Try.prog n_i_Partition_around [.ptr 0 0] [.pc (pcl n m) T_i_Partition] (.sl 1) [.pc (pcl n m) T_i_Partition, .pr T_uint8 1 (2 * n) (ul (xa n m) (2 * n))] := by
  refine SpecW.of_EV hf_i_Partition_around hc_i_Partition_around rfl rfl rfl fun w0 B ρ0 _ => ?_
  (repeat' (first | refine (s_n n m).read [0] rfl ⟨rfl, trivial⟩ ?_ | refine And.intro (neI rfl) ?_ | refine And.intro ⟨rfl, leR rfl, onesR rfl⟩ ?_ | refine And.intro ⟨rfl, leR rfl⟩ ?_ | refine draw_rule2 hfol (fun KK hKK => ?_) | refine hKK _ _ _ (by kernel_rfl) ?_ | refine region_rule (fun KK hKK => ?_) | refine hKK _ _ ?_ | refine And.intro (Eq.refl true) ?_ | refine Exists.intro _ (And.intro (wI (by omega)) ?_) | refine Exists.intro _ (And.intro (wU (by omega)) ?_) | refine Exists.intro _ (And.intro ⟨rfl, by omega⟩ ?_) | refine Exists.intro _ (And.intro rfl ?_) | refine And.intro rfl ?_ | refine And.intro ⟨rfl, rfl⟩ ?_ | ((refine And.intro (fun _ => ?_) (fun _ => ?_)) <;> try (exfalso; omega))))
  refine loop_rule (α := Nat) (fun k => k ≤ 2 * n)
    (fun k => [(0, .ptr 0 0), (3, .sl 1), (8, vi (2 * n)), (9, vi k)])
    (fun k => [.pc (pcl n m) T_i_Partition, .pr T_uint8 1 k (ul (xa n m) k)]) (fun k => 2 * n - k) 0 [0, 1]
    (by omega) ⟨⟨rfl, rfl, rfl, rfl, trivial⟩, ⟨rfl, rfl, trivial⟩, rfl⟩ ?_
  rintro k g hk
  by_cases h9 : k = 2 * n
  · subst h9
    (repeat' (first | refine And.intro (neI rfl) ?_ | refine And.intro ⟨rfl, leR rfl, onesR rfl⟩ ?_ | refine And.intro ⟨rfl, leR rfl⟩ ?_ | refine draw_rule2 hfol (fun KK hKK => ?_) | refine hKK _ _ _ (by kernel_rfl) ?_ | refine region_rule (fun KK hKK => ?_) | refine hKK _ _ ?_ | refine And.intro (Eq.refl true) ?_ | refine Exists.intro _ (And.intro (wI (by omega)) ?_) | refine Exists.intro _ (And.intro (wU (by omega)) ?_) | refine Exists.intro _ (And.intro ⟨rfl, by omega⟩ ?_) | refine Exists.intro _ (And.intro rfl ?_) | refine And.intro rfl ?_ | refine And.intro ⟨rfl, rfl⟩ ?_ | ((refine And.intro (fun _ => ?_) (fun _ => ?_)) <;> try (exfalso; omega))))
    exact Exists.intro [0,1] (And.intro (rfl) (And.intro ⟨rfl, rfl, trivial⟩ rfl))
  have hkl : k < 2 * n := by omega
  have hp := plc_lt hkl
  have hc := VE.s_iplace n k (by omega) hkl
  (repeat' (first | refine (s_n n m).read [0] rfl ⟨rfl, trivial⟩ ?_ | refine (hc).pure rfl ?_ | refine Exists.intro _ (And.intro (pcl_at (by omega)) ?_) | refine And.intro ⟨rfl, mkL rfl⟩ ?_ | refine Exists.intro [Value.int .u8 ((xa n m k : Nat) : Int)] (And.intro (row1s (mkL' rfl)) ?_) | refine Exists.intro (ul (xa n m) (k + 1)) (And.intro ⟨rfl, onesR rfl, by omega, by omega, ul_succ⟩ ?_) | refine And.intro (neI rfl) ?_ | refine And.intro ⟨rfl, leR rfl, onesR rfl⟩ ?_ | refine And.intro ⟨rfl, leR rfl⟩ ?_ | refine draw_rule2 hfol (fun KK hKK => ?_) | refine hKK _ _ _ (by kernel_rfl) ?_ | refine region_rule (fun KK hKK => ?_) | refine hKK _ _ ?_ | refine And.intro (Eq.refl true) ?_ | refine Exists.intro _ (And.intro (wI (by omega)) ?_) | refine Exists.intro _ (And.intro (wU (by omega)) ?_) | refine Exists.intro _ (And.intro ⟨rfl, by omega⟩ ?_) | refine Exists.intro _ (And.intro rfl ?_) | refine And.intro rfl ?_ | refine And.intro ⟨rfl, rfl⟩ ?_ | ((refine And.intro (fun _ => ?_) (fun _ => ?_)) <;> try (exfalso; omega))))
  refine Exists.intro (k + 1) (Exists.intro [0, 3] (And.intro ⟨by omega, (by show 2 * n - (k + 1) < 2 * n - k; omega)⟩ ⟨⟨rfl, rfl, rfl, rfl, trivial⟩, ⟨rfl, rfl, trivial⟩, rfl⟩))

/-- Is it in a part of a row? -/
def hasU (f : Nat → Nat) (x lo len : Nat) : Bool := (List.range len).any fun p => decide (f (lo + p) = x)
theorem hasU_true {f : Nat → Nat} {x lo len : Nat} : hasU f x lo len = true ↔ ∃ p, p < len ∧ f (lo + p) = x := by
  simp [hasU]
theorem hasU_false {f : Nat → Nat} {x lo len : Nat} : hasU f x lo len = false ↔ ∀ p, p < len → f (lo + p) ≠ x := by
  simp [hasU]
theorem s_indexU (f : Nat → Nat) (x N lo len : Nat) (hN : N ≤ 1000) (hl : lo + len ≤ N) : ∃ r : Int, decide (r ≥ 0) = hasU f x lo len ∧ Spec Try.prog n_g_Index_byte [.sub 0 1 lo len, vu x] [.pr T_uint8 1 N (ul f N)] (vi r) [.pr T_uint8 1 N (ul f N)] := by
  have hex : ∃ r : Int, (∃ p, p < len ∧ f (lo + p) = x ∧ r = p ∧ ∀ q, q < p → f (lo + q) ≠ x) ∨ (r = -1 ∧ ∀ q, q < len → f (lo + q) ≠ x) := by
    have : ∀ d, d ≤ len → (∃ p, p < d ∧ f (lo + p) = x ∧ ∀ q, q < p → f (lo + q) ≠ x) ∨ ∀ q, q < d → f (lo + q) ≠ x := by
      intro d
      induction d with
      | zero => exact fun _ => .inr fun q hq => by omega
      | succ d ih =>
        intro hd
        rcases ih (by omega) with ⟨p, h1, h2⟩ | h
        · exact .inl ⟨p, by omega, h2⟩
        · by_cases hx : f (lo + d) = x
          · exact .inl ⟨d, by omega, hx, h⟩
          · refine .inr fun q hq => ?_
            by_cases hqd : q = d
            · subst hqd; exact hx
            · exact h q (by omega)
    rcases this len (Nat.le_refl _) with ⟨p, h1, h2, h3⟩ | h
    · exact ⟨p, .inl ⟨p, h1, h2, rfl, h3⟩⟩
    · exact ⟨-1, .inr ⟨rfl, h⟩⟩
  obtain ⟨r, hr⟩ := hex
  refine ⟨r, ?_, ?_⟩
  · rcases hr with ⟨p, h1, h2, rfl, _⟩ | ⟨rfl, h⟩
    · rw [hasU_true.2 ⟨p, h1, h2⟩]; exact decide_eq_true (by omega)
    · rw [hasU_false.2 h]; rfl
  refine SpecW.of_EV hf_g_Index_byte hc_g_Index_byte rfl rfl rfl fun w0 B ρ0 _ => ?_
  (repeat' (first | refine And.intro hl ?_ | refine And.intro (neI rfl) ?_ | refine And.intro ⟨rfl, leR rfl, onesR rfl⟩ ?_ | refine And.intro ⟨rfl, leR rfl⟩ ?_ | refine draw_rule2 hfol (fun KK hKK => ?_) | refine hKK _ _ _ (by kernel_rfl) ?_ | refine region_rule (fun KK hKK => ?_) | refine hKK _ _ ?_ | refine And.intro (Eq.refl true) ?_ | refine Exists.intro _ (And.intro (wI (by omega)) ?_) | refine Exists.intro _ (And.intro (wU (by omega)) ?_) | refine Exists.intro _ (And.intro ⟨rfl, by omega⟩ ?_) | refine Exists.intro _ (And.intro rfl ?_) | refine And.intro rfl ?_ | refine And.intro ⟨rfl, rfl⟩ ?_ | ((refine And.intro (fun _ => ?_) (fun _ => ?_)) <;> try (exfalso; omega))))
  refine loop_rule (α := Nat) (fun i => i ≤ len ∧ ∀ q, q < i → f (lo + q) ≠ x)
      (fun i => [(0, .sub 0 1 lo len), (1, vu x), (7, vi len), (8, vi i)]) (fun _ => [.pr T_uint8 1 N (ul f N)]) (fun i => len - i) 0 [0]
      ⟨by omega, fun q hq => by omega⟩ ⟨⟨rfl, rfl, rfl, rfl, trivial⟩, ⟨rfl, trivial⟩, rfl⟩ ?_
  rintro i g ⟨hi, hno⟩
  by_cases h9 : i = len
  · subst h9
    have : r = -1 := by
      rcases hr with ⟨p, h1, h2, _⟩ | ⟨h, _⟩
      · exact absurd h2 (hno p h1)
      · exact h
    subst this
    (repeat' (first | refine And.intro (neI rfl) ?_ | refine And.intro ⟨rfl, leR rfl, onesR rfl⟩ ?_ | refine And.intro ⟨rfl, leR rfl⟩ ?_ | refine draw_rule2 hfol (fun KK hKK => ?_) | refine hKK _ _ _ (by kernel_rfl) ?_ | refine region_rule (fun KK hKK => ?_) | refine hKK _ _ ?_ | refine And.intro (Eq.refl true) ?_ | refine Exists.intro _ (And.intro (wI (by omega)) ?_) | refine Exists.intro _ (And.intro (wU (by omega)) ?_) | refine Exists.intro _ (And.intro ⟨rfl, by omega⟩ ?_) | refine Exists.intro _ (And.intro rfl ?_) | refine And.intro rfl ?_ | refine And.intro ⟨rfl, rfl⟩ ?_ | ((refine And.intro (fun _ => ?_) (fun _ => ?_)) <;> try (exfalso; omega))))
    exact Exists.intro [0] (And.intro (rfl) (And.intro ⟨rfl, trivial⟩ rfl))
  have hil : i < len := by omega
  have hat := ul_at (f := f) (k := N) (i := lo + i) (by omega)
  by_cases hx : f (lo + i) = x
  · have hri : r = i := by
      rcases hr with ⟨p, h1, h2, h3, h4⟩ | ⟨_, h⟩
      · rcases Nat.lt_trichotomy p i with h | h | h
        · exact absurd h2 (hno p h)
        · rw [h3, h]
        · exact absurd hx (h4 i h)
      · exact absurd hx (h i hil)
    subst hri
    (repeat' (first | refine And.intro ⟨rfl, hl⟩ ?_ | refine Exists.intro _ (And.intro hat ?_) | refine And.intro (neI rfl) ?_ | refine And.intro ⟨rfl, leR rfl, onesR rfl⟩ ?_ | refine And.intro ⟨rfl, leR rfl⟩ ?_ | refine draw_rule2 hfol (fun KK hKK => ?_) | refine hKK _ _ _ (by kernel_rfl) ?_ | refine region_rule (fun KK hKK => ?_) | refine hKK _ _ ?_ | refine And.intro (Eq.refl true) ?_ | refine Exists.intro _ (And.intro (wI (by omega)) ?_) | refine Exists.intro _ (And.intro (wU (by omega)) ?_) | refine Exists.intro _ (And.intro ⟨rfl, by omega⟩ ?_) | refine Exists.intro _ (And.intro rfl ?_) | refine And.intro rfl ?_ | refine And.intro ⟨rfl, rfl⟩ ?_ | ((refine And.intro (fun _ => ?_) (fun _ => ?_)) <;> try (exfalso; omega))))
    exact Exists.intro [0] (And.intro (rfl) (And.intro ⟨rfl, trivial⟩ rfl))
  · (repeat' (first | refine And.intro ⟨rfl, hl⟩ ?_ | refine Exists.intro _ (And.intro hat ?_) | refine And.intro (neI rfl) ?_ | refine And.intro ⟨rfl, leR rfl, onesR rfl⟩ ?_ | refine And.intro ⟨rfl, leR rfl⟩ ?_ | refine draw_rule2 hfol (fun KK hKK => ?_) | refine hKK _ _ _ (by kernel_rfl) ?_ | refine region_rule (fun KK hKK => ?_) | refine hKK _ _ ?_ | refine And.intro (Eq.refl true) ?_ | refine Exists.intro _ (And.intro (wI (by omega)) ?_) | refine Exists.intro _ (And.intro (wU (by omega)) ?_) | refine Exists.intro _ (And.intro ⟨rfl, by omega⟩ ?_) | refine Exists.intro _ (And.intro rfl ?_) | refine And.intro rfl ?_ | refine And.intro ⟨rfl, rfl⟩ ?_ | ((refine And.intro (fun _ => ?_) (fun _ => ?_)) <;> try (exfalso; omega))))
    refine Exists.intro (i + 1) (Exists.intro [0] (And.intro ⟨⟨by omega, fun q hq => ?_⟩, (by show len - (i + 1) < len - i; omega)⟩ ⟨⟨rfl, rfl, rfl, rfl, trivial⟩, ⟨rfl, trivial⟩, rfl⟩))
    by_cases hqi : q = i
    · subst hqi; exact hx
    · exact hno q (by omega)
theorem s_containsU (f : Nat → Nat) (x N lo len : Nat) (hN : N ≤ 1000) (hl : lo + len ≤ N) : Spec Try.prog n_g_Contains_byte [.sub 0 1 lo len, vu x] [.pr T_uint8 1 N (ul f N)] (vb (hasU f x lo len)) [.pr T_uint8 1 N (ul f N)] := by
  obtain ⟨r, hr, hc⟩ := s_indexU f x N lo len hN hl
  rw [← hr]
  refine SpecW.of_EV hf_g_Contains_byte hc_g_Contains_byte rfl rfl rfl fun w0 B ρ0 _ => ?_
  (repeat' (first | refine (hc).read [0] rfl ⟨rfl, trivial⟩ ?_ | refine And.intro (neI rfl) ?_ | refine And.intro ⟨rfl, leR rfl, onesR rfl⟩ ?_ | refine And.intro ⟨rfl, leR rfl⟩ ?_ | refine draw_rule2 hfol (fun KK hKK => ?_) | refine hKK _ _ _ (by kernel_rfl) ?_ | refine region_rule (fun KK hKK => ?_) | refine hKK _ _ ?_ | refine And.intro (Eq.refl true) ?_ | refine Exists.intro _ (And.intro (wI (by omega)) ?_) | refine Exists.intro _ (And.intro (wU (by omega)) ?_) | refine Exists.intro _ (And.intro ⟨rfl, by omega⟩ ?_) | refine Exists.intro _ (And.intro rfl ?_) | refine And.intro rfl ?_ | refine And.intro ⟨rfl, rfl⟩ ?_ | ((refine And.intro (fun _ => ?_) (fun _ => ?_)) <;> try (exfalso; omega))))
  all_goals exact Exists.intro [0] (And.intro (vbR (by first | rw [decide_eq_true (by omega)] | rw [decide_eq_false (by omega)])) (And.intro ⟨rfl, trivial⟩ rfl))

/-- Two parts cross. -/
def Cr (n : Nat) (m : List Nat) : Prop := ∃ i j k l, i < j ∧ j < k ∧ k < l ∧ l < 2 * n ∧ xa n m i = xa n m k ∧ xa n m j = xa n m l ∧ xa n m i ≠ xa n m j
noncomputable def plB (n : Nat) (m : List Nat) : Bool := @decide (¬ Cr n m) (Classical.propDecidable _)
theorem plB_t {n : Nat} {m : List Nat} (h : ¬ Cr n m) : plB n m = true := by simp [plB, h]
theorem plB_f {n : Nat} {m : List Nat} (h : Cr n m) : plB n m = false := by simp [plB, h]

theorem s_splanar (n : Nat) (m : List Nat) (hm : m.length = 8) (hn : n ≤ 4) : Spec Try.prog n_s_l07Planar [pv n m] [] (vb (plB n m)) [] := by
  refine SpecW.of_EV hf_s_l07Planar hc_s_l07Planar rfl rfl rfl fun w0 B ρ0 _ => ?_
  (repeat' (first | refine And.intro (neI rfl) ?_ | refine And.intro ⟨rfl, leR rfl, onesR rfl⟩ ?_ | refine And.intro ⟨rfl, leR rfl⟩ ?_ | refine draw_rule2 hfol (fun KK hKK => ?_) | refine hKK _ _ _ (by kernel_rfl) ?_ | refine region_rule (fun KK hKK => ?_) | refine hKK _ _ ?_ | refine And.intro (Eq.refl true) ?_ | refine Exists.intro _ (And.intro (wI (by omega)) ?_) | refine Exists.intro _ (And.intro (wU (by omega)) ?_) | refine Exists.intro _ (And.intro ⟨rfl, by omega⟩ ?_) | refine Exists.intro _ (And.intro rfl ?_) | refine And.intro rfl ?_ | refine And.intro ⟨rfl, rfl⟩ ?_ | ((refine And.intro (fun _ => ?_) (fun _ => ?_)) <;> try (exfalso; omega))))
  refine loop_rule (α := Nat) (fun i => i ≤ 2 * n ∧ ∀ i', i' < i → ∀ j k l, i' < j → j < k → k < l → l < 2 * n → xa n m i' = xa n m k → xa n m j = xa n m l → xa n m i' = xa n m j)
    (fun i => [(1, .ptr 0 0), (3, vi (2 * n)), (4, vi i)]) (fun _ => [.pc (pcl n m) T_i_Partition]) (fun i => 2 * n - i) 0 [0]
    ⟨by omega, fun i' hi' => by omega⟩ ⟨⟨rfl, rfl, rfl, trivial⟩, ⟨rfl, trivial⟩, rfl⟩ ?_
  rintro i g1 ⟨hi, h1⟩
  by_cases h9 : i = 2 * n
  · subst h9
    have hp : plB n m = true := plB_t fun ⟨i, j, k, l, a1, a2, a3, a4, a5, a6, a7⟩ => a7 (h1 i (by omega) j k l a1 a2 a3 a4 a5 a6)
    rw [hp]
    (repeat' (first | refine And.intro (neI rfl) ?_ | refine And.intro ⟨rfl, leR rfl, onesR rfl⟩ ?_ | refine And.intro ⟨rfl, leR rfl⟩ ?_ | refine draw_rule2 hfol (fun KK hKK => ?_) | refine hKK _ _ _ (by kernel_rfl) ?_ | refine region_rule (fun KK hKK => ?_) | refine hKK _ _ ?_ | refine And.intro (Eq.refl true) ?_ | refine Exists.intro _ (And.intro (wI (by omega)) ?_) | refine Exists.intro _ (And.intro (wU (by omega)) ?_) | refine Exists.intro _ (And.intro ⟨rfl, by omega⟩ ?_) | refine Exists.intro _ (And.intro rfl ?_) | refine And.intro rfl ?_ | refine And.intro ⟨rfl, rfl⟩ ?_ | ((refine And.intro (fun _ => ?_) (fun _ => ?_)) <;> try (exfalso; omega))))
    exact Exists.intro [] (And.intro (rfl) (And.intro trivial rfl))
  have hil : i < 2 * n := by omega
  (repeat' (first | refine And.intro (neI rfl) ?_ | refine And.intro ⟨rfl, leR rfl, onesR rfl⟩ ?_ | refine And.intro ⟨rfl, leR rfl⟩ ?_ | refine draw_rule2 hfol (fun KK hKK => ?_) | refine hKK _ _ _ (by kernel_rfl) ?_ | refine region_rule (fun KK hKK => ?_) | refine hKK _ _ ?_ | refine And.intro (Eq.refl true) ?_ | refine Exists.intro _ (And.intro (wI (by omega)) ?_) | refine Exists.intro _ (And.intro (wU (by omega)) ?_) | refine Exists.intro _ (And.intro ⟨rfl, by omega⟩ ?_) | refine Exists.intro _ (And.intro rfl ?_) | refine And.intro rfl ?_ | refine And.intro ⟨rfl, rfl⟩ ?_ | ((refine And.intro (fun _ => ?_) (fun _ => ?_)) <;> try (exfalso; omega))))
  refine loop_rule (α := Nat) (fun j => i < j ∧ j ≤ 2 * n ∧ ∀ j', i < j' → j' < j → ∀ k l, j' < k → k < l → l < 2 * n → xa n m i = xa n m k → xa n m j' = xa n m l → xa n m i = xa n m j')
    (fun j => [(1, .ptr 0 0), (3, vi (2 * n)), (4, vi i), (5, vi j)]) (fun _ => [.pc (pcl n m) T_i_Partition]) (fun j => 2 * n - j) (i + 1) [0]
    ⟨by omega, by omega, fun j' h h' => by omega⟩ ⟨⟨rfl, rfl, rfl, viR (by omega), trivial⟩, ⟨rfl, trivial⟩, rfl⟩ ?_
  rintro j g2 ⟨hij, hj, h2⟩
  by_cases h9 : j = 2 * n
  · subst h9
    (repeat' (first | refine And.intro (neI rfl) ?_ | refine And.intro ⟨rfl, leR rfl, onesR rfl⟩ ?_ | refine And.intro ⟨rfl, leR rfl⟩ ?_ | refine draw_rule2 hfol (fun KK hKK => ?_) | refine hKK _ _ _ (by kernel_rfl) ?_ | refine region_rule (fun KK hKK => ?_) | refine hKK _ _ ?_ | refine And.intro (Eq.refl true) ?_ | refine Exists.intro _ (And.intro (wI (by omega)) ?_) | refine Exists.intro _ (And.intro (wU (by omega)) ?_) | refine Exists.intro _ (And.intro ⟨rfl, by omega⟩ ?_) | refine Exists.intro _ (And.intro rfl ?_) | refine And.intro rfl ?_ | refine And.intro ⟨rfl, rfl⟩ ?_ | ((refine And.intro (fun _ => ?_) (fun _ => ?_)) <;> try (exfalso; omega))))
    refine Exists.intro (i + 1) (Exists.intro [0] (And.intro ⟨⟨by omega, fun i' hi' j k l a1 a2 a3 a4 a5 a6 => ?_⟩, (by show 2 * n - (i + 1) < 2 * n - i; omega)⟩ ⟨⟨rfl, rfl, rfl, trivial⟩, ⟨rfl, trivial⟩, rfl⟩))
    by_cases hii : i' = i
    · subst hii; exact h2 j a1 (by omega) k l a2 a3 a4 a5 a6
    · exact h1 i' (by omega) j k l a1 a2 a3 a4 a5 a6
  have hjl : j < 2 * n := by omega
  (repeat' (first | refine And.intro (neI rfl) ?_ | refine And.intro ⟨rfl, leR rfl, onesR rfl⟩ ?_ | refine And.intro ⟨rfl, leR rfl⟩ ?_ | refine draw_rule2 hfol (fun KK hKK => ?_) | refine hKK _ _ _ (by kernel_rfl) ?_ | refine region_rule (fun KK hKK => ?_) | refine hKK _ _ ?_ | refine And.intro (Eq.refl true) ?_ | refine Exists.intro _ (And.intro (wI (by omega)) ?_) | refine Exists.intro _ (And.intro (wU (by omega)) ?_) | refine Exists.intro _ (And.intro ⟨rfl, by omega⟩ ?_) | refine Exists.intro _ (And.intro rfl ?_) | refine And.intro rfl ?_ | refine And.intro ⟨rfl, rfl⟩ ?_ | ((refine And.intro (fun _ => ?_) (fun _ => ?_)) <;> try (exfalso; omega))))
  refine loop_rule (α := Nat) (fun k => j < k ∧ k ≤ 2 * n ∧ ∀ k', j < k' → k' < k → ∀ l, k' < l → l < 2 * n → xa n m i = xa n m k' → xa n m j = xa n m l → xa n m i = xa n m j)
    (fun k => [(1, .ptr 0 0), (3, vi (2 * n)), (4, vi i), (5, vi j), (6, vi k)]) (fun _ => [.pc (pcl n m) T_i_Partition]) (fun k => 2 * n - k) (j + 1) [0]
    ⟨by omega, by omega, fun k' h h' => by omega⟩ ⟨⟨rfl, rfl, rfl, rfl, viR (by omega), trivial⟩, ⟨rfl, trivial⟩, rfl⟩ ?_
  rintro k g3 ⟨hjk, hk, h3⟩
  by_cases h9 : k = 2 * n
  · subst h9
    (repeat' (first | refine And.intro (neI rfl) ?_ | refine And.intro ⟨rfl, leR rfl, onesR rfl⟩ ?_ | refine And.intro ⟨rfl, leR rfl⟩ ?_ | refine draw_rule2 hfol (fun KK hKK => ?_) | refine hKK _ _ _ (by kernel_rfl) ?_ | refine region_rule (fun KK hKK => ?_) | refine hKK _ _ ?_ | refine And.intro (Eq.refl true) ?_ | refine Exists.intro _ (And.intro (wI (by omega)) ?_) | refine Exists.intro _ (And.intro (wU (by omega)) ?_) | refine Exists.intro _ (And.intro ⟨rfl, by omega⟩ ?_) | refine Exists.intro _ (And.intro rfl ?_) | refine And.intro rfl ?_ | refine And.intro ⟨rfl, rfl⟩ ?_ | ((refine And.intro (fun _ => ?_) (fun _ => ?_)) <;> try (exfalso; omega))))
    refine Exists.intro (j + 1) (Exists.intro [0] (And.intro ⟨⟨by omega, by omega, fun j' a0 a1 k l a2 a3 a4 a5 a6 => ?_⟩, (by show 2 * n - (j + 1) < 2 * n - j; omega)⟩ ⟨⟨rfl, rfl, rfl, rfl, trivial⟩, ⟨rfl, trivial⟩, rfl⟩))
    by_cases hjj : j' = j
    · subst hjj; exact h3 k a2 (by omega) l a3 a4 a5 a6
    · exact h2 j' a0 (by omega) k l a2 a3 a4 a5 a6
  have hkl : k < 2 * n := by omega
  (repeat' (first | refine And.intro (neI rfl) ?_ | refine And.intro ⟨rfl, leR rfl, onesR rfl⟩ ?_ | refine And.intro ⟨rfl, leR rfl⟩ ?_ | refine draw_rule2 hfol (fun KK hKK => ?_) | refine hKK _ _ _ (by kernel_rfl) ?_ | refine region_rule (fun KK hKK => ?_) | refine hKK _ _ ?_ | refine And.intro (Eq.refl true) ?_ | refine Exists.intro _ (And.intro (wI (by omega)) ?_) | refine Exists.intro _ (And.intro (wU (by omega)) ?_) | refine Exists.intro _ (And.intro ⟨rfl, by omega⟩ ?_) | refine Exists.intro _ (And.intro rfl ?_) | refine And.intro rfl ?_ | refine And.intro ⟨rfl, rfl⟩ ?_ | ((refine And.intro (fun _ => ?_) (fun _ => ?_)) <;> try (exfalso; omega))))
  refine loop_rule (α := Nat) (fun l => k < l ∧ l ≤ 2 * n ∧ ∀ l', k < l' → l' < l → xa n m i = xa n m k → xa n m j = xa n m l' → xa n m i = xa n m j)
    (fun l => [(1, .ptr 0 0), (3, vi (2 * n)), (4, vi i), (5, vi j), (6, vi k), (7, vi l)]) (fun _ => [.pc (pcl n m) T_i_Partition]) (fun l => 2 * n - l) (k + 1) [0]
    ⟨by omega, by omega, fun l' h h' => by omega⟩ ⟨⟨rfl, rfl, rfl, rfl, rfl, viR (by omega), trivial⟩, ⟨rfl, trivial⟩, rfl⟩ ?_
  rintro l g4 ⟨hkl2, hl, h4⟩
  by_cases h9 : l = 2 * n
  · subst h9
    (repeat' (first | refine And.intro (neI rfl) ?_ | refine And.intro ⟨rfl, leR rfl, onesR rfl⟩ ?_ | refine And.intro ⟨rfl, leR rfl⟩ ?_ | refine draw_rule2 hfol (fun KK hKK => ?_) | refine hKK _ _ _ (by kernel_rfl) ?_ | refine region_rule (fun KK hKK => ?_) | refine hKK _ _ ?_ | refine And.intro (Eq.refl true) ?_ | refine Exists.intro _ (And.intro (wI (by omega)) ?_) | refine Exists.intro _ (And.intro (wU (by omega)) ?_) | refine Exists.intro _ (And.intro ⟨rfl, by omega⟩ ?_) | refine Exists.intro _ (And.intro rfl ?_) | refine And.intro rfl ?_ | refine And.intro ⟨rfl, rfl⟩ ?_ | ((refine And.intro (fun _ => ?_) (fun _ => ?_)) <;> try (exfalso; omega))))
    refine Exists.intro (k + 1) (Exists.intro [0] (And.intro ⟨⟨by omega, by omega, fun k' a0 a1 l a3 a4 a5 a6 => ?_⟩, (by show 2 * n - (k + 1) < 2 * n - k; omega)⟩ ⟨⟨rfl, rfl, rfl, rfl, rfl, trivial⟩, ⟨rfl, trivial⟩, rfl⟩))
    by_cases hkk : k' = k
    · subst hkk; exact h4 l a3 (by omega) a5 a6
    · exact h3 k' a0 (by omega) l a3 a4 a5 a6
  have hll : l < 2 * n := by omega
  have ci := s_at n m i hm hn hil
  have cj := s_at n m j hm hn hjl
  have ck := s_at n m k hm hn hkl
  have cl := s_at n m l hm hn hll
  by_cases hbad : xa n m i = xa n m k ∧ xa n m j = xa n m l ∧ xa n m i ≠ xa n m j
  · have hp : plB n m = false := plB_f ⟨i, j, k, l, hij, hjk, hkl2, hll, hbad.1, hbad.2.1, hbad.2.2⟩
    obtain ⟨b1, b2, b3⟩ := hbad
    rw [hp]
    generalize xa n m i = xi at ci b1 b3
    generalize xa n m j = xj at cj b2 b3
    generalize xa n m k = xk at ck b1
    generalize xa n m l = xl at cl b2
    (repeat' (first | refine (ci).pure rfl ?_ | refine (cj).pure rfl ?_ | refine (ck).pure rfl ?_ | refine (cl).pure rfl ?_ | refine Exists.intro (pcl n m) (And.intro ⟨pcl_len hm, pcl_all hm⟩ ?_) | refine And.intro (neI rfl) ?_ | refine And.intro ⟨rfl, leR rfl, onesR rfl⟩ ?_ | refine And.intro ⟨rfl, leR rfl⟩ ?_ | refine draw_rule2 hfol (fun KK hKK => ?_) | refine hKK _ _ _ (by kernel_rfl) ?_ | refine region_rule (fun KK hKK => ?_) | refine hKK _ _ ?_ | refine And.intro (Eq.refl true) ?_ | refine Exists.intro _ (And.intro (wI (by omega)) ?_) | refine Exists.intro _ (And.intro (wU (by omega)) ?_) | refine Exists.intro _ (And.intro ⟨rfl, by omega⟩ ?_) | refine Exists.intro _ (And.intro rfl ?_) | refine And.intro rfl ?_ | refine And.intro ⟨rfl, rfl⟩ ?_ | ((refine And.intro (fun _ => ?_) (fun _ => ?_)) <;> try (exfalso; omega))))
    exact Exists.intro [] (And.intro (rfl) (And.intro trivial rfl))
  · have hgo : ∀ l', k < l' → l' < l + 1 → xa n m i = xa n m k → xa n m j = xa n m l' → xa n m i = xa n m j := by
      intro l' a0 a1 a5 a6
      by_cases hll' : l' = l
      · subst hll'
        exact Decidable.byContradiction fun h => hbad ⟨a5, a6, h⟩
      · exact h4 l' a0 (by omega) a5 a6
    clear h1 h2 h3 h4
    (repeat' (first | refine (ci).pure rfl ?_ | refine (cj).pure rfl ?_ | refine (ck).pure rfl ?_ | refine (cl).pure rfl ?_ | refine Exists.intro (pcl n m) (And.intro ⟨pcl_len hm, pcl_all hm⟩ ?_) | refine And.intro (neI rfl) ?_ | refine And.intro ⟨rfl, leR rfl, onesR rfl⟩ ?_ | refine And.intro ⟨rfl, leR rfl⟩ ?_ | refine draw_rule2 hfol (fun KK hKK => ?_) | refine hKK _ _ _ (by kernel_rfl) ?_ | refine region_rule (fun KK hKK => ?_) | refine hKK _ _ ?_ | refine And.intro (Eq.refl true) ?_ | refine Exists.intro _ (And.intro (wI (by omega)) ?_) | refine Exists.intro _ (And.intro (wU (by omega)) ?_) | refine Exists.intro _ (And.intro ⟨rfl, by omega⟩ ?_) | refine Exists.intro _ (And.intro rfl ?_) | refine And.intro rfl ?_ | refine And.intro ⟨rfl, rfl⟩ ?_ | ((refine And.intro (fun _ => ?_) (fun _ => ?_)) <;> try (exfalso; omega))))
    all_goals refine Exists.intro (l + 1) (Exists.intro [0] (And.intro ⟨⟨by omega, by omega, hgo⟩, (by show 2 * n - (l + 1) < 2 * n - l; omega)⟩ ⟨⟨rfl, rfl, rfl, rfl, rfl, rfl, trivial⟩, ⟨rfl, trivial⟩, rfl⟩))

theorem s_iplanar (n : Nat) (m : List Nat) (hm : m.length = 8) (hb : ∀ x ∈ m, x < 256) (hn : n ≤ 4) : Spec Try.prog n_i_Partition_planar [.ptr 0 0] [.pc (pcl n m) T_i_Partition] (vb (plB n m)) [.pc (pcl n m) T_i_Partition] := by
  have har := s_around n m hm hn
  refine SpecW.of_EV hf_i_Partition_planar hc_i_Partition_planar rfl rfl rfl fun w0 B ρ0 _ => ?_
  (repeat' (first | refine (har).make [0] rfl ⟨rfl, trivial⟩ ?_ | refine And.intro (neI rfl) ?_ | refine And.intro ⟨rfl, leR rfl, onesR rfl⟩ ?_ | refine And.intro ⟨rfl, leR rfl⟩ ?_ | refine draw_rule2 hfol (fun KK hKK => ?_) | refine hKK _ _ _ (by kernel_rfl) ?_ | refine region_rule (fun KK hKK => ?_) | refine hKK _ _ ?_ | refine And.intro (Eq.refl true) ?_ | refine Exists.intro _ (And.intro (wI (by omega)) ?_) | refine Exists.intro _ (And.intro (wU (by omega)) ?_) | refine Exists.intro _ (And.intro ⟨rfl, by omega⟩ ?_) | refine Exists.intro _ (And.intro rfl ?_) | refine And.intro rfl ?_ | refine And.intro ⟨rfl, rfl⟩ ?_ | ((refine And.intro (fun _ => ?_) (fun _ => ?_)) <;> try (exfalso; omega))))
  refine loop_rule (α := Nat) (fun i => i ≤ 2 * n ∧ ∀ i', i' < i → ∀ j k l, i' < j → j < k → k < l → l < 2 * n → xa n m i' = xa n m k → xa n m j = xa n m l → xa n m i' = xa n m j)
    (fun i => [(3, .sl 1), (10, .sl 1), (11, vi (2 * n : Nat)), (12, vi i)]) (fun _ => [.pc (pcl n m) T_i_Partition, .pr T_uint8 1 (2 * n) (ul (xa n m) (2 * n))]) (fun i => 2 * n - i) 0 [0, 1]
    ⟨by omega, fun i' hi' => by omega⟩ ⟨⟨rfl, rfl, rfl, rfl, trivial⟩, ⟨rfl, rfl, trivial⟩, rfl⟩ ?_
  rintro i g1 ⟨hi, h1⟩
  by_cases h9 : i = 2 * n
  · subst h9
    have hp : plB n m = true := plB_t fun ⟨i, j, k, l, a1, a2, a3, a4, a5, a6, a7⟩ => a7 (h1 i (by omega) j k l a1 a2 a3 a4 a5 a6)
    rw [hp]
    (repeat' (first | refine And.intro (neI rfl) ?_ | refine And.intro ⟨rfl, leR rfl, onesR rfl⟩ ?_ | refine And.intro ⟨rfl, leR rfl⟩ ?_ | refine draw_rule2 hfol (fun KK hKK => ?_) | refine hKK _ _ _ (by kernel_rfl) ?_ | refine region_rule (fun KK hKK => ?_) | refine hKK _ _ ?_ | refine And.intro (Eq.refl true) ?_ | refine Exists.intro _ (And.intro (wI (by omega)) ?_) | refine Exists.intro _ (And.intro (wU (by omega)) ?_) | refine Exists.intro _ (And.intro ⟨rfl, by omega⟩ ?_) | refine Exists.intro _ (And.intro rfl ?_) | refine And.intro rfl ?_ | refine And.intro ⟨rfl, rfl⟩ ?_ | ((refine And.intro (fun _ => ?_) (fun _ => ?_)) <;> try (exfalso; omega))))
    exact Exists.intro [0] (And.intro (rfl) (And.intro ⟨rfl, trivial⟩ rfl))
  have hil : i < 2 * n := by omega
  have hati := ul_at (f := xa n m) hil
  (repeat' (first | refine Exists.intro _ (And.intro hati ?_) | refine And.intro (neI rfl) ?_ | refine And.intro ⟨rfl, leR rfl, onesR rfl⟩ ?_ | refine And.intro ⟨rfl, leR rfl⟩ ?_ | refine draw_rule2 hfol (fun KK hKK => ?_) | refine hKK _ _ _ (by kernel_rfl) ?_ | refine region_rule (fun KK hKK => ?_) | refine hKK _ _ ?_ | refine And.intro (Eq.refl true) ?_ | refine Exists.intro _ (And.intro (wI (by omega)) ?_) | refine Exists.intro _ (And.intro (wU (by omega)) ?_) | refine Exists.intro _ (And.intro ⟨rfl, by omega⟩ ?_) | refine Exists.intro _ (And.intro rfl ?_) | refine And.intro rfl ?_ | refine And.intro ⟨rfl, rfl⟩ ?_ | ((refine And.intro (fun _ => ?_) (fun _ => ?_)) <;> try (exfalso; omega))))
  refine loop_rule (α := Nat) (fun j => i < j ∧ j ≤ 2 * n ∧ ∀ j', i < j' → j' < j → ∀ k l, j' < k → k < l → l < 2 * n → xa n m i = xa n m k → xa n m j' = xa n m l → xa n m i = xa n m j')
    (fun j => [(3, .sl 1), (10, .sl 1), (11, vi (2 * n : Nat)), (12, vi i), (4, vi i), (5, vu (xa n m i : Nat)), (6, vi j)]) (fun _ => [.pc (pcl n m) T_i_Partition, .pr T_uint8 1 (2 * n) (ul (xa n m) (2 * n))]) (fun j => 2 * n - j) (i + 1) [0, 1]
    ⟨by omega, by omega, fun j' h h' => by omega⟩ ⟨⟨rfl, rfl, rfl, rfl, rfl, rfl, viR (by omega), trivial⟩, ⟨rfl, rfl, trivial⟩, rfl⟩ ?_
  rintro j g2 ⟨hij, hj, h2⟩
  by_cases h9 : j = 2 * n
  · subst h9
    (repeat' (first | refine And.intro (neI rfl) ?_ | refine And.intro ⟨rfl, leR rfl, onesR rfl⟩ ?_ | refine And.intro ⟨rfl, leR rfl⟩ ?_ | refine draw_rule2 hfol (fun KK hKK => ?_) | refine hKK _ _ _ (by kernel_rfl) ?_ | refine region_rule (fun KK hKK => ?_) | refine hKK _ _ ?_ | refine And.intro (Eq.refl true) ?_ | refine Exists.intro _ (And.intro (wI (by omega)) ?_) | refine Exists.intro _ (And.intro (wU (by omega)) ?_) | refine Exists.intro _ (And.intro ⟨rfl, by omega⟩ ?_) | refine Exists.intro _ (And.intro rfl ?_) | refine And.intro rfl ?_ | refine And.intro ⟨rfl, rfl⟩ ?_ | ((refine And.intro (fun _ => ?_) (fun _ => ?_)) <;> try (exfalso; omega))))
    refine Exists.intro (i + 1) (Exists.intro [0, 1] (And.intro ⟨⟨by omega, fun i' hi' j k l a1 a2 a3 a4 a5 a6 => ?_⟩, (by show 2 * n - (i + 1) < 2 * n - i; omega)⟩ ⟨⟨rfl, rfl, rfl, rfl, trivial⟩, ⟨rfl, rfl, trivial⟩, rfl⟩))
    by_cases hii : i' = i
    · subst hii; exact h2 j a1 (by omega) k l a2 a3 a4 a5 a6
    · exact h1 i' (by omega) j k l a1 a2 a3 a4 a5 a6
  have hjl : j < 2 * n := by omega
  have hatj := ul_at (f := xa n m) hjl
  have hc1 := s_containsU (xa n m) (xa n m i) (2 * n) (j + 1) (2 * n - (j + 1)) (by omega) (by omega)
  by_cases hskip : xa n m j = xa n m i ∨ hasU (xa n m) (xa n m i) (j + 1) (2 * n - (j + 1)) = false
  · have hgo : ∀ j', i < j' → j' < j + 1 → ∀ k l, j' < k → k < l → l < 2 * n → xa n m i = xa n m k → xa n m j' = xa n m l → xa n m i = xa n m j' := by
      intro j' a0 a1 k l a2 a3 a4 a5 a6
      by_cases hjj : j' = j
      · subst hjj
        rcases hskip with h | h
        · exact h.symm
        · exact absurd a5.symm (by have := hasU_false.1 h (k - (j' + 1)) (by omega); rwa [show j' + 1 + (k - (j' + 1)) = k from by omega] at this)
      · exact h2 j' a0 (by omega) k l a2 a3 a4 a5 a6
    by_cases he : xa n m j = xa n m i
    · clear h1 h2 hskip
      (repeat' (first | refine Exists.intro _ (And.intro hatj ?_) | refine And.intro (neI rfl) ?_ | refine And.intro ⟨rfl, leR rfl, onesR rfl⟩ ?_ | refine And.intro ⟨rfl, leR rfl⟩ ?_ | refine draw_rule2 hfol (fun KK hKK => ?_) | refine hKK _ _ _ (by kernel_rfl) ?_ | refine region_rule (fun KK hKK => ?_) | refine hKK _ _ ?_ | refine And.intro (Eq.refl true) ?_ | refine Exists.intro _ (And.intro (wI (by omega)) ?_) | refine Exists.intro _ (And.intro (wU (by omega)) ?_) | refine Exists.intro _ (And.intro ⟨rfl, by omega⟩ ?_) | refine Exists.intro _ (And.intro rfl ?_) | refine And.intro rfl ?_ | refine And.intro ⟨rfl, rfl⟩ ?_ | ((refine And.intro (fun _ => ?_) (fun _ => ?_)) <;> try (exfalso; omega))))
      refine Exists.intro (j + 1) (Exists.intro [0, 1] (And.intro ⟨⟨by omega, by omega, hgo⟩, (by show 2 * n - (j + 1) < 2 * n - j; omega)⟩ ⟨⟨rfl, rfl, rfl, rfl, rfl, rfl, rfl, trivial⟩, ⟨rfl, rfl, trivial⟩, rfl⟩))
    · have hf := hskip.resolve_left he
      rw [hf] at hc1
      clear h1 h2 hskip
      (repeat' (first | refine Exists.intro _ (And.intro hatj ?_) | refine (hc1).read [1] rfl ⟨rfl, trivial⟩ ?_ | refine Exists.intro (j + 1) (And.intro ⟨by omega, by omega, rfl⟩ ?_) | refine And.intro (neI rfl) ?_ | refine And.intro ⟨rfl, leR rfl, onesR rfl⟩ ?_ | refine And.intro ⟨rfl, leR rfl⟩ ?_ | refine draw_rule2 hfol (fun KK hKK => ?_) | refine hKK _ _ _ (by kernel_rfl) ?_ | refine region_rule (fun KK hKK => ?_) | refine hKK _ _ ?_ | refine And.intro (Eq.refl true) ?_ | refine Exists.intro _ (And.intro (wI (by omega)) ?_) | refine Exists.intro _ (And.intro (wU (by omega)) ?_) | refine Exists.intro _ (And.intro ⟨rfl, by omega⟩ ?_) | refine Exists.intro _ (And.intro rfl ?_) | refine And.intro rfl ?_ | refine And.intro ⟨rfl, rfl⟩ ?_ | ((refine And.intro (fun _ => ?_) (fun _ => ?_)) <;> try (exfalso; omega))))
      refine Exists.intro (j + 1) (Exists.intro [0, 1] (And.intro ⟨⟨by omega, by omega, hgo⟩, (by show 2 * n - (j + 1) < 2 * n - j; omega)⟩ ⟨⟨rfl, rfl, rfl, rfl, rfl, rfl, rfl, trivial⟩, ⟨rfl, rfl, trivial⟩, rfl⟩))
  have hne : xa n m j ≠ xa n m i := fun h => hskip (.inl h)
  have hht : hasU (xa n m) (xa n m i) (j + 1) (2 * n - (j + 1)) = true := by
    cases h : hasU (xa n m) (xa n m i) (j + 1) (2 * n - (j + 1)) with
    | true => rfl
    | false => exact absurd (.inr h) hskip
  rw [hht] at hc1
  clear hskip
  (repeat' (first | refine Exists.intro _ (And.intro hatj ?_) | refine (hc1).read [1] rfl ⟨rfl, trivial⟩ ?_ | refine Exists.intro (j + 1) (And.intro ⟨by omega, by omega, rfl⟩ ?_) | refine And.intro (neI rfl) ?_ | refine And.intro ⟨rfl, leR rfl, onesR rfl⟩ ?_ | refine And.intro ⟨rfl, leR rfl⟩ ?_ | refine draw_rule2 hfol (fun KK hKK => ?_) | refine hKK _ _ _ (by kernel_rfl) ?_ | refine region_rule (fun KK hKK => ?_) | refine hKK _ _ ?_ | refine And.intro (Eq.refl true) ?_ | refine Exists.intro _ (And.intro (wI (by omega)) ?_) | refine Exists.intro _ (And.intro (wU (by omega)) ?_) | refine Exists.intro _ (And.intro ⟨rfl, by omega⟩ ?_) | refine Exists.intro _ (And.intro rfl ?_) | refine And.intro rfl ?_ | refine And.intro ⟨rfl, rfl⟩ ?_ | ((refine And.intro (fun _ => ?_) (fun _ => ?_)) <;> try (exfalso; omega))))
  refine loop_rule (α := Nat) (fun l => j < l ∧ l ≤ 2 * n ∧ ∀ l', j < l' → l' < l → ∀ k, j < k → k < l' → xa n m i = xa n m k → xa n m j = xa n m l' → xa n m i = xa n m j)
    (fun l => [(3, .sl 1), (10, .sl 1), (11, vi (2 * n : Nat)), (12, vi i), (4, vi i), (5, vu (xa n m i : Nat)), (6, vi j), (7, vi l)]) (fun _ => [.pc (pcl n m) T_i_Partition, .pr T_uint8 1 (2 * n) (ul (xa n m) (2 * n))]) (fun l => 2 * n - l) (j + 1) [0, 1]
    ⟨by omega, by omega, fun l' h h' => by omega⟩ ⟨⟨rfl, rfl, rfl, rfl, rfl, rfl, rfl, viR (by omega), trivial⟩, ⟨rfl, rfl, trivial⟩, rfl⟩ ?_
  rintro l g4 ⟨hjl2, hl, h4⟩
  by_cases h9 : l = 2 * n
  · subst h9
    (repeat' (first | refine And.intro (neI rfl) ?_ | refine And.intro ⟨rfl, leR rfl, onesR rfl⟩ ?_ | refine And.intro ⟨rfl, leR rfl⟩ ?_ | refine draw_rule2 hfol (fun KK hKK => ?_) | refine hKK _ _ _ (by kernel_rfl) ?_ | refine region_rule (fun KK hKK => ?_) | refine hKK _ _ ?_ | refine And.intro (Eq.refl true) ?_ | refine Exists.intro _ (And.intro (wI (by omega)) ?_) | refine Exists.intro _ (And.intro (wU (by omega)) ?_) | refine Exists.intro _ (And.intro ⟨rfl, by omega⟩ ?_) | refine Exists.intro _ (And.intro rfl ?_) | refine And.intro rfl ?_ | refine And.intro ⟨rfl, rfl⟩ ?_ | ((refine And.intro (fun _ => ?_) (fun _ => ?_)) <;> try (exfalso; omega))))
    refine Exists.intro (j + 1) (Exists.intro [0, 1] (And.intro ⟨⟨by omega, by omega, fun j' a0 a1 k l a2 a3 a4 a5 a6 => ?_⟩, (by show 2 * n - (j + 1) < 2 * n - j; omega)⟩ ⟨⟨rfl, rfl, rfl, rfl, rfl, rfl, rfl, trivial⟩, ⟨rfl, rfl, trivial⟩, rfl⟩))
    by_cases hjj : j' = j
    · subst hjj; exact h4 l (by omega) (by omega) k a2 a3 a5 a6
    · exact h2 j' a0 (by omega) k l a2 a3 a4 a5 a6
  have hll : l < 2 * n := by omega
  have hatl := ul_at (f := xa n m) hll
  have hc2 := s_containsU (xa n m) (xa n m i) (2 * n) (j + 1) (l - (j + 1)) (by omega) (by omega)
  by_cases he : xa n m l = xa n m j
  · cases hh : hasU (xa n m) (xa n m i) (j + 1) (l - (j + 1)) with
    | true =>
      obtain ⟨p, hp1, hp2⟩ := hasU_true.1 hh
      have hp : plB n m = false := plB_f ⟨i, j, j + 1 + p, l, hij, by omega, by omega, hll, hp2.symm, he.symm, Ne.symm hne⟩
      rw [hp]
      rw [hh] at hc2
      clear h1 h2 h4
      (repeat' (first | refine Exists.intro _ (And.intro hatj ?_) | refine Exists.intro _ (And.intro hatl ?_) | refine (hc2).read [1] rfl ⟨rfl, trivial⟩ ?_ | refine Exists.intro (j + 1) (Exists.intro l (And.intro ⟨by omega, by omega, by omega, by omega, rfl⟩ ?_)) | refine And.intro (neI rfl) ?_ | refine And.intro ⟨rfl, leR rfl, onesR rfl⟩ ?_ | refine And.intro ⟨rfl, leR rfl⟩ ?_ | refine draw_rule2 hfol (fun KK hKK => ?_) | refine hKK _ _ _ (by kernel_rfl) ?_ | refine region_rule (fun KK hKK => ?_) | refine hKK _ _ ?_ | refine And.intro (Eq.refl true) ?_ | refine Exists.intro _ (And.intro (wI (by omega)) ?_) | refine Exists.intro _ (And.intro (wU (by omega)) ?_) | refine Exists.intro _ (And.intro ⟨rfl, by omega⟩ ?_) | refine Exists.intro _ (And.intro rfl ?_) | refine And.intro rfl ?_ | refine And.intro ⟨rfl, rfl⟩ ?_ | ((refine And.intro (fun _ => ?_) (fun _ => ?_)) <;> try (exfalso; omega))))
      exact Exists.intro [0] (And.intro (rfl) (And.intro ⟨rfl, trivial⟩ rfl))
    | false =>
      have hgo : ∀ l', j < l' → l' < l + 1 → ∀ k, j < k → k < l' → xa n m i = xa n m k → xa n m j = xa n m l' → xa n m i = xa n m j := by
        intro l' a0 a1 k a2 a3 a5 a6
        by_cases hll' : l' = l
        · subst hll'
          exact absurd a5.symm (by have := hasU_false.1 hh (k - (j + 1)) (by omega); rwa [show j + 1 + (k - (j + 1)) = k from by omega] at this)
        · exact h4 l' a0 (by omega) k a2 a3 a5 a6
      rw [hh] at hc2
      clear h1 h2 h4
      (repeat' (first | refine Exists.intro _ (And.intro hatj ?_) | refine Exists.intro _ (And.intro hatl ?_) | refine (hc2).read [1] rfl ⟨rfl, trivial⟩ ?_ | refine Exists.intro (j + 1) (Exists.intro l (And.intro ⟨by omega, by omega, by omega, by omega, rfl⟩ ?_)) | refine And.intro (neI rfl) ?_ | refine And.intro ⟨rfl, leR rfl, onesR rfl⟩ ?_ | refine And.intro ⟨rfl, leR rfl⟩ ?_ | refine draw_rule2 hfol (fun KK hKK => ?_) | refine hKK _ _ _ (by kernel_rfl) ?_ | refine region_rule (fun KK hKK => ?_) | refine hKK _ _ ?_ | refine And.intro (Eq.refl true) ?_ | refine Exists.intro _ (And.intro (wI (by omega)) ?_) | refine Exists.intro _ (And.intro (wU (by omega)) ?_) | refine Exists.intro _ (And.intro ⟨rfl, by omega⟩ ?_) | refine Exists.intro _ (And.intro rfl ?_) | refine And.intro rfl ?_ | refine And.intro ⟨rfl, rfl⟩ ?_ | ((refine And.intro (fun _ => ?_) (fun _ => ?_)) <;> try (exfalso; omega))))
      refine Exists.intro (l + 1) (Exists.intro [0, 1] (And.intro ⟨⟨by omega, by omega, hgo⟩, (by show 2 * n - (l + 1) < 2 * n - l; omega)⟩ ⟨⟨rfl, rfl, rfl, rfl, rfl, rfl, rfl, rfl, trivial⟩, ⟨rfl, rfl, trivial⟩, rfl⟩))
  · have hgo : ∀ l', j < l' → l' < l + 1 → ∀ k, j < k → k < l' → xa n m i = xa n m k → xa n m j = xa n m l' → xa n m i = xa n m j := by
      intro l' a0 a1 k a2 a3 a5 a6
      by_cases hll' : l' = l
      · subst hll'; exact absurd a6.symm he
      · exact h4 l' a0 (by omega) k a2 a3 a5 a6
    clear h1 h2 h4
    (repeat' (first | refine Exists.intro _ (And.intro hatj ?_) | refine Exists.intro _ (And.intro hatl ?_) | refine And.intro (neI rfl) ?_ | refine And.intro ⟨rfl, leR rfl, onesR rfl⟩ ?_ | refine And.intro ⟨rfl, leR rfl⟩ ?_ | refine draw_rule2 hfol (fun KK hKK => ?_) | refine hKK _ _ _ (by kernel_rfl) ?_ | refine region_rule (fun KK hKK => ?_) | refine hKK _ _ ?_ | refine And.intro (Eq.refl true) ?_ | refine Exists.intro _ (And.intro (wI (by omega)) ?_) | refine Exists.intro _ (And.intro (wU (by omega)) ?_) | refine Exists.intro _ (And.intro ⟨rfl, by omega⟩ ?_) | refine Exists.intro _ (And.intro rfl ?_) | refine And.intro rfl ?_ | refine And.intro ⟨rfl, rfl⟩ ?_ | ((refine And.intro (fun _ => ?_) (fun _ => ?_)) <;> try (exfalso; omega))))
    refine Exists.intro (l + 1) (Exists.intro [0, 1] (And.intro ⟨⟨by omega, by omega, hgo⟩, (by show 2 * n - (l + 1) < 2 * n - l; omega)⟩ ⟨⟨rfl, rfl, rfl, rfl, rfl, rfl, rfl, rfl, trivial⟩, ⟨rfl, rfl, trivial⟩, rfl⟩))
end Go.Proofs.Ytpangmameocfmaa.VE.P
