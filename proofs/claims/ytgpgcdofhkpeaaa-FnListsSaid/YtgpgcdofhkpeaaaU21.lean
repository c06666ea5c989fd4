/- Contracts of functions of the given program, for all arguments that the contract names; see each theorem. -/
import Derived.Test.YtgpgcdofhkpeaaaU9
import Derived.Test.YtgpgcdofhkpeaaaU16a
set_option linter.all false
namespace Go.Proofs.Ytgpgcdofhkpeaaa.VE
open Go
set_option maxHeartbeats 800000
set_option maxRecDepth 100000

/-! the unit, and the generators -/
def unL (n : Nat) : Nat → List Nat
  | 0 => List.replicate 16 0
  | k + 1 => ((unL n k).set k (n + k)).set (n + k) k
def un (n : Nat) : List Nat := unL n n
def jn2 (m : List Nat) (i k : Nat) : List Nat := (m.set i k).set k i
def gen (n i : Nat) : List Nat := jn2 (jn2 (un n) i (i + 1)) (n + i) (n + i + 1)
theorem unL_len {n : Nat} : ∀ {k}, (unL n k).length = 16
  | 0 => by simp [unL]
  | k + 1 => by simp [unL, unL_len (k := k)]
theorem un_len {n : Nat} : (un n).length = 16 := unL_len
theorem jn2_len {m : List Nat} {i k : Nat} : (jn2 m i k).length = m.length := by simp [jn2]
theorem gen_len {n i : Nat} : (gen n i).length = 16 := by simp [gen, jn2_len, un_len]
theorem unL_get {n : Nat} (hn : n ≤ 8) : ∀ k, k ≤ n → ∀ j, (unL n k).getD j 0 = if j < k then n + j else if n ≤ j ∧ j < n + k then j - n else 0
  | 0, _, j => by
    rw [if_neg (by omega), if_neg (by omega)]
    simp only [unL, List.getD_eq_getElem?_getD, List.getElem?_replicate]
    split <;> rfl
  | k + 1, hk, j => by
    have ih := unL_get hn k (by omega) j
    have hl := unL_len (n := n) (k := k)
    simp only [unL]
    rw [getD_set' (by rw [List.length_set]; omega), getD_set' (by omega), ih]
    by_cases h1 : n + k = j
    · subst h1; rw [if_pos rfl, if_neg (by omega), if_pos (by omega)]; omega
    · rw [if_neg h1]
      by_cases h2 : k = j
      · subst h2; rw [if_pos rfl, if_pos (by omega)]
      · rw [if_neg h2]
        by_cases h3 : j < k
        · rw [if_pos h3, if_pos (show j < k + 1 by omega)]
        · by_cases h4 : n ≤ j ∧ j < n + k
          · rw [if_neg h3, if_pos h4, if_neg (show ¬ j < k + 1 by omega), if_pos (show n ≤ j ∧ j < n + (k + 1) by omega)]
          · rw [if_neg h3, if_neg h4, if_neg (show ¬ j < k + 1 by omega), if_neg (show ¬ (n ≤ j ∧ j < n + (k + 1)) by omega)]
theorem un_get {n : Nat} (hn : n ≤ 8) (j : Nat) : (un n).getD j 0 = if j < n then n + j else if j < 2 * n then j - n else 0 := by
  rw [un, unL_get hn n (Nat.le_refl n)]
  by_cases h1 : j < n
  · rw [if_pos h1, if_pos h1]
  · rw [if_neg h1, if_neg h1]
    by_cases h2 : j < 2 * n
    · rw [if_pos h2, if_pos (by omega)]
    · rw [if_neg h2, if_neg (by omega)]
theorem jn2_get {m : List Nat} {i k j : Nat} (hi : i < m.length) (hk : k < m.length) : (jn2 m i k).getD j 0 = if k = j then i else if i = j then k else m.getD j 0 := by
  unfold jn2
  rw [getD_set' (by rw [List.length_set]; exact hk), getD_set' hi]
theorem gen_get {n i : Nat} (hn : n ≤ 8) (hi : i + 1 < n) (j : Nat) : (gen n i).getD j 0 = if j = i then i + 1 else if j = i + 1 then i else if j = n + i then n + i + 1 else if j = n + i + 1 then n + i else if j < n then n + j else if j < 2 * n then j - n else 0 := by
  have hl := un_len (n := n)
  unfold gen
  rw [jn2_get (by rw [jn2_len]; omega) (by rw [jn2_len]; omega), jn2_get (by omega) (by omega), un_get hn]
  by_cases h1 : j = i
  · rw [if_neg (show ¬ n + i + 1 = j by omega), if_neg (show ¬ n + i = j by omega), if_neg (show ¬ i + 1 = j by omega), if_pos h1.symm, if_pos h1]
  rw [if_neg (show ¬ j = i from h1)]
  by_cases h2 : j = i + 1
  · rw [if_neg (show ¬ n + i + 1 = j by omega), if_neg (show ¬ n + i = j by omega), if_pos h2.symm, if_pos h2]
  rw [if_neg (show ¬ j = i + 1 from h2), if_neg (show ¬ i + 1 = j from fun e => h2 e.symm), if_neg (show ¬ i = j from fun e => h1 e.symm)]
  by_cases h3 : j = n + i
  · rw [if_neg (show ¬ n + i + 1 = j by omega), if_pos h3.symm, if_pos h3]
  rw [if_neg (show ¬ j = n + i from h3), if_neg (show ¬ n + i = j from fun e => h3 e.symm)]
  by_cases h4 : j = n + i + 1
  · rw [if_pos h4.symm, if_pos h4]
  · rw [if_neg (show ¬ n + i + 1 = j from fun e => h4 e.symm), if_neg h4]
theorem un_V {n : Nat} (hn1 : 1 ≤ n) (hn : n ≤ 8) : IsV n (un n) := by
  refine ⟨hn1, hn, un_len, fun j hj => ?_, fun j hj => ?_, fun j hj => ?_, fun j hj => ?_⟩
  · rw [un_get hn]; split
    · omega
    · first | omega | (rw [if_pos hj]; omega)
  · rw [un_get hn]; split
    · omega
    · first | omega | (rw [if_pos hj]; omega)
  · rw [un_get hn j]
    by_cases h : j < n
    · rw [if_pos h, un_get hn, if_neg (by omega), if_pos (by omega)]; omega
    · rw [if_neg h, if_pos hj, un_get hn, if_pos (by omega)]; omega
  · rw [un_get hn, if_neg (by omega), if_neg (by omega)]
theorem gen_V {n i : Nat} (hn : n ≤ 8) (hi : i + 1 < n) : IsV n (gen n i) := by
  have key : ∀ j, j < 2 * n → ((gen n i).getD j 0 < 2 * n ∧ (gen n i).getD j 0 ≠ j ∧ (gen n i).getD ((gen n i).getD j 0) 0 = j) := by
    intro j hj
    rw [gen_get hn hi j]
    by_cases h1 : j = i
    · rw [if_pos h1, gen_get hn hi, if_neg (by omega), if_pos rfl]; omega
    rw [if_neg h1]
    by_cases h2 : j = i + 1
    · rw [if_pos h2, gen_get hn hi, if_pos rfl]; omega
    rw [if_neg h2]
    by_cases h3 : j = n + i
    · rw [if_pos h3, gen_get hn hi, if_neg (by omega), if_neg (by omega), if_neg (by omega), if_pos rfl]; omega
    rw [if_neg h3]
    by_cases h4 : j = n + i + 1
    · rw [if_pos h4, gen_get hn hi, if_neg (by omega), if_neg (by omega), if_pos rfl]; omega
    rw [if_neg h4]
    by_cases h5 : j < n
    · rw [if_pos h5, gen_get hn hi, if_neg (by omega), if_neg (by omega), if_neg (by omega), if_neg (by omega), if_neg (by omega), if_pos (by omega)]; omega
    · rw [if_neg h5, if_pos hj, gen_get hn hi, if_neg (by omega), if_neg (by omega), if_neg (by omega), if_neg (by omega), if_pos (by omega)]; omega
  refine ⟨by omega, hn, gen_len, fun j hj => (key j hj).1, fun j hj => (key j hj).2.1, fun j hj => (key j hj).2.2, fun j hj => ?_⟩
  rw [gen_get hn hi, if_neg (by omega), if_neg (by omega), if_neg (by omega), if_neg (by omega), if_neg (by omega), if_neg (by omega)]

theorem s_ijoin (s : Int) (m : List Nat) (i k : Nat) (hm : m.length = 16) (hi : i < 16) (hk : k < 16) : Spec Try.prog n_i_Diagram_join [.ptr 0 0, vi i, vi k] [.pc (pcl s m) T_i_Diagram] (.tup []) [.pc (pcl s (jn2 m i k)) T_i_Diagram] := by
  have hfol : Try.prog.follows .mixedOrders = true := rfl
  have e1 : IntKind.u8.wrap (k : Int) = ((k : Nat) : Int) := wU (by omega)
  have e2 : IntKind.u8.wrap (i : Int) = ((i : Nat) : Int) := wU (by omega)
  refine SpecW.of_EV hf_i_Diagram_join hc_i_Diagram_join rfl rfl rfl fun w0 B ρ0 _ => ?_
  (repeat' (first | refine Exists.intro _ (And.intro e1 ?_) | refine Exists.intro _ (And.intro e2 ?_) | refine Exists.intro (pcl s (m.set i k)) (And.intro ⟨by rw [pcl_len hm]; omega, pcl_set⟩ ?_) | refine Exists.intro (pcl s ((m.set i k).set k i)) (And.intro ⟨by rw [pcl_len (N := 16) (by simpa using hm)]; omega, pcl_set⟩ ?_) | refine And.intro (neI rfl) ?_ | refine And.intro ⟨rfl, leR rfl, onesR rfl⟩ ?_ | refine And.intro ⟨rfl, leR rfl⟩ ?_ | refine draw_rule2 hfol (fun KK hKK => ?_) | refine hKK _ _ _ (by kernel_rfl) ?_ | refine region_rule (fun KK hKK => ?_) | refine hKK _ _ ?_ | refine And.intro (Eq.refl true) ?_ | refine Exists.intro _ (And.intro (wI (by omega)) ?_) | refine Exists.intro _ (And.intro (wU (by omega)) ?_) | refine Exists.intro _ (And.intro ⟨rfl, by omega⟩ ?_) | refine Exists.intro _ (And.intro rfl ?_) | refine And.intro rfl ?_ | refine And.intro ⟨rfl, rfl⟩ ?_ | ((refine And.intro (fun _ => ?_) (fun _ => ?_)) <;> try (exfalso; omega))))
  exact Exists.intro [0] (And.intro (rfl) (And.intro ⟨rfl, trivial⟩ rfl))
theorem s_iunit (n : Nat) (hn1 : 1 ≤ n) (hn : n ≤ 8) : Spec Try.prog n_i_unit [vi n] [] (pv n (un n)) [] := by
  refine SpecW.of_EV hf_i_unit hc_i_unit rfl rfl rfl fun w0 B ρ0 _ => ?_
  (repeat' (first | refine Exists.intro (pcl (n : Int) (List.replicate 16 0)) (And.intro ⟨leR rfl, rfl⟩ ?_) | refine Exists.intro (pcl (n : Int) (List.replicate 16 0)) (And.intro ⟨rfl, rfl⟩ ?_) | refine And.intro (neI rfl) ?_ | refine And.intro ⟨rfl, leR rfl, onesR rfl⟩ ?_ | refine And.intro ⟨rfl, leR rfl⟩ ?_ | refine draw_rule2 hfol (fun KK hKK => ?_) | refine hKK _ _ _ (by kernel_rfl) ?_ | refine region_rule (fun KK hKK => ?_) | refine hKK _ _ ?_ | refine And.intro (Eq.refl true) ?_ | refine Exists.intro _ (And.intro (wI (by omega)) ?_) | refine Exists.intro _ (And.intro (wU (by omega)) ?_) | refine Exists.intro _ (And.intro ⟨rfl, by omega⟩ ?_) | refine Exists.intro _ (And.intro rfl ?_) | refine And.intro rfl ?_ | refine And.intro ⟨rfl, rfl⟩ ?_ | ((refine And.intro (fun _ => ?_) (fun _ => ?_)) <;> try (exfalso; omega))))
  refine loop_rule (α := Nat) (fun k => k ≤ n) (fun k => [(2, .ptr 0 0), (0, vi n), (3, .ptr 1 0), (7, vi n), (8, vi k)])
    (fun k => [.pc (pcl 0 (List.replicate 16 0)) T_i_Diagram, .pc (pcl n (unL n k)) T_i_Diagram]) (fun k => n - k) 0 [0, 1]
    (by omega) ⟨⟨rfl, rfl, rfl, rfl, rfl, trivial⟩, ⟨rfl, rfl, trivial⟩, rfl⟩ ?_
  rintro k g hk
  by_cases h9 : k = n
  · subst h9
    (repeat' (first | refine Exists.intro (pcl (k : Int) (unL k k)) (And.intro ⟨pcl_len unL_len, pcl_all unL_len⟩ ?_) | refine And.intro ⟨pcl_len unL_len, leR rfl, pcl_ones⟩ ?_ | refine Exists.intro (pcl (k : Int) (unL k k)) (And.intro ⟨leR rfl, spl0 (leR rfl)⟩ ?_) | refine And.intro (neI rfl) ?_ | refine And.intro ⟨rfl, leR rfl, onesR rfl⟩ ?_ | refine And.intro ⟨rfl, leR rfl⟩ ?_ | refine draw_rule2 hfol (fun KK hKK => ?_) | refine hKK _ _ _ (by kernel_rfl) ?_ | refine region_rule (fun KK hKK => ?_) | refine hKK _ _ ?_ | refine And.intro (Eq.refl true) ?_ | refine Exists.intro _ (And.intro (wI (by omega)) ?_) | refine Exists.intro _ (And.intro (wU (by omega)) ?_) | refine Exists.intro _ (And.intro ⟨rfl, by omega⟩ ?_) | refine Exists.intro _ (And.intro rfl ?_) | refine And.intro rfl ?_ | refine And.intro ⟨rfl, rfl⟩ ?_ | ((refine And.intro (fun _ => ?_) (fun _ => ?_)) <;> try (exfalso; omega))))
    exact Exists.intro [] (And.intro (rfl) (And.intro trivial rfl))
  have hkl : k < n := by omega
  have hj := s_ijoin n (unL n k) k (n + k) unL_len (by omega) (by omega)
  have e1 : IntKind.i64.wrap ((n : Int) + (k : Int)) = ((n + k : Nat) : Int) := wC (by omega) (by omega)
  (repeat' (first | refine Exists.intro _ (And.intro e1 ?_) | refine (hj).make [1] rfl ⟨rfl, trivial⟩ ?_ | refine And.intro (neI rfl) ?_ | refine And.intro ⟨rfl, leR rfl, onesR rfl⟩ ?_ | refine And.intro ⟨rfl, leR rfl⟩ ?_ | refine draw_rule2 hfol (fun KK hKK => ?_) | refine hKK _ _ _ (by kernel_rfl) ?_ | refine region_rule (fun KK hKK => ?_) | refine hKK _ _ ?_ | refine And.intro (Eq.refl true) ?_ | refine Exists.intro _ (And.intro (wI (by omega)) ?_) | refine Exists.intro _ (And.intro (wU (by omega)) ?_) | refine Exists.intro _ (And.intro ⟨rfl, by omega⟩ ?_) | refine Exists.intro _ (And.intro rfl ?_) | refine And.intro rfl ?_ | refine And.intro ⟨rfl, rfl⟩ ?_ | ((refine And.intro (fun _ => ?_) (fun _ => ?_)) <;> try (exfalso; omega))))
  refine Exists.intro (k + 1) (Exists.intro [0, 1] (And.intro ⟨by omega, (by show n - (k + 1) < n - k; omega)⟩ ⟨⟨rfl, rfl, rfl, rfl, rfl, trivial⟩, ⟨rfl, rfl, trivial⟩, rfl⟩))
theorem s_sone (n : Nat) (hn1 : 1 ≤ n) (hn : n ≤ 8) : Spec Try.prog n_s_l01One [vi n] [] (pv n (un n)) [] := by
  refine SpecW.of_EV hf_s_l01One hc_s_l01One rfl rfl rfl fun w0 B ρ0 _ => ?_
  (repeat' (first | refine Exists.intro (pcl (n : Int) (List.replicate 16 0)) (And.intro ⟨leR rfl, rfl⟩ ?_) | refine Exists.intro (pcl (n : Int) (List.replicate 16 0)) (And.intro ⟨rfl, rfl⟩ ?_) | refine And.intro (neI rfl) ?_ | refine And.intro ⟨rfl, leR rfl, onesR rfl⟩ ?_ | refine And.intro ⟨rfl, leR rfl⟩ ?_ | refine draw_rule2 hfol (fun KK hKK => ?_) | refine hKK _ _ _ (by kernel_rfl) ?_ | refine region_rule (fun KK hKK => ?_) | refine hKK _ _ ?_ | refine And.intro (Eq.refl true) ?_ | refine Exists.intro _ (And.intro (wI (by omega)) ?_) | refine Exists.intro _ (And.intro (wU (by omega)) ?_) | refine Exists.intro _ (And.intro ⟨rfl, by omega⟩ ?_) | refine Exists.intro _ (And.intro rfl ?_) | refine And.intro rfl ?_ | refine And.intro ⟨rfl, rfl⟩ ?_ | ((refine And.intro (fun _ => ?_) (fun _ => ?_)) <;> try (exfalso; omega))))
  refine loop_rule (α := Nat) (fun k => k ≤ n) (fun k => [(2, .ptr 0 0), (0, vi n), (3, .ptr 1 0), (4, vi k)])
    (fun k => [.pc (pcl 0 (List.replicate 16 0)) T_i_Diagram, .pc (pcl n (unL n k)) T_i_Diagram]) (fun k => n - k) 0 [0, 1]
    (by omega) ⟨⟨rfl, rfl, rfl, rfl, trivial⟩, ⟨rfl, rfl, trivial⟩, rfl⟩ ?_
  rintro k g hk
  by_cases h9 : k = n
  · subst h9
    (repeat' (first | refine Exists.intro (pcl (k : Int) (unL k k)) (And.intro ⟨pcl_len unL_len, pcl_all unL_len⟩ ?_) | refine And.intro ⟨pcl_len unL_len, leR rfl, pcl_ones⟩ ?_ | refine Exists.intro (pcl (k : Int) (unL k k)) (And.intro ⟨leR rfl, spl0 (leR rfl)⟩ ?_) | refine And.intro (neI rfl) ?_ | refine And.intro ⟨rfl, leR rfl, onesR rfl⟩ ?_ | refine And.intro ⟨rfl, leR rfl⟩ ?_ | refine draw_rule2 hfol (fun KK hKK => ?_) | refine hKK _ _ _ (by kernel_rfl) ?_ | refine region_rule (fun KK hKK => ?_) | refine hKK _ _ ?_ | refine And.intro (Eq.refl true) ?_ | refine Exists.intro _ (And.intro (wI (by omega)) ?_) | refine Exists.intro _ (And.intro (wU (by omega)) ?_) | refine Exists.intro _ (And.intro ⟨rfl, by omega⟩ ?_) | refine Exists.intro _ (And.intro rfl ?_) | refine And.intro rfl ?_ | refine And.intro ⟨rfl, rfl⟩ ?_ | ((refine And.intro (fun _ => ?_) (fun _ => ?_)) <;> try (exfalso; omega))))
    exact Exists.intro [] (And.intro (rfl) (And.intro trivial rfl))
  have hkl : k < n := by omega
  have hj := s_join n (unL n k) k (n + k) unL_len (by omega) (by omega)
  have e1 : IntKind.i64.wrap ((n : Int) + (k : Int)) = ((n + k : Nat) : Int) := wC (by omega) (by omega)
  (repeat' (first | refine Exists.intro _ (And.intro e1 ?_) | refine (hj).pure rfl ?_ | refine Exists.intro (pcl (n : Int) (unL n k)) (And.intro ⟨pcl_len unL_len, pcl_all unL_len⟩ ?_) | refine And.intro ⟨pcl_len unL_len, leR rfl, pcl_ones⟩ ?_ | refine Exists.intro (pcl (n : Int) (unL n k)) (And.intro ⟨leR rfl, spl0 (leR rfl)⟩ ?_) | refine Exists.intro (pcl n (((unL n k).set k (n + k)).set (n + k) k)) (And.intro ⟨(by rw [pcl_len (unL_len (n := n) (k := k))]; exact Nat.le_refl _), spl0 (Nat.le_of_eq (pcl_len unL_len))⟩ ?_) | refine And.intro ⟨pcl_len (unL_len (n := n) (k := k + 1)), leR rfl, pcl_ones⟩ ?_ | refine And.intro (neI rfl) ?_ | refine And.intro ⟨rfl, leR rfl, onesR rfl⟩ ?_ | refine And.intro ⟨rfl, leR rfl⟩ ?_ | refine draw_rule2 hfol (fun KK hKK => ?_) | refine hKK _ _ _ (by kernel_rfl) ?_ | refine region_rule (fun KK hKK => ?_) | refine hKK _ _ ?_ | refine And.intro (Eq.refl true) ?_ | refine Exists.intro _ (And.intro (wI (by omega)) ?_) | refine Exists.intro _ (And.intro (wU (by omega)) ?_) | refine Exists.intro _ (And.intro ⟨rfl, by omega⟩ ?_) | refine Exists.intro _ (And.intro rfl ?_) | refine And.intro rfl ?_ | refine And.intro ⟨rfl, rfl⟩ ?_ | ((refine And.intro (fun _ => ?_) (fun _ => ?_)) <;> try (exfalso; omega))))
  refine Exists.intro (k + 1) (Exists.intro [0, 1] (And.intro ⟨by omega, (by show n - (k + 1) < n - k; omega)⟩ ⟨⟨rfl, rfl, rfl, rfl, trivial⟩, ⟨rfl, rfl, trivial⟩, rfl⟩))
theorem s_igen (n i : Nat) (hn : n ≤ 8) (hi : i + 1 < n) : Spec Try.prog n_i_generator [vi n, vi i] [] (pv n (gen n i)) [] := by
  have hu := s_iunit n (by omega) hn
  have h1 := s_ijoin n (un n) i (i + 1) un_len (by omega) (by omega)
  have hl1 : (jn2 (un n) i (i + 1)).length = 16 := by rw [jn2_len, un_len]
  have h2 := s_ijoin n (jn2 (un n) i (i + 1)) (n + i) (n + i + 1) hl1 (by omega) (by omega)
  have e1 : IntKind.i64.wrap ((i : Int) + 1) = ((i + 1 : Nat) : Int) := wC (by omega) (by omega)
  have e2 : IntKind.i64.wrap ((n : Int) + (i : Int)) = ((n + i : Nat) : Int) := wC (by omega) (by omega)
  have e3 : IntKind.i64.wrap (((n + i : Nat) : Int) + 1) = ((n + i + 1 : Nat) : Int) := wC (by omega) (by omega)
  refine SpecW.of_EV hf_i_generator hc_i_generator rfl rfl rfl fun w0 B ρ0 _ => ?_
  (repeat' (first | refine (hu).pure rfl ?_ | refine Exists.intro _ (And.intro e1 ?_) | refine Exists.intro _ (And.intro e2 ?_) | refine Exists.intro _ (And.intro e3 ?_) | refine (h1).make [1] rfl ⟨rfl, trivial⟩ ?_ | refine (h2).make [1] rfl ⟨rfl, trivial⟩ ?_ | refine Exists.intro (pcl (n : Int) (un n)) (And.intro ⟨pcl_len un_len, pcl_all un_len⟩ ?_) | refine And.intro ⟨pcl_len un_len, leR rfl, pcl_ones⟩ ?_ | refine Exists.intro (pcl (n : Int) (un n)) (And.intro ⟨leR rfl, spl0 (leR rfl)⟩ ?_) | refine Exists.intro (pcl (n : Int) (gen n i)) (And.intro ⟨pcl_len gen_len, pcl_all gen_len⟩ ?_) | refine And.intro ⟨pcl_len gen_len, leR rfl, pcl_ones⟩ ?_ | refine Exists.intro (pcl (n : Int) (gen n i)) (And.intro ⟨leR rfl, spl0 (leR rfl)⟩ ?_) | refine And.intro (neI rfl) ?_ | refine And.intro ⟨rfl, leR rfl, onesR rfl⟩ ?_ | refine And.intro ⟨rfl, leR rfl⟩ ?_ | refine draw_rule2 hfol (fun KK hKK => ?_) | refine hKK _ _ _ (by kernel_rfl) ?_ | refine region_rule (fun KK hKK => ?_) | refine hKK _ _ ?_ | refine And.intro (Eq.refl true) ?_ | refine Exists.intro _ (And.intro (wI (by omega)) ?_) | refine Exists.intro _ (And.intro (wU (by omega)) ?_) | refine Exists.intro _ (And.intro ⟨rfl, by omega⟩ ?_) | refine Exists.intro _ (And.intro rfl ?_) | refine And.intro rfl ?_ | refine And.intro ⟨rfl, rfl⟩ ?_ | ((refine And.intro (fun _ => ?_) (fun _ => ?_)) <;> try (exfalso; omega))))
  exact Exists.intro [] (And.intro (rfl) (And.intro trivial rfl))
theorem s_scup (n i : Nat) (hn : n ≤ 8) (hi : i + 1 < n) : Spec Try.prog n_s_l01Cup [vi n, vi i] [] (pv n (gen n i)) [] := by
  have hu := s_sone n (by omega) hn
  have h1 := s_join n (un n) i (i + 1) un_len (by omega) (by omega)
  have hl1 : (jn2 (un n) i (i + 1)).length = 16 := by rw [jn2_len, un_len]
  have h2 := s_join n (jn2 (un n) i (i + 1)) (n + i) (n + i + 1) hl1 (by omega) (by omega)
  have e1 : IntKind.i64.wrap ((i : Int) + 1) = ((i + 1 : Nat) : Int) := wC (by omega) (by omega)
  have e2 : IntKind.i64.wrap ((n : Int) + (i : Int)) = ((n + i : Nat) : Int) := wC (by omega) (by omega)
  have e3 : IntKind.i64.wrap (((n + i : Nat) : Int) + 1) = ((n + i + 1 : Nat) : Int) := wC (by omega) (by omega)
  refine SpecW.of_EV hf_s_l01Cup hc_s_l01Cup rfl rfl rfl fun w0 B ρ0 _ => ?_
  (repeat' (first | refine (hu).pure rfl ?_ | refine Exists.intro _ (And.intro e1 ?_) | refine Exists.intro _ (And.intro e2 ?_) | refine Exists.intro _ (And.intro e3 ?_) | refine (h1).pure rfl ?_ | refine (h2).pure rfl ?_ | refine Exists.intro (pcl (n : Int) (gen n i)) (And.intro ⟨pcl_len gen_len, pcl_all gen_len⟩ ?_) | refine And.intro ⟨pcl_len gen_len, leR rfl, pcl_ones⟩ ?_ | refine Exists.intro (pcl (n : Int) (gen n i)) (And.intro ⟨leR rfl, spl0 (leR rfl)⟩ ?_) | refine And.intro (neI rfl) ?_ | refine And.intro ⟨rfl, leR rfl, onesR rfl⟩ ?_ | refine And.intro ⟨rfl, leR rfl⟩ ?_ | refine draw_rule2 hfol (fun KK hKK => ?_) | refine hKK _ _ _ (by kernel_rfl) ?_ | refine region_rule (fun KK hKK => ?_) | refine hKK _ _ ?_ | refine And.intro (Eq.refl true) ?_ | refine Exists.intro _ (And.intro (wI (by omega)) ?_) | refine Exists.intro _ (And.intro (wU (by omega)) ?_) | refine Exists.intro _ (And.intro ⟨rfl, by omega⟩ ?_) | refine Exists.intro _ (And.intro rfl ?_) | refine And.intro rfl ?_ | refine And.intro ⟨rfl, rfl⟩ ?_ | ((refine And.intro (fun _ => ?_) (fun _ => ?_)) <;> try (exfalso; omega))))
  exact Exists.intro [] (And.intro (rfl) (And.intro trivial rfl))
end Go.Proofs.Ytgpgcdofhkpeaaa.VE
