/- Contracts of functions of the given program, for all arguments that the contract names; see each theorem. -/
import Derived.Test.YtcibbadioijmcaaG6
import Derived.Test.YtcibbadioijmcaaU15a
set_option linter.all false
namespace Go.Proofs.Ytcibbadioijmcaa.VE
open Go
set_option maxHeartbeats 1600000
set_option maxRecDepth 100000

/-! traces -/
theorem clO_le {n : Nat} {m : List Nat} : ∀ d i s c, clO n m d i s c ≤ c + d
  | 0, _, _, c => Nat.le_refl c
  | d + 1, i, s, c => by
    unfold clO; split
    · have := clO_le (n := n) (m := m) d (i + 1) s c; omega
    · have := clO_le (n := n) (m := m) d (i + 1) (clI n m 17 i s) (c + 1); omega
theorem clN_le {n : Nat} {m : List Nat} : clN n m ≤ 2 * n := by have := clO_le (n := n) (m := m) (2 * n) 0 (List.replicate 16 false) 0; unfold clN; omega
theorem s_spow (C P k : Nat) (hp : 2 ≤ P) (hp97 : P ≤ 97) (ha : C ≤ 97) (hk : k ≤ 1000) : Spec Try.prog n_s_l02Power [vi P, vi C, vi k] [] (vi (pwN C P k : Nat)) [] := by
  have hne : (P : Int) ≠ 0 := by omega
  have e0 : Int.tmod 1 (P : Int) = ((pwN C P 0 : Nat) : Int) := by
    rw [show (1 : Int) = ((1 : Nat) : Int) from rfl, tmodC, Nat.mod_eq_of_lt (by omega)]; rfl
  refine SpecW.of_EV hf_s_l02Power hc_s_l02Power rfl rfl rfl fun w0 B ρ0 _ => ?_
  (repeat' (first | refine And.intro hne ?_ | refine Exists.intro _ (And.intro e0 ?_) | refine And.intro (neI rfl) ?_ | refine And.intro ⟨rfl, leR rfl, onesR rfl⟩ ?_ | refine And.intro ⟨rfl, leR rfl⟩ ?_ | refine draw_rule2 hfol (fun KK hKK => ?_) | refine hKK _ _ _ (by kernel_rfl) ?_ | refine region_rule (fun KK hKK => ?_) | refine hKK _ _ ?_ | refine And.intro (Eq.refl true) ?_ | refine Exists.intro _ (And.intro (wI (by omega)) ?_) | refine Exists.intro _ (And.intro (wU (by omega)) ?_) | refine Exists.intro _ (And.intro ⟨rfl, by omega⟩ ?_) | refine Exists.intro _ (And.intro rfl ?_) | refine And.intro rfl ?_ | refine And.intro ⟨rfl, rfl⟩ ?_ | ((refine And.intro (fun _ => ?_) (fun _ => ?_)) <;> try (exfalso; omega))))
  refine loop_rule (α := Nat) (fun j => j ≤ k) (fun j => [(0, vi P), (1, vi C), (2, vi (k - j : Nat)), (7, vi (pwN C P j : Nat))]) (fun _ => []) (fun j => k - j) 0 []
    (by omega) ⟨⟨rfl, rfl, rfl, rfl, trivial⟩, trivial, rfl⟩ ?_
  rintro j g hj
  by_cases h9 : j = k
  · subst h9
    have : ¬ ((j - j : Nat) : Int) > 0 := by omega
    (repeat' (first | refine And.intro (neI rfl) ?_ | refine And.intro ⟨rfl, leR rfl, onesR rfl⟩ ?_ | refine And.intro ⟨rfl, leR rfl⟩ ?_ | refine draw_rule2 hfol (fun KK hKK => ?_) | refine hKK _ _ _ (by kernel_rfl) ?_ | refine region_rule (fun KK hKK => ?_) | refine hKK _ _ ?_ | refine And.intro (Eq.refl true) ?_ | refine Exists.intro _ (And.intro (wI (by omega)) ?_) | refine Exists.intro _ (And.intro (wU (by omega)) ?_) | refine Exists.intro _ (And.intro ⟨rfl, by omega⟩ ?_) | refine Exists.intro _ (And.intro rfl ?_) | refine And.intro rfl ?_ | refine And.intro ⟨rfl, rfl⟩ ?_ | ((refine And.intro (fun _ => ?_) (fun _ => ?_)) <;> try (exfalso; omega))))
    exact Exists.intro [] (And.intro (rfl) (And.intro trivial rfl))
  have hl := pwN_lt (a := C) hp j
  have hb : pwN C P j * C ≤ 97 * 97 := Nat.mul_le_mul (by omega) (by omega)
  have e1 : IntKind.i64.wrap (((pwN C P j : Nat) : Int) * (C : Int)) = ((pwN C P j * C : Nat) : Int) := wC (by rw [Int.natCast_mul]) (by omega)
  have e2 : Int.tmod ((pwN C P j * C : Nat) : Int) (P : Int) = ((pwN C P (j + 1) : Nat) : Int) := tmodC _ _
  have e3 : IntKind.i64.wrap (((k - j : Nat) : Int) - 1) = ((k - (j + 1) : Nat) : Int) := wC (by omega) (by omega)
  (repeat' (first | refine And.intro hne ?_ | refine Exists.intro _ (And.intro e1 ?_) | refine Exists.intro _ (And.intro e2 ?_) | refine Exists.intro _ (And.intro e3 ?_) | refine And.intro (neI rfl) ?_ | refine And.intro ⟨rfl, leR rfl, onesR rfl⟩ ?_ | refine And.intro ⟨rfl, leR rfl⟩ ?_ | refine draw_rule2 hfol (fun KK hKK => ?_) | refine hKK _ _ _ (by kernel_rfl) ?_ | refine region_rule (fun KK hKK => ?_) | refine hKK _ _ ?_ | refine And.intro (Eq.refl true) ?_ | refine Exists.intro _ (And.intro (wI (by omega)) ?_) | refine Exists.intro _ (And.intro (wU (by omega)) ?_) | refine Exists.intro _ (And.intro ⟨rfl, by omega⟩ ?_) | refine Exists.intro _ (And.intro rfl ?_) | refine And.intro rfl ?_ | refine And.intro ⟨rfl, rfl⟩ ?_ | ((refine And.intro (fun _ => ?_) (fun _ => ?_)) <;> try (exfalso; omega))))
  refine Exists.intro (j + 1) (Exists.intro [] (And.intro ⟨by omega, (by show k - (j + 1) < k - j; omega)⟩ ⟨⟨rfl, rfl, rfl, rfl, trivial⟩, trivial, rfl⟩))
/-- What the first k terms give. -/
def trS (n C P : Nat) (t : Nat → Tm) : Nat → Nat
  | 0 => 0
  | k + 1 => trS n C P t k + (t k).2.2.toNat * pwN C P (clN n (t k).2.1)
def trV (p c n : Int) (t : Nat → Tm) (N : Nat) : Int × Int := if isE p c n t N then (((trS n.toNat c.toNat p.toNat t N % p.toNat : Nat) : Int), 0) else (0, 1)
theorem isE_elim {p c n : Int} {t : Nat → Tm} {N : Nat} (hs : okTs t N) (h : isE p c n t N = true) :
    ∃ P C M : Nat, p = P ∧ c = C ∧ n = M ∧ 2 ≤ P ∧ P ≤ 97 ∧ C < P ∧ 1 ≤ M ∧ M ≤ 8 ∧ N ≤ 140 ∧ ∀ k, k < N → (t k).1 = M ∧ IsD M (t k).2.1 ∧ ∃ F : Nat, (t k).2.2 = F ∧ 1 ≤ F ∧ F < P := by
  unfold isE preE at h
  simp only [Bool.and_eq_true, decide_eq_true_eq] at h
  obtain ⟨⟨⟨hp, hc⟩, hn, hN⟩, hall⟩ := h
  obtain ⟨P, rfl, hP2, hP97, _⟩ := prI_elim hp
  refine ⟨P, c.toNat, n.toNat, rfl, by omega, by omega, hP2, hP97, by omega, by omega, by omega, hN, fun k hk => ?_⟩
  have := List.all_eq_true.1 hall k (List.mem_range.2 hk)
  unfold okE at this
  simp only [Bool.and_eq_true, decide_eq_true_eq] at this
  obtain ⟨⟨h1, h2⟩, h3, _⟩ := this
  obtain ⟨M, hM, hD⟩ := isDi_elim (hs k hk) h2
  obtain rfl : M = n.toNat := by omega
  exact ⟨hM, hD, (t k).2.2.toNat, by omega, by omega, by omega⟩
theorem trS_bd {n C P : Nat} {t : Nat → Tm} (hP : 2 ≤ P) (h97 : P ≤ 97) : ∀ {k : Nat}, (∀ j, j < k → (t j).2.2 < P) → trS n C P t k ≤ k * 9409
  | 0, _ => by simp [trS]
  | k + 1, h => by
    have h1 := trS_bd (n := n) (C := C) (t := t) (k := k) hP h97 fun j hj => h j (Nat.lt_succ_of_lt hj)
    have h2 := h k (by omega)
    have h3 := pwN_lt (a := C) hP (clN n (t k).2.1)
    have h4 : (t k).2.2.toNat * pwN C P (clN n (t k).2.1) ≤ 97 * 97 := Nat.mul_le_mul (by omega) (by omega)
    rw [trS]; omega
theorem s_strace (p c n : Int) (t : Nat → Tm) (N : Nat) (hs : okTs t N) (hE : isE p c n t N = true) : Spec Try.prog n_s_l02Trace [elV p c n 0] [.pr T_i_Term 18 N (rowT t N)] (vi (trS n.toNat c.toNat p.toNat t N % p.toNat : Nat)) [.pr T_i_Term 18 N (rowT t N)] := by
  have hfol := hfolW
  obtain ⟨P, C, M, rfl, rfl, rfl, hP2, hP97, hC, hM1, hM8, hN, hk⟩ := isE_elim hs hE
  simp only [Int.toNat_natCast]
  have hne : (P : Int) ≠ 0 := by omega
  refine SpecW.of_EV hf_s_l02Trace hc_s_l02Trace rfl rfl rfl fun w0 B ρ0 _ => ?_
  (repeat' (first | refine And.intro (neI rfl) ?_ | refine And.intro ⟨rfl, leR rfl, onesR rfl⟩ ?_ | refine And.intro ⟨rfl, leR rfl⟩ ?_ | refine draw_rule2 hfol (fun KK hKK => ?_) | refine hKK _ _ _ (by kernel_rfl) ?_ | refine region_rule (fun KK hKK => ?_) | refine hKK _ _ ?_ | refine And.intro (Eq.refl true) ?_ | refine Exists.intro _ (And.intro (wI (by omega)) ?_) | refine Exists.intro _ (And.intro (wU (by omega)) ?_) | refine Exists.intro _ (And.intro ⟨rfl, by omega⟩ ?_) | refine Exists.intro _ (And.intro rfl ?_) | refine And.intro rfl ?_ | refine And.intro ⟨rfl, rfl⟩ ?_ | ((refine And.intro (fun _ => ?_) (fun _ => ?_)) <;> try (exfalso; omega))))
  refine loop_rule (α := Nat) (fun k => k ≤ N) (fun k => [(1, .ptr 1 0), (3, vi (trS M C P t k % P : Nat)), (4, vi k)])
    (fun k => [.pr T_i_Term 18 N (rowT t N), .cc [vi P, vi C, vi M, .sl 0] T_i_Element]) (fun k => N - k) 0 [0, 1]
    (by omega) ⟨⟨rfl, congrArg vi (by simp [trS]), rfl, trivial⟩, ⟨rfl, rfl, trivial⟩, rfl⟩ ?_
  rintro k g hkN
  by_cases h9 : k = N
  · subst h9
    (repeat' (first | refine And.intro (neI rfl) ?_ | refine And.intro ⟨rfl, leR rfl, onesR rfl⟩ ?_ | refine And.intro ⟨rfl, leR rfl⟩ ?_ | refine draw_rule2 hfol (fun KK hKK => ?_) | refine hKK _ _ _ (by kernel_rfl) ?_ | refine region_rule (fun KK hKK => ?_) | refine hKK _ _ ?_ | refine And.intro (Eq.refl true) ?_ | refine Exists.intro _ (And.intro (wI (by omega)) ?_) | refine Exists.intro _ (And.intro (wU (by omega)) ?_) | refine Exists.intro _ (And.intro ⟨rfl, by omega⟩ ?_) | refine Exists.intro _ (And.intro rfl ?_) | refine And.intro rfl ?_ | refine And.intro ⟨rfl, rfl⟩ ?_ | ((refine And.intro (fun _ => ?_) (fun _ => ?_)) <;> try (exfalso; omega))))
    exact Exists.intro [0] (And.intro (rfl) (And.intro ⟨rfl, trivial⟩ rfl))
  have hkl : k < N := by omega
  obtain ⟨h1, hD, F, hF, hF1, hFP⟩ := hk k hkl
  have hdia := rowT_dia hs hkl
  have hfac := rowT_fac hs hkl
  rw [h1] at hdia
  rw [hF] at hfac
  have hcl := s_sClosure M (t k).2.1 hD
  have hle := clN_le (n := M) (m := (t k).2.1)
  have hpw := s_spow C P (clN M (t k).2.1) hP2 hP97 (by omega) (by omega)
  have hl := pwN_lt (a := C) hP2 (clN M (t k).2.1)
  have hmul : F * pwN C P (clN M (t k).2.1) ≤ 97 * 97 := Nat.mul_le_mul (by omega) (by omega)
  have hmod : trS M C P t k % P < P := Nat.mod_lt _ (by omega)
  have e1 : IntKind.i64.wrap ((F : Int) * ((pwN C P (clN M (t k).2.1) : Nat) : Int)) = ((F * pwN C P (clN M (t k).2.1) : Nat) : Int) := wC (by rw [Int.natCast_mul]) (by omega)
  have e2 : IntKind.i64.wrap (((trS M C P t k % P : Nat) : Int) + ((F * pwN C P (clN M (t k).2.1) : Nat) : Int)) = ((trS M C P t k % P + F * pwN C P (clN M (t k).2.1) : Nat) : Int) := wC (by omega) (by omega)
  have e3 : Int.tmod ((trS M C P t k % P + F * pwN C P (clN M (t k).2.1) : Nat) : Int) (P : Int) = ((trS M C P t (k + 1) % P : Nat) : Int) := by
    rw [tmodC, Nat.mod_add_mod, trS, hF, Int.toNat_natCast]
  (repeat' (first | refine And.intro hne ?_ | refine Exists.intro _ (And.intro e1 ?_) | refine Exists.intro _ (And.intro e2 ?_) | refine Exists.intro _ (And.intro e3 ?_) | refine Exists.intro (pcl M (t k).2.1) (And.intro ⟨pcl_len hD.len, hdia⟩ ?_) | refine Exists.intro _ (And.intro hfac ?_) | refine (hcl).pure rfl ?_ | refine (hpw).pure rfl ?_ | refine And.intro (neI rfl) ?_ | refine And.intro ⟨rfl, leR rfl, onesR rfl⟩ ?_ | refine And.intro ⟨rfl, leR rfl⟩ ?_ | refine draw_rule2 hfol (fun KK hKK => ?_) | refine hKK _ _ _ (by kernel_rfl) ?_ | refine region_rule (fun KK hKK => ?_) | refine hKK _ _ ?_ | refine And.intro (Eq.refl true) ?_ | refine Exists.intro _ (And.intro (wI (by omega)) ?_) | refine Exists.intro _ (And.intro (wU (by omega)) ?_) | refine Exists.intro _ (And.intro ⟨rfl, by omega⟩ ?_) | refine Exists.intro _ (And.intro rfl ?_) | refine And.intro rfl ?_ | refine And.intro ⟨rfl, rfl⟩ ?_ | ((refine And.intro (fun _ => ?_) (fun _ => ?_)) <;> try (exfalso; omega))))
  refine Exists.intro (k + 1) (Exists.intro [0, 1] (And.intro ⟨by omega, (by show N - (k + 1) < N - k; omega)⟩ ⟨⟨rfl, rfl, rfl, trivial⟩, ⟨rfl, rfl, trivial⟩, rfl⟩))
theorem s_itrace (P C M : Nat) (t : Nat → Tm) (N : Nat) (hs : okTs t N) (hE : isE P C M t N = true) : Spec Try.prog n_i_Element_trace [.ptr 1 0, vi 0] [.pr T_i_Term 18 N (rowT t N), .cc [vi P, vi C, vi M, .sl 0] T_i_Element] (vi (trS M C P t N % P : Nat)) [.pr T_i_Term 18 N (rowT t N), .cc [vi P, vi C, vi M, .sl 0] T_i_Element] := by
  have hfol := hfolW
  obtain ⟨P', C', M', hP', hC', hM', hP2, hP97, hC, hM1, hM8, hN, hk⟩ := isE_elim hs hE
  obtain rfl : P' = P := by omega
  obtain rfl : C' = C := by omega
  obtain rfl : M' = M := by omega
  have hne : (P' : Int) ≠ 0 := by omega
  refine SpecW.of_EV hf_i_Element_trace hc_i_Element_trace rfl rfl rfl fun w0 B ρ0 _ => ?_
  (repeat' (first | refine And.intro (neI rfl) ?_ | refine And.intro ⟨rfl, leR rfl, onesR rfl⟩ ?_ | refine And.intro ⟨rfl, leR rfl⟩ ?_ | refine draw_rule2 hfol (fun KK hKK => ?_) | refine hKK _ _ _ (by kernel_rfl) ?_ | refine region_rule (fun KK hKK => ?_) | refine hKK _ _ ?_ | refine And.intro (Eq.refl true) ?_ | refine Exists.intro _ (And.intro (wI (by omega)) ?_) | refine Exists.intro _ (And.intro (wU (by omega)) ?_) | refine Exists.intro _ (And.intro ⟨rfl, by omega⟩ ?_) | refine Exists.intro _ (And.intro rfl ?_) | refine And.intro rfl ?_ | refine And.intro ⟨rfl, rfl⟩ ?_ | ((refine And.intro (fun _ => ?_) (fun _ => ?_)) <;> try (exfalso; omega))))
  refine loop_rule (α := Nat) (fun k => k ≤ N) (fun k => [(0, .ptr 1 0), (1, vi 0), (5, vi (trS M' C' P' t k : Nat)), (11, .sl 0), (12, vi N), (13, vi k)])
    (fun k => [.pr T_i_Term 18 N (rowT t N), .cc [vi P', vi C', vi M', .sl 0] T_i_Element]) (fun k => N - k) 0 [0, 1]
    (by omega) ⟨⟨rfl, rfl, rfl, rfl, rfl, rfl, trivial⟩, ⟨rfl, rfl, trivial⟩, rfl⟩ ?_
  rintro k g hkN
  have hbd := trS_bd (n := M') (C := C') (t := t) (k := k) hP2 hP97 fun j hj => by obtain ⟨_, _, F, hF, _, hF2⟩ := hk j (by omega); omega
  by_cases h9 : k = N
  · subst h9
    have e3 : Int.tmod ((trS M' C' P' t k : Nat) : Int) (P' : Int) = ((trS M' C' P' t k % P' : Nat) : Int) := tmodC _ _
    (repeat' (first | refine And.intro hne ?_ | refine Exists.intro _ (And.intro e3 ?_) | refine And.intro (neI rfl) ?_ | refine And.intro ⟨rfl, leR rfl, onesR rfl⟩ ?_ | refine And.intro ⟨rfl, leR rfl⟩ ?_ | refine draw_rule2 hfol (fun KK hKK => ?_) | refine hKK _ _ _ (by kernel_rfl) ?_ | refine region_rule (fun KK hKK => ?_) | refine hKK _ _ ?_ | refine And.intro (Eq.refl true) ?_ | refine Exists.intro _ (And.intro (wI (by omega)) ?_) | refine Exists.intro _ (And.intro (wU (by omega)) ?_) | refine Exists.intro _ (And.intro ⟨rfl, by omega⟩ ?_) | refine Exists.intro _ (And.intro rfl ?_) | refine And.intro rfl ?_ | refine And.intro ⟨rfl, rfl⟩ ?_ | ((refine And.intro (fun _ => ?_) (fun _ => ?_)) <;> try (exfalso; omega))))
    exact Exists.intro [0,1] (And.intro (rfl) (And.intro ⟨rfl, rfl, trivial⟩ rfl))
  have hkl : k < N := by omega
  obtain ⟨h1, hD, F, hF, hF1, hFP⟩ := hk k hkl
  have hall := rowT_at hs hkl
  have hm := hs k hkl
  have htl := tmC_len hm
  have hdia := tmC_dia hm
  have hfac := tmC_fac hm
  rw [h1] at hdia
  rw [hF] at hfac
  have hcl := s_loops M' (t k).2.1 hD
  have hle := clN_le (n := M') (m := (t k).2.1)
  have hpw := s_power C' P' (clN M' (t k).2.1) hP2 hP97 (by omega) (by omega)
  have hl := pwN_lt (a := C') hP2 (clN M' (t k).2.1)
  have hmul : F * pwN C' P' (clN M' (t k).2.1) ≤ 97 * 97 := Nat.mul_le_mul (by omega) (by omega)
  have e0 : IntKind.i64.wrap (((clN M' (t k).2.1 : Nat) : Int) - 0) = ((clN M' (t k).2.1 : Nat) : Int) := wC (by omega) (by omega)
  have e1 : IntKind.i64.wrap ((F : Int) * ((pwN C' P' (clN M' (t k).2.1) : Nat) : Int)) = ((F * pwN C' P' (clN M' (t k).2.1) : Nat) : Int) := wC (by rw [Int.natCast_mul]) (by omega)
  have e2 : IntKind.i64.wrap (((trS M' C' P' t k : Nat) : Int) + ((F * pwN C' P' (clN M' (t k).2.1) : Nat) : Int)) = ((trS M' C' P' t (k + 1) : Nat) : Int) := wC (by rw [trS, hF, Int.toNat_natCast, Int.natCast_add]) (by rw [trS, hF, Int.toNat_natCast]; omega)
  (repeat' (first | refine Exists.intro _ (And.intro e0 ?_) | refine Exists.intro _ (And.intro e1 ?_) | refine Exists.intro _ (And.intro e2 ?_) | refine Exists.intro (tmC (t k)) (And.intro ⟨htl, hall⟩ ?_) | refine Exists.intro (tmC (t k)) (And.intro ⟨leR rfl, spl0 (leR rfl)⟩ ?_) | refine And.intro ⟨htl, leR rfl, tmC_ones⟩ ?_ | refine Exists.intro (pcl M' (t k).2.1) (And.intro ⟨pcl_len hD.len, hdia⟩ ?_) | refine Exists.intro _ (And.intro hfac ?_) | refine (hcl).pure rfl ?_ | refine (hpw).pure rfl ?_ | refine And.intro (neI rfl) ?_ | refine And.intro ⟨rfl, leR rfl, onesR rfl⟩ ?_ | refine And.intro ⟨rfl, leR rfl⟩ ?_ | refine draw_rule2 hfol (fun KK hKK => ?_) | refine hKK _ _ _ (by kernel_rfl) ?_ | refine region_rule (fun KK hKK => ?_) | refine hKK _ _ ?_ | refine And.intro (Eq.refl true) ?_ | refine Exists.intro _ (And.intro (wI (by omega)) ?_) | refine Exists.intro _ (And.intro (wU (by omega)) ?_) | refine Exists.intro _ (And.intro ⟨rfl, by omega⟩ ?_) | refine Exists.intro _ (And.intro rfl ?_) | refine And.intro rfl ?_ | refine And.intro ⟨rfl, rfl⟩ ?_ | ((refine And.intro (fun _ => ?_) (fun _ => ?_)) <;> try (exfalso; omega))))
  refine Exists.intro (k + 1) (Exists.intro [0, 1] (And.intro ⟨by omega, (by show N - (k + 1) < N - k; omega)⟩ ⟨⟨rfl, rfl, rfl, rfl, rfl, rfl, trivial⟩, ⟨rfl, rfl, trivial⟩, rfl⟩))
abbrev iiW (p : Int × Int) : V := .tup [vi p.1, vi p.2]
theorem s_sTraceOf (p c n : Int) (t : Nat → Tm) (N : Nat) (hs : okTs t N) (hb : okTb t N) : Spec Try.prog n_s_TraceOf [elV p c n 0] [.pr T_i_Term 18 N (rowT t N)] (iiW (trV p c n t N)) [.pr T_i_Term 18 N (rowT t N)] := by
  have h1 := s_sIsE0 p c n t N hs hb
  refine SpecW.of_EV hf_s_TraceOf hc_s_TraceOf rfl rfl rfl fun w0 B ρ0 _ => ?_
  unfold trV
  cases hE : isE p c n t N with
  | false =>
    rw [hE] at h1
    (repeat' (first | refine (h1).read [0] rfl ⟨rfl, trivial⟩ ?_ | refine Exists.intro [vi p, vi c, vi n, .sl 0] (And.intro ⟨rfl, rfl⟩ ?_) | refine And.intro ⟨rfl, leR rfl, rfl⟩ ?_ | refine Exists.intro [vi p, vi c, vi n, .sl 0] (And.intro ⟨leR rfl, rfl⟩ ?_) | refine And.intro (neI rfl) ?_ | refine And.intro ⟨rfl, leR rfl, onesR rfl⟩ ?_ | refine And.intro ⟨rfl, leR rfl⟩ ?_ | refine draw_rule2 hfol (fun KK hKK => ?_) | refine hKK _ _ _ (by kernel_rfl) ?_ | refine region_rule (fun KK hKK => ?_) | refine hKK _ _ ?_ | refine And.intro (Eq.refl true) ?_ | refine Exists.intro _ (And.intro (wI (by omega)) ?_) | refine Exists.intro _ (And.intro (wU (by omega)) ?_) | refine Exists.intro _ (And.intro ⟨rfl, by omega⟩ ?_) | refine Exists.intro _ (And.intro rfl ?_) | refine And.intro rfl ?_ | refine And.intro ⟨rfl, rfl⟩ ?_ | ((refine And.intro (fun _ => ?_) (fun _ => ?_)) <;> try (exfalso; omega))))
    exact Exists.intro [0] (And.intro (rfl) (And.intro ⟨rfl, trivial⟩ rfl))
  | true =>
    rw [hE] at h1
    have h2 := s_strace p c n t N hs hE
    (repeat' (first | refine (h1).read [0] rfl ⟨rfl, trivial⟩ ?_ | refine (h2).read [0] rfl ⟨rfl, trivial⟩ ?_ | refine Exists.intro [vi p, vi c, vi n, .sl 0] (And.intro ⟨rfl, rfl⟩ ?_) | refine And.intro ⟨rfl, leR rfl, rfl⟩ ?_ | refine Exists.intro [vi p, vi c, vi n, .sl 0] (And.intro ⟨leR rfl, rfl⟩ ?_) | refine And.intro (neI rfl) ?_ | refine And.intro ⟨rfl, leR rfl, onesR rfl⟩ ?_ | refine And.intro ⟨rfl, leR rfl⟩ ?_ | refine draw_rule2 hfol (fun KK hKK => ?_) | refine hKK _ _ _ (by kernel_rfl) ?_ | refine region_rule (fun KK hKK => ?_) | refine hKK _ _ ?_ | refine And.intro (Eq.refl true) ?_ | refine Exists.intro _ (And.intro (wI (by omega)) ?_) | refine Exists.intro _ (And.intro (wU (by omega)) ?_) | refine Exists.intro _ (And.intro ⟨rfl, by omega⟩ ?_) | refine Exists.intro _ (And.intro rfl ?_) | refine And.intro rfl ?_ | refine And.intro ⟨rfl, rfl⟩ ?_ | ((refine And.intro (fun _ => ?_) (fun _ => ?_)) <;> try (exfalso; omega))))
    exact Exists.intro [0] (And.intro (rfl) (And.intro ⟨rfl, trivial⟩ rfl))
theorem s_iTraceOf (p c n : Int) (t : Nat → Tm) (N : Nat) (hs : okTs t N) (hb : okTb t N) : Spec Try.prog n_i_TraceOf [elV p c n 0] [.pr T_i_Term 18 N (rowT t N)] (iiW (trV p c n t N)) [.pr T_i_Term 18 N (rowT t N)] := by
  have h1 := s_iIsE p c n t N hs hb
  refine SpecW.of_EV hf_i_TraceOf hc_i_TraceOf rfl rfl rfl fun w0 B ρ0 _ => ?_
  unfold trV
  cases hE : isE p c n t N with
  | false =>
    rw [hE] at h1
    (repeat' (first | refine (h1).read [0] rfl ⟨rfl, trivial⟩ ?_ | refine Exists.intro [vi p, vi c, vi n, .sl 0] (And.intro ⟨rfl, rfl⟩ ?_) | refine And.intro ⟨rfl, leR rfl, rfl⟩ ?_ | refine Exists.intro [vi p, vi c, vi n, .sl 0] (And.intro ⟨leR rfl, rfl⟩ ?_) | refine And.intro (neI rfl) ?_ | refine And.intro ⟨rfl, leR rfl, onesR rfl⟩ ?_ | refine And.intro ⟨rfl, leR rfl⟩ ?_ | refine draw_rule2 hfol (fun KK hKK => ?_) | refine hKK _ _ _ (by kernel_rfl) ?_ | refine region_rule (fun KK hKK => ?_) | refine hKK _ _ ?_ | refine And.intro (Eq.refl true) ?_ | refine Exists.intro _ (And.intro (wI (by omega)) ?_) | refine Exists.intro _ (And.intro (wU (by omega)) ?_) | refine Exists.intro _ (And.intro ⟨rfl, by omega⟩ ?_) | refine Exists.intro _ (And.intro rfl ?_) | refine And.intro rfl ?_ | refine And.intro ⟨rfl, rfl⟩ ?_ | ((refine And.intro (fun _ => ?_) (fun _ => ?_)) <;> try (exfalso; omega))))
    exact Exists.intro [0] (And.intro (rfl) (And.intro ⟨rfl, trivial⟩ rfl))
  | true =>
    rw [hE] at h1
    obtain ⟨P, C, M, rfl, rfl, rfl, _⟩ := isE_elim hs hE
    have h2 := s_itrace P C M t N hs hE
    simp only [Int.toNat_natCast]
    (repeat' (first | refine (h1).read [0] rfl ⟨rfl, trivial⟩ ?_ | refine (h2).read [0,1] rfl ⟨rfl, rfl, trivial⟩ ?_ | refine Exists.intro [vi P, vi C, vi M, .sl 0] (And.intro ⟨rfl, rfl⟩ ?_) | refine And.intro ⟨rfl, leR rfl, rfl⟩ ?_ | refine Exists.intro [vi P, vi C, vi M, .sl 0] (And.intro ⟨leR rfl, rfl⟩ ?_) | refine And.intro (neI rfl) ?_ | refine And.intro ⟨rfl, leR rfl, onesR rfl⟩ ?_ | refine And.intro ⟨rfl, leR rfl⟩ ?_ | refine draw_rule2 hfol (fun KK hKK => ?_) | refine hKK _ _ _ (by kernel_rfl) ?_ | refine region_rule (fun KK hKK => ?_) | refine hKK _ _ ?_ | refine And.intro (Eq.refl true) ?_ | refine Exists.intro _ (And.intro (wI (by omega)) ?_) | refine Exists.intro _ (And.intro (wU (by omega)) ?_) | refine Exists.intro _ (And.intro ⟨rfl, by omega⟩ ?_) | refine Exists.intro _ (And.intro rfl ?_) | refine And.intro rfl ?_ | refine And.intro ⟨rfl, rfl⟩ ?_ | ((refine And.intro (fun _ => ?_) (fun _ => ?_)) <;> try (exfalso; omega))))
    exact Exists.intro [0] (And.intro (rfl) (And.intro ⟨rfl, trivial⟩ rfl))
theorem s_lawTrace {W : World → (Nat → Prop) → Prop} {v : Value} {t : Nat → Tm} {N : Nat} (p c n : Int) (h : ArgT W v t N) (hs : okTs t N) (hb : okTb t N) (hN0 : N ≤ 9223372036854775807) : SpecW Try.prog W n_l_FnExactTraceOf [elR p c n v] [] (vb true) [] := by
  have hfol := hfolW
  obtain ⟨a, cap, hform⟩ := h.form
  have hsz := s_szE p c n a N cap 1048576 hN0 (by omega)
  rw [← hform] at hsz
  refine SpecW.of_EV hf_l_FnExactTraceOf hc_l_FnExactTraceOf rfl rfl rfl fun w0 B ρ0 hW => ?_
  have hp := h.pass (Γ := ⟨w0, B, 0, ρ0⟩) hW
  by_cases hN : N ≤ 1048576
  rotate_left
  · rw [if_pos (by omega)] at hsz
    (repeat' (first | refine (hsz).pure rfl ?_ | refine Exists.intro [Value.int .i64 p, .int .i64 c, .int .i64 n, v] (And.intro ⟨rfl, rfl⟩ ?_) | refine And.intro (neI rfl) ?_ | refine And.intro ⟨rfl, leR rfl, onesR rfl⟩ ?_ | refine And.intro ⟨rfl, leR rfl⟩ ?_ | refine draw_rule2 hfol (fun KK hKK => ?_) | refine hKK _ _ _ (by kernel_rfl) ?_ | refine region_rule (fun KK hKK => ?_) | refine hKK _ _ ?_ | refine And.intro (Eq.refl true) ?_ | refine Exists.intro _ (And.intro (wI (by omega)) ?_) | refine Exists.intro _ (And.intro (wU (by omega)) ?_) | refine Exists.intro _ (And.intro ⟨rfl, by omega⟩ ?_) | refine Exists.intro _ (And.intro rfl ?_) | refine And.intro rfl ?_ | refine And.intro ⟨rfl, rfl⟩ ?_ | ((refine And.intro (fun _ => ?_) (fun _ => ?_)) <;> try (exfalso; omega))))
    exact Exists.intro [] (And.intro (rfl) (And.intro trivial rfl))
  rw [if_neg (by omega)] at hsz
  have ht := s_toE p c n h hs hN
  have h1 := s_sTraceOf p c n t N hs hb
  have h2 := s_iTraceOf p c n t N hs hb
  have he := s_eqE p c n t N hs (by omega)
  generalize trV p c n t N = b at h1 h2
  obtain ⟨b1, b2⟩ := b
  (repeat' (first | refine (hsz).pure rfl ?_ | refine Exists.intro [Value.int .i64 p, .int .i64 c, .int .i64 n, v] (And.intro ⟨rfl, rfl⟩ ?_) | refine ht.makeW hp [] rfl trivial ?_ | refine (h1).read [1] rfl ⟨rfl, trivial⟩ ?_ | refine (h2).read [2] rfl ⟨rfl, trivial⟩ ?_ | refine (he).read [2,4] rfl ⟨rfl, rfl, trivial⟩ ?_ | refine Exists.intro [vi p, vi c, vi n, .sl 2] (And.intro ⟨rfl, rfl⟩ ?_) | refine And.intro ⟨rfl, leR rfl, rfl⟩ ?_ | refine Exists.intro [vi p, vi c, vi n, .sl 2] (And.intro ⟨leR rfl, rfl⟩ ?_) | refine And.intro (fun h => absurd rfl h) (fun _ => ?_) | refine And.intro (neI rfl) ?_ | refine And.intro ⟨rfl, leR rfl, onesR rfl⟩ ?_ | refine And.intro ⟨rfl, leR rfl⟩ ?_ | refine draw_rule2 hfol (fun KK hKK => ?_) | refine hKK _ _ _ (by kernel_rfl) ?_ | refine region_rule (fun KK hKK => ?_) | refine hKK _ _ ?_ | refine And.intro (Eq.refl true) ?_ | refine Exists.intro _ (And.intro (wI (by omega)) ?_) | refine Exists.intro _ (And.intro (wU (by omega)) ?_) | refine Exists.intro _ (And.intro ⟨rfl, by omega⟩ ?_) | refine Exists.intro _ (And.intro rfl ?_) | refine And.intro rfl ?_ | refine And.intro ⟨rfl, rfl⟩ ?_ | ((refine And.intro (fun _ => ?_) (fun _ => ?_)) <;> try (exfalso; omega))))
  exact finP rfl
end Go.Proofs.Ytcibbadioijmcaa.VE
