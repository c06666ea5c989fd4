/- Contracts of functions of the given program, for all arguments that the contract names; see each theorem. -/
import Derived.Test.YtpangmameocfmaaT21
set_option linter.all false
namespace Go.Proofs.Ytpangmameocfmaa.VE.P
open Go
set_option maxHeartbeats 800000
set_option maxRecDepth 100000

theorem isPL_valid {s : Nat} {m : List Nat} : ∀ (d i nx : Nat), isPL s m d i nx = true → nx = mx m i → ∀ j, i ≤ j → j < i + d → j < 2 * s → m.getD j 0 ≤ mx m j
  | 0, i, nx, _, _, j, h1, h2, _ => by omega
  | d + 1, i, nx, h, hnx, j, h1, h2, h3 => by
    unfold isPL at h
    split at h
    · cases h
    · split at h
      · cases h
      · rename_i h4
        have h5 : m.getD i 0 ≤ nx := by
          by_cases hi : (i : Int) < 2 * (s : Int)
          · exact Nat.le_of_not_lt fun hh => h4 ⟨hi, hh⟩
          · omega
        by_cases hij : j = i
        · subst hij; omega
        · split at h
          · rename_i h6
            exact isPL_valid d (i + 1) (nx + 1) h (by simp only [mx]; omega) j (by omega) (by omega) h3
          · rename_i h6
            have h7 : m.getD i 0 ≠ nx := fun hh => h6 ⟨by omega, hh⟩
            exact isPL_valid d (i + 1) nx h (by simp only [mx]; omega) j (by omega) (by omega) h3
theorem isPi_valid {n : Nat} {m : List Nat} (hm : m.length = 8) (h : isPi n m = true) (hn : n ≤ 4) (i : Nat) (hi : i < 2 * n) : m.getD i 0 ≤ mx m i := by
  rw [← isP_eq _ _ hm] at h
  unfold isP at h
  simp only [Bool.and_eq_true] at h
  exact isPL_valid 8 0 0 h.2 rfl i (by omega) (by omega) hi
theorem mx_gt {m : List Nat} : ∀ {i t : Nat}, t < i → m.getD t 0 < mx m i
  | i + 1, t, h => by
    simp only [mx]
    by_cases ht : t = i
    · subst ht; omega
    · have := mx_gt (m := m) (show t < i by omega); omega
theorem kC_zero {key : Nat → Nat} {j : Nat} : ∀ {i : Nat}, (∀ t, t < i → key t ≠ j) → kC key i j = 0
  | 0, _ => rfl
  | i + 1, h => by rw [kC, kC_zero fun t ht => h t (by omega), if_neg (h i (by omega))]

def cF (n : Nat) (m : List Nat) (i : Nat) (j : Nat) : Int := ((kC (key n m) i j : Nat) : Int)
theorem il_pair {f : Nat → Int} {K k : Nat} (h : k < K) : ((il f (2 * K)).drop (k * 2)).take 2 = [.int .i64 (f (2 * k)), .int .i64 (f (2 * k + 1))] := by
  have l : (il f (2 * K)).length = 2 * K := il_len
  rw [List.drop_eq_getElem_cons (by omega), List.take_succ_cons, List.drop_eq_getElem_cons (by omega), List.take_succ_cons, List.take_zero]
  simp [il, Nat.mul_comm]
theorem addK_in {a b : Nat} {K : Nat → Prop} (h : K (a + b)) : addK a b K := by
  cases a with
  | zero => simpa [addK] using h
  | succ a => exact h
theorem fill0 {c A : List Value} {N : Nat} (h : c.length ≤ N) : c.take (0 * N) ++ A ++ c.drop (0 * N + N) = A := by
  simp [List.drop_of_length_le h]

theorem s_sides (n : Nat) (m : List Nat) (hm : m.length = 8) (hv : isPi n m = true) (hn1 : 1 ≤ n) (hn : n ≤ 4) : Spec Try.prog n_i_Partition_sides [.ptr 0 0] [.pc (pcl n m) T_i_Partition] (.sl 1) [.pc (pcl n m) T_i_Partition, .pr T_a2q_int 2 (mx m (2 * n)) (il (cF n m (2 * n)) (2 * mx m (2 * n)))] := by
  refine SpecW.of_EV hf_i_Partition_sides hc_i_Partition_sides rfl rfl rfl fun w0 B ρ0 _ => ?_
  (repeat' (first | refine (s_parts n m hn).read [0] rfl ⟨rfl, trivial⟩ ?_ | refine And.intro (neI rfl) ?_ | refine And.intro ⟨rfl, leR rfl, onesR rfl⟩ ?_ | refine And.intro ⟨rfl, leR rfl⟩ ?_ | refine draw_rule2 hfol (fun KK hKK => ?_) | refine hKK _ _ _ (by kernel_rfl) ?_ | refine region_rule (fun KK hKK => ?_) | refine hKK _ _ ?_ | refine And.intro (Eq.refl true) ?_ | refine Exists.intro _ (And.intro (wI (by omega)) ?_) | refine Exists.intro _ (And.intro (wU (by omega)) ?_) | refine Exists.intro _ (And.intro ⟨rfl, by omega⟩ ?_) | refine Exists.intro _ (And.intro rfl ?_) | refine And.intro rfl ?_ | refine And.intro ⟨rfl, rfl⟩ ?_ | ((refine And.intro (fun _ => ?_) (fun _ => ?_)) <;> try (exfalso; omega))))
  refine loop_rule (α := Nat) (fun i => i ≤ 2 * n)
    (fun i => [(0, .ptr 0 0), (3, .sl 1), (8, .asl 0 1 (2 * n) 8), (9, vi (2 * n : Nat)), (10, vi i)])
    (fun i => [.pc (pcl n m) T_i_Partition, .pr T_a2q_int 2 (mx m i) (il (cF n m i) (2 * mx m i))]) (fun i => 2 * n - i) 0 [0, 1]
    (by omega) ⟨⟨rfl, rfl, rfl, rfl, rfl, trivial⟩, ⟨rfl, rfl, trivial⟩, rfl⟩ ?_
  rintro i g hi
  by_cases h8 : i = 2 * n
  · subst h8
    (repeat' (first | refine And.intro (neI rfl) ?_ | refine And.intro ⟨rfl, leR rfl, onesR rfl⟩ ?_ | refine And.intro ⟨rfl, leR rfl⟩ ?_ | refine draw_rule2 hfol (fun KK hKK => ?_) | refine hKK _ _ _ (by kernel_rfl) ?_ | refine region_rule (fun KK hKK => ?_) | refine hKK _ _ ?_ | refine And.intro (Eq.refl true) ?_ | refine Exists.intro _ (And.intro (wI (by omega)) ?_) | refine Exists.intro _ (And.intro (wU (by omega)) ?_) | refine Exists.intro _ (And.intro ⟨rfl, by omega⟩ ?_) | refine Exists.intro _ (And.intro rfl ?_) | refine And.intro rfl ?_ | refine And.intro ⟨rfl, rfl⟩ ?_ | ((refine And.intro (fun _ => ?_) (fun _ => ?_)) <;> try (exfalso; omega))))
    exact Exists.intro [0, 1] (And.intro rfl (And.intro ⟨rfl, rfl, trivial⟩ rfl))
  have hil : i < 2 * n := by omega
  have hbi := isPi_lt hv i
  have hva := isPi_valid hm hv hn i hil
  have hmx := mx_le (isPi_lt hv) i
  have hd2 : i / n < 2 := by rw [Nat.div_lt_iff_lt_mul (by omega)]; omega
  have hd : IntKind.i64.wrap (Int.tdiv (i : Int) (n : Int)) = ((i / n : Nat) : Int) := by rw [tdN]; generalize i / n = x at hd2 ⊢; exact wI (by omega)
  have hne : (n : Int) ≠ 0 := by omega
  have hk1 : key n m i = m.getD i 0 * 2 + i / n := by simp only [key]; omega
  have hkl := kC_le (key := key n m) (j := key n m i) i
  have hld : ∀ k, m.getD i 0 < k → (il (cF n m i) (2 * k))[m.getD i 0 * 2 + i / n]? = some (.int .i64 (cF n m i (key n m i))) := fun k hk => by rw [← hk1]; exact il_at (by omega)
  have hw : IntKind.i64.wrap (cF n m i (key n m i) + 1) = cF n m i (key n m i) + 1 := wI (by simp only [cF]; omega)
  have hst : ∀ k, (il (cF n m i) (2 * k)).set (m.getD i 0 * 2 + i / n) (.int .i64 (cF n m i (key n m i) + 1)) = il (cF n m (i + 1)) (2 * k) := fun k => by
    rw [← hk1]
    refine il_set fun j hj => ?_
    simp only [cF, kC]
    by_cases h : j = key n m i
    · rw [if_pos h, if_pos h.symm, h]; omega
    · rw [if_neg h, if_neg (fun e => h e.symm)]; omega
  have hpc : (pcl n m)[1 + i]? = some (.int .u8 ((m.getD i 0 : Nat) : Int)) := pcl_at (by omega)
  have hmxA : m.getD i 0 = mx m i → mx m (i + 1) = mx m i + 1 := fun h => by simp only [mx]; omega
  have hmxB : ¬ m.getD i 0 = mx m i → mx m (i + 1) = mx m i := fun h => by simp only [mx]; omega
  have hz : ∀ x, x < 2 → cF n m i (2 * mx m i + x) = 0 := fun x hx => by
    simp only [cF]
    rw [kC_zero fun t ht => ?_]; rfl
    have := mx_gt (m := m) ht
    have ht2 : t / n < 2 := by rw [Nat.div_lt_iff_lt_mul (by omega)]; omega
    simp only [key]; omega
  have happ : il (cF n m i) (2 * mx m i) ++ [Value.int .i64 0, Value.int .i64 0] = il (cF n m i) (2 * (mx m i + 1)) := by
    rw [show 2 * (mx m i + 1) = 2 * mx m i + 1 + 1 from by omega, ← il_succ, ← il_succ, hz 1 (by omega), show cF n m i (2 * mx m i) = 0 from hz 0 (by omega)]
    simp
  generalize m.getD i 0 = x at hbi hva hk1 hld hst hpc hmxA hmxB
  generalize hkk : key n m i = kk at hk1 hkl hld hw hst
  by_cases hnew : x = mx m i
  · have hmx1 := hmxA hnew
    rcases x with _ | x
    · simp only [Nat.zero_mul, Nat.zero_add] at hld hst hk1
      (repeat' (first | refine (s_n n m).read [0] rfl ⟨rfl, trivial⟩ ?_ | refine And.intro hne ?_ | refine Exists.intro _ (And.intro hd ?_) | refine Exists.intro _ (And.intro (hld (mx m i + 1) (by omega)) ?_) | refine Exists.intro _ (And.intro hw ?_) | refine Exists.intro _ (And.intro hpc ?_) | refine And.intro ⟨rfl, mkL rfl⟩ ?_ | refine Exists.intro [Value.int .i64 0, Value.int .i64 0] (And.intro (fill0 (mkL' rfl)) ?_) | refine Exists.intro (il (cF n m i) (2 * (mx m i + 1))) (And.intro ⟨rfl, onesR rfl, by omega, by omega, happ⟩ ?_) | refine Exists.intro (il (cF n m (i + 1)) (2 * (mx m i + 1))) (And.intro ⟨by rw [il_len]; omega, hst _⟩ ?_) | refine And.intro (neI rfl) ?_ | refine And.intro ⟨rfl, leR rfl, onesR rfl⟩ ?_ | refine And.intro ⟨rfl, leR rfl⟩ ?_ | refine draw_rule2 hfol (fun KK hKK => ?_) | refine hKK _ _ _ (by kernel_rfl) ?_ | refine region_rule (fun KK hKK => ?_) | refine hKK _ _ ?_ | refine And.intro (Eq.refl true) ?_ | refine Exists.intro _ (And.intro (wI (by omega)) ?_) | refine Exists.intro _ (And.intro (wU (by omega)) ?_) | refine Exists.intro _ (And.intro ⟨rfl, by omega⟩ ?_) | refine Exists.intro _ (And.intro rfl ?_) | refine And.intro rfl ?_ | refine And.intro ⟨rfl, rfl⟩ ?_ | ((refine And.intro (fun _ => ?_) (fun _ => ?_)) <;> try (exfalso; omega))))
      refine Exists.intro (i + 1) (Exists.intro [0, 3] (And.intro ⟨by omega, (by show 2 * n - (i + 1) < 2 * n - i; omega)⟩ ⟨⟨rfl, rfl, rfl, rfl, rfl, trivial⟩, ⟨rfl, by rw [hmx1]; rfl, trivial⟩, rfl⟩))
    · (repeat' (first | refine (s_n n m).read [0] rfl ⟨rfl, trivial⟩ ?_ | refine And.intro hne ?_ | refine Exists.intro _ (And.intro hd ?_) | refine Exists.intro _ (And.intro (hld (mx m i + 1) (by omega)) ?_) | refine Exists.intro _ (And.intro hw ?_) | refine Exists.intro _ (And.intro hpc ?_) | refine And.intro ⟨rfl, mkL rfl⟩ ?_ | refine Exists.intro [Value.int .i64 0, Value.int .i64 0] (And.intro (fill0 (mkL' rfl)) ?_) | refine Exists.intro (il (cF n m i) (2 * (mx m i + 1))) (And.intro ⟨rfl, onesR rfl, by omega, by omega, happ⟩ ?_) | refine Exists.intro (il (cF n m (i + 1)) (2 * (mx m i + 1))) (And.intro ⟨by rw [il_len]; omega, hst _⟩ ?_) | refine And.intro (neI rfl) ?_ | refine And.intro ⟨rfl, leR rfl, onesR rfl⟩ ?_ | refine And.intro ⟨rfl, leR rfl⟩ ?_ | refine draw_rule2 hfol (fun KK hKK => ?_) | refine hKK _ _ _ (by kernel_rfl) ?_ | refine region_rule (fun KK hKK => ?_) | refine hKK _ _ ?_ | refine And.intro (Eq.refl true) ?_ | refine Exists.intro _ (And.intro (wI (by omega)) ?_) | refine Exists.intro _ (And.intro (wU (by omega)) ?_) | refine Exists.intro _ (And.intro ⟨rfl, by omega⟩ ?_) | refine Exists.intro _ (And.intro rfl ?_) | refine And.intro rfl ?_ | refine And.intro ⟨rfl, rfl⟩ ?_ | ((refine And.intro (fun _ => ?_) (fun _ => ?_)) <;> try (exfalso; omega))))
      refine Exists.intro (i + 1) (Exists.intro [0, 3] (And.intro ⟨by omega, (by show 2 * n - (i + 1) < 2 * n - i; omega)⟩ ⟨⟨rfl, rfl, rfl, rfl, rfl, trivial⟩, ⟨rfl, by rw [hmx1]; rfl, trivial⟩, rfl⟩))
  · have hmx1 := hmxB hnew
    rcases x with _ | x
    · simp only [Nat.zero_mul, Nat.zero_add] at hld hst hk1
      (repeat' (first | refine (s_n n m).read [0] rfl ⟨rfl, trivial⟩ ?_ | refine And.intro hne ?_ | refine Exists.intro _ (And.intro hd ?_) | refine Exists.intro _ (And.intro (hld (mx m i) (by omega)) ?_) | refine Exists.intro _ (And.intro hw ?_) | refine Exists.intro _ (And.intro hpc ?_) | refine Exists.intro (il (cF n m (i + 1)) (2 * mx m i)) (And.intro ⟨by rw [il_len]; omega, hst _⟩ ?_) | refine And.intro (neI rfl) ?_ | refine And.intro ⟨rfl, leR rfl, onesR rfl⟩ ?_ | refine And.intro ⟨rfl, leR rfl⟩ ?_ | refine draw_rule2 hfol (fun KK hKK => ?_) | refine hKK _ _ _ (by kernel_rfl) ?_ | refine region_rule (fun KK hKK => ?_) | refine hKK _ _ ?_ | refine And.intro (Eq.refl true) ?_ | refine Exists.intro _ (And.intro (wI (by omega)) ?_) | refine Exists.intro _ (And.intro (wU (by omega)) ?_) | refine Exists.intro _ (And.intro ⟨rfl, by omega⟩ ?_) | refine Exists.intro _ (And.intro rfl ?_) | refine And.intro rfl ?_ | refine And.intro ⟨rfl, rfl⟩ ?_ | ((refine And.intro (fun _ => ?_) (fun _ => ?_)) <;> try (exfalso; omega))))
      refine Exists.intro (i + 1) (Exists.intro [0, 1] (And.intro ⟨by omega, (by show 2 * n - (i + 1) < 2 * n - i; omega)⟩ ⟨⟨rfl, rfl, rfl, rfl, rfl, trivial⟩, ⟨rfl, by rw [hmx1]; rfl, trivial⟩, rfl⟩))
    · (repeat' (first | refine (s_n n m).read [0] rfl ⟨rfl, trivial⟩ ?_ | refine And.intro hne ?_ | refine Exists.intro _ (And.intro hd ?_) | refine Exists.intro _ (And.intro (hld (mx m i) (by omega)) ?_) | refine Exists.intro _ (And.intro hw ?_) | refine Exists.intro _ (And.intro hpc ?_) | refine Exists.intro (il (cF n m (i + 1)) (2 * mx m i)) (And.intro ⟨by rw [il_len]; omega, hst _⟩ ?_) | refine And.intro (neI rfl) ?_ | refine And.intro ⟨rfl, leR rfl, onesR rfl⟩ ?_ | refine And.intro ⟨rfl, leR rfl⟩ ?_ | refine draw_rule2 hfol (fun KK hKK => ?_) | refine hKK _ _ _ (by kernel_rfl) ?_ | refine region_rule (fun KK hKK => ?_) | refine hKK _ _ ?_ | refine And.intro (Eq.refl true) ?_ | refine Exists.intro _ (And.intro (wI (by omega)) ?_) | refine Exists.intro _ (And.intro (wU (by omega)) ?_) | refine Exists.intro _ (And.intro ⟨rfl, by omega⟩ ?_) | refine Exists.intro _ (And.intro rfl ?_) | refine And.intro rfl ?_ | refine And.intro ⟨rfl, rfl⟩ ?_ | ((refine And.intro (fun _ => ?_) (fun _ => ?_)) <;> try (exfalso; omega))))
      refine Exists.intro (i + 1) (Exists.intro [0, 1] (And.intro ⟨by omega, (by show 2 * n - (i + 1) < 2 * n - i; omega)⟩ ⟨⟨rfl, rfl, rfl, rfl, rfl, trivial⟩, ⟨rfl, by rw [hmx1]; rfl, trivial⟩, rfl⟩))
end Go.Proofs.Ytpangmameocfmaa.VE.P
