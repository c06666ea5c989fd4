/- Contracts of functions of the given program, for all arguments that the contract names; see each theorem. -/
import Derived.Test.YtpangmameocfmaaT24
import Derived.Test.YtpangmameocfmaaU3a
import Derived.Test.YtpangmameocfmaaU9a
import Derived.Test.YtpangmameocfmaaU16a
import Derived.Test.YtpangmameocfmaaT19
set_option linter.all false
namespace Go.Proofs.Ytpangmameocfmaa.VE.P
open Go
set_option maxHeartbeats 800000
set_option maxRecDepth 100000

/-! the next place of the same part -/
def fwL (f : Nat → Nat) (N k : Nat) : Nat → Nat → Nat
  | 0, _ => k
  | d + 1, i => if f ((k + i) % N) = f k then (k + i) % N else fwL f N k d (i + 1)
def fw (f : Nat → Nat) (N k : Nat) : Nat := fwL f N k N 1
theorem fwL_spec {f : Nat → Nat} {N k : Nat} (hN : 1 ≤ N) (hk : k < N) : ∀ d i, 1 ≤ i → i + d = N + 1 → (∀ j, 1 ≤ j → j < i → f ((k + j) % N) ≠ f k) →
    ∃ i', 1 ≤ i' ∧ i' ≤ N ∧ fwL f N k d i = (k + i') % N ∧ f ((k + i') % N) = f k ∧ ∀ j, 1 ≤ j → j < i' → f ((k + j) % N) ≠ f k
  | 0, i, h1, h2, h3 => by
    exfalso
    refine h3 N hN (by omega) ?_
    rw [Nat.add_mod_right, Nat.mod_eq_of_lt hk]
  | d + 1, i, h1, h2, h3 => by
    unfold fwL
    by_cases h : f ((k + i) % N) = f k
    · rw [if_pos h]; exact ⟨i, h1, by omega, rfl, h, h3⟩
    · rw [if_neg h]
      refine fwL_spec hN hk d (i + 1) (by omega) (by omega) fun j hj1 hj2 => ?_
      by_cases hji : j = i
      · subst hji; exact h
      · exact h3 j hj1 (by omega)
theorem fw_spec {f : Nat → Nat} {N k : Nat} (hN : 1 ≤ N) (hk : k < N) : ∃ i', 1 ≤ i' ∧ i' ≤ N ∧ fw f N k = (k + i') % N ∧ f ((k + i') % N) = f k ∧ ∀ j, 1 ≤ j → j < i' → f ((k + j) % N) ≠ f k :=
  fwL_spec hN hk N 1 (Nat.le_refl 1) (by omega) fun j h1 h2 => by omega
theorem modN {N x : Nat} (h : x < 2 * N) : x % N = if x < N then x else x - N := by
  split
  · rename_i h1; exact Nat.mod_eq_of_lt h1
  · rw [Nat.mod_eq_sub_mod (by omega), Nat.mod_eq_of_lt (by omega)]
theorem fw_lt {f : Nat → Nat} {N k : Nat} (hN : 1 ≤ N) (hk : k < N) : fw f N k < N := by
  obtain ⟨i, _, _, h, _⟩ := fw_spec (f := f) hN hk
  rw [h]; exact Nat.mod_lt _ (by omega)
theorem fw_same {f : Nat → Nat} {N k : Nat} (hN : 1 ≤ N) (hk : k < N) : f (fw f N k) = f k := by
  obtain ⟨i, _, _, h, h2, _⟩ := fw_spec (f := f) hN hk
  rw [h]; exact h2
theorem fw_inj1 {f : Nat → Nat} {N k k' : Nat} (hN : 1 ≤ N) (hk : k < N) (hk' : k' < N) (h : fw f N k = fw f N k') : k = k' := by
  have hs1 := fw_same (f := f) hN hk
  have hs2 := fw_same (f := f) hN hk'
  rw [h, hs2] at hs1
  obtain ⟨i, a1, a2, a3, a4, a5⟩ := fw_spec (f := f) hN hk
  obtain ⟨i', b1, b2, b3, b4, b5⟩ := fw_spec (f := f) hN hk'
  rw [a3, b3, modN (by omega), modN (by omega)] at h
  rcases Nat.lt_trichotomy i i' with hlt | heq | hlt
  · exfalso
    refine b5 (i' - i) (by omega) (by omega) ?_
    have : (k' + (i' - i)) % N = k := by
      rw [modN (by omega)]
      split at h <;> split at h <;> split <;> omega
    rw [this, hs1]
  · subst heq
    split at h <;> split at h <;> omega
  · exfalso
    refine a5 (i - i') (by omega) (by omega) ?_
    have : (k + (i - i')) % N = k' := by
      rw [modN (by omega)]
      split at h <;> split at h <;> split <;> omega
    rw [this, hs1]
theorem inj_surj : ∀ (N : Nat) (f : Nat → Nat), (∀ i, i < N → f i < N) → (∀ i j, i < N → j < N → f i = f j → i = j) → ∀ t, t < N → ∃ k, k < N ∧ f k = t
  | 0, _, _, _, t, ht => by omega
  | N + 1, f, hl, hi, t, ht => by
    by_cases hN : f N = t
    · exact ⟨N, by omega, hN⟩
    · have hfN := hl N (by omega)
      -- exchange the value N
      obtain ⟨k, hk, he⟩ := inj_surj N (fun i => if f i = N then f N else f i) (fun i hi' => by
          show (if f i = N then f N else f i) < N
          have h1 := hl i (by omega)
          split
          · rename_i h
            have : f N ≠ N := fun e => by have := hi i N (by omega) (by omega) (h.trans e.symm); omega
            omega
          · omega) (fun i j hi1 hj1 h => by
          replace h : (if f i = N then f N else f i) = (if f j = N then f N else f j) := h
          split at h <;> split at h
          · rename_i h1 h2; exact hi i j (by omega) (by omega) (h1.trans h2.symm)
          · have := hi N j (by omega) (by omega) h; omega
          · have := hi i N (by omega) (by omega) h; omega
          · exact hi i j (by omega) (by omega) h) (if t = N then f N else t) (by
          split
          · rename_i h; subst h; omega
          · omega)
      replace he : (if f k = N then f N else f k) = if t = N then f N else t := he
      split at he <;> split at he
      · rename_i h1 h2; exact ⟨k, by omega, h1.trans h2.symm⟩
      · exact absurd he hN
      · rename_i h1 h2
        have := hi k N (by omega) (by omega) he
        omega
      · exact ⟨k, by omega, he⟩

theorem s_following (f : Nat → Nat) (N k : Nat) (hN : 1 ≤ N) (hN2 : N ≤ 100) (hk : k < N) : Spec Try.prog n_i_following [.sl 0, vi k] [.pr T_uint8 1 N (ul f N)] (vi (fw f N k : Nat)) [.pr T_uint8 1 N (ul f N)] := by
  have hatk := ul_at (f := f) hk
  have hN0 : (N : Int) ≠ 0 := by omega
  refine SpecW.of_EV hf_i_following hc_i_following rfl rfl rfl fun w0 B ρ0 _ => ?_
  (repeat' (first | refine And.intro (neI rfl) ?_ | refine And.intro ⟨rfl, leR rfl, onesR rfl⟩ ?_ | refine And.intro ⟨rfl, leR rfl⟩ ?_ | refine draw_rule2 hfol (fun KK hKK => ?_) | refine hKK _ _ _ (by kernel_rfl) ?_ | refine region_rule (fun KK hKK => ?_) | refine hKK _ _ ?_ | refine And.intro (Eq.refl true) ?_ | refine Exists.intro _ (And.intro (wI (by omega)) ?_) | refine Exists.intro _ (And.intro (wU (by omega)) ?_) | refine Exists.intro _ (And.intro ⟨rfl, by omega⟩ ?_) | refine Exists.intro _ (And.intro rfl ?_) | refine And.intro rfl ?_ | refine And.intro ⟨rfl, rfl⟩ ?_ | ((refine And.intro (fun _ => ?_) (fun _ => ?_)) <;> try (exfalso; omega))))
  refine loop_rule (α := Nat) (fun i => 1 ≤ i ∧ i ≤ N ∧ fwL f N k (N + 1 - i) i = fw f N k)
    (fun i => [(0, .sl 0), (1, vi k), (5, vi i)]) (fun _ => [.pr T_uint8 1 N (ul f N)]) (fun i => N - i) 1 [0]
    ⟨by omega, by omega, rfl⟩ ⟨⟨rfl, rfl, rfl, trivial⟩, ⟨rfl, trivial⟩, rfl⟩ ?_
  rintro i g ⟨hi1, hi, hR⟩
  obtain ⟨d, hd⟩ : ∃ d, N + 1 - i = d + 1 := ⟨N - i, by omega⟩
  rw [hd] at hR
  unfold fwL at hR
  have hm : (k + i) % N < N := Nat.mod_lt _ (by omega)
  have hat := ul_at (f := f) hm
  have t1 : Int.tmod ((k : Int) + (i : Int)) (N : Int) = (((k + i) % N : Nat) : Int) := by
    have := tmN (k + i) N; rwa [Int.natCast_add] at this
  by_cases h : f ((k + i) % N) = f k
  · rw [if_pos h] at hR
    (repeat' (first | refine And.intro hN0 ?_ | refine Exists.intro _ (And.intro t1 ?_) | refine Exists.intro _ (And.intro hat ?_) | refine Exists.intro _ (And.intro hatk ?_) | refine And.intro (neI rfl) ?_ | refine And.intro ⟨rfl, leR rfl, onesR rfl⟩ ?_ | refine And.intro ⟨rfl, leR rfl⟩ ?_ | refine draw_rule2 hfol (fun KK hKK => ?_) | refine hKK _ _ _ (by kernel_rfl) ?_ | refine region_rule (fun KK hKK => ?_) | refine hKK _ _ ?_ | refine And.intro (Eq.refl true) ?_ | refine Exists.intro _ (And.intro (wI (by omega)) ?_) | refine Exists.intro _ (And.intro (wU (by omega)) ?_) | refine Exists.intro _ (And.intro ⟨rfl, by omega⟩ ?_) | refine Exists.intro _ (And.intro rfl ?_) | refine And.intro rfl ?_ | refine And.intro ⟨rfl, rfl⟩ ?_ | ((refine And.intro (fun _ => ?_) (fun _ => ?_)) <;> try (exfalso; omega))))
    exact Exists.intro [0] (And.intro (viR (by rw [← hR])) (And.intro ⟨rfl, trivial⟩ rfl))
  · rw [if_neg h] at hR
    have hiN : i ≠ N := by
      rintro rfl
      rw [Nat.add_mod_right, Nat.mod_eq_of_lt hk] at h
      exact h rfl
    (repeat' (first | refine And.intro hN0 ?_ | refine Exists.intro _ (And.intro t1 ?_) | refine Exists.intro _ (And.intro hat ?_) | refine Exists.intro _ (And.intro hatk ?_) | refine And.intro (neI rfl) ?_ | refine And.intro ⟨rfl, leR rfl, onesR rfl⟩ ?_ | refine And.intro ⟨rfl, leR rfl⟩ ?_ | refine draw_rule2 hfol (fun KK hKK => ?_) | refine hKK _ _ _ (by kernel_rfl) ?_ | refine region_rule (fun KK hKK => ?_) | refine hKK _ _ ?_ | refine And.intro (Eq.refl true) ?_ | refine Exists.intro _ (And.intro (wI (by omega)) ?_) | refine Exists.intro _ (And.intro (wU (by omega)) ?_) | refine Exists.intro _ (And.intro ⟨rfl, by omega⟩ ?_) | refine Exists.intro _ (And.intro rfl ?_) | refine And.intro rfl ?_ | refine And.intro ⟨rfl, rfl⟩ ?_ | ((refine And.intro (fun _ => ?_) (fun _ => ?_)) <;> try (exfalso; omega))))
    refine Exists.intro (i + 1) (Exists.intro [0] (And.intro ⟨⟨by omega, by omega, by rw [show N + 1 - (i + 1) = d from by omega]; exact hR⟩, (by show N - (i + 1) < N - i; omega)⟩ ⟨⟨rfl, rfl, rfl, trivial⟩, ⟨rfl, trivial⟩, rfl⟩))

/-! the surrounding diagram -/
def upd1 (o : Nat → Nat) (x v : Nat) : Nat → Nat := fun j => if j = x then v else o j
theorem oI_upd {o : Nat → Nat} {x v : Nat} (j : Nat) : oI (upd1 o x v) j = if j = x then ((v : Nat) : Int) else oI o j := by
  simp only [oI, upd1]; split <;> rfl
def oS (nx : Nat → Nat) : Nat → Nat → Nat
  | 0 => fun _ => 0
  | k + 1 => upd1 (upd1 (oS nx k) (2 * k + 1) (2 * nx k)) (2 * nx k) (2 * k + 1)
def sj (N : Nat) (nx : Nat → Nat) : Nat → List Nat
  | 0 => List.replicate 16 0
  | k + 1 => ((sj N nx k).set (plc N (2 * k + 1)) (plc N (2 * nx k))).set (plc N (2 * nx k)) (plc N (2 * k + 1))
theorem sj_len {N : Nat} {nx : Nat → Nat} : ∀ {k}, (sj N nx k).length = 16
  | 0 => by simp [sj]
  | k + 1 => by simp [sj, sj_len (k := k)]
theorem oS_at {N : Nat} {nx : Nat → Nat} (hi : ∀ i j, i < N → j < N → nx i = nx j → i = j) : ∀ K, K ≤ N → ∀ k, k < K → oS nx K (2 * k + 1) = 2 * nx k ∧ oS nx K (2 * nx k) = 2 * k + 1
  | 0, _, k, hk => by omega
  | K + 1, hK, k, hk => by
    simp only [oS, upd1]
    by_cases hkK : k = K
    · subst hkK
      exact ⟨by rw [if_neg (by omega), if_pos rfl], by rw [if_pos rfl]⟩
    · obtain ⟨h1, h2⟩ := oS_at hi K (by omega) k (by omega)
      have hne : nx k ≠ nx K := fun e => hkK (hi k K (by omega) (by omega) e)
      exact ⟨by rw [if_neg (by omega), if_neg (by omega)]; exact h1, by rw [if_neg (by omega), if_neg (by omega)]; exact h2⟩
theorem plc_inj {n i j : Nat} (hi : i < 2 * n) (hj : j < 2 * n) (h : plc n i = plc n j) : i = j := by rw [← plc_inv hi, ← plc_inv hj, h]
theorem sj_at {N : Nat} {nx : Nat → Nat} (hN : N ≤ 8) (hl : ∀ i, i < N → nx i < N) (hi : ∀ i j, i < N → j < N → nx i = nx j → i = j) : ∀ K, K ≤ N → ∀ k, k < K →
    (sj N nx K).getD (plc N (2 * k + 1)) 0 = plc N (2 * nx k) ∧ (sj N nx K).getD (plc N (2 * nx k)) 0 = plc N (2 * k + 1)
  | 0, _, k, hk => by omega
  | K + 1, hK, k, hk => by
    have a1 := plc_lt (n := N) (i := 2 * K + 1) (by omega)
    have hlK := hl K (by omega)
    have hlk := hl k (by omega)
    have a2 := plc_lt (n := N) (i := 2 * nx K) (by omega)
    have hg : ∀ y, (sj N nx (K + 1)).getD y 0 = if plc N (2 * nx K) = y then plc N (2 * K + 1) else if plc N (2 * K + 1) = y then plc N (2 * nx K) else (sj N nx K).getD y 0 := by
      intro y
      rw [sj, getD_set' (by rw [List.length_set, sj_len]; omega), getD_set' (by rw [sj_len]; omega)]
    rw [hg, hg]
    by_cases hkK : k = K
    · subst hkK
      refine ⟨?_, by rw [if_pos rfl]⟩
      rw [if_neg (fun e => by have := plc_inj (by omega) (by omega) e; omega), if_pos rfl]
    · obtain ⟨h1, h2⟩ := sj_at hN hl hi K (by omega) k (by omega)
      have hne : nx k ≠ nx K := fun e => hkK (hi k K (by omega) (by omega) e)
      refine ⟨?_, ?_⟩
      · rw [if_neg (fun e => by have := plc_inj (by omega) (by omega) e; omega), if_neg (fun e => by have := plc_inj (by omega) (by omega) e; omega)]; exact h1
      · rw [if_neg (fun e => by have := plc_inj (by omega) (by omega) e; omega), if_neg (fun e => by have := plc_inj (by omega) (by omega) e; omega)]; exact h2
theorem sj_out {N : Nat} {nx : Nat → Nat} (hN : N ≤ 8) (hl : ∀ i, i < N → nx i < N) : ∀ K, K ≤ N → ∀ y, 2 * N ≤ y → (sj N nx K).getD y 0 = 0
  | 0, _, y, _ => by
    rw [sj, List.getD_eq_getElem?_getD, List.getElem?_replicate]; split <;> rfl
  | K + 1, hK, y, hy => by
    have a1 := plc_lt (n := N) (i := 2 * K + 1) (by omega)
    have hlK := hl K (by omega)
    have a2 := plc_lt (n := N) (i := 2 * nx K) (by omega)
    rw [sj, getD_set' (by rw [List.length_set, sj_len]; omega), getD_set' (by rw [sj_len]; omega), if_neg (by omega), if_neg (by omega)]
    exact sj_out hN hl K (by omega) y hy
theorem oS_lt {N : Nat} {nx : Nat → Nat} (hl : ∀ i, i < N → nx i < N) (hi : ∀ i j, i < N → j < N → nx i = nx j → i = j) : ∀ x, x < 2 * N → oS nx N x < 2 * N := by
  intro x hx
  obtain ⟨k, hk | hk⟩ : ∃ k, x = 2 * k + 1 ∨ x = 2 * k := ⟨x / 2, by omega⟩
  · subst hk
    have := hl k (by omega)
    rw [(oS_at hi N (Nat.le_refl N) k (by omega)).1]; omega
  · subst hk
    obtain ⟨k', hk', he⟩ := inj_surj N nx hl hi k (by omega)
    rw [← he, (oS_at hi N (Nat.le_refl N) k' (by omega)).2]; omega
theorem sur_eq {N : Nat} {nx : Nat → Nat} (hN : N ≤ 8) (hl : ∀ i, i < N → nx i < N) (hi : ∀ i j, i < N → j < N → nx i = nx j → i = j) : sj N nx N = jD N (oS nx N) (2 * N) := by
  have holt := oS_lt hl hi
  refine eq_of_getD sj_len (jD_len _) fun y hy => ?_
  rw [jD_at hN holt (2 * N) (Nat.le_refl _)]
  by_cases hy2 : y < 2 * N
  · have hp := plc_lt hy2
    rw [if_pos ⟨hy2, hp⟩]
    have key : ∀ x, x < 2 * N → (sj N nx N).getD (plc N x) 0 = plc N (oS nx N x) := by
      intro x hx
      obtain ⟨k, hk | hk⟩ : ∃ k, x = 2 * k + 1 ∨ x = 2 * k := ⟨x / 2, by omega⟩
      · subst hk
        rw [(oS_at hi N (Nat.le_refl N) k (by omega)).1, (sj_at hN hl hi N (Nat.le_refl N) k (by omega)).1]
      · subst hk
        obtain ⟨k', hk', he⟩ := inj_surj N nx hl hi k (by omega)
        rw [← he, (oS_at hi N (Nat.le_refl N) k' (by omega)).2, (sj_at hN hl hi N (Nat.le_refl N) k' (by omega)).2]
    have := key (plc N y) hp
    rwa [plc_inv hy2] at this
  · rw [if_neg (fun h => hy2 h.1)]
    exact sj_out hN hl N (Nat.le_refl N) y (by omega)

theorem s_ssur (n : Nat) (m : List Nat) (hm : m.length = 8) (hn1 : 1 ≤ n) (hn : n ≤ 4) : Spec Try.prog n_s_l07Surround [pv n m] [] (pv (2 * n : Nat) (sj (2 * n) (fw (xa n m) (2 * n)) (2 * n))) [] := by
  have hl : ∀ i, i < 2 * n → fw (xa n m) (2 * n) i < 2 * n := fun i hi => fw_lt (by omega) hi
  have e2 : IntKind.i64.wrap (2 * (n : Int)) = ((2 * n : Nat) : Int) := wC (by omega) (by omega)
  have hN0 : ((2 * n : Nat) : Int) ≠ 0 := by omega
  refine SpecW.of_EV hf_s_l07Surround hc_s_l07Surround rfl rfl rfl fun w0 B ρ0 _ => ?_
  (repeat' (first | refine Exists.intro _ (And.intro e2 ?_) | refine Exists.intro (pcl ((2 * n : Nat) : Int) (List.replicate 16 0)) (And.intro ⟨leR rfl, rfl⟩ ?_) | refine Exists.intro (pcl ((2 * n : Nat) : Int) (List.replicate 16 0)) (And.intro ⟨rfl, rfl⟩ ?_) | refine And.intro (neI rfl) ?_ | refine And.intro ⟨rfl, leR rfl, onesR rfl⟩ ?_ | refine And.intro ⟨rfl, leR rfl⟩ ?_ | refine draw_rule2 hfol (fun KK hKK => ?_) | refine hKK _ _ _ (by kernel_rfl) ?_ | refine region_rule (fun KK hKK => ?_) | refine hKK _ _ ?_ | refine And.intro (Eq.refl true) ?_ | refine Exists.intro _ (And.intro (wI (by omega)) ?_) | refine Exists.intro _ (And.intro (wU (by omega)) ?_) | refine Exists.intro _ (And.intro ⟨rfl, by omega⟩ ?_) | refine Exists.intro _ (And.intro rfl ?_) | refine And.intro rfl ?_ | refine And.intro ⟨rfl, rfl⟩ ?_ | ((refine And.intro (fun _ => ?_) (fun _ => ?_)) <;> try (exfalso; omega))))
  refine loop_rule (α := Nat) (fun k => k ≤ 2 * n)
    (fun k => [(1, .ptr 0 0), (2, .ptr 1 0), (3, vi (2 * n : Nat)), (4, .ptr 2 0), (5, vi k)])
    (fun k => [.pc (pcl n m) T_i_Partition, .pc (pcl 0 (List.replicate 16 0)) T_i_Diagram, .pc (pcl (2 * n : Nat) (sj (2 * n) (fw (xa n m) (2 * n)) k)) T_i_Diagram]) (fun k => 2 * n - k) 0 [0, 1, 2]
    (by omega) ⟨⟨rfl, rfl, rfl, rfl, rfl, trivial⟩, ⟨rfl, rfl, rfl, trivial⟩, rfl⟩ ?_
  rintro k g hk
  by_cases h9 : k = 2 * n
  · subst h9
    (repeat' (first | refine Exists.intro (pcl (2 * n : Nat) (sj (2 * n) (fw (xa n m) (2 * n)) (2 * n))) (And.intro ⟨pcl_len sj_len, pcl_all sj_len⟩ ?_) | refine And.intro ⟨pcl_len sj_len, leR rfl, pcl_ones⟩ ?_ | refine Exists.intro (pcl (2 * n : Nat) (sj (2 * n) (fw (xa n m) (2 * n)) (2 * n))) (And.intro ⟨leR rfl, spl0 (leR rfl)⟩ ?_) | refine And.intro (neI rfl) ?_ | refine And.intro ⟨rfl, leR rfl, onesR rfl⟩ ?_ | refine And.intro ⟨rfl, leR rfl⟩ ?_ | refine draw_rule2 hfol (fun KK hKK => ?_) | refine hKK _ _ _ (by kernel_rfl) ?_ | refine region_rule (fun KK hKK => ?_) | refine hKK _ _ ?_ | refine And.intro (Eq.refl true) ?_ | refine Exists.intro _ (And.intro (wI (by omega)) ?_) | refine Exists.intro _ (And.intro (wU (by omega)) ?_) | refine Exists.intro _ (And.intro ⟨rfl, by omega⟩ ?_) | refine Exists.intro _ (And.intro rfl ?_) | refine And.intro rfl ?_ | refine And.intro ⟨rfl, rfl⟩ ?_ | ((refine And.intro (fun _ => ?_) (fun _ => ?_)) <;> try (exfalso; omega))))
    exact Exists.intro [] (And.intro (rfl) (And.intro trivial rfl))
  have hkl : k < 2 * n := by omega
  have hlk := hl k hkl
  have t1 : Int.tmod ((k : Int) + 1) ((2 * n : Nat) : Int) = (((k + 1) % (2 * n) : Nat) : Int) := by
    have := tmN (k + 1) (2 * n); rwa [Int.natCast_add] at this
  (repeat' (first | refine And.intro hN0 ?_ | refine Exists.intro _ (And.intro t1 ?_) | refine And.intro (neI rfl) ?_ | refine And.intro ⟨rfl, leR rfl, onesR rfl⟩ ?_ | refine And.intro ⟨rfl, leR rfl⟩ ?_ | refine draw_rule2 hfol (fun KK hKK => ?_) | refine hKK _ _ _ (by kernel_rfl) ?_ | refine region_rule (fun KK hKK => ?_) | refine hKK _ _ ?_ | refine And.intro (Eq.refl true) ?_ | refine Exists.intro _ (And.intro (wI (by omega)) ?_) | refine Exists.intro _ (And.intro (wU (by omega)) ?_) | refine Exists.intro _ (And.intro ⟨rfl, by omega⟩ ?_) | refine Exists.intro _ (And.intro rfl ?_) | refine And.intro rfl ?_ | refine And.intro ⟨rfl, rfl⟩ ?_ | ((refine And.intro (fun _ => ?_) (fun _ => ?_)) <;> try (exfalso; omega))))
  refine loop_rule (α := Nat) (fun i => 1 ≤ i ∧ i ≤ 2 * n ∧ fwL (xa n m) (2 * n) k (2 * n + 1 - i) i = fw (xa n m) (2 * n) k)
    (fun i => [(1, .ptr 0 0), (2, .ptr 1 0), (3, vi (2 * n : Nat)), (4, .ptr 2 0), (5, vi k), (6, vi ((k + i) % (2 * n) : Nat))])
    (fun _ => [.pc (pcl n m) T_i_Partition, .pc (pcl 0 (List.replicate 16 0)) T_i_Diagram, .pc (pcl (2 * n : Nat) (sj (2 * n) (fw (xa n m) (2 * n)) k)) T_i_Diagram]) (fun i => 2 * n - i) 1 [0, 1, 2]
    ⟨by omega, by omega, rfl⟩ ⟨⟨rfl, rfl, rfl, rfl, rfl, rfl, trivial⟩, ⟨rfl, rfl, rfl, trivial⟩, rfl⟩ ?_
  rintro i g2 ⟨hi1, hi, hR⟩
  obtain ⟨d, hd⟩ : ∃ d, 2 * n + 1 - i = d + 1 := ⟨2 * n - i, by omega⟩
  rw [hd] at hR
  unfold fwL at hR
  have hml : (k + i) % (2 * n) < 2 * n := Nat.mod_lt _ (by omega)
  have c1 := s_at n m ((k + i) % (2 * n)) hm hn hml
  have c2 := s_at n m k hm hn hkl
  by_cases h : xa n m ((k + i) % (2 * n)) = xa n m k
  · rw [if_pos h] at hR
    rw [← h] at c2
    rw [hR] at c1 c2 ⊢
    have p1 := plc_lt (n := 2 * n) (i := 2 * k + 1) (by omega)
    have p2 := plc_lt (n := 2 * n) (i := 2 * fw (xa n m) (2 * n) k) (by omega)
    have c3 := VE.s_place (2 * n) (2 * k + 1) (by omega) (by omega)
    have c4 := VE.s_place (2 * n) (2 * fw (xa n m) (2 * n) k) (by omega) (by omega)
    have c5 := VE.s_join ((2 * n : Nat) : Int) (sj (2 * n) (fw (xa n m) (2 * n)) k) (plc (2 * n) (2 * k + 1)) (plc (2 * n) (2 * fw (xa n m) (2 * n) k)) sj_len (by omega) (by omega)
    have e3 : IntKind.i64.wrap (2 * (k : Int) + 1) = ((2 * k + 1 : Nat) : Int) := wC (by omega) (by omega)
    have e4 : IntKind.i64.wrap (2 * ((fw (xa n m) (2 * n) k : Nat) : Int)) = ((2 * fw (xa n m) (2 * n) k : Nat) : Int) := wC (by omega) (by omega)
    have hl1 : (((sj (2 * n) (fw (xa n m) (2 * n)) k).set (plc (2 * n) (2 * k + 1)) (plc (2 * n) (2 * fw (xa n m) (2 * n) k))).set (plc (2 * n) (2 * fw (xa n m) (2 * n) k)) (plc (2 * n) (2 * k + 1))).length = 16 := by simp [sj_len]
    (repeat' (first | refine (c1).pure rfl ?_ | refine (c2).pure rfl ?_ | refine (c3).pure rfl ?_ | refine (c4).pure rfl ?_ | refine (c5).pure rfl ?_ | refine Exists.intro _ (And.intro e3 ?_) | refine Exists.intro _ (And.intro e4 ?_) | refine Exists.intro (pcl n m) (And.intro ⟨pcl_len hm, pcl_all hm⟩ ?_) | refine Exists.intro (pcl (2 * n : Nat) (sj (2 * n) (fw (xa n m) (2 * n)) k)) (And.intro ⟨pcl_len sj_len, pcl_all sj_len⟩ ?_) | refine And.intro ⟨pcl_len hl1, leR rfl, pcl_ones⟩ ?_ | refine Exists.intro (pcl (2 * n : Nat) (sj (2 * n) (fw (xa n m) (2 * n)) (k + 1))) (And.intro ⟨by rw [pcl_len sj_len]; exact leR rfl, spl0 (by rw [pcl_len sj_len]; exact leR rfl)⟩ ?_) | refine And.intro (neI rfl) ?_ | refine And.intro ⟨rfl, leR rfl, onesR rfl⟩ ?_ | refine And.intro ⟨rfl, leR rfl⟩ ?_ | refine draw_rule2 hfol (fun KK hKK => ?_) | refine hKK _ _ _ (by kernel_rfl) ?_ | refine region_rule (fun KK hKK => ?_) | refine hKK _ _ ?_ | refine And.intro (Eq.refl true) ?_ | refine Exists.intro _ (And.intro (wI (by omega)) ?_) | refine Exists.intro _ (And.intro (wU (by omega)) ?_) | refine Exists.intro _ (And.intro ⟨rfl, by omega⟩ ?_) | refine Exists.intro _ (And.intro rfl ?_) | refine And.intro rfl ?_ | refine And.intro ⟨rfl, rfl⟩ ?_ | ((refine And.intro (fun _ => ?_) (fun _ => ?_)) <;> try (exfalso; omega))))
    refine Exists.intro (k + 1) (Exists.intro [0, 1, 2] (And.intro ⟨by omega, (by show 2 * n - (k + 1) < 2 * n - k; omega)⟩ ⟨⟨rfl, rfl, rfl, rfl, rfl, trivial⟩, ⟨rfl, rfl, rfl, trivial⟩, rfl⟩))
  · rw [if_neg h] at hR
    have hiN : i ≠ 2 * n := by
      rintro rfl
      rw [Nat.add_mod_right, Nat.mod_eq_of_lt hkl] at h
      exact h rfl
    have t2 : Int.tmod ((((k + i) % (2 * n) : Nat) : Int) + 1) ((2 * n : Nat) : Int) = (((k + (i + 1)) % (2 * n) : Nat) : Int) := by
      have := tmN ((k + i) % (2 * n) + 1) (2 * n)
      rwa [Int.natCast_add, Nat.mod_add_mod, Nat.add_assoc] at this
    (repeat' (first | refine (c1).pure rfl ?_ | refine (c2).pure rfl ?_ | refine Exists.intro (pcl n m) (And.intro ⟨pcl_len hm, pcl_all hm⟩ ?_) | refine And.intro hN0 ?_ | refine Exists.intro _ (And.intro t2 ?_) | refine And.intro (neI rfl) ?_ | refine And.intro ⟨rfl, leR rfl, onesR rfl⟩ ?_ | refine And.intro ⟨rfl, leR rfl⟩ ?_ | refine draw_rule2 hfol (fun KK hKK => ?_) | refine hKK _ _ _ (by kernel_rfl) ?_ | refine region_rule (fun KK hKK => ?_) | refine hKK _ _ ?_ | refine And.intro (Eq.refl true) ?_ | refine Exists.intro _ (And.intro (wI (by omega)) ?_) | refine Exists.intro _ (And.intro (wU (by omega)) ?_) | refine Exists.intro _ (And.intro ⟨rfl, by omega⟩ ?_) | refine Exists.intro _ (And.intro rfl ?_) | refine And.intro rfl ?_ | refine And.intro ⟨rfl, rfl⟩ ?_ | ((refine And.intro (fun _ => ?_) (fun _ => ?_)) <;> try (exfalso; omega))))
    refine Exists.intro (i + 1) (Exists.intro [0, 1, 2] (And.intro ⟨⟨by omega, by omega, by rw [show 2 * n + 1 - (i + 1) = d from by omega]; exact hR⟩, (by show 2 * n - (i + 1) < 2 * n - i; omega)⟩ ⟨⟨rfl, rfl, rfl, rfl, rfl, rfl, trivial⟩, ⟨rfl, rfl, rfl, trivial⟩, rfl⟩))

noncomputable def surR (s : Int) (m : List Nat) : Int × List Nat × Int :=
  @ite _ (isPi s m = true) _ (@ite _ (plB s.toNat m = true) _ (((2 * s.toNat : Nat) : Int), sj (2 * s.toNat) (fw (xa s.toNat m) (2 * s.toNat)) (2 * s.toNat), 0) (0, List.replicate 16 0, 5)) (0, List.replicate 16 0, 1)
theorem surR_len (s : Int) (m : List Nat) : (surR s m).2.1.length = 16 := by
  unfold surR; split
  · split
    · exact sj_len
    · simp
  · simp
theorem s_sSur (s : Int) (m : List Nat) (hm : m.length = 8) (hb : ∀ x ∈ m, x < 256) : Spec Try.prog n_s_SurroundingDiagram [pv s m] [] (prV (surR s m)) [] := by
  have hq := s_is s m hm hb
  rw [isP_eq s m hm] at hq
  refine SpecW.of_EV hf_s_SurroundingDiagram hc_s_SurroundingDiagram rfl rfl rfl fun w0 B ρ0 _ => ?_
  cases hv : isPi s m with
  | false =>
    have hr : surR s m = (0, List.replicate 16 0, 1) := by simp [surR, hv]
    rw [hv] at hq
    rw [hr]
    (repeat' (first | refine (hq).pure rfl ?_ | refine Exists.intro (pcl s m) (And.intro ⟨pcl_len hm, pcl_all hm⟩ ?_) | refine Exists.intro (pcl 0 (List.replicate 16 0)) (And.intro ⟨leR rfl, rfl⟩ ?_) | refine Exists.intro (pcl 0 (List.replicate 16 0)) (And.intro ⟨rfl, rfl⟩ ?_) | refine And.intro (neI rfl) ?_ | refine And.intro ⟨rfl, leR rfl, onesR rfl⟩ ?_ | refine And.intro ⟨rfl, leR rfl⟩ ?_ | refine draw_rule2 hfol (fun KK hKK => ?_) | refine hKK _ _ _ (by kernel_rfl) ?_ | refine region_rule (fun KK hKK => ?_) | refine hKK _ _ ?_ | refine And.intro (Eq.refl true) ?_ | refine Exists.intro _ (And.intro (wI (by omega)) ?_) | refine Exists.intro _ (And.intro (wU (by omega)) ?_) | refine Exists.intro _ (And.intro ⟨rfl, by omega⟩ ?_) | refine Exists.intro _ (And.intro rfl ?_) | refine And.intro rfl ?_ | refine And.intro ⟨rfl, rfl⟩ ?_ | ((refine And.intro (fun _ => ?_) (fun _ => ?_)) <;> try (exfalso; omega))))
    exact Exists.intro [] (And.intro (rfl) (And.intro trivial rfl))
  | true =>
    rw [hv] at hq
    obtain ⟨n, rfl, hn1, hn⟩ := isPi_size hv
    have hpl := s_splanar n m hm hn
    cases hp : plB n m with
    | false =>
      have hr : surR n m = (0, List.replicate 16 0, 5) := by simp [surR, hv, hp]
      rw [hp] at hpl
      rw [hr]
      (repeat' (first | refine (hq).pure rfl ?_ | refine (hpl).pure rfl ?_ | refine Exists.intro (pcl n m) (And.intro ⟨pcl_len hm, pcl_all hm⟩ ?_) | refine Exists.intro (pcl 0 (List.replicate 16 0)) (And.intro ⟨leR rfl, rfl⟩ ?_) | refine Exists.intro (pcl 0 (List.replicate 16 0)) (And.intro ⟨rfl, rfl⟩ ?_) | refine And.intro (neI rfl) ?_ | refine And.intro ⟨rfl, leR rfl, onesR rfl⟩ ?_ | refine And.intro ⟨rfl, leR rfl⟩ ?_ | refine draw_rule2 hfol (fun KK hKK => ?_) | refine hKK _ _ _ (by kernel_rfl) ?_ | refine region_rule (fun KK hKK => ?_) | refine hKK _ _ ?_ | refine And.intro (Eq.refl true) ?_ | refine Exists.intro _ (And.intro (wI (by omega)) ?_) | refine Exists.intro _ (And.intro (wU (by omega)) ?_) | refine Exists.intro _ (And.intro ⟨rfl, by omega⟩ ?_) | refine Exists.intro _ (And.intro rfl ?_) | refine And.intro rfl ?_ | refine And.intro ⟨rfl, rfl⟩ ?_ | ((refine And.intro (fun _ => ?_) (fun _ => ?_)) <;> try (exfalso; omega))))
      exact Exists.intro [] (And.intro (rfl) (And.intro trivial rfl))
    | true =>
      have hr : surR n m = (((2 * n : Nat) : Int), sj (2 * n) (fw (xa n m) (2 * n)) (2 * n), 0) := by simp [surR, hv, hp]
      rw [hp] at hpl
      rw [hr]
      have hs := s_ssur n m hm hn1 hn
      (repeat' (first | refine (hq).pure rfl ?_ | refine (hpl).pure rfl ?_ | refine (hs).pure rfl ?_ | refine Exists.intro (pcl n m) (And.intro ⟨pcl_len hm, pcl_all hm⟩ ?_) | refine Exists.intro (pcl (2 * n : Nat) (sj (2 * n) (fw (xa n m) (2 * n)) (2 * n))) (And.intro ⟨pcl_len sj_len, pcl_all sj_len⟩ ?_) | refine And.intro ⟨pcl_len sj_len, leR rfl, pcl_ones⟩ ?_ | refine Exists.intro (pcl (2 * n : Nat) (sj (2 * n) (fw (xa n m) (2 * n)) (2 * n))) (And.intro ⟨leR rfl, spl0 (leR rfl)⟩ ?_) | refine And.intro (neI rfl) ?_ | refine And.intro ⟨rfl, leR rfl, onesR rfl⟩ ?_ | refine And.intro ⟨rfl, leR rfl⟩ ?_ | refine draw_rule2 hfol (fun KK hKK => ?_) | refine hKK _ _ _ (by kernel_rfl) ?_ | refine region_rule (fun KK hKK => ?_) | refine hKK _ _ ?_ | refine And.intro (Eq.refl true) ?_ | refine Exists.intro _ (And.intro (wI (by omega)) ?_) | refine Exists.intro _ (And.intro (wU (by omega)) ?_) | refine Exists.intro _ (And.intro ⟨rfl, by omega⟩ ?_) | refine Exists.intro _ (And.intro rfl ?_) | refine And.intro rfl ?_ | refine And.intro ⟨rfl, rfl⟩ ?_ | ((refine And.intro (fun _ => ?_) (fun _ => ?_)) <;> try (exfalso; omega))))
      exact Exists.intro [] (And.intro (rfl) (And.intro trivial rfl))

theorem s_iSur (s : Int) (m : List Nat) (hm : m.length = 8) (hb : ∀ x ∈ m, x < 256) : Spec Try.prog n_i_SurroundingDiagram [pv s m] [] (prV (surR s m)) [] := by
  have hq := s_bad [(s, m)] (fun p hp => by simp at hp; subst hp; exact ⟨hm, hb⟩) (by simp)
  simp only [List.any_cons, List.any_nil, Bool.or_false] at hq
  refine SpecW.of_EV hf_i_SurroundingDiagram hc_i_SurroundingDiagram rfl rfl rfl fun w0 B ρ0 _ => ?_
  cases hv : isPi s m with
  | false =>
    have hr : surR s m = (0, List.replicate 16 0, 1) := by simp [surR, hv]
    rw [hv] at hq
    rw [hr]
    (repeat' (first | refine (hq).read [2] rfl ⟨rfl, trivial⟩ ?_ | refine Exists.intro (pcl s m) (And.intro ⟨pcl_len hm, pcl_all hm⟩ ?_) | refine And.intro ⟨pcl_len hm, mkL rfl⟩ ?_ | refine Exists.intro (rowP [(s, m)]) (And.intro (row1 (N := 9) (p := (s, m)) (mkL' rfl)) ?_) | refine Exists.intro (pcl 0 (List.replicate 16 0)) (And.intro ⟨leR rfl, rfl⟩ ?_) | refine Exists.intro (pcl 0 (List.replicate 16 0)) (And.intro ⟨rfl, rfl⟩ ?_) | refine And.intro (neI rfl) ?_ | refine And.intro ⟨rfl, leR rfl, onesR rfl⟩ ?_ | refine And.intro ⟨rfl, leR rfl⟩ ?_ | refine draw_rule2 hfol (fun KK hKK => ?_) | refine hKK _ _ _ (by kernel_rfl) ?_ | refine region_rule (fun KK hKK => ?_) | refine hKK _ _ ?_ | refine And.intro (Eq.refl true) ?_ | refine Exists.intro _ (And.intro (wI (by omega)) ?_) | refine Exists.intro _ (And.intro (wU (by omega)) ?_) | refine Exists.intro _ (And.intro ⟨rfl, by omega⟩ ?_) | refine Exists.intro _ (And.intro rfl ?_) | refine And.intro rfl ?_ | refine And.intro ⟨rfl, rfl⟩ ?_ | ((refine And.intro (fun _ => ?_) (fun _ => ?_)) <;> try (exfalso; omega))))
    exact Exists.intro [] (And.intro (rfl) (And.intro trivial rfl))
  | true =>
  rw [hv] at hq
  obtain ⟨n, rfl, hn1, hn⟩ := isPi_size hv
  have hpl := s_iplanar n m hm hb hn
  cases hp : plB n m with
  | false =>
    have hr : surR n m = (0, List.replicate 16 0, 5) := by simp [surR, hv, hp]
    rw [hp] at hpl
    rw [hr]
    (repeat' (first | refine (hq).read [2] rfl ⟨rfl, trivial⟩ ?_ | refine (hpl).read [0] rfl ⟨rfl, trivial⟩ ?_ | refine Exists.intro (pcl n m) (And.intro ⟨pcl_len hm, pcl_all hm⟩ ?_) | refine And.intro ⟨pcl_len hm, mkL rfl⟩ ?_ | refine Exists.intro (rowP [((n : Int), m)]) (And.intro (row1 (N := 9) (p := ((n : Int), m)) (mkL' rfl)) ?_) | refine Exists.intro (pcl 0 (List.replicate 16 0)) (And.intro ⟨leR rfl, rfl⟩ ?_) | refine Exists.intro (pcl 0 (List.replicate 16 0)) (And.intro ⟨rfl, rfl⟩ ?_) | refine And.intro (neI rfl) ?_ | refine And.intro ⟨rfl, leR rfl, onesR rfl⟩ ?_ | refine And.intro ⟨rfl, leR rfl⟩ ?_ | refine draw_rule2 hfol (fun KK hKK => ?_) | refine hKK _ _ _ (by kernel_rfl) ?_ | refine region_rule (fun KK hKK => ?_) | refine hKK _ _ ?_ | refine And.intro (Eq.refl true) ?_ | refine Exists.intro _ (And.intro (wI (by omega)) ?_) | refine Exists.intro _ (And.intro (wU (by omega)) ?_) | refine Exists.intro _ (And.intro ⟨rfl, by omega⟩ ?_) | refine Exists.intro _ (And.intro rfl ?_) | refine And.intro rfl ?_ | refine And.intro ⟨rfl, rfl⟩ ?_ | ((refine And.intro (fun _ => ?_) (fun _ => ?_)) <;> try (exfalso; omega))))
    exact Exists.intro [] (And.intro (rfl) (And.intro trivial rfl))
  | true =>
  have hl : ∀ i, i < 2 * n → fw (xa n m) (2 * n) i < 2 * n := fun i hi => fw_lt (by omega) hi
  have hinj : ∀ i j, i < 2 * n → j < 2 * n → fw (xa n m) (2 * n) i = fw (xa n m) (2 * n) j → i = j := fun i j hi hj h => fw_inj1 (by omega) hi hj h
  have hr : surR n m = (((2 * n : Nat) : Int), jD (2 * n) (oS (fw (xa n m) (2 * n)) (2 * n)) (2 * (2 * n)), 0) := by
    simp only [surR, hv, if_true, Int.toNat_natCast, hp]; rw [sur_eq (by omega) hl hinj]
  rw [hp] at hpl
  rw [hr]
  have har := s_around n m hm hn
  have e1 : IntKind.i64.wrap (2 * ((2 * n : Nat) : Int)) = ((2 * (2 * n) : Nat) : Int) := wC (by omega) (by omega)
  (repeat' (first | refine (hq).read [2] rfl ⟨rfl, trivial⟩ ?_ | refine (hpl).read [0] rfl ⟨rfl, trivial⟩ ?_ | refine (har).make [0] rfl ⟨rfl, trivial⟩ ?_ | refine Exists.intro _ (And.intro e1 ?_) | refine Exists.intro (pcl n m) (And.intro ⟨pcl_len hm, pcl_all hm⟩ ?_) | refine And.intro ⟨pcl_len hm, mkL rfl⟩ ?_ | refine Exists.intro (rowP [((n : Int), m)]) (And.intro (row1 (N := 9) (p := ((n : Int), m)) (mkL' rfl)) ?_) | refine Exists.intro (2 * (2 * n)) (Exists.intro (il (fun _ => 0) (2 * (2 * n))) (And.intro ⟨rfl, rfl, by omega, by omega, mk_il⟩ ?_)) | refine And.intro (neI rfl) ?_ | refine And.intro ⟨rfl, leR rfl, onesR rfl⟩ ?_ | refine And.intro ⟨rfl, leR rfl⟩ ?_ | refine draw_rule2 hfol (fun KK hKK => ?_) | refine hKK _ _ _ (by kernel_rfl) ?_ | refine region_rule (fun KK hKK => ?_) | refine hKK _ _ ?_ | refine And.intro (Eq.refl true) ?_ | refine Exists.intro _ (And.intro (wI (by omega)) ?_) | refine Exists.intro _ (And.intro (wU (by omega)) ?_) | refine Exists.intro _ (And.intro ⟨rfl, by omega⟩ ?_) | refine Exists.intro _ (And.intro rfl ?_) | refine And.intro rfl ?_ | refine And.intro ⟨rfl, rfl⟩ ?_ | ((refine And.intro (fun _ => ?_) (fun _ => ?_)) <;> try (exfalso; omega))))
  refine loop_rule (α := Nat) (fun k => k ≤ 2 * n)
    (fun k => [(1, .ptr 0 0), (2, .ptr 1 0), (4, .sl 2), (5, .sl 3), (21, vi (2 * n : Nat)), (22, vi k)])
    (fun k => [.pc (pcl n m) T_i_Partition, .pc (pcl 0 (List.replicate 16 0)) T_i_Diagram, .pr T_uint8 1 (2 * n) (ul (xa n m) (2 * n)), .pr T_int 1 (2 * (2 * n)) (il (oI (oS (fw (xa n m) (2 * n)) k)) (2 * (2 * n)))]) (fun k => 2 * n - k) 0 [0, 1, 3, 4]
    (by omega) ⟨⟨rfl, rfl, rfl, rfl, rfl, rfl, trivial⟩, ⟨rfl, rfl, rfl, rfl, trivial⟩, rfl⟩ ?_
  rintro k g hk
  by_cases h9 : k = 2 * n
  · subst h9
    have hj := VE.s_joined (2 * n) (oS (fw (xa n m) (2 * n)) (2 * n)) (by omega) (by omega) (oS_lt hl hinj)
    have e2 : IntKind.i64.wrap (2 * (n : Int)) = ((2 * n : Nat) : Int) := wC (by omega) (by omega)
    (repeat' (first | refine (s_n n m).read [0] rfl ⟨rfl, trivial⟩ ?_ | refine Exists.intro _ (And.intro e2 ?_) | refine (hj).read [3] rfl ⟨rfl, trivial⟩ ?_ | refine Exists.intro (pcl (2 * n : Nat) (jD (2 * n) (oS (fw (xa n m) (2 * n)) (2 * n)) (2 * (2 * n)))) (And.intro ⟨pcl_len (jD_len _), pcl_all (jD_len _)⟩ ?_) | refine And.intro ⟨pcl_len (jD_len _), leR rfl, pcl_ones⟩ ?_ | refine Exists.intro (pcl (2 * n : Nat) (jD (2 * n) (oS (fw (xa n m) (2 * n)) (2 * n)) (2 * (2 * n)))) (And.intro ⟨leR rfl, spl0 (leR rfl)⟩ ?_) | refine And.intro (neI rfl) ?_ | refine And.intro ⟨rfl, leR rfl, onesR rfl⟩ ?_ | refine And.intro ⟨rfl, leR rfl⟩ ?_ | refine draw_rule2 hfol (fun KK hKK => ?_) | refine hKK _ _ _ (by kernel_rfl) ?_ | refine region_rule (fun KK hKK => ?_) | refine hKK _ _ ?_ | refine And.intro (Eq.refl true) ?_ | refine Exists.intro _ (And.intro (wI (by omega)) ?_) | refine Exists.intro _ (And.intro (wU (by omega)) ?_) | refine Exists.intro _ (And.intro ⟨rfl, by omega⟩ ?_) | refine Exists.intro _ (And.intro rfl ?_) | refine And.intro rfl ?_ | refine And.intro ⟨rfl, rfl⟩ ?_ | ((refine And.intro (fun _ => ?_) (fun _ => ?_)) <;> try (exfalso; omega))))
    exact Exists.intro [] (And.intro (rfl) (And.intro trivial rfl))
  have hkl : k < 2 * n := by omega
  have hlk := hl k hkl
  have hfo := s_following (xa n m) (2 * n) k (by omega) (by omega) hkl
  generalize hnx : fw (xa n m) (2 * n) k = nx at hfo hlk
  have hoS : oS (fw (xa n m) (2 * n)) (k + 1) = upd1 (upd1 (oS (fw (xa n m) (2 * n)) k) (2 * k + 1) (2 * nx)) (2 * nx) (2 * k + 1) := by rw [← hnx]; rfl
  have eK : IntKind.i64.wrap (2 * (k : Int)) = ((2 * k : Nat) : Int) := wC (by omega) (by omega)
  have eK1 : IntKind.i64.wrap (((2 * k : Nat) : Int) + 1) = ((2 * k + 1 : Nat) : Int) := wC (by omega) (by omega)
  have eN : IntKind.i64.wrap (2 * (nx : Int)) = ((2 * nx : Nat) : Int) := wC (by omega) (by omega)
  (repeat' (first | refine (hfo).read [2] rfl ⟨rfl, trivial⟩ ?_ | refine Exists.intro _ (And.intro eK ?_) | refine Exists.intro _ (And.intro eK1 ?_) | refine Exists.intro _ (And.intro eN ?_) | refine Exists.intro (il (oI (upd1 (oS (fw (xa n m) (2 * n)) k) (2 * k + 1) (2 * nx))) (2 * (2 * n))) (And.intro ⟨by rw [il_len]; omega, il_set (fun j _ => oI_upd j)⟩ ?_) | refine Exists.intro (il (oI (oS (fw (xa n m) (2 * n)) (k + 1))) (2 * (2 * n))) (And.intro ⟨by rw [il_len]; omega, by rw [hoS]; exact il_set (fun j _ => oI_upd j)⟩ ?_) | refine And.intro (neI rfl) ?_ | refine And.intro ⟨rfl, leR rfl, onesR rfl⟩ ?_ | refine And.intro ⟨rfl, leR rfl⟩ ?_ | refine draw_rule2 hfol (fun KK hKK => ?_) | refine hKK _ _ _ (by kernel_rfl) ?_ | refine region_rule (fun KK hKK => ?_) | refine hKK _ _ ?_ | refine And.intro (Eq.refl true) ?_ | refine Exists.intro _ (And.intro (wI (by omega)) ?_) | refine Exists.intro _ (And.intro (wU (by omega)) ?_) | refine Exists.intro _ (And.intro ⟨rfl, by omega⟩ ?_) | refine Exists.intro _ (And.intro rfl ?_) | refine And.intro rfl ?_ | refine And.intro ⟨rfl, rfl⟩ ?_ | ((refine And.intro (fun _ => ?_) (fun _ => ?_)) <;> try (exfalso; omega))))
  refine Exists.intro (k + 1) (Exists.intro [0, 1, 2, 3] (And.intro ⟨by omega, (by show 2 * n - (k + 1) < 2 * n - k; omega)⟩ ⟨⟨rfl, rfl, rfl, rfl, rfl, rfl, trivial⟩, ⟨rfl, rfl, rfl, rfl, trivial⟩, rfl⟩))

theorem s_lawSur (s : Int) (m : List Nat) (hm : m.length = 8) (hb : ∀ x ∈ m, x < 256) : Spec Try.prog n_l_FnExactSurroundingDiagram [pv s m] [] (vb true) [] := by
  have h1 := s_sSur s m hm hb
  have h2 := s_iSur s m hm hb
  have hl := surR_len s m
  generalize surR s m = p at h1 h2 hl
  have he := VE.s_eqD p.1 p.2.1 hl
  refine SpecW.of_EV hf_l_FnExactSurroundingDiagram hc_l_FnExactSurroundingDiagram rfl rfl rfl fun w0 B ρ0 _ => ?_
  (repeat' (first | refine (s_toP s m hm).pure rfl ?_ | refine (h1).pure rfl ?_ | refine (h2).pure rfl ?_ | refine (he).pure rfl ?_ | refine Exists.intro (pcl p.1 p.2.1) (And.intro ⟨pcl_len hl, pcl_all hl⟩ ?_) | refine And.intro ⟨pcl_len hl, leR rfl, pcl_ones⟩ ?_ | refine Exists.intro (pcl p.1 p.2.1) (And.intro ⟨leR rfl, spl0 (leR rfl)⟩ ?_) | refine Exists.intro (pcl s m) (And.intro ⟨pcl_len hm, pcl_all hm⟩ ?_) | refine And.intro (fun _ => ?_) (fun h => absurd rfl h) | refine And.intro (neI rfl) ?_ | refine And.intro ⟨rfl, leR rfl, onesR rfl⟩ ?_ | refine And.intro ⟨rfl, leR rfl⟩ ?_ | refine draw_rule2 hfol (fun KK hKK => ?_) | refine hKK _ _ _ (by kernel_rfl) ?_ | refine region_rule (fun KK hKK => ?_) | refine hKK _ _ ?_ | refine And.intro (Eq.refl true) ?_ | refine Exists.intro _ (And.intro (wI (by omega)) ?_) | refine Exists.intro _ (And.intro (wU (by omega)) ?_) | refine Exists.intro _ (And.intro ⟨rfl, by omega⟩ ?_) | refine Exists.intro _ (And.intro rfl ?_) | refine And.intro rfl ?_ | refine And.intro ⟨rfl, rfl⟩ ?_ | ((refine And.intro (fun _ => ?_) (fun _ => ?_)) <;> try (exfalso; omega))))
  exact finP rfl
end Go.Proofs.Ytpangmameocfmaa.VE.P
