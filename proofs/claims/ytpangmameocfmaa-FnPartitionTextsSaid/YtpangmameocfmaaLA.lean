/- Contracts of functions of the given program, for all arguments that the contract names; see each theorem. -/
import Derived.Test.YtpangmameocfmaaEd
import Derived.Test.YtpangmameocfmaaU1
import Derived.Test.YtpangmameocfmaaVE4
set_option linter.all false
namespace Go.Proofs.Ytpangmameocfmaa.VE
open Go
set_option maxRecDepth 100000

/-! plain: the numbers of the draws do not all leave the remainder 0 modulo 3 -/
theorem pigeonN : ∀ (B : Nat) (l : List Nat), l.Nodup → (∀ x ∈ l, x < B) → l.length ≤ B
  | 0, l, _, h => by
    cases l with
    | nil => simp
    | cons a r => exact absurd (h a (by simp)) (by omega)
  | B + 1, l, hn, h => by
    by_cases hb : B ∈ l
    · have h1 := List.length_erase_of_mem hb
      have h2 := pigeonN B (l.erase B) (hn.erase B) fun x hx => by
        have h3 := h x (List.mem_of_mem_erase hx)
        have h4 : x ≠ B := fun e => by subst e; exact (List.Nodup.not_mem_erase hn) hx
        omega
      omega
    · have := pigeonN B l hn fun x hx => by
        have h3 := h x hx
        have h4 : x ≠ B := fun e => hb (e ▸ hx)
        omega
      omega
section
variable (A C M : Nat)
def lcg (h : Nat) : Nat := (h * A + C) % M
def lcgn : Nat → Nat → Nat
  | 0, h => h
  | k + 1, h => lcgn k (lcg A C M h)
theorem lcgn_succ (k h : Nat) : lcgn A C M (k + 1) h = lcgn A C M k (lcg A C M h) := rfl
theorem lcgn_add : ∀ (j k h : Nat), lcgn A C M (j + k) h = lcgn A C M k (lcgn A C M j h)
  | 0, k, h => by rw [Nat.zero_add]; rfl
  | j + 1, k, h => by rw [Nat.succ_add]; exact lcgn_add j k (lcg A C M h)
/-- 2 to the power of m steps at once. -/
def lcgp : Nat → Nat × Nat
  | 0 => (A, C)
  | m + 1 => ((lcgp m).1 * (lcgp m).1 % M, ((lcgp m).1 * (lcgp m).2 + (lcgp m).2) % M)
theorem lcgn_pow : ∀ m h, lcgn A C M (2 ^ m) h = ((lcgp A C M m).1 * h + (lcgp A C M m).2) % M
  | 0, h => by
    rw [Nat.pow_zero, show lcgn A C M 1 h = lcg A C M h from rfl]
    unfold lcg lcgp; rw [Nat.mul_comm]
  | m + 1, h => by
    rw [Nat.pow_succ, Nat.mul_two, lcgn_add, lcgn_pow m, lcgn_pow m]
    simp only [lcgp]
    generalize (lcgp A C M m).1 = a
    generalize (lcgp A C M m).2 = c
    have e1 : (a * ((a * h + c) % M) + c) % M = (a * (a * h + c) + c) % M := by
      rw [Nat.add_mod, Nat.mul_mod, Nat.mod_mod, ← Nat.mul_mod, ← Nat.add_mod]
    have e2 : (a * a % M * h + (a * c + c) % M) % M = (a * a * h + (a * c + c)) % M := by
      rw [Nat.add_mod, Nat.mul_mod, Nat.mod_mod, ← Nat.mul_mod, Nat.mod_mod, ← Nat.add_mod]
    rw [e1, e2]
    congr 1
    rw [Nat.mul_add, Nat.mul_assoc, Nat.add_assoc]
/-- Behind 2 to the power of m steps the low bits are the same, and a number is added to the high ones. -/
theorem lcg_big {P a c m : Nat} (h1 : (lcgp A C M m).1 = 1 + 4 * P * a) (h2 : (lcgp A C M m).2 = P * (2 * c + 1)) (h : Nat) :
    lcgn A C M (2 ^ m) h = (h + P * (4 * a * h + (2 * c + 1))) % M := by
  rw [lcgn_pow, h1, h2]
  congr 1
  have e1 : (1 + 4 * P * a) * h = h + P * (4 * a * h) := by
    rw [Nat.add_mul, Nat.one_mul, Nat.mul_comm 4 P, Nat.mul_assoc P, Nat.mul_assoc P]
  rw [e1, Nat.add_assoc, ← Nat.mul_add]
end
def lcgv (P Q h : Nat) : Nat := h / P % Q
theorem lcgv_big {A C P Q R T a c : Nat} (hP : 0 < P) (hQP : Q ∣ P) (hb : ∀ h, lcgn A C (P * (Q * R)) T h = (h + P * (4 * a * h + (2 * c + 1))) % (P * (Q * R))) (h : Nat) : ∀ t,
    lcgn A C (P * (Q * R)) (t * T) h % P = h % P ∧ lcgv P Q (lcgn A C (P * (Q * R)) (t * T) h) = (lcgv P Q h + t * (4 * a * h + (2 * c + 1))) % Q
  | 0 => by
    rw [Nat.zero_mul]
    exact ⟨rfl, by simp only [lcgn, Nat.zero_mul, Nat.add_zero, lcgv, Nat.mod_mod]⟩
  | t + 1 => by
    obtain ⟨h1, h2⟩ := lcgv_big hP hQP hb h t
    rw [Nat.succ_mul, lcgn_add, hb]
    generalize lcgn A C (P * (Q * R)) (t * T) h = g at h1 h2
    have hw : (4 * a * g + (2 * c + 1)) % Q = (4 * a * h + (2 * c + 1)) % Q := by
      have e0 : g % Q = h % Q := by
        rw [← Nat.mod_mod_of_dvd g hQP, h1, Nat.mod_mod_of_dvd h hQP]
      have e1 : (4 * a * g) % Q = (4 * a * h) % Q := by rw [Nat.mul_mod, e0, ← Nat.mul_mod]
      rw [Nat.add_mod, e1, ← Nat.add_mod]
    generalize 4 * a * g + (2 * c + 1) = wg at hw
    have e3 : (g + P * wg) % (P * (Q * R)) % P = g % P := by
      rw [Nat.mod_mul_right_mod, Nat.add_mul_mod_self_left]
    have e4 : lcgv P Q ((g + P * wg) % (P * (Q * R))) = (lcgv P Q g + wg) % Q := by
      unfold lcgv
      rw [Nat.mod_mul_right_div_self, Nat.mod_mul_right_mod, Nat.add_mul_div_left _ _ hP]
      exact (Nat.mod_add_mod _ _ _).symm
    refine ⟨by rw [e3, h1], ?_⟩
    rw [e4, h2]
    generalize 4 * a * h + (2 * c + 1) = w at hw
    rw [Nat.succ_mul]
    generalize t * w = x
    generalize lcgv P Q h = y
    rw [Nat.mod_add_mod, Nat.add_mod, hw, ← Nat.add_mod, Nat.add_assoc]
/-- Multiples of a number without a common divisor meet each remainder once. -/
theorem cop_inj {N w v i j : Nat} (hw : Nat.Coprime w N) (hi : i < N) (hj : j < N) (h : (v + i * w) % N = (v + j * w) % N) : i = j := by
  have key : ∀ i j, i ≤ j → j < N → (v + i * w) % N = (v + j * w) % N → i = j := by
    intro i j hij hj h
    have h1 : N ∣ (v + j * w) - (v + i * w) := Nat.dvd_of_mod_eq_zero (Nat.sub_mod_eq_zero_of_mod_eq h.symm)
    have h2 : (v + j * w) - (v + i * w) = (j - i) * w := by rw [Nat.sub_mul]; omega
    rw [h2] at h1
    have h3 : N ∣ j - i := (Nat.Coprime.symm hw).dvd_of_dvd_mul_right h1
    have h4 := Nat.eq_zero_of_dvd_of_lt h3 (by omega)
    omega
  rcases Nat.le_total i j with h' | h'
  · exact key i j h' hj h
  · exact (key j i h' hi h.symm).symm
theorem third {N w v : Nat} (hw : Nat.Coprime w N) (hN : 0 < N) : ((List.range N).filter fun t => (v + t * w) % N % 3 == 0).length ≤ (N + 2) / 3 := by
  have := pigeonN ((N + 2) / 3) (((List.range N).filter fun t => (v + t * w) % N % 3 == 0).map fun t => (v + t * w) % N / 3) (by
    rw [List.Nodup, List.pairwise_map]
    refine List.Pairwise.imp_of_mem ?_ (List.Pairwise.filter _ List.nodup_range)
    intro i j hi hj hij he
    simp only [List.mem_filter, List.mem_range, beq_iff_eq] at hi hj
    refine hij (cop_inj (v := v) hw hi.1 hj.1 ?_)
    have h1 := hi.2
    have h2 := hj.2
    generalize (v + i * w) % N = x at *
    generalize (v + j * w) % N = y at *
    omega) (by
    intro x hx
    obtain ⟨t, ht, rfl⟩ := List.mem_map.1 hx
    have := Nat.mod_lt (v + t * w) hN
    generalize (v + t * w) % N = x at *
    omega)
  simpa using this
theorem two_thirds {N w v w' v' : Nat} (hw : Nat.Coprime w N) (hw' : Nat.Coprime w' N) (hN : 4 < N) : ∃ t, t < N ∧ (v + t * w) % N % 3 ≠ 0 ∧ (v' + t * w') % N % 3 ≠ 0 := by
  refine Classical.byContradiction fun hno => ?_
  have h1 := third (v := v) hw (by omega)
  have h2 := third (v := v') hw' (by omega)
  have h3 : (List.range N).length ≤ ((List.range N).filter fun t => (v + t * w) % N % 3 == 0).length + ((List.range N).filter fun t => (v' + t * w') % N % 3 == 0).length := by
    rw [← List.countP_eq_length_filter, ← List.countP_eq_length_filter]
    have : ∀ l : List Nat, (∀ t ∈ l, t < N) → l.length ≤ l.countP (fun t => (v + t * w) % N % 3 == 0) + l.countP fun t => (v' + t * w') % N % 3 == 0 := by
      intro l
      induction l with
      | nil => intro _; simp
      | cons t r ih =>
        intro hl
        have := ih fun t ht => hl t (by simp [ht])
        have htN := hl t (by simp)
        simp only [List.length_cons, List.countP_cons]
        by_cases ha : (v + t * w) % N % 3 = 0
        · simp only [ha, beq_self_eq_true, if_true]; omega
        · by_cases hb : (v' + t * w') % N % 3 = 0
          · simp only [hb, beq_self_eq_true, if_true]; omega
          · exact absurd ⟨t, htN, ha, hb⟩ hno
    exact this _ fun t ht => List.mem_range.1 ht
  rw [List.length_range] at h3
  omega
/-- Two tests, two steps from each other, both of which end. -/
theorem lcg_ends {A C P Q R H M T a c : Nat} (hM : M = P * (Q * R)) (hT : T = 2 * H) (hP : 0 < P) (hQP : Q ∣ P) (hQ : 4 < Q) (hb : ∀ h, lcgn A C M T h = (h + P * (4 * a * h + (2 * c + 1))) % M) (hodd : ∀ x, Nat.Coprime (4 * a * x + (2 * c + 1)) Q) (h : Nat) :
    ∃ J, J < Q * H + 1 ∧ lcgv P Q (lcgn A C M (2 * J) h) % 3 ≠ 0 ∧ lcgv P Q (lcgn A C M (2 * J + 2) h) % 3 ≠ 0 := by
  subst hM hT
  obtain ⟨t, ht, h1, h2⟩ := two_thirds (v := lcgv P Q h) (v' := lcgv P Q (lcgn A C (P * (Q * R)) 2 h)) (hodd h) (hodd (lcgn A C (P * (Q * R)) 2 h)) hQ
  have e : 2 * (t * H) = t * (2 * H) := by rw [← Nat.mul_assoc, ← Nat.mul_assoc, Nat.mul_comm 2 t]
  refine ⟨t * H, ?_, ?_, ?_⟩
  · have := Nat.mul_le_mul_right H (Nat.le_of_lt ht); omega
  · rw [e, (lcgv_big hP hQP hb h t).2]; exact h1
  · rw [e, Nat.add_comm, lcgn_add, (lcgv_big hP hQP hb _ t).2]; exact h2
theorem odd_cop (a c x k : Nat) : Nat.Coprime (4 * a * x + (2 * c + 1)) (2 ^ k) := by
  refine Nat.Coprime.pow_right k ?_
  rw [Nat.Coprime, Nat.gcd_comm, Nat.gcd_rec]
  rw [show (4 * a * x + (2 * c + 1)) % 2 = 1 from by rw [Nat.mul_assoc]; omega]
  decide

/-! the source of the draws -/
def lc (h : Nat) : Nat := lcg 6364136223846793005 1442695040888963407 18446744073709551616 h
def lcn (k h : Nat) : Nat := lcgn 6364136223846793005 1442695040888963407 18446744073709551616 k h
def lcv (h : Nat) : Nat := lcgv 8589934592 16777216 h
theorem lcn_add (j k h : Nat) : lcn (j + k) h = lcn k (lcn j h) := lcgn_add _ _ _ j k h
theorem lcn_succ (k h : Nat) : lcn (k + 1) h = lcn k (lc h) := lcgn_succ _ _ _ k h
theorem lc_lt (h : Nat) : lc h < 18446744073709551616 := Nat.mod_lt _ (by decide)
theorem lcp33 : (lcgp 6364136223846793005 1442695040888963407 18446744073709551616 33).1 = 1 + 4 * 8589934592 * ((lcgp 6364136223846793005 1442695040888963407 18446744073709551616 33).1 / 34359738368) ∧
    (lcgp 6364136223846793005 1442695040888963407 18446744073709551616 33).2 = 8589934592 * (2 * ((lcgp 6364136223846793005 1442695040888963407 18446744073709551616 33).2 / 17179869184) + 1) := by
  decide +kernel
theorem lc_ends (h : Nat) : ∃ J, J < 16777216 * 4294967296 + 1 ∧ lcv (lcn (2 * J) h) % 3 ≠ 0 ∧ lcv (lcn (2 * J + 2) h) % 3 ≠ 0 :=
  lcg_ends (R := 128) (H := 4294967296) (by decide) (by decide) (by decide) (by decide) (by decide) (fun h => lcg_big 6364136223846793005 1442695040888963407 18446744073709551616 lcp33.1 lcp33.2 h) (fun x => odd_cop _ _ x 24) h
end Go.Proofs.Ytpangmameocfmaa.VE
namespace Go.Proofs.Ytpangmameocfmaa.VE
open Go
set_option maxHeartbeats 800000
set_option maxRecDepth 100000

/-! the numbers that the draws hand out -/
theorem wrU (a : Int) : IntKind.u64.wrap a = a % 18446744073709551616 := by simp [IntKind.wrap, IntKind.signed, IntKind.bits]
theorem mulm {h A M : Nat} : ((h : Int) * (A : Int)) % (M : Int) = ((h * A % M : Nat) : Int) := by rw [Int.natCast_emod, Int.natCast_mul]
theorem addm {x C M : Nat} : (((x : Nat) : Int) + (C : Int)) % (M : Int) = (((x + C) % M : Nat) : Int) := by rw [Int.natCast_emod, Int.natCast_add]
def hm (h : Nat) : Nat := h * 6364136223846793005 % 18446744073709551616
theorem hm_lc (h : Nat) : (hm h + 1442695040888963407) % 18446744073709551616 = lc h := by
  show (h * 6364136223846793005 % 18446744073709551616 + 1442695040888963407) % 18446744073709551616 = (h * 6364136223846793005 + 1442695040888963407) % 18446744073709551616
  rw [Nat.mod_add_mod]
theorem lc_w1 (h : Nat) : IntKind.u64.wrap ((h : Int) * 6364136223846793005) = ((hm h : Nat) : Int) := (wrU _).trans (mulm (h := h) (A := 6364136223846793005) (M := 18446744073709551616))
theorem lc_w2 (h : Nat) : IntKind.u64.wrap (((hm h : Nat) : Int) + 1442695040888963407) = ((lc h : Nat) : Int) := (wrU _).trans ((addm (x := hm h) (C := 1442695040888963407) (M := 18446744073709551616)).trans (by rw [hm_lc]))
theorem shr33 (u : Nat) : (u : Int).fdiv (2 ^ (min (33 : Int).toNat 64)) = ((u / 8589934592 : Nat) : Int) := by
  rw [show (min (33 : Int).toNat 64) = 33 from rfl, Int.fdiv_eq_ediv_of_nonneg _ (by decide)]
  rw [Int.natCast_ediv]; rfl
theorem and24 (x : Nat) (h : x < 9223372036854775808) : (BitVec.ofInt 64 (x : Int) &&& BitVec.ofInt 64 16777215).toNat = x % 16777216 := by
  rw [BitVec.toNat_and]
  have h1 : (BitVec.ofInt 64 (x : Int)).toNat = x := by
    rw [BitVec.ofInt_natCast, BitVec.toNat_ofNat]
    omega
  have h2 : (BitVec.ofInt 64 16777215).toNat = 2 ^ 24 - 1 := by decide
  rw [h1, h2, Nat.and_two_pow_sub_one_eq_mod]
theorem and24U (x : Nat) (h : x < 9223372036854775808) : IntKind.u64.wrap (((BitVec.ofInt 64 (x : Int) &&& BitVec.ofInt 64 16777215).toNat : Nat) : Int) = ((x % 16777216 : Nat) : Int) := by
  rw [and24 x h, wrU]; omega
attribute [local irreducible] IntKind.wrap
abbrev srcO (v : Value) (at' h : Nat) : O := .pc [v, .int .i64 at', .int .u64 h] T_s_l01Source
theorem s_next0 (v : Value) (at' h : Nat) (n : Int) (hn : n < 1) : Spec Try.prog n_s_l01Next [.ptr 0 0, vi n] [srcO v at' h] (vi 0) [srcO v at' h] := by
  refine SpecW.of_EV hf_s_l01Next hc_s_l01Next rfl rfl rfl fun w0 B ρ0 _ => ?_
  (repeat' (first | refine And.intro (neI rfl) ?_ | refine And.intro ⟨rfl, leR rfl, onesR rfl⟩ ?_ | refine And.intro ⟨rfl, leR rfl⟩ ?_ | refine draw_rule2 hfol (fun KK hKK => ?_) | refine hKK _ _ _ (by kernel_rfl) ?_ | refine region_rule (fun KK hKK => ?_) | refine hKK _ _ ?_ | refine And.intro (Eq.refl true) ?_ | refine Exists.intro _ (And.intro (wI (by omega)) ?_) | refine Exists.intro _ (And.intro (wU (by omega)) ?_) | refine Exists.intro _ (And.intro ⟨rfl, by omega⟩ ?_) | refine Exists.intro _ (And.intro rfl ?_) | refine And.intro rfl ?_ | refine And.intro ⟨rfl, rfl⟩ ?_ | ((refine And.intro (fun _ => ?_) (fun _ => ?_)) <;> try (exfalso; omega))))
  exact Exists.intro [0] (And.intro (rfl) (And.intro ⟨rfl, trivial⟩ rfl))
/-- The next number: of a code's length N and bytes g. -/
def nxV (g : Nat → Int) (N at' h : Nat) : Nat := lcv (lc h) + (if at' < N then (g at').toNat else 0)
theorem s_next {W : World → (Nat → Prop) → Prop} {v : Value} {g : Nat → Int} {N : Nat} (hA : ArgK .u8 W v g N) (hN : N ≤ 1048576) (hg : ∀ j, j < N → 0 ≤ g j ∧ g j < 256) (at' h : Nat) (hat : at' ≤ N) (n : Nat) (hn : 1 ≤ n) :
    SpecW Try.prog W n_s_l01Next [.ptr 0 0, vi n] [srcO v at' h] (vi (nxV g N at' h % n : Nat)) [srcO v (if at' < N then at' + 1 else at') (lc h)] := by
  have w1 := lc_w1 h
  have w2 := lc_w2 h
  have hl := lc_lt h
  have hx : nxV g N at' h = lcv (lc h) + (if at' < N then (g at').toNat else 0) := rfl
  have hlv : lcv (lc h) = lc h / 8589934592 % 16777216 := rfl
  rw [hlv] at hx
  generalize lc h = H at w2 hl hx
  generalize nxV g N at' h = X at hx
  generalize hm h = h2 at w1 w2
  have w3 := shr33 H
  have w4 := and24U (H / 8589934592) (by omega)
  generalize hq : H / 8589934592 % 16777216 = q at w4 hx
  generalize H / 8589934592 = H2 at w3 w4 hq
  have hq2 : q < 16777216 := by rw [← hq]; exact Nat.mod_lt _ (by decide)
  have hn0 : (n : Int) ≠ 0 := by omega
  have w5 : IntKind.i64.wrap (q : Int) = (q : Int) := wI (by omega)
  have hnm : (X % n : Nat) < n := Nat.mod_lt _ (by omega)
  by_cases hlt : at' < N
  rotate_left
  · rw [if_neg hlt, Nat.add_zero] at hx
    subst hx
    rw [if_neg hlt]
    obtain ⟨a, cap, rfl⟩ := hA.form
    have w6 : Int.tmod (X : Int) (n : Int) = ((X % n : Nat) : Int) := tmN X n
    refine SpecW.of_EV hf_s_l01Next hc_s_l01Next rfl rfl rfl fun w0 B ρ0 hW => ?_
    (repeat' (first | refine Exists.intro _ (And.intro w1 ?_) | refine Exists.intro _ (And.intro w2 ?_) | refine And.intro (by omega) (Exists.intro _ (And.intro w3 ?_)) | refine Exists.intro _ (And.intro w4 ?_) | refine Exists.intro _ (And.intro w5 ?_) | refine Exists.intro _ (And.intro w6 ?_) | refine And.intro hn0 ?_ | refine Exists.intro [Value.slice a N cap, .int .i64 at', .int .u64 H] (And.intro ⟨leR rfl, rfl⟩ ?_) | refine And.intro (neI rfl) ?_ | refine And.intro ⟨rfl, leR rfl, onesR rfl⟩ ?_ | refine And.intro ⟨rfl, leR rfl⟩ ?_ | refine draw_rule2 hfol (fun KK hKK => ?_) | refine hKK _ _ _ (by kernel_rfl) ?_ | refine region_rule (fun KK hKK => ?_) | refine hKK _ _ ?_ | refine And.intro (Eq.refl true) ?_ | refine Exists.intro _ (And.intro (wI (by omega)) ?_) | refine Exists.intro _ (And.intro (wU (by omega)) ?_) | refine Exists.intro _ (And.intro ⟨rfl, by omega⟩ ?_) | refine Exists.intro _ (And.intro rfl ?_) | refine And.intro rfl ?_ | refine And.intro ⟨rfl, rfl⟩ ?_ | ((refine And.intro (fun _ => ?_) (fun _ => ?_)) <;> try (exfalso; omega))))
    exact Exists.intro [0] (And.intro (rfl) (And.intro ⟨rfl, trivial⟩ rfl))
  · rw [if_pos hlt] at hx
    rw [if_pos hlt]
    have hb := hg at' hlt
    have w6 : Int.tmod (X : Int) (n : Int) = ((X % n : Nat) : Int) := tmN X n
    have w7 : IntKind.i64.wrap (g at') = g at' := wI (by omega)
    have w8 : IntKind.i64.wrap ((q : Int) + g at') = (X : Int) := wC (by omega) (by omega)
    have w9 : IntKind.i64.wrap ((at' : Int) + 1) = ((at' + 1 : Nat) : Int) := wC (by omega) (by omega)
    rcases hA with ⟨a, cap, _, rfl, _⟩ | ⟨b, off, cap, cs, t, fr, rfl, rfl, hgc⟩
    · omega
    have hcell := hgc at' hlt
    refine SpecW.of_EV hf_s_l01Next hc_s_l01Next rfl rfl rfl fun w0 B ρ0 hW => ?_
    have hW : w0.heap[b]? = some (.cells cs t fr) ∧ ¬ B b := hW
    (repeat' (first | refine Exists.intro _ (And.intro w1 ?_) | refine Exists.intro _ (And.intro w2 ?_) | refine And.intro (by omega) (Exists.intro _ (And.intro w3 ?_)) | refine Exists.intro _ (And.intro w4 ?_) | refine Exists.intro _ (And.intro w5 ?_) | refine Exists.intro _ (And.intro w7 ?_) | refine Exists.intro _ (And.intro w8 ?_) | refine Exists.intro _ (And.intro w9 ?_) | refine Exists.intro _ (And.intro w6 ?_) | refine And.intro hn0 ?_ | refine Exists.intro [Value.slice (some ⟨b, off, none⟩) N cap, .int .i64 at', .int .u64 H] (And.intro ⟨leR rfl, rfl⟩ ?_) | refine Exists.intro [Value.slice (some ⟨b, off, none⟩) N cap, .int .i64 (at' + 1 : Nat), .int .u64 H] (And.intro ⟨leR rfl, rfl⟩ ?_) | refine Exists.intro (off + at') (And.intro (by omega) ?_) | refine Exists.intro cs (Exists.intro t (Exists.intro fr (And.intro hW ?_))) | refine Exists.intro _ (And.intro hcell ?_) | refine And.intro (neI rfl) ?_ | refine And.intro ⟨rfl, leR rfl, onesR rfl⟩ ?_ | refine And.intro ⟨rfl, leR rfl⟩ ?_ | refine draw_rule2 hfol (fun KK hKK => ?_) | refine hKK _ _ _ (by kernel_rfl) ?_ | refine region_rule (fun KK hKK => ?_) | refine hKK _ _ ?_ | refine And.intro (Eq.refl true) ?_ | refine Exists.intro _ (And.intro (wI (by omega)) ?_) | refine Exists.intro _ (And.intro (wU (by omega)) ?_) | refine Exists.intro _ (And.intro ⟨rfl, by omega⟩ ?_) | refine Exists.intro _ (And.intro rfl ?_) | refine And.intro rfl ?_ | refine And.intro ⟨rfl, rfl⟩ ?_ | ((refine And.intro (fun _ => ?_) (fun _ => ?_)) <;> try (exfalso; omega))))
    exact Exists.intro [0] (And.intro (rfl) (And.intro ⟨rfl, trivial⟩ rfl))
end Go.Proofs.Ytpangmameocfmaa.VE
namespace Go.Proofs.Ytpangmameocfmaa.VE
open Go
set_option maxHeartbeats 800000
set_option maxRecDepth 100000

def fm (h : Nat) : Nat := h * 1099511628211 % 18446744073709551616
/-- The hash of a code. -/
def fH (g : Nat → Int) (N : Nat) : Nat → Nat
  | 0 => 12511 + N
  | i + 1 => ((fm (fH g N i) + (g i).toNat) % 18446744073709551616 + 67) % 18446744073709551616
theorem fm_w (h : Nat) : IntKind.u64.wrap ((h : Int) * 1099511628211) = ((fm h : Nat) : Int) := (wrU _).trans (mulm (h := h) (A := 1099511628211) (M := 18446744073709551616))
theorem fa_w (x c : Nat) : IntKind.u64.wrap ((x : Int) + (c : Int)) = (((x + c) % 18446744073709551616 : Nat) : Int) := (wrU _).trans (addm (x := x) (C := c) (M := 18446744073709551616))
attribute [local irreducible] IntKind.wrap
theorem s_from {W : World → (Nat → Prop) → Prop} {v : Value} {g : Nat → Int} {N : Nat} (hA : ArgK .u8 W v g N) (hN : N ≤ 1048576) (hg : ∀ j, j < N → 0 ≤ g j ∧ g j < 256) :
    SpecW Try.prog W n_s_l01From [.raw v] [] (.ptr 0 0) [srcO v 0 (fH g N (min N 4096))] := by
  have w0' : IntKind.u64.wrap (N : Int) = (N : Int) := (wrU _).trans (by omega)
  have w1 : IntKind.u64.wrap (12511 + (N : Int)) = ((12511 + N : Nat) : Int) := (wrU _).trans (by omega)
  rcases hA with ⟨a, cap, rfl, rfl, rfl⟩ | ⟨b, off, cap, cs, t, fr, rfl, rfl, hgc⟩
  · refine SpecW.of_EV hf_s_l01From hc_s_l01From rfl rfl rfl fun wo B ρ0 hW => ?_
    (repeat' (first | refine Exists.intro _ (And.intro w0' ?_) | refine Exists.intro _ (And.intro w1 ?_) | refine Exists.intro [Value.slice a 0 cap, .int .i64 0, .int .u64 (12511 + 0 : Nat)] (And.intro ⟨leR rfl, rfl⟩ ?_) | refine And.intro (neI rfl) ?_ | refine And.intro ⟨rfl, leR rfl, onesR rfl⟩ ?_ | refine And.intro ⟨rfl, leR rfl⟩ ?_ | refine draw_rule2 hfol (fun KK hKK => ?_) | refine hKK _ _ _ (by kernel_rfl) ?_ | refine region_rule (fun KK hKK => ?_) | refine hKK _ _ ?_ | refine And.intro (Eq.refl true) ?_ | refine Exists.intro _ (And.intro (wI (by omega)) ?_) | refine Exists.intro _ (And.intro (wU (by omega)) ?_) | refine Exists.intro _ (And.intro ⟨rfl, by omega⟩ ?_) | refine Exists.intro _ (And.intro rfl ?_) | refine And.intro rfl ?_ | refine And.intro ⟨rfl, rfl⟩ ?_ | ((refine And.intro (fun _ => ?_) (fun _ => ?_)) <;> try (exfalso; omega))))
    refine loop_rule (α := Unit) (fun _ => True) (fun _ => [(0, .raw (.slice a 0 cap)), (3, .ptr 0 0), (4, vi 0)]) (fun _ => [srcO (.slice a 0 cap) 0 (12511 + 0)]) (fun _ => 0) () [0]
      trivial ⟨⟨rfl, rfl, rfl, trivial⟩, ⟨rfl, trivial⟩, rfl⟩ ?_
    rintro _ gg _
    (repeat' (first | refine And.intro (neI rfl) ?_ | refine And.intro ⟨rfl, leR rfl, onesR rfl⟩ ?_ | refine And.intro ⟨rfl, leR rfl⟩ ?_ | refine draw_rule2 hfol (fun KK hKK => ?_) | refine hKK _ _ _ (by kernel_rfl) ?_ | refine region_rule (fun KK hKK => ?_) | refine hKK _ _ ?_ | refine And.intro (Eq.refl true) ?_ | refine Exists.intro _ (And.intro (wI (by omega)) ?_) | refine Exists.intro _ (And.intro (wU (by omega)) ?_) | refine Exists.intro _ (And.intro ⟨rfl, by omega⟩ ?_) | refine Exists.intro _ (And.intro rfl ?_) | refine And.intro rfl ?_ | refine And.intro ⟨rfl, rfl⟩ ?_ | ((refine And.intro (fun _ => ?_) (fun _ => ?_)) <;> try (exfalso; omega))))
    exact Exists.intro [0] (And.intro (rfl) (And.intro ⟨rfl, trivial⟩ rfl))
  · refine SpecW.of_EV hf_s_l01From hc_s_l01From rfl rfl rfl fun wo B ρ0 hW => ?_
    have hW : wo.heap[b]? = some (.cells cs t fr) ∧ ¬ B b := hW
    (repeat' (first | refine Exists.intro _ (And.intro w0' ?_) | refine Exists.intro _ (And.intro w1 ?_) | refine Exists.intro [Value.slice (some ⟨b, off, none⟩) N cap, .int .i64 0, .int .u64 (12511 + N : Nat)] (And.intro ⟨leR rfl, rfl⟩ ?_) | refine And.intro (neI rfl) ?_ | refine And.intro ⟨rfl, leR rfl, onesR rfl⟩ ?_ | refine And.intro ⟨rfl, leR rfl⟩ ?_ | refine draw_rule2 hfol (fun KK hKK => ?_) | refine hKK _ _ _ (by kernel_rfl) ?_ | refine region_rule (fun KK hKK => ?_) | refine hKK _ _ ?_ | refine And.intro (Eq.refl true) ?_ | refine Exists.intro _ (And.intro (wI (by omega)) ?_) | refine Exists.intro _ (And.intro (wU (by omega)) ?_) | refine Exists.intro _ (And.intro ⟨rfl, by omega⟩ ?_) | refine Exists.intro _ (And.intro rfl ?_) | refine And.intro rfl ?_ | refine And.intro ⟨rfl, rfl⟩ ?_ | ((refine And.intro (fun _ => ?_) (fun _ => ?_)) <;> try (exfalso; omega))))
    refine loop_rule (α := Nat) (fun i => i ≤ min N 4096) (fun i => [(0, .raw (.slice (some ⟨b, off, none⟩) N cap)), (3, .ptr 0 0), (4, vi i)]) (fun i => [srcO (.slice (some ⟨b, off, none⟩) N cap) 0 (fH g N i)]) (fun i => min N 4096 - i) 0 [0]
      (by omega) ⟨⟨rfl, rfl, rfl, trivial⟩, ⟨rfl, trivial⟩, rfl⟩ ?_
    rintro i gg hi
    by_cases h9 : i = min N 4096
    · subst h9
      by_cases hm : N ≤ 4096
      · rw [Nat.min_eq_left hm] at hi ⊢
        (repeat' (first | refine And.intro (neI rfl) ?_ | refine And.intro ⟨rfl, leR rfl, onesR rfl⟩ ?_ | refine And.intro ⟨rfl, leR rfl⟩ ?_ | refine draw_rule2 hfol (fun KK hKK => ?_) | refine hKK _ _ _ (by kernel_rfl) ?_ | refine region_rule (fun KK hKK => ?_) | refine hKK _ _ ?_ | refine And.intro (Eq.refl true) ?_ | refine Exists.intro _ (And.intro (wI (by omega)) ?_) | refine Exists.intro _ (And.intro (wU (by omega)) ?_) | refine Exists.intro _ (And.intro ⟨rfl, by omega⟩ ?_) | refine Exists.intro _ (And.intro rfl ?_) | refine And.intro rfl ?_ | refine And.intro ⟨rfl, rfl⟩ ?_ | ((refine And.intro (fun _ => ?_) (fun _ => ?_)) <;> try (exfalso; omega))))
        exact Exists.intro [0] (And.intro (rfl) (And.intro ⟨rfl, trivial⟩ rfl))
      · rw [Nat.min_eq_right (by omega)] at hi ⊢
        (repeat' (first | refine And.intro (neI rfl) ?_ | refine And.intro ⟨rfl, leR rfl, onesR rfl⟩ ?_ | refine And.intro ⟨rfl, leR rfl⟩ ?_ | refine draw_rule2 hfol (fun KK hKK => ?_) | refine hKK _ _ _ (by kernel_rfl) ?_ | refine region_rule (fun KK hKK => ?_) | refine hKK _ _ ?_ | refine And.intro (Eq.refl true) ?_ | refine Exists.intro _ (And.intro (wI (by omega)) ?_) | refine Exists.intro _ (And.intro (wU (by omega)) ?_) | refine Exists.intro _ (And.intro ⟨rfl, by omega⟩ ?_) | refine Exists.intro _ (And.intro rfl ?_) | refine And.intro rfl ?_ | refine And.intro ⟨rfl, rfl⟩ ?_ | ((refine And.intro (fun _ => ?_) (fun _ => ?_)) <;> try (exfalso; omega))))
        exact Exists.intro [0] (And.intro (rfl) (And.intro ⟨rfl, trivial⟩ rfl))
    have hil : i < N := by omega
    have hil2 : i < 4096 := by omega
    have hb := hg i hil
    have hcell := hgc i hil
    obtain ⟨c, hc⟩ : ∃ c : Nat, g i = c := ⟨(g i).toNat, by omega⟩
    have hs : fH g N (i + 1) = ((fm (fH g N i) + c) % 18446744073709551616 + 67) % 18446744073709551616 := by
      show ((fm (fH g N i) + (g i).toNat) % 18446744073709551616 + 67) % 18446744073709551616 = _
      rw [hc]; rfl
    rw [hc] at hcell hb
    have w2 := fm_w (fH g N i)
    have w3 : IntKind.u64.wrap (c : Int) = (c : Int) := (wrU _).trans (by omega)
    have w4 := fa_w (fm (fH g N i)) c
    have w5 : IntKind.u64.wrap ((((fm (fH g N i) + c) % 18446744073709551616 : Nat) : Int) + 67) = ((fH g N (i + 1) : Nat) : Int) := by rw [hs]; exact fa_w _ 67
    generalize hh1 : fH g N (i + 1) = h1 at w5 hs ⊢
    generalize (fm (fH g N i) + c) % 18446744073709551616 = x2 at w4 w5
    generalize fm (fH g N i) = x1 at w2 w4
    generalize hh : fH g N i = h0 at w2
    (repeat' (first | refine Exists.intro _ (And.intro w2 ?_) | refine Exists.intro _ (And.intro w3 ?_) | refine Exists.intro _ (And.intro w4 ?_) | refine Exists.intro _ (And.intro w5 ?_) | refine Exists.intro (off + i) (And.intro (by omega) ?_) | refine Exists.intro cs (Exists.intro t (Exists.intro fr (And.intro hW ?_))) | refine Exists.intro _ (And.intro hcell ?_) | refine Exists.intro [Value.slice (some ⟨b, off, none⟩) N cap, .int .i64 0, .int .u64 h1] (And.intro ⟨leR rfl, rfl⟩ ?_) | refine And.intro (neI rfl) ?_ | refine And.intro ⟨rfl, leR rfl, onesR rfl⟩ ?_ | refine And.intro ⟨rfl, leR rfl⟩ ?_ | refine draw_rule2 hfol (fun KK hKK => ?_) | refine hKK _ _ _ (by kernel_rfl) ?_ | refine region_rule (fun KK hKK => ?_) | refine hKK _ _ ?_ | refine And.intro (Eq.refl true) ?_ | refine Exists.intro _ (And.intro (wI (by omega)) ?_) | refine Exists.intro _ (And.intro (wU (by omega)) ?_) | refine Exists.intro _ (And.intro ⟨rfl, by omega⟩ ?_) | refine Exists.intro _ (And.intro rfl ?_) | refine And.intro rfl ?_ | refine And.intro ⟨rfl, rfl⟩ ?_ | ((refine And.intro (fun _ => ?_) (fun _ => ?_)) <;> try (exfalso; omega))))
    refine Exists.intro (i + 1) (Exists.intro [0] (And.intro ⟨by omega, (by show min N 4096 - (i + 1) < min N 4096 - i; omega)⟩ ⟨⟨rfl, rfl, rfl, trivial⟩, ⟨by rw [hh1]; rfl, trivial⟩, rfl⟩))
end Go.Proofs.Ytpangmameocfmaa.VE
namespace Go.Proofs.Ytpangmameocfmaa.VE
open Go
set_option maxHeartbeats 800000
set_option maxRecDepth 100000

/-! the source behind a draw -/
def nxA (N at' : Nat) : Nat := if at' < N then at' + 1 else at'
theorem nxA_le {N at' : Nat} (h : at' ≤ N) : nxA N at' ≤ N := by unfold nxA; split <;> omega
theorem s_pick {W : World → (Nat → Prop) → Prop} {v : Value} {g : Nat → Int} {N : Nat} (hA : ArgK .u8 W v g N) (hN : N ≤ 1048576) (hg : ∀ j, j < N → 0 ≤ g j ∧ g j < 256) (at' h : Nat) (hat : at' ≤ N) (p : Nat → Int) (K : Nat) (hK : 1 ≤ K) (hK2 : K ≤ 1000) :
    SpecW Try.prog W n_s_l01Pick [.ptr 0 0, .sl 1] [srcO v at' h, .pr T_int64 1 K (il p K)] (vi (p (nxV g N at' h % K))) [srcO v (nxA N at') (lc h), .pr T_int64 1 K (il p K)] := by
  have hn := s_next hA hN hg at' h hat K hK
  have hm : nxV g N at' h % K < K := Nat.mod_lt _ (by omega)
  rw [show (if at' < N then at' + 1 else at') = nxA N at' from rfl] at hn
  generalize nxV g N at' h % K = r at hn hm ⊢
  generalize lc h = h' at hn ⊢
  refine SpecW.of_EV hf_s_l01Pick hc_s_l01Pick rfl rfl rfl fun w0 B ρ0 hW => ?_
  have hp := ArgK.pass (Γ := ⟨w0, B, ([srcO v at' h, .pr T_int64 1 K (il p K)] : List O).length, ρ0⟩) hA hW
  (repeat' (first | refine hn.makeW hp [0] rfl ⟨rfl, trivial⟩ ?_ | refine Exists.intro _ (And.intro (il_at hm) ?_) | refine And.intro (neI rfl) ?_ | refine And.intro ⟨rfl, leR rfl, onesR rfl⟩ ?_ | refine And.intro ⟨rfl, leR rfl⟩ ?_ | refine draw_rule2 hfol (fun KK hKK => ?_) | refine hKK _ _ _ (by kernel_rfl) ?_ | refine region_rule (fun KK hKK => ?_) | refine hKK _ _ ?_ | refine And.intro (Eq.refl true) ?_ | refine Exists.intro _ (And.intro (wI (by omega)) ?_) | refine Exists.intro _ (And.intro (wU (by omega)) ?_) | refine Exists.intro _ (And.intro ⟨rfl, by omega⟩ ?_) | refine Exists.intro _ (And.intro rfl ?_) | refine And.intro rfl ?_ | refine And.intro ⟨rfl, rfl⟩ ?_ | ((refine And.intro (fun _ => ?_) (fun _ => ?_)) <;> try (exfalso; omega))))
  exact Exists.intro [0,1] (And.intro (rfl) (And.intro ⟨rfl, rfl, trivial⟩ rfl))
end Go.Proofs.Ytpangmameocfmaa.VE
namespace Go.Proofs.Ytpangmameocfmaa.VE
open Go
set_option maxHeartbeats 800000
set_option maxRecDepth 100000

/-! rows of constants -/
def fillI (c : List Value) : List Int → Nat → List Value
  | [], _ => c
  | a :: r, i => fillI (c.take (i * 1) ++ (Value.int .i64 a).cells.toList ++ c.drop (i * 1 + 1)) r (i + 1)
theorem one_len {c : List Value} {a : Int} {i : Nat} (h : i < c.length) : (c.take (i * 1) ++ (Value.int .i64 a).cells.toList ++ c.drop (i * 1 + 1)).length = c.length := by
  simp [Value.cells]; omega
theorem fillI_len : ∀ (l : List Int) (c : List Value) (i : Nat), i + l.length ≤ c.length → (fillI c l i).length = c.length
  | [], _, _, _ => rfl
  | a :: r, c, i, h => by
    simp only [List.length_cons] at h
    have h1 := one_len (c := c) (a := a) (i := i) (by omega)
    rw [fillI, fillI_len r _ (i + 1) (by rw [h1]; omega), h1]
theorem fillI_eq : ∀ (l : List Int) (c : List Value) (i : Nat), i + l.length = c.length → fillI c l i = c.take i ++ l.map (Value.int .i64)
  | [], c, i, h => by
    simp only [List.length_nil, Nat.add_zero] at h
    rw [fillI, List.map_nil, List.append_nil, List.take_of_length_le (by omega)]
  | a :: r, c, i, h => by
    simp only [List.length_cons] at h
    have h1 := one_len (c := c) (a := a) (i := i) (by omega)
    rw [fillI, fillI_eq r _ (i + 1) (by rw [h1]; omega), Nat.mul_one]
    have e : (c.take i ++ (Value.int .i64 a).cells.toList ++ c.drop (i + 1)).take (i + 1) = c.take i ++ [Value.int .i64 a] := by
      rw [List.take_append_of_le_length (by simp [Value.cells]; omega), List.take_of_length_le (by simp [Value.cells]; omega)]
      rfl
    rw [e]; simp
def pk (l : List Int) (j : Nat) : Int := l.getD j 0
theorem pk_il (l : List Int) : l.map (Value.int .i64) = il (pk l) l.length := by
  apply List.ext_getElem (by simp [il])
  intro j h1 h2
  simp only [List.length_map] at h1
  simp [il, pk, h1]
theorem mkK {z : Array Value} {K : Nat} : (madeCells z (K * 1)).toList.length = K := by rw [Array.length_toList, size_madeCells, Nat.mul_one]
/-- The cells of a row of constants. -/
theorem row_k {z : Array Value} {K : Nat} (l : List Int) (hK : K = l.length) : fillI (madeCells z (K * 1)).toList l 0 = il (pk l) K := by
  rw [fillI_eq l _ 0 (by rw [mkK]; omega), List.take_zero, List.nil_append, pk_il, hK]
theorem row_k_le {z : Array Value} {K i : Nat} (l : List Int) (hl : l.length ≤ K) (hi : i < K) : i * 1 + 1 ≤ (fillI (madeCells z (K * 1)).toList l 0).length := by
  have h := mkK (z := z) (K := K)
  rw [fillI_len l _ 0 (by omega), h]; omega
end Go.Proofs.Ytpangmameocfmaa.VE
namespace Go.Proofs.Ytpangmameocfmaa.VE
open Go
set_option maxHeartbeats 800000
set_option maxRecDepth 100000

attribute [local irreducible] IntKind.wrap
theorem s_near {W : World → (Nat → Prop) → Prop} {v : Value} {g : Nat → Int} {N : Nat} (hA : ArgK .u8 W v g N) (hN : N ≤ 1048576) (hg : ∀ j, j < N → 0 ≤ g j ∧ g j < 256) (at' h : Nat) (hat : at' ≤ N) (m : Nat) (hm : m ≤ 1000) :
    ∃ r a2 h2, a2 ≤ N ∧ SpecW Try.prog W n_s_l01Near [.ptr 0 0, vi m] [srcO v at' h] (vi r) [srcO v a2 h2] := by
  have w1 : IntKind.i64.wrap ((m : Int) + 1) = ((m + 1 : Nat) : Int) := wC (by omega) (by omega)
  have n1 := s_next hA hN hg at' h hat 14 (by omega)
  rw [show (if at' < N then at' + 1 else at') = nxA N at' from rfl] at n1
  by_cases h0 : nxV g N at' h % 14 = 0
  · rw [h0] at n1
    have n2 := s_pick hA hN hg (nxA N at') (lc h) (nxA_le hat) (pk [-1, ((m + 1 : Nat) : Int), 1099511627776, -4611686018427387904]) 4 (by omega) (by omega)
    refine ⟨_, _, _, nxA_le (nxA_le hat), (?_ : SpecW Try.prog W n_s_l01Near [.ptr 0 0, vi m] [srcO v at' h] (vi (pk [-1, ((m + 1 : Nat) : Int), 1099511627776, -4611686018427387904] (nxV g N (nxA N at') (lc h) % 4))) [srcO v (nxA N (nxA N at')) (lc (lc h))])⟩
    generalize lc (lc h) = h2 at n2 ⊢
    generalize lc h = h1 at n1 n2
    refine SpecW.of_EV hf_s_l01Near hc_s_l01Near rfl rfl rfl fun w0 B ρ0 hW => ?_
    have hp := ArgK.pass (Γ := ⟨w0, B, ([srcO v at' h] : List O).length, ρ0⟩) hA hW
    (repeat' (first | refine n1.makeW hp [0] rfl ⟨rfl, trivial⟩ ?_ | refine Exists.intro _ (And.intro w1 ?_) | refine And.intro ⟨rfl, mkL rfl⟩ ?_ | refine And.intro ⟨rfl, row_k_le (K := 4) [-1] (leR rfl) (by decide)⟩ ?_ | refine And.intro ⟨rfl, row_k_le (K := 4) [-1, ((m + 1 : Nat) : Int)] (leR rfl) (by decide)⟩ ?_ | refine And.intro ⟨rfl, row_k_le (K := 4) [-1, ((m + 1 : Nat) : Int), 1099511627776] (leR rfl) (by decide)⟩ ?_ | refine Exists.intro (il (pk [-1, ((m + 1 : Nat) : Int), 1099511627776, -4611686018427387904]) 4) (And.intro (row_k [-1, ((m + 1 : Nat) : Int), 1099511627776, -4611686018427387904] rfl) ?_) | refine n2.makeW hp [0, 1] rfl ⟨rfl, rfl, trivial⟩ ?_ | refine And.intro (neI rfl) ?_ | refine And.intro ⟨rfl, leR rfl, onesR rfl⟩ ?_ | refine And.intro ⟨rfl, leR rfl⟩ ?_ | refine draw_rule2 hfol (fun KK hKK => ?_) | refine hKK _ _ _ (by kernel_rfl) ?_ | refine region_rule (fun KK hKK => ?_) | refine hKK _ _ ?_ | refine And.intro (Eq.refl true) ?_ | refine Exists.intro _ (And.intro (wI (by omega)) ?_) | refine Exists.intro _ (And.intro (wU (by omega)) ?_) | refine Exists.intro _ (And.intro ⟨rfl, by omega⟩ ?_) | refine Exists.intro _ (And.intro rfl ?_) | refine And.intro rfl ?_ | refine And.intro ⟨rfl, rfl⟩ ?_ | ((refine And.intro (fun _ => ?_) (fun _ => ?_)) <;> try (exfalso; omega))))
    exact Exists.intro [0] (And.intro (rfl) (And.intro ⟨rfl, trivial⟩ rfl))
  · have n2 := s_next hA hN hg (nxA N at') (lc h) (nxA_le hat) (m + 1) (by omega)
    rw [show (if nxA N at' < N then nxA N at' + 1 else nxA N at') = nxA N (nxA N at') from rfl] at n2
    have hne : ((nxV g N at' h % 14 : Nat) : Int) ≠ 0 := by omega
    generalize nxV g N at' h % 14 = q at n1 hne
    refine ⟨_, _, _, nxA_le (nxA_le hat), (?_ : SpecW Try.prog W n_s_l01Near [.ptr 0 0, vi m] [srcO v at' h] (vi (nxV g N (nxA N at') (lc h) % (m + 1) : Nat)) [srcO v (nxA N (nxA N at')) (lc (lc h))])⟩
    generalize lc (lc h) = h2 at n2 ⊢
    generalize nxV g N (nxA N at') (lc h) % (m + 1) = q2 at n2 ⊢
    generalize lc h = h1 at n1 n2
    refine SpecW.of_EV hf_s_l01Near hc_s_l01Near rfl rfl rfl fun w0 B ρ0 hW => ?_
    have hp := ArgK.pass (Γ := ⟨w0, B, ([srcO v at' h] : List O).length, ρ0⟩) hA hW
    (repeat' (first | refine n1.makeW hp [0] rfl ⟨rfl, trivial⟩ ?_ | refine Exists.intro _ (And.intro w1 ?_) | refine n2.makeW hp [0] rfl ⟨rfl, trivial⟩ ?_ | refine And.intro (neI rfl) ?_ | refine And.intro ⟨rfl, leR rfl, onesR rfl⟩ ?_ | refine And.intro ⟨rfl, leR rfl⟩ ?_ | refine draw_rule2 hfol (fun KK hKK => ?_) | refine hKK _ _ _ (by kernel_rfl) ?_ | refine region_rule (fun KK hKK => ?_) | refine hKK _ _ ?_ | refine And.intro (Eq.refl true) ?_ | refine Exists.intro _ (And.intro (wI (by omega)) ?_) | refine Exists.intro _ (And.intro (wU (by omega)) ?_) | refine Exists.intro _ (And.intro ⟨rfl, by omega⟩ ?_) | refine Exists.intro _ (And.intro rfl ?_) | refine And.intro rfl ?_ | refine And.intro ⟨rfl, rfl⟩ ?_ | ((refine And.intro (fun _ => ?_) (fun _ => ?_)) <;> try (exfalso; omega))))
    exact Exists.intro [0] (And.intro (rfl) (And.intro ⟨rfl, trivial⟩ rfl))
end Go.Proofs.Ytpangmameocfmaa.VE
