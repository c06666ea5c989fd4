/- Contracts of functions of the given program, for all arguments that the contract names; see each theorem. -/
import Derived.Test.YtimigbgpldjefaaD2
import Derived.Test.YtimigbgpldjefaaW1
set_option linter.all false
namespace Go.Proofs.Ytimigbgpldjefaa.VE
open Go
set_option maxHeartbeats 800000
set_option maxRecDepth 100000

/-! letters of words, and the entry of a diagram -/
theorem and1 (x : Nat) (h : x < 9223372036854775808) : IntKind.i64.wrap (((BitVec.ofInt 64 (x : Int) &&& BitVec.ofInt 64 1).toNat : Nat) : Int) = ((x % 2 : Nat) : Int) := by
  have e : (BitVec.ofInt 64 (x : Int) &&& BitVec.ofInt 64 1).toNat = x % 2 := by
    rw [BitVec.toNat_and]
    have h1 : (BitVec.ofInt 64 (x : Int)).toNat = x := by
      rw [BitVec.ofInt_natCast, BitVec.toNat_ofNat]
      omega
    have h2 : (BitVec.ofInt 64 1).toNat = 1 := by decide
    rw [h1, h2, Nat.and_one_is_mod]
  rw [e]; exact wI (by omega)
theorem shrN (u e : Nat) (he : e ≤ 60) : (u : Int).fdiv (2 ^ (min ((e : Nat) : Int).toNat 64)) = ((u / 2 ^ e : Nat) : Int) := by
  rw [Int.toNat_natCast, Nat.min_eq_left (by omega), Int.fdiv_eq_ediv_of_nonneg _ (by exact Int.le_of_lt (Int.pow_pos (by omega)))]
  rw [Int.natCast_ediv, Int.natCast_pow]; rfl
theorem shlN (n : Nat) (hn : n ≤ 60) : IntKind.i64.wrap (1 * 2 ^ (min ((n : Nat) : Int).toNat 64)) = ((2 ^ n : Nat) : Int) := by
  rw [Int.toNat_natCast, Nat.min_eq_left (by omega), Int.one_mul]
  have h2 : (2 : Nat) ^ n ≤ 2 ^ 60 := Nat.pow_le_pow_right (by omega) hn
  exact wC (by rw [Int.natCast_pow]; rfl) (by generalize (2 : Nat) ^ n = x at h2 ⊢; omega)
def lt1 (u e : Nat) : Nat := u / 2 ^ e % 2
theorem lt1_01 (u e : Nat) : lt1 u e = 0 ∨ lt1 u e = 1 := by unfold lt1; omega
theorem wU64 {a : Int} (h : 0 ≤ a ∧ a < 18446744073709551616) : IntKind.u64.wrap a = a := by
  have : IntKind.u64.wrap a = a % 18446744073709551616 := by simp [IntKind.wrap, IntKind.signed, IntKind.bits]
  rw [this]; omega
theorem s_slett (u : Nat) (n i : Int) (e : Nat) (he : n - 1 - i = e) (h60 : e ≤ 60) (hn : 0 ≤ n ∧ n ≤ 100) (hu : u < 4611686018427387904) : Spec Try.prog n_s_l10Letter [vi u, vi n, vi i] [] (vi (lt1 u e : Nat)) [] := by
  have e1 : IntKind.i64.wrap (n - 1) = n - 1 := wI (by omega)
  have e2 : IntKind.i64.wrap (n - 1 - i) = (e : Int) := wC he (by omega)
  have e3 : IntKind.u64.wrap (e : Int) = (e : Int) := wU64 (by omega)
  have e4 := shrN u e h60
  have e5 := and1 (u / 2 ^ e) (Nat.lt_of_le_of_lt (Nat.div_le_self _ _) (by omega))
  refine SpecW.of_EV hf_s_l10Letter hc_s_l10Letter rfl rfl rfl fun w0 B ρ0 _ => ?_
  (repeat' (first | refine Exists.intro _ (And.intro e1 ?_) | refine Exists.intro _ (And.intro e2 ?_) | refine Exists.intro _ (And.intro e3 ?_) | refine And.intro (by omega) (Exists.intro _ (And.intro e4 ?_)) | refine Exists.intro _ (And.intro e5 ?_) | refine And.intro (neI rfl) ?_ | refine And.intro ⟨rfl, leR rfl, onesR rfl⟩ ?_ | refine And.intro ⟨rfl, leR rfl⟩ ?_ | refine draw_rule2 hfol (fun KK hKK => ?_) | refine hKK _ _ _ (by kernel_rfl) ?_ | refine region_rule (fun KK hKK => ?_) | refine hKK _ _ ?_ | refine And.intro (Eq.refl true) ?_ | refine Exists.intro _ (And.intro (wI (by omega)) ?_) | refine Exists.intro _ (And.intro (wU (by omega)) ?_) | refine Exists.intro _ (And.intro ⟨rfl, by omega⟩ ?_) | refine Exists.intro _ (And.intro rfl ?_) | refine And.intro rfl ?_ | refine And.intro ⟨rfl, rfl⟩ ?_ | ((refine And.intro (fun _ => ?_) (fun _ => ?_)) <;> try (exfalso; omega))))
  exact Exists.intro [] (And.intro (rfl) (And.intro trivial rfl))
theorem s_ilett (u : Nat) (n i : Int) (e : Nat) (he : n - 1 - i = e) (h60 : e ≤ 60) (hn : 0 ≤ n ∧ n ≤ 100) (hu : u < 4611686018427387904) : Spec Try.prog n_i_letter [vi n, vi u, vi i] [] (vi (lt1 u e : Nat)) [] := by
  have e1 : IntKind.i64.wrap (n - 1) = n - 1 := wI (by omega)
  have e2 : IntKind.i64.wrap (n - 1 - i) = (e : Int) := wC he (by omega)
  have e4 := shrN u e h60
  have e5 := and1 (u / 2 ^ e) (Nat.lt_of_le_of_lt (Nat.div_le_self _ _) (by omega))
  refine SpecW.of_EV hf_i_letter hc_i_letter rfl rfl rfl fun w0 B ρ0 _ => ?_
  (repeat' (first | refine Exists.intro _ (And.intro e1 ?_) | refine Exists.intro _ (And.intro e2 ?_) | refine And.intro (by omega) (Exists.intro _ (And.intro e4 ?_)) | refine Exists.intro _ (And.intro e5 ?_) | refine And.intro (neI rfl) ?_ | refine And.intro ⟨rfl, leR rfl, onesR rfl⟩ ?_ | refine And.intro ⟨rfl, leR rfl⟩ ?_ | refine draw_rule2 hfol (fun KK hKK => ?_) | refine hKK _ _ _ (by kernel_rfl) ?_ | refine region_rule (fun KK hKK => ?_) | refine hKK _ _ ?_ | refine And.intro (Eq.refl true) ?_ | refine Exists.intro _ (And.intro (wI (by omega)) ?_) | refine Exists.intro _ (And.intro (wU (by omega)) ?_) | refine Exists.intro _ (And.intro ⟨rfl, by omega⟩ ?_) | refine Exists.intro _ (And.intro rfl ?_) | refine And.intro rfl ?_ | refine And.intro ⟨rfl, rfl⟩ ?_ | ((refine And.intro (fun _ => ?_) (fun _ => ?_)) <;> try (exfalso; omega))))
  exact Exists.intro [] (And.intro (rfl) (And.intro trivial rfl))
theorem s_words (n : Nat) (m : List Nat) (hn : n ≤ 8) : Spec Try.prog n_i_Diagram_words [.ptr 0 0] [.pc (pcl n m) T_i_Diagram] (vi (2 ^ n : Nat)) [.pc (pcl n m) T_i_Diagram] := by
  have e1 := shlN n (by omega)
  refine SpecW.of_EV hf_i_Diagram_words hc_i_Diagram_words rfl rfl rfl fun w0 B ρ0 _ => ?_
  (repeat' (first | refine And.intro (by omega) (Exists.intro _ (And.intro e1 ?_)) | refine And.intro (neI rfl) ?_ | refine And.intro ⟨rfl, leR rfl, onesR rfl⟩ ?_ | refine And.intro ⟨rfl, leR rfl⟩ ?_ | refine draw_rule2 hfol (fun KK hKK => ?_) | refine hKK _ _ _ (by kernel_rfl) ?_ | refine region_rule (fun KK hKK => ?_) | refine hKK _ _ ?_ | refine And.intro (Eq.refl true) ?_ | refine Exists.intro _ (And.intro (wI (by omega)) ?_) | refine Exists.intro _ (And.intro (wU (by omega)) ?_) | refine Exists.intro _ (And.intro ⟨rfl, by omega⟩ ?_) | refine Exists.intro _ (And.intro rfl ?_) | refine And.intro rfl ?_ | refine And.intro ⟨rfl, rfl⟩ ?_ | ((refine And.intro (fun _ => ?_) (fun _ => ?_)) <;> try (exfalso; omega))))
  exact Exists.intro [0] (And.intro (rfl) (And.intro ⟨rfl, trivial⟩ rfl))

/-- What a point's line gives: nothing, or a factor. -/
def fac (n : Nat) (m : List Nat) (q r : Int) (u v i : Nat) : Option Int :=
  if m.getD i 0 < i then some 1
  else if i < n then
    (if m.getD i 0 < n then (if lt1 u (n - 1 - i) = lt1 u (n - 1 - m.getD i 0) then none else if lt1 u (n - 1 - i) = 0 then some (-1) else some q)
     else if lt1 u (n - 1 - i) = lt1 v (2 * n - 1 - m.getD i 0) then some 1 else none)
  else if lt1 v (2 * n - 1 - i) = lt1 v (2 * n - 1 - m.getD i 0) then none else if lt1 v (2 * n - 1 - i) = 0 then some r else some (-1)
def entF (n : Nat) (m : List Nat) (p q r : Int) (u v : Nat) : Nat → Nat → Int → Int
  | 0, _, o => o
  | d + 1, i, o => match fac n m q r u v i with
    | none => 0
    | some f => entF n m p q r u v d (i + 1) (o * f % p)
def ent (n : Nat) (m : List Nat) (p q r : Int) (u v : Nat) : Int := entF n m p q r u v (2 * n) 0 1
theorem entF_bd {n : Nat} {m : List Nat} {p q r : Int} {u v : Nat} (hp : 0 < p) : ∀ d i o, 0 ≤ o ∧ o < p → 0 ≤ entF n m p q r u v d i o ∧ entF n m p q r u v d i o < p
  | 0, _, o, h => h
  | d + 1, i, o, h => by
    unfold entF; split
    · omega
    · exact entF_bd hp d _ _ ⟨Int.emod_nonneg _ (by omega), Int.emod_lt_of_pos _ hp⟩
theorem ent_bd {n : Nat} {m : List Nat} {p q r : Int} {u v : Nat} (hp : 2 ≤ p) : 0 ≤ ent n m p q r u v ∧ ent n m p q r u v < p := entF_bd (by omega) _ _ _ (by omega)
theorem mulmod (o f p : Int) : (o % p * f) % p = (o * f) % p := by
  rw [Int.mul_emod, Int.emod_emod, ← Int.mul_emod]
theorem negmod (o p : Int) : (o % p * (-1)) % p = (p - o) % p := by
  rw [mulmod, show p - o = o * (-1) + p by omega]; simp
theorem entF_f {n : Nat} {m : List Nat} {p q r : Int} {u v d i : Nat} {o f : Int} (h : fac n m q r u v i = some f) : entF n m p q r u v (d + 1) i o = entF n m p q r u v d (i + 1) (o * f % p) := by
  rw [entF, h]
theorem entF_n {n : Nat} {m : List Nat} {p q r : Int} {u v d i : Nat} {o : Int} (h : fac n m q r u v i = none) : entF n m p q r u v (d + 1) i o = 0 := by
  rw [entF, h]
theorem mulbd {o f p : Int} (ho : -97 ≤ o ∧ o ≤ 97) (hf : -97 ≤ f ∧ f ≤ 97) : -9409 ≤ o * f ∧ o * f ≤ 9409 := by
  have h1 : (o * f).natAbs ≤ 97 * 97 := by rw [Int.natAbs_mul]; exact Nat.mul_le_mul (by omega) (by omega)
  omega

theorem s_sent (n : Nat) (m : List Nat) (hV : IsV n m) (p q r : Int) (hp : 2 ≤ p ∧ p ≤ 97) (hq : 0 ≤ q ∧ q < p) (hr : 0 ≤ r ∧ r < p) (u v : Nat) (hu : u ≤ 1000) (hv : v ≤ 1000) :
    Spec Try.prog n_s_l10Entry [vi p, vi q, vi r, pv n m, vi u, vi v] [] (vi (ent n m p q r u v)) [] := by
  have hn := hV.n8
  have hn1 := hV.n1
  have hm := hV.len
  have w2 : IntKind.i64.wrap (2 * (n : Int)) = ((2 * n : Nat) : Int) := wC (by omega) (by omega)
  have hp0 : p ≠ 0 := by omega
  refine SpecW.of_EV hf_s_l10Entry hc_s_l10Entry rfl rfl rfl fun w0 B ρ0 _ => ?_
  (repeat' (first | refine And.intro (neI rfl) ?_ | refine And.intro ⟨rfl, leR rfl, onesR rfl⟩ ?_ | refine And.intro ⟨rfl, leR rfl⟩ ?_ | refine draw_rule2 hfol (fun KK hKK => ?_) | refine hKK _ _ _ (by kernel_rfl) ?_ | refine region_rule (fun KK hKK => ?_) | refine hKK _ _ ?_ | refine And.intro (Eq.refl true) ?_ | refine Exists.intro _ (And.intro (wI (by omega)) ?_) | refine Exists.intro _ (And.intro (wU (by omega)) ?_) | refine Exists.intro _ (And.intro ⟨rfl, by omega⟩ ?_) | refine Exists.intro _ (And.intro rfl ?_) | refine And.intro rfl ?_ | refine And.intro ⟨rfl, rfl⟩ ?_ | ((refine And.intro (fun _ => ?_) (fun _ => ?_)) <;> try (exfalso; omega))))
  refine loop_rule (α := Nat × Nat × Int) (fun (d, i, o) => i + d = 2 * n ∧ (0 ≤ o ∧ o ≤ p) ∧ entF n m p q r u v d i (o % p) = ent n m p q r u v)
    (fun (d, i, o) => [(0, vi p), (1, vi q), (2, vi r), (4, vi u), (5, vi v), (9, .ptr 0 0), (13, vi n), (14, vi o), (15, vi i)]) (fun _ => [.pc (pcl n m) T_i_Diagram]) (fun (d, _, _) => d) (2 * n, 0, 1) [0]
    ⟨by omega, by omega, by rw [Int.emod_eq_of_lt (by omega) (by omega)]; rfl⟩ ⟨⟨rfl, rfl, rfl, rfl, rfl, rfl, rfl, rfl, rfl, trivial⟩, ⟨rfl, trivial⟩, rfl⟩ ?_
  rintro ⟨d, i, o⟩ g ⟨hd, ho, hR⟩
  by_cases h9 : d = 0
  · subst h9
    obtain rfl : i = 2 * n := by omega
    have e1 : Int.tmod o p = o % p := tmod_nn ho.1 (by omega)
    (repeat' (first | refine Exists.intro _ (And.intro w2 ?_) | refine And.intro hp0 ?_ | refine Exists.intro _ (And.intro e1 ?_) | refine And.intro (neI rfl) ?_ | refine And.intro ⟨rfl, leR rfl, onesR rfl⟩ ?_ | refine And.intro ⟨rfl, leR rfl⟩ ?_ | refine draw_rule2 hfol (fun KK hKK => ?_) | refine hKK _ _ _ (by kernel_rfl) ?_ | refine region_rule (fun KK hKK => ?_) | refine hKK _ _ ?_ | refine And.intro (Eq.refl true) ?_ | refine Exists.intro _ (And.intro (wI (by omega)) ?_) | refine Exists.intro _ (And.intro (wU (by omega)) ?_) | refine Exists.intro _ (And.intro ⟨rfl, by omega⟩ ?_) | refine Exists.intro _ (And.intro rfl ?_) | refine And.intro rfl ?_ | refine And.intro ⟨rfl, rfl⟩ ?_ | ((refine And.intro (fun _ => ?_) (fun _ => ?_)) <;> try (exfalso; omega))))
    exact Exists.intro [] (And.intro (by rw [← hR]; rfl) (And.intro trivial rfl))
  obtain ⟨d, rfl⟩ : ∃ e, d = e + 1 := ⟨d - 1, by omega⟩
  have hil : i < 2 * n := by omega
  have hk := hV.lt i hil
  have hki := hV.ne i hil
  have hat : (pcl n m)[1 + i]? = some (.int .u8 ((m.getD i 0 : Nat) : Int)) := pcl_at (by omega)
  have hfac : fac n m q r u v i = fac n m q r u v i := rfl
  conv at hfac => rhs; unfold fac
  generalize hkk : m.getD i 0 = k at hk hki hat hfac
  by_cases hlt : k < i
  · rw [if_pos hlt] at hfac
    rw [entF_f hfac, Int.mul_one, Int.emod_emod] at hR
    (repeat' (first | refine Exists.intro _ (And.intro w2 ?_) | refine Exists.intro _ (And.intro hat ?_) | refine And.intro (neI rfl) ?_ | refine And.intro ⟨rfl, leR rfl, onesR rfl⟩ ?_ | refine And.intro ⟨rfl, leR rfl⟩ ?_ | refine draw_rule2 hfol (fun KK hKK => ?_) | refine hKK _ _ _ (by kernel_rfl) ?_ | refine region_rule (fun KK hKK => ?_) | refine hKK _ _ ?_ | refine And.intro (Eq.refl true) ?_ | refine Exists.intro _ (And.intro (wI (by omega)) ?_) | refine Exists.intro _ (And.intro (wU (by omega)) ?_) | refine Exists.intro _ (And.intro ⟨rfl, by omega⟩ ?_) | refine Exists.intro _ (And.intro rfl ?_) | refine And.intro rfl ?_ | refine And.intro ⟨rfl, rfl⟩ ?_ | ((refine And.intro (fun _ => ?_) (fun _ => ?_)) <;> try (exfalso; omega))))
    refine Exists.intro (d, i + 1, o) (Exists.intro [0] (And.intro ⟨⟨by omega, ho, hR⟩, (by show d < d + 1; omega)⟩ ⟨⟨rfl, rfl, rfl, rfl, rfl, rfl, rfl, rfl, rfl, trivial⟩, ⟨rfl, trivial⟩, rfl⟩))
  rw [if_neg hlt] at hfac
  have c1 := s_slett v n ((i : Int) - (n : Int)) (2 * n - 1 - i) (by omega) (by omega) (by omega) (by omega)
  have c2 := s_slett v n ((k : Int) - (n : Int)) (2 * n - 1 - k) (by omega) (by omega) (by omega) (by omega)
  by_cases hin : i < n
  · rw [if_pos hin] at hfac
    have c3 := s_slett u n i (n - 1 - i) (by omega) (by omega) (by omega) (by omega)
    by_cases hkn : k < n
    · rw [if_pos hkn] at hfac
      have c4 := s_slett u n k (n - 1 - k) (by omega) (by omega) (by omega) (by omega)
      rcases lt1_01 u (n - 1 - i) with ha | ha <;> rcases lt1_01 u (n - 1 - k) with hb | hb <;> rw [ha, hb] at hfac <;> rw [ha] at c3 <;> rw [hb] at c4
      · rw [if_pos rfl] at hfac
        rw [entF_n hfac] at hR
        (repeat' (first | refine Exists.intro _ (And.intro w2 ?_) | refine Exists.intro _ (And.intro hat ?_) | refine (c1).pure rfl ?_ | refine (c2).pure rfl ?_ | refine (c3).pure rfl ?_ | refine (c4).pure rfl ?_ | refine And.intro (neI rfl) ?_ | refine And.intro ⟨rfl, leR rfl, onesR rfl⟩ ?_ | refine And.intro ⟨rfl, leR rfl⟩ ?_ | refine draw_rule2 hfol (fun KK hKK => ?_) | refine hKK _ _ _ (by kernel_rfl) ?_ | refine region_rule (fun KK hKK => ?_) | refine hKK _ _ ?_ | refine And.intro (Eq.refl true) ?_ | refine Exists.intro _ (And.intro (wI (by omega)) ?_) | refine Exists.intro _ (And.intro (wU (by omega)) ?_) | refine Exists.intro _ (And.intro ⟨rfl, by omega⟩ ?_) | refine Exists.intro _ (And.intro rfl ?_) | refine And.intro rfl ?_ | refine And.intro ⟨rfl, rfl⟩ ?_ | ((refine And.intro (fun _ => ?_) (fun _ => ?_)) <;> try (exfalso; omega))))
        exact Exists.intro [] (And.intro (by rw [← hR]; rfl) (And.intro trivial rfl))
      · rw [if_neg (by decide), if_pos rfl] at hfac
        rw [entF_f hfac, negmod] at hR
        have e1 : IntKind.i64.wrap (p - o) = p - o := wI (by omega)
        (repeat' (first | refine Exists.intro _ (And.intro w2 ?_) | refine Exists.intro _ (And.intro hat ?_) | refine (c1).pure rfl ?_ | refine (c2).pure rfl ?_ | refine (c3).pure rfl ?_ | refine (c4).pure rfl ?_ | refine Exists.intro _ (And.intro e1 ?_) | refine And.intro (neI rfl) ?_ | refine And.intro ⟨rfl, leR rfl, onesR rfl⟩ ?_ | refine And.intro ⟨rfl, leR rfl⟩ ?_ | refine draw_rule2 hfol (fun KK hKK => ?_) | refine hKK _ _ _ (by kernel_rfl) ?_ | refine region_rule (fun KK hKK => ?_) | refine hKK _ _ ?_ | refine And.intro (Eq.refl true) ?_ | refine Exists.intro _ (And.intro (wI (by omega)) ?_) | refine Exists.intro _ (And.intro (wU (by omega)) ?_) | refine Exists.intro _ (And.intro ⟨rfl, by omega⟩ ?_) | refine Exists.intro _ (And.intro rfl ?_) | refine And.intro rfl ?_ | refine And.intro ⟨rfl, rfl⟩ ?_ | ((refine And.intro (fun _ => ?_) (fun _ => ?_)) <;> try (exfalso; omega))))
        refine Exists.intro (d, i + 1, p - o) (Exists.intro [0] (And.intro ⟨⟨by omega, by omega, hR⟩, (by show d < d + 1; omega)⟩ ⟨⟨rfl, rfl, rfl, rfl, rfl, rfl, rfl, rfl, rfl, trivial⟩, ⟨rfl, trivial⟩, rfl⟩))
      · rw [if_neg (by decide), if_neg (by decide)] at hfac
        rw [entF_f hfac, mulmod] at hR
        have hb2 := mulbd (o := o) (f := q) (p := p) (by omega) (by omega)
        have e1 : IntKind.i64.wrap (o * q) = o * q := wI (by omega)
        have e2 : Int.tmod (o * q) p = o * q % p := tmod_nn (Int.mul_nonneg ho.1 hq.1) (by omega)
        have h1 := Int.emod_nonneg (o * q) hp0
        have h2 := Int.emod_lt_of_pos (o * q) (show 0 < p by omega)
        (repeat' (first | refine Exists.intro _ (And.intro w2 ?_) | refine Exists.intro _ (And.intro hat ?_) | refine (c1).pure rfl ?_ | refine (c2).pure rfl ?_ | refine (c3).pure rfl ?_ | refine (c4).pure rfl ?_ | refine Exists.intro _ (And.intro e1 ?_) | refine Exists.intro _ (And.intro e2 ?_) | refine And.intro hp0 ?_ | refine And.intro (neI rfl) ?_ | refine And.intro ⟨rfl, leR rfl, onesR rfl⟩ ?_ | refine And.intro ⟨rfl, leR rfl⟩ ?_ | refine draw_rule2 hfol (fun KK hKK => ?_) | refine hKK _ _ _ (by kernel_rfl) ?_ | refine region_rule (fun KK hKK => ?_) | refine hKK _ _ ?_ | refine And.intro (Eq.refl true) ?_ | refine Exists.intro _ (And.intro (wI (by omega)) ?_) | refine Exists.intro _ (And.intro (wU (by omega)) ?_) | refine Exists.intro _ (And.intro ⟨rfl, by omega⟩ ?_) | refine Exists.intro _ (And.intro rfl ?_) | refine And.intro rfl ?_ | refine And.intro ⟨rfl, rfl⟩ ?_ | ((refine And.intro (fun _ => ?_) (fun _ => ?_)) <;> try (exfalso; omega))))
        refine Exists.intro (d, i + 1, o * q % p) (Exists.intro [0] (And.intro ⟨⟨by omega, by omega, by rw [Int.emod_emod]; exact hR⟩, (by show d < d + 1; omega)⟩ ⟨⟨rfl, rfl, rfl, rfl, rfl, rfl, rfl, rfl, rfl, trivial⟩, ⟨rfl, trivial⟩, rfl⟩))
      · rw [if_pos rfl] at hfac
        rw [entF_n hfac] at hR
        (repeat' (first | refine Exists.intro _ (And.intro w2 ?_) | refine Exists.intro _ (And.intro hat ?_) | refine (c1).pure rfl ?_ | refine (c2).pure rfl ?_ | refine (c3).pure rfl ?_ | refine (c4).pure rfl ?_ | refine And.intro (neI rfl) ?_ | refine And.intro ⟨rfl, leR rfl, onesR rfl⟩ ?_ | refine And.intro ⟨rfl, leR rfl⟩ ?_ | refine draw_rule2 hfol (fun KK hKK => ?_) | refine hKK _ _ _ (by kernel_rfl) ?_ | refine region_rule (fun KK hKK => ?_) | refine hKK _ _ ?_ | refine And.intro (Eq.refl true) ?_ | refine Exists.intro _ (And.intro (wI (by omega)) ?_) | refine Exists.intro _ (And.intro (wU (by omega)) ?_) | refine Exists.intro _ (And.intro ⟨rfl, by omega⟩ ?_) | refine Exists.intro _ (And.intro rfl ?_) | refine And.intro rfl ?_ | refine And.intro ⟨rfl, rfl⟩ ?_ | ((refine And.intro (fun _ => ?_) (fun _ => ?_)) <;> try (exfalso; omega))))
        exact Exists.intro [] (And.intro (by rw [← hR]; rfl) (And.intro trivial rfl))
    · rw [if_neg hkn] at hfac
      rcases lt1_01 u (n - 1 - i) with ha | ha <;> rcases lt1_01 v (2 * n - 1 - k) with hb | hb <;> rw [ha, hb] at hfac <;> rw [ha] at c3 <;> rw [hb] at c2
      · rw [if_pos rfl] at hfac
        rw [entF_f hfac, Int.mul_one, Int.emod_emod] at hR
        (repeat' (first | refine Exists.intro _ (And.intro w2 ?_) | refine Exists.intro _ (And.intro hat ?_) | refine (c1).pure rfl ?_ | refine (c2).pure rfl ?_ | refine (c3).pure rfl ?_ | refine And.intro (neI rfl) ?_ | refine And.intro ⟨rfl, leR rfl, onesR rfl⟩ ?_ | refine And.intro ⟨rfl, leR rfl⟩ ?_ | refine draw_rule2 hfol (fun KK hKK => ?_) | refine hKK _ _ _ (by kernel_rfl) ?_ | refine region_rule (fun KK hKK => ?_) | refine hKK _ _ ?_ | refine And.intro (Eq.refl true) ?_ | refine Exists.intro _ (And.intro (wI (by omega)) ?_) | refine Exists.intro _ (And.intro (wU (by omega)) ?_) | refine Exists.intro _ (And.intro ⟨rfl, by omega⟩ ?_) | refine Exists.intro _ (And.intro rfl ?_) | refine And.intro rfl ?_ | refine And.intro ⟨rfl, rfl⟩ ?_ | ((refine And.intro (fun _ => ?_) (fun _ => ?_)) <;> try (exfalso; omega))))
        refine Exists.intro (d, i + 1, o) (Exists.intro [0] (And.intro ⟨⟨by omega, ho, hR⟩, (by show d < d + 1; omega)⟩ ⟨⟨rfl, rfl, rfl, rfl, rfl, rfl, rfl, rfl, rfl, trivial⟩, ⟨rfl, trivial⟩, rfl⟩))
      · rw [if_neg (by decide)] at hfac
        rw [entF_n hfac] at hR
        (repeat' (first | refine Exists.intro _ (And.intro w2 ?_) | refine Exists.intro _ (And.intro hat ?_) | refine (c1).pure rfl ?_ | refine (c2).pure rfl ?_ | refine (c3).pure rfl ?_ | refine And.intro (neI rfl) ?_ | refine And.intro ⟨rfl, leR rfl, onesR rfl⟩ ?_ | refine And.intro ⟨rfl, leR rfl⟩ ?_ | refine draw_rule2 hfol (fun KK hKK => ?_) | refine hKK _ _ _ (by kernel_rfl) ?_ | refine region_rule (fun KK hKK => ?_) | refine hKK _ _ ?_ | refine And.intro (Eq.refl true) ?_ | refine Exists.intro _ (And.intro (wI (by omega)) ?_) | refine Exists.intro _ (And.intro (wU (by omega)) ?_) | refine Exists.intro _ (And.intro ⟨rfl, by omega⟩ ?_) | refine Exists.intro _ (And.intro rfl ?_) | refine And.intro rfl ?_ | refine And.intro ⟨rfl, rfl⟩ ?_ | ((refine And.intro (fun _ => ?_) (fun _ => ?_)) <;> try (exfalso; omega))))
        exact Exists.intro [] (And.intro (by rw [← hR]; rfl) (And.intro trivial rfl))
      · rw [if_neg (by decide)] at hfac
        rw [entF_n hfac] at hR
        (repeat' (first | refine Exists.intro _ (And.intro w2 ?_) | refine Exists.intro _ (And.intro hat ?_) | refine (c1).pure rfl ?_ | refine (c2).pure rfl ?_ | refine (c3).pure rfl ?_ | refine And.intro (neI rfl) ?_ | refine And.intro ⟨rfl, leR rfl, onesR rfl⟩ ?_ | refine And.intro ⟨rfl, leR rfl⟩ ?_ | refine draw_rule2 hfol (fun KK hKK => ?_) | refine hKK _ _ _ (by kernel_rfl) ?_ | refine region_rule (fun KK hKK => ?_) | refine hKK _ _ ?_ | refine And.intro (Eq.refl true) ?_ | refine Exists.intro _ (And.intro (wI (by omega)) ?_) | refine Exists.intro _ (And.intro (wU (by omega)) ?_) | refine Exists.intro _ (And.intro ⟨rfl, by omega⟩ ?_) | refine Exists.intro _ (And.intro rfl ?_) | refine And.intro rfl ?_ | refine And.intro ⟨rfl, rfl⟩ ?_ | ((refine And.intro (fun _ => ?_) (fun _ => ?_)) <;> try (exfalso; omega))))
        exact Exists.intro [] (And.intro (by rw [← hR]; rfl) (And.intro trivial rfl))
      · rw [if_pos rfl] at hfac
        rw [entF_f hfac, Int.mul_one, Int.emod_emod] at hR
        (repeat' (first | refine Exists.intro _ (And.intro w2 ?_) | refine Exists.intro _ (And.intro hat ?_) | refine (c1).pure rfl ?_ | refine (c2).pure rfl ?_ | refine (c3).pure rfl ?_ | refine And.intro (neI rfl) ?_ | refine And.intro ⟨rfl, leR rfl, onesR rfl⟩ ?_ | refine And.intro ⟨rfl, leR rfl⟩ ?_ | refine draw_rule2 hfol (fun KK hKK => ?_) | refine hKK _ _ _ (by kernel_rfl) ?_ | refine region_rule (fun KK hKK => ?_) | refine hKK _ _ ?_ | refine And.intro (Eq.refl true) ?_ | refine Exists.intro _ (And.intro (wI (by omega)) ?_) | refine Exists.intro _ (And.intro (wU (by omega)) ?_) | refine Exists.intro _ (And.intro ⟨rfl, by omega⟩ ?_) | refine Exists.intro _ (And.intro rfl ?_) | refine And.intro rfl ?_ | refine And.intro ⟨rfl, rfl⟩ ?_ | ((refine And.intro (fun _ => ?_) (fun _ => ?_)) <;> try (exfalso; omega))))
        refine Exists.intro (d, i + 1, o) (Exists.intro [0] (And.intro ⟨⟨by omega, ho, hR⟩, (by show d < d + 1; omega)⟩ ⟨⟨rfl, rfl, rfl, rfl, rfl, rfl, rfl, rfl, rfl, trivial⟩, ⟨rfl, trivial⟩, rfl⟩))
  · rw [if_neg hin] at hfac
    rcases lt1_01 v (2 * n - 1 - i) with ha | ha <;> rcases lt1_01 v (2 * n - 1 - k) with hb | hb <;> rw [ha, hb] at hfac <;> rw [ha] at c1 <;> rw [hb] at c2
    · rw [if_pos rfl] at hfac
      rw [entF_n hfac] at hR
      (repeat' (first | refine Exists.intro _ (And.intro w2 ?_) | refine Exists.intro _ (And.intro hat ?_) | refine (c1).pure rfl ?_ | refine (c2).pure rfl ?_ | refine And.intro (neI rfl) ?_ | refine And.intro ⟨rfl, leR rfl, onesR rfl⟩ ?_ | refine And.intro ⟨rfl, leR rfl⟩ ?_ | refine draw_rule2 hfol (fun KK hKK => ?_) | refine hKK _ _ _ (by kernel_rfl) ?_ | refine region_rule (fun KK hKK => ?_) | refine hKK _ _ ?_ | refine And.intro (Eq.refl true) ?_ | refine Exists.intro _ (And.intro (wI (by omega)) ?_) | refine Exists.intro _ (And.intro (wU (by omega)) ?_) | refine Exists.intro _ (And.intro ⟨rfl, by omega⟩ ?_) | refine Exists.intro _ (And.intro rfl ?_) | refine And.intro rfl ?_ | refine And.intro ⟨rfl, rfl⟩ ?_ | ((refine And.intro (fun _ => ?_) (fun _ => ?_)) <;> try (exfalso; omega))))
      exact Exists.intro [] (And.intro (by rw [← hR]; rfl) (And.intro trivial rfl))
    · rw [if_neg (by decide), if_pos rfl] at hfac
      rw [entF_f hfac, mulmod] at hR
      have hb2 := mulbd (o := o) (f := r) (p := p) (by omega) (by omega)
      have e1 : IntKind.i64.wrap (o * r) = o * r := wI (by omega)
      have e2 : Int.tmod (o * r) p = o * r % p := tmod_nn (Int.mul_nonneg ho.1 hr.1) (by omega)
      have h1 := Int.emod_nonneg (o * r) hp0
      have h2 := Int.emod_lt_of_pos (o * r) (show 0 < p by omega)
      (repeat' (first | refine Exists.intro _ (And.intro w2 ?_) | refine Exists.intro _ (And.intro hat ?_) | refine (c1).pure rfl ?_ | refine (c2).pure rfl ?_ | refine Exists.intro _ (And.intro e1 ?_) | refine Exists.intro _ (And.intro e2 ?_) | refine And.intro hp0 ?_ | refine And.intro (neI rfl) ?_ | refine And.intro ⟨rfl, leR rfl, onesR rfl⟩ ?_ | refine And.intro ⟨rfl, leR rfl⟩ ?_ | refine draw_rule2 hfol (fun KK hKK => ?_) | refine hKK _ _ _ (by kernel_rfl) ?_ | refine region_rule (fun KK hKK => ?_) | refine hKK _ _ ?_ | refine And.intro (Eq.refl true) ?_ | refine Exists.intro _ (And.intro (wI (by omega)) ?_) | refine Exists.intro _ (And.intro (wU (by omega)) ?_) | refine Exists.intro _ (And.intro ⟨rfl, by omega⟩ ?_) | refine Exists.intro _ (And.intro rfl ?_) | refine And.intro rfl ?_ | refine And.intro ⟨rfl, rfl⟩ ?_ | ((refine And.intro (fun _ => ?_) (fun _ => ?_)) <;> try (exfalso; omega))))
      refine Exists.intro (d, i + 1, o * r % p) (Exists.intro [0] (And.intro ⟨⟨by omega, by omega, by rw [Int.emod_emod]; exact hR⟩, (by show d < d + 1; omega)⟩ ⟨⟨rfl, rfl, rfl, rfl, rfl, rfl, rfl, rfl, rfl, trivial⟩, ⟨rfl, trivial⟩, rfl⟩))
    · rw [if_neg (by decide), if_neg (by decide)] at hfac
      rw [entF_f hfac, negmod] at hR
      have e1 : IntKind.i64.wrap (p - o) = p - o := wI (by omega)
      (repeat' (first | refine Exists.intro _ (And.intro w2 ?_) | refine Exists.intro _ (And.intro hat ?_) | refine (c1).pure rfl ?_ | refine (c2).pure rfl ?_ | refine Exists.intro _ (And.intro e1 ?_) | refine And.intro (neI rfl) ?_ | refine And.intro ⟨rfl, leR rfl, onesR rfl⟩ ?_ | refine And.intro ⟨rfl, leR rfl⟩ ?_ | refine draw_rule2 hfol (fun KK hKK => ?_) | refine hKK _ _ _ (by kernel_rfl) ?_ | refine region_rule (fun KK hKK => ?_) | refine hKK _ _ ?_ | refine And.intro (Eq.refl true) ?_ | refine Exists.intro _ (And.intro (wI (by omega)) ?_) | refine Exists.intro _ (And.intro (wU (by omega)) ?_) | refine Exists.intro _ (And.intro ⟨rfl, by omega⟩ ?_) | refine Exists.intro _ (And.intro rfl ?_) | refine And.intro rfl ?_ | refine And.intro ⟨rfl, rfl⟩ ?_ | ((refine And.intro (fun _ => ?_) (fun _ => ?_)) <;> try (exfalso; omega))))
      refine Exists.intro (d, i + 1, p - o) (Exists.intro [0] (And.intro ⟨⟨by omega, by omega, hR⟩, (by show d < d + 1; omega)⟩ ⟨⟨rfl, rfl, rfl, rfl, rfl, rfl, rfl, rfl, rfl, trivial⟩, ⟨rfl, trivial⟩, rfl⟩))
    · rw [if_pos rfl] at hfac
      rw [entF_n hfac] at hR
      (repeat' (first | refine Exists.intro _ (And.intro w2 ?_) | refine Exists.intro _ (And.intro hat ?_) | refine (c1).pure rfl ?_ | refine (c2).pure rfl ?_ | refine And.intro (neI rfl) ?_ | refine And.intro ⟨rfl, leR rfl, onesR rfl⟩ ?_ | refine And.intro ⟨rfl, leR rfl⟩ ?_ | refine draw_rule2 hfol (fun KK hKK => ?_) | refine hKK _ _ _ (by kernel_rfl) ?_ | refine region_rule (fun KK hKK => ?_) | refine hKK _ _ ?_ | refine And.intro (Eq.refl true) ?_ | refine Exists.intro _ (And.intro (wI (by omega)) ?_) | refine Exists.intro _ (And.intro (wU (by omega)) ?_) | refine Exists.intro _ (And.intro ⟨rfl, by omega⟩ ?_) | refine Exists.intro _ (And.intro rfl ?_) | refine And.intro rfl ?_ | refine And.intro ⟨rfl, rfl⟩ ?_ | ((refine And.intro (fun _ => ?_) (fun _ => ?_)) <;> try (exfalso; omega))))
      exact Exists.intro [] (And.intro (by rw [← hR]; rfl) (And.intro trivial rfl))
end Go.Proofs.Ytimigbgpldjefaa.VE
