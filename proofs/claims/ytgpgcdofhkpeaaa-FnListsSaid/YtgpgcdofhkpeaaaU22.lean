/- Contracts of functions of the given program, for all arguments that the contract names; see each theorem. -/
import Derived.Test.YtgpgcdofhkpeaaaU21
import Derived.Test.YtgpgcdofhkpeaaaU18a
import Derived.Test.YtgpgcdofhkpeaaaK1
set_option linter.all false
namespace Go.Proofs.Ytgpgcdofhkpeaaa.VE
open Go
set_option maxHeartbeats 800000
set_option maxRecDepth 100000

/-! words -/
theorem lpO_le {n : Nat} {a b : List Nat} : ∀ d i s c, lpO n a b d i s c ≤ c + d
  | 0, _, _, c => Nat.le_refl c
  | d + 1, i, s, c => by
    unfold lpO; split
    · have := lpO_le (n := n) (a := a) (b := b) d (i + 1) s c; omega
    · have := lpO_le (n := n) (a := a) (b := b) d (i + 1) (spI n a b 8 i s) (c + 1); omega
theorem lpN_le {n : Nat} {a b : List Nat} : lpN n a b ≤ n := by
  have := lpO_le (n := n) (a := a) (b := b) n 0 (oL n a b n).2 0; unfold lpN; omega
/-- The value of the first k letters, and its loops. -/
def vw (n : Nat) (g : Nat → Int) : Nat → List Nat × Nat
  | 0 => (un n, 0)
  | k + 1 => ((oL n (vw n g k).1 (gen n (g k).toNat) n).1, (vw n g k).2 + lpN n (vw n g k).1 (gen n (g k).toNat))
def okL (n : Int) (g : Nat → Int) (N : Nat) : Prop := ∀ j, j < N → 0 ≤ g j ∧ g j ≤ n - 2
theorem vw_V {n : Nat} {g : Nat → Int} (hn1 : 1 ≤ n) (hn : n ≤ 8) : ∀ k, okL n g k → IsV n (vw n g k).1
  | 0, _ => un_V hn1 hn
  | k + 1, h => by
    have := h k (by omega)
    exact oL_V (vw_V hn1 hn k fun j hj => h j (by omega)) (gen_V hn (by omega))
theorem vw_le {n : Nat} {g : Nat → Int} : ∀ k, (vw n g k).2 ≤ n * k
  | 0 => by simp [vw]
  | k + 1 => by
    have h1 := vw_le (n := n) (g := g) k
    have h2 := lpN_le (n := n) (a := (vw n g k).1) (b := gen n (g k).toNat)
    simp only [vw, Nat.mul_succ]; omega
abbrev dlV' (s : Int) (m : List Nat) (c : Int) : V := .tup [pv s m, vi c]

theorem s_sval (n : Nat) (g : Nat → Int) (N : Nat) (hn1 : 2 ≤ n) (hn : n ≤ 8) (hN : N ≤ 60) (hg : okL n g N) :
    Spec Try.prog n_s_l03Value [vi n, .sl 0] [.pr T_int64 1 N (il g N)] (dlV n (vw n g N).1 ((vw n g N).2 : Nat)) [.pr T_int64 1 N (il g N)] := by
  have hfol : Try.prog.follows .mixedOrders = true := rfl
  have hu := s_sone n (by omega) hn
  refine SpecW.of_EV hf_s_l03Value hc_s_l03Value rfl rfl rfl fun w0 B ρ0 _ => ?_
  (repeat' (first | refine (hu).pure rfl ?_ | refine Exists.intro (pcl (n : Int) (un n)) (And.intro ⟨pcl_len un_len, pcl_all un_len⟩ ?_) | refine And.intro ⟨pcl_len un_len, leR rfl, pcl_ones⟩ ?_ | refine Exists.intro (pcl (n : Int) (un n)) (And.intro ⟨leR rfl, spl0 (leR rfl)⟩ ?_) | refine And.intro (neI rfl) ?_ | refine And.intro ⟨rfl, leR rfl, onesR rfl⟩ ?_ | refine And.intro ⟨rfl, leR rfl⟩ ?_ | refine draw_rule2 hfol (fun KK hKK => ?_) | refine hKK _ _ _ (by kernel_rfl) ?_ | refine region_rule (fun KK hKK => ?_) | refine hKK _ _ ?_ | refine And.intro (Eq.refl true) ?_ | refine Exists.intro _ (And.intro (wI (by omega)) ?_) | refine Exists.intro _ (And.intro (wU (by omega)) ?_) | refine Exists.intro _ (And.intro ⟨rfl, by omega⟩ ?_) | refine Exists.intro _ (And.intro rfl ?_) | refine And.intro rfl ?_ | refine And.intro ⟨rfl, rfl⟩ ?_ | ((refine And.intro (fun _ => ?_) (fun _ => ?_)) <;> try (exfalso; omega))))
  refine loop_rule (α := Nat) (fun k => k ≤ N) (fun k => [(4, .ptr 1 0), (0, vi n), (1, .sl 0), (6, .ptr 2 0), (7, vi ((vw n g k).2 : Nat)), (8, vi k)])
    (fun k => [.pr T_int64 1 N (il g N), .pc (pcl 0 (List.replicate 16 0)) T_i_Diagram, .pc (pcl n (vw n g k).1) T_i_Diagram]) (fun k => N - k) 0 [0, 1, 2]
    (by omega) ⟨⟨rfl, rfl, rfl, rfl, rfl, rfl, trivial⟩, ⟨rfl, rfl, rfl, trivial⟩, rfl⟩ ?_
  rintro k gg hk
  have hV := vw_V (by omega) hn k (fun j hj => hg j (by omega))
  by_cases h9 : k = N
  · subst h9
    (repeat' (first | refine Exists.intro (pcl (n : Int) (vw n g k).1) (And.intro ⟨pcl_len hV.len, pcl_all hV.len⟩ ?_) | refine And.intro ⟨pcl_len hV.len, leR rfl, pcl_ones⟩ ?_ | refine Exists.intro (pcl (n : Int) (vw n g k).1) (And.intro ⟨leR rfl, spl0 (leR rfl)⟩ ?_) | refine And.intro (neI rfl) ?_ | refine And.intro ⟨rfl, leR rfl, onesR rfl⟩ ?_ | refine And.intro ⟨rfl, leR rfl⟩ ?_ | refine draw_rule2 hfol (fun KK hKK => ?_) | refine hKK _ _ _ (by kernel_rfl) ?_ | refine region_rule (fun KK hKK => ?_) | refine hKK _ _ ?_ | refine And.intro (Eq.refl true) ?_ | refine Exists.intro _ (And.intro (wI (by omega)) ?_) | refine Exists.intro _ (And.intro (wU (by omega)) ?_) | refine Exists.intro _ (And.intro ⟨rfl, by omega⟩ ?_) | refine Exists.intro _ (And.intro rfl ?_) | refine And.intro rfl ?_ | refine And.intro ⟨rfl, rfl⟩ ?_ | ((refine And.intro (fun _ => ?_) (fun _ => ?_)) <;> try (exfalso; omega))))
    exact Exists.intro [0] (And.intro (rfl) (And.intro ⟨rfl, trivial⟩ rfl))
  have hkl : k < N := by omega
  have hgk := hg k hkl
  have hVg := gen_V (n := n) (i := (g k).toNat) hn (by omega)
  have hc := s_scup n (g k).toNat hn (by omega)
  rw [Int.toNat_of_nonneg hgk.1] at hc
  have ht := s_stimes n (vw n g k).1 (gen n (g k).toNat) hV hVg
  have hle1 := vw_le (n := n) (g := g) k
  have hle2 := lpN_le (n := n) (a := (vw n g k).1) (b := gen n (g k).toNat)
  have hle3 : n * k ≤ 8 * 60 := Nat.mul_le_mul hn (by omega)
  have hV1 := oL_V hV hVg
  have e1 : IntKind.i64.wrap (((vw n g k).2 : Nat) + ((lpN n (vw n g k).1 (gen n (g k).toNat) : Nat) : Int)) = (((vw n g (k + 1)).2 : Nat) : Int) := wC (by simp [vw]) (by simp only [vw]; omega)
  (repeat' (first | refine Exists.intro _ (And.intro (il_at hkl) ?_) | refine (hc).pure rfl ?_ | refine (ht).pure rfl ?_ | refine Exists.intro _ (And.intro e1 ?_) | refine Exists.intro (pcl (n : Int) (vw n g k).1) (And.intro ⟨pcl_len hV.len, pcl_all hV.len⟩ ?_) | refine And.intro ⟨pcl_len hV.len, leR rfl, pcl_ones⟩ ?_ | refine Exists.intro (pcl (n : Int) (vw n g k).1) (And.intro ⟨leR rfl, spl0 (leR rfl)⟩ ?_) | refine Exists.intro (pcl (n : Int) (oL n (vw n g k).1 (gen n (g k).toNat) n).1) (And.intro ⟨pcl_len hV1.len, pcl_all hV1.len⟩ ?_) | refine And.intro ⟨pcl_len hV1.len, leR rfl, pcl_ones⟩ ?_ | refine Exists.intro (pcl (n : Int) (oL n (vw n g k).1 (gen n (g k).toNat) n).1) (And.intro ⟨leR rfl, spl0 (leR rfl)⟩ ?_) | refine Exists.intro (pcl n (vw n g (k + 1)).1) (And.intro ⟨(by rw [pcl_len hV.len]; exact Nat.le_refl _), spl0 (Nat.le_of_eq (pcl_len hV.len))⟩ ?_) | refine And.intro (neI rfl) ?_ | refine And.intro ⟨rfl, leR rfl, onesR rfl⟩ ?_ | refine And.intro ⟨rfl, leR rfl⟩ ?_ | refine draw_rule2 hfol (fun KK hKK => ?_) | refine hKK _ _ _ (by kernel_rfl) ?_ | refine region_rule (fun KK hKK => ?_) | refine hKK _ _ ?_ | refine And.intro (Eq.refl true) ?_ | refine Exists.intro _ (And.intro (wI (by omega)) ?_) | refine Exists.intro _ (And.intro (wU (by omega)) ?_) | refine Exists.intro _ (And.intro ⟨rfl, by omega⟩ ?_) | refine Exists.intro _ (And.intro rfl ?_) | refine And.intro rfl ?_ | refine And.intro ⟨rfl, rfl⟩ ?_ | ((refine And.intro (fun _ => ?_) (fun _ => ?_)) <;> try (exfalso; omega))))
  refine Exists.intro (k + 1) (Exists.intro [0, 1, 2] (And.intro ⟨by omega, (by show N - (k + 1) < N - k; omega)⟩ ⟨⟨rfl, rfl, rfl, rfl, rfl, rfl, trivial⟩, ⟨rfl, rfl, rfl, trivial⟩, rfl⟩))
end Go.Proofs.Ytgpgcdofhkpeaaa.VE
