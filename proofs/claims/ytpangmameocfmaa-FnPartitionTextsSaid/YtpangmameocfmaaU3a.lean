/- Contracts of functions of the given program, for all arguments that the contract names; see each theorem. -/
import Derived.Test.YtpangmameocfmaaU1
set_option linter.all false
namespace Go.Proofs.Ytpangmameocfmaa.VE
open Go
set_option maxHeartbeats 800000
set_option maxRecDepth 100000

def oI (o : Nat → Nat) (j : Nat) : Int := ((o j : Nat) : Int)
/-- The diagram of partners on the line. -/
def jD (n : Nat) (o : Nat → Nat) : Nat → List Nat
  | 0 => List.replicate 16 0
  | k + 1 => (jD n o k).set (plc n k) (plc n (o k))
theorem jD_len {n : Nat} {o : Nat → Nat} : ∀ k, (jD n o k).length = 16
  | 0 => by simp [jD]
  | k + 1 => by simp [jD, jD_len k]

/-- What 'joined' lays. -/
theorem jD_at {n : Nat} {o : Nat → Nat} (hn : n ≤ 8) (ho : ∀ j, j < 2 * n → o j < 2 * n) : ∀ k, k ≤ 2 * n → ∀ i, (jD n o k).getD i 0 = if i < 2 * n ∧ plc n i < k then plc n (o (plc n i)) else 0
  | 0, _, i => by
    rw [if_neg (by omega), jD, List.getD_eq_getElem?_getD, List.getElem?_replicate]; split <;> rfl
  | k + 1, hk, i => by
    have hp := plc_lt (n := n) (i := k) (by omega)
    rw [jD, getD_set' (by rw [jD_len]; omega), jD_at hn ho k (by omega) i]
    by_cases h : plc n k = i
    · subst h
      rw [if_pos rfl, plc_inv (by omega), if_pos ⟨hp, by omega⟩]
    · rw [if_neg h]
      by_cases hi : i < 2 * n ∧ plc n i < k
      · rw [if_pos hi, if_pos ⟨hi.1, by omega⟩]
      · rw [if_neg hi, if_neg]
        rintro ⟨h1, h2⟩
        have : plc n i = k := by
          have : ¬ plc n i < k := fun h3 => hi ⟨h1, h3⟩
          omega
        exact h (by rw [← this, plc_inv h1])


theorem s_joined (n : Nat) (o : Nat → Nat) (hn1 : 1 ≤ n) (hn : n ≤ 8) (ho : ∀ j, j < 2 * n → o j < 2 * n) : Spec Try.prog n_i_joined [vi n, .sl 0] [.pr T_int 1 (2 * n) (il (oI o) (2 * n))] (pv n (jD n o (2 * n))) [.pr T_int 1 (2 * n) (il (oI o) (2 * n))] := by
  refine SpecW.of_EV hf_i_joined hc_i_joined rfl rfl rfl fun w0 B ρ0 _ => ?_
  (repeat' (first | refine Exists.intro (pcl n (List.replicate 16 0)) (And.intro ⟨leR rfl, rfl⟩ ?_) | refine And.intro (neI rfl) ?_ | refine And.intro ⟨rfl, leR rfl, onesR rfl⟩ ?_ | refine And.intro ⟨rfl, leR rfl⟩ ?_ | refine draw_rule2 hfol (fun KK hKK => ?_) | refine hKK _ _ _ (by kernel_rfl) ?_ | refine region_rule (fun KK hKK => ?_) | refine hKK _ _ ?_ | refine And.intro (Eq.refl true) ?_ | refine Exists.intro _ (And.intro (wI (by omega)) ?_) | refine Exists.intro _ (And.intro (wU (by omega)) ?_) | refine Exists.intro _ (And.intro ⟨rfl, by omega⟩ ?_) | refine Exists.intro _ (And.intro rfl ?_) | refine And.intro rfl ?_ | refine And.intro ⟨rfl, rfl⟩ ?_ | ((refine And.intro (fun _ => ?_) (fun _ => ?_)) <;> try (exfalso; omega))))
  refine loop_rule (α := Nat) (fun k => k ≤ 2 * n)
    (fun k => [(0, vi n), (4, .ptr 1 0), (5, .ptr 2 0), (10, .sl 0), (11, vi (2 * n : Nat)), (12, vi k)])
    (fun k => [.pr T_int 1 (2 * n) (il (oI o) (2 * n)), .pc (pcl 0 (List.replicate 16 0)) T_i_Diagram, .pc (pcl n (jD n o k)) T_i_Diagram]) (fun k => 2 * n - k) 0 [0, 1, 2]
    (by omega) ⟨⟨rfl, rfl, rfl, rfl, rfl, rfl, trivial⟩, ⟨rfl, rfl, rfl, trivial⟩, rfl⟩ ?_
  rintro k g hk
  by_cases h9 : k = 2 * n
  · subst h9
    (repeat' (first | refine Exists.intro (pcl n (jD n o (2 * n))) (And.intro ⟨pcl_len (jD_len _), pcl_all (jD_len _)⟩ ?_) | refine And.intro ⟨pcl_len (jD_len _), leR rfl, pcl_ones⟩ ?_ | refine Exists.intro (pcl n (jD n o (2 * n))) (And.intro ⟨leR rfl, spl0 (leR rfl)⟩ ?_) | refine And.intro (neI rfl) ?_ | refine And.intro ⟨rfl, leR rfl, onesR rfl⟩ ?_ | refine And.intro ⟨rfl, leR rfl⟩ ?_ | refine draw_rule2 hfol (fun KK hKK => ?_) | refine hKK _ _ _ (by kernel_rfl) ?_ | refine region_rule (fun KK hKK => ?_) | refine hKK _ _ ?_ | refine And.intro (Eq.refl true) ?_ | refine Exists.intro _ (And.intro (wI (by omega)) ?_) | refine Exists.intro _ (And.intro (wU (by omega)) ?_) | refine Exists.intro _ (And.intro ⟨rfl, by omega⟩ ?_) | refine Exists.intro _ (And.intro rfl ?_) | refine And.intro rfl ?_ | refine And.intro ⟨rfl, rfl⟩ ?_ | ((refine And.intro (fun _ => ?_) (fun _ => ?_)) <;> try (exfalso; omega))))
    exact Exists.intro [0] (And.intro rfl (And.intro ⟨rfl, trivial⟩ rfl))
  have hkl : k < 2 * n := by omega
  have hok := ho k hkl
  have hp1 := plc_lt hkl
  have hp2 := plc_lt hok
  (repeat' (first | refine (s_iplace n k (by omega) hkl).pure rfl ?_ | refine (s_iplace n (o k) (by omega) hok).pure rfl ?_ | refine Exists.intro _ (And.intro (il_at hkl) ?_) | refine Exists.intro (pcl n (jD n o (k + 1))) (And.intro ⟨by rw [pcl_len (jD_len _)]; omega, pcl_set⟩ ?_) | refine And.intro (neI rfl) ?_ | refine And.intro ⟨rfl, leR rfl, onesR rfl⟩ ?_ | refine And.intro ⟨rfl, leR rfl⟩ ?_ | refine draw_rule2 hfol (fun KK hKK => ?_) | refine hKK _ _ _ (by kernel_rfl) ?_ | refine region_rule (fun KK hKK => ?_) | refine hKK _ _ ?_ | refine And.intro (Eq.refl true) ?_ | refine Exists.intro _ (And.intro (wI (by omega)) ?_) | refine Exists.intro _ (And.intro (wU (by omega)) ?_) | refine Exists.intro _ (And.intro ⟨rfl, by omega⟩ ?_) | refine Exists.intro _ (And.intro rfl ?_) | refine And.intro rfl ?_ | refine And.intro ⟨rfl, rfl⟩ ?_ | ((refine And.intro (fun _ => ?_) (fun _ => ?_)) <;> try (exfalso; omega))))
  refine Exists.intro (k + 1) (Exists.intro [0, 1, 2] (And.intro ⟨by omega, (by show 2 * n - (k + 1) < 2 * n - k; omega)⟩ ⟨⟨rfl, rfl, rfl, rfl, rfl, rfl, trivial⟩, ⟨rfl, rfl, rfl, trivial⟩, rfl⟩))

end Go.Proofs.Ytpangmameocfmaa.VE
