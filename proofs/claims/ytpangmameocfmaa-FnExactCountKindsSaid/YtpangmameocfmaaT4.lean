/- Contracts of functions of the given program, for all arguments that the contract names; see each theorem. -/
import Derived.Test.YtpangmameocfmaaT3
set_option linter.all false
namespace Go.Proofs.Ytpangmameocfmaa.VE.P
open Go
set_option maxHeartbeats 400000
set_option maxRecDepth 100000

theorem s_iin (a b c : Int) : Spec Try.prog n_i_in [vi a, vi b, vi c] [] (vb (decide (b ≤ a ∧ a ≤ c))) [] := by
  refine SpecW.of_EV hf_i_in hc_i_in rfl rfl rfl fun w0 B ρ0 _ => ?_
  (repeat' (first | refine And.intro (neI rfl) ?_ | refine And.intro ⟨rfl, leR rfl, onesR rfl⟩ ?_ | refine And.intro ⟨rfl, leR rfl⟩ ?_ | refine draw_rule2 hfol (fun KK hKK => ?_) | refine hKK _ _ _ (by kernel_rfl) ?_ | refine region_rule (fun KK hKK => ?_) | refine hKK _ _ ?_ | refine And.intro (Eq.refl true) ?_ | refine Exists.intro _ (And.intro (wI (by omega)) ?_) | refine Exists.intro _ (And.intro (wU (by omega)) ?_) | refine Exists.intro _ (And.intro ⟨rfl, by omega⟩ ?_) | refine Exists.intro _ (And.intro rfl ?_) | refine And.intro rfl ?_ | refine And.intro ⟨rfl, rfl⟩ ?_ | ((refine And.intro (fun _ => ?_) (fun _ => ?_)) <;> try (exfalso; omega))))
  all_goals exact finP (vbR (by first | (rw [decide_eq_true (by omega)]) | (rw [decide_eq_false (by omega)])))

theorem eqPt (w : World) {s s' : Int} {m m' : List Nat} (hm : m.length = 8) (hm' : m'.length = 8) : (Op.equalIn 10000 T_i_Partition (.agg (pcl s m).toArray) (.agg (pcl s' m').toArray)).run Try.prog w = .ok (decide (s = s' ∧ m = m')) w :=
  eq_sized rfl st_i_Partition rfl rfl rfl rfl rfl rfl rfl rfl rfl rfl rfl hm hm'

def isPi (s : Int) (m : List Nat) : Bool := decide (1 ≤ s ∧ s ≤ 4) && decide (m = nm (fun i => ((m.getD i 0 : Nat) : Int)) s.toNat)

theorem s_isP (s : Int) (m : List Nat) (hm : m.length = 8) (hb : ∀ x ∈ m, x < 256) : Spec Try.prog n_i_IsPartition [pv s m] [] (vb (isPi s m)) [] := by
  refine SpecW.of_EV hf_i_IsPartition hc_i_IsPartition rfl rfl rfl fun w0 B ρ0 _ => ?_
  by_cases h1 : 1 ≤ s ∧ s ≤ 4
  · obtain ⟨n, rfl⟩ : ∃ n : Nat, s = n := ⟨s.toNat, by omega⟩
    have hin := s_iin n 1 4
    rw [decide_eq_true h1] at hin
    (repeat' (first | refine hin.pure rfl ?_ | refine (s_n n m).read [0] rfl ⟨rfl, trivial⟩ ?_ | refine (s_named_part n n m hm hb (by omega)).read [0] rfl ⟨rfl, trivial⟩ ?_ | refine Exists.intro (pcl n m) (And.intro ⟨pcl_len hm, pcl_all hm⟩ ?_) | refine Exists.intro _ (And.intro ⟨eg_i_Partition, fun w => eqPt w hm nm_len⟩ ?_) | refine And.intro (neI rfl) ?_ | refine And.intro ⟨rfl, leR rfl, onesR rfl⟩ ?_ | refine And.intro ⟨rfl, leR rfl⟩ ?_ | refine draw_rule2 hfol (fun KK hKK => ?_) | refine hKK _ _ _ (by kernel_rfl) ?_ | refine region_rule (fun KK hKK => ?_) | refine hKK _ _ ?_ | refine And.intro (Eq.refl true) ?_ | refine Exists.intro _ (And.intro (wI (by omega)) ?_) | refine Exists.intro _ (And.intro (wU (by omega)) ?_) | refine Exists.intro _ (And.intro ⟨rfl, by omega⟩ ?_) | refine Exists.intro _ (And.intro rfl ?_) | refine And.intro rfl ?_ | refine And.intro ⟨rfl, rfl⟩ ?_ | ((refine And.intro (fun _ => ?_) (fun _ => ?_)) <;> try (exfalso; omega))))
    refine finP (vbR ?_)
    show decide ((n : Int) = n ∧ m = nm (fun i => ((m.getD i 0 : Nat) : Int)) n) = isPi n m
    simp [isPi, h1]
  · have hin := s_iin s 1 4
    rw [decide_eq_false h1] at hin
    (repeat' (first | refine hin.pure rfl ?_ | refine And.intro (neI rfl) ?_ | refine And.intro ⟨rfl, leR rfl, onesR rfl⟩ ?_ | refine And.intro ⟨rfl, leR rfl⟩ ?_ | refine draw_rule2 hfol (fun KK hKK => ?_) | refine hKK _ _ _ (by kernel_rfl) ?_ | refine region_rule (fun KK hKK => ?_) | refine hKK _ _ ?_ | refine And.intro (Eq.refl true) ?_ | refine Exists.intro _ (And.intro (wI (by omega)) ?_) | refine Exists.intro _ (And.intro (wU (by omega)) ?_) | refine Exists.intro _ (And.intro ⟨rfl, by omega⟩ ?_) | refine Exists.intro _ (And.intro rfl ?_) | refine And.intro rfl ?_ | refine And.intro ⟨rfl, rfl⟩ ?_ | ((refine And.intro (fun _ => ?_) (fun _ => ?_)) <;> try (exfalso; omega))))
    refine finP (vbR ?_)
    simp [isPi, h1]
end Go.Proofs.Ytpangmameocfmaa.VE.P
