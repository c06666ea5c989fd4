/- Contracts of functions of the given program, for all arguments that the contract names; see each theorem. -/
import Derived.Test.YtpangmameocfmaaU1
set_option linter.all false
namespace Go.Proofs.Ytpangmameocfmaa.VE
open Go
set_option maxHeartbeats 800000
set_option maxRecDepth 100000

theorem s_join (s : Int) (m : List Nat) (i k : Nat) (hm : m.length = 16) (hi : i < 16) (hk : k < 16) : Spec Try.prog n_s_l01Join [pv s m, vi i, vi k] [] (pv s ((m.set i k).set k i)) [] := by
  refine SpecW.of_EV hf_s_l01Join hc_s_l01Join rfl rfl rfl fun w0 B ρ0 _ => ?_
  have hm1 : (m.set i k).length = 16 := by simpa using hm
  have hm2 : ((m.set i k).set k i).length = 16 := by simpa using hm
  (repeat' (first | refine Exists.intro (pcl s (m.set i k)) (And.intro ⟨by rw [pcl_len hm]; omega, pcl_set⟩ ?_) | refine Exists.intro (pcl s ((m.set i k).set k i)) (And.intro ⟨by rw [pcl_len hm1]; omega, pcl_set⟩ ?_) | refine Exists.intro (pcl s ((m.set i k).set k i)) (And.intro ⟨pcl_len hm2, pcl_all hm2⟩ ?_) | refine And.intro ⟨pcl_len hm2, leR rfl, pcl_ones⟩ ?_ | refine Exists.intro (pcl s ((m.set i k).set k i)) (And.intro ⟨leR rfl, spl0 (leR rfl)⟩ ?_) | refine And.intro (neI rfl) ?_ | refine And.intro ⟨rfl, leR rfl, onesR rfl⟩ ?_ | refine And.intro ⟨rfl, leR rfl⟩ ?_ | refine draw_rule2 hfol (fun KK hKK => ?_) | refine hKK _ _ _ (by kernel_rfl) ?_ | refine region_rule (fun KK hKK => ?_) | refine hKK _ _ ?_ | refine And.intro (Eq.refl true) ?_ | refine Exists.intro _ (And.intro (wI (by omega)) ?_) | refine Exists.intro _ (And.intro (wU (by omega)) ?_) | refine Exists.intro _ (And.intro ⟨rfl, by omega⟩ ?_) | refine Exists.intro _ (And.intro rfl ?_) | refine And.intro rfl ?_ | refine And.intro ⟨rfl, rfl⟩ ?_ | ((refine And.intro (fun _ => ?_) (fun _ => ?_)) <;> try (exfalso; omega))))
  exact Exists.intro [] (And.intro (rfl) (And.intro trivial rfl))

end Go.Proofs.Ytpangmameocfmaa.VE
