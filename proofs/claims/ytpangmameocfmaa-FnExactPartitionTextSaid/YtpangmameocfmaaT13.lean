/- Contracts of functions of the given program, for all arguments that the contract names; see each theorem. -/
import Derived.Test.YtpangmameocfmaaT12
set_option linter.all false
namespace Go.Proofs.Ytpangmameocfmaa.VE
open Go
set_option maxHeartbeats 400000
set_option maxRecDepth 100000

theorem s_lawText (s : Int) (m : List Nat) (hm : m.length = 8) (hb : ∀ x ∈ m, x < 256) : Spec Try.prog n_l_FnExactPartitionText [pv s m] [] (vb true) [] := by
  have h1 := s_sText s m hm hb
  have h2 := s_iText s m hm hb
  generalize textR s m = p at h1 h2
  refine SpecW.of_EV hf_l_FnExactPartitionText hc_l_FnExactPartitionText rfl rfl rfl fun w0 B ρ0 _ => ?_
  (repeat' (first | refine (s_toP s m hm).pure rfl ?_ | refine h1.pure rfl ?_ | refine h2.pure rfl ?_ | refine Exists.intro (pcl s m) (And.intro ⟨pcl_len hm, pcl_all hm⟩ ?_) | refine And.intro (fun _ => ?_) (fun h => absurd rfl h) | refine And.intro (neI rfl) ?_ | refine And.intro ⟨rfl, leR rfl, onesR rfl⟩ ?_ | refine And.intro ⟨rfl, leR rfl⟩ ?_ | refine draw_rule hfol ?_ | refine And.intro (Eq.refl true) ?_ | refine Exists.intro _ (And.intro (wI (by omega)) ?_) | refine Exists.intro _ (And.intro (wU (by omega)) ?_) | refine Exists.intro _ (And.intro ⟨rfl, by omega⟩ ?_) | refine Exists.intro _ (And.intro rfl ?_) | refine And.intro rfl ?_ | refine And.intro ⟨rfl, rfl⟩ ?_ | ((refine And.intro (fun _ => ?_) (fun _ => ?_)) <;> try (exfalso; omega))))
  exact finP rfl
end Go.Proofs.Ytpangmameocfmaa.VE
