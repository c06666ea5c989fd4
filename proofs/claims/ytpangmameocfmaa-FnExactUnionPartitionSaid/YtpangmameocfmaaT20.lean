/- Contracts of functions of the given program, for all arguments that the contract names; see each theorem. -/
import Derived.Test.YtpangmameocfmaaT19
set_option linter.all false
namespace Go.Proofs.Ytpangmameocfmaa.VE
open Go
set_option maxHeartbeats 800000
set_option maxRecDepth 100000
theorem unionR_len (sa : Int) (a : List Nat) (sb : Int) (b : List Nat) : (unionR sa a sb b).2.1.length = 8 := by
  unfold unionR; split
  · split
    · simp
    · exact nm_len
  · simp

theorem s_lawUnion (sa : Int) (a : List Nat) (ha : a.length = 8) (hab : ∀ x ∈ a, x < 256) (sb : Int) (b : List Nat) (hb : b.length = 8) (hbb : ∀ x ∈ b, x < 256) : Spec Try.prog n_l_FnExactUnionPartition [pv sa a, pv sb b] [] (vb true) [] := by
  have h1 := s_sUnion sa a ha hab sb b hb hbb
  have h2 := s_iUnion sa a ha hab sb b hb hbb
  have hl := unionR_len sa a sb b
  generalize unionR sa a sb b = p at h1 h2 hl
  have he := s_eqP p.1 p.2.1 hl
  refine SpecW.of_EV hf_l_FnExactUnionPartition hc_l_FnExactUnionPartition rfl rfl rfl fun w0 B ρ0 _ => ?_
  (repeat' (first | refine (s_toP sa a ha).pure rfl ?_ | refine (s_toP sb b hb).pure rfl ?_ | refine h1.pure rfl ?_ | refine h2.pure rfl ?_ | refine he.pure rfl ?_ | refine And.intro ⟨pcl_len hl, leR rfl, pcl_ones⟩ ?_ | refine Exists.intro (pcl p.1 p.2.1) (And.intro ⟨leR rfl, spl0 (leR rfl)⟩ ?_) | refine Exists.intro (pcl p.1 p.2.1) (And.intro ⟨pcl_len hl, pcl_all hl⟩ ?_) | refine Exists.intro (pcl sa a) (And.intro ⟨pcl_len ha, pcl_all ha⟩ ?_) | refine Exists.intro (pcl sb b) (And.intro ⟨pcl_len hb, pcl_all hb⟩ ?_) | refine And.intro (fun _ => ?_) (fun h => absurd rfl h) | refine And.intro (neI rfl) ?_ | refine And.intro ⟨rfl, leR rfl, onesR rfl⟩ ?_ | refine And.intro ⟨rfl, leR rfl⟩ ?_ | refine draw_rule hfol ?_ | refine And.intro (Eq.refl true) ?_ | refine Exists.intro _ (And.intro (wI (by omega)) ?_) | refine Exists.intro _ (And.intro (wU (by omega)) ?_) | refine Exists.intro _ (And.intro ⟨rfl, by omega⟩ ?_) | refine Exists.intro _ (And.intro rfl ?_) | refine And.intro rfl ?_ | refine And.intro ⟨rfl, rfl⟩ ?_ | ((refine And.intro (fun _ => ?_) (fun _ => ?_)) <;> try (exfalso; omega))))
  exact finP rfl
end Go.Proofs.Ytpangmameocfmaa.VE
