/- Contracts of functions of the given program, for all arguments that the contract names; see each theorem. -/
import Derived.Test.YtpangmameocfmaaT7
set_option linter.all false
namespace Go.Proofs.Ytpangmameocfmaa.VE.P
open Go
set_option maxHeartbeats 400000
set_option maxRecDepth 100000

theorem s_lawParse (bs : ByteArray) (heq : bs.size ≤ 1048576 → parseS bs = parseG isPi bs) : Spec Try.prog n_l_FnExactParsePartition [.raw (.string bs)] [] (vb true) [] := by
  refine SpecW.of_EV hf_l_FnExactParsePartition hc_l_FnExactParsePartition rfl rfl rfl fun w0 B ρ0 _ => ?_
  by_cases hsz : bs.size ≤ 1048576
  rotate_left
  · (repeat' (first | refine And.intro (neI rfl) ?_ | refine And.intro ⟨rfl, leR rfl, onesR rfl⟩ ?_ | refine And.intro ⟨rfl, leR rfl⟩ ?_ | refine draw_rule2 hfol (fun KK hKK => ?_) | refine hKK _ _ _ (by kernel_rfl) ?_ | refine region_rule (fun KK hKK => ?_) | refine hKK _ _ ?_ | refine And.intro (Eq.refl true) ?_ | refine Exists.intro _ (And.intro (wI (by omega)) ?_) | refine Exists.intro _ (And.intro (wU (by omega)) ?_) | refine Exists.intro _ (And.intro ⟨rfl, by omega⟩ ?_) | refine Exists.intro _ (And.intro rfl ?_) | refine And.intro rfl ?_ | refine And.intro ⟨rfl, rfl⟩ ?_ | ((refine And.intro (fun _ => ?_) (fun _ => ?_)) <;> try (exfalso; omega))))
    exact finP rfl
  have h1 := s_sParse bs hsz
  have h2 := s_iParse bs hsz
  rw [heq hsz] at h1
  have hl : (parseG isPi bs).2.1.length = 8 := by
    unfold parseG; split
    · split
      · exact pa_len
      · simp
    · simp
  generalize parseG isPi bs = p at h1 h2 hl
  have he := s_eqP p.1 p.2.1 hl
  (repeat' (first | refine h1.pure rfl ?_ | refine h2.pure rfl ?_ | refine he.pure rfl ?_ | refine And.intro ⟨pcl_len hl, leR rfl, pcl_ones⟩ ?_ | refine Exists.intro (pcl p.1 p.2.1) (And.intro ⟨leR rfl, spl0 (leR rfl)⟩ ?_) | refine Exists.intro (pcl p.1 p.2.1) (And.intro ⟨pcl_len hl, pcl_all hl⟩ ?_) | refine And.intro (neI rfl) ?_ | refine And.intro ⟨rfl, leR rfl, onesR rfl⟩ ?_ | refine And.intro ⟨rfl, leR rfl⟩ ?_ | refine draw_rule2 hfol (fun KK hKK => ?_) | refine hKK _ _ _ (by kernel_rfl) ?_ | refine region_rule (fun KK hKK => ?_) | refine hKK _ _ ?_ | refine And.intro (Eq.refl true) ?_ | refine Exists.intro _ (And.intro (wI (by omega)) ?_) | refine Exists.intro _ (And.intro (wU (by omega)) ?_) | refine Exists.intro _ (And.intro ⟨rfl, by omega⟩ ?_) | refine Exists.intro _ (And.intro rfl ?_) | refine And.intro rfl ?_ | refine And.intro ⟨rfl, rfl⟩ ?_ | ((refine And.intro (fun _ => ?_) (fun _ => ?_)) <;> try (exfalso; omega))))
  exact finP rfl

end Go.Proofs.Ytpangmameocfmaa.VE.P
