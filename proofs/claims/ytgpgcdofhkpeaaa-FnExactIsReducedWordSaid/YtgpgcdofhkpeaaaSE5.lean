/- The program's IsReducedWord returns what the reference's returns, for all arguments: the law FnExactIsReducedWord returns true for every argument, and each argument reads behind the call as before; no condition. -/
import Derived.Test.YtgpgcdofhkpeaaaS0
import Derived.Test.YtgpgcdofhkpeaaaF29
set_option linter.all false
namespace Go.Proofs.Ytgpgcdofhkpeaaa
open Go Go.Proofs.Ytgpgcdofhkpeaaa.VE Go.ChangeShapes Go.WideShapes Go.ChangeAt Go.RowKit
open Go.ChangeMaps (open_string)
set_option maxRecDepth 100000 in
theorem fnExactIsReducedWord_lifted (os : Os) (started : os.Started) (H : Type) (enc : TypeId × Value → H) :
    ReturnsInHanded {} Try.checked os 7 .any (Rows.fnExactIsReducedWordSpec.pre6 enc Try.prog Try.f7 Rows.fnExactIsReducedWordRow.domain false) (Rows.fnExactIsReducedWordSpec.post enc Try.prog Try.f7 false true false false) := by
  refine returnsInHanded_of_change (C := Try.checked) own started (by kernel_rfl) Try.func7
    (ChangeSpec.witness6 (enc := enc) (C := Try.checked) false ⟨#[], #[.int .i64 0, .slice none 0 0], []⟩ 8 (by kernel_rfl) (by kernel_rfl) (by kernel_rfl) (by kernel_rfl)) ?_
  intro W base args ds gs before hval0 hW hcnd _
  have hval : ∀ (j : Nat) t v, Try.f7.params[j]? = some t → args[j]? = some v → Value.okWide Try.prog W .any base t v := hval0
  have hW' := hW
  obtain ⟨p, q, hA0, hV, rfl, hfz, hnd⟩ := hW
  have hA : DataW.TrodAll enc Try.prog W 0 (fun _ => true) true Try.f7.params.toList args.toList ds p := hA0
  rw [Try.params7] at hA hval
  obtain ⟨v0, v1, d0, d1, p0, p1, rfl, rfl, rfl, h0, h1⟩ := trodAll_two hA
  obtain ⟨rfl, rfl⟩ := trodVars_none hV
  obtain ⟨s0, rfl, _, _, w0⟩ := open_int Try.underlying2 (hval 0 _ v0 rfl rfl) h0
  obtain ⟨Wc, g1, N1, hA1, hw1, hr1⟩ := open_row rfl Try.underlying2 rfl (hval 1 _ v1 rfl rfl) h1
  refine (SpecW.belowW (args := [.int .i64 s0, v1]) (s_lawIRd s0 (wf_i64 w0) hA1) W hw1).mono fun e W' ⟨he, hb⟩ => ?_
  exact ⟨_, he, law_post laidOut (by kernel_rfl) rfl rfl rfl Try.underlying4 hW' hb⟩

theorem fnExactIsReducedWord_holds : Rows.FnExactIsReducedWordSaid :=
  OpenClaim.holds_of_wide 7 Try.f7 rfl rfl rfl rfl rfl rfl rfl ⟨rfl, rfl, rfl, rfl, rfl⟩ rfl rfl rfl rfl rfl (by kernel_rfl) Try.func7 (by kernel_rfl)
    (of_decide_eq_true (by kernel_rfl)) (by unfold Func.isWrapper; first | (rw [if_pos (by decide +kernel)]; kernel_rfl) | (rw [if_neg (by decide +kernel)]; exact ⟨rfl, rfl⟩))
    (fun os started H enc _ => fnExactIsReducedWord_lifted os started H enc)
end Go.Proofs.Ytgpgcdofhkpeaaa
