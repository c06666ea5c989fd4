/- The program's FnPartitionTexts returns what the reference's returns, for all arguments: the law FnPartitionTexts returns true for every argument, and each argument reads behind the call as before; no condition. -/
import Derived.Test.YtpangmameocfmaaR0
import Derived.Test.YtpangmameocfmaaT49
set_option linter.all false
namespace Go.Proofs.Ytpangmameocfmaa
open Go Go.Proofs.Ytpangmameocfmaa.VE Go.Proofs.Ytpangmameocfmaa.VE.P Go.ChangeShapes Go.WideShapes Go.ChangeAt Go.RowKit
open Go.ChangeMaps (open_string)
set_option maxRecDepth 100000 in
theorem fnPartitionTexts_lifted (os : Os) (started : os.Started) (H : Type) (enc : TypeId × Value → H) :
    ReturnsInHanded {} Try.checked os 14 .any (Rows.fnPartitionTextsSpec.pre6 enc Try.prog Try.f14 Rows.fnPartitionTextsRow.domain false) (Rows.fnPartitionTextsSpec.post enc Try.prog Try.f14 false true false false) := by
  refine returnsInHanded_of_change (C := Try.checked) own started (by kernel_rfl) Try.func14
    (ChangeSpec.witness6 (enc := enc) (C := Try.checked) false ⟨#[], #[.slice none 0 0], []⟩ 8 (by kernel_rfl) (by kernel_rfl) (by kernel_rfl) (by kernel_rfl)) ?_
  intro W base args ds gs before hval0 hW hcnd _
  have hval : ∀ (j : Nat) t v, Try.f14.params[j]? = some t → args[j]? = some v → Value.okWide Try.prog W .any base t v := hval0
  have hW' := hW
  obtain ⟨p, q, hA0, hV, rfl, hfz, hnd⟩ := hW
  have hA : DataW.TrodAll enc Try.prog W 0 (fun _ => true) true Try.f14.params.toList args.toList ds p := hA0
  rw [Try.params14] at hA hval
  obtain ⟨v0, d0, rfl, rfl, h0⟩ := trodAll_one hA
  obtain ⟨rfl, rfl⟩ := trodVars_none hV
  obtain ⟨Wc, g0, N0, hA0, hw0, hr0⟩ := open_row rfl Try.underlying5 rfl (hval 0 _ v0 rfl rfl) h0
  refine (SpecW.belowW (args := [v0]) (s_lawPT hA0 (fun j hj => by have := wf_u8 (hr0 j hj); omega)) W hw0).mono fun e W' ⟨he, hb⟩ => ?_
  exact ⟨_, he, law_post laidOut (by kernel_rfl) rfl rfl rfl Try.underlying4 hW' hb⟩

theorem fnPartitionTexts_holds : Rows.FnPartitionTextsSaid :=
  OpenClaim.holds_of_wide 14 Try.f14 rfl rfl rfl rfl rfl rfl rfl ⟨rfl, rfl, rfl, rfl, rfl⟩ rfl rfl rfl rfl rfl (by kernel_rfl) Try.func14 (by kernel_rfl)
    (of_decide_eq_true (by kernel_rfl)) (by unfold Func.isWrapper; first | (rw [if_pos (by decide +kernel)]; kernel_rfl) | (rw [if_neg (by decide +kernel)]; exact ⟨rfl, rfl⟩))
    (fun os started H enc _ => fnPartitionTexts_lifted os started H enc)
end Go.Proofs.Ytpangmameocfmaa
