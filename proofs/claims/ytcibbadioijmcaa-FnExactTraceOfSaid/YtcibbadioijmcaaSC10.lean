/- The program's TraceOf returns what the reference's returns, for all arguments: the law FnExactTraceOf returns true for every argument, and each argument reads behind the call as before; no condition. -/
import Derived.Test.YtcibbadioijmcaaCE
import Derived.Test.YtcibbadioijmcaaG7
set_option linter.all false
namespace Go.Proofs.Ytcibbadioijmcaa
open Go Go.Proofs.Ytcibbadioijmcaa.VE Go.ChangeShapes Go.WideShapes Go.ChangeAt Go.RowKit
open Go.ChangeMaps (open_string)
set_option maxRecDepth 100000 in
theorem fnExactTraceOf_lifted (os : Os) (started : os.Started) (H : Type) (enc : TypeId × Value → H) :
    ReturnsInHanded {} Try.checked os 12 .any (Rows.fnExactTraceOfSpec.pre6 enc Try.prog Try.f12 Rows.fnExactTraceOfRow.domain false) (Rows.fnExactTraceOfSpec.post enc Try.prog Try.f12 false true false false) := by
  refine returnsInHanded_of_change (C := Try.checked) own started (by kernel_rfl) Try.func12
    (ChangeSpec.witness6 (enc := enc) (C := Try.checked) false ⟨#[], #[.agg #[.int .i64 0, .int .i64 0, .int .i64 0, .slice none 0 0]], []⟩ 8 (by kernel_rfl) (by kernel_rfl) (by kernel_rfl) (by kernel_rfl)) ?_
  intro W base args ds gs before hval0 hW hcnd _
  have hval : ∀ (j : Nat) t v, Try.f12.params[j]? = some t → args[j]? = some v → Value.okWide Try.prog W .any base t v := hval0
  have hW' := hW
  obtain ⟨p, q, hA0, hV, rfl, hfz, hnd⟩ := hW
  have hA : DataW.TrodAll enc Try.prog W 0 (fun _ => true) true Try.f12.params.toList args.toList ds p := hA0
  rw [Try.params12] at hA hval
  obtain ⟨v0, d0, rfl, rfl, h0⟩ := trodAll_one hA
  obtain ⟨rfl, rfl⟩ := trodVars_none hV
  obtain ⟨p0, c0, n0, u0, Wc, t0, N0, rfl, hA0, hw0, hs0, hb0, hN0⟩ := open_E (hval 0 _ v0 rfl rfl) h0
  refine (SpecW.belowW (args := [.agg #[.int .i64 p0, .int .i64 c0, .int .i64 n0, u0]]) (s_lawTrace p0 c0 n0 hA0 hs0 hb0 hN0) W hw0).mono fun e W' ⟨he, hb⟩ => ?_
  exact ⟨_, he, law_post laidOut (by kernel_rfl) rfl rfl rfl Try.underlying4 hW' hb⟩

theorem fnExactTraceOf_holds : Rows.FnExactTraceOfSaid :=
  OpenClaim.holds_of_wide 12 Try.f12 rfl rfl rfl rfl rfl rfl rfl ⟨rfl, rfl, rfl, rfl, rfl⟩ rfl rfl rfl rfl rfl (by kernel_rfl) Try.func12 (by kernel_rfl)
    (of_decide_eq_true (by kernel_rfl)) (by unfold Func.isWrapper; first | (rw [if_pos (by decide +kernel)]; kernel_rfl) | (rw [if_neg (by decide +kernel)]; exact ⟨rfl, rfl⟩))
    (fun os started H enc _ => fnExactTraceOf_lifted os started H enc)
end Go.Proofs.Ytcibbadioijmcaa
