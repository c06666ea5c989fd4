/- The program's IsDesk returns what the reference's returns, for all arguments: the law FnExactIsDesk returns true for every argument, and each argument reads behind the call as before; no condition. -/
import Derived.Test.YtcibbadioijmcaaCK
import Derived.Test.YtcibbadioijmcaaG9
set_option linter.all false
namespace Go.Proofs.Ytcibbadioijmcaa
open Go Go.Proofs.Ytcibbadioijmcaa.VE Go.ChangeShapes Go.WideShapes Go.ChangeAt Go.RowKit
open Go.ChangeMaps (open_string)
set_option maxRecDepth 100000 in
theorem fnExactIsDesk_lifted (os : Os) (started : os.Started) (H : Type) (enc : TypeId × Value → H) :
    ReturnsInHanded {} Try.checked os 13 .any (Rows.fnExactIsDeskSpec.pre6 enc Try.prog Try.f13 Rows.fnExactIsDeskRow.domain false) (Rows.fnExactIsDeskSpec.post enc Try.prog Try.f13 false true false false) := by
  refine returnsInHanded_of_change (C := Try.checked) own started (by kernel_rfl) Try.func13
    (ChangeSpec.witness6 (enc := enc) (C := Try.checked) false ⟨#[], #[.agg #[.int .i64 0, .int .i64 0, .int .i64 0, .slice none 0 0, .int .i64 0, .int .i64 0, .int .i64 0, .slice none 0 0]], []⟩ 8 (by kernel_rfl) (by kernel_rfl) (by kernel_rfl) (by kernel_rfl)) ?_
  intro W base args ds gs before hval0 hW hcnd _
  have hval : ∀ (j : Nat) t v, Try.f13.params[j]? = some t → args[j]? = some v → Value.okWide Try.prog W .any base t v := hval0
  have hW' := hW
  obtain ⟨p, q, hA0, hV, rfl, hfz, hnd⟩ := hW
  have hA : DataW.TrodAll enc Try.prog W 0 (fun _ => true) true Try.f13.params.toList args.toList ds p := hA0
  rw [Try.params13] at hA hval
  obtain ⟨v0, d0, rfl, rfl, h0⟩ := trodAll_one hA
  obtain ⟨rfl, rfl⟩ := trodVars_none hV
  obtain ⟨p, c, n, u, p2, c2, n2, u2, Wc, Wd, t, t2, N, N2, rfl, hA, hB, hwc, hwd, hs, hs2, hb, hb2, hN, hN2⟩ := open_K (hval 0 _ v0 rfl rfl) h0
  have hw0 : (fun w B => Wc w B ∧ Wd w B : World → (Nat → Prop) → Prop) W (fun _ => False) := ⟨hwc, hwd⟩
  refine (SpecW.belowW (args := [.agg #[.int .i64 p, .int .i64 c, .int .i64 n, u, .int .i64 p2, .int .i64 c2, .int .i64 n2, u2]]) (s_lawDesk p c n p2 c2 n2 hA hB hs hs2 hb hb2 hN hN2) W hw0).mono fun e W' ⟨he, hb⟩ => ?_
  exact ⟨_, he, law_post laidOut (by kernel_rfl) rfl rfl rfl Try.underlying4 hW' hb⟩

theorem fnExactIsDesk_holds : Rows.FnExactIsDeskSaid :=
  OpenClaim.holds_of_wide 13 Try.f13 rfl rfl rfl rfl rfl rfl rfl ⟨rfl, rfl, rfl, rfl, rfl⟩ rfl rfl rfl rfl rfl (by kernel_rfl) Try.func13 (by kernel_rfl)
    (of_decide_eq_true (by kernel_rfl)) (by unfold Func.isWrapper; first | (rw [if_pos (by decide +kernel)]; kernel_rfl) | (rw [if_neg (by decide +kernel)]; exact ⟨rfl, rfl⟩))
    (fun os started H enc _ => fnExactIsDesk_lifted os started H enc)
end Go.Proofs.Ytcibbadioijmcaa
