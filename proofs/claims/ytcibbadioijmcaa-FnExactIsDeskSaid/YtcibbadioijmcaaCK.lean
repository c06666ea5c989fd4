/- What the row about desks needs: an argument that is a desk is two elements, and its cells are those that the contracts speak of. -/
import Derived.Test.YtcibbadioijmcaaCE
set_option linter.all false
namespace Go.Proofs.Ytcibbadioijmcaa
open Go Go.Proofs.Ytcibbadioijmcaa.VE Go.ChangeShapes Go.WideShapes Go.ChangeAt Go.RowKit
set_option maxRecDepth 100000
section
variable {H : Type} {enc : TypeId × Value → H} {base : Nat} {W : World} {sp : Nat → Bool} {held : Bool}
theorem open_K {r : Reach} {b0 : Nat} {v : Value} {d : DataW H} {ps : List MemPlace} (hv : Value.okWide Try.prog W r b0 T_l_Desk v) (h : DataW.Trod enc Try.prog W base sp held T_l_Desk v d ps) :
    ∃ (p c n : Int) (u : Value) (p2 c2 n2 : Int) (u2 : Value) (Wc Wd : World → (Nat → Prop) → Prop) (t t2 : Nat → Tm) (N N2 : Nat), v = .agg #[.int .i64 p, .int .i64 c, .int .i64 n, u, .int .i64 p2, .int .i64 c2, .int .i64 n2, u2] ∧
      ArgT Wc u t N ∧ ArgT Wd u2 t2 N2 ∧ Wc W (fun _ => False) ∧ Wd W (fun _ => False) ∧ okTs t N ∧ okTs t2 N2 ∧ okTb t N ∧ okTb t2 N2 ∧ N ≤ 9223372036854775807 ∧ N2 ≤ 9223372036854775807 := by
  have hs : ∃ f0 f1 : Field, Try.prog.underlying T_l_Desk = some (.struct #[f0, f1]) ∧ f0.offset = 0 ∧ f1.offset = 4 ∧ f0.type = T_l_Element ∧ f1.type = T_l_Element := ⟨_, _, rfl, rfl, rfl, rfl, rfl⟩
  obtain ⟨f0, f1, hs, ho0, ho1, ht0, ht1⟩ := hs
  obtain ⟨cs, rfl, hsz⟩ := okWide_struct hs hv
  obtain ⟨fuel, hf⟩ := h
  obtain ⟨y0, y1, n, _, _, h0, h1⟩ := trod_struct2 hs hf
  have hsz' : cs.toList.length = 8 := by simp [hsz]; rfl
  rw [ho0, ht0, show Try.prog.cellsOf T_l_Element = 4 from rfl] at h0
  rw [ho1, ht1, show Try.prog.cellsOf T_l_Element = 4 from rfl] at h1
  simp only [Value.cells] at h0 h1
  obtain ⟨p, c, k, u, Wc, t, N, e0, a0, w0, s0, b0, l0⟩ := elem_cells h0
  obtain ⟨p2, c2, k2, u2, Wd, t2, N2, e1, a1, w1, s1, b1, l1⟩ := elem_cells h1
  refine ⟨p, c, k, u, p2, c2, k2, u2, Wc, Wd, t, t2, N, N2, ?_, a0, a1, w0, w1, s0, s1, b0, b1, l0, l1⟩
  congr 1
  apply Array.toList_inj.1
  show cs.toList = [.int .i64 p, .int .i64 c, .int .i64 k, u] ++ [.int .i64 p2, .int .i64 c2, .int .i64 k2, u2]
  rw [← e0, ← e1, List.drop_zero]
  have h2 := List.take_append_drop 4 cs.toList
  have h3 : (cs.toList.drop 4).take 4 = cs.toList.drop 4 := List.take_of_length_le (by rw [List.length_drop]; omega)
  rw [h3, h2]
end
end Go.Proofs.Ytcibbadioijmcaa
