/- What the rows of this place share: the program names no setting of its own, its types are laid out, and an argument that is a diagram, or a diagram with blobs, has the cells that the contracts speak of. -/
import Derived.Test.YtcibbadioijmcaaC1
import Derived.Test.YtcibbadioijmcaaEd
import Derived.Test.YtcibbadioijmcaaRows
set_option linter.all false
namespace Go.Proofs.Ytcibbadioijmcaa
open Go Go.Proofs.Ytcibbadioijmcaa.VE Go.ChangeShapes Go.WideShapes Go.ChangeAt Go.RowKit
set_option maxRecDepth 100000
theorem own : ownKnob Try.prog.godebug = none := by kernel_rfl
theorem laidOut : laidOutB Try.prog = true := by kernel_rfl
theorem open_D {H : Type} {enc : TypeId × Value → H} {r : Reach} {b0 base : Nat} {W : World} {sp : Nat → Bool} {held : Bool} {v : Value} {d : DataW H} {ps : List MemPlace} (hv : Value.okWide Try.prog W r b0 T_l_Diagram v)
    (h : DataW.Trod enc Try.prog W base sp held T_l_Diagram v d ps) : ∃ (s : Int) (m : List Nat), v = .agg (pcl s m).toArray ∧ m.length = 16 ∧ (∀ x ∈ m, x < 256) ∧ -9223372036854775808 ≤ s ∧ s ≤ 9223372036854775807 :=
  open_sized rfl rfl rfl rfl rfl rfl rfl rfl rfl rfl hv h

section
variable {H : Type} {enc : TypeId × Value → H} {P : Program} {base : Nat} {W : World} {sp : Nat → Bool} {held : Bool}
/-- The cells of a struct of a size and bytes. -/
theorem sized_cells {T e : TypeId} {N fuel : Nat} {f0 f1 : Field} {cs : List Value} {x : DataW H × List MemPlace} (hs : P.underlying T = some (.struct #[f0, f1])) (ho0 : f0.offset = 0) (ho1 : f1.offset = 1)
    (ht0 : P.underlying f0.type = some (.int .i64)) (ht1 : P.underlying f1.type = some (.array N e)) (he : P.underlying e = some (.int .u8)) (hc0 : P.cellsOf f0.type = 1) (hc1 : P.cellsOf f1.type = N) (hce : P.cellsOf e = 1)
    (hcl : cs.length = N + 1) (hf : DataW.trod enc P W base sp held fuel T cs = some x) : ∃ (s : Int) (m : List Nat), cs = pcl s m ∧ m.length = N ∧ (∀ x ∈ m, x < 256) ∧ -9223372036854775808 ≤ s ∧ s ≤ 9223372036854775807 := by
  obtain ⟨y0, y1, n, _, _, h0, h1⟩ := trod_struct2 hs hf
  rw [hc0, ho0] at h0
  rw [hc1, ho1] at h1
  obtain ⟨s, e0, _, w0⟩ := DataW.trod_int ht0 h0
  obtain ⟨xs, k, _, _, hl, hxl, hi⟩ := DataW.trod_array ht1 h1
  rw [hc1] at hl
  rw [hce] at hi
  obtain ⟨m, hm, hml, hmb⟩ := bytes_of ((cs.drop 1).take N) fun i hlt => by
    have hiN : i < N := by rw [hl] at hlt; exact hlt
    have := hi i hiN
    rw [List.getElem?_eq_getElem (by omega)] at this
    obtain ⟨a, ea, _, wa⟩ := DataW.trod_int he this
    refine ⟨a, ?_, wf_u8 wa⟩
    have h2 := congrArg (fun l : List Value => l[0]?) ea
    simpa using h2
  refine ⟨s, m, ?_, by rw [hml, hl], hmb, wf_i64 w0⟩
  cases cs with
  | nil => simp at hcl
  | cons c rest =>
    simp at e0 hcl
    subst e0
    simp only [List.drop_succ_cons, List.drop_zero] at hm
    rw [List.take_of_length_le (by omega)] at hm
    rw [hm]; rfl
theorem bools_of : ∀ (l : List Value), (∀ i, i < l.length → ∃ b, l[i]? = some (.bool b)) → ∃ bs : List Bool, l = bbl bs ∧ bs.length = l.length
  | [], _ => ⟨[], rfl, rfl⟩
  | v :: r, h => by
    obtain ⟨bs, rfl, hb⟩ := bools_of r fun i hi => by have := h (i + 1) (by simp; omega); simpa using this
    obtain ⟨b, hb0⟩ := h 0 (by simp)
    simp at hb0
    subst hb0
    exact ⟨b :: bs, rfl, by simp [hb]⟩
theorem bools_cells {T e : TypeId} {N fuel : Nat} {cs : List Value} {x : DataW H × List MemPlace} (ht : P.underlying T = some (.array N e)) (he : P.underlying e = some .bool) (hc : P.cellsOf T = N) (hce : P.cellsOf e = 1)
    (hf : DataW.trod enc P W base sp held fuel T cs = some x) : ∃ bs : List Bool, cs = bbl bs ∧ bs.length = N := by
  obtain ⟨xs, k, _, _, hl, hxl, hi⟩ := DataW.trod_array ht hf
  rw [hc] at hl
  rw [hce] at hi
  obtain ⟨bs, h1, h2⟩ := bools_of cs fun i hlt => by
    have hiN : i < N := by omega
    have := hi i hiN
    rw [List.getElem?_eq_getElem (by omega)] at this
    obtain ⟨a, ea, _⟩ := DataW.trod_bool he this
    refine ⟨a, ?_⟩
    have h2 := congrArg (fun l : List Value => l[0]?) ea
    simpa using h2
  exact ⟨bs, h1, by omega⟩
end
theorem open_B {H : Type} {enc : TypeId × Value → H} {r : Reach} {b0 base : Nat} {W : World} {sp : Nat → Bool} {held : Bool} {v : Value} {d : DataW H} {ps : List MemPlace} (hv : Value.okWide Try.prog W r b0 T_l_Blobbed v)
    (h : DataW.Trod enc Try.prog W base sp held T_l_Blobbed v d ps) : ∃ (s : Int) (m : List Nat) (bs : List Bool), v = .agg (bcB s m bs).toArray ∧ m.length = 16 ∧ (∀ x ∈ m, x < 256) ∧ bs.length = 16 ∧ -9223372036854775808 ≤ s ∧ s ≤ 9223372036854775807 := by
  have hs : ∃ f0 f1 : Field, Try.prog.underlying T_l_Blobbed = some (.struct #[f0, f1]) ∧ f0.offset = 0 ∧ f1.offset = 17 ∧ f0.type = T_l_Diagram ∧ f1.type = T_a16q_bool := ⟨_, _, rfl, rfl, rfl, rfl, rfl⟩
  obtain ⟨f0, f1, hs, ho0, ho1, ht0, ht1⟩ := hs
  obtain ⟨cs, rfl, hsz⟩ := okWide_struct hs hv
  obtain ⟨fuel, hf⟩ := h
  obtain ⟨y0, y1, n, _, _, h0, h1⟩ := trod_struct2 hs hf
  have hsz' : cs.toList.length = 33 := by simp [hsz]; rfl
  rw [ho0, ht0, show Try.prog.cellsOf T_l_Diagram = 17 from rfl] at h0
  rw [ho1, ht1, show Try.prog.cellsOf T_a16q_bool = 16 from rfl] at h1
  simp only [Value.cells] at h0 h1
  obtain ⟨s, m, e0, hm, hb, g1, g2⟩ := sized_cells (N := 16) rfl rfl rfl rfl rfl rfl rfl rfl rfl (by rw [List.length_take, List.length_drop]; omega) h0
  obtain ⟨bs, e1, hbs⟩ := bools_cells (N := 16) rfl rfl rfl rfl h1
  refine ⟨s, m, bs, ?_, hm, hb, hbs, g1, g2⟩
  congr 1
  apply Array.toList_inj.1
  show cs.toList = pcl s m ++ bbl bs
  rw [← e0, ← e1, List.drop_zero]
  have h2 := List.take_append_drop 17 cs.toList
  have h3 : (cs.toList.drop 17).take 16 = cs.toList.drop 17 := List.take_of_length_le (by rw [List.length_drop]; omega)
  rw [h3, h2]
end Go.Proofs.Ytcibbadioijmcaa
