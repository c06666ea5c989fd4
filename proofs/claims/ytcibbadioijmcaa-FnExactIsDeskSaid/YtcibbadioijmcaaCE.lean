/- What the rows about elements share: an argument that is an element is three numbers and a row of terms, and its cells are those that the contracts speak of. -/
import Derived.Test.YtcibbadioijmcaaC0
import Derived.Test.YtcibbadioijmcaaG2
set_option linter.all false
namespace Go.Proofs.Ytcibbadioijmcaa
open Go Go.Proofs.Ytcibbadioijmcaa.VE Go.ChangeShapes Go.WideShapes Go.ChangeAt Go.RowKit
set_option maxRecDepth 100000
section
variable {H : Type} {enc : TypeId × Value → H} {base : Nat} {W : World} {sp : Nat → Bool} {held : Bool}
theorem term_cells {fuel : Nat} {cs : List Value} {x : DataW H × List MemPlace} (h : DataW.trod enc Try.prog W base sp held fuel T_l_Term cs = some x) : ∃ t : Tm, cs = tmC t ∧ t.2.1.length = 16 ∧ ∀ x ∈ t.2.1, x < 256 := by
  have hs : ∃ f0 f1 : Field, Try.prog.underlying T_l_Term = some (.struct #[f0, f1]) ∧ f0.offset = 0 ∧ f1.offset = 17 ∧ f0.type = T_l_Diagram ∧ f1.type = T_int64 := ⟨_, _, rfl, rfl, rfl, rfl, rfl⟩
  obtain ⟨f0, f1, hs, ho0, ho1, ht0, ht1⟩ := hs
  obtain ⟨y0, y1, n, _, hl, h0, h1⟩ := trod_struct2 hs h
  rw [ho0, ht0, show Try.prog.cellsOf T_l_Diagram = 17 from rfl] at h0
  rw [ho1, ht1, show Try.prog.cellsOf T_int64 = 1 from rfl] at h1
  have hl : cs.length = 18 := hl
  obtain ⟨s, m, e0, hm, hb, _, _⟩ := sized_cells (N := 16) rfl rfl rfl rfl rfl rfl rfl rfl rfl (by rw [List.length_take, List.length_drop]; omega) h0
  obtain ⟨f, e1, _, _⟩ := DataW.trod_int Try.underlying2 h1
  refine ⟨(s, m, f), ?_, hm, hb⟩
  show cs = pcl s m ++ [.int .i64 f]
  rw [← e0, ← e1, List.drop_zero]
  have h2 := List.take_append_drop 17 cs
  have h3 : (cs.drop 17).take 1 = cs.drop 17 := List.take_of_length_le (by rw [List.length_drop]; omega)
  rw [h3, h2]
theorem elem_cells {fuel : Nat} {cs : List Value} {x : DataW H × List MemPlace} (h : DataW.trod enc Try.prog W base sp held fuel T_l_Element cs = some x) :
    ∃ (p c n : Int) (v : Value) (Wc : World → (Nat → Prop) → Prop) (t : Nat → Tm) (N : Nat), cs = [.int .i64 p, .int .i64 c, .int .i64 n, v] ∧ ArgT Wc v t N ∧ Wc W (fun _ => False) ∧ okTs t N ∧ okTb t N ∧ N ≤ 9223372036854775807 := by
  have hs : ∃ f0 f1 f2 f3 : Field, Try.prog.underlying T_l_Element = some (.struct #[f0, f1, f2, f3]) ∧ f0.offset = 0 ∧ f1.offset = 1 ∧ f2.offset = 2 ∧ f3.offset = 3 ∧ f0.type = T_int64 ∧ f1.type = T_int64 ∧ f2.type = T_int64 ∧ Try.prog.underlying f3.type = some (.slice T_l_Term) ∧ Try.prog.cellsOf f3.type = 1 := ⟨_, _, _, _, rfl, rfl, rfl, rfl, rfl, rfl, rfl, rfl, rfl, rfl⟩
  obtain ⟨f0, f1, f2, f3, hs, ho0, ho1, ho2, ho3, ht0, ht1, ht2, hu3, hc3⟩ := hs
  obtain ⟨xs, n, _, _, hl, hlen, hf⟩ := DataW.trod_struct hs h
  have hl : cs.length = 4 := hl
  match xs, hlen with
  | [y0, y1, y2, y3], _ =>
  have h0 := hf 0 f0 rfl
  have h1 := hf 1 f1 rfl
  have h2 := hf 2 f2 rfl
  have h3 := hf 3 f3 rfl
  rw [ho0, ht0, show Try.prog.cellsOf T_int64 = 1 from rfl] at h0
  rw [ho1, ht1, show Try.prog.cellsOf T_int64 = 1 from rfl] at h1
  rw [ho2, ht2, show Try.prog.cellsOf T_int64 = 1 from rfl] at h2
  rw [ho3, hc3] at h3
  match cs, hl with
  | [c0, c1, c2, c3], _ =>
  simp only [List.drop_succ_cons, List.drop_zero, List.take_succ_cons, List.take_zero, List.getElem?_cons_zero, List.getElem?_cons_succ] at h0 h1 h2 h3
  obtain ⟨p, e0, _, _⟩ := DataW.trod_int Try.underlying2 h0
  obtain ⟨c, e1, _, _⟩ := DataW.trod_int Try.underlying2 h1
  obtain ⟨k, e2, _, _⟩ := DataW.trod_int Try.underlying2 h2
  injection e0 with e0; injection e1 with e1; injection e2 with e2
  subst e0 e1 e2
  rcases DataW.trod_slice (e := T_l_Term) hu3 h3 with ⟨e3, _⟩ | ⟨a, len, cap, elems, rest, m, _, e3, _, hb, hlc, hcm, hlen, hel, _, _⟩
  · injection e3 with e3; subst e3
    exact ⟨p, c, k, _, fun _ _ => True, fun _ => tm0, 0, rfl, .inl ⟨none, 0, rfl, rfl, rfl⟩, trivial, fun i hi => by omega, fun i hi => by omega, by omega⟩
  · injection e3 with e3; subst e3
    have hml : maxLen = 9223372036854775807 := by decide
    by_cases hz : len = 0
    · subst hz
      exact ⟨p, c, k, _, fun _ _ => True, fun _ => tm0, 0, rfl, .inl ⟨some a, cap, rfl, rfl, rfl⟩, trivial, fun i hi => by omega, fun i hi => by omega, by omega⟩
    have each : ∀ j, ∃ t : Tm, j < len → (t.2.1.length = 16 ∧ (∀ x ∈ t.2.1, x < 256) ∧ ∀ i, i < 18 → W.cell? ((a.add (j * 18)).add i) = (tmC t)[i]?) := by
      intro j
      by_cases hj : j < len
      · have h4 := hel j hj
        rw [List.getElem?_eq_getElem (by omega), Option.bind_eq_some_iff, show Try.prog.cellsOf T_l_Term = 18 from rfl] at h4
        obtain ⟨ds, hds, hy⟩ := h4
        obtain ⟨t, rfl, ht1, ht2⟩ := term_cells hy
        exact ⟨t, fun _ => ⟨ht1, ht2, (World.cells?_some hds).2.2⟩⟩
      · exact ⟨tm0, fun h => absurd h hj⟩
    obtain ⟨t, ht⟩ := Classical.axiomOfChoice each
    obtain ⟨b, off, spot⟩ := a
    have h5 := (ht 0 (by omega)).2.2 0 (by omega)
    rw [show (tmC (t 0))[0]? = some (.int .i64 (t 0).1) from rfl] at h5
    cases spot with
    | some s => simp [Addr.add, World.cell?] at h5; split at h5 <;> simp at h5
    | none =>
    cases hb2 : W.heap[b]? with
    | none => simp [Addr.add, World.cell?, hb2] at h5
    | some ob =>
    cases ob with
    | cells cs T fr =>
      refine ⟨p, c, k, _, Old b cs T fr, t, len, rfl, .inr ⟨b, off, cap, cs, T, fr, rfl, rfl, fun j hj => ?_⟩, ⟨hb2, fun h => h⟩, fun i hi => (ht i hi).1, fun i hi => (ht i hi).2.1, by omega⟩
      have h6 := (ht j hj).2.2
      have h7 := tmC_len (ht j hj).1
      have h8 : ∀ i, i < 18 → cs.toList[off + j * 18 + i]? = (tmC (t j))[i]? := fun i hi => by
        have := h6 i hi
        rw [Addr.add_lit', Addr.add_lit'] at this
        simpa [World.cell?, hb2] using this
      refine List.ext_getElem? fun i => ?_
      rw [List.getElem?_take]
      split
      · rename_i hi
        rw [List.getElem?_drop]; exact h8 i hi
      · rw [List.getElem?_eq_none (by omega)]
    | _ => simp [Addr.add, World.cell?, hb2] at h5
theorem open_E {r : Reach} {b0 : Nat} {v : Value} {d : DataW H} {ps : List MemPlace} (hv : Value.okWide Try.prog W r b0 T_l_Element v) (h : DataW.Trod enc Try.prog W base sp held T_l_Element v d ps) :
    ∃ (p c n : Int) (v' : Value) (Wc : World → (Nat → Prop) → Prop) (t : Nat → Tm) (N : Nat), v = .agg #[.int .i64 p, .int .i64 c, .int .i64 n, v'] ∧ ArgT Wc v' t N ∧ Wc W (fun _ => False) ∧ okTs t N ∧ okTb t N ∧ N ≤ 9223372036854775807 := by
  have hs : ∃ fs, Try.prog.underlying T_l_Element = some (.struct fs) := ⟨_, rfl⟩
  obtain ⟨fs, hs⟩ := hs
  obtain ⟨cs, rfl, hsz⟩ := okWide_struct hs hv
  obtain ⟨fuel, hf⟩ := h
  obtain ⟨p, c, n, v', Wc, t, N, e, h1, h2, h3, h4, h5⟩ := elem_cells hf
  refine ⟨p, c, n, v', Wc, t, N, ?_, h1, h2, h3, h4, h5⟩
  congr 1
  exact Array.toList_inj.1 e
end
end Go.Proofs.Ytcibbadioijmcaa
