/- Contracts of functions of the given program, for all arguments that the contract names; see each theorem. -/
import Derived.Test.YtpangmameocfmaaEd
import Derived.ChangeSlices
set_option linter.all false
namespace Go.Proofs.Ytpangmameocfmaa.VE
open Go Go.ChangeShapes Go.WideShapes Go.ChangeAt Go.RowKit Go.WideElems

/-! arguments that are rows: what a contract says that reads them -/
theorem SpecW.belowW {P : Program} {W0 : World → (Nat → Prop) → Prop} {fid : FuncId} {args : List Value} {x : Value} {L1 : List O} (h : SpecW P W0 fid (args.map V.raw) [] (.raw x) L1) (w : World) (hw : W0 w fun _ => False) :
    Calls P fid args.toArray w fun e w' => e = .returned x ∧ Below w.heap.size w w' := by
  obtain ⟨_, _, _, _, _, h⟩ := h
  have h0 : Rel (ctxOf w ⟨fun _ => 0, fun _ => undef⟩ []) ⟨fun _ => 0, fun _ => undef⟩ [] w :=
    ⟨rfl, rfl, rfl, Nat.le_refl _, fun _ _ _ => rfl, fun id o h => by simp at h, fun id o b h => by simp at h, fun i j oi oj b h => by simp at h, fun id o h => by simp at h, fun id h => ⟨rfl, rfl⟩, Nat.le_refl _⟩
  have hB : (ctxOf w ⟨fun _ => 0, fun _ => undef⟩ []).B = fun _ => False := by
    funext b; simp [ctxOf]
  have := h _ w (by rw [hB]; exact hw) h0
  rw [renL_map_raw] at this
  refine this.mono ?_
  rintro e w' ⟨ρ', rfl, hr⟩
  exact ⟨rfl, hr.os, hr.tape, hr.output, hr.size, fun k hk => hr.old k hk (by rintro ⟨id, o, ho, _⟩; simp at ho)⟩
section
variable {H : Type} {enc : TypeId × Value → H} {P : Program} {w : World} {base : Nat} {spare : Nat → Bool} {held : Bool}
theorem trodAll_n4 {t0 t1 t2 t3 : TypeId} {args : Array Value} {ds : List (DataW H)} {ps : List MemPlace} (h : DataW.TrodAll enc P w base spare held [t0, t1, t2, t3] args.toList ds ps) :
    ∃ v0 v1 v2 v3 d0 d1 d2 d3 p0 p1 p2 p3, args = #[v0, v1, v2, v3] ∧ ds = [d0, d1, d2, d3] ∧ ps = p0 ++ (p1 ++ (p2 ++ p3)) ∧ DataW.Trod enc P w base spare held t0 v0 d0 p0 ∧ DataW.Trod enc P w base spare held t1 v1 d1 p1 ∧ DataW.Trod enc P w base spare held t2 v2 d2 p2 ∧ DataW.Trod enc P w base spare held t3 v3 d3 p3 := by
  obtain ⟨v0, r0, d0, e0, p0, q0, ha, rfl, rfl, h0, h⟩ := trodAll_cons h
  obtain ⟨v1, r1, d1, e1, p1, q1, rfl, rfl, rfl, h1, h⟩ := trodAll_cons h
  obtain ⟨v2, r2, d2, e2, p2, q2, rfl, rfl, rfl, h2, h⟩ := trodAll_cons h
  obtain ⟨v3, r3, d3, e3, p3, q3, rfl, rfl, rfl, h3, h⟩ := trodAll_cons h
  obtain ⟨rfl, rfl, rfl⟩ := trodAll_nil h
  exact ⟨v0, v1, v2, v3, d0, d1, d2, d3, p0, p1, p2, p3, by cases args; simp_all, rfl, by simp, h0, h1, h2, h3⟩
theorem trodAll_n5 {t0 t1 t2 t3 t4 : TypeId} {args : Array Value} {ds : List (DataW H)} {ps : List MemPlace} (h : DataW.TrodAll enc P w base spare held [t0, t1, t2, t3, t4] args.toList ds ps) :
    ∃ v0 v1 v2 v3 v4 d0 d1 d2 d3 d4 p0 p1 p2 p3 p4, args = #[v0, v1, v2, v3, v4] ∧ ds = [d0, d1, d2, d3, d4] ∧ ps = p0 ++ (p1 ++ (p2 ++ (p3 ++ p4))) ∧ DataW.Trod enc P w base spare held t0 v0 d0 p0 ∧ DataW.Trod enc P w base spare held t1 v1 d1 p1 ∧ DataW.Trod enc P w base spare held t2 v2 d2 p2 ∧ DataW.Trod enc P w base spare held t3 v3 d3 p3 ∧ DataW.Trod enc P w base spare held t4 v4 d4 p4 := by
  obtain ⟨v0, r0, d0, e0, p0, q0, ha, rfl, rfl, h0, h⟩ := trodAll_cons h
  obtain ⟨v1, r1, d1, e1, p1, q1, rfl, rfl, rfl, h1, h⟩ := trodAll_cons h
  obtain ⟨v2, r2, d2, e2, p2, q2, rfl, rfl, rfl, h2, h⟩ := trodAll_cons h
  obtain ⟨v3, r3, d3, e3, p3, q3, rfl, rfl, rfl, h3, h⟩ := trodAll_cons h
  obtain ⟨v4, r4, d4, e4, p4, q4, rfl, rfl, rfl, h4, h⟩ := trodAll_cons h
  obtain ⟨rfl, rfl, rfl⟩ := trodAll_nil h
  exact ⟨v0, v1, v2, v3, v4, d0, d1, d2, d3, d4, p0, p1, p2, p3, p4, by cases args; simp_all, rfl, by simp, h0, h1, h2, h3, h4⟩
end
/-- A row of ints from outside. -/
def ArgK (k : IntKind) (W : World → (Nat → Prop) → Prop) (v : Value) (g : Nat → Int) (N : Nat) : Prop :=
  (∃ a cap, v = .slice a 0 cap ∧ N = 0 ∧ W = fun _ _ => True) ∨
  ∃ b off cap cs t fr, v = .slice (some ⟨b, off, none⟩) N cap ∧ W = Old b cs t fr ∧ ∀ j, j < N → cs.toList[off + j]? = some (.int k (g j))
theorem ArgK.pass {k : IntKind} {W : World → (Nat → Prop) → Prop} {v : Value} {g : Nat → Int} {N : Nat} {Γ : Ctx} (h : ArgK k W v g N) (hW : W Γ.w0 Γ.B) : ∀ ρ w Lr B, Rel Γ ρ Lr w → (∀ b, B b → b < Γ.w0.heap.size → Γ.B b) → W w B := by
  rcases h with ⟨_, _, _, _, rfl⟩ | ⟨b, off, cap, cs, t, fr, _, rfl, _⟩
  · exact fun _ _ _ _ _ _ => trivial
  · exact Old.pass hW
theorem ArgK.form {k : IntKind} {W : World → (Nat → Prop) → Prop} {v : Value} {g : Nat → Int} {N : Nat} (h : ArgK k W v g N) : ∃ a cap, v = .slice a N cap := by
  rcases h with ⟨a, cap, rfl, rfl, _⟩ | ⟨b, off, cap, _, _, _, rfl, _⟩
  · exact ⟨a, cap, rfl⟩
  · exact ⟨_, cap, rfl⟩
abbrev ArgI (W : World → (Nat → Prop) → Prop) (v : Value) (g : Nat → Int) (N : Nat) : Prop := ArgK .i64 W v g N

theorem open_row {H : Type} {enc : TypeId × Value → H} {P : Program} {r : Reach} {b0 base : Nat} {W : World} {sp : Nat → Bool} {held : Bool} {T e : TypeId} {k : IntKind} {v : Value} {d : DataW H} {ps : List MemPlace} (ht : P.underlying T = some (.slice e)) (he : P.underlying e = some (.int k)) (hc : P.cellsOf e = 1)
    (hv : Value.okWide P W r b0 T v) (h : DataW.Trod enc P W base sp held T v d ps) : ∃ Wc g N, ArgK k Wc v g N ∧ Wc W (fun _ => False) ∧ ∀ j, j < N → (Lit.int k (g j)).wf = true := by
  obtain ⟨a0, len0, cap0, rfl⟩ := okWide_slice ht hv
  obtain ⟨fuel, hf⟩ := h
  rcases open_ints ht he hc hf with ⟨h0, _⟩ | ⟨a, len, cap, zs, h0, _, _, _, hz, _, hcell, hw⟩
  · simp [Value.cells] at h0
    obtain ⟨rfl, rfl, rfl⟩ := h0
    exact ⟨fun _ _ => True, fun _ => 0, 0, .inl ⟨none, 0, rfl, rfl, rfl⟩, trivial, fun j hj => by omega⟩
  · simp [Value.cells] at h0
    obtain ⟨rfl, rfl, rfl⟩ := h0
    by_cases hl : len0 = 0
    · subst hl
      exact ⟨fun _ _ => True, fun _ => 0, 0, .inl ⟨some a, cap0, rfl, rfl, rfl⟩, trivial, fun j hj => by omega⟩
    · have hzl : len0 ≤ zs.length := by rw [hz]; split <;> omega
      have h1 := hcell 0 (by omega)
      obtain ⟨b, off, spot⟩ := a
      simp only [Addr.add] at h1
      cases spot with
      | some s => simp [World.cell?] at h1; split at h1 <;> simp at h1
      | none =>
        cases hb : W.heap[b]? with
        | none => simp [World.cell?, hb] at h1
        | some ob =>
          cases ob with
          | cells cs t fr =>
            refine ⟨Old b cs t fr, fun j => zs.getD j 0, len0, .inr ⟨b, off, cap0, cs, t, fr, rfl, rfl, fun j hj => ?_⟩, ⟨hb, fun h => h⟩, fun j hj => hw _ ?_⟩
            · have h2 := hcell j (by omega)
              rw [Addr.add_lit'] at h2
              simpa [World.cell?, hb] using h2
            · show zs.getD j 0 ∈ zs
              rw [List.getD_eq_getElem?_getD, List.getElem?_eq_getElem (by omega)]
              exact List.getElem_mem _
          | _ => simp [World.cell?, hb] at h1
end Go.Proofs.Ytpangmameocfmaa.VE
