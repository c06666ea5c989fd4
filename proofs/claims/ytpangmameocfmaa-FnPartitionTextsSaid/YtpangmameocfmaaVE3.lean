/- Contracts of functions of the given program, for all arguments that the contract names; see each theorem. -/
import Derived.Test.YtpangmameocfmaaEd
set_option linter.all false
namespace Go.Proofs.Ytpangmameocfmaa.VE
open Go

/-! 'm[k] op= v' and 'm[k], .. = ..': an entry is found or made first, and stored to later -/
def posI (k : Int) : List (Value × V) → Nat
  | [] => 0
  | (.int .i64 j, _) :: r => if k = j then 0 else posI k r + 1
  | _ :: _ => 0
theorem findNow_pos {ik : IntKind} {k : Int} {ρ : Rho} : ∀ {es : List (Value × V)} {ents : List MapEntry} {i : Nat} {v : V}, ents.map (fun e => (e.key, e.val)) = es.map (fun p => (p.1, p.2.ren ρ)) → findI k es = some (some v) →
    ∃ e : MapEntry, ents[posI k es]? = some e ∧ e.key = .int .i64 k ∧ e.val = v.ren ρ ∧ Instr.findNow (.int ik) (.int .i64 k) ents i = some (some (i + posI k es, v.ren ρ))
  | [], _, _, _, _, h => by simp [findI] at h
  | _ :: _, [], _, _, h, _ => by simp at h
  | (q, v0) :: es, e :: ents, i, v, he, h => by
    simp only [List.map_cons, List.cons.injEq, Prod.mk.injEq] at he
    obtain ⟨⟨h1, h2⟩, h3⟩ := he
    unfold findI at h
    split at h
    · simp_all
    · rename_i j v' r' heq
      simp only [List.cons.injEq, Prod.mk.injEq] at heq
      obtain ⟨⟨rfl, rfl⟩, rfl⟩ := heq
      split at h
      · rename_i hkj
        subst hkj
        injection h with h; injection h with h; subst h
        refine ⟨e, by simp [posI], h1, h2, ?_⟩
        simp [Instr.findNow, h1, h2, Instr.sameNow, posI]
      · rename_i hkj
        have hb : (k == j) = false := by simpa using hkj
        obtain ⟨e', q1, q2, q3, q4⟩ := findNow_pos (ik := ik) (i := i + 1) h3 h
        refine ⟨e', by simpa [posI, hkj] using q1, q2, q3, ?_⟩
        simp [Instr.findNow, h1, Instr.sameNow, hb, q4, posI, hkj]
        omega
    · cases h
theorem modMap {ρ : Rho} {y : V} : ∀ {l : List MapEntry} {es : List (Value × V)}, l.map (fun e => (e.key, e.val)) = es.map (fun p => (p.1, p.2.ren ρ)) → ∀ j,
    (l.modify j fun e => { e with val := y.ren ρ }).map (fun e => (e.key, e.val)) = (es.modify j fun p => (p.1, y)).map (fun p => (p.1, p.2.ren ρ))
  | [], [], _, _ => by simp
  | [], _ :: _, h, _ => by simp at h
  | _ :: _, [], h, _ => by simp at h
  | e :: l, p :: es, h, 0 => by
    simp only [List.map_cons, List.cons.injEq, Prod.mk.injEq] at h
    simp [h.1.1, h.2]
  | e :: l, p :: es, h, j + 1 => by
    simp only [List.map_cons, List.cons.injEq, Prod.mk.injEq] at h
    simp [h.1.1, h.1.2, modMap h.2 j]
section
variable {P : Program} {Γ : Ctx} {n : Nat} {o : Oper} {f : Sl} {L : List O}

/-- The entry of a key that is not there yet. -/
theorem entryNew {T kt et : TypeId} {x i : Operand} {ik : IntKind} {ti : TypeInfo} {z : Value} {id : Nat} {es : List (Value × V)} {k : Int} {K : LK} (ho : o.op = .mapEntry T x i)
    (hT : P.underlying T = some (.map kt et)) (hk : P.underlying kt = some (.int ik)) (hi : P.info? et = some ti) (hz : ti.zero = some z) (hx : ev f x = .mp id) (hL : L[id]? = some (.mo es)) (hix : ev f i = .raw (.int .i64 k)) (hr : findI k es = some none)
    (hK : K [id] ⟨.tup [.raw z, .raw (.int .i64 es.length)], [(id, .mo (es ++ [(.int .i64 k, .raw z)]))], []⟩) :
    ∃ rd e, LocOK P Γ n o f L rd e ∧ K rd e := by
  refine ⟨_, _, ?_, hK⟩
  intro ρ a w Lr h1 h2 h3 _ hm K Q hK
  have e1 := (h1 x (by simp [ho, Op.operands])).1; rw [hx] at e1
  have e2 := (h1 i (by simp [ho, Op.operands])).1; rw [hix] at e2
  have hl : Lr[id]? = some (.mo es) := (h3 id (by simp) (lt_of_get hL)).trans hL
  obtain ⟨ents, hob, hborn, hes⟩ : objAt ρ w id (.mo es) := h2.obj id _ hl
  have hsz : ents.size = es.length := by
    have := congrArg List.length hes; simpa using this
  have hget : (getObj (ρ.blk id)).run P w = .ok (.map ents ents.size) w := by simp [getObj, Sem.run, hob]
  have hzv : (zeroValue et).run P w = .ok z w := by simp [zeroValue, typeInfo, hi, hz]
  have hset : ∀ ob, (setObj (ρ.blk id) ob).run P w = .ok () { w with heap := w.heap.setIfInBounds (ρ.blk id) ob } := fun ob => by
    simp [setObj, Sem.run, hob]
  obtain ⟨g, _⟩ := (findNow_I (ik := ik) (i := 0) hes hr).1 rfl
  have hrun : (execOp a.eval o).run P w = .ok (.value (.tuple #[z, .int .i64 (es.length : Int)])) { w with heap := w.heap.setIfInBounds (ρ.blk id) (.map (ents.push { key := .int .i64 k, val := z, born := ents.size }) (ents.size + 1)) } := by
    simp [execOp, ho, show a.eval x = .map (some (ρ.blk id)) from e1, show a.eval i = .int .i64 k from e2, Instr.mapEntry, run_underlying hT, hget, run_checkKey hk, run_findKey hk g, hzv, hset, goInt, hsz]
  have hlt : ρ.blk id < w.heap.size := (Array.getElem?_eq_some_iff.1 hob).1
  have hr' := h2.set (w' := { w with heap := w.heap.setIfInBounds (ρ.blk id) (.map (ents.push { key := .int .i64 k, val := z, born := ents.size }) (ents.size + 1)) }) hl (o' := .mo (es ++ [(.int .i64 k, .raw z)])) (by simp) rfl rfl rfl rfl (by simp)
    (fun b hb => by
      have hne : ρ.blk id ≠ b := fun e => hb (by rw [← e]; rfl)
      simp [Array.getElem?_setIfInBounds_ne hne])
    ⟨ents.push { key := .int .i64 k, val := z, born := ents.size }, by simp [hlt], (by
      intro i e he
      rw [Array.getElem?_push] at he
      split at he
      · injection he with he; subst he; simp [*]
      · exact hborn i e he), by simp [hes, V.ren]⟩ (by
      intro q hq
      simp only [O.ids] at hq
      obtain ⟨v, hv, hqv⟩ := mem_idsL.1 hq
      obtain ⟨p, hp, rfl⟩ := List.mem_map.1 hv
      rcases List.mem_append.1 hp with h | h
      · exact h2.oks id _ hl q (mem_idsL.2 ⟨p.2, List.mem_map.2 ⟨p, h, rfl⟩, hqv⟩)
      · simp at h; subst h; simp [V.ids] at hqv)
  unfold Oper.wp
  rw [hrun]
  have := hK ρ _ hr' (Agree.refl ρ Lr) (fun q hq => okId_set (by simp) hq) (fun q hq => by simp [V.ids, idsL] at hq)
  simpa [V.ren, renL, Oper.upon] using this
/-- The entry of a key that is there. -/
theorem entryOld {T kt et : TypeId} {x i : Operand} {ik : IntKind} {id : Nat} {es : List (Value × V)} {k : Int} {v : V} {K : LK} (ho : o.op = .mapEntry T x i)
    (hT : P.underlying T = some (.map kt et)) (hk : P.underlying kt = some (.int ik)) (hx : ev f x = .mp id) (hL : L[id]? = some (.mo es)) (hix : ev f i = .raw (.int .i64 k)) (hr : findI k es = some (some v)) (hv : v.ids = [])
    (hK : K [id] ⟨.tup [v, .raw (.int .i64 (posI k es))], [(id, .mo es)], []⟩) :
    ∃ rd e, LocOK P Γ n o f L rd e ∧ K rd e := by
  refine ⟨_, _, ?_, hK⟩
  intro ρ a w Lr h1 h2 h3 _ hm K Q hK
  have e1 := (h1 x (by simp [ho, Op.operands])).1; rw [hx] at e1
  have e2 := (h1 i (by simp [ho, Op.operands])).1; rw [hix] at e2
  have hl : Lr[id]? = some (.mo es) := (h3 id (by simp) (lt_of_get hL)).trans hL
  obtain ⟨ents, hob, hborn, hes⟩ : objAt ρ w id (.mo es) := h2.obj id _ hl
  have hget : (getObj (ρ.blk id)).run P w = .ok (.map ents ents.size) w := by simp [getObj, Sem.run, hob]
  have hset : ∀ ob, (setObj (ρ.blk id) ob).run P w = .ok () { w with heap := w.heap.setIfInBounds (ρ.blk id) ob } := fun ob => by
    simp [setObj, Sem.run, hob]
  obtain ⟨e, q1, q2, q3, q4⟩ := findNow_pos (ik := ik) (i := 0) hes hr
  rw [Nat.zero_add] at q4
  have hj : ents[posI k es]? = some e := by simpa using q1
  have hbn := hborn _ e hj
  have hrun : (execOp a.eval o).run P w = .ok (.value (.tuple #[v.ren ρ, .int .i64 (posI k es : Int)])) { w with heap := w.heap.setIfInBounds (ρ.blk id) (.map (ents.modify (posI k es) fun e => { e with key := .int .i64 k }) ents.size) } := by
    simp [execOp, ho, show a.eval x = .map (some (ρ.blk id)) from e1, show a.eval i = .int .i64 k from e2, Instr.mapEntry, run_underlying hT, hget, run_checkKey hk, run_findKey hk q4, hset, goInt, hj, q2, hbn, Instr.keyThatStays, Instr.sameBits]
  have hlt : ρ.blk id < w.heap.size := (Array.getElem?_eq_some_iff.1 hob).1
  have hsame : ents.modify (posI k es) (fun e => { e with key := .int .i64 k }) = ents := by
    apply Array.ext_getElem?
    intro i
    rw [Array.getElem?_modify]
    split
    · rename_i h; subst h; rw [hj]; simp [← q2]
    · rfl
  rw [hsame] at hrun
  have hr' := h2.set (w' := { w with heap := w.heap.setIfInBounds (ρ.blk id) (.map ents ents.size) }) hl (o' := .mo es) (by simp) rfl rfl rfl rfl (by simp)
    (fun b hb => by
      have hne : ρ.blk id ≠ b := fun e => hb (by rw [← e]; rfl)
      simp [Array.getElem?_setIfInBounds_ne hne])
    ⟨ents, by simp [hlt], hborn, hes⟩ (fun q hq => h2.oks id _ hl q hq)
  unfold Oper.wp
  rw [hrun]
  have := hK ρ _ hr' (Agree.refl ρ Lr) (fun q hq => okId_set (by simp) hq) (fun q hq => by simp [V.ids, idsL, hv] at hq)
  simpa [V.ren, renL, Oper.upon] using this
/-- The entry with a stamp is stored to. -/
theorem estore_i {T : TypeId} {x t y : Operand} {id j : Nat} {es : List (Value × V)} {K : LK} (ho : o.op = .entryStore T x t y) (hdst : o.dst = none)
    (hx : ev f x = .mp id) (hL : L[id]? = some (.mo es)) (ht : ev f t = .raw (.int .i64 (j : Int))) (hj : j < es.length)
    (hK : K [id] ⟨.raw undef, [(id, .mo (es.modify j fun p => (p.1, ev f y)))], []⟩) :
    ∃ rd e, LocOK P Γ n o f L rd e ∧ K rd e := by
  refine ⟨_, _, ?_, hK⟩
  intro ρ a w Lr h1 h2 h3 _ hm K Q hK
  have e1 := (h1 x (by simp [ho, Op.operands])).1; rw [hx] at e1
  have e2 := (h1 t (by simp [ho, Op.operands])).1; rw [ht] at e2
  have e3 := h1 y (by simp [ho, Op.operands])
  have hl : Lr[id]? = some (.mo es) := (h3 id (by simp) (lt_of_get hL)).trans hL
  obtain ⟨ents, hob, hborn, hes⟩ : objAt ρ w id (.mo es) := h2.obj id _ hl
  have hsz : ents.size = es.length := by
    have := congrArg List.length hes; simpa using this
  have hget : (getObj (ρ.blk id)).run P w = .ok (.map ents ents.size) w := by simp [getObj, Sem.run, hob]
  have hset : ∀ ob, (setObj (ρ.blk id) ob).run P w = .ok () { w with heap := w.heap.setIfInBounds (ρ.blk id) ob } := fun ob => by
    simp [setObj, Sem.run, hob]
  have hfi : ents.findIdx? (fun e => (e.born : Int) == (j : Int)) = some j := by
    rw [Array.findIdx?_eq_some_iff_getElem]
    refine ⟨by omega, ?_, fun i hi => ?_⟩
    · have := hborn j ents[j] (by simp)
      simp [this]
    · have := hborn i ents[i] (by simp)
      simp [this]; omega
  have hrun : (execOp a.eval o).run P w = .ok .skip { w with heap := w.heap.setIfInBounds (ρ.blk id) (.map (ents.modify j fun e => { e with val := (ev f y).ren ρ }) ents.size) } := by
    simp [execOp, ho, show a.eval x = .map (some (ρ.blk id)) from e1, show a.eval t = .int .i64 (j : Int) from e2, show a.eval y = _ from e3.1, Instr.entryStore, hget, asInt, asIntOf, hfi, hset]
  have hlt : ρ.blk id < w.heap.size := (Array.getElem?_eq_some_iff.1 hob).1
  have hr' := h2.set (w' := { w with heap := w.heap.setIfInBounds (ρ.blk id) (.map (ents.modify j fun e => { e with val := (ev f y).ren ρ }) ents.size) }) hl (o' := .mo (es.modify j fun p => (p.1, ev f y))) (by simp) rfl rfl rfl rfl (by simp)
    (fun b hb => by
      have hne : ρ.blk id ≠ b := fun e => hb (by rw [← e]; rfl)
      simp [Array.getElem?_setIfInBounds_ne hne])
    ⟨ents.modify j fun e => { e with val := (ev f y).ren ρ }, by simp [hlt], (by
      intro i e' he'
      rw [Array.getElem?_modify] at he'
      split at he'
      · rename_i hij
        subst hij
        cases hj2 : ents[j]? with
        | none => rw [hj2] at he'; simp at he'
        | some e =>
          rw [hj2] at he'
          simp at he'
          rw [← he']
          exact hborn _ e hj2
      · exact hborn i e' he'), (by rw [Array.toList_modify]; exact modMap hes j)⟩ (by
      intro q hq
      simp only [O.ids] at hq
      obtain ⟨v, hv, hqv⟩ := mem_idsL.1 hq
      obtain ⟨p, hp, rfl⟩ := List.mem_map.1 hv
      obtain ⟨i, hi⟩ := List.getElem?_of_mem hp
      rw [List.getElem?_modify] at hi
      cases h6 : es[i]? with
      | none => rw [h6] at hi; split at hi <;> simp at hi
      | some p0 =>
        rw [h6] at hi
        split at hi
        · simp at hi; subst hi; exact e3.2 q hqv
        · simp at hi; subst hi
          exact h2.oks id _ hl q (mem_idsL.2 ⟨p0.2, List.mem_map.2 ⟨p0, List.mem_of_getElem? h6, rfl⟩, hqv⟩))
  unfold Oper.wp
  rw [hrun]
  have := hK ρ _ hr' (Agree.refl ρ Lr) (fun q hq => okId_set (by simp) hq) (fun q hq => by simp [V.ids] at hq)
  simpa [hdst, Act.put, Oper.upon] using this
end
end Go.Proofs.Ytpangmameocfmaa.VE
