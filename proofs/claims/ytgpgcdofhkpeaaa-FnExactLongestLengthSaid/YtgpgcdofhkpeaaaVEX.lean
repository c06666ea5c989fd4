/- Contracts of functions of the given program, for all arguments that the contract names; see each theorem. -/
import Derived.Test.YtgpgcdofhkpeaaaVE9
set_option linter.all false
namespace Go.Proofs.Ytgpgcdofhkpeaaa.VE
open Go

/-! 'range' over a map that the loop does not write -/
section
variable {P : Program} {Γ : Ctx} {n : Nat} {o : Oper} {f : Sl} {L : List O} {rd : List Nat}
theorem LocOK.newBlock2 {ob : O} (hf : ob ≠ .free)
    (h : ∀ ρ a w Lr, (∀ x ∈ o.op.operands.toList, opd ρ Lr a f x) → Rel Γ ρ Lr w → (∀ id ∈ rd, id < L.length → Lr[id]? = L[id]?) → (∀ k ∈ ob.ids, okId Lr k) ∧ ∃ obj, (execOp a.eval o).run P w = .ok (.value (.pointer (some ⟨w.heap.size, 0, none⟩))) (w.alloc obj) ∧
      (∀ ρ' : Rho, ob.own ρ' n = fun b => some (ρ'.blk n) = some b) ∧ ∀ ρ' : Rho, ρ'.blk n = w.heap.size → (∀ k ∈ ob.ids, ρ'.blk k = ρ.blk k ∧ ρ'.val k = ρ.val k) → objAt ρ' (w.alloc obj) n ob) :
    LocOK P Γ n o f L rd ⟨.ptr n 0, [], [ob]⟩ := by
  intro ρ a w Lr hx hr hrd hfree hm K Q hK
  obtain ⟨hids, obj, hrun, hown, hobj⟩ := h ρ a w Lr hx hr hrd
  have hn : Lr[n]? = some .free := by simpa using hfree 0 (by simp)
  have hblk : (ρ.put n w.heap.size undef).blk n = w.heap.size := by simp [Rho.put]
  have hag : ∀ k ∈ ob.ids, (ρ.put n w.heap.size undef).blk k = ρ.blk k ∧ (ρ.put n w.heap.size undef).val k = ρ.val k := by
    intro k hk
    obtain ⟨x, hx', hxf⟩ := hids k hk
    have : k ≠ n := by rintro rfl; rw [hn] at hx'; injection hx' with e; exact hxf e.symm
    simp [Rho.put, this]
  obtain ⟨h1, h2⟩ := hr.new (w' := w.alloc obj) hn hm (v := undef) hf rfl rfl rfl rfl (fun b hb => by rw [hown] at hb; injection hb with hb; rw [← hb, hblk]) (hobj _ hblk hag) hids
  unfold Oper.wp
  rw [hrun]
  have := hK _ _ h1 h2 (fun k hk => okId_set hf hk) (fun k hk => by
    simp only [V.ids, List.mem_singleton] at hk
    subst hk
    exact okId_set_new hf (lt_of_get hn))
  simpa [V.ren, hblk, Oper.upon] using this
theorem range_m {T kt et : TypeId} {x : Operand} {m : Nat} {es : List (Value × V)} {K : LK} (ho : o.op = .range T x) (hT : P.underlying T = some (.map kt et)) (hx : ev f x = .mp m) (hL : L[m]? = some (.mo es)) (hK : K [m] ⟨.ptr n 0, [], [.mi m es.length #[] es.length]⟩) :
    ∃ rd e, LocOK P Γ n o f L rd e ∧ K rd e := by
  refine ⟨_, _, LocOK.newBlock2 (by simp) fun ρ a w Lr h1 h2 h3 => ?_, hK⟩
  have e1 := (h1 x (by simp [ho, Op.operands])).1; rw [hx] at e1
  have hl : Lr[m]? = some (.mo es) := (h3 m (by simp) (lt_of_get hL)).trans hL
  obtain ⟨ents, hob, hborn, hes⟩ : objAt ρ w m (.mo es) := h2.obj m _ hl
  have hsz : ents.size = es.length := by have := congrArg List.length hes; simpa using this
  have hget : (getObj (ρ.blk m)).run P w = .ok (.map ents ents.size) w := by simp [getObj, Sem.run, hob]
  refine ⟨fun k hk => by simp [O.ids] at hk; subst hk; exact ⟨_, hl, by simp⟩, .mapIter (some (ρ.blk m)) es.length #[] es.length, ?_, fun _ => rfl, fun ρ' hb hk => ?_⟩
  · simp [execOp, ho, show a.eval x = .map (some (ρ.blk m)) from e1, Instr.range, run_underlying hT, hget, hsz]
  · simp only [objAt, hb]
    rw [(hk m (by simp [O.ids])).1, heap_alloc_new]
theorem entry_m {it : Operand} {k m since last i : Nat} {seen : Array Nat} {es : List (Value × V)} {key : Value} {v : V} {K : LK} (ho : o.op = .entry it) (hx : ev f it = .ptr k 0) (hL : L[k]? = some (.mi m since seen last)) (hM : L[m]? = some (.mo es))
    (hlast : last = es.length) (hb : seen.back? = some i) (hi : es[i]? = some (key, v)) (hK : K [k, m] ⟨.tup [.raw key, v], [], []⟩) : ∃ rd e, LocOK P Γ n o f L rd e ∧ K rd e := by
  refine ⟨_, _, LocOK.pure fun ρ a w Lr h1 h2 h3 => ?_, hK⟩
  have e1 := (h1 it (by simp [ho, Op.operands])).1; rw [hx] at e1
  have hl : Lr[k]? = some (.mi m since seen last) := (h3 k (by simp) (lt_of_get hL)).trans hL
  have hl2 : Lr[m]? = some (.mo es) := (h3 m (by simp) (lt_of_get hM)).trans hM
  have hob : w.heap[ρ.blk k]? = some (.mapIter (some (ρ.blk m)) since seen last) := h2.obj k _ hl
  obtain ⟨ents, hobm, hborn, hes⟩ : objAt ρ w m (.mo es) := h2.obj m _ hl2
  have hsz : ents.size = es.length := by have := congrArg List.length hes; simpa using this
  have hget : (getObj (ρ.blk k)).run P w = .ok (.mapIter (some (ρ.blk m)) since seen last) w := by simp [getObj, Sem.run, hob]
  have hgetm : (getObj (ρ.blk m)).run P w = .ok (.map ents ents.size) w := by simp [getObj, Sem.run, hobm]
  have hil : i < ents.size := by rw [hsz]; exact lt_of_get hi
  have hei : ents[i]? = some ents[i] := Array.getElem?_eq_getElem hil
  have hkv : (ents[i].key, ents[i].val) = (key, v.ren ρ) := by
    have h4 := congrArg (fun l => l[i]?) hes
    simp only [List.getElem?_map, hi, Option.map_some] at h4
    rw [Array.getElem?_toList, hei] at h4
    simpa using h4
  have hfind : ents.find? (fun e => e.born == i) = some ents[i] := by
    rw [← Array.find?_toList]
    rw [List.find?_eq_some_iff_getElem]
    refine ⟨by simpa using hborn i _ hei, i, by simpa using hil, by simp, fun j hj => ?_⟩
    have hjl : j < ents.size := by omega
    have := hborn j _ (Array.getElem?_eq_getElem hjl)
    simp [this]; omega
  refine ⟨?_, fun q hq => ?_⟩
  · injection hkv with h5 h6
    simp [execOp, ho, show a.eval it = .pointer (some ⟨ρ.blk k, 0, none⟩) from e1, Instr.entry, hget, hgetm, hb, hlast, hsz, hfind, h5, h6, V.ren, renL]
  · simp [V.ids, idsL] at hq
    refine h2.oks m _ hl2 q ?_
    simp only [O.ids]
    exact mem_idsL.2 ⟨v, List.mem_map.2 ⟨(key, v), List.mem_of_getElem? hi, rfl⟩, hq⟩
end
theorem cand_none {ents : Array MapEntry} {seen : Array Nat} {since : Nat} (hborn : ∀ (i : Nat) (e : MapEntry), ents[i]? = some e → e.born = i) (hs : since = ents.size) :
    ((ents.filter fun e => !seen.contains e.born).filter fun e => decide (e.born < since)) = (ents.filter fun e => !seen.contains e.born) ∧ ((ents.filter fun e => !seen.contains e.born).filter fun e => decide (e.born ≥ since)) = #[] := by
  have hlt : ∀ e ∈ ents, e.born < since := fun e he => by
    obtain ⟨i, hi, rfl⟩ := Array.mem_iff_getElem.1 he
    rw [hborn i _ (Array.getElem?_eq_getElem hi)]; omega
  constructor
  · rw [Array.filter_eq_self]
    intro e he
    exact decide_eq_true (hlt e (Array.mem_filter.1 he).1)
  · rw [Array.filter_eq_empty_iff]
    intro e he
    have := hlt e (Array.mem_filter.1 he).1
    simp; omega
section
variable {P : Program} {Γ : Ctx} {nt : Nat}
/-- The next entry, whichever it is. -/
theorem reg_next {id : Nat} {ops : Array Oper} {o : Oper} {rest : List Oper} {Q : Exit → Sl → List O → Prop} {f : Sl} {L : List O} {it : Operand} {k m since last : Nat} {seen : Array Nat} {es : List (Value × V)}
    (hops : ops.toList = o :: rest) (ho : o.op = .next it false) (hg : o.guard = none) (hx : ev f it = .ptr k 0) (hL : L[k]? = some (.mi m since seen last)) (hM : L[m]? = some (.mo es)) (hsn : since = es.length) (hla : last = es.length)
    (h : ∀ K : Sl → List O → Prop, (∀ f' L', Q .normal f' L' → K f' L') →
      (∀ i key v, es[i]? = some (key, v) → i ∉ seen → putK nt f o.dst (.tup [.raw (.bool true), .raw key, v]) fun f' => opsEV P Γ nt ops.toList rest K f' (L.set k (.mi m since (seen.push i) last))) ∧
      ((∀ i, i < es.length → i ∈ seen) → putK nt f o.dst (.raw (.tuple #[.bool false])) fun f' => opsEV P Γ nt ops.toList rest K f' L)) : regOK P Γ nt id ops Q f L := by
  intro ρ a w ha hr
  refine wp_region_list ?_
  obtain ⟨h1, h2⟩ := h _ fun _ _ h => h
  rw [hops]
  unfold wpList
  rw [if_pos (by simp [Region.wanted, hg])]
  refine .inl ?_
  have e1 := (ha.opd it).1; rw [hx] at e1
  have hob : w.heap[ρ.blk k]? = some (.mapIter (some (ρ.blk m)) since seen last) := hr.obj k _ hL
  obtain ⟨ents, hobm, hborn, hes⟩ : objAt ρ w m (.mo es) := hr.obj m _ hM
  have hsz : ents.size = es.length := by have := congrArg List.length hes; simpa using this
  have hget : (getObj (ρ.blk k)).run P w = .ok (.mapIter (some (ρ.blk m)) since seen last) w := by simp [getObj, Sem.run, hob]
  have hgetm : (getObj (ρ.blk m)).run P w = .ok (.map ents ents.size) w := by simp [getObj, Sem.run, hobm]
  have hset : ∀ w1 : World, w1.heap = w.heap → ∀ ob, (setObj (ρ.blk k) ob).run P w1 = .ok () { w1 with heap := w1.heap.setIfInBounds (ρ.blk k) ob } := fun w1 hw1 ob => by
    simp [setObj, Sem.run, hw1, hob]
  obtain ⟨hc1, hc2⟩ := cand_none (seen := seen) (since := since) hborn (by omega)
  have htest : (!seen.isEmpty && !ents.isEmpty && ents.all (fun x => decide (x.born ≥ last))) = false := by
    refine next_test_false seen ents last last (fun x hx => ?_) (Nat.le_refl _)
    obtain ⟨i, hi, rfl⟩ := List.mem_iff_getElem.1 hx
    have := hborn i _ (Array.getElem?_eq_getElem (by simpa using hi))
    simp only [Array.getElem_toList]
    rw [this, hla, ← hsz]; simpa using hi
  have hrun0 : ∀ r w', (Instr.next (.pointer (some ⟨ρ.blk k, 0, none⟩)) false o.type).run P w = .ok r w' → (execOp a.eval o).run P w = .ok (.value r) w' := fun r w' h => by
    simp [execOp, ho, show a.eval it = .pointer (some ⟨ρ.blk k, 0, none⟩) from e1, h]
  by_cases hemp : (ents.filter fun e => !seen.contains e.born).isEmpty = true
  · have he0 : (ents.filter fun e => !seen.contains e.born) = #[] := by simpa using hemp
    have hall : ∀ i, i < es.length → i ∈ seen := fun i hi => by
      have hil : i < ents.size := by omega
      have hmem : ents[i] ∈ ents := Array.getElem_mem hil
      have := (Array.filter_eq_empty_iff.1 he0) _ hmem
      rw [hborn i _ (Array.getElem?_eq_getElem hil)] at this
      simpa using this
    have hn : (Instr.next (.pointer (some ⟨ρ.blk k, 0, none⟩)) false o.type).run P w = .ok (.tuple #[.bool false]) w := by
      simp only [Instr.next]
      simp only [Sem.run_bind, hget, Result.andThen_ok, hgetm, htest, Bool.false_eq_true, if_false, Sem.run_pure]
      rw [hc1, hc2, he0]
      simp [Question.forced]
    unfold Oper.wp
    rw [hrun0 _ _ hn]
    obtain ⟨f', hK, ha'⟩ := ha.put (ρ' := ρ) (L' := L) (v := .raw (.tuple #[.bool false])) (fun _ _ => ⟨rfl, rfl⟩) (fun _ h => h) (fun k hk => by simp [V.ids] at hk) (h2 hall)
    have := opsEV_sound (P := P) (Γ := Γ) (nt := nt) ops.toList (K := Q .normal) (Q := liftQ Γ nt Q) (fun ρ f L a w hK ha hr => ⟨ρ, f, L, hK, ha, hr⟩) rest f' L hK ρ _ w ha' hr
    simpa [Oper.upon, V.ren] using this
  · have hemp' : (ents.filter fun e => !seen.contains e.born).isEmpty = false := by simpa using hemp
    obtain ⟨lf, hlf⟩ : ∃ lf, lf = (ents.filter fun e => !seen.contains e.born) := ⟨_, rfl⟩
    have hlpos : 0 < lf.size := by
      rw [← hlf] at hemp'
      rcases Nat.eq_zero_or_pos lf.size with h0 | h0
      · rw [Array.isEmpty, h0] at hemp'; simp at hemp'
      · exact h0
    obtain ⟨j, w1, hjl, hch, hw1⟩ : ∃ (j : Nat) (w1 : World), j < lf.size ∧ (choose (.mapNext lf.size)).run P w = .ok j w1 ∧ (w1 = w ∨ w1 = { w with drawn := w.drawn + 1 }) := by
      by_cases hfo : (Question.mapNext lf.size).forced = true
      · exact ⟨0, w, hlpos, by rw [run_choose, if_pos hfo], .inl rfl⟩
      · exact ⟨_, _, Nat.mod_lt _ hlpos, by rw [run_choose, if_neg hfo]; rfl, .inr rfl⟩
    have hw1h : w1.heap = w.heap := by rcases hw1 with rfl | rfl <;> rfl
    obtain ⟨e, he⟩ : ∃ e, lf[j]? = some e := ⟨lf[j], Array.getElem?_eq_getElem hjl⟩
    have hme : e ∈ ents ∧ (!seen.contains e.born) = true := by
      have := Array.mem_of_getElem? he
      rw [hlf] at this
      exact Array.mem_filter.1 this
    obtain ⟨i, hil, hei⟩ := Array.mem_iff_getElem.1 hme.1
    have hbi : e.born = i := by rw [← hei]; exact hborn i _ (Array.getElem?_eq_getElem hil)
    have hnot : i ∉ seen := by have := hme.2; rw [hbi] at this; simpa using this
    obtain ⟨⟨key, v⟩, hiv⟩ : ∃ p, es[i]? = some p := ⟨es[i], List.getElem?_eq_getElem (by omega)⟩
    have hkv : (e.key, e.val) = (key, v.ren ρ) := by
      have h4 := congrArg (fun l => l[i]?) hes
      simp only [List.getElem?_map, hiv, Option.map_some] at h4
      rw [Array.getElem?_toList, Array.getElem?_eq_getElem hil, hei] at h4
      simpa using h4
    injection hkv with hk1 hk2
    have hn : (Instr.next (.pointer (some ⟨ρ.blk k, 0, none⟩)) false o.type).run P w = .ok (.tuple #[.bool true, key, v.ren ρ]) { w1 with heap := w1.heap.setIfInBounds (ρ.blk k) (.mapIter (some (ρ.blk m)) since (seen.push i) last) } := by
      simp only [Instr.next]
      simp only [Sem.run_bind, hget, Result.andThen_ok, hgetm, htest, Bool.false_eq_true, if_false, Sem.run_pure]
      rw [hc1, hc2, hemp']
      simp only [Bool.false_eq_true, if_false, Array.append_empty, ← hlf, Array.size_map, Array.empty_append, hch, Result.andThen_ok, Array.getElem?_map, he, Option.map_some]
      simp [hset w1 hw1h, hbi, hk1, hk2, hsz, hla]
    have hltb : ρ.blk k < w.heap.size := (Array.getElem?_eq_some_iff.1 hob).1
    have hrw : Rel Γ ρ L w1 := by
      rcases hw1 with rfl | rfl
      · exact hr
      · exact ⟨hr.os, hr.tape, hr.output, hr.size, hr.old, hr.obj, hr.own, hr.disj, hr.oks, hr.fix, hr.mle⟩
    have hr' := hrw.set (w' := { w1 with heap := w1.heap.setIfInBounds (ρ.blk k) (.mapIter (some (ρ.blk m)) since (seen.push i) last) }) hL (o' := .mi m since (seen.push i) last) (by simp) rfl rfl rfl rfl (by simp)
      (fun b hb => by
        have hne : ρ.blk k ≠ b := fun e => hb (by rw [← e]; rfl)
        simp [Array.getElem?_setIfInBounds_ne hne])
      (by simp [objAt, hw1h, hltb]) (fun q hq => by simp [O.ids] at hq; subst hq; exact ⟨_, hM, by simp⟩)
    unfold Oper.wp
    rw [hrun0 _ _ hn]
    obtain ⟨f', hK, ha'⟩ := ha.put (ρ' := ρ) (L' := L.set k (.mi m since (seen.push i) last)) (v := .tup [.raw (.bool true), .raw key, v]) (fun _ _ => ⟨rfl, rfl⟩) (fun _ h => okId_set (by simp) h) (fun q hq => by
      simp [V.ids, idsL] at hq
      refine okId_set (by simp) (hr.oks m _ hM q ?_)
      simp only [O.ids]
      exact mem_idsL.2 ⟨v, List.mem_map.2 ⟨(key, v), List.mem_of_getElem? hiv, rfl⟩, hq⟩) (h1 i key v hiv hnot)
    have := opsEV_sound (P := P) (Γ := Γ) (nt := nt) ops.toList (K := Q .normal) (Q := liftQ Γ nt Q) (fun ρ f L a w hK ha hr => ⟨ρ, f, L, hK, ha, hr⟩) rest f' _ hK ρ _ _ ha' hr'
    simpa [Oper.upon, V.ren, renL] using this
end
end Go.Proofs.Ytgpgcdofhkpeaaa.VE
