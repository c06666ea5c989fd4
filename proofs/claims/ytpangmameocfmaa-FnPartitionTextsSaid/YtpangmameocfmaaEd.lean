/- A symbolic evaluator of the given code, proved sound: own work of this session, alike for every function; no statement of the set is proved in this text. -/
import Derived.Test.YtpangmameocfmaaEc
import Derived.ProofKit
import Derived.OpenShut
set_option linter.all false
namespace Go.Proofs.Ytpangmameocfmaa.VE
open Go Go.ChangeShapes Go.WideShapes Go.ChangeAt Go.RowKit Go.WideElems

section
variable {H : Type} {enc : TypeId × Value → H} {P : Program}

/-- What a contract without objects says of the world. -/
theorem Spec.below {fid : FuncId} {args : List Value} {x : Value} {L1 : List O} (h : Spec P fid (args.map V.raw) [] (.raw x) L1) (w : World) :
    Calls P fid args.toArray w fun e w' => e = .returned x ∧ Below w.heap.size w w' := by
  obtain ⟨_, _, _, _, _, h⟩ := h
  have h0 : Rel (ctxOf w ⟨fun _ => 0, fun _ => undef⟩ []) ⟨fun _ => 0, fun _ => undef⟩ [] w :=
    ⟨rfl, rfl, rfl, Nat.le_refl _, fun _ _ _ => rfl, fun id o h => by simp at h, fun id o b h => by simp at h, fun i j oi oj b h => by simp at h, fun id o h => by simp at h, fun id h => ⟨rfl, rfl⟩, Nat.le_refl _⟩
  have := h _ w trivial h0
  rw [renL_map_raw] at this
  refine this.mono ?_
  rintro e w' ⟨ρ', rfl, hr⟩
  exact ⟨rfl, hr.os, hr.tape, hr.output, hr.size, fun k hk => hr.old k hk (by rintro ⟨id, o, ho, _⟩; simp at ho)⟩

theorem trodAll_stays (hl : laidOutB P = true) {W W' : World} {sp' : Nat → Bool} : ∀ {ts : List TypeId} {vs : List Value} {ds : List (DataW H)} {ps : List MemPlace},
    (∀ t ∈ ts, P.readableRec t = true ∧ t < P.types.size) → DataW.TrodAll enc P W 0 (fun _ => true) true ts vs ds ps → (∀ x ∈ ps, W.sameAt W' x) → (∀ x ∈ ps, sp' x.block = true) → DataW.TrodAll enc P W' 0 sp' true ts vs ds ps
  | [], vs, ds, ps, _, h, _, _ => by
    obtain ⟨rfl, rfl, rfl⟩ := trodAll_nil h
    exact trodAll_mk0
  | t :: ts, vs, ds, ps, ht, h, hs, hsp => by
    obtain ⟨v, vs', d, ds', p, q, rfl, rfl, rfl, h1, h2⟩ := trodAll_cons h
    obtain ⟨a, b⟩ := ht t (by simp)
    exact trodAll_cons_mk (Trod_stays hl a b h1 (fun x hx => hs x (by simp [hx])) (fun x hx => hsp x (by simp [hx]))) (trodAll_stays hl (fun t ht' => ht t (by simp [ht'])) h2 (fun x hx => hs x (by simp [hx])) (fun x hx => hsp x (by simp [hx])))

/-- Are these types rows of the table that can be read? -/
def rowsB (P : Program) (ts : List TypeId) : Bool := ts.all fun t => P.readableRec t && decide (t < P.types.size)

/-- A law's end: true, and all that was there as it was. -/
theorem law_post {f : Func} {s : ChangeSpec} {apart fresh handsOn again : Bool} {W W' : World} {args : Array Value} {ds gs : List (DataW H)} {before : List MemPlace} {tb : TypeId} (hl : laidOutB P = true)
    (hrows : rowsB P f.params.toList = true) (hs : s.vars = []) (hfn : s.fn H (ds ++ gs) = { results := [.lit (.bool true)], args := ds }) (hrt : f.resultTypes = #[tb]) (htb : P.underlying tb = some .bool)
    (hW : DataW.Whole enc P f.params.toList s.vars apart W args.toList ds gs before) (hb : Below W.heap.size W W') : s.post enc P f apart fresh handsOn again W args (.bool true) W' := by
  have hW0 := hW
  have hlt := hW.lt
  obtain ⟨p, q, hA, hV, rfl, hz, hn⟩ := hW
  rw [hs] at hV
  obtain ⟨rfl, rfl⟩ := trodVars_none hV
  rw [List.append_nil] at *
  have hrow : ∀ t ∈ f.params.toList, P.readableRec t = true ∧ t < P.types.size := fun t ht => by
    have := List.all_eq_true.1 hrows t ht
    simpa using this
  have hargs : ∀ sp : Nat → Bool, (∀ x ∈ p, sp x.block = true) → DataW.TrodAll enc P W' 0 sp true f.params.toList args.toList ds p := fun sp hsp =>
    trodAll_stays hl hrow hA (fun x hx => hb.same (hlt x (by simpa using hx))) hsp
  have hres : ∀ (b : Nat) (sp : Nat → Bool) (hd : Bool), DataW.TrodAll enc P W' b sp hd f.resultTypes.toList ((Value.bool true).resultList f.resultTypes.size) [.lit (.bool true)] [] := fun b sp hd => by
    rw [hrt]; exact trodAll_mk1 (shut_bool htb true)
  have hvars : ∀ sp : Nat → Bool, DataW.TrodVars enc P W' sp s.vars ([] : List (DataW H)) [] := fun sp => by rw [hs]; exact rfl
  have hok : ∀ (j : Nat) (t : TypeId) (r : Value), f.resultTypes[j]? = some t → ((Value.bool true).resultList f.resultTypes.size)[j]? = some r → Value.okWide P W' .any 0 t r :=
    ok_one hrt rfl (okWide_bool_mk htb true)
  refine ⟨ds, [], p, [], p, [], hW0, by rw [List.append_nil, hfn]; exact hres _ _ _, by rw [List.append_nil, hfn]; exact hargs _ fun x hx => by simpa using hlt x (by simpa using hx), by rw [List.append_nil, hfn]; exact hvars _, World.keptBut_mono (fun x hx => ⟨hx, .inr (.inl hx)⟩) (hb.frame (· ∈ p)), fun _ => ?_⟩
  refine ⟨hok, _, _, ([] ++ p) ++ [], ⟨[] ++ p, [], trodAll_append (hargs _ (fun _ _ => rfl)) (hres _ _ _), hvars _, rfl, ?_, ?_⟩, ?_⟩
  · intro b off hp
    have hp' : MemPlace.cell b off ∈ p := by simpa using hp
    rw [hb.frozen (hlt _ (by simpa using hp'))]
    exact hz b off (by simpa using hp')
  · intro ha
    have := hn ha
    simpa using this
  · intro x hx _
    simpa using hx

theorem bytes_of : ∀ (l : List Value), (∀ i, i < l.length → ∃ a, l[i]? = some (.int .u8 a) ∧ 0 ≤ a ∧ a ≤ 255) → ∃ m : List Nat, l = bcl m ∧ m.length = l.length ∧ ∀ x ∈ m, x < 256
  | [], _ => ⟨[], rfl, rfl, by simp⟩
  | v :: r, h => by
    obtain ⟨m, rfl, hm, hb⟩ := bytes_of r fun i hi => by have := h (i + 1) (by simp; omega); simpa using this
    obtain ⟨a, ha, h0, h1⟩ := h 0 (by simp)
    simp at ha
    subst ha
    refine ⟨a.toNat :: m, ?_, by simp [hm], ?_⟩
    · simp only [bcl, List.map_cons]
      rw [Int.toNat_of_nonneg h0]
    · intro x hx
      rcases List.mem_cons.1 hx with rfl | hx
      · omega
      · exact hb x hx
theorem wf_u8 {a : Int} (h : (Lit.int .u8 a).wf = true) : 0 ≤ a ∧ a ≤ 255 := by simpa [Lit.wf, IntKind.min, IntKind.max, IntKind.signed, IntKind.bits] using h
theorem wf_i64 {a : Int} (h : (Lit.int .i64 a).wf = true) : -9223372036854775808 ≤ a ∧ a ≤ 9223372036854775807 := by simpa [Lit.wf, IntKind.min, IntKind.max, IntKind.signed, IntKind.bits] using h

/-- An argument that is a struct of a size and bytes. -/
theorem open_sized {r : Reach} {b0 base : Nat} {W : World} {sp : Nat → Bool} {held : Bool} {T e : TypeId} {N : Nat} {f0 f1 : Field} {v : Value} {d : DataW H} {ps : List MemPlace} (hs : P.underlying T = some (.struct #[f0, f1])) (ho0 : f0.offset = 0) (ho1 : f1.offset = 1)
    (ht0 : P.underlying f0.type = some (.int .i64)) (ht1 : P.underlying f1.type = some (.array N e)) (he : P.underlying e = some (.int .u8)) (hc : P.cellsOf T = N + 1) (hc0 : P.cellsOf f0.type = 1) (hc1 : P.cellsOf f1.type = N) (hce : P.cellsOf e = 1)
    (hv : Value.okWide P W r b0 T v) (h : DataW.Trod enc P W base sp held T v d ps) : ∃ (s : Int) (m : List Nat), v = .agg (pcl s m).toArray ∧ m.length = N ∧ (∀ x ∈ m, x < 256) ∧ -9223372036854775808 ≤ s ∧ s ≤ 9223372036854775807 := by
  obtain ⟨cs, rfl, hsz⟩ := okWide_struct hs hv
  obtain ⟨fuel, hf⟩ := h
  obtain ⟨y0, y1, n, _, _, h0, h1⟩ := trod_struct2 hs hf
  rw [hc0, ho0] at h0
  rw [hc1, ho1] at h1
  obtain ⟨s, e0, _, w0⟩ := DataW.trod_int ht0 h0
  obtain ⟨xs, k, _, _, hl, hxl, hi⟩ := DataW.trod_array ht1 h1
  rw [hc1] at hl
  rw [hce] at hi
  have hcl : cs.toList.length = N + 1 := by simp [hsz, hc]
  simp only [Value.cells] at e0 hl hi
  obtain ⟨m, hm, hml, hmb⟩ := bytes_of ((cs.toList.drop 1).take N) fun i hlt => by
    have hiN : i < N := by rw [hl] at hlt; exact hlt
    have := hi i hiN
    rw [List.getElem?_eq_getElem (by omega)] at this
    obtain ⟨a, ea, _, wa⟩ := DataW.trod_int he this
    refine ⟨a, ?_, wf_u8 wa⟩
    have h2 := congrArg (fun l : List Value => l[0]?) ea
    simpa using h2
  refine ⟨s, m, ?_, by rw [hml, hl], hmb, wf_i64 w0⟩
  congr 1
  apply Array.toList_inj.1
  show cs.toList = pcl s m
  match hcs : cs.toList, hcl with
  | c :: rest, hcl =>
    rw [hcs] at e0 hm
    simp at e0 hcl
    subst e0
    simp only [List.drop_succ_cons, List.drop_zero] at hm
    rw [List.take_of_length_le (by omega)] at hm
    rw [hm]; rfl
end
end Go.Proofs.Ytpangmameocfmaa.VE
namespace Go.Proofs.Ytpangmameocfmaa.VE
open Go

theorem mapIdsL_append (σ : Nat → Nat) : ∀ a b : List V, mapIdsL σ (a ++ b) = mapIdsL σ a ++ mapIdsL σ b
  | [], _ => rfl
  | x :: r, b => by simp [mapIdsL, mapIdsL_append σ r b]
theorem mapIdsL_raw (σ : Nat → Nat) : ∀ l : List Value, mapIdsL σ (l.map V.raw) = l.map V.raw
  | [] => rfl
  | x :: r => by simp [mapIdsL, V.mapIds, mapIdsL_raw σ r]
theorem goodB_of {m : Nat} {π : List Nat} {H : List O} {ids l : List Nat} (h : idsO H = l) (h2 : (Nat.beq π.length H.length && (nodupB π && (okIds H l && (okIds H ids && (Nat.ble m H.length && fixB m π))))) = true) : goodB m π H ids = true := by
  unfold goodB; rw [h]; exact h2

section
variable {P : Program} {fid : FuncId} {args args' : List V} {L0 L1 : List O} {v : V} {Γ : Ctx} {n : Nat} {L : List O} {K : LK}
/-- A call that writes, or makes: what it gives, as told. -/
theorem Spec.makeN (h : Spec P fid args L0 v L1) (ks : List Nat) (hargs : mapIdsL (sig ks n) args = args') (hh : handed (sig ks n) L ks L0) {e : Eff}
    (he : (⟨v.mapIds (sig ks n), wrOf (sig ks n) ks L1, mapO (sig ks n) (L1.drop ks.length)⟩ : Eff) = e) (hK : K ks e)
    (hb : (nodupB ks && (L0.all fun o => match o with | .free => false | _ => true) && (L1.all fun o => match o with | .free => false | _ => true) && Nat.ble ks.length L1.length) = true := by rfl) : CallK P Γ n fid args' L K := by
  subst he
  exact h.make ks hargs hh hK hb
theorem effR {v v' : V} {w w' : List (Nat × O)} {x x' : List O} (h1 : v = v') (h2 : w = w') (h3 : x = x') : (⟨v, w, x⟩ : Eff) = ⟨v', w', x'⟩ := by rw [h1, h2, h3]
theorem wrR {k : Nat} {o o' : O} {r r' : List (Nat × O)} (h1 : o = o') (h2 : r = r') : (k, o) :: r = (k, o') :: r' := by rw [h1, h2]
theorem nwR {o o' : O} {r r' : List O} (h1 : o = o') (h2 : r = r') : o :: r = o' :: r' := by rw [h1, h2]
end

theorem wC {a b : Int} (h : a = b) (h2 : -9223372036854775808 ≤ b ∧ b ≤ 9223372036854775807) : IntKind.i64.wrap a = b := by rw [h]; exact wI h2
theorem tm2 (n : Nat) : Int.tmod (n : Int) 2 = ((n % 2 : Nat) : Int) := tmN n 2
theorem td2 (n : Nat) : Int.tdiv (n : Int) 2 = ((n / 2 : Nat) : Int) := tdN n 2
/-- The first k values of a function, as cells. -/
def il (g : Nat → Int) (k : Nat) : List Value := (List.range k).map fun i => .int .i64 (g i)
theorem il_at {g : Nat → Int} {k i : Nat} (h : i < k) : (il g k)[i]? = some (.int .i64 (g i)) := by simp [il, h]
theorem il_succ {g : Nat → Int} {k : Nat} : il g k ++ [.int .i64 (g k)] = il g (k + 1) := by simp [il, List.range_succ]
theorem il_len {g : Nat → Int} {k : Nat} : (il g k).length = k := by simp [il]
theorem il_congr {f g : Nat → Int} {N : Nat} (h : ∀ j, j < N → f j = g j) : il f N = il g N := by
  refine List.map_congr_left fun j hj => ?_
  rw [h j (List.mem_range.1 hj)]
theorem il_set {f g : Nat → Int} {N x : Nat} {v : Int} (h : ∀ j, j < N → g j = if j = x then v else f j) : (il f N).set x (.int .i64 v) = il g N := by
  apply List.ext_getElem (by simp [il])
  intro k h1 h2
  simp only [List.length_set, il_len] at h1
  rw [List.getElem_set]
  simp only [il, List.getElem_map, List.getElem_range]
  rw [h k h1]
  by_cases hk : x = k
  · rw [if_pos hk, if_pos hk.symm]
  · rw [if_neg hk, if_neg (fun e => hk e.symm)]
theorem row1s {c : List Value} {k : IntKind} {a : Int} (h : c.length ≤ 1) : c.take (0 * 1) ++ (Value.int k a).cells.toList ++ c.drop (0 * 1 + 1) = [.int k a] := by
  simp [Value.cells, List.drop_of_length_le h]
theorem mk_il {N : Nat} : (madeCells (Value.int .i64 0).cells (N * 1)).toList = il (fun _ => 0) N := by
  have h0 : ∀ x : Nat, (#[Value.int .i64 0] : Array Value)[x % 1]! = Value.int .i64 0 := fun x => by rw [Nat.mod_one]; rfl
  simp only [madeCells, Value.cells, il, Nat.mul_one]
  simp [h0]
/-- The same of bools. -/
def bl (g : Nat → Bool) (k : Nat) : List Value := (List.range k).map fun i => .bool (g i)
theorem bl_at {g : Nat → Bool} {k i : Nat} (h : i < k) : (bl g k)[i]? = some (.bool (g i)) := by simp [bl, h]
theorem bl_len {g : Nat → Bool} {k : Nat} : (bl g k).length = k := by simp [bl]
theorem bl_congr {f g : Nat → Bool} {N : Nat} (h : ∀ j, j < N → f j = g j) : bl f N = bl g N := by
  refine List.map_congr_left fun j hj => ?_
  rw [h j (List.mem_range.1 hj)]
theorem bl_set {f g : Nat → Bool} {N x : Nat} {v : Bool} (h : ∀ j, j < N → g j = if j = x then v else f j) : (bl f N).set x (.bool v) = bl g N := by
  apply List.ext_getElem (by simp [bl])
  intro k h1 h2
  simp only [List.length_set, bl_len] at h1
  rw [List.getElem_set]
  simp only [bl, List.getElem_map, List.getElem_range]
  rw [h k h1]
  by_cases hk : x = k
  · rw [if_pos hk, if_pos hk.symm]
  · rw [if_neg hk, if_neg (fun e => hk e.symm)]
theorem eq_of_getD {a b : List Nat} {N : Nat} (ha : a.length = N) (hb : b.length = N) (h : ∀ j, j < N → a.getD j 0 = b.getD j 0) : a = b := by
  refine List.ext_getElem (by omega) fun i h1 h2 => ?_
  have := h i (by omega)
  simpa [List.getD_eq_getElem?_getD, List.getElem?_eq_getElem h1, List.getElem?_eq_getElem h2] using this
theorem getD_set' {a : List Nat} {i j x : Nat} (h : i < a.length) : (a.set i x).getD j 0 = if i = j then x else a.getD j 0 := by
  rw [List.getD_eq_getElem?_getD, List.getD_eq_getElem?_getD]
  by_cases hij : i = j
  · subst hij; rw [List.getElem?_set_self h, if_pos rfl]; rfl
  · rw [List.getElem?_set_ne hij, if_neg hij]
end Go.Proofs.Ytpangmameocfmaa.VE
namespace Go.Proofs.Ytpangmameocfmaa.VE
open Go

/-! a text's letters, one after the other ('range' over a string) -/
section
variable {P : Program} {Γ : Ctx} {n : Nat} {o : Oper} {f : Sl} {L : List O}
theorem range_s {T : TypeId} {x : Operand} {s : ByteArray} {K : LK} (ho : o.op = .range T x) (hT : P.underlying T = some .string) (hx : ev f x = .raw (.string s)) (hK : K [] ⟨.ptr n 0, [], [.si s 0]⟩) :
    ∃ rd e, LocOK P Γ n o f L rd e ∧ K rd e := by
  refine ⟨_, _, LocOK.newBlock (by simp) fun ρ a w Lr h1 h2 => ⟨by simp [O.ids], .stringIter s 0, ?_, fun _ => rfl, fun ρ' hb _ => ?_⟩, hK⟩
  · have := (h1 x (by simp [ho, Op.operands])).1; rw [hx] at this
    simp [execOp, ho, show a.eval x = .string s from this, Instr.range, run_underlying hT]
  · simp only [objAt, hb]; rw [heap_alloc_new]
theorem next_s {it : Operand} {id pos c wd : Nat} {s : ByteArray} {K : LK} (ho : o.op = .next it true) (hx : ev f it = .ptr id 0) (hL : L[id]? = some (.si s pos)) (hlt : pos < s.size) (hd : Utf8.decode s pos = (c, wd))
    (hK : K [id] ⟨.raw (.tuple #[.bool true, .int .i64 pos, .int .i32 c]), [(id, .si s (pos + wd))], []⟩) : ∃ rd e, LocOK P Γ n o f L rd e ∧ K rd e := by
  refine ⟨_, _, ?_, hK⟩
  intro ρ a w Lr h1 h2 h3 _ hm K Q hK
  have e1 := (h1 it (by simp [ho, Op.operands])).1; rw [hx] at e1
  have hl : Lr[id]? = some (.si s pos) := (h3 id (by simp) (lt_of_get hL)).trans hL
  have hob : w.heap[ρ.blk id]? = some (.stringIter s pos) := h2.obj id _ hl
  have hget : (getObj (ρ.blk id)).run P w = .ok (.stringIter s pos) w := by simp [getObj, Sem.run, hob]
  have hset : ∀ ob, (setObj (ρ.blk id) ob).run P w = .ok () { w with heap := w.heap.setIfInBounds (ρ.blk id) ob } := fun ob => by
    simp [setObj, Sem.run, hob]
  have hrun : (execOp a.eval o).run P w = .ok (.value (.tuple #[.bool true, .int .i64 pos, .int .i32 c])) { w with heap := w.heap.setIfInBounds (ρ.blk id) (.stringIter s (pos + wd)) } := by
    simp [execOp, ho, show a.eval it = .pointer (some ⟨ρ.blk id, 0, none⟩) from e1, Instr.next, hget, hlt, hd, hset, goInt]
  have hltb : ρ.blk id < w.heap.size := (Array.getElem?_eq_some_iff.1 hob).1
  have hr' := h2.set (w' := { w with heap := w.heap.setIfInBounds (ρ.blk id) (.stringIter s (pos + wd)) }) hl (o' := .si s (pos + wd)) (by simp) rfl rfl rfl rfl (by simp)
    (fun b hb => by
      have hne : ρ.blk id ≠ b := fun e => hb (by rw [← e]; rfl)
      simp [Array.getElem?_setIfInBounds_ne hne])
    (by simp [objAt, hltb]) (by simp [O.ids])
  unfold Oper.wp
  rw [hrun]
  have := hK ρ _ hr' (Agree.refl ρ Lr) (fun q hq => okId_set (by simp) hq) (fun q hq => by simp [V.ids] at hq)
  simpa [V.ren, Oper.upon] using this
theorem next_end {it : Operand} {id pos : Nat} {s : ByteArray} {K : LK} (ho : o.op = .next it true) (hx : ev f it = .ptr id 0) (hL : L[id]? = some (.si s pos)) (hle : s.size ≤ pos)
    (hK : K [id] ⟨.raw (.tuple #[.bool false]), [], []⟩) : ∃ rd e, LocOK P Γ n o f L rd e ∧ K rd e := by
  refine ⟨_, _, LocOK.plain fun ρ a w Lr h1 h2 h3 => ?_, hK⟩
  have e1 := (h1 it (by simp [ho, Op.operands])).1; rw [hx] at e1
  have hl : Lr[id]? = some (.si s pos) := (h3 id (by simp) (lt_of_get hL)).trans hL
  have hob : w.heap[ρ.blk id]? = some (.stringIter s pos) := h2.obj id _ hl
  have hget : (getObj (ρ.blk id)).run P w = .ok (.stringIter s pos) w := by simp [getObj, Sem.run, hob]
  have hn : ¬ pos < s.size := by omega
  simp [execOp, ho, show a.eval it = .pointer (some ⟨ρ.blk id, 0, none⟩) from e1, Instr.next, hget, hn]
end
theorem decode_ascii {s : ByteArray} {i : Nat} (hi : i < s.size) (h : s[i].toNat < 128) : Utf8.decode s i = (s[i].toNat, 1) := by
  have h0 : s.get! (i + 0) = s[i] := by
    simp [ByteArray.get!, getElem!_pos, hi]
    rfl
  unfold Utf8.decode
  simp only [h0]
  rw [if_pos (by omega)]

/-! a region's ends, joined -/
def joinQ {α : Type} (m : Nat) (I : α → Prop) (S : α → List (Nat × V)) (H : α → List O) (Q : Exit → Sl → List O → Prop) : Exit → Sl → List O → Prop
  | .normal, f, L => ∃ x π, I x ∧ enter m π f L (S x) (H x)
  | e, f, L => Q e f L
section
variable {P : Program} {Γ : Ctx} {nt : Nat}
theorem code_join {α : Type} (I : α → Prop) (S : α → List (Nat × V)) (H : α → List O) {c : Code} {Q : Exit → Sl → List O → Prop} {f : Sl} {L : List O}
    (h1 : codeOK P Γ nt c (joinQ Γ.m I S H Q) f L) (h2 : ∀ x g, I x → Q .normal (slS g (S x)) (H x)) : codeOK P Γ nt c Q f L := by
  intro ρ a w ha hr
  refine wp_mono (h1 ρ a w ha hr) fun e a' w' hq => ?_
  obtain ⟨ρ', f', L', hQ, ha', hr'⟩ := hq
  cases e with
  | normal =>
    obtain ⟨x, π, hI, hen⟩ := hQ
    obtain ⟨g1, g2⟩ := enter_rel ha' hr' hen
    exact ⟨_, _, _, h2 x _ hI, g1, g2⟩
  | _ => exact ⟨ρ', f', L', hQ, ha', hr'⟩
theorem reg_join {α : Type} (I : α → Prop) (S : α → List (Nat × V)) (H : α → List O) {id : Nat} {ops : Array Oper} {Q : Exit → Sl → List O → Prop} {f : Sl} {L : List O}
    (h1 : regOK P Γ nt id ops (joinQ Γ.m I S H Q) f L) (h2 : ∀ x g, I x → Q .normal (slS g (S x)) (H x)) : regOK P Γ nt id ops Q f L := code_join I S H h1 h2
theorem draw_join {α : Type} (I : α → Prop) (S : α → List (Nat × V)) (H : α → List O) {id : Nat} {ops : Array Oper} {Q : Exit → Sl → List O → Prop} {f : Sl} {L : List O}
    (h1 : drawOK P Γ nt id ops (joinQ Γ.m I S H Q) f L) (h2 : ∀ x g, I x → Q .normal (slS g (S x)) (H x)) : drawOK P Γ nt id ops Q f L := code_join I S H h1 h2
end
end Go.Proofs.Ytpangmameocfmaa.VE
