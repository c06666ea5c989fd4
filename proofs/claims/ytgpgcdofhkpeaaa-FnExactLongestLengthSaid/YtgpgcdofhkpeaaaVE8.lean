/- Contracts of functions of the given program, for all arguments that the contract names; see each theorem. -/
import Derived.Test.YtgpgcdofhkpeaaaVE7
set_option linter.all false
namespace Go.Proofs.Ytgpgcdofhkpeaaa.VE
open Go

/-! maps with keys that are structs of a size and bytes -/

/-- What such a key's type is asked. -/
structure DKey (P : Program) (T : TypeId) (N : Nat) : Prop where
  eq : ∀ (w : World) (s : Int) (m m' : List Nat), m.length = N → m'.length = N → (Op.equal T (.agg (pcl s m).toArray) (.agg (pcl s m').toArray)).run P w = .ok (decide (m = m')) w
  chk : ∀ (w : World) (b : Bool) (s : Int) (m : List Nat), m.length = N → (Instr.checkKey b 10000 T (.agg (pcl s m).toArray)).run P w = .ok () w
  wide : (match P.underlying T with | some (.array _ _) | some (.struct _) => true | _ => false) = true

theorem DKey.of {P : Program} {T e : TypeId} {N : Nat} {f0 f1 : Field} {ie ia : TypeInfo} (hu : P.underlying T = some (.struct #[f0, f1])) (hp : P.stoodInHeld T = false) (hn0 : (f0.name == "_") = false) (hn1 : (f1.name == "_") = false)
    (ho0 : f0.offset = 0) (ho1 : f1.offset = 1) (ht0 : P.underlying f0.type = some (.int .i64)) (ht1 : P.underlying f1.type = some (.array N e)) (he : P.underlying e = some (.int .u8)) (hie : P.info? e = some ie) (hse : ie.size = 1)
    (hia : P.info? f1.type = some ia) (hsa : ia.size = N) : DKey P T N where
  eq w s m m' h h' := by
    refine (eq_sized hu hp hn0 hn1 ho0 ho1 ht0 ht1 he hie hse hia hsa h h').trans ?_
    simp
  chk w b s m h := by
    have hn0' : f0.name ≠ "_" := by simpa using hn0
    have hn1' : f1.name ≠ "_" := by simpa using hn1
    have hp0 : P.plainKey f0.type = true := by simp [Program.plainKey, ht0]
    have hpe : P.plainKey e = true := by simp [Program.plainKey, he]
    have part0 : (part f0.type (pcl s m).toArray f0.offset).run P w = .ok (.int .i64 s) w :=
      run_part_plain w hp0 (by rw [ho0]; simp [pcl])
    have part1 : (part f1.type (pcl s m).toArray f1.offset).run P w = .ok (.agg (bcl m).toArray) w := by
      have hsz : (sizeOf f1.type).run P w = .ok N w := by simp [sizeOf, typeInfo, hia, hsa]
      simp [part, isAgg, run_underlying ht1, hsz, ho1]
      exact pcl_part (s := s) h
    have c0 : (Instr.checkKey b 9999 f0.type (.int .i64 s)).run P w = .ok () w := by
      rw [show (9999 : Nat) = 9998 + 1 from rfl, Instr.checkKey]
      simp [run_underlying ht0]
    have hse' : (sizeOf e).run P w = .ok 1 w := by simp [sizeOf, typeInfo, hie, hse]
    have c1 : (Instr.checkKey b 9999 f1.type (.agg (bcl m).toArray)).run P w = .ok () w := by
      rw [show (9999 : Nat) = 9998 + 1 from rfl, Instr.checkKey]
      simp only [Sem.run_bind, run_underlying ht1, Result.andThen_ok]
      simp only [Std.Legacy.Range.forIn_eq_forIn_range', Std.Legacy.Range.size, Nat.sub_zero, Nat.add_one_sub_one, Nat.div_one]
      have each : ∀ i ∈ List.range' 0 N, i < N := fun i hi => by simpa using hi
      generalize List.range' 0 N = is at each
      induction is with
      | nil => simp
      | cons j is ih =>
        have hj := each j (by simp)
        have p1 : (part e (bcl m).toArray (j * 1)).run P w = .ok (.int .u8 ((m.getD j 0 : Nat) : Int)) w :=
          run_part_plain w hpe (by rw [Nat.mul_one, List.getElem?_toArray]; exact bcl_at (by omega))
        have p2 : (Instr.checkKey b 9998 e (.int .u8 ((m.getD j 0 : Nat) : Int))).run P w = .ok () w := by
          rw [show (9998 : Nat) = 9997 + 1 from rfl, Instr.checkKey]
          simp [run_underlying he]
        simp only [List.forIn_cons, Sem.run_bind, hse', Result.andThen_ok, p1, p2, Sem.run_pure]
        exact ih fun i hi => each i (by simp [hi])
    rw [show (10000 : Nat) = 9999 + 1 from rfl, Instr.checkKey]
    simp only [Sem.run_bind, run_underlying hu, Result.andThen_ok]
    simp [hn0', hn1', part0, part1, c0, c1]
  wide := by rw [hu]

/-- A map's entries. -/
def dm (s : Int) (l : List (List Nat × V)) : List (Value × V) := l.map fun q => (.agg (pcl s q.1).toArray, q.2)
def dget (k : List Nat) : List (List Nat × V) → Option V
  | [] => none
  | (j, v) :: r => if k = j then some v else dget k r
def dset (k : List Nat) (x : V) : List (List Nat × V) → List (List Nat × V)
  | [] => [(k, x)]
  | (j, v) :: r => if k = j then (k, x) :: r else (j, v) :: dset k x r
theorem dget_mem {k : List Nat} {v : V} : ∀ {l : List (List Nat × V)}, dget k l = some v → (k, v) ∈ l
  | [], h => by cases h
  | (j, u) :: r, h => by
    simp only [dget] at h
    split at h
    · rename_i e; injection h with h; subst h; subst e; exact List.mem_cons_self
    · exact List.mem_cons_of_mem _ (dget_mem h)
theorem dset_mem {k : List Nat} {x : V} {p : List Nat × V} : ∀ {l : List (List Nat × V)}, p ∈ dset k x l → p ∈ l ∨ p = (k, x)
  | [], h => .inr (by simpa [dset] using h)
  | (j, u) :: r, h => by
    simp only [dset] at h
    split at h
    · rcases List.mem_cons.1 h with h | h
      · exact .inr h
      · exact .inl (List.mem_cons_of_mem _ h)
    · rcases List.mem_cons.1 h with rfl | h
      · exact .inl List.mem_cons_self
      · rcases dset_mem h with h | h
        · exact .inl (List.mem_cons_of_mem _ h)
        · exact .inr h
theorem dset_none {k : List Nat} {x : V} : ∀ {l : List (List Nat × V)}, dget k l = none → dset k x l = l ++ [(k, x)]
  | [], _ => rfl
  | (j, u) :: r, h => by
    simp only [dget] at h
    split at h
    · cases h
    · rename_i hk; simp only [dset, if_neg hk, List.cons_append, dset_none h]

theorem pcl_inj {s : Int} {m m' : List Nat} (h : (Value.agg (pcl s m).toArray) = .agg (pcl s m').toArray) : m = m' := by
  have h1 : (pcl s m).toArray = (pcl s m').toArray := by injection h
  have h2 : pcl s m = pcl s m' := by simpa using congrArg Array.toList h1
  simp only [pcl, List.cons.injEq, true_and] at h2
  refine List.map_inj_right (f := fun (x : Nat) => Value.int .u8 (x : Int)) (fun a b e => ?_) |>.1 h2
  injection e with _ e; exact Int.ofNat.inj e
theorem sameBits_pcl {s : Int} {m : List Nat} : Instr.sameBits 10000 (.agg (pcl s m).toArray) (.agg (pcl s m).toArray) = true := by
  rw [show (10000 : Nat) = 9999 + 1 from rfl, Instr.sameBits]
  have : ∀ (l : List Value), (∀ v ∈ l, ∃ k i, v = .int k i) → ((l.zip l).all fun (x, y) => Instr.sameBits 9999 x y) = true := by
    intro l hl
    induction l with
    | nil => rfl
    | cons v r ih =>
      obtain ⟨k, i, rfl⟩ := hl v (by simp)
      simp only [List.zip_cons_cons, List.all_cons, ih fun v hv => hl v (by simp [hv]), Bool.and_true]
      simp [Instr.sameBits]
  simp only [beq_self_eq_true, Bool.true_and]
  refine this _ fun v hv => ?_
  simp only [pcl, List.mem_cons, List.mem_map] at hv
  rcases hv with rfl | ⟨x, _, rfl⟩
  · exact ⟨_, _, rfl⟩
  · exact ⟨_, _, rfl⟩

section
variable {P : Program}
theorem find_d {T : TypeId} {N : Nat} (hd : DKey P T N) {ρ : Rho} {s : Int} {k : List Nat} (hk : k.length = N) (w : World) : ∀ {l : List (List Nat × V)} {ents : List MapEntry} {i : Nat}, (∀ q ∈ l, q.1.length = N) → ents.map (fun e => (e.key, e.val)) = (dm s l).map (fun p => (p.1, p.2.ren ρ)) →
    (dget k l = none → (Instr.findAsking T (.agg (pcl s k).toArray) ents i).run P w = .ok none w) ∧
    (∀ v, dget k l = some v → ∃ (j : Nat) (e : MapEntry), ents[j]? = some e ∧ e.key = .agg (pcl s k).toArray ∧ e.val = v.ren ρ ∧ (Instr.findAsking T (.agg (pcl s k).toArray) ents i).run P w = .ok (some (i + j, v.ren ρ)) w ∧
      ∀ x : V, (ents.modify j fun e => { e with key := .agg (pcl s k).toArray, val := x.ren ρ }).map (fun e => (e.key, e.val)) = (dm s (dset k x l)).map (fun p => (p.1, p.2.ren ρ)))
  | [], [], i, _, _ => ⟨fun _ => by simp [Instr.findAsking], fun v h => by cases h⟩
  | [], _ :: _, _, _, h => by simp [dm] at h
  | _ :: _, [], _, _, h => by simp [dm] at h
  | (j, v0) :: l, e :: ents, i, hl, he => by
    simp only [dm, List.map_cons, List.cons.injEq, Prod.mk.injEq] at he
    obtain ⟨⟨h1, h2⟩, h3⟩ := he
    have hq := hd.eq w s k j hk (hl (j, v0) (by simp))
    rw [← h1] at hq
    obtain ⟨g1, g2⟩ := find_d hd (s := s) hk w (i := i + 1) (fun q hq => hl q (by simp [hq])) h3
    by_cases hkj : k = j
    · subst hkj
      refine ⟨fun h => by simp [dget] at h, fun v hv => ?_⟩
      simp only [dget, if_true] at hv
      injection hv with hv; subst hv
      refine ⟨0, e, rfl, h1, h2, ?_, fun x => ?_⟩
      · simp [Instr.findAsking, hq, h2]
      · simp only [List.modify_zero_cons, List.map_cons, dset, if_true, dm]
        rw [h3]
    · refine ⟨fun h => ?_, fun v hv => ?_⟩
      · simp only [dget, if_neg hkj] at h
        simp [Instr.findAsking, hq, hkj, g1 h]
      · simp only [dget, if_neg hkj] at hv
        obtain ⟨j', e', q1, q2, q3, q4, q5⟩ := g2 v hv
        refine ⟨j' + 1, e', by simpa using q1, q2, q3, ?_, fun x => ?_⟩
        · simp [Instr.findAsking, hq, hkj, q4]; omega
        · simp only [List.modify_succ_cons, List.map_cons, dset, if_neg hkj, dm, h1, h2]
          rw [q5 x]; rfl
end

section
variable {P : Program} {Γ : Ctx} {n : Nat} {o : Oper} {f : Sl} {L : List O}

/-- 'v, ok := m[k]' and 'm[k]'. -/
theorem look_d {T kt et : TypeId} {x i : Operand} {ck : Bool} {N : Nat} {ti : TypeInfo} {z : Value} {id : Nat} {s : Int} {l : List (List Nat × V)} {k : List Nat} {r : Option V} {K : LK} (ho : o.op = .lookup T x i ck)
    (hT : P.underlying T = some (.map kt et)) (hd : DKey P kt N) (hi : P.info? et = some ti) (hz : ti.zero = some z) (hx : ev f x = .mp id) (hL : L[id]? = some (.mo (dm s l))) (hix : ev f i = pv s k) (hk : k.length = N) (hl : ∀ q ∈ l, q.1.length = N) (hr : dget k l = r)
    (hK : K [id] ⟨match ck with | true => .tup [match r with | some v => v | none => .raw z, .raw (.bool r.isSome)] | false => (match r with | some v => v | none => .raw z), [], []⟩) :
    ∃ rd e, LocOK P Γ n o f L rd e ∧ K rd e := by
  refine ⟨_, _, LocOK.pure fun ρ a w Lr h1 h2 h3 => ?_, hK⟩
  have e1 := (h1 x (by simp [ho, Op.operands])).1; rw [hx] at e1
  have e2 := (h1 i (by simp [ho, Op.operands])).1; rw [hix] at e2
  have hl' : Lr[id]? = some (.mo (dm s l)) := (h3 id (by simp) (lt_of_get hL)).trans hL
  obtain ⟨ents, hob, hborn, hes⟩ : objAt ρ w id (.mo (dm s l)) := h2.obj id _ hl'
  have hget : (getObj (ρ.blk id)).run P w = .ok (.map ents ents.size) w := by simp [getObj, Sem.run, hob]
  obtain ⟨g1, g2⟩ := find_d hd hk w (i := 0) hl hes
  have hfk := run_findKey_eq (w := w) hd.wide (.agg (pcl s k).toArray) ents.toList
  have hzv : (zeroValue et).run P w = .ok z w := by simp [zeroValue, typeInfo, hi, hz]
  have hids : ∀ v, r = some v → ∀ q ∈ v.ids, okId Lr q := by
    intro v hv q hq
    refine h2.oks id _ hl' q ?_
    subst hv
    simp only [O.ids, dm, List.map_map]
    exact mem_idsL.2 ⟨v, List.mem_map.2 ⟨(k, v), dget_mem hr, rfl⟩, hq⟩
  have hrun : (execOp a.eval o).run P w = .ok (.value (match ck with | true => .tuple #[match r with | some v => v.ren ρ | none => z, .bool r.isSome] | false => (match r with | some v => v.ren ρ | none => z))) w := by
    simp only [execOp, ho, show a.eval x = .map (some (ρ.blk id)) from e1, show a.eval i = .agg (pcl s k).toArray from e2, Instr.lookup]
    cases r with
    | none =>
      have := g1 hr
      cases ck <;> simp [run_underlying hT, hget, hd.chk _ _ _ _ hk, hfk, this, hzv]
    | some v =>
      obtain ⟨j, e, _, _, _, q, _⟩ := g2 v hr
      cases ck <;> simp [run_underlying hT, hget, hd.chk _ _ _ _ hk, hfk, q]
  cases ck with
  | true =>
    refine ⟨?_, ?_⟩
    · rw [hrun]; cases r <;> simp [V.ren, renL]
    · intro q hq
      cases r with
      | none => simp [V.ids, idsL] at hq
      | some v => simp [V.ids, idsL] at hq; exact hids v rfl q hq
  | false =>
    refine ⟨?_, ?_⟩
    · rw [hrun]; cases r <;> simp [V.ren]
    · intro q hq
      cases r with
      | none => simp [V.ids] at hq
      | some v => exact hids v rfl q hq

/-- 'm[k] = v'. -/
theorem upd_d {T kt et : TypeId} {x i y : Operand} {N : Nat} {id : Nat} {es : List (Value × V)} {s : Int} {l : List (List Nat × V)} {k : List Nat} {v : V} {K : LK} (ho : o.op = .mapUpdate T x i y) (hdst : o.dst = none)
    (hT : P.underlying T = some (.map kt et)) (hd : DKey P kt N) (hx : ev f x = .mp id) (hL : L[id]? = some (.mo es)) (hes0 : es = dm s l) (hix : ev f i = pv s k) (hy : ev f y = v) (hk : k.length = N) (hl : ∀ q ∈ l, q.1.length = N)
    (hK : K [id] ⟨.raw undef, [(id, .mo (dm s (dset k v l)))], []⟩) :
    ∃ rd e, LocOK P Γ n o f L rd e ∧ K rd e := by
  subst hes0
  refine ⟨_, _, ?_, hK⟩
  intro ρ a w Lr h1 h2 h3 _ hm K Q hK
  have e1 := (h1 x (by simp [ho, Op.operands])).1; rw [hx] at e1
  have e2 := (h1 i (by simp [ho, Op.operands])).1; rw [hix] at e2
  have e3 : a.eval y = v.ren ρ ∧ ∀ q ∈ v.ids, okId Lr q := by
    have := h1 y (by simp [ho, Op.operands])
    rw [← hy]; exact this
  have hl' : Lr[id]? = some (.mo (dm s l)) := (h3 id (by simp) (lt_of_get hL)).trans hL
  obtain ⟨ents, hob, hborn, hes⟩ : objAt ρ w id (.mo (dm s l)) := h2.obj id _ hl'
  have hget : (getObj (ρ.blk id)).run P w = .ok (.map ents ents.size) w := by simp [getObj, Sem.run, hob]
  obtain ⟨g1, g2⟩ := find_d hd hk w (i := 0) hl hes
  have hfk := run_findKey_eq (w := w) hd.wide (.agg (pcl s k).toArray) ents.toList
  obtain ⟨ents', hrun, hes', hborn'⟩ : ∃ ents' : Array MapEntry, (execOp a.eval o).run P w = .ok .skip { w with heap := w.heap.setIfInBounds (ρ.blk id) (.map ents' ents'.size) } ∧
      ents'.toList.map (fun e => (e.key, e.val)) = (dm s (dset k v l)).map (fun p => (p.1, p.2.ren ρ)) ∧ (∀ (i : Nat) (e : MapEntry), ents'[i]? = some e → e.born = i) := by
    have hset : ∀ ob, (setObj (ρ.blk id) ob).run P w = .ok () { w with heap := w.heap.setIfInBounds (ρ.blk id) ob } := fun ob => by
      simp [setObj, Sem.run, hob]
    cases hr : dget k l with
    | none =>
      have g := g1 hr
      refine ⟨ents.push { key := .agg (pcl s k).toArray, val := v.ren ρ, born := ents.size }, ?_, ?_, ?_⟩
      · simp [execOp, ho, show a.eval x = .map (some (ρ.blk id)) from e1, show a.eval i = .agg (pcl s k).toArray from e2, show a.eval y = _ from e3.1, Instr.mapUpdate, run_underlying hT, hget, hd.chk _ _ _ _ hk, hfk, g, hset]
      · rw [dset_none hr]; simp [hes, dm]
      · intro i e he
        rw [Array.getElem?_push] at he
        split at he
        · injection he with he; subst he; simp [*]
        · exact hborn i e he
    | some v' =>
      obtain ⟨j, e, q1, q2, q3, q4, q5⟩ := g2 v' hr
      rw [Nat.zero_add] at q4
      refine ⟨ents.modify j fun e => { e with key := .agg (pcl s k).toArray, val := v.ren ρ }, ?_, ?_, ?_⟩
      · have hj : ents[j]? = some e := by simpa using q1
        simp [execOp, ho, show a.eval x = .map (some (ρ.blk id)) from e1, show a.eval i = .agg (pcl s k).toArray from e2, show a.eval y = _ from e3.1, Instr.mapUpdate, run_underlying hT, hget, hd.chk _ _ _ _ hk, hfk, q4, hset, hj, q2, Instr.keyThatStays, sameBits_pcl]
      · simpa using q5 v
      · intro i e' he'
        rw [Array.getElem?_modify] at he'
        split at he'
        · rename_i hij
          subst hij
          have hj : ents[j]? = some e := by simpa using q1
          rw [hj] at he'
          simp at he'
          rw [← he']
          exact hborn _ e hj
        · exact hborn i e' he'
  have hlt : ρ.blk id < w.heap.size := (Array.getElem?_eq_some_iff.1 hob).1
  have hids : ∀ q ∈ (O.mo (dm s (dset k v l))).ids, okId Lr q := by
    intro q hq
    simp only [O.ids, dm, List.map_map] at hq
    obtain ⟨u, hu, hqv⟩ := mem_idsL.1 hq
    obtain ⟨p, hp, rfl⟩ := List.mem_map.1 hu
    rcases dset_mem hp with h | h
    · refine h2.oks id _ hl' q ?_
      simp only [O.ids, dm, List.map_map]
      exact mem_idsL.2 ⟨p.2, List.mem_map.2 ⟨p, h, rfl⟩, hqv⟩
    · rw [h] at hqv; exact e3.2 q hqv
  have hr' := h2.set (w' := { w with heap := w.heap.setIfInBounds (ρ.blk id) (.map ents' ents'.size) }) hl' (o' := .mo (dm s (dset k v l))) (by simp) rfl rfl rfl rfl (by simp)
    (fun b hb => by
      have hne : ρ.blk id ≠ b := fun e => hb (by rw [← e]; rfl)
      simp [Array.getElem?_setIfInBounds_ne hne])
    ⟨ents', by simp [hlt], hborn', hes'⟩ hids
  unfold Oper.wp
  rw [hrun]
  have := hK ρ _ hr' (Agree.refl ρ Lr) (fun q hq => okId_set (by simp) hq) (fun q hq => by simp [V.ids] at hq)
  simpa [hdst, Act.put, Oper.upon] using this
end
end Go.Proofs.Ytgpgcdofhkpeaaa.VE
