/- Contracts of functions of the given program, for all arguments that the contract names; see each theorem. -/
import Derived.Test.YtgpgcdofhkpeaaaVE8
set_option linter.all false
namespace Go.Proofs.Ytgpgcdofhkpeaaa.VE
open Go

/-! maps of diagrams to words and counts, the words in a pool -/
def mE (s : Int) (F : List Nat → V) (ks : List (List Nat)) : O := .mo (dm s (ks.map fun d => (d, F d)))
def upF {α : Type} (f : List Nat → α) (e : List Nat) (v : α) : List Nat → α := fun d => if d = e then v else f d
theorem upF_eq {α : Type} {f : List Nat → α} {e : List Nat} {v : α} : upF f e v e = v := if_pos rfl
theorem upF_ne {α : Type} {f : List Nat → α} {e d : List Nat} {v : α} (h : d ≠ e) : upF f e v d = f d := if_neg h
theorem mE_congr {s : Int} {F G : List Nat → V} {ks : List (List Nat)} (h : ∀ d ∈ ks, F d = G d) : mE s F ks = mE s G ks := by
  unfold mE
  rw [List.map_congr_left fun d hd => by rw [h d hd]]
theorem mE_mapIds {σ : Nat → Nat} {s : Int} {F : List Nat → V} {ks : List (List Nat)} : (mE s F ks).mapIds σ = mE s (fun d => (F d).mapIds σ) ks := by
  simp [mE, O.mapIds, dm, List.map_map, Function.comp_def]
theorem moP {σ : Nat → Nat} {s : Int} {F : List Nat → V} {ks : List (List Nat)} {x : Option O} (h : x = some (mE s (fun d => (F d).mapIds σ) ks)) : x = some ((mE s F ks).mapIds σ) := by rw [h, mE_mapIds]
theorem okO_mE {H : List O} {s : Int} {F : List Nat → V} {ks : List (List Nat)} (h : ∀ d ∈ ks, ∀ i ∈ (F d).ids, okId H i) : okO H (mE s F ks) := by
  intro i hi
  simp only [mE, O.ids, dm, List.map_map] at hi
  obtain ⟨v, hv, hi⟩ := mem_idsL.1 hi
  obtain ⟨d, hd, rfl⟩ := List.mem_map.1 hv
  exact h d hd i hi
theorem eqO_mE {ρ : Rho} {s : Int} {F G : List Nat → V} {ks : List (List Nat)} (h : ∀ d ∈ ks, (G d).ren ρ = (F d).ren ρ) : eqO ρ (mE s F ks) (mE s G ks) := by
  refine .inr (.inr ⟨_, _, rfl, rfl, ?_⟩)
  simp only [dm, List.map_map]
  exact List.map_congr_left fun d hd => by simp only [Function.comp_apply, h d hd]
/-- What a word and a count are told as: the word in a pool; one word lent. -/
def wvP (k : Nat) (g : List Nat → Nat) (c : List Nat → Nat) (d : List Nat) : V := .agg [.pl k (g d), .raw (.int .i64 (IntKind.i64.wrap ((c d : Nat) : Int)))]
def wvL (k : Nat) (g : List Nat → Nat) (e : List Nat) (r : Nat) (c : List Nat → Nat) (d : List Nat) : V := .agg [if d = e then .sl r else .pl k (g d), .raw (.int .i64 (IntKind.i64.wrap ((c d : Nat) : Int)))]
section
variable {ρ : Rho} {σ : Nat → Nat} {H : List O} {s : Int} {ks : List (List Nat)} {k k' r : Nat} {g g' : List Nat → Nat} {c : List Nat → Nat} {d e : List Nat} {x : Option O}
theorem wvL_eq : wvL k g e r c e = .agg [.sl r, .raw (.int .i64 (IntKind.i64.wrap ((c e : Nat) : Int)))] := by simp [wvL]
theorem wvL_ne (h : d ≠ e) : wvL k g e r c d = wvP k g c d := by simp [wvL, wvP, h]
theorem wvP_mapIds : (wvP k g c d).mapIds σ = wvP (σ k) g c d := rfl
theorem wvL_mapIds : (wvL k g e r c d).mapIds σ = wvL (σ k) g e (σ r) c d := by
  by_cases h : d = e
  · subst h; rw [wvL_eq, wvL_eq]; rfl
  · rw [wvL_ne h, wvL_ne h]; rfl
theorem moW (h : x = some (mE s (wvP (σ k) g c) ks)) : x = some ((mE s (wvP k g c) ks).mapIds σ) := by rw [h, mE_mapIds]; rfl
theorem moL (h : x = some (mE s (wvL (σ k) g e (σ r) c) ks)) : x = some ((mE s (wvL k g e r c) ks).mapIds σ) := by
  rw [h, mE_mapIds]
  have : (fun d => (wvL k g e r c d).mapIds σ) = wvL (σ k) g e (σ r) c := funext fun d => wvL_mapIds
  rw [this]
theorem moM : (mE s (wvP k g c) ks).mapIds σ = mE s (wvP (σ k) g c) ks := by rw [mE_mapIds]; rfl
theorem okO_wP (h : okIds H [k] = true) : okO H (mE s (wvP k g c) ks) := okO_mE fun d _ i hi => by
  simp [wvP, V.ids, idsL] at hi
  subst hi; exact okIds_elim h _ (by simp)
theorem okO_wL (h : okIds H [k, r] = true) : okO H (mE s (wvL k g e r c) ks) := okO_mE fun d _ i hi => by
  by_cases h1 : d = e
  · subst h1; rw [wvL_eq] at hi
    simp [V.ids, idsL] at hi
    subst hi; exact okIds_elim h _ (by simp)
  · rw [wvL_ne h1] at hi
    simp [wvP, V.ids, idsL] at hi
    subst hi; exact okIds_elim h _ (by simp)
theorem ren_agg2 {u v v' : V} (h : v'.ren ρ = v.ren ρ) : (V.agg [v', u]).ren ρ = (V.agg [v, u]).ren ρ := by simp only [V.ren, renL, h]
theorem eqO_lendM (h : (V.sl r).ren ρ = (V.pl k (g e)).ren ρ) : eqO ρ (mE s (wvP k g c) ks) (mE s (wvL k g e r c) ks) := eqO_mE fun d _ => by
  by_cases h1 : d = e
  · subst h1; rw [wvL_eq]; exact ren_agg2 h
  · rw [wvL_ne h1]
theorem eqO_backM (h : (V.pl k (g e)).ren ρ = (V.sl r).ren ρ) : eqO ρ (mE s (wvL k g e r c) ks) (mE s (wvP k g c) ks) := eqO_mE fun d _ => by
  by_cases h1 : d = e
  · subst h1; rw [wvL_eq]; exact ren_agg2 h
  · rw [wvL_ne h1]
theorem eqO_moveM (h : ∀ d ∈ ks, (V.pl k' (g' d)).ren ρ = (V.pl k (g d)).ren ρ) : eqO ρ (mE s (wvP k g c) ks) (mE s (wvP k' g' c) ks) := eqO_mE fun d hd => ren_agg2 (h d hd)
theorem eqO_absL (h : ∀ d ∈ ks, d ≠ e → (V.pl k' (g' d)).ren ρ = (V.pl k (g d)).ren ρ) (he : (V.pl k' (g' e)).ren ρ = (V.sl r).ren ρ) : eqO ρ (mE s (wvL k g e r c) ks) (mE s (wvP k' g' c) ks) := eqO_mE fun d hd => by
  by_cases h1 : d = e
  · subst h1; rw [wvL_eq]; exact ren_agg2 he
  · rw [wvL_ne h1]; exact ren_agg2 (h d hd h1)
end
theorem dget_map {F : List Nat → V} {d : List Nat} : ∀ {ks : List (List Nat)}, dget d (ks.map fun d => (d, F d)) = if d ∈ ks then some (F d) else none
  | [] => by simp [dget]
  | k :: ks => by
    rw [List.map_cons, dget, dget_map (ks := ks)]
    by_cases h : d = k
    · subst h; simp
    · simp [h]
theorem dget_in {F : List Nat → V} {d : List Nat} {ks : List (List Nat)} (h : d ∈ ks) : dget d (ks.map fun d => (d, F d)) = some (F d) := by rw [dget_map, if_pos h]
theorem dget_out {F : List Nat → V} {d : List Nat} {ks : List (List Nat)} (h : d ∉ ks) : dget d (ks.map fun d => (d, F d)) = none := by rw [dget_map, if_neg h]
theorem dset_in {F G : List Nat → V} {d : List Nat} : ∀ {ks : List (List Nat)}, ks.Nodup → d ∈ ks → (∀ x ∈ ks, x ≠ d → F x = G x) → dset d (G d) (ks.map fun d => (d, F d)) = ks.map fun d => (d, G d)
  | [], _, h, _ => by simp at h
  | k :: ks, hn, h, hG => by
    have hn' := List.nodup_cons.1 hn
    rw [List.map_cons, List.map_cons, dset]
    by_cases e : d = k
    · subst e
      rw [if_pos rfl, List.map_congr_left fun x hx => by rw [hG x (by simp [hx]) (fun e => hn'.1 (e ▸ hx))]]
    · rw [if_neg e, dset_in hn'.2 ((List.mem_cons.1 h).resolve_left e) fun x hx => hG x (by simp [hx]), hG k (by simp) (Ne.symm e)]
theorem dset_out {F G : List Nat → V} {d : List Nat} {ks : List (List Nat)} (h : d ∉ ks) (hG : ∀ x ∈ ks, F x = G x) : dset d (G d) (ks.map fun d => (d, F d)) = (ks ++ [d]).map fun d => (d, G d) := by
  rw [dset_none (dget_out h), List.map_append, List.map_congr_left fun x hx => by rw [hG x hx]]; rfl
theorem map_len16 {F : List Nat → V} {N : Nat} {ks : List (List Nat)} (h : ∀ d ∈ ks, d.length = N) : ∀ q ∈ ks.map fun d => (d, F d), q.1.length = N := fun q hq => by
  obtain ⟨d, hd, rfl⟩ := List.mem_map.1 hq; exact h d hd

section
variable {P : Program} {Γ : Ctx} {n : Nat} {o : Oper} {f : Sl} {L : List O}
/-- 'm[k] = v', and what is written first into a new map. -/
theorem upd_e {T kt et : TypeId} {x i y : Operand} {N : Nat} {id : Nat} {es : List (Value × V)} {s : Int} {l l' : List (List Nat × V)} {k : List Nat} {v : V} {K : LK} (ho : o.op = .mapUpdate T x i y ∨ o.op = .insert T x i y) (hdst : o.dst = none)
    (hT : P.underlying T = some (.map kt et)) (hd : DKey P kt N) (hx : ev f x = .mp id) (hL : L[id]? = some (.mo es)) (hes0 : es = dm s l) (hix : ev f i = pv s k) (hy : ev f y = v) (hk : k.length = N) (hl : ∀ q ∈ l, q.1.length = N) (hds : dset k v l = l')
    (hK : K [id] ⟨.raw undef, [(id, .mo (dm s l'))], []⟩) :
    ∃ rd e, LocOK P Γ n o f L rd e ∧ K rd e := by
  subst hes0
  subst hds
  refine ⟨_, _, ?_, hK⟩
  intro ρ a w Lr h1 h2 h3 _ hm K Q hK
  have hops : o.op.operands = #[x, i, y] := by rcases ho with ho | ho <;> simp [ho, Op.operands]
  have hexec : execOp a.eval o = (do Instr.mapUpdate T (a.eval x) (a.eval i) (a.eval y); pure .skip) := by rcases ho with ho | ho <;> simp only [execOp, ho]
  have e1 := (h1 x (by simp [hops])).1; rw [hx] at e1
  have e2 := (h1 i (by simp [hops])).1; rw [hix] at e2
  have e3 : a.eval y = v.ren ρ ∧ ∀ q ∈ v.ids, okId Lr q := by
    have := h1 y (by simp [hops])
    rw [← hy]; exact this
  have hl' : Lr[id]? = some (.mo (dm s l)) := (h3 id (by simp) (lt_of_get hL)).trans hL
  obtain ⟨ents, hob, hborn, hes⟩ : objAt ρ w id (.mo (dm s l)) := h2.obj id _ hl'
  have hget : (getObj (ρ.blk id)).run P w = .ok (.map ents ents.size) w := by simp [getObj, Sem.run, hob]
  obtain ⟨g1, g2⟩ := find_d hd hk w (i := 0) hl hes
  have hfk := run_findKey_eq (w := w) hd.wide (.agg (pcl s k).toArray) ents.toList
  obtain ⟨ents', hrun, hes', hborn'⟩ : ∃ ents' : Array MapEntry, (execOp a.eval o).run P w = .ok .skip { w with heap := w.heap.setIfInBounds (ρ.blk id) (.map ents' ents'.size) } ∧
      ents'.toList.map (fun e => (e.key, e.val)) = (dm s (dset k v l)).map (fun p => (p.1, p.2.ren ρ)) ∧ (∀ (i : Nat) (e : MapEntry), ents'[i]? = some e → e.born = i) := by
    have hset : ∀ ob, (setObj (ρ.blk id) ob).run P w = .ok () { w with heap := w.heap.setIfInBounds (ρ.blk id) ob } := fun ob => by
      simp [setObj, Sem.run, hob]
    cases hr : dget k l with
    | none =>
      have g := g1 hr
      refine ⟨ents.push { key := .agg (pcl s k).toArray, val := v.ren ρ, born := ents.size }, ?_, ?_, ?_⟩
      · simp [hexec, show a.eval x = .map (some (ρ.blk id)) from e1, show a.eval i = .agg (pcl s k).toArray from e2, show a.eval y = _ from e3.1, Instr.mapUpdate, run_underlying hT, hget, hd.chk _ _ _ _ hk, hfk, g, hset]
      · rw [dset_none hr]; simp [hes, dm]
      · intro i e he
        rw [Array.getElem?_push] at he
        split at he
        · injection he with he; subst he; simp [*]
        · exact hborn i e he
    | some v' =>
      obtain ⟨j, e, q1, q2, q3, q4, q5⟩ := g2 v' hr
      rw [Nat.zero_add] at q4
      refine ⟨ents.modify j fun e => { e with key := .agg (pcl s k).toArray, val := v.ren ρ }, ?_, ?_, ?_⟩
      · have hj : ents[j]? = some e := by simpa using q1
        simp [hexec, show a.eval x = .map (some (ρ.blk id)) from e1, show a.eval i = .agg (pcl s k).toArray from e2, show a.eval y = _ from e3.1, Instr.mapUpdate, run_underlying hT, hget, hd.chk _ _ _ _ hk, hfk, q4, hset, hj, q2, Instr.keyThatStays, sameBits_pcl]
      · simpa using q5 v
      · intro i e' he'
        rw [Array.getElem?_modify] at he'
        split at he'
        · rename_i hij
          subst hij
          have hj : ents[j]? = some e := by simpa using q1
          rw [hj] at he'
          simp at he'
          rw [← he']
          exact hborn _ e hj
        · exact hborn i e' he'
  have hlt : ρ.blk id < w.heap.size := (Array.getElem?_eq_some_iff.1 hob).1
  have hids : ∀ q ∈ (O.mo (dm s (dset k v l))).ids, okId Lr q := by
    intro q hq
    simp only [O.ids, dm, List.map_map] at hq
    obtain ⟨u, hu, hqv⟩ := mem_idsL.1 hq
    obtain ⟨p, hp, rfl⟩ := List.mem_map.1 hu
    rcases dset_mem hp with h | h
    · refine h2.oks id _ hl' q ?_
      simp only [O.ids, dm, List.map_map]
      exact mem_idsL.2 ⟨p.2, List.mem_map.2 ⟨p, h, rfl⟩, hqv⟩
    · rw [h] at hqv; exact e3.2 q hqv
  have hr' := h2.set (w' := { w with heap := w.heap.setIfInBounds (ρ.blk id) (.map ents' ents'.size) }) hl' (o' := .mo (dm s (dset k v l))) (by simp) rfl rfl rfl rfl (by simp)
    (fun b hb => by
      have hne : ρ.blk id ≠ b := fun e => hb (by rw [← e]; rfl)
      simp [Array.getElem?_setIfInBounds_ne hne])
    ⟨ents', by simp [hlt], hborn', hes'⟩ hids
  unfold Oper.wp
  rw [hrun]
  have := hK ρ _ hr' (Agree.refl ρ Lr) (fun q hq => okId_set (by simp) hq) (fun q hq => by simp [V.ids] at hq)
  simpa [hdst, Act.put, Oper.upon] using this
/-- A pointer that is not nil. -/
theorem neq_ptr {T e t : TypeId} {x y : Operand} {id off : Nat} {K : LK} (ho : o.op = .binOp .neq T x y t) (hT : P.underlying T = some (.pointer e)) (hx : ev f x = .ptr id off) (hy : ev f y = .raw (.pointer none)) (hK : K [] ⟨.raw (.bool true), [], []⟩) :
    ∃ rd e, LocOK P Γ n o f L rd e ∧ K rd e := by
  refine ⟨_, _, LocOK.plain fun ρ a w Lr h1 h2 h3 => ?_, hK⟩
  have e1 := (h1 x (by simp [ho, Op.operands])).1; rw [hx] at e1
  have e2 := (h1 y (by simp [ho, Op.operands])).1; rw [hy] at e2
  have h4 : ∀ (d : Nat) (b : Addr), (Op.equalIn (d + 1) T (.pointer (some b)) (.pointer none)).run P w = .ok false w := fun d b => by
    rw [Op.equalIn]; simp [run_underlying hT]
  have h5 : ∀ b : Addr, (Op.equal T (.pointer (some b)) (.pointer none)).run P w = .ok false w := fun b => h4 9999 b
  simp [execOp, ho, show a.eval x = .pointer (some ⟨ρ.blk id, off, none⟩) from e1, show a.eval y = .pointer none from e2, eqGuard, binOp, h5]
end
/-! a call that reads what it is handed, leaves it as it was, and makes new objects -/
theorem set_same {α : Type} {L : List α} {k : Nat} {x : α} (h : L[k]? = some x) : L.set k x = L := by
  refine List.ext_getElem? fun i => ?_
  rw [List.getElem?_set]
  split
  · rename_i e; subst e
    rw [if_pos (lt_of_get h), h]
  · rfl
theorem applyW_same {σ : Nat → Nat} {N : List O} : ∀ {ks : List Nat} {L0 L : List O}, handed σ L ks L0 → applyW L (wrOf σ ks (L0 ++ N)) = L
  | [], [], L, _ => by cases N <;> rfl
  | k :: ks, o :: r, L, h => by
    rw [List.cons_append, wrOf, applyW, set_same h.1]
    exact applyW_same h.2
  | [], _ :: _, _, h => h.elim
  | _ :: _, [], _, h => h.elim
theorem handed_at {σ : Nat → Nat} {L L' : List O} : ∀ {ks : List Nat} {L0 : List O}, handed σ L ks L0 → (∀ k ∈ ks, k < L.length → L'[k]? = L[k]?) → handed σ L' ks L0
  | [], [], _, _ => trivial
  | k :: ks, o :: r, h, hl => ⟨(hl k (by simp) (lt_of_get h.1)).trans h.1, handed_at h.2 fun q hq => hl q (by simp [hq])⟩
  | [], _ :: _, h, _ => h.elim
  | _ :: _, [], h, _ => h.elim
theorem Spec.readN {P : Program} {fid : FuncId} {args args' : List V} {L0 N : List O} {v v' : V} {Γ : Ctx} {n : Nat} {L new : List O} {K : LK} (h : Spec P fid args L0 v (L0 ++ N)) (ks : List Nat) (hargs : mapIdsL (sig ks n) args = args') (hh : handed (sig ks n) L ks L0)
    (hl : (L0 ++ N).drop ks.length = N) (hv : v.mapIds (sig ks n) = v') (hnew : mapO (sig ks n) N = new) (hK : K ks ⟨v', [], new⟩)
    (hb : (nodupB ks && (L0.all fun o => match o with | .free => false | _ => true) && ((L0 ++ N).all fun o => match o with | .free => false | _ => true) && Nat.ble ks.length (L0 ++ N).length) = true := by rfl) : CallK P Γ n fid args' L K := by
  subst hargs; subst hv; subst hnew
  simp only [Bool.and_eq_true] at hb
  obtain ⟨⟨⟨h1, h2⟩, h3⟩, h4⟩ := hb
  have hc := SpecW.loc (Γ := Γ) h ks (fun _ _ _ _ _ _ => trivial) h1 hh h2 h3 h4
  rw [hl] at hc
  refine ⟨ks, _, ⟨hc.1, fun ρ w Lr hids hr hrd hfree hm => ?_⟩, hK⟩
  have h5 := hc.2 ρ w Lr hids hr hrd hfree hm
  have e : (⟨v.mapIds (sig ks n), wrOf (sig ks n) ks (L0 ++ N), mapO (sig ks n) N⟩ : Eff).app n Lr = (⟨v.mapIds (sig ks n), [], mapO (sig ks n) N⟩ : Eff).app n Lr := by
    show setAt (applyW Lr _) n _ = setAt (applyW Lr []) n _
    rw [applyW_same (handed_at hh hrd)]; rfl
  refine h5.mono ?_
  rintro en w' ⟨ρ', g1, g2, g3, g4, g5⟩
  rw [e] at g2 g4 g5
  exact ⟨ρ', g1, g2, g3, g4, g5⟩
end Go.Proofs.Ytgpgcdofhkpeaaa.VE
