/- A symbolic evaluator of the given code, proved sound: own work of this session, alike for every function; no statement of the set is proved in this text. -/
import Derived.Test.YtpangmameocfmaaEa
set_option linter.all false
namespace Go.Proofs.Ytpangmameocfmaa.VE
open Go

/-- The zero of an element's type, its size and its bytes. -/
def appendLoc (P : Program) (T : TypeId) (n : Nat) (L : List O) (s x : V) (K : LK) : Prop :=
  match P.underlying T with
  | some (.slice e) => withElem P e fun _ sz bytes =>
    match s with
    | .raw (.slice none 0 0) => match x with
      | .sl ix => match L[ix]? with
        | some (.pr _ sz' nx news) => (sz' = sz ∧ ones news ∧ nx * bytes ≤ 140737488355328 ∧ nx ≤ 4611686018427387904) ∧ K [ix] ⟨.sl n, [], [.pr e sz nx news]⟩
        | some (.cr _ sz' nx news) => (sz' = sz ∧ onesB news = true ∧ nx * bytes ≤ 140737488355328 ∧ nx ≤ 4611686018427387904) ∧ K [ix] ⟨.sl n, [], [.cr e sz nx news]⟩
        | _ => False
      | _ => False
    | .sl is => match L[is]? with
      | some (.pr e' se ns xs) => (e' = e ∧ se = sz) ∧ match x with
        | .sl ix => match L[ix]? with
          | some (.pr _ sz' nx news) => ∃ all, (sz' = sz ∧ ones news ∧ (ns + nx) * bytes ≤ 140737488355328 ∧ ns + nx ≤ 4611686018427387904 ∧ xs ++ news = all) ∧ K [is, ix] ⟨.sl n, [(is, .dead)], [.pr e sz (ns + nx) all]⟩
          | some (.cr _ sz' nx news) => ∃ all, (sz' = sz ∧ onesB news = true ∧ (ns + nx) * bytes ≤ 140737488355328 ∧ ns + nx ≤ 4611686018427387904 ∧ xs.map V.raw ++ news = all) ∧ K [is, ix] ⟨.sl n, [(is, .dead)], [.cr e sz (ns + nx) all]⟩
          | _ => False
        | .raw (.slice none 0 0) => (ns * bytes ≤ 140737488355328 ∧ ns ≤ 4611686018427387904) ∧ K [is] ⟨.sl n, [(is, .dead)], [.pr e sz ns xs]⟩
        | _ => False
      | some (.cr e' se ns xs) => (e' = e ∧ se = sz) ∧ match x with
        | .sl ix => match L[ix]? with
          | some (.pr _ sz' nx news) => ∃ all, (sz' = sz ∧ ones news ∧ (ns + nx) * bytes ≤ 140737488355328 ∧ ns + nx ≤ 4611686018427387904 ∧ xs ++ news.map V.raw = all) ∧ K [is, ix] ⟨.sl n, [(is, .dead)], [.cr e sz (ns + nx) all]⟩
          | some (.cr _ sz' nx news) => ∃ all, (sz' = sz ∧ onesB news = true ∧ (ns + nx) * bytes ≤ 140737488355328 ∧ ns + nx ≤ 4611686018427387904 ∧ xs ++ news = all) ∧ K [is, ix] ⟨.sl n, [(is, .dead)], [.cr e sz (ns + nx) all]⟩
          | _ => False
        | _ => False
      | _ => False
    | _ => False
  | _ => False

section
variable {P : Program} {Γ : Ctx} {n : Nat} {o : Oper} {f : Sl} {L : List O}

theorem appendLoc_sound {T ty : TypeId} {s x : Operand} (ho : o.op = .call { callee := .builtin .append, args := #[s, x], argTypes := #[T, ty] }) (hT : ty = T) {K : LK} (h : appendLoc P T n L (ev f s) (ev f x) K) :
    ∃ rd e, K rd e ∧ LocOK P Γ n o f L rd e := by
  subst hT
  unfold appendLoc at h
  split at h
  · rename_i e hT
    obtain ⟨i, z, hi, hz, hzs, hpos, h⟩ := withElem_elim h
    split at h
    · rename_i hs
      split at h
      · rename_i ix hx
        split at h
        · rename_i e' sz' nx news hl
          obtain ⟨⟨rfl, hone, hby, h63⟩, hK⟩ := h
          exact ⟨_, _, hK, append_fin (rs := []) (rx := [ix]) ho hT hi hz hzs hpos hs hx .nil (.row hl rfl) (.inl rfl) (ns := 0) (nx := nx) (by simp [O.shape]) (fun ρ => by simp [O.view]) (by simp [O.ids]) (fun ρ => hone) (by simpa using hby) (by simpa using h63)⟩
        · rename_i e' sz' nx news hl
          obtain ⟨⟨rfl, hone, hby, h63⟩, hK⟩ := h
          exact ⟨_, _, hK, append_fin (rs := []) (rx := [ix]) ho hT hi hz hzs hpos hs hx .nil (.row hl rfl) (.inl rfl) (ns := 0) (nx := nx) (by simp [O.shape]) (fun ρ => by simp [O.view]) (by simp [O.ids]) (onesB_elim hone) (by simpa using hby) (by simpa using h63)⟩
        · exact h.elim
      · exact h.elim
    · rename_i is hs
      split at h
      · rename_i e0 se ns xs hls
        obtain ⟨⟨rfl, rfl⟩, h⟩ := h
        split at h
        · rename_i ix hx
          split at h
          · rename_i e' sz' nx news hl
            obtain ⟨all, ⟨rfl, hone, hby, h63, rfl⟩, hK⟩ := h
            exact ⟨_, _, hK, append_fin (rs := [is]) (rx := [ix]) ho hT hi hz hzs hpos hs hx (.row hls rfl) (.row hl rfl) (.inr rfl) (by simp [O.shape]) (fun ρ => by simp [O.view]) (by simp [O.ids]) (fun ρ => hone) hby h63⟩
          · rename_i e' sz' nx news hl
            obtain ⟨all, ⟨rfl, hone, hby, h63, rfl⟩, hK⟩ := h
            exact ⟨_, _, hK, append_fin (rs := [is]) (rx := [ix]) ho hT hi hz hzs hpos hs hx (.row hls rfl) (.row hl rfl) (.inr rfl) (by simp [O.shape]) (fun ρ => by simp [O.view, renL_append, renL_map_raw]) (by simp [O.ids, idsL_append, idsL_map_raw]) (onesB_elim hone) hby h63⟩
          · exact h.elim
        · rename_i hx
          obtain ⟨⟨hby, h63⟩, hK⟩ := h
          exact ⟨_, _, hK, append_fin (rs := [is]) (rx := []) ho hT hi hz hzs hpos hs hx (.row hls rfl) .nil (.inr rfl) (nx := 0) (by simp [O.shape]) (fun ρ => by simp [O.view]) (by simp [O.ids]) (fun ρ => by simp [ones]) (by simpa using hby) (by simpa using h63)⟩
        · exact h.elim
      · rename_i e0 se ns xs hls
        obtain ⟨⟨rfl, rfl⟩, h⟩ := h
        split at h
        · rename_i ix hx
          split at h
          · rename_i e' sz' nx news hl
            obtain ⟨all, ⟨rfl, hone, hby, h63, rfl⟩, hK⟩ := h
            exact ⟨_, _, hK, append_fin (rs := [is]) (rx := [ix]) ho hT hi hz hzs hpos hs hx (.row hls rfl) (.row hl rfl) (.inr rfl) (by simp [O.shape]) (fun ρ => by simp [O.view, renL_append, renL_map_raw]) (by simp [O.ids, idsL_append, idsL_map_raw]) (fun ρ => hone) hby h63⟩
          · rename_i e' sz' nx news hl
            obtain ⟨all, ⟨rfl, hone, hby, h63, rfl⟩, hK⟩ := h
            exact ⟨_, _, hK, append_fin (rs := [is]) (rx := [ix]) ho hT hi hz hzs hpos hs hx (.row hls rfl) (.row hl rfl) (.inr rfl) (by simp [O.shape]) (fun ρ => by simp [O.view, renL_append]) (by simp [O.ids, idsL_append]) (onesB_elim hone) hby h63⟩
          · exact h.elim
        · exact h.elim
      · exact h.elim
    · exact h.elim
  · exact h.elim

end

/-! slices, made slices, literal slices -/

def sliceLoc (P : Program) (T : TypeId) (n : Nat) (L : List O) (x : V) (lo hi : Option V) (K : LK) : Prop :=
  match P.underlying T, x with
  | some .string, .raw (.string s) =>
    match lo, hi with
    | some (.raw (.int _ l)), some (.raw (.int _ h)) => ∃ (a b : Nat) (t : ByteArray), (l = (a : Int) ∧ h = (b : Int) ∧ a ≤ b ∧ b ≤ s.size ∧ s.extract a b = t) ∧ K.v (.raw (.string t))
    | none, some (.raw (.int _ h)) => ∃ (b : Nat) (t : ByteArray), (h = (b : Int) ∧ b ≤ s.size ∧ s.extract 0 b = t) ∧ K.v (.raw (.string t))
    | some (.raw (.int _ l)), none => ∃ (a : Nat) (t : ByteArray), (l = (a : Int) ∧ a ≤ s.size ∧ s.extract a s.size = t) ∧ K.v (.raw (.string t))
    | _, _ => False
  | some (.slice e), .sl id => match L[id]? with
    | some (.pr e' sz m xs) => match lo, hi with
      | none, some (.raw (.int _ h)) => withSize P e fun es => ∃ (k : Nat) (ys : List Value), (h = (k : Int) ∧ k ≤ m ∧ es = sz ∧ xs.take (k * sz) = ys) ∧ K [id] ⟨.sl n, [(id, .dead)], [.pr e' sz k ys]⟩
      | some (.raw (.int _ l)), some (.raw (.int _ h)) => withSize P e fun es => ∃ (a b : Nat), (l = (a : Int) ∧ h = (b : Int) ∧ a ≤ b ∧ b ≤ m ∧ es = sz) ∧ K [id] ⟨.sub id sz a (b - a), [], []⟩
      | some (.raw (.int _ l)), none => withSize P e fun es => ∃ (a : Nat), (l = (a : Int) ∧ a ≤ m ∧ es = sz) ∧ K [id] ⟨.sub id sz a (m - a), [], []⟩
      | _, _ => False
    | some (.cr e' sz m xs) => match lo, hi with
      | some (.raw (.int _ l)), none => withSize P e fun es => ∃ (a : Nat), (l = (a : Int) ∧ a ≤ m ∧ es = sz) ∧ K [id] ⟨.sub id sz a (m - a), [], []⟩
      | _, _ => False
    | _ => False
  | some (.array m e), .ptr id off => withSize P e fun _ => match lo, hi with
    | none, some (.raw (.int _ h)) => ∃ k : Nat, (h = (k : Int) ∧ k ≤ m) ∧ K.v (.asl id off k m)
    | none, none => K.v (.asl id off m m)
    | _, _ => False
  | _, _ => False

section
variable {P : Program} {Γ : Ctx} {n : Nat} {o : Oper} {f : Sl} {L : List O}

theorem run_bound {P : Program} {k : IntKind} {i : Int} {a y : Nat} {code : BoundsCode} (w : World) (h : i = (a : Int)) (hy : a ≤ y) : (Instr.sliceBound (.int k i) y code).run P w = .ok a w := by
  subst h
  simp [Instr.sliceBound, asIntOf, hy]

theorem sliceLoc_sound {T : TypeId} {x : Operand} {lo hi : Option Operand} (ho : o.op = .slice T x lo hi none) {K : LK} (h : sliceLoc P T n L (ev f x) (lo.map (ev f)) (hi.map (ev f)) K) :
    ∃ rd e, K rd e ∧ LocOK P Γ n o f L rd e := by
  have hopx : ∀ {ρ : Rho} {a : Act} {Lr : List O}, (∀ y ∈ o.op.operands.toList, opd ρ Lr a f y) → opd ρ Lr a f x := fun hh => hh x (by simp [ho, Op.operands])
  have hoplo : ∀ {ρ : Rho} {a : Act} {Lr : List O} {v : Value}, (∀ y ∈ o.op.operands.toList, opd ρ Lr a f y) → lo.map (ev f) = some (.raw v) → lo.map a.eval = some v := by
    intro ρ a Lr v hh h1
    cases lo with
    | none => cases h1
    | some y =>
      have := (hh y (by simp [ho, Op.operands])).1
      simp only [Option.map_some, Option.some.injEq] at h1 ⊢
      rw [this, h1]; rfl
  have hophi : ∀ {ρ : Rho} {a : Act} {Lr : List O} {v : Value}, (∀ y ∈ o.op.operands.toList, opd ρ Lr a f y) → hi.map (ev f) = some (.raw v) → hi.map a.eval = some v := by
    intro ρ a Lr v hh h1
    cases hi with
    | none => cases h1
    | some y =>
      have := (hh y (by simp [ho, Op.operands])).1
      simp only [Option.map_some, Option.some.injEq] at h1 ⊢
      rw [this, h1]; rfl
  have hnone : ∀ {z : Option Operand} (a : Act), z.map (ev f) = none → z.map a.eval = none := by
    intro z a h1; cases z <;> simp_all
  unfold sliceLoc at h
  split at h
  · rename_i s hT hx
    have hxs : ∀ {ρ : Rho} {a : Act} {Lr : List O}, (∀ y ∈ o.op.operands.toList, opd ρ Lr a f y) → a.eval x = .string s := fun hh => by
      have := (hopx hh).1; rw [hx] at this; exact this
    split at h
    · rename_i kl l kh hh hlo hhi
      obtain ⟨a, b, t, ⟨h1, h2, h3, h4, rfl⟩, hK⟩ := h
      refine ⟨_, _, hK, LocOK.plain fun ρ A w Lr g1 g2 g3 => ?_⟩
      simp only [execOp, ho, hxs g1, hoplo g1 hlo, hophi g1 hhi, Option.map_none]
      simp [Instr.sliceAt, run_underlying hT, Instr.slice, Instr.sliceBounds, run_bound w h2 h4, run_bound w h1 h3]
    · rename_i kh hh hlo hhi
      obtain ⟨b, t, ⟨h2, h4, rfl⟩, hK⟩ := h
      refine ⟨_, _, hK, LocOK.plain fun ρ A w Lr g1 g2 g3 => ?_⟩
      simp only [execOp, ho, hxs g1, hnone A hlo, hophi g1 hhi, Option.map_none]
      simp [Instr.sliceAt, run_underlying hT, Instr.slice, Instr.sliceBounds, run_bound w h2 h4]
    · rename_i kl l hlo hhi
      obtain ⟨a, t, ⟨h1, h4, rfl⟩, hK⟩ := h
      refine ⟨_, _, hK, LocOK.plain fun ρ A w Lr g1 g2 g3 => ?_⟩
      simp only [execOp, ho, hxs g1, hoplo g1 hlo, hnone A hhi, Option.map_none]
      simp [Instr.sliceAt, run_underlying hT, Instr.slice, Instr.sliceBounds, run_bound w h1 h4]
    · exact h.elim
  · rename_i e id hT hx
    split at h
    · rename_i e' sz m xs hl
      have hv : ∀ {ρ : Rho} {a : Act} {Lr : List O}, (∀ y ∈ o.op.operands.toList, opd ρ Lr a f y) → a.eval x = slv (ρ.val id) := fun hh => by
        have := (hopx hh).1; rw [hx] at this; exact this
      split at h
      · rename_i kh hh hlo hhi
        obtain ⟨ie, hie, k, ys, ⟨h1, h2, hes, rfl⟩, hK⟩ := withSize_elim h
        refine ⟨_, _, hK, ?_⟩
        intro ρ a w Lr hops hr hrd hfree hm K' Q hcont
        have hn : Lr[n]? = some .free := by simpa using hfree 0 (by simp)
        have hl' := (hrd id (by simp) (lt_of_get hl)).trans hl
        have hob : rowAt ρ w id e' sz m xs := hr.obj id _ hl'
        have hput : ∀ b v', (ρ.put n b v').val n = v' := fun b v' => by simp [Rho.put]
        have hputb : ∀ b v', (ρ.put n b v').blk n = b := fun b v' => by simp [Rho.put]
        obtain ⟨v', hrun, hown, hblk⟩ : ∃ v', (execOp a.eval o).run P w = .ok (.value v') w ∧ w.ownsRow 0 e' sz v' k (xs.take (k * sz)) ∧ v'.ownBlock = (ρ.val id).ownBlock := by
          rcases hob.1.2 with ⟨h3, h4⟩ | ⟨g, cap, cur, h3, hb0, hg, hnc, hcm, hcs, ht⟩
          · have hk0 : k = 0 := by omega
            subst hk0
            refine ⟨.slice none 0 0, ?_, ⟨by simp, .inl ⟨rfl, rfl⟩⟩, by rw [h3]⟩
            simp only [execOp, ho, hv hops, h3, slv, hnone a hlo, hophi hops hhi, Option.map_none]
            simp [Instr.sliceAt, run_underlying hT, Instr.slice, Instr.sliceBounds, run_bound w h1 (Nat.le_refl 0), sizeOf, typeInfo, hie]
          · refine ⟨.slice (some ⟨g, 0, none⟩) k cap, ?_, ⟨?_, .inr ⟨g, cap, cur, rfl, hb0, hg, by omega, hcm, hcs, ?_⟩⟩, by rw [h3]; rfl⟩
            · simp only [execOp, ho, hv hops, h3, slv, hnone a hlo, hophi hops hhi, Option.map_none]
              simp [Instr.sliceAt, run_underlying hT, Instr.slice, Instr.sliceBounds, run_bound w h1 (show k ≤ cap by omega), sizeOf, typeInfo, hie, Addr.add]
            · rw [List.length_take, hob.1.1]
              exact Nat.min_eq_left (Nat.mul_le_mul_right _ h2)
            · rw [← ht, List.take_take, Nat.min_eq_left (Nat.mul_le_mul_right _ h2)]
        obtain ⟨hrel, hag⟩ := hr.move (w' := w) hl' (by simp) hn hm (b := ρ.blk id) (v := v') (ob' := .pr e' sz k (xs.take (k * sz))) (by simp) rfl rfl rfl (Nat.le_refl _) (fun _ _ _ => rfl)
          (by
            show rowAt _ _ _ _ _ _ _
            refine ⟨by rw [hput]; exact hown, fun c hc => ?_⟩
            rw [hput, hblk] at hc
            rw [hputb]; exact hob.2 c hc)
          (fun c hc => by
            simp only [O.own, O.own1, hput, hblk] at hc
            exact ⟨(hr.own id _ c hl' hc).1, .inr hc⟩) (by simp [O.ids])
        unfold Oper.wp
        rw [hrun]
        have := hcont _ w hrel hag (fun k hk => okId_set (by simp) (okId_set (by simp) hk)) (fun k hk => by
          simp only [V.ids, List.mem_singleton] at hk; subst hk
          exact okId_set_new (by simp) (by simpa [applyW] using lt_of_get hn))
        have hsl := ownsRow_slv hown
        simpa [V.ren, hput, hsl, Oper.upon] using this
      · rename_i kl l kh hh hlo hhi
        obtain ⟨ie, hie, a, b, ⟨h1, h2, h3, h4, hes⟩, hK⟩ := withSize_elim h
        refine ⟨_, _, hK, LocOK.pure fun ρ A w Lr g1 g2 g3 => ⟨?_, fun k hk => ?_⟩⟩
        · have hob : rowAt ρ w id e' sz m xs := g2.obj id _ ((g3 id (by simp) (lt_of_get hl)).trans hl)
          rcases row_slice hob with ⟨h0, hval⟩ | ⟨cap, hval, hc⟩
          · have ha : a = 0 := by omega
            have hb : b = 0 := by omega
            subst ha; subst hb
            simp only [execOp, ho, hv g1, hval, slv, hoplo g1 hlo, hophi g1 hhi, Option.map_none, V.ren, subOf]
            simp [Instr.sliceAt, run_underlying hT, Instr.slice, Instr.sliceBounds, run_bound w h2 (Nat.le_refl 0), run_bound w h1 (Nat.le_refl 0), sizeOf, typeInfo, hie]
          · simp only [execOp, ho, hv g1, hval, slv, hoplo g1 hlo, hophi g1 hhi, Option.map_none, V.ren, subOf]
            simp [Instr.sliceAt, run_underlying hT, Instr.slice, Instr.sliceBounds, run_bound w h2 (show b ≤ cap by omega), run_bound w h1 h3, sizeOf, typeInfo, hie, hes]
            split <;> rfl
        · have := (hopx g1).2; rw [hx] at this; exact this k hk
      · rename_i kl l hlo hhi
        obtain ⟨ie, hie, a, ⟨h1, h4, hes⟩, hK⟩ := withSize_elim h
        refine ⟨_, _, hK, LocOK.pure fun ρ A w Lr g1 g2 g3 => ⟨?_, fun k hk => ?_⟩⟩
        · have hob : rowAt ρ w id e' sz m xs := g2.obj id _ ((g3 id (by simp) (lt_of_get hl)).trans hl)
          rcases row_slice hob with ⟨h0, hval⟩ | ⟨cap, hval, hc⟩
          · have ha : a = 0 := by omega
            subst ha; subst h0
            simp only [execOp, ho, hv g1, hval, slv, hoplo g1 hlo, hnone A hhi, Option.map_none, V.ren, subOf]
            simp [Instr.sliceAt, run_underlying hT, Instr.slice, Instr.sliceBounds, run_bound w h1 (Nat.le_refl 0), sizeOf, typeInfo, hie]
          · simp only [execOp, ho, hv g1, hval, slv, hoplo g1 hlo, hnone A hhi, Option.map_none, V.ren, subOf]
            simp [Instr.sliceAt, run_underlying hT, Instr.slice, Instr.sliceBounds, run_bound w h1 h4, sizeOf, typeInfo, hie, hes]
            split <;> rfl
        · have := (hopx g1).2; rw [hx] at this; exact this k hk
      · exact h.elim
    · rename_i e' sz m xs hl
      have hv : ∀ {ρ : Rho} {a : Act} {Lr : List O}, (∀ y ∈ o.op.operands.toList, opd ρ Lr a f y) → a.eval x = slv (ρ.val id) := fun hh => by
        have := (hopx hh).1; rw [hx] at this; exact this
      split at h
      · rename_i kl l hlo hhi
        obtain ⟨ie, hie, a, ⟨h1, h4, hes⟩, hK⟩ := withSize_elim h
        refine ⟨_, _, hK, LocOK.pure fun ρ A w Lr g1 g2 g3 => ⟨?_, fun k hk => ?_⟩⟩
        · have hob : rowAt ρ w id e' sz m (renL ρ xs) := g2.obj id _ ((g3 id (by simp) (lt_of_get hl)).trans hl)
          rcases row_slice hob with ⟨h0, hval⟩ | ⟨cap, hval, hc⟩
          · have ha : a = 0 := by omega
            subst ha; subst h0
            simp only [execOp, ho, hv g1, hval, slv, hoplo g1 hlo, hnone A hhi, Option.map_none, V.ren, subOf]
            simp [Instr.sliceAt, run_underlying hT, Instr.slice, Instr.sliceBounds, run_bound w h1 (Nat.le_refl 0), sizeOf, typeInfo, hie]
          · simp only [execOp, ho, hv g1, hval, slv, hoplo g1 hlo, hnone A hhi, Option.map_none, V.ren, subOf]
            simp [Instr.sliceAt, run_underlying hT, Instr.slice, Instr.sliceBounds, run_bound w h1 h4, sizeOf, typeInfo, hie, hes]
            split <;> rfl
        · have := (hopx g1).2; rw [hx] at this; exact this k hk
      · exact h.elim
    · exact h.elim
  · rename_i m e id off hT hx
    obtain ⟨ie, hie, h⟩ := withSize_elim h
    have hv : ∀ {ρ : Rho} {a : Act} {Lr : List O}, (∀ y ∈ o.op.operands.toList, opd ρ Lr a f y) → a.eval x = .pointer (some ⟨ρ.blk id, off, none⟩) := fun hh => by
      have := (hopx hh).1; rw [hx] at this; exact this
    split at h
    · rename_i kh hh hlo hhi
      obtain ⟨k, ⟨h1, h2⟩, hK⟩ := h
      refine ⟨_, _, hK, LocOK.pure fun ρ A w Lr g1 g2 g3 => ⟨?_, fun k hk => ?_⟩⟩
      · simp only [execOp, ho, hv g1, hnone A hlo, hophi g1 hhi, Option.map_none, V.ren]
        simp [Instr.sliceAt, run_underlying hT, Instr.sureAddr, Instr.sliceBounds, run_bound w h1 h2, sizeOf, typeInfo, hie, Addr.add]
      · have := (hopx g1).2; rw [hx] at this; exact this k hk
    · rename_i hlo hhi
      refine ⟨_, _, h, LocOK.pure fun ρ A w Lr g1 g2 g3 => ⟨?_, fun k hk => ?_⟩⟩
      · simp only [execOp, ho, hv g1, hnone A hlo, hnone A hhi, Option.map_none, V.ren]
        simp [Instr.sliceAt, run_underlying hT, Instr.sureAddr, Instr.sliceBounds, sizeOf, typeInfo, hie, Addr.add]
      · have := (hopx g1).2; rw [hx] at this; exact this k hk
    · exact h.elim
  · exact h.elim
end
end Go.Proofs.Ytpangmameocfmaa.VE
namespace Go.Proofs.Ytpangmameocfmaa.VE
open Go

def makeSliceLoc (P : Program) (T : TypeId) (n : Nat) (l c : V) (K : LK) : Prop :=
  match P.underlying T, l, c with
  | some (.slice e), .raw (.int _ a), .raw (.int _ b) => withElem P e fun z sz bytes =>
    ∃ (m : Nat) (cs : List Value), (a = (m : Int) ∧ b = (m : Int) ∧ bytes * m ≤ 281474976710656 ∧ m ≤ 4611686018427387904 ∧ (madeCells z.cells (m * sz)).toList = cs) ∧ K [] ⟨.sl n, [], [.pr e sz m cs]⟩
  | _, _, _ => False

def buildSliceLoc (P : Program) (T : TypeId) (n len : Nat) (parts : List (Nat × V)) (K : LK) : Prop :=
  match P.underlying T with
  | some (.slice e) => withElem P e fun z sz _ => onlyIf (Nat.ble (len * sz) 16777216 && Nat.ble 1 (len * sz)) <|
    match rawAll parts with
    | some l => fillP (fun i => some (i * sz, sz)) (madeCells z.cells (len * sz)).toList l fun cs => ∃ ds, cs = ds ∧ K [] ⟨.sl n, [], [.pr e sz len ds]⟩
    | none => fillV (fun i => some (i * sz, sz)) ((madeCells z.cells (len * sz)).toList.map V.raw) parts fun cs => ∃ ds, cs = ds ∧ K [] ⟨.sl n, [], [.cr e sz len ds]⟩
  | _ => False

/-- An empty literal, '[]T{}'. -/
def buildEmptyLoc (P : Program) (T : TypeId) (n : Nat) (K : LK) : Prop :=
  match P.underlying T with
  | some (.slice e) => withElem P e fun _ sz _ => K [] ⟨.sl n, [], [.pr e sz 0 []]⟩
  | _ => False

def lenLoc (P : Program) (T : TypeId) (L : List O) (x : V) (K : LK) : Prop :=
  match P.underlying T, x with
  | some .string, .raw (.string s) => K.v (.raw (.int .i64 (s.size : Nat)))
  | some (.slice _), .sl id => match L[id]? with
    | some (.pr _ _ m _) => K [id] ⟨.raw (.int .i64 (m : Nat)), [], []⟩
    | some (.cr _ _ m _) => K [id] ⟨.raw (.int .i64 (m : Nat)), [], []⟩
    | some (.mr _ m _) => K [id] ⟨.raw (.int .i64 (m : Nat)), [], []⟩
    | _ => False
  | some (.slice _), .asl _ _ m _ => K.v (.raw (.int .i64 (m : Nat)))
  | some (.slice _), .sub id sz lo m => match L[id]? with
    | some (.pr _ _ k _) => lo + m ≤ k ∧ K [id] ⟨.raw (.int .i64 (m : Nat)), [], []⟩
    | some (.cr _ _ k _) => lo + m ≤ k ∧ K [id] ⟨.raw (.int .i64 (m : Nat)), [], []⟩
    | _ => False
  | some (.slice _), .raw (.slice _ m _) => K.v (.raw (.int .i64 (m : Nat)))
  | some (.map _ _), .mp id => match L[id]? with
    | some (.mo es) => K [id] ⟨.raw (.int .i64 (es.length : Nat)), [], []⟩
    | _ => False
  | some (.array m _), _ => K.v (.raw (.int .i64 (m : Nat)))
  | _, _ => False

def minLoc (x y : V) (K : LK) : Prop :=
  match x, y with
  | .raw (.int k a), .raw (.int _ b) => ∃ c, (if b < a then b else a) = c ∧ K.v (.raw (.int k c))
  | _, _ => False
def maxLoc (x y : V) (K : LK) : Prop :=
  match x, y with
  | .raw (.int k a), .raw (.int _ b) => ∃ c, (if b > a then b else a) = c ∧ K.v (.raw (.int k c))
  | _, _ => False

/-- A load through a pointer that came from outside: the world at the call's begin tells. -/
def rawLoad (P : Program) (Γ : Ctx) (T : TypeId) (b off : Nat) (K : LK) : Prop :=
  ∃ cs t fr, (Γ.w0.heap[b]? = some (.cells cs t fr) ∧ ¬ Γ.B b) ∧ loadP P T cs.toList off fun v => K.v (.raw v)

/-- A call: what it gives, whatever the state. -/
def CallLoc (P : Program) (Γ : Ctx) (n : Nat) (fid : FuncId) (args : List V) (L : List O) (rd : List Nat) (e : Eff) : Prop :=
  (∀ us w, (callFunc fid us).run P w = .ok (.enter fid us) w) ∧
  ∀ (ρ : Rho) (w : World) (Lr : List O), (∀ k ∈ idsL args, okId Lr k) → Rel Γ ρ Lr w → (∀ id ∈ rd, id < L.length → Lr[id]? = L[id]?) →
    (∀ i, i < e.new.length → Lr[n + i]? = some O.free) → Γ.m ≤ n →
    Calls P fid (renL ρ args).toArray w fun en w' => ∃ ρ', en = .returned (e.v.ren ρ') ∧ Rel Γ ρ' (e.app n Lr) w' ∧ Agree ρ ρ' Lr ∧ (∀ k, okId Lr k → okId (e.app n Lr) k) ∧ ∀ k ∈ e.v.ids, okId (e.app n Lr) k

def CallK (P : Program) (Γ : Ctx) (n : Nat) (fid : FuncId) (args : List V) (L : List O) (K : LK) : Prop := ∃ rd e, CallLoc P Γ n fid args L rd e ∧ K rd e

section
variable {P : Program} {Γ : Ctx} {n : Nat} {o : Oper} {f : Sl} {L : List O}

theorem makeSliceLoc_sound {T : TypeId} {l c : Operand} (ho : o.op = .makeSlice T l c) {K : LK} (h : makeSliceLoc P T n (ev f l) (ev f c) K) : ∃ rd e, K rd e ∧ LocOK P Γ n o f L rd e := by
  unfold makeSliceLoc at h
  split at h
  · rename_i e kl a kc b hT hl hc
    obtain ⟨i, z, hi, hz, hzs, hpos, m, cs, ⟨rfl, rfl, hby, h63, rfl⟩, hK⟩ := withElem_elim h
    refine ⟨_, _, hK, LocOK.newRow (by simp) fun ρ A w Lr h1 h2 => ⟨by simp [O.ids], .cells (madeCells z.cells (m * i.size)).toList.toArray e, .slice (some ⟨w.heap.size, 0, none⟩) m m, rfl, ?_, ?_, ?_⟩⟩
    · have e1 := (h1 l (by simp [ho, Op.operands])).1; rw [hl] at e1
      have e2 := (h1 c (by simp [ho, Op.operands])).1; rw [hc] at e2
      have hb' : (i.bytes : Int) * (m : Int) ≤ 281474976710656 := by
        have h : ((i.bytes * m : Nat) : Int) ≤ 281474976710656 := by omega
        rwa [Int.natCast_mul] at h
      have := run_make (P := P) w T e i z hT hi hz kl kc m m (by omega) (Int.le_refl _) hb' (by omega)
      simp only [Int.toNat_natCast] at this
      simp only [execOp, ho, show A.eval l = .int kl m from e1, show A.eval c = .int kc m from e2, Sem.run_bind, this, Result.andThen_ok, Sem.run_pure]
    · intro ρ' hv b hb
      simp only [O.own, O.own1, hv, Value.ownBlock, Option.some.injEq] at hb
      exact hb.symm
    · intro ρ' hb hv _
      exact rowAt_new hb hv (by simp [size_madeCells]) (by simp only [maxLen]; omega)
  · exact h.elim

theorem buildSlice_run {T e : TypeId} {i : TypeInfo} {z : Value} {len : Nat} {w : World} {parts : Array (Nat × Value)} {cells : Array Value} (hT : P.underlying T = some (.slice e)) (hi : P.info? e = some i) (hz : i.zero = some z)
    (h24 : len * i.size ≤ 2 ^ 24) (hp : 0 < len * i.size) (hf : Instr.fill (fun k => some (k * i.size, i.size)) (madeCells z.cells (len * i.size)) parts.toList = some cells) :
    (Instr.buildSlice T len parts).run P w = .ok (.slice (some ⟨w.heap.size, 0, none⟩) len len) (w.alloc (.cells cells e)) := by
  have h0 : ¬ len * i.size = 0 := by omega
  have hm : (Array.range (len * i.size)).map (z.cells[· % z.cells.size]!) = madeCells z.cells (len * i.size) := rfl
  simp only [Instr.buildSlice, Sem.run_bind, run_underlying hT, Result.andThen_ok, sizeOf, typeInfo, run_program, hi, Sem.run_pure]
  rw [if_neg (by omega)]
  simp only [Sem.run_bind, Sem.run_pure, Result.andThen_ok, if_neg h0, zeroValue, typeInfo, run_program, hi, hz, hm, hf]
  simp [newRow]

theorem buildSliceLoc_sound {T : TypeId} {len : Nat} {ps : Array (Nat × Operand)} (ho : o.op = .buildSlice T len ps) {K : LK} (h : buildSliceLoc P T n len (ps.toList.map fun p => (p.1, ev f p.2)) K) :
    ∃ rd e, K rd e ∧ LocOK P Γ n o f L rd e := by
  have hparts : ∀ {ρ : Rho} {a : Act} {Lr : List O}, (∀ y ∈ o.op.operands.toList, opd ρ Lr a f y) → (ps.map fun (p : Nat × Operand) => (p.1, a.eval p.2)).toList = (ps.toList.map fun p => (p.1, ev f p.2)).map fun p => (p.1, p.2.ren ρ) := by
    intro ρ a Lr hh
    simp only [Array.toList_map, List.map_map]
    refine List.map_congr_left fun p hp => ?_
    simp only [Function.comp]
    rw [(hh p.2 (by simp only [ho, Op.operands]; exact List.mem_map.2 ⟨p, hp, rfl⟩)).1]
  unfold buildSliceLoc at h
  split at h
  · rename_i e hT
    obtain ⟨i, z, hi, hz, hzs, hpos, h⟩ := withElem_elim h
    obtain ⟨h242, h⟩ := onlyIf_elim h
    simp only [Bool.and_eq_true] at h242
    have h24 : len * i.size ≤ 2 ^ 24 := Nat.le_of_ble_eq_true h242.1
    have hpos2 : 0 < len * i.size := Nat.le_of_ble_eq_true h242.2
    have hlen : len ≤ maxLen := by
      have := Nat.le_mul_of_pos_right len hpos
      simp only [maxLen]; omega
    split at h
    · rename_i l hl
      obtain ⟨ds, ⟨ds', rfl, hK⟩, hf, hdl⟩ := fillP_elim h
      have hdl : ds.length = len * i.size := by rw [hdl]; simp [size_madeCells]
      refine ⟨_, _, hK, LocOK.newRow (by simp) fun ρ A w Lr h1 h2 => ⟨by simp [O.ids], .cells ds.toArray e, .slice (some ⟨w.heap.size, 0, none⟩) len len, rfl, ?_, ?_, ?_⟩⟩
      · have := buildSlice_run (w := w) (parts := ps.map fun (p : Nat × Operand) => (p.1, A.eval p.2)) hT hi hz h24 hpos2 (by rw [hparts h1, rawAll_ren ρ hl]; simpa using hf)
        simp [execOp, ho, this]
      · intro ρ' hv b hb
        simp only [O.own, O.own1, hv, Value.ownBlock, Option.some.injEq] at hb
        exact hb.symm
      · intro ρ' hb hv _
        exact rowAt_new hb hv hdl hlen
    · obtain ⟨ds, ⟨ds', rfl, hK⟩, hf, hids, hdl⟩ := fillV_elim h
      have hdl : ds.length = len * i.size := by rw [hdl]; simp [size_madeCells]
      refine ⟨_, _, hK, LocOK.newRow (by simp) fun ρ A w Lr h1 h2 => ⟨?_, .cells (renL ρ ds).toArray e, .slice (some ⟨w.heap.size, 0, none⟩) len len, rfl, ?_, ?_, ?_⟩⟩
      · intro k hk
        rcases hids k hk with h | ⟨p, hp, hk'⟩
        · rw [idsL_map_raw] at h; cases h
        · obtain ⟨q, hq, rfl⟩ := List.mem_map.1 hp
          exact (h1 q.2 (by simp only [ho, Op.operands]; exact List.mem_map.2 ⟨q, hq, rfl⟩)).2 k hk'
      · have hf' := hf ρ
        rw [renL_map_raw] at hf'
        have := buildSlice_run (w := w) (parts := ps.map fun (p : Nat × Operand) => (p.1, A.eval p.2)) hT hi hz h24 hpos2 (by rw [hparts h1]; simpa using hf')
        simp [execOp, ho, this]
      · intro ρ' hv b hb
        simp only [O.own, O.own1, hv, Value.ownBlock, Option.some.injEq] at hb
        exact hb.symm
      · intro ρ' hb hv hk
        show rowAt _ _ _ _ _ _ _
        rw [renL_congr ds hk]
        exact rowAt_new hb hv (by rw [renL_length]; exact hdl) hlen
  · exact h.elim

theorem buildEmptyLoc_sound {T : TypeId} {ps : Array (Nat × Operand)} (ho : o.op = .buildSlice T 0 ps) (hps : ps = #[]) {K : LK} (h : buildEmptyLoc P T n K) :
    ∃ rd e, K rd e ∧ LocOK P Γ n o f L rd e := by
  subst hps
  unfold buildEmptyLoc at h
  split at h
  · rename_i e hT
    obtain ⟨i, z, hi, hz, hzs, hpos, hK⟩ := withElem_elim h
    refine ⟨_, _, hK, LocOK.newRow (by simp) fun ρ A w Lr h1 h2 => ⟨by simp [O.ids], .cells #[] e, .slice (some ⟨w.heap.size, 0, none⟩) 0 0, rfl, ?_, ?_, ?_⟩⟩
    · have hz0 : 0 * i.size = 0 := by simp
      simp only [execOp, ho, Array.map_empty, Instr.buildSlice, Sem.run_bind, run_underlying hT, Result.andThen_ok, sizeOf, typeInfo, run_program, hi, Sem.run_pure, hz0]
      rw [if_neg (by decide)]
      simp [Instr.fill, newRow, Array.range]
    · intro ρ' hv b hb
      simp only [O.own, O.own1, hv, Value.ownBlock, Option.some.injEq] at hb
      exact hb.symm
    · intro ρ' hb hv _
      exact rowAt_new hb hv (by simp) (by simp [maxLen])
  · exact h.elim

theorem lenLoc_sound {T : TypeId} {x : Operand} {ts : Array TypeId} (ho : o.op = .call { callee := .builtin .len, args := #[x], argTypes := ts }) (hts : ts[0]? = some T) {K : LK} (h : lenLoc P T L (ev f x) K) :
    ∃ rd e, K rd e ∧ LocOK P Γ n o f L rd e := by
  have hop : ∀ {ρ : Rho} {a : Act} {Lr : List O}, (∀ y ∈ o.op.operands.toList, opd ρ Lr a f y) → a.eval x = (ev f x).ren ρ := fun hh => (hh x (by simp [ho, Op.operands, Call.operands])).1
  have run : ∀ {a : Act} {w : World} {v : Value}, (Builtin.len_ ts o.type #[a.eval x]).run P w = .ok v w → (execOp a.eval o).run P w = .ok (.value v) w := by
    intro a w v h1
    simp [execOp, ho, resolve, invoke, builtin, h1]
  unfold lenLoc at h
  split at h
  · rename_i s hT hx
    refine ⟨_, _, h, LocOK.plain fun ρ a w Lr h1 h2 h3 => run ?_⟩
    have := hop h1; rw [hx] at this
    simp [Builtin.len_, hts, run_underlying hT, show a.eval x = .string s from this, goInt]
  · rename_i e id hT hx
    have row : ∀ {m : Nat} {ob : O}, L[id]? = some ob → (∃ e sz, ob.shape = some (.inr (e, sz, m))) → LocOK P Γ n o f L [id] ⟨.raw (.int .i64 (m : Nat)), [], []⟩ := by
      intro m ob hl ⟨e', sz, hsh⟩
      refine LocOK.plain fun ρ a w Lr h1 h2 h3 => run ?_
      have hv := hop h1; rw [hx] at hv
      have hob := (objAt_inr hsh).1 (h2.obj id _ ((h3 id (by simp) (lt_of_get hl)).trans hl))
      rcases row_slice hob with ⟨h0, hval⟩ | ⟨cap, hval, _⟩
      · simp [Builtin.len_, hts, run_underlying hT, hv, V.ren, hval, slv, goInt, h0]
      · simp [Builtin.len_, hts, run_underlying hT, hv, V.ren, hval, slv, goInt]
    split at h
    · rename_i hl; exact ⟨_, _, h, row hl ⟨_, _, rfl⟩⟩
    · rename_i hl; exact ⟨_, _, h, row hl ⟨_, _, rfl⟩⟩
    · rename_i e' m xs hl
      refine ⟨_, _, h, LocOK.plain fun ρ a w Lr h1 h2 h3 => run ?_⟩
      have hv := hop h1; rw [hx] at hv
      obtain ⟨_, cap, cur, hval, _⟩ := h2.obj id _ ((h3 id (by simp) (lt_of_get hl)).trans hl)
      simp [Builtin.len_, hts, run_underlying hT, hv, V.ren, hval, slv, goInt]
    · exact h.elim
  · rename_i e id off m cap hT hx
    refine ⟨_, _, h, LocOK.plain fun ρ a w Lr h1 h2 h3 => run ?_⟩
    have := hop h1; rw [hx] at this
    simp [Builtin.len_, hts, run_underlying hT, this, V.ren, goInt]
  · rename_i e id sz lo m hT hx
    split at h
    · rename_i e' s' k xs hl
      obtain ⟨hk, h⟩ := h
      refine ⟨_, _, h, LocOK.plain fun ρ a w Lr h1 h2 h3 => run ?_⟩
      have hv := hop h1; rw [hx] at hv
      have hob : rowAt ρ w id e' s' k xs := h2.obj id _ ((h3 id (by simp) (lt_of_get hl)).trans hl)
      rcases row_slice hob with ⟨h0, hval⟩ | ⟨cap, hval, _⟩
      · have hm : m = 0 := by omega
        simp [Builtin.len_, hts, run_underlying hT, hv, V.ren, hval, subOf, goInt, hm]
      · simp [Builtin.len_, hts, run_underlying hT, hv, V.ren, hval, subOf, goInt]
    · rename_i e' s' k xs hl
      obtain ⟨hk, h⟩ := h
      refine ⟨_, _, h, LocOK.plain fun ρ a w Lr h1 h2 h3 => run ?_⟩
      have hv := hop h1; rw [hx] at hv
      have hob : rowAt ρ w id e' s' k (renL ρ xs) := h2.obj id _ ((h3 id (by simp) (lt_of_get hl)).trans hl)
      rcases row_slice hob with ⟨h0, hval⟩ | ⟨cap, hval, _⟩
      · have hm : m = 0 := by omega
        simp [Builtin.len_, hts, run_underlying hT, hv, V.ren, hval, subOf, goInt, hm]
      · simp [Builtin.len_, hts, run_underlying hT, hv, V.ren, hval, subOf, goInt]
    · exact h.elim
  · rename_i e b m cap hT hx
    refine ⟨_, _, h, LocOK.plain fun ρ a w Lr h1 h2 h3 => run ?_⟩
    have := hop h1; rw [hx] at this
    simp [Builtin.len_, hts, run_underlying hT, show a.eval x = .slice b m cap from this, goInt]
  · rename_i kt et id hT hx
    split at h
    · rename_i es hl
      refine ⟨_, _, h, LocOK.plain fun ρ a w Lr h1 h2 h3 => run ?_⟩
      have hv := hop h1; rw [hx] at hv
      obtain ⟨ents, hob, _, hes⟩ : objAt ρ w id (.mo es) := h2.obj id _ ((h3 id (by simp) (lt_of_get hl)).trans hl)
      have hlen : ents.size = es.length := by
        have := congrArg List.length hes
        simpa using this
      simp [Builtin.len_, hts, run_underlying hT, hv, V.ren, getObj, Sem.run, hob, goInt, hlen]
    · exact h.elim
  · rename_i m e _ _ hT
    refine ⟨_, _, h, LocOK.plain fun ρ a w Lr h1 h2 h3 => run ?_⟩
    simp [Builtin.len_, hts, run_underlying hT, goInt]
  · exact h.elim

theorem minLoc_sound {x y : Operand} {ts : Array TypeId} (ho : o.op = .call { callee := .builtin .min, args := #[x, y], argTypes := ts }) {K : LK} (h : minLoc (ev f x) (ev f y) K) :
    ∃ rd e, K rd e ∧ LocOK P Γ n o f L rd e := by
  unfold minLoc at h
  split at h
  · rename_i k a k' b hx hy
    obtain ⟨c, rfl, hK⟩ := h
    refine ⟨_, _, hK, LocOK.plain fun ρ A w Lr h1 h2 h3 => ?_⟩
    have e1 := (h1 x (by simp [ho, Op.operands, Call.operands])).1; rw [hx] at e1
    have e2 := (h1 y (by simp [ho, Op.operands, Call.operands])).1; rw [hy] at e2
    simp [execOp, ho, resolve, invoke, builtin, show A.eval x = .int k a from e1, show A.eval y = .int k' b from e2, Builtin.min_, Builtin.min2]
  · exact h.elim
theorem maxLoc_sound {x y : Operand} {ts : Array TypeId} (ho : o.op = .call { callee := .builtin .max, args := #[x, y], argTypes := ts }) {K : LK} (h : maxLoc (ev f x) (ev f y) K) :
    ∃ rd e, K rd e ∧ LocOK P Γ n o f L rd e := by
  unfold maxLoc at h
  split at h
  · rename_i k a k' b hx hy
    obtain ⟨c, rfl, hK⟩ := h
    refine ⟨_, _, hK, LocOK.plain fun ρ A w Lr h1 h2 h3 => ?_⟩
    have e1 := (h1 x (by simp [ho, Op.operands, Call.operands])).1; rw [hx] at e1
    have e2 := (h1 y (by simp [ho, Op.operands, Call.operands])).1; rw [hy] at e2
    simp [execOp, ho, resolve, invoke, builtin, show A.eval x = .int k a from e1, show A.eval y = .int k' b from e2, Builtin.max_, Builtin.max2]
  · exact h.elim

theorem rawLoad_sound {T : TypeId} {x : Operand} (ho : o.op = .load T x) {b off : Nat} (hx : ev f x = .raw (.pointer (some ⟨b, off, none⟩))) {K : LK} (h : rawLoad P Γ T b off K) :
    ∃ rd e, K rd e ∧ LocOK P Γ n o f L rd e := by
  obtain ⟨cs, t, fr, ⟨h1, h2⟩, h⟩ := h
  obtain ⟨v, hK, hr⟩ := loadP_run h
  refine ⟨_, _, hK, LocOK.plain fun ρ a w Lr g1 g2 g3 => ?_⟩
  have := (g1 x (by simp [ho, Op.operands])).1
  rw [hx] at this
  have hlt : b < Γ.w0.heap.size := (Array.getElem?_eq_some_iff.1 h1).1
  have hb := (g2.old b hlt h2).trans h1
  have hrun := hr w b (fun i u hu => by rw [cell_of_row w b i cs t fr hb]; simpa using hu)
  simp [execOp, ho, show a.eval x = _ from this, V.ren, Instr.loadAt, Instr.sureAddr, hrun]

theorem callK_sound {c : Call} (ho : o.op = .call c) {g : Operand} (hc : c.callee = .value g) {fid : FuncId} {first cap : List V} (hg : ev f g = .fn (.func fid) first cap) {K : LK}
    (h : CallK P Γ n fid (first ++ c.args.toList.map (ev f) ++ cap) L K) : ∃ rd e, K rd e ∧ LocOK P Γ n o f L rd e := by
  obtain ⟨rd, e, ⟨hcall, h⟩, hK⟩ := h
  refine ⟨rd, e, hK, ?_⟩
  intro ρ a w Lr hops hr hrd hfree hm K' Q hcont
  have hgm : g ∈ o.op.operands.toList := by simp [ho, Op.operands, Call.operands, hc]
  have hgv := hops g hgm
  rw [opd, hg] at hgv
  have hargs : c.args.map a.eval = (renL ρ (c.args.toList.map (ev f))).toArray := by
    apply Array.toList_inj.1
    simp only [Array.toList_map]
    have : ∀ l : List Operand, (∀ y ∈ l, a.eval y = (ev f y).ren ρ) → l.map a.eval = renL ρ (l.map (ev f)) := by
      intro l
      induction l with
      | nil => intro _; rfl
      | cons y r ih => intro hh; simp only [List.map_cons, renL]; rw [hh y (by simp), ih (fun z hz => hh z (by simp [hz]))]
    exact this _ fun y hy => (hops y (by simp only [ho, Op.operands, Call.operands, hc]; simp [hy])).1
  have hids : ∀ k ∈ idsL (first ++ c.args.toList.map (ev f) ++ cap), okId Lr k := by
    intro k hk
    rw [idsL_append, idsL_append, List.mem_append, List.mem_append] at hk
    rcases hk with (hk | hk) | hk
    · exact hgv.2 k (by simp [V.ids, hk])
    · obtain ⟨v, hv, hk⟩ := mem_idsL.1 hk
      obtain ⟨y, hy, rfl⟩ := List.mem_map.1 hv
      exact (hops y (by simp only [ho, Op.operands, Call.operands, hc]; simp [hy])).2 k hk
    · exact hgv.2 k (by simp [V.ids, hk])
  have hrun : (execOp a.eval o).run P w = .ok (.enter fid (renL ρ (first ++ c.args.toList.map (ev f) ++ cap)).toArray) w := by
    have hres : (resolve a.eval c o.type).run P w = .ok { target := .fn (.func fid) (renL ρ cap).toArray, args := (renL ρ first).toArray ++ c.args.map a.eval } w := by
      unfold resolve
      simp only [hc, hgv.1, V.ren, Deferred.ofValue]
      rfl
    simp only [execOp, ho, Sem.run_bind, hres, Result.andThen_ok, invoke]
    rw [hcall, hargs, renL_append, renL_append]
    simp
  unfold Oper.wp
  rw [hrun]
  simp only [Oper.upon]
  refine (h ρ w Lr hids hr hrd hfree hm).mono ?_
  rintro en w' ⟨ρ', rfl, hr', hag, hmono, hk⟩
  exact hcont ρ' w' hr' hag hmono hk
end
end Go.Proofs.Ytpangmameocfmaa.VE
namespace Go.Proofs.Ytpangmameocfmaa.VE
open Go

def builtinLoc (P : Program) (b : Builtin) (args : List V) (ts : Array TypeId) (n : Nat) (L : List O) (K : LK) : Prop :=
  match b, args with
  | .len, [x] => match ts[0]? with | some T => lenLoc P T L x K | none => False
  | .min, [x, y] => minLoc x y K
  | .max, [x, y] => maxLoc x y K
  | .append, [s, x] => match ts with | ⟨[T, T']⟩ => (T' = T) ∧ appendLoc P T n L s x K | _ => False
  | _, _ => False

/-- One operation: what it gives, as a proposition that reduces. -/
def opLoc (P : Program) (Γ : Ctx) (n : Nat) (o : Oper) (f : Sl) (L : List O) (K : LK) : Prop :=
  match o.op with
  | .move x => K.v (ev f x)
  | .assign x => K.v (ev f x)
  | .pick c a b => match ev f c with
    | .raw (.bool true) => K.v (ev f a)
    | .raw (.bool false) => K.v (ev f b)
    | _ => False
  | .alloc T => allocLoc P T n K
  | .box T x => boxLoc T n (ev f x) K
  | .build T ps => buildLoc P T (ps.toList.map fun p => (p.1, ev f p.2)) K
  | .buildSlice T 0 ⟨[]⟩ => buildEmptyLoc P T n K
  | .buildSlice T len ps => buildSliceLoc P T n len (ps.toList.map fun p => (p.1, ev f p.2)) K
  | .load T x => match ev f x with
    | .ptr id off => loadLoc P T L id off K
    | .raw (.pointer (some ⟨b, off, none⟩)) => rawLoad P Γ T b off K
    | _ => False
  | .store T x y => match o.dst with
    | none => match ev f x with
      | .ptr id off => storeLoc P T L id off (ev f y) K
      | _ => False
    | some _ => False
  | .nilCheck x => nilCheckLoc (ev f x) K
  | .binOp op T x y _ => match ev f x, ev f y with
    | .raw a, .raw b => binP P op T a b fun v => K.v (.raw v)
    | _, _ => ∃ rd e, LocOK P Γ n o f L rd e ∧ K rd e
  | .unOp op _ x => unLoc op (ev f x) K
  | .convert s d x => match P.underlying d with
    | some (.slice _) => ∃ rd e, LocOK P Γ n o f L rd e ∧ K rd e
    | _ => convLoc P s d L (ev f x) K
  | .makeFunc fn a b => K.v (.fn fn (a.toList.map (ev f)) (b.toList.map (ev f)))
  | .makeSlice T l c => makeSliceLoc P T n (ev f l) (ev f c) K
  | .slice T x lo hi none => sliceLoc P T n L (ev f x) (lo.map (ev f)) (hi.map (ev f)) K
  | .fieldAddr S x i => fieldAddrLoc P S i (ev f x) K
  | .field S x i => fieldLoc P S i (ev f x) K
  | .indexAddr T x i => indexAddrLoc P T L (ev f x) (ev f i) K
  | .index T x i => indexLoc P T (ev f x) (ev f i) K
  | .extract x i => extractLoc (ev f x) i K
  | .call c => match c.callee with
    | .value g => match ev f g with
      | .fn (.func fid) first cap => CallK P Γ n fid (first ++ c.args.toList.map (ev f) ++ cap) L K
      | _ => ∃ rd e, LocOK P Γ n o f L rd e ∧ K rd e
    | .builtin b => builtinLoc P b (c.args.toList.map (ev f)) c.argTypes n L K
    | .invoke _ _ => False
  | _ => ∃ rd e, LocOK P Γ n o f L rd e ∧ K rd e

section
variable {P : Program} {Γ : Ctx} {n : Nat} {o : Oper} {f : Sl} {L : List O}

theorem move_sound {x : Operand} (ho : o.op = .move x ∨ o.op = .assign x) : LocOK P Γ n o f L [] ⟨ev f x, [], []⟩ := by
  refine LocOK.pure fun ρ a w Lr h1 h2 h3 => ?_
  have := h1 x (by rcases ho with ho | ho <;> simp [ho, Op.operands])
  refine ⟨?_, this.2⟩
  rcases ho with ho | ho <;> simp [execOp, ho, this.1]

theorem renL_map_ev {ρ : Rho} {a : Act} : ∀ {l : List Operand}, (∀ y ∈ l, a.eval y = (ev f y).ren ρ) → l.map a.eval = renL ρ (l.map (ev f))
  | [], _ => rfl
  | y :: r, hh => by simp only [List.map_cons, renL]; rw [hh y (by simp), renL_map_ev (fun z hz => hh z (by simp [hz]))]

theorem opLoc_sound {K : LK} (h : opLoc P Γ n o f L K) : ∃ rd e, K rd e ∧ LocOK P Γ n o f L rd e := by
  unfold opLoc at h
  split at h
  · rename_i x ho; exact ⟨_, _, h, move_sound (.inl ho)⟩
  · rename_i x ho; exact ⟨_, _, h, move_sound (.inr ho)⟩
  · rename_i c a b ho
    split at h
    · rename_i hc
      refine ⟨_, _, h, LocOK.pure fun ρ A w Lr h1 h2 h3 => ?_⟩
      have e1 := (h1 c (by simp [ho, Op.operands])).1; rw [hc] at e1
      have e2 := h1 a (by simp [ho, Op.operands])
      exact ⟨by simp [execOp, ho, show A.eval c = .bool true from e1, asBool, e2.1], e2.2⟩
    · rename_i hc
      refine ⟨_, _, h, LocOK.pure fun ρ A w Lr h1 h2 h3 => ?_⟩
      have e1 := (h1 c (by simp [ho, Op.operands])).1; rw [hc] at e1
      have e2 := h1 b (by simp [ho, Op.operands])
      exact ⟨by simp [execOp, ho, show A.eval c = .bool false from e1, asBool, e2.1], e2.2⟩
    · exact h.elim
  · rename_i ho; exact allocLoc_sound ho h
  · rename_i ho; exact boxLoc_sound ho h
  · rename_i ho; exact buildLoc_sound ho h
  · rename_i ho; exact buildEmptyLoc_sound ho rfl h
  · rename_i ho; exact buildSliceLoc_sound ho h
  · rename_i ho
    split at h
    · rename_i hx; exact loadLoc_sound ho hx h
    · rename_i hx; exact rawLoad_sound ho hx h
    · exact h.elim
  · rename_i ho
    split at h
    · rename_i hd
      split at h
      · rename_i hx; exact storeLoc_sound ho hd hx h
      · exact h.elim
    · exact h.elim
  · rename_i ho; exact nilCheckLoc_sound ho h
  · rename_i op T x y yt ho
    split at h
    · rename_i a b hx hy
      obtain ⟨v, hK, hr⟩ := binP_run h
      refine ⟨_, _, hK, LocOK.plain fun ρ A w Lr h1 h2 h3 => ?_⟩
      have e1 := (h1 x (by simp [ho, Op.operands])).1; rw [hx] at e1
      have e2 := (h1 y (by simp [ho, Op.operands])).1; rw [hy] at e2
      have hr' := hr x y w
      simp only [Sem.run_bind] at hr'
      simp only [execOp, ho, show A.eval x = a from e1, show A.eval y = b from e2, Sem.run_bind, hr', Result.andThen_ok, Sem.run_pure]
    · obtain ⟨rd, e, h1, h2⟩ := h; exact ⟨rd, e, h2, h1⟩
  · rename_i ho; exact unLoc_sound ho h
  · rename_i ho
    split at h
    · obtain ⟨rd, e, h1, h2⟩ := h; exact ⟨rd, e, h2, h1⟩
    · exact convLoc_sound ho h
  · rename_i fn a b ho
    refine ⟨_, _, h, LocOK.pure fun ρ A w Lr h1 h2 h3 => ⟨?_, fun k hk => ?_⟩⟩
    · have ha : a.map A.eval = (renL ρ (a.toList.map (ev f))).toArray := Array.toList_inj.1 (by
        rw [Array.toList_map]; exact renL_map_ev fun y hy => (h1 y (by simp [ho, Op.operands, hy])).1)
      have hb : b.map A.eval = (renL ρ (b.toList.map (ev f))).toArray := Array.toList_inj.1 (by
        rw [Array.toList_map]; exact renL_map_ev fun y hy => (h1 y (by simp [ho, Op.operands, hy])).1)
      simp only [execOp, ho, Instr.makeFunc, ha, hb, V.ren, Sem.run_bind, Sem.run_pure, Result.andThen_ok]
    · simp only [V.ids, List.mem_append] at hk
      rcases hk with hk | hk
      · obtain ⟨v, hv, hk⟩ := mem_idsL.1 hk
        obtain ⟨y, hy, rfl⟩ := List.mem_map.1 hv
        exact (h1 y (by simp only [ho, Op.operands]; simp [Array.mem_toList_iff.1 hy])).2 k hk
      · obtain ⟨v, hv, hk⟩ := mem_idsL.1 hk
        obtain ⟨y, hy, rfl⟩ := List.mem_map.1 hv
        exact (h1 y (by simp only [ho, Op.operands]; simp [Array.mem_toList_iff.1 hy])).2 k hk
  · rename_i ho; exact makeSliceLoc_sound ho h
  · rename_i ho; exact sliceLoc_sound ho h
  · rename_i ho; exact fieldAddrLoc_sound ho h
  · rename_i ho; exact fieldLoc_sound ho h
  · rename_i ho; exact indexAddrLoc_sound ho h
  · rename_i ho; exact indexLoc_sound ho h
  · rename_i ho; exact extractLoc_sound ho h
  · rename_i c ho
    split at h
    · rename_i g hc
      split at h
      · rename_i fid first cap hg; exact callK_sound ho hc hg h
      · obtain ⟨rd, e, h1, h2⟩ := h; exact ⟨rd, e, h2, h1⟩
    · rename_i b hc
      obtain ⟨callee, args, ts⟩ := c
      obtain ⟨args⟩ := args
      simp only at hc h
      subst hc
      unfold builtinLoc at h
      split at h
      · rename_i x hx
        split at h
        · rename_i T hT
          match args, hx with
          | [y], hx => injection hx with hx; subst hx; exact lenLoc_sound ho hT h
        · exact h.elim
      · rename_i x y hx
        match args, hx with
        | [u, v], hx => injection hx with hx hy; injection hy with hy; subst hx; subst hy; exact minLoc_sound ho h
      · rename_i x y hx
        match args, hx with
        | [u, v], hx => injection hx with hx hy; injection hy with hy; subst hx; subst hy; exact maxLoc_sound ho h
      · rename_i s x hx
        split at h
        · rename_i T T'
          match args, hx with
          | [u, v], hx => injection hx with hx hy; injection hy with hy; subst hx; subst hy; exact appendLoc_sound ho h.1 h.2
        · exact h.elim
      · exact h.elim
    · exact h.elim
  · obtain ⟨rd, e, h1, h2⟩ := h; exact ⟨rd, e, h2, h1⟩
end
end Go.Proofs.Ytpangmameocfmaa.VE
namespace Go.Proofs.Ytpangmameocfmaa.VE
open Go

def forceL : List O → (List O → Prop) → Prop
  | [], K => K []
  | o :: r, K => forceL r fun r' => K (o :: r')
theorem forceL_elim : ∀ {L : List O} {K : List O → Prop}, forceL L K → K L
  | [], _, h => h
  | _ :: r, _, h => forceL_elim (L := r) h

def stepL (L : List O) (e : Eff) (K : List O → Prop) : Prop :=
  match e.wr, e.new with
  | [], [] => K L
  | _, _ => forceL (e.app L.length (L ++ List.replicate e.new.length .free)) K

theorem stepL_elim {L : List O} {e : Eff} {K : List O → Prop} (h : stepL L e K) : K (e.app L.length (L ++ List.replicate e.new.length .free)) := by
  unfold stepL at h
  split at h
  · rename_i h1 h2; simpa [Eff.app, h1, h2, applyW, setAt] using h
  · exact forceL_elim h

/-- A value, forced to its head. -/
def forceV (v : V) (K : V → Prop) : Prop :=
  match v with
  | .raw a => K (.raw a)
  | .ptr i o => K (.ptr i o)
  | .sl i => K (.sl i)
  | .asl i o l c => K (.asl i o l c)
  | .mp i => K (.mp i)
  | .sub i s l m => K (.sub i s l m)
  | .pl i j => K (.pl i j)
  | .fn f a b => K (.fn f a b)
  | .agg cs => K (.agg cs)
  | .tup vs => K (.tup vs)
theorem forceV_elim {v : V} {K : V → Prop} (h : forceV v K) : K v := by cases v <;> exact h

def putK (nt : Nat) (f : Sl) (dst : Option Nat) (v : V) (K : Sl → Prop) : Prop :=
  match dst with
  | none => K f
  | some d => match Nat.blt d nt with
    | true => forceV v fun v => K (upd f d v)
    | false => K f

def wantK (ops : List Oper) (f : Sl) (g : Option (Nat × Bool)) (K1 K2 : Prop) : Prop :=
  match g with
  | none => K1
  | some (j, b) => match ops[j]? with
    | some o => match o.dst with
      | some d => match f d with
        | .raw (.bool c) => match c, b with
          | true, true => K1
          | false, false => K1
          | true, false => K2
          | false, true => K2
        | .raw (.tuple _) => K2
        | _ => False
      | none => False
    | none => False

noncomputable def opsEV (P : Program) (Γ : Ctx) (nt : Nat) (all ops : List Oper) (K : Sl → List O → Prop) : Sl → List O → Prop :=
  List.rec (motive := fun _ => Sl → List O → Prop) (fun f L => K f L)
    (fun o _ ih f L => wantK all f o.guard
      (opLoc P Γ L.length o f L fun _ e => stepL L e fun L' => putK nt f o.dst e.v fun f' => ih f' L')
      (putK nt f o.dst (.raw undef) fun f' => ih f' L)) ops
theorem opsEV_nil {P : Program} {Γ : Ctx} {nt : Nat} {all : List Oper} {K : Sl → List O → Prop} {f : Sl} {L : List O} : opsEV P Γ nt all [] K f L = K f L := rfl
theorem opsEV_cons {P : Program} {Γ : Ctx} {nt : Nat} {all : List Oper} {o : Oper} {rest : List Oper} {K : Sl → List O → Prop} {f : Sl} {L : List O} : opsEV P Γ nt all (o :: rest) K f L =
    wantK all f o.guard
      (opLoc P Γ L.length o f L fun _ e => stepL L e fun L' => putK nt f o.dst e.v fun f' => opsEV P Γ nt all rest K f' L')
      (putK nt f o.dst (.raw undef) fun f' => opsEV P Γ nt all rest K f' L) := rfl

structure RelA (ρ : Rho) (nt : Nat) (f : Sl) (L : List O) (a : Act) : Prop where
  defers : a.defers = []
  size : a.tmps.size = nt
  slot : ∀ t, a.tmps.getD t undef = (f t).ren ρ
  ok : ∀ t, ∀ k ∈ (f t).ids, okId L k

def liftQ (Γ : Ctx) (nt : Nat) (Q : Exit → Sl → List O → Prop) (e : Exit) (a : Act) (w : World) : Prop :=
  ∃ ρ f L, Q e f L ∧ RelA ρ nt f L a ∧ Rel Γ ρ L w

def codeOK (P : Program) (Γ : Ctx) (nt : Nat) (c : Code) (Q : Exit → Sl → List O → Prop) (f : Sl) (L : List O) : Prop :=
  ∀ ρ a w, RelA ρ nt f L a → Rel Γ ρ L w → c.wp P (liftQ Γ nt Q) a w

theorem RelA.opd {ρ : Rho} {nt : Nat} {f : Sl} {L : List O} {a : Act} (h : RelA ρ nt f L a) (x : Operand) : opd ρ L a f x := by
  cases x with
  | tmp t => exact ⟨h.slot t, h.ok t⟩
  | const v => exact ⟨rfl, fun k hk => by simp [ev, V.ids] at hk⟩
  | global g => exact ⟨rfl, fun k hk => by simp [ev, V.ids] at hk⟩
  | func g => exact ⟨rfl, fun k hk => by simp [ev, V.ids, idsL] at hk⟩

theorem okId_append {L L' : List O} {k : Nat} (h : okId L k) : okId (L ++ L') k := by
  obtain ⟨o, h1, h2⟩ := h
  exact ⟨o, by rw [List.getElem?_append_left (lt_of_get h1)]; exact h1, h2⟩

/-- Room for what is to come. -/
theorem Rel.extend {Γ : Ctx} {ρ : Rho} {L : List O} {w : World} (h : Rel Γ ρ L w) (k : Nat) : Rel Γ ρ (L ++ List.replicate k .free) w := by
  have key : ∀ {id : Nat} {o : O}, (L ++ List.replicate k O.free)[id]? = some o → L[id]? = some o ∨ o = .free := by
    intro id o ho
    by_cases hlt : id < L.length
    · rw [List.getElem?_append_left hlt] at ho; exact .inl ho
    · rw [List.getElem?_append_right (by omega), List.getElem?_replicate] at ho
      split at ho
      · injection ho with ho; exact .inr ho.symm
      · cases ho
  refine ⟨h.os, h.tape, h.output, h.size, h.old, ?_, ?_, ?_, ?_, h.fix, by have := h.mle; simp; omega⟩
  · intro id o ho
    rcases key ho with h1 | rfl
    · exact h.obj id o h1
    · trivial
  · intro id o b ho hb
    rcases key ho with h1 | rfl
    · exact h.own id o b h1 hb
    · simp [O.own, O.own1] at hb
  · intro i j oi oj b hi hj hbi hbj
    rcases key hi with h1 | rfl
    · rcases key hj with h2 | rfl
      · exact h.disj i j oi oj b h1 h2 hbi hbj
      · simp [O.own, O.own1] at hbj
    · simp [O.own, O.own1] at hbi
  · intro id o ho k' hk'
    rcases key ho with h1 | rfl
    · exact okId_append (h.oks id o h1 k' hk')
    · simp [O.ids] at hk'

theorem beq_ne {t d : Nat} (h : ¬ t = d) : Nat.beq t d = false := by
  cases hb : Nat.beq t d with
  | false => rfl
  | true => exact absurd (Nat.eq_of_beq_eq_true hb) h

theorem RelA.put {ρ ρ' : Rho} {nt : Nat} {f : Sl} {L L' : List O} {a : Act} (h : RelA ρ nt f L a) {dst : Option Nat} {v : V} (hag : ∀ k, okId L k → ρ'.blk k = ρ.blk k ∧ ρ'.val k = ρ.val k)
    (hmono : ∀ k, okId L k → okId L' k) (hv : ∀ k ∈ v.ids, okId L' k) {K : Sl → Prop} (hK : putK nt f dst v K) : ∃ f', K f' ∧ RelA ρ' nt f' L' (a.put dst (v.ren ρ')) := by
  have hslot : ∀ t, a.tmps.getD t undef = (f t).ren ρ' := fun t => by
    rw [h.slot t]; exact (V.ren_congr (f t) fun k hk => hag k (h.ok t k hk)).symm
  unfold putK at hK
  split at hK
  · exact ⟨f, hK, h.defers, h.size, hslot, fun t k hk => hmono k (h.ok t k hk)⟩
  · rename_i d
    split at hK
    · rename_i hlt
      have hlt' : d < nt := Nat.le_of_ble_eq_true hlt
      refine ⟨_, forceV_elim hK, h.defers, by simp [Act.put, h.size], fun t => ?_, fun t k hk => ?_⟩
      · by_cases htd : t = d
        · subst htd
          have hs : t < a.tmps.size := by rw [h.size]; exact hlt'
          simp [Act.put, upd, Array.getD_eq_getD_getElem?, hs]
        · have hne : Nat.beq t d = false := beq_ne htd
          simp only [Act.put, upd, hne, cond_false]
          rw [← hslot t]
          simp only [Array.getD_eq_getD_getElem?, Array.getElem?_setIfInBounds]
          rw [if_neg (fun e => htd e.symm)]
      · by_cases htd : t = d
        · subst htd
          simp only [upd, Nat.beq_refl, cond_true] at hk
          exact hv k hk
        · have hne : Nat.beq t d = false := beq_ne htd
          simp only [upd, hne, cond_false] at hk
          exact hmono k (h.ok t k hk)
    · rename_i hge
      have hge' : ¬ d < nt := fun h => by
        have h2 : Nat.blt d nt = true := Nat.ble_eq_true_of_le h
        rw [hge] at h2; cases h2
      refine ⟨f, hK, h.defers, by simp [Act.put, h.size], fun t => ?_, fun t k hk => hmono k (h.ok t k hk)⟩
      have : a.tmps.setIfInBounds d (v.ren ρ') = a.tmps := by
        apply Array.setIfInBounds_eq_of_size_le
        rw [h.size]; omega
      simp only [Act.put, this]
      exact hslot t

theorem wantK_elim {ops : List Oper} {f : Sl} {o : Oper} {K1 K2 : Prop} (h : wantK ops f o.guard K1 K2) {ρ : Rho} {nt : Nat} {L : List O} {a : Act} (ha : RelA ρ nt f L a) :
    (Region.wanted o (yielded ops.toArray a.tmps) = true ∧ K1) ∨ (Region.wanted o (yielded ops.toArray a.tmps) = false ∧ K2) := by
  unfold wantK at h
  split at h
  · rename_i hg; exact .inl ⟨by simp [Region.wanted, hg], h⟩
  · rename_i j b hg
    split at h
    · rename_i o' ho'
      split at h
      · rename_i d hd
        have hy : ∀ {v : Value}, f d = .raw v → yielded ops.toArray a.tmps j = (match v with | .bool b => some b | _ => none) := by
          intro v hv
          have hs := ha.slot d
          rw [hv] at hs
          simp only [V.ren] at hs
          unfold yielded
          simp only [List.getElem?_toArray, ho', Option.bind_some, hd]
          by_cases hlt : d < a.tmps.size
          · rw [Array.getD_eq_getD_getElem?] at hs
            simp only [Array.getElem?_eq_getElem hlt, Option.getD_some] at hs
            simp only [Array.getElem?_eq_getElem hlt, hs]
            cases v <;> rfl
          · rw [Array.getD_eq_getD_getElem?] at hs
            rw [Array.getElem?_eq_none (Nat.le_of_not_lt hlt)] at hs
            rw [Array.getElem?_eq_none (Nat.le_of_not_lt hlt)]
            rw [← hs]; rfl
        split at h
        · rename_i c hf
          have := hy hf
          split at h <;> simp [Region.wanted, hg, this, h]
        · rename_i hf
          have := hy hf
          exact .inr ⟨by simp [Region.wanted, hg, this], h⟩
        · exact h.elim
      · exact h.elim
    · exact h.elim

theorem opsEV_sound {P : Program} {Γ : Ctx} {nt : Nat} (all : List Oper) {K : Sl → List O → Prop} {Q : Exit → Act → World → Prop}
    (hQ : ∀ ρ f L a w, K f L → RelA ρ nt f L a → Rel Γ ρ L w → Q .normal a w) : ∀ (rest : List Oper) (f : Sl) (L : List O), opsEV P Γ nt all rest K f L →
    ∀ ρ a w, RelA ρ nt f L a → Rel Γ ρ L w → wpList P all.toArray Q rest a w
  | [], f, L, h, ρ, a, w, ha, hr => hQ ρ f L a w h ha hr
  | o :: rest, f, L, h, ρ, a, w, ha, hr => by
    rw [opsEV_cons] at h
    unfold wpList
    rcases wantK_elim h ha with ⟨hw, h⟩ | ⟨hw, h⟩
    · rw [if_pos hw]
      refine .inl ?_
      obtain ⟨rd, e, hK, hloc⟩ := opLoc_sound h
      have hK := stepL_elim hK
      have hrx := hr.extend e.new.length
      refine hloc ρ a w _ (fun x _ => ?_) hrx (fun id hid hlt => ?_) (fun i hi => ?_) hr.mle _ _ fun ρ' w' hr' hag hmono hids => ?_
      · have := ha.opd x
        exact ⟨this.1, fun k hk => okId_append (this.2 k hk)⟩
      · rw [List.getElem?_append_left hlt]
      · rw [List.getElem?_append_right (by omega)]
        simp [hi]
      · obtain ⟨f', hK, ha'⟩ := ha.put (ρ' := ρ') (L' := e.app L.length (L ++ List.replicate e.new.length .free)) (v := e.v) (fun k hk => hag k (okId_append hk)) (fun k hk => hmono k (okId_append hk)) hids hK
        exact opsEV_sound all hQ rest f' _ hK ρ' _ w' ha' hr'
    · rw [hw]
      simp only [Bool.false_eq_true, if_false]
      obtain ⟨f', hK, ha'⟩ := ha.put (ρ' := ρ) (L' := L) (v := .raw undef) (fun _ _ => ⟨rfl, rfl⟩) (fun _ h => h) (fun k hk => by simp [V.ids] at hk) h
      exact opsEV_sound all hQ rest f' L hK ρ _ w ha' hr
end Go.Proofs.Ytpangmameocfmaa.VE
namespace Go.Proofs.Ytpangmameocfmaa.VE
open Go

/-- The drawn regions stop the evaluator: 'draw_rule' goes on. -/
def drawOK (P : Program) (Γ : Ctx) (nt : Nat) (id : Nat) (ops : Array Oper) (Q : Exit → Sl → List O → Prop) (f : Sl) (L : List O) : Prop := codeOK P Γ nt (.region id ops true) Q f L

/-- The other regions, too: 'region_rule' goes on. -/
def regOK (P : Program) (Γ : Ctx) (nt : Nat) (id : Nat) (ops : Array Oper) (Q : Exit → Sl → List O → Prop) (f : Sl) (L : List O) : Prop := codeOK P Γ nt (.region id ops false) Q f L

def seqQ (ih : (Exit → Sl → List O → Prop) → Sl → List O → Prop) (Q : Exit → Sl → List O → Prop) : Exit → Sl → List O → Prop
  | .normal, f, L => ih Q f L
  | e, f, L => Q e f L
def blockQ (id : Nat) (Q : Exit → Sl → List O → Prop) : Exit → Sl → List O → Prop
  | .exit i, f, L => match Nat.beq i id with | true => Q .normal f L | false => Q (.exit i) f L
  | e, f, L => Q e f L
def condQ (v : V) (A B : Prop) : Prop :=
  match v with
  | .raw (.bool true) => A
  | .raw (.bool false) => B
  | _ => False
noncomputable def EV (P : Program) (Γ : Ctx) (nt : Nat) (c : Code) : (Exit → Sl → List O → Prop) → Sl → List O → Prop :=
  Code.rec (motive := fun _ => (Exit → Sl → List O → Prop) → Sl → List O → Prop)
    (fun Q f L => Q .normal f L)
    (fun id ops draw Q f L => match draw with | false => regOK P Γ nt id ops Q f L | true => drawOK P Γ nt id ops Q f L)
    (fun _ _ ihx ihy Q f L => ihx (seqQ ihy Q) f L)
    (fun c _ _ ihx ihy Q f L => condQ (ev f c) (ihx Q f L) (ihy Q f L))
    (fun id _ ih Q f L => ih (blockQ id Q) f L)
    (fun body _ Q f L => codeOK P Γ nt (.loop body) Q f L)
    (fun g params assign body _ _ Q f L => codeOK P Γ nt (.rangeFunc g params assign body) Q f L)
    (fun id Q f L => Q (.exit id) f L)
    (fun body _ Q f L => codeOK P Γ nt (.scope body) Q f L)
    (fun l Q f L => codeOK P Γ nt (.label l) Q f L)
    (fun l Q f L => codeOK P Γ nt (.goto l) Q f L)
    (fun Q f L => Q .ret f L)
    (fun why Q f L => codeOK P Γ nt (.refuse why) Q f L) c

section
variable {P : Program} {Γ : Ctx} {nt : Nat}

theorem liftQ_mono {Q Q' : Exit → Sl → List O → Prop} (h : ∀ e f L, Q e f L → Q' e f L) {e : Exit} {a : Act} {w : World} (hq : liftQ Γ nt Q e a w) : liftQ Γ nt Q' e a w := by
  obtain ⟨ρ, f, L, hQ, ha, hr⟩ := hq
  exact ⟨ρ, f, L, h e f L hQ, ha, hr⟩

theorem EV_sound : ∀ (c : Code) (Q : Exit → Sl → List O → Prop) (f : Sl) (L : List O), EV P Γ nt c Q f L → codeOK P Γ nt c Q f L := by
  intro c
  induction c with
  | skip => exact fun Q f L h ρ a w ha hr => wp_skip ⟨ρ, f, L, h, ha, hr⟩
  | region id ops draw =>
    intro Q f L h
    cases draw with
    | false => exact h
    | true => exact h
  | seq x y ihx ihy =>
    intro Q f L h ρ a w ha hr
    refine wp_seq (wp_mono (ihx _ f L h ρ a w ha hr) fun e a' w' hq => ?_)
    obtain ⟨ρ', f', L', hQ, ha', hr'⟩ := hq
    cases e <;> first
      | exact ihy Q f' L' hQ ρ' a' w' ha' hr'
      | exact ⟨ρ', f', L', hQ, ha', hr'⟩
  | cond c x y ihx ihy =>
    intro Q f L h ρ a w ha hr
    have hc := (ha.opd c).1
    replace h : condQ (ev f c) (EV P Γ nt x Q f L) (EV P Γ nt y Q f L) := h
    unfold condQ at h
    split at h
    · rename_i he
      rw [he] at hc
      exact wp_cond_true hc (ihx Q f L h ρ a w ha hr)
    · rename_i he
      rw [he] at hc
      exact wp_cond_false hc (ihy Q f L h ρ a w ha hr)
    · exact h.elim
  | block id c ih =>
    intro Q f L h ρ a w ha hr
    refine wp_block (wp_mono (ih _ f L h ρ a w ha hr) fun e a' w' hq => ?_)
    obtain ⟨ρ', f', L', hQ, ha', hr'⟩ := hq
    cases e <;> try exact ⟨ρ', f', L', hQ, ha', hr'⟩
    rename_i i
    simp only [blockQ] at hQ
    show if i = id then _ else _
    split at hQ
    · rename_i hb
      rw [if_pos (Nat.eq_of_beq_eq_true hb)]
      exact ⟨ρ', f', L', hQ, ha', hr'⟩
    · rename_i hb
      rw [if_neg (fun e => by rw [e, Nat.beq_refl] at hb; cases hb)]
      exact ⟨ρ', f', L', hQ, ha', hr'⟩
  | exit id => exact fun Q f L h ρ a w ha hr => wp_exit ⟨ρ, f, L, h, ha, hr⟩
  | ret => exact fun Q f L h ρ a w ha hr => wp_ret ⟨ρ, f, L, h, ha, hr⟩
  | loop body _ => exact fun Q f L h => h
  | rangeFunc f' ps as body _ _ => exact fun Q f L h => h
  | scope c _ => exact fun Q f L h => h
  | label l => exact fun Q f L h => h
  | goto l => exact fun Q f L h => h
  | refuse why => exact fun Q f L h => h

/-- A region, what goes on hidden until it has ended. -/
theorem region_rule {id : Nat} {ops : Array Oper} {Q : Exit → Sl → List O → Prop} {f : Sl} {L : List O}
    (h : ∀ K : Sl → List O → Prop, (∀ f' L', Q .normal f' L' → K f' L') → opsEV P Γ nt ops.toList ops.toList K f L) : regOK P Γ nt id ops Q f L := by
  intro ρ a w ha hr
  refine wp_region_list ?_
  have := opsEV_sound (P := P) (Γ := Γ) (nt := nt) ops.toList (K := Q .normal) (Q := liftQ Γ nt Q) (fun ρ f L a w hK ha hr => ⟨ρ, f, L, hK, ha, hr⟩) ops.toList f L (h _ fun _ _ h => h) ρ a w ha hr
  simpa using this
end

/-! the ids anew: at a loop's head, at a call's end -/

def slS (g : Sl) : List (Nat × V) → Sl
  | [] => g
  | (t, v) :: r => upd (slS g r) t v

def agreeP (σ : Nat → Nat) (f : Sl) : List (Nat × V) → Prop
  | [] => True
  | (t, v) :: r => f t = v.mapIds σ ∧ agreeP σ f r

def fits (σ : Nat → Nat) (L : List O) : List O → Nat → Prop
  | [], _ => True
  | o :: r, i => L[σ i]? = some (o.mapIds σ) ∧ fits σ L r (i + 1)

/-- Are all these ids there, and none of them free? -/
def okIds (H : List O) : List Nat → Bool
  | [] => true
  | k :: r => (match H[k]? with | some .free => false | some _ => true | none => false) && okIds H r

theorem okIds_elim {H : List O} : ∀ {l : List Nat}, okIds H l = true → ∀ k ∈ l, okId H k
  | [], _, k, hk => by cases hk
  | j :: r, h, k, hk => by
    simp only [okIds, Bool.and_eq_true] at h
    rcases List.mem_cons.1 hk with rfl | hk
    · obtain ⟨h1, _⟩ := h
      split at h1
      · cases h1
      · rename_i o hf ho; exact ⟨o, ho, hf⟩
      · cases h1
    · exact okIds_elim h.2 k hk

def idsO : List O → List Nat
  | [] => []
  | o :: r => o.ids ++ idsO r
def idsS : List (Nat × V) → List Nat
  | [] => []
  | (_, v) :: r => v.ids ++ idsS r

theorem mem_idsO {k : Nat} : ∀ {l : List O} {o : O}, o ∈ l → k ∈ o.ids → k ∈ idsO l
  | x :: r, o, h, hk => by
    rcases List.mem_cons.1 h with rfl | h
    · simp [idsO, hk]
    · simp [idsO, mem_idsO h hk]

theorem fits_get {σ : Nat → Nat} {L : List O} : ∀ {H : List O} {i : Nat}, fits σ L H i → ∀ j o, H[j]? = some o → L[σ (i + j)]? = some (o.mapIds σ)
  | [], _, _, j, o, h => by simp at h
  | x :: r, i, h, 0, o, ho => by simp at ho; subst ho; exact h.1
  | x :: r, i, h, j + 1, o, ho => by
    have := fits_get h.2 j o (by simpa using ho)
    rwa [show i + 1 + j = i + (j + 1) from by omega] at this

def atL (π : List Nat) (i : Nat) : Nat := match π[i]? with | some k => k | none => 0

theorem mapP_row {σ : Nat → Nat} {rs : List PR} {j : Nat} {xs : List Value} : (rs.map (PR.mapIds σ))[j]? = some (.row xs) ↔ rs[j]? = some (.row xs) := by
  rw [List.getElem?_map]
  cases rs[j]? with
  | none => simp
  | some p => cases p <;> simp [PR.mapIds]
theorem mapP_lent {σ : Nat → Nat} {rs : List PR} {j k : Nat} : (rs.map (PR.mapIds σ))[j]? = some (.lent k) ↔ ∃ r, rs[j]? = some (.lent r) ∧ σ r = k := by
  rw [List.getElem?_map]
  cases rs[j]? with
  | none => simp
  | some p => cases p <;> simp [PR.mapIds]
theorem O.mapIds_own {ρ : Rho} {σ : Nat → Nat} {i : Nat} {o : O} : (o.mapIds σ).own ρ (σ i) = o.own ⟨fun i => ρ.blk (σ i), fun i => ρ.val (σ i)⟩ i := by
  cases o with
  | po e rs => funext b; simp only [O.mapIds, O.own, mapP_row]
  | _ => rfl
theorem objAt_mapIds {ρ : Rho} {w : World} {σ : Nat → Nat} {i : Nat} {o : O} : objAt ρ w (σ i) (o.mapIds σ) ↔ objAt ⟨fun i => ρ.blk (σ i), fun i => ρ.val (σ i)⟩ w i o := by
  cases o with
  | cc cs t => simp only [O.mapIds, objAt, renL_mapIds]
  | cr e sz n xs => simp only [O.mapIds, objAt, rowAt, renL_mapIds]
  | mo es =>
    simp only [O.mapIds, objAt, List.map_map]
    have : (fun p : Value × V => (p.1, p.2.ren ρ)) ∘ (fun p : Value × V => (p.1, p.2.mapIds σ)) = fun p => (p.1, p.2.ren ⟨fun i => ρ.blk (σ i), fun i => ρ.val (σ i)⟩) := by
      funext p; simp [Function.comp, V.ren_mapIds]
    rw [this]
  | po e rs =>
    simp only [O.mapIds, objAt, List.length_map, mapP_row, mapP_lent]
    refine exists_congr fun vs => and_congr_right fun _ => and_congr_right fun _ => and_congr_right fun _ => and_congr_left fun _ => ?_
    exact ⟨fun h j r hj => h j _ ⟨r, hj, rfl⟩, fun h j k ⟨r, hj, hk⟩ => hk ▸ h j r hj⟩
  | _ => exact Iff.rfl

theorem Rel.reindex {Γ : Ctx} {ρ : Rho} {L H : List O} {w : World} (h : Rel Γ ρ L w) {σ : Nat → Nat} (hf : fits σ L H 0) (hinj : ∀ i j, i < H.length → j < H.length → σ i = σ j → i = j)
    (hok : okIds H (idsO H) = true) (hm : Γ.m ≤ H.length) (hfix : ∀ i, i < Γ.m → σ i = i) : Rel Γ ⟨fun i => ρ.blk (σ i), fun i => ρ.val (σ i)⟩ H w := by
  have hg : ∀ {j : Nat} {o : O}, H[j]? = some o → L[σ j]? = some (o.mapIds σ) := fun {j o} ho => by have := fits_get hf j o ho; rwa [Nat.zero_add] at this
  refine ⟨h.os, h.tape, h.output, h.size, h.old, ?_, ?_, ?_, ?_, ?_, hm⟩
  · intro id o ho; exact objAt_mapIds.1 (h.obj _ _ (hg ho))
  · intro id o b ho hb; exact h.own _ _ b (hg ho) (by rw [O.mapIds_own]; exact hb)
  · intro i j oi oj b hi hj hbi hbj
    exact hinj i j (lt_of_get hi) (lt_of_get hj) (h.disj _ _ _ _ b (hg hi) (hg hj) (by rw [O.mapIds_own]; exact hbi) (by rw [O.mapIds_own]; exact hbj))
  · intro id o ho k hk
    exact okIds_elim hok k (mem_idsO (List.mem_of_getElem? ho) hk)
  · intro id hid
    simp only [hfix id hid]
    exact h.fix id hid

def memB (x : Nat) : List Nat → Bool
  | [] => false
  | y :: r => Nat.beq x y || memB x r
def nodupB : List Nat → Bool
  | [] => true
  | x :: r => !(memB x r) && nodupB r
def fixB : Nat → List Nat → Bool
  | 0, _ => true
  | m + 1, π => Nat.beq (atL π m) m && fixB m π
def goodB (m : Nat) (π : List Nat) (H : List O) (ids : List Nat) : Bool :=
  Nat.beq π.length H.length && (nodupB π && (okIds H (idsO H) && (okIds H ids && (Nat.ble m H.length && fixB m π))))

theorem memB_iff {x : Nat} : ∀ {l : List Nat}, memB x l = true ↔ x ∈ l
  | [] => by simp [memB]
  | y :: r => by
    simp only [memB, Bool.or_eq_true, memB_iff (l := r), List.mem_cons]
    exact ⟨fun h => h.imp (fun h => Nat.eq_of_beq_eq_true h) (fun h => h), fun h => h.imp (fun h => by subst h; exact Nat.beq_refl _) (fun h => h)⟩
theorem nodupB_elim : ∀ {l : List Nat}, nodupB l = true → l.Nodup
  | [], _ => List.nodup_nil
  | x :: r, h => by
    simp only [nodupB, Bool.and_eq_true, Bool.not_eq_true'] at h
    exact List.nodup_cons.2 ⟨fun hm => (by rw [memB_iff.2 hm] at h; cases h.1), nodupB_elim h.2⟩
theorem fixB_elim {π : List Nat} : ∀ {m : Nat}, fixB m π = true → ∀ i, i < m → atL π i = i
  | 0, _, i, hi => by omega
  | m + 1, h, i, hi => by
    simp only [fixB, Bool.and_eq_true] at h
    by_cases hm : i = m
    · subst hm; exact Nat.eq_of_beq_eq_true h.1
    · exact fixB_elim h.2 i (by omega)
theorem goodB_elim {m : Nat} {π : List Nat} {H : List O} {ids : List Nat} (h : goodB m π H ids = true) :
    π.length = H.length ∧ π.Nodup ∧ okIds H (idsO H) = true ∧ okIds H ids = true ∧ m ≤ H.length ∧ ∀ i, i < m → atL π i = i := by
  simp only [goodB, Bool.and_eq_true] at h
  obtain ⟨h1, h2, h3, h4, h5, h6⟩ := h
  exact ⟨Nat.eq_of_beq_eq_true h1, nodupB_elim h2, h3, h4, Nat.le_of_ble_eq_true h5, fixB_elim h6⟩

/-- The slots and the objects fit what is told, under new ids. -/
def enter (m : Nat) (π : List Nat) (f : Sl) (L : List O) (S : List (Nat × V)) (H : List O) : Prop :=
  agreeP (atL π) f S ∧ fits (atL π) L H 0 ∧ goodB m π H (idsS S) = true

theorem atL_inj {π : List Nat} (h : π.Nodup) {i j : Nat} (hi : i < π.length) (hj : j < π.length) (he : atL π i = atL π j) : i = j := by
  simp only [atL, List.getElem?_eq_getElem hi, List.getElem?_eq_getElem hj] at he
  exact (List.getElem_inj h).1 he

theorem agreeP_slot {σ : Nat → Nat} {ρ : Rho} {f g : Sl} {H : List O} {a : Act} (ha : ∀ t, a.tmps.getD t undef = (f t).ren ρ) (hg : ∀ t, g t = .raw (a.tmps.getD t undef)) :
    ∀ {S : List (Nat × V)}, agreeP σ f S → okIds H (idsS S) = true → (∀ t, a.tmps.getD t undef = (slS g S t).ren ⟨fun i => ρ.blk (σ i), fun i => ρ.val (σ i)⟩) ∧ ∀ t, ∀ k ∈ (slS g S t).ids, okId H k
  | [], _, _ => ⟨fun t => by simp [slS, hg, V.ren], fun t k hk => by simp [slS, hg, V.ids] at hk⟩
  | (t0, v) :: r, h, hok => by
    have hall := okIds_elim hok
    have hr : okIds H (idsS r) = true := by
      have : ∀ l1 l2 : List Nat, okIds H (l1 ++ l2) = true → okIds H l2 = true := by
        intro l1 l2
        induction l1 with
        | nil => intro h; exact h
        | cons x l ih => intro h; simp only [List.cons_append, okIds, Bool.and_eq_true] at h; exact ih h.2
      exact this v.ids _ hok
    obtain ⟨h1, h2⟩ := agreeP_slot ha hg h.2 hr
    refine ⟨fun t => ?_, fun t k hk => ?_⟩
    · by_cases ht : t = t0
      · subst ht
        simp only [slS, upd, Nat.beq_refl, cond_true]
        rw [ha t, h.1, V.ren_mapIds]
      · simp only [slS, upd, beq_ne ht, cond_false]
        exact h1 t
    · by_cases ht : t = t0
      · subst ht
        simp only [slS, upd, Nat.beq_refl, cond_true] at hk
        exact hall k (by simp [idsS, hk])
      · simp only [slS, upd, beq_ne ht, cond_false] at hk
        exact h2 t k hk

theorem enter_rel {Γ : Ctx} {ρ : Rho} {nt : Nat} {f : Sl} {L : List O} {a : Act} {w : World} (ha : RelA ρ nt f L a) (hr : Rel Γ ρ L w) {π : List Nat} {S : List (Nat × V)} {H : List O} (h : enter Γ.m π f L S H) :
    RelA ⟨fun i => ρ.blk (atL π i), fun i => ρ.val (atL π i)⟩ nt (slS (fun t => .raw (a.tmps.getD t undef)) S) H a ∧ Rel Γ ⟨fun i => ρ.blk (atL π i), fun i => ρ.val (atL π i)⟩ H w := by
  obtain ⟨h1, h2, h3⟩ := h
  obtain ⟨h3, h4, h5, h6, h7, h8⟩ := goodB_elim h3
  obtain ⟨g1, g2⟩ := agreeP_slot (H := H) (g := fun t => .raw (a.tmps.getD t undef)) ha.slot (fun _ => rfl) h1 h6
  exact ⟨⟨ha.defers, ha.size, g1, g2⟩, hr.reindex h2 (fun i j hi hj he => atL_inj h4 (by omega) (by omega) he) h5 h7 h8⟩

theorem wp_loop_by {P : Program} {c : Code} {Q : Exit → Act → World → Prop} (I : Nat → Act → World → Prop)
    (round : ∀ n a w, I n a w → c.wp P (Exit.then (fun a' w' => ∃ m, m < n ∧ I m a' w') Q) a w) : ∀ n a w, I n a w → (Code.loop c).wp P Q a w := by
  intro n a w h0 b k cs
  have key : ∀ n a w, I n a w → ∃ e a' w', Q e a' w' ∧ Arrives P (lone (b.at a (.code c :: .inLoop c :: k)) cs w) b k cs e a' w' := by
    intro n
    induction n using Nat.strongRecOn with
    | _ n ih =>
      intro a w hI
      obtain ⟨e, a₁, w₁, hq, harr⟩ := round n a w hI b (.inLoop c :: k) cs
      cases e with
      | normal =>
        obtain ⟨m, hlt, hI₁⟩ := hq
        obtain ⟨e₂, a₂, w₂, hq₂, harr₂⟩ := ih m hlt a₁ w₁ hI₁
        exact ⟨e₂, a₂, w₂, hq₂, .of_steps (Steps.trans harr (.one step_inLoop)) harr₂⟩
      | exit id => exact ⟨_, a₁, w₁, hq, .pass (x := .inLoop c) rfl (fun _ _ => .inl (by simp)) harr⟩
      | goto l => exact ⟨_, a₁, w₁, hq, .pass (x := .inLoop c) rfl (fun _ _ => .inl (by simp)) harr⟩
      | ret => exact ⟨_, a₁, w₁, hq, .pass (x := .inLoop c) rfl (fun _ _ => .inl (by simp)) harr⟩
      | panic ch => exact ⟨_, a₁, w₁, hq, .pass (x := .inLoop c) rfl (fun _ _ => .inl (by simp)) harr⟩
      | outgrown => exact ⟨_, a₁, w₁, hq, .pass (x := .inLoop c) rfl (fun _ _ => .inl (by simp)) harr⟩
  obtain ⟨e, a', w', hq, harr⟩ := key n a w h0
  exact ⟨e, a', w', hq, .of_steps (.one step_loop) harr⟩

/-- What a round's end owes. -/
def again {α : Type} (m : Nat) (I : α → Prop) (S : α → List (Nat × V)) (H : α → List O) (μ : α → Nat) (x : α) (Q : Exit → Sl → List O → Prop) : Exit → Sl → List O → Prop
  | .normal, f, L => ∃ x' π, (I x' ∧ μ x' < μ x) ∧ enter m π f L (S x') (H x')
  | e, f, L => Q e f L

theorem loop_rule {P : Program} {Γ : Ctx} {nt : Nat} {α : Type} (I : α → Prop) (S : α → List (Nat × V)) (H : α → List O) (μ : α → Nat) (x0 : α) (π : List Nat) {body : Code} {Q : Exit → Sl → List O → Prop} {f : Sl} {L : List O}
    (h0 : I x0) (start : enter Γ.m π f L (S x0) (H x0))
    (step : ∀ x g, I x → EV P Γ nt body (again Γ.m I S H μ x Q) (slS g (S x)) (H x)) : codeOK P Γ nt (.loop body) Q f L := by
  intro ρ a w ha hr
  refine wp_loop_by (fun n a w => ∃ x g ρ, μ x = n ∧ I x ∧ RelA ρ nt (slS g (S x)) (H x) a ∧ Rel Γ ρ (H x) w) ?_ (μ x0) a w ?_
  · rintro n a w ⟨x, g, ρ, rfl, hI, ha, hr⟩
    refine wp_mono (EV_sound body _ _ _ (step x g hI) ρ a w ha hr) fun e a' w' hq => ?_
    obtain ⟨ρ', f', L', hQ, ha', hr'⟩ := hq
    cases e with
    | normal =>
      obtain ⟨x', π', ⟨hI', hlt⟩, hen⟩ := hQ
      obtain ⟨h1, h2⟩ := enter_rel ha' hr' hen
      exact ⟨μ x', hlt, x', _, _, rfl, hI', h1, h2⟩
    | _ => exact ⟨ρ', f', L', hQ, ha', hr'⟩
  · obtain ⟨h1, h2⟩ := enter_rel ha hr start
    exact ⟨x0, _, _, rfl, h0, h1, h2⟩

/-- A cut: what goes before is forgotten but for what is told. -/
theorem EV_cut {P : Program} {Γ : Ctx} {nt : Nat} {α : Type} (I : α → Prop) (S : α → List (Nat × V)) (H : α → List O) {c : Code} {Q : Exit → Sl → List O → Prop} {f : Sl} {L : List O} (x0 : α) (π : List Nat)
    (h0 : I x0) (start : enter Γ.m π f L (S x0) (H x0)) (rest : ∀ x g, I x → EV P Γ nt c Q (slS g (S x)) (H x)) : codeOK P Γ nt c Q f L := by
  intro ρ a w ha hr
  obtain ⟨h1, h2⟩ := enter_rel ha hr start
  exact EV_sound c Q _ _ (rest x0 _ h0) _ a w h1 h2
end Go.Proofs.Ytpangmameocfmaa.VE
namespace Go.Proofs.Ytpangmameocfmaa.VE
open Go

def initS (args : List V) : Sl := fun t => match args[t]? with | some v => v | none => .raw undef

def resV (P : Program) (f : Sl) (L : List O) : List ResultVar → (List V → Prop) → Prop
  | [], K => K []
  | .tmp t :: r, K => resV P f L r fun vs => K (f t :: vs)
  | .cell t T :: r, K => match f t with
    | .ptr id off => loadLoc P T L id off fun _ e => resV P f L r fun vs => K (e.v :: vs)
    | _ => False

def retQ (P : Program) (fn : Func) (K : V → List O → Prop) : Exit → Sl → List O → Prop
  | .ret, f, L => resV P f L fn.results.toList fun vs => match vs with | [v] => K v L | vs => K (.tup vs) L
  | .normal, f, L => resV P f L fn.results.toList fun vs => match vs with | [v] => K v L | vs => K (.tup vs) L
  | _, _, _ => False

def resOne (tmps : Array Value) : ResultVar → Sem Value
  | .tmp t => pure (tmps.getD t undef)
  | .cell a t => do loadVar t (← asAddr (tmps.getD a undef))
theorem results_eq (fn : Func) (tmps : Array Value) : results fn tmps = (do let vs ← fn.results.mapM (resOne tmps); pure (if h : vs.size = 1 then vs[0] else .tuple vs)) := rfl

section
variable {P : Program} {Γ : Ctx}

theorem loadLoc_run {T : TypeId} {L : List O} {id off : Nat} {K : LK} (h : loadLoc P T L id off K) :
    ∃ rd e, K rd e ∧ ∀ ρ w, Rel Γ ρ L w → (loadVar T ⟨ρ.blk id, off, none⟩).run P w = .ok (e.v.ren ρ) w ∧ ∀ k ∈ e.v.ids, okId L k := by
  unfold loadLoc at h
  split at h
  · rename_i hl
    obtain ⟨v, hK, hr⟩ := loadP_run h
    exact ⟨_, _, hK, fun ρ w h2 => ⟨hr w _ fun i u hu => view_cell (h2.obj id _ hl) hu, fun k hk => by simp [V.ids] at hk⟩⟩
  · rename_i hl
    obtain ⟨v, hK, hr⟩ := loadP_run h
    exact ⟨_, _, hK, fun ρ w h2 => ⟨hr w _ fun i u hu => view_cell (h2.obj id _ hl) hu, fun k hk => by simp [V.ids] at hk⟩⟩
  · rename_i hl
    obtain ⟨v, hK, hr⟩ := loadP_run h
    exact ⟨_, _, hK, fun ρ w h2 => ⟨hr w _ fun i u hu => mr_cell (h2.obj id _ hl) hu, fun k hk => by simp [V.ids] at hk⟩⟩
  · rename_i hl
    obtain ⟨v, hK, hk, hr⟩ := loadV_run h
    exact ⟨_, _, hK, fun ρ w h2 => ⟨hr ρ w _ fun i u hu => view_cell (h2.obj id _ hl) hu, fun k hk' => h2.oks id _ hl k (hk k hk')⟩⟩
  · rename_i hl
    obtain ⟨v, hK, hk, hr⟩ := loadV_run h
    exact ⟨_, _, hK, fun ρ w h2 => ⟨hr ρ w _ fun i u hu => view_cell (h2.obj id _ hl) hu, fun k hk' => h2.oks id _ hl k (hk k hk')⟩⟩
  · exact h.elim

theorem resV_run {f : Sl} {L : List O} {ρ : Rho} {nt : Nat} {a : Act} {w : World} (ha : RelA ρ nt f L a) (hr : Rel Γ ρ L w) : ∀ {rs : List ResultVar} {K : List V → Prop}, resV P f L rs K →
    ∃ vs, K vs ∧ (rs.mapM (resOne a.tmps)).run P w = .ok (renL ρ vs) w ∧ ∀ k ∈ idsL vs, okId L k
  | [], K, h => ⟨[], h, by simp [renL], fun k hk => by simp [idsL] at hk⟩
  | .tmp t :: r, K, h => by
    obtain ⟨vs, hK, h1, h2⟩ := resV_run ha hr (rs := r) h
    refine ⟨_, hK, ?_, fun k hk => ?_⟩
    · have := ha.slot t
      simp only [List.mapM_cons, resOne, Sem.run_bind, Sem.run_pure, Result.andThen_ok, this]
      rw [h1]
      simp [renL]
    · rw [idsL, List.mem_append] at hk
      rcases hk with hk | hk
      · exact ha.ok t k hk
      · exact h2 k hk
  | .cell t T :: r, K, h => by
    unfold resV at h
    split at h
    · rename_i id off ht
      obtain ⟨rd, e, h, hl⟩ := loadLoc_run (Γ := Γ) h
      obtain ⟨vs, hK, h1, h2⟩ := resV_run ha hr (rs := r) h
      obtain ⟨hl1, hl2⟩ := hl ρ w hr
      refine ⟨_, hK, ?_, fun k hk => ?_⟩
      · have := ha.slot t
        rw [ht] at this
        simp only [List.mapM_cons, resOne, Sem.run_bind, Result.andThen_ok, this, V.ren, asAddr, Sem.run_pure, hl1]
        rw [h1]
        simp [renL]
      · rw [idsL, List.mem_append] at hk
        rcases hk with hk | hk
        · exact hl2 k hk
        · exact h2 k hk
    · exact h.elim

theorem retQ_body {fn : Func} {K : V → List O → Prop} {nt : Nat} {e : Exit} {a : Act} {w : World} {R : Ending → World → Prop} (h : liftQ Γ nt (retQ P fn K) e a w)
    (hR : ∀ ρ v L w, K v L → Rel Γ ρ L w → (∀ k ∈ v.ids, okId L k) → R (.returned (v.ren ρ)) w) : bodyPost P fn R e a w := by
  obtain ⟨ρ, f, L, hQ, ha, hr⟩ := h
  have key : (resV P f L fn.results.toList fun vs => match vs with | [v] => K v L | vs => K (.tup vs) L) → a.defers = [] ∧ ∃ v, (results fn a.tmps).run P w = .ok v w ∧ R (.returned v) w := by
    intro h
    obtain ⟨vs, hK, h1, h2⟩ := resV_run ha hr h
    have hm : (fn.results.mapM (resOne a.tmps)).run P w = .ok (renL ρ vs).toArray w := by
      rw [Array.mapM_eq_mapM_toList]
      simp only [Sem.run_map, h1, Result.andThen_ok]
    refine ⟨ha.defers, ?_⟩
    match vs, hK, hm, h2 with
    | [v], hK, hm, h2 =>
      refine ⟨v.ren ρ, ?_, hR ρ v L w hK hr fun k hk => h2 k (by simp [idsL, hk])⟩
      rw [results_eq]
      simp only [Sem.run_bind, hm, Result.andThen_ok, Sem.run_pure]
      simp [renL]
    | [], hK, hm, h2 =>
      refine ⟨(V.tup []).ren ρ, ?_, hR ρ _ L w hK hr h2⟩
      rw [results_eq]
      simp only [Sem.run_bind, hm, Result.andThen_ok, Sem.run_pure]
      simp [renL, V.ren]
    | v1 :: v2 :: r, hK, hm, h2 =>
      refine ⟨(V.tup (v1 :: v2 :: r)).ren ρ, ?_, hR ρ _ L w hK hr h2⟩
      rw [results_eq]
      simp only [Sem.run_bind, hm, Result.andThen_ok, Sem.run_pure]
      simp [renL, V.ren]
  cases e with
  | normal => exact key hQ
  | ret => exact key hQ
  | _ => exact hQ.elim

theorem calls_of_EV {fid : FuncId} {fn : Func} {c : Code} (hf : P.funcs[fid]? = some fn) (hb : fn.body = some c) {args : List V} {L0 : List O} {K : V → List O → Prop}
    (hn : args.length ≤ fn.ntmps) (h : EV P Γ fn.ntmps c (retQ P fn K) (initS args) L0) {ρ : Rho} {w : World} (hr : Rel Γ ρ L0 w) (hids : ∀ k ∈ idsL args, okId L0 k) :
    Calls P fid (renL ρ args).toArray w fun en w' => ∃ ρ' v L', en = .returned (v.ren ρ') ∧ K v L' ∧ Rel Γ ρ' L' w' ∧ ∀ k ∈ v.ids, okId L' k := by
  refine calls_of_wp hf hb ?_
  refine wp_mono (EV_sound c _ _ _ h ρ _ w ⟨rfl, ?_, ?_, ?_⟩ hr) fun e a' w' hq => retQ_body hq fun ρ v L w hK hr hk => ⟨ρ, v, L, rfl, hK, hr, hk⟩
  · simp [renL_length]; omega
  · intro t
    simp only [initS, Array.getD_eq_getD_getElem?, List.size_toArray, renL_length]
    by_cases ht : t < args.length
    · rw [Array.getElem?_append_left (by simpa [renL_length] using ht)]
      simp only [List.getElem?_toArray, renL_get, List.getElem?_eq_getElem ht, Option.map_some, Option.getD_some]
    · rw [Array.getElem?_append_right (by simp [renL_length]; omega), List.getElem?_eq_none (Nat.le_of_not_lt ht)]
      simp only [Array.getElem?_replicate, V.ren]
      split <;> rfl
  · intro t k hk
    simp only [initS] at hk
    split at hk
    · rename_i v hv
      exact hids k (mem_idsL.2 ⟨v, List.mem_of_getElem? hv, hk⟩)
    · simp [V.ids] at hk
end
end Go.Proofs.Ytpangmameocfmaa.VE
namespace Go.Proofs.Ytpangmameocfmaa.VE
open Go

/-- What a call's end owes: the result and the objects, under new ids. -/
def fin (m : Nat) (v : V) (L1 : List O) (u : V) (L' : List O) : Prop :=
  ∃ π, u = v.mapIds (atL π) ∧ fits (atL π) L' L1 0 ∧ goodB m π L1 v.ids = true

def ctxOf (w : World) (ρ : Rho) (L0 : List O) : Ctx := ⟨w, fun b => ∃ (id : Nat) (o : O), L0[id]? = some o ∧ o.own ρ id b, L0.length, ρ⟩

/-- What a function does: to the objects L0 that it is handed, giving v, and L1 (the objects as they are then, and new ones behind them). 'W': what is asked of the world, and of the blocks that are its own. -/
def SpecW (P : Program) (W : World → (Nat → Prop) → Prop) (fid : FuncId) (args : List V) (L0 : List O) (v : V) (L1 : List O) : Prop :=
  (∀ us w, (callFunc fid us).run P w = .ok (.enter fid us) w) ∧ okIds L0 (idsL args) = true ∧ okIds L0 (idsO L0) = true ∧ okIds L1 v.ids = true ∧ okIds L1 (idsO L1) = true ∧
  ∀ ρ w, W w (ctxOf w ρ L0).B → Rel (ctxOf w ρ L0) ρ L0 w → Calls P fid (renL ρ args).toArray w fun en w' => ∃ ρ', en = .returned (v.ren ρ') ∧ Rel (ctxOf w ρ L0) ρ' L1 w'

abbrev Spec (P : Program) (fid : FuncId) (args : List V) (L0 : List O) (v : V) (L1 : List O) : Prop := SpecW P (fun _ _ => True) fid args L0 v L1

section
variable {P : Program} {W : World → (Nat → Prop) → Prop} {fid : FuncId} {args : List V} {L0 L1 : List O} {v : V}

theorem SpecW.of_EV {fn : Func} {c : Code} (hf : P.funcs[fid]? = some fn) (hc : ∀ us w, (callFunc fid us).run P w = .ok (.enter fid us) w) (hb : fn.body = some c) (hn : Nat.ble args.length fn.ntmps = true)
    (ha : (okIds L0 (idsL args) && okIds L0 (idsO L0) && okIds L1 v.ids && okIds L1 (idsO L1)) = true)
    (h : ∀ w0 B ρ0, W w0 B → EV P ⟨w0, B, L0.length, ρ0⟩ fn.ntmps c (retQ P fn (fin L0.length v L1)) (initS args) L0) : SpecW P W fid args L0 v L1 := by
  simp only [Bool.and_eq_true] at ha
  obtain ⟨⟨⟨ha1, ha2⟩, ha3⟩, ha4⟩ := ha
  refine ⟨hc, ha1, ha2, ha3, ha4, fun ρ w hW hr => ?_⟩
  refine (calls_of_EV hf hb (Nat.le_of_ble_eq_true hn) (h w (fun b => ∃ (id : Nat) (o : O), L0[id]? = some o ∧ o.own ρ id b) ρ hW) hr (okIds_elim ha1)).mono ?_
  rintro en w' ⟨ρ', u, L', rfl, ⟨π, rfl, hfit, hg⟩, hr', hids⟩
  obtain ⟨g1, g2, g3, g4, g5, g6⟩ := goodB_elim hg
  refine ⟨⟨fun i => ρ'.blk (atL π i), fun i => ρ'.val (atL π i)⟩, by rw [V.ren_mapIds], ?_⟩
  exact hr'.reindex hfit (fun i j hi hj he => atL_inj g2 (by omega) (by omega) he) g3 g5 g6

theorem SpecW.weaken {W' : World → (Nat → Prop) → Prop} (h : SpecW P W fid args L0 v L1) (hW : ∀ w B, W' w B → W w B) : SpecW P W' fid args L0 v L1 := by
  obtain ⟨h1, h2, h3, h4, h5, h6⟩ := h
  exact ⟨h1, h2, h3, h4, h5, fun ρ w hw => h6 ρ w (hW w _ hw)⟩
end

def sig (ks : List Nat) (n : Nat) : Nat → Nat := fun i => match ks[i]? with | some k => k | none => n + (i - ks.length)

def wrOf (σ : Nat → Nat) : List Nat → List O → List (Nat × O)
  | k :: ks, o :: L => (k, o.mapIds σ) :: wrOf σ ks L
  | _, _ => []

def mapO (σ : Nat → Nat) : List O → List O
  | [] => []
  | o :: r => o.mapIds σ :: mapO σ r
theorem mapO_eq (σ : Nat → Nat) : ∀ L : List O, mapO σ L = L.map (O.mapIds σ)
  | [] => rfl
  | o :: r => by simp [mapO, mapO_eq σ r]

/-- The objects that a call is handed lie at these ids. -/
def handed (σ : Nat → Nat) (L : List O) : List Nat → List O → Prop
  | [], [] => True
  | k :: ks, o :: r => L[k]? = some (o.mapIds σ) ∧ handed σ L ks r
  | _, _ => False

theorem handed_get {σ : Nat → Nat} {L : List O} : ∀ {ks : List Nat} {L0 : List O}, handed σ L ks L0 → ks.length = L0.length ∧ ∀ (i : Nat) (o : O), L0[i]? = some o → ∃ k, ks[i]? = some k ∧ L[k]? = some (o.mapIds σ)
  | [], [], _ => ⟨rfl, fun i o h => by simp at h⟩
  | k :: ks, o :: r, h => by
    obtain ⟨h1, h2⟩ := handed_get h.2
    refine ⟨by simp [h1], fun i x hx => ?_⟩
    cases i with
    | zero => simp at hx; subst hx; exact ⟨k, by simp, h.1⟩
    | succ i => simpa using h2 i x (by simpa using hx)
  | [], _ :: _, h => h.elim
  | _ :: _, [], h => h.elim

theorem applyW_len : ∀ (wr : List (Nat × O)) (L : List O), (applyW L wr).length = L.length
  | [], _ => rfl
  | (id, o) :: r, L => by simp [applyW, applyW_len r]
theorem applyW_ne {k : Nat} : ∀ {wr : List (Nat × O)} {L : List O}, (∀ p ∈ wr, p.1 ≠ k) → (applyW L wr)[k]? = L[k]?
  | [], _, _ => rfl
  | (id, o) :: r, L, h => by
    simp only [applyW]
    rw [applyW_ne (wr := r) (fun p hp => h p (by simp [hp])), List.getElem?_set_ne (h (id, o) (by simp))]
theorem setAt_len : ∀ (new : List O) (n : Nat) (L : List O), (setAt L n new).length = L.length
  | [], _, _ => rfl
  | o :: r, n, L => by simp [setAt, setAt_len r]
theorem setAt_out {k : Nat} : ∀ {new : List O} {n : Nat} {L : List O}, (k < n ∨ n + new.length ≤ k) → (setAt L n new)[k]? = L[k]?
  | [], _, _, _ => rfl
  | o :: r, n, L, h => by
    simp only [setAt]
    rw [setAt_out (by simp at h; omega), List.getElem?_set_ne (by simp at h; omega)]
theorem setAt_in : ∀ {new : List O} {n j : Nat} {L : List O}, j < new.length → n + new.length ≤ L.length → (setAt L n new)[n + j]? = new[j]?
  | [], _, _, _, h, _ => by simp at h
  | o :: r, n, 0, L, _, hl => by
    simp only [setAt, Nat.add_zero]
    rw [setAt_out (by omega), List.getElem?_set_self (by simp at hl; omega)]
    simp
  | o :: r, n, j + 1, L, h, hl => by
    simp only [setAt]
    rw [show n + (j + 1) = (n + 1) + j from by omega, setAt_in (by simpa using h) (by simp at hl ⊢; omega)]
    simp

theorem wrOf_get {σ : Nat → Nat} {k : Nat} : ∀ {ks : List Nat} {L1 : List O} {i : Nat} {o : O} {L : List O}, ks.Nodup → ks[i]? = some k → L1[i]? = some o → k < L.length → (applyW L (wrOf σ ks L1))[k]? = some (o.mapIds σ)
  | [], _, i, _, _, _, h, _, _ => by simp at h
  | x :: ks, [], i, _, _, _, _, h, _ => by simp at h
  | x :: ks, y :: L1, 0, o, L, hn, h1, h2, hl => by
    simp at h1 h2
    subst h1; subst h2
    simp only [wrOf, applyW]
    rw [applyW_ne, List.getElem?_set_self hl]
    intro p hp
    have : ∀ {ks : List Nat} {L1 : List O}, p ∈ wrOf σ ks L1 → p.1 ∈ ks := by
      intro ks
      induction ks with
      | nil => intro L1 h; simp [wrOf] at h
      | cons a r ih =>
        intro L1 h
        cases L1 with
        | nil => simp [wrOf] at h
        | cons b t =>
          simp only [wrOf, List.mem_cons] at h
          rcases h with rfl | h
          · simp
          · simp [ih h]
    rintro rfl
    exact (List.nodup_cons.1 hn).1 (this hp)
  | x :: ks, y :: L1, i + 1, o, L, hn, h1, h2, hl => by
    simp only [wrOf, applyW]
    exact wrOf_get (List.nodup_cons.1 hn).2 (by simpa using h1) (by simpa using h2) (by simpa using hl)

theorem wrOf_mem {σ : Nat → Nat} {p : Nat × O} : ∀ {ks : List Nat} {L1 : List O}, p ∈ wrOf σ ks L1 → p.1 ∈ ks
  | [], _, h => by simp [wrOf] at h
  | _ :: _, [], h => by simp [wrOf] at h
  | a :: r, b :: t, h => by
    simp only [wrOf, List.mem_cons] at h
    rcases h with rfl | h
    · simp
    · simp [wrOf_mem h]

theorem ctx_rel {Γ : Ctx} {ρ : Rho} {Lr L0 : List O} {w : World} (hr : Rel Γ ρ Lr w) {ks : List Nat} {σ : Nat → Nat} (hσ : ∀ i, i < ks.length → ∀ k, ks[i]? = some k → σ i = k) (hlen : ks.length = L0.length)
    (hget : ∀ (i : Nat) (o : O), L0[i]? = some o → ∃ k, ks[i]? = some k ∧ Lr[k]? = some (o.mapIds σ)) (hnd : ks.Nodup) (hok : okIds L0 (idsO L0) = true) :
    Rel (ctxOf w ⟨fun i => ρ.blk (σ i), fun i => ρ.val (σ i)⟩ L0) ⟨fun i => ρ.blk (σ i), fun i => ρ.val (σ i)⟩ L0 w := by
  have hg : ∀ {i : Nat} {o : O}, L0[i]? = some o → Lr[σ i]? = some (o.mapIds σ) ∧ ks[i]? = some (σ i) := fun {i o} ho => by
    obtain ⟨k, h1, h2⟩ := hget i o ho
    have := hσ i (lt_of_get h1) k h1
    rw [this]; exact ⟨h2, h1⟩
  refine ⟨rfl, rfl, rfl, Nat.le_refl _, fun _ _ _ => rfl, ?_, ?_, ?_, ?_, fun _ _ => ⟨rfl, rfl⟩, Nat.le_refl _⟩
  · intro id o ho; exact objAt_mapIds.1 (hr.obj _ _ (hg ho).1)
  · intro id o b ho hb
    exact ⟨(hr.own _ _ b (hg ho).1 (by rw [O.mapIds_own]; exact hb)).1, fun _ => ⟨id, o, ho, hb⟩⟩
  · intro i j oi oj b hi hj hbi hbj
    have he := hr.disj _ _ _ _ b (hg hi).1 (hg hj).1 (by rw [O.mapIds_own]; exact hbi) (by rw [O.mapIds_own]; exact hbj)
    have h1 := (hg hi).2
    have h2 := (hg hj).2
    rw [he] at h1
    have hi' := lt_of_get h1
    have hj' := lt_of_get h2
    rw [List.getElem?_eq_getElem hi'] at h1
    rw [List.getElem?_eq_getElem hj'] at h2
    injection h1 with h1; injection h2 with h2
    exact (List.getElem_inj hnd).1 (h1.trans h2.symm)
  · intro id o ho k hk
    exact okIds_elim hok k (mem_idsO (List.mem_of_getElem? ho) hk)

section
variable {P : Program} {W : World → (Nat → Prop) → Prop} {fid : FuncId} {args : List V} {L0 L1 : List O} {v : V} {Γ : Ctx} {n : Nat} {L : List O}

/-- A call that leaves what it is handed as it was, and makes nothing that lasts. -/
theorem SpecW.locR (h : SpecW P W fid args L0 v L0) (ks : List Nat) (hW : ∀ ρ w Lr B, Rel Γ ρ Lr w → (∀ b, B b → b < Γ.w0.heap.size → Γ.B b) → W w B) (hnd : nodupB ks = true) (hh : handed (atL ks) L ks L0) (hnf : L0.all (fun o => match o with | .free => false | _ => true) = true) :
    CallLoc P Γ n fid (mapIdsL (atL ks) args) L ks ⟨v.mapIds (atL ks), [], []⟩ := by
  obtain ⟨hc, ha1, ha2, ha3, ha4, h⟩ := h
  obtain ⟨hlen, hget⟩ := handed_get hh
  have hnd := nodupB_elim hnd
  refine ⟨hc, fun ρ w Lr hids hr hrd hfree hm => ?_⟩
  have hget' : ∀ (i : Nat) (o : O), L0[i]? = some o → ∃ k, ks[i]? = some k ∧ Lr[k]? = some (o.mapIds (atL ks)) := fun i o ho => by
    obtain ⟨k, h1, h2⟩ := hget i o ho
    exact ⟨k, h1, (hrd k (List.mem_of_getElem? h1) (lt_of_get h2)).trans h2⟩
  have hσ : ∀ i, i < ks.length → ∀ k, ks[i]? = some k → atL ks i = k := fun i _ k hk => by simp [atL, hk]
  have hrel := ctx_rel hr hσ hlen hget' hnd ha2
  have hB : ∀ b, (ctxOf w ⟨fun i => ρ.blk (atL ks i), fun i => ρ.val (atL ks i)⟩ L0).B b → b < Γ.w0.heap.size → Γ.B b := by
    rintro b ⟨i, o, ho, hob⟩ hlt
    obtain ⟨k, h1, h2⟩ := hget' i o ho
    refine (hr.own k _ b h2 ?_).2 hlt
    rw [← hσ i (lt_of_get h1) k h1, O.mapIds_own]; exact hob
  have := h _ w (hW ρ w Lr _ hr hB) hrel
  rw [← renL_mapIds] at this
  refine this.mono ?_
  rintro en w' ⟨ρ', rfl, hr'⟩
  have hfix : ∀ i, i < L0.length → ρ'.blk i = ρ.blk (atL ks i) ∧ ρ'.val i = ρ.val (atL ks i) := fun i hi => hr'.fix i hi
  have hvids : ∀ k ∈ v.ids, k < L0.length := fun k hk => okId_lt (okIds_elim ha3 k hk)
  have hven : v.ren ρ' = (v.mapIds (atL ks)).ren ρ := by
    rw [V.ren_mapIds]
    exact V.ren_congr v fun k hk => hfix k (hvids k hk)
  have hokm : ∀ k, okId L0 k → okId Lr (atL ks k) := by
    rintro k ⟨o, ho, hof⟩
    obtain ⟨k', h1, h2⟩ := hget' k o ho
    rw [hσ k (lt_of_get h1) k' h1]
    refine ⟨_, h2, ?_⟩
    cases o <;> simp [O.mapIds] at hof ⊢
  refine ⟨ρ, by rw [hven], ?_, Agree.refl ρ Lr, fun _ h => h, fun k hk => ?_⟩
  · have happ : (⟨v.mapIds (atL ks), [], []⟩ : Eff).app n Lr = Lr := rfl
    rw [happ]
    refine hr.step (fun id => id ∈ ks) hr'.os hr'.tape hr'.output hr'.size (Agree.refl ρ Lr) (fun _ _ => rfl) ?_ ?_ ?_ ?_ ?_ (fun _ h => h) (fun _ _ => ⟨rfl, rfl⟩) (Nat.le_refl _)
    · intro b hb hno
      refine hr'.old b hb ?_
      rintro ⟨i, o, ho, hob⟩
      obtain ⟨k, h1, h2⟩ := hget' i o ho
      refine hno k _ (List.mem_of_getElem? h1) h2 ?_
      rw [← hσ i (lt_of_get h1) k h1, O.mapIds_own]; exact hob
    · intro id o hid hl
      obtain ⟨i, hi⟩ := List.mem_iff_getElem?.1 hid
      have hil : i < L0.length := by rw [← hlen]; exact lt_of_get hi
      have ho := List.getElem?_eq_getElem hil
      obtain ⟨k, h1, h2⟩ := hget' i _ ho
      rw [hi] at h1; injection h1 with h1; subst h1
      rw [hl] at h2; injection h2 with h2
      rw [h2, ← hσ i (lt_of_get hi) id hi, objAt_mapIds]
      have hob := hr'.obj i _ ho
      refine objAt_congr (fun _ => ⟨(hfix i hil).1.symm, (hfix i hil).2.symm⟩) (fun k hk => ?_) (fun _ _ => rfl) hob
      have hk' := okId_lt (okIds_elim ha2 k (mem_idsO (List.mem_of_getElem? ho) hk))
      exact ⟨(hfix k hk').1.symm, (hfix k hk').2.symm⟩
    · intro id o b hid hl hb
      exact ⟨Nat.lt_of_lt_of_le (hr.own id o b hl hb).1 hr'.size, .inr ⟨id, o, hid, hl, hb⟩⟩
    · intro i j oi oj b _ _ hi hj hbi hbj
      exact hr.disj i j oi oj b hi hj hbi hbj
    · intro id o _ hl k hk
      exact hr.oks id o hl k hk
  · rw [V.ids_mapIds] at hk
    obtain ⟨k', hk', rfl⟩ := List.mem_map.1 hk
    exact hokm k' (okIds_elim ha3 k' hk')
end
end Go.Proofs.Ytpangmameocfmaa.VE
namespace Go.Proofs.Ytpangmameocfmaa.VE
open Go

theorem sig_lt {ks : List Nat} {n i k : Nat} (h : ks[i]? = some k) : sig ks n i = k := by simp [sig, h]
theorem sig_ge {ks : List Nat} {n i : Nat} (h : ks.length ≤ i) : sig ks n i = n + (i - ks.length) := by simp [sig, List.getElem?_eq_none h]

theorem O.ids_mapIds (σ : Nat → Nat) (o : O) : (o.mapIds σ).ids = o.ids.map σ := by
  cases o <;> simp only [O.mapIds, O.ids, idsL_mapIds, List.map_nil, List.map_cons]
  · rename_i es
    induction es with
    | nil => rfl
    | cons p r ih => simp only [List.map_cons, idsL, List.map_append, V.ids_mapIds] at ih ⊢; rw [ih]
  · rename_i rs
    induction rs with
    | nil => rfl
    | cons p r ih => cases p <;> simp only [List.map_cons, idsP, PR.mapIds, PR.ids, List.map_append, List.map_nil] at ih ⊢ <;> rw [ih]

section
variable {P : Program} {W : World → (Nat → Prop) → Prop} {fid : FuncId} {args : List V} {L0 L1 : List O} {v : V} {Γ : Ctx} {n : Nat} {L : List O}

/-- A call, whatever it does to what it is handed, and whatever it makes. -/
theorem SpecW.loc (h : SpecW P W fid args L0 v L1) (ks : List Nat) (hW : ∀ ρ w Lr B, Rel Γ ρ Lr w → (∀ b, B b → b < Γ.w0.heap.size → Γ.B b) → W w B) (hnd : nodupB ks = true) (hh : handed (sig ks n) L ks L0)
    (hnf0 : (L0.all fun o => match o with | .free => false | _ => true) = true) (hnf : (L1.all fun o => match o with | .free => false | _ => true) = true) (hle : Nat.ble ks.length L1.length = true) :
    CallLoc P Γ n fid (mapIdsL (sig ks n) args) L ks ⟨v.mapIds (sig ks n), wrOf (sig ks n) ks L1, mapO (sig ks n) (L1.drop ks.length)⟩ := by
  obtain ⟨hc, ha1, ha2, ha3, ha4, h⟩ := h
  obtain ⟨hlen, hget⟩ := handed_get hh
  have hnd := nodupB_elim hnd
  have hle := Nat.le_of_ble_eq_true hle
  have notfree : ∀ {l : List O}, (l.all fun o => match o with | .free => false | _ => true) = true → ∀ (i : Nat) (o : O), l[i]? = some o → ∀ σ : Nat → Nat, o.mapIds σ ≠ .free := by
    intro l hl i o ho σ e
    have := List.all_eq_true.1 hl o (List.mem_of_getElem? ho)
    cases o <;> simp [O.mapIds] at e this
  refine ⟨hc, fun ρ w Lr hids hr hrd hfree hm => ?_⟩
  have hget' : ∀ (i : Nat) (o : O), L0[i]? = some o → ∃ k, ks[i]? = some k ∧ Lr[k]? = some (o.mapIds (sig ks n)) := fun i o ho => by
    obtain ⟨k, h1, h2⟩ := hget i o ho
    exact ⟨k, h1, (hrd k (List.mem_of_getElem? h1) (lt_of_get h2)).trans h2⟩
  have hnewlen : (mapO (sig ks n) (L1.drop ks.length)).length = L1.length - ks.length := by rw [mapO_eq]; simp
  have hrel := ctx_rel hr (fun i _ k hk => sig_lt hk) hlen hget' hnd ha2
  have hB : ∀ b, (ctxOf w ⟨fun i => ρ.blk (sig ks n i), fun i => ρ.val (sig ks n i)⟩ L0).B b → b < Γ.w0.heap.size → Γ.B b := by
    rintro b ⟨i, o, ho, hob⟩ hlt
    obtain ⟨k, h1, h2⟩ := hget' i o ho
    refine (hr.own k _ b h2 ?_).2 hlt
    rw [← sig_lt (n := n) h1, O.mapIds_own]; exact hob
  have := h _ w (hW ρ w Lr _ hr hB) hrel
  rw [← renL_mapIds] at this
  refine this.mono ?_
  rintro en w' ⟨ρc, rfl, hr'⟩
  have hfix : ∀ i k, ks[i]? = some k → ρc.blk i = ρ.blk k ∧ ρc.val i = ρ.val k := fun i k hk => by
    have : ρc.blk i = ρ.blk (sig ks n i) ∧ ρc.val i = ρ.val (sig ks n i) := hr'.fix i (by show i < L0.length; rw [← hlen]; exact lt_of_get hk)
    rw [sig_lt hk] at this
    exact this
  -- the caller's new valuation
  let inNew : Nat → Prop := fun id => n ≤ id ∧ id < n + (L1.length - ks.length)
  have decNew : ∀ id, Decidable (inNew id) := fun id => inferInstanceAs (Decidable (_ ∧ _))
  let ρ' : Rho := ⟨fun id => if n ≤ id ∧ id < n + (L1.length - ks.length) then ρc.blk (ks.length + (id - n)) else ρ.blk id, fun id => if n ≤ id ∧ id < n + (L1.length - ks.length) then ρc.val (ks.length + (id - n)) else ρ.val id⟩
  have hnewfree : ∀ id, inNew id → Lr[id]? = some .free := fun id ⟨h1, h2⟩ => by
    have := hfree (id - n) (by rw [hnewlen]; omega)
    rwa [show n + (id - n) = id from by omega] at this
  have hksnot : ∀ k, k ∈ ks → ¬ inNew k := fun k hk hn => by
    obtain ⟨i, hi⟩ := List.mem_iff_getElem?.1 hk
    have hil : i < L0.length := by rw [← hlen]; exact lt_of_get hi
    obtain ⟨k', h1, h2⟩ := hget' i _ (List.getElem?_eq_getElem hil)
    rw [hi] at h1; injection h1 with h1; subst h1
    rw [hnewfree k hn] at h2; injection h2 with h2
    exact notfree hnf0 i _ (List.getElem?_eq_getElem hil) (sig ks n) h2.symm
  have hkslt : ∀ k, k ∈ ks → k < Lr.length := fun k hk => by
    obtain ⟨i, hi⟩ := List.mem_iff_getElem?.1 hk
    have hil : i < L0.length := by rw [← hlen]; exact lt_of_get hi
    obtain ⟨k', h1, h2⟩ := hget' i _ (List.getElem?_eq_getElem hil)
    rw [hi] at h1; injection h1 with h1; subst h1
    exact lt_of_get h2
  have hag : Agree ρ ρ' Lr := by
    rintro id ⟨o, ho, hof⟩
    have : ¬ inNew id := fun hn => hof (by rw [hnewfree id hn] at ho; injection ho with ho; exact ho.symm)
    exact ⟨if_neg this, if_neg this⟩
  -- the callee's ids under the caller's valuation
  have hσ : ∀ i, i < L1.length → ρ'.blk (sig ks n i) = ρc.blk i ∧ ρ'.val (sig ks n i) = ρc.val i := by
    intro i hi
    by_cases hik : i < ks.length
    · have hk := List.getElem?_eq_getElem hik
      have hns := hksnot _ (List.mem_of_getElem? hk)
      have hf := hfix i _ hk
      rw [sig_lt hk]
      exact ⟨(if_neg hns).trans hf.1.symm, (if_neg hns).trans hf.2.symm⟩
    · have hin : inNew (n + (i - ks.length)) := ⟨by omega, by omega⟩
      rw [sig_ge (by omega)]
      have e : ks.length + (n + (i - ks.length) - n) = i := by omega
      refine ⟨(if_pos hin).trans ?_, (if_pos hin).trans ?_⟩ <;> rw [e]
  have hven : v.ren ρc = (v.mapIds (sig ks n)).ren ρ' := by
    rw [V.ren_mapIds]
    exact (V.ren_congr v fun k hk => hσ k (okId_lt (okIds_elim ha3 k hk))).symm
  -- the objects behind the call
  let e : Eff := ⟨v.mapIds (sig ks n), wrOf (sig ks n) ks L1, mapO (sig ks n) (L1.drop ks.length)⟩
  have hroom : L1.length - ks.length = 0 ∨ n + (L1.length - ks.length) ≤ Lr.length := by
    by_cases h0 : L1.length - ks.length = 0
    · exact .inl h0
    · refine .inr ?_
      have := lt_of_get (hfree (L1.length - ks.length - 1) (by rw [hnewlen]; omega))
      omega
  have gout : ∀ id, id ∉ ks → ¬ inNew id → (e.app n Lr)[id]? = Lr[id]? := by
    intro id h1 h2
    show (setAt (applyW Lr (wrOf (sig ks n) ks L1)) n (mapO (sig ks n) (L1.drop ks.length)))[id]? = _
    rw [setAt_out (by rw [hnewlen]; by_cases h : id < n; exact .inl h; exact .inr (by have : ¬ id < n + (L1.length - ks.length) := fun hh => h2 ⟨by omega, hh⟩; omega)), applyW_ne fun p hp he => h1 (by rw [← he]; exact wrOf_mem hp)]
  have gsig : ∀ (i : Nat) (o : O), L1[i]? = some o → (e.app n Lr)[sig ks n i]? = some (o.mapIds (sig ks n)) := by
    intro i o ho
    show (setAt (applyW Lr (wrOf (sig ks n) ks L1)) n (mapO (sig ks n) (L1.drop ks.length)))[sig ks n i]? = _
    by_cases hik : i < ks.length
    · have hk := List.getElem?_eq_getElem hik
      have hns := hksnot _ (List.mem_of_getElem? hk)
      rw [sig_lt hk, setAt_out (by rw [hnewlen]; by_cases h : ks[i] < n; exact .inl h; exact .inr (by have : ¬ ks[i] < n + (L1.length - ks.length) := fun hh => hns ⟨by omega, hh⟩; omega))]
      exact wrOf_get hnd hk ho (hkslt _ (List.mem_of_getElem? hk))
    · have hi := lt_of_get ho
      rw [sig_ge (by omega), setAt_in (by rw [hnewlen]; omega) (by rw [hnewlen, applyW_len]; rcases hroom with h | h; omega; exact h), mapO_eq, List.getElem?_map, List.getElem?_drop,
        show ks.length + (i - ks.length) = i from by omega, ho]
      rfl
  have hM : ∀ id, (id ∈ ks ∨ inNew id) ↔ ∃ i, i < L1.length ∧ sig ks n i = id := by
    intro id
    constructor
    · rintro (h | h)
      · obtain ⟨i, hi⟩ := List.mem_iff_getElem?.1 h
        exact ⟨i, Nat.lt_of_lt_of_le (lt_of_get hi) hle, sig_lt hi⟩
      · exact ⟨ks.length + (id - n), by have := h.1; have := h.2; omega, by rw [sig_ge (by omega)]; have := h.1; omega⟩
    · rintro ⟨i, hi, rfl⟩
      by_cases hik : i < ks.length
      · have hk := List.getElem?_eq_getElem hik
        rw [sig_lt hk]; exact .inl (List.mem_of_getElem? hk)
      · rw [sig_ge (by omega)]; exact .inr ⟨by omega, by omega⟩
  have hsiginj : ∀ i j, i < L1.length → j < L1.length → sig ks n i = sig ks n j → i = j := by
    intro i j hi hj he
    by_cases hik : i < ks.length <;> by_cases hjk : j < ks.length
    · have h1 := List.getElem?_eq_getElem hik
      have h2 := List.getElem?_eq_getElem hjk
      rw [sig_lt h1, sig_lt h2] at he
      exact (List.getElem_inj hnd).1 he
    · have h1 := List.getElem?_eq_getElem hik
      rw [sig_lt h1, sig_ge (by omega)] at he
      exact absurd ⟨by omega, by omega⟩ (he ▸ hksnot _ (List.mem_of_getElem? h1))
    · have h2 := List.getElem?_eq_getElem hjk
      rw [sig_lt h2, sig_ge (by omega)] at he
      exact absurd ⟨by omega, by omega⟩ (he.symm ▸ hksnot _ (List.mem_of_getElem? h2))
    · rw [sig_ge (by omega), sig_ge (by omega)] at he
      omega
  have hokm : ∀ k, okId L1 k → okId (e.app n Lr) (sig ks n k) := by
    rintro k ⟨o, ho, _⟩
    exact ⟨_, gsig k o ho, notfree hnf k o ho _⟩
  have hmono : ∀ k, okId Lr k → okId (e.app n Lr) k := by
    rintro k ⟨o, ho, hof⟩
    by_cases hin : k ∈ ks ∨ inNew k
    · obtain ⟨i, hi, rfl⟩ := (hM k).1 hin
      exact ⟨_, gsig i _ (List.getElem?_eq_getElem hi), notfree hnf i _ (List.getElem?_eq_getElem hi) _⟩
    · exact ⟨o, by rw [gout k (fun h => hin (.inl h)) (fun h => hin (.inr h))]; exact ho, hof⟩
  refine ⟨ρ', by rw [hven], ?_, hag, hmono, fun k hk => ?_⟩
  · refine hr.step (fun id => id ∈ ks ∨ inNew id) hr'.os hr'.tape hr'.output hr'.size hag (fun id h => gout id (fun h' => h (.inl h')) (fun h' => h (.inr h'))) ?_ ?_ ?_ ?_ ?_ hmono ?_ ?_
    · intro b hb hno
      refine hr'.old b hb ?_
      rintro ⟨i, o, ho, hob⟩
      obtain ⟨k, h1, h2⟩ := hget' i o ho
      refine hno k _ (.inl (List.mem_of_getElem? h1)) h2 ?_
      rw [← sig_lt (n := n) h1, O.mapIds_own]; exact hob
    · intro id o hid hl
      obtain ⟨i, hi, rfl⟩ := (hM id).1 hid
      have ho := List.getElem?_eq_getElem hi
      rw [gsig i _ ho] at hl; injection hl with hl; subst hl
      rw [objAt_mapIds]
      exact objAt_congr (fun _ => hσ i hi) (fun k hk => hσ k (okId_lt (okIds_elim ha4 k (mem_idsO (List.mem_of_getElem? ho) hk)))) (fun _ _ => rfl) (hr'.obj i _ ho)
    · intro id o b hid hl hb
      obtain ⟨i, hi, rfl⟩ := (hM id).1 hid
      have ho := List.getElem?_eq_getElem hi
      rw [gsig i _ ho] at hl; injection hl with hl; subst hl
      rw [O.mapIds_own] at hb
      have hb' : (L1[i]).own ρc i b := (congrFun (O.own_congr fun _ => hσ i hi) b).mp hb
      obtain ⟨g1, g2⟩ := hr'.own i _ b ho hb'
      refine ⟨g1, ?_⟩
      rcases Nat.lt_or_ge b w.heap.size with hlt | hge
      · obtain ⟨j, oj, hj, hbj⟩ := g2 hlt
        obtain ⟨k, h1, h2⟩ := hget' j oj hj
        exact .inr ⟨k, _, .inl (List.mem_of_getElem? h1), h2, by rw [← sig_lt (n := n) h1, O.mapIds_own]; exact hbj⟩
      · exact .inl hge
    · intro i j oi oj b hi hj hli hlj hbi hbj
      obtain ⟨i, hi', rfl⟩ := (hM i).1 hi
      obtain ⟨j, hj', rfl⟩ := (hM j).1 hj
      have hoi := List.getElem?_eq_getElem hi'
      have hoj := List.getElem?_eq_getElem hj'
      rw [gsig i _ hoi] at hli; injection hli with hli; subst hli
      rw [gsig j _ hoj] at hlj; injection hlj with hlj; subst hlj
      rw [O.mapIds_own] at hbi hbj
      have := hr'.disj i j _ _ b hoi hoj ((congrFun (O.own_congr fun _ => hσ i hi') b).mp hbi) ((congrFun (O.own_congr fun _ => hσ j hj') b).mp hbj)
      rw [this]
    · intro id o hid hl k hk
      obtain ⟨i, hi, rfl⟩ := (hM id).1 hid
      have ho := List.getElem?_eq_getElem hi
      rw [gsig i _ ho] at hl; injection hl with hl; subst hl
      rw [O.ids_mapIds] at hk
      obtain ⟨k', hk', rfl⟩ := List.mem_map.1 hk
      exact hokm k' (okIds_elim ha4 k' (mem_idsO (List.mem_of_getElem? ho) hk'))
    · intro id hid
      have : ¬ inNew id := fun hn => by have := hn.1; omega
      exact ⟨if_neg this, if_neg this⟩
    · show Lr.length ≤ (setAt (applyW Lr (wrOf (sig ks n) ks L1)) n (mapO (sig ks n) (L1.drop ks.length))).length
      rw [setAt_len, applyW_len]
      exact Nat.le_refl _
  · rw [V.ids_mapIds] at hk
    obtain ⟨k', hk', rfl⟩ := List.mem_map.1 hk
    exact hokm k' (okIds_elim ha3 k' hk')
end

/-! small words for the proofs -/
abbrev vi (n : Int) : V := .raw (.int .i64 n)
abbrev vu (n : Int) : V := .raw (.int .u8 n)
abbrev vb (b : Bool) : V := .raw (.bool b)
theorem X {α : Type} {p q : α → Prop} (x : α) (h : p x) (k : q x) : ∃ x, p x ∧ q x := ⟨x, h, k⟩
theorem wI {a : Int} (h : -9223372036854775808 ≤ a ∧ a ≤ 9223372036854775807) : IntKind.i64.wrap a = a := by rw [IntKind.wrap_i64]; omega
theorem wU {a : Int} (h : 0 ≤ a ∧ a ≤ 255) : IntKind.u8.wrap a = a := by
  have : IntKind.u8.wrap a = a % 256 := by simp [IntKind.wrap, IntKind.signed, IntKind.bits]
  rw [this]; omega
theorem vbR {a b : Bool} (h : a = b) : vb a = vb b := by rw [h]
theorem viR {a b : Int} (h : a = b) : vi a = vi b := by rw [h]
theorem vuR {a b : Int} (h : a = b) : vu a = vu b := by rw [h]
/-- The end of a call that gives a plain value. -/
theorem finP {x : Value} {u : V} {L' : List O} (h : u = .raw x) : fin 0 (.raw x) [] u L' := ⟨[], h, trivial, rfl⟩
theorem leR {a b : Nat} (h : Nat.ble a b = true) : a ≤ b := Nat.le_of_ble_eq_true h

/-- Memory from outside: a block of cells that is not the callee's own. -/
def Old (b : Nat) (cs : Array Value) (t : TypeId) (fr : Nat × Nat) : World → (Nat → Prop) → Prop := fun w B => w.heap[b]? = some (.cells cs t fr) ∧ ¬ B b
theorem Old.pass {b : Nat} {cs : Array Value} {t : TypeId} {fr : Nat × Nat} {Γ : Ctx} (h : Old b cs t fr Γ.w0 Γ.B) : ∀ ρ w Lr B, Rel Γ ρ Lr w → (∀ b, B b → b < Γ.w0.heap.size → Γ.B b) → Old b cs t fr w B := by
  intro ρ w Lr B hr hB
  have hlt : b < Γ.w0.heap.size := (Array.getElem?_eq_some_iff.1 h.1).1
  exact ⟨(hr.old b hlt h.2).trans h.1, fun hb => h.2 (hB b hb hlt)⟩

/-! the calls, as the evaluator meets them -/
section
variable {P : Program} {fid : FuncId} {args args' : List V} {L0 L1 : List O} {v : V} {Γ : Ctx} {n : Nat} {L : List O} {K : LK}

/-- A call that reads what it is handed, and leaves it as it was. -/
theorem SpecW.use {W : World → (Nat → Prop) → Prop} (h : SpecW P W fid args L0 v L0) (ks : List Nat) (hargs : mapIdsL (atL ks) args = args') (hh : handed (atL ks) L ks L0) (hW : ∀ ρ w Lr B, Rel Γ ρ Lr w → (∀ b, B b → b < Γ.w0.heap.size → Γ.B b) → W w B)
    (hK : K ks ⟨v.mapIds (atL ks), [], []⟩) (hb : (nodupB ks && L0.all fun o => match o with | .free => false | _ => true) = true := by rfl) : CallK P Γ n fid args' L K := by
  subst hargs
  simp only [Bool.and_eq_true] at hb
  exact ⟨_, _, h.locR ks hW hb.1 hh hb.2, hK⟩

/-- A call of plain values to a plain value. -/
theorem Spec.pure (h : Spec P fid args [] v []) (hargs : mapIdsL (atL []) args = args') (hK : K [] ⟨v.mapIds (atL []), [], []⟩) : CallK P Γ n fid args' L K :=
  SpecW.use h [] hargs trivial (fun _ _ _ _ _ _ => trivial) hK

/-- A call that reads what it is handed. -/
theorem Spec.read (h : Spec P fid args L0 v L0) (ks : List Nat) (hargs : mapIdsL (atL ks) args = args') (hh : handed (atL ks) L ks L0) (hK : K ks ⟨v.mapIds (atL ks), [], []⟩)
    (hb : (nodupB ks && L0.all fun o => match o with | .free => false | _ => true) = true := by rfl) : CallK P Γ n fid args' L K :=
  SpecW.use h ks hargs hh (fun _ _ _ _ _ _ => trivial) hK hb

/-- A call that reads memory from outside, and what it is handed. -/
theorem SpecW.readW {W : World → (Nat → Prop) → Prop} (h : SpecW P W fid args L0 v L0) (hW : ∀ ρ w Lr B, Rel Γ ρ Lr w → (∀ b, B b → b < Γ.w0.heap.size → Γ.B b) → W w B) (ks : List Nat) (hargs : mapIdsL (atL ks) args = args') (hh : handed (atL ks) L ks L0) (hK : K ks ⟨v.mapIds (atL ks), [], []⟩)
    (hb : (nodupB ks && L0.all fun o => match o with | .free => false | _ => true) = true := by rfl) : CallK P Γ n fid args' L K :=
  SpecW.use h ks hargs hh hW hK hb
/-- A call that reads memory from outside, and writes, or makes. -/
theorem SpecW.makeW {W : World → (Nat → Prop) → Prop} (h : SpecW P W fid args L0 v L1) (hW : ∀ ρ w Lr B, Rel Γ ρ Lr w → (∀ b, B b → b < Γ.w0.heap.size → Γ.B b) → W w B) (ks : List Nat) (hargs : mapIdsL (sig ks n) args = args') (hh : handed (sig ks n) L ks L0)
    (hK : K ks ⟨v.mapIds (sig ks n), wrOf (sig ks n) ks L1, mapO (sig ks n) (L1.drop ks.length)⟩)
    (hb : (nodupB ks && (L0.all fun o => match o with | .free => false | _ => true) && (L1.all fun o => match o with | .free => false | _ => true) && Nat.ble ks.length L1.length) = true := by rfl) : CallK P Γ n fid args' L K := by
  subst hargs
  simp only [Bool.and_eq_true] at hb
  obtain ⟨⟨⟨h1, h2⟩, h3⟩, h4⟩ := hb
  exact ⟨_, _, SpecW.loc h ks hW h1 hh h2 h3 h4, hK⟩
/-- A call that writes, or makes. -/
theorem Spec.make (h : Spec P fid args L0 v L1) (ks : List Nat) (hargs : mapIdsL (sig ks n) args = args') (hh : handed (sig ks n) L ks L0)
    (hK : K ks ⟨v.mapIds (sig ks n), wrOf (sig ks n) ks L1, mapO (sig ks n) (L1.drop ks.length)⟩)
    (hb : (nodupB ks && (L0.all fun o => match o with | .free => false | _ => true) && (L1.all fun o => match o with | .free => false | _ => true) && Nat.ble ks.length L1.length) = true := by rfl) : CallK P Γ n fid args' L K := by
  subst hargs
  simp only [Bool.and_eq_true] at hb
  obtain ⟨⟨⟨h1, h2⟩, h3⟩, h4⟩ := hb
  exact ⟨_, _, SpecW.loc h ks (fun _ _ _ _ _ _ => trivial) h1 hh h2 h3 h4, hK⟩
end
end Go.Proofs.Ytpangmameocfmaa.VE
