/- Contracts of functions of the given program, for all arguments that the contract names; see each theorem. -/
import Derived.Test.YtgpgcdofhkpeaaaEd
set_option linter.all false
namespace Go.Proofs.Ytgpgcdofhkpeaaa.VE
open Go

/-! pools: rows of rows. What is told of a state is told in another way ('ghost' steps): the state itself stays. -/

/-- Two objects that say the same. -/
def eqO (ρ : Rho) (o o' : O) : Prop :=
  o = o' ∨ (o.shape ≠ none ∧ o'.shape = o.shape ∧ o'.view ρ = o.view ρ) ∨ ∃ es es', o = .mo es ∧ o' = .mo es' ∧ es.map (fun p => (p.1, p.2.ren ρ)) = es'.map (fun p => (p.1, p.2.ren ρ))
def simO (ρ : Rho) : List O → List O → Prop
  | [], [] => True
  | o :: r, o' :: r' => eqO ρ o o' ∧ simO ρ r r'
  | _, _ => False
def simS (ρ : Rho) : List (Nat × V) → List (Nat × V) → Prop
  | [], [] => True
  | (t, v) :: r, (t', v') :: r' => t' = t ∧ v'.ren ρ = v.ren ρ ∧ simS ρ r r'
  | _, _ => False
theorem simO_get {ρ : Rho} : ∀ {H H' : List O}, simO ρ H H' → H'.length = H.length ∧ ∀ (i : Nat) (o' : O), H'[i]? = some o' → ∃ o, H[i]? = some o ∧ eqO ρ o o'
  | [], [], _ => ⟨rfl, fun i o h => by simp at h⟩
  | o :: r, o' :: r', h => by
    obtain ⟨h1, h2⟩ := simO_get h.2
    refine ⟨by simp [h1], fun i x hx => ?_⟩
    cases i with
    | zero => simp at hx; subst hx; exact ⟨o, by simp, h.1⟩
    | succ i => simpa using h2 i x (by simpa using hx)
  | [], _ :: _, h => h.elim
  | _ :: _, [], h => h.elim
theorem simO_refl {ρ : Rho} : ∀ H : List O, simO ρ H H
  | [] => trivial
  | _ :: r => ⟨.inl rfl, simO_refl r⟩
theorem simS_refl {ρ : Rho} : ∀ S : List (Nat × V), simS ρ S S
  | [] => trivial
  | _ :: r => ⟨rfl, rfl, simS_refl r⟩
theorem eqO_own {ρ : Rho} {o o' : O} (h : eqO ρ o o') (id : Nat) : o'.own ρ id = o.own ρ id := by
  rcases h with rfl | ⟨h1, h2, _⟩ | ⟨es, es', rfl, rfl, _⟩
  · rfl
  · exact shape_own h2 h1
  · rfl
theorem eqO_at {ρ : Rho} {w : World} {id : Nat} {o o' : O} (h : eqO ρ o o') (ho : objAt ρ w id o) : objAt ρ w id o' := by
  rcases h with rfl | ⟨h1, h2, h3⟩ | ⟨es, es', rfl, rfl, h3⟩
  · exact ho
  · cases hs : o.shape with
    | none => exact absurd hs h1
    | some s =>
      rcases s with t | ⟨e, sz, n⟩
      · rw [objAt_inl (h2.trans hs), h3]; exact (objAt_inl hs).1 ho
      · rw [objAt_inr (h2.trans hs), h3]; exact (objAt_inr hs).1 ho
  · obtain ⟨ents, e1, e2, e3⟩ := ho
    exact ⟨ents, e1, e2, e3.trans h3⟩
theorem eqO_free {ρ : Rho} {o o' : O} (h : eqO ρ o o') : o' = .free ↔ o = .free := by
  rcases h with rfl | ⟨h1, h2, _⟩ | ⟨es, es', rfl, rfl, _⟩
  · exact Iff.rfl
  · constructor
    · rintro rfl; simp [O.shape] at h2; exact absurd h2.symm h1
    · rintro rfl; simp [O.shape] at h1
  · simp

theorem Rel.told {Γ : Ctx} {ρ : Rho} {H H' : List O} {w : World} (h : Rel Γ ρ H w) (hs : simO ρ H H') (hk : ∀ k ∈ idsO H', okId H' k) : Rel Γ ρ H' w := by
  obtain ⟨hl, hg⟩ := simO_get hs
  refine ⟨h.os, h.tape, h.output, h.size, h.old, ?_, ?_, ?_, ?_, h.fix, by rw [hl]; exact h.mle⟩
  · intro id o ho
    obtain ⟨x, hx, he⟩ := hg id o ho
    exact eqO_at he (h.obj id x hx)
  · intro id o b ho hb
    obtain ⟨x, hx, he⟩ := hg id o ho
    exact h.own id x b hx (by rw [← eqO_own he]; exact hb)
  · intro i j oi oj b hi hj hbi hbj
    obtain ⟨x, hx, he⟩ := hg i oi hi
    obtain ⟨y, hy, he'⟩ := hg j oj hj
    exact h.disj i j x y b hx hy (by rw [← eqO_own he]; exact hbi) (by rw [← eqO_own he']; exact hbj)
  · intro id o ho k hk'
    exact hk k (mem_idsO (List.mem_of_getElem? ho) hk')

def simS2 (ρ ρ' : Rho) : List (Nat × V) → List (Nat × V) → Prop
  | [], [] => True
  | (t, v) :: r, (t', v') :: r' => (t' = t ∧ v'.ren ρ' = v.ren ρ) ∧ simS2 ρ ρ' r r'
  | _, _ => False
/-- A ghost step: whatever the state that is told so, it is told so, too. -/
def GG (S : List (Nat × V)) (H : List O) (S' : List (Nat × V)) (H' : List O) : Prop :=
  ∀ Γ ρ w, Rel Γ ρ H w → (∀ k ∈ idsS S, okId H k) → ∃ ρ', Rel Γ ρ' H' w ∧ (∀ k ∈ idsS S', okId H' k) ∧ simS2 ρ ρ' S S'

theorem slS_ren {ρ ρ' : Rho} {g : Sl} (hg : ∀ t, (g t).ren ρ' = (g t).ren ρ) : ∀ {S S' : List (Nat × V)}, simS2 ρ ρ' S S' → ∀ t, (slS g S' t).ren ρ' = (slS g S t).ren ρ
  | [], [], _, t => hg t
  | (t0, v) :: r, (t1, v') :: r', h, t => by
    obtain ⟨⟨rfl, h1⟩, h2⟩ := h
    by_cases ht : t = t1
    · subst ht; simp only [slS, upd, Nat.beq_refl, cond_true]; exact h1
    · simp only [slS, upd, beq_ne ht, cond_false]; exact slS_ren hg h2 t
  | [], _ :: _, h, _ => h.elim
  | _ :: _, [], h, _ => h.elim
theorem slS_ids {g : Sl} (hg : ∀ t, (g t).ids = []) : ∀ {S : List (Nat × V)} {t k : Nat}, k ∈ (slS g S t).ids → k ∈ idsS S
  | [], t, k, h => by simp [slS, hg] at h
  | (t0, v) :: r, t, k, h => by
    by_cases ht : t = t0
    · subst ht; simp only [slS, upd, Nat.beq_refl, cond_true] at h; simp [idsS, h]
    · simp only [slS, upd, beq_ne ht, cond_false] at h; simp [idsS, slS_ids hg h]

theorem GG.trans {S S1 S2 : List (Nat × V)} {H H1 H2 : List O} (h1 : GG S H S1 H1) (h2 : GG S1 H1 S2 H2) : GG S H S2 H2 := by
  intro Γ ρ w hr hk
  obtain ⟨ρ1, a1, a2, a3⟩ := h1 Γ ρ w hr hk
  obtain ⟨ρ2, b1, b2, b3⟩ := h2 Γ ρ1 w a1 a2
  refine ⟨ρ2, b1, b2, ?_⟩
  clear hk a2 b2 h1 h2
  induction S generalizing S1 S2 with
  | nil => cases S1 with
    | nil => cases S2 with
      | nil => trivial
      | cons _ _ => exact b3.elim
    | cons _ _ => exact a3.elim
  | cons p r ih => cases S1 with
    | nil => exact a3.elim
    | cons p1 r1 => cases S2 with
      | nil => exact b3.elim
      | cons p2 r2 => exact ⟨⟨b3.1.1.trans a3.1.1, b3.1.2.trans a3.1.2⟩, ih a3.2 b3.2⟩

section
variable {P : Program} {Γ : Ctx} {nt : Nat}
theorem code_ghost {c : Code} {Q : Exit → Sl → List O → Prop} {f : Sl} {L : List O} {π : List Nat} {S S' : List (Nat × V)} {H H' : List O} (start : enter Γ.m π f L S H) (hg : GG S H S' H')
    (h : ∀ g, codeOK P Γ nt c Q (slS g S') H') : codeOK P Γ nt c Q f L := by
  intro ρ a w ha hr
  have hok := (goodB_elim start.2.2).2.2.2.1
  obtain ⟨h1, h2⟩ := enter_rel ha hr start
  obtain ⟨ρ', h3, h4, h5⟩ := hg Γ _ w h2 (okIds_elim hok)
  refine h (fun t => .raw (a.tmps.getD t undef)) ρ' a w ⟨h1.defers, h1.size, fun t => ?_, fun t k hk => h4 k (slS_ids (fun _ => rfl) hk)⟩ h3
  rw [h1.slot t]
  exact (slS_ren (g := fun t => V.raw (a.tmps.getD t undef)) (fun _ => by simp only [V.ren]) h5 t).symm
theorem reg_ghost {id : Nat} {ops : Array Oper} {Q : Exit → Sl → List O → Prop} {f : Sl} {L : List O} {π : List Nat} {S S' : List (Nat × V)} {H H' : List O} (start : enter Γ.m π f L S H) (hg : GG S H S' H')
    (h : ∀ g, regOK P Γ nt id ops Q (slS g S') H') : regOK P Γ nt id ops Q f L := code_ghost start hg h
theorem draw_ghost {id : Nat} {ops : Array Oper} {Q : Exit → Sl → List O → Prop} {f : Sl} {L : List O} {π : List Nat} {S S' : List (Nat × V)} {H H' : List O} (start : enter Γ.m π f L S H) (hg : GG S H S' H')
    (h : ∀ g, drawOK P Γ nt id ops Q (slS g S') H') : drawOK P Γ nt id ops Q f L := code_ghost start hg h
end

/-! the steps -/
def blkOf (v : Value) : Nat := match v.ownBlock with | some b => b | none => 0
theorem put_lt {ρ : Rho} {n b i : Nat} {v : Value} (h : i < n) : (ρ.put n b v).blk i = ρ.blk i ∧ (ρ.put n b v).val i = ρ.val i := by
  have : i ≠ n := by omega
  simp [Rho.put, this]
theorem get_app {α : Type} {H : List α} {x o : α} {i : Nat} (h : (H ++ [x])[i]? = some o) : (i < H.length ∧ H[i]? = some o) ∨ (i = H.length ∧ o = x) := by
  by_cases hi : i < H.length
  · rw [List.getElem?_append_left hi] at h; exact .inl ⟨hi, h⟩
  · rw [List.getElem?_append_right (by omega)] at h
    by_cases h0 : i - H.length = 0
    · rw [h0] at h; simp at h; exact .inr ⟨by omega, h.symm⟩
    · rw [List.getElem?_eq_none (by simp; omega)] at h; cases h
theorem get_set {α : Type} {H : List α} {x o : α} {i k : Nat} (h : (H.set k x)[i]? = some o) : (i = k ∧ o = x) ∨ (i ≠ k ∧ H[i]? = some o) := by
  by_cases hi : i = k
  · subst hi
    have hlt := lt_of_get h
    rw [List.getElem?_set_self (by simpa using hlt)] at h
    injection h with h; exact .inl ⟨rfl, h.symm⟩
  · rw [List.getElem?_set_ne (Ne.symm hi)] at h; exact .inr ⟨hi, h⟩
theorem tup_part {v : Value} {vs : Array Value} (h : v = .tuple vs) (j : Nat) : tpart v j = vs.getD j undef := by rw [h]; rfl

theorem Rel.lend {Γ : Ctx} {ρ : Rho} {H : List O} {w : World} (h : Rel Γ ρ H w) {k j : Nat} {e : TypeId} {rs : List PR} {xs : List Value} (hk : H[k]? = some (.po e rs)) (hj : rs[j]? = some (.row xs)) :
    Rel Γ (ρ.put H.length (blkOf (tpart (ρ.val k) j)) (tpart (ρ.val k) j)) (H.set k (.po e (rs.set j (.lent H.length))) ++ [.pr e 1 xs.length xs]) w := by
  have hkl := lt_of_get hk
  obtain ⟨vs, v1, v2, v3, v4, v5⟩ := h.obj k _ hk
  have hkey : ∀ {id : Nat} {o : O}, (id = k ∨ id = H.length) → (H.set k (.po e (rs.set j (.lent H.length))) ++ [.pr e 1 xs.length xs])[id]? = some o →
      (id = k ∧ o = .po e (rs.set j (.lent H.length))) ∨ (id = H.length ∧ o = .pr e 1 xs.length xs) := by
    intro id o hM ho
    rcases get_app ho with ⟨h1, h2⟩ | ⟨h1, h2⟩
    · rcases get_set h2 with ⟨rfl, rfl⟩ | ⟨h3, h4⟩
      · exact .inl ⟨rfl, rfl⟩
      · rcases hM with rfl | rfl
        · exact absurd rfl h3
        · simp at h1
    · exact .inr ⟨by simpa using h1, h2⟩
  have hlent : ∀ i r, rs[i]? = some (PR.lent r) → r < H.length := fun i r hi => okId_lt (h.oks k _ hk r (mem_idsP.2 ⟨PR.lent r, List.mem_of_getElem? hi, by simp [PR.ids]⟩))
  have hvk := (put_lt (ρ := ρ) (n := H.length) (b := blkOf (tpart (ρ.val k) j)) (v := tpart (ρ.val k) j) hkl).2
  have hvN : (ρ.put H.length (blkOf (tpart (ρ.val k) j)) (tpart (ρ.val k) j)).val H.length = vs.getD j undef := by simp only [Rho.put, if_pos]; exact tup_part v1 j
  have hbN : (ρ.put H.length (blkOf (tpart (ρ.val k) j)) (tpart (ρ.val k) j)).blk H.length = blkOf (vs.getD j undef) := by simp only [Rho.put, if_pos]; rw [tup_part v1 j]
  have hmono : ∀ i, okId H i → okId (H.set k (.po e (rs.set j (.lent H.length))) ++ [.pr e 1 xs.length xs]) i := fun i hi => okId_append (okId_set (by simp) hi)
  have hokN : okId (H.set k (.po e (rs.set j (.lent H.length))) ++ [.pr e 1 xs.length xs]) H.length := ⟨.pr e 1 xs.length xs, by rw [List.getElem?_append_right (by simp)]; simp, by simp⟩
  refine h.step (fun i => i = k ∨ i = H.length) rfl rfl rfl (Nat.le_refl _) (fun i hi => put_lt (okId_lt hi)) ?_ (fun _ _ _ => rfl) ?_ ?_ ?_ ?_ hmono (fun i hi => put_lt (Nat.lt_of_lt_of_le hi h.mle)) (by simp)
  · intro id hM
    by_cases hi : id < H.length
    · rw [List.getElem?_append_left (by simpa using hi), List.getElem?_set_ne (fun e => hM (.inl e.symm))]
    · rw [List.getElem?_eq_none (by simp; omega), List.getElem?_eq_none (by omega)]
  · intro id o hM ho
    rcases hkey hM ho with ⟨rfl, rfl⟩ | ⟨rfl, rfl⟩
    · refine ⟨vs, hvk.trans v1, by simpa using v2, fun i ys hi => ?_, fun i r hi => ?_, fun i i' xi xi' b hi hi' hb hb' => ?_⟩
      · rcases get_set hi with ⟨_, h2⟩ | ⟨_, h2⟩
        · cases h2
        · exact v3 i ys h2
      · rcases get_set hi with ⟨rfl, h2⟩ | ⟨_, h2⟩
        · injection h2 with h2; subst h2; exact hvN
        · rw [(put_lt (hlent i r h2)).2]; exact v4 i r h2
      · rcases get_set hi with ⟨_, h2⟩ | ⟨_, h2⟩
        · cases h2
        rcases get_set hi' with ⟨_, h3⟩ | ⟨_, h3⟩
        · cases h3
        exact v5 i i' xi xi' b h2 h3 hb hb'
    · refine ⟨by rw [hvN]; exact v3 j xs hj, fun b hb => ?_⟩
      rw [hvN] at hb
      rw [hbN, blkOf, hb]
  · intro id o b hM ho hb
    rcases hkey hM ho with ⟨rfl, rfl⟩ | ⟨rfl, rfl⟩
    · obtain ⟨i, ys, hi, hb⟩ := hb
      rw [hvk] at hb
      rcases get_set hi with ⟨_, h2⟩ | ⟨_, h2⟩
      · cases h2
      exact ⟨(h.own id _ b hk ⟨i, ys, h2, hb⟩).1, .inr ⟨id, _, .inl rfl, hk, ⟨i, ys, h2, hb⟩⟩⟩
    · have hb : ((ρ.put H.length (blkOf (tpart (ρ.val k) j)) (tpart (ρ.val k) j)).val H.length).ownBlock = some b := hb
      rw [hvN] at hb
      have : O.own ρ k (.po e rs) b := ⟨j, xs, hj, by rw [tup_part v1 j]; exact hb⟩
      exact ⟨(h.own k _ b hk this).1, .inr ⟨k, _, .inl rfl, hk, this⟩⟩
  · intro i i' oi oi' b hM hM' hi hi' hb hb'
    have key : ∀ b, O.own (ρ.put H.length (blkOf (tpart (ρ.val k) j)) (tpart (ρ.val k) j)) k (.po e (rs.set j (.lent H.length))) b → O.own (ρ.put H.length (blkOf (tpart (ρ.val k) j)) (tpart (ρ.val k) j)) H.length (.pr e 1 xs.length xs) b → False := by
      rintro b ⟨i, ys, hi, hb⟩ hb'
      have hb' : ((ρ.put H.length (blkOf (tpart (ρ.val k) j)) (tpart (ρ.val k) j)).val H.length).ownBlock = some b := hb'
      rw [hvN] at hb'
      rw [hvk, tup_part v1 i] at hb
      rcases get_set hi with ⟨_, h2⟩ | ⟨h3, h2⟩
      · cases h2
      exact h3 (v5 i j ys xs b h2 hj hb hb')
    rcases hkey hM hi with ⟨rfl, rfl⟩ | ⟨rfl, rfl⟩
    · rcases hkey hM' hi' with ⟨rfl, rfl⟩ | ⟨rfl, rfl⟩
      · rfl
      · exact (key b hb hb').elim
    · rcases hkey hM' hi' with ⟨rfl, rfl⟩ | ⟨rfl, rfl⟩
      · exact (key b hb' hb).elim
      · rfl
  · intro id o hM ho r hr
    rcases hkey hM ho with ⟨rfl, rfl⟩ | ⟨rfl, rfl⟩
    · obtain ⟨p, hp, hrp⟩ := mem_idsP.1 hr
      obtain ⟨i, hi⟩ := List.mem_iff_getElem?.1 hp
      rcases get_set hi with ⟨_, rfl⟩ | ⟨_, h2⟩
      · simp [PR.ids] at hrp; subst hrp; exact hokN
      · exact hmono r (h.oks id _ hk r (mem_idsP.2 ⟨p, List.mem_of_getElem? h2, hrp⟩))
    · simp [O.ids] at hr

theorem Rel.back {Γ : Ctx} {ρ : Rho} {H : List O} {w : World} (h : Rel Γ ρ H w) {k j r n : Nat} {e : TypeId} {rs : List PR} {xs : List Value} (hk : H[k]? = some (.po e rs)) (hj : rs[j]? = some (.lent r)) (hr : H[r]? = some (.pr e 1 n xs)) :
    Rel Γ ρ ((H.set k (.po e (rs.set j (.row xs)))).set r .dead) w ∧ tpart (ρ.val k) j = ρ.val r := by
  have hkl := lt_of_get hk
  have hrl := lt_of_get hr
  have hne : r ≠ k := by rintro rfl; rw [hk] at hr; cases hr
  obtain ⟨vs, v1, v2, v3, v4, v5⟩ := h.obj k _ hk
  have hrow : rowAt ρ w r e 1 n xs := h.obj r _ hr
  have hn : n = xs.length := by have := hrow.1.1; omega
  have hvr := v4 j r hj
  refine ⟨?_, by rw [tup_part v1 j]; exact hvr.symm⟩
  have hkey : ∀ {id : Nat} {o : O}, (id = k ∨ id = r) → ((H.set k (.po e (rs.set j (.row xs)))).set r .dead)[id]? = some o → (id = k ∧ o = .po e (rs.set j (.row xs))) ∨ (id = r ∧ o = .dead) := by
    intro id o hM ho
    rcases get_set ho with ⟨h1, h2⟩ | ⟨h1, h2⟩
    · exact .inr ⟨h1, h2⟩
    · rcases get_set h2 with ⟨h3, h4⟩ | ⟨h3, h4⟩
      · exact .inl ⟨h3, h4⟩
      · rcases hM with rfl | rfl
        · exact absurd rfl h3
        · exact absurd rfl h1
  have hownr : ∀ b, (vs.getD j undef).ownBlock = some b → O.own ρ r (.pr e 1 n xs) b := fun b hb => by
    rw [← hvr] at hb; exact hb
  have hmono : ∀ i, okId H i → okId ((H.set k (.po e (rs.set j (.row xs)))).set r .dead) i := fun i hi => okId_set (by simp) (okId_set (by simp) hi)
  refine h.step (fun i => i = k ∨ i = r) rfl rfl rfl (Nat.le_refl _) (fun i hi => ⟨rfl, rfl⟩) ?_ (fun _ _ _ => rfl) ?_ ?_ ?_ ?_ hmono (fun i hi => ⟨rfl, rfl⟩) (by simp)
  · intro id hM
    rw [List.getElem?_set_ne (fun e => hM (.inr e.symm)), List.getElem?_set_ne (fun e => hM (.inl e.symm))]
  · intro id o hM ho
    rcases hkey hM ho with ⟨rfl, rfl⟩ | ⟨rfl, rfl⟩
    · refine ⟨vs, v1, by simpa using v2, fun i ys hi => ?_, fun i r' hi => ?_, fun i i' xi xi' b hi hi' hb hb' => ?_⟩
      · rcases get_set hi with ⟨rfl, h2⟩ | ⟨_, h2⟩
        · injection h2 with h2; subst h2
          rw [← hvr, ← hn]; exact hrow.1
        · exact v3 i ys h2
      · rcases get_set hi with ⟨rfl, h2⟩ | ⟨_, h2⟩
        · cases h2
        · exact v4 i r' h2
      · rcases get_set hi with ⟨rfl, _⟩ | ⟨n1, h2⟩
        · rcases get_set hi' with ⟨rfl, _⟩ | ⟨n2, h3⟩
          · rfl
          · exact absurd (h.disj r id _ _ b hr hk (hownr b hb) ⟨i', xi', h3, by rw [tup_part v1]; exact hb'⟩) hne
        · rcases get_set hi' with ⟨rfl, _⟩ | ⟨n2, h3⟩
          · exact absurd (h.disj r id _ _ b hr hk (hownr b hb') ⟨i, xi, h2, by rw [tup_part v1]; exact hb⟩) hne
          · exact v5 i i' xi xi' b h2 h3 hb hb'
    · trivial
  · intro id o b hM ho hb
    rcases hkey hM ho with ⟨rfl, rfl⟩ | ⟨rfl, rfl⟩
    · obtain ⟨i, ys, hi, hb⟩ := hb
      rcases get_set hi with ⟨rfl, h2⟩ | ⟨_, h2⟩
      · rw [tup_part v1] at hb
        exact ⟨(h.own r _ b hr (hownr b hb)).1, .inr ⟨r, _, .inr rfl, hr, hownr b hb⟩⟩
      · exact ⟨(h.own id _ b hk ⟨i, ys, h2, hb⟩).1, .inr ⟨id, _, .inl rfl, hk, ⟨i, ys, h2, hb⟩⟩⟩
    · exact absurd hb (by simp [O.own, O.own1])
  · intro i i' oi oi' b hM hM' hi hi' hb hb'
    rcases hkey hM hi with ⟨rfl, rfl⟩ | ⟨rfl, rfl⟩
    · rcases hkey hM' hi' with ⟨rfl, rfl⟩ | ⟨rfl, rfl⟩
      · rfl
      · exact absurd hb' (by simp [O.own, O.own1])
    · exact absurd hb (by simp [O.own, O.own1])
  · intro id o hM ho q hq
    rcases hkey hM ho with ⟨rfl, rfl⟩ | ⟨rfl, rfl⟩
    · obtain ⟨p, hp, hqp⟩ := mem_idsP.1 hq
      obtain ⟨i, hi⟩ := List.mem_iff_getElem?.1 hp
      rcases get_set hi with ⟨_, rfl⟩ | ⟨_, h2⟩
      · simp [PR.ids] at hqp
      · exact hmono q (h.oks id _ hk q (mem_idsP.2 ⟨p, List.mem_of_getElem? h2, hqp⟩))
    · simp [O.ids] at hq

theorem getD_push {vs : Array Value} {x : Value} {i : Nat} (h : i < vs.size) : (vs.push x).getD i undef = vs.getD i undef := by
  simp [Array.getD_eq_getD_getElem?, Array.getElem?_push, Nat.ne_of_lt h]
theorem getD_push_self {vs : Array Value} {x : Value} : (vs.push x).getD vs.size undef = x := by
  simp [Array.getD_eq_getD_getElem?]

/-- A row goes into a pool: the pool under a new id. -/
theorem Rel.absorb {Γ : Ctx} {ρ : Rho} {H : List O} {w : World} (h : Rel Γ ρ H w) {k m n : Nat} {e : TypeId} {rs : List PR} {xs : List Value} (hk : H[k]? = some (.po e rs)) (hm : H[m]? = some (.pr e 1 n xs)) :
    ∃ ρ', Rel Γ ρ' (((H.set k .dead).set m .dead) ++ [.po e (rs ++ [.row xs])]) w ∧ (∀ i, i < H.length → ρ'.blk i = ρ.blk i ∧ ρ'.val i = ρ.val i) ∧ (∀ j, j < rs.length → tpart (ρ'.val H.length) j = tpart (ρ.val k) j) ∧ tpart (ρ'.val H.length) rs.length = ρ.val m := by
  have hkl := lt_of_get hk
  have hml := lt_of_get hm
  have hne : m ≠ k := by rintro rfl; rw [hk] at hm; cases hm
  obtain ⟨vs, v1, v2, v3, v4, v5⟩ := h.obj k _ hk
  have hrow : rowAt ρ w m e 1 n xs := h.obj m _ hm
  have hn : n = xs.length := by have := hrow.1.1; omega
  have hag := fun i (hi : i < H.length) => put_lt (ρ := ρ) (b := 0) (v := .tuple (vs.push (ρ.val m))) hi
  have hvN : (ρ.put H.length 0 (.tuple (vs.push (ρ.val m)))).val H.length = .tuple (vs.push (ρ.val m)) := by simp only [Rho.put, if_pos]
  have hp1 : ∀ j, j < rs.length → tpart ((ρ.put H.length 0 (.tuple (vs.push (ρ.val m)))).val H.length) j = tpart (ρ.val k) j := fun j hj => by
    rw [tup_part hvN, tup_part v1, getD_push (by omega)]
  have hp2 : tpart ((ρ.put H.length 0 (.tuple (vs.push (ρ.val m)))).val H.length) rs.length = ρ.val m := by
    rw [tup_part hvN, ← v2, getD_push_self]
  refine ⟨ρ.put H.length 0 (.tuple (vs.push (ρ.val m))), ?_, hag, hp1, hp2⟩
  have hkey : ∀ {id : Nat} {o : O}, (id = k ∨ id = m ∨ id = H.length) → (((H.set k .dead).set m .dead) ++ [.po e (rs ++ [.row xs])])[id]? = some o → o = .dead ∨ (id = H.length ∧ o = .po e (rs ++ [.row xs])) := by
    intro id o hM ho
    rcases get_app ho with ⟨h1, h2⟩ | ⟨h1, h2⟩
    · rcases get_set h2 with ⟨_, h4⟩ | ⟨h3, h4⟩
      · exact .inl h4
      · rcases get_set h4 with ⟨_, h5⟩ | ⟨h5, _⟩
        · exact .inl h5
        · rcases hM with rfl | rfl | rfl
          · exact absurd rfl h5
          · exact absurd rfl h3
          · simp at h1
    · exact .inr ⟨by simpa using h1, h2⟩
  have hrs : ∀ {i : Nat} {p : PR}, (rs ++ [PR.row xs])[i]? = some p → (i < rs.length ∧ rs[i]? = some p) ∨ (i = rs.length ∧ p = .row xs) := fun hi => get_app hi
  have hmono : ∀ i, okId H i → okId (((H.set k .dead).set m .dead) ++ [.po e (rs ++ [.row xs])]) i := fun i hi => okId_append (okId_set (by simp) (okId_set (by simp) hi))
  have hownm : ∀ b, (ρ.val m).ownBlock = some b → O.own ρ m (.pr e 1 n xs) b := fun b hb => hb
  refine h.step (fun i => i = k ∨ i = m ∨ i = H.length) rfl rfl rfl (Nat.le_refl _) (fun i hi => hag i (okId_lt hi)) ?_ (fun _ _ _ => rfl) ?_ ?_ ?_ ?_ hmono (fun i hi => hag i (Nat.lt_of_lt_of_le hi h.mle)) (by simp)
  · intro id hM
    by_cases hi : id < H.length
    · rw [List.getElem?_append_left (by simpa using hi), List.getElem?_set_ne (fun e => hM (.inr (.inl e.symm))), List.getElem?_set_ne (fun e => hM (.inl e.symm))]
    · rw [List.getElem?_eq_none (by simp; omega), List.getElem?_eq_none (by omega)]
  · intro id o hM ho
    rcases hkey hM ho with rfl | ⟨rfl, rfl⟩
    · trivial
    · refine ⟨_, hvN, by simp [v2], fun i ys hi => ?_, fun i r hi => ?_, fun i i' xi xi' b hi hi' hb hb' => ?_⟩
      · rcases hrs hi with ⟨h1, h2⟩ | ⟨h1, h2⟩
        · rw [getD_push (by omega)]; exact v3 i ys h2
        · injection h2 with h2; subst h2
          rw [h1, ← v2, getD_push_self, ← hn]; exact hrow.1
      · rcases hrs hi with ⟨h1, h2⟩ | ⟨h1, h2⟩
        · rw [getD_push (by omega), (hag r (okId_lt (h.oks k _ hk r (mem_idsP.2 ⟨PR.lent r, List.mem_of_getElem? h2, by simp [PR.ids]⟩)))).2]; exact v4 i r h2
        · cases h2
      · rcases hrs hi with ⟨h1, h2⟩ | ⟨h1, h2⟩
        · rw [getD_push (by omega)] at hb
          rcases hrs hi' with ⟨h3, h4⟩ | ⟨h3, h4⟩
          · rw [getD_push (by omega)] at hb'
            exact v5 i i' xi xi' b h2 h4 hb hb'
          · rw [h3, ← v2, getD_push_self] at hb'
            exact absurd (h.disj m k _ _ b hm hk (hownm b hb') ⟨i, xi, h2, by rw [tup_part v1]; exact hb⟩) hne
        · rw [h1, ← v2, getD_push_self] at hb
          rcases hrs hi' with ⟨h3, h4⟩ | ⟨h3, h4⟩
          · rw [getD_push (by omega)] at hb'
            exact absurd (h.disj m k _ _ b hm hk (hownm b hb) ⟨i', xi', h4, by rw [tup_part v1]; exact hb'⟩) hne
          · omega
  · intro id o b hM ho hb
    rcases hkey hM ho with rfl | ⟨rfl, rfl⟩
    · exact absurd hb (by simp [O.own, O.own1])
    · obtain ⟨i, ys, hi, hb⟩ := hb
      rcases hrs hi with ⟨h1, h2⟩ | ⟨h1, h2⟩
      · rw [hp1 i h1] at hb
        exact ⟨(h.own k _ b hk ⟨i, ys, h2, hb⟩).1, .inr ⟨k, _, .inl rfl, hk, ⟨i, ys, h2, hb⟩⟩⟩
      · rw [h1, hp2] at hb
        exact ⟨(h.own m _ b hm (hownm b hb)).1, .inr ⟨m, _, .inr (.inl rfl), hm, hownm b hb⟩⟩
  · intro i i' oi oi' b hM hM' hi hi' hb hb'
    rcases hkey hM hi with rfl | ⟨rfl, rfl⟩
    · exact absurd hb (by simp [O.own, O.own1])
    · rcases hkey hM' hi' with rfl | ⟨rfl, rfl⟩
      · exact absurd hb' (by simp [O.own, O.own1])
      · rfl
  · intro id o hM ho q hq
    rcases hkey hM ho with rfl | ⟨rfl, rfl⟩
    · simp [O.ids] at hq
    · obtain ⟨p, hp, hqp⟩ := mem_idsP.1 hq
      obtain ⟨i, hi⟩ := List.mem_iff_getElem?.1 hp
      rcases hrs hi with ⟨_, h2⟩ | ⟨_, rfl⟩
      · exact hmono q (h.oks k _ hk q (mem_idsP.2 ⟨p, List.mem_of_getElem? h2, hqp⟩))
      · simp [PR.ids] at hqp

/-- An object that owns nothing, and needs nothing. -/
theorem Rel.more {Γ : Ctx} {ρ : Rho} {H : List O} {w : World} (h : Rel Γ ρ H w) {o : O} {v : Value} (hids : o.ids = []) (hown : ∀ ρ' : Rho, ρ'.val H.length = v → ∀ b, ¬ o.own ρ' H.length b) (hat : ∀ ρ' : Rho, ρ'.val H.length = v → objAt ρ' w H.length o) (hf : o ≠ .free) :
    Rel Γ (ρ.put H.length 0 v) (H ++ [o]) w := by
  have hvN : (ρ.put H.length 0 v).val H.length = v := by simp only [Rho.put, if_pos]
  have hkey : ∀ {id : Nat} {o' : O}, id = H.length → (H ++ [o])[id]? = some o' → o' = o := by
    rintro id o' rfl ho
    rcases get_app ho with ⟨h1, _⟩ | ⟨_, h2⟩
    · omega
    · exact h2
  refine h.step (fun i => i = H.length) rfl rfl rfl (Nat.le_refl _) (fun i hi => put_lt (okId_lt hi)) ?_ (fun _ _ _ => rfl) ?_ ?_ ?_ ?_ (fun i hi => okId_append hi) (fun i hi => put_lt (Nat.lt_of_lt_of_le hi h.mle)) (by simp)
  · intro id hM
    by_cases hi : id < H.length
    · rw [List.getElem?_append_left hi]
    · have hM : id ≠ H.length := hM
      rw [List.getElem?_eq_none (by simp; omega), List.getElem?_eq_none (by omega)]
  · intro id o' hM ho
    have hM : id = H.length := hM
    have := hkey hM ho; subst this; subst hM; exact hat _ hvN
  · intro id o' b hM ho hb
    have hM : id = H.length := hM
    have := hkey hM ho; subst this; subst hM
    exact absurd hb (hown _ hvN b)
  · intro i i' _ _ _ hM hM' _ _ _ _
    exact (show i = H.length from hM).trans (show i' = H.length from hM').symm
  · intro id o' hM ho q hq
    have := hkey hM ho; subst this
    rw [hids] at hq; cases hq

/-- A pool is made anew out of its rows, and of a row. -/
theorem Rel.rebuild {Γ : Ctx} {ρ : Rho} {H : List O} {w : World} (h : Rel Γ ρ H w) {k m n : Nat} {e : TypeId} {rs rs' : List PR} {xs : List Value} (hk : H[k]? = some (.po e rs)) (hm : H[m]? = some (.pr e 1 n xs)) (src : Nat → Option Nat)
    (hin : ∀ i j, i < rs'.length → src i = some j → j < rs.length ∧ rs'[i]? = rs[j]?) (hno : ∀ i, i < rs'.length → src i = none → rs'[i]? = some (.row xs)) (inj : ∀ i i', i < rs'.length → i' < rs'.length → src i = src i' → i = i') :
    ∃ ρ', Rel Γ ρ' (((H.set k .dead).set m .dead) ++ [.po e rs']) w ∧ (∀ i, i < H.length → ρ'.blk i = ρ.blk i ∧ ρ'.val i = ρ.val i) ∧
      ∀ i, i < rs'.length → tpart (ρ'.val H.length) i = match src i with | some j => tpart (ρ.val k) j | none => ρ.val m := by
  have hkl := lt_of_get hk
  have hml := lt_of_get hm
  have hne : m ≠ k := by rintro rfl; rw [hk] at hm; cases hm
  obtain ⟨vs, v1, v2, v3, v4, v5⟩ := h.obj k _ hk
  have hrow : rowAt ρ w m e 1 n xs := h.obj m _ hm
  have hn : n = xs.length := by have := hrow.1.1; omega
  generalize hus : (((List.range rs'.length).map fun i => match src i with | some j => vs.getD j undef | none => ρ.val m).toArray : Array Value) = us
  have hul : us.size = rs'.length := by rw [← hus]; simp
  have hu : ∀ i, i < rs'.length → us.getD i undef = match src i with | some j => vs.getD j undef | none => ρ.val m := fun i hi => by
    rw [← hus]; simp [hi]
  have hag := fun i (hi : i < H.length) => put_lt (ρ := ρ) (b := 0) (v := .tuple us) hi
  have hvN : (ρ.put H.length 0 (.tuple us)).val H.length = .tuple us := by simp only [Rho.put, if_pos]
  have hp : ∀ i, i < rs'.length → tpart ((ρ.put H.length 0 (.tuple us)).val H.length) i = match src i with | some j => tpart (ρ.val k) j | none => ρ.val m := fun i hi => by
    rw [tup_part hvN, hu i hi]
    cases src i with
    | none => rfl
    | some j => exact (tup_part v1 j).symm
  refine ⟨ρ.put H.length 0 (.tuple us), ?_, hag, hp⟩
  have hkey : ∀ {id : Nat} {o : O}, (id = k ∨ id = m ∨ id = H.length) → (((H.set k .dead).set m .dead) ++ [.po e rs'])[id]? = some o → o = .dead ∨ (id = H.length ∧ o = .po e rs') := by
    intro id o hM ho
    rcases get_app ho with ⟨h1, h2⟩ | ⟨h1, h2⟩
    · rcases get_set h2 with ⟨_, h4⟩ | ⟨h3, h4⟩
      · exact .inl h4
      · rcases get_set h4 with ⟨_, h5⟩ | ⟨h5, _⟩
        · exact .inl h5
        · rcases hM with rfl | rfl | rfl
          · exact absurd rfl h5
          · exact absurd rfl h3
          · simp at h1
    · exact .inr ⟨by simpa using h1, h2⟩
  have hmono : ∀ i, okId H i → okId (((H.set k .dead).set m .dead) ++ [.po e rs']) i := fun i hi => okId_append (okId_set (by simp) (okId_set (by simp) hi))
  have hownm : ∀ b, (ρ.val m).ownBlock = some b → O.own ρ m (.pr e 1 n xs) b := fun b hb => hb
  -- a new row: where it came from, and whose block it is
  have hsrc : ∀ {i : Nat} {ys : List Value}, rs'[i]? = some (.row ys) → (∃ j, src i = some j ∧ rs[j]? = some (.row ys) ∧ us.getD i undef = vs.getD j undef) ∨ (src i = none ∧ ys = xs ∧ us.getD i undef = ρ.val m) := by
    intro i ys hi
    have hlt := lt_of_get hi
    cases hs : src i with
    | none =>
      have := hno i hlt hs
      rw [hi] at this
      injection this with this; injection this with this
      exact .inr ⟨rfl, this, by rw [hu i hlt, hs]⟩
    | some j =>
      have := (hin i j hlt hs).2
      rw [hi] at this
      exact .inl ⟨j, rfl, this.symm, by rw [hu i hlt, hs]⟩
  refine h.step (fun i => i = k ∨ i = m ∨ i = H.length) rfl rfl rfl (Nat.le_refl _) (fun i hi => hag i (okId_lt hi)) ?_ (fun _ _ _ => rfl) ?_ ?_ ?_ ?_ hmono (fun i hi => hag i (Nat.lt_of_lt_of_le hi h.mle)) (by simp)
  · intro id hM
    by_cases hi : id < H.length
    · rw [List.getElem?_append_left (by simpa using hi), List.getElem?_set_ne (fun e => hM (.inr (.inl e.symm))), List.getElem?_set_ne (fun e => hM (.inl e.symm))]
    · rw [List.getElem?_eq_none (by simp; omega), List.getElem?_eq_none (by omega)]
  · intro id o hM ho
    rcases hkey hM ho with rfl | ⟨rfl, rfl⟩
    · trivial
    · refine ⟨_, hvN, hul, fun i ys hi => ?_, fun i r hi => ?_, fun i i' xi xi' b hi hi' hb hb' => ?_⟩
      · rcases hsrc hi with ⟨j, _, h2, h3⟩ | ⟨_, rfl, h3⟩
        · rw [h3]; exact v3 j ys h2
        · rw [h3, ← hn]; exact hrow.1
      · have hlt := lt_of_get hi
        cases hs : src i with
        | none => rw [hno i hlt hs] at hi; cases hi
        | some j =>
          rw [(hin i j hlt hs).2] at hi
          rw [hu i hlt, hs, (hag r (okId_lt (h.oks k _ hk r (mem_idsP.2 ⟨PR.lent r, List.mem_of_getElem? hi, by simp [PR.ids]⟩)))).2]
          exact v4 j r hi
      · refine inj i i' (lt_of_get hi) (lt_of_get hi') ?_
        rcases hsrc hi with ⟨j, h1, h2, h3⟩ | ⟨h1, _, h3⟩
        · rw [h3] at hb
          rcases hsrc hi' with ⟨j', h1', h2', h3'⟩ | ⟨h1', _, h3'⟩
          · rw [h3'] at hb'
            rw [h1, h1', v5 j j' _ _ b h2 h2' hb hb']
          · rw [h3'] at hb'
            exact absurd (h.disj m k _ _ b hm hk (hownm b hb') ⟨j, _, h2, by rw [tup_part v1]; exact hb⟩) hne
        · rw [h3] at hb
          rcases hsrc hi' with ⟨j', h1', h2', h3'⟩ | ⟨h1', _, _⟩
          · rw [h3'] at hb'
            exact absurd (h.disj m k _ _ b hm hk (hownm b hb) ⟨j', _, h2', by rw [tup_part v1]; exact hb'⟩) hne
          · rw [h1, h1']
  · intro id o b hM ho hb
    rcases hkey hM ho with rfl | ⟨rfl, rfl⟩
    · exact absurd hb (by simp [O.own, O.own1])
    · obtain ⟨i, ys, hi, hb⟩ := hb
      rw [tup_part hvN] at hb
      rcases hsrc hi with ⟨j, _, h2, h3⟩ | ⟨_, _, h3⟩
      · rw [h3] at hb
        have : O.own ρ k (.po e rs) b := ⟨j, ys, h2, by rw [tup_part v1]; exact hb⟩
        exact ⟨(h.own k _ b hk this).1, .inr ⟨k, _, .inl rfl, hk, this⟩⟩
      · rw [h3] at hb
        exact ⟨(h.own m _ b hm (hownm b hb)).1, .inr ⟨m, _, .inr (.inl rfl), hm, hownm b hb⟩⟩
  · intro i i' oi oi' b hM hM' hi hi' hb hb'
    rcases hkey hM hi with rfl | ⟨rfl, rfl⟩
    · exact absurd hb (by simp [O.own, O.own1])
    · rcases hkey hM' hi' with rfl | ⟨rfl, rfl⟩
      · exact absurd hb' (by simp [O.own, O.own1])
      · rfl
  · intro id o hM ho q hq
    rcases hkey hM ho with rfl | ⟨rfl, rfl⟩
    · simp [O.ids] at hq
    · obtain ⟨p, hp, hqp⟩ := mem_idsP.1 hq
      obtain ⟨i, hi⟩ := List.mem_iff_getElem?.1 hp
      have hlt := lt_of_get hi
      cases hs : src i with
      | none => rw [hno i hlt hs] at hi; injection hi with hi; subst hi; simp [PR.ids] at hqp
      | some j =>
        rw [(hin i j hlt hs).2] at hi
        exact hmono q (h.oks k _ hk q (mem_idsP.2 ⟨p, List.mem_of_getElem? hi, hqp⟩))
/-- An object is forgotten. -/
theorem Rel.kill {Γ : Ctx} {ρ : Rho} {H : List O} {w : World} (h : Rel Γ ρ H w) {k : Nat} {o : O} (hk : H[k]? = some o) : Rel Γ ρ (H.set k .dead) w := by
  have hkey : ∀ {id : Nat} {o' : O}, (H.set k .dead)[id]? = some o' → (id = k ∧ o' = .dead) ∨ (id ≠ k ∧ H[id]? = some o') := fun ho => get_set ho
  refine ⟨h.os, h.tape, h.output, h.size, h.old, ?_, ?_, ?_, ?_, h.fix, by rw [List.length_set]; exact h.mle⟩
  · intro id o' ho
    rcases hkey ho with ⟨_, rfl⟩ | ⟨_, h2⟩
    · trivial
    · exact h.obj id o' h2
  · intro id o' b ho hb
    rcases hkey ho with ⟨_, rfl⟩ | ⟨_, h2⟩
    · exact absurd hb (by simp [O.own, O.own1])
    · exact h.own id o' b h2 hb
  · intro i j oi oj b hi hj hbi hbj
    rcases hkey hi with ⟨_, rfl⟩ | ⟨_, h2⟩
    · exact absurd hbi (by simp [O.own, O.own1])
    rcases hkey hj with ⟨_, rfl⟩ | ⟨_, h3⟩
    · exact absurd hbj (by simp [O.own, O.own1])
    exact h.disj i j oi oj b h2 h3 hbi hbj
  · intro id o' ho q hq
    rcases hkey ho with ⟨_, rfl⟩ | ⟨_, h2⟩
    · simp [O.ids] at hq
    · exact okId_set (by simp) (h.oks id o' h2 q hq)

/-! are the ids there? -/
def okO (H : List O) (o : O) : Prop := ∀ k ∈ o.ids, okId H k
def okAll (H : List O) : List O → Prop
  | [] => True
  | o :: r => okO H o ∧ okAll H r
theorem okAll_mem {H : List O} : ∀ {l : List O}, okAll H l → ∀ k ∈ idsO l, okId H k
  | [], _, k, hk => by simp [idsO] at hk
  | o :: r, h, k, hk => by
    rw [idsO, List.mem_append] at hk
    rcases hk with hk | hk
    · exact h.1 k hk
    · exact okAll_mem h.2 k hk
theorem okIds_of {H : List O} : ∀ {l : List Nat}, (∀ k ∈ l, okId H k) → okIds H l = true
  | [], _ => rfl
  | x :: r, h => by
    obtain ⟨o, ho, hf⟩ := h x (by simp)
    have ih := okIds_of (H := H) (l := r) (fun k hk => h k (List.mem_cons_of_mem _ hk))
    unfold okIds; rw [ho, ih]; cases o <;> simp at hf ⊢
theorem okO_r {H : List O} {o : O} (h : okIds H o.ids = true) : okO H o := okIds_elim h
theorem goodB_all {m : Nat} {π : List Nat} {H : List O} {ids : List Nat} (h : (Nat.beq π.length H.length && (nodupB π && (Nat.ble m H.length && fixB m π))) = true) (h1 : okAll H H) (h2 : okIds H ids = true) : goodB m π H ids = true := by
  simp only [Bool.and_eq_true] at h
  obtain ⟨a, b, c, d⟩ := h
  simp [goodB, a, b, c, d, okIds_of (okAll_mem h1), h2]
theorem ha_all {L0 L1 : List O} {args : List V} {v : V} (h1 : okIds L0 (idsL args) = true) (h2 : okAll L0 L0) (h3 : okIds L1 v.ids = true) (h4 : okAll L1 L1) : (okIds L0 (idsL args) && okIds L0 (idsO L0) && okIds L1 v.ids && okIds L1 (idsO L1)) = true := by
  rw [h1, h3, okIds_of (okAll_mem h2), okIds_of (okAll_mem h4)]; rfl

/-! the steps, as told of slots and objects -/
theorem GG.of {S S' : List (Nat × V)} {H H1 H' : List O} (E : Rho → Prop) (step : ∀ Γ ρ w, Rel Γ ρ H w → ∃ ρ', Rel Γ ρ' H1 w ∧ (∀ i, i < H.length → ρ'.blk i = ρ.blk i ∧ ρ'.val i = ρ.val i) ∧ E ρ')
    (hS : ∀ ρ, E ρ → simS ρ S S') (hH : ∀ ρ, E ρ → simO ρ H1 H') (okS : okIds H' (idsS S') = true) (okH : okAll H' H') : GG S H S' H' := by
  intro Γ ρ w hr hk
  obtain ⟨ρ', h1, h2, h3⟩ := step Γ ρ w hr
  refine ⟨ρ', h1.told (hH ρ' h3) (okAll_mem okH), okIds_elim okS, ?_⟩
  have hs := hS ρ' h3
  clear okS okH hS hH h1 step
  induction S generalizing S' with
  | nil => cases S' with
    | nil => trivial
    | cons _ _ => exact hs.elim
  | cons p r ih => cases S' with
    | nil => exact hs.elim
    | cons p' r' =>
      refine ⟨⟨hs.1, hs.2.1.trans (V.ren_congr p.2 fun k hk' => h2 k (okId_lt (hk k ?_)))⟩, ih (fun k hk' => hk k ?_) hs.2.2⟩
      · obtain ⟨t, v⟩ := p; simp [idsS, hk']
      · obtain ⟨t, v⟩ := p; simp [idsS, hk']
theorem GG.lend {S S' : List (Nat × V)} {H H' : List O} (k j : Nat) {e : TypeId} {rs : List PR} {xs : List Value} (hk : H[k]? = some (.po e rs)) (hj : rs[j]? = some (.row xs))
    (hS : ∀ ρ, (V.sl H.length).ren ρ = (V.pl k j).ren ρ → simS ρ S S') (hH : ∀ ρ, (V.sl H.length).ren ρ = (V.pl k j).ren ρ → simO ρ (H.set k (.po e (rs.set j (.lent H.length))) ++ [.pr e 1 xs.length xs]) H')
    (okS : okIds H' (idsS S') = true) (okH : okAll H' H') : GG S H S' H' :=
  GG.of (fun ρ => (V.sl H.length).ren ρ = (V.pl k j).ren ρ) (fun Γ ρ w h => ⟨_, h.lend hk hj, fun i hi => put_lt hi, by
    simp only [V.ren]; rw [(put_lt (lt_of_get hk)).2]; simp only [Rho.put, if_pos]⟩) hS hH okS okH
theorem GG.back {S S' : List (Nat × V)} {H H' : List O} (k j r : Nat) {n : Nat} {e : TypeId} {rs : List PR} {xs : List Value} (hk : H[k]? = some (.po e rs)) (hj : rs[j]? = some (.lent r)) (hr : H[r]? = some (.pr e 1 n xs))
    (hS : ∀ ρ, (V.pl k j).ren ρ = (V.sl r).ren ρ → simS ρ S S') (hH : ∀ ρ, (V.pl k j).ren ρ = (V.sl r).ren ρ → simO ρ ((H.set k (.po e (rs.set j (.row xs)))).set r .dead) H')
    (okS : okIds H' (idsS S') = true) (okH : okAll H' H') : GG S H S' H' :=
  GG.of (fun ρ => (V.pl k j).ren ρ = (V.sl r).ren ρ) (fun Γ ρ w h => ⟨ρ, (h.back hk hj hr).1, fun i hi => ⟨rfl, rfl⟩, by
    simp only [V.ren]; rw [(h.back hk hj hr).2]⟩) hS hH okS okH
theorem GG.absorb {S S' : List (Nat × V)} {H H' : List O} (k m : Nat) {n : Nat} {e : TypeId} {rs : List PR} {xs : List Value} (hk : H[k]? = some (.po e rs)) (hm : H[m]? = some (.pr e 1 n xs))
    (hS : ∀ ρ, (∀ j, j < rs.length → (V.pl H.length j).ren ρ = (V.pl k j).ren ρ) ∧ (V.pl H.length rs.length).ren ρ = (V.sl m).ren ρ → simS ρ S S')
    (hH : ∀ ρ, (∀ j, j < rs.length → (V.pl H.length j).ren ρ = (V.pl k j).ren ρ) ∧ (V.pl H.length rs.length).ren ρ = (V.sl m).ren ρ → simO ρ (((H.set k .dead).set m .dead) ++ [.po e (rs ++ [.row xs])]) H')
    (okS : okIds H' (idsS S') = true) (okH : okAll H' H') : GG S H S' H' :=
  GG.of (fun ρ => (∀ j, j < rs.length → (V.pl H.length j).ren ρ = (V.pl k j).ren ρ) ∧ (V.pl H.length rs.length).ren ρ = (V.sl m).ren ρ) (fun Γ ρ w h => by
    obtain ⟨ρ', h1, h2, h3, h4⟩ := h.absorb hk hm
    refine ⟨ρ', h1, h2, fun j hj => ?_, ?_⟩
    · simp only [V.ren]; rw [h3 j hj, (h2 k (lt_of_get hk)).2]
    · simp only [V.ren]; rw [h4, (h2 m (lt_of_get hm)).2]) hS hH okS okH
theorem GG.rebuild {S S' : List (Nat × V)} {H H' : List O} (k m : Nat) {n : Nat} {e : TypeId} {rs : List PR} {xs : List Value} (rs' : List PR) (src : Nat → Option Nat) (hk : H[k]? = some (.po e rs)) (hm : H[m]? = some (.pr e 1 n xs))
    (hin : ∀ i j, i < rs'.length → src i = some j → j < rs.length ∧ rs'[i]? = rs[j]?) (hno : ∀ i, i < rs'.length → src i = none → rs'[i]? = some (.row xs)) (inj : ∀ i i', i < rs'.length → i' < rs'.length → src i = src i' → i = i')
    (hS : ∀ ρ, (∀ i, i < rs'.length → (V.pl H.length i).ren ρ = match src i with | some j => (V.pl k j).ren ρ | none => (V.sl m).ren ρ) → simS ρ S S')
    (hH : ∀ ρ, (∀ i, i < rs'.length → (V.pl H.length i).ren ρ = match src i with | some j => (V.pl k j).ren ρ | none => (V.sl m).ren ρ) → simO ρ (((H.set k .dead).set m .dead) ++ [.po e rs']) H')
    (okS : okIds H' (idsS S') = true) (okH : okAll H' H') : GG S H S' H' :=
  GG.of (fun ρ => ∀ i, i < rs'.length → (V.pl H.length i).ren ρ = match src i with | some j => (V.pl k j).ren ρ | none => (V.sl m).ren ρ) (fun Γ ρ w h => by
    obtain ⟨ρ', h1, h2, h3⟩ := h.rebuild hk hm src hin hno inj
    refine ⟨ρ', h1, h2, fun i hi => ?_⟩
    have := h3 i hi
    simp only [V.ren]
    rw [this]
    cases src i with
    | none => simp only [(h2 m (lt_of_get hm)).2]
    | some j => simp only [(h2 k (lt_of_get hk)).2]) hS hH okS okH
theorem GG.kill {S S' : List (Nat × V)} {H H' : List O} (k : Nat) {o : O} (hk : H[k]? = some o) (hS : ∀ ρ, simS ρ S S') (hH : ∀ ρ, simO ρ (H.set k .dead) H') (okS : okIds H' (idsS S') = true) (okH : okAll H' H') : GG S H S' H' :=
  GG.of (fun _ => True) (fun Γ ρ w h => ⟨ρ, h.kill hk, fun i hi => ⟨rfl, rfl⟩, trivial⟩) (fun ρ _ => hS ρ) (fun ρ _ => hH ρ) okS okH
theorem GG.pool {S S' : List (Nat × V)} {H H' : List O} (e : TypeId) (hS : ∀ ρ, simS ρ S S') (hH : ∀ ρ, simO ρ (H ++ [.po e []]) H') (okS : okIds H' (idsS S') = true) (okH : okAll H' H') : GG S H S' H' :=
  GG.of (fun _ => True) (fun Γ ρ w h => ⟨_, h.more (o := .po e []) (v := .tuple #[]) rfl (fun ρ' _ b ⟨j, xs, hj, _⟩ => by simp at hj) (fun ρ' hv => ⟨#[], hv, rfl, fun j xs hj => by simp at hj, fun j r hj => by simp at hj, fun i j xi xj b hi => by simp at hi⟩) (by simp), fun i hi => put_lt hi, trivial⟩) (fun ρ _ => hS ρ) (fun ρ _ => hH ρ) okS okH
theorem GG.nilrow {S S' : List (Nat × V)} {H H' : List O} (e : TypeId) (hS : ∀ ρ, (V.sl H.length).ren ρ = .slice none 0 0 → simS ρ S S') (hH : ∀ ρ, (V.sl H.length).ren ρ = .slice none 0 0 → simO ρ (H ++ [.pr e 1 0 []]) H') (okS : okIds H' (idsS S') = true) (okH : okAll H' H') : GG S H S' H' :=
  GG.of (fun ρ => (V.sl H.length).ren ρ = .slice none 0 0) (fun Γ ρ w h => ⟨_, h.more (o := .pr e 1 0 []) (v := .slice none 0 0) rfl (fun ρ' hv b hb => by
      have hb : (ρ'.val H.length).ownBlock = some b := hb
      rw [hv] at hb; simp [Value.ownBlock] at hb) (fun ρ' hv => ⟨by rw [hv]; exact World.ownsRow_nil w 0 e 1, fun b hb => by rw [hv] at hb; simp [Value.ownBlock] at hb⟩) (by simp), fun i hi => put_lt hi, by simp only [V.ren, Rho.put, if_pos]; rfl⟩) hS hH okS okH
theorem GG.told {S S' : List (Nat × V)} {H H' : List O} (hS : ∀ ρ, simS ρ S S') (hH : ∀ ρ, simO ρ H H') (okS : okIds H' (idsS S') = true) (okH : okAll H' H') : GG S H S' H' :=
  GG.of (fun _ => True) (fun Γ ρ w h => ⟨ρ, h, fun i hi => ⟨rfl, rfl⟩, trivial⟩) (fun ρ _ => hS ρ) (fun ρ _ => hH ρ) okS okH

/-! rows of rows: how they are written -/
def plL (k : Nat) (g : Nat → Nat) (R : Nat) : List V := (List.range R).map fun j => .pl k (g j)
theorem plL_mapIds (σ : Nat → Nat) (k : Nat) (g : Nat → Nat) (R : Nat) : mapIdsL σ (plL k g R) = plL (σ k) g R := by
  unfold plL
  generalize List.range R = l
  induction l with
  | nil => rfl
  | cons x r ih => simp only [List.map_cons, mapIdsL, V.mapIds, ih]
theorem plL_ids {k : Nat} {g : Nat → Nat} {R i : Nat} (h : i ∈ idsL (plL k g R)) : i = k := by
  obtain ⟨v, hv, hi⟩ := mem_idsL.1 h
  obtain ⟨j, _, rfl⟩ := List.mem_map.1 hv
  simpa [V.ids] using hi
theorem plL_len {k : Nat} {g : Nat → Nat} {R : Nat} : (plL k g R).length = R := by simp [plL]
theorem plL_at {k : Nat} {g : Nat → Nat} {R i : Nat} (h : i < R) : (plL k g R)[i]? = some (.pl k (g i)) := by simp [plL, h]
theorem plL_succ {k : Nat} {g : Nat → Nat} {R : Nat} : plL k g R ++ [.pl k (g R)] = plL k g (R + 1) := by simp [plL, List.range_succ]
theorem plL_ones {k : Nat} {g : Nat → Nat} {R : Nat} : onesB (plL k g R) = true := by
  unfold plL
  generalize List.range R = l
  induction l with
  | nil => rfl
  | cons x r ih => simp only [List.map_cons, onesB, ih]; rfl
theorem renL_congr2 {ρ : Rho} {f g : Nat → V} : ∀ {l : List Nat}, (∀ j ∈ l, (f j).ren ρ = (g j).ren ρ) → renL ρ (l.map f) = renL ρ (l.map g)
  | [], _ => rfl
  | x :: r, h => by simp only [List.map_cons, renL]; rw [h x (by simp), renL_congr2 fun j hj => h j (by simp [hj])]
theorem plL_ren {ρ : Rho} {k k' : Nat} {g g' : Nat → Nat} {R : Nat} (h : ∀ j, j < R → (V.pl k (g j)).ren ρ = (V.pl k' (g' j)).ren ρ) : renL ρ (plL k g R) = renL ρ (plL k' g' R) :=
  renL_congr2 fun j hj => h j (List.mem_range.1 hj)
def rsP (xs : Nat → List Value) (R : Nat) : List PR := (List.range R).map fun j => .row (xs j)
theorem rsP_len {xs : Nat → List Value} {R : Nat} : (rsP xs R).length = R := by simp [rsP]
theorem rsP_at {xs : Nat → List Value} {R i : Nat} (h : i < R) : (rsP xs R)[i]? = some (.row (xs i)) := by simp [rsP, h]
theorem rsP_mapIds (σ : Nat → Nat) (xs : Nat → List Value) (R : Nat) : (rsP xs R).map (PR.mapIds σ) = rsP xs R := by simp [rsP, PR.mapIds]
theorem rsP_succ {xs : Nat → List Value} {R : Nat} : rsP xs R ++ [.row (xs R)] = rsP xs (R + 1) := by simp [rsP, List.range_succ]
theorem rsP_congr {xs ys : Nat → List Value} {R : Nat} (h : ∀ j, j < R → xs j = ys j) : rsP xs R = rsP ys R := List.map_congr_left fun j hj => by rw [h j (List.mem_range.1 hj)]
theorem rsP_set {xs ys : Nat → List Value} {R i : Nat} {y : List Value} (h : ∀ j, j < R → ys j = if j = i then y else xs j) : (rsP xs R).set i (.row y) = rsP ys R := by
  refine List.ext_getElem (by simp [rsP]) fun j h1 h2 => ?_
  have hj : j < R := by simpa [rsP] using h2
  rw [List.getElem_set]
  simp only [rsP, List.getElem_map, List.getElem_range]
  rw [h j hj]
  by_cases e : i = j
  · rw [if_pos e, if_pos e.symm]
  · rw [if_neg e, if_neg (fun h => e h.symm)]
theorem rsP_ids {xs : Nat → List Value} {R k : Nat} (h : k ∈ idsP (rsP xs R)) : False := by
  obtain ⟨p, hp, hk⟩ := mem_idsP.1 h
  obtain ⟨j, _, rfl⟩ := List.mem_map.1 hp
  simp [PR.ids] at hk
theorem mapIdsL_set (σ : Nat → Nat) (v : V) : ∀ (l : List V) (i : Nat), mapIdsL σ (l.set i v) = (mapIdsL σ l).set i (v.mapIds σ)
  | [], _ => rfl
  | _ :: _, 0 => rfl
  | x :: r, i + 1 => by simp [mapIdsL, mapIdsL_set σ v r i]
theorem idsL_set {v : V} {k : Nat} : ∀ {l : List V} {i : Nat}, k ∈ idsL (l.set i v) → k ∈ idsL l ∨ k ∈ v.ids
  | [], _, h => .inl h
  | x :: r, 0, h => by
    rw [List.set_cons_zero, idsL, List.mem_append] at h
    rcases h with h | h
    · exact .inr h
    · exact .inl (by simp [idsL, h])
  | x :: r, i + 1, h => by
    rw [List.set_cons_succ, idsL, List.mem_append] at h
    rcases h with h | h
    · exact .inl (by simp [idsL, h])
    · rcases idsL_set h with h | h
      · exact .inl (by simp [idsL, h])
      · exact .inr h
theorem idsP_set {p : PR} {k : Nat} : ∀ {l : List PR} {i : Nat}, k ∈ idsP (l.set i p) → k ∈ idsP l ∨ k ∈ p.ids
  | [], _, h => .inl h
  | x :: r, 0, h => by
    rw [List.set_cons_zero, idsP, List.mem_append] at h
    rcases h with h | h
    · exact .inr h
    · exact .inl (by simp [idsP, h])
  | x :: r, i + 1, h => by
    rw [List.set_cons_succ, idsP, List.mem_append] at h
    rcases h with h | h
    · exact .inl (by simp [idsP, h])
    · rcases idsP_set h with h | h
      · exact .inl (by simp [idsP, h])
      · exact .inr h
section
variable {H : List O} {e : TypeId} {n R k r i j : Nat} {g : Nat → Nat} {xs : Nat → List Value}
theorem okO_pl (h : okIds H [k] = true) : okO H (.cr e n R (plL k g R)) := fun x hx => by
  obtain rfl := plL_ids hx; exact okIds_elim h _ (by simp)
theorem okO_pls (h : okIds H [k, r] = true) : okO H (.cr e n R ((plL k g R).set i (.sl r))) := fun x hx => by
  rcases idsL_set hx with hx | hx
  · obtain rfl := plL_ids hx; exact okIds_elim h _ (by simp)
  · simp [V.ids] at hx; subst hx; exact okIds_elim h _ (by simp)
theorem okO_rs : okO H (.po e (rsP xs R)) := fun x hx => (rsP_ids hx).elim
theorem okO_rss (h : okIds H [r] = true) : okO H (.po e ((rsP xs R).set j (.lent r))) := fun x hx => by
  rcases idsP_set hx with hx | hx
  · exact (rsP_ids hx).elim
  · simp [PR.ids] at hx; subst hx; exact okIds_elim h _ (by simp)
theorem crP {σ : Nat → Nat} {x : Option O} (h : x = some (.cr e n R (plL (σ k) g R))) : x = some ((O.cr e n R (plL k g R)).mapIds σ) := by rw [h]; simp only [O.mapIds, plL_mapIds]
theorem crS {σ : Nat → Nat} {x : Option O} (h : x = some (.cr e n R ((plL (σ k) g R).set i (.sl (σ r))))) : x = some ((O.cr e n R ((plL k g R).set i (.sl r))).mapIds σ) := by rw [h]; simp only [O.mapIds, plL_mapIds, mapIdsL_set, V.mapIds]
theorem poP {σ : Nat → Nat} {x : Option O} (h : x = some (.po e (rsP xs R))) : x = some ((O.po e (rsP xs R)).mapIds σ) := by rw [h]; simp only [O.mapIds, rsP_mapIds]
theorem poS {σ : Nat → Nat} {x : Option O} (h : x = some (.po e ((rsP xs R).set j (.lent (σ r))))) : x = some ((O.po e ((rsP xs R).set j (.lent r))).mapIds σ) := by rw [h]; simp only [O.mapIds, List.map_set, rsP_mapIds, PR.mapIds]
theorem eqR {ρ : Rho} {o : O} : eqO ρ o o := .inl rfl
theorem eqO_cr {ρ : Rho} {xs ys : List V} (h : renL ρ ys = renL ρ xs) : eqO ρ (.cr e n R xs) (.cr e n R ys) := .inr (.inl ⟨by simp [O.shape], rfl, h⟩)
theorem eqO_pc {ρ : Rho} {xs : List Value} {ys : List V} (h : renL ρ ys = xs) : eqO ρ (.pr e n R xs) (.cr e n R ys) := .inr (.inl ⟨by simp [O.shape], rfl, h⟩)
/-- A cell of the outer row, told by the lent row. -/
theorem eqO_set {ρ : Rho} {xs : List V} {v : V} (h : ∀ u, xs[i]? = some u → v.ren ρ = u.ren ρ) : eqO ρ (.cr e n R xs) (.cr e n R (xs.set i v)) := by
  refine eqO_cr ?_
  rw [renL_set]
  refine List.ext_getElem? fun t => ?_
  rw [List.getElem?_set]
  split
  · rename_i e
    subst e
    rw [renL_length, renL_get]
    cases hx : xs[i]? with
    | none => rw [if_neg (by have := List.getElem?_eq_none_iff.1 hx; omega)]; rfl
    | some u => rw [if_pos (lt_of_get hx), h u hx]; rfl
  · rfl
/-- And back again. -/
theorem eqO_unset {ρ : Rho} {xs : List V} {v : V} (h : ∀ u, xs[i]? = some u → v.ren ρ = u.ren ρ) : eqO ρ (.cr e n R (xs.set i v)) (.cr e n R xs) := by
  rcases eqO_set (e := e) (n := n) (R := R) h with h | ⟨h1, h2, h3⟩ | ⟨_, _, h, _⟩
  · rw [← h]; exact eqR
  · exact .inr (.inl ⟨by simp [O.shape], rfl, h3.symm⟩)
  · cases h
theorem eqO_lendP {ρ : Rho} (h : (V.sl r).ren ρ = (V.pl k (g i)).ren ρ) : eqO ρ (.cr e n R (plL k g R)) (.cr e n R ((plL k g R).set i (.sl r))) := eqO_set fun u hu => by
  have hi : i < R := by have := lt_of_get hu; rwa [plL_len] at this
  rw [plL_at hi] at hu; injection hu with hu; subst hu; exact h
theorem eqO_backP {ρ : Rho} (h : (V.pl k (g i)).ren ρ = (V.sl r).ren ρ) : eqO ρ (.cr e n R ((plL k g R).set i (.sl r))) (.cr e n R (plL k g R)) := eqO_unset fun u hu => by
  have hi : i < R := by have := lt_of_get hu; rwa [plL_len] at this
  rw [plL_at hi] at hu; injection hu with hu; subst hu; exact h.symm
theorem rsP_lent (hi : i < R) : ((rsP xs R).set i (.lent r))[i]? = some (.lent r) := by rw [List.getElem?_set_self (by rw [rsP_len]; exact hi)]
theorem rsP_back {ys : Nat → List Value} {y : List Value} (h : ∀ j, j < R → ys j = if j = i then y else xs j) : ((rsP xs R).set i (.lent r)).set i (.row y) = rsP ys R := by rw [List.set_set]; exact rsP_set h
theorem rsP_same {y : List Value} (h : y = xs i) : ((rsP xs R).set i (.lent r)).set i (.row y) = rsP xs R := rsP_back fun j _ => by
  split
  · rename_i e; subst e; exact h.symm
  · rfl
theorem plL_got {v : V} (hi : i < R) : ((plL k g R).set i v)[i]? = some v := by rw [List.getElem?_set_self (by rw [plL_len]; exact hi)]
theorem plL_other {v : V} {t : Nat} (ht : t < R) (hne : t ≠ i) : ((plL k g R).set i v)[t]? = some (.pl k (g t)) := by rw [List.getElem?_set_ne (Ne.symm hne)]; exact plL_at ht
theorem eqO_push {ρ : Rho} {k' : Nat} (h : ∀ j, j < R → (V.pl k' (g j)).ren ρ = (V.pl k (g j)).ren ρ) (h2 : (V.pl k' (g R)).ren ρ = (V.sl r).ren ρ) : eqO ρ (.cr e n (R + 1) (plL k g R ++ [.sl r])) (.cr e n (R + 1) (plL k' g (R + 1))) := by
  refine eqO_cr ?_
  rw [← plL_succ, renL_append, renL_append, plL_ren h]
  simp only [renL, h2]
theorem okO_pla (h : okIds H [k, r] = true) : okO H (.cr e n R (plL k g i ++ [.sl r])) := fun x hx => by
  simp only [O.ids] at hx
  rw [idsL_append, List.mem_append] at hx
  rcases hx with hx | hx
  · obtain rfl := plL_ids hx; exact okIds_elim h _ (by simp)
  · simp [idsL, V.ids] at hx; subst hx; exact okIds_elim h _ (by simp)
theorem crA {σ : Nat → Nat} {x : Option O} (h : x = some (.cr e n R (plL (σ k) g i ++ [.sl (σ r)]))) : x = some ((O.cr e n R (plL k g i ++ [.sl r])).mapIds σ) := by
  rw [h]
  have : mapIdsL σ (plL k g i ++ [.sl r]) = plL (σ k) g i ++ [.sl (σ r)] := by rw [mapIdsL_append, plL_mapIds]; rfl
  simp only [O.mapIds, this]
theorem row1g {α : Type} {c : List α} {v : α} (h : c.length ≤ 1) : c.take (0 * 1) ++ [v] ++ c.drop (0 * 1 + 1) = [v] := by
  simp [List.drop_of_length_le h]
theorem mkV1 {z : Array Value} {N : Nat} : ((madeCells z N).toList.map V.raw).length = N := by rw [List.length_map, Array.length_toList, size_madeCells]
theorem crM {σ : Nat → Nat} : (O.cr e n R (plL k g R)).mapIds σ = .cr e n R (plL (σ k) g R) := by simp only [O.mapIds, plL_mapIds]
theorem poM {σ : Nat → Nat} : (O.po e (rsP xs R)).mapIds σ = .po e (rsP xs R) := by simp only [O.mapIds, rsP_mapIds]
end
end Go.Proofs.Ytgpgcdofhkpeaaa.VE
