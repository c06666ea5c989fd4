/- A symbolic evaluator of the given code, proved sound: own work of this session, alike for every function; no statement of the set is proved in this text. -/
import Derived.Test.YtpangmameocfmaaEb
import Derived.Laws.StructEq
import Derived.ChangeKeysEq
set_option linter.all false
namespace Go.Proofs.Ytpangmameocfmaa.VE
open Go

/-! regions that draw their order -/

structure DS where
  w : Bool
  rd : List Nat
  e : Eff
  n : Nat

def putS (nt : Nat) (f : Sl) (dst : Option Nat) (v : V) : Sl :=
  match dst with
  | none => f
  | some d => if d < nt then upd f d v else f

theorem putK_elim {nt : Nat} {f : Sl} {dst : Option Nat} {v : V} {K : Sl → Prop} (h : putK nt f dst v K) : K (putS nt f dst v) := by
  unfold putK at h
  unfold putS
  split at h
  · exact h
  · rename_i d
    split at h
    · rename_i hb
      simp only [if_pos (show d < nt from Nat.le_of_ble_eq_true hb)]
      exact forceV_elim h
    · rename_i hb
      have : ¬ d < nt := fun h => by
        have h2 : Nat.blt d nt = true := Nat.ble_eq_true_of_le h
        rw [hb] at h2; cases h2
      simp only [if_neg this]
      exact h

def gslots (ops : List Oper) (o : Oper) : List Nat :=
  match o.guard with
  | some (g, _) => ((ops[g]?).bind (·.dst)).toList
  | none => []

theorem wantK_any {ops : List Oper} {f : Sl} {o : Oper} {K1 K2 : Prop} (h : wantK ops f o.guard K1 K2) :
    ∃ w : Bool, (if w = true then K1 else K2) ∧ ∀ (a : Act) (ρ : Rho), (∀ t ∈ gslots ops o, a.tmps.getD t undef = (f t).ren ρ) → Region.wanted o (yielded ops.toArray a.tmps) = w := by
  unfold wantK at h
  split at h
  · rename_i hg; exact ⟨true, by simpa using h, fun a ρ _ => by simp [Region.wanted, hg]⟩
  · rename_i j b hg
    split at h
    · rename_i o' ho'
      split at h
      · rename_i d hd
        have hy : ∀ {v : Value}, f d = .raw v → ∀ (a : Act) (ρ : Rho), (∀ t ∈ gslots ops o, a.tmps.getD t undef = (f t).ren ρ) → yielded ops.toArray a.tmps j = (match v with | .bool b => some b | _ => none) := by
          intro v hv a ρ hh
          have hs := hh d (by simp [gslots, hg, ho', hd])
          rw [hv] at hs
          simp only [V.ren] at hs
          unfold yielded
          simp only [List.getElem?_toArray, ho', Option.bind_some, hd]
          by_cases hlt : d < a.tmps.size
          · rw [Array.getD_eq_getD_getElem?] at hs
            simp only [Array.getElem?_eq_getElem hlt, Option.getD_some] at hs
            simp only [Array.getElem?_eq_getElem hlt, hs]
            cases v <;> rfl
          · rw [Array.getD_eq_getD_getElem?] at hs
            rw [Array.getElem?_eq_none (Nat.le_of_not_lt hlt)] at hs
            rw [Array.getElem?_eq_none (Nat.le_of_not_lt hlt)]
            rw [← hs]; rfl
        split at h
        · rename_i c hf
          have := hy hf
          split at h
          · exact ⟨true, by simpa using h, fun a ρ hh => by simp [Region.wanted, hg, this a ρ hh]⟩
          · exact ⟨true, by simpa using h, fun a ρ hh => by simp [Region.wanted, hg, this a ρ hh]⟩
          · exact ⟨false, by simpa using h, fun a ρ hh => by simp [Region.wanted, hg, this a ρ hh]⟩
          · exact ⟨false, by simpa using h, fun a ρ hh => by simp [Region.wanted, hg, this a ρ hh]⟩
        · rename_i hf
          have := hy hf
          exact ⟨false, by simpa using h, fun a ρ hh => by simp [Region.wanted, hg, this a ρ hh]⟩
        · exact h.elim
      · exact h.elim
    · exact h.elim

noncomputable def drawEV (P : Program) (Γ : Ctx) (nt : Nat) (all ops : List Oper) : Sl → List O → List DS → (Sl → List O → List DS → Prop) → Prop :=
  List.rec (motive := fun _ => Sl → List O → List DS → (Sl → List O → List DS → Prop) → Prop) (fun f L acc K => K f L acc)
    (fun o _ ih f L acc K => wantK all f o.guard
      (opLoc P Γ L.length o f L fun rd e => stepL L e fun L' => putK nt f o.dst e.v fun f' => ih f' L' (acc ++ [⟨true, rd, e, L.length⟩]) K)
      (putK nt f o.dst (.raw undef) fun f' => ih f' L (acc ++ [⟨false, [], ⟨.raw undef, [], []⟩, L.length⟩]) K)) ops
theorem drawEV_cons {P : Program} {Γ : Ctx} {nt : Nat} {all : List Oper} {o : Oper} {rest : List Oper} {f : Sl} {L : List O} {acc : List DS} {K : Sl → List O → List DS → Prop} : drawEV P Γ nt all (o :: rest) f L acc K =
    wantK all f o.guard
      (opLoc P Γ L.length o f L fun rd e => stepL L e fun L' => putK nt f o.dst e.v fun f' => drawEV P Γ nt all rest f' L' (acc ++ [⟨true, rd, e, L.length⟩]) K)
      (putK nt f o.dst (.raw undef) fun f' => drawEV P Γ nt all rest f' L (acc ++ [⟨false, [], ⟨.raw undef, [], []⟩, L.length⟩]) K) := rfl

/-- The operations, one after the other, as the text has them. -/
inductive Chain (P : Program) (Γ : Ctx) (nt : Nat) (all : List Oper) : Sl → List O → List Oper → List DS → Sl → List O → Prop
  | nil {f : Sl} {L : List O} : Chain P Γ nt all f L [] [] f L
  | cons {f f' : Sl} {L L' : List O} {o : Oper} {rest : List Oper} {d : DS} {ds : List DS} :
    d.n = L.length →
    (∀ (a : Act) (ρ : Rho), (∀ t ∈ gslots all o, a.tmps.getD t undef = (f t).ren ρ) → Region.wanted o (yielded all.toArray a.tmps) = d.w) →
    (d.w = true → LocOK P Γ L.length o f L d.rd d.e) → (d.w = false → d.e = ⟨.raw undef, [], []⟩) →
    Chain P Γ nt all (putS nt f o.dst d.e.v) (d.e.app L.length (L ++ List.replicate d.e.new.length .free)) rest ds f' L' →
    Chain P Γ nt all f L (o :: rest) (d :: ds) f' L'

theorem drawEV_chain {P : Program} {Γ : Ctx} {nt : Nat} {all : List Oper} : ∀ {rest : List Oper} {f : Sl} {L : List O} {acc : List DS} {K : Sl → List O → List DS → Prop}, drawEV P Γ nt all rest f L acc K →
    ∃ ds f' L', Chain P Γ nt all f L rest ds f' L' ∧ K f' L' (acc ++ ds)
  | [], f, L, acc, K, h => ⟨[], f, L, .nil, by rw [List.append_nil]; exact h⟩
  | o :: rest, f, L, acc, K, h => by
    rw [drawEV_cons] at h
    obtain ⟨w, hw, hall⟩ := wantK_any h
    cases w with
    | true =>
      simp only [if_true] at hw
      obtain ⟨rd, e, hK, hloc⟩ := opLoc_sound hw
      obtain ⟨ds, f', L', hc, hK'⟩ := drawEV_chain (putK_elim (stepL_elim hK))
      exact ⟨⟨true, rd, e, L.length⟩ :: ds, f', L', .cons rfl hall (fun _ => hloc) (fun h => by cases h) hc, by simpa using hK'⟩
    | false =>
      simp only [Bool.false_eq_true, if_false] at hw
      obtain ⟨ds, f', L', hc, hK'⟩ := drawEV_chain (putK_elim hw)
      refine ⟨⟨false, [], ⟨.raw undef, [], []⟩, L.length⟩ :: ds, f', L', .cons rfl hall (fun h => by cases h) (fun _ => rfl) ?_, by simpa using hK'⟩
      simpa [Eff.app, applyW, setAt] using hc

/-! what has been done of the operations -/
def orO {α : Type} (w acc : Option α) : Option α := match w with | some x => some x | none => acc
def orV {α : Type} (w : Option α) (v : α) : α := match w with | some x => x | none => v
@[simp] theorem orO_some {α : Type} (x : α) (b : Option α) : orO (some x) b = some x := rfl
@[simp] theorem orO_none1 {α : Type} (b : Option α) : orO none b = b := rfl
@[simp] theorem orV_some {α : Type} (x v : α) : orV (some x) v = x := rfl
@[simp] theorem orV_none {α : Type} (v : α) : orV none v = v := rfl
theorem orO_none {α : Type} (w : Option α) : orO w none = w := by cases w <;> rfl
theorem orO_assoc {α : Type} (a b c : Option α) : orO (orO a b) c = orO a (orO b c) := by cases a <;> rfl
theorem orV_orO {α : Type} (a b : Option α) (v : α) : orV (orO a b) v = orV a (orV b v) := by cases a <;> rfl



def wrAt (e : Eff) (n k : Nat) : Option O :=
  if n ≤ k ∧ k < n + e.new.length then e.new[k - n]? else e.wr.foldl (fun acc p => if p.1 = k then some p.2 else acc) none

theorem applyW_get {k : Nat} : ∀ (wr : List (Nat × O)) (L : List O), k < L.length → ∀ acc : Option O, (acc = none ∨ L[k]? = acc) →
    (applyW L wr)[k]? = orO (wr.foldl (fun acc p => if p.1 = k then some p.2 else acc) acc) L[k]?
  | [], L, hk, acc, h => by
    simp only [applyW, List.foldl_nil]
    cases acc with
    | none => rfl
    | some o => simpa [orO_some] using h
  | (id, o) :: r, L, hk, acc, h => by
    simp only [applyW, List.foldl_cons]
    by_cases hid : id = k
    · subst hid
      simp only [if_true]
      rw [applyW_get r (L.set id o) (by simpa using hk) (some o) (.inr (List.getElem?_set_self hk))]
      have : ∀ (r : List (Nat × O)) (x : O), ∃ y, r.foldl (fun acc p => if p.1 = id then some p.2 else acc) (some x) = some y := by
        intro r
        induction r with
        | nil => exact fun x => ⟨x, rfl⟩
        | cons p r ih => intro x; simp only [List.foldl_cons]; split <;> exact ih _
      obtain ⟨y, hy⟩ := this r o
      simp only [hy, orO_some]
    · simp only [if_neg hid]
      have hs : (L.set id o)[k]? = L[k]? := List.getElem?_set_ne hid
      rw [applyW_get r (L.set id o) (by simpa using hk) acc (by rw [hs]; exact h), hs]

theorem app_get {e : Eff} {n k : Nat} {L : List O} (hk : k < L.length) (hn : e.new.length = 0 ∨ n + e.new.length ≤ L.length) :
    (e.app n L)[k]? = orO (wrAt e n k) L[k]? := by
  unfold Eff.app wrAt
  by_cases hin : n ≤ k ∧ k < n + e.new.length
  · rw [if_pos hin]
    have := setAt_in (new := e.new) (n := n) (j := k - n) (L := applyW L e.wr) (by omega) (by rw [applyW_len]; omega)
    rw [show n + (k - n) = k from by omega] at this
    rw [this, List.getElem?_eq_getElem (by omega)]; rfl
  · rw [if_neg hin, setAt_out (by omega)]
    exact applyW_get e.wr L hk none (.inl rfl)

/-- The last one written, of those that have been done. -/
def lastS {α : Type} (S : Nat → Bool) : Nat → List (Option α) → Option α → Option α
  | _, [], acc => acc
  | i, w :: r, acc => lastS S (i + 1) r (if S i = true then (orO w acc) else acc)

theorem lastS_congr {α : Type} {S S' : Nat → Bool} : ∀ (ws : List (Option α)) (i : Nat) (acc : Option α), (∀ j x, ws[j]? = some (some x) → S (i + j) = S' (i + j)) → lastS S i ws acc = lastS S' i ws acc
  | [], _, _, _ => rfl
  | w :: r, i, acc, h => by
    simp only [lastS]
    have hr := fun acc => lastS_congr (S := S) (S' := S') r (i + 1) acc fun j x hx => by
      have := h (j + 1) x (by simpa using hx)
      rwa [show i + (j + 1) = i + 1 + j from by omega] at this
    cases w with
    | none =>
      simp only [orO_none1]
      rw [show (if S i = true then acc else acc) = acc from by split <;> rfl, show (if S' i = true then acc else acc) = acc from by split <;> rfl]
      exact hr acc
    | some x =>
      have := h 0 x (by simp)
      rw [Nat.add_zero] at this
      rw [this]
      exact hr _

theorem lastS_none {α : Type} {S : Nat → Bool} : ∀ (ws : List (Option α)) (i : Nat) (acc : Option α), (∀ j x, ws[j]? = some (some x) → S (i + j) = false) → lastS S i ws acc = acc
  | [], _, _, _ => rfl
  | w :: r, i, acc, h => by
    simp only [lastS]
    have hr := fun acc => lastS_none (S := S) r (i + 1) acc fun j x hx => by
      have := h (j + 1) x (by simpa using hx)
      rwa [show i + (j + 1) = i + 1 + j from by omega] at this
    cases w with
    | none => simp only [orO_none1]; rw [show (if S i = true then acc else acc) = acc from by split <;> rfl]; exact hr acc
    | some x =>
      have := h 0 x (by simp)
      rw [Nat.add_zero] at this
      rw [this]
      simpa using hr acc

theorem lastS_at {α : Type} {S : Nat → Bool} {x : α} : ∀ (ws : List (Option α)) (i k : Nat) (acc : Option α), ws[k]? = some (some x) → S (i + k) = true → (∀ j y, k < j → ws[j]? = some (some y) → S (i + j) = false) → lastS S i ws acc = some x
  | [], _, _, _, h, _, _ => by simp at h
  | w :: r, i, 0, acc, h, hS, hn => by
    simp at h
    subst h
    rw [Nat.add_zero] at hS
    simp only [lastS, hS, if_true]
    refine lastS_none r (i + 1) _ fun j y hy => ?_
    have := hn (j + 1) y (by omega) (by simpa using hy)
    rwa [show i + (j + 1) = i + 1 + j from by omega] at this
  | w :: r, i, k + 1, acc, h, hS, hn => by
    simp only [lastS]
    refine lastS_at r (i + 1) k _ (by simpa using h) (by rwa [show i + 1 + k = i + (k + 1) from by omega]) fun j y hj hy => ?_
    have := hn (j + 1) y (by omega) (by simpa using hy)
    rwa [show i + (j + 1) = i + 1 + j from by omega] at this

def FS (nt : Nat) (S : Nat → Bool) : Nat → Sl → List Oper → List DS → Sl
  | i, f, o :: os, d :: ds => FS nt S (i + 1) (if S i = true then putS nt f o.dst d.e.v else f) os ds
  | _, f, _, _ => f
def HS (S : Nat → Bool) : Nat → List O → List DS → List O
  | i, H, d :: ds => HS S (i + 1) (if S i = true then d.e.app d.n H else H) ds
  | _, H, [] => H

def sw (nt t : Nat) : List Oper → List DS → List (Option V)
  | o :: os, d :: ds => (if o.dst = some t ∧ t < nt then some d.e.v else none) :: sw nt t os ds
  | _, _ => []
def iw (k : Nat) : List DS → List (Option O)
  | d :: ds => wrAt d.e d.n k :: iw k ds
  | [] => []

theorem putS_get {nt t : Nat} {f : Sl} {dst : Option Nat} {v : V} : putS nt f dst v t = if dst = some t ∧ t < nt then v else f t := by
  unfold putS
  cases dst with
  | none => simp
  | some d =>
    by_cases hd : d < nt
    · by_cases ht : t = d
      · subst ht; simp [hd, upd]
      · have ht' : ¬ d = t := fun e => ht e.symm
        simp [hd, upd, beq_ne ht, ht']
    · by_cases ht : d = t
      · subst ht; simp [hd]
      · simp [hd, ht]

theorem FS_get {nt : Nat} {S : Nat → Bool} {t : Nat} {f0 : Sl} : ∀ (os : List Oper) (ds : List DS) (i : Nat) (f : Sl) (acc : Option V), f t = orV acc (f0 t) →
    FS nt S i f os ds t = orV (lastS S i (sw nt t os ds) acc) (f0 t)
  | [], ds, i, f, acc, h => by cases ds <;> exact h
  | _ :: _, [], i, f, acc, h => h
  | o :: os, d :: ds, i, f, acc, h => by
    simp only [FS, sw, lastS]
    refine FS_get os ds (i + 1) _ _ ?_
    by_cases hS : S i = true
    · simp only [hS, if_true, putS_get]
      by_cases hw : o.dst = some t ∧ t < nt
      · simp only [hw, if_true, and_self, orO_some, orV_some]
      · simp only [hw, if_false, orO_none1]; exact h
    · simp only [hS, if_false]; exact h

theorem app_len (e : Eff) (n : Nat) (L : List O) : (e.app n L).length = L.length := by simp [Eff.app, setAt_len, applyW_len]

theorem HS_len {S : Nat → Bool} : ∀ (ds : List DS) (i : Nat) (H : List O), (HS S i H ds).length = H.length
  | [], _, _ => rfl
  | d :: ds, i, H => by
    simp only [HS]
    rw [HS_len ds]
    split
    · exact app_len _ _ _
    · rfl

theorem HS_get {S : Nat → Bool} {k : Nat} {H0 : List O} : ∀ (ds : List DS) (i : Nat) (H : List O) (acc : Option O), k < H.length → (∀ d ∈ ds, d.e.new.length = 0 ∨ d.n + d.e.new.length ≤ H.length) → H[k]? = orO acc H0[k]? →
    (HS S i H ds)[k]? = orO (lastS S i (iw k ds) acc) H0[k]?
  | [], _, _, _, _, _, h => h
  | d :: ds, i, H, acc, hk, hn, h => by
    simp only [HS, iw, lastS]
    by_cases hS : S i = true
    · simp only [hS, if_true]
      refine HS_get ds (i + 1) _ _ (by rw [app_len]; exact hk) (fun d' hd' => by rw [app_len]; exact hn d' (by simp [hd'])) ?_
      rw [app_get hk (hn d (by simp))]
      cases wrAt d.e d.n k with
      | none => exact h
      | some o => rfl
    · simp only [hS]
      exact HS_get ds (i + 1) H acc hk (fun d' hd' => hn d' (by simp [hd'])) h
end Go.Proofs.Ytpangmameocfmaa.VE
namespace Go.Proofs.Ytpangmameocfmaa.VE
open Go

theorem lastS_acc {α : Type} {S : Nat → Bool} : ∀ (ws : List (Option α)) (i : Nat) (acc : Option α), lastS S i ws acc = orO (lastS S i ws none) acc
  | [], _, _ => rfl
  | w :: r, i, acc => by
    simp only [lastS]
    rw [lastS_acc r (i + 1) (if S i = true then orO w acc else acc), lastS_acc r (i + 1) (if S i = true then orO w none else none)]
    by_cases hS : S i = true
    · simp only [hS, if_true, orO_assoc, orO_none1]
    · simp only [hS]; rw [if_neg (by decide), if_neg (by decide), orO_none]

theorem lastS_shift {α : Type} {S : Nat → Bool} : ∀ (ws : List (Option α)) (i : Nat) (acc : Option α), lastS S (i + 1) ws acc = lastS (fun j => S (j + 1)) i ws acc
  | [], _, _ => rfl
  | w :: r, i, acc => by
    simp only [lastS]
    exact lastS_shift r (i + 1) _

def before (i : Nat) : Nat → Bool := fun j => Nat.blt j i

theorem lastS_before_succ {α : Type} (w : Option α) (r : List (Option α)) (i : Nat) : lastS (before (i + 1)) 0 (w :: r) none = orO (lastS (before i) 0 r none) w := by
  simp only [lastS]
  have h0 : before (i + 1) 0 = true := by simp [before, Nat.blt]
  rw [if_pos h0, orO_none, lastS_shift]
  have hs : (fun j => before (i + 1) (j + 1)) = before i := by
    funext j; simp only [before, Nat.blt, Nat.ble]
  rw [hs]
  exact lastS_acc r 0 w

/-- Does it write only what is there? -/
def wrB (n : Nat) : List (Nat × O) → Bool
  | [] => true
  | (id, _) :: r => Nat.blt id n && wrB n r
theorem wrB_elim {n : Nat} : ∀ {l : List (Nat × O)}, wrB n l = true → ∀ p ∈ l, p.1 < n
  | [], _, p, hp => by cases hp
  | (id, o) :: r, h, p, hp => by
    simp only [wrB, Bool.and_eq_true] at h
    rcases List.mem_cons.1 hp with rfl | hp
    · exact Nat.le_of_ble_eq_true h.1
    · exact wrB_elim h.2 p hp

theorem wrAt_none {e : Eff} {n k : Nat} (hw : wrB n e.wr = true) (hk : n + e.new.length ≤ k) : wrAt e n k = none := by
  unfold wrAt
  rw [if_neg (by omega)]
  have : ∀ (l : List (Nat × O)), (∀ p ∈ l, p.1 < n) → l.foldl (fun acc p => if p.1 = k then some p.2 else acc) none = none := by
    intro l
    induction l with
    | nil => intro _; rfl
    | cons p r ih =>
      intro h
      simp only [List.foldl_cons]
      rw [if_neg (by have := h p (by simp); omega)]
      exact ih fun q hq => h q (by simp [hq])
  exact this _ (wrB_elim hw)

def newSum : List DS → Nat
  | [] => 0
  | d :: r => d.e.new.length + newSum r

theorem chain_at {P : Program} {Γ : Ctx} {nt : Nat} {all : List Oper} : ∀ {os : List Oper} {ds : List DS} {f f' : Sl} {L L' : List O}, Chain P Γ nt all f L os ds f' L' → (ds.all fun d => wrB d.n d.e.wr) = true →
    ds.length = os.length ∧ L'.length = L.length + newSum ds ∧
    (∀ t, f' t = orV (lastS (fun _ => true) 0 (sw nt t os ds) none) (f t)) ∧
    (∀ k, k < L'.length → L'[k]? = orO (lastS (fun _ => true) 0 (iw k ds) none) (L ++ List.replicate (newSum ds) O.free)[k]?) ∧
    ∀ (i : Nat) (o : Oper) (d : DS), os[i]? = some o → ds[i]? = some d → ∃ fi Li, d.n = Li.length ∧ Li.length + d.e.new.length ≤ L.length + newSum ds ∧ L.length ≤ Li.length ∧
      (∀ (a : Act) (ρ : Rho), (∀ t ∈ gslots all o, a.tmps.getD t undef = (fi t).ren ρ) → Region.wanted o (yielded all.toArray a.tmps) = d.w) ∧
      (d.w = true → LocOK P Γ Li.length o fi Li d.rd d.e) ∧ (d.w = false → d.e = ⟨.raw undef, [], []⟩) ∧
      (∀ t, fi t = orV (lastS (before i) 0 (sw nt t os ds) none) (f t)) ∧
      (∀ k, k < Li.length → Li[k]? = orO (lastS (before i) 0 (iw k ds) none) (L ++ List.replicate (newSum ds) O.free)[k]?) ∧
      (∀ j d', j < i → ds[j]? = some d' → d'.n + d'.e.new.length ≤ Li.length)
  | _, _, f, _, L, _, .nil, _ => ⟨rfl, rfl, fun _ => rfl, fun k hk => by simp [newSum, lastS, iw], fun i o d h => by simp at h⟩
  | _, _, f, f', L, L', .cons (o := o0) (rest := rest) (d := d0) (ds := ds) hn hwant hloc hno hc, hw => by
    simp only [List.all_cons, Bool.and_eq_true] at hw
    obtain ⟨hw0, hw⟩ := hw
    obtain ⟨h1, h2, h3, h4, h5⟩ := chain_at hc hw
    rw [hn] at hw0
    have hlen1 : (d0.e.app L.length (L ++ List.replicate d0.e.new.length O.free)).length = L.length + d0.e.new.length := by rw [app_len]; simp
    rw [hlen1] at h2
    -- one step's slots
    have hf1 : ∀ t, putS nt f o0.dst d0.e.v t = orV (if o0.dst = some t ∧ t < nt then some d0.e.v else none) (f t) := by
      intro t; rw [putS_get]; split <;> rfl
    -- one step's objects
    have hL1 : ∀ k, k < L.length + d0.e.new.length + newSum ds → (d0.e.app L.length (L ++ List.replicate d0.e.new.length O.free) ++ List.replicate (newSum ds) O.free)[k]? =
        orO (wrAt d0.e d0.n k) (L ++ List.replicate (d0.e.new.length + newSum ds) O.free)[k]? := by
      intro k hk
      rw [hn]
      by_cases hk1 : k < L.length + d0.e.new.length
      · rw [List.getElem?_append_left (by rw [hlen1]; exact hk1), app_get (by simpa using hk1) (.inr (by simp))]
        cases wrAt d0.e L.length k with
        | some v => rfl
        | none =>
          rw [orO_none1, orO_none1]
          by_cases hk2 : k < L.length
          · rw [List.getElem?_append_left hk2, List.getElem?_append_left hk2]
          · rw [List.getElem?_append_right (by omega), List.getElem?_append_right (by omega), List.getElem?_replicate, List.getElem?_replicate, if_pos (by omega), if_pos (by omega)]
      · rw [wrAt_none hw0 (by omega)]
        rw [List.getElem?_append_right (by rw [hlen1]; omega), List.getElem?_append_right (by omega), List.getElem?_replicate, List.getElem?_replicate, if_pos (by rw [hlen1]; omega), if_pos (by omega)]; rfl
    refine ⟨by simp [h1], by simp only [newSum]; omega, ?_, ?_, ?_⟩
    · intro t
      rw [h3 t]
      simp only [sw, lastS, if_true]
      rw [orO_none, lastS_shift, lastS_acc _ _ (if o0.dst = some t ∧ t < nt then some d0.e.v else none), orV_orO, hf1 t]
    · intro k hk
      rw [h4 k hk]
      simp only [iw, lastS, if_true, newSum]
      rw [orO_none, lastS_shift, lastS_acc _ _ (wrAt d0.e d0.n k), orO_assoc, hL1 k (by omega)]
    · intro i o d ho hd
      cases i with
      | zero =>
        simp at ho hd
        subst ho; subst hd
        refine ⟨f, L, hn, by simp only [newSum]; omega, Nat.le_refl _, hwant, hloc, hno, ?_, ?_, fun j d' hj _ => by omega⟩
        · intro t
          rw [lastS_none _ _ _ (fun j x _ => by show Nat.blt (0 + j) 0 = false; rw [Nat.zero_add]; rfl)]; rfl
        · intro k hk
          rw [lastS_none _ _ _ (fun j x _ => by show Nat.blt (0 + j) 0 = false; rw [Nat.zero_add]; rfl)]
          rw [List.getElem?_append_left hk]; rfl
      | succ i =>
        obtain ⟨fi, Li, g1, g2, g3, g4, g5, g6, g7, g8, g9⟩ := h5 i o d (by simpa using ho) (by simpa using hd)
        rw [hlen1] at g2 g3
        refine ⟨fi, Li, g1, by simp only [newSum]; omega, by omega, g4, g5, g6, ?_, ?_, ?_⟩
        · intro t
          rw [g7 t]
          simp only [sw]
          rw [lastS_before_succ, orV_orO, hf1 t]
        · intro k hk
          rw [g8 k hk]
          simp only [iw, newSum]
          rw [lastS_before_succ, orO_assoc, hL1 k (by omega)]
        · intro j d' hj hd'
          cases j with
          | zero => simp at hd'; subst hd'; rw [hn]; exact g3
          | succ j => exact g9 j d' (by omega) (by simpa using hd')

/-! which operations must come before which -/

def ancs : List Oper → List Nat → List Nat
  | [], acc => acc
  | o :: r, acc => ancs r (acc ++ [o.after.toList.foldl (fun s e => if Region.binds .any e && Nat.blt e.on acc.length then s ||| 2 ^ e.on ||| (match acc[e.on]? with | some b => b | none => 0) else s) 0])

def memN (x : Nat) : List Nat → Bool
  | [] => false
  | y :: r => Nat.beq x y || memN x r
theorem memN_of {x : Nat} : ∀ {l : List Nat}, x ∈ l → memN x l = true
  | y :: r, h => by
    rcases List.mem_cons.1 h with rfl | h
    · simp [memN]
    · simp [memN, memN_of h]

def wids (d : DS) : List Nat := d.e.wr.map (·.1) ++ (List.range d.e.new.length).map (d.n + ·)
def anyN (l r : List Nat) : Bool := l.any fun k => memN k r
def dstL (o : Oper) : List Nat := match o.dst with | some t => [t] | none => []
def confB (all : Array Oper) (oi oj : Oper) (di dj : DS) : Bool :=
  anyN (dstL oi) (oj.looksAt all) || anyN (dstL oi) (dstL oj) || anyN (dstL oj) (oi.looksAt all) || anyN (wids di) dj.rd || anyN (wids di) (wids dj) || anyN (wids dj) di.rd

/-- All that the orders' law asks. -/
def chk1 (all : Array Oper) (oj : Oper) (dj : DS) (bits : Nat) : Nat → List Oper → List DS → Bool
  | i, o :: os, d :: ds => (!(confB all o oj d dj) || bits.testBit i) && chk1 all oj dj bits (i + 1) os ds
  | _, _, _ => true
def chkAll (all : Array Oper) (anc : List Nat) : List Oper → List DS → List Oper → List DS → Bool
  | _, _, [], _ => true
  | _, _, _, [] => true
  | os0, ds0, oj :: os, dj :: ds => (match anc[os0.length]? with | some b => chk1 all oj dj b 0 os0 ds0 | none => false) && chkAll all anc (os0 ++ [oj]) (ds0 ++ [dj]) os ds
def edgesB : Nat → List Oper → Bool
  | _, [] => true
  | i, o :: r => (o.after.toList.all fun e => !(Region.binds .any e) || Nat.blt e.on i) && edgesB (i + 1) r
def chk (ops : Array Oper) (ds : List DS) : Bool :=
  edgesB 0 ops.toList && (ds.all fun d => wrB d.n d.e.wr) && chkAll ops (ancs ops.toList []) [] [] ops.toList ds
end Go.Proofs.Ytpangmameocfmaa.VE
namespace Go.Proofs.Ytpangmameocfmaa.VE
open Go

theorem memN_any {l r : List Nat} {k : Nat} (h1 : k ∈ l) (h2 : k ∈ r) : anyN l r = true :=
  List.any_eq_true.2 ⟨k, h1, memN_of h2⟩

/-! the ancestors -/
section
variable {all : List Oper} {S : Nat → Bool}

def Good (all : List Oper) (S : Nat → Bool) (acc : List Nat) : Prop :=
  ∀ (j b : Nat), acc[j]? = some b → ∀ i, b.testBit i = true → (∀ o : Oper, all[j]? = some o → ∀ e ∈ o.after, Region.binds .any e = true → S e.on = true) → S i = true
def Closed (all : List Oper) (S : Nat → Bool) : Prop :=
  ∀ (j : Nat) (o : Oper), all[j]? = some o → S j = true → ∀ e ∈ o.after, Region.binds .any e = true → S e.on = true

theorem fold_bit {acc : List Nat} {i : Nat} : ∀ (es : List Edge) (s : Nat),
    (es.foldl (fun s e => if Region.binds .any e && Nat.blt e.on acc.length then s ||| 2 ^ e.on ||| (match acc[e.on]? with | some b => b | none => 0) else s) s).testBit i = true →
    s.testBit i = true ∨ ∃ e ∈ es, Region.binds .any e = true ∧ (i = e.on ∨ ∃ b : Nat, acc[e.on]? = some b ∧ b.testBit i = true)
  | [], s, h => .inl h
  | e :: es, s, h => by
    simp only [List.foldl_cons] at h
    rcases fold_bit es _ h with h | ⟨e', he', h1, h2⟩
    · split at h
      · rename_i hc
        simp only [Bool.and_eq_true] at hc
        rw [Nat.testBit_or, Nat.testBit_or] at h
        simp only [Bool.or_eq_true] at h
        rcases h with (h | h) | h
        · exact .inl h
        · exact .inr ⟨e, by simp, hc.1, .inl (by rw [Nat.testBit_two_pow] at h; simpa using (of_decide_eq_true h).symm)⟩
        · refine .inr ⟨e, by simp, hc.1, .inr ?_⟩
          split at h
          · rename_i b hb; exact ⟨b, hb, h⟩
          · simp at h
      · exact .inl h
    · exact .inr ⟨e', by simp [he'], h1, h2⟩

theorem ancs_good (hcl : Closed all S) : ∀ (os : List Oper) (acc : List Nat), os = all.drop acc.length → Good all S acc → Good all S (ancs os acc)
  | [], acc, _, h => h
  | o :: r, acc, hos, h => by
    unfold ancs
    have ho : all[acc.length]? = some o := by
      have : (all.drop acc.length)[0]? = some o := by rw [← hos]; rfl
      simpa using this
    refine ancs_good hcl r _ ?_ ?_
    · rw [List.length_append, ← List.drop_drop, ← hos]; rfl
    · intro j b hj i hi hS
      by_cases hlt : j < acc.length
      · rw [List.getElem?_append_left hlt] at hj
        exact h j b hj i hi hS
      · have hjl := lt_of_get hj
        have : j = acc.length := by simp at hjl; omega
        subst this
        rw [List.getElem?_append_right (Nat.le_refl _), Nat.sub_self] at hj
        simp only [List.getElem?_cons_zero, Option.some.injEq] at hj
        subst hj
        rcases fold_bit _ _ hi with h0 | ⟨e, he, hb, h1 | ⟨b, h2, h3⟩⟩
        · simp at h0
        · subst h1; exact hS o ho e (by simpa using he) hb
        · have hse := hS o ho e (by simpa using he) hb
          exact h e.on b h2 i h3 fun o' ho' e' he' hb' => hcl e.on o' ho' hse e' he' hb'
end

theorem chk1_at {all : Array Oper} {oj : Oper} {dj : DS} {bits : Nat} : ∀ {os : List Oper} {ds : List DS} {b : Nat}, chk1 all oj dj bits b os ds = true → ∀ {i : Nat} {o : Oper} {d : DS}, os[i]? = some o → ds[i]? = some d → confB all o oj d dj = true → bits.testBit (b + i) = true
  | [], _, _, _, _, _, _, h, _, _ => by simp at h
  | _ :: _, [], _, _, _, _, _, _, h, _ => by simp at h
  | o0 :: os, d0 :: ds, b, h, i, o, d, ho, hd, hc => by
    simp only [chk1, Bool.and_eq_true] at h
    cases i with
    | zero =>
      simp at ho hd
      subst ho; subst hd
      have := h.1
      rw [hc] at this
      simpa using this
    | succ i =>
      have := chk1_at h.2 (i := i) (by simpa using ho) (by simpa using hd) hc
      rwa [show b + 1 + i = b + (i + 1) from by omega] at this

theorem chkAll_at {all : Array Oper} {anc : List Nat} : ∀ {os : List Oper} {ds : List DS} {os0 : List Oper} {ds0 : List DS}, chkAll all anc os0 ds0 os ds = true → os0.length = ds0.length →
    ∀ {i j : Nat} {oi oj : Oper} {di dj : DS}, i < j → os0.length ≤ j → (os0 ++ os)[i]? = some oi → (ds0 ++ ds)[i]? = some di → (os0 ++ os)[j]? = some oj → (ds0 ++ ds)[j]? = some dj → confB all oi oj di dj = true →
    ∃ b, anc[j]? = some b ∧ b.testBit i = true
  | [], ds, os0, ds0, _, _, i, j, oi, oj, di, dj, hij, hj, hoi, hdi, hoj, hdj, hc => by
    have := lt_of_get hoj; simp at this; omega
  | o :: os, [], os0, ds0, _, hl, i, j, oi, oj, di, dj, hij, hj, hoi, hdi, hoj, hdj, hc => by
    have := lt_of_get hdj; simp at this; omega
  | o :: os, d :: ds, os0, ds0, h, hl, i, j, oi, oj, di, dj, hij, hj, hoi, hdi, hoj, hdj, hc => by
    simp only [chkAll, Bool.and_eq_true] at h
    by_cases hjl : j = os0.length
    · subst hjl
      rw [List.getElem?_append_right (Nat.le_refl _), Nat.sub_self] at hoj
      rw [List.getElem?_append_right (by omega), show os0.length - ds0.length = 0 from by omega] at hdj
      simp only [List.getElem?_cons_zero, Option.some.injEq] at hoj hdj
      subst hoj; subst hdj
      have h1 := h.1
      split at h1
      · rename_i b hb
        refine ⟨b, hb, ?_⟩
        have := chk1_at h1 (i := i) (by rw [← hoi, List.getElem?_append_left hij]) (by rw [← hdi, List.getElem?_append_left (by omega)]) hc
        rwa [Nat.zero_add] at this
      · cases h1
    · exact chkAll_at h.2 (by simp [hl]) hij (by simp; omega) (by simpa using hoi) (by simpa using hdi) (by simpa using hoj) (by simpa using hdj) hc

theorem edgesB_at : ∀ {os : List Oper} {b : Nat}, edgesB b os = true → ∀ {i : Nat} {o : Oper}, os[i]? = some o → ∀ e ∈ o.after, Region.binds .any e = true → e.on < b + i
  | [], _, _, _, _, h => by simp at h
  | o0 :: os, b, h, i, o, ho => by
    simp only [edgesB, Bool.and_eq_true] at h
    intro e he hb
    cases i with
    | zero =>
      simp at ho
      subst ho
      have := List.all_eq_true.1 h.1 e (by simpa using he)
      rw [hb] at this
      have h2 := of_decide_eq_true (p := e.on < b + 0) (by simpa [Nat.blt, Nat.lt_iff_add_one_le] using this)
      exact h2
    | succ i =>
      have := edgesB_at h.2 (i := i) (by simpa using ho) e he hb
      omega

theorem countP_lt {p q : Nat → Bool} : ∀ {l : List Nat}, (∀ x, q x = true → p x = true) → ∀ {i : Nat}, i ∈ l → p i = true → q i = false → l.countP q < l.countP p
  | x :: l, h, i, hi, hp, hq => by
    rcases List.mem_cons.1 hi with rfl | hi
    · rw [List.countP_cons, List.countP_cons]
      simp only [hp, hq, if_true]
      have := List.countP_mono_left (l := l) (p := q) (q := p) fun x _ => h x
      simp; omega
    · rw [List.countP_cons, List.countP_cons]
      have := countP_lt (l := l) h hi hp hq
      by_cases hx : q x = true
      · simp only [hx, h x hx, if_true]; omega
      · rw [if_neg hx]; split <;> omega

theorem sw_at {nt t : Nat} : ∀ {os : List Oper} {ds : List DS} {i : Nat} {o : Oper} {d : DS}, os[i]? = some o → ds[i]? = some d → (sw nt t os ds)[i]? = some (if o.dst = some t ∧ t < nt then some d.e.v else none)
  | [], _, _, _, _, h, _ => by simp at h
  | _ :: _, [], _, _, _, _, h => by simp at h
  | o0 :: os, d0 :: ds, i, o, d, ho, hd => by
    cases i with
    | zero => simp at ho hd; subst ho; subst hd; rfl
    | succ i => exact sw_at (os := os) (ds := ds) (i := i) (by simpa using ho) (by simpa using hd)
theorem sw_inv {nt t : Nat} : ∀ {os : List Oper} {ds : List DS} {i : Nat} {x : V}, (sw nt t os ds)[i]? = some (some x) → ∃ o d, os[i]? = some o ∧ ds[i]? = some d ∧ o.dst = some t
  | [], ds, i, x, h => by cases ds <;> simp [sw] at h
  | _ :: _, [], _, _, h => by simp [sw] at h
  | o0 :: os, d0 :: ds, i, x, h => by
    cases i with
    | zero =>
      simp only [sw, List.getElem?_cons_zero, Option.some.injEq] at h
      split at h
      · rename_i hc; exact ⟨o0, d0, rfl, rfl, hc.1⟩
      · cases h
    | succ i =>
      simp only [sw, List.getElem?_cons_succ] at h
      obtain ⟨o, d, h1, h2, h3⟩ := sw_inv h
      exact ⟨o, d, by simpa using h1, by simpa using h2, h3⟩
theorem iw_at {k : Nat} : ∀ {ds : List DS} {i : Nat} {d : DS}, ds[i]? = some d → (iw k ds)[i]? = some (wrAt d.e d.n k)
  | d0 :: ds, 0, d, h => by simp at h; subst h; rfl
  | d0 :: ds, i + 1, d, h => iw_at (ds := ds) (i := i) (by simpa using h)
theorem iw_inv {k : Nat} : ∀ {ds : List DS} {i : Nat} {x : O}, (iw k ds)[i]? = some (some x) → ∃ d, ds[i]? = some d ∧ wrAt d.e d.n k = some x
  | [], i, x, h => by simp [iw] at h
  | d0 :: ds, 0, x, h => by simp [iw] at h; exact ⟨d0, rfl, h⟩
  | d0 :: ds, i + 1, x, h => by
    simp only [iw, List.getElem?_cons_succ] at h
    obtain ⟨d, h1, h2⟩ := iw_inv h
    exact ⟨d, by simpa using h1, h2⟩

theorem wrAt_wids {d : DS} {k : Nat} {x : O} (h : wrAt d.e d.n k = some x) : k ∈ wids d := by
  unfold wrAt at h
  unfold wids
  split at h
  · rename_i hc
    refine List.mem_append_right _ (List.mem_map.2 ⟨k - d.n, List.mem_range.2 (by omega), by omega⟩)
  · refine List.mem_append_left _ ?_
    have : ∀ (l : List (Nat × O)) (acc : Option O), l.foldl (fun acc p => if p.1 = k then some p.2 else acc) acc = some x → acc = none → k ∈ l.map (·.1) := by
      intro l
      induction l with
      | nil => intro acc h1 h2; simp only [List.foldl_nil] at h1; rw [h2] at h1; cases h1
      | cons p r ih =>
        intro acc h1 h2
        simp only [List.foldl_cons] at h1
        by_cases hp : p.1 = k
        · simp [hp]
        · rw [if_neg hp] at h1
          exact List.mem_cons_of_mem _ (ih acc h1 h2)
    exact this _ none h rfl

theorem wids_lt {d : DS} (hw : wrB d.n d.e.wr = true) {k : Nat} (h : k ∈ wids d) : k < d.n + d.e.new.length := by
  unfold wids at h
  rcases List.mem_append.1 h with h | h
  · obtain ⟨p, hp, rfl⟩ := List.mem_map.1 h
    have := wrB_elim hw p hp
    omega
  · obtain ⟨i, hi, rfl⟩ := List.mem_map.1 h
    have := List.mem_range.1 hi
    omega
end Go.Proofs.Ytpangmameocfmaa.VE
namespace Go.Proofs.Ytpangmameocfmaa.VE
open Go

theorem before_lt {i j : Nat} (h : j < i) : before i j = true := Nat.ble_eq_true_of_le h
theorem before_ge {i j : Nat} (h : i ≤ j) : before i j = false := by
  cases hb : before i j with
  | false => rfl
  | true => have := Nat.le_of_ble_eq_true hb; omega

section
variable {P : Program} {Γ : Ctx} {nt : Nat} {ops : Array Oper}

/-- One operation, whatever has been done before it. -/
theorem draw_step {f0 f' : Sl} {L0 L' : List O} {ds : List DS} (hc : Chain P Γ nt ops.toList f0 L0 ops.toList ds f' L') (hchk : chk ops ds = true) (hm : Γ.m ≤ L0.length) {listed : Array Bool} {i : Nat}
    (hsz : listed.size = ops.size) (hcl : Closed ops.toList fun j => listed.getD j false) (hi : i ∈ Region.ready .any ops listed)
    {ρ : Rho} {a : Act} {w : World} (ha : RelA ρ nt (FS nt (fun j => listed.getD j false) 0 f0 ops.toList ds) (HS (fun j => listed.getD j false) 0 (L0 ++ List.replicate (newSum ds) .free) ds) a)
    (hr : Rel Γ ρ (HS (fun j => listed.getD j false) 0 (L0 ++ List.replicate (newSum ds) .free) ds) w) {K : Act → World → Prop} {Q : Exit → Act → World → Prop}
    (hK : ∀ ρ a w, RelA ρ nt (FS nt (fun j => (listed.setIfInBounds i true).getD j false) 0 f0 ops.toList ds) (HS (fun j => (listed.setIfInBounds i true).getD j false) 0 (L0 ++ List.replicate (newSum ds) .free) ds) a →
      Rel Γ ρ (HS (fun j => (listed.setIfInBounds i true).getD j false) 0 (L0 ++ List.replicate (newSum ds) .free) ds) w → K a w) : wpOp P ops Q i K a w := by
  simp only [chk, Bool.and_eq_true] at hchk
  obtain ⟨⟨hedge, hwr⟩, hall⟩ := hchk
  obtain ⟨c1, c2, c3, c4, c5⟩ := chain_at hc hwr
  obtain ⟨hun, o, ho, hdep⟩ := mem_ready.1 hi
  have hol : ops.toList[i]? = some o := by simpa using ho
  have hil : i < ops.size := (Array.getElem?_eq_some_iff.1 ho).1
  have hilist : i < listed.size := by omega
  have hdl : i < ds.length := by rw [c1]; simpa using hil
  obtain ⟨d, hd⟩ : ∃ d, ds[i]? = some d := ⟨_, List.getElem?_eq_getElem hdl⟩
  obtain ⟨fi, Li, g1, g2, g3, g4, g5, g6, g7, g8, g9⟩ := c5 i o d hol hd
  have hwd : wrB d.n d.e.wr = true := List.all_eq_true.1 hwr d (List.mem_of_getElem? hd)
  have hSi : listed.getD i false = false := by
    simp [Array.getD_eq_getD_getElem?, hilist] at hun ⊢
    exact hun
  have hanc : ∀ (j b : Nat), (ancs ops.toList [])[j]? = some b → ∀ k, b.testBit k = true → (∀ o : Oper, ops.toList[j]? = some o → ∀ e ∈ o.after, Region.binds .any e = true → listed.getD e.on false = true) → listed.getD k false = true :=
    ancs_good hcl ops.toList [] rfl (fun j b h => by simp at h)
  have confI : ∀ (j : Nat) (oj : Oper) (dj : DS), j < i → ops.toList[j]? = some oj → ds[j]? = some dj → confB ops oj o dj d = true → listed.getD j false = true := by
    intro j oj dj hji hoj hdj hcf
    obtain ⟨b, h1, h2⟩ := chkAll_at hall rfl hji (Nat.zero_le _) hoj hdj hol hd hcf
    refine hanc i b h1 j h2 fun o' ho' => ?_
    rw [hol] at ho'; injection ho' with ho'; subst ho'
    exact hdep
  have confJ : ∀ (j : Nat) (oj : Oper) (dj : DS), i < j → ops.toList[j]? = some oj → ds[j]? = some dj → confB ops o oj d dj = true → listed.getD j false = false := by
    intro j oj dj hij hoj hdj hcf
    cases hb : listed.getD j false with
    | false => rfl
    | true =>
      obtain ⟨b, h1, h2⟩ := chkAll_at hall rfl hij (Nat.zero_le _) hol hd hoj hdj hcf
      have := hanc j b h1 i h2 fun o' ho' => hcl j o' ho' hb
      rw [hSi] at this; cases this
  -- the new set
  have hS' : ∀ j, (listed.setIfInBounds i true).getD j false = (if j = i then true else listed.getD j false) := by
    intro j
    by_cases hji : j = i
    · subst hji; simp [hilist]
    · rw [getD_set_ne false (fun e => hji e.symm), if_neg hji]
  have hdsn : ∀ d' ∈ ds, d'.e.new.length = 0 ∨ d'.n + d'.e.new.length ≤ (L0 ++ List.replicate (newSum ds) O.free).length := by
    intro d' hd'
    obtain ⟨j, hj⟩ := List.mem_iff_getElem?.1 hd'
    have hjl := lt_of_get hj
    obtain ⟨fj, Lj, q1, q2, _⟩ := c5 j _ d' (List.getElem?_eq_getElem (by rw [← c1]; exact hjl)) hj
    right; rw [q1]; simp; omega
  have hHlen : (HS (fun j => listed.getD j false) 0 (L0 ++ List.replicate (newSum ds) O.free) ds).length = L0.length + newSum ds := by rw [HS_len]; simp
  have hH : ∀ (S : Nat → Bool) k, k < L0.length + newSum ds → (HS S 0 (L0 ++ List.replicate (newSum ds) O.free) ds)[k]? = orO (lastS S 0 (iw k ds) none) (L0 ++ List.replicate (newSum ds) O.free)[k]? :=
    fun S k hk => HS_get ds 0 _ none (by simpa using hk) hdsn rfl
  have hF : ∀ (S : Nat → Bool) t, FS nt S 0 f0 ops.toList ds t = orV (lastS S 0 (sw nt t ops.toList ds) none) (f0 t) := fun S t => FS_get ops.toList ds 0 f0 none rfl
  -- what it looks at is as the text has it
  have hlook : ∀ t, t ∈ o.looksAt ops → FS nt (fun j => listed.getD j false) 0 f0 ops.toList ds t = fi t := by
    intro t ht
    rw [hF, g7 t]
    congr 1
    refine lastS_congr _ 0 _ fun j x hx => ?_
    rw [Nat.zero_add]
    obtain ⟨oj, dj, hoj, hdj, hdst⟩ := sw_inv hx
    have hmem : t ∈ dstL oj := by simp [dstL, hdst]
    rcases Nat.lt_trichotomy j i with hlt | rfl | hgt
    · rw [confI j oj dj hlt hoj hdj (by simp [confB, memN_any hmem ht])]
      rw [before_lt hlt]
    · rw [hSi, before_ge (Nat.le_refl _)]
    · rw [confJ j oj dj hgt hoj hdj (by simp [confB, memN_any hmem ht])]
      rw [before_ge (by omega)]
  have hgs : ∀ t ∈ gslots ops.toList o, t ∈ o.looksAt ops := by
    intro t ht
    unfold gslots at ht
    unfold Oper.looksAt
    refine List.mem_append_right _ ?_
    cases hg : o.guard with
    | none => rw [hg] at ht; simp at ht
    | some p => rw [hg] at ht; simpa using ht
  have hwant := g4 a ρ fun t ht => by rw [ha.slot t, hlook t (hgs t ht)]
  -- the new slots and objects
  have hF' : ∀ t, FS nt (fun j => (listed.setIfInBounds i true).getD j false) 0 f0 ops.toList ds t = putS nt (FS nt (fun j => listed.getD j false) 0 f0 ops.toList ds) o.dst d.e.v t := by
    intro t
    rw [hF, putS_get]
    by_cases hw : o.dst = some t ∧ t < nt
    · rw [if_pos hw]
      rw [lastS_at (x := d.e.v) (sw nt t ops.toList ds) 0 i none (by rw [sw_at hol hd, if_pos hw]) (by rw [Nat.zero_add, hS', if_pos rfl]) ?_]
      · rfl
      · intro j y hij hy
        rw [Nat.zero_add, hS', if_neg (by omega)]
        obtain ⟨oj, dj, hoj, hdj, hdst⟩ := sw_inv hy
        exact confJ j oj dj hij hoj hdj (by
          have : anyN (dstL o) (dstL oj) = true := memN_any (k := t) (by simp [dstL, hw.1]) (by simp [dstL, hdst])
          simp [confB, this])
    · rw [if_neg hw, hF]
      congr 1
      refine lastS_congr _ 0 _ fun j x hx => ?_
      rw [Nat.zero_add, hS', if_neg]
      rintro rfl
      rw [sw_at hol hd, if_neg hw] at hx
      simp at hx
  have hH' : HS (fun j => (listed.setIfInBounds i true).getD j false) 0 (L0 ++ List.replicate (newSum ds) O.free) ds = d.e.app d.n (HS (fun j => listed.getD j false) 0 (L0 ++ List.replicate (newSum ds) O.free) ds) := by
    apply List.ext_getElem?
    intro k
    by_cases hk : k < L0.length + newSum ds
    · rw [hH _ k hk, app_get (by rw [hHlen]; exact hk) (.inr (by rw [hHlen, g1]; exact g2)), hH _ k hk]
      cases hwk : wrAt d.e d.n k with
      | some x =>
        rw [lastS_at (x := x) (iw k ds) 0 i none (by rw [iw_at hd, hwk]) (by rw [Nat.zero_add, hS', if_pos rfl]) ?_]
        · rfl
        · intro j y hij hy
          rw [Nat.zero_add, hS', if_neg (by omega)]
          obtain ⟨dj, hdj, hwj⟩ := iw_inv hy
          have hoj := List.getElem?_eq_getElem (l := ops.toList) (i := j) (by rw [← c1]; exact lt_of_get hdj)
          exact confJ j _ dj hij hoj hdj (by
            have : anyN (wids d) (wids dj) = true := memN_any (wrAt_wids hwk) (wrAt_wids hwj)
            simp [confB, this])
      | none =>
        rw [orO_none1]
        congr 1
        refine lastS_congr _ 0 _ fun j x hx => ?_
        rw [Nat.zero_add, hS', if_neg]
        rintro rfl
        rw [iw_at hd, hwk] at hx
        simp at hx
    · rw [List.getElem?_eq_none (by rw [HS_len]; simp; omega), List.getElem?_eq_none (by rw [app_len, hHlen]; omega)]
  unfold wpOp
  simp only [ho]
  rw [Array.toArray_toList] at hwant
  rw [hwant]
  have hFe : FS nt (fun j => (listed.setIfInBounds i true).getD j false) 0 f0 ops.toList ds = putS nt (FS nt (fun j => listed.getD j false) 0 f0 ops.toList ds) o.dst d.e.v := funext hF'
  rw [hFe, hH'] at hK
  have putA : ∀ (ρ' : Rho) (L2 : List O), (∀ k, okId (HS (fun j => listed.getD j false) 0 (L0 ++ List.replicate (newSum ds) O.free) ds) k → ρ'.blk k = ρ.blk k ∧ ρ'.val k = ρ.val k) →
      (∀ k, okId (HS (fun j => listed.getD j false) 0 (L0 ++ List.replicate (newSum ds) O.free) ds) k → okId L2 k) → (∀ k ∈ d.e.v.ids, okId L2 k) →
      RelA ρ' nt (putS nt (FS nt (fun j => listed.getD j false) 0 f0 ops.toList ds) o.dst d.e.v) L2 (a.put o.dst (d.e.v.ren ρ')) := by
    intro ρ' L2 h1 h2 h3
    have hput : putK nt (FS nt (fun j => listed.getD j false) 0 f0 ops.toList ds) o.dst d.e.v (fun f => f = putS nt (FS nt (fun j => listed.getD j false) 0 f0 ops.toList ds) o.dst d.e.v) := by
      unfold putK putS
      cases o.dst with
      | none => rfl
      | some t =>
        simp only []
        by_cases ht : t < nt
        · have : Nat.blt t nt = true := Nat.ble_eq_true_of_le ht
          simp only [this, if_pos ht]
          cases d.e.v <;> rfl
        · have : Nat.blt t nt = false := by
            cases hb : Nat.blt t nt with
            | false => rfl
            | true => exact absurd (Nat.le_of_ble_eq_true hb) ht
          simp only [this, if_neg ht]
    obtain ⟨f2, hf2, hrel⟩ := ha.put h1 h2 h3 hput
    rw [← hf2]
    exact hrel
  cases hdw : d.w with
  | false =>
    simp only [Bool.false_eq_true, if_false]
    have he := g6 hdw
    have happ : d.e.app d.n (HS (fun j => listed.getD j false) 0 (L0 ++ List.replicate (newSum ds) O.free) ds) = HS (fun j => listed.getD j false) 0 (L0 ++ List.replicate (newSum ds) O.free) ds := by
      rw [he]; simp [Eff.app, applyW, setAt]
    rw [happ] at hK
    have := putA ρ _ (fun _ _ => ⟨rfl, rfl⟩) (fun _ h => h) (fun k hk => by rw [he] at hk; simp [V.ids] at hk)
    rw [show d.e.v.ren ρ = undef from by rw [he]; rfl] at this
    exact hK ρ _ w this hr
  | true =>
    simp only [if_true]
    refine .inl ?_
    rw [← g1] at g5
    refine g5 hdw ρ a w _ (fun x hx => ?_) hr (fun id hid hlt => ?_) (fun x hx => ?_) ?_ K Q fun ρ' w' hr' hag hmono hids => ?_
    · have h1 := ha.opd x
      cases x with
      | tmp t =>
        have hlk := hlook t (by
          unfold Oper.looksAt
          exact List.mem_append_left _ (List.mem_filterMap.2 ⟨.tmp t, by simpa using hx, rfl⟩))
        have h2 : opd ρ _ a (FS nt (fun j => listed.getD j false) 0 f0 ops.toList ds) (.tmp t) := h1
        unfold opd ev at h2 ⊢
        simp only [hlk] at h2
        exact h2
      | const v => exact h1
      | global v => exact h1
      | func v => exact h1
    · rw [hH _ id (by rw [← g1] at g2; omega), g8 id hlt]
      congr 1
      refine lastS_congr _ 0 _ fun j x hx => ?_
      rw [Nat.zero_add]
      obtain ⟨dj, hdj, hwj⟩ := iw_inv hx
      have hoj := List.getElem?_eq_getElem (l := ops.toList) (i := j) (by rw [← c1]; exact lt_of_get hdj)
      have hmem := wrAt_wids hwj
      rcases Nat.lt_trichotomy j i with hl | rfl | hgt
      · rw [confI j _ dj hl hoj hdj (by simp [confB, memN_any hmem hid])]
        rw [before_lt hl]
      · rw [hSi, before_ge (Nat.le_refl _)]
      · rw [confJ j _ dj hgt hoj hdj (by simp [confB, memN_any hmem hid])]
        rw [before_ge (by omega)]
    · rw [hH _ (d.n + x) (by rw [g1]; omega)]
      rw [lastS_none _ _ _ ?_]
      · rw [orO_none1, List.getElem?_append_right (by rw [g1]; omega), List.getElem?_replicate, if_pos (by rw [g1]; omega)]
      · intro j y hy
        rw [Nat.zero_add]
        obtain ⟨dj, hdj, hwj⟩ := iw_inv hy
        have hmem := wrAt_wids hwj
        have hoj := List.getElem?_eq_getElem (l := ops.toList) (i := j) (by rw [← c1]; exact lt_of_get hdj)
        rcases Nat.lt_trichotomy j i with hl | rfl | hgt
        · have h1 := g9 j dj hl hdj
          have h2 := wids_lt (List.all_eq_true.1 hwr dj (List.mem_of_getElem? hdj)) hmem
          omega
        · exact hSi
        · have hmi : d.n + x ∈ wids d := List.mem_append_right _ (List.mem_map.2 ⟨x, List.mem_range.2 hx, rfl⟩)
          exact confJ j _ dj hgt hoj hdj (by simp [confB, memN_any hmi hmem])
    · rw [g1]; omega
    · exact hK ρ' _ w' (putA ρ' _ hag hmono hids) hr'
end
end Go.Proofs.Ytpangmameocfmaa.VE
namespace Go.Proofs.Ytpangmameocfmaa.VE
open Go

section
variable {P : Program} {Γ : Ctx} {nt : Nat} {ops : Array Oper}

theorem FS_false {S : Nat → Bool} (hS : ∀ i, S i = false) : ∀ (os : List Oper) (ds : List DS) (i : Nat) (f : Sl), FS nt S i f os ds = f
  | [], ds, _, _ => by cases ds <;> rfl
  | _ :: _, [], _, _ => rfl
  | o :: os, d :: ds, i, f => by simp only [FS, hS]; exact FS_false hS os ds (i + 1) f
theorem HS_false {S : Nat → Bool} (hS : ∀ i, S i = false) : ∀ (ds : List DS) (i : Nat) (H : List O), HS S i H ds = H
  | [], _, _ => rfl
  | d :: ds, i, H => by simp only [HS, hS]; exact HS_false hS ds (i + 1) H

def unl (ops : Array Oper) (listed : Array Bool) : Nat := (List.range ops.size).countP fun j => !listed.getD j true

theorem draw_all {f0 f' : Sl} {L0 L' : List O} {ds : List DS} {Q : Exit → Sl → List O → Prop} (hc : Chain P Γ nt ops.toList f0 L0 ops.toList ds f' L') (hchk : chk ops ds = true) (hm : Γ.m ≤ L0.length) (hQ : Q .normal f' L') :
    ∀ (fuel : Nat) (listed : Array Bool) (a : Act) (w : World) (ρ : Rho), listed.size = ops.size → unl ops listed ≤ fuel → Closed ops.toList (fun j => listed.getD j false) →
      RelA ρ nt (FS nt (fun j => listed.getD j false) 0 f0 ops.toList ds) (HS (fun j => listed.getD j false) 0 (L0 ++ List.replicate (newSum ds) .free) ds) a →
      Rel Γ ρ (HS (fun j => listed.getD j false) 0 (L0 ++ List.replicate (newSum ds) .free) ds) w → wpAny P .any ops (liftQ Γ nt Q) fuel listed a w := by
  have hchk0 := hchk
  simp only [chk, Bool.and_eq_true] at hchk0
  obtain ⟨⟨hedge, hwr⟩, _⟩ := hchk0
  obtain ⟨c1, c2, c3, c4, c5⟩ := chain_at hc hwr
  have hdsn : ∀ d' ∈ ds, d'.e.new.length = 0 ∨ d'.n + d'.e.new.length ≤ (L0 ++ List.replicate (newSum ds) O.free).length := by
    intro d' hd'
    obtain ⟨j, hj⟩ := List.mem_iff_getElem?.1 hd'
    have hjl := lt_of_get hj
    obtain ⟨fj, Lj, q1, q2, _⟩ := c5 j _ d' (List.getElem?_eq_getElem (by rw [← c1]; exact hjl)) hj
    right; rw [q1]; simp; omega
  have fin : ∀ (listed : Array Bool) (a : Act) (w : World) (ρ : Rho), listed.size = ops.size → (∀ j, j < ops.size → listed.getD j false = true) →
      RelA ρ nt (FS nt (fun j => listed.getD j false) 0 f0 ops.toList ds) (HS (fun j => listed.getD j false) 0 (L0 ++ List.replicate (newSum ds) .free) ds) a →
      Rel Γ ρ (HS (fun j => listed.getD j false) 0 (L0 ++ List.replicate (newSum ds) .free) ds) w → liftQ Γ nt Q .normal a w := by
    intro listed a w ρ hsz hall ha hr
    have e1 : FS nt (fun j => listed.getD j false) 0 f0 ops.toList ds = f' := by
      funext t
      rw [FS_get ops.toList ds 0 f0 none rfl, c3 t]
      congr 1
      refine lastS_congr _ 0 _ fun j x hx => ?_
      obtain ⟨o, d, ho, _, _⟩ := sw_inv hx
      exact hall _ (by have := lt_of_get ho; simpa using this)
    have e2 : HS (fun j => listed.getD j false) 0 (L0 ++ List.replicate (newSum ds) .free) ds = L' := by
      apply List.ext_getElem?
      intro k
      by_cases hk : k < L0.length + newSum ds
      · rw [HS_get ds 0 _ none (by simpa using hk) hdsn rfl, c4 k (by omega)]
        congr 1
        refine lastS_congr _ 0 _ fun j x hx => ?_
        obtain ⟨d, hd, _⟩ := iw_inv hx
        exact hall _ (by have := lt_of_get hd; rw [c1] at this; simpa using this)
      · rw [List.getElem?_eq_none (by rw [HS_len]; simp; omega), List.getElem?_eq_none (by omega)]
    rw [e1, e2] at ha
    rw [e2] at hr
    exact ⟨ρ, f', L', hQ, ha, hr⟩
  have unlisted : ∀ (listed : Array Bool), listed.size = ops.size → ∀ j, j < ops.size → listed.getD j false = false → ∃ i, i ∈ Region.ready .any ops listed := by
    intro listed hsz j
    induction j using Nat.strongRecOn with
    | ind j ih =>
      intro hj hun
      by_cases hex : ∃ e ∈ (ops[j]).after, Region.binds .any e = true ∧ listed.getD e.on false = false
      · obtain ⟨e, he, hb, hl⟩ := hex
        have hlt := edgesB_at hedge (i := j) (o := ops[j]) (by simp [hj]) e he hb
        rw [Nat.zero_add] at hlt
        exact ih e.on hlt (by omega) hl
      · refine ⟨j, mem_ready.2 ⟨?_, ops[j], by simp [hj], fun e he hb => ?_⟩⟩
        · have hjl : j < listed.size := by omega
          simp [Array.getD_eq_getD_getElem?, hjl] at hun ⊢
          exact hun
        · cases hl : listed.getD e.on false with
          | true => rfl
          | false => exact absurd ⟨e, he, hb, hl⟩ hex
  have done : ∀ (listed : Array Bool), listed.size = ops.size → Region.ready .any ops listed = [] → ∀ j, j < ops.size → listed.getD j false = true := by
    intro listed hsz hr j hj
    cases hl : listed.getD j false with
    | true => rfl
    | false =>
      obtain ⟨i, hi⟩ := unlisted listed hsz j hj hl
      rw [hr] at hi; cases hi
  intro fuel
  induction fuel with
  | zero =>
    intro listed a w ρ hsz hun hcl ha hr
    have hnil : Region.ready .any ops listed = [] := by
      cases hre : Region.ready .any ops listed with
      | nil => rfl
      | cons i r =>
        have hi : i ∈ Region.ready .any ops listed := by rw [hre]; simp
        obtain ⟨h1, o, ho, _⟩ := mem_ready.1 hi
        have hil : i < ops.size := (Array.getElem?_eq_some_iff.1 ho).1
        have : 0 < unl ops listed := List.countP_pos_iff.2 ⟨i, List.mem_range.2 hil, by simp [h1]⟩
        omega
    exact ⟨hnil, fin listed a w ρ hsz (done listed hsz hnil) ha hr⟩
  | succ fuel ih =>
    intro listed a w ρ hsz hun hcl ha hr
    refine ⟨fun hnil => fin listed a w ρ hsz (done listed hsz hnil) ha hr, fun i hi => ?_⟩
    refine draw_step hc hchk hm hsz hcl hi ha hr fun ρ' a' w' ha' hr' => ?_
    obtain ⟨h1, o, ho, hdep⟩ := mem_ready.1 hi
    have hil : i < ops.size := (Array.getElem?_eq_some_iff.1 ho).1
    have hil' : i < listed.size := by omega
    refine ih _ a' w' ρ' (by simpa using hsz) ?_ ?_ ha' hr'
    · have : unl ops (listed.setIfInBounds i true) < unl ops listed := by
        refine countP_lt (i := i) ?_ (List.mem_range.2 hil) (by simp [h1]) (by simp [hil'])
        intro x hx
        by_cases hxi : x = i
        · subst hxi; simp [h1]
        · rw [getD_set_ne true (fun e => hxi e.symm)] at hx; exact hx
      omega
    · intro j oj hoj hj e he hb
      by_cases hji : j = i
      · subst hji
        rw [show oj = o from by have : ops.toList[j]? = some o := by simpa using ho
                                rw [this] at hoj; injection hoj with h; exact h.symm] at he
        exact getD_set_true (hdep e he hb)
      · rw [show (fun j => (listed.setIfInBounds i true).getD j false) j = listed.getD j false from getD_set_ne false (fun e => hji e.symm)] at hj
        exact getD_set_true (hcl j oj hoj hj e he hb)

/-- A region that draws its order. -/
theorem draw_rule {id : Nat} {Q : Exit → Sl → List O → Prop} {f : Sl} {L : List O} (hm : P.follows .mixedOrders = true)
    (h : drawEV P Γ nt ops.toList ops.toList f L [] fun f' L' ds => chk ops ds = true ∧ Q .normal f' L') : codeOK P Γ nt (.region id ops true) Q f L := by
  intro ρ a w ha hr
  obtain ⟨ds, f', L', hc, hchk, hQ⟩ := drawEV_chain h
  rw [List.nil_append] at hchk
  refine wp_region_any hm ?_
  have hS : ∀ j, (Array.replicate ops.size false).getD j false = false := by intro j; simp [Array.getD_eq_getD_getElem?, Array.getElem?_replicate]; split <;> rfl
  have hF := FS_false (nt := nt) hS ops.toList ds 0 f
  have hH := HS_false hS ds 0 (L ++ List.replicate (newSum ds) O.free)
  have hr2 : Rel Γ ρ L { w with drawn := w.drawn + 1 } := ⟨hr.os, hr.tape, hr.output, hr.size, hr.old, hr.obj, hr.own, hr.disj, hr.oks, hr.fix, hr.mle⟩
  refine draw_all hc hchk hr.mle hQ ops.size _ a _ ρ (by simp) ?_ ?_ ?_ ?_
  · unfold unl
    have := List.countP_le_length (p := fun j => !(Array.replicate ops.size false).getD j true) (l := List.range ops.size)
    simpa using this
  · intro j o ho hj
    have := (hS j).symm.trans hj; cases this
  · rw [hF, hH]
    exact ⟨ha.defers, ha.size, ha.slot, fun t k hk => okId_append (ha.ok t k hk)⟩
  · rw [hH]
    exact hr2.extend _
/-- The same, what goes on hidden until the region has ended. -/
theorem draw_rule2 {id : Nat} {Q : Exit → Sl → List O → Prop} {f : Sl} {L : List O} (hm : P.follows .mixedOrders = true)
    (h : ∀ K : Sl → List O → List DS → Prop, (∀ f' L' ds, chk ops ds = true → Q .normal f' L' → K f' L' ds) → drawEV P Γ nt ops.toList ops.toList f L [] K) : codeOK P Γ nt (.region id ops true) Q f L :=
  draw_rule hm (h _ fun _ _ _ h1 h2 => ⟨h1, h2⟩)
end
end Go.Proofs.Ytpangmameocfmaa.VE
namespace Go.Proofs.Ytpangmameocfmaa.VE
open Go

/-! maps with keys of type int -/

/-- What an int's entry holds, among entries that all have ints as keys. -/
def findI (k : Int) : List (Value × V) → Option (Option V)
  | [] => some none
  | (.int .i64 j, v) :: r => if k = j then some (some v) else findI k r
  | _ => none
/-- The entries behind 'm[k] = v'. -/
def setI (k : Int) (x : V) : List (Value × V) → List (Value × V)
  | [] => [(.int .i64 k, x)]
  | (.int .i64 j, v) :: r => if k = j then (.int .i64 k, x) :: r else (.int .i64 j, v) :: setI k x r
  | l => l

theorem findNow_I {ik : IntKind} {k : Int} {ρ : Rho} : ∀ {es : List (Value × V)} {ents : List MapEntry} {i : Nat} {r : Option V}, ents.map (fun e => (e.key, e.val)) = es.map (fun p => (p.1, p.2.ren ρ)) → findI k es = some r →
    (r = none → Instr.findNow (.int ik) (.int .i64 k) ents i = some none ∧ ∀ e ∈ ents, e.key ≠ .int .i64 k) ∧
    (∀ v, r = some v → ∃ (j : Nat) (e : MapEntry), ents[j]? = some e ∧ e.key = .int .i64 k ∧ e.val = v.ren ρ ∧ Instr.findNow (.int ik) (.int .i64 k) ents i = some (some (i + j, v.ren ρ)))
  | [], [], i, r, _, h => by
    simp [findI] at h; subst h
    exact ⟨(fun _ => ⟨rfl, by simp⟩), fun v hv => by cases hv⟩
  | [], _ :: _, _, _, h, _ => by simp at h
  | _ :: _, [], _, _, h, _ => by simp at h
  | (q, v0) :: es, e :: ents, i, r, he, h => by
    simp only [List.map_cons, List.cons.injEq, Prod.mk.injEq] at he
    obtain ⟨⟨h1, h2⟩, h3⟩ := he
    unfold findI at h
    split at h
    · simp_all
    · rename_i j v r' heq
      simp only [List.cons.injEq, Prod.mk.injEq] at heq
      obtain ⟨⟨rfl, rfl⟩, rfl⟩ := heq
      split at h
      · rename_i hkj
        subst hkj
        injection h with h; subst h
        refine ⟨(fun h => by cases h), fun v hv => ?_⟩
        injection hv with hv; subst hv
        exact ⟨0, e, rfl, h1, h2, by simp [Instr.findNow, h1, h2, Instr.sameNow]⟩
      · rename_i hkj
        have hb : (k == j) = false := by simpa using hkj
        obtain ⟨g1, g2⟩ := findNow_I (ik := ik) (i := i + 1) h3 h
        refine ⟨fun hr => ?_, fun v hv => ?_⟩
        · obtain ⟨g, g'⟩ := g1 hr
          refine ⟨(by simp [Instr.findNow, h1, Instr.sameNow, hb, g]), fun x hx => ?_⟩
          rcases List.mem_cons.1 hx with rfl | hx
          · rw [h1]; intro e; injection e with _ e; exact hkj e.symm
          · exact g' x hx
        · obtain ⟨j', e', q1, q2, q3, q4⟩ := g2 v hv
          refine ⟨j' + 1, e', by simpa using q1, q2, q3, ?_⟩
          simp [Instr.findNow, h1, Instr.sameNow, hb, q4]
          omega
    · cases h

theorem setI_none {k : Int} {x : V} : ∀ {es : List (Value × V)}, findI k es = some none → setI k x es = es ++ [(.int .i64 k, x)]
  | [], _ => rfl
  | (.int .i64 j, v) :: r, h => by
    simp only [findI] at h
    split at h
    · cases h
    · rename_i hk; simp only [setI, if_neg hk, List.cons_append, setI_none h]
  | (.bool _, _) :: _, h | (.float _ _, _) :: _, h | (.string _, _) :: _, h => by simp [findI] at h
  | (q, v) :: r, h => by
    unfold findI at h
    split at h
    · simp_all
    · rename_i heq
      injection heq with e1 e2
      injection e1 with e3 e4
      subst e3; subst e4; subst e2
      split at h
      · cases h
      · rename_i hk; simp only [setI, if_neg hk, List.cons_append, setI_none h]
    · cases h

theorem setI_some {k : Int} {x : V} {ρ : Rho} : ∀ {es : List (Value × V)} {v : V}, findI k es = some (some v) → ∀ {ents : List MapEntry} {i : Nat} {ik : IntKind}, ents.map (fun e => (e.key, e.val)) = es.map (fun p => (p.1, p.2.ren ρ)) →
    ∃ (j : Nat) (e : MapEntry), ents[j]? = some e ∧ e.key = .int .i64 k ∧ Instr.findNow (.int ik) (.int .i64 k) ents i = some (some (i + j, v.ren ρ)) ∧
      (ents.modify j fun e => { e with key := .int .i64 k, val := x.ren ρ }).map (fun e => (e.key, e.val)) = (setI k x es).map (fun p => (p.1, p.2.ren ρ))
  | [], v, h => by simp [findI] at h
  | (q, v0) :: es, v, h => by
    rename_i ents i ik
    intro he
    cases ents with
    | nil => simp at he
    | cons e ents =>
      simp only [List.map_cons, List.cons.injEq, Prod.mk.injEq] at he
      obtain ⟨⟨h1, h2⟩, h3⟩ := he
      unfold findI at h
      split at h
      · simp_all
      · rename_i j v' r' heq
        simp only [List.cons.injEq, Prod.mk.injEq] at heq
        obtain ⟨⟨rfl, rfl⟩, rfl⟩ := heq
        split at h
        · rename_i hkj
          subst hkj
          injection h with h; injection h with h; subst h
          refine ⟨0, e, rfl, h1, by simp [Instr.findNow, h1, h2, Instr.sameNow], ?_⟩
          simp [setI, h3]
        · rename_i hkj
          have hb : (k == j) = false := by simpa using hkj
          obtain ⟨j', e', q1, q2, q3, q4⟩ := setI_some (x := x) (ρ := ρ) h (i := i + 1) (ik := ik) h3
          refine ⟨j' + 1, e', by simpa using q1, q2, ?_, ?_⟩
          · simp [Instr.findNow, h1, Instr.sameNow, hb, q3]; omega
          · simp only [List.modify_succ_cons, List.map_cons, setI, if_neg hkj, q4, h1, h2]
      · cases h

theorem setI_mem {k : Int} {x : V} {p : Value × V} : ∀ {es : List (Value × V)}, p ∈ setI k x es → p ∈ es ∨ p.2 = x
  | [], h => by simp [setI] at h; exact .inr (by rw [h])
  | (q, v) :: r, h => by
    unfold setI at h
    split at h
    · simp_all
    · rename_i heq
      injection heq with e1 e2
      injection e1 with e3 e4
      subst e3; subst e4; subst e2
      split at h
      · rcases List.mem_cons.1 h with rfl | h
        · exact .inr rfl
        · exact .inl (List.mem_cons_of_mem _ h)
      · rcases List.mem_cons.1 h with rfl | h
        · exact .inl List.mem_cons_self
        · rcases setI_mem h with h | h
          · exact .inl (List.mem_cons_of_mem _ h)
          · exact .inr h
    · exact .inl h

section
variable {P : Program} {Γ : Ctx} {n : Nat} {o : Oper} {f : Sl} {L : List O}

theorem run_findKey {kt : TypeId} {ik : IntKind} (hk : P.underlying kt = some (.int ik)) {k : Value} {es : List MapEntry} {r : Option (Nat × Value)} {w : World} (h : Instr.findNow (.int ik) k es 0 = some r) : (Instr.findKey kt k es).run P w = .ok r w := by
  simp [Instr.findKey, run_underlying hk, h]

theorem run_checkKey {kt : TypeId} {ik : IntKind} (hk : P.underlying kt = some (.int ik)) {b : Bool} {k : Value} {w : World} : (Instr.checkKey b 10000 kt k).run P w = .ok () w := by
  show (Instr.checkKey b (9999 + 1) kt k).run P w = .ok () w
  unfold Instr.checkKey
  simp only [Sem.run_bind, run_underlying hk, Result.andThen]
  rfl

/-- 'v, ok := m[k]' and 'm[k]'. -/
theorem look_i {T kt et : TypeId} {x i : Operand} {ck : Bool} {ik : IntKind} {ti : TypeInfo} {z : Value} {id : Nat} {es : List (Value × V)} {k : Int} {r : Option V} {K : LK} (ho : o.op = .lookup T x i ck)
    (hT : P.underlying T = some (.map kt et)) (hk : P.underlying kt = some (.int ik)) (hi : P.info? et = some ti) (hz : ti.zero = some z) (hx : ev f x = .mp id) (hL : L[id]? = some (.mo es)) (hix : ev f i = .raw (.int .i64 k)) (hr : findI k es = some r)
    (hK : K [id] ⟨match ck with | true => .tup [match r with | some v => v | none => .raw z, .raw (.bool r.isSome)] | false => (match r with | some v => v | none => .raw z), [], []⟩) :
    ∃ rd e, LocOK P Γ n o f L rd e ∧ K rd e := by
  refine ⟨_, _, LocOK.pure fun ρ a w Lr h1 h2 h3 => ?_, hK⟩
  have e1 := (h1 x (by simp [ho, Op.operands])).1; rw [hx] at e1
  have e2 := (h1 i (by simp [ho, Op.operands])).1; rw [hix] at e2
  have hl : Lr[id]? = some (.mo es) := (h3 id (by simp) (lt_of_get hL)).trans hL
  obtain ⟨ents, hob, hborn, hes⟩ : objAt ρ w id (.mo es) := h2.obj id _ hl
  have hget : (getObj (ρ.blk id)).run P w = .ok (.map ents ents.size) w := by simp [getObj, Sem.run, hob]
  obtain ⟨g1, g2⟩ := findNow_I (ik := ik) (i := 0) hes hr
  have hzv : (zeroValue et).run P w = .ok z w := by simp [zeroValue, typeInfo, hi, hz]
  have hids : ∀ v, r = some v → ∀ q ∈ v.ids, okId Lr q := by
    intro v hv q hq
    refine h2.oks id _ hl q ?_
    subst hv
    have : ∃ p ∈ es, p.2 = v := by
      clear h2 hl hob hes g1 g2 hL hK
      induction es with
      | nil => simp [findI] at hr
      | cons p es ih =>
        unfold findI at hr
        split at hr
        · simp_all
        · rename_i heq
          injection heq with e1 e2
          subst e1; subst e2
          split at hr
          · injection hr with hr; injection hr with hr
            exact ⟨_, List.mem_cons_self, hr⟩
          · obtain ⟨p, hp, hp2⟩ := ih hr
            exact ⟨p, List.mem_cons_of_mem _ hp, hp2⟩
        · cases hr
    obtain ⟨p, hp, rfl⟩ := this
    simp only [O.ids]
    exact mem_idsL.2 ⟨p.2, List.mem_map.2 ⟨p, hp, rfl⟩, hq⟩
  have hrun : (execOp a.eval o).run P w = .ok (.value (match ck with | true => .tuple #[match r with | some v => v.ren ρ | none => z, .bool r.isSome] | false => (match r with | some v => v.ren ρ | none => z))) w := by
    simp only [execOp, ho, show a.eval x = .map (some (ρ.blk id)) from e1, show a.eval i = .int .i64 k from e2, Instr.lookup]
    cases r with
    | none =>
      have := (g1 rfl).1
      cases ck <;> simp [run_underlying hT, hget, run_checkKey hk, run_findKey hk this, hzv]
    | some v =>
      obtain ⟨j, e, _, _, _, q⟩ := g2 v rfl
      cases ck <;> simp [run_underlying hT, hget, run_checkKey hk, run_findKey hk q]
  cases ck with
  | true =>
    refine ⟨?_, ?_⟩
    · rw [hrun]; cases r <;> simp [V.ren, renL]
    · intro q hq
      cases r with
      | none => simp [V.ids, idsL] at hq
      | some v => simp [V.ids, idsL] at hq; exact hids v rfl q hq
  | false =>
    refine ⟨?_, ?_⟩
    · rw [hrun]; cases r <;> simp [V.ren]
    · intro q hq
      cases r with
      | none => simp [V.ids] at hq
      | some v => exact hids v rfl q hq

/-- 'make(map[K]V)'. -/
theorem makeMap_i {T : TypeId} {K : LK} (ho : o.op = .makeMap T none) (hK : K [] ⟨.mp n, [], [.mo []]⟩) : ∃ rd e, LocOK P Γ n o f L rd e ∧ K rd e := by
  refine ⟨_, _, ?_, hK⟩
  intro ρ a w Lr hx hr _ hfree hm K Q hK
  have hn : Lr[n]? = some .free := by simpa using hfree 0 (by simp)
  have hblk : (ρ.put n w.heap.size undef).blk n = w.heap.size := by simp [Rho.put]
  obtain ⟨h1, h2⟩ := hr.new (w' := w.alloc (.map #[] 0)) (o := .mo []) hn hm (v := undef) (by simp) rfl rfl rfl rfl (fun b hb => by simp only [O.own, O.own1] at hb; injection hb with hb; rw [← hb, hblk])
    ⟨#[], by rw [hblk, heap_alloc_new]; rfl, by simp, by simp⟩ (by simp [O.ids, idsL])
  unfold Oper.wp
  have hrun : (execOp a.eval o).run P w = .ok (.value (.map (some w.heap.size))) (w.alloc (.map #[] 0)) := by
    simp [execOp, ho, Instr.makeMap, newObj]; rfl
  rw [hrun]
  have := hK _ _ h1 h2 (fun k hk => okId_set (by simp) hk) (fun k hk => by
    simp only [V.ids, List.mem_singleton] at hk
    subst hk
    exact okId_set_new (by simp) (lt_of_get hn))
  simpa [V.ren, hblk, Oper.upon] using this

/-- 'm[k] = v'. -/
theorem upd_i {T kt et : TypeId} {x i y : Operand} {ik : IntKind} {id : Nat} {es : List (Value × V)} {k : Int} {r : Option V} {K : LK} (ho : o.op = .mapUpdate T x i y) (hdst : o.dst = none)
    (hT : P.underlying T = some (.map kt et)) (hk : P.underlying kt = some (.int ik)) (hx : ev f x = .mp id) (hL : L[id]? = some (.mo es)) (hix : ev f i = .raw (.int .i64 k)) (hr : findI k es = some r)
    (hK : K [id] ⟨.raw undef, [(id, .mo (setI k (ev f y) es))], []⟩) :
    ∃ rd e, LocOK P Γ n o f L rd e ∧ K rd e := by
  refine ⟨_, _, ?_, hK⟩
  intro ρ a w Lr h1 h2 h3 _ hm K Q hK
  have e1 := (h1 x (by simp [ho, Op.operands])).1; rw [hx] at e1
  have e2 := (h1 i (by simp [ho, Op.operands])).1; rw [hix] at e2
  have e3 := h1 y (by simp [ho, Op.operands])
  have hl : Lr[id]? = some (.mo es) := (h3 id (by simp) (lt_of_get hL)).trans hL
  obtain ⟨ents, hob, hborn, hes⟩ : objAt ρ w id (.mo es) := h2.obj id _ hl
  have hget : (getObj (ρ.blk id)).run P w = .ok (.map ents ents.size) w := by simp [getObj, Sem.run, hob]
  obtain ⟨ents', hsz, hrun, hes', hborn'⟩ : ∃ ents' : Array MapEntry, ents'.size = ents'.size ∧ (execOp a.eval o).run P w = .ok .skip { w with heap := w.heap.setIfInBounds (ρ.blk id) (.map ents' ents'.size) } ∧
      ents'.toList.map (fun e => (e.key, e.val)) = (setI k (ev f y) es).map (fun p => (p.1, p.2.ren ρ)) ∧ (∀ (i : Nat) (e : MapEntry), ents'[i]? = some e → e.born = i) := by
    have hset : ∀ ob, (setObj (ρ.blk id) ob).run P w = .ok () { w with heap := w.heap.setIfInBounds (ρ.blk id) ob } := fun ob => by
      simp [setObj, Sem.run, hob]
    cases r with
    | none =>
      obtain ⟨g, _⟩ := (findNow_I (ik := ik) (i := 0) hes hr).1 rfl
      refine ⟨ents.push { key := .int .i64 k, val := (ev f y).ren ρ, born := ents.size }, rfl, ?_, ?_, ?_⟩
      · simp [execOp, ho, show a.eval x = .map (some (ρ.blk id)) from e1, show a.eval i = .int .i64 k from e2, show a.eval y = _ from e3.1, Instr.mapUpdate, run_underlying hT, hget, run_checkKey hk, run_findKey hk g, hset]
      · rw [setI_none hr]; simp [hes]
      · intro i e he
        rw [Array.getElem?_push] at he
        split at he
        · injection he with he; subst he; simp [*]
        · exact hborn i e he
    | some v =>
      obtain ⟨j, e, q1, q2, q3, q4⟩ := setI_some (x := ev f y) (ρ := ρ) hr (i := 0) (ik := ik) hes
      rw [Nat.zero_add] at q3
      refine ⟨ents.modify j fun e => { e with key := .int .i64 k, val := (ev f y).ren ρ }, rfl, ?_, ?_, ?_⟩
      · have hj : ents[j]? = some e := by simpa using q1
        simp [execOp, ho, show a.eval x = .map (some (ρ.blk id)) from e1, show a.eval i = .int .i64 k from e2, show a.eval y = _ from e3.1, Instr.mapUpdate, run_underlying hT, hget, run_checkKey hk, run_findKey hk q3, hset, hj, q2, Instr.keyThatStays, Instr.sameBits]
      · simpa using q4
      · intro i e' he'
        rw [Array.getElem?_modify] at he'
        split at he'
        · rename_i hij
          subst hij
          have hj : ents[j]? = some e := by simpa using q1
          rw [hj] at he'
          simp at he'
          rw [← he']
          exact hborn _ e hj
        · exact hborn i e' he'
  have hlt : ρ.blk id < w.heap.size := (Array.getElem?_eq_some_iff.1 hob).1
  have hids : ∀ q ∈ (O.mo (setI k (ev f y) es)).ids, okId Lr q := by
    intro q hq
    simp only [O.ids] at hq
    obtain ⟨v, hv, hqv⟩ := mem_idsL.1 hq
    obtain ⟨p, hp, rfl⟩ := List.mem_map.1 hv
    rcases setI_mem hp with h | h
    · exact h2.oks id _ hl q (mem_idsL.2 ⟨p.2, List.mem_map.2 ⟨p, h, rfl⟩, hqv⟩)
    · rw [h] at hqv; exact e3.2 q hqv
  have hr' := h2.set (w' := { w with heap := w.heap.setIfInBounds (ρ.blk id) (.map ents' ents'.size) }) hl (o' := .mo (setI k (ev f y) es)) (by simp) rfl rfl rfl rfl (by simp)
    (fun b hb => by
      have hne : ρ.blk id ≠ b := fun e => hb (by rw [← e]; rfl)
      simp [Array.getElem?_setIfInBounds_ne hne])
    ⟨ents', by simp [hlt], hborn', hes'⟩ hids
  unfold Oper.wp
  rw [hrun]
  have := hK ρ _ hr' (Agree.refl ρ Lr) (fun q hq => okId_set (by simp) hq) (fun q hq => by simp [V.ids] at hq)
  simpa [hdst, Act.put, Oper.upon] using this
/-- 'm[k] = v', the entries behind it as told. -/
theorem upd_to {T kt et : TypeId} {x i y : Operand} {ik : IntKind} {id : Nat} {es es' : List (Value × V)} {k : Int} {r : Option V} {v : V} {K : LK} (ho : o.op = .mapUpdate T x i y) (hdst : o.dst = none)
    (hT : P.underlying T = some (.map kt et)) (hk : P.underlying kt = some (.int ik)) (hx : ev f x = .mp id) (hL : L[id]? = some (.mo es)) (hix : ev f i = .raw (.int .i64 k)) (hy : ev f y = v) (hr : findI k es = some r) (he : setI k v es = es')
    (hK : K [id] ⟨.raw undef, [(id, .mo es')], []⟩) : ∃ rd e, LocOK P Γ n o f L rd e ∧ K rd e :=
  upd_i ho hdst hT hk hx hL hix hr (by rw [hy, he]; exact hK)
end
end Go.Proofs.Ytpangmameocfmaa.VE
namespace Go.Proofs.Ytpangmameocfmaa.VE
open Go

theorem mkL {z : Array Value} {n k : Nat} (h : Nat.ble k n = true) : k ≤ (madeCells z n).toList.length := by
  rw [Array.length_toList, size_madeCells]; exact Nat.le_of_ble_eq_true h
theorem mkL' {z : Array Value} {n k : Nat} (h : Nat.ble n k = true) : (madeCells z n).toList.length ≤ k := by
  rw [Array.length_toList, size_madeCells]; exact Nat.le_of_ble_eq_true h
theorem neI {b : Int} (h : decide (b = 0) = false) : b ≠ 0 := of_decide_eq_false h
theorem tmN (n k : Nat) : Int.tmod (n : Int) (k : Int) = ((n % k : Nat) : Int) := (Int.ofNat_tmod n k).symm
theorem tdN (n k : Nat) : Int.tdiv (n : Int) (k : Int) = ((n / k : Nat) : Int) := (Int.ofNat_tdiv n k).symm

/-! a struct of a size and bytes, and arrays of bytes -/

/-- A struct of a size and bytes. -/
def pcl (s : Int) (m : List Nat) : List Value := .int .i64 s :: m.map fun (x : Nat) => .int .u8 (x : Int)
abbrev pv (s : Int) (m : List Nat) : V := .raw (.agg (pcl s m).toArray)
theorem pcl_at {s : Int} {m : List Nat} {i : Nat} (h : i < m.length) : (pcl s m)[1 + i]? = some (.int .u8 ((m.getD i 0 : Nat) : Int)) := by
  rw [show 1 + i = i + 1 from by omega]
  simp [pcl, List.getElem?_map, List.getD_eq_getElem?_getD, List.getElem?_eq_getElem h]
/-- Arrays of bytes. -/
def bcl (m : List Nat) : List Value := m.map fun (x : Nat) => .int .u8 (x : Int)
abbrev bv (m : List Nat) : V := .raw (.agg (bcl m).toArray)
theorem bcl_at {m : List Nat} {i : Nat} (h : i < m.length) : (bcl m)[i]? = some (.int .u8 ((m.getD i 0 : Nat) : Int)) := by
  simp [bcl, List.getElem?_map, List.getD_eq_getElem?_getD, List.getElem?_eq_getElem h]
theorem onesR {l : List Value} (h : l.all Value.oneCell' = true) : ones l := fun u hu => List.all_eq_true.1 h u hu
theorem pcl_ones {s : Int} {m : List Nat} : ones (pcl s m) := by
  intro u hu
  simp only [pcl, List.mem_cons, List.mem_map] at hu
  rcases hu with rfl | ⟨x, _, rfl⟩ <;> rfl
theorem bcl_ones {m : List Nat} : ones (bcl m) := by
  intro u hu
  simp only [bcl, List.mem_map] at hu
  obtain ⟨x, _, rfl⟩ := hu; rfl
theorem pcl_len {s : Int} {m : List Nat} {N : Nat} (h : m.length = N) : (pcl s m).length = N + 1 := by simp [pcl, h]
theorem bcl_len {m : List Nat} {N : Nat} (h : m.length = N) : (bcl m).length = N := by simp [bcl, h]
theorem pcl_set {s : Int} {m : List Nat} {i x : Nat} : (pcl s m).set (1 + i) (.int .u8 (x : Int)) = pcl s (m.set i x) := by
  rw [Nat.add_comm]; simp [pcl, List.map_set]
theorem bcl_set {m : List Nat} {i x : Nat} : (bcl m).set i (.int .u8 (x : Int)) = bcl (m.set i x) := by simp [bcl, List.map_set]
theorem pcl_all {s : Int} {m : List Nat} {N : Nat} (h : m.length = N) : ((pcl s m).drop 0).take (N + 1) = pcl s m := by
  rw [List.drop_zero, List.take_of_length_le (by rw [pcl_len h]; exact Nat.le_refl _)]
theorem bcl_all {m : List Nat} {N : Nat} (h : m.length = N) : ((bcl m).drop 0).take N = bcl m := by
  rw [List.drop_zero, List.take_of_length_le (by rw [bcl_len h]; exact Nat.le_refl _)]
theorem pcl_part {s : Int} {m : List Nat} {N : Nat} (h : m.length = N) : ((pcl s m).drop 1).take N = bcl m := by
  simp only [pcl, List.drop_succ_cons, List.drop_zero]
  exact List.take_of_length_le (by simp [h])
theorem spl0 {α : Type} {c a : List α} {k : Nat} (h : c.length ≤ k) : c.take 0 ++ a ++ c.drop (0 + k) = a := by
  rw [Nat.zero_add, List.drop_of_length_le h]; simp
theorem getD_lt {m : List Nat} (hb : ∀ x ∈ m, x < 256) (i : Nat) : m.getD i 0 < 256 := by
  rw [List.getD_eq_getElem?_getD]
  cases h : m[i]? with
  | none => simp
  | some x => exact hb x (List.mem_of_getElem? h)

section
variable {P : Program} {w : World}

theorem eqItems_u8 {d N : Nat} {e : TypeId} (he : P.underlying e = some (.int .u8)) {xs ys : Array Value} {a b : List Nat} (hx : ∀ i, i < N → xs[i]? = some (.int .u8 ((a.getD i 0 : Nat) : Int))) (hy : ∀ i, i < N → ys[i]? = some (.int .u8 ((b.getD i 0 : Nat) : Int))) :
    ∀ (is : List Nat), (∀ i ∈ is, i < N) → (Op.eqItems (d + 1) e 1 xs ys is).run P w = .ok (is.all fun i => decide (a.getD i 0 = b.getD i 0)) w
  | [], _ => by simp [Op.eqItems]
  | i :: is, h => by
    have hp : P.plainKey e = true := by simp [Program.plainKey, he]
    have hi := h i (by simp)
    rw [Op.eqItems]
    simp only [Nat.mul_one, Sem.run_bind, run_part_plain w hp (hx i hi), run_part_plain w hp (hy i hi), run_equalIn_int w d e .u8 .u8 _ _ he, Result.andThen_ok]
    by_cases hab : a.getD i 0 = b.getD i 0
    · have : (((a.getD i 0 : Nat) : Int) == ((b.getD i 0 : Nat) : Int)) = true := by rw [hab]; exact beq_self_eq_true _
      rw [this]
      simp only [Bool.not_true, Bool.false_eq_true, if_false]
      rw [eqItems_u8 he hx hy is fun j hj => h j (by simp [hj])]
      rw [List.all_cons, decide_eq_true hab, Bool.true_and]
    · have : (((a.getD i 0 : Nat) : Int) == ((b.getD i 0 : Nat) : Int)) = false := by
        rw [beq_eq_false_iff_ne]; intro e; exact hab (by omega)
      rw [this, List.all_cons, decide_eq_false hab, Bool.false_and]
      rfl

theorem all_getD {a b : List Nat} {N : Nat} (ha : a.length = N) (hb : b.length = N) : ((List.range N).all fun i => decide (a.getD i 0 = b.getD i 0)) = decide (a = b) := by
  by_cases h : a = b
  · subst h; simp
  · rw [decide_eq_false h]
    rw [Bool.eq_false_iff]
    intro hall
    refine h (List.ext_getElem (by omega) fun i h1 h2 => ?_)
    have := List.all_eq_true.1 hall i (List.mem_range.2 (by omega))
    have := of_decide_eq_true this
    simpa [List.getD_eq_getElem?_getD, List.getElem?_eq_getElem h1, List.getElem?_eq_getElem h2] using this

/-- '==' of two structs of a size and bytes. -/
theorem eq_sized {T e : TypeId} {N : Nat} {f0 f1 : Field} {ie ia : TypeInfo} (hu : P.underlying T = some (.struct #[f0, f1])) (hp : P.stoodInHeld T = false) (hn0 : (f0.name == "_") = false) (hn1 : (f1.name == "_") = false)
    (ho0 : f0.offset = 0) (ho1 : f1.offset = 1) (ht0 : P.underlying f0.type = some (.int .i64)) (ht1 : P.underlying f1.type = some (.array N e)) (he : P.underlying e = some (.int .u8)) (hie : P.info? e = some ie) (hse : ie.size = 1)
    (hia : P.info? f1.type = some ia) (hsa : ia.size = N) {s s' : Int} {m m' : List Nat} (hm : m.length = N) (hm' : m'.length = N) :
    (Op.equalIn 10000 T (.agg (pcl s m).toArray) (.agg (pcl s' m').toArray)).run P w = .ok (decide (s = s' ∧ m = m')) w := by
  have hf : P.fieldsOf T = #[f0, f1] := by simp [Program.fieldsOf, hu]
  show (Op.equalIn (9999 + 1) T _ _).run P w = _
  rw [run_equalIn_struct (P := P) w 9999 T _ _ (by rw [hf]; exact hu) hp, hf]
  have hn0' : f0.name ≠ "_" := by simpa using hn0
  have hn1' : f1.name ≠ "_" := by simpa using hn1
  have hp0 : P.plainKey f0.type = true := by simp [Program.plainKey, ht0]
  have part0 : ∀ (s : Int) (m : List Nat), (part f0.type (pcl s m).toArray f0.offset).run P w = .ok (.int .i64 s) w := fun s m =>
    run_part_plain w hp0 (by rw [ho0]; simp [pcl])
  have part1 : ∀ (s : Int) (m : List Nat), m.length = N → (part f1.type (pcl s m).toArray f1.offset).run P w = .ok (.agg (bcl m).toArray) w := fun s m hm => by
    have hsz : (sizeOf f1.type).run P w = .ok N w := by simp [sizeOf, typeInfo, hia, hsa]
    simp [part, isAgg, run_underlying ht1, hsz, ho1]
    exact pcl_part (s := s) hm
  have hce : P.cellsOf e = 1 := by simp [Program.cellsOf, hie, hse]
  have harr : (Op.equalIn 9999 f1.type (.agg (bcl m).toArray) (.agg (bcl m').toArray)).run P w = .ok (decide (m = m')) w := by
    show (Op.equalIn (9998 + 1) f1.type _ _).run P w = _
    rw [run_equalIn_array w 9998 _ _ ht1 hie, hce, show (9998 : Nat) = 9997 + 1 from rfl]
    rw [eqItems_u8 (N := N) he (a := m) (b := m') (fun i hi => by rw [List.getElem?_toArray]; exact bcl_at (by omega)) (fun i hi => by rw [List.getElem?_toArray]; exact bcl_at (by omega)) _ (fun i hi => List.mem_range.1 hi)]
    rw [all_getD hm hm']
  have hint : (Op.equalIn 9999 f0.type (.int .i64 s) (.int .i64 s')).run P w = .ok (s == s') w := run_equalIn_int w 9998 f0.type .i64 .i64 s s' ht0
  simp only [Op.eqFields, hn0', hn1', ne_eq, not_false_eq_true, if_true, Sem.run_bind, part0, part1 s m hm, part1 s' m' hm', Result.andThen_ok, hint]
  by_cases h1 : s = s'
  · subst h1
    rw [beq_self_eq_true]
    simp only [Bool.not_true, Bool.false_eq_true, if_false, Sem.run_bind, part1 s m hm, part1 s m' hm', harr, Result.andThen_ok]
    by_cases h2 : m = m' <;> simp [h2]
  · have : (s == s') = false := by simpa using h1
    simp [this, h1]
end
end Go.Proofs.Ytpangmameocfmaa.VE
