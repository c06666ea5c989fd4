/- A symbolic evaluator of the given code, proved sound: own work of this session, alike for every function; no statement of the set is proved in this text. -/
import Derived.WalkKit
import Derived.Orders
set_option linter.all false
namespace Go.Proofs.Ytpangmameocfmaa.VE
open Go

structure Rho where
  blk : Nat → Nat
  val : Nat → Value

inductive V where
  | raw (v : Value)
  | ptr (id off : Nat)
  | sl (id : Nat)
  | asl (id off len cap : Nat)
  | mp (id : Nat)
  | sub (id sz lo len : Nat)
  | pl (id j : Nat)
  | fn (f : Fn) (first cap : List V)
  | agg (cs : List V)
  | tup (vs : List V)

/-- A part of a slice: as Go gives it (it does not point behind an array's end). -/
def subOf (sz lo len : Nat) : Value → Value
  | .slice (some a) _ cap => .slice (some (if cap = lo then a else a.add (lo * sz))) len (cap - lo)
  | _ => .slice none 0 0

/-- A slice's value, whatever. -/
def slv : Value → Value
  | .slice a l c => .slice a l c
  | _ => .slice none 0 0

/-- A part of a tuple: a pool's row. -/
def tpart : Value → Nat → Value
  | .tuple vs, j => vs.getD j undef
  | _, _ => undef

instance : Inhabited V := ⟨.raw undef⟩

mutual
def V.ren (ρ : Rho) : V → Value
  | .raw v => v
  | .ptr id off => .pointer (some ⟨ρ.blk id, off, none⟩)
  | .sl id => slv (ρ.val id)
  | .asl id off len cap => .slice (some ⟨ρ.blk id, off, none⟩) len cap
  | .mp id => .map (some (ρ.blk id))
  | .sub id sz lo len => subOf sz lo len (ρ.val id)
  | .pl id j => slv (tpart (ρ.val id) j)
  | .fn f a b => .func f (renL ρ a).toArray (renL ρ b).toArray
  | .agg cs => .agg (renL ρ cs).toArray
  | .tup vs => .tuple (renL ρ vs).toArray
def renL (ρ : Rho) : List V → List Value
  | [] => []
  | v :: r => v.ren ρ :: renL ρ r
end

mutual
def V.ids : V → List Nat
  | .raw _ => []
  | .ptr id _ => [id]
  | .sl id => [id]
  | .asl id _ _ _ => [id]
  | .mp id => [id]
  | .sub id _ _ _ => [id]
  | .pl id _ => [id]
  | .fn _ a b => idsL a ++ idsL b
  | .agg cs => idsL cs
  | .tup vs => idsL vs
def idsL : List V → List Nat
  | [] => []
  | v :: r => v.ids ++ idsL r
end

mutual
def V.mapIds (σ : Nat → Nat) : V → V
  | .raw v => .raw v
  | .ptr id off => .ptr (σ id) off
  | .sl id => .sl (σ id)
  | .asl id off len cap => .asl (σ id) off len cap
  | .mp id => .mp (σ id)
  | .sub id sz lo len => .sub (σ id) sz lo len
  | .pl id j => .pl (σ id) j
  | .fn f a b => .fn f (mapIdsL σ a) (mapIdsL σ b)
  | .agg cs => .agg (mapIdsL σ cs)
  | .tup vs => .tup (mapIdsL σ vs)
def mapIdsL (σ : Nat → Nat) : List V → List V
  | [] => []
  | v :: r => v.mapIds σ :: mapIdsL σ r
end


mutual
theorem V.ren_congr {ρ ρ' : Rho} : ∀ (v : V), (∀ k ∈ v.ids, ρ'.blk k = ρ.blk k ∧ ρ'.val k = ρ.val k) → v.ren ρ' = v.ren ρ
  | .raw _, _ => rfl
  | .ptr id off, h => by simp only [V.ren]; rw [(h id (by simp [V.ids])).1]
  | .sl id, h => by simp only [V.ren]; rw [(h id (by simp [V.ids])).2]
  | .asl id _ _ _, h => by simp only [V.ren]; rw [(h id (by simp [V.ids])).1]
  | .mp id, h => by simp only [V.ren]; rw [(h id (by simp [V.ids])).1]
  | .sub id _ _ _, h => by simp only [V.ren]; rw [(h id (by simp [V.ids])).2]
  | .pl id _, h => by simp only [V.ren]; rw [(h id (by simp [V.ids])).2]
  | .fn f a b, h => by
    simp only [V.ren]
    rw [renL_congr a (fun k hk => h k (by simp [V.ids, hk])), renL_congr b (fun k hk => h k (by simp [V.ids, hk]))]
  | .agg cs, h => by simp only [V.ren]; rw [renL_congr cs (fun k hk => h k (by simpa [V.ids] using hk))]
  | .tup cs, h => by simp only [V.ren]; rw [renL_congr cs (fun k hk => h k (by simpa [V.ids] using hk))]
theorem renL_congr {ρ ρ' : Rho} : ∀ (l : List V), (∀ k ∈ idsL l, ρ'.blk k = ρ.blk k ∧ ρ'.val k = ρ.val k) → renL ρ' l = renL ρ l
  | [], _ => rfl
  | v :: r, h => by
    simp only [renL]
    rw [V.ren_congr v (fun k hk => h k (by simp [idsL, hk])), renL_congr r (fun k hk => h k (by simp [idsL, hk]))]
end

mutual
theorem V.ren_mapIds (ρ : Rho) (σ : Nat → Nat) : ∀ v : V, (v.mapIds σ).ren ρ = v.ren ⟨fun i => ρ.blk (σ i), fun i => ρ.val (σ i)⟩
  | .raw _ => rfl
  | .ptr _ _ => rfl
  | .sl _ => rfl
  | .asl _ _ _ _ => rfl
  | .mp _ => rfl
  | .sub _ _ _ _ => rfl
  | .pl _ _ => rfl
  | .fn f a b => by simp only [V.mapIds, V.ren]; rw [renL_mapIds ρ σ a, renL_mapIds ρ σ b]
  | .agg cs => by simp only [V.mapIds, V.ren]; rw [renL_mapIds ρ σ cs]
  | .tup cs => by simp only [V.mapIds, V.ren]; rw [renL_mapIds ρ σ cs]
theorem renL_mapIds (ρ : Rho) (σ : Nat → Nat) : ∀ l : List V, renL ρ (mapIdsL σ l) = renL ⟨fun i => ρ.blk (σ i), fun i => ρ.val (σ i)⟩ l
  | [] => rfl
  | v :: r => by simp only [mapIdsL, renL]; rw [V.ren_mapIds ρ σ v, renL_mapIds ρ σ r]
end

mutual
theorem V.ids_mapIds (σ : Nat → Nat) : ∀ v : V, (v.mapIds σ).ids = v.ids.map σ
  | .raw _ => rfl
  | .ptr _ _ => rfl
  | .sl _ => rfl
  | .asl _ _ _ _ => rfl
  | .mp _ => rfl
  | .sub _ _ _ _ => rfl
  | .pl _ _ => rfl
  | .fn f a b => by simp only [V.mapIds, V.ids, List.map_append]; rw [idsL_mapIds σ a, idsL_mapIds σ b]
  | .agg cs => by simp only [V.mapIds, V.ids]; rw [idsL_mapIds σ cs]
  | .tup cs => by simp only [V.mapIds, V.ids]; rw [idsL_mapIds σ cs]
theorem idsL_mapIds (σ : Nat → Nat) : ∀ l : List V, idsL (mapIdsL σ l) = (idsL l).map σ
  | [] => rfl
  | v :: r => by simp only [mapIdsL, idsL, List.map_append]; rw [V.ids_mapIds σ v, idsL_mapIds σ r]
end

theorem renL_length (ρ : Rho) : ∀ l : List V, (renL ρ l).length = l.length
  | [] => rfl
  | _ :: r => by simp [renL, renL_length ρ r]
theorem renL_get (ρ : Rho) : ∀ (l : List V) (i : Nat), (renL ρ l)[i]? = (l[i]?).map (V.ren ρ)
  | [], i => by simp [renL]
  | _ :: r, 0 => by simp [renL]
  | _ :: r, i + 1 => by simp [renL, renL_get ρ r i]
theorem renL_append (ρ : Rho) : ∀ l r : List V, renL ρ (l ++ r) = renL ρ l ++ renL ρ r
  | [], _ => rfl
  | _ :: l, r => by simp [renL, renL_append ρ l r]
theorem renL_set (ρ : Rho) (v : V) : ∀ (l : List V) (i : Nat), renL ρ (l.set i v) = (renL ρ l).set i (v.ren ρ)
  | [], _ => rfl
  | _ :: _, 0 => rfl
  | _ :: r, i + 1 => by simp [renL, renL_set ρ v r i]
theorem renL_map_raw (ρ : Rho) : ∀ l : List Value, renL ρ (l.map V.raw) = l
  | [] => rfl
  | _ :: r => by simp [renL, V.ren, renL_map_raw ρ r]
theorem idsL_map_raw : ∀ l : List Value, idsL (l.map V.raw) = []
  | [] => rfl
  | _ :: r => by simp [idsL, V.ids, idsL_map_raw r]
theorem mem_idsL {k : Nat} : ∀ {l : List V}, k ∈ idsL l ↔ ∃ v ∈ l, k ∈ v.ids
  | [] => by simp [idsL]
  | v :: r => by simp [idsL, mem_idsL (l := r)]

/-- A pool's row: there, or lent to an object. -/
inductive PR where
  | row (xs : List Value)
  | lent (id : Nat)

def PR.ids : PR → List Nat
  | .row _ => []
  | .lent k => [k]
def PR.mapIds (σ : Nat → Nat) : PR → PR
  | .row xs => .row xs
  | .lent k => .lent (σ k)
def idsP : List PR → List Nat
  | [] => []
  | p :: r => p.ids ++ idsP r
theorem mem_idsP {k : Nat} : ∀ {l : List PR}, k ∈ idsP l ↔ ∃ p ∈ l, k ∈ p.ids
  | [] => by simp [idsP]
  | p :: r => by simp [idsP, mem_idsP (l := r)]

inductive O where
  | free
  | dead
  | pc (cs : List Value) (t : TypeId)
  | cc (cs : List V) (t : TypeId)
  | pr (e : TypeId) (sz n : Nat) (xs : List Value)
  | cr (e : TypeId) (sz n : Nat) (xs : List V)
  | mo (es : List (Value × V))
  | si (s : ByteArray) (pos : Nat)
  | mr (e : TypeId) (n : Nat) (xs : List Value)
  | po (e : TypeId) (rs : List PR)
  | mi (k since : Nat) (seen : Array Nat) (last : Nat)

def O.ids : O → List Nat
  | .free | .dead | .pc _ _ | .pr _ _ _ _ | .si _ _ | .mr _ _ _ => []
  | .cc cs _ => idsL cs
  | .cr _ _ _ xs => idsL xs
  | .mo es => idsL (es.map (·.2))
  | .po _ rs => idsP rs
  | .mi k _ _ _ => [k]

def O.own1 (ρ : Rho) (id : Nat) : O → Option Nat
  | .free | .dead | .po _ _ => none
  | .pc _ _ | .cc _ _ | .mo _ | .si _ _ | .mr _ _ _ | .mi _ _ _ _ => some (ρ.blk id)
  | .pr _ _ _ _ | .cr _ _ _ _ => (ρ.val id).ownBlock

/-- The blocks that an object owns. -/
def O.own (ρ : Rho) (id : Nat) (o : O) (b : Nat) : Prop :=
  match o with
  | .po _ rs => ∃ j xs, rs[j]? = some (.row xs) ∧ (tpart (ρ.val id) j).ownBlock = some b
  | o => o.own1 ρ id = some b

def O.mapIds (σ : Nat → Nat) : O → O
  | .free => .free
  | .dead => .dead
  | .pc cs t => .pc cs t
  | .cc cs t => .cc (mapIdsL σ cs) t
  | .pr e sz n xs => .pr e sz n xs
  | .cr e sz n xs => .cr e sz n (mapIdsL σ xs)
  | .mo es => .mo (es.map fun p => (p.1, p.2.mapIds σ))
  | .si s pos => .si s pos
  | .mr e n xs => .mr e n xs
  | .po e rs => .po e (rs.map (PR.mapIds σ))
  | .mi k since seen last => .mi (σ k) since seen last

def rowAt (ρ : Rho) (w : World) (id : Nat) (e : TypeId) (sz n : Nat) (xs : List Value) : Prop :=
  w.ownsRow 0 e sz (ρ.val id) n xs ∧ ∀ b, (ρ.val id).ownBlock = some b → ρ.blk id = b

def objAt (ρ : Rho) (w : World) (id : Nat) : O → Prop
  | .free | .dead => True
  | .pc cs t => w.heap[ρ.blk id]? = some (.cells cs.toArray t (0, 0))
  | .cc cs t => w.heap[ρ.blk id]? = some (.cells (renL ρ cs).toArray t (0, 0))
  | .pr e sz n xs => rowAt ρ w id e sz n xs
  | .cr e sz n xs => rowAt ρ w id e sz n (renL ρ xs)
  | .si s pos => w.heap[ρ.blk id]? = some (.stringIter s pos)
  | .mi k since seen last => w.heap[ρ.blk id]? = some (.mapIter (some (ρ.blk k)) since seen last)
  | .mr e n xs => xs.length = n ∧ ∃ (cap : Nat) (cur : Array Value), ρ.val id = .slice (some ⟨ρ.blk id, 0, none⟩) n cap ∧ w.heap[ρ.blk id]? = some (.cells cur e (cur.size, cur.size + 1)) ∧ n ≤ cur.size ∧ cur.toList.take n = xs
  | .po e rs => ∃ vs : Array Value, ρ.val id = .tuple vs ∧ vs.size = rs.length ∧ (∀ j xs, rs[j]? = some (.row xs) → w.ownsRow 0 e 1 (vs.getD j undef) xs.length xs) ∧
      (∀ j r, rs[j]? = some (.lent r) → ρ.val r = vs.getD j undef) ∧
      ∀ i j xi xj b, rs[i]? = some (.row xi) → rs[j]? = some (.row xj) → (vs.getD i undef).ownBlock = some b → (vs.getD j undef).ownBlock = some b → i = j
  | .mo es => ∃ ents : Array MapEntry, w.heap[ρ.blk id]? = some (.map ents ents.size) ∧ (∀ (i : Nat) (e : MapEntry), ents[i]? = some e → e.born = i) ∧ ents.toList.map (fun e => (e.key, e.val)) = es.map fun p => (p.1, p.2.ren ρ)

def okId (L : List O) (k : Nat) : Prop := ∃ o, L[k]? = some o ∧ o ≠ .free

structure Ctx where
  w0 : World
  B : Nat → Prop
  m : Nat
  ρ0 : Rho

structure Rel (Γ : Ctx) (ρ : Rho) (L : List O) (w : World) : Prop where
  os : w.os = Γ.w0.os
  tape : w.tape = Γ.w0.tape
  output : w.output = Γ.w0.output
  size : Γ.w0.heap.size ≤ w.heap.size
  old : ∀ b, b < Γ.w0.heap.size → ¬ Γ.B b → w.heap[b]? = Γ.w0.heap[b]?
  obj : ∀ (id : Nat) (o : O), L[id]? = some o → objAt ρ w id o
  own : ∀ (id : Nat) (o : O) (b : Nat), L[id]? = some o → o.own ρ id b → b < w.heap.size ∧ (b < Γ.w0.heap.size → Γ.B b)
  disj : ∀ (i j : Nat) (oi oj : O) (b : Nat), L[i]? = some oi → L[j]? = some oj → oi.own ρ i b → oj.own ρ j b → i = j
  oks : ∀ (id : Nat) (o : O), L[id]? = some o → ∀ k ∈ o.ids, okId L k
  fix : ∀ id, id < Γ.m → ρ.blk id = Γ.ρ0.blk id ∧ ρ.val id = Γ.ρ0.val id
  mle : Γ.m ≤ L.length

theorem O.own_congr {ρ ρ' : Rho} {id : Nat} {o : O} (h : o ≠ .free → ρ'.blk id = ρ.blk id ∧ ρ'.val id = ρ.val id) : o.own ρ' id = o.own ρ id := by
  funext b
  cases o with
  | po e rs => simp only [O.own]; rw [(h (by simp)).2]
  | free => rfl
  | dead => rfl
  | _ => simp only [O.own, O.own1]; first | rw [(h (by simp)).1] | rw [(h (by simp)).2]

theorem ownsRow_congr {w w' : World} {e : TypeId} {sz n : Nat} {v : Value} {xs : List Value} (hw : ∀ b, v.ownBlock = some b → w'.heap[b]? = w.heap[b]?)
    (h : w.ownsRow 0 e sz v n xs) : w'.ownsRow 0 e sz v n xs := by
  refine ⟨h.1, ?_⟩
  rcases h.2 with hn | ⟨g, cap, cur, rfl, hb, hg, r⟩
  · exact .inl hn
  · exact .inr ⟨g, cap, cur, rfl, hb, by rw [hw g rfl]; exact hg, r⟩

theorem objAt_congr {ρ ρ' : Rho} {w w' : World} {id : Nat} {o : O} (hb : o ≠ .free → ρ'.blk id = ρ.blk id ∧ ρ'.val id = ρ.val id)
    (hk : ∀ k ∈ o.ids, ρ'.blk k = ρ.blk k ∧ ρ'.val k = ρ.val k)
    (hw : ∀ b, o.own ρ id b → w'.heap[b]? = w.heap[b]?) (h : objAt ρ w id o) : objAt ρ' w' id o := by
  cases o with
  | free => trivial
  | dead => trivial
  | pc cs t =>
    simp only [objAt] at *
    rw [(hb (by simp)).1, hw _ rfl]; exact h
  | cc cs t =>
    simp only [objAt] at *
    rw [(hb (by simp)).1, hw _ rfl, renL_congr cs hk]; exact h
  | si s pos =>
    simp only [objAt] at *
    rw [(hb (by simp)).1, hw _ rfl]; exact h
  | mi k since seen last =>
    simp only [objAt] at *
    rw [(hb (by simp)).1, hw _ rfl, (hk k (by simp [O.ids])).1]; exact h
  | pr e sz n xs =>
    simp only [objAt, rowAt] at *
    rw [(hb (by simp)).1, (hb (by simp)).2]
    exact ⟨ownsRow_congr (fun b h => hw b h) h.1, h.2⟩
  | cr e sz n xs =>
    simp only [objAt, rowAt] at *
    rw [(hb (by simp)).1, (hb (by simp)).2, renL_congr xs hk]
    exact ⟨ownsRow_congr (fun b h => hw b h) h.1, h.2⟩
  | mr e n xs =>
    simp only [objAt] at *
    rw [(hb (by simp)).1, (hb (by simp)).2, hw _ rfl]; exact h
  | po e rs =>
    simp only [objAt] at *
    obtain ⟨vs, h1, h2, h3, h4, h5⟩ := h
    refine ⟨vs, by rw [(hb (by simp)).2]; exact h1, h2, fun j xs hj => ownsRow_congr (fun b h => hw b ⟨j, xs, hj, ?_⟩) (h3 j xs hj), fun j r hj => ?_, h5⟩
    · rw [h1]; exact h
    · rw [(hk r (mem_idsP.2 ⟨_, List.mem_of_getElem? hj, by simp [PR.ids]⟩)).2]; exact h4 j r hj
  | mo es =>
    simp only [objAt] at *
    obtain ⟨ents, h1, h3, h2⟩ := h
    refine ⟨ents, by rw [(hb (by simp)).1, hw _ rfl]; exact h1, h3, ?_⟩
    rw [h2]
    refine List.map_congr_left fun p hp => ?_
    rw [V.ren_congr p.2 (fun k hk' => hk k (mem_idsL.2 ⟨p.2, List.mem_map.2 ⟨p, hp, rfl⟩, hk'⟩))]

/-- The master lemma: some ids (M) are changed; all else stays. -/
theorem Rel.step {Γ : Ctx} {ρ ρ' : Rho} {L L' : List O} {w w' : World} (h : Rel Γ ρ L w) (M : Nat → Prop)
    (os : w'.os = w.os) (tape : w'.tape = w.tape) (output : w'.output = w.output) (size : w.heap.size ≤ w'.heap.size)
    (agree : ∀ id, okId L id → ρ'.blk id = ρ.blk id ∧ ρ'.val id = ρ.val id)
    (same : ∀ id, ¬ M id → L'[id]? = L[id]?)
    (keep : ∀ b, b < w.heap.size → (∀ (id : Nat) (o : O), M id → L[id]? = some o → ¬ o.own ρ id b) → w'.heap[b]? = w.heap[b]?)
    (mobj : ∀ (id : Nat) (o : O), M id → L'[id]? = some o → objAt ρ' w' id o)
    (mown : ∀ (id : Nat) (o : O) (b : Nat), M id → L'[id]? = some o → o.own ρ' id b → b < w'.heap.size ∧ (w.heap.size ≤ b ∨ ∃ (id' : Nat) (o' : O), M id' ∧ L[id']? = some o' ∧ o'.own ρ id' b))
    (mdisj : ∀ (i j : Nat) (oi oj : O) (b : Nat), M i → M j → L'[i]? = some oi → L'[j]? = some oj → oi.own ρ' i b → oj.own ρ' j b → i = j)
    (mids : ∀ (id : Nat) (o : O), M id → L'[id]? = some o → ∀ k ∈ o.ids, okId L' k)
    (mono : ∀ k, okId L k → okId L' k)
    (fix : ∀ id, id < Γ.m → ρ'.blk id = ρ.blk id ∧ ρ'.val id = ρ.val id) (len : L.length ≤ L'.length) : Rel Γ ρ' L' w' := by
  have hown : ∀ {id : Nat} {o : O}, L[id]? = some o → o.own ρ' id = o.own ρ id := fun {id o} hl => O.own_congr fun hf => agree id ⟨o, hl, hf⟩
  refine ⟨os.trans h.os, tape.trans h.tape, output.trans h.output, Nat.le_trans h.size size, ?_, ?_, ?_, ?_, ?_, ?_, Nat.le_trans h.mle len⟩
  · intro b hb hB
    rw [keep b (Nat.lt_of_lt_of_le hb h.size) fun id o hM hl hob => hB ((h.own id o b hl hob).2 hb)]
    exact h.old b hb hB
  · intro id o hl
    by_cases hM : M id
    · exact mobj id o hM hl
    · rw [same id hM] at hl
      refine objAt_congr (fun hf => agree id ⟨o, hl, hf⟩) (fun k hk => agree k (h.oks id o hl k hk)) (fun b hb => ?_) (h.obj id o hl)
      exact keep b (h.own id o b hl hb).1 fun id' o' hM' hl' hob' => hM (h.disj id id' o o' b hl hl' hb hob' ▸ hM')
  · intro id o b hl hb
    by_cases hM : M id
    · obtain ⟨h1, h2⟩ := mown id o b hM hl hb
      refine ⟨h1, fun hlt => ?_⟩
      rcases h2 with h2 | ⟨id', o', _, hl', hob'⟩
      · exact absurd hlt (by have := h.size; omega)
      · exact (h.own id' o' b hl' hob').2 hlt
    · rw [same id hM] at hl
      rw [hown hl] at hb
      exact ⟨Nat.lt_of_lt_of_le (h.own id o b hl hb).1 size, (h.own id o b hl hb).2⟩
  · intro i j oi oj b hi hj hbi hbj
    by_cases hMi : M i
    · by_cases hMj : M j
      · exact mdisj i j oi oj b hMi hMj hi hj hbi hbj
      · rw [same j hMj] at hj
        rw [hown hj] at hbj
        rcases (mown i oi b hMi hi hbi).2 with h2 | ⟨id', o', hM', hl', hob'⟩
        · exact absurd (h.own j oj b hj hbj).1 (by omega)
        · exact absurd (h.disj id' j o' oj b hl' hj hob' hbj ▸ hM') hMj
    · rw [same i hMi] at hi
      rw [hown hi] at hbi
      by_cases hMj : M j
      · rcases (mown j oj b hMj hj hbj).2 with h2 | ⟨id', o', hM', hl', hob'⟩
        · exact absurd (h.own i oi b hi hbi).1 (by omega)
        · exact absurd (h.disj id' i o' oi b hl' hi hob' hbi ▸ hM') hMi
      · rw [same j hMj] at hj
        rw [hown hj] at hbj
        exact h.disj i j oi oj b hi hj hbi hbj
  · intro id o hl k hk
    by_cases hM : M id
    · exact mids id o hM hl k hk
    · rw [same id hM] at hl
      exact mono k (h.oks id o hl k hk)
  · intro id hid
    exact ⟨(fix id hid).1.trans (h.fix id hid).1, (fix id hid).2.trans (h.fix id hid).2⟩

/-! slots -/
abbrev Sl := Nat → V
def upd (f : Sl) (d : Nat) (v : V) : Sl := fun t => cond (Nat.beq t d) v (f t)

def ev (f : Sl) : Operand → V
  | .tmp t => f t
  | .const v => .raw v
  | .global g => .raw (.pointer (some ⟨g, 0, none⟩))
  | .func g => .fn (.func g) [] []

structure Eff where
  v : V
  wr : List (Nat × O)
  new : List O

def applyW (L : List O) : List (Nat × O) → List O
  | [] => L
  | (id, o) :: r => applyW (L.set id o) r
def setAt (L : List O) (n : Nat) : List O → List O
  | [] => L
  | o :: r => setAt (L.set n o) (n + 1) r
def Eff.app (e : Eff) (n : Nat) (L : List O) : List O := setAt (applyW L e.wr) n e.new

def opd (ρ : Rho) (Lr : List O) (a : Act) (f : Sl) (x : Operand) : Prop := a.eval x = (ev f x).ren ρ ∧ ∀ k ∈ (ev f x).ids, okId Lr k

def Agree (ρ ρ' : Rho) (L : List O) : Prop := ∀ id, okId L id → ρ'.blk id = ρ.blk id ∧ ρ'.val id = ρ.val id

/-- A local triple: whatever the state, where the operands and the objects read are as told. -/
def LocOK (P : Program) (Γ : Ctx) (n : Nat) (o : Oper) (f : Sl) (L : List O) (rd : List Nat) (e : Eff) : Prop :=
  ∀ (ρ : Rho) (a : Act) (w : World) (Lr : List O),
    (∀ x ∈ o.op.operands.toList, opd ρ Lr a f x) → Rel Γ ρ Lr w → (∀ id ∈ rd, id < L.length → Lr[id]? = L[id]?) →
    (∀ i, i < e.new.length → Lr[n + i]? = some O.free) → Γ.m ≤ n →
    ∀ (K : Act → World → Prop) (Q : Exit → Act → World → Prop),
      (∀ ρ' w', Rel Γ ρ' (e.app n Lr) w' → Agree ρ ρ' Lr → (∀ k, okId Lr k → okId (e.app n Lr) k) → (∀ k ∈ e.v.ids, okId (e.app n Lr) k) → K (a.put o.dst (e.v.ren ρ')) w') →
      o.wp P a w K Q

section
variable {P : Program} {Γ : Ctx} {n : Nat} {o : Oper} {f : Sl} {L : List O} {rd : List Nat}

theorem Agree.refl (ρ : Rho) (L : List O) : Agree ρ ρ L := fun _ _ => ⟨rfl, rfl⟩

theorem LocOK.pure {v : V}
    (h : ∀ ρ a w Lr, (∀ x ∈ o.op.operands.toList, opd ρ Lr a f x) → Rel Γ ρ Lr w → (∀ id ∈ rd, id < L.length → Lr[id]? = L[id]?) →
      (execOp a.eval o).run P w = .ok (.value (v.ren ρ)) w ∧ ∀ k ∈ v.ids, okId Lr k) : LocOK P Γ n o f L rd ⟨v, [], []⟩ := by
  intro ρ a w Lr hx hr hrd _ _ K Q hK
  obtain ⟨h1, h2⟩ := h ρ a w Lr hx hr hrd
  unfold Oper.wp
  rw [h1]
  exact hK ρ w hr (Agree.refl ρ Lr) (fun _ h => h) h2

/-- A plain result out of plain operands. -/
theorem LocOK.plain {v : Value}
    (h : ∀ ρ a w Lr, (∀ x ∈ o.op.operands.toList, opd ρ Lr a f x) → Rel Γ ρ Lr w → (∀ id ∈ rd, id < L.length → Lr[id]? = L[id]?) →
      (execOp a.eval o).run P w = .ok (.value v) w) : LocOK P Γ n o f L rd ⟨.raw v, [], []⟩ :=
  LocOK.pure fun ρ a w Lr h1 h2 h3 => ⟨h ρ a w Lr h1 h2 h3, fun k hk => by simp [V.ids] at hk⟩

end

def Rho.put (ρ : Rho) (n b : Nat) (v : Value) : Rho := ⟨fun i => if i = n then b else ρ.blk i, fun i => if i = n then v else ρ.val i⟩

theorem okId_set {L : List O} {n : Nat} {o : O} (ho : o ≠ .free) {k : Nat} (h : okId L k) : okId (L.set n o) k := by
  obtain ⟨x, hx, hf⟩ := h
  by_cases hk : n = k
  · subst hk
    exact ⟨o, by rw [List.getElem?_set_self' ]; simp [hx], ho⟩
  · exact ⟨x, by rw [List.getElem?_set_ne hk]; exact hx, hf⟩

theorem okId_set_new {L : List O} {n : Nat} {o : O} (ho : o ≠ .free) (h : n < L.length) : okId (L.set n o) n :=
  ⟨o, by rw [List.getElem?_set_self h], ho⟩

theorem lt_of_get {α : Type} {L : List α} {n : Nat} {o : α} (h : L[n]? = some o) : n < L.length := by
  rcases Nat.lt_or_ge n L.length with h1 | h1
  · exact h1
  · rw [List.getElem?_eq_none h1] at h; cases h

/-- A new block. -/
theorem Rel.new {Γ : Ctx} {ρ : Rho} {L : List O} {w w' : World} (h : Rel Γ ρ L w) {n : Nat} (hn : L[n]? = some .free) (hm : Γ.m ≤ n) {o : O} {ob : Obj} {v : Value}
    (ho : o ≠ .free) (hw : w'.heap = w.heap.push ob) (os : w'.os = w.os) (tape : w'.tape = w.tape) (output : w'.output = w.output)
    (hown : ∀ b, o.own (ρ.put n w.heap.size v) n b → b = w.heap.size) (hobj : objAt (ρ.put n w.heap.size v) w' n o) (hids : ∀ k ∈ o.ids, okId L k) :
    Rel Γ (ρ.put n w.heap.size v) (L.set n o) w' ∧ Agree ρ (ρ.put n w.heap.size v) L := by
  have hlt := lt_of_get hn
  have hag : Agree ρ (ρ.put n w.heap.size v) L := by
    intro id ⟨x, hx, hf⟩
    have hne : id ≠ n := by rintro rfl; rw [hn] at hx; injection hx with hx; exact hf hx.symm
    simp [Rho.put, hne]
  refine ⟨h.step (fun id => id = n) os tape output (by rw [hw]; simp) hag ?_ ?_ ?_ ?_ ?_ ?_ ?_ ?_ ?_, hag⟩
  · intro id hid; rw [List.getElem?_set_ne (Ne.symm hid)]
  · intro b hb _; rw [hw, Array.getElem?_push, if_neg (by omega)]
  · rintro id o' rfl hl
    rw [List.getElem?_set_self hlt] at hl
    injection hl with hl
    subst hl
    exact hobj
  · rintro id o' b rfl hl hb
    rw [List.getElem?_set_self hlt] at hl
    injection hl with hl
    subst hl
    have := hown b hb
    subst this
    exact ⟨by rw [hw]; simp, .inl (Nat.le_refl _)⟩
  · rintro i j _ _ _ rfl rfl _ _ _ _; rfl
  · rintro id o' rfl hl k hk
    rw [List.getElem?_set_self hlt] at hl
    injection hl with hl
    subst hl
    exact okId_set ho (hids k hk)
  · exact fun k hk => okId_set ho hk
  · intro id hid
    have : id ≠ n := by omega
    simp [Rho.put, this]
  · simp

def O.shape : O → Option (TypeId ⊕ (TypeId × Nat × Nat))
  | .pc _ t | .cc _ t => some (.inl t)
  | .pr e sz n _ | .cr e sz n _ => some (.inr (e, sz, n))
  | _ => none
def O.view (ρ : Rho) : O → List Value
  | .pc cs _ => cs
  | .cc cs _ => renL ρ cs
  | .pr _ _ _ xs => xs
  | .cr _ _ _ xs => renL ρ xs
  | _ => []

theorem objAt_inl {ρ : Rho} {w : World} {id : Nat} {o : O} {t : TypeId} (h : o.shape = some (.inl t)) :
    objAt ρ w id o ↔ w.heap[ρ.blk id]? = some (.cells (o.view ρ).toArray t (0, 0)) := by
  cases o <;> simp_all [O.shape, objAt, O.view]
theorem objAt_inr {ρ : Rho} {w : World} {id : Nat} {o : O} {e : TypeId} {sz n : Nat} (h : o.shape = some (.inr (e, sz, n))) :
    objAt ρ w id o ↔ rowAt ρ w id e sz n (o.view ρ) := by
  cases o <;> simp_all [O.shape, objAt, O.view]

theorem view_cell {ρ : Rho} {w : World} {id : Nat} {o : O} (h : objAt ρ w id o) {i : Nat} {v : Value} (hv : (o.view ρ)[i]? = some v) :
    w.cell? ⟨ρ.blk id, i, none⟩ = some v := by
  cases hs : o.shape with
  | none => cases o <;> simp [O.shape] at hs <;> simp [O.view] at hv
  | some s =>
    rcases s with t | ⟨e, sz, n⟩
    · rw [objAt_inl hs] at h
      rw [cell_of_row w _ i _ t (0, 0) h]
      simpa using hv
    · rw [objAt_inr hs] at h
      obtain ⟨h1, h2⟩ := h
      rcases h1.2 with ⟨h3, h4⟩ | ⟨g, cap, cur, h3, _, hg, _, _, _, ht⟩
      · have : (o.view ρ).length = 0 := by rw [h1.1, h4]; simp
        rw [List.eq_nil_of_length_eq_zero this] at hv
        simp at hv
      · have hb : ρ.blk id = g := h2 g (by rw [h3]; rfl)
        rw [hb, cell_of_row w g i cur e (0, 0) hg]
        rw [← ht, List.getElem?_take] at hv
        split at hv
        · simpa using hv
        · cases hv

theorem shape_own {ρ : Rho} {id : Nat} {o o' : O} (h : o'.shape = o.shape) (hs : o.shape ≠ none) : o'.own ρ id = o.own ρ id := by
  cases o <;> cases o' <;> simp_all [O.shape] <;> rfl

def ones (xs : List Value) : Prop := ∀ u ∈ xs, u.oneCell' = true

theorem take_splice {α : Type} (c vs : List α) (off N : Nat) (h : off + vs.length ≤ N) (h2 : N ≤ c.length) :
    (c.take off ++ vs ++ c.drop (off + vs.length)).take N = (c.take N).take off ++ vs ++ (c.take N).drop (off + vs.length) := by
  have hl : (c.take off ++ vs).length = off + vs.length := by simp; omega
  rw [List.take_append, hl, List.take_of_length_le (by omega), List.drop_take, List.take_take, Nat.min_eq_left (by omega)]

/-- A store: what the world has become. -/
theorem store_view {P : Program} {ρ : Rho} {w : World} {id : Nat} {o : O} (h : objAt ρ w id o) (hs : o.shape ≠ none) {off : Nat} {vs : List Value} (hfit : off + vs.length ≤ (o.view ρ).length) (hpos : 0 < vs.length) (h1 : ones vs) :
    ∃ w', (storeCells ⟨ρ.blk id, off, none⟩ vs).run P w = .ok () w' ∧ w'.os = w.os ∧ w'.tape = w.tape ∧ w'.output = w.output ∧ w'.heap.size = w.heap.size ∧
      o.own ρ id (ρ.blk id) ∧ (∀ b, b ≠ ρ.blk id → w'.heap[b]? = w.heap[b]?) ∧
      ∀ o' : O, o'.shape = o.shape → o'.view ρ = (o.view ρ).take off ++ vs ++ (o.view ρ).drop (off + vs.length) → objAt ρ w' id o' := by
  cases hsh : o.shape with
  | none => exact absurd hsh hs
  | some s =>
    rcases s with t | ⟨e, sz, n⟩
    · have hg := (objAt_inl hsh).1 h
      have hst := run_storeCells_at P (ρ.blk id) off t vs 0 _ w hg (by simpa using hfit) h1
      refine ⟨_, hst, rfl, rfl, rfl, by simp, ?_, fun b hb => setRow_other w _ b _ hb, ?_⟩
      · cases o <;> simp [O.shape] at hsh <;> rfl
      · intro o' ho' hv
        rw [objAt_inl ho', setRow_heap w _ _ _ t _ hg, hv]
        simp
    · have hg := (objAt_inr hsh).1 h
      obtain ⟨hro, hbl⟩ := hg
      rcases hro.2 with ⟨h3, h4⟩ | ⟨g, cap, cur, h3, hb0, hg, hnc, hcm, hcs, ht⟩
      · have : (o.view ρ).length = 0 := by rw [hro.1, h4]; simp
        omega
      · have hb : ρ.blk id = g := hbl g (by rw [h3]; rfl)
        have hcl : (o.view ρ).length ≤ cur.size := by rw [hro.1, hcs]; exact Nat.mul_le_mul_right _ hnc
        have hst := run_storeCells_at P g off e vs 0 cur w hg (by omega) h1
        simp only [Nat.add_zero] at hst
        refine ⟨w.setRow g (cur.toList.take off ++ vs ++ cur.toList.drop (off + vs.length)).toArray, by rw [hb]; exact hst, rfl, rfl, rfl, by simp, ?_, fun b hb' => setRow_other w g b _ (by rw [← hb]; exact hb'), ?_⟩
        · cases o <;> simp [O.shape] at hsh <;> simp [O.own, O.own1, h3, Value.ownBlock, hb]
        · intro o' ho' hv
          rw [objAt_inr ho']
          refine ⟨⟨?_, .inr ⟨g, cap, _, h3, hb0, setRow_heap w g _ _ e _ hg, hnc, hcm, ?_, ?_⟩⟩, fun b hb' => hbl b hb'⟩
          · rw [hv, ← hro.1]; simp; omega
          · simp only [List.size_toArray, List.length_append, List.length_take, List.length_drop, Array.length_toList]
            omega
          · rw [hv, ← ht]
            have hlen : (o.view ρ).length ≤ cur.toList.length := by simpa using hcl
            exact take_splice _ _ _ _ (by rw [← hro.1]; exact hfit) (by rw [← hro.1]; exact hlen)
end Go.Proofs.Ytpangmameocfmaa.VE
namespace Go.Proofs.Ytpangmameocfmaa.VE
open Go

theorem Rel.set {Γ : Ctx} {ρ : Rho} {L : List O} {w w' : World} (h : Rel Γ ρ L w) {id : Nat} {o o' : O} (hl : L[id]? = some o) (hf' : o' ≠ .free)
    (hown : o'.own ρ id = o.own ρ id) (os : w'.os = w.os) (tape : w'.tape = w.tape) (output : w'.output = w.output) (size : w'.heap.size = w.heap.size)
    (hkeep : ∀ b, ¬ o.own ρ id b → w'.heap[b]? = w.heap[b]?) (hobj : objAt ρ w' id o') (hids : ∀ k ∈ o'.ids, okId L k) :
    Rel Γ ρ (L.set id o') w' := by
  have hlt := lt_of_get hl
  refine h.step (fun i => i = id) os tape output (by omega) (Agree.refl ρ L) ?_ ?_ ?_ ?_ ?_ ?_ ?_ ?_ (by simp)
  · intro i hi; rw [List.getElem?_set_ne (Ne.symm hi)]
  · intro b _ hb; exact hkeep b (hb id o rfl hl)
  · rintro i x rfl hx
    rw [List.getElem?_set_self hlt] at hx
    injection hx with hx; subst hx; exact hobj
  · rintro i x b rfl hx hb
    rw [List.getElem?_set_self hlt] at hx
    injection hx with hx; subst hx
    rw [hown] at hb
    exact ⟨by rw [size]; exact (h.own i o b hl hb).1, .inr ⟨i, o, rfl, hl, hb⟩⟩
  · rintro i j _ _ _ rfl rfl _ _ _ _; rfl
  · rintro i x rfl hx k hk
    rw [List.getElem?_set_self hlt] at hx
    injection hx with hx; subst hx
    exact okId_set hf' (hids k hk)
  · exact fun k hk => okId_set hf' hk
  · exact fun _ _ => ⟨rfl, rfl⟩

/-- A test that decides itself. -/
def onlyIf (b : Bool) (K : Prop) : Prop := match b with | true => K | false => False
theorem onlyIf_elim {b : Bool} {K : Prop} (h : onlyIf b K) : b = true ∧ K := by
  cases b with
  | true => exact ⟨rfl, h⟩
  | false => exact h.elim

/-! types, as the evaluator reads them -/
def withInfo (P : Program) (T : TypeId) (K : TypeInfo → Prop) : Prop :=
  match P.info? T with | some i => K i | none => False

theorem withInfo_elim {P : Program} {T : TypeId} {K : TypeInfo → Prop} (h : withInfo P T K) : ∃ i, P.info? T = some i ∧ K i := by
  unfold withInfo at h
  split at h
  · exact ⟨_, ‹_›, h⟩
  · exact h.elim

/-- The size of a type, forced. -/
def withSize (P : Program) (T : TypeId) (K : Nat → Prop) : Prop :=
  match P.info? T with | some ⟨_, _, sz, _, _, _, _, _, _, _⟩ => K sz | none => False

theorem withSize_elim {P : Program} {T : TypeId} {K : Nat → Prop} (h : withSize P T K) : ∃ i, P.info? T = some i ∧ K i.size := by
  unfold withSize at h
  split at h
  · rename_i heq; exact ⟨_, heq, h⟩
  · exact h.elim

/-- Is a type a struct or an array? -/
def aggCase (P : Program) (T : TypeId) (A B : Prop) : Prop :=
  match P.underlying T with
  | some (.struct _) => A
  | some (.array _ _) => A
  | some _ => B
  | none => False

theorem aggCase_elim {P : Program} {T : TypeId} {A B : Prop} (h : aggCase P T A B) :
    (A ∧ ∀ w, (isAgg T).run P w = .ok true w) ∨ (B ∧ ∀ w, (isAgg T).run P w = .ok false w) := by
  unfold aggCase at h
  split at h
  · rename_i hu; exact .inl ⟨h, fun w => by simp [isAgg, run_underlying hu]⟩
  · rename_i hu; exact .inl ⟨h, fun w => by simp [isAgg, run_underlying hu]⟩
  · rename_i d h1 h2 hu
    refine .inr ⟨h, fun w => ?_⟩
    simp only [isAgg, Sem.run_bind, run_underlying hu, Result.andThen_ok]
    rfl
  · exact h.elim

def addK (a b : Nat) (K : Nat → Prop) : Prop := match a with | 0 => K b | _ + 1 => K (a + b)
theorem addK_elim {a b : Nat} {K : Nat → Prop} (h : addK a b K) : K (a + b) := by
  cases a with
  | zero => simpa [addK] using h
  | succ a => exact h
def fieldK (a b : Nat) (K : Nat → Prop) : Prop := match b with | 0 => K a | _ + 1 => K (a + b)
theorem fieldK_elim {a b : Nat} {K : Nat → Prop} (h : fieldK a b K) : K (a + b) := by
  cases b with
  | zero => exact h
  | succ b => exact h
def mulK (k sz : Nat) (K : Nat → Prop) : Prop := match sz with | 1 => K k | s => K (k * s)
theorem mulK_elim {k sz : Nat} {K : Nat → Prop} (h : mulK k sz K) : K (k * sz) := by
  unfold mulK at h
  split at h
  · simpa using h
  · exact h

abbrev LK := List Nat → Eff → Prop
abbrev LK.v (K : LK) (v : V) : Prop := K [] ⟨v, [], []⟩

/-- What is read of plain cells. -/
def loadP (P : Program) (T : TypeId) (cs : List Value) (off : Nat) (K : Value → Prop) : Prop :=
  aggCase P T (withSize P T fun sz => ∃ ds : List Value, (ds.length = sz ∧ (cs.drop off).take sz = ds) ∧ K (.agg ds.toArray))
    (∃ v, cs[off]? = some v ∧ K v)
def loadV (P : Program) (T : TypeId) (cs : List V) (off : Nat) (K : V → Prop) : Prop :=
  aggCase P T (withSize P T fun sz => ∃ ds : List V, (ds.length = sz ∧ (cs.drop off).take sz = ds) ∧ K (.agg ds))
    (∃ v, cs[off]? = some v ∧ K v)

theorem mr_cell {ρ : Rho} {w : World} {id n : Nat} {e : TypeId} {xs : List Value} (h : objAt ρ w id (.mr e n xs)) {i : Nat} {v : Value} (hv : xs[i]? = some v) : w.cell? ⟨ρ.blk id, i, none⟩ = some v := by
  obtain ⟨_, cap, cur, _, hg, _, ht⟩ := h
  rw [cell_of_row w _ i cur e _ hg]
  rw [← ht, List.getElem?_take] at hv
  split at hv
  · simpa using hv
  · cases hv

def loadLoc (P : Program) (T : TypeId) (L : List O) (id off : Nat) (K : LK) : Prop :=
  match L[id]? with
  | some (.pc cs _) => loadP P T cs off fun v => K [id] ⟨.raw v, [], []⟩
  | some (.pr _ _ _ xs) => loadP P T xs off fun v => K [id] ⟨.raw v, [], []⟩
  | some (.mr _ _ xs) => loadP P T xs off fun v => K [id] ⟨.raw v, [], []⟩
  | some (.cc cs _) => loadV P T cs off fun v => K [id] ⟨v, [], []⟩
  | some (.cr _ _ _ xs) => loadV P T xs off fun v => K [id] ⟨v, [], []⟩
  | _ => False

theorem Addr.add_lit' (g off j : Nat) : (⟨g, off, none⟩ : Addr).add j = ⟨g, off + j, none⟩ := by
  unfold Addr.add; split <;> simp_all

theorem run_loadVar_scalar {P : Program} {T : TypeId} {w : World} {a : Addr} {v : Value} (h : (isAgg T).run P w = .ok false w) (hc : w.cell? a = some v) :
    (loadVar T a).run P w = .ok v w := by
  simp [loadVar, h, hc]

theorem run_loadVar_agg {P : Program} {T : TypeId} {w : World} {g off : Nat} {ds : List Value} {i : TypeInfo} (h : (isAgg T).run P w = .ok true w) (hi : P.info? T = some i) (hl : ds.length = i.size)
    (hc : ∀ j v, ds[j]? = some v → w.cell? ⟨g, off + j, none⟩ = some v) : (loadVar T ⟨g, off, none⟩).run P w = .ok (.agg ds.toArray) w := by
  have hl' : (loadCells ⟨g, off, none⟩ ds.length).run P w = .ok ds.toArray w := run_loadCells_list (P := P) w ⟨g, off, none⟩ ds (fun j v hv => by rw [Addr.add_lit']; exact hc j v hv)
  rw [hl] at hl'
  simp [loadVar, h, sizeOf, typeInfo, hi, hl']

theorem take_drop_get {α : Type} {cs ds : List α} {off sz : Nat} (h : (cs.drop off).take sz = ds) {j : Nat} {v : α} (hv : ds[j]? = some v) : cs[off + j]? = some v := by
  rw [← h, List.getElem?_take] at hv
  split at hv
  · simpa [List.getElem?_drop] using hv
  · cases hv

section
variable {P : Program} {Γ : Ctx} {n : Nat} {o : Oper} {f : Sl} {L : List O}

/-- The run of a load of plain cells: at any world. -/
theorem loadP_run {T : TypeId} {cs : List Value} {off : Nat} {K : Value → Prop} (h : loadP P T cs off K) :
    ∃ v, K v ∧ ∀ (w : World) (g : Nat), (∀ i u, cs[i]? = some u → w.cell? ⟨g, i, none⟩ = some u) → (loadVar T ⟨g, off, none⟩).run P w = .ok v w := by
  unfold loadP at h
  rcases aggCase_elim h with ⟨h1, h2⟩ | ⟨h1, h2⟩
  · obtain ⟨i, hi, ds, ⟨hl, hd⟩, hK⟩ := withSize_elim h1
    exact ⟨_, hK, fun w g hc => run_loadVar_agg (h2 w) hi hl fun j v hv => hc _ _ (take_drop_get hd hv)⟩
  · obtain ⟨v, hv, hK⟩ := h1
    exact ⟨v, hK, fun w g hc => run_loadVar_scalar (h2 w) (hc _ _ hv)⟩

theorem renL_take (ρ : Rho) : ∀ (l : List V) (k : Nat), renL ρ (l.take k) = (renL ρ l).take k
  | [], k => by simp [renL]
  | _ :: _, 0 => by simp [renL]
  | _ :: r, k + 1 => by simp [renL, renL_take ρ r k]
theorem renL_drop (ρ : Rho) : ∀ (l : List V) (k : Nat), renL ρ (l.drop k) = (renL ρ l).drop k
  | [], k => by simp [renL]
  | _ :: _, 0 => by simp [renL]
  | _ :: r, k + 1 => by simp [renL, renL_drop ρ r k]

theorem loadV_run {T : TypeId} {cs : List V} {off : Nat} {K : V → Prop} (h : loadV P T cs off K) :
    ∃ v, K v ∧ (∀ k ∈ v.ids, k ∈ idsL cs) ∧ ∀ (ρ : Rho) (w : World) (g : Nat), (∀ i u, (renL ρ cs)[i]? = some u → w.cell? ⟨g, i, none⟩ = some u) → (loadVar T ⟨g, off, none⟩).run P w = .ok (v.ren ρ) w := by
  unfold loadV at h
  rcases aggCase_elim h with ⟨h1, h2⟩ | ⟨h1, h2⟩
  · obtain ⟨i, hi, ds, ⟨hl, hd⟩, hK⟩ := withSize_elim h1
    refine ⟨_, hK, ?_, fun ρ w g hc => ?_⟩
    · intro k hk
      obtain ⟨u, hu, hk⟩ := mem_idsL.1 (show k ∈ idsL ds from hk)
      exact mem_idsL.2 ⟨u, by rw [← hd] at hu; exact List.mem_of_mem_drop (List.mem_of_mem_take hu), hk⟩
    · exact run_loadVar_agg (h2 w) hi (by rw [renL_length]; exact hl) fun j v hv => hc _ _ (take_drop_get (by rw [← renL_drop, ← renL_take, hd]) hv)
  · obtain ⟨v, hv, hK⟩ := h1
    refine ⟨v, hK, fun k hk => mem_idsL.2 ⟨v, List.mem_of_getElem? hv, hk⟩, fun ρ w g hc => run_loadVar_scalar (h2 w) (hc _ _ (by rw [renL_get, hv]; rfl))⟩

theorem loadLoc_sound {T : TypeId} {x : Operand} (ho : o.op = .load T x) {id off : Nat} (hx : ev f x = .ptr id off) {K : LK} (h : loadLoc P T L id off K) :
    ∃ rd e, K rd e ∧ LocOK P Γ n o f L rd e := by
  have hop : ∀ {ρ : Rho} {a : Act} {Lr : List O}, (∀ y ∈ o.op.operands.toList, opd ρ Lr a f y) → a.eval x = .pointer (some ⟨ρ.blk id, off, none⟩) := by
    intro ρ a Lr hh
    have := (hh x (by simp [ho, Op.operands])).1
    rw [hx] at this
    exact this
  have run : ∀ {a : Act} {w : World} {A : Addr} {v : Value}, a.eval x = .pointer (some A) → (loadVar T A).run P w = .ok v w → (execOp a.eval o).run P w = .ok (.value v) w := by
    intro a w A v h1 h2
    simp [execOp, ho, h1, Instr.loadAt, Instr.sureAddr, h2]
  unfold loadLoc at h
  split at h
  · rename_i cs t hl
    obtain ⟨v, hK, hr⟩ := loadP_run h
    refine ⟨_, _, hK, LocOK.plain fun ρ a w Lr h1 h2 h3 => run (hop h1) (hr w _ fun i u hu => ?_)⟩
    exact view_cell (h2.obj id _ ((h3 id (by simp) (lt_of_get hl)).trans hl)) hu
  · rename_i xs hl
    obtain ⟨v, hK, hr⟩ := loadP_run h
    refine ⟨_, _, hK, LocOK.plain fun ρ a w Lr h1 h2 h3 => run (hop h1) (hr w _ fun i u hu => ?_)⟩
    exact view_cell (h2.obj id _ ((h3 id (by simp) (lt_of_get hl)).trans hl)) hu
  · rename_i xs hl
    obtain ⟨v, hK, hr⟩ := loadP_run h
    refine ⟨_, _, hK, LocOK.plain fun ρ a w Lr h1 h2 h3 => run (hop h1) (hr w _ fun i u hu => ?_)⟩
    exact mr_cell (h2.obj id _ ((h3 id (by simp) (lt_of_get hl)).trans hl)) hu
  · rename_i cs t hl
    obtain ⟨v, hK, hk, hr⟩ := loadV_run h
    refine ⟨_, _, hK, LocOK.pure fun ρ a w Lr h1 h2 h3 => ⟨run (hop h1) (hr ρ w _ fun i u hu => ?_), fun k hk' => ?_⟩⟩
    · exact view_cell (h2.obj id _ ((h3 id (by simp) (lt_of_get hl)).trans hl)) hu
    · exact h2.oks id _ ((h3 id (by simp) (lt_of_get hl)).trans hl) k (hk k hk')
  · rename_i xs hl
    obtain ⟨v, hK, hk, hr⟩ := loadV_run h
    refine ⟨_, _, hK, LocOK.pure fun ρ a w Lr h1 h2 h3 => ⟨run (hop h1) (hr ρ w _ fun i u hu => ?_), fun k hk' => ?_⟩⟩
    · exact view_cell (h2.obj id _ ((h3 id (by simp) (lt_of_get hl)).trans hl)) hu
    · exact h2.oks id _ ((h3 id (by simp) (lt_of_get hl)).trans hl) k (hk k hk')
  · exact h.elim
end
end Go.Proofs.Ytpangmameocfmaa.VE
namespace Go.Proofs.Ytpangmameocfmaa.VE
open Go

section
variable {P : Program} {Γ : Ctx} {n : Nat} {o : Oper} {f : Sl} {L : List O}

theorem store_gen {T : TypeId} {x y : Operand} (ho : o.op = .store T x y) (hdst : o.dst = none) {id off : Nat} (hx : ev f x = .ptr id off) {ob ob' : O} (hl : L[id]? = some ob)
    (hs : ob.shape ≠ none) (hsh : ob'.shape = ob.shape) {i : TypeInfo} (hi : P.info? T = some i) {vs : List V} (hv : ∀ ρ, ((ev f y).ren ρ).cells.toList = renL ρ vs)
    (hlen : vs.length = i.size) (hpos : 0 < i.size) (hfit : ∀ ρ, off + i.size ≤ (ob.view ρ).length) (hone : ∀ ρ, ones (renL ρ vs))
    (hview : ∀ ρ, ob'.view ρ = (ob.view ρ).take off ++ renL ρ vs ++ (ob.view ρ).drop (off + i.size)) (hids : ∀ k ∈ ob'.ids, k ∈ ob.ids ∨ k ∈ (ev f y).ids) :
    LocOK P Γ n o f L [id] ⟨.raw undef, [(id, ob')], []⟩ := by
  intro ρ a w Lr hop hr hrd _ _ K Q hK
  have h1 := (hop x (by simp [ho, Op.operands])).1
  rw [hx] at h1
  have h2 := hop y (by simp [ho, Op.operands])
  have hl' : Lr[id]? = some ob := (hrd id (by simp) (lt_of_get hl)).trans hl
  have hob := hr.obj id ob hl'
  obtain ⟨w', hst, os, tape, out, size, hown, hkeep, hnew⟩ := store_view (P := P) hob hs (off := off) (vs := renL ρ vs) (by rw [renL_length, hlen]; exact hfit ρ) (by rw [renL_length, hlen]; exact hpos) (hone ρ)
  have hf' : ob' ≠ .free := by rintro rfl; exact hs hsh.symm
  have hrel : Rel Γ ρ (Lr.set id ob') w' := by
    refine hr.set hl' hf' (shape_own hsh hs) os tape out size (fun b hb => hkeep b fun e => hb (by rw [e]; exact hown)) (hnew ob' hsh ?_) ?_
    · rw [hview ρ, renL_length, hlen]
    · intro k hk
      rcases hids k hk with h | h
      · exact hr.oks id ob hl' k h
      · exact h2.2 k h
  have hrun : (execOp a.eval o).run P w = .ok .skip w' := by
    have hsz : ((ev f y).ren ρ).cells.size = i.size := by
      rw [← Array.length_toList, hv ρ, renL_length, hlen]
    simp only [execOp, ho, h1, h2.1, V.ren, Instr.storeAt, Instr.sureAddr, Sem.run_bind, Sem.run_pure, Result.andThen_ok, storeVar, sizeOf, typeInfo, run_program, hi, hsz]
    simp [hv ρ, hst]
  unfold Oper.wp
  rw [hrun]
  have := hK ρ w' hrel (Agree.refl ρ Lr) (fun k hk => okId_set hf' hk) (fun k hk => by simp [V.ids] at hk)
  simpa [Oper.upon, V.ren] using this

/-- Is it the value of one cell, whatever it is renamed to? (A slice's value is not known to be one by its id alone.) -/
def V.oneB : V → Bool
  | .ptr _ _ | .asl _ _ _ _ | .mp _ | .fn _ _ _ | .sl _ | .sub _ _ _ _ | .pl _ _ => true
  | .raw v => v.oneCell'
  | _ => false
theorem slv_one (v : Value) : (slv v).oneCell' = true := by cases v <;> rfl
theorem subOf_one (a b c : Nat) (v : Value) : (subOf a b c v).oneCell' = true := by
  unfold subOf; split <;> rfl
theorem V.oneB_elim {v : V} (h : v.oneB = true) (ρ : Rho) : (v.ren ρ).oneCell' = true := by
  cases v <;> simp only [V.oneB] at h <;> first | exact absurd h (by decide) | exact h | rfl | exact slv_one _ | exact subOf_one _ _ _ _
/-- Is each of them the value of one cell? -/
def onesB : List V → Bool
  | [] => true
  | v :: r => v.oneB && onesB r
theorem onesB_elim : ∀ {l : List V}, onesB l = true → ∀ ρ, ones (renL ρ l)
  | [], _, ρ, u, hu => by simp [renL] at hu
  | v :: r, h, ρ, u, hu => by
    simp only [onesB, Bool.and_eq_true] at h
    simp only [renL, List.mem_cons] at hu
    rcases hu with rfl | hu
    · exact V.oneB_elim h.1 ρ
    · exact onesB_elim h.2 ρ u hu

def storeLoc (P : Program) (T : TypeId) (L : List O) (id off : Nat) (y : V) (K : LK) : Prop :=
  withSize P T fun sz =>
  match y with
  | .raw (.agg arr) =>
    (arr.size = sz ∧ 0 < sz ∧ ones arr.toList) ∧
    match L[id]? with
    | some (.pc cs t) => ∃ cs', (off + sz ≤ cs.length ∧ cs.take off ++ arr.toList ++ cs.drop (off + sz) = cs') ∧ K [id] ⟨.raw undef, [(id, .pc cs' t)], []⟩
    | some (.pr e s m cs) => ∃ cs', (off + sz ≤ cs.length ∧ cs.take off ++ arr.toList ++ cs.drop (off + sz) = cs') ∧ K [id] ⟨.raw undef, [(id, .pr e s m cs')], []⟩
    | some (.cc cs t) => ∃ cs', (off + sz ≤ cs.length ∧ cs.take off ++ arr.toList.map V.raw ++ cs.drop (off + sz) = cs') ∧ K [id] ⟨.raw undef, [(id, .cc cs' t)], []⟩
    | some (.cr e s m cs) => ∃ cs', (off + sz ≤ cs.length ∧ cs.take off ++ arr.toList.map V.raw ++ cs.drop (off + sz) = cs') ∧ K [id] ⟨.raw undef, [(id, .cr e s m cs')], []⟩
    | _ => False
  | .raw v =>
    onlyIf (Nat.beq sz 1 && v.oneCell') <|
    match L[id]? with
    | some (.pc cs t) => ∃ cs', (off < cs.length ∧ cs.set off v = cs') ∧ K [id] ⟨.raw undef, [(id, .pc cs' t)], []⟩
    | some (.pr e s m cs) => ∃ cs', (off < cs.length ∧ cs.set off v = cs') ∧ K [id] ⟨.raw undef, [(id, .pr e s m cs')], []⟩
    | some (.cc cs t) => ∃ cs', (off < cs.length ∧ cs.set off (.raw v) = cs') ∧ K [id] ⟨.raw undef, [(id, .cc cs' t)], []⟩
    | some (.cr e s m cs) => ∃ cs', (off < cs.length ∧ cs.set off (.raw v) = cs') ∧ K [id] ⟨.raw undef, [(id, .cr e s m cs')], []⟩
    | some (.mr e m cs) => ∃ cs', (off < cs.length ∧ cs.set off v = cs') ∧ K [id] ⟨.raw undef, [(id, .mr e m cs')], []⟩
    | _ => False
  | .agg ys =>
    (ys.length = sz ∧ 0 < sz ∧ onesB ys = true) ∧
    match L[id]? with
    | some (.pc cs t) => ∃ cs', (off + sz ≤ cs.length ∧ (cs.map V.raw).take off ++ ys ++ (cs.map V.raw).drop (off + sz) = cs') ∧ K [id] ⟨.raw undef, [(id, .cc cs' t)], []⟩
    | some (.pr e s m cs) => ∃ cs', (off + sz ≤ cs.length ∧ (cs.map V.raw).take off ++ ys ++ (cs.map V.raw).drop (off + sz) = cs') ∧ K [id] ⟨.raw undef, [(id, .cr e s m cs')], []⟩
    | some (.cc cs t) => ∃ cs', (off + sz ≤ cs.length ∧ cs.take off ++ ys ++ cs.drop (off + sz) = cs') ∧ K [id] ⟨.raw undef, [(id, .cc cs' t)], []⟩
    | some (.cr e s m cs) => ∃ cs', (off + sz ≤ cs.length ∧ cs.take off ++ ys ++ cs.drop (off + sz) = cs') ∧ K [id] ⟨.raw undef, [(id, .cr e s m cs')], []⟩
    | _ => False
  | y =>
    onlyIf (Nat.beq sz 1 && y.oneB) <|
    match L[id]? with
    | some (.pc cs t) => ∃ cs', (off < cs.length ∧ (cs.map V.raw).set off y = cs') ∧ K [id] ⟨.raw undef, [(id, .cc cs' t)], []⟩
    | some (.pr e s m cs) => ∃ cs', (off < cs.length ∧ (cs.map V.raw).set off y = cs') ∧ K [id] ⟨.raw undef, [(id, .cr e s m cs')], []⟩
    | some (.cc cs t) => ∃ cs', (off < cs.length ∧ cs.set off y = cs') ∧ K [id] ⟨.raw undef, [(id, .cc cs' t)], []⟩
    | some (.cr e s m cs) => ∃ cs', (off < cs.length ∧ cs.set off y = cs') ∧ K [id] ⟨.raw undef, [(id, .cr e s m cs')], []⟩
    | _ => False

theorem set_splice {α : Type} (l : List α) (i : Nat) (v : α) (h : i < l.length) : l.set i v = l.take i ++ [v] ++ l.drop (i + 1) := by
  rw [List.set_eq_take_append_cons_drop, if_pos h]; simp

theorem one_cells {v : Value} (h : v.oneCell' = true) : v.cells.toList = [v] := by
  cases v <;> simp [Value.oneCell', Value.cells] at *

theorem idsL_append (a b : List V) : idsL (a ++ b) = idsL a ++ idsL b := by
  induction a with
  | nil => rfl
  | cons x r ih => simp [idsL, ih]
theorem mem_idsL_take {k m : Nat} {l : List V} (h : k ∈ idsL (l.take m)) : k ∈ idsL l := by
  obtain ⟨v, hv, hk⟩ := mem_idsL.1 h; exact mem_idsL.2 ⟨v, List.mem_of_mem_take hv, hk⟩
theorem mem_idsL_drop {k m : Nat} {l : List V} (h : k ∈ idsL (l.drop m)) : k ∈ idsL l := by
  obtain ⟨v, hv, hk⟩ := mem_idsL.1 h; exact mem_idsL.2 ⟨v, List.mem_of_mem_drop hv, hk⟩

theorem store_fin {T : TypeId} {x y : Operand} (ho : o.op = .store T x y) (hdst : o.dst = none) {id off : Nat} (hx : ev f x = .ptr id off) {ob ob' : O} (hl : L[id]? = some ob)
    (hs : ob.shape ≠ none) (hsh : ob'.shape = ob.shape) {i : TypeInfo} (hi : P.info? T = some i) {vs base : List V} (hv : ∀ ρ, ((ev f y).ren ρ).cells.toList = renL ρ vs)
    (hlen : vs.length = i.size) (hpos : 0 < i.size) (hb : ∀ ρ, ob.view ρ = renL ρ base) (hbi : ∀ k ∈ idsL base, k ∈ ob.ids) (hfit : off + i.size ≤ base.length) (hone : ∀ ρ, ones (renL ρ vs))
    (hview : ∀ ρ, ob'.view ρ = renL ρ (base.take off ++ vs ++ base.drop (off + i.size))) (hids : ∀ k ∈ ob'.ids, k ∈ idsL (base.take off ++ vs ++ base.drop (off + i.size))) (hvi : ∀ k ∈ idsL vs, k ∈ (ev f y).ids) :
    LocOK P Γ n o f L [id] ⟨.raw undef, [(id, ob')], []⟩ := by
  refine store_gen ho hdst hx hl hs hsh hi hv hlen hpos (fun ρ => by rw [hb ρ, renL_length]; exact hfit) hone (fun ρ => ?_) (fun k hk => ?_)
  · rw [hview ρ, hb ρ, renL_append, renL_append, renL_take, renL_drop]
  · have := hids k hk
    rw [idsL_append, idsL_append, List.mem_append, List.mem_append] at this
    rcases this with (h | h) | h
    · exact .inl (hbi k (mem_idsL_take h))
    · exact .inr (hvi k h)
    · exact .inl (hbi k (mem_idsL_drop h))

theorem store_mr {T : TypeId} {x y : Operand} (ho : o.op = .store T x y) (hdst : o.dst = none) {id off m : Nat} (hx : ev f x = .ptr id off) {e : TypeId} {cs : List Value} {v : Value} (hl : L[id]? = some (.mr e m cs)) (hy : ev f y = .raw v)
    {i : TypeInfo} (hi : P.info? T = some i) (h1 : i.size = 1) (h2 : v.oneCell' = true) (hfit : off < cs.length) : LocOK P Γ n o f L [id] ⟨.raw undef, [(id, .mr e m (cs.set off v))], []⟩ := by
  intro ρ a w Lr hop hr hrd _ _ K Q hK
  have e1 := (hop x (by simp [ho, Op.operands])).1
  rw [hx] at e1
  have e2 := (hop y (by simp [ho, Op.operands])).1
  rw [hy] at e2
  have hl' := (hrd id (by simp) (lt_of_get hl)).trans hl
  have hob := hr.obj id _ hl'
  obtain ⟨hlen, cap, cur, hval, hg, hle, ht⟩ := hob
  have hi' : off < cur.size := by omega
  have hcell : w.cell? ⟨ρ.blk id, off, none⟩ = some cur[off] := by simp [World.cell?, hg, hi']
  have hfro : w.frozen? ⟨ρ.blk id, off, none⟩ = false := by simp [World.frozen?, hg]; omega
  have hst : (store ((⟨ρ.blk id, off, none⟩ : Addr).add 0) v).run P w = .ok () (w.setRow (ρ.blk id) (cur.setIfInBounds off v)) := by
    rw [Addr.add_lit', Nat.add_zero, run_store P w _ v _ h2, hcell]
    simp [hfro, setCell_eq_setRow w (ρ.blk id) off cur e _ v hg]
  have hc : v.cells.toList = [v] := one_cells h2
  have hsz : v.cells.size = 1 := by rw [← Array.length_toList, hc]; rfl
  have hrun : (execOp a.eval o).run P w = .ok .skip (w.setRow (ρ.blk id) (cur.setIfInBounds off v)) := by
    simp only [execOp, ho, e1, e2, V.ren, Instr.storeAt, Instr.sureAddr, Sem.run_bind, Sem.run_pure, Result.andThen_ok, storeVar, sizeOf, typeInfo, run_program, hi, hsz, h1]
    simp [hc, storeCells, hst]
  have hrel : Rel Γ ρ (Lr.set id (.mr e m (cs.set off v))) (w.setRow (ρ.blk id) (cur.setIfInBounds off v)) := by
    refine hr.set hl' (by simp) rfl rfl rfl rfl (by simp) (fun b hb => setRow_other w _ b _ fun e => hb (by rw [e]; rfl)) ?_ (by simp [O.ids])
    refine ⟨by simpa using hlen, cap, cur.setIfInBounds off v, hval, ?_, by simpa using hle, ?_⟩
    · have := setRow_heap w (ρ.blk id) cur (cur.setIfInBounds off v) e _ hg
      simpa using this
    · rw [Array.toList_setIfInBounds, List.take_set, ht]
  unfold Oper.wp
  rw [hrun]
  have := hK ρ _ hrel (Agree.refl ρ Lr) (fun k hk => okId_set (by simp) hk) (fun k hk => by simp [V.ids] at hk)
  simpa [Oper.upon, V.ren] using this

theorem storeLoc_sound {T : TypeId} {x y : Operand} (ho : o.op = .store T x y) (hdst : o.dst = none) {id off : Nat} (hx : ev f x = .ptr id off) {K : LK} (h : storeLoc P T L id off (ev f y) K) :
    ∃ rd e, K rd e ∧ LocOK P Γ n o f L rd e := by
  unfold storeLoc at h
  obtain ⟨i, hi, h⟩ := withSize_elim h
  split at h
  · rename_i arr hy
    obtain ⟨⟨h1, h2, h3⟩, h⟩ := h
    have hv : ∀ ρ, ((ev f y).ren ρ).cells.toList = renL ρ (arr.toList.map V.raw) := fun ρ => by rw [hy, renL_map_raw]; rfl
    have hone : ∀ ρ, ones (renL ρ (arr.toList.map V.raw)) := fun ρ => by rw [renL_map_raw]; exact h3
    have hvi : ∀ k ∈ idsL (arr.toList.map V.raw), k ∈ (ev f y).ids := fun k hk => by rw [idsL_map_raw] at hk; cases hk
    split at h
    · rename_i cs t hl
      obtain ⟨cs', ⟨hfit, rfl⟩, hK⟩ := h
      refine ⟨_, _, hK, store_fin ho hdst hx hl (by simp [O.shape]) rfl hi hv (by simpa using h1) h2 (base := cs.map V.raw) (fun ρ => by rw [renL_map_raw]; rfl) (fun k hk => by rw [idsL_map_raw] at hk; cases hk) (by simpa using hfit) hone (fun ρ => ?_) (fun k hk => by simp [O.ids] at hk) hvi⟩
      simp only [renL_append, renL_take, renL_drop, renL_map_raw]; rfl
    · rename_i e s m cs hl
      obtain ⟨cs', ⟨hfit, rfl⟩, hK⟩ := h
      refine ⟨_, _, hK, store_fin ho hdst hx hl (by simp [O.shape]) rfl hi hv (by simpa using h1) h2 (base := cs.map V.raw) (fun ρ => by rw [renL_map_raw]; rfl) (fun k hk => by rw [idsL_map_raw] at hk; cases hk) (by simpa using hfit) hone (fun ρ => ?_) (fun k hk => by simp [O.ids] at hk) hvi⟩
      simp only [renL_append, renL_take, renL_drop, renL_map_raw]; rfl
    · rename_i cs t hl
      obtain ⟨cs', ⟨hfit, rfl⟩, hK⟩ := h
      exact ⟨_, _, hK, store_fin ho hdst hx hl (by simp [O.shape]) rfl hi hv (by simpa using h1) h2 (base := cs) (fun ρ => rfl) (fun k hk => hk) hfit hone (fun ρ => rfl) (fun k hk => hk) hvi⟩
    · rename_i e s m cs hl
      obtain ⟨cs', ⟨hfit, rfl⟩, hK⟩ := h
      exact ⟨_, _, hK, store_fin ho hdst hx hl (by simp [O.shape]) rfl hi hv (by simpa using h1) h2 (base := cs) (fun ρ => rfl) (fun k hk => hk) hfit hone (fun ρ => rfl) (fun k hk => hk) hvi⟩
    · exact h.elim
  · rename_i v hna hy
    obtain ⟨h12, h⟩ := onlyIf_elim h
    simp only [Bool.and_eq_true] at h12
    obtain ⟨h1, h2⟩ := h12
    have h1 := Nat.eq_of_beq_eq_true h1
    have hv : ∀ ρ, ((ev f y).ren ρ).cells.toList = renL ρ [V.raw v] := fun ρ => by rw [hy]; exact one_cells h2
    have hone : ∀ ρ, ones (renL ρ [V.raw v]) := fun ρ u hu => by simp [renL, V.ren] at hu; subst hu; exact h2
    have hvi : ∀ k ∈ idsL [V.raw v], k ∈ (ev f y).ids := fun k hk => by simp [idsL, V.ids] at hk
    split at h
    · rename_i cs t hl
      obtain ⟨cs', ⟨hfit, rfl⟩, hK⟩ := h
      refine ⟨_, _, hK, store_fin ho hdst hx hl (by simp [O.shape]) rfl hi hv (by simp [h1]) (by omega) (base := cs.map V.raw) (fun ρ => by rw [renL_map_raw]; rfl) (fun k hk => by rw [idsL_map_raw] at hk; cases hk) (by simp; omega) hone (fun ρ => ?_) (fun k hk => by simp [O.ids] at hk) hvi⟩
      simp only [renL_append, renL_take, renL_drop, renL_map_raw, h1]; exact set_splice _ _ _ hfit
    · rename_i e s m cs hl
      obtain ⟨cs', ⟨hfit, rfl⟩, hK⟩ := h
      refine ⟨_, _, hK, store_fin ho hdst hx hl (by simp [O.shape]) rfl hi hv (by simp [h1]) (by omega) (base := cs.map V.raw) (fun ρ => by rw [renL_map_raw]; rfl) (fun k hk => by rw [idsL_map_raw] at hk; cases hk) (by simp; omega) hone (fun ρ => ?_) (fun k hk => by simp [O.ids] at hk) hvi⟩
      simp only [renL_append, renL_take, renL_drop, renL_map_raw, h1]; exact set_splice _ _ _ hfit
    · rename_i cs t hl
      obtain ⟨cs', ⟨hfit, rfl⟩, hK⟩ := h
      refine ⟨_, _, hK, store_fin ho hdst hx hl (by simp [O.shape]) rfl hi hv (by simp [h1]) (by omega) (base := cs) (fun ρ => rfl) (fun k hk => hk) (by omega) hone (fun ρ => ?_) (fun k hk => ?_) hvi⟩
      · rw [h1, ← set_splice _ _ _ hfit]; rfl
      · rw [h1, ← set_splice _ _ _ hfit]; exact hk
    · rename_i e s m cs hl
      obtain ⟨cs', ⟨hfit, rfl⟩, hK⟩ := h
      refine ⟨_, _, hK, store_fin ho hdst hx hl (by simp [O.shape]) rfl hi hv (by simp [h1]) (by omega) (base := cs) (fun ρ => rfl) (fun k hk => hk) (by omega) hone (fun ρ => ?_) (fun k hk => ?_) hvi⟩
      · rw [h1, ← set_splice _ _ _ hfit]; rfl
      · rw [h1, ← set_splice _ _ _ hfit]; exact hk
    · rename_i e m cs hl
      obtain ⟨cs', ⟨hfit, rfl⟩, hK⟩ := h
      exact ⟨_, _, hK, store_mr ho hdst hx hl hy hi h1 h2 hfit⟩
    · exact h.elim
  · rename_i ys hy
    obtain ⟨⟨h1, h2, h3⟩, h⟩ := h
    have h3 := onesB_elim h3
    have hv : ∀ ρ, ((ev f y).ren ρ).cells.toList = renL ρ ys := fun ρ => by rw [hy]; rfl
    have hvi : ∀ k ∈ idsL ys, k ∈ (ev f y).ids := fun k hk => by rw [hy]; exact hk
    split at h
    · rename_i cs t hl
      obtain ⟨cs', ⟨hfit, rfl⟩, hK⟩ := h
      exact ⟨_, _, hK, store_fin ho hdst hx hl (by simp [O.shape]) rfl hi hv h1 h2 (base := cs.map V.raw) (fun ρ => by rw [renL_map_raw]; rfl) (fun k hk => by rw [idsL_map_raw] at hk; cases hk) (by simpa using hfit) h3 (fun ρ => rfl) (fun k hk => hk) hvi⟩
    · rename_i e s m cs hl
      obtain ⟨cs', ⟨hfit, rfl⟩, hK⟩ := h
      exact ⟨_, _, hK, store_fin ho hdst hx hl (by simp [O.shape]) rfl hi hv h1 h2 (base := cs.map V.raw) (fun ρ => by rw [renL_map_raw]; rfl) (fun k hk => by rw [idsL_map_raw] at hk; cases hk) (by simpa using hfit) h3 (fun ρ => rfl) (fun k hk => hk) hvi⟩
    · rename_i cs t hl
      obtain ⟨cs', ⟨hfit, rfl⟩, hK⟩ := h
      exact ⟨_, _, hK, store_fin ho hdst hx hl (by simp [O.shape]) rfl hi hv h1 h2 (base := cs) (fun ρ => rfl) (fun k hk => hk) hfit h3 (fun ρ => rfl) (fun k hk => hk) hvi⟩
    · rename_i e s m cs hl
      obtain ⟨cs', ⟨hfit, rfl⟩, hK⟩ := h
      exact ⟨_, _, hK, store_fin ho hdst hx hl (by simp [O.shape]) rfl hi hv h1 h2 (base := cs) (fun ρ => rfl) (fun k hk => hk) hfit h3 (fun ρ => rfl) (fun k hk => hk) hvi⟩
    · exact h.elim
  · obtain ⟨h12, h⟩ := onlyIf_elim h
    simp only [Bool.and_eq_true] at h12
    obtain ⟨h1, h2⟩ := h12
    have h1 := Nat.eq_of_beq_eq_true h1
    generalize hy : ev f y = v at *
    have h2 := fun ρ => V.oneB_elim h2 ρ
    have hv : ∀ ρ, ((ev f y).ren ρ).cells.toList = renL ρ [v] := fun ρ => by rw [hy]; exact one_cells (h2 ρ)
    have hone : ∀ ρ, ones (renL ρ [v]) := fun ρ u hu => by simp [renL] at hu; subst hu; exact h2 ρ
    have hvi : ∀ k ∈ idsL [v], k ∈ (ev f y).ids := fun k hk => by rw [hy]; simpa [idsL] using hk
    split at h
    · rename_i cs t hl
      obtain ⟨cs', ⟨hfit, rfl⟩, hK⟩ := h
      refine ⟨_, _, hK, store_fin ho hdst hx hl (by simp [O.shape]) rfl hi hv (by simp [h1]) (by omega) (base := cs.map V.raw) (fun ρ => by rw [renL_map_raw]; rfl) (fun k hk => by rw [idsL_map_raw] at hk; cases hk) (by simp; omega) hone (fun ρ => ?_) (fun k hk => ?_) hvi⟩
      · rw [h1, ← set_splice _ _ _ (by simpa using hfit)]; rfl
      · rw [h1, ← set_splice _ _ _ (by simpa using hfit)]; exact hk
    · rename_i e s m cs hl
      obtain ⟨cs', ⟨hfit, rfl⟩, hK⟩ := h
      refine ⟨_, _, hK, store_fin ho hdst hx hl (by simp [O.shape]) rfl hi hv (by simp [h1]) (by omega) (base := cs.map V.raw) (fun ρ => by rw [renL_map_raw]; rfl) (fun k hk => by rw [idsL_map_raw] at hk; cases hk) (by simp; omega) hone (fun ρ => ?_) (fun k hk => ?_) hvi⟩
      · rw [h1, ← set_splice _ _ _ (by simpa using hfit)]; rfl
      · rw [h1, ← set_splice _ _ _ (by simpa using hfit)]; exact hk
    · rename_i cs t hl
      obtain ⟨cs', ⟨hfit, rfl⟩, hK⟩ := h
      refine ⟨_, _, hK, store_fin ho hdst hx hl (by simp [O.shape]) rfl hi hv (by simp [h1]) (by omega) (base := cs) (fun ρ => rfl) (fun k hk => hk) (by omega) hone (fun ρ => ?_) (fun k hk => ?_) hvi⟩
      · rw [h1, ← set_splice _ _ _ hfit]; rfl
      · rw [h1, ← set_splice _ _ _ hfit]; exact hk
    · rename_i e s m cs hl
      obtain ⟨cs', ⟨hfit, rfl⟩, hK⟩ := h
      refine ⟨_, _, hK, store_fin ho hdst hx hl (by simp [O.shape]) rfl hi hv (by simp [h1]) (by omega) (base := cs) (fun ρ => rfl) (fun k hk => hk) (by omega) hone (fun ρ => ?_) (fun k hk => ?_) hvi⟩
      · rw [h1, ← set_splice _ _ _ hfit]; rfl
      · rw [h1, ← set_splice _ _ _ hfit]; exact hk
    · exact h.elim
end
end Go.Proofs.Ytpangmameocfmaa.VE
namespace Go.Proofs.Ytpangmameocfmaa.VE
open Go

theorem foldl_splice (vs : List Value) : ∀ (cells : Array Value) (off k : Nat), off + k + vs.length ≤ cells.size →
    (((vs.zipIdx k).foldl (fun cs p => cs.setIfInBounds (off + p.2) p.1) cells)).toList = cells.toList.take (off + k) ++ vs ++ cells.toList.drop (off + k + vs.length) := by
  induction vs with
  | nil => intro cells off k _; simp
  | cons v r ih =>
    intro cells off k h
    simp only [List.length_cons] at h
    simp only [List.zipIdx_cons, List.foldl_cons]
    rw [ih _ off (k + 1) (by simp; omega)]
    apply List.ext_getElem?
    intro i
    simp only [Array.toList_setIfInBounds, List.getElem?_append, List.getElem?_take, List.getElem?_drop, List.length_take, List.length_append, List.length_set, Array.length_toList, List.getElem?_set, List.length_cons]
    have e1 : min (off + (k + 1)) cells.size = off + k + 1 := by omega
    have e2 : min (off + k) cells.size = off + k := by omega
    rw [e1, e2]
    by_cases h1 : i < off + k
    · have a1 : i < off + k + 1 := by omega
      have a2 : i < off + k + 1 + r.length := by omega
      have a3 : ¬ off + k = i := by omega
      have a4 : i < off + k + (r.length + 1) := by omega
      have a5 : i < off + (k + 1) := by omega
      simp [h1, a1, a2, a3, a4, a5]
    · by_cases h2 : i = off + k
      · subst h2
        have a3 : off + k < cells.size := by omega
        have a5 : off + k < off + (k + 1) := by omega
        have a6 : off + k < off + k + 1 + r.length := by omega
        have a7 : off + k < off + k + 1 := by omega
        simp [a3, a5, a6, a7]
      · have b1 : ¬ i < off + k + 1 := by omega
        by_cases h3 : i < off + k + (r.length + 1)
        · have b2 : i < off + k + 1 + r.length := by omega
          obtain ⟨j, rfl⟩ : ∃ j, i = off + k + 1 + j := ⟨i - (off + k + 1), by omega⟩
          have c1 : ¬ off + k + 1 + j < off + k := by omega
          have c2 : off + k + 1 + j - (off + k) = j + 1 := by omega
          have c3 : off + k + 1 + j - (off + k + 1) = j := by omega
          simp [b1, b2, h3, c1, c2, c3]
        · have b2 : ¬ i < off + k + 1 + r.length := by omega
          obtain ⟨j, rfl⟩ : ∃ j, i = off + k + (r.length + 1) + j := ⟨i - (off + k + (r.length + 1)), by omega⟩
          have c1 : off + k + (r.length + 1) + j - (off + k + 1 + r.length) = j := by omega
          have c2 : off + k + (r.length + 1) + j - (off + k + (r.length + 1)) = j := by omega
          have c3 : ¬ off + k = off + (k + 1) + r.length + j := by omega
          have c4 : off + (k + 1) + r.length = off + k + (r.length + 1) := by omega
          have c5 : ¬ off + k = off + k + (r.length + 1) + j := by omega
          simp [b2, h3, c1, c2, c4, c5]

/-- The parts of a literal, laid one after the other. -/
def fillP (place : Nat → Option (Nat × Nat)) (cells : List Value) : List (Nat × Value) → (List Value → Prop) → Prop
  | [], K => K cells
  | (i, v) :: rest, K => match place i with
    | none => False
    | some (off, size) => (v.cells.size = size ∧ off + size ≤ cells.length) ∧ fillP place (cells.take off ++ v.cells.toList ++ cells.drop (off + size)) rest K

theorem fillP_elim {place : Nat → Option (Nat × Nat)} : ∀ {parts : List (Nat × Value)} {cells : List Value} {K : List Value → Prop}, fillP place cells parts K →
    ∃ ds, K ds ∧ Instr.fill place cells.toArray parts = some ds.toArray ∧ ds.length = cells.length
  | [], cells, K, h => ⟨cells, h, rfl, rfl⟩
  | (i, v) :: rest, cells, K, h => by
    unfold fillP at h
    split at h
    · exact h.elim
    · rename_i off size hp
      obtain ⟨⟨h1, h2⟩, h3⟩ := h
      obtain ⟨ds, hK, hf, hlen⟩ := fillP_elim h3
      refine ⟨ds, hK, ?_, by rw [hlen]; simp [h1]; omega⟩
      unfold Instr.fill
      simp only [hp, h1]
      rw [if_neg (by simp; omega)]
      rw [← hf]
      congr 1
      have hl := foldl_splice v.cells.toList cells.toArray off 0 (by simp only [Nat.add_zero, Array.length_toList, h1, List.size_toArray]; exact h2)
      simp only [Nat.add_zero, Array.length_toList, h1] at hl
      apply Array.toList_inj.1
      rw [← hl, ← Array.foldl_toList, Array.toList_zipIdx]

def cellsV : V → List V
  | .raw (.agg arr) => arr.toList.map V.raw
  | .raw v => [.raw v]
  | .agg ys => ys
  | y => [y]

theorem cellsV_ren (ρ : Rho) (y : V) : (y.ren ρ).cells.toList = renL ρ (cellsV y) := by
  cases y with
  | raw v => cases v <;> simp [cellsV, V.ren, Value.cells, renL, renL_map_raw]
  | sl id => exact one_cells (slv_one _)
  | sub a b c d => exact one_cells (subOf_one _ _ _ _)
  | pl a b => exact one_cells (slv_one _)
  | agg ys => rfl
  | _ => rfl

def fillV (place : Nat → Option (Nat × Nat)) (cells : List V) : List (Nat × V) → (List V → Prop) → Prop
  | [], K => K cells
  | (i, v) :: rest, K => match place i with
    | none => False
    | some (off, size) => ((cellsV v).length = size ∧ off + size ≤ cells.length) ∧ fillV place (cells.take off ++ cellsV v ++ cells.drop (off + size)) rest K

theorem ids_cellsV {v : V} {k : Nat} (h : k ∈ idsL (cellsV v)) : k ∈ v.ids := by
  cases v with
  | raw v => cases v <;> simp [cellsV, idsL, V.ids, idsL_map_raw] at h
  | agg ys => exact h
  | _ => simpa [cellsV, idsL] using h

theorem fillV_elim {place : Nat → Option (Nat × Nat)} : ∀ {parts : List (Nat × V)} {cells : List V} {K : List V → Prop}, fillV place cells parts K →
    ∃ ds, K ds ∧ (∀ ρ, Instr.fill place (renL ρ cells).toArray (parts.map fun p => (p.1, p.2.ren ρ)) = some (renL ρ ds).toArray) ∧ (∀ k ∈ idsL ds, k ∈ idsL cells ∨ ∃ p ∈ parts, k ∈ p.2.ids) ∧ ds.length = cells.length
  | [], cells, K, h => ⟨cells, h, fun _ => rfl, fun k hk => .inl hk, rfl⟩
  | (i, v) :: rest, cells, K, h => by
    unfold fillV at h
    split at h
    · exact h.elim
    · rename_i off size hp
      obtain ⟨⟨h1, h2⟩, h3⟩ := h
      have h4 := fun ρ => cellsV_ren ρ v
      obtain ⟨ds, hK, hf, hids, hlen⟩ := fillV_elim h3
      refine ⟨ds, hK, fun ρ => ?_, fun k hk => ?_, by rw [hlen]; simp [h1]; omega⟩
      · have hsz : (v.ren ρ).cells.size = size := by rw [← Array.length_toList, h4 ρ, renL_length, h1]
        simp only [List.map_cons]
        unfold Instr.fill
        simp only [hp, hsz]
        rw [if_neg (by simp [renL_length]; omega)]
        rw [← hf ρ]
        congr 1
        have hl := foldl_splice (v.ren ρ).cells.toList (renL ρ cells).toArray off 0 (by simp only [Nat.add_zero, Array.length_toList, hsz, List.size_toArray, renL_length]; exact h2)
        simp only [Nat.add_zero, Array.length_toList, hsz] at hl
        apply Array.toList_inj.1
        rw [renL_append, renL_append, renL_take, renL_drop, ← h4 ρ]
        rw [← hl, ← Array.foldl_toList, Array.toList_zipIdx]
      · rcases hids k hk with h | ⟨p, hp', hk'⟩
        · rw [idsL_append, idsL_append, List.mem_append, List.mem_append] at h
          rcases h with (h | h) | h
          · exact .inl (mem_idsL_take h)
          · exact .inr ⟨(i, v), by simp, ids_cellsV h⟩
          · exact .inl (mem_idsL_drop h)
        · exact .inr ⟨p, by simp [hp'], hk'⟩

def rawAll : List (Nat × V) → Option (List (Nat × Value))
  | [] => some []
  | (i, .raw v) :: r => match rawAll r with | some l => some ((i, v) :: l) | none => none
  | _ => none

theorem rawAll_ren (ρ : Rho) : ∀ {parts : List (Nat × V)} {l : List (Nat × Value)}, rawAll parts = some l → (parts.map fun p => (p.1, p.2.ren ρ)) = l
  | [], l, h => by simp [rawAll] at h; subst h; rfl
  | (i, .raw v) :: r, l, h => by
    simp only [rawAll] at h
    split at h
    · rename_i l' hl
      injection h with h
      subst h
      simp [rawAll_ren ρ hl, V.ren]
    · cases h
  | (i, .ptr _ _) :: r, l, h => by simp [rawAll] at h
  | (i, .sl _) :: r, l, h => by simp [rawAll] at h
  | (i, .asl _ _ _ _) :: r, l, h => by simp [rawAll] at h
  | (i, .mp _) :: r, l, h => by simp [rawAll] at h
  | (i, .sub _ _ _ _) :: r, l, h => by simp [rawAll] at h
  | (i, .fn _ _ _) :: r, l, h => by simp [rawAll] at h
  | (i, .agg _) :: r, l, h => by simp [rawAll] at h
  | (i, .tup _) :: r, l, h => by simp [rawAll] at h
end Go.Proofs.Ytpangmameocfmaa.VE
namespace Go.Proofs.Ytpangmameocfmaa.VE
open Go

def cmpT (p : Prop) (K1 K2 : Prop) : Prop := (p → K1) ∧ (¬ p → K2)
theorem cmpT_elim {p : Prop} {K1 K2 : Prop} (h : cmpT p K1 K2) : (p ∧ K1) ∨ (¬ p ∧ K2) := by
  by_cases hp : p
  · exact .inl ⟨hp, h.1 hp⟩
  · exact .inr ⟨hp, h.2 hp⟩

def intBin (op : BinOp) (k : IntKind) (a b : Int) (K : Value → Prop) : Prop :=
  match op with
  | .add => ∃ c, k.wrap (a + b) = c ∧ K (.int k c)
  | .sub => ∃ c, k.wrap (a - b) = c ∧ K (.int k c)
  | .mul => ∃ c, k.wrap (a * b) = c ∧ K (.int k c)
  | .quo => b ≠ 0 ∧ ∃ c, k.wrap (a.tdiv b) = c ∧ K (.int k c)
  | .rem => b ≠ 0 ∧ ∃ c, a.tmod b = c ∧ K (.int k c)
  | .and => ∃ c, k.wrap (BitVec.ofInt k.bits a &&& BitVec.ofInt k.bits b).toNat = c ∧ K (.int k c)
  | .eql => cmpT (a = b) (K (.bool true)) (K (.bool false))
  | .neq => cmpT (a = b) (K (.bool false)) (K (.bool true))
  | .lss => cmpT (a < b) (K (.bool true)) (K (.bool false))
  | .leq => cmpT (a ≤ b) (K (.bool true)) (K (.bool false))
  | .gtr => cmpT (b < a) (K (.bool true)) (K (.bool false))
  | .geq => cmpT (b ≤ a) (K (.bool true)) (K (.bool false))
  | _ => False

theorem intBin_run {op : BinOp} {k : IntKind} {a b : Int} {K : Value → Prop} (h : intBin op k a b K) :
    ∃ v, K v ∧ ∀ (P : Program) (T : TypeId) (w : World), (binOp op T (.int k a) (.int k b)).run P w = .ok v w := by
  cases op <;> simp only [intBin] at h
  case quo =>
    obtain ⟨hb, c, rfl, hK⟩ := h
    exact ⟨_, hK, fun P T w => by simp [binOp, Op.intDiv, hb]⟩
  case rem =>
    obtain ⟨hb, c, rfl, hK⟩ := h
    exact ⟨_, hK, fun P T w => by simp [binOp, Op.intDiv, hb]⟩
  case and =>
    obtain ⟨c, rfl, hK⟩ := h
    exact ⟨_, hK, fun P T w => by simp [binOp, Op.intBits]⟩
  case add => obtain ⟨c, rfl, hK⟩ := h; exact ⟨_, hK, fun P T w => by simp [binOp, Op.intArith]⟩
  case sub => obtain ⟨c, rfl, hK⟩ := h; exact ⟨_, hK, fun P T w => by simp [binOp, Op.intArith]⟩
  case mul => obtain ⟨c, rfl, hK⟩ := h; exact ⟨_, hK, fun P T w => by simp [binOp, Op.intArith]⟩
  all_goals
    rcases cmpT_elim h with ⟨hp, hK⟩ | ⟨hp, hK⟩
    · exact ⟨_, hK, fun P T w => by simp [binOp, Op.intCmp, hp] <;> omega⟩
    · exact ⟨_, hK, fun P T w => by simp [binOp, Op.intCmp, hp] <;> omega⟩

def shiftBin (op : BinOp) (k : IntKind) (a b : Int) (K : Value → Prop) : Prop :=
  match op with
  | .shl => 0 ≤ b ∧ ∃ c, k.wrap (a * 2 ^ (min b.toNat k.bits)) = c ∧ K (.int k c)
  | .shr => 0 ≤ b ∧ ∃ c, a.fdiv (2 ^ (min b.toNat k.bits)) = c ∧ K (.int k c)
  | _ => False

theorem shiftBin_run {op : BinOp} {k k' : IntKind} {a b : Int} {K : Value → Prop} (h : shiftBin op k a b K) :
    ∃ v, K v ∧ ∀ (P : Program) (T : TypeId) (w : World), (binOp op T (.int k a) (.int k' b)).run P w = .ok v w := by
  cases op <;> simp only [shiftBin] at h
  case shl =>
    obtain ⟨hb, c, rfl, hK⟩ := h
    exact ⟨_, hK, fun P T w => by simp [binOp, Op.shift, Int.not_lt.2 hb]⟩
  case shr =>
    obtain ⟨hb, c, rfl, hK⟩ := h
    exact ⟨_, hK, fun P T w => by simp [binOp, Op.shift, Int.not_lt.2 hb]⟩

def strBin (op : BinOp) (a b : ByteArray) (K : Value → Prop) : Prop :=
  match op with
  | .add => a.size + b.size ≤ 9223372036854775807 ∧ ∃ c, a ++ b = c ∧ K (.string c)
  | .eql => cmpT (a.toList = b.toList) (K (.bool true)) (K (.bool false))
  | .neq => cmpT (a.toList = b.toList) (K (.bool false)) (K (.bool true))
  | .lss => cmpT (Op.bytesLess a.toList b.toList = true) (K (.bool true)) (K (.bool false))
  | .geq => cmpT (Op.bytesLess a.toList b.toList = true) (K (.bool false)) (K (.bool true))
  | _ => False

theorem strBin_run {op : BinOp} {a b : ByteArray} {K : Value → Prop} (h : strBin op a b K) :
    ∃ v, K v ∧ ∀ (P : Program) (T : TypeId) (w : World), (binOp op T (.string a) (.string b)).run P w = .ok v w := by
  cases op <;> simp only [strBin] at h
  case add =>
    obtain ⟨hb, c, rfl, hK⟩ := h
    refine ⟨_, hK, fun P T w => ?_⟩
    have : ¬ ((a.size + b.size : Nat) : Int) > IntKind.i64.max := by
      have e : IntKind.i64.max = 9223372036854775807 := by decide
      rw [e]; omega
    simp only [binOp, Op.stringOp, if_neg this]
    rfl
  case eql =>
    rcases cmpT_elim h with ⟨hp, hK⟩ | ⟨hp, hK⟩
    · exact ⟨_, hK, fun P T w => by simp [binOp, Op.stringOp, hp]⟩
    · exact ⟨_, hK, fun P T w => by simp [binOp, Op.stringOp, hp]⟩
  case neq =>
    rcases cmpT_elim h with ⟨hp, hK⟩ | ⟨hp, hK⟩
    · exact ⟨_, hK, fun P T w => by simp [binOp, Op.stringOp, hp]⟩
    · exact ⟨_, hK, fun P T w => by simp [binOp, Op.stringOp, hp]⟩
  case lss =>
    rcases cmpT_elim h with ⟨hp, hK⟩ | ⟨hp, hK⟩
    · exact ⟨_, hK, fun P T w => by simp [binOp, Op.stringOp, hp]⟩
    · exact ⟨_, hK, fun P T w => by simp [binOp, Op.stringOp, hp]⟩
  case geq =>
    rcases cmpT_elim h with ⟨hp, hK⟩ | ⟨hp, hK⟩
    · exact ⟨_, hK, fun P T w => by simp [binOp, Op.stringOp, hp]⟩
    · exact ⟨_, hK, fun P T w => by simp [binOp, Op.stringOp, hp]⟩

/-- '==' and '!=' between two plain aggregates: what the model says of them is asked for. -/
def aggEq (P : Program) (op : BinOp) (T : TypeId) (xs ys : Array Value) (K : Value → Prop) : Prop :=
  ∃ b : Bool, (P.eqGuardType P.depth T = false ∧ ∀ w, (Op.equalIn 10000 T (.agg xs) (.agg ys)).run P w = .ok b w) ∧
    match op with | .eql => K (.bool b) | .neq => K (.bool !b) | _ => False

def kEq : IntKind → IntKind → Bool
  | .i8, .i8 | .i16, .i16 | .i32, .i32 | .i64, .i64 | .u8, .u8 | .u16, .u16 | .u32, .u32 | .u64, .u64 => true
  | _, _ => false
theorem kEq_elim {a b : IntKind} (h : kEq a b = true) : a = b := by
  cases a <;> cases b <;> first | rfl | exact absurd h (by decide)

def binP (P : Program) (op : BinOp) (T : TypeId) (x y : Value) (K : Value → Prop) : Prop :=
  match x, y with
  | .int k a, .int k' b => match op with
    | .shl => shiftBin .shl k a b K
    | .shr => shiftBin .shr k a b K
    | op => onlyIf (kEq k k') (intBin op k a b K)
  | .string a, .string b => strBin op a b K
  | .bool a, .bool b => match P.underlying T with
    | some .bool => match op with | .eql => K (.bool (a == b)) | .neq => K (.bool !(a == b)) | _ => False
    | _ => False
  | .agg xs, .agg ys => aggEq P op T xs ys K
  | .pointer none, .pointer none => match P.underlying T with
    | some (.pointer _) => match op with | .eql => K (.bool true) | .neq => K (.bool false) | _ => False
    | _ => False
  | _, _ => False

theorem run_equal_bool {P : Program} {T : TypeId} (h : P.underlying T = some .bool) (a b : Bool) (w : World) : (Op.equal T (.bool a) (.bool b)).run P w = .ok (a == b) w := run_equalIn_bool' w 9999 T a b h
theorem run_eql_bool {P : Program} {T : TypeId} (h : P.underlying T = some .bool) (a b : Bool) (w : World) : (binOp .eql T (.bool a) (.bool b)).run P w = .ok (.bool (a == b)) w := by
  show ((do pure (.bool (← Op.equal T (.bool a) (.bool b))) : Sem Value)).run P w = _
  simp only [Sem.run_bind, run_equal_bool h, Result.andThen_ok, Sem.run_pure]
theorem run_neq_bool {P : Program} {T : TypeId} (h : P.underlying T = some .bool) (a b : Bool) (w : World) : (binOp .neq T (.bool a) (.bool b)).run P w = .ok (.bool (!(a == b))) w := by
  show ((do pure (.bool (!(← Op.equal T (.bool a) (.bool b)))) : Sem Value)).run P w = _
  simp only [Sem.run_bind, run_equal_bool h, Result.andThen_ok, Sem.run_pure]

theorem guard_int {P : Program} (op : BinOp) (T : TypeId) (X Y : Operand) (k k' : IntKind) (a b : Int) (w : World) : (eqGuard op T X Y (.int k a) (.int k' b)).run P w = .ok () w := by
  unfold eqGuard; cases op <;> rfl
theorem guard_str {P : Program} (op : BinOp) (T : TypeId) (X Y : Operand) (a b : ByteArray) (w : World) : (eqGuard op T X Y (.string a) (.string b)).run P w = .ok () w := by
  unfold eqGuard; cases op <;> rfl
theorem guard_bool {P : Program} (op : BinOp) (T : TypeId) (X Y : Operand) (a b : Bool) (w : World) : (eqGuard op T X Y (.bool a) (.bool b)).run P w = .ok () w := by
  unfold eqGuard; cases op <;> rfl

theorem run_equalIn_nilptr {P : Program} (w : World) (d : Nat) (T : TypeId) {e : TypeId} (h : P.underlying T = some (.pointer e)) : (Op.equalIn (d + 1) T (.pointer none) (.pointer none)).run P w = .ok true w := by
  rw [Op.equalIn]; simp [run_underlying h]
theorem binP_run {P : Program} {op : BinOp} {T : TypeId} {x y : Value} {K : Value → Prop} (h : binP P op T x y K) :
    ∃ v, K v ∧ ∀ (X Y : Operand) (w : World), (do eqGuard op T X Y x y; binOp op T x y : Sem Value).run P w = .ok v w := by
  unfold binP at h
  split at h
  · rename_i k a k' b
    have hg := fun X Y w => guard_int (P := P) op T X Y k k' a b w
    split at h
    · obtain ⟨v, hK, hr⟩ := shiftBin_run (k' := k') h
      exact ⟨v, hK, fun X Y w => by simp only [Sem.run_bind, hg, Result.andThen_ok, hr]⟩
    · obtain ⟨v, hK, hr⟩ := shiftBin_run (k' := k') h
      exact ⟨v, hK, fun X Y w => by simp only [Sem.run_bind, hg, Result.andThen_ok, hr]⟩
    · obtain ⟨hk, h'⟩ := onlyIf_elim h
      clear h
      obtain rfl := kEq_elim hk
      obtain ⟨v, hK, hr⟩ := intBin_run h'
      exact ⟨v, hK, fun X Y w => by simp only [Sem.run_bind, hg, Result.andThen_ok, hr]⟩
  · rename_i a b
    have hg := fun X Y w => guard_str (P := P) op T X Y a b w
    obtain ⟨v, hK, hr⟩ := strBin_run h
    exact ⟨v, hK, fun X Y w => by simp only [Sem.run_bind, hg, Result.andThen_ok, hr]⟩
  · rename_i a b
    have hg := fun X Y w => guard_bool (P := P) op T X Y a b w
    split at h
    · rename_i hu
      split at h
      · exact ⟨_, h, fun X Y w => by simp only [Sem.run_bind, hg, Result.andThen_ok, run_eql_bool hu]⟩
      · exact ⟨_, h, fun X Y w => by simp only [Sem.run_bind, hg, Result.andThen_ok, run_neq_bool hu]⟩
      · exact h.elim
    · exact h.elim
  · rename_i xs ys
    obtain ⟨b, ⟨h1, h2⟩, h⟩ := h
    have hg : ∀ X Y w, (eqGuard op T X Y (.agg xs) (.agg ys)).run P w = .ok () w := fun X Y w => run_eqGuard_agg w op T X Y xs ys h1
    split at h
    · exact ⟨_, h, fun X Y w => by simp only [Sem.run_bind, hg, Result.andThen_ok, run_eql_struct, h2]⟩
    · exact ⟨_, h, fun X Y w => by simp only [Sem.run_bind, hg, Result.andThen_ok, run_neq_struct, h2]⟩
    · exact h.elim
  · split at h
    · rename_i hu
      have he : ∀ w, (Op.equal T (.pointer none) (.pointer none)).run P w = .ok true w := fun w => run_equalIn_nilptr w 9999 T hu
      split at h
      · exact ⟨_, h, fun X Y w => by
          show ((do eqGuard .eql T X Y (.pointer none) (.pointer none); let b ← Op.equal T (.pointer none) (.pointer none); pure (.bool b) : Sem Value)).run P w = _
          simp only [Sem.run_bind, eqGuard, Result.andThen_ok, he, Sem.run_pure]; rfl⟩
      · exact ⟨_, h, fun X Y w => by
          show ((do eqGuard .neq T X Y (.pointer none) (.pointer none); let b ← Op.equal T (.pointer none) (.pointer none); pure (.bool (!b)) : Sem Value)).run P w = _
          simp only [Sem.run_bind, eqGuard, Result.andThen_ok, he, Sem.run_pure]; rfl⟩
      · exact h.elim
    · exact h.elim
  · exact h.elim

end Go.Proofs.Ytpangmameocfmaa.VE
namespace Go.Proofs.Ytpangmameocfmaa.VE
open Go

def allocLoc (P : Program) (T : TypeId) (n : Nat) (K : LK) : Prop :=
  match P.info? T with
  | some ⟨_, _, _, _, _, _, _, some (.agg cs), _, _⟩ => K [] ⟨.ptr n 0, [], [.pc cs.toList T]⟩
  | some ⟨_, _, _, _, _, _, _, some z, _, _⟩ => onlyIf z.oneCell' (K [] ⟨.ptr n 0, [], [.pc [z] T]⟩)
  | _ => False

def boxLoc (T : TypeId) (n : Nat) (v : V) (K : LK) : Prop :=
  match v with
  | .raw (.agg arr) => K [] ⟨.ptr n 0, [], [.pc arr.toList T]⟩
  | .raw v => onlyIf v.oneCell' (K [] ⟨.ptr n 0, [], [.pc [v] T]⟩)
  | .agg ys => K [] ⟨.ptr n 0, [], [.cc ys T]⟩
  | y => onlyIf y.oneB (K [] ⟨.ptr n 0, [], [.cc [y] T]⟩)

def fieldAddrLoc (P : Program) (S : TypeId) (i : Nat) (x : V) (K : LK) : Prop :=
  match P.underlying S with
  | some (.struct fs) => match fs[i]? with
    | some ⟨_, ft, off, _, _, _, _⟩ => withSize P ft fun sz => match sz with
      | 0 => False
      | _ + 1 => match x with
        | .ptr id o => fieldK o off fun o' => K.v (.ptr id o')
        | .raw (.pointer (some ⟨b, o, none⟩)) => ∃ o', o + off = o' ∧ K.v (.raw (.pointer (some ⟨b, o', none⟩)))
        | _ => False
    | none => False
  | _ => False

/-- An index: the number as a natural one, below the length. -/
def idx (iv : Int) (len : Nat) (K : Nat → Prop) : Prop := ∃ k : Nat, (iv = (k : Int) ∧ k < len) ∧ K k

def indexAddrLoc (P : Program) (T : TypeId) (L : List O) (x i : V) (K : LK) : Prop :=
  match i with
  | .raw (.int _ iv) => match P.underlying T with
    | some (.array len e) => withSize P e fun sz => match x with
      | .ptr id o => idx iv len fun k => mulK k sz fun d => addK o d fun o' => K.v (.ptr id o')
      | .raw (.pointer (some ⟨b, o, none⟩)) => idx iv len fun k => ∃ o', o + k * sz = o' ∧ K.v (.raw (.pointer (some ⟨b, o', none⟩)))
      | _ => False
    | some (.slice e) => withSize P e fun sz => match x with
      | .sl id => match L[id]? with
        | some (.pr _ _ m _) => idx iv m fun k => mulK k sz fun d => K [id] ⟨.ptr id d, [], []⟩
        | some (.cr _ _ m _) => idx iv m fun k => mulK k sz fun d => K [id] ⟨.ptr id d, [], []⟩
        | some (.mr _ m _) => idx iv m fun k => mulK k sz fun d => K [id] ⟨.ptr id d, [], []⟩
        | _ => False
      | .asl id o len _ => idx iv len fun k => mulK k sz fun d => addK o d fun o' => K.v (.ptr id o')
      | .sub id s lo len => match L[id]? with
        | some (.pr _ _ m _) => (s = sz ∧ lo + len ≤ m) ∧ idx iv len fun k => mulK (lo + k) sz fun d => K [id] ⟨.ptr id d, [], []⟩
        | some (.cr _ _ m _) => (s = sz ∧ lo + len ≤ m) ∧ idx iv len fun k => mulK (lo + k) sz fun d => K [id] ⟨.ptr id d, [], []⟩
        | _ => False
      | .raw (.slice (some ⟨b, o, none⟩) len _) => idx iv len fun k => ∃ o', o + k * sz = o' ∧ K.v (.raw (.pointer (some ⟨b, o', none⟩)))
      | _ => False
    | _ => False
  | _ => False

section
variable {P : Program} {Γ : Ctx} {n : Nat} {o : Oper} {f : Sl} {L : List O}

theorem LocOK.newBlock {ob : O} (hf : ob ≠ .free)
    (h : ∀ ρ a w Lr, (∀ x ∈ o.op.operands.toList, opd ρ Lr a f x) → Rel Γ ρ Lr w → (∀ k ∈ ob.ids, okId Lr k) ∧ ∃ obj, (execOp a.eval o).run P w = .ok (.value (.pointer (some ⟨w.heap.size, 0, none⟩))) (w.alloc obj) ∧
      (∀ ρ' : Rho, ob.own ρ' n = fun b => some (ρ'.blk n) = some b) ∧ ∀ ρ' : Rho, ρ'.blk n = w.heap.size → (∀ k ∈ ob.ids, ρ'.blk k = ρ.blk k ∧ ρ'.val k = ρ.val k) → objAt ρ' (w.alloc obj) n ob) :
    LocOK P Γ n o f L [] ⟨.ptr n 0, [], [ob]⟩ := by
  intro ρ a w Lr hx hr _ hfree hm K Q hK
  obtain ⟨hids, obj, hrun, hown, hobj⟩ := h ρ a w Lr hx hr
  have hn : Lr[n]? = some .free := by simpa using hfree 0 (by simp)
  have hblk : (ρ.put n w.heap.size undef).blk n = w.heap.size := by simp [Rho.put]
  have hag : ∀ k ∈ ob.ids, (ρ.put n w.heap.size undef).blk k = ρ.blk k ∧ (ρ.put n w.heap.size undef).val k = ρ.val k := by
    intro k hk
    obtain ⟨x, hx', hxf⟩ := hids k hk
    have : k ≠ n := by rintro rfl; rw [hn] at hx'; injection hx' with e; exact hxf e.symm
    simp [Rho.put, this]
  obtain ⟨h1, h2⟩ := hr.new (w' := w.alloc obj) hn hm (v := undef) hf rfl rfl rfl rfl (fun b hb => by rw [hown] at hb; injection hb with hb; rw [← hb, hblk]) (hobj _ hblk hag) hids
  unfold Oper.wp
  rw [hrun]
  have := hK _ _ h1 h2 (fun k hk => okId_set hf hk) (fun k hk => by
    simp only [V.ids, List.mem_singleton] at hk
    subst hk
    exact okId_set_new hf (lt_of_get hn))
  simpa [V.ren, hblk, Oper.upon] using this

theorem allocLoc_sound {T : TypeId} (ho : o.op = .alloc T) {K : LK} (h : allocLoc P T n K) : ∃ rd e, K rd e ∧ LocOK P Γ n o f L rd e := by
  unfold allocLoc at h
  split at h
  · rename_i cs _ _ hi
    refine ⟨_, _, h, LocOK.newBlock (by simp) fun ρ a w Lr h1 h2 => ⟨by simp [O.ids], .cells cs T, ?_, fun _ => rfl, fun ρ' hb _ => ?_⟩⟩
    · simp [execOp, ho, Instr.alloc, zeroValue, typeInfo, hi, newVar, newRow, Value.cells]
    · simp only [objAt, hb]; rw [heap_alloc_new]
  · rename_i z _ _ hn hi
    have h := onlyIf_elim h
    refine ⟨_, _, h.2, LocOK.newBlock (by simp) fun ρ a w Lr h1 h2 => ⟨by simp [O.ids], .cells #[z] T, ?_, fun _ => rfl, fun ρ' hb _ => ?_⟩⟩
    · have hz : z.cells = #[z] := by have := one_cells h.1; exact Array.toList_inj.1 (by simpa using this)
      simp [execOp, ho, Instr.alloc, zeroValue, typeInfo, hi, newVar, newRow, hz]
    · simp only [objAt, hb]; rw [heap_alloc_new]
  · exact h.elim

theorem boxLoc_sound {T : TypeId} {x : Operand} (ho : o.op = .box T x) {K : LK} (h : boxLoc T n (ev f x) K) : ∃ rd e, K rd e ∧ LocOK P Γ n o f L rd e := by
  have hop : ∀ {ρ : Rho} {a : Act} {Lr : List O}, (∀ y ∈ o.op.operands.toList, opd ρ Lr a f y) → opd ρ Lr a f x := fun hh => hh x (by simp [ho, Op.operands])
  unfold boxLoc at h
  split at h
  · rename_i arr hx
    refine ⟨_, _, h, LocOK.newBlock (by simp) fun ρ a w Lr h1 h2 => ⟨by simp [O.ids], .cells arr T, ?_, fun _ => rfl, fun ρ' hb _ => ?_⟩⟩
    · have := (hop h1).1; rw [hx] at this
      simp [execOp, ho, Instr.box, this, V.ren, newVar, newRow, Value.cells]
    · simp only [objAt, hb]; rw [heap_alloc_new]
  · rename_i v _ hx
    have h := onlyIf_elim h
    refine ⟨_, _, h.2, LocOK.newBlock (by simp) fun ρ a w Lr h1 h2 => ⟨by simp [O.ids], .cells #[v] T, ?_, fun _ => rfl, fun ρ' hb _ => ?_⟩⟩
    · have hz : v.cells = #[v] := by have := one_cells h.1; exact Array.toList_inj.1 (by simpa using this)
      have := (hop h1).1; rw [hx] at this
      simp [execOp, ho, Instr.box, this, V.ren, newVar, newRow, hz]
    · simp only [objAt, hb]; rw [heap_alloc_new]
  · rename_i ys hx
    refine ⟨_, _, h, LocOK.newBlock (by simp) fun ρ a w Lr h1 h2 => ⟨?_, .cells (renL ρ ys).toArray T, ?_, fun _ => rfl, fun ρ' hb hk => ?_⟩⟩
    · have := (hop h1).2; rw [hx] at this; exact this
    · have := (hop h1).1; rw [hx] at this
      simp [execOp, ho, Instr.box, this, V.ren, newVar, newRow, Value.cells]
    · simp only [objAt, hb]; rw [heap_alloc_new, renL_congr ys hk]
  · rename_i hn1 hn2 hn3
    generalize hx : ev f x = y at *
    have h := onlyIf_elim h
    have hone := fun ρ => V.oneB_elim h.1 ρ
    refine ⟨_, _, h.2, LocOK.newBlock (by simp) fun ρ a w Lr h1 h2 => ⟨?_, .cells #[y.ren ρ] T, ?_, fun _ => rfl, fun ρ' hb hk => ?_⟩⟩
    · have := (hop h1).2; rw [hx] at this; simpa [O.ids, idsL] using this
    · have hz : (y.ren ρ).cells = #[y.ren ρ] := by have := one_cells (hone ρ); exact Array.toList_inj.1 (by simpa using this)
      have := (hop h1).1; rw [hx] at this
      simp [execOp, ho, Instr.box, this, newVar, newRow, hz]
    · simp only [objAt, hb]; rw [heap_alloc_new, renL_congr [y] hk]; rfl

theorem fieldAddrLoc_sound {S : TypeId} {x : Operand} {i : Nat} (ho : o.op = .fieldAddr S x i) {K : LK} (h : fieldAddrLoc P S i (ev f x) K) : ∃ rd e, K rd e ∧ LocOK P Γ n o f L rd e := by
  have hop : ∀ {ρ : Rho} {a : Act} {Lr : List O}, (∀ y ∈ o.op.operands.toList, opd ρ Lr a f y) → opd ρ Lr a f x := fun hh => hh x (by simp [ho, Op.operands])
  unfold fieldAddrLoc at h
  split at h
  · rename_i fs hu
    split at h
    · rename_i _ ft off _ _ _ _ hfi
      obtain ⟨ti, hti, h⟩ := withSize_elim h
      split at h
      · exact h.elim
      · rename_i k hk
        have run : ∀ {a : Act} {w : World} {A : Addr}, a.eval x = .pointer (some A) → (execOp a.eval o).run P w = .ok (.value (.pointer (some (A.add off)))) w := by
          intro a w A hA
          simp [execOp, ho, hA, Instr.fieldAt, run_underlying hu, hfi, Instr.sureAddr, fieldPlace, sizeOf, typeInfo, hti, hk]
        split at h
        · rename_i id oo hx
          refine ⟨_, _, fieldK_elim h, LocOK.pure fun ρ a w Lr h1 h2 h3 => ⟨?_, ?_⟩⟩
          · have := (hop h1).1; rw [hx] at this
            rw [run this, Addr.add_lit']; rfl
          · have := (hop h1).2; rw [hx] at this; simpa [V.ids] using this
        · rename_i b oo hx
          obtain ⟨o', rfl, h⟩ := h
          refine ⟨_, _, h, LocOK.plain fun ρ a w Lr h1 h2 h3 => ?_⟩
          have := (hop h1).1; rw [hx] at this
          rw [run this, Addr.add_lit']
        · exact h.elim
    · exact h.elim
  · exact h.elim

theorem row_slice {ρ : Rho} {w : World} {id : Nat} {e : TypeId} {sz m : Nat} {xs : List Value} (h : rowAt ρ w id e sz m xs) :
    (m = 0 ∧ ρ.val id = .slice none 0 0) ∨ ∃ cap, ρ.val id = .slice (some ⟨ρ.blk id, 0, none⟩) m cap ∧ m ≤ cap := by
  obtain ⟨h1, h2⟩ := h
  rcases h1.2 with ⟨h3, h4⟩ | ⟨g, cap, cur, h3, _, _, hc, _⟩
  · exact .inl ⟨h4, h3⟩
  · have : ρ.blk id = g := h2 g (by rw [h3]; rfl)
    exact .inr ⟨cap, by rw [h3, this], hc⟩

theorem indexAddrLoc_sound {T : TypeId} {x i : Operand} (ho : o.op = .indexAddr T x i) {K : LK} (h : indexAddrLoc P T L (ev f x) (ev f i) K) : ∃ rd e, K rd e ∧ LocOK P Γ n o f L rd e := by
  have hop : ∀ {ρ : Rho} {a : Act} {Lr : List O}, (∀ y ∈ o.op.operands.toList, opd ρ Lr a f y) → opd ρ Lr a f x ∧ opd ρ Lr a f i := fun hh => ⟨hh x (by simp [ho, Op.operands]), hh i (by simp [ho, Op.operands])⟩
  unfold indexAddrLoc at h
  split at h
  · rename_i ki iv hi
    have hidx : ∀ {ρ : Rho} {a : Act} {Lr : List O}, (∀ y ∈ o.op.operands.toList, opd ρ Lr a f y) → a.eval i = .int ki iv := fun hh => by
      have := (hop hh).2.1; rw [hi] at this; exact this
    split at h
    · rename_i len e hu
      obtain ⟨ti, hti, h⟩ := withSize_elim h
      have run : ∀ {a : Act} {w : World} {A : Addr} {k : Nat}, a.eval x = .pointer (some A) → a.eval i = .int ki iv → iv = (k : Int) → k < len →
          (execOp a.eval o).run P w = .ok (.value (.pointer (some (A.add (k * ti.size))))) w := by
        intro a w A k hA hI hk hlt
        subst hk
        simp [execOp, ho, hA, hI, Instr.indexAt, asIntOf, run_underlying hu, Instr.sureAddr, sizeOf, typeInfo, hti, hlt]
      split at h
      · rename_i id oo hx
        obtain ⟨k, ⟨hk, hlt⟩, h⟩ := h
        refine ⟨_, _, addK_elim (mulK_elim h), LocOK.pure fun ρ a w Lr h1 h2 h3 => ⟨?_, ?_⟩⟩
        · have := (hop h1).1.1; rw [hx] at this
          rw [run this (hidx h1) hk hlt, Addr.add_lit']; rfl
        · have := (hop h1).1.2; rw [hx] at this; simpa [V.ids] using this
      · rename_i b oo hx
        obtain ⟨k, ⟨hk, hlt⟩, o', rfl, h⟩ := h
        refine ⟨_, _, h, LocOK.plain fun ρ a w Lr h1 h2 h3 => ?_⟩
        have := (hop h1).1.1; rw [hx] at this
        rw [run this (hidx h1) hk hlt, Addr.add_lit']
      · exact h.elim
    · rename_i e hu
      obtain ⟨ti, hti, h⟩ := withSize_elim h
      have run : ∀ {a : Act} {w : World} {A : Addr} {k len cap : Nat}, a.eval x = .slice (some A) len cap → a.eval i = .int ki iv → iv = (k : Int) → k < len →
          (execOp a.eval o).run P w = .ok (.value (.pointer (some (A.add (k * ti.size))))) w := by
        intro a w A k len cap hA hI hk hlt
        subst hk
        simp [execOp, ho, hA, hI, Instr.indexAt, asIntOf, run_underlying hu, sizeOf, typeInfo, hti, hlt]
      have row : ∀ {id k m : Nat} {ob : O}, ev f x = .sl id → L[id]? = some ob → (∃ e sz, ob.shape = some (.inr (e, sz, m))) → iv = (k : Int) → k < m → LocOK P Γ n o f L [id] ⟨.ptr id (k * ti.size), [], []⟩ := by
        intro id k m ob hx hl ⟨e', sz', hsh⟩ hk hlt
        refine LocOK.pure fun ρ a w Lr h1 h2 h3 => ⟨?_, ?_⟩
        · have hv := (hop h1).1.1; rw [hx] at hv
          have hob := (objAt_inr hsh).1 (h2.obj id _ ((h3 id (by simp) (lt_of_get hl)).trans hl))
          rcases row_slice hob with ⟨h0, _⟩ | ⟨cap, hval, _⟩
          · omega
          · have hv' : a.eval x = .slice (some ⟨ρ.blk id, 0, none⟩) m cap := by rw [hv]; simp only [V.ren, hval, slv]
            rw [run hv' (hidx h1) hk hlt, Addr.add_lit', Nat.zero_add]; rfl
        · have := (hop h1).1.2; rw [hx] at this; simpa [V.ids] using this
      have subrow : ∀ {id s lo len k m : Nat} {ob : O}, ev f x = .sub id s lo len → L[id]? = some ob → (∃ e sz, ob.shape = some (.inr (e, sz, m))) → s = ti.size → lo + len ≤ m → iv = (k : Int) → k < len → LocOK P Γ n o f L [id] ⟨.ptr id ((lo + k) * ti.size), [], []⟩ := by
        intro id s lo len k m ob hx hl ⟨e', sz', hsh⟩ hs hlo hk hlt
        refine LocOK.pure fun ρ a w Lr h1 h2 h3 => ⟨?_, ?_⟩
        · have hv := (hop h1).1.1; rw [hx] at hv
          have hob := (objAt_inr hsh).1 (h2.obj id _ ((h3 id (by simp) (lt_of_get hl)).trans hl))
          rcases row_slice hob with ⟨h0, _⟩ | ⟨cap, hval, hc⟩
          · omega
          · have hv' : a.eval x = .slice (some ⟨ρ.blk id, lo * s, none⟩) len (cap - lo) := by
              rw [hv]; simp only [V.ren, hval, subOf]
              rw [if_neg (by omega), Addr.add_lit', Nat.zero_add]
            rw [run hv' (hidx h1) hk hlt, Addr.add_lit', hs, ← Nat.add_mul]; rfl
        · have := (hop h1).1.2; rw [hx] at this; simpa [V.ids] using this
      split at h
      · rename_i id hx
        split at h
        · rename_i hl
          obtain ⟨k, ⟨hk, hlt⟩, h⟩ := h
          exact ⟨_, _, mulK_elim h, row hx hl ⟨_, _, rfl⟩ hk hlt⟩
        · rename_i hl
          obtain ⟨k, ⟨hk, hlt⟩, h⟩ := h
          exact ⟨_, _, mulK_elim h, row hx hl ⟨_, _, rfl⟩ hk hlt⟩
        · rename_i e' m xs hl
          obtain ⟨k, ⟨hk, hlt⟩, h⟩ := h
          refine ⟨_, _, mulK_elim h, LocOK.pure fun ρ a w Lr h1 h2 h3 => ⟨?_, ?_⟩⟩
          · have hv := (hop h1).1.1; rw [hx] at hv
            obtain ⟨_, cap, cur, hval, _⟩ := h2.obj id _ ((h3 id (by simp) (lt_of_get hl)).trans hl)
            have hv' : a.eval x = .slice (some ⟨ρ.blk id, 0, none⟩) m cap := by rw [hv]; simp only [V.ren, hval, slv]
            rw [run hv' (hidx h1) hk hlt, Addr.add_lit', Nat.zero_add]; rfl
          · have := (hop h1).1.2; rw [hx] at this; simpa [V.ids] using this
        · exact h.elim
      · rename_i id oo len cap hx
        obtain ⟨k, ⟨hk, hlt⟩, h⟩ := h
        refine ⟨_, _, addK_elim (mulK_elim h), LocOK.pure fun ρ a w Lr h1 h2 h3 => ⟨?_, ?_⟩⟩
        · have := (hop h1).1.1; rw [hx] at this
          rw [run this (hidx h1) hk hlt, Addr.add_lit']; rfl
        · have := (hop h1).1.2; rw [hx] at this; simpa [V.ids] using this
      · rename_i id s lo len hx
        split at h
        · rename_i hl
          obtain ⟨⟨hs, hlo⟩, k, ⟨hk, hlt⟩, h⟩ := h
          exact ⟨_, _, mulK_elim h, subrow hx hl ⟨_, _, rfl⟩ hs hlo hk hlt⟩
        · rename_i hl
          obtain ⟨⟨hs, hlo⟩, k, ⟨hk, hlt⟩, h⟩ := h
          exact ⟨_, _, mulK_elim h, subrow hx hl ⟨_, _, rfl⟩ hs hlo hk hlt⟩
        · exact h.elim
      · rename_i b oo len cap hx
        obtain ⟨k, ⟨hk, hlt⟩, o', rfl, h⟩ := h
        refine ⟨_, _, h, LocOK.plain fun ρ a w Lr h1 h2 h3 => ?_⟩
        have := (hop h1).1.1; rw [hx] at this
        rw [run this (hidx h1) hk hlt, Addr.add_lit']
      · exact h.elim
    · exact h.elim
  · exact h.elim
end
end Go.Proofs.Ytpangmameocfmaa.VE
namespace Go.Proofs.Ytpangmameocfmaa.VE
open Go

def withPlaces (P : Program) (T : TypeId) (K : (Nat → Option (Nat × Nat)) → List Value → Prop) : Prop :=
  match P.info? T, P.underlying T with
  | some ⟨_, _, _, _, _, _, _, some (.agg zs), _, _⟩, some (.array _ e) => withSize P e fun s => K (fun i => some (i * s, s)) zs.toList
  | some ⟨_, _, _, _, _, _, _, some (.agg zs), _, _⟩, some (.struct fields) => match fields.toList.mapM (fun f => (P.info? f.type).map fun i => (f.offset, i.size)) with
    | some places => K (fun i => places[i]?) zs.toList
    | none => False
  | _, _ => False

theorem withPlaces_elim {P : Program} {T : TypeId} {K : (Nat → Option (Nat × Nat)) → List Value → Prop} (h : withPlaces P T K) :
    ∃ place zs, K place zs ∧ ∀ parts cells, Instr.fill place zs.toArray parts = some cells → P.built T parts = some cells := by
  unfold withPlaces at h
  split at h
  · rename_i zs _ _ _ e hi hu
    obtain ⟨ti, hti, h⟩ := withSize_elim h
    refine ⟨_, _, h, fun parts cells hf => ?_⟩
    simp only [Program.built, hi, hu, hti]
    simpa [Value.cells] using hf
  · rename_i zs _ _ fields hi hu
    split at h
    · rename_i places hp
      refine ⟨_, _, h, fun parts cells hf => ?_⟩
      simp only [Program.built, hi, hu, hp]
      simpa [Value.cells] using hf
    · exact h.elim
  · exact h.elim

def buildLoc (P : Program) (T : TypeId) (parts : List (Nat × V)) (K : LK) : Prop :=
  withPlaces P T fun place zs => match rawAll parts with
    | some l => fillP place zs l fun cs => ∃ ds, cs = ds ∧ K.v (.raw (.agg ds.toArray))
    | none => fillV place (zs.map V.raw) parts fun cs => ∃ ds, cs = ds ∧ K.v (.agg ds)

def convLoc (P : Program) (src dst : TypeId) (L : List O) (x : V) (K : LK) : Prop :=
  match P.underlying dst, x with
  | some (.int k), .raw (.int _ a) => onlyIf (P.underlying src).isSome <| ∃ c, k.wrap a = c ∧ K.v (.raw (.int k c))
  | some .string, .raw (.string s) => onlyIf (P.underlying src).isSome <| K.v (.raw (.string s))
  | some .string, .sl id => match P.underlying src with
    | some (.slice e) => match P.underlying e with
      | some (.int .u8) => match L[id]? with
        | some (.pr _ 1 _ xs) => ∃ bs : List UInt8, xs = bs.map (fun b => Value.int .u8 b.toNat) ∧ K [id] ⟨.raw (.string ⟨bs.toArray⟩), [], []⟩
        | some (.mr _ _ xs) => ∃ bs : List UInt8, xs = bs.map (fun b => Value.int .u8 b.toNat) ∧ K [id] ⟨.raw (.string ⟨bs.toArray⟩), [], []⟩
        | _ => False
      | _ => False
    | _ => False
  | _, _ => False

def unLoc (op : UnOp) (x : V) (K : LK) : Prop :=
  match op, x with
  | .not, .raw (.bool true) => K.v (.raw (.bool false))
  | .not, .raw (.bool false) => K.v (.raw (.bool true))
  | .neg, .raw (.int k a) => ∃ c, k.wrap (0 - a) = c ∧ K.v (.raw (.int k c))
  | _, _ => False

def extractLoc (x : V) (i : Nat) (K : LK) : Prop :=
  match x with
  | .tup vs => match vs[i]? with | some v => K.v v | none => False
  | .raw (.tuple vs) => match vs[i]? with | some v => K.v (.raw v) | none => False
  | _ => False

def nilCheckLoc (x : V) (K : LK) : Prop :=
  match x with
  | .ptr id o => K.v (.ptr id o)
  | .raw (.pointer (some a)) => K.v (.raw (.pointer (some a)))
  | .fn (.func g) a b => K.v (.fn (.func g) a b)
  | _ => False

/-- A part of a plain aggregate. -/
def partLoc (P : Program) (T : TypeId) (off : Nat) (x : V) (K : LK) : Prop :=
  match x with
  | .raw (.agg arr) => loadP P T arr.toList off fun v => K.v (.raw v)
  | .agg cs => loadV P T cs off fun v => K.v v
  | _ => False

def fieldLoc (P : Program) (S : TypeId) (i : Nat) (x : V) (K : LK) : Prop :=
  match P.underlying S with
  | some (.struct fs) => match fs[i]? with
    | some ⟨_, ft, off, _, _, _, _⟩ => partLoc P ft off x K
    | none => False
  | _ => False

def indexLoc (P : Program) (T : TypeId) (x i : V) (K : LK) : Prop :=
  match i with
  | .raw (.int _ iv) => match P.underlying T with
    | some (.array len e) => withSize P e fun sz => idx iv len fun k => mulK k sz fun d => partLoc P e d x K
    | some .string => match x with
      | .raw (.string s) => ∃ (k : Nat) (b : UInt8), (iv = (k : Int) ∧ s[k]? = some b) ∧ K.v (.raw (.int .u8 b.toNat))
      | _ => False
    | _ => False
  | _ => False

section
variable {P : Program} {Γ : Ctx} {n : Nat} {o : Oper} {f : Sl} {L : List O}

theorem part_agg {T : TypeId} {cs : Array Value} {off : Nat} {w : World} {i : TypeInfo} (h : (isAgg T).run P w = .ok true w) (hi : P.info? T = some i) :
    (part T cs off).run P w = .ok (.agg (cs.extract off (off + i.size))) w := by
  simp [part, h, sizeOf, typeInfo, hi]
theorem part_scalar {T : TypeId} {cs : Array Value} {off : Nat} {w : World} {v : Value} (h : (isAgg T).run P w = .ok false w) (hv : cs[off]? = some v) :
    (part T cs off).run P w = .ok v w := by
  simp [part, h, hv]

theorem extract_eq {cs : Array Value} {off sz : Nat} {ds : List Value} (h : (cs.toList.drop off).take sz = ds) : cs.extract off (off + sz) = ds.toArray := by
  apply Array.toList_inj.1
  rw [Array.toList_extract, List.extract_eq_take_drop]
  simpa using h

theorem partP_run {T : TypeId} {arr : Array Value} {off : Nat} {K : Value → Prop} (h : loadP P T arr.toList off K) :
    ∃ v, K v ∧ ∀ w, (part T arr off).run P w = .ok v w := by
  unfold loadP at h
  rcases aggCase_elim h with ⟨h1, h2⟩ | ⟨h1, h2⟩
  · obtain ⟨i, hi, ds, ⟨hl, hd⟩, hK⟩ := withSize_elim h1
    exact ⟨_, hK, fun w => by rw [part_agg (h2 w) hi, extract_eq hd]⟩
  · obtain ⟨v, hv, hK⟩ := h1
    exact ⟨v, hK, fun w => part_scalar (h2 w) (by simpa using hv)⟩

theorem partV_run {T : TypeId} {cs : List V} {off : Nat} {K : V → Prop} (h : loadV P T cs off K) :
    ∃ v, K v ∧ (∀ k ∈ v.ids, k ∈ idsL cs) ∧ ∀ (ρ : Rho) w, (part T (renL ρ cs).toArray off).run P w = .ok (v.ren ρ) w := by
  unfold loadV at h
  rcases aggCase_elim h with ⟨h1, h2⟩ | ⟨h1, h2⟩
  · obtain ⟨i, hi, ds, ⟨hl, hd⟩, hK⟩ := withSize_elim h1
    refine ⟨_, hK, ?_, fun ρ w => ?_⟩
    · intro k hk
      obtain ⟨u, hu, hk⟩ := mem_idsL.1 (show k ∈ idsL ds from hk)
      exact mem_idsL.2 ⟨u, by rw [← hd] at hu; exact List.mem_of_mem_drop (List.mem_of_mem_take hu), hk⟩
    · rw [part_agg (h2 w) hi, extract_eq (ds := renL ρ ds) (by rw [← hd, renL_take, renL_drop])]; rfl
  · obtain ⟨v, hv, hK⟩ := h1
    exact ⟨v, hK, fun k hk => mem_idsL.2 ⟨v, List.mem_of_getElem? hv, hk⟩, fun ρ w => part_scalar (h2 w) (by simp [renL_get, hv])⟩

theorem partLoc_sound {T : TypeId} {off : Nat} {x : Operand} (hx : x ∈ o.op.operands.toList) {K : LK} (h : partLoc P T off (ev f x) K)
    (hrun : ∀ (a : Act) (w : World) (cs : Array Value) (v : Value) (ρ : Rho) (Lr : List O), (∀ y ∈ o.op.operands.toList, opd ρ Lr a f y) → a.eval x = .agg cs → (part T cs off).run P w = .ok v w → (execOp a.eval o).run P w = .ok (.value v) w) :
    ∃ rd e, K rd e ∧ LocOK P Γ n o f L rd e := by
  unfold partLoc at h
  split at h
  · rename_i arr hxv
    obtain ⟨v, hK, hr⟩ := partP_run h
    refine ⟨_, _, hK, LocOK.plain fun ρ a w Lr h1 h2 h3 => ?_⟩
    have := (h1 x hx).1; rw [hxv] at this
    exact hrun a w arr v ρ Lr h1 this (hr w)
  · rename_i cs hxv
    obtain ⟨v, hK, hids, hr⟩ := partV_run h
    refine ⟨_, _, hK, LocOK.pure fun ρ a w Lr h1 h2 h3 => ⟨?_, fun k hk => ?_⟩⟩
    · have := (h1 x hx).1; rw [hxv] at this
      exact hrun a w _ _ ρ Lr h1 this (hr ρ w)
    · have := (h1 x hx).2; rw [hxv] at this
      exact this k (hids k hk)
  · exact h.elim

theorem fieldLoc_sound {S : TypeId} {x : Operand} {i : Nat} (ho : o.op = .field S x i) {K : LK} (h : fieldLoc P S i (ev f x) K) : ∃ rd e, K rd e ∧ LocOK P Γ n o f L rd e := by
  unfold fieldLoc at h
  split at h
  · rename_i fs hu
    split at h
    · rename_i _ ft off _ _ _ _ hfi
      refine partLoc_sound (by simp [ho, Op.operands]) h fun a w cs v ρ Lr _ hA hp => ?_
      simp [execOp, ho, hA, Instr.field, run_underlying hu, hfi, asAgg, hp]
    · exact h.elim
  · exact h.elim

theorem indexLoc_sound {T : TypeId} {x i : Operand} (ho : o.op = .index T x i) {K : LK} (h : indexLoc P T (ev f x) (ev f i) K) : ∃ rd e, K rd e ∧ LocOK P Γ n o f L rd e := by
  unfold indexLoc at h
  split at h
  · rename_i ki iv hi
    have hidx : ∀ {ρ : Rho} {a : Act} {Lr : List O}, (∀ y ∈ o.op.operands.toList, opd ρ Lr a f y) → a.eval i = .int ki iv := fun hh => by
      have := (hh i (by simp [ho, Op.operands])).1; rw [hi] at this; exact this
    split at h
    · rename_i len e hu
      obtain ⟨ti, hti, k, ⟨hk, hlt⟩, h⟩ := withSize_elim h
      refine partLoc_sound (by simp [ho, Op.operands]) (mulK_elim h) fun a w cs v ρ Lr hh hA hp => ?_
      subst hk
      simp [execOp, ho, hA, hidx hh, Instr.index, asIntOf, run_underlying hu, sizeOf, typeInfo, hti, hlt, hp]
    · rename_i hu
      split at h
      · rename_i s hx
        obtain ⟨k, b, ⟨hk, hb⟩, hK⟩ := h
        refine ⟨_, _, hK, LocOK.plain fun ρ a w Lr h1 h2 h3 => ?_⟩
        have := (h1 x (by simp [ho, Op.operands])).1; rw [hx] at this
        subst hk
        simp [execOp, ho, hidx h1, show a.eval x = .string s from this, Instr.index, asIntOf, run_underlying hu, hb]
      · exact h.elim
    · exact h.elim
  · exact h.elim

theorem buildLoc_sound {T : TypeId} {ps : Array (Nat × Operand)} (ho : o.op = .build T ps) {K : LK} (h : buildLoc P T (ps.toList.map fun p => (p.1, ev f p.2)) K) :
    ∃ rd e, K rd e ∧ LocOK P Γ n o f L rd e := by
  unfold buildLoc at h
  obtain ⟨place, zs, h, hb⟩ := withPlaces_elim h
  have hparts : ∀ {ρ : Rho} {a : Act} {Lr : List O}, (∀ y ∈ o.op.operands.toList, opd ρ Lr a f y) → (ps.map fun (p : Nat × Operand) => (p.1, a.eval p.2)).toList = (ps.toList.map fun p => (p.1, ev f p.2)).map fun p => (p.1, p.2.ren ρ) := by
    intro ρ a Lr hh
    simp only [Array.toList_map, List.map_map]
    refine List.map_congr_left fun p hp => ?_
    simp only [Function.comp]
    rw [(hh p.2 (by simp only [ho, Op.operands]; exact List.mem_map.2 ⟨p, hp, rfl⟩)).1]
  split at h
  · rename_i l hl
    obtain ⟨ds, ⟨ds', rfl, hK⟩, hf, _⟩ := fillP_elim h
    refine ⟨_, _, hK, LocOK.plain fun ρ a w Lr h1 h2 h3 => ?_⟩
    have := run_build (P := P) w T (ps.map fun (p : Nat × Operand) => (p.1, a.eval p.2)) ds.toArray (by rw [hparts h1, rawAll_ren ρ hl]; exact hb _ _ hf)
    simp [execOp, ho, this]
  · obtain ⟨ds, ⟨ds', rfl, hK⟩, hf, hids, _⟩ := fillV_elim h
    refine ⟨_, _, hK, LocOK.pure fun ρ a w Lr h1 h2 h3 => ⟨?_, fun k hk => ?_⟩⟩
    · have hf' := hf ρ
      rw [renL_map_raw] at hf'
      have := run_build (P := P) w T (ps.map fun (p : Nat × Operand) => (p.1, a.eval p.2)) (renL ρ ds).toArray (by rw [hparts h1]; exact hb _ _ hf')
      simp [execOp, ho, this, V.ren]
    · rcases hids k hk with h | ⟨p, hp, hk'⟩
      · rw [idsL_map_raw] at h; cases h
      · obtain ⟨q, hq, rfl⟩ := List.mem_map.1 hp
        exact (h1 q.2 (by simp only [ho, Op.operands]; exact List.mem_map.2 ⟨q, hq, rfl⟩)).2 k hk'

theorem unLoc_sound {op : UnOp} {T : TypeId} {x : Operand} (ho : o.op = .unOp op T x) {K : LK} (h : unLoc op (ev f x) K) : ∃ rd e, K rd e ∧ LocOK P Γ n o f L rd e := by
  have hop : ∀ {ρ : Rho} {a : Act} {Lr : List O}, (∀ y ∈ o.op.operands.toList, opd ρ Lr a f y) → a.eval x = (ev f x).ren ρ := fun hh => (hh x (by simp [ho, Op.operands])).1
  unfold unLoc at h
  split at h
  · rename_i hx
    refine ⟨_, _, h, LocOK.plain fun ρ a w Lr h1 h2 h3 => ?_⟩
    have := hop h1; rw [hx] at this
    simp [execOp, ho, show a.eval x = .bool true from this, Op.unary]
  · rename_i hx
    refine ⟨_, _, h, LocOK.plain fun ρ a w Lr h1 h2 h3 => ?_⟩
    have := hop h1; rw [hx] at this
    simp [execOp, ho, show a.eval x = .bool false from this, Op.unary]
  · rename_i k c hx
    obtain ⟨c', rfl, hK⟩ := h
    refine ⟨_, _, hK, LocOK.plain fun ρ a w Lr h1 h2 h3 => ?_⟩
    have := hop h1; rw [hx] at this
    simp [execOp, ho, show a.eval x = .int k c from this, Op.unary, Op.intArith]
  · exact h.elim

theorem extractLoc_sound {x : Operand} {i : Nat} (ho : o.op = .extract x i) {K : LK} (h : extractLoc (ev f x) i K) : ∃ rd e, K rd e ∧ LocOK P Γ n o f L rd e := by
  have hop : ∀ {ρ : Rho} {a : Act} {Lr : List O}, (∀ y ∈ o.op.operands.toList, opd ρ Lr a f y) → opd ρ Lr a f x := fun hh => hh x (by simp [ho, Op.operands])
  unfold extractLoc at h
  split at h
  · rename_i vs hx
    split at h
    · rename_i v hv
      refine ⟨_, _, h, LocOK.pure fun ρ a w Lr h1 h2 h3 => ⟨?_, fun k hk => ?_⟩⟩
      · have := (hop h1).1; rw [hx] at this
        simp [execOp, ho, show a.eval x = .tuple (renL ρ vs).toArray from this, Instr.extract, renL_get, hv]
      · have := (hop h1).2; rw [hx] at this
        exact this k (mem_idsL.2 ⟨v, List.mem_of_getElem? hv, hk⟩)
    · exact h.elim
  · rename_i vs hx
    split at h
    · rename_i v hv
      refine ⟨_, _, h, LocOK.plain fun ρ a w Lr h1 h2 h3 => ?_⟩
      have := (hop h1).1; rw [hx] at this
      simp [execOp, ho, show a.eval x = .tuple vs from this, Instr.extract, hv]
    · exact h.elim
  · exact h.elim

theorem nilCheckLoc_sound {x : Operand} (ho : o.op = .nilCheck x) {K : LK} (h : nilCheckLoc (ev f x) K) : ∃ rd e, K rd e ∧ LocOK P Γ n o f L rd e := by
  have hop : ∀ {ρ : Rho} {a : Act} {Lr : List O}, (∀ y ∈ o.op.operands.toList, opd ρ Lr a f y) → opd ρ Lr a f x := fun hh => hh x (by simp [ho, Op.operands])
  unfold nilCheckLoc at h
  split at h
  · rename_i id oo hx
    refine ⟨_, _, h, LocOK.pure fun ρ a w Lr h1 h2 h3 => ⟨?_, fun k hk => ?_⟩⟩
    · have := (hop h1).1; rw [hx] at this
      simp only [V.ren] at this
      simp [execOp, ho, this, V.ren]
    · have := (hop h1).2; rw [hx] at this; exact this k hk
  · rename_i A hx
    refine ⟨_, _, h, LocOK.plain fun ρ a w Lr h1 h2 h3 => ?_⟩
    have := (hop h1).1; rw [hx] at this
    simp only [V.ren] at this
    simp [execOp, ho, this]
  · rename_i g c d hx
    refine ⟨_, _, h, LocOK.pure fun ρ a w Lr h1 h2 h3 => ⟨?_, fun k hk => ?_⟩⟩
    · have := (hop h1).1; rw [hx] at this
      simp only [V.ren] at this
      simp [execOp, ho, this, V.ren]
    · have := (hop h1).2; rw [hx] at this; exact this k hk
  · exact h.elim

theorem foldl_push (bs : List UInt8) : ∀ s : ByteArray, ((bs.map fun b => (b.toNat : Int)).foldl (fun r n => r.push (UInt8.ofNat n.toNat)) s) = ⟨s.data ++ bs.toArray⟩ := by
  induction bs with
  | nil => intro s; simp
  | cons b r ih =>
    intro s
    simp only [List.map_cons, List.foldl_cons]
    rw [ih]
    simp [ByteArray.push]

theorem convLoc_sound {src dst : TypeId} {x : Operand} (ho : o.op = .convert src dst x) {K : LK} (h : convLoc P src dst L (ev f x) K) : ∃ rd e, K rd e ∧ LocOK P Γ n o f L rd e := by
  have hop : ∀ {ρ : Rho} {a : Act} {Lr : List O}, (∀ y ∈ o.op.operands.toList, opd ρ Lr a f y) → a.eval x = (ev f x).ren ρ := fun hh => (hh x (by simp [ho, Op.operands])).1
  unfold convLoc at h
  split at h
  · rename_i k k' c hd hx
    obtain ⟨hs, c', rfl, hK⟩ := onlyIf_elim h
    obtain ⟨ds, hs⟩ := Option.isSome_iff_exists.1 hs
    refine ⟨_, _, hK, LocOK.plain fun ρ a w Lr h1 h2 h3 => ?_⟩
    have := hop h1; rw [hx] at this
    simp [execOp, ho, show a.eval x = .int k' c from this, convert, run_underlying hs, run_underlying hd, Conv.intToInt]
  · rename_i s hd hx
    obtain ⟨hs, hK⟩ := onlyIf_elim h
    obtain ⟨ds, hs⟩ := Option.isSome_iff_exists.1 hs
    refine ⟨_, _, hK, LocOK.plain fun ρ a w Lr h1 h2 h3 => ?_⟩
    have := hop h1; rw [hx] at this
    simp [execOp, ho, show a.eval x = .string s from this, convert, run_underlying hs, run_underlying hd]
  · rename_i id hd hx
    split at h
    · rename_i e hs
      split at h
      · rename_i he
        split at h
        · rename_i et m xs hl
          obtain ⟨bs, hbs, hK⟩ := h
          refine ⟨_, _, hK, LocOK.plain fun ρ a w Lr h1 h2 h3 => ?_⟩
          have hv := hop h1; rw [hx] at hv
          have hob := h2.obj id _ ((h3 id (by simp) (lt_of_get hl)).trans hl)
          have hrow : rowAt ρ w id et 1 m xs := hob
          have hlen : xs.length = m := by simpa using hrow.1.1
          rcases row_slice hrow with ⟨h0, hval⟩ | ⟨cap, hval, hc⟩
          · have hb : bs = [] := List.eq_nil_of_length_eq_zero (by rw [hbs] at hlen; simp at hlen; omega)
            subst hb
            have hv' : a.eval x = .slice none 0 0 := (by rw [hv]; simp only [V.ren, hval, slv])
            simp [execOp, ho, hv', convert, run_underlying hs, run_underlying hd, run_underlying he, Conv.bytesToString]
            rfl
          · have hv' : a.eval x = .slice (some ⟨ρ.blk id, 0, none⟩) m cap := (by rw [hv]; simp only [V.ren, hval, slv])
            have hl' := run_loadCells_list (P := P) w ⟨ρ.blk id, 0, none⟩ xs (fun j v hj => by rw [Addr.add_lit', Nat.zero_add]; exact view_cell hob hj)
            rw [hlen] at hl'
            have hxs : xs = (bs.map fun b => (b.toNat : Int)).map (Value.int .u8) := by rw [hbs, List.map_map]; rfl
            have := run_convert_bytes_string (P := P) w src dst e (some ⟨ρ.blk id, 0, none⟩) m cap hs he hd
            rw [run_bytesToString w _ m cap (bs.map fun b => (b.toNat : Int)) (by rw [hl', hxs]), foldl_push] at this
            simp only [execOp, ho, hv', Sem.run_bind, this, Result.andThen_ok, Sem.run_pure]
            simp [ByteArray.empty, ByteArray.emptyWithCapacity]
            rfl
        · rename_i et m xs hl
          obtain ⟨bs, hbs, hK⟩ := h
          refine ⟨_, _, hK, LocOK.plain fun ρ a w Lr h1 h2 h3 => ?_⟩
          have hv := hop h1; rw [hx] at hv
          have hob := h2.obj id _ ((h3 id (by simp) (lt_of_get hl)).trans hl)
          have hob' := hob
          obtain ⟨hlen, cap, cur, hval, _⟩ := hob'
          have hv' : a.eval x = .slice (some ⟨ρ.blk id, 0, none⟩) m cap := (by rw [hv]; simp only [V.ren, hval, slv])
          have hl' := run_loadCells_list (P := P) w ⟨ρ.blk id, 0, none⟩ xs (fun j v hj => by rw [Addr.add_lit', Nat.zero_add]; exact mr_cell hob hj)
          rw [hlen] at hl'
          have hxs : xs = (bs.map fun b => (b.toNat : Int)).map (Value.int .u8) := by rw [hbs, List.map_map]; rfl
          have := run_convert_bytes_string (P := P) w src dst e (some ⟨ρ.blk id, 0, none⟩) m cap hs he hd
          rw [run_bytesToString w _ m cap (bs.map fun b => (b.toNat : Int)) (by rw [hl', hxs]), foldl_push] at this
          simp only [execOp, ho, hv', Sem.run_bind, this, Result.andThen_ok, Sem.run_pure]
          simp [ByteArray.empty, ByteArray.emptyWithCapacity]
          rfl
        · exact h.elim
      · exact h.elim
    · exact h.elim
  · exact h.elim
end
end Go.Proofs.Ytpangmameocfmaa.VE
namespace Go.Proofs.Ytpangmameocfmaa.VE
open Go

theorem okId_lt {L : List O} {k : Nat} (h : okId L k) : k < L.length := by obtain ⟨o, h, _⟩ := h; exact lt_of_get h

/-- A row goes over into another one (append, a cut): the elder id is dead, the new one has the new value. -/
theorem Rel.move {Γ : Ctx} {ρ : Rho} {L : List O} {w w' : World} (h : Rel Γ ρ L w) {id n : Nat} {ob ob' : O} (hl : L[id]? = some ob) (hnf : ob ≠ .free) (hn : L[n]? = some .free) (hm : Γ.m ≤ n)
    {b : Nat} {v : Value} (hf' : ob' ≠ .free) (os : w'.os = w.os) (tape : w'.tape = w.tape) (output : w'.output = w.output) (size : w.heap.size ≤ w'.heap.size)
    (hkeep : ∀ b, b < w.heap.size → ¬ ob.own ρ id b → w'.heap[b]? = w.heap[b]?)
    (hobj : objAt (ρ.put n b v) w' n ob') (hown : ∀ c, ob'.own (ρ.put n b v) n c → c < w'.heap.size ∧ (w.heap.size ≤ c ∨ ob.own ρ id c)) (hids : ∀ k ∈ ob'.ids, okId L k) :
    Rel Γ (ρ.put n b v) ((L.set id .dead).set n ob') w' ∧ Agree ρ (ρ.put n b v) L := by
  have hlt := lt_of_get hl
  have hltn := lt_of_get hn
  have hne : id ≠ n := by rintro rfl; rw [hn] at hl; injection hl with e; exact hnf e.symm
  have hag : Agree ρ (ρ.put n b v) L := by
    intro k ⟨x, hx, hxf⟩
    have : k ≠ n := by rintro rfl; rw [hn] at hx; injection hx with e; exact hxf e.symm
    simp [Rho.put, this]
  have hmono : ∀ k, okId L k → okId ((L.set id .dead).set n ob') k := fun k hk => okId_set hf' (okId_set (by simp) hk)
  have gid : ((L.set id .dead).set n ob')[id]? = some .dead := by rw [List.getElem?_set_ne (Ne.symm hne), List.getElem?_set_self hlt]
  have gn : ((L.set id .dead).set n ob')[n]? = some ob' := by rw [List.getElem?_set_self (by simpa using hltn)]
  refine ⟨h.step (fun i => i = id ∨ i = n) os tape output size hag ?_ ?_ ?_ ?_ ?_ ?_ hmono ?_ (by simp), hag⟩
  · intro i hi
    rw [List.getElem?_set_ne (fun e => hi (.inr e.symm)), List.getElem?_set_ne (fun e => hi (.inl e.symm))]
  · intro c hc hh
    exact hkeep c hc (hh id ob (.inl rfl) hl)
  · rintro i x (rfl | rfl) hx
    · rw [gid] at hx; injection hx with hx; subst hx; trivial
    · rw [gn] at hx; injection hx with hx; subst hx; exact hobj
  · rintro i x c (rfl | rfl) hx hc
    · rw [gid] at hx; injection hx with hx; subst hx; simp [O.own, O.own1] at hc
    · rw [gn] at hx; injection hx with hx; subst hx
      obtain ⟨h1, h2⟩ := hown c hc
      exact ⟨h1, h2.imp (fun e => e) fun e => ⟨id, ob, .inl rfl, hl, e⟩⟩
  · rintro i j x y c (rfl | rfl) (rfl | rfl) hx hy hcx hcy
    · rfl
    · rw [gid] at hx; injection hx with hx; subst hx; simp [O.own, O.own1] at hcx
    · rw [gid] at hy; injection hy with hy; subst hy; simp [O.own, O.own1] at hcy
    · rfl
  · rintro i x (rfl | rfl) hx k hk
    · rw [gid] at hx; injection hx with hx; subst hx; simp [O.ids] at hk
    · rw [gn] at hx; injection hx with hx; subst hx; exact hmono k (hids k hk)
  · intro i hi
    have : i ≠ n := by omega
    simp [Rho.put, this]

/-- What 'append' does, whatever is appended (nothing, too). -/
theorem run_append_any {P : Program} {w : World} {t ty e : TypeId} {i : TypeInfo} {z : Value} {sz bytes : Nat} (ht : P.underlying t = some (.slice e)) (hi : P.info? e = some i) (hz : i.zero = some z)
    (hsize : i.size = sz) (hby : i.bytes = bytes) (hzs : z.cells.size = sz) (hsz : 0 < sz)
    {v : Value} {n : Nat} {xs : List Value} (hown : w.ownsRow 0 e sz v n xs)
    {x : Value} {m : Nat} {news : List Value} (hx : (m = 0 ∧ x = .slice none 0 0) ∨ ∃ a c, x = .slice (some a) m c ∧ ∀ j u, news[j]? = some u → w.cell? (a.add j) = some u)
    (hl : news.length = m * sz) (h1 : ones news) (h63 : n + m ≤ maxLen) (hbytes : (n + m) * bytes ≤ 140737488355328) :
    ∃ v' w', (Builtin.append_ #[t, t] ty #[v, x]).run P w = .ok v' w' ∧ w'.ownsRow 0 e sz v' (n + m) (xs ++ news) ∧ w.grownBy w' v.ownBlock ∧ (∀ c, v'.ownBlock = some c → w.heap.size ≤ c ∨ v.ownBlock = some c) := by
  rcases hx with ⟨rfl, rfl⟩ | ⟨a, c, rfl, hnews⟩
  · have hn : news = [] := List.eq_nil_of_length_eq_zero (by simpa using hl)
    subst hn
    refine ⟨v, w, ?_, by simpa using hown, ⟨rfl, rfl, rfl, Nat.le_refl _, fun _ _ _ => rfl⟩, fun c hc => .inr hc⟩
    rcases hown.2 with ⟨rfl, rfl⟩ | ⟨g, cap, cur, rfl, hbg, hg, hnc, hcm, hcs, htake⟩
    · simp [Builtin.append_, run_underlying ht, sizeOf, typeInfo, hi, Builtin.lenOf, Builtin.firstCells]
    · simp [Builtin.append_, run_underlying ht, sizeOf, typeInfo, hi, Builtin.lenOf, Builtin.firstCells, hnc, storeCells]
  · obtain ⟨v', w', hr, ho, hg, _⟩ := run_append_own (P := P) w 0 t ty e i z sz bytes ht hi hz hsize hby hzs hsz v n xs hown a m c news hl hnews h1 h63 hbytes (Nat.zero_le _)
    refine ⟨v', w', hr, ho, hg, fun k hk => ?_⟩
    by_cases hk' : v.ownBlock = some k
    · exact .inr hk'
    · refine .inl ?_
      rcases Nat.lt_or_ge k w.heap.size with hlt | hge
      · exfalso
        -- a block below the heap's size that is not v's own is as it was: but then it would be owned by none
        rcases hown.2 with ⟨rfl, rfl⟩ | ⟨g, cap, cur, rfl, hbg, hgg, hnc, hcm, hcs, htake⟩
        · by_cases hm : m = 0
          · subst hm
            have hn : news = [] := List.eq_nil_of_length_eq_zero (by simpa using hl)
            subst hn
            simp [Builtin.append_, run_underlying ht, sizeOf, typeInfo, hi, hsize, Builtin.lenOf, Builtin.firstCells, loadCells, loadCellsFrom] at hr
            rw [← hr.1] at hk
            simp [Value.ownBlock] at hk
          · have := run_append_nil (P := P) w t ty e i z ht hi hz a m c news (by rw [hl, hsize]) hnews (by omega) (by simp only [maxLen] at h63; omega) (by rw [hby]; have := hbytes; simp only [Nat.zero_add] at this; omega)
            rw [this] at hr
            injection hr with hr1 hr2
            rw [← hr1] at hk
            simp [Value.ownBlock] at hk
            omega
        · by_cases hroom : n + m ≤ cap
          · have hfit : n * i.size + news.length ≤ cur.size := by rw [hl, hcs, hsize, ← Nat.add_mul]; exact Nat.mul_le_mul_right _ hroom
            have := run_append_room (P := P) w t ty e i ht hi g n cap cur hgg a m c news (by rw [hl, hsize]) hnews h1 hroom hfit
            rw [this] at hr
            injection hr with hr1 hr2
            rw [← hr1] at hk
            exact hk' (by simpa [Value.ownBlock] using hk)
          · have hold : ∀ j u, xs[j]? = some u → w.cell? ((⟨g, 0, none⟩ : Addr).add j) = some u := hown.cells rfl
            have := run_append_grow (P := P) w t ty e i z ht hi hz ⟨g, 0, none⟩ n cap xs (by rw [hown.1, hsize]) hold a m c news (by rw [hl, hsize]) hnews (by omega) (by simp only [maxLen] at h63; omega) (by rw [hby]; exact growslice_fits (by omega) hbytes)
            rw [this] at hr
            injection hr with hr1 hr2
            rw [← hr1] at hk
            simp [Value.ownBlock] at hk
            omega
      · exact hge

/-- The zero of an element's type, its size and its bytes. -/
def withElem (P : Program) (e : TypeId) (K : Value → Nat → Nat → Prop) : Prop :=
  match P.info? e with | some ⟨_, _, sz, bytes, _, _, _, some z, _, _⟩ => onlyIf (Nat.beq z.cells.size sz && Nat.ble 1 sz) (K z sz bytes) | _ => False

theorem withElem_elim {P : Program} {e : TypeId} {K : Value → Nat → Nat → Prop} (h : withElem P e K) :
    ∃ i z, P.info? e = some i ∧ i.zero = some z ∧ z.cells.size = i.size ∧ 0 < i.size ∧ K z i.size i.bytes := by
  unfold withElem at h
  split at h
  · rename_i hi
    obtain ⟨h1, h2⟩ := onlyIf_elim h
    simp only [Bool.and_eq_true] at h1
    exact ⟨_, _, hi, rfl, Nat.eq_of_beq_eq_true h1.1, Nat.le_of_ble_eq_true h1.2, h2⟩
  · exact h.elim

/-- A row, as it is told. -/
inductive RowIs (L : List O) (sz : Nat) : V → Option TypeId → List Nat → Nat → (Rho → List Value) → List Nat → Prop
  | row {id : Nat} {ob : O} {e : TypeId} {n : Nat} : L[id]? = some ob → ob.shape = some (.inr (e, sz, n)) → RowIs L sz (.sl id) (some e) [id] n (fun ρ => ob.view ρ) ob.ids
  | nil : RowIs L sz (.raw (.slice none 0 0)) none [] 0 (fun _ => []) []

section
variable {P : Program} {Γ : Ctx} {n : Nat} {o : Oper} {f : Sl} {L : List O}

theorem LocOK.newRow {ob : O} (hf : ob ≠ .free)
    (h : ∀ ρ a w Lr, (∀ x ∈ o.op.operands.toList, opd ρ Lr a f x) → Rel Γ ρ Lr w → (∀ k ∈ ob.ids, okId Lr k) ∧ ∃ obj v, slv v = v ∧ (execOp a.eval o).run P w = .ok (.value v) (w.alloc obj) ∧
      (∀ ρ' : Rho, ρ'.val n = v → ∀ b, ob.own ρ' n b → b = w.heap.size) ∧ ∀ ρ' : Rho, ρ'.blk n = w.heap.size → ρ'.val n = v → (∀ k ∈ ob.ids, ρ'.blk k = ρ.blk k ∧ ρ'.val k = ρ.val k) → objAt ρ' (w.alloc obj) n ob) :
    LocOK P Γ n o f L [] ⟨.sl n, [], [ob]⟩ := by
  intro ρ a w Lr hx hr _ hfree hm K Q hK
  obtain ⟨hids, obj, v, hslv, hrun, hown, hobj⟩ := h ρ a w Lr hx hr
  have hn : Lr[n]? = some .free := by simpa using hfree 0 (by simp)
  have hblk : (ρ.put n w.heap.size v).blk n = w.heap.size := by simp [Rho.put]
  have hval : (ρ.put n w.heap.size v).val n = v := by simp [Rho.put]
  have hag : ∀ k ∈ ob.ids, (ρ.put n w.heap.size v).blk k = ρ.blk k ∧ (ρ.put n w.heap.size v).val k = ρ.val k := by
    intro k hk
    obtain ⟨x, hx', hxf⟩ := hids k hk
    have : k ≠ n := by rintro rfl; rw [hn] at hx'; injection hx' with e; exact hxf e.symm
    simp [Rho.put, this]
  obtain ⟨h1, h2⟩ := hr.new (w' := w.alloc obj) hn hm (v := v) hf rfl rfl rfl rfl (fun b hb => hown _ hval b hb) (hobj _ hblk hval hag) hids
  unfold Oper.wp
  rw [hrun]
  have := hK _ _ h1 h2 (fun k hk => okId_set hf hk) (fun k hk => by
    simp only [V.ids, List.mem_singleton] at hk
    subst hk
    exact okId_set_new hf (lt_of_get hn))
  simpa [V.ren, hval, hslv, Oper.upon] using this

theorem rowAt_new {w : World} {e : TypeId} {sz m : Nat} {cs : List Value} {ρ' : Rho} (hb : ρ'.blk n = w.heap.size) (hv : ρ'.val n = .slice (some ⟨w.heap.size, 0, none⟩) m m) (hl : cs.length = m * sz) (hm : m ≤ maxLen) :
    rowAt ρ' (w.alloc (.cells cs.toArray e)) n e sz m cs := by
  refine ⟨⟨hl, .inr ⟨w.heap.size, m, cs.toArray, hv, Nat.zero_le _, heap_alloc_new w _, Nat.le_refl _, hm, by simpa using hl, by simp [← hl]⟩⟩, fun b h => ?_⟩
  rw [hv] at h
  simp [Value.ownBlock] at h
  rw [hb, h]

theorem ownsRow_slv {w : World} {e : TypeId} {sz m : Nat} {v : Value} {xs : List Value} (h : w.ownsRow 0 e sz v m xs) : slv v = v := by
  rcases h.2 with ⟨rfl, _⟩ | ⟨g, cap, cur, rfl, _⟩ <;> rfl

theorem append_fin {T : TypeId} {s x : Operand} (ho : o.op = .call { callee := .builtin .append, args := #[s, x], argTypes := #[T, T] })
    {e : TypeId} {i : TypeInfo} {z : Value} (hT : P.underlying T = some (.slice e)) (hi : P.info? e = some i) (hz : i.zero = some z) (hzs : z.cells.size = i.size) (hpos : 0 < i.size)
    {vs vx : V} (hvs : ev f s = vs) (hvx : ev f x = vx) {es ex : Option TypeId} {rs rx : List Nat} {ns nx : Nat} {ws wx : Rho → List Value} {is ix : List Nat}
    (hs : RowIs L i.size vs es rs ns ws is) (hx : RowIs L i.size vx ex rx nx wx ix) (hes : es = none ∨ es = some e) {ob : O} (hsh : ob.shape = some (.inr (e, i.size, ns + nx)))
    (hview : ∀ ρ, ob.view ρ = ws ρ ++ wx ρ) (hids : ∀ k ∈ ob.ids, k ∈ is ∨ k ∈ ix) (hone : ∀ ρ, ones (wx ρ)) (hby : (ns + nx) * i.bytes ≤ 140737488355328) (h63 : ns + nx ≤ 4611686018427387904) :
    LocOK P Γ n o f L (rs ++ rx) ⟨.sl n, rs.map fun i => (i, O.dead), [ob]⟩ := by
  intro ρ a w Lr hops hr hrd hfree hm K Q hcont
  have hop : opd ρ Lr a f s ∧ opd ρ Lr a f x := ⟨hops s (by simp [ho, Op.operands, Call.operands]), hops x (by simp [ho, Op.operands, Call.operands])⟩
  have hn : Lr[n]? = some .free := by simpa using hfree 0 (by simp)
  have h63' : ns + nx ≤ maxLen := by simp only [maxLen]; omega
  have hnf : ob ≠ .free := by rintro rfl; simp [O.shape] at hsh
  have run : ∀ {w' : World} {v' : Value}, (Builtin.append_ #[T, T] o.type #[a.eval s, a.eval x]).run P w = .ok v' w' → (execOp a.eval o).run P w = .ok (.value v') w' := by
    intro w' v' h3
    simp [execOp, ho, resolve, invoke, builtin, h3]
  have hids' : ∀ k ∈ ob.ids, okId Lr k := by
    intro k hk
    rcases hids k hk with h | h
    · cases hs with
      | row hl _ => exact hr.oks _ _ ((hrd _ (by simp) (lt_of_get hl)).trans hl) k h
      | nil => cases h
    · cases hx with
      | row hl _ => exact hr.oks _ _ ((hrd _ (by simp) (lt_of_get hl)).trans hl) k h
      | nil => cases h
  have hxs : (wx ρ).length = nx * i.size ∧ ((nx = 0 ∧ a.eval x = .slice none 0 0) ∨ ∃ ad c, a.eval x = .slice (some ad) nx c ∧ ∀ j u, (wx ρ)[j]? = some u → w.cell? (ad.add j) = some u) := by
    have hv := hop.2.1
    rw [hvx] at hv
    cases hx with
    | @row id ob' e' _ hl hsh' =>
      have hob := hr.obj id _ ((hrd id (by simp) (lt_of_get hl)).trans hl)
      have hrow := (objAt_inr hsh').1 hob
      refine ⟨hrow.1.1, ?_⟩
      rcases row_slice hrow with ⟨h0, hval⟩ | ⟨cap, hval, hc⟩
      · exact .inl ⟨h0, by rw [hv]; simp only [V.ren, hval, slv]⟩
      · refine .inr ⟨⟨ρ.blk id, 0, none⟩, cap, (by rw [hv]; simp only [V.ren, hval, slv]), fun j u hu => ?_⟩
        rw [Addr.add_lit', Nat.zero_add]
        exact view_cell hob hu
    | nil => exact ⟨by simp, .inl ⟨rfl, hv⟩⟩
  obtain ⟨hln, hxs⟩ := hxs
  have hput : ∀ b v', (ρ.put n b v').val n = v' := fun b v' => by simp [Rho.put]
  have hputb : ∀ b v', (ρ.put n b v').blk n = b := fun b v' => by simp [Rho.put]
  have hviewc : ∀ b v', Agree ρ (ρ.put n b v') Lr → ob.view (ρ.put n b v') = ob.view ρ := by
    intro b v' hag
    cases ob <;> simp only [O.view] <;> first | rfl | exact renL_congr _ fun k hk => hag k (hids' k hk)
  have hagree : ∀ b v', Agree ρ (ρ.put n b v') Lr := by
    intro b v' k ⟨y, hy, hyf⟩
    have : k ≠ n := by rintro rfl; rw [hn] at hy; injection hy with e; exact hyf e.symm
    simp [Rho.put, this]
  have mkobj : ∀ {w' : World} {v' : Value}, w'.ownsRow 0 e i.size v' (ns + nx) (ws ρ ++ wx ρ) → objAt (ρ.put n (match v'.ownBlock with | some c => c | none => 0) v') w' n ob := by
    intro w' v' hown
    rw [objAt_inr hsh, hviewc _ _ (hagree _ _), hview ρ]
    refine ⟨by rw [hput]; exact hown, fun c hc => ?_⟩
    rw [hput] at hc
    rw [hputb, hc]
  have hown_eq : ∀ b v' c, ob.own (ρ.put n b v') n c ↔ v'.ownBlock = some c := by
    intro b v' c
    cases ob <;> simp [O.shape] at hsh <;> simp [O.own, O.own1, Rho.put]
  have fin : ∀ {ρ' w' Lr'}, slv (ρ'.val n) = ρ'.val n → Rel Γ ρ' Lr' w' → Agree ρ ρ' Lr → Lr' = (Eff.app ⟨.sl n, rs.map fun i => (i, O.dead), [ob]⟩ n Lr) → (∀ k, okId Lr k → okId Lr' k) → okId Lr' n → (execOp a.eval o).run P w = .ok (.value (ρ'.val n)) w' → o.wp P a w K Q := by
    rintro ρ' w' Lr' hsl h1 h2 rfl h5 h3 h4
    unfold Oper.wp
    rw [h4]
    have := hcont ρ' w' h1 h2 h5 (fun k hk => by simp only [V.ids, List.mem_singleton] at hk; subst hk; exact h3)
    simpa [V.ren, hsl, Oper.upon] using this
  have hv := hop.1.1
  rw [hvs] at hv
  cases hs with
  | @row id ob0 e0 _ hl hsh0 =>
    have hl' := (hrd id (by simp) (lt_of_get hl)).trans hl
    have hob := hr.obj id _ hl'
    have hrow := (objAt_inr hsh0).1 hob
    obtain rfl : e0 = e := by rcases hes with h | h <;> simp at h; exact h
    obtain ⟨v', w', hrun, hown, hg, hblk⟩ := run_append_any (ty := o.type) hT hi hz rfl rfl hzs hpos hrow.1 hxs hln (hone ρ) h63' hby
    have how0 : ∀ c, ob0.own ρ id c ↔ (ρ.val id).ownBlock = some c := by intro c; cases ob0 <;> simp [O.shape] at hsh0 <;> exact Iff.rfl
    obtain ⟨hrel, hag⟩ := hr.move (w' := w') hl' (by rintro rfl; simp [O.shape] at hsh0) hn hm (v := v') hnf hg.os hg.tape hg.output hg.size
      (fun c hc hcn => hg.block c hc (fun e => hcn ((how0 c).2 e.symm))) (mkobj hown)
      (fun c hc => by
        rw [hown_eq] at hc
        exact ⟨(hown.lt c hc).2, by rw [how0]; exact hblk c hc⟩) hids'
    have hsl : slv v' = v' := ownsRow_slv hown
    refine fin (by rw [hput]; exact hsl) hrel hag rfl (fun k hk => okId_set hnf (okId_set (by simp) hk)) (okId_set_new hnf (by simpa using lt_of_get hn)) ?_
    rw [hput]
    exact run (by rw [hv]; simp only [V.ren, ownsRow_slv hrow.1]; exact hrun)
  | nil =>
    obtain ⟨v', w', hrun, hown, hg, hblk⟩ := run_append_any (ty := o.type) hT hi hz rfl rfl hzs hpos (World.ownsRow_nil w 0 e i.size) hxs hln (hone ρ) h63' hby
    have hlt := lt_of_get hn
    have hrel : Rel Γ (ρ.put n (match v'.ownBlock with | some c => c | none => 0) v') (Lr.set n ob) w' := by
      refine hr.step (fun i => i = n) hg.os hg.tape hg.output hg.size (hagree _ _) ?_ ?_ ?_ ?_ ?_ ?_ ?_ ?_ (by simp)
      · intro k hk; rw [List.getElem?_set_ne (Ne.symm hk)]
      · intro c hc _; exact hg.block c hc (fun e => by simp [Value.ownBlock] at e)
      · rintro k x rfl hx
        rw [List.getElem?_set_self hlt] at hx; injection hx with hx; subst hx; exact mkobj hown
      · rintro k x c rfl hx hc
        rw [List.getElem?_set_self hlt] at hx; injection hx with hx; subst hx
        rw [hown_eq] at hc
        exact ⟨(hown.lt c hc).2, .inl ((hblk c hc).resolve_right (by simp [Value.ownBlock]))⟩
      · rintro k j _ _ _ rfl rfl _ _ _ _; rfl
      · rintro k x rfl hx k' hk'
        rw [List.getElem?_set_self hlt] at hx; injection hx with hx; subst hx
        exact okId_set hnf (hids' k' hk')
      · exact fun k hk => okId_set hnf hk
      · intro k hk
        have : k ≠ n := by omega
        simp [Rho.put, this]
    have hsl : slv v' = v' := ownsRow_slv hown
    refine fin (by rw [hput]; exact hsl) hrel (hagree _ _) rfl (fun k hk => okId_set hnf hk) (okId_set_new hnf hlt) ?_
    rw [hput]
    exact run (by rw [show a.eval s = .slice none 0 0 from hv]; exact hrun)
end
end Go.Proofs.Ytpangmameocfmaa.VE
