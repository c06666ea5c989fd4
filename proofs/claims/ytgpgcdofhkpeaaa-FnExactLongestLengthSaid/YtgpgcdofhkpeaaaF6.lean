/- Contracts of functions of the given program, for all arguments that the contract names; see each theorem. -/
import Derived.Test.YtgpgcdofhkpeaaaF5
import Derived.Test.YtgpgcdofhkpeaaaU18a
import Derived.Test.YtgpgcdofhkpeaaaU22
set_option linter.all false
namespace Go.Proofs.Ytgpgcdofhkpeaaa.VE
open Go
set_option maxHeartbeats 1600000
set_option maxRecDepth 100000

/-! the tree that is grown from the right: plain -/
def ix (e : List Nat) : List (List Nat) → Nat
  | [] => 0
  | m :: r => if m = e then 0 else ix e r + 1
theorem ix_lt {e : List Nat} : ∀ {l : List (List Nat)}, e ∈ l → ix e l < l.length
  | m :: r, h => by
    rw [ix]; split
    · simp
    · rename_i hne
      have := ix_lt (l := r) ((List.mem_cons.1 h).resolve_left (Ne.symm hne))
      simp; omega
theorem ix_get {e : List Nat} : ∀ {l : List (List Nat)}, e ∈ l → l.getD (ix e l) [] = e
  | m :: r, h => by
    rw [ix]; split
    · rename_i he; exact he
    · rename_i hne
      exact ix_get (l := r) ((List.mem_cons.1 h).resolve_left (Ne.symm hne))
theorem ix_app {e : List Nat} {r : List (List Nat)} : ∀ {l : List (List Nat)}, e ∈ l → ix e (l ++ r) = ix e l
  | m :: l, h => by
    rw [List.cons_append, ix, ix]; split
    · rfl
    · rename_i hne
      rw [ix_app (l := l) ((List.mem_cons.1 h).resolve_left (Ne.symm hne))]
theorem ix_new {e : List Nat} {r : List (List Nat)} : ∀ {l : List (List Nat)}, e ∉ l → ix e (l ++ e :: r) = l.length
  | [], _ => by rw [List.nil_append, ix, if_pos rfl]; rfl
  | m :: l, h => by
    rw [List.cons_append, ix, if_neg (fun e1 => h (by simp [e1])), ix_new (l := l) (fun h2 => h (by simp [h2]))]; rfl
theorem ix_at {l : List (List Nat)} {i : Nat} (hn : l.Nodup) (hi : i < l.length) : ix (l.getD i []) l = i := by
  have hm : l.getD i [] ∈ l := by rw [List.getD_eq_getElem?_getD, List.getElem?_eq_getElem hi]; exact List.getElem_mem hi
  have he : l.getD i [] = l[i] := by rw [List.getD_eq_getElem?_getD, List.getElem?_eq_getElem hi]; rfl
  generalize l.getD i [] = e at hm he
  have h1 := ix_lt hm
  have h2 := ix_get hm
  rw [List.getD_eq_getElem?_getD, List.getElem?_eq_getElem h1] at h2
  have h3 : l[ix e l] = l[i] := (show l[ix e l] = e from h2).trans he
  have hp := List.pairwise_iff_getElem.1 hn
  rcases Nat.lt_trichotomy (ix e l) i with h4 | h4 | h4
  · exact absurd h3 (hp _ _ h1 hi h4)
  · exact h4
  · exact absurd h3.symm (hp _ _ hi h1 h4)
/-- The place that is noted for a number, from c on. -/
def pG (n x : Nat) : Nat → List (List Nat) → Nat
  | _, [] => 0
  | c, m :: r => if nuN n m = x then c else pG n x (c + 1) r
theorem pG_none {n x : Nat} : ∀ {l : List (List Nat)} {c : Nat}, (∀ m ∈ l, nuN n m ≠ x) → pG n x c l = 0
  | [], _, _ => rfl
  | m :: r, c, h => by rw [pG, if_neg (h m (by simp)), pG_none fun z hz => h z (by simp [hz])]
theorem pG_some {n : Nat} {e : List Nat} : ∀ {l : List (List Nat)} {c : Nat}, e ∈ l → (∀ m ∈ l, nuN n m = nuN n e → m = e) → pG n (nuN n e) c l = c + ix e l
  | m :: r, c, h, hi => by
    rw [pG, ix]
    by_cases h1 : m = e
    · rw [if_pos (by rw [h1]), if_pos h1]; rfl
    · rw [if_neg (fun e2 => h1 (hi m (by simp) e2)), if_neg h1, pG_some ((List.mem_cons.1 h).resolve_left (Ne.symm h1)) fun z hz => hi z (by simp [hz])]; omega
theorem pG_app {n x : Nat} {e : List Nat} (hx : nuN n e ≠ x) : ∀ {l : List (List Nat)} {c : Nat}, pG n x c (l ++ [e]) = pG n x c l
  | [], c => by show (if nuN n e = x then c else pG n x (c + 1) []) = 0; rw [if_neg hx]; rfl
  | m :: r, c => by rw [List.cons_append, pG, pG, pG_app hx]

structure GS where
  ms : List (List Nat)
  fr : List Nat
  st : List Nat
  ln : List Nat
  wy : List Nat
def gE (n i k : Nat) (s : GS) : List Nat := (oL n (s.ms.getD i []) (gen n k) n).1
def gN (n i k : Nat) (s : GS) : GS := ⟨s.ms ++ [gE n i k s], s.fr ++ [i], s.st ++ [k], s.ln ++ [s.ln.getD i 0 + 1], s.wy ++ [0]⟩
def gP (i a : Nat) (s : GS) : GS := if s.ln.getD a 0 = s.ln.getD i 0 + 1 then { s with wy := s.wy.set a (s.wy.getD a 0 + s.wy.getD i 0) } else s
def gK (n i k : Nat) (s : GS) : GS :=
  if lpN n (s.ms.getD i []) (gen n k) = 0 then
    if gE n i k s ∈ s.ms then gP i (ix (gE n i k s) s.ms) s else gP i s.ms.length (gN n i k s)
  else s
def gI (n i : Nat) : Nat → GS → GS
  | 0, s => s
  | k + 1, s => gK n i k (gI n i k s)
def gO (n : Nat) : Nat → GS
  | 0 => ⟨[un n], [0], [0], [0], [1]⟩
  | i + 1 => gI n i (n - 1) (gO n i)
/-- What holds of it. -/
structure GI (n : Nat) (s : GS) : Prop where
  lf : s.fr.length = s.ms.length
  ls : s.st.length = s.ms.length
  ll : s.ln.length = s.ms.length
  lw : s.wy.length = s.ms.length
  nd : s.ms.Nodup
  hd : ∀ m ∈ s.ms, IsD n m
  ln : ∀ j, j < s.ms.length → s.ln.getD j 0 ≤ j
  fr : ∀ j, j < s.ms.length → s.fr.getD j 0 ≤ j
  st : ∀ j, j < s.ms.length → s.st.getD j 0 ≤ n
theorem GI.few {n : Nat} {s : GS} (h : GI n s) : s.ms.length ≤ wy (2 * n) 0 := Go.Proofs.Ytgpgcdofhkpeaaa.VE.few h.nd h.hd
theorem getD_mem {l : List (List Nat)} {i : Nat} (hi : i < l.length) : l.getD i [] ∈ l := by
  rw [List.getD_eq_getElem?_getD, List.getElem?_eq_getElem hi]; exact List.getElem_mem hi
theorem GI.at {n i : Nat} {s : GS} (h : GI n s) (hi : i < s.ms.length) : IsD n (s.ms.getD i []) := h.hd _ (getD_mem hi)
theorem getD_app {α : Type} {l : List α} {x d : α} {j : Nat} : (l ++ [x]).getD j d = if j < l.length then l.getD j d else if j = l.length then x else d := by
  rw [List.getD_eq_getElem?_getD, List.getD_eq_getElem?_getD]
  by_cases h1 : j < l.length
  · rw [if_pos h1, List.getElem?_append_left h1]
  · rw [if_neg h1, List.getElem?_append_right (by omega)]
    by_cases h2 : j = l.length
    · subst h2; rw [if_pos rfl]; simp
    · rw [if_neg h2, List.getElem?_eq_none (by simp; omega)]; rfl
theorem gP_ms {i a : Nat} {s : GS} : (gP i a s).ms = s.ms ∧ (gP i a s).fr = s.fr ∧ (gP i a s).st = s.st ∧ (gP i a s).ln = s.ln := by
  unfold gP; split <;> exact ⟨rfl, rfl, rfl, rfl⟩
theorem GI.gP {n i a : Nat} {s : GS} (h : GI n s) : GI n (gP i a s) := by
  unfold Go.Proofs.Ytgpgcdofhkpeaaa.VE.gP; split
  · exact ⟨h.lf, h.ls, h.ll, by simpa using h.lw, h.nd, h.hd, h.ln, h.fr, h.st⟩
  · exact h
theorem GI.gN {n i k : Nat} {s : GS} (h : GI n s) (hi : i < s.ms.length) (hk : k + 1 < n) (hne : gE n i k s ∉ s.ms) : GI n (gN n i k s) := by
  have hD : IsD n (gE n i k s) := mul_gen_D (h.at hi) hk
  have e := h.ln i hi
  refine ⟨by simp [Go.Proofs.Ytgpgcdofhkpeaaa.VE.gN, h.lf], by simp [Go.Proofs.Ytgpgcdofhkpeaaa.VE.gN, h.ls], by simp [Go.Proofs.Ytgpgcdofhkpeaaa.VE.gN, h.ll], by simp [Go.Proofs.Ytgpgcdofhkpeaaa.VE.gN, h.lw], ?_, fun m hm => ?_, fun j hj => ?_, fun j hj => ?_, fun j hj => ?_⟩
  · show (s.ms ++ [gE n i k s]).Nodup
    rw [List.nodup_append]
    refine ⟨h.nd, by simp, fun a ha b hb e => ?_⟩
    simp at hb; subst hb; subst e; exact hne ha
  · rcases List.mem_append.1 hm with h1 | h1
    · exact h.hd m h1
    · simp at h1; subst h1; exact hD
  · have hj' : j < s.ms.length + 1 := by simpa [Go.Proofs.Ytgpgcdofhkpeaaa.VE.gN] using hj
    show (s.ln ++ [_]).getD j 0 ≤ j
    rw [getD_app, h.ll]
    split
    · exact h.ln j (by assumption)
    · split <;> omega
  · have hj' : j < s.ms.length + 1 := by simpa [Go.Proofs.Ytgpgcdofhkpeaaa.VE.gN] using hj
    show (s.fr ++ [_]).getD j 0 ≤ j
    rw [getD_app, h.lf]
    split
    · exact h.fr j (by assumption)
    · split <;> omega
  · show (s.st ++ [_]).getD j 0 ≤ n
    rw [getD_app, h.ls]
    split
    · exact h.st j (by assumption)
    · split <;> omega
theorem GI.gK {n i k : Nat} {s : GS} (h : GI n s) (hi : i < s.ms.length) (hk : k + 1 < n) : GI n (gK n i k s) := by
  unfold Go.Proofs.Ytgpgcdofhkpeaaa.VE.gK
  split
  · split
    · exact h.gP
    · rename_i hne; exact (h.gN hi hk hne).gP
  · exact h
theorem gK_len {n i k : Nat} {s : GS} : s.ms.length ≤ (gK n i k s).ms.length := by
  unfold gK; split
  · split
    · rw [gP_ms.1]; exact Nat.le_refl _
    · rw [gP_ms.1]; simp [gN]
  · exact Nat.le_refl _
theorem gI_len {n i : Nat} : ∀ {k : Nat} {s : GS}, s.ms.length ≤ (gI n i k s).ms.length
  | 0, _ => Nat.le_refl _
  | k + 1, _ => Nat.le_trans (gI_len (k := k)) gK_len
theorem GI.gI {n i : Nat} : ∀ {k : Nat} {s : GS}, GI n s → i < s.ms.length → k + 1 ≤ n → GI n (gI n i k s)
  | 0, _, h, _, _ => h
  | k + 1, s, h, hi, hk => (GI.gI h hi (by omega)).gK (Nat.lt_of_lt_of_le hi gI_len) (by omega)
theorem gO_I {n : Nat} (hn1 : 1 ≤ n) (hn : n ≤ 8) : ∀ {i : Nat}, (∀ j, j < i → j < (gO n j).ms.length) → GI n (gO n i)
  | 0, _ => ⟨rfl, rfl, rfl, rfl, by simp [gO], fun m hm => by simp [gO] at hm; subst hm; exact un_D hn1 hn, fun j hj => by simp [gO] at hj; subst hj; simp [gO], fun j hj => by simp [gO] at hj; subst hj; simp [gO], fun j hj => by simp [gO] at hj; subst hj; simp [gO]⟩
  | i + 1, h => (gO_I hn1 hn fun j hj => h j (by omega)).gI (h i (by omega)) (by omega)
/-- The number of the last one, or -1. -/
def eP (n : Nat) (ls : Int) (lm : List Nat) (ms : List (List Nat)) : Int := if ls = n ∧ lm ∈ ms then ((ix lm ms : Nat) : Int) else -1
def stopG (n : Nat) (ls : Int) (lm : List Nat) (i : Nat) (s : GS) : Prop := ls = n ∧ lm ∈ s.ms ∧ s.ln.getD (ix lm s.ms) 0 ≤ s.ln.getD i 0
/-- Where it ends. -/
structure EndG (n : Nat) (ls : Int) (lm : List Nat) (I : Nat) : Prop where
  lt : ∀ j, j < I → j < (gO n j).ms.length
  go : ∀ j, j < I → ¬ stopG n ls lm j (gO n j)
  fin : (gO n I).ms.length ≤ I ∨ stopG n ls lm I (gO n I)
theorem EndG.ex {n : Nat} (hn1 : 1 ≤ n) (hn : n ≤ 8) (ls : Int) (lm : List Nat) : ∃ I, EndG n ls lm I := by
  refine Classical.byContradiction fun hno => ?_
  have key : ∀ i, (∀ j, j < i → j < (gO n j).ms.length) ∧ (∀ j, j < i → ¬ stopG n ls lm j (gO n j)) := by
    intro i
    induction i with
    | zero => exact ⟨fun j hj => by omega, fun j hj => by omega⟩
    | succ i ih =>
      have h : ¬ ((gO n i).ms.length ≤ i ∨ stopG n ls lm i (gO n i)) := fun h => hno ⟨i, ih.1, ih.2, h⟩
      have h1 : i < (gO n i).ms.length := Nat.lt_of_not_le fun h2 => h (.inl h2)
      have h2 : ¬ stopG n ls lm i (gO n i) := fun h2 => h (.inr h2)
      refine ⟨fun j hj => ?_, fun j hj => ?_⟩
      · by_cases e : j = i
        · subst e; exact h1
        · exact ih.1 j (by omega)
      · by_cases e : j = i
        · subst e; exact h2
        · exact ih.2 j (by omega)
  have h1 := (key (wy (2 * n) 0 + 1)).1 (wy (2 * n) 0) (by omega)
  have h2 := (gO_I hn1 hn (key (wy (2 * n) 0)).1).few
  omega
end Go.Proofs.Ytgpgcdofhkpeaaa.VE
