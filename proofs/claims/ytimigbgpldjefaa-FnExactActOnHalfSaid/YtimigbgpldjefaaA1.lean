/- Contracts of functions of the given program, for all arguments that the contract names; see each theorem. -/
import Derived.Test.YtimigbgpldjefaaU9
import Derived.Test.YtimigbgpldjefaaU2
import Derived.Test.YtimigbgpldjefaaU10b
set_option linter.all false
namespace Go.Proofs.Ytimigbgpldjefaa.VE
open Go
set_option maxHeartbeats 800000
set_option maxRecDepth 100000

/-! texts of half diagrams: a stack's matching, open points told of themselves -/
def ph (t : Nat → Nat) : Nat → Nat → List Nat → (Nat → Nat) → Bool × List Nat × (Nat → Nat)
  | 0, _, st, o => (true, st, o)
  | d + 1, k, st, o =>
    if t k = 40 then ph t d (k + 1) (k :: st) o
    else if t k = 41 then (match st with | [] => (false, st, o) | i :: r => ph t d (k + 1) r (up2 o i k))
    else if t k = 124 then (match st with | [] => ph t d (k + 1) [] (fun j => if j = k then k else o j) | _ :: _ => (false, st, o))
    else (false, st, o)
structure HI (t : Nat → Nat) (k : Nat) (st : List Nat) (o : Nat → Nat) : Prop where
  lt : ∀ i ∈ st, i < k ∧ t i = 40
  nd : st.Nodup
  mt : ∀ j, j < k → j ∉ st → o j < k ∧ o j ∉ st ∧ o (o j) = j ∧ (o j = j ↔ t j = 124)
theorem ph_ok {t : Nat → Nat} : ∀ (d k : Nat) (st : List Nat) (o : Nat → Nat), HI t k st o → ∀ {st' o'}, ph t d k st o = (true, st', o') → HI t (k + d) st' o'
  | 0, k, st, o, h, st', o', he => by
    simp only [ph, Prod.mk.injEq, true_and] at he
    obtain ⟨rfl, rfl⟩ := he
    exact h
  | d + 1, k, st, o, h, st', o', he => by
    unfold ph at he
    rw [show k + (d + 1) = k + 1 + d from by omega]
    split at he
    · rename_i h40
      refine ph_ok d (k + 1) (k :: st) o ⟨fun i hi => ?_, ?_, fun j hj hn => ?_⟩ he
      · rcases List.mem_cons.1 hi with rfl | hi
        · exact ⟨by omega, h40⟩
        · have := h.lt i hi; exact ⟨by omega, this.2⟩
      · exact List.nodup_cons.2 ⟨fun hk => by have := (h.lt k hk).1; omega, h.nd⟩
      · have hjk : j ≠ k := fun e => hn (by simp [e])
        obtain ⟨a, b, c, e⟩ := h.mt j (by omega) (fun e => hn (by simp [e]))
        exact ⟨by omega, by simp only [List.mem_cons, not_or]; exact ⟨by omega, b⟩, c, e⟩
    · split at he
      · rename_i h40 h41
        cases st with
        | nil => cases he
        | cons i r =>
          simp only [] at he
          have hi := h.lt i (by simp)
          have hnd := List.nodup_cons.1 h.nd
          refine ph_ok d (k + 1) r (up2 o i k) ⟨fun x hx => ?_, hnd.2, fun j hj hn => ?_⟩ he
          · have := h.lt x (by simp [hx]); exact ⟨by omega, this.2⟩
          · by_cases hjk : j = k
            · subst hjk
              have e1 : up2 o i j j = i := by simp [up2]
              have e2 : up2 o i j i = j := by unfold up2; rw [if_neg (by omega), if_pos rfl]
              rw [e1]
              exact ⟨by omega, hnd.1, e2, ⟨fun e => by omega, fun e => by omega⟩⟩
            · by_cases hji : j = i
              · subst hji
                have e1 : up2 o j k j = k := by unfold up2; rw [if_neg (by omega), if_pos rfl]
                have e2 : up2 o j k k = j := by simp [up2]
                rw [e1]
                refine ⟨by omega, fun hk => by have := (h.lt k (by simp [hk])).1; omega, e2, ⟨fun e => by omega, fun e => ?_⟩⟩
                rw [hi.2] at e; cases e
              · have e0 : ∀ x, x ≠ k → x ≠ i → up2 o i k x = o x := fun x h1 h2 => by unfold up2; rw [if_neg h1, if_neg h2]
                have hjs : j ∉ i :: r := by simp only [List.mem_cons, not_or]; exact ⟨hji, hn⟩
                obtain ⟨a, b, c, e⟩ := h.mt j (by omega) hjs
                simp only [List.mem_cons, not_or] at b
                rw [e0 j hjk hji, e0 (o j) (by omega) b.1]
                exact ⟨by omega, b.2, c, e⟩
      · split at he
        · rename_i h40 h41 h124
          cases st with
          | cons i r => cases he
          | nil =>
            simp only [] at he
            refine ph_ok d (k + 1) [] _ ⟨by simp, by simp, fun j hj _ => ?_⟩ he
            by_cases hjk : j = k
            · subst hjk
              simp only [if_pos]
              exact ⟨by omega, by simp, trivial, by simp [h124]⟩
            · obtain ⟨a, b, c, e⟩ := h.mt j (by omega) (by simp)
              rw [if_neg hjk, if_neg (by omega)]
              exact ⟨by omega, b, c, e⟩
        · cases he
/-- The values of the program: -1 for open points. -/
def aI (t : Nat → Nat) (k : Nat) (o : Nat → Nat) (j : Nat) : Int := if j < k ∧ t j = 124 then -1 else ((o j : Nat) : Int)
def phR (bs : ByteArray) : Bool × List Nat × (Nat → Nat) := ph (tb bs) bs.size 0 [] (fun _ => 0)
theorem phR_ok {bs : ByteArray} {o : Nat → Nat} (h : phR bs = (true, [], o)) : ∀ j, j < bs.size → o j < bs.size ∧ o (o j) = j ∧ (o j = j ↔ tb bs j = 124) := by
  have := ph_ok bs.size 0 [] (fun _ => 0) ⟨by simp, by simp, fun j hj => by omega⟩ h
  rw [Nat.zero_add] at this
  intro j hj
  obtain ⟨a, _, c, e⟩ := this.mt j hj (by simp)
  exact ⟨a, c, e⟩
theorem tb_eq {bs : ByteArray} {i : Nat} (h : i < bs.size) {c : Nat} (hc : tb bs i = c) : bs[i].toNat = c := by rw [← tb_at h]; exact hc

theorem aI_push {t : Nat → Nat} {k : Nat} {o : Nat → Nat} (h : t k ≠ 124) : aI t k o = aI t (k + 1) o := by
  funext j
  unfold aI
  by_cases h1 : j < k ∧ t j = 124
  · rw [if_pos h1, if_pos ⟨by omega, h1.2⟩]
  · rw [if_neg h1, if_neg]
    rintro ⟨h2, h3⟩
    by_cases hjk : j = k
    · subst hjk; exact h h3
    · exact h1 ⟨by omega, h3⟩
theorem aI_open {t : Nat → Nat} {k N : Nat} {o : Nat → Nat} (h : t k = 124) : (il (aI t k o) N).set k (.int .i64 (-1)) = il (aI t (k + 1) fun j => if j = k then k else o j) N := by
  refine il_set fun j hj => ?_
  unfold aI
  by_cases hjk : j = k
  · subst hjk; rw [if_pos ⟨by omega, h⟩, if_pos rfl]
  · rw [if_neg hjk]
    by_cases h1 : j < k ∧ t j = 124
    · rw [if_pos ⟨by omega, h1.2⟩, if_pos h1]
    · rw [if_neg h1, if_neg (fun e => h1 ⟨by omega, e.2⟩)]
      show ((if j = k then k else o j : Nat) : Int) = _
      rw [if_neg hjk]
theorem aI_close {t : Nat → Nat} {k i N : Nat} {o : Nat → Nat} (hk : t k ≠ 124) (hi : t i ≠ 124) : ((il (aI t k o) N).set i (.int .i64 (k : Int))).set k (.int .i64 (i : Int)) = il (aI t (k + 1) (up2 o i k)) N := by
  rw [il_set (g := fun j => if j = i then (k : Int) else aI t k o j) (fun j _ => rfl)]
  refine il_set fun j _ => ?_
  unfold aI up2
  by_cases hjk : j = k
  · subst hjk; rw [if_neg (fun e => hk e.2), if_pos rfl, if_pos rfl]
  · rw [if_neg hjk, if_neg hjk]
    by_cases hji : j = i
    · subst hji; rw [if_neg (fun e => hi e.2), if_pos rfl, if_pos rfl]
    · rw [if_neg hji, if_neg hji]
      by_cases h1 : j < k ∧ t j = 124
      · rw [if_pos ⟨by omega, h1.2⟩, if_pos h1]
      · rw [if_neg h1, if_neg]
        rintro ⟨h2, h3⟩
        exact h1 ⟨by omega, h3⟩
end Go.Proofs.Ytimigbgpldjefaa.VE
