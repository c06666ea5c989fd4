/- Contracts of functions of the given program, for all arguments that the contract names; see each theorem. -/
import Derived.Test.YtgpgcdofhkpeaaaI3
import Derived.Test.YtgpgcdofhkpeaaaU16e
set_option linter.all false
namespace Go.Proofs.Ytgpgcdofhkpeaaa.VE
open Go
set_option maxHeartbeats 1600000
set_option maxRecDepth 100000

/-! plain: unions side by side, and squares of generators -/
section
variable {n k : Nat} {a b : List Nat} (hnk : n + k ≤ 8)
include hnk
theorem uW_L {i : Nat} (hi : i < 2 * n) : (uW n k a b).getD (uL n k i) 0 = uL n k (a.getD i 0) := by
  unfold uW
  rw [wrF_out (wrF_len r16) (fun j hj => by have := uR_lt (n := n) hj; omega) _ (fun j hj e => by unfold uL uR at e; split at e <;> split at e <;> omega)]
  exact wrF_at (v := fun i => uL n k (a.getD i 0)) r16 (fun j hj => by have := uL_lt (k := k) hj; omega) (fun i j _ _ h => uL_inj h) i hi
theorem uW_R {i : Nat} (hi : i < 2 * k) : (uW n k a b).getD (uR n k i) 0 = uR n k (b.getD i 0) := by
  unfold uW
  exact wrF_at (v := fun i => uR n k (b.getD i 0)) (wrF_len r16) (fun j hj => by have := uR_lt (n := n) hj; omega) (fun i j _ _ h => uR_inj h) i hi
theorem uW_0 {x : Nat} (hx : 2 * (n + k) ≤ x) : (uW n k a b).getD x 0 = 0 := by
  unfold uW
  rw [wrF_out (wrF_len r16) (fun j hj => by have := uR_lt (n := n) hj; omega) _ (fun j hj => by have := uR_lt (n := n) hj; omega),
    wrF_out r16 (fun j hj => by have := uL_lt (k := k) hj; omega) _ (fun j hj => by have := uL_lt (k := k) hj; omega)]
  rw [List.getD_eq_getElem?_getD, List.getElem?_replicate]; split <;> rfl
end
theorem uLR {n k x : Nat} (hx : x < 2 * (n + k)) : (∃ i, i < 2 * n ∧ x = uL n k i) ∨ ∃ i, i < 2 * k ∧ x = uR n k i := by
  by_cases h1 : x < n
  · exact .inl ⟨x, by omega, by unfold uL; rw [if_pos h1]⟩
  · by_cases h2 : x < n + k
    · exact .inr ⟨x - n, by omega, by unfold uR; rw [if_pos (by omega)]; omega⟩
    · by_cases h3 : x < 2 * n + k
      · exact .inl ⟨x - k, by omega, by unfold uL; rw [if_neg (by omega)]; omega⟩
      · exact .inr ⟨x - 2 * n, by omega, by unfold uR; rw [if_neg (by omega)]; omega⟩
theorem uL_ne {n k i j : Nat} (hi : i < 2 * n) (hj : j < 2 * k) : uL n k i ≠ uR n k j := fun e => by
  unfold uL uR at e; split at e <;> split at e <;> omega
def pa (n k p : Nat) : Nat := if p < n then p else p + 2 * k
theorem plc_L {n k i : Nat} (hi : i < 2 * n) : plc (n + k) (uL n k i) = pa n k (plc n i) := by
  unfold plc uL pa; (repeat' split) <;> omega
theorem plc_R {n k i : Nat} (hi : i < 2 * k) : plc (n + k) (uR n k i) = n + plc k i := by
  unfold plc uR; (repeat' split) <;> omega
section
variable {n k : Nat} {a b : List Nat}
theorem uW_V (ha : IsV n a) (hb : IsV k b) (hnk : n + k ≤ 8) : IsV (n + k) (uW n k a b) := by
  refine ⟨by have := ha.n1; omega, hnk, wrF_len (wrF_len r16), fun j hj => ?_, fun j hj => ?_, fun j hj => ?_, fun j hj => uW_0 hnk hj⟩
  · rcases uLR hj with ⟨i, hi, rfl⟩ | ⟨i, hi, rfl⟩
    · rw [uW_L hnk hi]; exact uL_lt (ha.lt i hi)
    · rw [uW_R hnk hi]; exact uR_lt (hb.lt i hi)
  · rcases uLR hj with ⟨i, hi, rfl⟩ | ⟨i, hi, rfl⟩
    · rw [uW_L hnk hi]; exact fun e => ha.ne i hi (uL_inj e)
    · rw [uW_R hnk hi]; exact fun e => hb.ne i hi (uR_inj e)
  · rcases uLR hj with ⟨i, hi, rfl⟩ | ⟨i, hi, rfl⟩
    · rw [uW_L hnk hi, uW_L hnk (ha.lt i hi), ha.inv i hi]
    · rw [uW_R hnk hi, uW_R hnk (hb.lt i hi), hb.inv i hi]
theorem uW_D (ha : IsD n a) (hb : IsD k b) (hnk : n + k ≤ 8) : IsD (n + k) (uW n k a b) := by
  have hV := uW_V ha.toIsV hb.toIsV hnk
  refine ⟨hV, ?_⟩
  have qL : ∀ p, p < 2 * n → qq (n + k) (uW n k a b) (pa n k p) = pa n k (qq n a p) := fun p hp => by
    have h1 := plc_lt hp
    have h2 := plc_L (k := k) h1
    rw [plc_inv hp] at h2
    have h3 : plc (n + k) (pa n k p) = uL n k (plc n p) := by rw [← h2, plc_inv (uL_lt h1)]
    unfold qq
    rw [h3, uW_L hnk h1, plc_L (ha.lt _ h1)]
  have qR : ∀ p, p < 2 * k → qq (n + k) (uW n k a b) (n + p) = n + qq k b p := fun p hp => by
    have h1 := plc_lt hp
    have h2 := plc_R (n := n) h1
    rw [plc_inv hp] at h2
    have h3 : plc (n + k) (n + p) = uR n k (plc k p) := by rw [← h2, plc_inv (uR_lt h1)]
    unfold qq
    rw [h3, uW_R hnk h1, plc_R (hb.lt _ h1)]
  generalize qq (n + k) (uW n k a b) = r at qL qR
  have pA := ha.pl
  have pB := hb.pl
  generalize qq n a = u at qL pA
  generalize qq k b = v at qR pB
  have cs : ∀ j, j < 2 * (n + k) → (∃ p, p < 2 * n ∧ j = pa n k p) ∨ ∃ p, p < 2 * k ∧ j = n + p := fun j hj => by
    by_cases h1 : j < n
    · exact .inl ⟨j, by omega, by unfold pa; rw [if_pos h1]⟩
    · by_cases h2 : j < n + 2 * k
      · exact .inr ⟨j - n, by omega, by omega⟩
      · exact .inl ⟨j - 2 * k, by omega, by unfold pa; rw [if_neg (by omega)]; omega⟩
  have pal : ∀ p, p < 2 * n → pa n k p < 2 * (n + k) := fun p hp => by unfold pa; split <;> omega
  have pai : ∀ p q, pa n k p = pa n k q → p = q := fun p q h => by unfold pa at h; split at h <;> split at h <;> omega
  have pam : ∀ p q, pa n k p < pa n k q ↔ p < q := fun p q => by unfold pa; constructor <;> intro h <;> (repeat' split at h) <;> (repeat' split) <;> omega
  constructor
  · intro j hj
    rcases cs j hj with ⟨p, hp, rfl⟩ | ⟨p, hp, rfl⟩
    · obtain ⟨h1, h2, h3⟩ := pA.1 p hp
      rw [qL p hp]
      exact ⟨pal _ h1, fun e => h2 (pai _ _ e), by rw [qL _ h1, h3]⟩
    · obtain ⟨h1, h2, h3⟩ := pB.1 p hp
      rw [qR p hp]
      exact ⟨by omega, by omega, by rw [qR _ h1, h3]⟩
  · intro j c hj h1 h2 h3
    have hc : c < 2 * (n + k) := by
      rcases cs j hj with ⟨p, hp, rfl⟩ | ⟨p, hp, rfl⟩
      · rw [qL p hp] at h3; have := pal _ (pA.1 p hp).1; omega
      · rw [qR p hp] at h3; have := (pB.1 p hp).1; omega
    rcases cs j hj with ⟨p, hp, rfl⟩ | ⟨p, hp, rfl⟩
    · have hu := (pA.1 p hp).1
      rw [qL p hp] at h1 h3 ⊢
      rcases cs c hc with ⟨q, hq, rfl⟩ | ⟨q, hq, rfl⟩
      · rw [qL q hq]
        have := pA.2 p q hp ((pam _ _).1 h1) ((pam _ _).1 h2) ((pam _ _).1 h3)
        exact ⟨(pam _ _).2 this.1, (pam _ _).2 this.2⟩
      · rw [qR q hq]
        have := (pB.1 q hq).1
        unfold pa at h2 h3 ⊢
        (repeat' split at h2) <;> (repeat' split at h3) <;> (repeat' split) <;> omega
    · have hv := (pB.1 p hp).1
      rw [qR p hp] at h1 h3 ⊢
      rcases cs c hc with ⟨q, hq, rfl⟩ | ⟨q, hq, rfl⟩
      · exfalso
        unfold pa at h2 h3
        (repeat' split at h2) <;> (repeat' split at h3) <;> omega
      · rw [qR q hq]
        have := pB.2 p q hp (by omega) (by omega) (by omega)
        omega
theorem gF_L {i : Nat} (hi : i < 2 * n) : gF (n + k) (uL n k i) = uL n k (gF n i) := by
  rw [gF_eq (uL_lt hi), gF_eq hi]; unfold uL; (repeat' split) <;> omega
theorem gF_R {i : Nat} (hi : i < 2 * k) : gF (n + k) (uR n k i) = uR n k (gF k i) := by
  rw [gF_eq (uR_lt hi), gF_eq hi]; unfold uR; (repeat' split) <;> omega
section
variable (ha : IsV n a) (hb : IsV k b) (hnk : n + k ≤ 8)
include ha hb hnk
theorem uC_L {x y : Nat} (hx : x < 2 * n) (h : Cn (EC n a) x y) : Cn (EC (n + k) (uW n k a b)) (uL n k x) (uL n k y) := by
  induction h with
  | refl => exact .refl _
  | step h1 e ih =>
    have hy := EC.lt ha h1 hx
    refine .step ih ⟨uL_lt hy, ?_⟩
    rcases e with ⟨_, rfl | rfl⟩
    · exact .inl (uW_L hnk hy).symm
    · exact .inr (gF_L hy).symm
theorem uC_R {x y : Nat} (hx : x < 2 * k) (h : Cn (EC k b) x y) : Cn (EC (n + k) (uW n k a b)) (uR n k x) (uR n k y) := by
  induction h with
  | refl => exact .refl _
  | step h1 e ih =>
    have hy := EC.lt hb h1 hx
    refine .step ih ⟨uR_lt hy, ?_⟩
    rcases e with ⟨_, rfl | rfl⟩
    · exact .inl (uW_R hnk hy).symm
    · exact .inr (gF_R hy).symm
theorem uC_L' {x z : Nat} (hx : x < 2 * n) (h : Cn (EC (n + k) (uW n k a b)) (uL n k x) z) : ∃ y, y < 2 * n ∧ z = uL n k y ∧ Cn (EC n a) x y :=
  h.closed (S := fun z => ∃ y, y < 2 * n ∧ z = uL n k y ∧ Cn (EC n a) x y) (fun z w ⟨y, hy, hz, hc⟩ e => by
    subst hz
    rcases e with ⟨_, rfl | rfl⟩
    · exact ⟨_, ha.lt y hy, uW_L hnk hy, .step hc ⟨hy, .inl rfl⟩⟩
    · exact ⟨_, gF_bij.lt y hy, gF_L hy, .step hc ⟨hy, .inr rfl⟩⟩) ⟨x, hx, rfl, .refl _⟩
theorem uC_R' {x z : Nat} (hx : x < 2 * k) (h : Cn (EC (n + k) (uW n k a b)) (uR n k x) z) : ∃ y, y < 2 * k ∧ z = uR n k y ∧ Cn (EC k b) x y :=
  h.closed (S := fun z => ∃ y, y < 2 * k ∧ z = uR n k y ∧ Cn (EC k b) x y) (fun z w ⟨y, hy, hz, hc⟩ e => by
    subst hz
    rcases e with ⟨_, rfl | rfl⟩
    · exact ⟨_, hb.lt y hy, uW_R hnk hy, .step hc ⟨hy, .inl rfl⟩⟩
    · exact ⟨_, gF_bij.lt y hy, gF_R hy, .step hc ⟨hy, .inr rfl⟩⟩) ⟨x, hx, rfl, .refl _⟩
/-- The closure of a union has the loops of both. -/
theorem uW_clN : clN (n + k) (uW n k a b) = clN n a + clN k b := by
  have hV := uW_V ha hb hnk
  rw [clN_cls hV, clN_cls ha, clN_cls hb]
  have hp : ((List.range (2 * n)).map (uL n k) ++ (List.range (2 * k)).map (uR n k)).Perm (List.range (2 * (n + k))) := by
    refine (List.perm_ext_iff_of_nodup ?_ List.nodup_range).2 fun x => ?_
    · rw [List.nodup_append]
      refine ⟨?_, ?_, fun x hx y hy e => ?_⟩
      · rw [List.Nodup, List.pairwise_map]
        exact List.Pairwise.imp (fun h e => h (uL_inj e)) List.nodup_range
      · rw [List.Nodup, List.pairwise_map]
        exact List.Pairwise.imp (fun h e => h (uR_inj e)) List.nodup_range
      · obtain ⟨i, hi, rfl⟩ := List.mem_map.1 hx
        obtain ⟨j, hj, rfl⟩ := List.mem_map.1 hy
        exact uL_ne (List.mem_range.1 hi) (List.mem_range.1 hj) e
    · rw [List.mem_append, List.mem_map, List.mem_map, List.mem_range]
      constructor
      · rintro (⟨i, hi, rfl⟩ | ⟨i, hi, rfl⟩)
        · exact uL_lt (List.mem_range.1 hi)
        · exact uR_lt (List.mem_range.1 hi)
      · intro hx
        rcases uLR hx with ⟨i, hi, rfl⟩ | ⟨i, hi, rfl⟩
        · exact .inl ⟨i, List.mem_range.2 hi, rfl⟩
        · exact .inr ⟨i, List.mem_range.2 hi, rfl⟩
  rw [← cls_perm (fun x y h => h.symm (EC.symm hV)) (fun x y z h1 h2 => h1.trans h2) hp [], cls_append]
  have e1 : cls (Cn (EC (n + k) (uW n k a b))) [] ((List.range (2 * n)).map (uL n k)) = cls (Cn (EC n a)) [] (List.range (2 * n)) := by
    rw [show ([] : List Nat) = ([] : List Nat).map (uL n k) from rfl, cls_map]
    refine cls_congr fun x hx y hy => ?_
    have hy2 : y < 2 * n := by
      rcases hy with h | h
      · simp at h
      · exact List.mem_range.1 h
    constructor
    · intro h
      obtain ⟨z, hz, he, hc⟩ := uC_L' ha hb hnk hy2 h
      rw [uL_inj he]; exact hc
    · exact fun h => uC_L ha hb hnk hy2 h
  have e2 : cls (Cn (EC (n + k) (uW n k a b))) [] ((List.range (2 * k)).map (uR n k)) = cls (Cn (EC k b)) [] (List.range (2 * k)) := by
    rw [show ([] : List Nat) = ([] : List Nat).map (uR n k) from rfl, cls_map]
    refine cls_congr fun x hx y hy => ?_
    have hy2 : y < 2 * k := by
      rcases hy with h | h
      · simp at h
      · exact List.mem_range.1 h
    constructor
    · intro h
      obtain ⟨z, hz, he, hc⟩ := uC_R' ha hb hnk hy2 h
      rw [uR_inj he]; exact hc
    · exact fun h => uC_R ha hb hnk hy2 h
  have hmL : ∀ y, y ∈ ((List.range (2 * n)).map (uL n k)).reverse ++ [] → ∃ i, i < 2 * n ∧ y = uL n k i := fun y hy => by
    rw [List.append_nil, List.mem_reverse] at hy
    obtain ⟨i, hi, rfl⟩ := List.mem_map.1 hy
    exact ⟨i, List.mem_range.1 hi, rfl⟩
  have hmR : ∀ y, y ∈ (List.range (2 * k)).map (uR n k) → ∃ i, i < 2 * k ∧ y = uR n k i := fun y hy => by
    obtain ⟨i, hi, rfl⟩ := List.mem_map.1 hy
    exact ⟨i, List.mem_range.1 hi, rfl⟩
  have e3 : cls (Cn (EC (n + k) (uW n k a b))) (((List.range (2 * n)).map (uL n k)).reverse ++ []) ((List.range (2 * k)).map (uR n k)) =
      cls (fun y x => Cn (EC (n + k) (uW n k a b)) y x ∧ ∃ i, i < 2 * k ∧ y = uR n k i) (((List.range (2 * n)).map (uL n k)).reverse ++ []) ((List.range (2 * k)).map (uR n k)) :=
    cls_congr fun x hx y hy => by
      obtain ⟨j, hj, rfl⟩ := hmR x hx
      refine ⟨fun h => ⟨h, ?_⟩, fun h => h.1⟩
      rcases hy with hy | hy
      · obtain ⟨i, hi, rfl⟩ := hmL y hy
        obtain ⟨z, hz, he, _⟩ := uC_L' ha hb hnk hi h
        exact absurd he.symm (uL_ne hz hj)
      · exact hmR y hy
  have e4 : cls (fun y x => Cn (EC (n + k) (uW n k a b)) y x ∧ ∃ i, i < 2 * k ∧ y = uR n k i) (((List.range (2 * n)).map (uL n k)).reverse ++ []) ((List.range (2 * k)).map (uR n k)) =
      cls (fun y x => Cn (EC (n + k) (uW n k a b)) y x ∧ ∃ i, i < 2 * k ∧ y = uR n k i) [] ((List.range (2 * k)).map (uR n k)) :=
    cls_seen fun x => ⟨fun ⟨y, hy, _, i, hi, he⟩ => by
      obtain ⟨j, hj, hj2⟩ := hmL y hy
      exact absurd (hj2.symm.trans he) (uL_ne hj hi), fun ⟨y, hy, _⟩ => by simp at hy⟩
  have e5 : cls (fun y x => Cn (EC (n + k) (uW n k a b)) y x ∧ ∃ i, i < 2 * k ∧ y = uR n k i) [] ((List.range (2 * k)).map (uR n k)) =
      cls (Cn (EC (n + k) (uW n k a b))) [] ((List.range (2 * k)).map (uR n k)) :=
    cls_congr fun x hx y hy => ⟨fun h => h.1, fun h => ⟨h, by
      rcases hy with hy | hy
      · simp at hy
      · exact hmR y hy⟩⟩
  rw [e1, e3, e4, e5, e2]
end
end
/-! squares of generators -/
theorem gen_sq {n k : Nat} (hn : n ≤ 8) (hk : k + 1 < n) : (oL n (gen n k) (gen n k) n).1 = gen n k := by
  have hg := gen_V hn hk
  rw [mul_gen hg hk]
  refine mg_same hg (by omega) (by omega) (by omega) ?_
  rw [gen_get hn hk, if_neg (by omega), if_neg (by omega), if_pos rfl]
theorem gen_sq_lp {n k : Nat} (hn : n ≤ 8) (hk : k + 1 < n) : lpN n (gen n k) (gen n k) = 1 := by
  have hg := gen_V hn hk
  have sy := E2.symm hg hg
  have hpos : lpN n (gen n k) (gen n k) ≠ 0 := fun h => (lp_gen hg hk).1 h (by rw [gen_get hn hk, if_neg (by omega), if_neg (by omega), if_pos rfl])
  have hle : lpN n (gen n k) (gen n k) ≤ 1 := by
    rw [lpN_cls hg hg]
    have hp : (midL n).Perm ((n + k) :: (midL n).erase (n + k)) := List.perm_cons_erase (mem_midL.2 ⟨by omega, by omega⟩)
    rw [cls_perm (fun x y h => h.symm sy) (fun x y z h1 h2 => h1.trans h2) hp]
    unfold cls
    rw [cls_zero fun x hx => ?_]
    · unfold nwP; split <;> omega
    · have hx2 := mem_midL.1 (List.mem_of_mem_erase hx)
      obtain ⟨j, rfl⟩ : ∃ j, x = n + j := ⟨x - n, by omega⟩
      by_cases e0 : j = k
      · exact ⟨n + k, by simp, by rw [e0]; exact .refl _⟩
      · by_cases e1 : j = k + 1
        · subst e1
          refine ⟨n + k, by simp, .one (.inl ⟨by omega, ?_⟩)⟩
          rw [gen_get hn hk, if_neg (by omega), if_neg (by omega), if_pos rfl]; omega
        · refine ⟨j, List.mem_cons_of_mem _ (mem_outL.2 (.inl (by omega))), .one (.inl ⟨by omega, ?_⟩)⟩
          rw [gen_get hn hk, if_neg e0, if_neg e1, if_neg (by omega), if_neg (by omega), if_pos (by omega)]
  omega
end Go.Proofs.Ytgpgcdofhkpeaaa.VE
