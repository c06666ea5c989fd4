/- Contracts of functions of the given program, for all arguments that the contract names; see each theorem. -/
import Derived.Test.YtimigbgpldjefaaA2
set_option linter.all false
namespace Go.Proofs.Ytimigbgpldjefaa.VE
open Go
set_option maxHeartbeats 800000
set_option maxRecDepth 100000

abbrev agV (l : List Value) : V := .raw (.agg l.toArray)
theorem open_set {o : Nat → Nat} {k N : Nat} : (il (oI o) N).set k (.int .i64 (k : Int)) = il (oI fun j => if j = k then k else o j) N := by
  refine il_set fun j hj => ?_
  show ((if j = k then k else o j : Nat) : Int) = _
  by_cases h : j = k
  · rw [if_pos h, if_pos h]
  · rw [if_neg h, if_neg h]; rfl
def arcS (bs : ByteArray) : List Value × Bool := if 1 ≤ bs.size ∧ bs.size ≤ 8 then (il (oI (phR bs).2.2) 8, (phR bs).1 && decide ((phR bs).2.1.length = 0)) else (il (oI fun _ => 0) 8, false)
theorem s_larcs (bs : ByteArray) : Spec Try.prog n_s_l04Arcs [.raw (.string bs)] [] (.tup [agV (arcS bs).1, vb (arcS bs).2]) [] := by
  refine SpecW.of_EV hf_s_l04Arcs hc_s_l04Arcs rfl rfl rfl fun w0 B ρ0 _ => ?_
  by_cases h18 : 1 ≤ bs.size ∧ bs.size ≤ 8
  rotate_left
  · have hr : arcS bs = (il (oI fun _ => 0) 8, false) := if_neg h18
    (repeat' (first | refine Exists.intro (il (oI fun _ => 0) 8) (And.intro ⟨leR rfl, rfl⟩ ?_) | refine Exists.intro (il (oI fun _ => 0) 8) (And.intro ⟨rfl, rfl⟩ ?_) | refine And.intro (neI rfl) ?_ | refine And.intro ⟨rfl, leR rfl, onesR rfl⟩ ?_ | refine And.intro ⟨rfl, leR rfl⟩ ?_ | refine draw_rule2 hfol (fun KK hKK => ?_) | refine hKK _ _ _ (by kernel_rfl) ?_ | refine region_rule (fun KK hKK => ?_) | refine hKK _ _ ?_ | refine And.intro (Eq.refl true) ?_ | refine Exists.intro _ (And.intro (wI (by omega)) ?_) | refine Exists.intro _ (And.intro (wU (by omega)) ?_) | refine Exists.intro _ (And.intro ⟨rfl, by omega⟩ ?_) | refine Exists.intro _ (And.intro rfl ?_) | refine And.intro rfl ?_ | refine And.intro ⟨rfl, rfl⟩ ?_ | ((refine And.intro (fun _ => ?_) (fun _ => ?_)) <;> try (exfalso; omega))))
    all_goals exact Exists.intro [] (And.intro (by rw [hr]; rfl) (And.intro trivial rfl))
  obtain ⟨ok, st0, o0, hp⟩ : ∃ ok st o, phR bs = (ok, st, o) := ⟨_, _, _, rfl⟩
  have hr : arcS bs = (il (oI o0) 8, ok && decide (st0.length = 0)) := by unfold arcS; rw [if_pos h18, hp]
  rw [hr]
  (repeat' (first | refine Exists.intro (il (oI fun _ => 0) 8) (And.intro ⟨leR rfl, rfl⟩ ?_) | refine Exists.intro (il (oI fun _ => 0) 8) (And.intro ⟨rfl, rfl⟩ ?_) | refine And.intro (neI rfl) ?_ | refine And.intro ⟨rfl, leR rfl, onesR rfl⟩ ?_ | refine And.intro ⟨rfl, leR rfl⟩ ?_ | refine draw_rule2 hfol (fun KK hKK => ?_) | refine hKK _ _ _ (by kernel_rfl) ?_ | refine region_rule (fun KK hKK => ?_) | refine hKK _ _ ?_ | refine And.intro (Eq.refl true) ?_ | refine Exists.intro _ (And.intro (wI (by omega)) ?_) | refine Exists.intro _ (And.intro (wU (by omega)) ?_) | refine Exists.intro _ (And.intro ⟨rfl, by omega⟩ ?_) | refine Exists.intro _ (And.intro rfl ?_) | refine And.intro rfl ?_ | refine And.intro ⟨rfl, rfl⟩ ?_ | ((refine And.intro (fun _ => ?_) (fun _ => ?_)) <;> try (exfalso; omega))))
  refine loop_rule (α := Nat × List Nat × (Nat → Nat)) (fun (i, st, o) => i ≤ bs.size ∧ st.length ≤ i ∧ (∀ x ∈ st, x < i) ∧ ph (tb bs) (bs.size - i) i st o = (ok, st0, o0))
    (fun (i, st, o) => [(0, .raw (.string bs)), (2, .ptr 0 0), (4, .ptr 1 0), (5, .sl 2), (6, vi i)])
    (fun (i, st, o) => [.pc (il (oI fun _ => 0) 8) T_a8q_int64, .pc (il (oI o) 8) T_a8q_int64, .pr T_int64 1 st.length (rowS st)]) (fun (i, _, _) => bs.size - i) (0, [], fun _ => 0) [0, 2, 1]
    ⟨by omega, by simp, by simp, hp⟩ ⟨⟨rfl, rfl, rfl, rfl, rfl, trivial⟩, ⟨rfl, rfl, rfl, trivial⟩, rfl⟩ ?_
  rintro ⟨i, st, o⟩ g ⟨hi, hsl, hlt, hR⟩
  by_cases h9 : i = bs.size
  · subst h9
    rw [Nat.sub_self] at hR
    simp only [ph, Prod.mk.injEq] at hR
    obtain ⟨rfl, rfl, rfl⟩ := hR
    (repeat' (first | refine Exists.intro (il (oI o) 8) (And.intro ⟨rfl, rfl⟩ ?_) | refine Exists.intro (il (oI o) 8) (And.intro ⟨leR rfl, rfl⟩ ?_) | refine And.intro (neI rfl) ?_ | refine And.intro ⟨rfl, leR rfl, onesR rfl⟩ ?_ | refine And.intro ⟨rfl, leR rfl⟩ ?_ | refine draw_rule2 hfol (fun KK hKK => ?_) | refine hKK _ _ _ (by kernel_rfl) ?_ | refine region_rule (fun KK hKK => ?_) | refine hKK _ _ ?_ | refine And.intro (Eq.refl true) ?_ | refine Exists.intro _ (And.intro (wI (by omega)) ?_) | refine Exists.intro _ (And.intro (wU (by omega)) ?_) | refine Exists.intro _ (And.intro ⟨rfl, by omega⟩ ?_) | refine Exists.intro _ (And.intro rfl ?_) | refine And.intro rfl ?_ | refine And.intro ⟨rfl, rfl⟩ ?_ | ((refine And.intro (fun _ => ?_) (fun _ => ?_)) <;> try (exfalso; omega))))
    · exact Exists.intro [] (And.intro (by rw [decide_eq_true (by omega)]; rfl) (And.intro trivial rfl))
    · exact Exists.intro [] (And.intro (by rw [decide_eq_false (by omega)]; rfl) (And.intro trivial rfl))
  have hil : i < bs.size := by omega
  obtain ⟨d, hd⟩ : ∃ d, bs.size - i = d + 1 := ⟨bs.size - i - 1, by omega⟩
  have hd' : bs.size - (i + 1) = d := by omega
  rw [hd] at hR
  unfold ph at hR
  by_cases h40 : tb bs i = 40
  · have hb := tb_eq hil h40
    rw [if_pos h40] at hR
    (repeat' (first | refine Exists.intro i (Exists.intro bs[i] (And.intro ⟨rfl, bs_at hil⟩ ?_)) | refine And.intro ⟨rfl, mkL rfl⟩ ?_ | refine Exists.intro [Value.int .i64 (i : Int)] (And.intro (row1s (mkL' rfl)) ?_) | refine Exists.intro (rowS (i :: st)) (And.intro ⟨rfl, onesR rfl, by omega, by omega, rowS_push⟩ ?_) | refine And.intro (neI rfl) ?_ | refine And.intro ⟨rfl, leR rfl, onesR rfl⟩ ?_ | refine And.intro ⟨rfl, leR rfl⟩ ?_ | refine draw_rule2 hfol (fun KK hKK => ?_) | refine hKK _ _ _ (by kernel_rfl) ?_ | refine region_rule (fun KK hKK => ?_) | refine hKK _ _ ?_ | refine And.intro (Eq.refl true) ?_ | refine Exists.intro _ (And.intro (wI (by omega)) ?_) | refine Exists.intro _ (And.intro (wU (by omega)) ?_) | refine Exists.intro _ (And.intro ⟨rfl, by omega⟩ ?_) | refine Exists.intro _ (And.intro rfl ?_) | refine And.intro rfl ?_ | refine And.intro ⟨rfl, rfl⟩ ?_ | ((refine And.intro (fun _ => ?_) (fun _ => ?_)) <;> try (exfalso; omega))))
    refine Exists.intro (i + 1, i :: st, o) (Exists.intro [0, 1, 4] (And.intro ⟨⟨by omega, by simp; omega, ?_, by rw [hd']; exact hR⟩, (by show bs.size - (i + 1) < bs.size - i; omega)⟩ ⟨⟨rfl, rfl, rfl, rfl, rfl, trivial⟩, ⟨rfl, rfl, rfl, trivial⟩, rfl⟩))
    intro x hx
    rcases List.mem_cons.1 hx with rfl | hx
    · omega
    · have := hlt x hx; omega
  rw [if_neg h40] at hR
  have hb40 : bs[i].toNat ≠ 40 := by rw [← tb_at hil]; exact h40
  by_cases h41 : tb bs i = 41
  · have hb := tb_eq hil h41
    rw [if_pos h41] at hR
    cases st with
    | nil =>
      simp only [Prod.mk.injEq] at hR
      obtain ⟨rfl, rfl, rfl⟩ := hR
      have hlen : ([] : List Nat).length = 0 := rfl
      (repeat' (first | refine Exists.intro i (Exists.intro bs[i] (And.intro ⟨rfl, bs_at hil⟩ ?_)) | refine Exists.intro (il (oI o) 8) (And.intro ⟨rfl, rfl⟩ ?_) | refine Exists.intro (il (oI o) 8) (And.intro ⟨leR rfl, rfl⟩ ?_) | refine And.intro (neI rfl) ?_ | refine And.intro ⟨rfl, leR rfl, onesR rfl⟩ ?_ | refine And.intro ⟨rfl, leR rfl⟩ ?_ | refine draw_rule2 hfol (fun KK hKK => ?_) | refine hKK _ _ _ (by kernel_rfl) ?_ | refine region_rule (fun KK hKK => ?_) | refine hKK _ _ ?_ | refine And.intro (Eq.refl true) ?_ | refine Exists.intro _ (And.intro (wI (by omega)) ?_) | refine Exists.intro _ (And.intro (wU (by omega)) ?_) | refine Exists.intro _ (And.intro ⟨rfl, by omega⟩ ?_) | refine Exists.intro _ (And.intro rfl ?_) | refine And.intro rfl ?_ | refine And.intro ⟨rfl, rfl⟩ ?_ | ((refine And.intro (fun _ => ?_) (fun _ => ?_)) <;> try (exfalso; omega))))
      exact Exists.intro [] (And.intro (rfl) (And.intro trivial rfl))
    | cons x r =>
      simp only [] at hR
      have hx := hlt x (by simp)
      simp only [List.length_cons] at hsl
      have hlen : (x :: r).length = r.length + 1 := rfl
      have hw : IntKind.i64.wrap (((r.length + 1 : Nat) : Int) - 1) = ((r.length : Nat) : Int) := wC (by omega) (by omega)
      (repeat' (first | refine Exists.intro i (Exists.intro bs[i] (And.intro ⟨rfl, bs_at hil⟩ ?_)) | refine Exists.intro _ (And.intro hw ?_) | refine Exists.intro _ (And.intro rowS_top ?_) | refine Exists.intro r.length (Exists.intro (rowS r) (And.intro ⟨rfl, by show r.length ≤ r.length + 1; omega, rfl, rowS_pop⟩ ?_)) | refine Exists.intro ((il (oI o) 8).set x (.int .i64 (i : Int))) (And.intro ⟨by rw [il_len]; omega, rfl⟩ ?_) | refine Exists.intro (il (oI (up2 o x i)) 8) (And.intro ⟨by rw [List.length_set, il_len]; omega, up2_set⟩ ?_) | refine And.intro (neI rfl) ?_ | refine And.intro ⟨rfl, leR rfl, onesR rfl⟩ ?_ | refine And.intro ⟨rfl, leR rfl⟩ ?_ | refine draw_rule2 hfol (fun KK hKK => ?_) | refine hKK _ _ _ (by kernel_rfl) ?_ | refine region_rule (fun KK hKK => ?_) | refine hKK _ _ ?_ | refine And.intro (Eq.refl true) ?_ | refine Exists.intro _ (And.intro (wI (by omega)) ?_) | refine Exists.intro _ (And.intro (wU (by omega)) ?_) | refine Exists.intro _ (And.intro ⟨rfl, by omega⟩ ?_) | refine Exists.intro _ (And.intro rfl ?_) | refine And.intro rfl ?_ | refine And.intro ⟨rfl, rfl⟩ ?_ | ((refine And.intro (fun _ => ?_) (fun _ => ?_)) <;> try (exfalso; omega))))
      refine Exists.intro (i + 1, r, up2 o x i) (Exists.intro [0, 1, 3] (And.intro ⟨⟨by omega, by omega, fun y hy => by have := hlt y (by simp [hy]); omega, by rw [hd']; exact hR⟩, (by show bs.size - (i + 1) < bs.size - i; omega)⟩ ⟨⟨rfl, rfl, rfl, rfl, rfl, trivial⟩, ⟨rfl, rfl, rfl, trivial⟩, rfl⟩))
  rw [if_neg h41] at hR
  have hb41 : bs[i].toNat ≠ 41 := by rw [← tb_at hil]; exact h41
  by_cases h124 : tb bs i = 124
  · have hb := tb_eq hil h124
    rw [if_pos h124] at hR
    cases st with
    | cons x r =>
      simp only [Prod.mk.injEq] at hR
      obtain ⟨rfl, rfl, rfl⟩ := hR
      have hlen : (x :: r).length = r.length + 1 := rfl
      (repeat' (first | refine Exists.intro i (Exists.intro bs[i] (And.intro ⟨rfl, bs_at hil⟩ ?_)) | refine Exists.intro (il (oI o) 8) (And.intro ⟨rfl, rfl⟩ ?_) | refine Exists.intro (il (oI o) 8) (And.intro ⟨leR rfl, rfl⟩ ?_) | refine And.intro (neI rfl) ?_ | refine And.intro ⟨rfl, leR rfl, onesR rfl⟩ ?_ | refine And.intro ⟨rfl, leR rfl⟩ ?_ | refine draw_rule2 hfol (fun KK hKK => ?_) | refine hKK _ _ _ (by kernel_rfl) ?_ | refine region_rule (fun KK hKK => ?_) | refine hKK _ _ ?_ | refine And.intro (Eq.refl true) ?_ | refine Exists.intro _ (And.intro (wI (by omega)) ?_) | refine Exists.intro _ (And.intro (wU (by omega)) ?_) | refine Exists.intro _ (And.intro ⟨rfl, by omega⟩ ?_) | refine Exists.intro _ (And.intro rfl ?_) | refine And.intro rfl ?_ | refine And.intro ⟨rfl, rfl⟩ ?_ | ((refine And.intro (fun _ => ?_) (fun _ => ?_)) <;> try (exfalso; omega))))
      exact Exists.intro [] (And.intro (rfl) (And.intro trivial rfl))
    | nil =>
      simp only [] at hR
      have hlen : ([] : List Nat).length = 0 := rfl
      (repeat' (first | refine Exists.intro i (Exists.intro bs[i] (And.intro ⟨rfl, bs_at hil⟩ ?_)) | refine Exists.intro (il (oI fun j => if j = i then i else o j) 8) (And.intro ⟨by rw [il_len]; omega, open_set⟩ ?_) | refine And.intro (neI rfl) ?_ | refine And.intro ⟨rfl, leR rfl, onesR rfl⟩ ?_ | refine And.intro ⟨rfl, leR rfl⟩ ?_ | refine draw_rule2 hfol (fun KK hKK => ?_) | refine hKK _ _ _ (by kernel_rfl) ?_ | refine region_rule (fun KK hKK => ?_) | refine hKK _ _ ?_ | refine And.intro (Eq.refl true) ?_ | refine Exists.intro _ (And.intro (wI (by omega)) ?_) | refine Exists.intro _ (And.intro (wU (by omega)) ?_) | refine Exists.intro _ (And.intro ⟨rfl, by omega⟩ ?_) | refine Exists.intro _ (And.intro rfl ?_) | refine And.intro rfl ?_ | refine And.intro ⟨rfl, rfl⟩ ?_ | ((refine And.intro (fun _ => ?_) (fun _ => ?_)) <;> try (exfalso; omega))))
      refine Exists.intro (i + 1, [], fun j => if j = i then i else o j) (Exists.intro [0, 1, 2] (And.intro ⟨⟨by omega, by simp, by simp, by rw [hd']; exact hR⟩, (by show bs.size - (i + 1) < bs.size - i; omega)⟩ ⟨⟨rfl, rfl, rfl, rfl, rfl, trivial⟩, ⟨rfl, rfl, rfl, trivial⟩, rfl⟩))
  · have hb124 : bs[i].toNat ≠ 124 := by rw [← tb_at hil]; exact h124
    rw [if_neg h124] at hR
    simp only [Prod.mk.injEq] at hR
    obtain ⟨rfl, rfl, rfl⟩ := hR
    (repeat' (first | refine Exists.intro i (Exists.intro bs[i] (And.intro ⟨rfl, bs_at hil⟩ ?_)) | refine Exists.intro (il (oI o) 8) (And.intro ⟨rfl, rfl⟩ ?_) | refine Exists.intro (il (oI o) 8) (And.intro ⟨leR rfl, rfl⟩ ?_) | refine And.intro (neI rfl) ?_ | refine And.intro ⟨rfl, leR rfl, onesR rfl⟩ ?_ | refine And.intro ⟨rfl, leR rfl⟩ ?_ | refine draw_rule2 hfol (fun KK hKK => ?_) | refine hKK _ _ _ (by kernel_rfl) ?_ | refine region_rule (fun KK hKK => ?_) | refine hKK _ _ ?_ | refine And.intro (Eq.refl true) ?_ | refine Exists.intro _ (And.intro (wI (by omega)) ?_) | refine Exists.intro _ (And.intro (wU (by omega)) ?_) | refine Exists.intro _ (And.intro ⟨rfl, by omega⟩ ?_) | refine Exists.intro _ (And.intro rfl ?_) | refine And.intro rfl ?_ | refine And.intro ⟨rfl, rfl⟩ ?_ | ((refine And.intro (fun _ => ?_) (fun _ => ?_)) <;> try (exfalso; omega))))
    exact Exists.intro [] (And.intro (rfl) (And.intro trivial rfl))
theorem s_l04Is (bs : ByteArray) : Spec Try.prog n_s_l04Is [.raw (.string bs)] [] (vb (isH bs)) [] := by
  have ha := s_larcs bs
  have hb : (arcS bs).2 = isH bs := by
    unfold arcS isH; split
    · rename_i h; rw [decide_eq_true h, Bool.true_and]
    · rename_i h; rw [decide_eq_false h, Bool.false_and]
  obtain ⟨o1, ho1⟩ : ∃ o1, (arcS bs).1 = il (oI o1) 8 := by unfold arcS; split; exact ⟨_, rfl⟩; exact ⟨_, rfl⟩
  rw [hb, ho1] at ha
  refine SpecW.of_EV hf_s_l04Is hc_s_l04Is rfl rfl rfl fun w0 B ρ0 _ => ?_
  (repeat' (first | refine (ha).pure rfl ?_ | refine Exists.intro (il (oI o1) 8) (And.intro ⟨leR rfl, rfl⟩ ?_) | refine And.intro (neI rfl) ?_ | refine And.intro ⟨rfl, leR rfl, onesR rfl⟩ ?_ | refine And.intro ⟨rfl, leR rfl⟩ ?_ | refine draw_rule2 hfol (fun KK hKK => ?_) | refine hKK _ _ _ (by kernel_rfl) ?_ | refine region_rule (fun KK hKK => ?_) | refine hKK _ _ ?_ | refine And.intro (Eq.refl true) ?_ | refine Exists.intro _ (And.intro (wI (by omega)) ?_) | refine Exists.intro _ (And.intro (wU (by omega)) ?_) | refine Exists.intro _ (And.intro ⟨rfl, by omega⟩ ?_) | refine Exists.intro _ (And.intro rfl ?_) | refine And.intro rfl ?_ | refine And.intro ⟨rfl, rfl⟩ ?_ | ((refine And.intro (fun _ => ?_) (fun _ => ?_)) <;> try (exfalso; omega))))
  exact Exists.intro [] (And.intro (rfl) (And.intro trivial rfl))
end Go.Proofs.Ytimigbgpldjefaa.VE
