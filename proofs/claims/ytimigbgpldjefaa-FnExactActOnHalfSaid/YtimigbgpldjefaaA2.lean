/- Contracts of functions of the given program, for all arguments that the contract names; see each theorem. -/
import Derived.Test.YtimigbgpldjefaaA1
set_option linter.all false
namespace Go.Proofs.Ytimigbgpldjefaa.VE
open Go
set_option maxHeartbeats 800000
set_option maxRecDepth 100000

theorem s_arcsT (bs : ByteArray) (hN : bs.size ≤ 1048576) (st0 : List Nat) (o0 : Nat → Nat) (hp : phR bs = (true, st0, o0)) :
    Spec Try.prog n_i_arcs [.raw (.string bs)] [] (.tup [.sl 0, vb (decide (st0.length = 0))]) [.pr T_int 1 bs.size (il (aI (tb bs) bs.size o0) bs.size)] := by
  refine SpecW.of_EV hf_i_arcs hc_i_arcs rfl rfl rfl fun w0 B ρ0 _ => ?_
  have h00 : il (fun _ => 0) bs.size = il (aI (tb bs) 0 fun _ => 0) bs.size := il_congr fun j hj => by unfold aI; rw [if_neg (by omega)]; rfl
  (repeat' (first | refine Exists.intro bs.size (Exists.intro (il (fun _ => 0) bs.size) (And.intro ⟨rfl, rfl, by omega, by omega, mk_il⟩ ?_)) | refine And.intro (neI rfl) ?_ | refine And.intro ⟨rfl, leR rfl, onesR rfl⟩ ?_ | refine And.intro ⟨rfl, leR rfl⟩ ?_ | refine draw_rule2 hfol (fun KK hKK => ?_) | refine hKK _ _ _ (by kernel_rfl) ?_ | refine region_rule (fun KK hKK => ?_) | refine hKK _ _ ?_ | refine And.intro (Eq.refl true) ?_ | refine Exists.intro _ (And.intro (wI (by omega)) ?_) | refine Exists.intro _ (And.intro (wU (by omega)) ?_) | refine Exists.intro _ (And.intro ⟨rfl, by omega⟩ ?_) | refine Exists.intro _ (And.intro rfl ?_) | refine And.intro rfl ?_ | refine And.intro ⟨rfl, rfl⟩ ?_ | ((refine And.intro (fun _ => ?_) (fun _ => ?_)) <;> try (exfalso; omega))))
  refine loop_rule (α := Nat × List Nat × (Nat → Nat)) (fun (i, st, o) => i ≤ bs.size ∧ st.length ≤ i ∧ (∀ x ∈ st, x < i ∧ tb bs x = 40) ∧ ph (tb bs) (bs.size - i) i st o = (true, st0, o0))
    (fun (i, st, o) => [(0, .raw (.string bs)), (4, .sl 0), (5, .sl 1), (13, vi bs.size), (14, vi i)])
    (fun (i, st, o) => [.pr T_int 1 bs.size (il (aI (tb bs) i o) bs.size), .pr T_int 1 st.length (rowS st)]) (fun (i, _, _) => bs.size - i) (0, [], fun _ => 0) [0, 1]
    ⟨by omega, by simp, by simp, hp⟩ ⟨⟨rfl, rfl, rfl, rfl, rfl, trivial⟩, ⟨congrArg some (congrArg (O.pr T_int 1 bs.size) h00), rfl, trivial⟩, rfl⟩ ?_
  rintro ⟨i, st, o⟩ g ⟨hi, hsl, hlt, hR⟩
  by_cases h9 : i = bs.size
  · subst h9
    rw [Nat.sub_self] at hR
    simp only [ph, Prod.mk.injEq, true_and] at hR
    obtain ⟨rfl, rfl⟩ := hR
    (repeat' (first | refine And.intro (neI rfl) ?_ | refine And.intro ⟨rfl, leR rfl, onesR rfl⟩ ?_ | refine And.intro ⟨rfl, leR rfl⟩ ?_ | refine draw_rule2 hfol (fun KK hKK => ?_) | refine hKK _ _ _ (by kernel_rfl) ?_ | refine region_rule (fun KK hKK => ?_) | refine hKK _ _ ?_ | refine And.intro (Eq.refl true) ?_ | refine Exists.intro _ (And.intro (wI (by omega)) ?_) | refine Exists.intro _ (And.intro (wU (by omega)) ?_) | refine Exists.intro _ (And.intro ⟨rfl, by omega⟩ ?_) | refine Exists.intro _ (And.intro rfl ?_) | refine And.intro rfl ?_ | refine And.intro ⟨rfl, rfl⟩ ?_ | ((refine And.intro (fun _ => ?_) (fun _ => ?_)) <;> try (exfalso; omega))))
    · exact Exists.intro [0] (And.intro (by rw [decide_eq_true (by omega)]; rfl) (And.intro ⟨rfl, trivial⟩ rfl))
    · exact Exists.intro [0] (And.intro (by rw [decide_eq_false (by omega)]; rfl) (And.intro ⟨rfl, trivial⟩ rfl))
  have hil : i < bs.size := by omega
  obtain ⟨d, hd⟩ : ∃ d, bs.size - i = d + 1 := ⟨bs.size - i - 1, by omega⟩
  have hd' : bs.size - (i + 1) = d := by omega
  rw [hd] at hR
  unfold ph at hR
  by_cases h40 : tb bs i = 40
  · have hb := tb_eq hil h40
    rw [if_pos h40] at hR
    (repeat' (first | refine Exists.intro i (Exists.intro bs[i] (And.intro ⟨rfl, bs_at hil⟩ ?_)) | refine And.intro ⟨rfl, mkL rfl⟩ ?_ | refine Exists.intro [Value.int .i64 (i : Int)] (And.intro (row1s (mkL' rfl)) ?_) | refine Exists.intro (rowS (i :: st)) (And.intro ⟨rfl, onesR rfl, by omega, by omega, rowS_push⟩ ?_) | refine And.intro (neI rfl) ?_ | refine And.intro ⟨rfl, leR rfl, onesR rfl⟩ ?_ | refine And.intro ⟨rfl, leR rfl⟩ ?_ | refine draw_rule2 hfol (fun KK hKK => ?_) | refine hKK _ _ _ (by kernel_rfl) ?_ | refine region_rule (fun KK hKK => ?_) | refine hKK _ _ ?_ | refine And.intro (Eq.refl true) ?_ | refine Exists.intro _ (And.intro (wI (by omega)) ?_) | refine Exists.intro _ (And.intro (wU (by omega)) ?_) | refine Exists.intro _ (And.intro ⟨rfl, by omega⟩ ?_) | refine Exists.intro _ (And.intro rfl ?_) | refine And.intro rfl ?_ | refine And.intro ⟨rfl, rfl⟩ ?_ | ((refine And.intro (fun _ => ?_) (fun _ => ?_)) <;> try (exfalso; omega))))
    refine Exists.intro (i + 1, i :: st, o) (Exists.intro [0, 3] (And.intro ⟨⟨by omega, by simp; omega, ?_, by rw [hd']; exact hR⟩, (by show bs.size - (i + 1) < bs.size - i; omega)⟩ ⟨⟨rfl, rfl, rfl, rfl, rfl, trivial⟩, ⟨by rw [← aI_push (o := o) (show tb bs i ≠ 124 by omega)]; rfl, rfl, trivial⟩, rfl⟩))
    intro x hx
    rcases List.mem_cons.1 hx with rfl | hx
    · exact ⟨by omega, h40⟩
    · have := hlt x hx; exact ⟨by omega, this.2⟩
  rw [if_neg h40] at hR
  have hb40 : bs[i].toNat ≠ 40 := by rw [← tb_at hil]; exact h40
  by_cases h41 : tb bs i = 41
  · have hb := tb_eq hil h41
    rw [if_pos h41] at hR
    cases st with
    | nil => cases hR
    | cons x r =>
      simp only [] at hR
      have hx := hlt x (by simp)
      simp only [List.length_cons] at hsl
      have hlen : (x :: r).length = r.length + 1 := rfl
      have hw : IntKind.i64.wrap (((r.length + 1 : Nat) : Int) - 1) = ((r.length : Nat) : Int) := wC (by omega) (by omega)
      have hcl := aI_close (t := tb bs) (k := i) (i := x) (N := bs.size) (o := o) (by omega) (by omega)
      (repeat' (first | refine Exists.intro i (Exists.intro bs[i] (And.intro ⟨rfl, bs_at hil⟩ ?_)) | refine Exists.intro _ (And.intro hw ?_) | refine Exists.intro _ (And.intro rowS_top ?_) | refine Exists.intro r.length (Exists.intro (rowS r) (And.intro ⟨rfl, by show r.length ≤ r.length + 1; omega, rfl, rowS_pop⟩ ?_)) | refine Exists.intro ((il (aI (tb bs) i o) bs.size).set x (.int .i64 (i : Int))) (And.intro ⟨by rw [il_len]; omega, rfl⟩ ?_) | refine Exists.intro (il (aI (tb bs) (i + 1) (up2 o x i)) bs.size) (And.intro ⟨by rw [List.length_set, il_len]; omega, hcl⟩ ?_) | refine And.intro (neI rfl) ?_ | refine And.intro ⟨rfl, leR rfl, onesR rfl⟩ ?_ | refine And.intro ⟨rfl, leR rfl⟩ ?_ | refine draw_rule2 hfol (fun KK hKK => ?_) | refine hKK _ _ _ (by kernel_rfl) ?_ | refine region_rule (fun KK hKK => ?_) | refine hKK _ _ ?_ | refine And.intro (Eq.refl true) ?_ | refine Exists.intro _ (And.intro (wI (by omega)) ?_) | refine Exists.intro _ (And.intro (wU (by omega)) ?_) | refine Exists.intro _ (And.intro ⟨rfl, by omega⟩ ?_) | refine Exists.intro _ (And.intro rfl ?_) | refine And.intro rfl ?_ | refine And.intro ⟨rfl, rfl⟩ ?_ | ((refine And.intro (fun _ => ?_) (fun _ => ?_)) <;> try (exfalso; omega))))
      refine Exists.intro (i + 1, r, up2 o x i) (Exists.intro [0, 2] (And.intro ⟨⟨by omega, by omega, fun y hy => by have := hlt y (by simp [hy]); exact ⟨by omega, this.2⟩, by rw [hd']; exact hR⟩, (by show bs.size - (i + 1) < bs.size - i; omega)⟩ ⟨⟨rfl, rfl, rfl, rfl, rfl, trivial⟩, ⟨rfl, rfl, trivial⟩, rfl⟩))
  rw [if_neg h41] at hR
  by_cases h124 : tb bs i = 124
  · have hb := tb_eq hil h124
    rw [if_pos h124] at hR
    cases st with
    | cons x r => cases hR
    | nil =>
      simp only [] at hR
      have hlen : ([] : List Nat).length = 0 := rfl
      have hop := aI_open (t := tb bs) (k := i) (N := bs.size) (o := o) h124
      (repeat' (first | refine Exists.intro i (Exists.intro bs[i] (And.intro ⟨rfl, bs_at hil⟩ ?_)) | refine Exists.intro (il (aI (tb bs) (i + 1) fun j => if j = i then i else o j) bs.size) (And.intro ⟨by rw [il_len]; omega, hop⟩ ?_) | refine And.intro (neI rfl) ?_ | refine And.intro ⟨rfl, leR rfl, onesR rfl⟩ ?_ | refine And.intro ⟨rfl, leR rfl⟩ ?_ | refine draw_rule2 hfol (fun KK hKK => ?_) | refine hKK _ _ _ (by kernel_rfl) ?_ | refine region_rule (fun KK hKK => ?_) | refine hKK _ _ ?_ | refine And.intro (Eq.refl true) ?_ | refine Exists.intro _ (And.intro (wI (by omega)) ?_) | refine Exists.intro _ (And.intro (wU (by omega)) ?_) | refine Exists.intro _ (And.intro ⟨rfl, by omega⟩ ?_) | refine Exists.intro _ (And.intro rfl ?_) | refine And.intro rfl ?_ | refine And.intro ⟨rfl, rfl⟩ ?_ | ((refine And.intro (fun _ => ?_) (fun _ => ?_)) <;> try (exfalso; omega))))
      refine Exists.intro (i + 1, [], fun j => if j = i then i else o j) (Exists.intro [0, 1] (And.intro ⟨⟨by omega, by simp, by simp, by rw [hd']; exact hR⟩, (by show bs.size - (i + 1) < bs.size - i; omega)⟩ ⟨⟨rfl, rfl, rfl, rfl, rfl, trivial⟩, ⟨rfl, rfl, trivial⟩, rfl⟩))
  · rw [if_neg h124] at hR
    cases hR
theorem s_arcsF (bs : ByteArray) (hN : bs.size ≤ 1048576) (hp : (phR bs).1 = false) :
    Spec Try.prog n_i_arcs [.raw (.string bs)] [] (.tup [.raw (.slice none 0 0), vb false]) [] := by
  refine SpecW.of_EV hf_i_arcs hc_i_arcs rfl rfl rfl fun w0 B ρ0 _ => ?_
  have h00 : il (fun _ => 0) bs.size = il (aI (tb bs) 0 fun _ => 0) bs.size := il_congr fun j hj => by unfold aI; rw [if_neg (by omega)]; rfl
  (repeat' (first | refine Exists.intro bs.size (Exists.intro (il (fun _ => 0) bs.size) (And.intro ⟨rfl, rfl, by omega, by omega, mk_il⟩ ?_)) | refine And.intro (neI rfl) ?_ | refine And.intro ⟨rfl, leR rfl, onesR rfl⟩ ?_ | refine And.intro ⟨rfl, leR rfl⟩ ?_ | refine draw_rule2 hfol (fun KK hKK => ?_) | refine hKK _ _ _ (by kernel_rfl) ?_ | refine region_rule (fun KK hKK => ?_) | refine hKK _ _ ?_ | refine And.intro (Eq.refl true) ?_ | refine Exists.intro _ (And.intro (wI (by omega)) ?_) | refine Exists.intro _ (And.intro (wU (by omega)) ?_) | refine Exists.intro _ (And.intro ⟨rfl, by omega⟩ ?_) | refine Exists.intro _ (And.intro rfl ?_) | refine And.intro rfl ?_ | refine And.intro ⟨rfl, rfl⟩ ?_ | ((refine And.intro (fun _ => ?_) (fun _ => ?_)) <;> try (exfalso; omega))))
  refine loop_rule (α := Nat × List Nat × (Nat → Nat)) (fun (i, st, o) => i ≤ bs.size ∧ st.length ≤ i ∧ (∀ x ∈ st, x < i ∧ tb bs x = 40) ∧ (ph (tb bs) (bs.size - i) i st o).1 = false)
    (fun (i, st, o) => [(0, .raw (.string bs)), (4, .sl 0), (5, .sl 1), (13, vi bs.size), (14, vi i)])
    (fun (i, st, o) => [.pr T_int 1 bs.size (il (aI (tb bs) i o) bs.size), .pr T_int 1 st.length (rowS st)]) (fun (i, _, _) => bs.size - i) (0, [], fun _ => 0) [0, 1]
    ⟨by omega, by simp, by simp, hp⟩ ⟨⟨rfl, rfl, rfl, rfl, rfl, trivial⟩, ⟨congrArg some (congrArg (O.pr T_int 1 bs.size) h00), rfl, trivial⟩, rfl⟩ ?_
  rintro ⟨i, st, o⟩ g ⟨hi, hsl, hlt, hR⟩
  by_cases h9 : i = bs.size
  · subst h9
    rw [Nat.sub_self] at hR
    simp [ph] at hR
  have hil : i < bs.size := by omega
  obtain ⟨d, hd⟩ : ∃ d, bs.size - i = d + 1 := ⟨bs.size - i - 1, by omega⟩
  have hd' : bs.size - (i + 1) = d := by omega
  rw [hd] at hR
  unfold ph at hR
  by_cases h40 : tb bs i = 40
  · have hb := tb_eq hil h40
    rw [if_pos h40] at hR
    (repeat' (first | refine Exists.intro i (Exists.intro bs[i] (And.intro ⟨rfl, bs_at hil⟩ ?_)) | refine And.intro ⟨rfl, mkL rfl⟩ ?_ | refine Exists.intro [Value.int .i64 (i : Int)] (And.intro (row1s (mkL' rfl)) ?_) | refine Exists.intro (rowS (i :: st)) (And.intro ⟨rfl, onesR rfl, by omega, by omega, rowS_push⟩ ?_) | refine And.intro (neI rfl) ?_ | refine And.intro ⟨rfl, leR rfl, onesR rfl⟩ ?_ | refine And.intro ⟨rfl, leR rfl⟩ ?_ | refine draw_rule2 hfol (fun KK hKK => ?_) | refine hKK _ _ _ (by kernel_rfl) ?_ | refine region_rule (fun KK hKK => ?_) | refine hKK _ _ ?_ | refine And.intro (Eq.refl true) ?_ | refine Exists.intro _ (And.intro (wI (by omega)) ?_) | refine Exists.intro _ (And.intro (wU (by omega)) ?_) | refine Exists.intro _ (And.intro ⟨rfl, by omega⟩ ?_) | refine Exists.intro _ (And.intro rfl ?_) | refine And.intro rfl ?_ | refine And.intro ⟨rfl, rfl⟩ ?_ | ((refine And.intro (fun _ => ?_) (fun _ => ?_)) <;> try (exfalso; omega))))
    refine Exists.intro (i + 1, i :: st, o) (Exists.intro [0, 3] (And.intro ⟨⟨by omega, by simp; omega, ?_, by rw [hd']; exact hR⟩, (by show bs.size - (i + 1) < bs.size - i; omega)⟩ ⟨⟨rfl, rfl, rfl, rfl, rfl, trivial⟩, ⟨by rw [← aI_push (o := o) (show tb bs i ≠ 124 by omega)]; rfl, rfl, trivial⟩, rfl⟩))
    intro x hx
    rcases List.mem_cons.1 hx with rfl | hx
    · exact ⟨by omega, h40⟩
    · have := hlt x hx; exact ⟨by omega, this.2⟩
  rw [if_neg h40] at hR
  have hb40 : bs[i].toNat ≠ 40 := by rw [← tb_at hil]; exact h40
  by_cases h41 : tb bs i = 41
  · have hb := tb_eq hil h41
    rw [if_pos h41] at hR
    cases st with
    | nil =>
      have hlen : ([] : List Nat).length = 0 := rfl
      (repeat' (first | refine Exists.intro i (Exists.intro bs[i] (And.intro ⟨rfl, bs_at hil⟩ ?_)) | refine And.intro (neI rfl) ?_ | refine And.intro ⟨rfl, leR rfl, onesR rfl⟩ ?_ | refine And.intro ⟨rfl, leR rfl⟩ ?_ | refine draw_rule2 hfol (fun KK hKK => ?_) | refine hKK _ _ _ (by kernel_rfl) ?_ | refine region_rule (fun KK hKK => ?_) | refine hKK _ _ ?_ | refine And.intro (Eq.refl true) ?_ | refine Exists.intro _ (And.intro (wI (by omega)) ?_) | refine Exists.intro _ (And.intro (wU (by omega)) ?_) | refine Exists.intro _ (And.intro ⟨rfl, by omega⟩ ?_) | refine Exists.intro _ (And.intro rfl ?_) | refine And.intro rfl ?_ | refine And.intro ⟨rfl, rfl⟩ ?_ | ((refine And.intro (fun _ => ?_) (fun _ => ?_)) <;> try (exfalso; omega))))
      exact Exists.intro [] (And.intro (rfl) (And.intro trivial rfl))
    | cons x r =>
      simp only [] at hR
      have hx := hlt x (by simp)
      simp only [List.length_cons] at hsl
      have hlen : (x :: r).length = r.length + 1 := rfl
      have hw : IntKind.i64.wrap (((r.length + 1 : Nat) : Int) - 1) = ((r.length : Nat) : Int) := wC (by omega) (by omega)
      have hcl := aI_close (t := tb bs) (k := i) (i := x) (N := bs.size) (o := o) (by omega) (by omega)
      (repeat' (first | refine Exists.intro i (Exists.intro bs[i] (And.intro ⟨rfl, bs_at hil⟩ ?_)) | refine Exists.intro _ (And.intro hw ?_) | refine Exists.intro _ (And.intro rowS_top ?_) | refine Exists.intro r.length (Exists.intro (rowS r) (And.intro ⟨rfl, by show r.length ≤ r.length + 1; omega, rfl, rowS_pop⟩ ?_)) | refine Exists.intro ((il (aI (tb bs) i o) bs.size).set x (.int .i64 (i : Int))) (And.intro ⟨by rw [il_len]; omega, rfl⟩ ?_) | refine Exists.intro (il (aI (tb bs) (i + 1) (up2 o x i)) bs.size) (And.intro ⟨by rw [List.length_set, il_len]; omega, hcl⟩ ?_) | refine And.intro (neI rfl) ?_ | refine And.intro ⟨rfl, leR rfl, onesR rfl⟩ ?_ | refine And.intro ⟨rfl, leR rfl⟩ ?_ | refine draw_rule2 hfol (fun KK hKK => ?_) | refine hKK _ _ _ (by kernel_rfl) ?_ | refine region_rule (fun KK hKK => ?_) | refine hKK _ _ ?_ | refine And.intro (Eq.refl true) ?_ | refine Exists.intro _ (And.intro (wI (by omega)) ?_) | refine Exists.intro _ (And.intro (wU (by omega)) ?_) | refine Exists.intro _ (And.intro ⟨rfl, by omega⟩ ?_) | refine Exists.intro _ (And.intro rfl ?_) | refine And.intro rfl ?_ | refine And.intro ⟨rfl, rfl⟩ ?_ | ((refine And.intro (fun _ => ?_) (fun _ => ?_)) <;> try (exfalso; omega))))
      refine Exists.intro (i + 1, r, up2 o x i) (Exists.intro [0, 2] (And.intro ⟨⟨by omega, by omega, fun y hy => by have := hlt y (by simp [hy]); exact ⟨by omega, this.2⟩, by rw [hd']; exact hR⟩, (by show bs.size - (i + 1) < bs.size - i; omega)⟩ ⟨⟨rfl, rfl, rfl, rfl, rfl, trivial⟩, ⟨rfl, rfl, trivial⟩, rfl⟩))
  rw [if_neg h41] at hR
  have hb41 : bs[i].toNat ≠ 41 := by rw [← tb_at hil]; exact h41
  by_cases h124 : tb bs i = 124
  · have hb := tb_eq hil h124
    rw [if_pos h124] at hR
    cases st with
    | cons x r =>
      have hlen : (x :: r).length = r.length + 1 := rfl
      (repeat' (first | refine Exists.intro i (Exists.intro bs[i] (And.intro ⟨rfl, bs_at hil⟩ ?_)) | refine And.intro (neI rfl) ?_ | refine And.intro ⟨rfl, leR rfl, onesR rfl⟩ ?_ | refine And.intro ⟨rfl, leR rfl⟩ ?_ | refine draw_rule2 hfol (fun KK hKK => ?_) | refine hKK _ _ _ (by kernel_rfl) ?_ | refine region_rule (fun KK hKK => ?_) | refine hKK _ _ ?_ | refine And.intro (Eq.refl true) ?_ | refine Exists.intro _ (And.intro (wI (by omega)) ?_) | refine Exists.intro _ (And.intro (wU (by omega)) ?_) | refine Exists.intro _ (And.intro ⟨rfl, by omega⟩ ?_) | refine Exists.intro _ (And.intro rfl ?_) | refine And.intro rfl ?_ | refine And.intro ⟨rfl, rfl⟩ ?_ | ((refine And.intro (fun _ => ?_) (fun _ => ?_)) <;> try (exfalso; omega))))
      exact Exists.intro [] (And.intro (rfl) (And.intro trivial rfl))
    | nil =>
      simp only [] at hR
      have hlen : ([] : List Nat).length = 0 := rfl
      have hop := aI_open (t := tb bs) (k := i) (N := bs.size) (o := o) h124
      (repeat' (first | refine Exists.intro i (Exists.intro bs[i] (And.intro ⟨rfl, bs_at hil⟩ ?_)) | refine Exists.intro (il (aI (tb bs) (i + 1) fun j => if j = i then i else o j) bs.size) (And.intro ⟨by rw [il_len]; omega, hop⟩ ?_) | refine And.intro (neI rfl) ?_ | refine And.intro ⟨rfl, leR rfl, onesR rfl⟩ ?_ | refine And.intro ⟨rfl, leR rfl⟩ ?_ | refine draw_rule2 hfol (fun KK hKK => ?_) | refine hKK _ _ _ (by kernel_rfl) ?_ | refine region_rule (fun KK hKK => ?_) | refine hKK _ _ ?_ | refine And.intro (Eq.refl true) ?_ | refine Exists.intro _ (And.intro (wI (by omega)) ?_) | refine Exists.intro _ (And.intro (wU (by omega)) ?_) | refine Exists.intro _ (And.intro ⟨rfl, by omega⟩ ?_) | refine Exists.intro _ (And.intro rfl ?_) | refine And.intro rfl ?_ | refine And.intro ⟨rfl, rfl⟩ ?_ | ((refine And.intro (fun _ => ?_) (fun _ => ?_)) <;> try (exfalso; omega))))
      refine Exists.intro (i + 1, [], fun j => if j = i then i else o j) (Exists.intro [0, 1] (And.intro ⟨⟨by omega, by simp, by simp, by rw [hd']; exact hR⟩, (by show bs.size - (i + 1) < bs.size - i; omega)⟩ ⟨⟨rfl, rfl, rfl, rfl, rfl, trivial⟩, ⟨rfl, rfl, trivial⟩, rfl⟩))
  · have hb124 : bs[i].toNat ≠ 124 := by rw [← tb_at hil]; exact h124
    (repeat' (first | refine Exists.intro i (Exists.intro bs[i] (And.intro ⟨rfl, bs_at hil⟩ ?_)) | refine And.intro (neI rfl) ?_ | refine And.intro ⟨rfl, leR rfl, onesR rfl⟩ ?_ | refine And.intro ⟨rfl, leR rfl⟩ ?_ | refine draw_rule2 hfol (fun KK hKK => ?_) | refine hKK _ _ _ (by kernel_rfl) ?_ | refine region_rule (fun KK hKK => ?_) | refine hKK _ _ ?_ | refine And.intro (Eq.refl true) ?_ | refine Exists.intro _ (And.intro (wI (by omega)) ?_) | refine Exists.intro _ (And.intro (wU (by omega)) ?_) | refine Exists.intro _ (And.intro ⟨rfl, by omega⟩ ?_) | refine Exists.intro _ (And.intro rfl ?_) | refine And.intro rfl ?_ | refine And.intro ⟨rfl, rfl⟩ ?_ | ((refine And.intro (fun _ => ?_) (fun _ => ?_)) <;> try (exfalso; omega))))
    exact Exists.intro [] (And.intro (rfl) (And.intro trivial rfl))
/-- The test. -/
def isH (bs : ByteArray) : Bool := decide (1 ≤ bs.size ∧ bs.size ≤ 8) && ((phR bs).1 && decide ((phR bs).2.1.length = 0))
theorem s_isHalf (bs : ByteArray) (hN : bs.size ≤ 1048576) : Spec Try.prog n_i_IsHalf [.raw (.string bs)] [] (vb (isH bs)) [] := by
  obtain ⟨ok, st, o, hR⟩ : ∃ ok st o, phR bs = (ok, st, o) := ⟨_, _, _, rfl⟩
  have hH : isH bs = (decide (1 ≤ bs.size ∧ bs.size ≤ 8) && (ok && decide (st.length = 0))) := by unfold isH; rw [hR]
  rw [hH]
  have hin := s_iin bs.size 1 8
  rw [show decide ((1 : Int) ≤ bs.size ∧ (bs.size : Int) ≤ 8) = decide (1 ≤ bs.size ∧ bs.size ≤ 8) from decide_eq_decide.2 (by omega)] at hin
  generalize decide (1 ≤ bs.size ∧ bs.size ≤ 8) = b at hin
  refine SpecW.of_EV hf_i_IsHalf hc_i_IsHalf rfl rfl rfl fun w0 B ρ0 _ => ?_
  cases ok with
  | false =>
    have ha := s_arcsF bs hN (by rw [hR])
    (repeat' (first | refine (ha).pure rfl ?_ | refine And.intro (neI rfl) ?_ | refine And.intro ⟨rfl, leR rfl, onesR rfl⟩ ?_ | refine And.intro ⟨rfl, leR rfl⟩ ?_ | refine draw_rule2 hfol (fun KK hKK => ?_) | refine hKK _ _ _ (by kernel_rfl) ?_ | refine region_rule (fun KK hKK => ?_) | refine hKK _ _ ?_ | refine And.intro (Eq.refl true) ?_ | refine Exists.intro _ (And.intro (wI (by omega)) ?_) | refine Exists.intro _ (And.intro (wU (by omega)) ?_) | refine Exists.intro _ (And.intro ⟨rfl, by omega⟩ ?_) | refine Exists.intro _ (And.intro rfl ?_) | refine And.intro rfl ?_ | refine And.intro ⟨rfl, rfl⟩ ?_ | ((refine And.intro (fun _ => ?_) (fun _ => ?_)) <;> try (exfalso; omega))))
    exact Exists.intro [] (And.intro (by cases b <;> rfl) (And.intro trivial rfl))
  | true =>
    have ha := s_arcsT bs hN st o hR
    generalize decide (st.length = 0) = c at ha
    cases c
    · (repeat' (first | refine (ha).make [] rfl trivial ?_ | refine And.intro (neI rfl) ?_ | refine And.intro ⟨rfl, leR rfl, onesR rfl⟩ ?_ | refine And.intro ⟨rfl, leR rfl⟩ ?_ | refine draw_rule2 hfol (fun KK hKK => ?_) | refine hKK _ _ _ (by kernel_rfl) ?_ | refine region_rule (fun KK hKK => ?_) | refine hKK _ _ ?_ | refine And.intro (Eq.refl true) ?_ | refine Exists.intro _ (And.intro (wI (by omega)) ?_) | refine Exists.intro _ (And.intro (wU (by omega)) ?_) | refine Exists.intro _ (And.intro ⟨rfl, by omega⟩ ?_) | refine Exists.intro _ (And.intro rfl ?_) | refine And.intro rfl ?_ | refine And.intro ⟨rfl, rfl⟩ ?_ | ((refine And.intro (fun _ => ?_) (fun _ => ?_)) <;> try (exfalso; omega))))
      exact Exists.intro [] (And.intro (by cases b <;> rfl) (And.intro trivial rfl))
    · (repeat' (first | refine (ha).make [] rfl trivial ?_ | refine (hin).pure rfl ?_ | refine And.intro (neI rfl) ?_ | refine And.intro ⟨rfl, leR rfl, onesR rfl⟩ ?_ | refine And.intro ⟨rfl, leR rfl⟩ ?_ | refine draw_rule2 hfol (fun KK hKK => ?_) | refine hKK _ _ _ (by kernel_rfl) ?_ | refine region_rule (fun KK hKK => ?_) | refine hKK _ _ ?_ | refine And.intro (Eq.refl true) ?_ | refine Exists.intro _ (And.intro (wI (by omega)) ?_) | refine Exists.intro _ (And.intro (wU (by omega)) ?_) | refine Exists.intro _ (And.intro ⟨rfl, by omega⟩ ?_) | refine Exists.intro _ (And.intro rfl ?_) | refine And.intro rfl ?_ | refine And.intro ⟨rfl, rfl⟩ ?_ | ((refine And.intro (fun _ => ?_) (fun _ => ?_)) <;> try (exfalso; omega))))
      exact Exists.intro [] (And.intro (by cases b <;> rfl) (And.intro trivial rfl))
end Go.Proofs.Ytimigbgpldjefaa.VE
