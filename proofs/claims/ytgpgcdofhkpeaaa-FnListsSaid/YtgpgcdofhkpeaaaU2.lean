/- Contracts of functions of the given program, for all arguments that the contract names; see each theorem. -/
import Derived.Test.YtgpgcdofhkpeaaaU1b
import Derived.Test.YtgpgcdofhkpeaaaU3a
import Derived.Test.YtgpgcdofhkpeaaaQ1
set_option linter.all false
namespace Go.Proofs.Ytgpgcdofhkpeaaa.VE
open Go
set_option maxHeartbeats 800000
set_option maxRecDepth 100000

def tb (bs : ByteArray) (i : Nat) : Nat := ((bs[i]?.map UInt8.toNat).getD 0)
theorem bs_at {bs : ByteArray} {i : Nat} (h : i < bs.size) : bs[i]? = some bs[i] := getElem?_pos bs i h
theorem tb_at {bs : ByteArray} {i : Nat} (h : i < bs.size) : tb bs i = bs[i].toNat := by simp [tb, bs_at h]
def rowS (st : List Nat) : List Value := st.reverse.map fun (x : Nat) => .int .i64 (x : Int)
theorem rowS_push {i : Nat} {st : List Nat} : rowS st ++ [.int .i64 (i : Int)] = rowS (i :: st) := by simp [rowS]
theorem rowS_top {i : Nat} {r : List Nat} : (rowS (i :: r))[r.length]? = some (.int .i64 (i : Int)) := by simp [rowS]
theorem rowS_pop {i : Nat} {r : List Nat} : (rowS (i :: r)).take (r.length * 1) = rowS r := by simp [rowS]
theorem rowS_len {st : List Nat} : (rowS st).length = st.length := by simp [rowS]

/-- Behind the two stores. -/
theorem up2_set {o : Nat → Nat} {N i k : Nat} : ((il (oI o) N).set i (.int .i64 (k : Int))).set k (.int .i64 (i : Int)) = il (oI (up2 o i k)) N := by
  rw [il_set (g := fun j => if j = i then (k : Int) else oI o j) (fun j _ => rfl)]
  refine il_set fun j _ => ?_
  simp only [oI, up2]
  split
  · rfl
  · split <;> rfl

/-- The stack tells them all, or some are left. -/
theorem s_partners (bs : ByteArray) (hN : bs.size ≤ 100) (st0 : List Nat) (o0 : Nat → Nat) (hp : pm (tb bs) bs.size 0 [] (fun _ => 0) = some (st0, o0)) :
    Spec Try.prog n_i_partners [.raw (.string bs)] [] (.tup [.sl 0, vb (decide (st0.length = 0))]) [.pr T_int 1 bs.size (il (oI o0) bs.size)] := by
  refine SpecW.of_EV hf_i_partners hc_i_partners rfl rfl rfl fun w0 B ρ0 _ => ?_
  (repeat' (first | refine Exists.intro bs.size (Exists.intro (il (fun _ => 0) bs.size) (And.intro ⟨rfl, rfl, by omega, by omega, mk_il⟩ ?_)) | refine And.intro (neI rfl) ?_ | refine And.intro ⟨rfl, leR rfl, onesR rfl⟩ ?_ | refine And.intro ⟨rfl, leR rfl⟩ ?_ | refine draw_rule2 hfol (fun KK hKK => ?_) | refine hKK _ _ _ (by kernel_rfl) ?_ | refine region_rule (fun KK hKK => ?_) | refine hKK _ _ ?_ | refine And.intro (Eq.refl true) ?_ | refine Exists.intro _ (And.intro (wI (by omega)) ?_) | refine Exists.intro _ (And.intro (wU (by omega)) ?_) | refine Exists.intro _ (And.intro ⟨rfl, by omega⟩ ?_) | refine Exists.intro _ (And.intro rfl ?_) | refine And.intro rfl ?_ | refine And.intro ⟨rfl, rfl⟩ ?_ | ((refine And.intro (fun _ => ?_) (fun _ => ?_)) <;> try (exfalso; omega))))
  refine loop_rule (α := Nat × List Nat × (Nat → Nat)) (fun (i, st, o) => i ≤ bs.size ∧ st.length ≤ i ∧ (∀ x ∈ st, x < i) ∧ pm (tb bs) (bs.size - i) i st o = some (st0, o0))
    (fun (i, st, o) => [(0, .raw (.string bs)), (4, .sl 0), (5, .sl 1), (13, vi bs.size), (14, vi i)])
    (fun (i, st, o) => [.pr T_int 1 bs.size (il (oI o) bs.size), .pr T_int 1 st.length (rowS st)]) (fun (i, _, _) => bs.size - i) (0, [], fun _ => 0) [0, 1]
    ⟨by omega, by simp, by simp, hp⟩ ⟨⟨rfl, rfl, rfl, rfl, rfl, trivial⟩, ⟨rfl, rfl, trivial⟩, rfl⟩ ?_
  rintro ⟨i, st, o⟩ g ⟨hi, hsl, hlt, hR⟩
  by_cases h9 : i = bs.size
  · subst h9
    rw [Nat.sub_self] at hR
    simp only [pm, Option.some.injEq, Prod.mk.injEq] at hR
    obtain ⟨rfl, rfl⟩ := hR
    (repeat' (first | refine And.intro (neI rfl) ?_ | refine And.intro ⟨rfl, leR rfl, onesR rfl⟩ ?_ | refine And.intro ⟨rfl, leR rfl⟩ ?_ | refine draw_rule2 hfol (fun KK hKK => ?_) | refine hKK _ _ _ (by kernel_rfl) ?_ | refine region_rule (fun KK hKK => ?_) | refine hKK _ _ ?_ | refine And.intro (Eq.refl true) ?_ | refine Exists.intro _ (And.intro (wI (by omega)) ?_) | refine Exists.intro _ (And.intro (wU (by omega)) ?_) | refine Exists.intro _ (And.intro ⟨rfl, by omega⟩ ?_) | refine Exists.intro _ (And.intro rfl ?_) | refine And.intro rfl ?_ | refine And.intro ⟨rfl, rfl⟩ ?_ | ((refine And.intro (fun _ => ?_) (fun _ => ?_)) <;> try (exfalso; omega))))
    · exact Exists.intro [0] (And.intro (by rw [decide_eq_true (by omega)]; rfl) (And.intro ⟨rfl, trivial⟩ rfl))
    · exact Exists.intro [0] (And.intro (by rw [decide_eq_false (by omega)]; rfl) (And.intro ⟨rfl, trivial⟩ rfl))
  have hil : i < bs.size := by omega
  obtain ⟨d, hd⟩ : ∃ d, bs.size - i = d + 1 := ⟨bs.size - i - 1, by omega⟩
  have hd' : bs.size - (i + 1) = d := by omega
  have ht := tb_at hil
  rw [hd] at hR
  unfold pm at hR
  rw [ht] at hR
  by_cases h40 : bs[i].toNat = 40
  · rw [if_pos h40] at hR
    (repeat' (first | refine Exists.intro i (Exists.intro bs[i] (And.intro ⟨rfl, bs_at hil⟩ ?_)) | refine And.intro ⟨rfl, mkL rfl⟩ ?_ | refine Exists.intro [Value.int .i64 (i : Int)] (And.intro (row1s (mkL' rfl)) ?_) | refine Exists.intro (rowS (i :: st)) (And.intro ⟨rfl, onesR rfl, by omega, by omega, rowS_push⟩ ?_) | refine And.intro (neI rfl) ?_ | refine And.intro ⟨rfl, leR rfl, onesR rfl⟩ ?_ | refine And.intro ⟨rfl, leR rfl⟩ ?_ | refine draw_rule2 hfol (fun KK hKK => ?_) | refine hKK _ _ _ (by kernel_rfl) ?_ | refine region_rule (fun KK hKK => ?_) | refine hKK _ _ ?_ | refine And.intro (Eq.refl true) ?_ | refine Exists.intro _ (And.intro (wI (by omega)) ?_) | refine Exists.intro _ (And.intro (wU (by omega)) ?_) | refine Exists.intro _ (And.intro ⟨rfl, by omega⟩ ?_) | refine Exists.intro _ (And.intro rfl ?_) | refine And.intro rfl ?_ | refine And.intro ⟨rfl, rfl⟩ ?_ | ((refine And.intro (fun _ => ?_) (fun _ => ?_)) <;> try (exfalso; omega))))
    refine Exists.intro (i + 1, i :: st, o) (Exists.intro [0, 3] (And.intro ⟨⟨by omega, by simp; omega, ?_, by rw [hd']; exact hR⟩, (by show bs.size - (i + 1) < bs.size - i; omega)⟩ ⟨⟨rfl, rfl, rfl, rfl, rfl, trivial⟩, ⟨rfl, rfl, trivial⟩, rfl⟩))
    intro x hx
    rcases List.mem_cons.1 hx with rfl | hx
    · omega
    · have := hlt x hx; omega
  · rw [if_neg h40] at hR
    by_cases h41 : bs[i].toNat = 41
    rotate_left
    · rw [if_pos h41] at hR; cases hR
    rw [if_neg (by omega)] at hR
    cases st with
    | nil => cases hR
    | cons x r =>
      simp only [] at hR
      have hx := hlt x (by simp)
      simp only [List.length_cons] at hsl
      have hlen : (x :: r).length = r.length + 1 := rfl
      have hw : IntKind.i64.wrap (((r.length + 1 : Nat) : Int) - 1) = ((r.length : Nat) : Int) := wC (by omega) (by omega)
      (repeat' (first | refine Exists.intro i (Exists.intro bs[i] (And.intro ⟨rfl, bs_at hil⟩ ?_)) | refine Exists.intro _ (And.intro hw ?_) | refine Exists.intro _ (And.intro rowS_top ?_) | refine Exists.intro r.length (Exists.intro (rowS r) (And.intro ⟨rfl, by show r.length ≤ r.length + 1; omega, rfl, rowS_pop⟩ ?_)) | refine Exists.intro ((il (oI o) bs.size).set x (.int .i64 (i : Int))) (And.intro ⟨by rw [il_len]; omega, rfl⟩ ?_) | refine Exists.intro (il (oI (up2 o x i)) bs.size) (And.intro ⟨by rw [List.length_set, il_len]; omega, up2_set⟩ ?_) | refine And.intro (neI rfl) ?_ | refine And.intro ⟨rfl, leR rfl, onesR rfl⟩ ?_ | refine And.intro ⟨rfl, leR rfl⟩ ?_ | refine draw_rule2 hfol (fun KK hKK => ?_) | refine hKK _ _ _ (by kernel_rfl) ?_ | refine region_rule (fun KK hKK => ?_) | refine hKK _ _ ?_ | refine And.intro (Eq.refl true) ?_ | refine Exists.intro _ (And.intro (wI (by omega)) ?_) | refine Exists.intro _ (And.intro (wU (by omega)) ?_) | refine Exists.intro _ (And.intro ⟨rfl, by omega⟩ ?_) | refine Exists.intro _ (And.intro rfl ?_) | refine And.intro rfl ?_ | refine And.intro ⟨rfl, rfl⟩ ?_ | ((refine And.intro (fun _ => ?_) (fun _ => ?_)) <;> try (exfalso; omega))))
      refine Exists.intro (i + 1, r, up2 o x i) (Exists.intro [0, 2] (And.intro ⟨⟨by omega, by omega, fun y hy => by have := hlt y (by simp [hy]); omega, by rw [hd']; exact hR⟩, (by show bs.size - (i + 1) < bs.size - i; omega)⟩ ⟨⟨rfl, rfl, rfl, rfl, rfl, trivial⟩, ⟨rfl, rfl, trivial⟩, rfl⟩))
/-- A bracket that closes nothing. -/
theorem s_partners0 (bs : ByteArray) (hN : bs.size ≤ 100) (hp : pm (tb bs) bs.size 0 [] (fun _ => 0) = none) :
    Spec Try.prog n_i_partners [.raw (.string bs)] [] (.tup [.raw (.slice none 0 0), vb false]) [] := by
  refine SpecW.of_EV hf_i_partners hc_i_partners rfl rfl rfl fun w0 B ρ0 _ => ?_
  (repeat' (first | refine Exists.intro bs.size (Exists.intro (il (fun _ => 0) bs.size) (And.intro ⟨rfl, rfl, by omega, by omega, mk_il⟩ ?_)) | refine And.intro (neI rfl) ?_ | refine And.intro ⟨rfl, leR rfl, onesR rfl⟩ ?_ | refine And.intro ⟨rfl, leR rfl⟩ ?_ | refine draw_rule2 hfol (fun KK hKK => ?_) | refine hKK _ _ _ (by kernel_rfl) ?_ | refine region_rule (fun KK hKK => ?_) | refine hKK _ _ ?_ | refine And.intro (Eq.refl true) ?_ | refine Exists.intro _ (And.intro (wI (by omega)) ?_) | refine Exists.intro _ (And.intro (wU (by omega)) ?_) | refine Exists.intro _ (And.intro ⟨rfl, by omega⟩ ?_) | refine Exists.intro _ (And.intro rfl ?_) | refine And.intro rfl ?_ | refine And.intro ⟨rfl, rfl⟩ ?_ | ((refine And.intro (fun _ => ?_) (fun _ => ?_)) <;> try (exfalso; omega))))
  refine loop_rule (α := Nat × List Nat × (Nat → Nat)) (fun (i, st, o) => i ≤ bs.size ∧ st.length ≤ i ∧ (∀ x ∈ st, x < i) ∧ pm (tb bs) (bs.size - i) i st o = none)
    (fun (i, st, o) => [(0, .raw (.string bs)), (4, .sl 0), (5, .sl 1), (13, vi bs.size), (14, vi i)])
    (fun (i, st, o) => [.pr T_int 1 bs.size (il (oI o) bs.size), .pr T_int 1 st.length (rowS st)]) (fun (i, _, _) => bs.size - i) (0, [], fun _ => 0) [0, 1]
    ⟨by omega, by simp, by simp, hp⟩ ⟨⟨rfl, rfl, rfl, rfl, rfl, trivial⟩, ⟨rfl, rfl, trivial⟩, rfl⟩ ?_
  rintro ⟨i, st, o⟩ g ⟨hi, hsl, hlt, hR⟩
  by_cases h9 : i = bs.size
  · subst h9
    rw [Nat.sub_self] at hR
    simp only [pm] at hR
    cases hR
  have hil : i < bs.size := by omega
  obtain ⟨d, hd⟩ : ∃ d, bs.size - i = d + 1 := ⟨bs.size - i - 1, by omega⟩
  have hd' : bs.size - (i + 1) = d := by omega
  have ht := tb_at hil
  rw [hd] at hR
  unfold pm at hR
  rw [ht] at hR
  by_cases h40 : bs[i].toNat = 40
  · rw [if_pos h40] at hR
    (repeat' (first | refine Exists.intro i (Exists.intro bs[i] (And.intro ⟨rfl, bs_at hil⟩ ?_)) | refine And.intro ⟨rfl, mkL rfl⟩ ?_ | refine Exists.intro [Value.int .i64 (i : Int)] (And.intro (row1s (mkL' rfl)) ?_) | refine Exists.intro (rowS (i :: st)) (And.intro ⟨rfl, onesR rfl, by omega, by omega, rowS_push⟩ ?_) | refine And.intro (neI rfl) ?_ | refine And.intro ⟨rfl, leR rfl, onesR rfl⟩ ?_ | refine And.intro ⟨rfl, leR rfl⟩ ?_ | refine draw_rule2 hfol (fun KK hKK => ?_) | refine hKK _ _ _ (by kernel_rfl) ?_ | refine region_rule (fun KK hKK => ?_) | refine hKK _ _ ?_ | refine And.intro (Eq.refl true) ?_ | refine Exists.intro _ (And.intro (wI (by omega)) ?_) | refine Exists.intro _ (And.intro (wU (by omega)) ?_) | refine Exists.intro _ (And.intro ⟨rfl, by omega⟩ ?_) | refine Exists.intro _ (And.intro rfl ?_) | refine And.intro rfl ?_ | refine And.intro ⟨rfl, rfl⟩ ?_ | ((refine And.intro (fun _ => ?_) (fun _ => ?_)) <;> try (exfalso; omega))))
    refine Exists.intro (i + 1, i :: st, o) (Exists.intro [0, 3] (And.intro ⟨⟨by omega, by simp; omega, ?_, by rw [hd']; exact hR⟩, (by show bs.size - (i + 1) < bs.size - i; omega)⟩ ⟨⟨rfl, rfl, rfl, rfl, rfl, trivial⟩, ⟨rfl, rfl, trivial⟩, rfl⟩))
    intro x hx
    rcases List.mem_cons.1 hx with rfl | hx
    · omega
    · have := hlt x hx; omega
  · rw [if_neg h40] at hR
    by_cases h41 : bs[i].toNat = 41
    rotate_left
    · (repeat' (first | refine Exists.intro i (Exists.intro bs[i] (And.intro ⟨rfl, bs_at hil⟩ ?_)) | refine And.intro (neI rfl) ?_ | refine And.intro ⟨rfl, leR rfl, onesR rfl⟩ ?_ | refine And.intro ⟨rfl, leR rfl⟩ ?_ | refine draw_rule2 hfol (fun KK hKK => ?_) | refine hKK _ _ _ (by kernel_rfl) ?_ | refine region_rule (fun KK hKK => ?_) | refine hKK _ _ ?_ | refine And.intro (Eq.refl true) ?_ | refine Exists.intro _ (And.intro (wI (by omega)) ?_) | refine Exists.intro _ (And.intro (wU (by omega)) ?_) | refine Exists.intro _ (And.intro ⟨rfl, by omega⟩ ?_) | refine Exists.intro _ (And.intro rfl ?_) | refine And.intro rfl ?_ | refine And.intro ⟨rfl, rfl⟩ ?_ | ((refine And.intro (fun _ => ?_) (fun _ => ?_)) <;> try (exfalso; omega))))
      all_goals exact Exists.intro [] (And.intro rfl (And.intro trivial rfl))
    rw [if_neg (by omega)] at hR
    cases st with
    | nil =>
      have hlen : ([] : List Nat).length = 0 := rfl
      (repeat' (first | refine Exists.intro i (Exists.intro bs[i] (And.intro ⟨rfl, bs_at hil⟩ ?_)) | refine And.intro (neI rfl) ?_ | refine And.intro ⟨rfl, leR rfl, onesR rfl⟩ ?_ | refine And.intro ⟨rfl, leR rfl⟩ ?_ | refine draw_rule2 hfol (fun KK hKK => ?_) | refine hKK _ _ _ (by kernel_rfl) ?_ | refine region_rule (fun KK hKK => ?_) | refine hKK _ _ ?_ | refine And.intro (Eq.refl true) ?_ | refine Exists.intro _ (And.intro (wI (by omega)) ?_) | refine Exists.intro _ (And.intro (wU (by omega)) ?_) | refine Exists.intro _ (And.intro ⟨rfl, by omega⟩ ?_) | refine Exists.intro _ (And.intro rfl ?_) | refine And.intro rfl ?_ | refine And.intro ⟨rfl, rfl⟩ ?_ | ((refine And.intro (fun _ => ?_) (fun _ => ?_)) <;> try (exfalso; omega))))
      all_goals exact Exists.intro [] (And.intro rfl (And.intro trivial rfl))
    | cons x r =>
      simp only [] at hR
      have hx := hlt x (by simp)
      simp only [List.length_cons] at hsl
      have hlen : (x :: r).length = r.length + 1 := rfl
      have hw : IntKind.i64.wrap (((r.length + 1 : Nat) : Int) - 1) = ((r.length : Nat) : Int) := wC (by omega) (by omega)
      (repeat' (first | refine Exists.intro i (Exists.intro bs[i] (And.intro ⟨rfl, bs_at hil⟩ ?_)) | refine Exists.intro _ (And.intro hw ?_) | refine Exists.intro _ (And.intro rowS_top ?_) | refine Exists.intro r.length (Exists.intro (rowS r) (And.intro ⟨rfl, by show r.length ≤ r.length + 1; omega, rfl, rowS_pop⟩ ?_)) | refine Exists.intro ((il (oI o) bs.size).set x (.int .i64 (i : Int))) (And.intro ⟨by rw [il_len]; omega, rfl⟩ ?_) | refine Exists.intro (il (oI (up2 o x i)) bs.size) (And.intro ⟨by rw [List.length_set, il_len]; omega, up2_set⟩ ?_) | refine And.intro (neI rfl) ?_ | refine And.intro ⟨rfl, leR rfl, onesR rfl⟩ ?_ | refine And.intro ⟨rfl, leR rfl⟩ ?_ | refine draw_rule2 hfol (fun KK hKK => ?_) | refine hKK _ _ _ (by kernel_rfl) ?_ | refine region_rule (fun KK hKK => ?_) | refine hKK _ _ ?_ | refine And.intro (Eq.refl true) ?_ | refine Exists.intro _ (And.intro (wI (by omega)) ?_) | refine Exists.intro _ (And.intro (wU (by omega)) ?_) | refine Exists.intro _ (And.intro ⟨rfl, by omega⟩ ?_) | refine Exists.intro _ (And.intro rfl ?_) | refine And.intro rfl ?_ | refine And.intro ⟨rfl, rfl⟩ ?_ | ((refine And.intro (fun _ => ?_) (fun _ => ?_)) <;> try (exfalso; omega))))
      refine Exists.intro (i + 1, r, up2 o x i) (Exists.intro [0, 2] (And.intro ⟨⟨by omega, by omega, fun y hy => by have := hlt y (by simp [hy]); omega, by rw [hd']; exact hR⟩, (by show bs.size - (i + 1) < bs.size - i; omega)⟩ ⟨⟨rfl, rfl, rfl, rfl, rfl, trivial⟩, ⟨rfl, rfl, trivial⟩, rfl⟩))
end Go.Proofs.Ytgpgcdofhkpeaaa.VE
