/- Contracts of functions of the given program, for all arguments that the contract names; see each theorem. -/
import Derived.Test.YtcibbadioijmcaaM10
set_option linter.all false
namespace Go.Proofs.Ytcibbadioijmcaa.VE
open Go
set_option maxHeartbeats 3200000
set_option maxRecDepth 100000

abbrev zBl : O := .pc (bcB 0 (List.replicate 16 0) (List.replicate 16 false)) T_i_Blobbed
abbrev zL2 : O := .pc (lc2 (0, 0)) T_a2q_int64
abbrev fB32 (f : Nat → Bool) : O := .pc (bl f 32) T_a32q_bool
def fillI (i x : Nat) : Nat := if x < i then x else 0
theorem fillI_0 : lV32 (fillI 0) = lV32 fun _ => 0 := il_congr fun x _ => by
  show ((fillI 0 x : Nat) : Int) = _
  unfold fillI; rw [if_neg (by omega)]; rfl
theorem fillI_32 : lV32 (fillI 32) = lV32 fun x => x := il_congr fun x hx => by
  show ((fillI 32 x : Nat) : Int) = ((x : Nat) : Int)
  unfold fillI; rw [if_pos hx]
theorem fillI_set {i : Nat} : (lV32 (fillI i)).set i (.int .i64 (i : Int)) = lV32 (fillI (i + 1)) := il_set fun x _ => by
  show ((fillI (i + 1) x : Nat) : Int) = if x = i then ((i : Nat) : Int) else ((fillI i x : Nat) : Int)
  unfold fillI
  by_cases hx : x = i
  · subst hx; rw [if_pos (by omega), if_pos rfl]
  · rw [if_neg hx]
    by_cases h : x < i
    · rw [if_pos h, if_pos (by omega)]
    · rw [if_neg h, if_neg (by omega)]
theorem bl_or {f : Nat → Bool} {x : Nat} : (bl f 32).set x (.bool true) = bl (fun v => f v || decide (v = x)) 32 := bl_set fun j _ => by
  by_cases h : j = x
  · rw [if_pos h, decide_eq_true h, Bool.or_true]
  · rw [if_neg h, decide_eq_false h, Bool.or_false]
theorem rB_len {n : Nat} {L : Nat → Nat} {B : Nat → Bool} : ∀ {i}, (rB n L B i).length = 16
  | 0 => by simp [rB]
  | i + 1 => by simp [rB, rB_len (i := i)]
theorem bl32_len {f : Nat → Bool} : (bl f 32).length = 32 := bl_len
section
variable (n : Nat) (a b : List Nat) (ha : IsV n a) (hb : IsV n b) (ba bb : List Bool) (lba : ba.length = 16) (lbb : bb.length = 16)
include ha hb lba lbb
theorem s_l09Times : Spec Try.prog n_s_l09Times [bV n a ba, bV n b bb] [] (mbV n (oL n a b n).1 (rB n (LB n a b n) (Bk ba bb (LB n a b n) (2 * n)) n) (lpS n (LB n a b n) (Bk ba bb (LB n a b n) (2 * n)) n 0 (Ok n (LB n a b n) n) (0, 0))) [] := by
  have la := ha.len
  have lb := hb.len
  have hn := ha.n8
  have hn1 := ha.n1
  have hfol : Try.prog.follows .mixedOrders = true := rfl
  have w2n : IntKind.i64.wrap (2 * (n : Int)) = ((2 * n : Nat) : Int) := wC (by omega) (by omega)
  refine SpecW.of_EV hf_s_l09Times hc_s_l09Times rfl rfl rfl fun w0 B ρ0 _ => ?_
  (repeat' (first | refine Exists.intro (lV32 fun _ => 0) (And.intro ⟨leR rfl, rfl⟩ ?_) | refine And.intro (neI rfl) ?_ | refine And.intro ⟨rfl, leR rfl, onesR rfl⟩ ?_ | refine And.intro ⟨rfl, leR rfl⟩ ?_ | refine draw_rule2 hfol (fun KK hKK => ?_) | refine hKK _ _ _ (by kernel_rfl) ?_ | refine region_rule (fun KK hKK => ?_) | refine hKK _ _ ?_ | refine And.intro (Eq.refl true) ?_ | refine Exists.intro _ (And.intro (wI (by omega)) ?_) | refine Exists.intro _ (And.intro (wU (by omega)) ?_) | refine Exists.intro _ (And.intro ⟨rfl, by omega⟩ ?_) | refine Exists.intro _ (And.intro rfl ?_) | refine And.intro rfl ?_ | refine And.intro ⟨rfl, rfl⟩ ?_ | ((refine And.intro (fun _ => ?_) (fun _ => ?_)) <;> try (exfalso; omega))))
  refine loop_rule (α := Nat) (fun i => i ≤ 32)
    (fun i => [(2, .ptr 0 0), (3, .ptr 1 0), (4, .ptr 2 0), (5, .ptr 3 0), (6, vi n), (7, .ptr 4 0), (8, vi i)])
    (fun i => [.pc (bcB n a ba) T_i_Blobbed, .pc (bcB n b bb) T_i_Blobbed, zBl, zL2, .pc (lV32 (fillI i)) T_a32q_int64]) (fun i => 32 - i) 0 [0, 1, 2, 3, 4]
    (by omega) ⟨⟨rfl, rfl, rfl, rfl, rfl, rfl, rfl, trivial⟩, ⟨rfl, rfl, rfl, rfl, by rw [fillI_0]; rfl, trivial⟩, rfl⟩ ?_
  rintro i g hi
  by_cases h9 : i = 32
  rotate_left
  · have hil : i < 32 := by omega
    (repeat' (first | refine Exists.intro (lV32 (fillI (i + 1))) (And.intro ⟨by rw [l32_len]; omega, fillI_set⟩ ?_) | refine And.intro (neI rfl) ?_ | refine And.intro ⟨rfl, leR rfl, onesR rfl⟩ ?_ | refine And.intro ⟨rfl, leR rfl⟩ ?_ | refine draw_rule2 hfol (fun KK hKK => ?_) | refine hKK _ _ _ (by kernel_rfl) ?_ | refine region_rule (fun KK hKK => ?_) | refine hKK _ _ ?_ | refine And.intro (Eq.refl true) ?_ | refine Exists.intro _ (And.intro (wI (by omega)) ?_) | refine Exists.intro _ (And.intro (wU (by omega)) ?_) | refine Exists.intro _ (And.intro ⟨rfl, by omega⟩ ?_) | refine Exists.intro _ (And.intro rfl ?_) | refine And.intro rfl ?_ | refine And.intro ⟨rfl, rfl⟩ ?_ | ((refine And.intro (fun _ => ?_) (fun _ => ?_)) <;> try (exfalso; omega))))
    refine Exists.intro (i + 1) (Exists.intro [0, 1, 2, 3, 4] (And.intro ⟨by omega, (by show 32 - (i + 1) < 32 - i; omega)⟩ ⟨⟨rfl, rfl, rfl, rfl, rfl, rfl, rfl, trivial⟩, ⟨rfl, rfl, rfl, rfl, rfl, trivial⟩, rfl⟩))
  subst h9
  (repeat' (first | refine And.intro (neI rfl) ?_ | refine And.intro ⟨rfl, leR rfl, onesR rfl⟩ ?_ | refine And.intro ⟨rfl, leR rfl⟩ ?_ | refine draw_rule2 hfol (fun KK hKK => ?_) | refine hKK _ _ _ (by kernel_rfl) ?_ | refine region_rule (fun KK hKK => ?_) | refine hKK _ _ ?_ | refine And.intro (Eq.refl true) ?_ | refine Exists.intro _ (And.intro (wI (by omega)) ?_) | refine Exists.intro _ (And.intro (wU (by omega)) ?_) | refine Exists.intro _ (And.intro ⟨rfl, by omega⟩ ?_) | refine Exists.intro _ (And.intro rfl ?_) | refine And.intro rfl ?_ | refine And.intro ⟨rfl, rfl⟩ ?_ | ((refine And.intro (fun _ => ?_) (fun _ => ?_)) <;> try (exfalso; omega))))
  refine loop_rule (α := Nat) (fun i => i ≤ 2 * n)
    (fun i => [(2, .ptr 0 0), (3, .ptr 1 0), (4, .ptr 2 0), (5, .ptr 3 0), (6, vi n), (7, .ptr 4 0), (9, vi i)])
    (fun i => [.pc (bcB n a ba) T_i_Blobbed, .pc (bcB n b bb) T_i_Blobbed, zBl, zL2, .pc (lV32 (LA a b i)) T_a32q_int64]) (fun i => 2 * n - i) 0 [0, 1, 2, 3, 4]
    (by omega) ⟨⟨rfl, rfl, rfl, rfl, rfl, rfl, rfl, trivial⟩, ⟨rfl, rfl, rfl, rfl, by rw [fillI_32]; rfl, trivial⟩, rfl⟩ ?_
  clear g hi
  rintro i g hi
  by_cases h9 : i = 2 * n
  rotate_left
  · have hil : i < 2 * n := by omega
    have ai := ha.lt i hil
    have bi := hb.lt i hil
    have hat := bcB_at (s := (n : Int)) la lba (i := i) (by omega)
    have hbt := bcB_at (s := (n : Int)) lb lbb (i := i) (by omega)
    have c1 := s_ljoin (LA a b i) i (a.getD i 0) (by omega) (by omega)
    have c2 := s_ljoin (jnL (LA a b i) i (a.getD i 0)) (16 + i) (16 + b.getD i 0) (by omega) (by omega)
    rw [← LA_succ] at c2
    have e1 : IntKind.i64.wrap (16 + (i : Int)) = ((16 + i : Nat) : Int) := wC (by omega) (by omega)
    have e2 : IntKind.i64.wrap (16 + ((b.getD i 0 : Nat) : Int)) = ((16 + b.getD i 0 : Nat) : Int) := wC (by omega) (by omega)
    generalize hL0 : LA a b i = L0 at c1 c2
    generalize hL1 : jnL L0 i (a.getD i 0) = L1 at c1 c2
    generalize hL2 : LA a b (i + 1) = L2 at c2
    (repeat' (first | refine Exists.intro _ (And.intro w2n ?_) | refine Exists.intro _ (And.intro hat ?_) | refine Exists.intro _ (And.intro hbt ?_) | refine Exists.intro _ (And.intro e1 ?_) | refine Exists.intro _ (And.intro e2 ?_) | refine Exists.intro (lV32 L0) (And.intro ⟨l32_len, l32_all⟩ ?_) | refine (c1).pure rfl ?_ | refine Exists.intro (lV32 L1) (And.intro ⟨leR rfl, spl0 (leR rfl)⟩ ?_) | refine Exists.intro (lV32 L1) (And.intro ⟨l32_len, l32_all⟩ ?_) | refine (c2).pure rfl ?_ | refine Exists.intro (lV32 L2) (And.intro ⟨leR rfl, spl0 (leR rfl)⟩ ?_) | refine And.intro ⟨l32_len, leR rfl, il_ones⟩ ?_ | refine And.intro (neI rfl) ?_ | refine And.intro ⟨rfl, leR rfl, onesR rfl⟩ ?_ | refine And.intro ⟨rfl, leR rfl⟩ ?_ | refine draw_rule2 hfol (fun KK hKK => ?_) | refine hKK _ _ _ (by kernel_rfl) ?_ | refine region_rule (fun KK hKK => ?_) | refine hKK _ _ ?_ | refine And.intro (Eq.refl true) ?_ | refine Exists.intro _ (And.intro (wI (by omega)) ?_) | refine Exists.intro _ (And.intro (wU (by omega)) ?_) | refine Exists.intro _ (And.intro ⟨rfl, by omega⟩ ?_) | refine Exists.intro _ (And.intro rfl ?_) | refine And.intro rfl ?_ | refine And.intro ⟨rfl, rfl⟩ ?_ | ((refine And.intro (fun _ => ?_) (fun _ => ?_)) <;> try (exfalso; omega))))
    refine Exists.intro (i + 1) (Exists.intro [0, 1, 2, 3, 4] (And.intro ⟨by omega, (by show 2 * n - (i + 1) < 2 * n - i; omega)⟩ ⟨⟨rfl, rfl, rfl, rfl, rfl, rfl, rfl, trivial⟩, ⟨rfl, rfl, rfl, rfl, by rw [hL2]; rfl, trivial⟩, rfl⟩))
  subst h9
  (repeat' (first | refine Exists.intro _ (And.intro w2n ?_) | refine And.intro (neI rfl) ?_ | refine And.intro ⟨rfl, leR rfl, onesR rfl⟩ ?_ | refine And.intro ⟨rfl, leR rfl⟩ ?_ | refine draw_rule2 hfol (fun KK hKK => ?_) | refine hKK _ _ _ (by kernel_rfl) ?_ | refine region_rule (fun KK hKK => ?_) | refine hKK _ _ ?_ | refine And.intro (Eq.refl true) ?_ | refine Exists.intro _ (And.intro (wI (by omega)) ?_) | refine Exists.intro _ (And.intro (wU (by omega)) ?_) | refine Exists.intro _ (And.intro ⟨rfl, by omega⟩ ?_) | refine Exists.intro _ (And.intro rfl ?_) | refine And.intro rfl ?_ | refine And.intro ⟨rfl, rfl⟩ ?_ | ((refine And.intro (fun _ => ?_) (fun _ => ?_)) <;> try (exfalso; omega))))
  refine loop_rule (α := Nat) (fun i => i ≤ n)
    (fun i => [(2, .ptr 0 0), (3, .ptr 1 0), (4, .ptr 2 0), (5, .ptr 3 0), (6, vi n), (7, .ptr 4 0), (10, vi i)])
    (fun i => [.pc (bcB n a ba) T_i_Blobbed, .pc (bcB n b bb) T_i_Blobbed, zBl, zL2, .pc (lV32 (LB n a b i)) T_a32q_int64]) (fun i => n - i) 0 [0, 1, 2, 3, 4]
    (by omega) ⟨⟨rfl, rfl, rfl, rfl, rfl, rfl, rfl, trivial⟩, ⟨rfl, rfl, rfl, rfl, rfl, trivial⟩, rfl⟩ ?_
  clear g hi
  rintro i g hi
  by_cases h9 : i = n
  rotate_left
  · have hil : i < n := by omega
    have c1 := s_ljoin (LB n a b i) (n + i) (16 + i) (by omega) (by omega)
    rw [← LB_succ] at c1
    have e1 : IntKind.i64.wrap (16 + (i : Int)) = ((16 + i : Nat) : Int) := wC (by omega) (by omega)
    have e2 : IntKind.i64.wrap ((n : Int) + (i : Int)) = ((n + i : Nat) : Int) := wC (by omega) (by omega)
    generalize hL0 : LB n a b i = L0 at c1
    generalize hL2 : LB n a b (i + 1) = L2 at c1
    (repeat' (first | refine Exists.intro _ (And.intro e1 ?_) | refine Exists.intro _ (And.intro e2 ?_) | refine Exists.intro (lV32 L0) (And.intro ⟨l32_len, l32_all⟩ ?_) | refine (c1).pure rfl ?_ | refine Exists.intro (lV32 L2) (And.intro ⟨leR rfl, spl0 (leR rfl)⟩ ?_) | refine And.intro ⟨l32_len, leR rfl, il_ones⟩ ?_ | refine And.intro (neI rfl) ?_ | refine And.intro ⟨rfl, leR rfl, onesR rfl⟩ ?_ | refine And.intro ⟨rfl, leR rfl⟩ ?_ | refine draw_rule2 hfol (fun KK hKK => ?_) | refine hKK _ _ _ (by kernel_rfl) ?_ | refine region_rule (fun KK hKK => ?_) | refine hKK _ _ ?_ | refine And.intro (Eq.refl true) ?_ | refine Exists.intro _ (And.intro (wI (by omega)) ?_) | refine Exists.intro _ (And.intro (wU (by omega)) ?_) | refine Exists.intro _ (And.intro ⟨rfl, by omega⟩ ?_) | refine Exists.intro _ (And.intro rfl ?_) | refine And.intro rfl ?_ | refine And.intro ⟨rfl, rfl⟩ ?_ | ((refine And.intro (fun _ => ?_) (fun _ => ?_)) <;> try (exfalso; omega))))
    refine Exists.intro (i + 1) (Exists.intro [0, 1, 2, 3, 4] (And.intro ⟨by omega, (by show n - (i + 1) < n - i; omega)⟩ ⟨⟨rfl, rfl, rfl, rfl, rfl, rfl, rfl, trivial⟩, ⟨rfl, rfl, rfl, rfl, by rw [hL2]; rfl, trivial⟩, rfl⟩))
  subst h9
  have hLlt := LB_lt ha hb i (Nat.le_refl i)
  generalize LB i a b i = L at hLlt
  (repeat' (first | refine Exists.intro (bl (fun _ => false) 32) (And.intro ⟨leR rfl, rfl⟩ ?_) | refine And.intro (neI rfl) ?_ | refine And.intro ⟨rfl, leR rfl, onesR rfl⟩ ?_ | refine And.intro ⟨rfl, leR rfl⟩ ?_ | refine draw_rule2 hfol (fun KK hKK => ?_) | refine hKK _ _ _ (by kernel_rfl) ?_ | refine region_rule (fun KK hKK => ?_) | refine hKK _ _ ?_ | refine And.intro (Eq.refl true) ?_ | refine Exists.intro _ (And.intro (wI (by omega)) ?_) | refine Exists.intro _ (And.intro (wU (by omega)) ?_) | refine Exists.intro _ (And.intro ⟨rfl, by omega⟩ ?_) | refine Exists.intro _ (And.intro rfl ?_) | refine And.intro rfl ?_ | refine And.intro ⟨rfl, rfl⟩ ?_ | ((refine And.intro (fun _ => ?_) (fun _ => ?_)) <;> try (exfalso; omega))))
  refine loop_rule (α := Nat) (fun k => k ≤ 2 * i)
    (fun k => [(2, .ptr 0 0), (3, .ptr 1 0), (4, .ptr 2 0), (5, .ptr 3 0), (6, vi i), (7, .ptr 4 0), (11, .ptr 5 0), (12, .ptr 6 0), (13, vi k)])
    (fun k => [.pc (bcB i a ba) T_i_Blobbed, .pc (bcB i b bb) T_i_Blobbed, zBl, zL2, .pc (lV32 L) T_a32q_int64, .pc (bl (Bk ba bb L k) 32) T_a32q_bool, .pc (bl (fun _ => false) 32) T_a32q_bool]) (fun k => 2 * i - k) 0 [0, 1, 2, 3, 4, 5, 6]
    (by omega) ⟨⟨rfl, rfl, rfl, rfl, rfl, rfl, rfl, rfl, rfl, trivial⟩, ⟨rfl, rfl, rfl, rfl, rfl, rfl, rfl, trivial⟩, rfl⟩ ?_
  clear g hi
  rintro k g hk
  by_cases h9 : k = 2 * i
  rotate_left
  · have hkl : k < 2 * i := by omega
    have m1 : (lV32 L)[k]? = some (.int .i64 ((L k : Nat) : Int)) := il_at (by omega)
    have m2 : (lV32 L)[16 + k]? = some (.int .i64 ((L (16 + k) : Nat) : Int)) := il_at (by omega)
    have l1 := hLlt k (by omega)
    have l2 := hLlt (16 + k) (by omega)
    have e1 : IntKind.i64.wrap (16 + (k : Int)) = ((16 + k : Nat) : Int) := wC (by omega) (by omega)
    cases hba : ba.getD k false with
    | false =>
      have hat := bcB_bat (s := (i : Int)) (m := a) la lba (i := k) (by omega) hba
      cases hbb : bb.getD k false with
      | false =>
        have hbt := bcB_bat (s := (i : Int)) (m := b) lb lbb (i := k) (by omega) hbb
        have hE : bl (Bk ba bb L (k + 1)) 32 = bl (Bk ba bb L k) 32 := bl_congr fun v _ => by rw [Bk, hba, hbb]; simp only [Bool.false_and, Bool.true_and, Bool.or_false]
        (repeat' (first | refine Exists.intro _ (And.intro w2n ?_) | refine Exists.intro _ (And.intro hat ?_) | refine Exists.intro _ (And.intro hbt ?_) | refine Exists.intro _ (And.intro e1 ?_) | refine And.intro (neI rfl) ?_ | refine And.intro ⟨rfl, leR rfl, onesR rfl⟩ ?_ | refine And.intro ⟨rfl, leR rfl⟩ ?_ | refine draw_rule2 hfol (fun KK hKK => ?_) | refine hKK _ _ _ (by kernel_rfl) ?_ | refine region_rule (fun KK hKK => ?_) | refine hKK _ _ ?_ | refine And.intro (Eq.refl true) ?_ | refine Exists.intro _ (And.intro (wI (by omega)) ?_) | refine Exists.intro _ (And.intro (wU (by omega)) ?_) | refine Exists.intro _ (And.intro ⟨rfl, by omega⟩ ?_) | refine Exists.intro _ (And.intro rfl ?_) | refine And.intro rfl ?_ | refine And.intro ⟨rfl, rfl⟩ ?_ | ((refine And.intro (fun _ => ?_) (fun _ => ?_)) <;> try (exfalso; omega))))
        refine Exists.intro (k + 1) (Exists.intro [0, 1, 2, 3, 4, 5, 6] (And.intro ⟨by omega, (by show 2 * i - (k + 1) < 2 * i - k; omega)⟩ ⟨⟨rfl, rfl, rfl, rfl, rfl, rfl, rfl, rfl, rfl, trivial⟩, ⟨rfl, rfl, rfl, rfl, rfl, by rw [hE]; rfl, rfl, trivial⟩, rfl⟩))
      | true =>
        have hbt := bcB_bat (s := (i : Int)) (m := b) lb lbb (i := k) (by omega) hbb
        have hE : bl (Bk ba bb L (k + 1)) 32 = bl (fun v => Bk ba bb L k v || decide (v = L (16 + k))) 32 := bl_congr fun v _ => by rw [Bk, hba, hbb]; simp only [Bool.false_and, Bool.true_and, Bool.or_false]
        (repeat' (first | refine Exists.intro _ (And.intro w2n ?_) | refine Exists.intro _ (And.intro hat ?_) | refine Exists.intro _ (And.intro hbt ?_) | refine Exists.intro _ (And.intro e1 ?_) | refine Exists.intro _ (And.intro m2 ?_) | refine Exists.intro (bl (fun v => Bk ba bb L k v || decide (v = L (16 + k))) 32) (And.intro ⟨by rw [bl32_len]; omega, bl_or⟩ ?_) | refine And.intro (neI rfl) ?_ | refine And.intro ⟨rfl, leR rfl, onesR rfl⟩ ?_ | refine And.intro ⟨rfl, leR rfl⟩ ?_ | refine draw_rule2 hfol (fun KK hKK => ?_) | refine hKK _ _ _ (by kernel_rfl) ?_ | refine region_rule (fun KK hKK => ?_) | refine hKK _ _ ?_ | refine And.intro (Eq.refl true) ?_ | refine Exists.intro _ (And.intro (wI (by omega)) ?_) | refine Exists.intro _ (And.intro (wU (by omega)) ?_) | refine Exists.intro _ (And.intro ⟨rfl, by omega⟩ ?_) | refine Exists.intro _ (And.intro rfl ?_) | refine And.intro rfl ?_ | refine And.intro ⟨rfl, rfl⟩ ?_ | ((refine And.intro (fun _ => ?_) (fun _ => ?_)) <;> try (exfalso; omega))))
        refine Exists.intro (k + 1) (Exists.intro [0, 1, 2, 3, 4, 5, 6] (And.intro ⟨by omega, (by show 2 * i - (k + 1) < 2 * i - k; omega)⟩ ⟨⟨rfl, rfl, rfl, rfl, rfl, rfl, rfl, rfl, rfl, trivial⟩, ⟨rfl, rfl, rfl, rfl, rfl, by rw [hE]; rfl, rfl, trivial⟩, rfl⟩))
    | true =>
      have hat := bcB_bat (s := (i : Int)) (m := a) la lba (i := k) (by omega) hba
      cases hbb : bb.getD k false with
      | false =>
        have hbt := bcB_bat (s := (i : Int)) (m := b) lb lbb (i := k) (by omega) hbb
        have hE : bl (Bk ba bb L (k + 1)) 32 = bl (fun v => Bk ba bb L k v || decide (v = L k)) 32 := bl_congr fun v _ => by rw [Bk, hba, hbb]; simp only [Bool.false_and, Bool.true_and, Bool.or_false]
        (repeat' (first | refine Exists.intro _ (And.intro w2n ?_) | refine Exists.intro _ (And.intro hat ?_) | refine Exists.intro _ (And.intro hbt ?_) | refine Exists.intro _ (And.intro e1 ?_) | refine Exists.intro _ (And.intro m1 ?_) | refine Exists.intro (bl (fun v => Bk ba bb L k v || decide (v = L k)) 32) (And.intro ⟨by rw [bl32_len]; omega, bl_or⟩ ?_) | refine And.intro (neI rfl) ?_ | refine And.intro ⟨rfl, leR rfl, onesR rfl⟩ ?_ | refine And.intro ⟨rfl, leR rfl⟩ ?_ | refine draw_rule2 hfol (fun KK hKK => ?_) | refine hKK _ _ _ (by kernel_rfl) ?_ | refine region_rule (fun KK hKK => ?_) | refine hKK _ _ ?_ | refine And.intro (Eq.refl true) ?_ | refine Exists.intro _ (And.intro (wI (by omega)) ?_) | refine Exists.intro _ (And.intro (wU (by omega)) ?_) | refine Exists.intro _ (And.intro ⟨rfl, by omega⟩ ?_) | refine Exists.intro _ (And.intro rfl ?_) | refine And.intro rfl ?_ | refine And.intro ⟨rfl, rfl⟩ ?_ | ((refine And.intro (fun _ => ?_) (fun _ => ?_)) <;> try (exfalso; omega))))
        refine Exists.intro (k + 1) (Exists.intro [0, 1, 2, 3, 4, 5, 6] (And.intro ⟨by omega, (by show 2 * i - (k + 1) < 2 * i - k; omega)⟩ ⟨⟨rfl, rfl, rfl, rfl, rfl, rfl, rfl, rfl, rfl, trivial⟩, ⟨rfl, rfl, rfl, rfl, rfl, by rw [hE]; rfl, rfl, trivial⟩, rfl⟩))
      | true =>
        have hbt := bcB_bat (s := (i : Int)) (m := b) lb lbb (i := k) (by omega) hbb
        have hE : bl (Bk ba bb L (k + 1)) 32 = bl (fun v => (Bk ba bb L k v || decide (v = L k)) || decide (v = L (16 + k))) 32 := bl_congr fun v _ => by rw [Bk, hba, hbb]; simp only [Bool.false_and, Bool.true_and, Bool.or_false]
        (repeat' (first | refine Exists.intro _ (And.intro w2n ?_) | refine Exists.intro _ (And.intro hat ?_) | refine Exists.intro _ (And.intro hbt ?_) | refine Exists.intro _ (And.intro e1 ?_) | refine Exists.intro _ (And.intro m1 ?_) | refine Exists.intro _ (And.intro m2 ?_) | refine Exists.intro (bl (fun v => Bk ba bb L k v || decide (v = L k)) 32) (And.intro ⟨by rw [bl32_len]; omega, bl_or⟩ ?_) | refine Exists.intro (bl (fun v => (Bk ba bb L k v || decide (v = L k)) || decide (v = L (16 + k))) 32) (And.intro ⟨by rw [bl32_len]; omega, bl_or⟩ ?_) | refine And.intro (neI rfl) ?_ | refine And.intro ⟨rfl, leR rfl, onesR rfl⟩ ?_ | refine And.intro ⟨rfl, leR rfl⟩ ?_ | refine draw_rule2 hfol (fun KK hKK => ?_) | refine hKK _ _ _ (by kernel_rfl) ?_ | refine region_rule (fun KK hKK => ?_) | refine hKK _ _ ?_ | refine And.intro (Eq.refl true) ?_ | refine Exists.intro _ (And.intro (wI (by omega)) ?_) | refine Exists.intro _ (And.intro (wU (by omega)) ?_) | refine Exists.intro _ (And.intro ⟨rfl, by omega⟩ ?_) | refine Exists.intro _ (And.intro rfl ?_) | refine And.intro rfl ?_ | refine And.intro ⟨rfl, rfl⟩ ?_ | ((refine And.intro (fun _ => ?_) (fun _ => ?_)) <;> try (exfalso; omega))))
        refine Exists.intro (k + 1) (Exists.intro [0, 1, 2, 3, 4, 5, 6] (And.intro ⟨by omega, (by show 2 * i - (k + 1) < 2 * i - k; omega)⟩ ⟨⟨rfl, rfl, rfl, rfl, rfl, rfl, rfl, rfl, rfl, trivial⟩, ⟨rfl, rfl, rfl, rfl, rfl, by rw [hE]; rfl, rfl, trivial⟩, rfl⟩))
  subst h9
  have hst := s_stimes i a b ha hb
  have lo := (oL_inv ha hb i (Nat.le_refl i)).1
  generalize (oL i a b i).1 = P at hst lo
  generalize Bk ba bb L (2 * i) = BF
  (repeat' (first | refine Exists.intro _ (And.intro w2n ?_) | refine (hst).pure rfl ?_ | refine Exists.intro (pcl i a) (And.intro ⟨pcl_len la, bcB_dia la lba⟩ ?_) | refine Exists.intro (pcl i b) (And.intro ⟨pcl_len lb, bcB_dia lb lbb⟩ ?_) | refine Exists.intro (pcl (i : Int) P) (And.intro ⟨pcl_len lo, pcl_all lo⟩ ?_) | refine And.intro ⟨pcl_len lo, leR rfl, pcl_ones⟩ ?_ | refine Exists.intro (pcl (i : Int) P) (And.intro ⟨leR rfl, spl0 (leR rfl)⟩ ?_) | refine And.intro ⟨pcl_size lo, leR rfl⟩ ?_ | refine Exists.intro (bcB i P (List.replicate 16 false)) (And.intro (bcB_sd (s := 0) (m := List.replicate 16 0) (bs := List.replicate 16 false) r16n r16b) ?_) | refine And.intro ⟨bcB_len lo r16b, leR rfl, bcB_ones⟩ ?_ | refine Exists.intro (bcB i P (List.replicate 16 false)) (And.intro ⟨leR rfl, spl0 (leR rfl)⟩ ?_) | refine Exists.intro (lc2 (0, 0)) (And.intro ⟨leR rfl, rfl⟩ ?_) | refine And.intro (neI rfl) ?_ | refine And.intro ⟨rfl, leR rfl, onesR rfl⟩ ?_ | refine And.intro ⟨rfl, leR rfl⟩ ?_ | refine draw_rule2 hfol (fun KK hKK => ?_) | refine hKK _ _ _ (by kernel_rfl) ?_ | refine region_rule (fun KK hKK => ?_) | refine hKK _ _ ?_ | refine And.intro (Eq.refl true) ?_ | refine Exists.intro _ (And.intro (wI (by omega)) ?_) | refine Exists.intro _ (And.intro (wU (by omega)) ?_) | refine Exists.intro _ (And.intro ⟨rfl, by omega⟩ ?_) | refine Exists.intro _ (And.intro rfl ?_) | refine And.intro rfl ?_ | refine And.intro ⟨rfl, rfl⟩ ?_ | ((refine And.intro (fun _ => ?_) (fun _ => ?_)) <;> try (exfalso; omega))))
  refine loop_rule (α := Nat) (fun k => k ≤ i)
    (fun k => [(2, .ptr 0 0), (3, .ptr 1 0), (4, .ptr 2 0), (5, .ptr 3 0), (6, vi i), (7, .ptr 4 0), (11, .ptr 5 0), (12, .ptr 6 0), (16, .ptr 7 0), (17, .ptr 8 0), (18, vi k)])
    (fun k => [.pc (bcB i a ba) T_i_Blobbed, .pc (bcB i b bb) T_i_Blobbed, zBl, zL2, .pc (lV32 L) T_a32q_int64, .pc (bl BF 32) T_a32q_bool, .pc (bl (Ok i L k) 32) T_a32q_bool, .pc (bcB i P (rB i L BF k)) T_i_Blobbed, .pc (lc2 (0, 0)) T_a2q_int64]) (fun k => i - k) 0 [0, 1, 2, 3, 4, 5, 6, 8, 9]
    (by omega) ⟨⟨rfl, rfl, rfl, rfl, rfl, rfl, rfl, rfl, rfl, rfl, rfl, trivial⟩, ⟨rfl, rfl, rfl, rfl, rfl, rfl, rfl, rfl, rfl, trivial⟩, rfl⟩ ?_
  clear g hk
  rintro k g hk
  by_cases h9 : k = i
  rotate_left
  · have hkl : k < i := by omega
    have lr := rB_len (n := i) (L := L) (B := BF) (i := k)
    have lr1 : ((rB i L BF k).set k (BF (L k))).length = 16 := by simpa using lr
    have m1 : (lV32 L)[k]? = some (.int .i64 ((L k : Nat) : Int)) := il_at (by omega)
    have m2 : (lV32 L)[16 + i + k]? = some (.int .i64 ((L (16 + i + k) : Nat) : Int)) := il_at (by omega)
    have l1 := hLlt k (by omega)
    have l2 := hLlt (16 + i + k) (by omega)
    have b1 : (bl BF 32)[L k]? = some (.bool (BF (L k))) := bl_at l1
    have b2 : (bl BF 32)[L (16 + i + k)]? = some (.bool (BF (L (16 + i + k)))) := bl_at l2
    have e1 : IntKind.i64.wrap (16 + (i : Int)) = ((16 + i : Nat) : Int) := wC (by omega) (by omega)
    have e2 : IntKind.i64.wrap (((16 + i : Nat) : Int) + (k : Int)) = ((16 + i + k : Nat) : Int) := wC (by omega) (by omega)
    have e3 : IntKind.i64.wrap ((i : Int) + (k : Int)) = ((i + k : Nat) : Int) := wC (by omega) (by omega)
    have hOk : bl (Ok i L (k + 1)) 32 = bl (fun v => (Ok i L k v || decide (v = L k)) || decide (v = L (16 + i + k))) 32 := bl_congr fun v _ => rfl
    (repeat' (first | refine Exists.intro _ (And.intro e1 ?_) | refine Exists.intro _ (And.intro e2 ?_) | refine Exists.intro _ (And.intro e3 ?_) | refine Exists.intro _ (And.intro m1 ?_) | refine Exists.intro _ (And.intro m2 ?_) | refine Exists.intro _ (And.intro b1 ?_) | refine Exists.intro _ (And.intro b2 ?_) | refine Exists.intro (bl (fun v => Ok i L k v || decide (v = L k)) 32) (And.intro ⟨by rw [bl32_len]; omega, bl_or⟩ ?_) | refine Exists.intro (bl (fun v => (Ok i L k v || decide (v = L k)) || decide (v = L (16 + i + k))) 32) (And.intro ⟨by rw [bl32_len]; omega, bl_or⟩ ?_) | refine Exists.intro (bcB i P ((rB i L BF k).set k (BF (L k)))) (And.intro ⟨by rw [bcB_len lo lr]; omega, bcB_bset lo lr⟩ ?_) | refine Exists.intro (bcB i P (rB i L BF (k + 1))) (And.intro ⟨by rw [bcB_len lo lr1]; omega, bcB_bset lo lr1⟩ ?_) | refine And.intro (neI rfl) ?_ | refine And.intro ⟨rfl, leR rfl, onesR rfl⟩ ?_ | refine And.intro ⟨rfl, leR rfl⟩ ?_ | refine draw_rule2 hfol (fun KK hKK => ?_) | refine hKK _ _ _ (by kernel_rfl) ?_ | refine region_rule (fun KK hKK => ?_) | refine hKK _ _ ?_ | refine And.intro (Eq.refl true) ?_ | refine Exists.intro _ (And.intro (wI (by omega)) ?_) | refine Exists.intro _ (And.intro (wU (by omega)) ?_) | refine Exists.intro _ (And.intro ⟨rfl, by omega⟩ ?_) | refine Exists.intro _ (And.intro rfl ?_) | refine And.intro rfl ?_ | refine And.intro ⟨rfl, rfl⟩ ?_ | ((refine And.intro (fun _ => ?_) (fun _ => ?_)) <;> try (exfalso; omega))))
    refine Exists.intro (k + 1) (Exists.intro [0, 1, 2, 3, 4, 5, 6, 7, 8] (And.intro ⟨by omega, (by show i - (k + 1) < i - k; omega)⟩ ⟨⟨rfl, rfl, rfl, rfl, rfl, rfl, rfl, rfl, rfl, rfl, rfl, trivial⟩, ⟨rfl, rfl, rfl, rfl, rfl, rfl, by rw [hOk]; rfl, rfl, rfl, trivial⟩, rfl⟩))
  subst h9
  have lr := rB_len (n := k) (L := L) (B := BF) (i := k)
  generalize rB k L BF k = RB at lr
  generalize hR : lpS k L BF k 0 (Ok k L k) (0, 0) = R
  (repeat' (first | refine And.intro (neI rfl) ?_ | refine And.intro ⟨rfl, leR rfl, onesR rfl⟩ ?_ | refine And.intro ⟨rfl, leR rfl⟩ ?_ | refine draw_rule2 hfol (fun KK hKK => ?_) | refine hKK _ _ _ (by kernel_rfl) ?_ | refine region_rule (fun KK hKK => ?_) | refine hKK _ _ ?_ | refine And.intro (Eq.refl true) ?_ | refine Exists.intro _ (And.intro (wI (by omega)) ?_) | refine Exists.intro _ (And.intro (wU (by omega)) ?_) | refine Exists.intro _ (And.intro ⟨rfl, by omega⟩ ?_) | refine Exists.intro _ (And.intro rfl ?_) | refine And.intro rfl ?_ | refine And.intro ⟨rfl, rfl⟩ ?_ | ((refine And.intro (fun _ => ?_) (fun _ => ?_)) <;> try (exfalso; omega))))
  refine loop_rule (α := Nat × (Nat → Bool) × (Nat × Nat)) (fun (j, O, c) => j ≤ k ∧ c.1 + c.2 ≤ j ∧ lpS k L BF (k - j) j O c = R)
    (fun (j, O, c) => [(4, .ptr 2 0), (5, .ptr 3 0), (6, vi k), (7, .ptr 4 0), (11, .ptr 5 0), (12, .ptr 6 0), (16, .ptr 7 0), (17, .ptr 8 0), (19, vi j)])
    (fun (j, O, c) => [.pc (bcB k a ba) T_i_Blobbed, .pc (bcB k b bb) T_i_Blobbed, zBl, zL2, .pc (lV32 L) T_a32q_int64, .pc (bl BF 32) T_a32q_bool, .pc (bl O 32) T_a32q_bool, .pc (bcB k P RB) T_i_Blobbed, .pc (lc2 c) T_a2q_int64]) (fun (j, _, _) => k - j) (0, Ok k L k, (0, 0)) [0, 1, 2, 3, 4, 5, 6, 7, 8]
    ⟨by omega, Nat.le_refl _, hR⟩ ⟨⟨rfl, rfl, rfl, rfl, rfl, rfl, rfl, rfl, rfl, trivial⟩, ⟨rfl, rfl, rfl, rfl, rfl, rfl, rfl, rfl, rfl, trivial⟩, rfl⟩ ?_
  clear g hR
  rintro ⟨j, O, ⟨c0, c1⟩⟩ g ⟨hj, hcj, hR⟩
  by_cases h9 : j = k
  · subst h9
    rw [Nat.sub_self] at hR
    replace hR : (c0, c1) = R := hR
    subst hR
    (repeat' (first | refine Exists.intro (bcB j P RB) (And.intro ⟨bcB_len lo lr, bcB_all lo lr⟩ ?_) | refine Exists.intro (lc2 (c0, c1)) (And.intro ⟨rfl, rfl⟩ ?_) | refine And.intro ⟨bcB_len lo lr, leR rfl, bcB_ones⟩ ?_ | refine Exists.intro (bcB j P RB) (And.intro ⟨leR rfl, spl0 (leR rfl)⟩ ?_) | refine Exists.intro (lc2 (c0, c1)) (And.intro ⟨leR rfl, rfl⟩ ?_) | refine And.intro (neI rfl) ?_ | refine And.intro ⟨rfl, leR rfl, onesR rfl⟩ ?_ | refine And.intro ⟨rfl, leR rfl⟩ ?_ | refine draw_rule2 hfol (fun KK hKK => ?_) | refine hKK _ _ _ (by kernel_rfl) ?_ | refine region_rule (fun KK hKK => ?_) | refine hKK _ _ ?_ | refine And.intro (Eq.refl true) ?_ | refine Exists.intro _ (And.intro (wI (by omega)) ?_) | refine Exists.intro _ (And.intro (wU (by omega)) ?_) | refine Exists.intro _ (And.intro ⟨rfl, by omega⟩ ?_) | refine Exists.intro _ (And.intro rfl ?_) | refine And.intro rfl ?_ | refine And.intro ⟨rfl, rfl⟩ ?_ | ((refine And.intro (fun _ => ?_) (fun _ => ?_)) <;> try (exfalso; omega))))
    exact Exists.intro [] (And.intro (rfl) (And.intro trivial rfl))
  have hjl : j < k := by omega
  replace hcj : c0 + c1 ≤ j := hcj
  obtain ⟨d, hd⟩ : ∃ d, k - j = d + 1 := ⟨k - j - 1, by omega⟩
  have hd' : k - (j + 1) = d := by omega
  rw [hd] at hR
  rw [lpS] at hR
  have m1 : (lV32 L)[k + j]? = some (.int .i64 ((L (k + j) : Nat) : Int)) := il_at (by omega)
  have l1 := hLlt (k + j) (by omega)
  have b1 : (bl BF 32)[L (k + j)]? = some (.bool (BF (L (k + j)))) := bl_at l1
  have o1 : (bl O 32)[L (k + j)]? = some (.bool (O (L (k + j)))) := bl_at l1
  have e3 : IntKind.i64.wrap ((k : Int) + (j : Int)) = ((k + j : Nat) : Int) := wC (by omega) (by omega)
  have f0 : IntKind.i64.wrap ((c0 : Int) + 1) = ((c0 + 1 : Nat) : Int) := wC (by omega) (by omega)
  have f1 : IntKind.i64.wrap ((c1 : Int) + 1) = ((c1 + 1 : Nat) : Int) := wC (by omega) (by omega)
  cases hO : O (L (k + j)) with
  | true =>
    rw [hO] at o1
    rw [if_pos hO] at hR
    (repeat' (first | refine Exists.intro _ (And.intro e3 ?_) | refine Exists.intro _ (And.intro m1 ?_) | refine Exists.intro _ (And.intro o1 ?_) | refine And.intro (neI rfl) ?_ | refine And.intro ⟨rfl, leR rfl, onesR rfl⟩ ?_ | refine And.intro ⟨rfl, leR rfl⟩ ?_ | refine draw_rule2 hfol (fun KK hKK => ?_) | refine hKK _ _ _ (by kernel_rfl) ?_ | refine region_rule (fun KK hKK => ?_) | refine hKK _ _ ?_ | refine And.intro (Eq.refl true) ?_ | refine Exists.intro _ (And.intro (wI (by omega)) ?_) | refine Exists.intro _ (And.intro (wU (by omega)) ?_) | refine Exists.intro _ (And.intro ⟨rfl, by omega⟩ ?_) | refine Exists.intro _ (And.intro rfl ?_) | refine And.intro rfl ?_ | refine And.intro ⟨rfl, rfl⟩ ?_ | ((refine And.intro (fun _ => ?_) (fun _ => ?_)) <;> try (exfalso; omega))))
    refine Exists.intro (j + 1, O, (c0, c1)) (Exists.intro [0, 1, 2, 3, 4, 5, 6, 7, 8] (And.intro ⟨⟨by omega, by show c0 + c1 ≤ j + 1; omega, by rw [hd']; exact hR⟩, (by show k - (j + 1) < k - j; omega)⟩ ⟨⟨rfl, rfl, rfl, rfl, rfl, rfl, rfl, rfl, rfl, trivial⟩, ⟨rfl, rfl, rfl, rfl, rfl, rfl, rfl, rfl, rfl, trivial⟩, rfl⟩))
  | false =>
    rw [hO] at o1
    rw [if_neg (by rw [hO]; decide)] at hR
    cases hBf : BF (L (k + j)) with
    | true =>
      rw [hBf] at b1 hR
      replace hR : lpS k L BF d (j + 1) (fun v => O v || decide (v = L (k + j))) (c0, c1 + 1) = R := hR
      (repeat' (first | refine Exists.intro 1 (And.intro ⟨rfl, leR rfl⟩ ?_) | refine Exists.intro _ (And.intro e3 ?_) | refine Exists.intro _ (And.intro m1 ?_) | refine Exists.intro _ (And.intro o1 ?_) | refine Exists.intro _ (And.intro b1 ?_) | refine Exists.intro _ (And.intro f1 ?_) | refine Exists.intro (bl (fun v => O v || decide (v = L (k + j))) 32) (And.intro ⟨by rw [bl32_len]; omega, bl_or⟩ ?_) | refine Exists.intro (lc2 (c0, c1 + 1)) (And.intro ⟨leR rfl, rfl⟩ ?_) | refine And.intro (neI rfl) ?_ | refine And.intro ⟨rfl, leR rfl, onesR rfl⟩ ?_ | refine And.intro ⟨rfl, leR rfl⟩ ?_ | refine draw_rule2 hfol (fun KK hKK => ?_) | refine hKK _ _ _ (by kernel_rfl) ?_ | refine region_rule (fun KK hKK => ?_) | refine hKK _ _ ?_ | refine And.intro (Eq.refl true) ?_ | refine Exists.intro _ (And.intro (wI (by omega)) ?_) | refine Exists.intro _ (And.intro (wU (by omega)) ?_) | refine Exists.intro _ (And.intro ⟨rfl, by omega⟩ ?_) | refine Exists.intro _ (And.intro rfl ?_) | refine And.intro rfl ?_ | refine And.intro ⟨rfl, rfl⟩ ?_ | ((refine And.intro (fun _ => ?_) (fun _ => ?_)) <;> try (exfalso; omega))))
      refine Exists.intro (j + 1, (fun v => O v || decide (v = L (k + j))), (c0, c1 + 1)) (Exists.intro [0, 1, 2, 3, 4, 5, 6, 7, 8] (And.intro ⟨⟨by omega, by show c0 + (c1 + 1) ≤ j + 1; omega, by rw [hd']; exact hR⟩, (by show k - (j + 1) < k - j; omega)⟩ ⟨⟨rfl, rfl, rfl, rfl, rfl, rfl, rfl, rfl, rfl, trivial⟩, ⟨rfl, rfl, rfl, rfl, rfl, rfl, rfl, rfl, rfl, trivial⟩, rfl⟩))
    | false =>
      rw [hBf] at b1 hR
      replace hR : lpS k L BF d (j + 1) (fun v => O v || decide (v = L (k + j))) (c0 + 1, c1) = R := hR
      (repeat' (first | refine Exists.intro 0 (And.intro ⟨rfl, leR rfl⟩ ?_) | refine Exists.intro _ (And.intro e3 ?_) | refine Exists.intro _ (And.intro m1 ?_) | refine Exists.intro _ (And.intro o1 ?_) | refine Exists.intro _ (And.intro b1 ?_) | refine Exists.intro _ (And.intro f0 ?_) | refine Exists.intro (bl (fun v => O v || decide (v = L (k + j))) 32) (And.intro ⟨by rw [bl32_len]; omega, bl_or⟩ ?_) | refine Exists.intro (lc2 (c0 + 1, c1)) (And.intro ⟨leR rfl, rfl⟩ ?_) | refine And.intro (neI rfl) ?_ | refine And.intro ⟨rfl, leR rfl, onesR rfl⟩ ?_ | refine And.intro ⟨rfl, leR rfl⟩ ?_ | refine draw_rule2 hfol (fun KK hKK => ?_) | refine hKK _ _ _ (by kernel_rfl) ?_ | refine region_rule (fun KK hKK => ?_) | refine hKK _ _ ?_ | refine And.intro (Eq.refl true) ?_ | refine Exists.intro _ (And.intro (wI (by omega)) ?_) | refine Exists.intro _ (And.intro (wU (by omega)) ?_) | refine Exists.intro _ (And.intro ⟨rfl, by omega⟩ ?_) | refine Exists.intro _ (And.intro rfl ?_) | refine And.intro rfl ?_ | refine And.intro ⟨rfl, rfl⟩ ?_ | ((refine And.intro (fun _ => ?_) (fun _ => ?_)) <;> try (exfalso; omega))))
      refine Exists.intro (j + 1, (fun v => O v || decide (v = L (k + j))), (c0 + 1, c1)) (Exists.intro [0, 1, 2, 3, 4, 5, 6, 7, 8] (And.intro ⟨⟨by omega, by show c0 + 1 + c1 ≤ j + 1; omega, by rw [hd']; exact hR⟩, (by show k - (j + 1) < k - j; omega)⟩ ⟨⟨rfl, rfl, rfl, rfl, rfl, rfl, rfl, rfl, rfl, trivial⟩, ⟨rfl, rfl, rfl, rfl, rfl, rfl, rfl, rfl, rfl, trivial⟩, rfl⟩))
end
end Go.Proofs.Ytcibbadioijmcaa.VE
