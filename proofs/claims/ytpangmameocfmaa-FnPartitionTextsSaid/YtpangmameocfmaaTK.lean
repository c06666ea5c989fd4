/- Contracts of functions of the given program, for all arguments that the contract names; see each theorem. -/
import Derived.Test.YtpangmameocfmaaTJ
import Derived.Test.YtpangmameocfmaaW1
set_option linter.all false
namespace Go.Proofs.Ytpangmameocfmaa.VE.P
open Go
set_option maxHeartbeats 1600000
set_option maxRecDepth 100000

def i2 (a b : Nat) : List Value := il (fun i => if i = 0 then ((a : Nat) : Int) else ((b : Nat) : Int)) 2
theorem row2l {c : List Value} {k : IntKind} {a : Int} (h : c.length = 2) : 1 * 1 + 1 ≤ (c.take (0 * 1) ++ (Value.int k a).cells.toList ++ c.drop (0 * 1 + 1)).length := by
  match c, h with
  | [x, y], _ => exact Nat.le_refl _
theorem row2i {c : List Value} {k : IntKind} {a b : Int} (h : c.length = 2) : (c.take (0 * 1) ++ (Value.int k a).cells.toList ++ c.drop (0 * 1 + 1)).take (1 * 1) ++ (Value.int k b).cells.toList ++ (c.take (0 * 1) ++ (Value.int k a).cells.toList ++ c.drop (0 * 1 + 1)).drop (1 * 1 + 1) = [.int k a, .int k b] := by
  match c, h with
  | [x, y], _ => rfl
theorem eqPw (w : World) {s : Int} {m m' : List Nat} (hm : m.length = 8) (hm' : m'.length = 8) {b : Bool} (h : decide (m = m') = b) : (Op.equalIn 10000 T_i_Partition (.agg (pcl s m).toArray) (.agg (pcl s m').toArray)).run Try.prog w = .ok b w := by
  rw [eqPt w hm hm', ← h]
  simp

theorem s_sPow (n : Nat) (m : List Nat) (hm : m.length = 8) (hmb : ∀ x ∈ m, x < 256) (hv : isPi n m = true) (hn1 : 1 ≤ n) (hn : n ≤ 4) (K i0 : Nat) (hi0 : i0 < K) (hK : K ≤ 16777216) (he : pw n m i0 = pw n m K) (hd : ∀ j k, j < k → k < K → pw n m j ≠ pw n m k) :
    Spec Try.prog n_s_PowersOfPartition [pv n m] [] (.tup [.sl 0, vi 0]) [.pr T_int64 1 2 (i2 (i0 + 1) (K - i0))] := by
  have hfol := hfolW
  have h1 := s_is n m hm hmb
  rw [isP_eq _ m hm, hv] at h1
  have hl := isPi_lt hv
  refine SpecW.of_EV hf_s_PowersOfPartition hc_s_PowersOfPartition rfl rfl rfl fun w0 B ρ0 _ => ?_
  (repeat' (first | refine (h1).pure rfl ?_ | refine Exists.intro (pcl (n : Int) m) (And.intro ⟨pcl_len hm, pcl_all hm⟩ ?_) | refine And.intro ⟨pcl_len hm, leR rfl, pcl_ones⟩ ?_ | refine Exists.intro (pcl (n : Int) m) (And.intro ⟨leR rfl, spl0 (leR rfl)⟩ ?_) | refine And.intro (neI rfl) ?_ | refine And.intro ⟨rfl, leR rfl, onesR rfl⟩ ?_ | refine And.intro ⟨rfl, leR rfl⟩ ?_ | refine draw_rule2 hfol (fun KK hKK => ?_) | refine hKK _ _ _ (by kernel_rfl) ?_ | refine region_rule (fun KK hKK => ?_) | refine hKK _ _ ?_ | refine And.intro (Eq.refl true) ?_ | refine Exists.intro _ (And.intro (wI (by omega)) ?_) | refine Exists.intro _ (And.intro (wU (by omega)) ?_) | refine Exists.intro _ (And.intro ⟨rfl, by omega⟩ ?_) | refine Exists.intro _ (And.intro rfl ?_) | refine And.intro rfl ?_ | refine And.intro ⟨rfl, rfl⟩ ?_ | ((refine And.intro (fun _ => ?_) (fun _ => ?_)) <;> try (exfalso; omega))))
  refine loop_rule (α := Nat) (fun t => t ≤ K)
    (fun t => [(1, .ptr 0 0), (4, .sl 1), (5, .ptr 2 0)])
    (fun t => [.pc (pcl n m) T_i_Partition, .pr T_i_Partition 9 t (rpw n m t), .pc (pcl n (pw n m t)) T_i_Partition]) (fun t => K - t) 0 [0, 1, 2]
    (by omega) ⟨⟨rfl, rfl, rfl, trivial⟩, ⟨rfl, rfl, rfl, trivial⟩, rfl⟩ ?_
  rintro t g ht
  (repeat' (first | refine And.intro (neI rfl) ?_ | refine And.intro ⟨rfl, leR rfl, onesR rfl⟩ ?_ | refine And.intro ⟨rfl, leR rfl⟩ ?_ | refine draw_rule2 hfol (fun KK hKK => ?_) | refine hKK _ _ _ (by kernel_rfl) ?_ | refine region_rule (fun KK hKK => ?_) | refine hKK _ _ ?_ | refine And.intro (Eq.refl true) ?_ | refine Exists.intro _ (And.intro (wI (by omega)) ?_) | refine Exists.intro _ (And.intro (wU (by omega)) ?_) | refine Exists.intro _ (And.intro ⟨rfl, by omega⟩ ?_) | refine Exists.intro _ (And.intro rfl ?_) | refine And.intro rfl ?_ | refine And.intro ⟨rfl, rfl⟩ ?_ | ((refine And.intro (fun _ => ?_) (fun _ => ?_)) <;> try (exfalso; omega))))
  refine loop_rule (α := Nat) (fun i => i ≤ t ∧ ∀ j, j < i → pw n m j ≠ pw n m t)
    (fun i => [(1, .ptr 0 0), (4, .sl 1), (5, .ptr 2 0), (6, vi i)])
    (fun i => [.pc (pcl n m) T_i_Partition, .pr T_i_Partition 9 t (rpw n m t), .pc (pcl n (pw n m t)) T_i_Partition]) (fun i => t - i) 0 [0, 1, 2]
    ⟨by omega, fun j hj => by omega⟩ ⟨⟨rfl, rfl, rfl, rfl, trivial⟩, ⟨rfl, rfl, rfl, trivial⟩, rfl⟩ ?_
  rintro i g2 ⟨hi, hno⟩
  have hpt := pw_len (n := n) hm t
  by_cases h9 : i = t
  · subst h9
    have hik : i < K := by
      refine Nat.lt_of_le_of_ne ht fun e => ?_
      subst e
      exact hno i0 hi0 he
    have htm := s_times n (pw n m i) m hpt hm (pw_lt hl hn i) hl hn1 hn
    have hpt1 := pw_len (n := n) hm (i + 1)
    replace htm : Spec Try.prog n_s_l07Times [pv n (pw n m i), pv n m] [] (.tup [pv n (pw n m (i + 1)), vi ((ctI (gd (pw n m i)) (gd m) n n).2 : Nat)]) [] := htm
    generalize ((ctI (gd (pw n m i)) (gd m) n n).2) = cc at htm
    (repeat' (first | refine And.intro ⟨pcl_len hpt, mkL rfl⟩ ?_ | refine Exists.intro (pcl n (pw n m i)) (And.intro (row1sP (N := 9) (mkL' rfl)) ?_) | refine Exists.intro (rpw n m (i + 1)) (And.intro ⟨rfl, pcl_ones, by omega, by omega, rpw_succ⟩ ?_) | refine (htm).pure rfl ?_ | refine Exists.intro (pcl (n : Int) m) (And.intro ⟨pcl_len hm, pcl_all hm⟩ ?_) | refine And.intro ⟨pcl_len hm, leR rfl, pcl_ones⟩ ?_ | refine Exists.intro (pcl (n : Int) m) (And.intro ⟨leR rfl, spl0 (leR rfl)⟩ ?_) | refine Exists.intro (pcl (n : Int) (pw n m i)) (And.intro ⟨pcl_len hpt, pcl_all hpt⟩ ?_) | refine And.intro ⟨pcl_len hpt, leR rfl, pcl_ones⟩ ?_ | refine Exists.intro (pcl (n : Int) (pw n m i)) (And.intro ⟨leR rfl, spl0 (leR rfl)⟩ ?_) | refine Exists.intro (pcl (n : Int) (pw n m (i + 1))) (And.intro ⟨pcl_len hpt1, pcl_all hpt1⟩ ?_) | refine And.intro ⟨pcl_len hpt1, leR rfl, pcl_ones⟩ ?_ | refine Exists.intro (pcl (n : Int) (pw n m (i + 1))) (And.intro ⟨leR rfl, spl0 (leR rfl)⟩ ?_) | refine Exists.intro (pcl n (pw n m (i + 1))) (And.intro ⟨(by rw [pcl_len hpt]; exact Nat.le_refl _), spl0 (Nat.le_of_eq (pcl_len hpt))⟩ ?_) | refine And.intro (neI rfl) ?_ | refine And.intro ⟨rfl, leR rfl, onesR rfl⟩ ?_ | refine And.intro ⟨rfl, leR rfl⟩ ?_ | refine draw_rule2 hfol (fun KK hKK => ?_) | refine hKK _ _ _ (by kernel_rfl) ?_ | refine region_rule (fun KK hKK => ?_) | refine hKK _ _ ?_ | refine And.intro (Eq.refl true) ?_ | refine Exists.intro _ (And.intro (wI (by omega)) ?_) | refine Exists.intro _ (And.intro (wU (by omega)) ?_) | refine Exists.intro _ (And.intro ⟨rfl, by omega⟩ ?_) | refine Exists.intro _ (And.intro rfl ?_) | refine And.intro rfl ?_ | refine And.intro ⟨rfl, rfl⟩ ?_ | ((refine And.intro (fun _ => ?_) (fun _ => ?_)) <;> try (exfalso; omega))))
    refine Exists.intro (i + 1) (Exists.intro [0, 4, 6] (And.intro ⟨by omega, (by show K - (i + 1) < K - i; omega)⟩ ⟨⟨rfl, rfl, rfl, trivial⟩, ⟨rfl, rfl, rfl, trivial⟩, rfl⟩))
  have hit : i < t := by omega
  have hpi := pw_len (n := n) hm i
  have hat := rpw_at (n := n) hm hit
  by_cases hq : pw n m i = pw n m t
  · have htK : t = K := by
      refine Nat.le_antisymm ht (Nat.le_of_not_lt fun h => hd i t hit h hq)
    subst htK
    have hii : i = i0 := by
      refine Classical.byContradiction fun hne => ?_
      rcases Nat.lt_or_ge i i0 with h | h
      · exact hd i i0 h hi0 (hq.trans he.symm)
      · exact hd i0 i (by omega) hit (he.trans hq.symm)
    subst hii
    have hE := fun w => eqPw w (s := n) hpi hpt (decide_eq_true hq)
    have e1 : IntKind.i64.wrap ((i : Int) + 1) = ((i + 1 : Nat) : Int) := wC (by omega) (by omega)
    have e2 : IntKind.i64.wrap ((t : Int) - (i : Int)) = ((t - i : Nat) : Int) := wC (by omega) (by omega)
    (repeat' (first | refine Exists.intro (pcl n (pw n m i)) (And.intro ⟨pcl_len hpi, hat⟩ ?_) | refine Exists.intro (pcl (n : Int) (pw n m t)) (And.intro ⟨pcl_len hpt, pcl_all hpt⟩ ?_) | refine And.intro ⟨pcl_len hpt, leR rfl, pcl_ones⟩ ?_ | refine Exists.intro (pcl (n : Int) (pw n m t)) (And.intro ⟨leR rfl, spl0 (leR rfl)⟩ ?_) | refine Exists.intro _ (And.intro ⟨eg_i_Partition, hE⟩ ?_) | refine Exists.intro _ (And.intro e1 ?_) | refine Exists.intro _ (And.intro e2 ?_) | refine And.intro ⟨rfl, mkL rfl⟩ ?_ | refine And.intro ⟨rfl, row2l mk_len⟩ ?_ | refine Exists.intro (i2 (i + 1) (t - i)) (And.intro (row2i mk_len) ?_) | refine And.intro (neI rfl) ?_ | refine And.intro ⟨rfl, leR rfl, onesR rfl⟩ ?_ | refine And.intro ⟨rfl, leR rfl⟩ ?_ | refine draw_rule2 hfol (fun KK hKK => ?_) | refine hKK _ _ _ (by kernel_rfl) ?_ | refine region_rule (fun KK hKK => ?_) | refine hKK _ _ ?_ | refine And.intro (Eq.refl true) ?_ | refine Exists.intro _ (And.intro (wI (by omega)) ?_) | refine Exists.intro _ (And.intro (wU (by omega)) ?_) | refine Exists.intro _ (And.intro ⟨rfl, by omega⟩ ?_) | refine Exists.intro _ (And.intro rfl ?_) | refine And.intro rfl ?_ | refine And.intro ⟨rfl, rfl⟩ ?_ | ((refine And.intro (fun _ => ?_) (fun _ => ?_)) <;> try (exfalso; omega))))
    exact Exists.intro [3] (And.intro (rfl) (And.intro ⟨rfl, trivial⟩ rfl))
  · have hE := fun w => eqPw w (s := n) hpi hpt (decide_eq_false hq)
    (repeat' (first | refine Exists.intro (pcl n (pw n m i)) (And.intro ⟨pcl_len hpi, hat⟩ ?_) | refine Exists.intro (pcl (n : Int) (pw n m t)) (And.intro ⟨pcl_len hpt, pcl_all hpt⟩ ?_) | refine And.intro ⟨pcl_len hpt, leR rfl, pcl_ones⟩ ?_ | refine Exists.intro (pcl (n : Int) (pw n m t)) (And.intro ⟨leR rfl, spl0 (leR rfl)⟩ ?_) | refine Exists.intro _ (And.intro ⟨eg_i_Partition, hE⟩ ?_) | refine And.intro (neI rfl) ?_ | refine And.intro ⟨rfl, leR rfl, onesR rfl⟩ ?_ | refine And.intro ⟨rfl, leR rfl⟩ ?_ | refine draw_rule2 hfol (fun KK hKK => ?_) | refine hKK _ _ _ (by kernel_rfl) ?_ | refine region_rule (fun KK hKK => ?_) | refine hKK _ _ ?_ | refine And.intro (Eq.refl true) ?_ | refine Exists.intro _ (And.intro (wI (by omega)) ?_) | refine Exists.intro _ (And.intro (wU (by omega)) ?_) | refine Exists.intro _ (And.intro ⟨rfl, by omega⟩ ?_) | refine Exists.intro _ (And.intro rfl ?_) | refine And.intro rfl ?_ | refine And.intro ⟨rfl, rfl⟩ ?_ | ((refine And.intro (fun _ => ?_) (fun _ => ?_)) <;> try (exfalso; omega))))
    refine Exists.intro (i + 1) (Exists.intro [0, 1, 2] (And.intro ⟨⟨by omega, fun j hj => ?_⟩, (by show t - (i + 1) < t - i; omega)⟩ ⟨⟨rfl, rfl, rfl, rfl, trivial⟩, ⟨rfl, rfl, rfl, trivial⟩, rfl⟩))
    by_cases hji : j = i
    · subst hji; exact hq
    · exact hno j (by omega)

theorem s_indexP (n : Nat) (m : List Nat) (hm : m.length = 8) (t x : Nat) (ht : t ≤ 16777216) (r : Int) (hr : (r = -1 ∧ ∀ j, j < t → pw n m j ≠ pw n m x) ∨ (∃ i : Nat, r = i ∧ i < t ∧ pw n m i = pw n m x ∧ ∀ j, j < i → pw n m j ≠ pw n m x)) :
    Spec Try.prog n_g_Index_Partition [.sl 0, pv n (pw n m x)] [.pr T_i_Partition 9 t (rpw n m t)] (vi r) [.pr T_i_Partition 9 t (rpw n m t)] := by
  have hfol := hfolW
  have hpx := pw_len (n := n) hm x
  refine SpecW.of_EV hf_g_Index_Partition hc_g_Index_Partition rfl rfl rfl fun w0 B ρ0 _ => ?_
  (repeat' (first | refine Exists.intro (pcl (n : Int) (pw n m x)) (And.intro ⟨pcl_len hpx, pcl_all hpx⟩ ?_) | refine And.intro ⟨pcl_len hpx, leR rfl, pcl_ones⟩ ?_ | refine Exists.intro (pcl (n : Int) (pw n m x)) (And.intro ⟨leR rfl, spl0 (leR rfl)⟩ ?_) | refine And.intro (neI rfl) ?_ | refine And.intro ⟨rfl, leR rfl, onesR rfl⟩ ?_ | refine And.intro ⟨rfl, leR rfl⟩ ?_ | refine draw_rule2 hfol (fun KK hKK => ?_) | refine hKK _ _ _ (by kernel_rfl) ?_ | refine region_rule (fun KK hKK => ?_) | refine hKK _ _ ?_ | refine And.intro (Eq.refl true) ?_ | refine Exists.intro _ (And.intro (wI (by omega)) ?_) | refine Exists.intro _ (And.intro (wU (by omega)) ?_) | refine Exists.intro _ (And.intro ⟨rfl, by omega⟩ ?_) | refine Exists.intro _ (And.intro rfl ?_) | refine And.intro rfl ?_ | refine And.intro ⟨rfl, rfl⟩ ?_ | ((refine And.intro (fun _ => ?_) (fun _ => ?_)) <;> try (exfalso; omega))))
  refine loop_rule (α := Nat) (fun i => i ≤ t ∧ ∀ j, j < i → pw n m j ≠ pw n m x)
    (fun i => [(0, .sl 0), (3, .ptr 1 0), (7, vi t), (8, vi i)])
    (fun i => [.pr T_i_Partition 9 t (rpw n m t), .pc (pcl n (pw n m x)) T_i_Partition]) (fun i => t - i) 0 [0, 1]
    ⟨by omega, fun j hj => by omega⟩ ⟨⟨rfl, rfl, rfl, rfl, trivial⟩, ⟨rfl, rfl, trivial⟩, rfl⟩ ?_
  rintro i g2 ⟨hi, hno⟩
  by_cases h9 : i = t
  · subst h9
    have hr1 : r = -1 := by
      rcases hr with ⟨h, _⟩ | ⟨i2, _, h1, h2, _⟩
      · exact h
      · exact absurd h2 (hno i2 h1)
    subst hr1
    (repeat' (first | refine And.intro (neI rfl) ?_ | refine And.intro ⟨rfl, leR rfl, onesR rfl⟩ ?_ | refine And.intro ⟨rfl, leR rfl⟩ ?_ | refine draw_rule2 hfol (fun KK hKK => ?_) | refine hKK _ _ _ (by kernel_rfl) ?_ | refine region_rule (fun KK hKK => ?_) | refine hKK _ _ ?_ | refine And.intro (Eq.refl true) ?_ | refine Exists.intro _ (And.intro (wI (by omega)) ?_) | refine Exists.intro _ (And.intro (wU (by omega)) ?_) | refine Exists.intro _ (And.intro ⟨rfl, by omega⟩ ?_) | refine Exists.intro _ (And.intro rfl ?_) | refine And.intro rfl ?_ | refine And.intro ⟨rfl, rfl⟩ ?_ | ((refine And.intro (fun _ => ?_) (fun _ => ?_)) <;> try (exfalso; omega))))
    exact Exists.intro [0] (And.intro (rfl) (And.intro ⟨rfl, trivial⟩ rfl))
  have hit : i < t := by omega
  have hpi := pw_len (n := n) hm i
  have hat := rpw_at (n := n) hm hit
  by_cases hq : pw n m i = pw n m x
  · have hr1 : r = i := by
      rcases hr with ⟨_, h⟩ | ⟨i2, h0, h1, h2, h3⟩
      · exact absurd hq (h i hit)
      · rcases Nat.lt_trichotomy i i2 with h | h | h
        · exact absurd hq (h3 i h)
        · rw [h0, h]
        · exact absurd h2 (hno i2 h)
    subst hr1
    have hE := fun w => eqPw w (s := n) hpx hpi (decide_eq_true hq.symm)
    (repeat' (first | refine Exists.intro (pcl n (pw n m i)) (And.intro ⟨pcl_len hpi, hat⟩ ?_) | refine Exists.intro (pcl (n : Int) (pw n m x)) (And.intro ⟨pcl_len hpx, pcl_all hpx⟩ ?_) | refine And.intro ⟨pcl_len hpx, leR rfl, pcl_ones⟩ ?_ | refine Exists.intro (pcl (n : Int) (pw n m x)) (And.intro ⟨leR rfl, spl0 (leR rfl)⟩ ?_) | refine Exists.intro _ (And.intro ⟨eg_i_Partition, hE⟩ ?_) | refine And.intro (neI rfl) ?_ | refine And.intro ⟨rfl, leR rfl, onesR rfl⟩ ?_ | refine And.intro ⟨rfl, leR rfl⟩ ?_ | refine draw_rule2 hfol (fun KK hKK => ?_) | refine hKK _ _ _ (by kernel_rfl) ?_ | refine region_rule (fun KK hKK => ?_) | refine hKK _ _ ?_ | refine And.intro (Eq.refl true) ?_ | refine Exists.intro _ (And.intro (wI (by omega)) ?_) | refine Exists.intro _ (And.intro (wU (by omega)) ?_) | refine Exists.intro _ (And.intro ⟨rfl, by omega⟩ ?_) | refine Exists.intro _ (And.intro rfl ?_) | refine And.intro rfl ?_ | refine And.intro ⟨rfl, rfl⟩ ?_ | ((refine And.intro (fun _ => ?_) (fun _ => ?_)) <;> try (exfalso; omega))))
    exact Exists.intro [0] (And.intro (rfl) (And.intro ⟨rfl, trivial⟩ rfl))
  · have hE := fun w => eqPw w (s := n) hpx hpi (decide_eq_false fun e => hq e.symm)
    (repeat' (first | refine Exists.intro (pcl n (pw n m i)) (And.intro ⟨pcl_len hpi, hat⟩ ?_) | refine Exists.intro (pcl (n : Int) (pw n m x)) (And.intro ⟨pcl_len hpx, pcl_all hpx⟩ ?_) | refine And.intro ⟨pcl_len hpx, leR rfl, pcl_ones⟩ ?_ | refine Exists.intro (pcl (n : Int) (pw n m x)) (And.intro ⟨leR rfl, spl0 (leR rfl)⟩ ?_) | refine Exists.intro _ (And.intro ⟨eg_i_Partition, hE⟩ ?_) | refine And.intro (neI rfl) ?_ | refine And.intro ⟨rfl, leR rfl, onesR rfl⟩ ?_ | refine And.intro ⟨rfl, leR rfl⟩ ?_ | refine draw_rule2 hfol (fun KK hKK => ?_) | refine hKK _ _ _ (by kernel_rfl) ?_ | refine region_rule (fun KK hKK => ?_) | refine hKK _ _ ?_ | refine And.intro (Eq.refl true) ?_ | refine Exists.intro _ (And.intro (wI (by omega)) ?_) | refine Exists.intro _ (And.intro (wU (by omega)) ?_) | refine Exists.intro _ (And.intro ⟨rfl, by omega⟩ ?_) | refine Exists.intro _ (And.intro rfl ?_) | refine And.intro rfl ?_ | refine And.intro ⟨rfl, rfl⟩ ?_ | ((refine And.intro (fun _ => ?_) (fun _ => ?_)) <;> try (exfalso; omega))))
    refine Exists.intro (i + 1) (Exists.intro [0, 1] (And.intro ⟨⟨by omega, fun j hj => ?_⟩, (by show t - (i + 1) < t - i; omega)⟩ ⟨⟨rfl, rfl, rfl, rfl, trivial⟩, ⟨rfl, rfl, trivial⟩, rfl⟩))
    by_cases hji : j = i
    · subst hji; exact hq
    · exact hno j (by omega)
end Go.Proofs.Ytpangmameocfmaa.VE.P
namespace Go.Proofs.Ytpangmameocfmaa.VE.P
open Go
set_option maxHeartbeats 1600000
set_option maxRecDepth 100000

theorem rpw_get {n : Nat} {m : List Nat} (hm : m.length = 8) {t i j : Nat} (h : i < t) (hj : j < 9) : (rpw n m t)[i * 9 + j]? = (pcl (n : Int) (pw n m i))[j]? := by
  rw [← rpw_at hm h, List.getElem?_take, if_pos hj, List.getElem?_drop]
theorem pcl_get0 {s : Int} {m : List Nat} : (pcl s m)[0]? = some (.int .i64 s) := rfl

theorem s_iPow (n : Nat) (m : List Nat) (hm : m.length = 8) (hmb : ∀ x ∈ m, x < 256) (hv : isPi n m = true) (hn1 : 1 ≤ n) (hn : n ≤ 4) (K i0 : Nat) (hi0 : i0 < K) (hK : K ≤ 16777216) (he : pw n m i0 = pw n m K) (hd : ∀ j k, j < k → k < K → pw n m j ≠ pw n m k) :
    Spec Try.prog n_i_PowersOfPartition [pv n m] [] (.tup [.sl 0, vi 0]) [.pr T_int64 1 2 (i2 (i0 + 1) (K - i0))] := by
  have hfol := hfolW
  have hq := s_bad [((n : Int), m)] (fun p hp => by simp at hp; subst hp; exact ⟨hm, hmb⟩) (by simp)
  rw [show ([((n : Int), m)].any fun p => !isPi p.1 p.2) = false from by simp [hv]] at hq
  have hl := isPi_lt hv
  refine SpecW.of_EV hf_i_PowersOfPartition hc_i_PowersOfPartition rfl rfl rfl fun w0 B ρ0 _ => ?_
  (repeat' (first | refine (hq).read [1] rfl ⟨rfl, trivial⟩ ?_ | refine Exists.intro (pcl n m) (And.intro ⟨pcl_len hm, pcl_all hm⟩ ?_) | refine And.intro ⟨pcl_len hm, mkL rfl⟩ ?_ | refine Exists.intro (rowP [((n : Int), m)]) (And.intro (row1 (N := 9) (p := ((n : Int), m)) (mkL' rfl)) ?_) | refine And.intro (neI rfl) ?_ | refine And.intro ⟨rfl, leR rfl, onesR rfl⟩ ?_ | refine And.intro ⟨rfl, leR rfl⟩ ?_ | refine draw_rule2 hfol (fun KK hKK => ?_) | refine hKK _ _ _ (by kernel_rfl) ?_ | refine region_rule (fun KK hKK => ?_) | refine hKK _ _ ?_ | refine And.intro (Eq.refl true) ?_ | refine Exists.intro _ (And.intro (wI (by omega)) ?_) | refine Exists.intro _ (And.intro (wU (by omega)) ?_) | refine Exists.intro _ (And.intro ⟨rfl, by omega⟩ ?_) | refine Exists.intro _ (And.intro rfl ?_) | refine And.intro rfl ?_ | refine And.intro ⟨rfl, rfl⟩ ?_ | ((refine And.intro (fun _ => ?_) (fun _ => ?_)) <;> try (exfalso; omega))))
  refine loop_rule (α := Nat) (fun t => t + 1 ≤ K)
    (fun t => [(1, .ptr 0 0), (4, .sl 1)])
    (fun t => [.pc (pcl n m) T_i_Partition, .pr T_i_Partition 9 (t + 1) (rpw n m (t + 1))]) (fun t => K - t) 0 [0, 2]
    (by omega) ⟨⟨rfl, rfl, trivial⟩, ⟨rfl, rfl, trivial⟩, rfl⟩ ?_
  rintro t g ht
  have hpt := pw_len (n := n) hm t
  have hpt1 := pw_len (n := n) hm (t + 1)
  have htm : ∃ cc : Nat, ∀ q, (q + 1 = t * 9 → Spec Try.prog n_i_timesPartition [.ptr 0 (q + 1), .ptr 1 0] [.pr T_i_Partition 9 (t + 1) (rpw n m (t + 1)), .pc (pcl n m) T_i_Partition] (.tup [pv n (pw n m (t + 1)), vi cc]) [.pr T_i_Partition 9 (t + 1) (rpw n m (t + 1)), .pc (pcl n m) T_i_Partition]) ∧
      (t = 0 → Spec Try.prog n_i_timesPartition [.ptr 0 0, .ptr 1 0] [.pr T_i_Partition 9 (t + 1) (rpw n m (t + 1)), .pc (pcl n m) T_i_Partition] (.tup [pv n (pw n m (t + 1)), vi cc]) [.pr T_i_Partition 9 (t + 1) (rpw n m (t + 1)), .pc (pcl n m) T_i_Partition]) := by
    refine ⟨(ctI (gd (pw n m t)) (gd m) n n).2, fun q => ⟨fun hq => ?_, fun h0 => ?_⟩⟩
    rotate_left
    · have := s_itimesR0 (t + 1) (rpw n m (t + 1)) n (pw n m t) m (by
        have := rpw_get (n := n) hm (t := t + 1) (i := t) (j := 0) (by omega) (by omega)
        rw [h0] at this ⊢; exact this) (fun i hi => by
        have := rpw_get (n := n) hm (t := t + 1) (i := t) (j := 1 + i) (by omega) (by omega)
        rw [pcl_at (by rw [hpt]; omega)] at this
        rw [h0] at this ⊢
        rw [Nat.zero_mul, show 0 + (1 + i) = 1 + i from by omega] at this; exact this) hpt hm (pw_lt hl hn t) hl hn1 hn
      rw [mul_nm (fun i _ => pw_lt hl hn t i), (lK_ct (b := gd m) (fun i _ => pw_lt hl hn t i) n (Nat.le_refl n)).1] at this
      exact this
    · have := s_itimesR1 q (t + 1) (rpw n m (t + 1)) n (pw n m t) m (by
        rw [hq, ← Nat.add_zero (t * 9), rpw_get hm (by omega) (by omega)]; rfl) (fun i hi => by
        rw [hq, Nat.add_assoc, rpw_get hm (by omega) (by omega), pcl_at (by rw [hpt]; omega)]) hpt hm (pw_lt hl hn t) hl hn1 hn
      rw [mul_nm (fun i _ => pw_lt hl hn t i), (lK_ct (b := gd m) (fun i _ => pw_lt hl hn t i) n (Nat.le_refl n)).1] at this
      exact this
  obtain ⟨cc, htm⟩ := htm
  have e0 : IntKind.i64.wrap (((t + 1 : Nat) : Int) - 1) = ((t : Nat) : Int) := wC (by omega) (by omega)
  by_cases hK1 : t + 1 = K
  · have hix := s_indexP n m hm (t + 1) (t + 1) (by omega) i0 (.inr ⟨i0, rfl, by omega, by rw [he, hK1], fun j hj e => hd j i0 hj hi0 (by rw [e, he, hK1])⟩)
    have e1 : IntKind.i64.wrap ((i0 : Int) + 1) = ((i0 + 1 : Nat) : Int) := wC (by omega) (by omega)
    have e2 : IntKind.i64.wrap (((t + 1 : Nat) : Int) - (i0 : Int)) = ((K - i0 : Nat) : Int) := wC (by omega) (by omega)
    rcases t with _ | t
    · have ht1 := (htm 0).2 rfl
      (repeat' (first | refine Exists.intro _ (And.intro e0 ?_) | refine (ht1).read [1,0] rfl ⟨rfl, rfl, trivial⟩ ?_ | refine (hix).read [1] rfl ⟨rfl, trivial⟩ ?_ | refine Exists.intro (pcl (n : Int) (pw n m 1)) (And.intro ⟨pcl_len hpt1, pcl_all hpt1⟩ ?_) | refine And.intro ⟨pcl_len hpt1, leR rfl, pcl_ones⟩ ?_ | refine Exists.intro (pcl (n : Int) (pw n m 1)) (And.intro ⟨leR rfl, spl0 (leR rfl)⟩ ?_) | refine Exists.intro _ (And.intro e1 ?_) | refine Exists.intro _ (And.intro e2 ?_) | refine And.intro ⟨rfl, mkL rfl⟩ ?_ | refine And.intro ⟨rfl, row2l mk_len⟩ ?_ | refine Exists.intro (i2 (i0 + 1) (K - i0)) (And.intro (row2i mk_len) ?_) | refine And.intro (neI rfl) ?_ | refine And.intro ⟨rfl, leR rfl, onesR rfl⟩ ?_ | refine And.intro ⟨rfl, leR rfl⟩ ?_ | refine draw_rule2 hfol (fun KK hKK => ?_) | refine hKK _ _ _ (by kernel_rfl) ?_ | refine region_rule (fun KK hKK => ?_) | refine hKK _ _ ?_ | refine And.intro (Eq.refl true) ?_ | refine Exists.intro _ (And.intro (wI (by omega)) ?_) | refine Exists.intro _ (And.intro (wU (by omega)) ?_) | refine Exists.intro _ (And.intro ⟨rfl, by omega⟩ ?_) | refine Exists.intro _ (And.intro rfl ?_) | refine And.intro rfl ?_ | refine And.intro ⟨rfl, rfl⟩ ?_ | ((refine And.intro (fun _ => ?_) (fun _ => ?_)) <;> try (exfalso; omega))))
      all_goals exact Exists.intro [3] (And.intro (rfl) (And.intro ⟨rfl, trivial⟩ rfl))
    · have ht1 := (htm (t * 9 + 8)).1 (by omega)
      rw [show t * 9 + 8 + 1 = (t + 1) * 9 from by omega] at ht1
      (repeat' (first | refine Exists.intro _ (And.intro e0 ?_) | refine (ht1).read [1,0] rfl ⟨rfl, rfl, trivial⟩ ?_ | refine (hix).read [1] rfl ⟨rfl, trivial⟩ ?_ | refine Exists.intro (pcl (n : Int) (pw n m (t + 1 + 1))) (And.intro ⟨pcl_len hpt1, pcl_all hpt1⟩ ?_) | refine And.intro ⟨pcl_len hpt1, leR rfl, pcl_ones⟩ ?_ | refine Exists.intro (pcl (n : Int) (pw n m (t + 1 + 1))) (And.intro ⟨leR rfl, spl0 (leR rfl)⟩ ?_) | refine Exists.intro _ (And.intro e1 ?_) | refine Exists.intro _ (And.intro e2 ?_) | refine And.intro ⟨rfl, mkL rfl⟩ ?_ | refine And.intro ⟨rfl, row2l mk_len⟩ ?_ | refine Exists.intro (i2 (i0 + 1) (K - i0)) (And.intro (row2i mk_len) ?_) | refine And.intro (neI rfl) ?_ | refine And.intro ⟨rfl, leR rfl, onesR rfl⟩ ?_ | refine And.intro ⟨rfl, leR rfl⟩ ?_ | refine draw_rule2 hfol (fun KK hKK => ?_) | refine hKK _ _ _ (by kernel_rfl) ?_ | refine region_rule (fun KK hKK => ?_) | refine hKK _ _ ?_ | refine And.intro (Eq.refl true) ?_ | refine Exists.intro _ (And.intro (wI (by omega)) ?_) | refine Exists.intro _ (And.intro (wU (by omega)) ?_) | refine Exists.intro _ (And.intro ⟨rfl, by omega⟩ ?_) | refine Exists.intro _ (And.intro rfl ?_) | refine And.intro rfl ?_ | refine And.intro ⟨rfl, rfl⟩ ?_ | ((refine And.intro (fun _ => ?_) (fun _ => ?_)) <;> try (exfalso; omega))))
      all_goals exact Exists.intro [3] (And.intro (rfl) (And.intro ⟨rfl, trivial⟩ rfl))
  · have hix := s_indexP n m hm (t + 1) (t + 1) (by omega) (-1) (.inl ⟨rfl, fun j hj => hd j (t + 1) hj (by omega)⟩)
    rcases t with _ | t
    · have ht1 := (htm 0).2 rfl
      (repeat' (first | refine Exists.intro _ (And.intro e0 ?_) | refine (ht1).read [1,0] rfl ⟨rfl, rfl, trivial⟩ ?_ | refine (hix).read [1] rfl ⟨rfl, trivial⟩ ?_ | refine Exists.intro (pcl (n : Int) (pw n m 1)) (And.intro ⟨pcl_len hpt1, pcl_all hpt1⟩ ?_) | refine And.intro ⟨pcl_len hpt1, leR rfl, pcl_ones⟩ ?_ | refine Exists.intro (pcl (n : Int) (pw n m 1)) (And.intro ⟨leR rfl, spl0 (leR rfl)⟩ ?_) | refine And.intro ⟨pcl_len hpt1, mkL rfl⟩ ?_ | refine Exists.intro (pcl n (pw n m 1)) (And.intro (row1sP (N := 9) (mkL' rfl)) ?_) | refine Exists.intro (rpw n m 2) (And.intro ⟨rfl, pcl_ones, by omega, by omega, rpw_succ⟩ ?_) | refine And.intro (neI rfl) ?_ | refine And.intro ⟨rfl, leR rfl, onesR rfl⟩ ?_ | refine And.intro ⟨rfl, leR rfl⟩ ?_ | refine draw_rule2 hfol (fun KK hKK => ?_) | refine hKK _ _ _ (by kernel_rfl) ?_ | refine region_rule (fun KK hKK => ?_) | refine hKK _ _ ?_ | refine And.intro (Eq.refl true) ?_ | refine Exists.intro _ (And.intro (wI (by omega)) ?_) | refine Exists.intro _ (And.intro (wU (by omega)) ?_) | refine Exists.intro _ (And.intro ⟨rfl, by omega⟩ ?_) | refine Exists.intro _ (And.intro rfl ?_) | refine And.intro rfl ?_ | refine And.intro ⟨rfl, rfl⟩ ?_ | ((refine And.intro (fun _ => ?_) (fun _ => ?_)) <;> try (exfalso; omega))))
      refine Exists.intro 1 (Exists.intro [0, 4] (And.intro ⟨by omega, (by show K - 1 < K - 0; omega)⟩ ⟨⟨rfl, rfl, trivial⟩, ⟨rfl, rfl, trivial⟩, rfl⟩))
    · have ht1 := (htm (t * 9 + 8)).1 (by omega)
      rw [show t * 9 + 8 + 1 = (t + 1) * 9 from by omega] at ht1
      (repeat' (first | refine Exists.intro _ (And.intro e0 ?_) | refine (ht1).read [1,0] rfl ⟨rfl, rfl, trivial⟩ ?_ | refine (hix).read [1] rfl ⟨rfl, trivial⟩ ?_ | refine Exists.intro (pcl (n : Int) (pw n m (t + 1 + 1))) (And.intro ⟨pcl_len hpt1, pcl_all hpt1⟩ ?_) | refine And.intro ⟨pcl_len hpt1, leR rfl, pcl_ones⟩ ?_ | refine Exists.intro (pcl (n : Int) (pw n m (t + 1 + 1))) (And.intro ⟨leR rfl, spl0 (leR rfl)⟩ ?_) | refine And.intro ⟨pcl_len hpt1, mkL rfl⟩ ?_ | refine Exists.intro (pcl n (pw n m (t + 1 + 1))) (And.intro (row1sP (N := 9) (mkL' rfl)) ?_) | refine Exists.intro (rpw n m (t + 1 + 1 + 1)) (And.intro ⟨rfl, pcl_ones, by omega, by omega, rpw_succ⟩ ?_) | refine And.intro (neI rfl) ?_ | refine And.intro ⟨rfl, leR rfl, onesR rfl⟩ ?_ | refine And.intro ⟨rfl, leR rfl⟩ ?_ | refine draw_rule2 hfol (fun KK hKK => ?_) | refine hKK _ _ _ (by kernel_rfl) ?_ | refine region_rule (fun KK hKK => ?_) | refine hKK _ _ ?_ | refine And.intro (Eq.refl true) ?_ | refine Exists.intro _ (And.intro (wI (by omega)) ?_) | refine Exists.intro _ (And.intro (wU (by omega)) ?_) | refine Exists.intro _ (And.intro ⟨rfl, by omega⟩ ?_) | refine Exists.intro _ (And.intro rfl ?_) | refine And.intro rfl ?_ | refine And.intro ⟨rfl, rfl⟩ ?_ | ((refine And.intro (fun _ => ?_) (fun _ => ?_)) <;> try (exfalso; omega))))
      refine Exists.intro (t + 2) (Exists.intro [0, 4] (And.intro ⟨by omega, (by show K - (t + 2) < K - (t + 1); omega)⟩ ⟨⟨rfl, rfl, trivial⟩, ⟨rfl, rfl, trivial⟩, rfl⟩))
end Go.Proofs.Ytpangmameocfmaa.VE.P
namespace Go.Proofs.Ytpangmameocfmaa.VE.P
open Go
set_option maxHeartbeats 1600000
set_option maxRecDepth 100000

theorem s_sPowE (s : Int) (m : List Nat) (hm : m.length = 8) (hmb : ∀ x ∈ m, x < 256) (hv : isPi s m = false) : Spec Try.prog n_s_PowersOfPartition [pv s m] [] (.tup [.raw (.slice none 0 0), vi 1]) [] := by
  have h1 := s_is s m hm hmb
  rw [isP_eq _ m hm, hv] at h1
  refine SpecW.of_EV hf_s_PowersOfPartition hc_s_PowersOfPartition rfl rfl rfl fun w0 B ρ0 _ => ?_
  (repeat' (first | refine (h1).pure rfl ?_ | refine Exists.intro (pcl s m) (And.intro ⟨pcl_len hm, pcl_all hm⟩ ?_) | refine And.intro ⟨pcl_len hm, leR rfl, pcl_ones⟩ ?_ | refine Exists.intro (pcl s m) (And.intro ⟨leR rfl, spl0 (leR rfl)⟩ ?_) | refine And.intro (neI rfl) ?_ | refine And.intro ⟨rfl, leR rfl, onesR rfl⟩ ?_ | refine And.intro ⟨rfl, leR rfl⟩ ?_ | refine draw_rule2 hfol (fun KK hKK => ?_) | refine hKK _ _ _ (by kernel_rfl) ?_ | refine region_rule (fun KK hKK => ?_) | refine hKK _ _ ?_ | refine And.intro (Eq.refl true) ?_ | refine Exists.intro _ (And.intro (wI (by omega)) ?_) | refine Exists.intro _ (And.intro (wU (by omega)) ?_) | refine Exists.intro _ (And.intro ⟨rfl, by omega⟩ ?_) | refine Exists.intro _ (And.intro rfl ?_) | refine And.intro rfl ?_ | refine And.intro ⟨rfl, rfl⟩ ?_ | ((refine And.intro (fun _ => ?_) (fun _ => ?_)) <;> try (exfalso; omega))))
  exact Exists.intro [] (And.intro (rfl) (And.intro trivial rfl))
theorem s_iPowE (s : Int) (m : List Nat) (hm : m.length = 8) (hmb : ∀ x ∈ m, x < 256) (hv : isPi s m = false) : Spec Try.prog n_i_PowersOfPartition [pv s m] [] (.tup [.raw (.slice none 0 0), vi 1]) [] := by
  have hq := s_bad [(s, m)] (fun p hp => by simp at hp; subst hp; exact ⟨hm, hmb⟩) (by simp)
  rw [show ([(s, m)].any fun p => !isPi p.1 p.2) = true from by simp [hv]] at hq
  refine SpecW.of_EV hf_i_PowersOfPartition hc_i_PowersOfPartition rfl rfl rfl fun w0 B ρ0 _ => ?_
  (repeat' (first | refine (hq).read [1] rfl ⟨rfl, trivial⟩ ?_ | refine Exists.intro (pcl s m) (And.intro ⟨pcl_len hm, pcl_all hm⟩ ?_) | refine And.intro ⟨pcl_len hm, mkL rfl⟩ ?_ | refine Exists.intro (rowP [(s, m)]) (And.intro (row1 (N := 9) (p := (s, m)) (mkL' rfl)) ?_) | refine And.intro (neI rfl) ?_ | refine And.intro ⟨rfl, leR rfl, onesR rfl⟩ ?_ | refine And.intro ⟨rfl, leR rfl⟩ ?_ | refine draw_rule2 hfol (fun KK hKK => ?_) | refine hKK _ _ _ (by kernel_rfl) ?_ | refine region_rule (fun KK hKK => ?_) | refine hKK _ _ ?_ | refine And.intro (Eq.refl true) ?_ | refine Exists.intro _ (And.intro (wI (by omega)) ?_) | refine Exists.intro _ (And.intro (wU (by omega)) ?_) | refine Exists.intro _ (And.intro ⟨rfl, by omega⟩ ?_) | refine Exists.intro _ (And.intro rfl ?_) | refine And.intro rfl ?_ | refine And.intro ⟨rfl, rfl⟩ ?_ | ((refine And.intro (fun _ => ?_) (fun _ => ?_)) <;> try (exfalso; omega))))
  exact Exists.intro [] (And.intro (rfl) (And.intro trivial rfl))
theorem lawok_PowersOfPartition (s : Int) (m : List Nat) (hm : m.length = 8) (N : Nat) (g : Nat → Int) (c : Int) (hN : N ≤ 4000000) (hS : Spec Try.prog n_s_PowersOfPartition [pv s m] [] (.tup [.sl 0, vi c]) [.pr T_int64 1 N (il g N)]) (hI : Spec Try.prog n_i_PowersOfPartition [pv s m] [] (.tup [.sl 0, vi c]) [.pr T_int64 1 N (il g N)]) :
    Spec Try.prog n_l_FnExactPowersOfPartition [pv s m] [] (vb true) [] := by
  have he := s_eqI g N hN
  have hm1 := s_markI g N 1 hN (by omega)
  have hh1 := s_heldI N 1 hN (by omega)
  refine SpecW.of_EV hf_l_FnExactPowersOfPartition hc_l_FnExactPowersOfPartition rfl rfl rfl fun w0 B ρ0 _ => ?_
  (repeat' (first | refine (s_toP s m hm).pure rfl ?_ | refine Exists.intro (pcl s m) (And.intro ⟨pcl_len hm, pcl_all hm⟩ ?_) | refine And.intro ⟨pcl_len hm, leR rfl, pcl_ones⟩ ?_ | refine Exists.intro (pcl s m) (And.intro ⟨leR rfl, spl0 (leR rfl)⟩ ?_) | refine (hS).make [] rfl trivial ?_ | refine (hI).make [] rfl trivial ?_ | refine (he).read [2,1] rfl ⟨rfl, rfl, trivial⟩ ?_ | refine (he).read [3,1] rfl ⟨rfl, rfl, trivial⟩ ?_ | refine (hm1).make [2] rfl ⟨rfl, trivial⟩ ?_ | refine (hh1).read [2] rfl ⟨rfl, trivial⟩ ?_ | refine And.intro (fun _ => ?_) (fun h => absurd rfl h) | refine And.intro (fun h => absurd rfl h) (fun _ => ?_) | refine And.intro (neI rfl) ?_ | refine And.intro ⟨rfl, leR rfl, onesR rfl⟩ ?_ | refine And.intro ⟨rfl, leR rfl⟩ ?_ | refine draw_rule2 hfol (fun KK hKK => ?_) | refine hKK _ _ _ (by kernel_rfl) ?_ | refine region_rule (fun KK hKK => ?_) | refine hKK _ _ ?_ | refine And.intro (Eq.refl true) ?_ | refine Exists.intro _ (And.intro (wI (by omega)) ?_) | refine Exists.intro _ (And.intro (wU (by omega)) ?_) | refine Exists.intro _ (And.intro ⟨rfl, by omega⟩ ?_) | refine Exists.intro _ (And.intro rfl ?_) | refine And.intro rfl ?_ | refine And.intro ⟨rfl, rfl⟩ ?_ | ((refine And.intro (fun _ => ?_) (fun _ => ?_)) <;> try (exfalso; omega))))
  exact finP rfl
theorem lawerr_PowersOfPartition (s : Int) (m : List Nat) (hm : m.length = 8) (c : Int) (hS : Spec Try.prog n_s_PowersOfPartition [pv s m] [] (.tup [.raw (.slice none 0 0), vi c]) []) (hI : Spec Try.prog n_i_PowersOfPartition [pv s m] [] (.tup [.raw (.slice none 0 0), vi c]) []) :
    Spec Try.prog n_l_FnExactPowersOfPartition [pv s m] [] (vb true) [] := by
  have hm1 := s_markI0 1
  have hh1 := s_heldI0 1
  refine SpecW.of_EV hf_l_FnExactPowersOfPartition hc_l_FnExactPowersOfPartition rfl rfl rfl fun w0 B ρ0 _ => ?_
  (repeat' (first | refine (s_toP s m hm).pure rfl ?_ | refine Exists.intro (pcl s m) (And.intro ⟨pcl_len hm, pcl_all hm⟩ ?_) | refine And.intro ⟨pcl_len hm, leR rfl, pcl_ones⟩ ?_ | refine Exists.intro (pcl s m) (And.intro ⟨leR rfl, spl0 (leR rfl)⟩ ?_) | refine (hS).pure rfl ?_ | refine (hI).pure rfl ?_ | refine (s_eqI0).pure rfl ?_ | refine (hm1).pure rfl ?_ | refine (hh1).pure rfl ?_ | refine And.intro (fun _ => ?_) (fun h => absurd rfl h) | refine And.intro (fun h => absurd rfl h) (fun _ => ?_) | refine And.intro (neI rfl) ?_ | refine And.intro ⟨rfl, leR rfl, onesR rfl⟩ ?_ | refine And.intro ⟨rfl, leR rfl⟩ ?_ | refine draw_rule2 hfol (fun KK hKK => ?_) | refine hKK _ _ _ (by kernel_rfl) ?_ | refine region_rule (fun KK hKK => ?_) | refine hKK _ _ ?_ | refine And.intro (Eq.refl true) ?_ | refine Exists.intro _ (And.intro (wI (by omega)) ?_) | refine Exists.intro _ (And.intro (wU (by omega)) ?_) | refine Exists.intro _ (And.intro ⟨rfl, by omega⟩ ?_) | refine Exists.intro _ (And.intro rfl ?_) | refine And.intro rfl ?_ | refine And.intro ⟨rfl, rfl⟩ ?_ | ((refine And.intro (fun _ => ?_) (fun _ => ?_)) <;> try (exfalso; omega))))
  exact finP rfl

theorem s_lawPow (s : Int) (m : List Nat) (hm : m.length = 8) (hmb : ∀ x ∈ m, x < 256) : Spec Try.prog n_l_FnExactPowersOfPartition [pv s m] [] (vb true) [] := by
  cases hv : isPi s m with
  | false => exact lawerr_PowersOfPartition s m hm 1 (s_sPowE s m hm hmb hv) (s_iPowE s m hm hmb hv)
  | true =>
    obtain ⟨n, rfl, hn1, hn⟩ := isPi_size hv
    obtain ⟨K, i0, hi0, hK, he, hd⟩ := pw_rep (n := n) hm (isPi_lt hv) hn
    exact lawok_PowersOfPartition n m hm 2 _ 0 (by omega) (s_sPow n m hm hmb hv hn1 hn K i0 hi0 hK he hd) (s_iPow n m hm hmb hv hn1 hn K i0 hi0 hK he hd)
end Go.Proofs.Ytpangmameocfmaa.VE.P
