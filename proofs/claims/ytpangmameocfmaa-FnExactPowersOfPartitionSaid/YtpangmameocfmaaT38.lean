/- Contracts of functions of the given program, for all arguments that the contract names; see each theorem. -/
import Derived.Test.YtpangmameocfmaaT37
import Derived.Test.YtpangmameocfmaaT35
set_option linter.all false
namespace Go.Proofs.Ytpangmameocfmaa.VE.P
open Go
set_option maxHeartbeats 1600000
set_option maxRecDepth 100000

theorem rpw_get {n : Nat} {m : List Nat} (hm : m.length = 8) {t i j : Nat} (h : i < t) (hj : j < 9) : (rpw n m t)[i * 9 + j]? = (pcl (n : Int) (pw n m i))[j]? := by
  rw [← rpw_at hm h, List.getElem?_take, if_pos hj, List.getElem?_drop]
theorem pcl_get0 {s : Int} {m : List Nat} : (pcl s m)[0]? = some (.int .i64 s) := rfl

theorem s_iPow (n : Nat) (m : List Nat) (hm : m.length = 8) (hmb : ∀ x ∈ m, x < 256) (hv : isPi n m = true) (hn1 : 1 ≤ n) (hn : n ≤ 4) (K i0 : Nat) (hi0 : i0 < K) (hK : K ≤ 16777216) (he : pw n m i0 = pw n m K) (hd : ∀ j k, j < k → k < K → pw n m j ≠ pw n m k) :
    Spec Try.prog n_i_PowersOfPartition [pv n m] [] (.tup [.sl 0, vi 0]) [.pr T_int64 1 2 (i2 (i0 + 1) (K - i0))] := by
  have hfol := hfolW
  have hq := s_bad [((n : Int), m)] (fun p hp => by simp at hp; subst hp; exact ⟨hm, hmb⟩) (by simp)
  rw [show ([((n : Int), m)].any fun p => !isPi p.1 p.2) = false from by simp [hv]] at hq
  have hl := isPi_lt hv
  refine SpecW.of_EV hf_i_PowersOfPartition hc_i_PowersOfPartition rfl rfl rfl fun w0 B ρ0 _ => ?_
  (repeat' (first | refine (hq).read [1] rfl ⟨rfl, trivial⟩ ?_ | refine Exists.intro (pcl n m) (And.intro ⟨pcl_len hm, pcl_all hm⟩ ?_) | refine And.intro ⟨pcl_len hm, mkL rfl⟩ ?_ | refine Exists.intro (rowP [((n : Int), m)]) (And.intro (row1 (N := 9) (p := ((n : Int), m)) (mkL' rfl)) ?_) | refine And.intro (neI rfl) ?_ | refine And.intro ⟨rfl, leR rfl, onesR rfl⟩ ?_ | refine And.intro ⟨rfl, leR rfl⟩ ?_ | refine draw_rule2 hfol (fun KK hKK => ?_) | refine hKK _ _ _ (by kernel_rfl) ?_ | refine region_rule (fun KK hKK => ?_) | refine hKK _ _ ?_ | refine And.intro (Eq.refl true) ?_ | refine Exists.intro _ (And.intro (wI (by omega)) ?_) | refine Exists.intro _ (And.intro (wU (by omega)) ?_) | refine Exists.intro _ (And.intro ⟨rfl, by omega⟩ ?_) | refine Exists.intro _ (And.intro rfl ?_) | refine And.intro rfl ?_ | refine And.intro ⟨rfl, rfl⟩ ?_ | ((refine And.intro (fun _ => ?_) (fun _ => ?_)) <;> try (exfalso; omega))))
  refine loop_rule (α := Nat) (fun t => t + 1 ≤ K)
    (fun t => [(1, .ptr 0 0), (4, .sl 1)])
    (fun t => [.pc (pcl n m) T_i_Partition, .pr T_i_Partition 9 (t + 1) (rpw n m (t + 1))]) (fun t => K - t) 0 [0, 2]
    (by omega) ⟨⟨rfl, rfl, trivial⟩, ⟨rfl, rfl, trivial⟩, rfl⟩ ?_
  rintro t g ht
  have hpt := pw_len (n := n) hm t
  have hpt1 := pw_len (n := n) hm (t + 1)
  have htm : ∃ cc : Nat, ∀ q, (q + 1 = t * 9 → Spec Try.prog n_i_timesPartition [.ptr 0 (q + 1), .ptr 1 0] [.pr T_i_Partition 9 (t + 1) (rpw n m (t + 1)), .pc (pcl n m) T_i_Partition] (.tup [pv n (pw n m (t + 1)), vi cc]) [.pr T_i_Partition 9 (t + 1) (rpw n m (t + 1)), .pc (pcl n m) T_i_Partition]) ∧
      (t = 0 → Spec Try.prog n_i_timesPartition [.ptr 0 0, .ptr 1 0] [.pr T_i_Partition 9 (t + 1) (rpw n m (t + 1)), .pc (pcl n m) T_i_Partition] (.tup [pv n (pw n m (t + 1)), vi cc]) [.pr T_i_Partition 9 (t + 1) (rpw n m (t + 1)), .pc (pcl n m) T_i_Partition]) := by
    refine ⟨(ctI (gd (pw n m t)) (gd m) n n).2, fun q => ⟨fun hq => ?_, fun h0 => ?_⟩⟩
    rotate_left
    · have := s_itimesR0 (t + 1) (rpw n m (t + 1)) n (pw n m t) m (by
        have := rpw_get (n := n) hm (t := t + 1) (i := t) (j := 0) (by omega) (by omega)
        rw [h0] at this ⊢; exact this) (fun i hi => by
        have := rpw_get (n := n) hm (t := t + 1) (i := t) (j := 1 + i) (by omega) (by omega)
        rw [pcl_at (by rw [hpt]; omega)] at this
        rw [h0] at this ⊢
        rw [Nat.zero_mul, show 0 + (1 + i) = 1 + i from by omega] at this; exact this) hpt hm (pw_lt hl hn t) hl hn1 hn
      rw [mul_nm (fun i _ => pw_lt hl hn t i), (lK_ct (b := gd m) (fun i _ => pw_lt hl hn t i) n (Nat.le_refl n)).1] at this
      exact this
    · have := s_itimesR1 q (t + 1) (rpw n m (t + 1)) n (pw n m t) m (by
        rw [hq, ← Nat.add_zero (t * 9), rpw_get hm (by omega) (by omega)]; rfl) (fun i hi => by
        rw [hq, Nat.add_assoc, rpw_get hm (by omega) (by omega), pcl_at (by rw [hpt]; omega)]) hpt hm (pw_lt hl hn t) hl hn1 hn
      rw [mul_nm (fun i _ => pw_lt hl hn t i), (lK_ct (b := gd m) (fun i _ => pw_lt hl hn t i) n (Nat.le_refl n)).1] at this
      exact this
  obtain ⟨cc, htm⟩ := htm
  have e0 : IntKind.i64.wrap (((t + 1 : Nat) : Int) - 1) = ((t : Nat) : Int) := wC (by omega) (by omega)
  by_cases hK1 : t + 1 = K
  · have hix := s_indexP n m hm (t + 1) (t + 1) (by omega) i0 (.inr ⟨i0, rfl, by omega, by rw [he, hK1], fun j hj e => hd j i0 hj hi0 (by rw [e, he, hK1])⟩)
    have e1 : IntKind.i64.wrap ((i0 : Int) + 1) = ((i0 + 1 : Nat) : Int) := wC (by omega) (by omega)
    have e2 : IntKind.i64.wrap (((t + 1 : Nat) : Int) - (i0 : Int)) = ((K - i0 : Nat) : Int) := wC (by omega) (by omega)
    rcases t with _ | t
    · have ht1 := (htm 0).2 rfl
      (repeat' (first | refine Exists.intro _ (And.intro e0 ?_) | refine (ht1).read [1,0] rfl ⟨rfl, rfl, trivial⟩ ?_ | refine (hix).read [1] rfl ⟨rfl, trivial⟩ ?_ | refine Exists.intro (pcl (n : Int) (pw n m 1)) (And.intro ⟨pcl_len hpt1, pcl_all hpt1⟩ ?_) | refine And.intro ⟨pcl_len hpt1, leR rfl, pcl_ones⟩ ?_ | refine Exists.intro (pcl (n : Int) (pw n m 1)) (And.intro ⟨leR rfl, spl0 (leR rfl)⟩ ?_) | refine Exists.intro _ (And.intro e1 ?_) | refine Exists.intro _ (And.intro e2 ?_) | refine And.intro ⟨rfl, mkL rfl⟩ ?_ | refine And.intro ⟨rfl, row2l mk_len⟩ ?_ | refine Exists.intro (i2 (i0 + 1) (K - i0)) (And.intro (row2i mk_len) ?_) | refine And.intro (neI rfl) ?_ | refine And.intro ⟨rfl, leR rfl, onesR rfl⟩ ?_ | refine And.intro ⟨rfl, leR rfl⟩ ?_ | refine draw_rule2 hfol (fun KK hKK => ?_) | refine hKK _ _ _ (by kernel_rfl) ?_ | refine region_rule (fun KK hKK => ?_) | refine hKK _ _ ?_ | refine And.intro (Eq.refl true) ?_ | refine Exists.intro _ (And.intro (wI (by omega)) ?_) | refine Exists.intro _ (And.intro (wU (by omega)) ?_) | refine Exists.intro _ (And.intro ⟨rfl, by omega⟩ ?_) | refine Exists.intro _ (And.intro rfl ?_) | refine And.intro rfl ?_ | refine And.intro ⟨rfl, rfl⟩ ?_ | ((refine And.intro (fun _ => ?_) (fun _ => ?_)) <;> try (exfalso; omega))))
      all_goals exact Exists.intro [3] (And.intro (rfl) (And.intro ⟨rfl, trivial⟩ rfl))
    · have ht1 := (htm (t * 9 + 8)).1 (by omega)
      rw [show t * 9 + 8 + 1 = (t + 1) * 9 from by omega] at ht1
      (repeat' (first | refine Exists.intro _ (And.intro e0 ?_) | refine (ht1).read [1,0] rfl ⟨rfl, rfl, trivial⟩ ?_ | refine (hix).read [1] rfl ⟨rfl, trivial⟩ ?_ | refine Exists.intro (pcl (n : Int) (pw n m (t + 1 + 1))) (And.intro ⟨pcl_len hpt1, pcl_all hpt1⟩ ?_) | refine And.intro ⟨pcl_len hpt1, leR rfl, pcl_ones⟩ ?_ | refine Exists.intro (pcl (n : Int) (pw n m (t + 1 + 1))) (And.intro ⟨leR rfl, spl0 (leR rfl)⟩ ?_) | refine Exists.intro _ (And.intro e1 ?_) | refine Exists.intro _ (And.intro e2 ?_) | refine And.intro ⟨rfl, mkL rfl⟩ ?_ | refine And.intro ⟨rfl, row2l mk_len⟩ ?_ | refine Exists.intro (i2 (i0 + 1) (K - i0)) (And.intro (row2i mk_len) ?_) | refine And.intro (neI rfl) ?_ | refine And.intro ⟨rfl, leR rfl, onesR rfl⟩ ?_ | refine And.intro ⟨rfl, leR rfl⟩ ?_ | refine draw_rule2 hfol (fun KK hKK => ?_) | refine hKK _ _ _ (by kernel_rfl) ?_ | refine region_rule (fun KK hKK => ?_) | refine hKK _ _ ?_ | refine And.intro (Eq.refl true) ?_ | refine Exists.intro _ (And.intro (wI (by omega)) ?_) | refine Exists.intro _ (And.intro (wU (by omega)) ?_) | refine Exists.intro _ (And.intro ⟨rfl, by omega⟩ ?_) | refine Exists.intro _ (And.intro rfl ?_) | refine And.intro rfl ?_ | refine And.intro ⟨rfl, rfl⟩ ?_ | ((refine And.intro (fun _ => ?_) (fun _ => ?_)) <;> try (exfalso; omega))))
      all_goals exact Exists.intro [3] (And.intro (rfl) (And.intro ⟨rfl, trivial⟩ rfl))
  · have hix := s_indexP n m hm (t + 1) (t + 1) (by omega) (-1) (.inl ⟨rfl, fun j hj => hd j (t + 1) hj (by omega)⟩)
    rcases t with _ | t
    · have ht1 := (htm 0).2 rfl
      (repeat' (first | refine Exists.intro _ (And.intro e0 ?_) | refine (ht1).read [1,0] rfl ⟨rfl, rfl, trivial⟩ ?_ | refine (hix).read [1] rfl ⟨rfl, trivial⟩ ?_ | refine Exists.intro (pcl (n : Int) (pw n m 1)) (And.intro ⟨pcl_len hpt1, pcl_all hpt1⟩ ?_) | refine And.intro ⟨pcl_len hpt1, leR rfl, pcl_ones⟩ ?_ | refine Exists.intro (pcl (n : Int) (pw n m 1)) (And.intro ⟨leR rfl, spl0 (leR rfl)⟩ ?_) | refine And.intro ⟨pcl_len hpt1, mkL rfl⟩ ?_ | refine Exists.intro (pcl n (pw n m 1)) (And.intro (row1sP (N := 9) (mkL' rfl)) ?_) | refine Exists.intro (rpw n m 2) (And.intro ⟨rfl, pcl_ones, by omega, by omega, rpw_succ⟩ ?_) | refine And.intro (neI rfl) ?_ | refine And.intro ⟨rfl, leR rfl, onesR rfl⟩ ?_ | refine And.intro ⟨rfl, leR rfl⟩ ?_ | refine draw_rule2 hfol (fun KK hKK => ?_) | refine hKK _ _ _ (by kernel_rfl) ?_ | refine region_rule (fun KK hKK => ?_) | refine hKK _ _ ?_ | refine And.intro (Eq.refl true) ?_ | refine Exists.intro _ (And.intro (wI (by omega)) ?_) | refine Exists.intro _ (And.intro (wU (by omega)) ?_) | refine Exists.intro _ (And.intro ⟨rfl, by omega⟩ ?_) | refine Exists.intro _ (And.intro rfl ?_) | refine And.intro rfl ?_ | refine And.intro ⟨rfl, rfl⟩ ?_ | ((refine And.intro (fun _ => ?_) (fun _ => ?_)) <;> try (exfalso; omega))))
      refine Exists.intro 1 (Exists.intro [0, 4] (And.intro ⟨by omega, (by show K - 1 < K - 0; omega)⟩ ⟨⟨rfl, rfl, trivial⟩, ⟨rfl, rfl, trivial⟩, rfl⟩))
    · have ht1 := (htm (t * 9 + 8)).1 (by omega)
      rw [show t * 9 + 8 + 1 = (t + 1) * 9 from by omega] at ht1
      (repeat' (first | refine Exists.intro _ (And.intro e0 ?_) | refine (ht1).read [1,0] rfl ⟨rfl, rfl, trivial⟩ ?_ | refine (hix).read [1] rfl ⟨rfl, trivial⟩ ?_ | refine Exists.intro (pcl (n : Int) (pw n m (t + 1 + 1))) (And.intro ⟨pcl_len hpt1, pcl_all hpt1⟩ ?_) | refine And.intro ⟨pcl_len hpt1, leR rfl, pcl_ones⟩ ?_ | refine Exists.intro (pcl (n : Int) (pw n m (t + 1 + 1))) (And.intro ⟨leR rfl, spl0 (leR rfl)⟩ ?_) | refine And.intro ⟨pcl_len hpt1, mkL rfl⟩ ?_ | refine Exists.intro (pcl n (pw n m (t + 1 + 1))) (And.intro (row1sP (N := 9) (mkL' rfl)) ?_) | refine Exists.intro (rpw n m (t + 1 + 1 + 1)) (And.intro ⟨rfl, pcl_ones, by omega, by omega, rpw_succ⟩ ?_) | refine And.intro (neI rfl) ?_ | refine And.intro ⟨rfl, leR rfl, onesR rfl⟩ ?_ | refine And.intro ⟨rfl, leR rfl⟩ ?_ | refine draw_rule2 hfol (fun KK hKK => ?_) | refine hKK _ _ _ (by kernel_rfl) ?_ | refine region_rule (fun KK hKK => ?_) | refine hKK _ _ ?_ | refine And.intro (Eq.refl true) ?_ | refine Exists.intro _ (And.intro (wI (by omega)) ?_) | refine Exists.intro _ (And.intro (wU (by omega)) ?_) | refine Exists.intro _ (And.intro ⟨rfl, by omega⟩ ?_) | refine Exists.intro _ (And.intro rfl ?_) | refine And.intro rfl ?_ | refine And.intro ⟨rfl, rfl⟩ ?_ | ((refine And.intro (fun _ => ?_) (fun _ => ?_)) <;> try (exfalso; omega))))
      refine Exists.intro (t + 2) (Exists.intro [0, 4] (And.intro ⟨by omega, (by show K - (t + 2) < K - (t + 1); omega)⟩ ⟨⟨rfl, rfl, trivial⟩, ⟨rfl, rfl, trivial⟩, rfl⟩))
end Go.Proofs.Ytpangmameocfmaa.VE.P
