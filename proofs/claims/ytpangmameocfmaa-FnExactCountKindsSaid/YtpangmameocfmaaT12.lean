/- Contracts of functions of the given program, for all arguments that the contract names; see each theorem. -/
import Derived.Test.YtpangmameocfmaaT11
set_option linter.all false
namespace Go.Proofs.Ytpangmameocfmaa.VE.P
open Go
set_option maxHeartbeats 400000
set_option maxRecDepth 100000

theorem isPi_size {s : Int} {m : List Nat} (h : isPi s m = true) : ∃ n : Nat, s = n ∧ 1 ≤ n ∧ n ≤ 4 := by
  unfold isPi at h
  simp only [Bool.and_eq_true, decide_eq_true_eq] at h
  exact ⟨s.toNat, by omega, by omega, by omega⟩
abbrev stV (p : ByteArray × Int) : V := .tup [.raw (.string p.1), vi p.2]
def textR (s : Int) (m : List Nat) : ByteArray × Int := if isPi s m then (dgB m (2 * s.toNat), 0) else (⟨#[]⟩, 1)

theorem s_sText (s : Int) (m : List Nat) (hm : m.length = 8) (hb : ∀ x ∈ m, x < 256) : Spec Try.prog n_s_PartitionText [pv s m] [] (stV (textR s m)) [] := by
  have hq := s_is s m hm hb
  rw [isP_eq s m hm] at hq
  have hr : textR s m = if isPi s m then (dgB m (2 * s.toNat), 0) else (⟨#[]⟩, 1) := rfl
  refine SpecW.of_EV hf_s_PartitionText hc_s_PartitionText rfl rfl rfl fun w0 B ρ0 _ => ?_
  cases hv : isPi s m with
  | false =>
    rw [hv] at hq hr
    (repeat' (first | refine hq.pure rfl ?_ | refine Exists.intro (pcl s m) (And.intro ⟨pcl_len hm, pcl_all hm⟩ ?_) | refine And.intro (neI rfl) ?_ | refine And.intro ⟨rfl, leR rfl, onesR rfl⟩ ?_ | refine And.intro ⟨rfl, leR rfl⟩ ?_ | refine draw_rule2 hfol (fun KK hKK => ?_) | refine hKK _ _ _ (by kernel_rfl) ?_ | refine region_rule (fun KK hKK => ?_) | refine hKK _ _ ?_ | refine And.intro (Eq.refl true) ?_ | refine Exists.intro _ (And.intro (wI (by omega)) ?_) | refine Exists.intro _ (And.intro (wU (by omega)) ?_) | refine Exists.intro _ (And.intro ⟨rfl, by omega⟩ ?_) | refine Exists.intro _ (And.intro rfl ?_) | refine And.intro rfl ?_ | refine And.intro ⟨rfl, rfl⟩ ?_ | ((refine And.intro (fun _ => ?_) (fun _ => ?_)) <;> try (exfalso; omega))))
    exact Exists.intro [] (And.intro (by rw [hr]; rfl) (And.intro trivial rfl))
  | true =>
    rw [hv] at hq hr
    obtain ⟨n, rfl, hn1, hn⟩ := isPi_size hv
    have ht := s_text n m hn (isPi_lt hv) hm
    (repeat' (first | refine hq.pure rfl ?_ | refine ht.pure rfl ?_ | refine Exists.intro (pcl n m) (And.intro ⟨pcl_len hm, pcl_all hm⟩ ?_) | refine And.intro (neI rfl) ?_ | refine And.intro ⟨rfl, leR rfl, onesR rfl⟩ ?_ | refine And.intro ⟨rfl, leR rfl⟩ ?_ | refine draw_rule2 hfol (fun KK hKK => ?_) | refine hKK _ _ _ (by kernel_rfl) ?_ | refine region_rule (fun KK hKK => ?_) | refine hKK _ _ ?_ | refine And.intro (Eq.refl true) ?_ | refine Exists.intro _ (And.intro (wI (by omega)) ?_) | refine Exists.intro _ (And.intro (wU (by omega)) ?_) | refine Exists.intro _ (And.intro ⟨rfl, by omega⟩ ?_) | refine Exists.intro _ (And.intro rfl ?_) | refine And.intro rfl ?_ | refine And.intro ⟨rfl, rfl⟩ ?_ | ((refine And.intro (fun _ => ?_) (fun _ => ?_)) <;> try (exfalso; omega))))
    exact Exists.intro [] (And.intro (by rw [hr]; rfl) (And.intro trivial rfl))

/-- The digits as cells. -/
def dgC (m : List Nat) (i : Nat) : List Value := (dg m i).map fun b => .int .u8 b.toNat
theorem dgC_succ {m : List Nat} {i : Nat} (h : m.getD i 0 < 8) : dgC m i ++ [.int .u8 ((48 + m.getD i 0 : Nat) : Int)] = dgC m (i + 1) := by
  unfold dgC
  rw [dg_succ, List.map_append, List.map_cons, List.map_nil, u8_nat (by omega)]

theorem s_iText (s : Int) (m : List Nat) (hm : m.length = 8) (hb : ∀ x ∈ m, x < 256) : Spec Try.prog n_i_PartitionText [pv s m] [] (stV (textR s m)) [] := by
  have hq := s_bad [(s, m)] (fun p hp => by simp at hp; subst hp; exact ⟨hm, hb⟩) (by simp)
  simp only [List.any_cons, List.any_nil, Bool.or_false] at hq
  have hr : textR s m = if isPi s m then (dgB m (2 * s.toNat), 0) else (⟨#[]⟩, 1) := rfl
  refine SpecW.of_EV hf_i_PartitionText hc_i_PartitionText rfl rfl rfl fun w0 B ρ0 _ => ?_
  cases hv : isPi s m with
  | false =>
    rw [hv] at hq hr
    (repeat' (first | refine hq.read [1] rfl ⟨rfl, trivial⟩ ?_ | refine Exists.intro (pcl s m) (And.intro ⟨pcl_len hm, pcl_all hm⟩ ?_) | refine And.intro ⟨pcl_len hm, mkL rfl⟩ ?_ | refine Exists.intro (rowP [(s, m)]) (And.intro (row1 (N := 9) (p := (s, m)) (mkL' rfl)) ?_) | refine And.intro (neI rfl) ?_ | refine And.intro ⟨rfl, leR rfl, onesR rfl⟩ ?_ | refine And.intro ⟨rfl, leR rfl⟩ ?_ | refine draw_rule2 hfol (fun KK hKK => ?_) | refine hKK _ _ _ (by kernel_rfl) ?_ | refine region_rule (fun KK hKK => ?_) | refine hKK _ _ ?_ | refine And.intro (Eq.refl true) ?_ | refine Exists.intro _ (And.intro (wI (by omega)) ?_) | refine Exists.intro _ (And.intro (wU (by omega)) ?_) | refine Exists.intro _ (And.intro ⟨rfl, by omega⟩ ?_) | refine Exists.intro _ (And.intro rfl ?_) | refine And.intro rfl ?_ | refine And.intro ⟨rfl, rfl⟩ ?_ | ((refine And.intro (fun _ => ?_) (fun _ => ?_)) <;> try (exfalso; omega))))
    exact Exists.intro [] (And.intro (by rw [hr]; rfl) (And.intro trivial rfl))
  | true =>
    rw [hv] at hq hr
    obtain ⟨n, rfl, hn1, hn⟩ := isPi_size hv
    (repeat' (first | refine hq.read [1] rfl ⟨rfl, trivial⟩ ?_ | refine (s_parts n m hn).read [0] rfl ⟨rfl, trivial⟩ ?_ | refine Exists.intro (pcl n m) (And.intro ⟨pcl_len hm, pcl_all hm⟩ ?_) | refine And.intro ⟨pcl_len hm, mkL rfl⟩ ?_ | refine Exists.intro (rowP [((n : Int), m)]) (And.intro (row1 (N := 9) (p := ((n : Int), m)) (mkL' rfl)) ?_) | refine And.intro (neI rfl) ?_ | refine And.intro ⟨rfl, leR rfl, onesR rfl⟩ ?_ | refine And.intro ⟨rfl, leR rfl⟩ ?_ | refine draw_rule2 hfol (fun KK hKK => ?_) | refine hKK _ _ _ (by kernel_rfl) ?_ | refine region_rule (fun KK hKK => ?_) | refine hKK _ _ ?_ | refine And.intro (Eq.refl true) ?_ | refine Exists.intro _ (And.intro (wI (by omega)) ?_) | refine Exists.intro _ (And.intro (wU (by omega)) ?_) | refine Exists.intro _ (And.intro ⟨rfl, by omega⟩ ?_) | refine Exists.intro _ (And.intro rfl ?_) | refine And.intro rfl ?_ | refine And.intro ⟨rfl, rfl⟩ ?_ | ((refine And.intro (fun _ => ?_) (fun _ => ?_)) <;> try (exfalso; omega))))
    refine loop_rule (α := Nat) (fun i => i ≤ 2 * n)
      (fun i => [(4, .sl 1), (11, .asl 0 1 (2 * n) 8), (12, vi (2 * n : Nat)), (13, vi i)]) (fun i => [.pc (pcl n m) T_i_Partition, .pr T_uint8 1 i (dgC m i)]) (fun i => 2 * n - i) 0 [0, 2]
      (by omega) ⟨⟨rfl, rfl, rfl, rfl, trivial⟩, ⟨rfl, rfl, trivial⟩, rfl⟩ ?_
    rintro i g hi
    by_cases h8 : i = 2 * n
    · subst h8
      (repeat' (first | refine Exists.intro (dg m (2 * n)) (And.intro rfl ?_) | refine And.intro (neI rfl) ?_ | refine And.intro ⟨rfl, leR rfl, onesR rfl⟩ ?_ | refine And.intro ⟨rfl, leR rfl⟩ ?_ | refine draw_rule2 hfol (fun KK hKK => ?_) | refine hKK _ _ _ (by kernel_rfl) ?_ | refine region_rule (fun KK hKK => ?_) | refine hKK _ _ ?_ | refine And.intro (Eq.refl true) ?_ | refine Exists.intro _ (And.intro (wI (by omega)) ?_) | refine Exists.intro _ (And.intro (wU (by omega)) ?_) | refine Exists.intro _ (And.intro ⟨rfl, by omega⟩ ?_) | refine Exists.intro _ (And.intro rfl ?_) | refine And.intro rfl ?_ | refine And.intro ⟨rfl, rfl⟩ ?_ | ((refine And.intro (fun _ => ?_) (fun _ => ?_)) <;> try (exfalso; omega))))
      exact Exists.intro [] (And.intro (by rw [hr]; rfl) (And.intro trivial rfl))
    have hbi := isPi_lt hv i
    have hw : IntKind.u8.wrap (48 + ((m.getD i 0 : Nat) : Int)) = ((48 + m.getD i 0 : Nat) : Int) := by rw [wU (by omega)]; omega
    (repeat' (first | refine Exists.intro _ (And.intro (pcl_at (by omega)) ?_) | refine Exists.intro _ (And.intro hw ?_) | refine And.intro ⟨rfl, mkL rfl⟩ ?_ | refine Exists.intro [Value.int .u8 ((48 + m.getD i 0 : Nat) : Int)] (And.intro (row1s (mkL' rfl)) ?_) | refine Exists.intro (dgC m (i + 1)) (And.intro ⟨rfl, onesR rfl, by omega, by omega, dgC_succ hbi⟩ ?_) | refine And.intro (neI rfl) ?_ | refine And.intro ⟨rfl, leR rfl, onesR rfl⟩ ?_ | refine And.intro ⟨rfl, leR rfl⟩ ?_ | refine draw_rule2 hfol (fun KK hKK => ?_) | refine hKK _ _ _ (by kernel_rfl) ?_ | refine region_rule (fun KK hKK => ?_) | refine hKK _ _ ?_ | refine And.intro (Eq.refl true) ?_ | refine Exists.intro _ (And.intro (wI (by omega)) ?_) | refine Exists.intro _ (And.intro (wU (by omega)) ?_) | refine Exists.intro _ (And.intro ⟨rfl, by omega⟩ ?_) | refine Exists.intro _ (And.intro rfl ?_) | refine And.intro rfl ?_ | refine And.intro ⟨rfl, rfl⟩ ?_ | ((refine And.intro (fun _ => ?_) (fun _ => ?_)) <;> try (exfalso; omega))))
    refine Exists.intro (i + 1) (Exists.intro [0, 3] (And.intro ⟨by omega, (by show 2 * n - (i + 1) < 2 * n - i; omega)⟩ ⟨⟨rfl, rfl, rfl, rfl, trivial⟩, ⟨rfl, rfl, trivial⟩, rfl⟩))
end Go.Proofs.Ytpangmameocfmaa.VE.P
