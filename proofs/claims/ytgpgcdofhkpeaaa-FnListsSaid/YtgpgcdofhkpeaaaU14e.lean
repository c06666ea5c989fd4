/- Contracts of functions of the given program, for all arguments that the contract names; see each theorem. -/
import Derived.Test.YtgpgcdofhkpeaaaU12e
set_option linter.all false
namespace Go.Proofs.Ytgpgcdofhkpeaaa.VE
open Go
set_option maxHeartbeats 800000
set_option maxRecDepth 100000

/-- The mirrored point. -/
def gM (n i : Nat) : Nat := i / n * n + n - 1 - i % n
theorem gM_facts {n i : Nat} (hn1 : 1 ≤ n) (hi : i < 2 * n) : ∃ d q r : Nat, i / n = d ∧ d * n = q ∧ d * 2 * n = 2 * q ∧ i % n = r ∧ q + r = i ∧ r < n ∧ q ≤ n ∧ d ≤ 1 ∧ gM n i = q + n - 1 - r := by
  have h1 := Nat.div_add_mod i n
  have h2 := Nat.mod_lt i (show 0 < n by omega)
  have h3 : i / n < 2 := (Nat.div_lt_iff_lt_mul (by omega)).2 (by omega)
  have h4 : i / n * n ≤ 1 * n := Nat.mul_le_mul_right n (by omega)
  refine ⟨i / n, i / n * n, i % n, rfl, rfl, ?_, rfl, ?_, h2, by omega, by omega, rfl⟩
  · rw [Nat.mul_right_comm]; omega
  · rw [Nat.mul_comm]; exact h1
theorem gM_lt {n i : Nat} (hn1 : 1 ≤ n) (hi : i < 2 * n) : gM n i < 2 * n := by
  obtain ⟨d, q, r, _, _, _, _, h1, h2, h3, _, h4⟩ := gM_facts hn1 hi
  omega

theorem s_mirror1 (n : Nat) (hn1 : 1 ≤ n) (hn : n ≤ 8) (i : Nat) (hi : i < 2 * n) : Spec Try.prog n_i_MirrorDiagram_1 [vi i, .ptr 0 0] [.pc [.int .i64 n] T_int] (vi (gM n i : Nat)) [.pc [.int .i64 n] T_int] := by
  obtain ⟨d, q, r, hd, hq, _, hr, h1, h2, h3, h5, h4⟩ := gM_facts hn1 hi
  have e1 := wdN (a := i) (b := n) (by omega)
  have e2 := wmN (a := d) (b := n) (by omega)
  have t1 := tmN i n
  rw [hd] at e1
  rw [hq] at e2
  rw [hr] at t1
  have hn0 : (n : Int) ≠ 0 := by omega
  refine SpecW.of_EV hf_i_MirrorDiagram_1 hc_i_MirrorDiagram_1 rfl rfl rfl fun w0 B ρ0 _ => ?_
  (repeat' (first | refine And.intro hn0 ?_ | refine Exists.intro _ (And.intro e1 ?_) | refine Exists.intro _ (And.intro e2 ?_) | refine Exists.intro _ (And.intro t1 ?_) | refine And.intro (neI rfl) ?_ | refine And.intro ⟨rfl, leR rfl, onesR rfl⟩ ?_ | refine And.intro ⟨rfl, leR rfl⟩ ?_ | refine draw_rule2 hfol (fun KK hKK => ?_) | refine hKK _ _ _ (by kernel_rfl) ?_ | refine region_rule (fun KK hKK => ?_) | refine hKK _ _ ?_ | refine And.intro (Eq.refl true) ?_ | refine Exists.intro _ (And.intro (wI (by omega)) ?_) | refine Exists.intro _ (And.intro (wU (by omega)) ?_) | refine Exists.intro _ (And.intro ⟨rfl, by omega⟩ ?_) | refine Exists.intro _ (And.intro rfl ?_) | refine And.intro rfl ?_ | refine And.intro ⟨rfl, rfl⟩ ?_ | ((refine And.intro (fun _ => ?_) (fun _ => ?_)) <;> try (exfalso; omega))))
  exact Exists.intro [0] (And.intro (viR (by rw [h4]; omega)) (And.intro ⟨rfl, trivial⟩ rfl))

theorem s_sMirror (s : Int) (m : List Nat) (hm : m.length = 16) (hb : ∀ x ∈ m, x < 256) : Spec Try.prog n_s_MirrorDiagram [pv s m] [] (dV (mvR gM s m)) [] := by
  have hq := s_sIs' s m hm hb
  have hr : mvR gM s m = if isDi s m then (s, wr (gM s.toNat) (fun i => gM s.toNat (m.getD i 0)) (2 * s.toNat), 0) else (0, List.replicate 16 0, 1) := rfl
  refine SpecW.of_EV hf_s_MirrorDiagram hc_s_MirrorDiagram rfl rfl rfl fun w0 B ρ0 _ => ?_
  cases hv : isDi s m with
  | false =>
    rw [hv] at hq hr
    (repeat' (first | refine (hq).pure rfl ?_ | refine Exists.intro (pcl s m) (And.intro ⟨pcl_len hm, pcl_all hm⟩ ?_) | refine Exists.intro (pcl 0 (List.replicate 16 0)) (And.intro ⟨leR rfl, rfl⟩ ?_) | refine Exists.intro (pcl 0 (List.replicate 16 0)) (And.intro ⟨rfl, rfl⟩ ?_) | refine And.intro (neI rfl) ?_ | refine And.intro ⟨rfl, leR rfl, onesR rfl⟩ ?_ | refine And.intro ⟨rfl, leR rfl⟩ ?_ | refine draw_rule2 hfol (fun KK hKK => ?_) | refine hKK _ _ _ (by kernel_rfl) ?_ | refine region_rule (fun KK hKK => ?_) | refine hKK _ _ ?_ | refine And.intro (Eq.refl true) ?_ | refine Exists.intro _ (And.intro (wI (by omega)) ?_) | refine Exists.intro _ (And.intro (wU (by omega)) ?_) | refine Exists.intro _ (And.intro ⟨rfl, by omega⟩ ?_) | refine Exists.intro _ (And.intro rfl ?_) | refine And.intro rfl ?_ | refine And.intro ⟨rfl, rfl⟩ ?_ | ((refine And.intro (fun _ => ?_) (fun _ => ?_)) <;> try (exfalso; omega))))
    exact Exists.intro [] (And.intro (by rw [hr]; rfl) (And.intro trivial rfl))
  | true =>
    rw [hv] at hq hr
    obtain ⟨n, rfl, hd⟩ := isDi_elim hm hv
    have hn := hd.n8
    have hn1 := hd.n1
    (repeat' (first | refine (hq).pure rfl ?_ | refine Exists.intro (pcl n m) (And.intro ⟨pcl_len hm, pcl_all hm⟩ ?_) | refine Exists.intro (pcl n (List.replicate 16 0)) (And.intro ⟨leR rfl, rfl⟩ ?_) | refine Exists.intro (pcl n (List.replicate 16 0)) (And.intro ⟨rfl, rfl⟩ ?_) | refine And.intro (neI rfl) ?_ | refine And.intro ⟨rfl, leR rfl, onesR rfl⟩ ?_ | refine And.intro ⟨rfl, leR rfl⟩ ?_ | refine draw_rule2 hfol (fun KK hKK => ?_) | refine hKK _ _ _ (by kernel_rfl) ?_ | refine region_rule (fun KK hKK => ?_) | refine hKK _ _ ?_ | refine And.intro (Eq.refl true) ?_ | refine Exists.intro _ (And.intro (wI (by omega)) ?_) | refine Exists.intro _ (And.intro (wU (by omega)) ?_) | refine Exists.intro _ (And.intro ⟨rfl, by omega⟩ ?_) | refine Exists.intro _ (And.intro rfl ?_) | refine And.intro rfl ?_ | refine And.intro ⟨rfl, rfl⟩ ?_ | ((refine And.intro (fun _ => ?_) (fun _ => ?_)) <;> try (exfalso; omega))))
    refine loop_rule (α := Nat) (fun k => k ≤ 2 * n)
      (fun k => [(1, .ptr 0 0), (2, .ptr 1 0), (4, vi n), (5, .ptr 2 0), (6, vi k)])
      (fun k => [.pc (pcl n m) T_i_Diagram, .pc (pcl 0 (List.replicate 16 0)) T_i_Diagram, .pc (pcl n (wr (gM n) (fun i => gM n (m.getD i 0)) k)) T_i_Diagram]) (fun k => 2 * n - k) 0 [0, 1, 2]
      (by omega) ⟨⟨rfl, rfl, rfl, rfl, rfl, trivial⟩, ⟨rfl, rfl, rfl, trivial⟩, rfl⟩ ?_
    rintro k g hk
    by_cases h9 : k = 2 * n
    · subst h9
      (repeat' (first | refine Exists.intro (pcl n (wr (gM n) (fun i => gM n (m.getD i 0)) (2 * n))) (And.intro ⟨pcl_len wr_len, pcl_all wr_len⟩ ?_) | refine And.intro ⟨pcl_len wr_len, leR rfl, pcl_ones⟩ ?_ | refine Exists.intro (pcl n (wr (gM n) (fun i => gM n (m.getD i 0)) (2 * n))) (And.intro ⟨leR rfl, spl0 (leR rfl)⟩ ?_) | refine And.intro (neI rfl) ?_ | refine And.intro ⟨rfl, leR rfl, onesR rfl⟩ ?_ | refine And.intro ⟨rfl, leR rfl⟩ ?_ | refine draw_rule2 hfol (fun KK hKK => ?_) | refine hKK _ _ _ (by kernel_rfl) ?_ | refine region_rule (fun KK hKK => ?_) | refine hKK _ _ ?_ | refine And.intro (Eq.refl true) ?_ | refine Exists.intro _ (And.intro (wI (by omega)) ?_) | refine Exists.intro _ (And.intro (wU (by omega)) ?_) | refine Exists.intro _ (And.intro ⟨rfl, by omega⟩ ?_) | refine Exists.intro _ (And.intro rfl ?_) | refine And.intro rfl ?_ | refine And.intro ⟨rfl, rfl⟩ ?_ | ((refine And.intro (fun _ => ?_) (fun _ => ?_)) <;> try (exfalso; omega))))
      exact Exists.intro [] (And.intro (by rw [hr]; rfl) (And.intro trivial rfl))
    have hkl : k < 2 * n := by omega
    have hok := hd.lt k hkl
    have g1 := gM_lt hn1 hkl
    have g2 := gM_lt hn1 hok
    obtain ⟨d, q, r, hd1, _, hq2, _, h1, h2, h3, h5, h4⟩ := gM_facts hn1 hkl
    obtain ⟨d', q', r', hd1', _, hq2', _, h1', h2', h3', h5', h4'⟩ := gM_facts hn1 hok
    have e1 := wdN (a := k) (b := n) (by omega)
    have e1' := wdN (a := m.getD k 0) (b := n) (by omega)
    rw [hd1] at e1
    rw [hd1'] at e1'
    have e3 : IntKind.i64.wrap ((d : Int) * 2 * (n : Int)) = ((2 * q : Nat) : Int) := by rw [← hq2]; exact wC (by rw [Int.natCast_mul, Int.natCast_mul]; rfl) (by omega)
    have e3' : IntKind.i64.wrap ((d' : Int) * 2 * (n : Int)) = ((2 * q' : Nat) : Int) := by rw [← hq2']; exact wC (by rw [Int.natCast_mul, Int.natCast_mul]; rfl) (by omega)
    have e5 : IntKind.i64.wrap (((2 * q : Nat) : Int) + (n : Int) - 1 - (k : Int)) = ((gM n k : Nat) : Int) := wC (by omega) (by omega)
    have e5' : IntKind.i64.wrap (((2 * q' : Nat) : Int) + (n : Int) - 1 - ((m.getD k 0 : Nat) : Int)) = ((gM n (m.getD k 0) : Nat) : Int) := wC (by omega) (by omega)
    have hn0 : (n : Int) ≠ 0 := by omega
    (repeat' (first | refine And.intro hn0 ?_ | refine Exists.intro _ (And.intro e1 ?_) | refine Exists.intro _ (And.intro e3 ?_) | refine Exists.intro _ (And.intro e5 ?_) | refine Exists.intro _ (And.intro e1' ?_) | refine Exists.intro _ (And.intro e3' ?_) | refine Exists.intro _ (And.intro e5' ?_) | refine Exists.intro _ (And.intro (pcl_at (by omega)) ?_) | refine Exists.intro (pcl n (wr (gM n) (fun i => gM n (m.getD i 0)) (k + 1))) (And.intro ⟨by rw [pcl_len wr_len]; omega, pcl_set⟩ ?_) | refine And.intro (neI rfl) ?_ | refine And.intro ⟨rfl, leR rfl, onesR rfl⟩ ?_ | refine And.intro ⟨rfl, leR rfl⟩ ?_ | refine draw_rule2 hfol (fun KK hKK => ?_) | refine hKK _ _ _ (by kernel_rfl) ?_ | refine region_rule (fun KK hKK => ?_) | refine hKK _ _ ?_ | refine And.intro (Eq.refl true) ?_ | refine Exists.intro _ (And.intro (wI (by omega)) ?_) | refine Exists.intro _ (And.intro (wU (by omega)) ?_) | refine Exists.intro _ (And.intro ⟨rfl, by omega⟩ ?_) | refine Exists.intro _ (And.intro rfl ?_) | refine And.intro rfl ?_ | refine And.intro ⟨rfl, rfl⟩ ?_ | ((refine And.intro (fun _ => ?_) (fun _ => ?_)) <;> try (exfalso; omega))))
    refine Exists.intro (k + 1) (Exists.intro [0, 1, 2] (And.intro ⟨by omega, (by show 2 * n - (k + 1) < 2 * n - k; omega)⟩ ⟨⟨rfl, rfl, rfl, rfl, rfl, trivial⟩, ⟨rfl, rfl, rfl, trivial⟩, rfl⟩))

theorem s_iMirror (s : Int) (m : List Nat) (hm : m.length = 16) (hb : ∀ x ∈ m, x < 256) : Spec Try.prog n_i_MirrorDiagram [pv s m] [] (dV (mvR gM s m)) [] := by
  have hq := s_invalid1D s m hm hb
  have hr : mvR gM s m = if isDi s m then (s, wr (gM s.toNat) (fun i => gM s.toNat (m.getD i 0)) (2 * s.toNat), 0) else (0, List.replicate 16 0, 1) := rfl
  refine SpecW.of_EV hf_i_MirrorDiagram hc_i_MirrorDiagram rfl rfl rfl fun w0 B ρ0 _ => ?_
  cases hv : isDi s m with
  | false =>
    rw [hv] at hq hr; simp only [Bool.not_false, cond_true] at hq
    (repeat' (first | refine (hq).read [2] rfl ⟨rfl, trivial⟩ ?_ | refine Exists.intro (pcl s m) (And.intro ⟨pcl_len hm, pcl_all hm⟩ ?_) | refine And.intro ⟨pcl_len hm, mkL rfl⟩ ?_ | refine Exists.intro (rowP [(s, m)]) (And.intro (row1 (N := 17) (p := (s, m)) (mkL' rfl)) ?_) | refine Exists.intro (pcl 0 (List.replicate 16 0)) (And.intro ⟨leR rfl, rfl⟩ ?_) | refine Exists.intro (pcl 0 (List.replicate 16 0)) (And.intro ⟨rfl, rfl⟩ ?_) | refine And.intro (neI rfl) ?_ | refine And.intro ⟨rfl, leR rfl, onesR rfl⟩ ?_ | refine And.intro ⟨rfl, leR rfl⟩ ?_ | refine draw_rule2 hfol (fun KK hKK => ?_) | refine hKK _ _ _ (by kernel_rfl) ?_ | refine region_rule (fun KK hKK => ?_) | refine hKK _ _ ?_ | refine And.intro (Eq.refl true) ?_ | refine Exists.intro _ (And.intro (wI (by omega)) ?_) | refine Exists.intro _ (And.intro (wU (by omega)) ?_) | refine Exists.intro _ (And.intro ⟨rfl, by omega⟩ ?_) | refine Exists.intro _ (And.intro rfl ?_) | refine And.intro rfl ?_ | refine And.intro ⟨rfl, rfl⟩ ?_ | ((refine And.intro (fun _ => ?_) (fun _ => ?_)) <;> try (exfalso; omega))))
    exact Exists.intro [] (And.intro (by rw [hr]; rfl) (And.intro trivial rfl))
  | true =>
    rw [hv] at hq hr; simp only [Bool.not_true, cond_false] at hq
    obtain ⟨n, rfl, hd⟩ := isDi_elim hm hv
    have hmv := s_moved n_i_MirrorDiagram_1 (gM n) n m hd (fun i hi => gM_lt hd.n1 hi) (s_mirror1 n hd.n1 hd.n8)
    (repeat' (first | refine (hq).read [2] rfl ⟨rfl, trivial⟩ ?_ | refine (s_n n m).read [0] rfl ⟨rfl, trivial⟩ ?_ | refine (hmv).read [0, 3] rfl ⟨rfl, rfl, trivial⟩ ?_ | refine Exists.intro [Value.int .i64 n] (And.intro ⟨leR rfl, rfl⟩ ?_) | refine Exists.intro (pcl n m) (And.intro ⟨pcl_len hm, pcl_all hm⟩ ?_) | refine And.intro ⟨pcl_len hm, mkL rfl⟩ ?_ | refine Exists.intro (rowP [((n : Int), m)]) (And.intro (row1 (N := 17) (p := ((n : Int), m)) (mkL' rfl)) ?_) | refine Exists.intro (pcl n (wr (gM n) (fun i => gM n (m.getD i 0)) (2 * n))) (And.intro ⟨pcl_len wr_len, pcl_all wr_len⟩ ?_) | refine And.intro ⟨pcl_len wr_len, leR rfl, pcl_ones⟩ ?_ | refine Exists.intro (pcl n (wr (gM n) (fun i => gM n (m.getD i 0)) (2 * n))) (And.intro ⟨leR rfl, spl0 (leR rfl)⟩ ?_) | refine And.intro (neI rfl) ?_ | refine And.intro ⟨rfl, leR rfl, onesR rfl⟩ ?_ | refine And.intro ⟨rfl, leR rfl⟩ ?_ | refine draw_rule2 hfol (fun KK hKK => ?_) | refine hKK _ _ _ (by kernel_rfl) ?_ | refine region_rule (fun KK hKK => ?_) | refine hKK _ _ ?_ | refine And.intro (Eq.refl true) ?_ | refine Exists.intro _ (And.intro (wI (by omega)) ?_) | refine Exists.intro _ (And.intro (wU (by omega)) ?_) | refine Exists.intro _ (And.intro ⟨rfl, by omega⟩ ?_) | refine Exists.intro _ (And.intro rfl ?_) | refine And.intro rfl ?_ | refine And.intro ⟨rfl, rfl⟩ ?_ | ((refine And.intro (fun _ => ?_) (fun _ => ?_)) <;> try (exfalso; omega))))
    exact Exists.intro [] (And.intro (by rw [hr]; rfl) (And.intro trivial rfl))
/-- The turned point. -/
def gT (n i : Nat) : Nat := plc n ((plc n i + 1) % (2 * n))
theorem gT_lt {n i : Nat} (hn1 : 1 ≤ n) : gT n i < 2 * n := plc_lt (Nat.mod_lt _ (by omega))
theorem tmT {n i : Nat} : Int.tmod ((i : Int) + 1) (2 * (n : Int)) = (((i + 1) % (2 * n) : Nat) : Int) := by
  have := tmN (i + 1) (2 * n); rwa [Int.natCast_add, Int.natCast_mul] at this
theorem s_turn1 (n : Nat) (hn1 : 1 ≤ n) (hn : n ≤ 8) (i : Nat) (hi : i < 2 * n) : Spec Try.prog n_i_TurnDiagram_1 [vi i, .ptr 0 0] [.pc [.int .i64 n] T_int] (vi (gT n i : Nat)) [.pc [.int .i64 n] T_int] := by
  have h1 := s_iplace n i (by omega) hi
  have hp := plc_lt hi
  have hl : (plc n i + 1) % (2 * n) < 2 * n := Nat.mod_lt _ (by omega)
  have h2 := s_iplace n ((plc n i + 1) % (2 * n)) (by omega) hl
  have t1 := tmT (n := n) (i := plc n i)
  have hn0 : 2 * (n : Int) ≠ 0 := by omega
  refine SpecW.of_EV hf_i_TurnDiagram_1 hc_i_TurnDiagram_1 rfl rfl rfl fun w0 B ρ0 _ => ?_
  (repeat' (first | refine (h1).pure rfl ?_ | refine (h2).pure rfl ?_ | refine And.intro hn0 ?_ | refine Exists.intro _ (And.intro t1 ?_) | refine And.intro (neI rfl) ?_ | refine And.intro ⟨rfl, leR rfl, onesR rfl⟩ ?_ | refine And.intro ⟨rfl, leR rfl⟩ ?_ | refine draw_rule2 hfol (fun KK hKK => ?_) | refine hKK _ _ _ (by kernel_rfl) ?_ | refine region_rule (fun KK hKK => ?_) | refine hKK _ _ ?_ | refine And.intro (Eq.refl true) ?_ | refine Exists.intro _ (And.intro (wI (by omega)) ?_) | refine Exists.intro _ (And.intro (wU (by omega)) ?_) | refine Exists.intro _ (And.intro ⟨rfl, by omega⟩ ?_) | refine Exists.intro _ (And.intro rfl ?_) | refine And.intro rfl ?_ | refine And.intro ⟨rfl, rfl⟩ ?_ | ((refine And.intro (fun _ => ?_) (fun _ => ?_)) <;> try (exfalso; omega))))
  exact Exists.intro [0] (And.intro (rfl) (And.intro ⟨rfl, trivial⟩ rfl))

def tp (n k : Nat) : Nat := plc n ((k + 1) % (2 * n))
def tv (n : Nat) (m : List Nat) (k : Nat) : Nat := plc n ((plc n (m.getD (plc n k) 0) + 1) % (2 * n))
theorem suc_mod {n k : Nat} (hk : k < 2 * n) : (k + 1) % (2 * n) = if k + 1 = 2 * n then 0 else k + 1 := by
  split
  · rename_i h; rw [h, Nat.mod_self]
  · exact Nat.mod_eq_of_lt (by omega)
theorem tp_inj {n i j : Nat} (hi : i < 2 * n) (hj : j < 2 * n) (h : tp n i = tp n j) : i = j := by
  have h1 : (i + 1) % (2 * n) < 2 * n := Nat.mod_lt _ (by omega)
  have h2 : (j + 1) % (2 * n) < 2 * n := Nat.mod_lt _ (by omega)
  have h3 : (i + 1) % (2 * n) = (j + 1) % (2 * n) := by rw [← plc_inv h1, ← plc_inv h2]; exact congrArg (plc n) h
  rw [suc_mod hi, suc_mod hj] at h3
  split at h3 <;> split at h3 <;> omega
theorem turn_eq {n : Nat} {m : List Nat} (hd : IsD n m) : wr (tp n) (tv n m) (2 * n) = wr (gT n) (fun i => gT n (m.getD i 0)) (2 * n) := by
  have hn := hd.n8
  have hn1 := hd.n1
  have tl : ∀ j, tp n j < 2 * n := fun j => plc_lt (Nat.mod_lt _ (by omega))
  have gt : ∀ i, gT n i = tp n (plc n i) := fun i => rfl
  have hgi : ∀ i j, i < 2 * n → j < 2 * n → gT n i = gT n j → i = j := by
    intro i j hi hj h
    have := tp_inj (plc_lt hi) (plc_lt hj) h
    rw [← plc_inv hi, ← plc_inv hj, this]
  refine eq_of_getD wr_len wr_len fun y hy => ?_
  by_cases hj : ∃ j, j < 2 * n ∧ tp n j = y
  · obtain ⟨j, hj, rfl⟩ := hj
    rw [wr_at (fun j _ => by have := tl j; omega) (fun i j hi hj h => tp_inj hi hj h) j hj]
    have e : tp n j = gT n (plc n j) := by rw [gt, plc_inv hj]
    rw [e, wr_at (fun j _ => by have := gT_lt (i := j) hn1; omega) hgi (plc n j) (plc_lt hj)]
    rfl
  · rw [wr_out (fun j _ => by have := tl j; omega) y fun j h1 h2 => hj ⟨j, h1, h2⟩, wr_out (fun j _ => by have := gT_lt (i := j) hn1; omega) y fun i h1 h2 => hj ⟨plc n i, plc_lt h1, by rw [← gt]; exact h2⟩]

theorem s_sTurn (s : Int) (m : List Nat) (hm : m.length = 16) (hb : ∀ x ∈ m, x < 256) : Spec Try.prog n_s_TurnDiagram [pv s m] [] (dV (mvR gT s m)) [] := by
  have hq := s_sIs' s m hm hb
  have hr : mvR gT s m = if isDi s m then (s, wr (gT s.toNat) (fun i => gT s.toNat (m.getD i 0)) (2 * s.toNat), 0) else (0, List.replicate 16 0, 1) := rfl
  refine SpecW.of_EV hf_s_TurnDiagram hc_s_TurnDiagram rfl rfl rfl fun w0 B ρ0 _ => ?_
  cases hv : isDi s m with
  | false =>
    rw [hv] at hq hr
    (repeat' (first | refine (hq).pure rfl ?_ | refine Exists.intro (pcl s m) (And.intro ⟨pcl_len hm, pcl_all hm⟩ ?_) | refine Exists.intro (pcl 0 (List.replicate 16 0)) (And.intro ⟨leR rfl, rfl⟩ ?_) | refine Exists.intro (pcl 0 (List.replicate 16 0)) (And.intro ⟨rfl, rfl⟩ ?_) | refine And.intro (neI rfl) ?_ | refine And.intro ⟨rfl, leR rfl, onesR rfl⟩ ?_ | refine And.intro ⟨rfl, leR rfl⟩ ?_ | refine draw_rule2 hfol (fun KK hKK => ?_) | refine hKK _ _ _ (by kernel_rfl) ?_ | refine region_rule (fun KK hKK => ?_) | refine hKK _ _ ?_ | refine And.intro (Eq.refl true) ?_ | refine Exists.intro _ (And.intro (wI (by omega)) ?_) | refine Exists.intro _ (And.intro (wU (by omega)) ?_) | refine Exists.intro _ (And.intro ⟨rfl, by omega⟩ ?_) | refine Exists.intro _ (And.intro rfl ?_) | refine And.intro rfl ?_ | refine And.intro ⟨rfl, rfl⟩ ?_ | ((refine And.intro (fun _ => ?_) (fun _ => ?_)) <;> try (exfalso; omega))))
    exact Exists.intro [] (And.intro (by rw [hr]; rfl) (And.intro trivial rfl))
  | true =>
    rw [hv] at hq hr
    obtain ⟨n, rfl, hd⟩ := isDi_elim hm hv
    have hn := hd.n8
    have hn1 := hd.n1
    rw [Int.toNat_natCast, ← turn_eq hd] at hr
    (repeat' (first | refine (hq).pure rfl ?_ | refine Exists.intro (pcl n m) (And.intro ⟨pcl_len hm, pcl_all hm⟩ ?_) | refine Exists.intro (pcl n (List.replicate 16 0)) (And.intro ⟨leR rfl, rfl⟩ ?_) | refine Exists.intro (pcl n (List.replicate 16 0)) (And.intro ⟨rfl, rfl⟩ ?_) | refine And.intro (neI rfl) ?_ | refine And.intro ⟨rfl, leR rfl, onesR rfl⟩ ?_ | refine And.intro ⟨rfl, leR rfl⟩ ?_ | refine draw_rule2 hfol (fun KK hKK => ?_) | refine hKK _ _ _ (by kernel_rfl) ?_ | refine region_rule (fun KK hKK => ?_) | refine hKK _ _ ?_ | refine And.intro (Eq.refl true) ?_ | refine Exists.intro _ (And.intro (wI (by omega)) ?_) | refine Exists.intro _ (And.intro (wU (by omega)) ?_) | refine Exists.intro _ (And.intro ⟨rfl, by omega⟩ ?_) | refine Exists.intro _ (And.intro rfl ?_) | refine And.intro rfl ?_ | refine And.intro ⟨rfl, rfl⟩ ?_ | ((refine And.intro (fun _ => ?_) (fun _ => ?_)) <;> try (exfalso; omega))))
    refine loop_rule (α := Nat) (fun k => k ≤ 2 * n)
      (fun k => [(1, .ptr 0 0), (2, .ptr 1 0), (4, vi n), (5, .ptr 2 0), (6, vi k)])
      (fun k => [.pc (pcl n m) T_i_Diagram, .pc (pcl 0 (List.replicate 16 0)) T_i_Diagram, .pc (pcl n (wr (tp n) (tv n m) k)) T_i_Diagram]) (fun k => 2 * n - k) 0 [0, 1, 2]
      (by omega) ⟨⟨rfl, rfl, rfl, rfl, rfl, trivial⟩, ⟨rfl, rfl, rfl, trivial⟩, rfl⟩ ?_
    rintro k g hk
    by_cases h9 : k = 2 * n
    · subst h9
      (repeat' (first | refine Exists.intro (pcl n (wr (tp n) (tv n m) (2 * n))) (And.intro ⟨pcl_len wr_len, pcl_all wr_len⟩ ?_) | refine And.intro ⟨pcl_len wr_len, leR rfl, pcl_ones⟩ ?_ | refine Exists.intro (pcl n (wr (tp n) (tv n m) (2 * n))) (And.intro ⟨leR rfl, spl0 (leR rfl)⟩ ?_) | refine And.intro (neI rfl) ?_ | refine And.intro ⟨rfl, leR rfl, onesR rfl⟩ ?_ | refine And.intro ⟨rfl, leR rfl⟩ ?_ | refine draw_rule2 hfol (fun KK hKK => ?_) | refine hKK _ _ _ (by kernel_rfl) ?_ | refine region_rule (fun KK hKK => ?_) | refine hKK _ _ ?_ | refine And.intro (Eq.refl true) ?_ | refine Exists.intro _ (And.intro (wI (by omega)) ?_) | refine Exists.intro _ (And.intro (wU (by omega)) ?_) | refine Exists.intro _ (And.intro ⟨rfl, by omega⟩ ?_) | refine Exists.intro _ (And.intro rfl ?_) | refine And.intro rfl ?_ | refine And.intro ⟨rfl, rfl⟩ ?_ | ((refine And.intro (fun _ => ?_) (fun _ => ?_)) <;> try (exfalso; omega))))
      exact Exists.intro [] (And.intro (by rw [hr]; rfl) (And.intro trivial rfl))
    have hkl : k < 2 * n := by omega
    have hp1 := plc_lt hkl
    have hok := hd.lt _ hp1
    have hp2 := plc_lt hok
    have l1 : (k + 1) % (2 * n) < 2 * n := Nat.mod_lt _ (by omega)
    have l2 : (plc n (m.getD (plc n k) 0) + 1) % (2 * n) < 2 * n := Nat.mod_lt _ (by omega)
    have c1 := s_place n k (by omega) hkl
    have c2 := s_place n _ (by omega) hok
    have c3 : Spec Try.prog n_s_l01Place [vi n, vi ((k + 1) % (2 * n) : Nat)] [] (vi (tp n k : Nat)) [] := s_place n _ (by omega) l1
    have c4 : Spec Try.prog n_s_l01Place [vi n, vi ((plc n (m.getD (plc n k) 0) + 1) % (2 * n) : Nat)] [] (vi (tv n m k : Nat)) [] := s_place n _ (by omega) l2
    have g1 : tp n k < 2 * n := plc_lt l1
    have g2 : tv n m k < 2 * n := plc_lt l2
    have t1 := tmT (n := n) (i := k)
    have t2 := tmT (n := n) (i := plc n (m.getD (plc n k) 0))
    have hn0 : 2 * (n : Int) ≠ 0 := by omega
    (repeat' (first | refine (c1).pure rfl ?_ | refine (c2).pure rfl ?_ | refine (c3).pure rfl ?_ | refine (c4).pure rfl ?_ | refine And.intro hn0 ?_ | refine Exists.intro _ (And.intro t1 ?_) | refine Exists.intro _ (And.intro t2 ?_) | refine Exists.intro _ (And.intro (pcl_at (by omega)) ?_) | refine Exists.intro (pcl n (wr (tp n) (tv n m) (k + 1))) (And.intro ⟨by rw [pcl_len wr_len]; omega, pcl_set⟩ ?_) | refine And.intro (neI rfl) ?_ | refine And.intro ⟨rfl, leR rfl, onesR rfl⟩ ?_ | refine And.intro ⟨rfl, leR rfl⟩ ?_ | refine draw_rule2 hfol (fun KK hKK => ?_) | refine hKK _ _ _ (by kernel_rfl) ?_ | refine region_rule (fun KK hKK => ?_) | refine hKK _ _ ?_ | refine And.intro (Eq.refl true) ?_ | refine Exists.intro _ (And.intro (wI (by omega)) ?_) | refine Exists.intro _ (And.intro (wU (by omega)) ?_) | refine Exists.intro _ (And.intro ⟨rfl, by omega⟩ ?_) | refine Exists.intro _ (And.intro rfl ?_) | refine And.intro rfl ?_ | refine And.intro ⟨rfl, rfl⟩ ?_ | ((refine And.intro (fun _ => ?_) (fun _ => ?_)) <;> try (exfalso; omega))))
    refine Exists.intro (k + 1) (Exists.intro [0, 1, 2] (And.intro ⟨by omega, (by show 2 * n - (k + 1) < 2 * n - k; omega)⟩ ⟨⟨rfl, rfl, rfl, rfl, rfl, trivial⟩, ⟨rfl, rfl, rfl, trivial⟩, rfl⟩))

theorem s_iTurn (s : Int) (m : List Nat) (hm : m.length = 16) (hb : ∀ x ∈ m, x < 256) : Spec Try.prog n_i_TurnDiagram [pv s m] [] (dV (mvR gT s m)) [] := by
  have hq := s_invalid1D s m hm hb
  have hr : mvR gT s m = if isDi s m then (s, wr (gT s.toNat) (fun i => gT s.toNat (m.getD i 0)) (2 * s.toNat), 0) else (0, List.replicate 16 0, 1) := rfl
  refine SpecW.of_EV hf_i_TurnDiagram hc_i_TurnDiagram rfl rfl rfl fun w0 B ρ0 _ => ?_
  cases hv : isDi s m with
  | false =>
    rw [hv] at hq hr; simp only [Bool.not_false, cond_true] at hq
    (repeat' (first | refine (hq).read [2] rfl ⟨rfl, trivial⟩ ?_ | refine Exists.intro (pcl s m) (And.intro ⟨pcl_len hm, pcl_all hm⟩ ?_) | refine And.intro ⟨pcl_len hm, mkL rfl⟩ ?_ | refine Exists.intro (rowP [(s, m)]) (And.intro (row1 (N := 17) (p := (s, m)) (mkL' rfl)) ?_) | refine Exists.intro (pcl 0 (List.replicate 16 0)) (And.intro ⟨leR rfl, rfl⟩ ?_) | refine Exists.intro (pcl 0 (List.replicate 16 0)) (And.intro ⟨rfl, rfl⟩ ?_) | refine And.intro (neI rfl) ?_ | refine And.intro ⟨rfl, leR rfl, onesR rfl⟩ ?_ | refine And.intro ⟨rfl, leR rfl⟩ ?_ | refine draw_rule2 hfol (fun KK hKK => ?_) | refine hKK _ _ _ (by kernel_rfl) ?_ | refine region_rule (fun KK hKK => ?_) | refine hKK _ _ ?_ | refine And.intro (Eq.refl true) ?_ | refine Exists.intro _ (And.intro (wI (by omega)) ?_) | refine Exists.intro _ (And.intro (wU (by omega)) ?_) | refine Exists.intro _ (And.intro ⟨rfl, by omega⟩ ?_) | refine Exists.intro _ (And.intro rfl ?_) | refine And.intro rfl ?_ | refine And.intro ⟨rfl, rfl⟩ ?_ | ((refine And.intro (fun _ => ?_) (fun _ => ?_)) <;> try (exfalso; omega))))
    exact Exists.intro [] (And.intro (by rw [hr]; rfl) (And.intro trivial rfl))
  | true =>
    rw [hv] at hq hr; simp only [Bool.not_true, cond_false] at hq
    obtain ⟨n, rfl, hd⟩ := isDi_elim hm hv
    have hmv := s_moved n_i_TurnDiagram_1 (gT n) n m hd (fun i hi => gT_lt hd.n1) (s_turn1 n hd.n1 hd.n8)
    (repeat' (first | refine (hq).read [2] rfl ⟨rfl, trivial⟩ ?_ | refine (s_n n m).read [0] rfl ⟨rfl, trivial⟩ ?_ | refine (hmv).read [0, 3] rfl ⟨rfl, rfl, trivial⟩ ?_ | refine Exists.intro [Value.int .i64 n] (And.intro ⟨leR rfl, rfl⟩ ?_) | refine Exists.intro (pcl n m) (And.intro ⟨pcl_len hm, pcl_all hm⟩ ?_) | refine And.intro ⟨pcl_len hm, mkL rfl⟩ ?_ | refine Exists.intro (rowP [((n : Int), m)]) (And.intro (row1 (N := 17) (p := ((n : Int), m)) (mkL' rfl)) ?_) | refine Exists.intro (pcl n (wr (gT n) (fun i => gT n (m.getD i 0)) (2 * n))) (And.intro ⟨pcl_len wr_len, pcl_all wr_len⟩ ?_) | refine And.intro ⟨pcl_len wr_len, leR rfl, pcl_ones⟩ ?_ | refine Exists.intro (pcl n (wr (gT n) (fun i => gT n (m.getD i 0)) (2 * n))) (And.intro ⟨leR rfl, spl0 (leR rfl)⟩ ?_) | refine And.intro (neI rfl) ?_ | refine And.intro ⟨rfl, leR rfl, onesR rfl⟩ ?_ | refine And.intro ⟨rfl, leR rfl⟩ ?_ | refine draw_rule2 hfol (fun KK hKK => ?_) | refine hKK _ _ _ (by kernel_rfl) ?_ | refine region_rule (fun KK hKK => ?_) | refine hKK _ _ ?_ | refine And.intro (Eq.refl true) ?_ | refine Exists.intro _ (And.intro (wI (by omega)) ?_) | refine Exists.intro _ (And.intro (wU (by omega)) ?_) | refine Exists.intro _ (And.intro ⟨rfl, by omega⟩ ?_) | refine Exists.intro _ (And.intro rfl ?_) | refine And.intro rfl ?_ | refine And.intro ⟨rfl, rfl⟩ ?_ | ((refine And.intro (fun _ => ?_) (fun _ => ?_)) <;> try (exfalso; omega))))
    exact Exists.intro [] (And.intro (by rw [hr]; rfl) (And.intro trivial rfl))
end Go.Proofs.Ytgpgcdofhkpeaaa.VE
