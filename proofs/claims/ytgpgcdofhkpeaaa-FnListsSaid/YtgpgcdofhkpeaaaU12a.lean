/- Contracts of functions of the given program, for all arguments that the contract names; see each theorem. -/
import Derived.Test.YtgpgcdofhkpeaaaU10a
set_option linter.all false
namespace Go.Proofs.Ytgpgcdofhkpeaaa.VE
open Go
set_option maxHeartbeats 800000
set_option maxRecDepth 100000

/-- Places p are given values v, one after the other. -/
def wr (p v : Nat → Nat) : Nat → List Nat
  | 0 => List.replicate 16 0
  | k + 1 => (wr p v k).set (p k) (v k)
theorem wr_len {p v : Nat → Nat} : ∀ {k}, (wr p v k).length = 16
  | 0 => by simp [wr]
  | k + 1 => by simp [wr, wr_len (k := k)]
theorem wr_at {p v : Nat → Nat} : ∀ {k}, (∀ j, j < k → p j < 16) → (∀ i j, i < k → j < k → p i = p j → i = j) → ∀ j, j < k → (wr p v k).getD (p j) 0 = v j
  | 0, _, _, j, hj => by omega
  | k + 1, hp, hi, j, hj => by
    rw [wr, getD_set' (by rw [wr_len]; exact hp k (by omega))]
    by_cases h : p k = p j
    · rw [if_pos h, hi k j (by omega) hj h]
    · rw [if_neg h]
      have : j ≠ k := by rintro rfl; exact h rfl
      exact wr_at (fun j hj => hp j (by omega)) (fun i j h1 h2 => hi i j (by omega) (by omega)) j (by omega)
theorem wr_out {p v : Nat → Nat} : ∀ {k}, (∀ j, j < k → p j < 16) → ∀ x, (∀ j, j < k → p j ≠ x) → (wr p v k).getD x 0 = 0
  | 0, _, x, _ => by
    rw [wr, List.getD_eq_getElem?_getD, List.getElem?_replicate]; split <;> rfl
  | k + 1, hp, x, hx => by
    rw [wr, getD_set' (by rw [wr_len]; exact hp k (by omega)), if_neg (hx k (by omega))]
    exact wr_out (fun j hj => hp j (by omega)) x fun j hj => hx j (by omega)

theorem s_moved (F : FuncId) (G : Nat → Nat) (n : Nat) (m : List Nat) (hd : IsD n m) (hG : ∀ i, i < 2 * n → G i < 2 * n)
    (hc : ∀ i, i < 2 * n → Spec Try.prog F [vi i, .ptr 0 0] [.pc [.int .i64 n] T_int] (vi (G i : Nat)) [.pc [.int .i64 n] T_int]) :
    Spec Try.prog n_i_Diagram_moved [.ptr 0 0, .fn (.func F) [] [.ptr 1 0]] [.pc (pcl n m) T_i_Diagram, .pc [.int .i64 n] T_int] (pv n (wr G (fun i => G (m.getD i 0)) (2 * n))) [.pc (pcl n m) T_i_Diagram, .pc [.int .i64 n] T_int] := by
  have hm := hd.len
  have hn := hd.n8
  refine SpecW.of_EV hf_i_Diagram_moved hc_i_Diagram_moved rfl rfl rfl fun w0 B ρ0 _ => ?_
  (repeat' (first | refine Exists.intro (pcl n (List.replicate 16 0)) (And.intro ⟨leR rfl, rfl⟩ ?_) | refine Exists.intro (pcl n (List.replicate 16 0)) (And.intro ⟨rfl, rfl⟩ ?_) | refine (s_n n m).read [0] rfl ⟨rfl, trivial⟩ ?_ | refine And.intro (neI rfl) ?_ | refine And.intro ⟨rfl, leR rfl, onesR rfl⟩ ?_ | refine And.intro ⟨rfl, leR rfl⟩ ?_ | refine draw_rule2 hfol (fun KK hKK => ?_) | refine hKK _ _ _ (by kernel_rfl) ?_ | refine region_rule (fun KK hKK => ?_) | refine hKK _ _ ?_ | refine And.intro (Eq.refl true) ?_ | refine Exists.intro _ (And.intro (wI (by omega)) ?_) | refine Exists.intro _ (And.intro (wU (by omega)) ?_) | refine Exists.intro _ (And.intro ⟨rfl, by omega⟩ ?_) | refine Exists.intro _ (And.intro rfl ?_) | refine And.intro rfl ?_ | refine And.intro ⟨rfl, rfl⟩ ?_ | ((refine And.intro (fun _ => ?_) (fun _ => ?_)) <;> try (exfalso; omega))))
  refine loop_rule (α := Nat) (fun k => k ≤ 2 * n)
    (fun k => [(0, .ptr 0 0), (1, .fn (.func F) [] [.ptr 1 0]), (4, .ptr 2 0), (5, .ptr 3 0), (14, vi (2 * n)), (15, vi k)])
    (fun k => [.pc (pcl n m) T_i_Diagram, .pc [.int .i64 n] T_int, .pc (pcl 0 (List.replicate 16 0)) T_i_Diagram, .pc (pcl n (wr G (fun i => G (m.getD i 0)) k)) T_i_Diagram]) (fun k => 2 * n - k) 0 [0, 1, 2, 3]
    (by omega) ⟨⟨rfl, rfl, rfl, rfl, rfl, rfl, trivial⟩, ⟨rfl, rfl, rfl, rfl, trivial⟩, rfl⟩ ?_
  rintro k g hk
  by_cases h9 : k = 2 * n
  · subst h9
    (repeat' (first | refine Exists.intro (pcl n (wr G (fun i => G (m.getD i 0)) (2 * n))) (And.intro ⟨pcl_len wr_len, pcl_all wr_len⟩ ?_) | refine And.intro ⟨pcl_len wr_len, leR rfl, pcl_ones⟩ ?_ | refine Exists.intro (pcl n (wr G (fun i => G (m.getD i 0)) (2 * n))) (And.intro ⟨leR rfl, spl0 (leR rfl)⟩ ?_) | refine And.intro (neI rfl) ?_ | refine And.intro ⟨rfl, leR rfl, onesR rfl⟩ ?_ | refine And.intro ⟨rfl, leR rfl⟩ ?_ | refine draw_rule2 hfol (fun KK hKK => ?_) | refine hKK _ _ _ (by kernel_rfl) ?_ | refine region_rule (fun KK hKK => ?_) | refine hKK _ _ ?_ | refine And.intro (Eq.refl true) ?_ | refine Exists.intro _ (And.intro (wI (by omega)) ?_) | refine Exists.intro _ (And.intro (wU (by omega)) ?_) | refine Exists.intro _ (And.intro ⟨rfl, by omega⟩ ?_) | refine Exists.intro _ (And.intro rfl ?_) | refine And.intro rfl ?_ | refine And.intro ⟨rfl, rfl⟩ ?_ | ((refine And.intro (fun _ => ?_) (fun _ => ?_)) <;> try (exfalso; omega))))
    exact Exists.intro [0,1] (And.intro (rfl) (And.intro ⟨rfl, rfl, trivial⟩ rfl))
  have hkl : k < 2 * n := by omega
  have hok := hd.lt k hkl
  have g1 := hG k hkl
  have g2 := hG _ hok
  (repeat' (first | refine (hc k hkl).read [1] rfl ⟨rfl, trivial⟩ ?_ | refine (hc (m.getD k 0) hok).read [1] rfl ⟨rfl, trivial⟩ ?_ | refine Exists.intro _ (And.intro (pcl_at (by omega)) ?_) | refine Exists.intro (pcl n (wr G (fun i => G (m.getD i 0)) (k + 1))) (And.intro ⟨by rw [pcl_len wr_len]; omega, pcl_set⟩ ?_) | refine And.intro (neI rfl) ?_ | refine And.intro ⟨rfl, leR rfl, onesR rfl⟩ ?_ | refine And.intro ⟨rfl, leR rfl⟩ ?_ | refine draw_rule2 hfol (fun KK hKK => ?_) | refine hKK _ _ _ (by kernel_rfl) ?_ | refine region_rule (fun KK hKK => ?_) | refine hKK _ _ ?_ | refine And.intro (Eq.refl true) ?_ | refine Exists.intro _ (And.intro (wI (by omega)) ?_) | refine Exists.intro _ (And.intro (wU (by omega)) ?_) | refine Exists.intro _ (And.intro ⟨rfl, by omega⟩ ?_) | refine Exists.intro _ (And.intro rfl ?_) | refine And.intro rfl ?_ | refine And.intro ⟨rfl, rfl⟩ ?_ | ((refine And.intro (fun _ => ?_) (fun _ => ?_)) <;> try (exfalso; omega))))
  refine Exists.intro (k + 1) (Exists.intro [0, 1, 2, 3] (And.intro ⟨by omega, (by show 2 * n - (k + 1) < 2 * n - k; omega)⟩ ⟨⟨rfl, rfl, rfl, rfl, rfl, rfl, trivial⟩, ⟨rfl, rfl, rfl, rfl, trivial⟩, rfl⟩))

theorem wdN {a b : Nat} (h : a ≤ 1000000) : IntKind.i64.wrap (Int.tdiv (a : Int) (b : Int)) = ((a / b : Nat) : Int) := by
  rw [tdN]; have h2 := Nat.div_le_self a b; generalize a / b = q at h2 ⊢; exact wI (by omega)
theorem wmN {a b : Nat} (h : a * b ≤ 1000000) : IntKind.i64.wrap ((a : Int) * (b : Int)) = ((a * b : Nat) : Int) := by
  rw [← Int.natCast_mul]; exact wI (by omega)

/-- The other side. -/
def gF (n i : Nat) : Nat := (i + n) % (2 * n)
theorem gF_lt {n i : Nat} (hn : 1 ≤ n) : gF n i < 2 * n := Nat.mod_lt _ (by omega)
theorem tmF {n i : Nat} : Int.tmod ((i : Int) + (n : Int)) (2 * (n : Int)) = ((gF n i : Nat) : Int) := by
  have := tmN (i + n) (2 * n); rwa [Int.natCast_add, Int.natCast_mul] at this
theorem s_flip1 (n : Nat) (hn1 : 1 ≤ n) (hn : n ≤ 8) (i : Nat) (hi : i < 2 * n) : Spec Try.prog n_i_flip_1 [vi i, .ptr 0 0] [.pc [.int .i64 n] T_int] (vi (gF n i : Nat)) [.pc [.int .i64 n] T_int] := by
  refine SpecW.of_EV hf_i_flip_1 hc_i_flip_1 rfl rfl rfl fun w0 B ρ0 _ => ?_
  have hn0 : (2 * (n : Int)) ≠ 0 := by omega
  have t1 := tmF (n := n) (i := i)
  (repeat' (first | refine And.intro hn0 ?_ | refine Exists.intro _ (And.intro t1 ?_) | refine And.intro (neI rfl) ?_ | refine And.intro ⟨rfl, leR rfl, onesR rfl⟩ ?_ | refine And.intro ⟨rfl, leR rfl⟩ ?_ | refine draw_rule2 hfol (fun KK hKK => ?_) | refine hKK _ _ _ (by kernel_rfl) ?_ | refine region_rule (fun KK hKK => ?_) | refine hKK _ _ ?_ | refine And.intro (Eq.refl true) ?_ | refine Exists.intro _ (And.intro (wI (by omega)) ?_) | refine Exists.intro _ (And.intro (wU (by omega)) ?_) | refine Exists.intro _ (And.intro ⟨rfl, by omega⟩ ?_) | refine Exists.intro _ (And.intro rfl ?_) | refine And.intro rfl ?_ | refine And.intro ⟨rfl, rfl⟩ ?_ | ((refine And.intro (fun _ => ?_) (fun _ => ?_)) <;> try (exfalso; omega))))
  exact Exists.intro [0] (And.intro (rfl) (And.intro ⟨rfl, trivial⟩ rfl))
theorem s_iflip (n : Nat) (m : List Nat) (hd : IsD n m) : Spec Try.prog n_i_flip [pv n m] [] (pv n (wr (gF n) (fun i => gF n (m.getD i 0)) (2 * n))) [] := by
  have hm := hd.len
  have hmv := s_moved n_i_flip_1 (gF n) n m hd (fun i _ => gF_lt hd.n1) (s_flip1 n hd.n1 hd.n8)
  refine SpecW.of_EV hf_i_flip hc_i_flip rfl rfl rfl fun w0 B ρ0 _ => ?_
  (repeat' (first | refine (s_n n m).read [0] rfl ⟨rfl, trivial⟩ ?_ | refine (hmv).read [0, 2] rfl ⟨rfl, rfl, trivial⟩ ?_ | refine Exists.intro [Value.int .i64 n] (And.intro ⟨leR rfl, rfl⟩ ?_) | refine Exists.intro (pcl n (wr (gF n) (fun i => gF n (m.getD i 0)) (2 * n))) (And.intro ⟨pcl_len wr_len, pcl_all wr_len⟩ ?_) | refine And.intro ⟨pcl_len wr_len, leR rfl, pcl_ones⟩ ?_ | refine Exists.intro (pcl n (wr (gF n) (fun i => gF n (m.getD i 0)) (2 * n))) (And.intro ⟨leR rfl, spl0 (leR rfl)⟩ ?_) | refine And.intro (neI rfl) ?_ | refine And.intro ⟨rfl, leR rfl, onesR rfl⟩ ?_ | refine And.intro ⟨rfl, leR rfl⟩ ?_ | refine draw_rule2 hfol (fun KK hKK => ?_) | refine hKK _ _ _ (by kernel_rfl) ?_ | refine region_rule (fun KK hKK => ?_) | refine hKK _ _ ?_ | refine And.intro (Eq.refl true) ?_ | refine Exists.intro _ (And.intro (wI (by omega)) ?_) | refine Exists.intro _ (And.intro (wU (by omega)) ?_) | refine Exists.intro _ (And.intro ⟨rfl, by omega⟩ ?_) | refine Exists.intro _ (And.intro rfl ?_) | refine And.intro rfl ?_ | refine And.intro ⟨rfl, rfl⟩ ?_ | ((refine And.intro (fun _ => ?_) (fun _ => ?_)) <;> try (exfalso; omega))))
  exact Exists.intro [] (And.intro (rfl) (And.intro trivial rfl))
theorem s_sflip (n : Nat) (m : List Nat) (hd : IsD n m) : Spec Try.prog n_s_l01Flip [pv n m] [] (pv n (wr (gF n) (fun i => gF n (m.getD i 0)) (2 * n))) [] := by
  have hm := hd.len
  have hn1 := hd.n1
  have hn := hd.n8
  refine SpecW.of_EV hf_s_l01Flip hc_s_l01Flip rfl rfl rfl fun w0 B ρ0 _ => ?_
  (repeat' (first | refine Exists.intro (pcl n (List.replicate 16 0)) (And.intro ⟨leR rfl, rfl⟩ ?_) | refine Exists.intro (pcl n (List.replicate 16 0)) (And.intro ⟨rfl, rfl⟩ ?_) | refine And.intro (neI rfl) ?_ | refine And.intro ⟨rfl, leR rfl, onesR rfl⟩ ?_ | refine And.intro ⟨rfl, leR rfl⟩ ?_ | refine draw_rule2 hfol (fun KK hKK => ?_) | refine hKK _ _ _ (by kernel_rfl) ?_ | refine region_rule (fun KK hKK => ?_) | refine hKK _ _ ?_ | refine And.intro (Eq.refl true) ?_ | refine Exists.intro _ (And.intro (wI (by omega)) ?_) | refine Exists.intro _ (And.intro (wU (by omega)) ?_) | refine Exists.intro _ (And.intro ⟨rfl, by omega⟩ ?_) | refine Exists.intro _ (And.intro rfl ?_) | refine And.intro rfl ?_ | refine And.intro ⟨rfl, rfl⟩ ?_ | ((refine And.intro (fun _ => ?_) (fun _ => ?_)) <;> try (exfalso; omega))))
  refine loop_rule (α := Nat) (fun k => k ≤ 2 * n)
    (fun k => [(1, .ptr 0 0), (2, .ptr 1 0), (3, vi n), (4, .ptr 2 0), (5, vi k)])
    (fun k => [.pc (pcl n m) T_i_Diagram, .pc (pcl 0 (List.replicate 16 0)) T_i_Diagram, .pc (pcl n (wr (gF n) (fun i => gF n (m.getD i 0)) k)) T_i_Diagram]) (fun k => 2 * n - k) 0 [0, 1, 2]
    (by omega) ⟨⟨rfl, rfl, rfl, rfl, rfl, trivial⟩, ⟨rfl, rfl, rfl, trivial⟩, rfl⟩ ?_
  rintro k g hk
  by_cases h9 : k = 2 * n
  · subst h9
    (repeat' (first | refine Exists.intro (pcl n (wr (gF n) (fun i => gF n (m.getD i 0)) (2 * n))) (And.intro ⟨pcl_len wr_len, pcl_all wr_len⟩ ?_) | refine And.intro ⟨pcl_len wr_len, leR rfl, pcl_ones⟩ ?_ | refine Exists.intro (pcl n (wr (gF n) (fun i => gF n (m.getD i 0)) (2 * n))) (And.intro ⟨leR rfl, spl0 (leR rfl)⟩ ?_) | refine And.intro (neI rfl) ?_ | refine And.intro ⟨rfl, leR rfl, onesR rfl⟩ ?_ | refine And.intro ⟨rfl, leR rfl⟩ ?_ | refine draw_rule2 hfol (fun KK hKK => ?_) | refine hKK _ _ _ (by kernel_rfl) ?_ | refine region_rule (fun KK hKK => ?_) | refine hKK _ _ ?_ | refine And.intro (Eq.refl true) ?_ | refine Exists.intro _ (And.intro (wI (by omega)) ?_) | refine Exists.intro _ (And.intro (wU (by omega)) ?_) | refine Exists.intro _ (And.intro ⟨rfl, by omega⟩ ?_) | refine Exists.intro _ (And.intro rfl ?_) | refine And.intro rfl ?_ | refine And.intro ⟨rfl, rfl⟩ ?_ | ((refine And.intro (fun _ => ?_) (fun _ => ?_)) <;> try (exfalso; omega))))
    exact Exists.intro [] (And.intro (rfl) (And.intro trivial rfl))
  have hkl : k < 2 * n := by omega
  have hok := hd.lt k hkl
  have g1 := gF_lt (n := n) (i := k) hn1
  have g2 := gF_lt (n := n) (i := m.getD k 0) hn1
  have hn0 : (2 * (n : Int)) ≠ 0 := by omega
  have t1 := tmF (n := n) (i := k)
  have t2 := tmF (n := n) (i := m.getD k 0)
  (repeat' (first | refine And.intro hn0 ?_ | refine Exists.intro _ (And.intro t1 ?_) | refine Exists.intro _ (And.intro t2 ?_) | refine Exists.intro _ (And.intro (pcl_at (by omega)) ?_) | refine Exists.intro (pcl n (wr (gF n) (fun i => gF n (m.getD i 0)) (k + 1))) (And.intro ⟨by rw [pcl_len wr_len]; omega, pcl_set⟩ ?_) | refine And.intro (neI rfl) ?_ | refine And.intro ⟨rfl, leR rfl, onesR rfl⟩ ?_ | refine And.intro ⟨rfl, leR rfl⟩ ?_ | refine draw_rule2 hfol (fun KK hKK => ?_) | refine hKK _ _ _ (by kernel_rfl) ?_ | refine region_rule (fun KK hKK => ?_) | refine hKK _ _ ?_ | refine And.intro (Eq.refl true) ?_ | refine Exists.intro _ (And.intro (wI (by omega)) ?_) | refine Exists.intro _ (And.intro (wU (by omega)) ?_) | refine Exists.intro _ (And.intro ⟨rfl, by omega⟩ ?_) | refine Exists.intro _ (And.intro rfl ?_) | refine And.intro rfl ?_ | refine And.intro ⟨rfl, rfl⟩ ?_ | ((refine And.intro (fun _ => ?_) (fun _ => ?_)) <;> try (exfalso; omega))))
  refine Exists.intro (k + 1) (Exists.intro [0, 1, 2] (And.intro ⟨by omega, (by show 2 * n - (k + 1) < 2 * n - k; omega)⟩ ⟨⟨rfl, rfl, rfl, rfl, rfl, trivial⟩, ⟨rfl, rfl, rfl, trivial⟩, rfl⟩))

end Go.Proofs.Ytgpgcdofhkpeaaa.VE
