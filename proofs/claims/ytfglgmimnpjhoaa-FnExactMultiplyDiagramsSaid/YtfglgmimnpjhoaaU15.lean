/- Contracts of functions of the given program, for all arguments that the contract names; see each theorem. -/
import Derived.Test.YtfglgmimnpjhoaaU11
set_option linter.all false
namespace Go.Proofs.Ytfglgmimnpjhoaa.VE
open Go
set_option maxHeartbeats 800000
set_option maxRecDepth 100000

/-- Bools as cells. -/
def bbl (s : List Bool) : List Value := s.map .bool
theorem bbl_at {s : List Bool} {i : Nat} {b : Bool} (hi : i < s.length) (h : s.getD i false = b) : (bbl s)[i]? = some (.bool b) := by
  rw [List.getD_eq_getElem?_getD, List.getElem?_eq_getElem hi] at h
  simp only [Option.getD_some] at h
  simp [bbl, hi, h]
theorem bbl_set {s : List Bool} {i : Nat} {b : Bool} : (bbl s).set i (.bool b) = bbl (s.set i b) := by simp [bbl, List.map_set]
theorem bbl_len {s : List Bool} {N : Nat} (h : s.length = N) : (bbl s).length = N := by simp [bbl, h]
theorem getB_set {s : List Bool} {i j : Nat} {b : Bool} (h : i < s.length) : (s.set i b).getD j false = if i = j then b else s.getD j false := by
  simp only [List.getD_eq_getElem?_getD]
  by_cases hij : i = j
  · subst hij; rw [List.getElem?_set_self h, if_pos rfl]; rfl
  · rw [List.getElem?_set_ne hij, if_neg hij]
/-- How many are still unmarked. -/
def cF (s : List Bool) : Nat := s.count false
theorem cF_le {s : List Bool} {i : Nat} : cF (s.set i true) ≤ cF s := by
  unfold cF
  induction s generalizing i with
  | nil => simp
  | cons x r ih =>
    cases i with
    | zero => simp [List.count_cons]
    | succ i => simp only [List.set_cons_succ, List.count_cons]; have := ih (i := i); omega
theorem cF_set {s : List Bool} {i : Nat} (hi : i < s.length) (h : s.getD i false = false) : cF (s.set i true) + 1 = cF s := by
  unfold cF
  induction s generalizing i with
  | nil => simp at hi
  | cons x r ih =>
    cases i with
    | zero => simp at h; subst h; simp
    | succ i =>
      simp only [List.set_cons_succ, List.count_cons]
      have := ih (i := i) (by simpa using hi) (by simpa using h)
      omega
theorem cF_all {s : List Bool} : cF s ≤ s.length := List.count_le_length
theorem cF_pos {s : List Bool} {i : Nat} (hi : i < s.length) (h : s.getD i false = false) : 1 ≤ cF s := by have := cF_set hi h; omega

/-- Along a loop of the closure, and over all points. -/
def nxt (n : Nat) (m : List Nat) (k : Nat) : Nat := (m.getD k 0 + n) % (2 * n)
def clI (n : Nat) (m : List Nat) : Nat → Nat → List Bool → List Bool
  | 0, _, s => s
  | d + 1, k, s => if s.getD k false = true then s else clI n m d (nxt n m k) ((s.set k true).set (m.getD k 0) true)
theorem clI_len {n : Nat} {m : List Nat} : ∀ {d k s}, (clI n m d k s).length = s.length
  | 0, _, _ => rfl
  | d + 1, k, s => by
    unfold clI; split
    · rfl
    · rw [clI_len]; simp
def clO (n : Nat) (m : List Nat) : Nat → Nat → List Bool → Nat → Nat
  | 0, _, _, c => c
  | d + 1, i, s, c => if s.getD i false = true then clO n m d (i + 1) s c else clO n m d (i + 1) (clI n m 17 i s) (c + 1)
def clN (n : Nat) (m : List Nat) : Nat := clO n m (2 * n) 0 (List.replicate 16 false) 0
theorem tmX {n : Nat} {m : List Nat} {k : Nat} : Int.tmod (((m.getD k 0 : Nat) : Int) + (n : Int)) (2 * (n : Int)) = ((nxt n m k : Nat) : Int) := by
  have := tmN (m.getD k 0 + n) (2 * n); rwa [Int.natCast_add, Int.natCast_mul] at this
theorem nxt_lt {n : Nat} {m : List Nat} {k : Nat} (hn : 1 ≤ n) : nxt n m k < 2 * n := Nat.mod_lt _ (by omega)

theorem s_sClosure (n : Nat) (m : List Nat) (hd : IsD n m) : Spec Try.prog n_s_l01Closure [pv n m] [] (vi (clN n m : Nat)) [] := by
  have hm := hd.len
  have hn := hd.n8
  have hn1 := hd.n1
  have hn0 : 2 * (n : Int) ≠ 0 := by omega
  refine SpecW.of_EV hf_s_l01Closure hc_s_l01Closure rfl rfl rfl fun w0 B ρ0 _ => ?_
  (repeat' (first | refine Exists.intro (bbl (List.replicate 16 false)) (And.intro ⟨leR rfl, rfl⟩ ?_) | refine And.intro (neI rfl) ?_ | refine And.intro ⟨rfl, leR rfl, onesR rfl⟩ ?_ | refine And.intro ⟨rfl, leR rfl⟩ ?_ | refine draw_rule2 hfol (fun KK hKK => ?_) | refine hKK _ _ _ (by kernel_rfl) ?_ | refine region_rule (fun KK hKK => ?_) | refine hKK _ _ ?_ | refine And.intro (Eq.refl true) ?_ | refine Exists.intro _ (And.intro (wI (by omega)) ?_) | refine Exists.intro _ (And.intro (wU (by omega)) ?_) | refine Exists.intro _ (And.intro ⟨rfl, by omega⟩ ?_) | refine Exists.intro _ (And.intro rfl ?_) | refine And.intro rfl ?_ | refine And.intro ⟨rfl, rfl⟩ ?_ | ((refine And.intro (fun _ => ?_) (fun _ => ?_)) <;> try (exfalso; omega))))
  refine loop_rule (α := Nat × List Bool × Nat) (fun (i, s, c) => i ≤ 2 * n ∧ s.length = 16 ∧ c ≤ i ∧ clO n m (2 * n - i) i s c = clN n m)
    (fun (i, s, c) => [(1, .ptr 0 0), (3, vi n), (4, .ptr 1 0), (5, vi (c : Nat)), (6, vi i)])
    (fun (i, s, c) => [.pc (pcl n m) T_i_Diagram, .pc (bbl s) T_a16q_bool]) (fun (i, _, _) => 2 * n - i) (0, List.replicate 16 false, 0) [0, 1]
    ⟨by omega, by simp, by omega, rfl⟩ ⟨⟨rfl, rfl, rfl, rfl, rfl, trivial⟩, ⟨rfl, rfl, trivial⟩, rfl⟩ ?_
  rintro ⟨i, s, c⟩ g ⟨hi, hs, hc, hR⟩
  by_cases h9 : i = 2 * n
  · subst h9
    rw [Nat.sub_self] at hR
    (repeat' (first | refine And.intro (neI rfl) ?_ | refine And.intro ⟨rfl, leR rfl, onesR rfl⟩ ?_ | refine And.intro ⟨rfl, leR rfl⟩ ?_ | refine draw_rule2 hfol (fun KK hKK => ?_) | refine hKK _ _ _ (by kernel_rfl) ?_ | refine region_rule (fun KK hKK => ?_) | refine hKK _ _ ?_ | refine And.intro (Eq.refl true) ?_ | refine Exists.intro _ (And.intro (wI (by omega)) ?_) | refine Exists.intro _ (And.intro (wU (by omega)) ?_) | refine Exists.intro _ (And.intro ⟨rfl, by omega⟩ ?_) | refine Exists.intro _ (And.intro rfl ?_) | refine And.intro rfl ?_ | refine And.intro ⟨rfl, rfl⟩ ?_ | ((refine And.intro (fun _ => ?_) (fun _ => ?_)) <;> try (exfalso; omega))))
    exact Exists.intro [] (And.intro (viR (by rw [← hR]; rfl)) (And.intro trivial rfl))
  have hil : i < 2 * n := by omega
  obtain ⟨d, hdd⟩ : ∃ d, 2 * n - i = d + 1 := ⟨2 * n - i - 1, by omega⟩
  have hd' : 2 * n - (i + 1) = d := by omega
  rw [hdd] at hR
  unfold clO at hR
  cases hsi : s.getD i false with
  | true =>
    rw [if_pos hsi] at hR
    (repeat' (first | refine Exists.intro _ (And.intro (bbl_at (by omega) hsi) ?_) | refine And.intro (neI rfl) ?_ | refine And.intro ⟨rfl, leR rfl, onesR rfl⟩ ?_ | refine And.intro ⟨rfl, leR rfl⟩ ?_ | refine draw_rule2 hfol (fun KK hKK => ?_) | refine hKK _ _ _ (by kernel_rfl) ?_ | refine region_rule (fun KK hKK => ?_) | refine hKK _ _ ?_ | refine And.intro (Eq.refl true) ?_ | refine Exists.intro _ (And.intro (wI (by omega)) ?_) | refine Exists.intro _ (And.intro (wU (by omega)) ?_) | refine Exists.intro _ (And.intro ⟨rfl, by omega⟩ ?_) | refine Exists.intro _ (And.intro rfl ?_) | refine And.intro rfl ?_ | refine And.intro ⟨rfl, rfl⟩ ?_ | ((refine And.intro (fun _ => ?_) (fun _ => ?_)) <;> try (exfalso; omega))))
    refine Exists.intro (i + 1, s, c) (Exists.intro [0, 1] (And.intro ⟨⟨by omega, hs, by omega, by rw [hd']; exact hR⟩, (by show 2 * n - (i + 1) < 2 * n - i; omega)⟩ ⟨⟨rfl, rfl, rfl, rfl, rfl, trivial⟩, ⟨rfl, rfl, trivial⟩, rfl⟩))
  | false =>
    rw [if_neg (by rw [hsi]; decide)] at hR
    (repeat' (first | refine Exists.intro _ (And.intro (bbl_at (by omega) hsi) ?_) | refine And.intro (neI rfl) ?_ | refine And.intro ⟨rfl, leR rfl, onesR rfl⟩ ?_ | refine And.intro ⟨rfl, leR rfl⟩ ?_ | refine draw_rule2 hfol (fun KK hKK => ?_) | refine hKK _ _ _ (by kernel_rfl) ?_ | refine region_rule (fun KK hKK => ?_) | refine hKK _ _ ?_ | refine And.intro (Eq.refl true) ?_ | refine Exists.intro _ (And.intro (wI (by omega)) ?_) | refine Exists.intro _ (And.intro (wU (by omega)) ?_) | refine Exists.intro _ (And.intro ⟨rfl, by omega⟩ ?_) | refine Exists.intro _ (And.intro rfl ?_) | refine And.intro rfl ?_ | refine And.intro ⟨rfl, rfl⟩ ?_ | ((refine And.intro (fun _ => ?_) (fun _ => ?_)) <;> try (exfalso; omega))))
    refine loop_rule (α := Nat × Nat × List Bool) (fun (d, k, t) => k < 2 * n ∧ t.length = 16 ∧ cF t ≤ d ∧ clI n m d k t = clI n m 17 i s)
      (fun (d, k, t) => [(1, .ptr 0 0), (3, vi n), (4, .ptr 1 0), (5, vi (c + 1 : Nat)), (6, vi i), (7, vi k)])
      (fun (d, k, t) => [.pc (pcl n m) T_i_Diagram, .pc (bbl t) T_a16q_bool]) (fun (d, _, _) => d) (17, i, s) [0, 1]
      ⟨by omega, hs, by have := cF_all (s := s); omega, rfl⟩ ⟨⟨rfl, rfl, rfl, viR (by omega), rfl, rfl, trivial⟩, ⟨rfl, rfl, trivial⟩, rfl⟩ ?_
    rintro ⟨d2, k, t⟩ g2 ⟨hk, ht, hcd, hR2⟩
    cases htk : t.getD k false with
    | true =>
      have he : clI n m 17 i s = t := by
        rw [← hR2]; cases d2 with
        | zero => rfl
        | succ d2 => unfold clI; rw [if_pos htk]
      rw [he] at hR
      (repeat' (first | refine Exists.intro _ (And.intro (bbl_at (by omega) htk) ?_) | refine And.intro (neI rfl) ?_ | refine And.intro ⟨rfl, leR rfl, onesR rfl⟩ ?_ | refine And.intro ⟨rfl, leR rfl⟩ ?_ | refine draw_rule2 hfol (fun KK hKK => ?_) | refine hKK _ _ _ (by kernel_rfl) ?_ | refine region_rule (fun KK hKK => ?_) | refine hKK _ _ ?_ | refine And.intro (Eq.refl true) ?_ | refine Exists.intro _ (And.intro (wI (by omega)) ?_) | refine Exists.intro _ (And.intro (wU (by omega)) ?_) | refine Exists.intro _ (And.intro ⟨rfl, by omega⟩ ?_) | refine Exists.intro _ (And.intro rfl ?_) | refine And.intro rfl ?_ | refine And.intro ⟨rfl, rfl⟩ ?_ | ((refine And.intro (fun _ => ?_) (fun _ => ?_)) <;> try (exfalso; omega))))
      refine Exists.intro (i + 1, t, c + 1) (Exists.intro [0, 1] (And.intro ⟨⟨by omega, ht, by omega, by rw [hd']; exact hR⟩, (by show 2 * n - (i + 1) < 2 * n - i; omega)⟩ ⟨⟨rfl, rfl, rfl, rfl, rfl, trivial⟩, ⟨rfl, rfl, trivial⟩, rfl⟩))
    | false =>
      have hcs := cF_set (by omega) htk
      obtain ⟨d3, rfl⟩ : ∃ d3, d2 = d3 + 1 := ⟨d2 - 1, by omega⟩
      unfold clI at hR2
      rw [if_neg (by rw [htk]; decide)] at hR2
      have hmk := hd.lt k hk
      have hx := nxt_lt (m := m) (k := k) hn1
      have hle := cF_le (s := t.set k true) (i := m.getD k 0)
      have e1 := tmX (n := n) (m := m) (k := k)
      (repeat' (first | refine Exists.intro _ (And.intro (bbl_at (by omega) htk) ?_) | refine Exists.intro _ (And.intro (pcl_at (by omega)) ?_) | refine And.intro hn0 ?_ | refine Exists.intro _ (And.intro e1 ?_) | refine Exists.intro (bbl (t.set k true)) (And.intro ⟨by rw [bbl_len ht]; omega, bbl_set⟩ ?_) | refine Exists.intro (bbl ((t.set k true).set (m.getD k 0) true)) (And.intro ⟨by rw [bbl_len (N := 16) (by rw [List.length_set]; exact ht)]; omega, bbl_set⟩ ?_) | refine And.intro (neI rfl) ?_ | refine And.intro ⟨rfl, leR rfl, onesR rfl⟩ ?_ | refine And.intro ⟨rfl, leR rfl⟩ ?_ | refine draw_rule2 hfol (fun KK hKK => ?_) | refine hKK _ _ _ (by kernel_rfl) ?_ | refine region_rule (fun KK hKK => ?_) | refine hKK _ _ ?_ | refine And.intro (Eq.refl true) ?_ | refine Exists.intro _ (And.intro (wI (by omega)) ?_) | refine Exists.intro _ (And.intro (wU (by omega)) ?_) | refine Exists.intro _ (And.intro ⟨rfl, by omega⟩ ?_) | refine Exists.intro _ (And.intro rfl ?_) | refine And.intro rfl ?_ | refine And.intro ⟨rfl, rfl⟩ ?_ | ((refine And.intro (fun _ => ?_) (fun _ => ?_)) <;> try (exfalso; omega))))
      refine Exists.intro (d3, nxt n m k, (t.set k true).set (m.getD k 0) true) (Exists.intro [0, 1] (And.intro ⟨⟨hx, by simpa using ht, by omega, hR2⟩, (by show d3 < d3 + 1; omega)⟩ ⟨⟨rfl, rfl, rfl, rfl, rfl, rfl, trivial⟩, ⟨rfl, rfl, trivial⟩, rfl⟩))

theorem s_meet0 (i : Nat) : Spec Try.prog n_i_loops_1 [vi i] [] (.tup []) [] := by
  refine SpecW.of_EV hf_i_loops_1 hc_i_loops_1 rfl rfl rfl fun w0 B ρ0 _ => ?_
  (repeat' (first | refine And.intro (neI rfl) ?_ | refine And.intro ⟨rfl, leR rfl, onesR rfl⟩ ?_ | refine And.intro ⟨rfl, leR rfl⟩ ?_ | refine draw_rule2 hfol (fun KK hKK => ?_) | refine hKK _ _ _ (by kernel_rfl) ?_ | refine region_rule (fun KK hKK => ?_) | refine hKK _ _ ?_ | refine And.intro (Eq.refl true) ?_ | refine Exists.intro _ (And.intro (wI (by omega)) ?_) | refine Exists.intro _ (And.intro (wU (by omega)) ?_) | refine Exists.intro _ (And.intro ⟨rfl, by omega⟩ ?_) | refine Exists.intro _ (And.intro rfl ?_) | refine And.intro rfl ?_ | refine And.intro ⟨rfl, rfl⟩ ?_ | ((refine And.intro (fun _ => ?_) (fun _ => ?_)) <;> try (exfalso; omega))))
  exact Exists.intro [] (And.intro (rfl) (And.intro trivial rfl))
theorem s_loop1 (c : Nat) (hc : c ≤ 1000) : Spec Try.prog n_i_loops_2 [.ptr 0 0] [.pc [.int .i64 c] T_int64] (.tup []) [.pc [.int .i64 (c + 1 : Nat)] T_int64] := by
  have e : IntKind.i64.wrap ((c : Int) + 1) = ((c + 1 : Nat) : Int) := wC (by omega) (by omega)
  refine SpecW.of_EV hf_i_loops_2 hc_i_loops_2 rfl rfl rfl fun w0 B ρ0 _ => ?_
  (repeat' (first | refine Exists.intro _ (And.intro e ?_) | refine Exists.intro [Value.int .i64 ((c + 1 : Nat) : Int)] (And.intro ⟨leR rfl, rfl⟩ ?_) | refine And.intro (neI rfl) ?_ | refine And.intro ⟨rfl, leR rfl, onesR rfl⟩ ?_ | refine And.intro ⟨rfl, leR rfl⟩ ?_ | refine draw_rule2 hfol (fun KK hKK => ?_) | refine hKK _ _ _ (by kernel_rfl) ?_ | refine region_rule (fun KK hKK => ?_) | refine hKK _ _ ?_ | refine And.intro (Eq.refl true) ?_ | refine Exists.intro _ (And.intro (wI (by omega)) ?_) | refine Exists.intro _ (And.intro (wU (by omega)) ?_) | refine Exists.intro _ (And.intro ⟨rfl, by omega⟩ ?_) | refine Exists.intro _ (And.intro rfl ?_) | refine And.intro rfl ?_ | refine And.intro ⟨rfl, rfl⟩ ?_ | ((refine And.intro (fun _ => ?_) (fun _ => ?_)) <;> try (exfalso; omega))))
  exact Exists.intro [0] (And.intro (rfl) (And.intro ⟨rfl, trivial⟩ rfl))

theorem s_closure (n : Nat) (m : List Nat) (hd : IsD n m) : Spec Try.prog n_i_Diagram_closure [.ptr 0 0, .fn (.func n_i_loops_1) [] [], .fn (.func n_i_loops_2) [] [.ptr 1 0]] [.pc (pcl n m) T_i_Diagram, .pc [.int .i64 (0 : Nat)] T_int64] (.tup [])
    [.pc (pcl n m) T_i_Diagram, .pc [.int .i64 (clN n m : Nat)] T_int64] := by
  have hm := hd.len
  have hn := hd.n8
  have hn1 := hd.n1
  have hn0 : 2 * (n : Int) ≠ 0 := by omega
  refine SpecW.of_EV hf_i_Diagram_closure hc_i_Diagram_closure rfl rfl rfl fun w0 B ρ0 _ => ?_
  (repeat' (first | refine (s_n n m).read [0] rfl ⟨rfl, trivial⟩ ?_ | refine Exists.intro (bbl (List.replicate 16 false)) (And.intro ⟨leR rfl, rfl⟩ ?_) | refine And.intro (neI rfl) ?_ | refine And.intro ⟨rfl, leR rfl, onesR rfl⟩ ?_ | refine And.intro ⟨rfl, leR rfl⟩ ?_ | refine draw_rule2 hfol (fun KK hKK => ?_) | refine hKK _ _ _ (by kernel_rfl) ?_ | refine region_rule (fun KK hKK => ?_) | refine hKK _ _ ?_ | refine And.intro (Eq.refl true) ?_ | refine Exists.intro _ (And.intro (wI (by omega)) ?_) | refine Exists.intro _ (And.intro (wU (by omega)) ?_) | refine Exists.intro _ (And.intro ⟨rfl, by omega⟩ ?_) | refine Exists.intro _ (And.intro rfl ?_) | refine And.intro rfl ?_ | refine And.intro ⟨rfl, rfl⟩ ?_ | ((refine And.intro (fun _ => ?_) (fun _ => ?_)) <;> try (exfalso; omega))))
  refine loop_rule (α := Nat × List Bool × Nat) (fun (i, s, c) => i ≤ 2 * n ∧ s.length = 16 ∧ c ≤ i ∧ clO n m (2 * n - i) i s c = clN n m)
    (fun (i, s, c) => [(0, .ptr 0 0), (1, .fn (.func n_i_loops_1) [] []), (2, .fn (.func n_i_loops_2) [] [.ptr 1 0]), (6, vi n), (7, .ptr 2 0), (15, vi (2 * n)), (16, vi i)])
    (fun (i, s, c) => [.pc (pcl n m) T_i_Diagram, .pc [.int .i64 (c : Nat)] T_int64, .pc (bbl s) T_a16q_bool]) (fun (i, _, _) => 2 * n - i) (0, List.replicate 16 false, 0) [0, 1, 2]
    ⟨by omega, by simp, by omega, rfl⟩ ⟨⟨rfl, rfl, rfl, rfl, rfl, rfl, rfl, trivial⟩, ⟨rfl, rfl, rfl, trivial⟩, rfl⟩ ?_
  rintro ⟨i, s, c⟩ g ⟨hi, hs, hc, hR⟩
  by_cases h9 : i = 2 * n
  · subst h9
    rw [Nat.sub_self] at hR
    replace hR : c = clN n m := hR
    subst hR
    (repeat' (first | refine And.intro (neI rfl) ?_ | refine And.intro ⟨rfl, leR rfl, onesR rfl⟩ ?_ | refine And.intro ⟨rfl, leR rfl⟩ ?_ | refine draw_rule2 hfol (fun KK hKK => ?_) | refine hKK _ _ _ (by kernel_rfl) ?_ | refine region_rule (fun KK hKK => ?_) | refine hKK _ _ ?_ | refine And.intro (Eq.refl true) ?_ | refine Exists.intro _ (And.intro (wI (by omega)) ?_) | refine Exists.intro _ (And.intro (wU (by omega)) ?_) | refine Exists.intro _ (And.intro ⟨rfl, by omega⟩ ?_) | refine Exists.intro _ (And.intro rfl ?_) | refine And.intro rfl ?_ | refine And.intro ⟨rfl, rfl⟩ ?_ | ((refine And.intro (fun _ => ?_) (fun _ => ?_)) <;> try (exfalso; omega))))
    exact Exists.intro [0,1] (And.intro (rfl) (And.intro ⟨rfl, rfl, trivial⟩ rfl))
  have hil : i < 2 * n := by omega
  obtain ⟨d, hdd⟩ : ∃ d, 2 * n - i = d + 1 := ⟨2 * n - i - 1, by omega⟩
  have hd' : 2 * n - (i + 1) = d := by omega
  rw [hdd] at hR
  unfold clO at hR
  cases hsi : s.getD i false with
  | true =>
    rw [if_pos hsi] at hR
    (repeat' (first | refine Exists.intro _ (And.intro (bbl_at (by omega) hsi) ?_) | refine And.intro (neI rfl) ?_ | refine And.intro ⟨rfl, leR rfl, onesR rfl⟩ ?_ | refine And.intro ⟨rfl, leR rfl⟩ ?_ | refine draw_rule2 hfol (fun KK hKK => ?_) | refine hKK _ _ _ (by kernel_rfl) ?_ | refine region_rule (fun KK hKK => ?_) | refine hKK _ _ ?_ | refine And.intro (Eq.refl true) ?_ | refine Exists.intro _ (And.intro (wI (by omega)) ?_) | refine Exists.intro _ (And.intro (wU (by omega)) ?_) | refine Exists.intro _ (And.intro ⟨rfl, by omega⟩ ?_) | refine Exists.intro _ (And.intro rfl ?_) | refine And.intro rfl ?_ | refine And.intro ⟨rfl, rfl⟩ ?_ | ((refine And.intro (fun _ => ?_) (fun _ => ?_)) <;> try (exfalso; omega))))
    refine Exists.intro (i + 1, s, c) (Exists.intro [0, 1, 2] (And.intro ⟨⟨by omega, hs, by omega, by rw [hd']; exact hR⟩, (by show 2 * n - (i + 1) < 2 * n - i; omega)⟩ ⟨⟨rfl, rfl, rfl, rfl, rfl, rfl, rfl, trivial⟩, ⟨rfl, rfl, rfl, trivial⟩, rfl⟩))
  | false =>
    rw [if_neg (by rw [hsi]; decide)] at hR
    (repeat' (first | refine Exists.intro _ (And.intro (bbl_at (by omega) hsi) ?_) | refine And.intro (neI rfl) ?_ | refine And.intro ⟨rfl, leR rfl, onesR rfl⟩ ?_ | refine And.intro ⟨rfl, leR rfl⟩ ?_ | refine draw_rule2 hfol (fun KK hKK => ?_) | refine hKK _ _ _ (by kernel_rfl) ?_ | refine region_rule (fun KK hKK => ?_) | refine hKK _ _ ?_ | refine And.intro (Eq.refl true) ?_ | refine Exists.intro _ (And.intro (wI (by omega)) ?_) | refine Exists.intro _ (And.intro (wU (by omega)) ?_) | refine Exists.intro _ (And.intro ⟨rfl, by omega⟩ ?_) | refine Exists.intro _ (And.intro rfl ?_) | refine And.intro rfl ?_ | refine And.intro ⟨rfl, rfl⟩ ?_ | ((refine And.intro (fun _ => ?_) (fun _ => ?_)) <;> try (exfalso; omega))))
    refine loop_rule (α := Nat × Nat × List Bool) (fun (d, k, t) => k < 2 * n ∧ t.length = 16 ∧ cF t ≤ d ∧ clI n m d k t = clI n m 17 i s)
      (fun (d, k, t) => [(0, .ptr 0 0), (1, .fn (.func n_i_loops_1) [] []), (2, .fn (.func n_i_loops_2) [] [.ptr 1 0]), (6, vi n), (7, .ptr 2 0), (15, vi (2 * n)), (16, vi i), (9, vi k)])
      (fun (d, k, t) => [.pc (pcl n m) T_i_Diagram, .pc [.int .i64 (c : Nat)] T_int64, .pc (bbl t) T_a16q_bool]) (fun (d, _, _) => d) (17, i, s) [0, 1, 2]
      ⟨by omega, hs, by have := cF_all (s := s); omega, rfl⟩ ⟨⟨rfl, rfl, rfl, rfl, rfl, rfl, rfl, rfl, trivial⟩, ⟨rfl, rfl, rfl, trivial⟩, rfl⟩ ?_
    rintro ⟨d2, k, t⟩ g2 ⟨hk, ht, hcd, hR2⟩
    cases htk : t.getD k false with
    | true =>
      have he : clI n m 17 i s = t := by
        rw [← hR2]; cases d2 with
        | zero => rfl
        | succ d2 => unfold clI; rw [if_pos htk]
      rw [he] at hR
      have hlp := s_loop1 c (by omega)
      (repeat' (first | refine Exists.intro _ (And.intro (bbl_at (by omega) htk) ?_) | refine (hlp).make [1] rfl ⟨rfl, trivial⟩ ?_ | refine And.intro (neI rfl) ?_ | refine And.intro ⟨rfl, leR rfl, onesR rfl⟩ ?_ | refine And.intro ⟨rfl, leR rfl⟩ ?_ | refine draw_rule2 hfol (fun KK hKK => ?_) | refine hKK _ _ _ (by kernel_rfl) ?_ | refine region_rule (fun KK hKK => ?_) | refine hKK _ _ ?_ | refine And.intro (Eq.refl true) ?_ | refine Exists.intro _ (And.intro (wI (by omega)) ?_) | refine Exists.intro _ (And.intro (wU (by omega)) ?_) | refine Exists.intro _ (And.intro ⟨rfl, by omega⟩ ?_) | refine Exists.intro _ (And.intro rfl ?_) | refine And.intro rfl ?_ | refine And.intro ⟨rfl, rfl⟩ ?_ | ((refine And.intro (fun _ => ?_) (fun _ => ?_)) <;> try (exfalso; omega))))
      refine Exists.intro (i + 1, t, c + 1) (Exists.intro [0, 1, 2] (And.intro ⟨⟨by omega, ht, by omega, by rw [hd']; exact hR⟩, (by show 2 * n - (i + 1) < 2 * n - i; omega)⟩ ⟨⟨rfl, rfl, rfl, rfl, rfl, rfl, rfl, trivial⟩, ⟨rfl, rfl, rfl, trivial⟩, rfl⟩))
    | false =>
      have hcs := cF_set (by omega) htk
      obtain ⟨d3, rfl⟩ : ∃ d3, d2 = d3 + 1 := ⟨d2 - 1, by omega⟩
      unfold clI at hR2
      rw [if_neg (by rw [htk]; decide)] at hR2
      have hmk := hd.lt k hk
      have hx := nxt_lt (m := m) (k := k) hn1
      have hle := cF_le (s := t.set k true) (i := m.getD k 0)
      have e1 := tmX (n := n) (m := m) (k := k)
      have hmt := s_meet0 k
      (repeat' (first | refine Exists.intro _ (And.intro (bbl_at (by omega) htk) ?_) | refine Exists.intro _ (And.intro (pcl_at (by omega)) ?_) | refine (hmt).pure rfl ?_ | refine And.intro hn0 ?_ | refine Exists.intro _ (And.intro e1 ?_) | refine Exists.intro (bbl (t.set k true)) (And.intro ⟨by rw [bbl_len ht]; omega, bbl_set⟩ ?_) | refine Exists.intro (bbl ((t.set k true).set (m.getD k 0) true)) (And.intro ⟨by rw [bbl_len (N := 16) (by rw [List.length_set]; exact ht)]; omega, bbl_set⟩ ?_) | refine And.intro (neI rfl) ?_ | refine And.intro ⟨rfl, leR rfl, onesR rfl⟩ ?_ | refine And.intro ⟨rfl, leR rfl⟩ ?_ | refine draw_rule2 hfol (fun KK hKK => ?_) | refine hKK _ _ _ (by kernel_rfl) ?_ | refine region_rule (fun KK hKK => ?_) | refine hKK _ _ ?_ | refine And.intro (Eq.refl true) ?_ | refine Exists.intro _ (And.intro (wI (by omega)) ?_) | refine Exists.intro _ (And.intro (wU (by omega)) ?_) | refine Exists.intro _ (And.intro ⟨rfl, by omega⟩ ?_) | refine Exists.intro _ (And.intro rfl ?_) | refine And.intro rfl ?_ | refine And.intro ⟨rfl, rfl⟩ ?_ | ((refine And.intro (fun _ => ?_) (fun _ => ?_)) <;> try (exfalso; omega))))
      refine Exists.intro (d3, nxt n m k, (t.set k true).set (m.getD k 0) true) (Exists.intro [0, 1, 2] (And.intro ⟨⟨hx, by simpa using ht, by omega, hR2⟩, (by show d3 < d3 + 1; omega)⟩ ⟨⟨rfl, rfl, rfl, rfl, rfl, rfl, rfl, rfl, trivial⟩, ⟨rfl, rfl, rfl, trivial⟩, rfl⟩))

theorem s_loops (n : Nat) (m : List Nat) (hd : IsD n m) : Spec Try.prog n_i_loops [pv n m] [] (vi (clN n m : Nat)) [] := by
  have hm := hd.len
  have hcl := s_closure n m hd
  refine SpecW.of_EV hf_i_loops hc_i_loops rfl rfl rfl fun w0 B ρ0 _ => ?_
  (repeat' (first | refine (hcl).make [0,1] rfl ⟨rfl, rfl, trivial⟩ ?_ | refine Exists.intro [Value.int .i64 ((0 : Nat) : Int)] (And.intro ⟨leR rfl, rfl⟩ ?_) | refine And.intro (neI rfl) ?_ | refine And.intro ⟨rfl, leR rfl, onesR rfl⟩ ?_ | refine And.intro ⟨rfl, leR rfl⟩ ?_ | refine draw_rule2 hfol (fun KK hKK => ?_) | refine hKK _ _ _ (by kernel_rfl) ?_ | refine region_rule (fun KK hKK => ?_) | refine hKK _ _ ?_ | refine And.intro (Eq.refl true) ?_ | refine Exists.intro _ (And.intro (wI (by omega)) ?_) | refine Exists.intro _ (And.intro (wU (by omega)) ?_) | refine Exists.intro _ (And.intro ⟨rfl, by omega⟩ ?_) | refine Exists.intro _ (And.intro rfl ?_) | refine And.intro rfl ?_ | refine And.intro ⟨rfl, rfl⟩ ?_ | ((refine And.intro (fun _ => ?_) (fun _ => ?_)) <;> try (exfalso; omega))))
  exact Exists.intro [] (And.intro (rfl) (And.intro trivial rfl))

def cloR (s : Int) (m : List Nat) : Int × Int := if isDi s m then (((clN s.toNat m : Nat) : Int), 0) else (0, 1)
theorem s_sClo (s : Int) (m : List Nat) (hm : m.length = 16) (hb : ∀ x ∈ m, x < 256) : Spec Try.prog n_s_ClosureLoops [pv s m] [] (iiV (cloR s m)) [] := by
  have hq := s_sIs' s m hm hb
  have hr : cloR s m = if isDi s m then (((clN s.toNat m : Nat) : Int), 0) else (0, 1) := rfl
  refine SpecW.of_EV hf_s_ClosureLoops hc_s_ClosureLoops rfl rfl rfl fun w0 B ρ0 _ => ?_
  cases hv : isDi s m with
  | false =>
    rw [hv] at hq hr
    (repeat' (first | refine (hq).pure rfl ?_ | refine Exists.intro (pcl s m) (And.intro ⟨pcl_len hm, pcl_all hm⟩ ?_) | refine And.intro (neI rfl) ?_ | refine And.intro ⟨rfl, leR rfl, onesR rfl⟩ ?_ | refine And.intro ⟨rfl, leR rfl⟩ ?_ | refine draw_rule2 hfol (fun KK hKK => ?_) | refine hKK _ _ _ (by kernel_rfl) ?_ | refine region_rule (fun KK hKK => ?_) | refine hKK _ _ ?_ | refine And.intro (Eq.refl true) ?_ | refine Exists.intro _ (And.intro (wI (by omega)) ?_) | refine Exists.intro _ (And.intro (wU (by omega)) ?_) | refine Exists.intro _ (And.intro ⟨rfl, by omega⟩ ?_) | refine Exists.intro _ (And.intro rfl ?_) | refine And.intro rfl ?_ | refine And.intro ⟨rfl, rfl⟩ ?_ | ((refine And.intro (fun _ => ?_) (fun _ => ?_)) <;> try (exfalso; omega))))
    exact Exists.intro [] (And.intro (by rw [hr]; rfl) (And.intro trivial rfl))
  | true =>
    rw [hv] at hq hr
    obtain ⟨n, rfl, hd⟩ := isDi_elim hm hv
    have ht := s_sClosure n m hd
    (repeat' (first | refine (hq).pure rfl ?_ | refine (ht).pure rfl ?_ | refine Exists.intro (pcl n m) (And.intro ⟨pcl_len hm, pcl_all hm⟩ ?_) | refine And.intro (neI rfl) ?_ | refine And.intro ⟨rfl, leR rfl, onesR rfl⟩ ?_ | refine And.intro ⟨rfl, leR rfl⟩ ?_ | refine draw_rule2 hfol (fun KK hKK => ?_) | refine hKK _ _ _ (by kernel_rfl) ?_ | refine region_rule (fun KK hKK => ?_) | refine hKK _ _ ?_ | refine And.intro (Eq.refl true) ?_ | refine Exists.intro _ (And.intro (wI (by omega)) ?_) | refine Exists.intro _ (And.intro (wU (by omega)) ?_) | refine Exists.intro _ (And.intro ⟨rfl, by omega⟩ ?_) | refine Exists.intro _ (And.intro rfl ?_) | refine And.intro rfl ?_ | refine And.intro ⟨rfl, rfl⟩ ?_ | ((refine And.intro (fun _ => ?_) (fun _ => ?_)) <;> try (exfalso; omega))))
    exact Exists.intro [] (And.intro (by rw [hr]; rfl) (And.intro trivial rfl))
theorem s_iClo (s : Int) (m : List Nat) (hm : m.length = 16) (hb : ∀ x ∈ m, x < 256) : Spec Try.prog n_i_ClosureLoops [pv s m] [] (iiV (cloR s m)) [] := by
  have hq := s_invalid1D s m hm hb
  have hr : cloR s m = if isDi s m then (((clN s.toNat m : Nat) : Int), 0) else (0, 1) := rfl
  refine SpecW.of_EV hf_i_ClosureLoops hc_i_ClosureLoops rfl rfl rfl fun w0 B ρ0 _ => ?_
  cases hv : isDi s m with
  | false =>
    rw [hv] at hq hr; simp only [Bool.not_false, cond_true] at hq
    (repeat' (first | refine (hq).read [1] rfl ⟨rfl, trivial⟩ ?_ | refine Exists.intro (pcl s m) (And.intro ⟨pcl_len hm, pcl_all hm⟩ ?_) | refine And.intro ⟨pcl_len hm, mkL rfl⟩ ?_ | refine Exists.intro (rowP [(s, m)]) (And.intro (row1 (N := 17) (p := (s, m)) (mkL' rfl)) ?_) | refine And.intro (neI rfl) ?_ | refine And.intro ⟨rfl, leR rfl, onesR rfl⟩ ?_ | refine And.intro ⟨rfl, leR rfl⟩ ?_ | refine draw_rule2 hfol (fun KK hKK => ?_) | refine hKK _ _ _ (by kernel_rfl) ?_ | refine region_rule (fun KK hKK => ?_) | refine hKK _ _ ?_ | refine And.intro (Eq.refl true) ?_ | refine Exists.intro _ (And.intro (wI (by omega)) ?_) | refine Exists.intro _ (And.intro (wU (by omega)) ?_) | refine Exists.intro _ (And.intro ⟨rfl, by omega⟩ ?_) | refine Exists.intro _ (And.intro rfl ?_) | refine And.intro rfl ?_ | refine And.intro ⟨rfl, rfl⟩ ?_ | ((refine And.intro (fun _ => ?_) (fun _ => ?_)) <;> try (exfalso; omega))))
    exact Exists.intro [] (And.intro (by rw [hr]; rfl) (And.intro trivial rfl))
  | true =>
    rw [hv] at hq hr; simp only [Bool.not_true, cond_false] at hq
    obtain ⟨n, rfl, hd⟩ := isDi_elim hm hv
    have ht := s_loops n m hd
    (repeat' (first | refine (hq).read [1] rfl ⟨rfl, trivial⟩ ?_ | refine (ht).pure rfl ?_ | refine Exists.intro (pcl n m) (And.intro ⟨pcl_len hm, pcl_all hm⟩ ?_) | refine And.intro ⟨pcl_len hm, mkL rfl⟩ ?_ | refine Exists.intro (rowP [((n : Int), m)]) (And.intro (row1 (N := 17) (p := ((n : Int), m)) (mkL' rfl)) ?_) | refine And.intro (neI rfl) ?_ | refine And.intro ⟨rfl, leR rfl, onesR rfl⟩ ?_ | refine And.intro ⟨rfl, leR rfl⟩ ?_ | refine draw_rule2 hfol (fun KK hKK => ?_) | refine hKK _ _ _ (by kernel_rfl) ?_ | refine region_rule (fun KK hKK => ?_) | refine hKK _ _ ?_ | refine And.intro (Eq.refl true) ?_ | refine Exists.intro _ (And.intro (wI (by omega)) ?_) | refine Exists.intro _ (And.intro (wU (by omega)) ?_) | refine Exists.intro _ (And.intro ⟨rfl, by omega⟩ ?_) | refine Exists.intro _ (And.intro rfl ?_) | refine And.intro rfl ?_ | refine And.intro ⟨rfl, rfl⟩ ?_ | ((refine And.intro (fun _ => ?_) (fun _ => ?_)) <;> try (exfalso; omega))))
    exact Exists.intro [] (And.intro (by rw [hr]; rfl) (And.intro trivial rfl))
theorem s_lawClo (s : Int) (m : List Nat) (hm : m.length = 16) (hb : ∀ x ∈ m, x < 256) : Spec Try.prog n_l_FnExactClosureLoops [pv s m] [] (vb true) [] := by
  have h1 := s_sClo s m hm hb
  have h2 := s_iClo s m hm hb
  generalize cloR s m = p at h1 h2
  refine SpecW.of_EV hf_l_FnExactClosureLoops hc_l_FnExactClosureLoops rfl rfl rfl fun w0 B ρ0 _ => ?_
  (repeat' (first | refine (s_toD s m hm).pure rfl ?_ | refine (h1).pure rfl ?_ | refine (h2).pure rfl ?_ | refine Exists.intro (pcl s m) (And.intro ⟨pcl_len hm, pcl_all hm⟩ ?_) | refine And.intro (fun _ => ?_) (fun h => absurd rfl h) | refine And.intro (neI rfl) ?_ | refine And.intro ⟨rfl, leR rfl, onesR rfl⟩ ?_ | refine And.intro ⟨rfl, leR rfl⟩ ?_ | refine draw_rule2 hfol (fun KK hKK => ?_) | refine hKK _ _ _ (by kernel_rfl) ?_ | refine region_rule (fun KK hKK => ?_) | refine hKK _ _ ?_ | refine And.intro (Eq.refl true) ?_ | refine Exists.intro _ (And.intro (wI (by omega)) ?_) | refine Exists.intro _ (And.intro (wU (by omega)) ?_) | refine Exists.intro _ (And.intro ⟨rfl, by omega⟩ ?_) | refine Exists.intro _ (And.intro rfl ?_) | refine And.intro rfl ?_ | refine And.intro ⟨rfl, rfl⟩ ?_ | ((refine And.intro (fun _ => ?_) (fun _ => ?_)) <;> try (exfalso; omega))))
  exact finP rfl
end Go.Proofs.Ytfglgmimnpjhoaa.VE
