/- Contracts of functions of the given program, for all arguments that the contract names; see each theorem. -/
import Derived.Test.YtgpgcdofhkpeaaaU10a
import Derived.Test.YtgpgcdofhkpeaaaU15p
set_option linter.all false
namespace Go.Proofs.Ytgpgcdofhkpeaaa.VE
open Go
set_option maxHeartbeats 800000
set_option maxRecDepth 100000

theorem s_sClosure (n : Nat) (m : List Nat) (hd : IsD n m) : Spec Try.prog n_s_l01Closure [pv n m] [] (vi (clN n m : Nat)) [] := by
  have hm := hd.len
  have hn := hd.n8
  have hn1 := hd.n1
  have hn0 : 2 * (n : Int) ≠ 0 := by omega
  refine SpecW.of_EV hf_s_l01Closure hc_s_l01Closure rfl rfl rfl fun w0 B ρ0 _ => ?_
  (repeat' (first | refine Exists.intro (bbl (List.replicate 16 false)) (And.intro ⟨leR rfl, rfl⟩ ?_) | refine And.intro (neI rfl) ?_ | refine And.intro ⟨rfl, leR rfl, onesR rfl⟩ ?_ | refine And.intro ⟨rfl, leR rfl⟩ ?_ | refine draw_rule2 hfol (fun KK hKK => ?_) | refine hKK _ _ _ (by kernel_rfl) ?_ | refine region_rule (fun KK hKK => ?_) | refine hKK _ _ ?_ | refine And.intro (Eq.refl true) ?_ | refine Exists.intro _ (And.intro (wI (by omega)) ?_) | refine Exists.intro _ (And.intro (wU (by omega)) ?_) | refine Exists.intro _ (And.intro ⟨rfl, by omega⟩ ?_) | refine Exists.intro _ (And.intro rfl ?_) | refine And.intro rfl ?_ | refine And.intro ⟨rfl, rfl⟩ ?_ | ((refine And.intro (fun _ => ?_) (fun _ => ?_)) <;> try (exfalso; omega))))
  refine loop_rule (α := Nat × List Bool × Nat) (fun (i, s, c) => i ≤ 2 * n ∧ s.length = 16 ∧ c ≤ i ∧ clO n m (2 * n - i) i s c = clN n m)
    (fun (i, s, c) => [(1, .ptr 0 0), (3, vi n), (4, .ptr 1 0), (5, vi (c : Nat)), (6, vi i)])
    (fun (i, s, c) => [.pc (pcl n m) T_i_Diagram, .pc (bbl s) T_a16q_bool]) (fun (i, _, _) => 2 * n - i) (0, List.replicate 16 false, 0) [0, 1]
    ⟨by omega, by simp, by omega, rfl⟩ ⟨⟨rfl, rfl, rfl, rfl, rfl, trivial⟩, ⟨rfl, rfl, trivial⟩, rfl⟩ ?_
  rintro ⟨i, s, c⟩ g ⟨hi, hs, hc, hR⟩
  by_cases h9 : i = 2 * n
  · subst h9
    rw [Nat.sub_self] at hR
    (repeat' (first | refine And.intro (neI rfl) ?_ | refine And.intro ⟨rfl, leR rfl, onesR rfl⟩ ?_ | refine And.intro ⟨rfl, leR rfl⟩ ?_ | refine draw_rule2 hfol (fun KK hKK => ?_) | refine hKK _ _ _ (by kernel_rfl) ?_ | refine region_rule (fun KK hKK => ?_) | refine hKK _ _ ?_ | refine And.intro (Eq.refl true) ?_ | refine Exists.intro _ (And.intro (wI (by omega)) ?_) | refine Exists.intro _ (And.intro (wU (by omega)) ?_) | refine Exists.intro _ (And.intro ⟨rfl, by omega⟩ ?_) | refine Exists.intro _ (And.intro rfl ?_) | refine And.intro rfl ?_ | refine And.intro ⟨rfl, rfl⟩ ?_ | ((refine And.intro (fun _ => ?_) (fun _ => ?_)) <;> try (exfalso; omega))))
    exact Exists.intro [] (And.intro (viR (by rw [← hR]; rfl)) (And.intro trivial rfl))
  have hil : i < 2 * n := by omega
  obtain ⟨d, hdd⟩ : ∃ d, 2 * n - i = d + 1 := ⟨2 * n - i - 1, by omega⟩
  have hd' : 2 * n - (i + 1) = d := by omega
  rw [hdd] at hR
  unfold clO at hR
  cases hsi : s.getD i false with
  | true =>
    rw [if_pos hsi] at hR
    (repeat' (first | refine Exists.intro _ (And.intro (bbl_at (by omega) hsi) ?_) | refine And.intro (neI rfl) ?_ | refine And.intro ⟨rfl, leR rfl, onesR rfl⟩ ?_ | refine And.intro ⟨rfl, leR rfl⟩ ?_ | refine draw_rule2 hfol (fun KK hKK => ?_) | refine hKK _ _ _ (by kernel_rfl) ?_ | refine region_rule (fun KK hKK => ?_) | refine hKK _ _ ?_ | refine And.intro (Eq.refl true) ?_ | refine Exists.intro _ (And.intro (wI (by omega)) ?_) | refine Exists.intro _ (And.intro (wU (by omega)) ?_) | refine Exists.intro _ (And.intro ⟨rfl, by omega⟩ ?_) | refine Exists.intro _ (And.intro rfl ?_) | refine And.intro rfl ?_ | refine And.intro ⟨rfl, rfl⟩ ?_ | ((refine And.intro (fun _ => ?_) (fun _ => ?_)) <;> try (exfalso; omega))))
    refine Exists.intro (i + 1, s, c) (Exists.intro [0, 1] (And.intro ⟨⟨by omega, hs, by omega, by rw [hd']; exact hR⟩, (by show 2 * n - (i + 1) < 2 * n - i; omega)⟩ ⟨⟨rfl, rfl, rfl, rfl, rfl, trivial⟩, ⟨rfl, rfl, trivial⟩, rfl⟩))
  | false =>
    rw [if_neg (by rw [hsi]; decide)] at hR
    (repeat' (first | refine Exists.intro _ (And.intro (bbl_at (by omega) hsi) ?_) | refine And.intro (neI rfl) ?_ | refine And.intro ⟨rfl, leR rfl, onesR rfl⟩ ?_ | refine And.intro ⟨rfl, leR rfl⟩ ?_ | refine draw_rule2 hfol (fun KK hKK => ?_) | refine hKK _ _ _ (by kernel_rfl) ?_ | refine region_rule (fun KK hKK => ?_) | refine hKK _ _ ?_ | refine And.intro (Eq.refl true) ?_ | refine Exists.intro _ (And.intro (wI (by omega)) ?_) | refine Exists.intro _ (And.intro (wU (by omega)) ?_) | refine Exists.intro _ (And.intro ⟨rfl, by omega⟩ ?_) | refine Exists.intro _ (And.intro rfl ?_) | refine And.intro rfl ?_ | refine And.intro ⟨rfl, rfl⟩ ?_ | ((refine And.intro (fun _ => ?_) (fun _ => ?_)) <;> try (exfalso; omega))))
    refine loop_rule (α := Nat × Nat × List Bool) (fun (d, k, t) => k < 2 * n ∧ t.length = 16 ∧ cF t ≤ d ∧ clI n m d k t = clI n m 17 i s)
      (fun (d, k, t) => [(1, .ptr 0 0), (3, vi n), (4, .ptr 1 0), (5, vi (c + 1 : Nat)), (6, vi i), (7, vi k)])
      (fun (d, k, t) => [.pc (pcl n m) T_i_Diagram, .pc (bbl t) T_a16q_bool]) (fun (d, _, _) => d) (17, i, s) [0, 1]
      ⟨by omega, hs, by have := cF_all (s := s); omega, rfl⟩ ⟨⟨rfl, rfl, rfl, viR (by omega), rfl, rfl, trivial⟩, ⟨rfl, rfl, trivial⟩, rfl⟩ ?_
    rintro ⟨d2, k, t⟩ g2 ⟨hk, ht, hcd, hR2⟩
    cases htk : t.getD k false with
    | true =>
      have he : clI n m 17 i s = t := by
        rw [← hR2]; cases d2 with
        | zero => rfl
        | succ d2 => unfold clI; rw [if_pos htk]
      rw [he] at hR
      (repeat' (first | refine Exists.intro _ (And.intro (bbl_at (by omega) htk) ?_) | refine And.intro (neI rfl) ?_ | refine And.intro ⟨rfl, leR rfl, onesR rfl⟩ ?_ | refine And.intro ⟨rfl, leR rfl⟩ ?_ | refine draw_rule2 hfol (fun KK hKK => ?_) | refine hKK _ _ _ (by kernel_rfl) ?_ | refine region_rule (fun KK hKK => ?_) | refine hKK _ _ ?_ | refine And.intro (Eq.refl true) ?_ | refine Exists.intro _ (And.intro (wI (by omega)) ?_) | refine Exists.intro _ (And.intro (wU (by omega)) ?_) | refine Exists.intro _ (And.intro ⟨rfl, by omega⟩ ?_) | refine Exists.intro _ (And.intro rfl ?_) | refine And.intro rfl ?_ | refine And.intro ⟨rfl, rfl⟩ ?_ | ((refine And.intro (fun _ => ?_) (fun _ => ?_)) <;> try (exfalso; omega))))
      refine Exists.intro (i + 1, t, c + 1) (Exists.intro [0, 1] (And.intro ⟨⟨by omega, ht, by omega, by rw [hd']; exact hR⟩, (by show 2 * n - (i + 1) < 2 * n - i; omega)⟩ ⟨⟨rfl, rfl, rfl, rfl, rfl, trivial⟩, ⟨rfl, rfl, trivial⟩, rfl⟩))
    | false =>
      have hcs := cF_set (by omega) htk
      obtain ⟨d3, rfl⟩ : ∃ d3, d2 = d3 + 1 := ⟨d2 - 1, by omega⟩
      unfold clI at hR2
      rw [if_neg (by rw [htk]; decide)] at hR2
      have hmk := hd.lt k hk
      have hx := nxt_lt (m := m) (k := k) hn1
      have hle := cF_le (s := t.set k true) (i := m.getD k 0)
      have e1 := tmX (n := n) (m := m) (k := k)
      (repeat' (first | refine Exists.intro _ (And.intro (bbl_at (by omega) htk) ?_) | refine Exists.intro _ (And.intro (pcl_at (by omega)) ?_) | refine And.intro hn0 ?_ | refine Exists.intro _ (And.intro e1 ?_) | refine Exists.intro (bbl (t.set k true)) (And.intro ⟨by rw [bbl_len ht]; omega, bbl_set⟩ ?_) | refine Exists.intro (bbl ((t.set k true).set (m.getD k 0) true)) (And.intro ⟨by rw [bbl_len (N := 16) (by rw [List.length_set]; exact ht)]; omega, bbl_set⟩ ?_) | refine And.intro (neI rfl) ?_ | refine And.intro ⟨rfl, leR rfl, onesR rfl⟩ ?_ | refine And.intro ⟨rfl, leR rfl⟩ ?_ | refine draw_rule2 hfol (fun KK hKK => ?_) | refine hKK _ _ _ (by kernel_rfl) ?_ | refine region_rule (fun KK hKK => ?_) | refine hKK _ _ ?_ | refine And.intro (Eq.refl true) ?_ | refine Exists.intro _ (And.intro (wI (by omega)) ?_) | refine Exists.intro _ (And.intro (wU (by omega)) ?_) | refine Exists.intro _ (And.intro ⟨rfl, by omega⟩ ?_) | refine Exists.intro _ (And.intro rfl ?_) | refine And.intro rfl ?_ | refine And.intro ⟨rfl, rfl⟩ ?_ | ((refine And.intro (fun _ => ?_) (fun _ => ?_)) <;> try (exfalso; omega))))
      refine Exists.intro (d3, nxt n m k, (t.set k true).set (m.getD k 0) true) (Exists.intro [0, 1] (And.intro ⟨⟨hx, by simpa using ht, by omega, hR2⟩, (by show d3 < d3 + 1; omega)⟩ ⟨⟨rfl, rfl, rfl, rfl, rfl, rfl, trivial⟩, ⟨rfl, rfl, trivial⟩, rfl⟩))

theorem s_meet0 (i : Nat) : Spec Try.prog n_i_loops_1 [vi i] [] (.tup []) [] := by
  refine SpecW.of_EV hf_i_loops_1 hc_i_loops_1 rfl rfl rfl fun w0 B ρ0 _ => ?_
  (repeat' (first | refine And.intro (neI rfl) ?_ | refine And.intro ⟨rfl, leR rfl, onesR rfl⟩ ?_ | refine And.intro ⟨rfl, leR rfl⟩ ?_ | refine draw_rule2 hfol (fun KK hKK => ?_) | refine hKK _ _ _ (by kernel_rfl) ?_ | refine region_rule (fun KK hKK => ?_) | refine hKK _ _ ?_ | refine And.intro (Eq.refl true) ?_ | refine Exists.intro _ (And.intro (wI (by omega)) ?_) | refine Exists.intro _ (And.intro (wU (by omega)) ?_) | refine Exists.intro _ (And.intro ⟨rfl, by omega⟩ ?_) | refine Exists.intro _ (And.intro rfl ?_) | refine And.intro rfl ?_ | refine And.intro ⟨rfl, rfl⟩ ?_ | ((refine And.intro (fun _ => ?_) (fun _ => ?_)) <;> try (exfalso; omega))))
  exact Exists.intro [] (And.intro (rfl) (And.intro trivial rfl))
theorem s_loop1 (c : Nat) (hc : c ≤ 1000) : Spec Try.prog n_i_loops_2 [.ptr 0 0] [.pc [.int .i64 c] T_int64] (.tup []) [.pc [.int .i64 (c + 1 : Nat)] T_int64] := by
  have e : IntKind.i64.wrap ((c : Int) + 1) = ((c + 1 : Nat) : Int) := wC (by omega) (by omega)
  refine SpecW.of_EV hf_i_loops_2 hc_i_loops_2 rfl rfl rfl fun w0 B ρ0 _ => ?_
  (repeat' (first | refine Exists.intro _ (And.intro e ?_) | refine Exists.intro [Value.int .i64 ((c + 1 : Nat) : Int)] (And.intro ⟨leR rfl, rfl⟩ ?_) | refine And.intro (neI rfl) ?_ | refine And.intro ⟨rfl, leR rfl, onesR rfl⟩ ?_ | refine And.intro ⟨rfl, leR rfl⟩ ?_ | refine draw_rule2 hfol (fun KK hKK => ?_) | refine hKK _ _ _ (by kernel_rfl) ?_ | refine region_rule (fun KK hKK => ?_) | refine hKK _ _ ?_ | refine And.intro (Eq.refl true) ?_ | refine Exists.intro _ (And.intro (wI (by omega)) ?_) | refine Exists.intro _ (And.intro (wU (by omega)) ?_) | refine Exists.intro _ (And.intro ⟨rfl, by omega⟩ ?_) | refine Exists.intro _ (And.intro rfl ?_) | refine And.intro rfl ?_ | refine And.intro ⟨rfl, rfl⟩ ?_ | ((refine And.intro (fun _ => ?_) (fun _ => ?_)) <;> try (exfalso; omega))))
  exact Exists.intro [0] (And.intro (rfl) (And.intro ⟨rfl, trivial⟩ rfl))

theorem s_closure (n : Nat) (m : List Nat) (hd : IsD n m) : Spec Try.prog n_i_Diagram_closure [.ptr 0 0, .fn (.func n_i_loops_1) [] [], .fn (.func n_i_loops_2) [] [.ptr 1 0]] [.pc (pcl n m) T_i_Diagram, .pc [.int .i64 (0 : Nat)] T_int64] (.tup [])
    [.pc (pcl n m) T_i_Diagram, .pc [.int .i64 (clN n m : Nat)] T_int64] := by
  have hm := hd.len
  have hn := hd.n8
  have hn1 := hd.n1
  have hn0 : 2 * (n : Int) ≠ 0 := by omega
  refine SpecW.of_EV hf_i_Diagram_closure hc_i_Diagram_closure rfl rfl rfl fun w0 B ρ0 _ => ?_
  (repeat' (first | refine (s_n n m).read [0] rfl ⟨rfl, trivial⟩ ?_ | refine Exists.intro (bbl (List.replicate 16 false)) (And.intro ⟨leR rfl, rfl⟩ ?_) | refine And.intro (neI rfl) ?_ | refine And.intro ⟨rfl, leR rfl, onesR rfl⟩ ?_ | refine And.intro ⟨rfl, leR rfl⟩ ?_ | refine draw_rule2 hfol (fun KK hKK => ?_) | refine hKK _ _ _ (by kernel_rfl) ?_ | refine region_rule (fun KK hKK => ?_) | refine hKK _ _ ?_ | refine And.intro (Eq.refl true) ?_ | refine Exists.intro _ (And.intro (wI (by omega)) ?_) | refine Exists.intro _ (And.intro (wU (by omega)) ?_) | refine Exists.intro _ (And.intro ⟨rfl, by omega⟩ ?_) | refine Exists.intro _ (And.intro rfl ?_) | refine And.intro rfl ?_ | refine And.intro ⟨rfl, rfl⟩ ?_ | ((refine And.intro (fun _ => ?_) (fun _ => ?_)) <;> try (exfalso; omega))))
  refine loop_rule (α := Nat × List Bool × Nat) (fun (i, s, c) => i ≤ 2 * n ∧ s.length = 16 ∧ c ≤ i ∧ clO n m (2 * n - i) i s c = clN n m)
    (fun (i, s, c) => [(0, .ptr 0 0), (1, .fn (.func n_i_loops_1) [] []), (2, .fn (.func n_i_loops_2) [] [.ptr 1 0]), (6, vi n), (7, .ptr 2 0), (15, vi (2 * n)), (16, vi i)])
    (fun (i, s, c) => [.pc (pcl n m) T_i_Diagram, .pc [.int .i64 (c : Nat)] T_int64, .pc (bbl s) T_a16q_bool]) (fun (i, _, _) => 2 * n - i) (0, List.replicate 16 false, 0) [0, 1, 2]
    ⟨by omega, by simp, by omega, rfl⟩ ⟨⟨rfl, rfl, rfl, rfl, rfl, rfl, rfl, trivial⟩, ⟨rfl, rfl, rfl, trivial⟩, rfl⟩ ?_
  rintro ⟨i, s, c⟩ g ⟨hi, hs, hc, hR⟩
  by_cases h9 : i = 2 * n
  · subst h9
    rw [Nat.sub_self] at hR
    replace hR : c = clN n m := hR
    subst hR
    (repeat' (first | refine And.intro (neI rfl) ?_ | refine And.intro ⟨rfl, leR rfl, onesR rfl⟩ ?_ | refine And.intro ⟨rfl, leR rfl⟩ ?_ | refine draw_rule2 hfol (fun KK hKK => ?_) | refine hKK _ _ _ (by kernel_rfl) ?_ | refine region_rule (fun KK hKK => ?_) | refine hKK _ _ ?_ | refine And.intro (Eq.refl true) ?_ | refine Exists.intro _ (And.intro (wI (by omega)) ?_) | refine Exists.intro _ (And.intro (wU (by omega)) ?_) | refine Exists.intro _ (And.intro ⟨rfl, by omega⟩ ?_) | refine Exists.intro _ (And.intro rfl ?_) | refine And.intro rfl ?_ | refine And.intro ⟨rfl, rfl⟩ ?_ | ((refine And.intro (fun _ => ?_) (fun _ => ?_)) <;> try (exfalso; omega))))
    exact Exists.intro [0,1] (And.intro (rfl) (And.intro ⟨rfl, rfl, trivial⟩ rfl))
  have hil : i < 2 * n := by omega
  obtain ⟨d, hdd⟩ : ∃ d, 2 * n - i = d + 1 := ⟨2 * n - i - 1, by omega⟩
  have hd' : 2 * n - (i + 1) = d := by omega
  rw [hdd] at hR
  unfold clO at hR
  cases hsi : s.getD i false with
  | true =>
    rw [if_pos hsi] at hR
    (repeat' (first | refine Exists.intro _ (And.intro (bbl_at (by omega) hsi) ?_) | refine And.intro (neI rfl) ?_ | refine And.intro ⟨rfl, leR rfl, onesR rfl⟩ ?_ | refine And.intro ⟨rfl, leR rfl⟩ ?_ | refine draw_rule2 hfol (fun KK hKK => ?_) | refine hKK _ _ _ (by kernel_rfl) ?_ | refine region_rule (fun KK hKK => ?_) | refine hKK _ _ ?_ | refine And.intro (Eq.refl true) ?_ | refine Exists.intro _ (And.intro (wI (by omega)) ?_) | refine Exists.intro _ (And.intro (wU (by omega)) ?_) | refine Exists.intro _ (And.intro ⟨rfl, by omega⟩ ?_) | refine Exists.intro _ (And.intro rfl ?_) | refine And.intro rfl ?_ | refine And.intro ⟨rfl, rfl⟩ ?_ | ((refine And.intro (fun _ => ?_) (fun _ => ?_)) <;> try (exfalso; omega))))
    refine Exists.intro (i + 1, s, c) (Exists.intro [0, 1, 2] (And.intro ⟨⟨by omega, hs, by omega, by rw [hd']; exact hR⟩, (by show 2 * n - (i + 1) < 2 * n - i; omega)⟩ ⟨⟨rfl, rfl, rfl, rfl, rfl, rfl, rfl, trivial⟩, ⟨rfl, rfl, rfl, trivial⟩, rfl⟩))
  | false =>
    rw [if_neg (by rw [hsi]; decide)] at hR
    (repeat' (first | refine Exists.intro _ (And.intro (bbl_at (by omega) hsi) ?_) | refine And.intro (neI rfl) ?_ | refine And.intro ⟨rfl, leR rfl, onesR rfl⟩ ?_ | refine And.intro ⟨rfl, leR rfl⟩ ?_ | refine draw_rule2 hfol (fun KK hKK => ?_) | refine hKK _ _ _ (by kernel_rfl) ?_ | refine region_rule (fun KK hKK => ?_) | refine hKK _ _ ?_ | refine And.intro (Eq.refl true) ?_ | refine Exists.intro _ (And.intro (wI (by omega)) ?_) | refine Exists.intro _ (And.intro (wU (by omega)) ?_) | refine Exists.intro _ (And.intro ⟨rfl, by omega⟩ ?_) | refine Exists.intro _ (And.intro rfl ?_) | refine And.intro rfl ?_ | refine And.intro ⟨rfl, rfl⟩ ?_ | ((refine And.intro (fun _ => ?_) (fun _ => ?_)) <;> try (exfalso; omega))))
    refine loop_rule (α := Nat × Nat × List Bool) (fun (d, k, t) => k < 2 * n ∧ t.length = 16 ∧ cF t ≤ d ∧ clI n m d k t = clI n m 17 i s)
      (fun (d, k, t) => [(0, .ptr 0 0), (1, .fn (.func n_i_loops_1) [] []), (2, .fn (.func n_i_loops_2) [] [.ptr 1 0]), (6, vi n), (7, .ptr 2 0), (15, vi (2 * n)), (16, vi i), (9, vi k)])
      (fun (d, k, t) => [.pc (pcl n m) T_i_Diagram, .pc [.int .i64 (c : Nat)] T_int64, .pc (bbl t) T_a16q_bool]) (fun (d, _, _) => d) (17, i, s) [0, 1, 2]
      ⟨by omega, hs, by have := cF_all (s := s); omega, rfl⟩ ⟨⟨rfl, rfl, rfl, rfl, rfl, rfl, rfl, rfl, trivial⟩, ⟨rfl, rfl, rfl, trivial⟩, rfl⟩ ?_
    rintro ⟨d2, k, t⟩ g2 ⟨hk, ht, hcd, hR2⟩
    cases htk : t.getD k false with
    | true =>
      have he : clI n m 17 i s = t := by
        rw [← hR2]; cases d2 with
        | zero => rfl
        | succ d2 => unfold clI; rw [if_pos htk]
      rw [he] at hR
      have hlp := s_loop1 c (by omega)
      (repeat' (first | refine Exists.intro _ (And.intro (bbl_at (by omega) htk) ?_) | refine (hlp).make [1] rfl ⟨rfl, trivial⟩ ?_ | refine And.intro (neI rfl) ?_ | refine And.intro ⟨rfl, leR rfl, onesR rfl⟩ ?_ | refine And.intro ⟨rfl, leR rfl⟩ ?_ | refine draw_rule2 hfol (fun KK hKK => ?_) | refine hKK _ _ _ (by kernel_rfl) ?_ | refine region_rule (fun KK hKK => ?_) | refine hKK _ _ ?_ | refine And.intro (Eq.refl true) ?_ | refine Exists.intro _ (And.intro (wI (by omega)) ?_) | refine Exists.intro _ (And.intro (wU (by omega)) ?_) | refine Exists.intro _ (And.intro ⟨rfl, by omega⟩ ?_) | refine Exists.intro _ (And.intro rfl ?_) | refine And.intro rfl ?_ | refine And.intro ⟨rfl, rfl⟩ ?_ | ((refine And.intro (fun _ => ?_) (fun _ => ?_)) <;> try (exfalso; omega))))
      refine Exists.intro (i + 1, t, c + 1) (Exists.intro [0, 1, 2] (And.intro ⟨⟨by omega, ht, by omega, by rw [hd']; exact hR⟩, (by show 2 * n - (i + 1) < 2 * n - i; omega)⟩ ⟨⟨rfl, rfl, rfl, rfl, rfl, rfl, rfl, trivial⟩, ⟨rfl, rfl, rfl, trivial⟩, rfl⟩))
    | false =>
      have hcs := cF_set (by omega) htk
      obtain ⟨d3, rfl⟩ : ∃ d3, d2 = d3 + 1 := ⟨d2 - 1, by omega⟩
      unfold clI at hR2
      rw [if_neg (by rw [htk]; decide)] at hR2
      have hmk := hd.lt k hk
      have hx := nxt_lt (m := m) (k := k) hn1
      have hle := cF_le (s := t.set k true) (i := m.getD k 0)
      have e1 := tmX (n := n) (m := m) (k := k)
      have hmt := s_meet0 k
      (repeat' (first | refine Exists.intro _ (And.intro (bbl_at (by omega) htk) ?_) | refine Exists.intro _ (And.intro (pcl_at (by omega)) ?_) | refine (hmt).pure rfl ?_ | refine And.intro hn0 ?_ | refine Exists.intro _ (And.intro e1 ?_) | refine Exists.intro (bbl (t.set k true)) (And.intro ⟨by rw [bbl_len ht]; omega, bbl_set⟩ ?_) | refine Exists.intro (bbl ((t.set k true).set (m.getD k 0) true)) (And.intro ⟨by rw [bbl_len (N := 16) (by rw [List.length_set]; exact ht)]; omega, bbl_set⟩ ?_) | refine And.intro (neI rfl) ?_ | refine And.intro ⟨rfl, leR rfl, onesR rfl⟩ ?_ | refine And.intro ⟨rfl, leR rfl⟩ ?_ | refine draw_rule2 hfol (fun KK hKK => ?_) | refine hKK _ _ _ (by kernel_rfl) ?_ | refine region_rule (fun KK hKK => ?_) | refine hKK _ _ ?_ | refine And.intro (Eq.refl true) ?_ | refine Exists.intro _ (And.intro (wI (by omega)) ?_) | refine Exists.intro _ (And.intro (wU (by omega)) ?_) | refine Exists.intro _ (And.intro ⟨rfl, by omega⟩ ?_) | refine Exists.intro _ (And.intro rfl ?_) | refine And.intro rfl ?_ | refine And.intro ⟨rfl, rfl⟩ ?_ | ((refine And.intro (fun _ => ?_) (fun _ => ?_)) <;> try (exfalso; omega))))
      refine Exists.intro (d3, nxt n m k, (t.set k true).set (m.getD k 0) true) (Exists.intro [0, 1, 2] (And.intro ⟨⟨hx, by simpa using ht, by omega, hR2⟩, (by show d3 < d3 + 1; omega)⟩ ⟨⟨rfl, rfl, rfl, rfl, rfl, rfl, rfl, rfl, trivial⟩, ⟨rfl, rfl, rfl, trivial⟩, rfl⟩))

theorem s_loops (n : Nat) (m : List Nat) (hd : IsD n m) : Spec Try.prog n_i_loops [pv n m] [] (vi (clN n m : Nat)) [] := by
  have hm := hd.len
  have hcl := s_closure n m hd
  refine SpecW.of_EV hf_i_loops hc_i_loops rfl rfl rfl fun w0 B ρ0 _ => ?_
  (repeat' (first | refine (hcl).make [0,1] rfl ⟨rfl, rfl, trivial⟩ ?_ | refine Exists.intro [Value.int .i64 ((0 : Nat) : Int)] (And.intro ⟨leR rfl, rfl⟩ ?_) | refine And.intro (neI rfl) ?_ | refine And.intro ⟨rfl, leR rfl, onesR rfl⟩ ?_ | refine And.intro ⟨rfl, leR rfl⟩ ?_ | refine draw_rule2 hfol (fun KK hKK => ?_) | refine hKK _ _ _ (by kernel_rfl) ?_ | refine region_rule (fun KK hKK => ?_) | refine hKK _ _ ?_ | refine And.intro (Eq.refl true) ?_ | refine Exists.intro _ (And.intro (wI (by omega)) ?_) | refine Exists.intro _ (And.intro (wU (by omega)) ?_) | refine Exists.intro _ (And.intro ⟨rfl, by omega⟩ ?_) | refine Exists.intro _ (And.intro rfl ?_) | refine And.intro rfl ?_ | refine And.intro ⟨rfl, rfl⟩ ?_ | ((refine And.intro (fun _ => ?_) (fun _ => ?_)) <;> try (exfalso; omega))))
  exact Exists.intro [] (And.intro (rfl) (And.intro trivial rfl))

end Go.Proofs.Ytgpgcdofhkpeaaa.VE
