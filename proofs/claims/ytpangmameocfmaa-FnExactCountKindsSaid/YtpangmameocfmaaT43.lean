/- Contracts of functions of the given program, for all arguments that the contract names; see each theorem. -/
import Derived.Test.YtpangmameocfmaaT42
import Derived.Test.YtpangmameocfmaaW1
set_option linter.all false
namespace Go.Proofs.Ytpangmameocfmaa.VE.P
open Go
set_option maxHeartbeats 1600000
set_option maxRecDepth 100000

theorem s_allP (n : Nat) (hn1 : 1 ≤ n) (hn : n ≤ 4) : Spec Try.prog n_i_allPartitions [vi n, .fn (.func n_i_CountKinds_1) [] [.ptr 0 0]] [.cc [.sl 1] T_s_int64, .pr T_int64 1 7 (c7 fun _ => 0)] (.tup [])
    [.cc [.sl 1] T_s_int64, .pr T_int64 1 7 (c7 fun j => 0 + cnK n (fillL (2 * n) (List.replicate 8 0) 0 0) j)] := by
  have h := s_more n hn1 hn (2 * n) (List.replicate 8 0) 0 0 (fun _ => 0) (by omega) FillOK.init (by omega) (fun j => by
    have : 9 ^ (2 * n) ≤ 9 ^ 8 := Nat.pow_le_pow_right (by omega) (by omega)
    omega)
  refine SpecW.of_EV hf_i_allPartitions hc_i_allPartitions rfl rfl rfl fun w0 B ρ0 _ => ?_
  (repeat' (first | refine Exists.intro (pcl n (List.replicate 8 0)) (And.intro ⟨leR rfl, rfl⟩ ?_) | refine Exists.intro [V.fn (.func n_i_allPartitions_1) [] [.ptr 2 0, .ptr 3 0, .ptr 4 0]] (And.intro ⟨leR rfl, rfl⟩ ?_) | refine (h).make [2,3,4,0,1] rfl ⟨rfl, rfl, rfl, rfl, rfl, trivial⟩ ?_ | refine And.intro (neI rfl) ?_ | refine And.intro ⟨rfl, leR rfl, onesR rfl⟩ ?_ | refine And.intro ⟨rfl, leR rfl⟩ ?_ | refine draw_rule2 hfol (fun KK hKK => ?_) | refine hKK _ _ _ (by kernel_rfl) ?_ | refine region_rule (fun KK hKK => ?_) | refine hKK _ _ ?_ | refine And.intro (Eq.refl true) ?_ | refine Exists.intro _ (And.intro (wI (by omega)) ?_) | refine Exists.intro _ (And.intro (wU (by omega)) ?_) | refine Exists.intro _ (And.intro ⟨rfl, by omega⟩ ?_) | refine Exists.intro _ (And.intro rfl ?_) | refine And.intro rfl ?_ | refine And.intro ⟨rfl, rfl⟩ ?_ | ((refine And.intro (fun _ => ?_) (fun _ => ?_)) <;> try (exfalso; omega))))
  exact Exists.intro [0,1] (And.intro (rfl) (And.intro ⟨rfl, rfl, trivial⟩ rfl))
theorem s_iCK (n : Nat) (hn1 : 1 ≤ n) (hn : n ≤ 4) : Spec Try.prog n_i_CountKinds [vi n] [] (.tup [.sl 0, vi 0]) [.pr T_int64 1 7 (c7 fun j => 0 + cnK n (fillL (2 * n) (List.replicate 8 0) 0 0) j)] := by
  have h := s_allP n hn1 hn
  have hin := s_iin n 1 4
  rw [decide_eq_true (by omega)] at hin
  have hz : (madeCells (Value.int .i64 0).cells (7 * 1)).toList = c7 fun _ => 0 := mk_il
  refine SpecW.of_EV hf_i_CountKinds hc_i_CountKinds rfl rfl rfl fun w0 B ρ0 _ => ?_
  (repeat' (first | refine (hin).pure rfl ?_ | refine Exists.intro [V.sl 0] (And.intro ⟨leR rfl, rfl⟩ ?_) | refine Exists.intro 7 (Exists.intro (c7 fun _ => 0) (And.intro ⟨rfl, rfl, by omega, by omega, mk_il⟩ ?_)) | refine (h).make [1,0] rfl ⟨rfl, rfl, trivial⟩ ?_ | refine And.intro (neI rfl) ?_ | refine And.intro ⟨rfl, leR rfl, onesR rfl⟩ ?_ | refine And.intro ⟨rfl, leR rfl⟩ ?_ | refine draw_rule2 hfol (fun KK hKK => ?_) | refine hKK _ _ _ (by kernel_rfl) ?_ | refine region_rule (fun KK hKK => ?_) | refine hKK _ _ ?_ | refine And.intro (Eq.refl true) ?_ | refine Exists.intro _ (And.intro (wI (by omega)) ?_) | refine Exists.intro _ (And.intro (wU (by omega)) ?_) | refine Exists.intro _ (And.intro ⟨rfl, by omega⟩ ?_) | refine Exists.intro _ (And.intro rfl ?_) | refine And.intro rfl ?_ | refine And.intro ⟨rfl, rfl⟩ ?_ | ((refine And.intro (fun _ => ?_) (fun _ => ?_)) <;> try (exfalso; omega))))
  exact Exists.intro [0] (And.intro (rfl) (And.intro ⟨rfl, trivial⟩ rfl))
theorem s_iCKE (s : Int) (h : ¬ (1 ≤ s ∧ s ≤ 4)) : Spec Try.prog n_i_CountKinds [vi s] [] (.tup [.raw (.slice none 0 0), vi 2]) [] := by
  have hin := s_iin s 1 4
  rw [decide_eq_false h] at hin
  refine SpecW.of_EV hf_i_CountKinds hc_i_CountKinds rfl rfl rfl fun w0 B ρ0 _ => ?_
  (repeat' (first | refine (hin).pure rfl ?_ | refine And.intro (neI rfl) ?_ | refine And.intro ⟨rfl, leR rfl, onesR rfl⟩ ?_ | refine And.intro ⟨rfl, leR rfl⟩ ?_ | refine draw_rule2 hfol (fun KK hKK => ?_) | refine hKK _ _ _ (by kernel_rfl) ?_ | refine region_rule (fun KK hKK => ?_) | refine hKK _ _ ?_ | refine And.intro (Eq.refl true) ?_ | refine Exists.intro _ (And.intro (wI (by omega)) ?_) | refine Exists.intro _ (And.intro (wU (by omega)) ?_) | refine Exists.intro _ (And.intro ⟨rfl, by omega⟩ ?_) | refine Exists.intro _ (And.intro rfl ?_) | refine And.intro rfl ?_ | refine And.intro ⟨rfl, rfl⟩ ?_ | ((refine And.intro (fun _ => ?_) (fun _ => ?_)) <;> try (exfalso; omega))))
  exact Exists.intro [] (And.intro (rfl) (And.intro trivial rfl))
theorem s_sCKE (s : Int) (h : ¬ (1 ≤ s ∧ s ≤ 4)) : Spec Try.prog n_s_CountKinds [vi s] [] (.tup [.raw (.slice none 0 0), vi 2]) [] := by
  have hin := s_in s 1 4
  rw [decide_eq_false h] at hin
  refine SpecW.of_EV hf_s_CountKinds hc_s_CountKinds rfl rfl rfl fun w0 B ρ0 _ => ?_
  (repeat' (first | refine (hin).pure rfl ?_ | refine And.intro (neI rfl) ?_ | refine And.intro ⟨rfl, leR rfl, onesR rfl⟩ ?_ | refine And.intro ⟨rfl, leR rfl⟩ ?_ | refine draw_rule2 hfol (fun KK hKK => ?_) | refine hKK _ _ _ (by kernel_rfl) ?_ | refine region_rule (fun KK hKK => ?_) | refine hKK _ _ ?_ | refine And.intro (Eq.refl true) ?_ | refine Exists.intro _ (And.intro (wI (by omega)) ?_) | refine Exists.intro _ (And.intro (wU (by omega)) ?_) | refine Exists.intro _ (And.intro ⟨rfl, by omega⟩ ?_) | refine Exists.intro _ (And.intro rfl ?_) | refine And.intro rfl ?_ | refine And.intro ⟨rfl, rfl⟩ ?_ | ((refine And.intro (fun _ => ?_) (fun _ => ?_)) <;> try (exfalso; omega))))
  exact Exists.intro [] (And.intro (rfl) (And.intro trivial rfl))
theorem s_all (n : Nat) (hn1 : 1 ≤ n) (hn : n ≤ 4) : Spec Try.prog n_s_l07All [vi n] [] (.sl 0) [rO n (fillL (2 * n) (List.replicate 8 0) 0 0)] := by
  have h := (s_fill n hn1 hn (2 * n) (List.replicate 8 0) 0 0 (by omega) (by simp) (by omega)).1
  refine SpecW.of_EV hf_s_l07All hc_s_l07All rfl rfl rfl fun w0 B ρ0 _ => ?_
  (repeat' (first | refine Exists.intro (pcl n (List.replicate 8 0)) (And.intro ⟨leR rfl, rfl⟩ ?_) | refine (h).make [] rfl trivial ?_ | refine And.intro (neI rfl) ?_ | refine And.intro ⟨rfl, leR rfl, onesR rfl⟩ ?_ | refine And.intro ⟨rfl, leR rfl⟩ ?_ | refine draw_rule2 hfol (fun KK hKK => ?_) | refine hKK _ _ _ (by kernel_rfl) ?_ | refine region_rule (fun KK hKK => ?_) | refine hKK _ _ ?_ | refine And.intro (Eq.refl true) ?_ | refine Exists.intro _ (And.intro (wI (by omega)) ?_) | refine Exists.intro _ (And.intro (wU (by omega)) ?_) | refine Exists.intro _ (And.intro ⟨rfl, by omega⟩ ?_) | refine Exists.intro _ (And.intro rfl ?_) | refine And.intro rfl ?_ | refine And.intro ⟨rfl, rfl⟩ ?_ | ((refine And.intro (fun _ => ?_) (fun _ => ?_)) <;> try (exfalso; omega))))
  exact Exists.intro [0] (And.intro (rfl) (And.intro ⟨rfl, trivial⟩ rfl))
theorem cnK_take {n : Nat} {l : List (List Nat)} {i : Nat} {m : List Nat} (h : l[i]? = some m) (j : Nat) : cnK n (l.take (i + 1)) j = cnK n (l.take i) j + cnK n [m] j := by
  rw [← cnK_append]
  congr 1
  rw [List.take_add_one, h]; rfl
theorem s_sCK (n : Nat) (hn1 : 1 ≤ n) (hn : n ≤ 4) : Spec Try.prog n_s_CountKinds [vi n] [] (.tup [.sl 0, vi 0]) [.pr T_int64 1 7 (c7 fun j => 0 + cnK n (fillL (2 * n) (List.replicate 8 0) 0 0) j)] := by
  have hfol := hfolW
  have h := s_all n hn1 hn
  have hall := FillOK.all hn1 hn (2 * n) (List.replicate 8 0) 0 0 FillOK.init (by omega)
  have hlen := fillL_len (2 * n) (List.replicate 8 0) 0 0 (by omega)
  have hin := s_in n 1 4
  rw [decide_eq_true (by omega)] at hin
  have h99 : 9 ^ (2 * n) ≤ 9 ^ 8 := Nat.pow_le_pow_right (by omega) (by omega)
  generalize fillL (2 * n) (List.replicate 8 0) 0 0 = l at h hall hlen
  have hl8 : ∀ m ∈ l, m.length = 8 := fun m hm => (hall m hm).1
  refine SpecW.of_EV hf_s_CountKinds hc_s_CountKinds rfl rfl rfl fun w0 B ρ0 _ => ?_
  (repeat' (first | refine (hin).pure rfl ?_ | refine (h).make [] rfl trivial ?_ | refine Exists.intro 7 (Exists.intro (c7 fun _ => 0) (And.intro ⟨rfl, rfl, by omega, by omega, mk_il⟩ ?_)) | refine And.intro (neI rfl) ?_ | refine And.intro ⟨rfl, leR rfl, onesR rfl⟩ ?_ | refine And.intro ⟨rfl, leR rfl⟩ ?_ | refine draw_rule2 hfol (fun KK hKK => ?_) | refine hKK _ _ _ (by kernel_rfl) ?_ | refine region_rule (fun KK hKK => ?_) | refine hKK _ _ ?_ | refine And.intro (Eq.refl true) ?_ | refine Exists.intro _ (And.intro (wI (by omega)) ?_) | refine Exists.intro _ (And.intro (wU (by omega)) ?_) | refine Exists.intro _ (And.intro ⟨rfl, by omega⟩ ?_) | refine Exists.intro _ (And.intro rfl ?_) | refine And.intro rfl ?_ | refine And.intro ⟨rfl, rfl⟩ ?_ | ((refine And.intro (fun _ => ?_) (fun _ => ?_)) <;> try (exfalso; omega))))
  refine loop_rule (α := Nat) (fun i => i ≤ l.length) (fun i => [(4, .sl 0), (5, .sl 1), (6, vi i)])
    (fun i => [rO n l, .pr T_int64 1 7 (c7 fun j => cnK n (l.take i) j)]) (fun i => l.length - i) 0 [0, 1]
    (by omega) ⟨⟨rfl, rfl, rfl, trivial⟩, ⟨rfl, rfl, trivial⟩, rfl⟩ ?_
  rintro i g hi
  by_cases h9 : i = l.length
  · subst h9
    (repeat' (first | refine And.intro (neI rfl) ?_ | refine And.intro ⟨rfl, leR rfl, onesR rfl⟩ ?_ | refine And.intro ⟨rfl, leR rfl⟩ ?_ | refine draw_rule2 hfol (fun KK hKK => ?_) | refine hKK _ _ _ (by kernel_rfl) ?_ | refine region_rule (fun KK hKK => ?_) | refine hKK _ _ ?_ | refine And.intro (Eq.refl true) ?_ | refine Exists.intro _ (And.intro (wI (by omega)) ?_) | refine Exists.intro _ (And.intro (wU (by omega)) ?_) | refine Exists.intro _ (And.intro ⟨rfl, by omega⟩ ?_) | refine Exists.intro _ (And.intro rfl ?_) | refine And.intro rfl ?_ | refine And.intro ⟨rfl, rfl⟩ ?_ | ((refine And.intro (fun _ => ?_) (fun _ => ?_)) <;> try (exfalso; omega))))
    refine Exists.intro [1] (And.intro rfl (And.intro ⟨?_, trivial⟩ rfl))
    exact congrArg some (congrArg (O.pr T_int64 1 7) (il_congr fun j hj => by
      show ((cnK n (l.take l.length) j : Nat) : Int) = ((0 + cnK n l j : Nat) : Int)
      rw [List.take_length, Nat.zero_add]))
  have hil : i < l.length := by omega
  have hm := List.getElem?_eq_getElem hil
  generalize l[i] = m at hm
  obtain ⟨hml, hmv⟩ := hall m (List.mem_of_getElem? hm)
  have hds := rPn_at (n := n) hl8 hm
  have hks := s_skinds n m hml hmv hn1 hn
  (repeat' (first | refine Exists.intro (pcl n m) (And.intro ⟨pcl_len hml, hds⟩ ?_) | refine (hks).make [] rfl trivial ?_ | refine And.intro (neI rfl) ?_ | refine And.intro ⟨rfl, leR rfl, onesR rfl⟩ ?_ | refine And.intro ⟨rfl, leR rfl⟩ ?_ | refine draw_rule2 hfol (fun KK hKK => ?_) | refine hKK _ _ _ (by kernel_rfl) ?_ | refine region_rule (fun KK hKK => ?_) | refine hKK _ _ ?_ | refine And.intro (Eq.refl true) ?_ | refine Exists.intro _ (And.intro (wI (by omega)) ?_) | refine Exists.intro _ (And.intro (wU (by omega)) ?_) | refine Exists.intro _ (And.intro ⟨rfl, by omega⟩ ?_) | refine Exists.intro _ (And.intro rfl ?_) | refine And.intro rfl ?_ | refine And.intro ⟨rfl, rfl⟩ ?_ | ((refine And.intro (fun _ => ?_) (fun _ => ?_)) <;> try (exfalso; omega))))
  refine loop_rule (α := Nat) (fun x => x ≤ 7) (fun x => [(4, .sl 0), (5, .sl 1), (6, vi i), (7, .sl 2), (8, vi x)])
    (fun x => [rO n l, .pr T_int64 1 7 (c7 (cnt1 n m (fun j => cnK n (l.take i) j) x)), .pr T_bool 1 7 (bl (KD n m) 7)]) (fun x => 7 - x) 0 [0, 1, 2]
    (by omega) ⟨⟨rfl, rfl, rfl, rfl, rfl, trivial⟩, ⟨rfl, by rw [cnt1_0]; rfl, rfl, trivial⟩, rfl⟩ ?_
  rintro x g2 hx
  by_cases h9 : x = 7
  · subst h9
    (repeat' (first | refine And.intro (neI rfl) ?_ | refine And.intro ⟨rfl, leR rfl, onesR rfl⟩ ?_ | refine And.intro ⟨rfl, leR rfl⟩ ?_ | refine draw_rule2 hfol (fun KK hKK => ?_) | refine hKK _ _ _ (by kernel_rfl) ?_ | refine region_rule (fun KK hKK => ?_) | refine hKK _ _ ?_ | refine And.intro (Eq.refl true) ?_ | refine Exists.intro _ (And.intro (wI (by omega)) ?_) | refine Exists.intro _ (And.intro (wU (by omega)) ?_) | refine Exists.intro _ (And.intro ⟨rfl, by omega⟩ ?_) | refine Exists.intro _ (And.intro rfl ?_) | refine And.intro rfl ?_ | refine And.intro ⟨rfl, rfl⟩ ?_ | ((refine And.intro (fun _ => ?_) (fun _ => ?_)) <;> try (exfalso; omega))))
    refine Exists.intro (i + 1) (Exists.intro [0, 1] (And.intro ⟨by omega, (by show l.length - (i + 1) < l.length - i; omega)⟩ ⟨⟨rfl, rfl, rfl, trivial⟩, ⟨rfl, ?_, trivial⟩, rfl⟩))
    refine congrArg some (congrArg (O.pr T_int64 1 7) (cnt1_7.trans (il_congr fun j hj => ?_)))
    show ((cnK n (l.take i) j + cnK n [m] j : Nat) : Int) = ((cnK n (l.take (i + 1)) j : Nat) : Int)
    rw [cnK_take hm]
  have hxl : x < 7 := by omega
  have hat := bl_at (g := KD n m) hxl
  cases hb : KD n m x with
  | false =>
    rw [hb] at hat
    (repeat' (first | refine Exists.intro _ (And.intro hat ?_) | refine And.intro (neI rfl) ?_ | refine And.intro ⟨rfl, leR rfl, onesR rfl⟩ ?_ | refine And.intro ⟨rfl, leR rfl⟩ ?_ | refine draw_rule2 hfol (fun KK hKK => ?_) | refine hKK _ _ _ (by kernel_rfl) ?_ | refine region_rule (fun KK hKK => ?_) | refine hKK _ _ ?_ | refine And.intro (Eq.refl true) ?_ | refine Exists.intro _ (And.intro (wI (by omega)) ?_) | refine Exists.intro _ (And.intro (wU (by omega)) ?_) | refine Exists.intro _ (And.intro ⟨rfl, by omega⟩ ?_) | refine Exists.intro _ (And.intro rfl ?_) | refine And.intro rfl ?_ | refine And.intro ⟨rfl, rfl⟩ ?_ | ((refine And.intro (fun _ => ?_) (fun _ => ?_)) <;> try (exfalso; omega))))
    refine Exists.intro (x + 1) (Exists.intro [0, 1, 2] (And.intro ⟨by omega, (by show 7 - (x + 1) < 7 - x; omega)⟩ ⟨⟨rfl, rfl, rfl, rfl, rfl, trivial⟩, ⟨rfl, congrArg some (congrArg (O.pr T_int64 1 7) (cnt1_f hb)), rfl, trivial⟩, rfl⟩))
  | true =>
    rw [hb] at hat
    have hle := cnt1_le (n := n) (m := m) (c := fun j => cnK n (l.take i) j) (x := x) (j := x)
    have hcx : cnK n (l.take i) x ≤ l.length := Nat.le_trans cnK_le (by rw [List.length_take]; omega)
    have hset := cnt1_t (c := fun j => cnK n (l.take i) j) hb
    have hat2 : (c7 (cnt1 n m (fun j => cnK n (l.take i) j) x))[x]? = some (.int .i64 ((cnt1 n m (fun j => cnK n (l.take i) j) x x : Nat) : Int)) := il_at hxl
    have e1 : IntKind.i64.wrap (((cnt1 n m (fun j => cnK n (l.take i) j) x x : Nat) : Int) + 1) = ((cnt1 n m (fun j => cnK n (l.take i) j) x x + 1 : Nat) : Int) := wC (by omega) (by omega)
    (repeat' (first | refine Exists.intro _ (And.intro hat ?_) | refine Exists.intro _ (And.intro hat2 ?_) | refine Exists.intro _ (And.intro e1 ?_) | refine Exists.intro (c7 (cnt1 n m (fun j => cnK n (l.take i) j) (x + 1))) (And.intro ⟨by rw [c7, il_len]; omega, hset⟩ ?_) | refine And.intro (neI rfl) ?_ | refine And.intro ⟨rfl, leR rfl, onesR rfl⟩ ?_ | refine And.intro ⟨rfl, leR rfl⟩ ?_ | refine draw_rule2 hfol (fun KK hKK => ?_) | refine hKK _ _ _ (by kernel_rfl) ?_ | refine region_rule (fun KK hKK => ?_) | refine hKK _ _ ?_ | refine And.intro (Eq.refl true) ?_ | refine Exists.intro _ (And.intro (wI (by omega)) ?_) | refine Exists.intro _ (And.intro (wU (by omega)) ?_) | refine Exists.intro _ (And.intro ⟨rfl, by omega⟩ ?_) | refine Exists.intro _ (And.intro rfl ?_) | refine And.intro rfl ?_ | refine And.intro ⟨rfl, rfl⟩ ?_ | ((refine And.intro (fun _ => ?_) (fun _ => ?_)) <;> try (exfalso; omega))))
    refine Exists.intro (x + 1) (Exists.intro [0, 1, 2] (And.intro ⟨by omega, (by show 7 - (x + 1) < 7 - x; omega)⟩ ⟨⟨rfl, rfl, rfl, rfl, rfl, trivial⟩, ⟨rfl, rfl, rfl, trivial⟩, rfl⟩))
theorem lawok_CountKinds (s : Int) (N : Nat) (g : Nat → Int) (c : Int) (hN : N ≤ 4000000) (hS : Spec Try.prog n_s_CountKinds [vi s] [] (.tup [.sl 0, vi c]) [.pr T_int64 1 N (il g N)]) (hI : Spec Try.prog n_i_CountKinds [vi s] [] (.tup [.sl 0, vi c]) [.pr T_int64 1 N (il g N)]) :
    Spec Try.prog n_l_FnExactCountKinds [vi s] [] (vb true) [] := by
  have he := s_eqI g N hN
  have hm1 := s_markI g N 1 hN (by omega)
  have hh1 := s_heldI N 1 hN (by omega)
  refine SpecW.of_EV hf_l_FnExactCountKinds hc_l_FnExactCountKinds rfl rfl rfl fun w0 B ρ0 _ => ?_
  (repeat' (first | refine (hS).pure rfl ?_ | refine (hS).make [] rfl trivial ?_ | refine (hI).make [] rfl trivial ?_ | refine (he).read [1,0] rfl ⟨rfl, rfl, trivial⟩ ?_ | refine (he).read [2,0] rfl ⟨rfl, rfl, trivial⟩ ?_ | refine (hm1).make [1] rfl ⟨rfl, trivial⟩ ?_ | refine (hh1).read [1] rfl ⟨rfl, trivial⟩ ?_ | refine And.intro (fun _ => ?_) (fun h => absurd rfl h) | refine And.intro (fun h => absurd rfl h) (fun _ => ?_) | refine And.intro (neI rfl) ?_ | refine And.intro ⟨rfl, leR rfl, onesR rfl⟩ ?_ | refine And.intro ⟨rfl, leR rfl⟩ ?_ | refine draw_rule2 hfol (fun KK hKK => ?_) | refine hKK _ _ _ (by kernel_rfl) ?_ | refine region_rule (fun KK hKK => ?_) | refine hKK _ _ ?_ | refine And.intro (Eq.refl true) ?_ | refine Exists.intro _ (And.intro (wI (by omega)) ?_) | refine Exists.intro _ (And.intro (wU (by omega)) ?_) | refine Exists.intro _ (And.intro ⟨rfl, by omega⟩ ?_) | refine Exists.intro _ (And.intro rfl ?_) | refine And.intro rfl ?_ | refine And.intro ⟨rfl, rfl⟩ ?_ | ((refine And.intro (fun _ => ?_) (fun _ => ?_)) <;> try (exfalso; omega))))
  exact finP rfl
theorem lawerr_CountKinds (s : Int) (c : Int) (hS : Spec Try.prog n_s_CountKinds [vi s] [] (.tup [.raw (.slice none 0 0), vi c]) []) (hI : Spec Try.prog n_i_CountKinds [vi s] [] (.tup [.raw (.slice none 0 0), vi c]) []) :
    Spec Try.prog n_l_FnExactCountKinds [vi s] [] (vb true) [] := by
  have hm1 := s_markI0 1
  have hh1 := s_heldI0 1
  refine SpecW.of_EV hf_l_FnExactCountKinds hc_l_FnExactCountKinds rfl rfl rfl fun w0 B ρ0 _ => ?_
  (repeat' (first | refine (hS).pure rfl ?_ | refine (hS).pure rfl ?_ | refine (hI).pure rfl ?_ | refine (s_eqI0).pure rfl ?_ | refine (hm1).pure rfl ?_ | refine (hh1).pure rfl ?_ | refine And.intro (fun _ => ?_) (fun h => absurd rfl h) | refine And.intro (fun h => absurd rfl h) (fun _ => ?_) | refine And.intro (neI rfl) ?_ | refine And.intro ⟨rfl, leR rfl, onesR rfl⟩ ?_ | refine And.intro ⟨rfl, leR rfl⟩ ?_ | refine draw_rule2 hfol (fun KK hKK => ?_) | refine hKK _ _ _ (by kernel_rfl) ?_ | refine region_rule (fun KK hKK => ?_) | refine hKK _ _ ?_ | refine And.intro (Eq.refl true) ?_ | refine Exists.intro _ (And.intro (wI (by omega)) ?_) | refine Exists.intro _ (And.intro (wU (by omega)) ?_) | refine Exists.intro _ (And.intro ⟨rfl, by omega⟩ ?_) | refine Exists.intro _ (And.intro rfl ?_) | refine And.intro rfl ?_ | refine And.intro ⟨rfl, rfl⟩ ?_ | ((refine And.intro (fun _ => ?_) (fun _ => ?_)) <;> try (exfalso; omega))))
  exact finP rfl

theorem s_lawCK (s : Int) (_ : -9223372036854775808 ≤ s ∧ s ≤ 9223372036854775807) : Spec Try.prog n_l_FnExactCountKinds [vi s] [] (vb true) [] := by
  by_cases h : 1 ≤ s ∧ s ≤ 4
  · obtain ⟨n, rfl⟩ : ∃ n : Nat, s = n := ⟨s.toNat, by omega⟩
    exact lawok_CountKinds n 7 _ 0 (by omega) (s_sCK n (by omega) (by omega)) (s_iCK n (by omega) (by omega))
  · exact lawerr_CountKinds s 2 (s_sCKE s h) (s_iCKE s h)
end Go.Proofs.Ytpangmameocfmaa.VE.P
