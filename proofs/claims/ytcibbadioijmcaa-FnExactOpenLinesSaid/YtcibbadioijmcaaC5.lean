/- Contracts of functions of the given program, for all arguments that the contract names; see each theorem. -/
import Derived.Test.YtcibbadioijmcaaC3
import Derived.Test.YtcibbadioijmcaaW1
set_option linter.all false
namespace Go.Proofs.Ytcibbadioijmcaa.VE
open Go
set_option maxHeartbeats 800000
set_option maxRecDepth 100000

theorem nl_il (l : List Nat) : nl l = il (fun i => ((l.getD i 0 : Nat) : Int)) l.length := by
  apply List.ext_getElem (by simp [nl, il])
  intro i h1 h2
  have h3 : i < l.length := by simpa [nl] using h1
  simp [nl, il, List.getD_eq_getElem?_getD, h3]
def opP (n : Nat) (m : List Nat) (k : Nat) : List Nat := (opL (qq n m) k).map (plc n)
theorem opP_len {n : Nat} {m : List Nat} (k : Nat) : (opP n m k).length ≤ k := by
  have := opL_len (q := qq n m) k
  simpa [opP] using this

theorem s_sOpen (s : Int) (m : List Nat) (hm : m.length = 16) (hb : ∀ x ∈ m, x < 256) (n : Nat) (hsn : s = n) (hd : IsD n m) (hv : isDi s m = true) : Spec Try.prog n_s_OpenLines [pv s m] [] (.tup [.sl 0, vi 0]) [.pr T_int64 1 (opP n m (2 * n)).length (nl (opP n m (2 * n)))] := by
  subst hsn
  have hq := s_sIs' n m hm hb
  rw [hv] at hq
  have hn := hd.n8
  have hop := s_sopen n m hd
  refine SpecW.of_EV hf_s_OpenLines hc_s_OpenLines rfl rfl rfl fun w0 B ρ0 _ => ?_
  (repeat' (first | refine (hq).pure rfl ?_ | refine (hop).pure rfl ?_ | refine Exists.intro (pcl n m) (And.intro ⟨pcl_len hm, pcl_all hm⟩ ?_) | refine And.intro ⟨bbl_len oB_len, leR rfl, bbl_ones⟩ ?_ | refine Exists.intro (bbl (oB n m (2 * n))) (And.intro ⟨leR rfl, spl0 (leR rfl)⟩ ?_) | refine And.intro (neI rfl) ?_ | refine And.intro ⟨rfl, leR rfl, onesR rfl⟩ ?_ | refine And.intro ⟨rfl, leR rfl⟩ ?_ | refine draw_rule2 hfol (fun KK hKK => ?_) | refine hKK _ _ _ (by kernel_rfl) ?_ | refine region_rule (fun KK hKK => ?_) | refine hKK _ _ ?_ | refine And.intro (Eq.refl true) ?_ | refine Exists.intro _ (And.intro (wI (by omega)) ?_) | refine Exists.intro _ (And.intro (wU (by omega)) ?_) | refine Exists.intro _ (And.intro ⟨rfl, by omega⟩ ?_) | refine Exists.intro _ (And.intro rfl ?_) | refine And.intro rfl ?_ | refine And.intro ⟨rfl, rfl⟩ ?_ | ((refine And.intro (fun _ => ?_) (fun _ => ?_)) <;> try (exfalso; omega))))
  refine loop_rule (α := Nat) (fun k => k ≤ 2 * n)
    (fun k => [(1, .ptr 0 0), (4, .ptr 1 0), (5, .sl 2), (6, vi k)]) (fun k => [.pc (pcl n m) T_i_Diagram, .pc (bbl (oB n m (2 * n))) T_a16q_bool, .pr T_int64 1 (opP n m k).length (nl (opP n m k))]) (fun k => 2 * n - k) 0 [0, 2, 1]
    (by omega) ⟨⟨rfl, rfl, rfl, rfl, trivial⟩, ⟨rfl, rfl, rfl, trivial⟩, rfl⟩ ?_
  rintro k g hk
  by_cases h9 : k = 2 * n
  · subst h9
    (repeat' (first | refine And.intro (neI rfl) ?_ | refine And.intro ⟨rfl, leR rfl, onesR rfl⟩ ?_ | refine And.intro ⟨rfl, leR rfl⟩ ?_ | refine draw_rule2 hfol (fun KK hKK => ?_) | refine hKK _ _ _ (by kernel_rfl) ?_ | refine region_rule (fun KK hKK => ?_) | refine hKK _ _ ?_ | refine And.intro (Eq.refl true) ?_ | refine Exists.intro _ (And.intro (wI (by omega)) ?_) | refine Exists.intro _ (And.intro (wU (by omega)) ?_) | refine Exists.intro _ (And.intro ⟨rfl, by omega⟩ ?_) | refine Exists.intro _ (And.intro rfl ?_) | refine And.intro rfl ?_ | refine And.intro ⟨rfl, rfl⟩ ?_ | ((refine And.intro (fun _ => ?_) (fun _ => ?_)) <;> try (exfalso; omega))))
    exact Exists.intro [2] (And.intro (rfl) (And.intro ⟨rfl, trivial⟩ rfl))
  have hkl : k < 2 * n := by omega
  have hp1 := plc_lt hkl
  have hb1 := hd.lt _ hp1
  have hpl := s_place n k (by omega) hkl
  have hpl2 : Spec Try.prog n_s_l01Place [vi n, vi (m.getD (plc n k) 0 : Nat)] [] (vi (qq n m k : Nat)) [] := s_place n (m.getD (plc n k) 0) (by omega) hb1
  have hoe := open_eq hd hp1
  rw [plc_inv hkl] at hoe
  have hlen := opP_len (n := n) (m := m) k
  have hqd : plc n (m.getD (plc n k) 0) = qq n m k := rfl
  rw [hqd] at hoe
  have hno : ∀ (h : ¬ (k < qq n m k ∧ dpt (qq n m) k = 0)), opP n m (k + 1) = opP n m k := fun h => by simp only [opP, opL, if_neg h]
  cases hok : (oB n m (2 * n)).getD (plc n k) false with
  | false =>
    have h0 : ¬ (k < qq n m k ∧ dpt (qq n m) k = 0) := fun h => by
      have := hoe.2 (by rw [Nat.min_eq_left (by omega)]; exact opL_mem.2 ⟨hkl, h⟩)
      rw [hok] at this; cases this
    have hop1 := hno h0
    (repeat' (first | refine (hpl).pure rfl ?_ | refine (hpl2).pure rfl ?_ | refine Exists.intro _ (And.intro (pcl_at (by omega)) ?_) | refine Exists.intro _ (And.intro (bbl_at (by rw [oB_len]; omega) hok) ?_) | refine And.intro (neI rfl) ?_ | refine And.intro ⟨rfl, leR rfl, onesR rfl⟩ ?_ | refine And.intro ⟨rfl, leR rfl⟩ ?_ | refine draw_rule2 hfol (fun KK hKK => ?_) | refine hKK _ _ _ (by kernel_rfl) ?_ | refine region_rule (fun KK hKK => ?_) | refine hKK _ _ ?_ | refine And.intro (Eq.refl true) ?_ | refine Exists.intro _ (And.intro (wI (by omega)) ?_) | refine Exists.intro _ (And.intro (wU (by omega)) ?_) | refine Exists.intro _ (And.intro ⟨rfl, by omega⟩ ?_) | refine Exists.intro _ (And.intro rfl ?_) | refine And.intro rfl ?_ | refine And.intro ⟨rfl, rfl⟩ ?_ | ((refine And.intro (fun _ => ?_) (fun _ => ?_)) <;> try (exfalso; omega))))
    refine Exists.intro (k + 1) (Exists.intro [0, 1, 2] (And.intro ⟨by omega, (by show 2 * n - (k + 1) < 2 * n - k; omega)⟩ ⟨⟨rfl, rfl, rfl, rfl, trivial⟩, ⟨rfl, rfl, by rw [hop1]; rfl, trivial⟩, rfl⟩))
  | true =>
    have hin := hoe.1 hok
    by_cases hop : k < qq n m k
    · rw [Nat.min_eq_left (by omega)] at hin
      have h1 := opL_mem.1 hin
      have hop1 : opP n m (k + 1) = opP n m k ++ [plc n k] := by simp only [opP, opL, if_pos h1.2, List.map_append, List.map_cons, List.map_nil]
      (repeat' (first | refine (hpl).pure rfl ?_ | refine (hpl2).pure rfl ?_ | refine Exists.intro _ (And.intro (pcl_at (by omega)) ?_) | refine Exists.intro _ (And.intro (bbl_at (by rw [oB_len]; omega) hok) ?_) | refine And.intro ⟨rfl, mkL rfl⟩ ?_ | refine Exists.intro [Value.int .i64 (plc n k : Nat)] (And.intro (row1s (mkL' rfl)) ?_) | refine Exists.intro (nl (opP n m k ++ [plc n k])) (And.intro ⟨rfl, onesR rfl, by omega, by omega, nl_push⟩ ?_) | refine And.intro (neI rfl) ?_ | refine And.intro ⟨rfl, leR rfl, onesR rfl⟩ ?_ | refine And.intro ⟨rfl, leR rfl⟩ ?_ | refine draw_rule2 hfol (fun KK hKK => ?_) | refine hKK _ _ _ (by kernel_rfl) ?_ | refine region_rule (fun KK hKK => ?_) | refine hKK _ _ ?_ | refine And.intro (Eq.refl true) ?_ | refine Exists.intro _ (And.intro (wI (by omega)) ?_) | refine Exists.intro _ (And.intro (wU (by omega)) ?_) | refine Exists.intro _ (And.intro ⟨rfl, by omega⟩ ?_) | refine Exists.intro _ (And.intro rfl ?_) | refine And.intro rfl ?_ | refine And.intro ⟨rfl, rfl⟩ ?_ | ((refine And.intro (fun _ => ?_) (fun _ => ?_)) <;> try (exfalso; omega))))
      refine Exists.intro (k + 1) (Exists.intro [0, 1, 4] (And.intro ⟨by omega, (by show 2 * n - (k + 1) < 2 * n - k; omega)⟩ ⟨⟨rfl, rfl, rfl, rfl, trivial⟩, ⟨rfl, rfl, by rw [hop1, List.length_append]; rfl, trivial⟩, rfl⟩))
    · have hop1 := hno (fun h => hop h.1)
      (repeat' (first | refine (hpl).pure rfl ?_ | refine (hpl2).pure rfl ?_ | refine Exists.intro _ (And.intro (pcl_at (by omega)) ?_) | refine Exists.intro _ (And.intro (bbl_at (by rw [oB_len]; omega) hok) ?_) | refine And.intro (neI rfl) ?_ | refine And.intro ⟨rfl, leR rfl, onesR rfl⟩ ?_ | refine And.intro ⟨rfl, leR rfl⟩ ?_ | refine draw_rule2 hfol (fun KK hKK => ?_) | refine hKK _ _ _ (by kernel_rfl) ?_ | refine region_rule (fun KK hKK => ?_) | refine hKK _ _ ?_ | refine And.intro (Eq.refl true) ?_ | refine Exists.intro _ (And.intro (wI (by omega)) ?_) | refine Exists.intro _ (And.intro (wU (by omega)) ?_) | refine Exists.intro _ (And.intro ⟨rfl, by omega⟩ ?_) | refine Exists.intro _ (And.intro rfl ?_) | refine And.intro rfl ?_ | refine And.intro ⟨rfl, rfl⟩ ?_ | ((refine And.intro (fun _ => ?_) (fun _ => ?_)) <;> try (exfalso; omega))))
      refine Exists.intro (k + 1) (Exists.intro [0, 1, 2] (And.intro ⟨by omega, (by show 2 * n - (k + 1) < 2 * n - k; omega)⟩ ⟨⟨rfl, rfl, rfl, rfl, trivial⟩, ⟨rfl, rfl, by rw [hop1]; rfl, trivial⟩, rfl⟩))

theorem s_iOpen (s : Int) (m : List Nat) (hm : m.length = 16) (hb : ∀ x ∈ m, x < 256) (n : Nat) (hsn : s = n) (hd : IsD n m) (hv : isDi s m = true) : Spec Try.prog n_i_OpenLines [pv s m] [] (.tup [.sl 0, vi 0]) [.pr T_int64 1 (opP n m (2 * n)).length (nl (opP n m (2 * n)))] := by
  subst hsn
  have hq := s_invalid1D n m hm hb
  rw [hv] at hq; simp only [Bool.not_true, cond_false] at hq
  have hn := hd.n8
  have hop : Spec Try.prog n_i_Diagram_openPlaces [.ptr 0 0] [.pc (pcl n m) T_i_Diagram] (.sl 1) [.pc (pcl n m) T_i_Diagram, .pr T_int 1 (opL (qq n m) (2 * n)).length (nl (opL (qq n m) (2 * n)))] := by
    have := s_open n m [] T_i_Diagram hd
    rwa [List.append_nil] at this
  have hol := opL_len (q := qq n m) (2 * n)
  refine SpecW.of_EV hf_i_OpenLines hc_i_OpenLines rfl rfl rfl fun w0 B ρ0 _ => ?_
  (repeat' (first | refine (hq).read [1] rfl ⟨rfl, trivial⟩ ?_ | refine (hop).make [0] rfl ⟨rfl, trivial⟩ ?_ | refine Exists.intro (pcl n m) (And.intro ⟨pcl_len hm, pcl_all hm⟩ ?_) | refine And.intro ⟨pcl_len hm, mkL rfl⟩ ?_ | refine Exists.intro (rowP [((n : Int), m)]) (And.intro (row1 (N := 17) (p := ((n : Int), m)) (mkL' rfl)) ?_) | refine And.intro (neI rfl) ?_ | refine And.intro ⟨rfl, leR rfl, onesR rfl⟩ ?_ | refine And.intro ⟨rfl, leR rfl⟩ ?_ | refine draw_rule2 hfol (fun KK hKK => ?_) | refine hKK _ _ _ (by kernel_rfl) ?_ | refine region_rule (fun KK hKK => ?_) | refine hKK _ _ ?_ | refine And.intro (Eq.refl true) ?_ | refine Exists.intro _ (And.intro (wI (by omega)) ?_) | refine Exists.intro _ (And.intro (wU (by omega)) ?_) | refine Exists.intro _ (And.intro ⟨rfl, by omega⟩ ?_) | refine Exists.intro _ (And.intro rfl ?_) | refine And.intro rfl ?_ | refine And.intro ⟨rfl, rfl⟩ ?_ | ((refine And.intro (fun _ => ?_) (fun _ => ?_)) <;> try (exfalso; omega))))
  refine loop_rule (α := Nat) (fun j => j ≤ (opL (qq n m) (2 * n)).length)
    (fun j => [(1, .ptr 0 0), (5, .sl 1), (15, .sl 2), (16, vi (opL (qq n m) (2 * n)).length), (17, vi j)])
    (fun j => [.pc (pcl n m) T_i_Diagram, .pr T_int64 1 j (nl (((opL (qq n m) (2 * n)).take j).map (plc n))), .pr T_int 1 (opL (qq n m) (2 * n)).length (nl (opL (qq n m) (2 * n)))]) (fun j => (opL (qq n m) (2 * n)).length - j) 0 [0, 2, 3]
    (by omega) ⟨⟨rfl, rfl, rfl, rfl, rfl, trivial⟩, ⟨rfl, rfl, rfl, trivial⟩, rfl⟩ ?_
  rintro j g hj
  by_cases h9 : j = (opL (qq n m) (2 * n)).length
  · subst h9
    have hlen : (opP n m (2 * n)).length = (opL (qq n m) (2 * n)).length := by simp [opP]
    (repeat' (first | refine And.intro (neI rfl) ?_ | refine And.intro ⟨rfl, leR rfl, onesR rfl⟩ ?_ | refine And.intro ⟨rfl, leR rfl⟩ ?_ | refine draw_rule2 hfol (fun KK hKK => ?_) | refine hKK _ _ _ (by kernel_rfl) ?_ | refine region_rule (fun KK hKK => ?_) | refine hKK _ _ ?_ | refine And.intro (Eq.refl true) ?_ | refine Exists.intro _ (And.intro (wI (by omega)) ?_) | refine Exists.intro _ (And.intro (wU (by omega)) ?_) | refine Exists.intro _ (And.intro ⟨rfl, by omega⟩ ?_) | refine Exists.intro _ (And.intro rfl ?_) | refine And.intro rfl ?_ | refine And.intro ⟨rfl, rfl⟩ ?_ | ((refine And.intro (fun _ => ?_) (fun _ => ?_)) <;> try (exfalso; omega))))
    exact Exists.intro [1] (And.intro rfl (And.intro ⟨by rw [List.take_of_length_le (Nat.le_refl _), hlen]; rfl, trivial⟩ rfl))
  have hjl : j < (opL (qq n m) (2 * n)).length := by omega
  have hat := nl_at hjl
  have hmem : (opL (qq n m) (2 * n)).getD j 0 ∈ opL (qq n m) (2 * n) := by
    rw [List.getD_eq_getElem?_getD, List.getElem?_eq_getElem hjl]; exact List.getElem_mem hjl
  have hlt := (opL_mem.1 hmem).1
  have hpl := s_iplace n ((opL (qq n m) (2 * n)).getD j 0) (by omega) hlt
  have htk : ((opL (qq n m) (2 * n)).take (j + 1)).map (plc n) = ((opL (qq n m) (2 * n)).take j).map (plc n) ++ [plc n ((opL (qq n m) (2 * n)).getD j 0)] := by
    rw [List.take_add_one, List.map_append, List.getElem?_eq_getElem hjl, List.getD_eq_getElem?_getD, List.getElem?_eq_getElem hjl]; rfl
  (repeat' (first | refine Exists.intro _ (And.intro hat ?_) | refine (s_n n m).read [0] rfl ⟨rfl, trivial⟩ ?_ | refine (hpl).pure rfl ?_ | refine And.intro ⟨rfl, mkL rfl⟩ ?_ | refine Exists.intro [Value.int .i64 (plc n ((opL (qq n m) (2 * n)).getD j 0) : Nat)] (And.intro (row1s (mkL' rfl)) ?_) | refine Exists.intro (nl (((opL (qq n m) (2 * n)).take (j + 1)).map (plc n))) (And.intro ⟨rfl, onesR rfl, by omega, by omega, (by rw [htk]; exact nl_push)⟩ ?_) | refine And.intro (neI rfl) ?_ | refine And.intro ⟨rfl, leR rfl, onesR rfl⟩ ?_ | refine And.intro ⟨rfl, leR rfl⟩ ?_ | refine draw_rule2 hfol (fun KK hKK => ?_) | refine hKK _ _ _ (by kernel_rfl) ?_ | refine region_rule (fun KK hKK => ?_) | refine hKK _ _ ?_ | refine And.intro (Eq.refl true) ?_ | refine Exists.intro _ (And.intro (wI (by omega)) ?_) | refine Exists.intro _ (And.intro (wU (by omega)) ?_) | refine Exists.intro _ (And.intro ⟨rfl, by omega⟩ ?_) | refine Exists.intro _ (And.intro rfl ?_) | refine And.intro rfl ?_ | refine And.intro ⟨rfl, rfl⟩ ?_ | ((refine And.intro (fun _ => ?_) (fun _ => ?_)) <;> try (exfalso; omega))))
  refine Exists.intro (j + 1) (Exists.intro [0, 4, 2] (And.intro ⟨by omega, (by show (opL (qq n m) (2 * n)).length - (j + 1) < (opL (qq n m) (2 * n)).length - j; omega)⟩ ⟨⟨rfl, rfl, rfl, rfl, rfl, trivial⟩, ⟨rfl, rfl, rfl, trivial⟩, rfl⟩))

theorem s_sOpenE (s : Int) (m : List Nat) (hm : m.length = 16) (hb : ∀ x ∈ m, x < 256) (hv : isDi s m = false) : Spec Try.prog n_s_OpenLines [pv s m] [] (.tup [.raw (.slice none 0 0), vi 1]) [] := by
  have hq := s_sIs' s m hm hb
  rw [hv] at hq
  refine SpecW.of_EV hf_s_OpenLines hc_s_OpenLines rfl rfl rfl fun w0 B ρ0 _ => ?_
  (repeat' (first | refine (hq).pure rfl ?_ | refine Exists.intro (pcl s m) (And.intro ⟨pcl_len hm, pcl_all hm⟩ ?_) | refine And.intro (neI rfl) ?_ | refine And.intro ⟨rfl, leR rfl, onesR rfl⟩ ?_ | refine And.intro ⟨rfl, leR rfl⟩ ?_ | refine draw_rule2 hfol (fun KK hKK => ?_) | refine hKK _ _ _ (by kernel_rfl) ?_ | refine region_rule (fun KK hKK => ?_) | refine hKK _ _ ?_ | refine And.intro (Eq.refl true) ?_ | refine Exists.intro _ (And.intro (wI (by omega)) ?_) | refine Exists.intro _ (And.intro (wU (by omega)) ?_) | refine Exists.intro _ (And.intro ⟨rfl, by omega⟩ ?_) | refine Exists.intro _ (And.intro rfl ?_) | refine And.intro rfl ?_ | refine And.intro ⟨rfl, rfl⟩ ?_ | ((refine And.intro (fun _ => ?_) (fun _ => ?_)) <;> try (exfalso; omega))))
  exact Exists.intro [] (And.intro (rfl) (And.intro trivial rfl))
theorem s_iOpenE (s : Int) (m : List Nat) (hm : m.length = 16) (hb : ∀ x ∈ m, x < 256) (hv : isDi s m = false) : Spec Try.prog n_i_OpenLines [pv s m] [] (.tup [.raw (.slice none 0 0), vi 1]) [] := by
  have hq := s_invalid1D s m hm hb
  rw [hv] at hq; simp only [Bool.not_false, cond_true] at hq
  refine SpecW.of_EV hf_i_OpenLines hc_i_OpenLines rfl rfl rfl fun w0 B ρ0 _ => ?_
  (repeat' (first | refine (hq).read [1] rfl ⟨rfl, trivial⟩ ?_ | refine Exists.intro (pcl s m) (And.intro ⟨pcl_len hm, pcl_all hm⟩ ?_) | refine And.intro ⟨pcl_len hm, mkL rfl⟩ ?_ | refine Exists.intro (rowP [(s, m)]) (And.intro (row1 (N := 17) (p := (s, m)) (mkL' rfl)) ?_) | refine And.intro (neI rfl) ?_ | refine And.intro ⟨rfl, leR rfl, onesR rfl⟩ ?_ | refine And.intro ⟨rfl, leR rfl⟩ ?_ | refine draw_rule2 hfol (fun KK hKK => ?_) | refine hKK _ _ _ (by kernel_rfl) ?_ | refine region_rule (fun KK hKK => ?_) | refine hKK _ _ ?_ | refine And.intro (Eq.refl true) ?_ | refine Exists.intro _ (And.intro (wI (by omega)) ?_) | refine Exists.intro _ (And.intro (wU (by omega)) ?_) | refine Exists.intro _ (And.intro ⟨rfl, by omega⟩ ?_) | refine Exists.intro _ (And.intro rfl ?_) | refine And.intro rfl ?_ | refine And.intro ⟨rfl, rfl⟩ ?_ | ((refine And.intro (fun _ => ?_) (fun _ => ?_)) <;> try (exfalso; omega))))
  exact Exists.intro [] (And.intro (rfl) (And.intro trivial rfl))
theorem lawok_OpenLines (s : Int) (m : List Nat) (hm : m.length = 16) (N : Nat) (g : Nat → Int) (c : Int) (hN : N ≤ 4000000) (hS : Spec Try.prog n_s_OpenLines [pv s m] [] (.tup [.sl 0, vi c]) [.pr T_int64 1 N (il g N)]) (hI : Spec Try.prog n_i_OpenLines [pv s m] [] (.tup [.sl 0, vi c]) [.pr T_int64 1 N (il g N)]) :
    Spec Try.prog n_l_FnExactOpenLines [pv s m] [] (vb true) [] := by
  have he := s_eqI g N hN
  have hm1 := s_markI g N 1 hN (by omega)
  have hh1 := s_heldI N 1 hN (by omega)
  refine SpecW.of_EV hf_l_FnExactOpenLines hc_l_FnExactOpenLines rfl rfl rfl fun w0 B ρ0 _ => ?_
  (repeat' (first | refine (s_toD s m hm).pure rfl ?_ | refine Exists.intro (pcl s m) (And.intro ⟨pcl_len hm, pcl_all hm⟩ ?_) | refine (hS).make [] rfl trivial ?_ | refine (hI).make [] rfl trivial ?_ | refine (he).read [2,1] rfl ⟨rfl, rfl, trivial⟩ ?_ | refine (he).read [3,1] rfl ⟨rfl, rfl, trivial⟩ ?_ | refine (hm1).make [2] rfl ⟨rfl, trivial⟩ ?_ | refine (hh1).read [2] rfl ⟨rfl, trivial⟩ ?_ | refine And.intro (fun _ => ?_) (fun h => absurd rfl h) | refine And.intro (fun h => absurd rfl h) (fun _ => ?_) | refine And.intro (neI rfl) ?_ | refine And.intro ⟨rfl, leR rfl, onesR rfl⟩ ?_ | refine And.intro ⟨rfl, leR rfl⟩ ?_ | refine draw_rule2 hfol (fun KK hKK => ?_) | refine hKK _ _ _ (by kernel_rfl) ?_ | refine region_rule (fun KK hKK => ?_) | refine hKK _ _ ?_ | refine And.intro (Eq.refl true) ?_ | refine Exists.intro _ (And.intro (wI (by omega)) ?_) | refine Exists.intro _ (And.intro (wU (by omega)) ?_) | refine Exists.intro _ (And.intro ⟨rfl, by omega⟩ ?_) | refine Exists.intro _ (And.intro rfl ?_) | refine And.intro rfl ?_ | refine And.intro ⟨rfl, rfl⟩ ?_ | ((refine And.intro (fun _ => ?_) (fun _ => ?_)) <;> try (exfalso; omega))))
  exact finP rfl
theorem lawerr_OpenLines (s : Int) (m : List Nat) (hm : m.length = 16) (c : Int) (hS : Spec Try.prog n_s_OpenLines [pv s m] [] (.tup [.raw (.slice none 0 0), vi c]) []) (hI : Spec Try.prog n_i_OpenLines [pv s m] [] (.tup [.raw (.slice none 0 0), vi c]) []) :
    Spec Try.prog n_l_FnExactOpenLines [pv s m] [] (vb true) [] := by
  have hm1 := s_markI0 1
  have hh1 := s_heldI0 1
  refine SpecW.of_EV hf_l_FnExactOpenLines hc_l_FnExactOpenLines rfl rfl rfl fun w0 B ρ0 _ => ?_
  (repeat' (first | refine (s_toD s m hm).pure rfl ?_ | refine Exists.intro (pcl s m) (And.intro ⟨pcl_len hm, pcl_all hm⟩ ?_) | refine (hS).pure rfl ?_ | refine (hI).pure rfl ?_ | refine (s_eqI0).pure rfl ?_ | refine (hm1).pure rfl ?_ | refine (hh1).pure rfl ?_ | refine And.intro (fun _ => ?_) (fun h => absurd rfl h) | refine And.intro (fun h => absurd rfl h) (fun _ => ?_) | refine And.intro (neI rfl) ?_ | refine And.intro ⟨rfl, leR rfl, onesR rfl⟩ ?_ | refine And.intro ⟨rfl, leR rfl⟩ ?_ | refine draw_rule2 hfol (fun KK hKK => ?_) | refine hKK _ _ _ (by kernel_rfl) ?_ | refine region_rule (fun KK hKK => ?_) | refine hKK _ _ ?_ | refine And.intro (Eq.refl true) ?_ | refine Exists.intro _ (And.intro (wI (by omega)) ?_) | refine Exists.intro _ (And.intro (wU (by omega)) ?_) | refine Exists.intro _ (And.intro ⟨rfl, by omega⟩ ?_) | refine Exists.intro _ (And.intro rfl ?_) | refine And.intro rfl ?_ | refine And.intro ⟨rfl, rfl⟩ ?_ | ((refine And.intro (fun _ => ?_) (fun _ => ?_)) <;> try (exfalso; omega))))
  exact finP rfl

theorem s_lawOpen (s : Int) (m : List Nat) (hm : m.length = 16) (hb : ∀ x ∈ m, x < 256) : Spec Try.prog n_l_FnExactOpenLines [pv s m] [] (vb true) [] := by
  cases hv : isDi s m with
  | false => exact lawerr_OpenLines s m hm 1 (s_sOpenE s m hm hb hv) (s_iOpenE s m hm hb hv)
  | true =>
    obtain ⟨n, hsn, hd⟩ := isDi_elim hm hv
    have hn := hd.n8
    have h1 := s_sOpen s m hm hb n hsn hd hv
    have h2 := s_iOpen s m hm hb n hsn hd hv
    have hlen := opP_len (n := n) (m := m) (2 * n)
    rw [nl_il] at h1 h2
    exact lawok_OpenLines s m hm _ _ 0 (by omega) h1 h2
end Go.Proofs.Ytcibbadioijmcaa.VE
