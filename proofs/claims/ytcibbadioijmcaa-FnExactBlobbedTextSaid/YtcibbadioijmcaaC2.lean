/- Contracts of functions of the given program, for all arguments that the contract names; see each theorem. -/
import Derived.Test.YtcibbadioijmcaaC1
import Derived.Test.YtcibbadioijmcaaU10a
set_option linter.all false
namespace Go.Proofs.Ytcibbadioijmcaa.VE
open Go
set_option maxHeartbeats 800000
set_option maxRecDepth 100000

/-! what is told of a diagram inside a greater object -/
theorem s_nG (s : Int) (m : List Nat) (r : List Value) (T : TypeId) : Spec Try.prog n_i_Diagram_n [.ptr 0 0] [.pc (pcl s m ++ r) T] (vi s) [.pc (pcl s m ++ r) T] := by
  refine SpecW.of_EV hf_i_Diagram_n hc_i_Diagram_n rfl rfl rfl fun w0 B ρ0 _ => ?_
  (repeat' (first | refine And.intro (neI rfl) ?_ | refine And.intro ⟨rfl, leR rfl, onesR rfl⟩ ?_ | refine And.intro ⟨rfl, leR rfl⟩ ?_ | refine draw_rule2 hfol (fun KK hKK => ?_) | refine hKK _ _ _ (by kernel_rfl) ?_ | refine region_rule (fun KK hKK => ?_) | refine hKK _ _ ?_ | refine And.intro (Eq.refl true) ?_ | refine Exists.intro _ (And.intro (wI (by omega)) ?_) | refine Exists.intro _ (And.intro (wU (by omega)) ?_) | refine Exists.intro _ (And.intro ⟨rfl, by omega⟩ ?_) | refine Exists.intro _ (And.intro rfl ?_) | refine And.intro rfl ?_ | refine And.intro ⟨rfl, rfl⟩ ?_ | ((refine And.intro (fun _ => ?_) (fun _ => ?_)) <;> try (exfalso; omega))))
  exact Exists.intro [0] (And.intro (rfl) (And.intro ⟨rfl, trivial⟩ rfl))
theorem pclG_at {s : Int} {m : List Nat} {r : List Value} {i : Nat} (h : i < m.length) : (pcl s m ++ r)[1 + i]? = some (.int .u8 ((m.getD i 0 : Nat) : Int)) := by
  rw [List.getElem?_append_left (by rw [pcl_len rfl]; omega)]; exact pcl_at h
theorem s_textG (n : Nat) (m : List Nat) (r : List Value) (T : TypeId) (hd : IsD n m) : Spec Try.prog n_i_Diagram_text [.ptr 0 0] [.pc (pcl n m ++ r) T] (.raw (.string (brB (qq n m) (2 * n)))) [.pc (pcl n m ++ r) T] := by
  have hm := hd.len
  have hn := hd.n8
  have hb := hd.lt
  refine SpecW.of_EV hf_i_Diagram_text hc_i_Diagram_text rfl rfl rfl fun w0 B ρ0 _ => ?_
  (repeat' (first | refine (s_nG n m r T).read [0] rfl ⟨rfl, trivial⟩ ?_ | refine And.intro (neI rfl) ?_ | refine And.intro ⟨rfl, leR rfl, onesR rfl⟩ ?_ | refine And.intro ⟨rfl, leR rfl⟩ ?_ | refine draw_rule2 hfol (fun KK hKK => ?_) | refine hKK _ _ _ (by kernel_rfl) ?_ | refine region_rule (fun KK hKK => ?_) | refine hKK _ _ ?_ | refine And.intro (Eq.refl true) ?_ | refine Exists.intro _ (And.intro (wI (by omega)) ?_) | refine Exists.intro _ (And.intro (wU (by omega)) ?_) | refine Exists.intro _ (And.intro ⟨rfl, by omega⟩ ?_) | refine Exists.intro _ (And.intro rfl ?_) | refine And.intro rfl ?_ | refine And.intro ⟨rfl, rfl⟩ ?_ | ((refine And.intro (fun _ => ?_) (fun _ => ?_)) <;> try (exfalso; omega))))
  refine loop_rule (α := Nat) (fun k => k ≤ 2 * n)
    (fun k => [(0, .ptr 0 0), (3, vi n), (4, .sl 1), (10, vi (2 * n)), (11, vi k)])
    (fun k => [.pc (pcl n m ++ r) T, .pr T_uint8 1 k (brC (qq n m) k)]) (fun k => 2 * n - k) 0 [0, 1]
    (by omega) ⟨⟨rfl, rfl, rfl, rfl, rfl, trivial⟩, ⟨rfl, rfl, trivial⟩, rfl⟩ ?_
  rintro k g hk
  by_cases h9 : k = 2 * n
  · subst h9
    (repeat' (first | refine Exists.intro (brL (qq n m) (2 * n)) (And.intro rfl ?_) | refine And.intro (neI rfl) ?_ | refine And.intro ⟨rfl, leR rfl, onesR rfl⟩ ?_ | refine And.intro ⟨rfl, leR rfl⟩ ?_ | refine draw_rule2 hfol (fun KK hKK => ?_) | refine hKK _ _ _ (by kernel_rfl) ?_ | refine region_rule (fun KK hKK => ?_) | refine hKK _ _ ?_ | refine And.intro (Eq.refl true) ?_ | refine Exists.intro _ (And.intro (wI (by omega)) ?_) | refine Exists.intro _ (And.intro (wU (by omega)) ?_) | refine Exists.intro _ (And.intro ⟨rfl, by omega⟩ ?_) | refine Exists.intro _ (And.intro rfl ?_) | refine And.intro rfl ?_ | refine And.intro ⟨rfl, rfl⟩ ?_ | ((refine And.intro (fun _ => ?_) (fun _ => ?_)) <;> try (exfalso; omega))))
    exact Exists.intro [0] (And.intro (rfl) (And.intro ⟨rfl, trivial⟩ rfl))
  have hkl : k < 2 * n := by omega
  have hp1 := plc_lt hkl
  have hb1 := hb _ hp1
  have hpl := s_iplace n k (by omega) hkl
  have hpl2 : Spec Try.prog n_i_placeOf [vi n, vi (m.getD (plc n k) 0 : Nat)] [] (vi (qq n m k : Nat)) [] := s_iplace n (m.getD (plc n k) 0) (by omega) hb1
  by_cases hop : k < qq n m k
  · (repeat' (first | refine (hpl).pure rfl ?_ | refine (hpl2).pure rfl ?_ | refine Exists.intro _ (And.intro (pclG_at (by omega)) ?_) | refine And.intro ⟨rfl, mkL rfl⟩ ?_ | refine Exists.intro [Value.int .u8 40] (And.intro (row1s (mkL' rfl)) ?_) | refine Exists.intro (brC (qq n m) (k + 1)) (And.intro ⟨rfl, onesR rfl, by omega, by omega, brC_succ1 hop⟩ ?_) | refine And.intro (neI rfl) ?_ | refine And.intro ⟨rfl, leR rfl, onesR rfl⟩ ?_ | refine And.intro ⟨rfl, leR rfl⟩ ?_ | refine draw_rule2 hfol (fun KK hKK => ?_) | refine hKK _ _ _ (by kernel_rfl) ?_ | refine region_rule (fun KK hKK => ?_) | refine hKK _ _ ?_ | refine And.intro (Eq.refl true) ?_ | refine Exists.intro _ (And.intro (wI (by omega)) ?_) | refine Exists.intro _ (And.intro (wU (by omega)) ?_) | refine Exists.intro _ (And.intro ⟨rfl, by omega⟩ ?_) | refine Exists.intro _ (And.intro rfl ?_) | refine And.intro rfl ?_ | refine And.intro ⟨rfl, rfl⟩ ?_ | ((refine And.intro (fun _ => ?_) (fun _ => ?_)) <;> try (exfalso; omega))))
    refine Exists.intro (k + 1) (Exists.intro [0, 3] (And.intro ⟨by omega, (by show 2 * n - (k + 1) < 2 * n - k; omega)⟩ ⟨⟨rfl, rfl, rfl, rfl, rfl, trivial⟩, ⟨rfl, rfl, trivial⟩, rfl⟩))
  · (repeat' (first | refine (hpl).pure rfl ?_ | refine (hpl2).pure rfl ?_ | refine Exists.intro _ (And.intro (pclG_at (by omega)) ?_) | refine And.intro ⟨rfl, mkL rfl⟩ ?_ | refine Exists.intro [Value.int .u8 41] (And.intro (row1s (mkL' rfl)) ?_) | refine Exists.intro (brC (qq n m) (k + 1)) (And.intro ⟨rfl, onesR rfl, by omega, by omega, brC_succ2 hop⟩ ?_) | refine And.intro (neI rfl) ?_ | refine And.intro ⟨rfl, leR rfl, onesR rfl⟩ ?_ | refine And.intro ⟨rfl, leR rfl⟩ ?_ | refine draw_rule2 hfol (fun KK hKK => ?_) | refine hKK _ _ _ (by kernel_rfl) ?_ | refine region_rule (fun KK hKK => ?_) | refine hKK _ _ ?_ | refine And.intro (Eq.refl true) ?_ | refine Exists.intro _ (And.intro (wI (by omega)) ?_) | refine Exists.intro _ (And.intro (wU (by omega)) ?_) | refine Exists.intro _ (And.intro ⟨rfl, by omega⟩ ?_) | refine Exists.intro _ (And.intro rfl ?_) | refine And.intro rfl ?_ | refine And.intro ⟨rfl, rfl⟩ ?_ | ((refine And.intro (fun _ => ?_) (fun _ => ?_)) <;> try (exfalso; omega))))
    refine Exists.intro (k + 1) (Exists.intro [0, 3] (And.intro ⟨by omega, (by show 2 * n - (k + 1) < 2 * n - k; omega)⟩ ⟨⟨rfl, rfl, rfl, rfl, rfl, trivial⟩, ⟨rfl, rfl, trivial⟩, rfl⟩))

/-- How deep, ahead of a place; is a line open to the left; the open ones. -/
def dpt (q : Nat → Nat) : Nat → Int
  | 0 => 0
  | k + 1 => if k < q k then dpt q k + 1 else dpt q k - 1
theorem dpt_b {q : Nat → Nat} : ∀ k : Nat, -(k : Int) ≤ dpt q k ∧ dpt q k ≤ k
  | 0 => by simp [dpt]
  | k + 1 => by have := dpt_b (q := q) k; unfold dpt; split <;> omega
def opL (q : Nat → Nat) : Nat → List Nat
  | 0 => []
  | k + 1 => if k < q k ∧ dpt q k = 0 then opL q k ++ [k] else opL q k
theorem opL_len {q : Nat → Nat} : ∀ k, (opL q k).length ≤ k
  | 0 => by simp [opL]
  | k + 1 => by have := opL_len (q := q) k; unfold opL; split <;> simp <;> omega
theorem opL_mem {q : Nat → Nat} {p : Nat} : ∀ {k}, p ∈ opL q k ↔ p < k ∧ p < q p ∧ dpt q p = 0
  | 0 => by simp [opL]
  | k + 1 => by
    unfold opL
    by_cases h : k < q k ∧ dpt q k = 0
    · rw [if_pos h, List.mem_append, opL_mem (k := k), List.mem_singleton]
      constructor
      · rintro (⟨h1, h2⟩ | rfl)
        · exact ⟨by omega, h2⟩
        · exact ⟨by omega, h⟩
      · rintro ⟨h1, h2⟩
        by_cases hp : p = k
        · exact .inr hp
        · exact .inl ⟨by omega, h2⟩
    · rw [if_neg h, opL_mem (k := k)]
      constructor
      · rintro ⟨h1, h2⟩; exact ⟨by omega, h2⟩
      · rintro ⟨h1, h2⟩
        refine ⟨?_, h2⟩
        by_cases hp : p = k
        · subst hp; exact absurd h2 h
        · omega
def nl (l : List Nat) : List Value := l.map fun x => .int .i64 ((x : Nat) : Int)
theorem nl_at {l : List Nat} {i : Nat} (h : i < l.length) : (nl l)[i]? = some (.int .i64 ((l.getD i 0 : Nat) : Int)) := by
  simp [nl, List.getD_eq_getElem?_getD, h]
theorem nl_push {l : List Nat} {x : Nat} : nl l ++ [.int .i64 ((x : Nat) : Int)] = nl (l ++ [x]) := by simp [nl]
theorem brB_get {q : Nat → Nat} {N i : Nat} (h : i < (brB q N).size) : (brB q N)[i].toNat = if i < q i then 40 else 41 := by
  have hN : (brB q N).size = N := brB_size
  have := tb_br (q := q) (N := N) (j := i) (by omega)
  rwa [tb_at h] at this

theorem s_open (n : Nat) (m : List Nat) (r : List Value) (T : TypeId) (hd : IsD n m) : Spec Try.prog n_i_Diagram_openPlaces [.ptr 0 0] [.pc (pcl n m ++ r) T] (.sl 1) [.pc (pcl n m ++ r) T, .pr T_int 1 (opL (qq n m) (2 * n)).length (nl (opL (qq n m) (2 * n)))] := by
  have hn := hd.n8
  have ht := s_textG n m r T hd
  have hsz : (brB (qq n m) (2 * n)).size = 2 * n := brB_size
  refine SpecW.of_EV hf_i_Diagram_openPlaces hc_i_Diagram_openPlaces rfl rfl rfl fun w0 B ρ0 _ => ?_
  (repeat' (first | refine (ht).read [0] rfl ⟨rfl, trivial⟩ ?_ | refine range_s rfl rfl rfl ?_ | refine And.intro (neI rfl) ?_ | refine And.intro ⟨rfl, leR rfl, onesR rfl⟩ ?_ | refine And.intro ⟨rfl, leR rfl⟩ ?_ | refine draw_rule2 hfol (fun KK hKK => ?_) | refine hKK _ _ _ (by kernel_rfl) ?_ | refine region_rule (fun KK hKK => ?_) | refine hKK _ _ ?_ | refine And.intro (Eq.refl true) ?_ | refine Exists.intro _ (And.intro (wI (by omega)) ?_) | refine Exists.intro _ (And.intro (wU (by omega)) ?_) | refine Exists.intro _ (And.intro ⟨rfl, by omega⟩ ?_) | refine Exists.intro _ (And.intro rfl ?_) | refine And.intro rfl ?_ | refine And.intro ⟨rfl, rfl⟩ ?_ | ((refine And.intro (fun _ => ?_) (fun _ => ?_)) <;> try (exfalso; omega))))
  refine loop_rule (α := Nat) (fun k => k ≤ 2 * n)
    (fun k => [(3, .sl 1), (4, vi (dpt (qq n m) k)), (10, .ptr 2 0)])
    (fun k => [.pc (pcl n m ++ r) T, .pr T_int 1 (opL (qq n m) k).length (nl (opL (qq n m) k)), .si (brB (qq n m) (2 * n)) k]) (fun k => 2 * n - k) 0 [0, 1, 2]
    (by omega) ⟨⟨rfl, rfl, rfl, trivial⟩, ⟨rfl, rfl, rfl, trivial⟩, rfl⟩ ?_
  rintro k g hk
  by_cases h9 : k = 2 * n
  · subst h9
    (repeat' (first | refine next_end rfl rfl rfl (by omega) ?_ | refine And.intro (neI rfl) ?_ | refine And.intro ⟨rfl, leR rfl, onesR rfl⟩ ?_ | refine And.intro ⟨rfl, leR rfl⟩ ?_ | refine draw_rule2 hfol (fun KK hKK => ?_) | refine hKK _ _ _ (by kernel_rfl) ?_ | refine region_rule (fun KK hKK => ?_) | refine hKK _ _ ?_ | refine And.intro (Eq.refl true) ?_ | refine Exists.intro _ (And.intro (wI (by omega)) ?_) | refine Exists.intro _ (And.intro (wU (by omega)) ?_) | refine Exists.intro _ (And.intro ⟨rfl, by omega⟩ ?_) | refine Exists.intro _ (And.intro rfl ?_) | refine And.intro rfl ?_ | refine And.intro ⟨rfl, rfl⟩ ?_ | ((refine And.intro (fun _ => ?_) (fun _ => ?_)) <;> try (exfalso; omega))))
    exact Exists.intro [0,1] (And.intro (rfl) (And.intro ⟨rfl, rfl, trivial⟩ rfl))
  have hkl : k < 2 * n := by omega
  have hks : k < (brB (qq n m) (2 * n)).size := by omega
  have hg := brB_get hks
  have hdb := dpt_b (q := qq n m) k
  have hol := opL_len (q := qq n m) k
  by_cases hop : k < qq n m k
  · rw [if_pos hop] at hg
    have hdec := decode_ascii hks (by omega)
    rw [hg] at hdec
    have hd1 : dpt (qq n m) (k + 1) = dpt (qq n m) k + 1 := by rw [dpt, if_pos hop]
    by_cases h0 : dpt (qq n m) k = 0
    · have ho1 : opL (qq n m) (k + 1) = opL (qq n m) k ++ [k] := by rw [opL, if_pos ⟨hop, h0⟩]
      (repeat' (first | refine next_s rfl rfl rfl hks hdec ?_ | refine And.intro ⟨rfl, mkL rfl⟩ ?_ | refine Exists.intro [Value.int .i64 k] (And.intro (row1s (mkL' rfl)) ?_) | refine Exists.intro (nl (opL (qq n m) k ++ [k])) (And.intro ⟨rfl, onesR rfl, by omega, by omega, nl_push⟩ ?_) | refine And.intro (neI rfl) ?_ | refine And.intro ⟨rfl, leR rfl, onesR rfl⟩ ?_ | refine And.intro ⟨rfl, leR rfl⟩ ?_ | refine draw_rule2 hfol (fun KK hKK => ?_) | refine hKK _ _ _ (by kernel_rfl) ?_ | refine region_rule (fun KK hKK => ?_) | refine hKK _ _ ?_ | refine And.intro (Eq.refl true) ?_ | refine Exists.intro _ (And.intro (wI (by omega)) ?_) | refine Exists.intro _ (And.intro (wU (by omega)) ?_) | refine Exists.intro _ (And.intro ⟨rfl, by omega⟩ ?_) | refine Exists.intro _ (And.intro rfl ?_) | refine And.intro rfl ?_ | refine And.intro ⟨rfl, rfl⟩ ?_ | ((refine And.intro (fun _ => ?_) (fun _ => ?_)) <;> try (exfalso; omega))))
      refine Exists.intro (k + 1) (Exists.intro [0, 4, 2] (And.intro ⟨by omega, (by show 2 * n - (k + 1) < 2 * n - k; omega)⟩ ⟨⟨rfl, viR hd1.symm, rfl, trivial⟩, ⟨rfl, by rw [ho1, List.length_append]; rfl, rfl, trivial⟩, rfl⟩))
    · have ho1 : opL (qq n m) (k + 1) = opL (qq n m) k := by rw [opL, if_neg (fun h => h0 h.2)]
      (repeat' (first | refine next_s rfl rfl rfl hks hdec ?_ | refine And.intro (neI rfl) ?_ | refine And.intro ⟨rfl, leR rfl, onesR rfl⟩ ?_ | refine And.intro ⟨rfl, leR rfl⟩ ?_ | refine draw_rule2 hfol (fun KK hKK => ?_) | refine hKK _ _ _ (by kernel_rfl) ?_ | refine region_rule (fun KK hKK => ?_) | refine hKK _ _ ?_ | refine And.intro (Eq.refl true) ?_ | refine Exists.intro _ (And.intro (wI (by omega)) ?_) | refine Exists.intro _ (And.intro (wU (by omega)) ?_) | refine Exists.intro _ (And.intro ⟨rfl, by omega⟩ ?_) | refine Exists.intro _ (And.intro rfl ?_) | refine And.intro rfl ?_ | refine And.intro ⟨rfl, rfl⟩ ?_ | ((refine And.intro (fun _ => ?_) (fun _ => ?_)) <;> try (exfalso; omega))))
      refine Exists.intro (k + 1) (Exists.intro [0, 1, 2] (And.intro ⟨by omega, (by show 2 * n - (k + 1) < 2 * n - k; omega)⟩ ⟨⟨rfl, viR hd1.symm, rfl, trivial⟩, ⟨rfl, by rw [ho1]; rfl, rfl, trivial⟩, rfl⟩))
  · rw [if_neg hop] at hg
    have hdec := decode_ascii hks (by omega)
    rw [hg] at hdec
    have hd1 : dpt (qq n m) (k + 1) = dpt (qq n m) k - 1 := by rw [dpt, if_neg hop]
    have ho1 : opL (qq n m) (k + 1) = opL (qq n m) k := by rw [opL, if_neg (fun h => hop h.1)]
    (repeat' (first | refine next_s rfl rfl rfl hks hdec ?_ | refine And.intro (neI rfl) ?_ | refine And.intro ⟨rfl, leR rfl, onesR rfl⟩ ?_ | refine And.intro ⟨rfl, leR rfl⟩ ?_ | refine draw_rule2 hfol (fun KK hKK => ?_) | refine hKK _ _ _ (by kernel_rfl) ?_ | refine region_rule (fun KK hKK => ?_) | refine hKK _ _ ?_ | refine And.intro (Eq.refl true) ?_ | refine Exists.intro _ (And.intro (wI (by omega)) ?_) | refine Exists.intro _ (And.intro (wU (by omega)) ?_) | refine Exists.intro _ (And.intro ⟨rfl, by omega⟩ ?_) | refine Exists.intro _ (And.intro rfl ?_) | refine And.intro rfl ?_ | refine And.intro ⟨rfl, rfl⟩ ?_ | ((refine And.intro (fun _ => ?_) (fun _ => ?_)) <;> try (exfalso; omega))))
    refine Exists.intro (k + 1) (Exists.intro [0, 1, 2] (And.intro ⟨by omega, (by show 2 * n - (k + 1) < 2 * n - k; omega)⟩ ⟨⟨rfl, viR hd1.symm, rfl, trivial⟩, ⟨rfl, by rw [ho1]; rfl, rfl, trivial⟩, rfl⟩))

/-- Open lines, point by point. -/
def oB (n : Nat) (m : List Nat) : Nat → List Bool
  | 0 => List.replicate 16 false
  | k + 1 => if k < qq n m k ∧ dpt (qq n m) k = 0 then ((oB n m k).set (plc n k) true).set (m.getD (plc n k) 0) true else oB n m k
theorem oB_len {n : Nat} {m : List Nat} : ∀ {k}, (oB n m k).length = 16
  | 0 => by simp [oB]
  | k + 1 => by unfold oB; split <;> simp [oB_len (k := k)]
theorem s_sopen (n : Nat) (m : List Nat) (hd : IsD n m) : Spec Try.prog n_s_l09Open [pv n m] [] (.raw (.agg (bbl (oB n m (2 * n))).toArray)) [] := by
  have hm := hd.len
  have hn := hd.n8
  refine SpecW.of_EV hf_s_l09Open hc_s_l09Open rfl rfl rfl fun w0 B ρ0 _ => ?_
  (repeat' (first | refine Exists.intro (bbl (List.replicate 16 false)) (And.intro ⟨leR rfl, rfl⟩ ?_) | refine And.intro (neI rfl) ?_ | refine And.intro ⟨rfl, leR rfl, onesR rfl⟩ ?_ | refine And.intro ⟨rfl, leR rfl⟩ ?_ | refine draw_rule2 hfol (fun KK hKK => ?_) | refine hKK _ _ _ (by kernel_rfl) ?_ | refine region_rule (fun KK hKK => ?_) | refine hKK _ _ ?_ | refine And.intro (Eq.refl true) ?_ | refine Exists.intro _ (And.intro (wI (by omega)) ?_) | refine Exists.intro _ (And.intro (wU (by omega)) ?_) | refine Exists.intro _ (And.intro ⟨rfl, by omega⟩ ?_) | refine Exists.intro _ (And.intro rfl ?_) | refine And.intro rfl ?_ | refine And.intro ⟨rfl, rfl⟩ ?_ | ((refine And.intro (fun _ => ?_) (fun _ => ?_)) <;> try (exfalso; omega))))
  refine loop_rule (α := Nat) (fun k => k ≤ 2 * n)
    (fun k => [(1, .ptr 0 0), (2, .ptr 1 0), (3, .ptr 2 0), (4, vi (dpt (qq n m) k)), (5, vi k)])
    (fun k => [.pc (pcl n m) T_i_Diagram, .pc (bbl (List.replicate 16 false)) T_a16q_bool, .pc (bbl (oB n m k)) T_a16q_bool]) (fun k => 2 * n - k) 0 [0, 1, 2]
    (by omega) ⟨⟨rfl, rfl, rfl, rfl, rfl, trivial⟩, ⟨rfl, rfl, rfl, trivial⟩, rfl⟩ ?_
  rintro k g hk
  by_cases h9 : k = 2 * n
  · subst h9
    (repeat' (first | refine Exists.intro (bbl (oB n m (2 * n))) (And.intro ⟨bbl_len oB_len, bbl_all oB_len⟩ ?_) | refine And.intro ⟨bbl_len oB_len, leR rfl, bbl_ones⟩ ?_ | refine Exists.intro (bbl (oB n m (2 * n))) (And.intro ⟨leR rfl, spl0 (leR rfl)⟩ ?_) | refine And.intro (neI rfl) ?_ | refine And.intro ⟨rfl, leR rfl, onesR rfl⟩ ?_ | refine And.intro ⟨rfl, leR rfl⟩ ?_ | refine draw_rule2 hfol (fun KK hKK => ?_) | refine hKK _ _ _ (by kernel_rfl) ?_ | refine region_rule (fun KK hKK => ?_) | refine hKK _ _ ?_ | refine And.intro (Eq.refl true) ?_ | refine Exists.intro _ (And.intro (wI (by omega)) ?_) | refine Exists.intro _ (And.intro (wU (by omega)) ?_) | refine Exists.intro _ (And.intro ⟨rfl, by omega⟩ ?_) | refine Exists.intro _ (And.intro rfl ?_) | refine And.intro rfl ?_ | refine And.intro ⟨rfl, rfl⟩ ?_ | ((refine And.intro (fun _ => ?_) (fun _ => ?_)) <;> try (exfalso; omega))))
    exact Exists.intro [] (And.intro (rfl) (And.intro trivial rfl))
  have hkl : k < 2 * n := by omega
  have hp1 := plc_lt hkl
  have hb1 := hd.lt _ hp1
  have hdb := dpt_b (q := qq n m) k
  have hpl := s_place n k (by omega) hkl
  have hpl2 : Spec Try.prog n_s_l01Place [vi n, vi (m.getD (plc n k) 0 : Nat)] [] (vi (qq n m k : Nat)) [] := s_place n (m.getD (plc n k) 0) (by omega) hb1
  by_cases hop : k < qq n m k
  · have hd1 : dpt (qq n m) (k + 1) = dpt (qq n m) k + 1 := by rw [dpt, if_pos hop]
    by_cases h0 : dpt (qq n m) k = 0
    · have ho1 : oB n m (k + 1) = ((oB n m k).set (plc n k) true).set (m.getD (plc n k) 0) true := by rw [oB, if_pos ⟨hop, h0⟩]
      have hl1 : ((oB n m k).set (plc n k) true).length = 16 := by rw [List.length_set]; exact oB_len
      (repeat' (first | refine (hpl).pure rfl ?_ | refine (hpl2).pure rfl ?_ | refine Exists.intro _ (And.intro (pcl_at (by omega)) ?_) | refine Exists.intro (bbl ((oB n m k).set (plc n k) true)) (And.intro ⟨by rw [bbl_len oB_len]; omega, bbl_set⟩ ?_) | refine Exists.intro (bbl (((oB n m k).set (plc n k) true).set (m.getD (plc n k) 0) true)) (And.intro ⟨by rw [bbl_len hl1]; omega, bbl_set⟩ ?_) | refine And.intro (neI rfl) ?_ | refine And.intro ⟨rfl, leR rfl, onesR rfl⟩ ?_ | refine And.intro ⟨rfl, leR rfl⟩ ?_ | refine draw_rule2 hfol (fun KK hKK => ?_) | refine hKK _ _ _ (by kernel_rfl) ?_ | refine region_rule (fun KK hKK => ?_) | refine hKK _ _ ?_ | refine And.intro (Eq.refl true) ?_ | refine Exists.intro _ (And.intro (wI (by omega)) ?_) | refine Exists.intro _ (And.intro (wU (by omega)) ?_) | refine Exists.intro _ (And.intro ⟨rfl, by omega⟩ ?_) | refine Exists.intro _ (And.intro rfl ?_) | refine And.intro rfl ?_ | refine And.intro ⟨rfl, rfl⟩ ?_ | ((refine And.intro (fun _ => ?_) (fun _ => ?_)) <;> try (exfalso; omega))))
      refine Exists.intro (k + 1) (Exists.intro [0, 1, 2] (And.intro ⟨by omega, (by show 2 * n - (k + 1) < 2 * n - k; omega)⟩ ⟨⟨rfl, rfl, rfl, viR hd1.symm, rfl, trivial⟩, ⟨rfl, rfl, by rw [ho1]; rfl, trivial⟩, rfl⟩))
    · have ho1 : oB n m (k + 1) = oB n m k := by rw [oB, if_neg (fun h => h0 h.2)]
      (repeat' (first | refine (hpl).pure rfl ?_ | refine (hpl2).pure rfl ?_ | refine Exists.intro _ (And.intro (pcl_at (by omega)) ?_) | refine And.intro (neI rfl) ?_ | refine And.intro ⟨rfl, leR rfl, onesR rfl⟩ ?_ | refine And.intro ⟨rfl, leR rfl⟩ ?_ | refine draw_rule2 hfol (fun KK hKK => ?_) | refine hKK _ _ _ (by kernel_rfl) ?_ | refine region_rule (fun KK hKK => ?_) | refine hKK _ _ ?_ | refine And.intro (Eq.refl true) ?_ | refine Exists.intro _ (And.intro (wI (by omega)) ?_) | refine Exists.intro _ (And.intro (wU (by omega)) ?_) | refine Exists.intro _ (And.intro ⟨rfl, by omega⟩ ?_) | refine Exists.intro _ (And.intro rfl ?_) | refine And.intro rfl ?_ | refine And.intro ⟨rfl, rfl⟩ ?_ | ((refine And.intro (fun _ => ?_) (fun _ => ?_)) <;> try (exfalso; omega))))
      refine Exists.intro (k + 1) (Exists.intro [0, 1, 2] (And.intro ⟨by omega, (by show 2 * n - (k + 1) < 2 * n - k; omega)⟩ ⟨⟨rfl, rfl, rfl, viR hd1.symm, rfl, trivial⟩, ⟨rfl, rfl, by rw [ho1]; rfl, trivial⟩, rfl⟩))
  · have hd1 : dpt (qq n m) (k + 1) = dpt (qq n m) k - 1 := by rw [dpt, if_neg hop]
    have ho1 : oB n m (k + 1) = oB n m k := by rw [oB, if_neg (fun h => hop h.1)]
    (repeat' (first | refine (hpl).pure rfl ?_ | refine (hpl2).pure rfl ?_ | refine Exists.intro _ (And.intro (pcl_at (by omega)) ?_) | refine And.intro (neI rfl) ?_ | refine And.intro ⟨rfl, leR rfl, onesR rfl⟩ ?_ | refine And.intro ⟨rfl, leR rfl⟩ ?_ | refine draw_rule2 hfol (fun KK hKK => ?_) | refine hKK _ _ _ (by kernel_rfl) ?_ | refine region_rule (fun KK hKK => ?_) | refine hKK _ _ ?_ | refine And.intro (Eq.refl true) ?_ | refine Exists.intro _ (And.intro (wI (by omega)) ?_) | refine Exists.intro _ (And.intro (wU (by omega)) ?_) | refine Exists.intro _ (And.intro ⟨rfl, by omega⟩ ?_) | refine Exists.intro _ (And.intro rfl ?_) | refine And.intro rfl ?_ | refine And.intro ⟨rfl, rfl⟩ ?_ | ((refine And.intro (fun _ => ?_) (fun _ => ?_)) <;> try (exfalso; omega))))
    refine Exists.intro (k + 1) (Exists.intro [0, 1, 2] (And.intro ⟨by omega, (by show 2 * n - (k + 1) < 2 * n - k; omega)⟩ ⟨⟨rfl, rfl, rfl, viR hd1.symm, rfl, trivial⟩, ⟨rfl, rfl, by rw [ho1]; rfl, trivial⟩, rfl⟩))

/-- Both tell the same. -/
theorem plc_inj {n i j : Nat} (hi : i < 2 * n) (hj : j < 2 * n) (h : plc n i = plc n j) : i = j := by rw [← plc_inv hi, ← plc_inv hj, h]
theorem oB_at {n : Nat} {m : List Nat} (hd : IsD n m) : ∀ {k}, k ≤ 2 * n → ∀ i, i < 2 * n → ((oB n m k).getD i false = true ↔ ∃ p, p < k ∧ p < qq n m p ∧ dpt (qq n m) p = 0 ∧ (plc n p = i ∨ m.getD (plc n p) 0 = i))
  | 0, _, i, hi => by
    simp only [oB, List.getD_eq_getElem?_getD, List.getElem?_replicate]
    split <;> simp
  | k + 1, hk, i, hi => by
    have hn := hd.n8
    have hp := plc_lt (n := n) (i := k) (by omega)
    have hq := hd.lt _ hp
    have ih := oB_at hd (k := k) (by omega) i hi
    unfold oB
    by_cases h : k < qq n m k ∧ dpt (qq n m) k = 0
    · rw [if_pos h, getB_set (by rw [List.length_set, oB_len]; omega), getB_set (by rw [oB_len]; omega)]
      constructor
      · intro ht
        by_cases h1 : m.getD (plc n k) 0 = i
        · exact ⟨k, by omega, h.1, h.2, .inr h1⟩
        · rw [if_neg h1] at ht
          by_cases h2 : plc n k = i
          · exact ⟨k, by omega, h.1, h.2, .inl h2⟩
          · rw [if_neg h2] at ht
            obtain ⟨p, a1, a2⟩ := ih.1 ht
            exact ⟨p, by omega, a2⟩
      · rintro ⟨p, a1, a2, a3, a4⟩
        by_cases hpk : p = k
        · subst hpk
          rcases a4 with e | e
          · rw [if_pos e]; split <;> rfl
          · rw [if_pos e]
        · have := ih.2 ⟨p, by omega, a2, a3, a4⟩
          rw [this]; split <;> simp
    · rw [if_neg h, ih]
      constructor
      · rintro ⟨p, a1, a2⟩; exact ⟨p, by omega, a2⟩
      · rintro ⟨p, a1, a2, a3, a4⟩
        by_cases hpk : p = k
        · subst hpk; exact absurd ⟨a2, a3⟩ h
        · exact ⟨p, by omega, a2, a3, a4⟩
theorem open_eq {n : Nat} {m : List Nat} (hd : IsD n m) {i : Nat} (hi : i < 2 * n) : (oB n m (2 * n)).getD i false = true ↔ min (plc n i) (plc n (m.getD i 0)) ∈ opL (qq n m) (2 * n) := by
  have hl := hd.lt i hi
  have hp := plc_lt hi
  have hpm := plc_lt hl
  have hq1 : qq n m (plc n i) = plc n (m.getD i 0) := by simp only [qq]; rw [plc_inv hi]
  have hq2 : qq n m (plc n (m.getD i 0)) = plc n i := by simp only [qq]; rw [plc_inv hl, hd.inv i hi]
  rw [oB_at hd (Nat.le_refl _) i hi, opL_mem]
  constructor
  · rintro ⟨p, a1, a2, a3, a4 | a4⟩
    · have : p = plc n i := by rw [← a4, plc_inv a1]
      subst this
      rw [hq1] at a2
      rw [Nat.min_eq_left (by omega)]
      exact ⟨a1, by rw [hq1]; exact a2, a3⟩
    · have : p = plc n (m.getD i 0) := by
        have h := plc_lt a1
        rw [← a4, hd.inv _ h, plc_inv a1]
      subst this
      rw [hq2] at a2
      rw [Nat.min_eq_right (by omega)]
      exact ⟨a1, by rw [hq2]; exact a2, a3⟩
  · rintro ⟨a1, a2, a3⟩
    rcases Nat.le_total (plc n i) (plc n (m.getD i 0)) with h | h
    · rw [Nat.min_eq_left h] at a1 a2 a3
      exact ⟨_, a1, a2, a3, .inl (plc_inv hi)⟩
    · rw [Nat.min_eq_right h] at a1 a2 a3
      exact ⟨_, a1, a2, a3, .inr (by rw [plc_inv hl]; exact hd.inv i hi)⟩
end Go.Proofs.Ytcibbadioijmcaa.VE
