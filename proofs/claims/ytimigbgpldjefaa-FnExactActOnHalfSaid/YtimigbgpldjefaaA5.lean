/- Contracts of functions of the given program, for all arguments that the contract names; see each theorem. -/
import Derived.Test.YtimigbgpldjefaaA4
import Derived.Test.YtimigbgpldjefaaEd
set_option linter.all false
namespace Go.Proofs.Ytimigbgpldjefaa.VE
open Go
set_option maxHeartbeats 800000
set_option maxRecDepth 100000

theorem opn_lt {t : Nat → Nat} {k : Nat} (h : t k = 124) : (opn t (k + 1)).length = (opn t k).length + 1 := by rw [opn_t h]; simp
theorem ol_push {t : Nat → Nat} {k : Nat} (h : t k = 124) : ol (opn t k) ++ [Value.int .i64 (k : Int)] = ol (opn t (k + 1)) := by rw [opn_t h]; simp [ol]
theorem s_openP (bs : ByteArray) (hN : bs.size ≤ 1048576) : Spec Try.prog n_i_openPoints [.raw (.string bs)] [] (.sl 0) [.pr T_int 1 (opn (tb bs) bs.size).length (ol (opn (tb bs) bs.size))] := by
  refine SpecW.of_EV hf_i_openPoints hc_i_openPoints rfl rfl rfl fun w0 B ρ0 _ => ?_
  (repeat' (first | refine And.intro (neI rfl) ?_ | refine And.intro ⟨rfl, leR rfl, onesR rfl⟩ ?_ | refine And.intro ⟨rfl, leR rfl⟩ ?_ | refine draw_rule2 hfol (fun KK hKK => ?_) | refine hKK _ _ _ (by kernel_rfl) ?_ | refine region_rule (fun KK hKK => ?_) | refine hKK _ _ ?_ | refine And.intro (Eq.refl true) ?_ | refine Exists.intro _ (And.intro (wI (by omega)) ?_) | refine Exists.intro _ (And.intro (wU (by omega)) ?_) | refine Exists.intro _ (And.intro ⟨rfl, by omega⟩ ?_) | refine Exists.intro _ (And.intro rfl ?_) | refine And.intro rfl ?_ | refine And.intro ⟨rfl, rfl⟩ ?_ | ((refine And.intro (fun _ => ?_) (fun _ => ?_)) <;> try (exfalso; omega))))
  refine loop_rule (α := Nat) (fun i => i ≤ bs.size)
    (fun i => [(0, .raw (.string bs)), (3, .sl 0), (7, vi bs.size), (8, vi i)])
    (fun i => [.pr T_int 1 (opn (tb bs) i).length (ol (opn (tb bs) i))]) (fun i => bs.size - i) 0 [0] (by omega) ⟨⟨rfl, rfl, rfl, rfl, trivial⟩, ⟨rfl, trivial⟩, rfl⟩ ?_
  rintro i g hi
  by_cases h9 : i = bs.size
  · subst h9
    (repeat' (first | refine And.intro (neI rfl) ?_ | refine And.intro ⟨rfl, leR rfl, onesR rfl⟩ ?_ | refine And.intro ⟨rfl, leR rfl⟩ ?_ | refine draw_rule2 hfol (fun KK hKK => ?_) | refine hKK _ _ _ (by kernel_rfl) ?_ | refine region_rule (fun KK hKK => ?_) | refine hKK _ _ ?_ | refine And.intro (Eq.refl true) ?_ | refine Exists.intro _ (And.intro (wI (by omega)) ?_) | refine Exists.intro _ (And.intro (wU (by omega)) ?_) | refine Exists.intro _ (And.intro ⟨rfl, by omega⟩ ?_) | refine Exists.intro _ (And.intro rfl ?_) | refine And.intro rfl ?_ | refine And.intro ⟨rfl, rfl⟩ ?_ | ((refine And.intro (fun _ => ?_) (fun _ => ?_)) <;> try (exfalso; omega))))
    exact Exists.intro [0] (And.intro (rfl) (And.intro ⟨rfl, trivial⟩ rfl))
  have hil : i < bs.size := by omega
  have hol : (opn (tb bs) i).length ≤ i := opn_le
  by_cases h1 : tb bs i = 124
  · have hb := tb_eq hil h1
    (repeat' (first | refine Exists.intro i (Exists.intro bs[i] (And.intro ⟨rfl, bs_at hil⟩ ?_)) | refine And.intro ⟨rfl, mkL rfl⟩ ?_ | refine Exists.intro [Value.int .i64 (i : Int)] (And.intro (row1s (mkL' rfl)) ?_) | refine Exists.intro (ol (opn (tb bs) (i + 1))) (And.intro ⟨rfl, onesR rfl, by omega, by omega, ol_push h1⟩ ?_) | refine And.intro (neI rfl) ?_ | refine And.intro ⟨rfl, leR rfl, onesR rfl⟩ ?_ | refine And.intro ⟨rfl, leR rfl⟩ ?_ | refine draw_rule2 hfol (fun KK hKK => ?_) | refine hKK _ _ _ (by kernel_rfl) ?_ | refine region_rule (fun KK hKK => ?_) | refine hKK _ _ ?_ | refine And.intro (Eq.refl true) ?_ | refine Exists.intro _ (And.intro (wI (by omega)) ?_) | refine Exists.intro _ (And.intro (wU (by omega)) ?_) | refine Exists.intro _ (And.intro ⟨rfl, by omega⟩ ?_) | refine Exists.intro _ (And.intro rfl ?_) | refine And.intro rfl ?_ | refine And.intro ⟨rfl, rfl⟩ ?_ | ((refine And.intro (fun _ => ?_) (fun _ => ?_)) <;> try (exfalso; omega))))
    refine Exists.intro (i + 1) (Exists.intro [2] (And.intro ⟨by omega, (by show bs.size - (i + 1) < bs.size - i; omega)⟩ ⟨⟨rfl, rfl, rfl, rfl, trivial⟩, ⟨by rw [opn_lt h1]; rfl, trivial⟩, rfl⟩))
  · have hb : bs[i].toNat ≠ 124 := by rw [← tb_at hil]; exact h1
    (repeat' (first | refine Exists.intro i (Exists.intro bs[i] (And.intro ⟨rfl, bs_at hil⟩ ?_)) | refine And.intro (neI rfl) ?_ | refine And.intro ⟨rfl, leR rfl, onesR rfl⟩ ?_ | refine And.intro ⟨rfl, leR rfl⟩ ?_ | refine draw_rule2 hfol (fun KK hKK => ?_) | refine hKK _ _ _ (by kernel_rfl) ?_ | refine region_rule (fun KK hKK => ?_) | refine hKK _ _ ?_ | refine And.intro (Eq.refl true) ?_ | refine Exists.intro _ (And.intro (wI (by omega)) ?_) | refine Exists.intro _ (And.intro (wU (by omega)) ?_) | refine Exists.intro _ (And.intro ⟨rfl, by omega⟩ ?_) | refine Exists.intro _ (And.intro rfl ?_) | refine And.intro rfl ?_ | refine And.intro ⟨rfl, rfl⟩ ?_ | ((refine And.intro (fun _ => ?_) (fun _ => ?_)) <;> try (exfalso; omega))))
    refine Exists.intro (i + 1) (Exists.intro [0] (And.intro ⟨by omega, (by show bs.size - (i + 1) < bs.size - i; omega)⟩ ⟨⟨rfl, rfl, rfl, rfl, trivial⟩, ⟨by rw [opn_f h1]; rfl, trivial⟩, rfl⟩))
theorem s_l04Open (bs : ByteArray) (hN : bs.size ≤ 1048576) : Spec Try.prog n_s_l04Open [.raw (.string bs)] [] (vi ((opn (tb bs) bs.size).length : Nat)) [] := by
  refine SpecW.of_EV hf_s_l04Open hc_s_l04Open rfl rfl rfl fun w0 B ρ0 _ => ?_
  (repeat' (first | refine And.intro (neI rfl) ?_ | refine And.intro ⟨rfl, leR rfl, onesR rfl⟩ ?_ | refine And.intro ⟨rfl, leR rfl⟩ ?_ | refine draw_rule2 hfol (fun KK hKK => ?_) | refine hKK _ _ _ (by kernel_rfl) ?_ | refine region_rule (fun KK hKK => ?_) | refine hKK _ _ ?_ | refine And.intro (Eq.refl true) ?_ | refine Exists.intro _ (And.intro (wI (by omega)) ?_) | refine Exists.intro _ (And.intro (wU (by omega)) ?_) | refine Exists.intro _ (And.intro ⟨rfl, by omega⟩ ?_) | refine Exists.intro _ (And.intro rfl ?_) | refine And.intro rfl ?_ | refine And.intro ⟨rfl, rfl⟩ ?_ | ((refine And.intro (fun _ => ?_) (fun _ => ?_)) <;> try (exfalso; omega))))
  refine loop_rule (α := Nat) (fun i => i ≤ bs.size)
    (fun i => [(0, .raw (.string bs)), (3, vi ((opn (tb bs) i).length : Nat)), (4, vi i)])
    (fun i => []) (fun i => bs.size - i) 0 [] (by omega) ⟨⟨rfl, rfl, rfl, trivial⟩, trivial, rfl⟩ ?_
  rintro i g hi
  by_cases h9 : i = bs.size
  · subst h9
    (repeat' (first | refine And.intro (neI rfl) ?_ | refine And.intro ⟨rfl, leR rfl, onesR rfl⟩ ?_ | refine And.intro ⟨rfl, leR rfl⟩ ?_ | refine draw_rule2 hfol (fun KK hKK => ?_) | refine hKK _ _ _ (by kernel_rfl) ?_ | refine region_rule (fun KK hKK => ?_) | refine hKK _ _ ?_ | refine And.intro (Eq.refl true) ?_ | refine Exists.intro _ (And.intro (wI (by omega)) ?_) | refine Exists.intro _ (And.intro (wU (by omega)) ?_) | refine Exists.intro _ (And.intro ⟨rfl, by omega⟩ ?_) | refine Exists.intro _ (And.intro rfl ?_) | refine And.intro rfl ?_ | refine And.intro ⟨rfl, rfl⟩ ?_ | ((refine And.intro (fun _ => ?_) (fun _ => ?_)) <;> try (exfalso; omega))))
    exact Exists.intro [] (And.intro (rfl) (And.intro trivial rfl))
  have hil : i < bs.size := by omega
  have hol : (opn (tb bs) i).length ≤ i := opn_le
  by_cases h1 : tb bs i = 124
  · have hb := tb_eq hil h1
    have e1 : IntKind.i64.wrap (((opn (tb bs) i).length : Int) + 1) = (((opn (tb bs) (i + 1)).length : Nat) : Int) := wC (by rw [opn_lt h1]; omega) (by rw [opn_lt h1]; omega)
    (repeat' (first | refine Exists.intro i (Exists.intro bs[i] (And.intro ⟨rfl, bs_at hil⟩ ?_)) | refine Exists.intro _ (And.intro e1 ?_) | refine And.intro (neI rfl) ?_ | refine And.intro ⟨rfl, leR rfl, onesR rfl⟩ ?_ | refine And.intro ⟨rfl, leR rfl⟩ ?_ | refine draw_rule2 hfol (fun KK hKK => ?_) | refine hKK _ _ _ (by kernel_rfl) ?_ | refine region_rule (fun KK hKK => ?_) | refine hKK _ _ ?_ | refine And.intro (Eq.refl true) ?_ | refine Exists.intro _ (And.intro (wI (by omega)) ?_) | refine Exists.intro _ (And.intro (wU (by omega)) ?_) | refine Exists.intro _ (And.intro ⟨rfl, by omega⟩ ?_) | refine Exists.intro _ (And.intro rfl ?_) | refine And.intro rfl ?_ | refine And.intro ⟨rfl, rfl⟩ ?_ | ((refine And.intro (fun _ => ?_) (fun _ => ?_)) <;> try (exfalso; omega))))
    refine Exists.intro (i + 1) (Exists.intro [] (And.intro ⟨by omega, (by show bs.size - (i + 1) < bs.size - i; omega)⟩ ⟨⟨rfl, rfl, rfl, trivial⟩, trivial, rfl⟩))
  · have hb : bs[i].toNat ≠ 124 := by rw [← tb_at hil]; exact h1
    (repeat' (first | refine Exists.intro i (Exists.intro bs[i] (And.intro ⟨rfl, bs_at hil⟩ ?_)) | refine And.intro (neI rfl) ?_ | refine And.intro ⟨rfl, leR rfl, onesR rfl⟩ ?_ | refine And.intro ⟨rfl, leR rfl⟩ ?_ | refine draw_rule2 hfol (fun KK hKK => ?_) | refine hKK _ _ _ (by kernel_rfl) ?_ | refine region_rule (fun KK hKK => ?_) | refine hKK _ _ ?_ | refine And.intro (Eq.refl true) ?_ | refine Exists.intro _ (And.intro (wI (by omega)) ?_) | refine Exists.intro _ (And.intro (wU (by omega)) ?_) | refine Exists.intro _ (And.intro ⟨rfl, by omega⟩ ?_) | refine Exists.intro _ (And.intro rfl ?_) | refine And.intro rfl ?_ | refine And.intro ⟨rfl, rfl⟩ ?_ | ((refine And.intro (fun _ => ?_) (fun _ => ?_)) <;> try (exfalso; omega))))
    refine Exists.intro (i + 1) (Exists.intro [] (And.intro ⟨by omega, (by show bs.size - (i + 1) < bs.size - i; omega)⟩ ⟨⟨rfl, by rw [opn_f h1]; rfl, rfl, trivial⟩, trivial, rfl⟩))
def opU (n : Nat) (t : Nat → Nat) (k : Nat) : List Nat := (opn t k).map (n + ·)
theorem opU_push {n : Nat} {t : Nat → Nat} {k : Nat} (h : t k = 124) : ol (opU n t k) ++ [Value.int .i64 ((n + k : Nat) : Int)] = ol (opU n t (k + 1)) := by unfold opU; rw [opn_t h]; simp [ol]
theorem opU_f {n : Nat} {t : Nat → Nat} {k : Nat} (h : t k ≠ 124) : opU n t (k + 1) = opU n t k := by unfold opU; rw [opn_f h]
theorem opU_at {n : Nat} {t : Nat → Nat} {N k x : Nat} (h : (opn t N)[k]? = some x) : (opU n t N)[k]? = some (n + x) := by simp [opU, h]
theorem g1_0 {n : Nat} {o : Nat → Nat} : ml (g1F n o 0) = List.replicate 16 0 := by
  refine eq_of_getD (N := 16) ml_len (by simp) fun j hj => ?_
  rw [ml_get hj]
  unfold g1F
  rw [if_neg (by omega), if_neg (by omega)]
  rw [List.getD_eq_getElem?_getD, List.getElem?_replicate, if_pos hj]; rfl
theorem g1_end {n : Nat} {t o : Nat → Nat} (hn : n ≤ 8) : ∀ j, j < 16 → (j < n → t j ≠ 124 → g1F n o n j = o j) ∧ (n ≤ j → j < 2 * n → t (j - n) ≠ 124 → g1F n o n j = n + o (j - n)) ∧ (2 * n ≤ j → g1F n o n j = 0) := by
  intro j hj
  unfold g1F
  refine ⟨fun h _ => by rw [if_pos h], fun h1 h2 _ => by rw [if_neg (by omega), if_pos (by omega)], fun h => by rw [if_neg (by omega), if_neg (by omega)]⟩
theorem s_l04Diag (bs : ByteArray) (o : Nat → Nat) (h18 : 1 ≤ bs.size ∧ bs.size ≤ 8) (hp : phR bs = (true, [], o)) : Spec Try.prog n_s_l04Diagram [.raw (.string bs), .raw (.string bs)] [] (pv bs.size (ml (hdF bs.size (tb bs) o))) [] := by
  have har := s_larcs bs
  have hO := phR_ok hp
  have hr : arcS bs = (il (oI o) 8, true) := by unfold arcS; rw [if_pos h18, hp]; rfl
  rw [hr] at har
  refine SpecW.of_EV hf_s_l04Diagram hc_s_l04Diagram rfl rfl rfl fun w0 B ρ0 _ => ?_
  (repeat' (first | refine Exists.intro (pcl (bs.size : Int) (List.replicate 16 0)) (And.intro ⟨leR rfl, rfl⟩ ?_) | refine Exists.intro (pcl (bs.size : Int) (List.replicate 16 0)) (And.intro ⟨rfl, rfl⟩ ?_) | refine (har).pure rfl ?_ | refine Exists.intro (il (oI o) 8) (And.intro ⟨leR rfl, rfl⟩ ?_) | refine Exists.intro (il (oI o) 8) (And.intro ⟨rfl, rfl⟩ ?_) | refine And.intro (neI rfl) ?_ | refine And.intro ⟨rfl, leR rfl, onesR rfl⟩ ?_ | refine And.intro ⟨rfl, leR rfl⟩ ?_ | refine draw_rule2 hfol (fun KK hKK => ?_) | refine hKK _ _ _ (by kernel_rfl) ?_ | refine region_rule (fun KK hKK => ?_) | refine hKK _ _ ?_ | refine And.intro (Eq.refl true) ?_ | refine Exists.intro _ (And.intro (wI (by omega)) ?_) | refine Exists.intro _ (And.intro (wU (by omega)) ?_) | refine Exists.intro _ (And.intro ⟨rfl, by omega⟩ ?_) | refine Exists.intro _ (And.intro rfl ?_) | refine And.intro rfl ?_ | refine And.intro ⟨rfl, rfl⟩ ?_ | ((refine And.intro (fun _ => ?_) (fun _ => ?_)) <;> try (exfalso; omega))))
  refine loop_rule (α := Nat) (fun i => i ≤ bs.size)
    (fun i => [(4, .ptr 0 0), (6, .ptr 1 0), (5, vi bs.size), (7, .sl 2), (8, .sl 3), (9, .ptr 4 0), (11, .ptr 5 0), (13, vi i)])
    (fun i => [.pc (pcl 0 (List.replicate 16 0)) T_i_Diagram, .pc (pcl bs.size (ml (g1F bs.size o i))) T_i_Diagram, .pr T_int64 1 (opn (tb bs) i).length (ol (opn (tb bs) i)), .pr T_int64 1 (opn (tb bs) i).length (ol (opU bs.size (tb bs) i)), .pc (il (oI o) 8) T_a8q_int64, .pc (il (oI o) 8) T_a8q_int64]) (fun i => bs.size - i) 0 [0, 3, 1, 2, 4, 5]
    (by omega) ⟨⟨rfl, rfl, rfl, rfl, rfl, rfl, rfl, rfl, trivial⟩, ⟨rfl, by rw [g1_0]; rfl, rfl, rfl, rfl, rfl, trivial⟩, rfl⟩ ?_
  rintro i g hi
  by_cases h9 : i = bs.size
  · subst h9
    (repeat' (first | refine And.intro (neI rfl) ?_ | refine And.intro ⟨rfl, leR rfl, onesR rfl⟩ ?_ | refine And.intro ⟨rfl, leR rfl⟩ ?_ | refine draw_rule2 hfol (fun KK hKK => ?_) | refine hKK _ _ _ (by kernel_rfl) ?_ | refine region_rule (fun KK hKK => ?_) | refine hKK _ _ ?_ | refine And.intro (Eq.refl true) ?_ | refine Exists.intro _ (And.intro (wI (by omega)) ?_) | refine Exists.intro _ (And.intro (wU (by omega)) ?_) | refine Exists.intro _ (And.intro ⟨rfl, by omega⟩ ?_) | refine Exists.intro _ (And.intro rfl ?_) | refine And.intro rfl ?_ | refine And.intro ⟨rfl, rfl⟩ ?_ | ((refine And.intro (fun _ => ?_) (fun _ => ?_)) <;> try (exfalso; omega))))
    have hol : (opn (tb bs) bs.size).length ≤ bs.size := opn_le
    refine loop_rule (α := Nat) (fun k => k ≤ (opn (tb bs) bs.size).length)
      (fun k => [(4, .ptr 0 0), (6, .ptr 1 0), (7, .sl 2), (8, .sl 3), (14, vi k)])
      (fun k => [.pc (pcl 0 (List.replicate 16 0)) T_i_Diagram, .pc (pcl bs.size (ml (jnF bs.size ((opn (tb bs) bs.size).take k) (g1F bs.size o bs.size)))) T_i_Diagram, .pr T_int64 1 (opn (tb bs) bs.size).length (ol (opn (tb bs) bs.size)), .pr T_int64 1 (opn (tb bs) bs.size).length (ol (opU bs.size (tb bs) bs.size))]) (fun k => (opn (tb bs) bs.size).length - k) 0 [0, 1, 2, 3]
      (by omega) ⟨⟨rfl, rfl, rfl, rfl, rfl, trivial⟩, ⟨rfl, by rw [jn_0]; rfl, rfl, rfl, trivial⟩, rfl⟩ ?_
    rintro k g hk
    by_cases hk9 : k = (opn (tb bs) bs.size).length
    · subst hk9
      (repeat' (first | refine Exists.intro (pcl (bs.size : Int) (ml (jnF bs.size ((opn (tb bs) bs.size).take (opn (tb bs) bs.size).length) (g1F bs.size o bs.size)))) (And.intro ⟨pcl_len ml_len, pcl_all ml_len⟩ ?_) | refine And.intro ⟨pcl_len ml_len, leR rfl, pcl_ones⟩ ?_ | refine Exists.intro (pcl (bs.size : Int) (ml (jnF bs.size ((opn (tb bs) bs.size).take (opn (tb bs) bs.size).length) (g1F bs.size o bs.size)))) (And.intro ⟨leR rfl, spl0 (leR rfl)⟩ ?_) | refine And.intro (neI rfl) ?_ | refine And.intro ⟨rfl, leR rfl, onesR rfl⟩ ?_ | refine And.intro ⟨rfl, leR rfl⟩ ?_ | refine draw_rule2 hfol (fun KK hKK => ?_) | refine hKK _ _ _ (by kernel_rfl) ?_ | refine region_rule (fun KK hKK => ?_) | refine hKK _ _ ?_ | refine And.intro (Eq.refl true) ?_ | refine Exists.intro _ (And.intro (wI (by omega)) ?_) | refine Exists.intro _ (And.intro (wU (by omega)) ?_) | refine Exists.intro _ (And.intro ⟨rfl, by omega⟩ ?_) | refine Exists.intro _ (And.intro rfl ?_) | refine And.intro rfl ?_ | refine And.intro ⟨rfl, rfl⟩ ?_ | ((refine And.intro (fun _ => ?_) (fun _ => ?_)) <;> try (exfalso; omega))))
      exact Exists.intro [] (And.intro (by rw [jn_end (o := o) (g1_end h18.2)]; rfl) (And.intro trivial rfl))
    have hkl : k < (opn (tb bs) bs.size).length := by omega
    obtain ⟨x, hx⟩ : ∃ x, (opn (tb bs) bs.size)[k]? = some x := ⟨_, List.getElem?_eq_getElem hkl⟩
    have hxn := (mem_opn.1 (List.mem_of_getElem? hx)).1
    have e1 : IntKind.u8.wrap ((bs.size + x : Nat) : Int) = ((bs.size + x : Nat) : Int) := wU (by omega)
    have e2 : IntKind.u8.wrap (x : Int) = ((x : Nat) : Int) := wU (by omega)
    have hjn := jn_set (f := g1F bs.size o bs.size) hx hxn
    (repeat' (first | refine Exists.intro _ (And.intro (ol_at hx) ?_) | refine Exists.intro _ (And.intro (ol_at (opU_at hx)) ?_) | refine Exists.intro _ (And.intro e1 ?_) | refine Exists.intro _ (And.intro e2 ?_) | refine Exists.intro (pcl bs.size ((ml (jnF bs.size ((opn (tb bs) bs.size).take k) (g1F bs.size o bs.size))).set x (bs.size + x))) (And.intro ⟨by rw [pcl_len ml_len]; omega, pcl_set⟩ ?_) | refine Exists.intro (pcl bs.size (ml (jnF bs.size ((opn (tb bs) bs.size).take (k + 1)) (g1F bs.size o bs.size)))) (And.intro ⟨by rw [pcl_len (N := 16) (by simp [ml_len])]; omega, by rw [← hjn]; exact pcl_set⟩ ?_) | refine And.intro (neI rfl) ?_ | refine And.intro ⟨rfl, leR rfl, onesR rfl⟩ ?_ | refine And.intro ⟨rfl, leR rfl⟩ ?_ | refine draw_rule2 hfol (fun KK hKK => ?_) | refine hKK _ _ _ (by kernel_rfl) ?_ | refine region_rule (fun KK hKK => ?_) | refine hKK _ _ ?_ | refine And.intro (Eq.refl true) ?_ | refine Exists.intro _ (And.intro (wI (by omega)) ?_) | refine Exists.intro _ (And.intro (wU (by omega)) ?_) | refine Exists.intro _ (And.intro ⟨rfl, by omega⟩ ?_) | refine Exists.intro _ (And.intro rfl ?_) | refine And.intro rfl ?_ | refine And.intro ⟨rfl, rfl⟩ ?_ | ((refine And.intro (fun _ => ?_) (fun _ => ?_)) <;> try (exfalso; omega))))
    refine Exists.intro (k + 1) (Exists.intro [0, 1, 2, 3] (And.intro ⟨by omega, (by show (opn (tb bs) bs.size).length - (k + 1) < (opn (tb bs) bs.size).length - k; omega)⟩ ⟨⟨rfl, rfl, rfl, rfl, rfl, trivial⟩, ⟨rfl, rfl, rfl, rfl, trivial⟩, rfl⟩))
  have hil : i < bs.size := by omega
  have hol : (opn (tb bs) i).length ≤ i := opn_le
  obtain ⟨ho1, _, ho3⟩ := hO i hil
  have e0 : IntKind.i64.wrap ((bs.size : Int) + (i : Int)) = ((bs.size + i : Nat) : Int) := wC (by omega) (by omega)
  have e1 : IntKind.i64.wrap ((bs.size : Int) + ((o i : Nat) : Int)) = ((bs.size + o i : Nat) : Int) := wC (by omega) (by omega)
  have e2 : IntKind.u8.wrap ((bs.size + o i : Nat) : Int) = ((bs.size + o i : Nat) : Int) := wU (by omega)
  have e3 : IntKind.u8.wrap ((o i : Nat) : Int) = ((o i : Nat) : Int) := wU (by omega)
  have hat : (il (oI o) 8)[i]? = some (.int .i64 ((o i : Nat) : Int)) := il_at (by omega)
  have hg1 := g1_set (o := o) hil
  by_cases h1 : tb bs i = 124
  · have h2 := ho3.2 h1
    have h3 : ((o i : Nat) : Int) = (i : Int) := by omega
    (repeat' (first | refine Exists.intro _ (And.intro hat ?_) | refine Exists.intro _ (And.intro e0 ?_) | refine Exists.intro _ (And.intro e1 ?_) | refine Exists.intro _ (And.intro e2 ?_) | refine Exists.intro _ (And.intro e3 ?_) | refine Exists.intro (pcl (bs.size : Int) ((ml (g1F bs.size o i)).set i (o i))) (And.intro ⟨by rw [pcl_len ml_len]; omega, pcl_set⟩ ?_) | refine Exists.intro (pcl bs.size (ml (g1F bs.size o (i + 1)))) (And.intro ⟨by rw [pcl_len (N := 16) (by simp [ml_len])]; omega, by rw [← hg1]; exact pcl_set⟩ ?_) | refine And.intro ⟨rfl, mkL rfl⟩ ?_ | refine Exists.intro [Value.int .i64 (i : Int)] (And.intro (row1s (mkL' rfl)) ?_) | refine Exists.intro (ol (opn (tb bs) (i + 1))) (And.intro ⟨rfl, onesR rfl, by omega, by omega, ol_push h1⟩ ?_) | refine And.intro ⟨rfl, mkL rfl⟩ ?_ | refine Exists.intro [Value.int .i64 ((bs.size + i : Nat) : Int)] (And.intro (row1s (mkL' rfl)) ?_) | refine Exists.intro (ol (opU bs.size (tb bs) (i + 1))) (And.intro ⟨rfl, onesR rfl, by omega, by omega, opU_push h1⟩ ?_) | refine And.intro (neI rfl) ?_ | refine And.intro ⟨rfl, leR rfl, onesR rfl⟩ ?_ | refine And.intro ⟨rfl, leR rfl⟩ ?_ | refine draw_rule2 hfol (fun KK hKK => ?_) | refine hKK _ _ _ (by kernel_rfl) ?_ | refine region_rule (fun KK hKK => ?_) | refine hKK _ _ ?_ | refine And.intro (Eq.refl true) ?_ | refine Exists.intro _ (And.intro (wI (by omega)) ?_) | refine Exists.intro _ (And.intro (wU (by omega)) ?_) | refine Exists.intro _ (And.intro ⟨rfl, by omega⟩ ?_) | refine Exists.intro _ (And.intro rfl ?_) | refine And.intro rfl ?_ | refine And.intro ⟨rfl, rfl⟩ ?_ | ((refine And.intro (fun _ => ?_) (fun _ => ?_)) <;> try (exfalso; omega))))
    refine Exists.intro (i + 1) (Exists.intro [0, 1, 7, 9, 4, 5] (And.intro ⟨by omega, (by show bs.size - (i + 1) < bs.size - i; omega)⟩ ⟨⟨rfl, rfl, rfl, rfl, rfl, rfl, rfl, rfl, trivial⟩, ⟨rfl, rfl, by rw [opn_lt h1]; rfl, by rw [opn_lt h1]; rfl, rfl, rfl, trivial⟩, rfl⟩))
  · have h2 : ((o i : Nat) : Int) ≠ (i : Int) := by have := mt ho3.1 h1; omega
    (repeat' (first | refine Exists.intro _ (And.intro hat ?_) | refine Exists.intro _ (And.intro e0 ?_) | refine Exists.intro _ (And.intro e1 ?_) | refine Exists.intro _ (And.intro e2 ?_) | refine Exists.intro _ (And.intro e3 ?_) | refine Exists.intro (pcl (bs.size : Int) ((ml (g1F bs.size o i)).set i (o i))) (And.intro ⟨by rw [pcl_len ml_len]; omega, pcl_set⟩ ?_) | refine Exists.intro (pcl bs.size (ml (g1F bs.size o (i + 1)))) (And.intro ⟨by rw [pcl_len (N := 16) (by simp [ml_len])]; omega, by rw [← hg1]; exact pcl_set⟩ ?_) | refine And.intro (neI rfl) ?_ | refine And.intro ⟨rfl, leR rfl, onesR rfl⟩ ?_ | refine And.intro ⟨rfl, leR rfl⟩ ?_ | refine draw_rule2 hfol (fun KK hKK => ?_) | refine hKK _ _ _ (by kernel_rfl) ?_ | refine region_rule (fun KK hKK => ?_) | refine hKK _ _ ?_ | refine And.intro (Eq.refl true) ?_ | refine Exists.intro _ (And.intro (wI (by omega)) ?_) | refine Exists.intro _ (And.intro (wU (by omega)) ?_) | refine Exists.intro _ (And.intro ⟨rfl, by omega⟩ ?_) | refine Exists.intro _ (And.intro rfl ?_) | refine And.intro rfl ?_ | refine And.intro ⟨rfl, rfl⟩ ?_ | ((refine And.intro (fun _ => ?_) (fun _ => ?_)) <;> try (exfalso; omega))))
    refine Exists.intro (i + 1) (Exists.intro [0, 1, 2, 3, 4, 5] (And.intro ⟨by omega, (by show bs.size - (i + 1) < bs.size - i; omega)⟩ ⟨⟨rfl, rfl, rfl, rfl, rfl, rfl, rfl, rfl, trivial⟩, ⟨rfl, rfl, by rw [opn_f h1]; rfl, by rw [opn_f h1, opU_f h1]; rfl, rfl, rfl, trivial⟩, rfl⟩))
end Go.Proofs.Ytimigbgpldjefaa.VE
