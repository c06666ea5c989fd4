/- Contracts of functions of the given program, for all arguments that the contract names; see each theorem. -/
import Derived.Test.YtimigbgpldjefaaA5
set_option linter.all false
namespace Go.Proofs.Ytimigbgpldjefaa.VE
open Go
set_option maxHeartbeats 800000
set_option maxRecDepth 100000

def oS (n : Nat) (t o : Nat → Nat) : Nat → Nat → Nat
  | 0 => hhF n t o 0 0
  | 1 => hhF n t o 1 0
  | _ => hhF n t o 1 n
theorem oS_0 {n : Nat} {t o : Nat → Nat} : ml (oS n t o 0) = List.replicate 16 0 := by
  refine eq_of_getD (N := 16) ml_len (by simp) fun j hj => ?_
  rw [ml_get hj]
  show h0F t o 0 j = _
  unfold h0F
  rw [if_neg (by omega)]
  rw [List.getD_eq_getElem?_getD, List.getElem?_replicate, if_pos hj]; rfl
theorem oS_in {n : Nat} {t o : Nat → Nat} {fr : Nat} (h : fr < 2) : ml (oS n t o fr) = ml (hhF n t o fr 0) := by
  rcases fr with _ | _ | fr
  · rfl
  · rfl
  · omega
theorem oS_out {n : Nat} {t o : Nat → Nat} {fr : Nat} (h : fr < 2) : ml (hhF n t o fr n) = ml (oS n t o (fr + 1)) := by
  rcases fr with _ | _ | fr
  · exact hh_next rfl
  · rfl
  · omega
theorem h1_end {n : Nat} {t o : Nat → Nat} : ∀ j, j < 16 → (j < n → t j ≠ 124 → oS n t o 2 j = o j) ∧ (n ≤ j → j < 2 * n → t (j - n) ≠ 124 → oS n t o 2 j = n + o (j - n)) ∧ (2 * n ≤ j → oS n t o 2 j = 0) := by
  intro j hj
  show (_ → _ → h1F n t o n j = _) ∧ (_ → _ → _ → h1F n t o n j = _) ∧ (_ → h1F n t o n j = _)
  unfold h1F
  refine ⟨fun h h2 => by rw [if_pos h, if_pos h2], fun h1 h2 h3 => by rw [if_neg (by omega), if_pos ⟨by omega, h3⟩], fun h => by rw [if_neg (by omega), if_neg (by omega)]⟩
theorem two_at {bs : ByteArray} {fr : Nat} (h : fr < 2) : [Value.string bs, Value.string bs][fr]? = some (.string bs) := by
  rcases fr with _ | _ | fr
  · rfl
  · rfl
  · omega
theorem row2lS {c : List Value} {a : ByteArray} (h : c.length = 2) : 1 * 1 + 1 ≤ (c.take (0 * 1) ++ (Value.string a).cells.toList ++ c.drop (0 * 1 + 1)).length := by
  match c, h with
  | [x, y], _ => exact Nat.le_refl _
theorem row2S {c : List Value} {a b : ByteArray} (h : c.length = 2) : (c.take (0 * 1) ++ (Value.string a).cells.toList ++ c.drop (0 * 1 + 1)).take (1 * 1) ++ (Value.string b).cells.toList ++ (c.take (0 * 1) ++ (Value.string a).cells.toList ++ c.drop (0 * 1 + 1)).drop (1 * 1 + 1) = [.string a, .string b] := by
  match c, h with
  | [x, y], _ => rfl
theorem s_ofHalves (bs : ByteArray) (o : Nat → Nat) (h18 : 1 ≤ bs.size ∧ bs.size ≤ 8) (hp : phR bs = (true, [], o)) : Spec Try.prog n_i_ofHalves [.raw (.string bs), .raw (.string bs)] [] (pv bs.size (ml (hdF bs.size (tb bs) o))) [] := by
  have har := s_arcsT bs (by omega) [] o hp
  have hop := s_openP bs (by omega)
  have hO := phR_ok hp
  refine SpecW.of_EV hf_i_ofHalves hc_i_ofHalves rfl rfl rfl fun w0 B ρ0 _ => ?_
  (repeat' (first | refine Exists.intro (pcl (bs.size : Int) (List.replicate 16 0)) (And.intro ⟨leR rfl, rfl⟩ ?_) | refine Exists.intro (pcl (bs.size : Int) (List.replicate 16 0)) (And.intro ⟨rfl, rfl⟩ ?_) | refine And.intro ⟨rfl, mkL rfl⟩ ?_ | refine And.intro ⟨rfl, row2lS mk_len⟩ ?_ | refine Exists.intro [Value.string bs, Value.string bs] (And.intro (row2S mk_len) ?_) | refine And.intro (neI rfl) ?_ | refine And.intro ⟨rfl, leR rfl, onesR rfl⟩ ?_ | refine And.intro ⟨rfl, leR rfl⟩ ?_ | refine draw_rule2 hfol (fun KK hKK => ?_) | refine hKK _ _ _ (by kernel_rfl) ?_ | refine region_rule (fun KK hKK => ?_) | refine hKK _ _ ?_ | refine And.intro (Eq.refl true) ?_ | refine Exists.intro _ (And.intro (wI (by omega)) ?_) | refine Exists.intro _ (And.intro (wU (by omega)) ?_) | refine Exists.intro _ (And.intro ⟨rfl, by omega⟩ ?_) | refine Exists.intro _ (And.intro rfl ?_) | refine And.intro rfl ?_ | refine And.intro ⟨rfl, rfl⟩ ?_ | ((refine And.intro (fun _ => ?_) (fun _ => ?_)) <;> try (exfalso; omega))))
  refine loop_rule (α := Nat) (fun fr => fr ≤ 2)
    (fun fr => [(0, .raw (.string bs)), (1, .raw (.string bs)), (4, .ptr 0 0), (5, vi bs.size), (6, .ptr 1 0), (22, .sl 2), (23, vi 2), (24, vi fr)])
    (fun fr => [.pc (pcl 0 (List.replicate 16 0)) T_i_Diagram, .pc (pcl bs.size (ml (oS bs.size (tb bs) o fr))) T_i_Diagram, .pr T_string 1 2 [Value.string bs, Value.string bs]]) (fun fr => 2 - fr) 0 [0, 1, 2]
    (by omega) ⟨⟨rfl, rfl, rfl, rfl, rfl, rfl, rfl, rfl, trivial⟩, ⟨rfl, by rw [oS_0]; rfl, rfl, trivial⟩, rfl⟩ ?_
  rintro fr g hfr
  by_cases h9 : fr = 2
  · subst h9
    have hol : (opn (tb bs) bs.size).length ≤ bs.size := opn_le
    (repeat' (first | refine (hop).make [] rfl trivial ?_ | refine And.intro (neI rfl) ?_ | refine And.intro ⟨rfl, leR rfl, onesR rfl⟩ ?_ | refine And.intro ⟨rfl, leR rfl⟩ ?_ | refine draw_rule2 hfol (fun KK hKK => ?_) | refine hKK _ _ _ (by kernel_rfl) ?_ | refine region_rule (fun KK hKK => ?_) | refine hKK _ _ ?_ | refine And.intro (Eq.refl true) ?_ | refine Exists.intro _ (And.intro (wI (by omega)) ?_) | refine Exists.intro _ (And.intro (wU (by omega)) ?_) | refine Exists.intro _ (And.intro ⟨rfl, by omega⟩ ?_) | refine Exists.intro _ (And.intro rfl ?_) | refine And.intro rfl ?_ | refine And.intro ⟨rfl, rfl⟩ ?_ | ((refine And.intro (fun _ => ?_) (fun _ => ?_)) <;> try (exfalso; omega))))
    refine loop_rule (α := Nat) (fun k => k ≤ (opn (tb bs) bs.size).length)
      (fun k => [(4, .ptr 0 0), (5, vi bs.size), (6, .ptr 1 0), (13, .sl 2), (61, .sl 3), (62, vi ((opn (tb bs) bs.size).length : Nat)), (63, vi k)])
      (fun k => [.pc (pcl 0 (List.replicate 16 0)) T_i_Diagram, .pc (pcl bs.size (ml (jnF bs.size ((opn (tb bs) bs.size).take k) (oS bs.size (tb bs) o 2)))) T_i_Diagram, .pr T_int 1 (opn (tb bs) bs.size).length (ol (opn (tb bs) bs.size)), .pr T_int 1 (opn (tb bs) bs.size).length (ol (opn (tb bs) bs.size))]) (fun k => (opn (tb bs) bs.size).length - k) 0 [0, 1, 3, 4]
      (by omega) ⟨⟨rfl, rfl, rfl, rfl, rfl, rfl, rfl, trivial⟩, ⟨rfl, by rw [jn_0]; rfl, rfl, rfl, trivial⟩, rfl⟩ ?_
    rintro k g hk
    by_cases hk9 : k = (opn (tb bs) bs.size).length
    · subst hk9
      (repeat' (first | refine Exists.intro (pcl (bs.size : Int) (ml (jnF bs.size ((opn (tb bs) bs.size).take (opn (tb bs) bs.size).length) (oS bs.size (tb bs) o 2)))) (And.intro ⟨pcl_len ml_len, pcl_all ml_len⟩ ?_) | refine And.intro ⟨pcl_len ml_len, leR rfl, pcl_ones⟩ ?_ | refine Exists.intro (pcl (bs.size : Int) (ml (jnF bs.size ((opn (tb bs) bs.size).take (opn (tb bs) bs.size).length) (oS bs.size (tb bs) o 2)))) (And.intro ⟨leR rfl, spl0 (leR rfl)⟩ ?_) | refine And.intro (neI rfl) ?_ | refine And.intro ⟨rfl, leR rfl, onesR rfl⟩ ?_ | refine And.intro ⟨rfl, leR rfl⟩ ?_ | refine draw_rule2 hfol (fun KK hKK => ?_) | refine hKK _ _ _ (by kernel_rfl) ?_ | refine region_rule (fun KK hKK => ?_) | refine hKK _ _ ?_ | refine And.intro (Eq.refl true) ?_ | refine Exists.intro _ (And.intro (wI (by omega)) ?_) | refine Exists.intro _ (And.intro (wU (by omega)) ?_) | refine Exists.intro _ (And.intro ⟨rfl, by omega⟩ ?_) | refine Exists.intro _ (And.intro rfl ?_) | refine And.intro rfl ?_ | refine And.intro ⟨rfl, rfl⟩ ?_ | ((refine And.intro (fun _ => ?_) (fun _ => ?_)) <;> try (exfalso; omega))))
      exact Exists.intro [] (And.intro (by rw [jn_end (o := o) h1_end]; rfl) (And.intro trivial rfl))
    have hkl : k < (opn (tb bs) bs.size).length := by omega
    obtain ⟨x, hx⟩ : ∃ x, (opn (tb bs) bs.size)[k]? = some x := ⟨_, List.getElem?_eq_getElem hkl⟩
    have hxn := (mem_opn.1 (List.mem_of_getElem? hx)).1
    have e1 : IntKind.i64.wrap ((bs.size : Int) + (x : Int)) = ((bs.size + x : Nat) : Int) := wC (by omega) (by omega)
    have hj := s_ijoin bs.size (ml (jnF bs.size ((opn (tb bs) bs.size).take k) (oS bs.size (tb bs) o 2))) x (bs.size + x) ml_len (by omega) (by omega)
    rw [jn_set hx hxn] at hj
    (repeat' (first | refine Exists.intro _ (And.intro (ol_at hx) ?_) | refine Exists.intro _ (And.intro e1 ?_) | refine (hj).make [1] rfl ⟨rfl, trivial⟩ ?_ | refine And.intro (neI rfl) ?_ | refine And.intro ⟨rfl, leR rfl, onesR rfl⟩ ?_ | refine And.intro ⟨rfl, leR rfl⟩ ?_ | refine draw_rule2 hfol (fun KK hKK => ?_) | refine hKK _ _ _ (by kernel_rfl) ?_ | refine region_rule (fun KK hKK => ?_) | refine hKK _ _ ?_ | refine And.intro (Eq.refl true) ?_ | refine Exists.intro _ (And.intro (wI (by omega)) ?_) | refine Exists.intro _ (And.intro (wU (by omega)) ?_) | refine Exists.intro _ (And.intro ⟨rfl, by omega⟩ ?_) | refine Exists.intro _ (And.intro rfl ?_) | refine And.intro rfl ?_ | refine And.intro ⟨rfl, rfl⟩ ?_ | ((refine And.intro (fun _ => ?_) (fun _ => ?_)) <;> try (exfalso; omega))))
    refine Exists.intro (k + 1) (Exists.intro [0, 1, 2, 3] (And.intro ⟨by omega, (by show (opn (tb bs) bs.size).length - (k + 1) < (opn (tb bs) bs.size).length - k; omega)⟩ ⟨⟨rfl, rfl, rfl, rfl, rfl, rfl, rfl, trivial⟩, ⟨rfl, rfl, rfl, rfl, trivial⟩, rfl⟩))
  have hfr2 : fr < 2 := by omega
  (repeat' (first | refine Exists.intro _ (And.intro (two_at hfr2) ?_) | refine (har).make [] rfl trivial ?_ | refine And.intro (neI rfl) ?_ | refine And.intro ⟨rfl, leR rfl, onesR rfl⟩ ?_ | refine And.intro ⟨rfl, leR rfl⟩ ?_ | refine draw_rule2 hfol (fun KK hKK => ?_) | refine hKK _ _ _ (by kernel_rfl) ?_ | refine region_rule (fun KK hKK => ?_) | refine hKK _ _ ?_ | refine And.intro (Eq.refl true) ?_ | refine Exists.intro _ (And.intro (wI (by omega)) ?_) | refine Exists.intro _ (And.intro (wU (by omega)) ?_) | refine Exists.intro _ (And.intro ⟨rfl, by omega⟩ ?_) | refine Exists.intro _ (And.intro rfl ?_) | refine And.intro rfl ?_ | refine And.intro ⟨rfl, rfl⟩ ?_ | ((refine And.intro (fun _ => ?_) (fun _ => ?_)) <;> try (exfalso; omega))))
  refine loop_rule (α := Nat) (fun i => i ≤ bs.size)
    (fun i => [(0, .raw (.string bs)), (1, .raw (.string bs)), (4, .ptr 0 0), (5, vi bs.size), (6, .ptr 1 0), (22, .sl 2), (23, vi 2), (24, vi fr), (7, vi fr), (34, .sl 3), (35, vi bs.size), (36, vi i)])
    (fun i => [.pc (pcl 0 (List.replicate 16 0)) T_i_Diagram, .pc (pcl bs.size (ml (hhF bs.size (tb bs) o fr i))) T_i_Diagram, .pr T_string 1 2 [Value.string bs, Value.string bs], .pr T_int 1 bs.size (il (aI (tb bs) bs.size o) bs.size)]) (fun i => bs.size - i) 0 [0, 1, 2, 3]
    (by omega) ⟨⟨rfl, rfl, rfl, rfl, rfl, rfl, rfl, rfl, rfl, rfl, rfl, rfl, trivial⟩, ⟨rfl, by rw [← oS_in hfr2]; rfl, rfl, rfl, trivial⟩, rfl⟩ ?_
  rintro i g hi
  by_cases hi9 : i = bs.size
  · subst hi9
    (repeat' (first | refine And.intro (neI rfl) ?_ | refine And.intro ⟨rfl, leR rfl, onesR rfl⟩ ?_ | refine And.intro ⟨rfl, leR rfl⟩ ?_ | refine draw_rule2 hfol (fun KK hKK => ?_) | refine hKK _ _ _ (by kernel_rfl) ?_ | refine region_rule (fun KK hKK => ?_) | refine hKK _ _ ?_ | refine And.intro (Eq.refl true) ?_ | refine Exists.intro _ (And.intro (wI (by omega)) ?_) | refine Exists.intro _ (And.intro (wU (by omega)) ?_) | refine Exists.intro _ (And.intro ⟨rfl, by omega⟩ ?_) | refine Exists.intro _ (And.intro rfl ?_) | refine And.intro rfl ?_ | refine And.intro ⟨rfl, rfl⟩ ?_ | ((refine And.intro (fun _ => ?_) (fun _ => ?_)) <;> try (exfalso; omega))))
    refine Exists.intro (fr + 1) (Exists.intro [0, 1, 2] (And.intro ⟨by omega, (by show 2 - (fr + 1) < 2 - fr; omega)⟩ ⟨⟨rfl, rfl, rfl, rfl, rfl, rfl, rfl, rfl, trivial⟩, ⟨rfl, by rw [← oS_out hfr2]; rfl, rfl, trivial⟩, rfl⟩))
  have hil : i < bs.size := by omega
  obtain ⟨ho1, _, ho3⟩ := hO i hil
  by_cases h1 : tb bs i = 124
  · have hat : (il (aI (tb bs) bs.size o) bs.size)[i]? = some (.int .i64 (-1)) := by rw [il_at hil]; unfold aI; rw [if_pos ⟨hil, h1⟩]
    (repeat' (first | refine Exists.intro _ (And.intro hat ?_) | refine And.intro (neI rfl) ?_ | refine And.intro ⟨rfl, leR rfl, onesR rfl⟩ ?_ | refine And.intro ⟨rfl, leR rfl⟩ ?_ | refine draw_rule2 hfol (fun KK hKK => ?_) | refine hKK _ _ _ (by kernel_rfl) ?_ | refine region_rule (fun KK hKK => ?_) | refine hKK _ _ ?_ | refine And.intro (Eq.refl true) ?_ | refine Exists.intro _ (And.intro (wI (by omega)) ?_) | refine Exists.intro _ (And.intro (wU (by omega)) ?_) | refine Exists.intro _ (And.intro ⟨rfl, by omega⟩ ?_) | refine Exists.intro _ (And.intro rfl ?_) | refine And.intro rfl ?_ | refine And.intro ⟨rfl, rfl⟩ ?_ | ((refine And.intro (fun _ => ?_) (fun _ => ?_)) <;> try (exfalso; omega))))
    refine Exists.intro (i + 1) (Exists.intro [0, 1, 2, 3] (And.intro ⟨by omega, (by show bs.size - (i + 1) < bs.size - i; omega)⟩ ⟨⟨rfl, rfl, rfl, rfl, rfl, rfl, rfl, rfl, rfl, rfl, rfl, rfl, trivial⟩, ⟨rfl, by rw [← hh_skip hil h1]; rfl, rfl, rfl, trivial⟩, rfl⟩))
  · have hat : (il (aI (tb bs) bs.size o) bs.size)[i]? = some (.int .i64 ((o i : Nat) : Int)) := by rw [il_at hil]; unfold aI; rw [if_neg (fun e => h1 e.2)]
    have hfn : fr * bs.size ≤ bs.size := by
      have := Nat.mul_le_mul_right bs.size (show fr ≤ 1 by omega)
      omega
    have hs := hh_set (n := bs.size) (o := o) (show fr ≤ 1 by omega) hil h1
    have e0 : IntKind.i64.wrap ((fr : Int) * (bs.size : Int)) = ((fr * bs.size : Nat) : Int) := wC (by rw [Int.natCast_mul]) (by omega)
    generalize fr * bs.size = q at hs e0 hfn
    have e1 : IntKind.i64.wrap ((q : Int) + (i : Int)) = ((q + i : Nat) : Int) := wC (by omega) (by omega)
    have e2 : IntKind.i64.wrap ((q : Int) + ((o i : Nat) : Int)) = ((q + o i : Nat) : Int) := wC (by omega) (by omega)
    have e3 : IntKind.u8.wrap ((q + o i : Nat) : Int) = ((q + o i : Nat) : Int) := wU (by omega)
    (repeat' (first | refine Exists.intro _ (And.intro hat ?_) | refine Exists.intro _ (And.intro e0 ?_) | refine Exists.intro _ (And.intro e1 ?_) | refine Exists.intro _ (And.intro e2 ?_) | refine Exists.intro _ (And.intro e3 ?_) | refine Exists.intro (pcl bs.size (ml (hhF bs.size (tb bs) o fr (i + 1)))) (And.intro ⟨by rw [pcl_len (N := 16) (by simp [ml_len])]; omega, by rw [← hs]; exact pcl_set⟩ ?_) | refine And.intro (neI rfl) ?_ | refine And.intro ⟨rfl, leR rfl, onesR rfl⟩ ?_ | refine And.intro ⟨rfl, leR rfl⟩ ?_ | refine draw_rule2 hfol (fun KK hKK => ?_) | refine hKK _ _ _ (by kernel_rfl) ?_ | refine region_rule (fun KK hKK => ?_) | refine hKK _ _ ?_ | refine And.intro (Eq.refl true) ?_ | refine Exists.intro _ (And.intro (wI (by omega)) ?_) | refine Exists.intro _ (And.intro (wU (by omega)) ?_) | refine Exists.intro _ (And.intro ⟨rfl, by omega⟩ ?_) | refine Exists.intro _ (And.intro rfl ?_) | refine And.intro rfl ?_ | refine And.intro ⟨rfl, rfl⟩ ?_ | ((refine And.intro (fun _ => ?_) (fun _ => ?_)) <;> try (exfalso; omega))))
    refine Exists.intro (i + 1) (Exists.intro [0, 1, 2, 3] (And.intro ⟨by omega, (by show bs.size - (i + 1) < bs.size - i; omega)⟩ ⟨⟨rfl, rfl, rfl, rfl, rfl, rfl, rfl, rfl, rfl, rfl, rfl, rfl, trivial⟩, ⟨rfl, rfl, rfl, rfl, trivial⟩, rfl⟩))
end Go.Proofs.Ytimigbgpldjefaa.VE
