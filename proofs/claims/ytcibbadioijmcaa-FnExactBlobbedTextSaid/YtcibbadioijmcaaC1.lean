/- Contracts of functions of the given program, for all arguments that the contract names; see each theorem. -/
import Derived.Test.YtcibbadioijmcaaU9
import Derived.Test.YtcibbadioijmcaaB1
import Derived.Test.YtcibbadioijmcaaEd
set_option linter.all false
namespace Go.Proofs.Ytcibbadioijmcaa.VE
open Go
set_option maxHeartbeats 800000
set_option maxRecDepth 100000

/-! a diagram with blobs -/
def bcB (s : Int) (m : List Nat) (bs : List Bool) : List Value := pcl s m ++ bbl bs
abbrev bV (s : Int) (m : List Nat) (bs : List Bool) : V := .raw (.agg (bcB s m bs).toArray)
section
variable {s : Int} {m : List Nat} {bs : List Bool} (hm : m.length = 16) (hb : bs.length = 16)
include hm hb
theorem bcB_len : (bcB s m bs).length = 33 := by simp [bcB, pcl_len hm, bbl_len hb]
theorem bcB_all : ((bcB s m bs).drop 0).take 33 = bcB s m bs := by
  rw [List.drop_zero, List.take_of_length_le (by rw [bcB_len hm hb]; exact Nat.le_refl _)]
theorem bcB_dia : ((bcB s m bs).drop 0).take 17 = pcl s m := by
  rw [List.drop_zero, bcB, List.take_append_of_le_length (by rw [pcl_len hm]; exact Nat.le_refl _), List.take_of_length_le (by rw [pcl_len hm]; exact Nat.le_refl _)]
theorem bcB_blo : ((bcB s m bs).drop 17).take 16 = bbl bs := by
  rw [bcB, List.drop_append_of_le_length (by rw [pcl_len hm]; exact Nat.le_refl _), List.drop_of_length_le (by rw [pcl_len hm]; exact Nat.le_refl _), List.nil_append, List.take_of_length_le (by rw [bbl_len hb]; exact Nat.le_refl _)]
theorem bcB_at {i : Nat} (hi : i < 16) : (bcB s m bs)[1 + i]? = some (.int .u8 ((m.getD i 0 : Nat) : Int)) := by
  rw [bcB, List.getElem?_append_left (by rw [pcl_len hm]; omega)]
  exact pcl_at (by omega)
theorem bcB_bat {i : Nat} {b : Bool} (hi : i < 16) (h : bs.getD i false = b) : (bcB s m bs)[17 + i]? = some (.bool b) := by
  rw [bcB, List.getElem?_append_right (by rw [pcl_len hm]; omega), pcl_len hm, show 17 + i - (16 + 1) = i from by omega]
  exact bbl_at (by omega) h
theorem bcB_bset {i : Nat} {b : Bool} : (bcB s m bs).set (17 + i) (.bool b) = bcB s m (bs.set i b) := by
  rw [bcB, List.set_append, if_neg (by rw [pcl_len hm]; omega), pcl_len hm, show 17 + i - (16 + 1) = i from by omega, bbl_set]; rfl
theorem bcB_mset {i x : Nat} (hi : i < 16) : (bcB s m bs).set (1 + i) (.int .u8 (x : Int)) = bcB s (m.set i x) bs := by
  rw [bcB, List.set_append, if_pos (by rw [pcl_len hm]; omega), pcl_set]; rfl
theorem bcB_sd {s' : Int} {m' : List Nat} : (bcB s m bs).take 0 ++ pcl s' m' ++ (bcB s m bs).drop (0 + 17) = bcB s' m' bs := by
  rw [List.take_zero, List.nil_append, bcB, List.drop_append_of_le_length (by rw [pcl_len hm]; omega), List.drop_of_length_le (by rw [pcl_len hm]; omega), List.nil_append]; rfl
theorem bcB_sb {bs' : List Bool} : (bcB s m bs).take 17 ++ bbl bs' ++ (bcB s m bs).drop (17 + 16) = bcB s m bs' := by
  rw [List.drop_of_length_le (by rw [bcB_len hm hb]; omega), List.append_nil, bcB, List.take_append_of_le_length (by rw [pcl_len hm]; omega), List.take_of_length_le (by rw [pcl_len hm]; omega)]; rfl
end
theorem bcB_ones {s : Int} {m : List Nat} {bs : List Bool} : ones (bcB s m bs) := by
  intro u hu
  rcases List.mem_append.1 hu with h | h
  · exact pcl_ones u h
  · exact bbl_ones u h
theorem r16b : (List.replicate 16 false).length = 16 := rfl
theorem r16n : (List.replicate 16 0 : List Nat).length = 16 := rfl

theorem s_toBl16 (bs : List Bool) (hb : bs.length = 16) : Spec Try.prog n_l_toBoolA16 [.raw (.agg (bbl bs).toArray)] [] (.raw (.agg (bbl bs).toArray)) [] := by
  refine SpecW.of_EV hf_l_toBoolA16 hc_l_toBoolA16 rfl rfl rfl fun w0 B ρ0 _ => ?_
  (repeat' (first | refine And.intro (neI rfl) ?_ | refine And.intro ⟨rfl, leR rfl, onesR rfl⟩ ?_ | refine And.intro ⟨rfl, leR rfl⟩ ?_ | refine draw_rule2 hfol (fun KK hKK => ?_) | refine hKK _ _ _ (by kernel_rfl) ?_ | refine region_rule (fun KK hKK => ?_) | refine hKK _ _ ?_ | refine And.intro (Eq.refl true) ?_ | refine Exists.intro _ (And.intro (wI (by omega)) ?_) | refine Exists.intro _ (And.intro (wU (by omega)) ?_) | refine Exists.intro _ (And.intro ⟨rfl, by omega⟩ ?_) | refine Exists.intro _ (And.intro rfl ?_) | refine And.intro rfl ?_ | refine And.intro ⟨rfl, rfl⟩ ?_ | ((refine And.intro (fun _ => ?_) (fun _ => ?_)) <;> try (exfalso; omega))))
  refine loop_rule (α := Nat × List Bool) (fun (i, l) => i ≤ 16 ∧ l.length = 16 ∧ ∀ j, j < i → l.getD j false = bs.getD j false)
      (fun (i, l) => [(1, .ptr 0 0), (2, .ptr 1 0), (3, .ptr 2 0), (4, vi i)]) (fun (i, l) => [.pc (bbl bs) T_a16q_bool, .pc (bbl (List.replicate 16 false)) T_a16q_bool, .pc (bbl l) T_a16q_bool]) (fun (i, _) => 16 - i) (0, List.replicate 16 false) [0, 1, 2]
      ⟨by omega, rfl, fun j hj => by omega⟩ ⟨⟨rfl, rfl, rfl, rfl, trivial⟩, ⟨rfl, rfl, rfl, trivial⟩, rfl⟩ ?_
  rintro ⟨i, l⟩ g ⟨hi, hl, hj⟩
  by_cases h9 : i = 16
  · subst h9
    obtain rfl : l = bs := eqB_of hl hb hj
    (repeat' (first | refine Exists.intro (bbl l) (And.intro ⟨bbl_len hl, bbl_all hl⟩ ?_) | refine And.intro ⟨bbl_len hl, leR rfl, bbl_ones⟩ ?_ | refine Exists.intro (bbl l) (And.intro ⟨leR rfl, spl0 (leR rfl)⟩ ?_) | refine And.intro (neI rfl) ?_ | refine And.intro ⟨rfl, leR rfl, onesR rfl⟩ ?_ | refine And.intro ⟨rfl, leR rfl⟩ ?_ | refine draw_rule2 hfol (fun KK hKK => ?_) | refine hKK _ _ _ (by kernel_rfl) ?_ | refine region_rule (fun KK hKK => ?_) | refine hKK _ _ ?_ | refine And.intro (Eq.refl true) ?_ | refine Exists.intro _ (And.intro (wI (by omega)) ?_) | refine Exists.intro _ (And.intro (wU (by omega)) ?_) | refine Exists.intro _ (And.intro ⟨rfl, by omega⟩ ?_) | refine Exists.intro _ (And.intro rfl ?_) | refine And.intro rfl ?_ | refine And.intro ⟨rfl, rfl⟩ ?_ | ((refine And.intro (fun _ => ?_) (fun _ => ?_)) <;> try (exfalso; omega))))
    exact Exists.intro [] (And.intro (rfl) (And.intro trivial rfl))
  have hil : i < 16 := by omega
  have hat := bbl_at (s := bs) (i := i) (by omega) rfl
  (repeat' (first | refine Exists.intro _ (And.intro hat ?_) | refine Exists.intro (bbl (l.set i (bs.getD i false))) (And.intro ⟨by rw [bbl_len hl]; omega, bbl_set⟩ ?_) | refine And.intro (neI rfl) ?_ | refine And.intro ⟨rfl, leR rfl, onesR rfl⟩ ?_ | refine And.intro ⟨rfl, leR rfl⟩ ?_ | refine draw_rule2 hfol (fun KK hKK => ?_) | refine hKK _ _ _ (by kernel_rfl) ?_ | refine region_rule (fun KK hKK => ?_) | refine hKK _ _ ?_ | refine And.intro (Eq.refl true) ?_ | refine Exists.intro _ (And.intro (wI (by omega)) ?_) | refine Exists.intro _ (And.intro (wU (by omega)) ?_) | refine Exists.intro _ (And.intro ⟨rfl, by omega⟩ ?_) | refine Exists.intro _ (And.intro rfl ?_) | refine And.intro rfl ?_ | refine And.intro ⟨rfl, rfl⟩ ?_ | ((refine And.intro (fun _ => ?_) (fun _ => ?_)) <;> try (exfalso; omega))))
  refine Exists.intro (i + 1, l.set i (bs.getD i false)) (Exists.intro [0, 1, 2] (And.intro ⟨⟨by omega, by simpa using hl, fun j hj' => ?_⟩, (by show 16 - (i + 1) < 16 - i; omega)⟩ ⟨⟨rfl, rfl, rfl, rfl, trivial⟩, ⟨rfl, rfl, rfl, trivial⟩, rfl⟩))
  rw [getB_set (by omega)]
  by_cases hij : i = j
  · rw [if_pos hij, hij]
  · rw [if_neg hij]; exact hj j (by omega)

theorem s_toBl (s : Int) (m : List Nat) (bs : List Bool) (hm : m.length = 16) (hb : bs.length = 16) : Spec Try.prog n_l_toBlobbed [bV s m bs] [] (bV s m bs) [] := by
  refine SpecW.of_EV hf_l_toBlobbed hc_l_toBlobbed rfl rfl rfl fun w0 B ρ0 _ => ?_
  (repeat' (first | refine (s_toD s m hm).pure rfl ?_ | refine (s_toBl16 bs hb).pure rfl ?_ | refine Exists.intro (pcl s m) (And.intro ⟨pcl_len hm, bcB_dia hm hb⟩ ?_) | refine Exists.intro (bbl bs) (And.intro ⟨bbl_len hb, bcB_blo hm hb⟩ ?_) | refine And.intro ⟨pcl_len hm, leR rfl, pcl_ones⟩ ?_ | refine And.intro ⟨bbl_len hb, leR rfl, bbl_ones⟩ ?_ | refine And.intro ⟨bcB_len hm hb, leR rfl, bcB_ones⟩ ?_ | refine Exists.intro (bcB s m (List.replicate 16 false)) (And.intro ⟨leR rfl, bcB_sd (s := 0) (m := List.replicate 16 0) (bs := List.replicate 16 false) r16n r16b⟩ ?_) | refine Exists.intro (bcB s m bs) (And.intro ⟨by rw [bcB_len hm r16b]; exact leR rfl, bcB_sb hm r16b⟩ ?_) | refine Exists.intro (bcB s m bs) (And.intro ⟨bcB_len hm hb, bcB_all hm hb⟩ ?_) | refine Exists.intro (bcB s m bs) (And.intro ⟨leR rfl, spl0 (leR rfl)⟩ ?_) | refine And.intro (neI rfl) ?_ | refine And.intro ⟨rfl, leR rfl, onesR rfl⟩ ?_ | refine And.intro ⟨rfl, leR rfl⟩ ?_ | refine draw_rule2 hfol (fun KK hKK => ?_) | refine hKK _ _ _ (by kernel_rfl) ?_ | refine region_rule (fun KK hKK => ?_) | refine hKK _ _ ?_ | refine And.intro (Eq.refl true) ?_ | refine Exists.intro _ (And.intro (wI (by omega)) ?_) | refine Exists.intro _ (And.intro (wU (by omega)) ?_) | refine Exists.intro _ (And.intro ⟨rfl, by omega⟩ ?_) | refine Exists.intro _ (And.intro rfl ?_) | refine And.intro rfl ?_ | refine And.intro ⟨rfl, rfl⟩ ?_ | ((refine And.intro (fun _ => ?_) (fun _ => ?_)) <;> try (exfalso; omega))))
  exact Exists.intro [] (And.intro (rfl) (And.intro trivial rfl))

theorem s_eqBl16 (bs : List Bool) (hb : bs.length = 16) : Spec Try.prog n_l_eqBoolA16 [.raw (.agg (bbl bs).toArray), .raw (.agg (bbl bs).toArray)] [] (vb true) [] := by
  refine SpecW.of_EV hf_l_eqBoolA16 hc_l_eqBoolA16 rfl rfl rfl fun w0 B ρ0 _ => ?_
  (repeat' (first | refine And.intro (neI rfl) ?_ | refine And.intro ⟨rfl, leR rfl, onesR rfl⟩ ?_ | refine And.intro ⟨rfl, leR rfl⟩ ?_ | refine draw_rule2 hfol (fun KK hKK => ?_) | refine hKK _ _ _ (by kernel_rfl) ?_ | refine region_rule (fun KK hKK => ?_) | refine hKK _ _ ?_ | refine And.intro (Eq.refl true) ?_ | refine Exists.intro _ (And.intro (wI (by omega)) ?_) | refine Exists.intro _ (And.intro (wU (by omega)) ?_) | refine Exists.intro _ (And.intro ⟨rfl, by omega⟩ ?_) | refine Exists.intro _ (And.intro rfl ?_) | refine And.intro rfl ?_ | refine And.intro ⟨rfl, rfl⟩ ?_ | ((refine And.intro (fun _ => ?_) (fun _ => ?_)) <;> try (exfalso; omega))))
  refine loop_rule (α := Nat) (fun i => i ≤ 16)
      (fun i => [(2, .ptr 0 0), (3, .ptr 1 0), (5, vi i)]) (fun _ => [.pc (bbl bs) T_a16q_bool, .pc (bbl bs) T_a16q_bool]) (fun i => 16 - i) 0 [0, 1]
      (by omega) ⟨⟨rfl, rfl, rfl, trivial⟩, ⟨rfl, rfl, trivial⟩, rfl⟩ ?_
  rintro i g hi
  by_cases h9 : i = 16
  · subst h9
    (repeat' (first | refine And.intro (neI rfl) ?_ | refine And.intro ⟨rfl, leR rfl, onesR rfl⟩ ?_ | refine And.intro ⟨rfl, leR rfl⟩ ?_ | refine draw_rule2 hfol (fun KK hKK => ?_) | refine hKK _ _ _ (by kernel_rfl) ?_ | refine region_rule (fun KK hKK => ?_) | refine hKK _ _ ?_ | refine And.intro (Eq.refl true) ?_ | refine Exists.intro _ (And.intro (wI (by omega)) ?_) | refine Exists.intro _ (And.intro (wU (by omega)) ?_) | refine Exists.intro _ (And.intro ⟨rfl, by omega⟩ ?_) | refine Exists.intro _ (And.intro rfl ?_) | refine And.intro rfl ?_ | refine And.intro ⟨rfl, rfl⟩ ?_ | ((refine And.intro (fun _ => ?_) (fun _ => ?_)) <;> try (exfalso; omega))))
    exact Exists.intro [] (And.intro (rfl) (And.intro trivial rfl))
  have hil : i < 16 := by omega
  cases hv : bs.getD i false with
  | true =>
    have hat := bbl_at (s := bs) (i := i) (by omega) hv
    (repeat' (first | refine Exists.intro _ (And.intro hat ?_) | refine And.intro (neI rfl) ?_ | refine And.intro ⟨rfl, leR rfl, onesR rfl⟩ ?_ | refine And.intro ⟨rfl, leR rfl⟩ ?_ | refine draw_rule2 hfol (fun KK hKK => ?_) | refine hKK _ _ _ (by kernel_rfl) ?_ | refine region_rule (fun KK hKK => ?_) | refine hKK _ _ ?_ | refine And.intro (Eq.refl true) ?_ | refine Exists.intro _ (And.intro (wI (by omega)) ?_) | refine Exists.intro _ (And.intro (wU (by omega)) ?_) | refine Exists.intro _ (And.intro ⟨rfl, by omega⟩ ?_) | refine Exists.intro _ (And.intro rfl ?_) | refine And.intro rfl ?_ | refine And.intro ⟨rfl, rfl⟩ ?_ | ((refine And.intro (fun _ => ?_) (fun _ => ?_)) <;> try (exfalso; omega))))
    refine Exists.intro (i + 1) (Exists.intro [0, 1] (And.intro ⟨by omega, (by show 16 - (i + 1) < 16 - i; omega)⟩ ⟨⟨rfl, rfl, rfl, trivial⟩, ⟨rfl, rfl, trivial⟩, rfl⟩))
  | false =>
    have hat := bbl_at (s := bs) (i := i) (by omega) hv
    (repeat' (first | refine Exists.intro _ (And.intro hat ?_) | refine And.intro (neI rfl) ?_ | refine And.intro ⟨rfl, leR rfl, onesR rfl⟩ ?_ | refine And.intro ⟨rfl, leR rfl⟩ ?_ | refine draw_rule2 hfol (fun KK hKK => ?_) | refine hKK _ _ _ (by kernel_rfl) ?_ | refine region_rule (fun KK hKK => ?_) | refine hKK _ _ ?_ | refine And.intro (Eq.refl true) ?_ | refine Exists.intro _ (And.intro (wI (by omega)) ?_) | refine Exists.intro _ (And.intro (wU (by omega)) ?_) | refine Exists.intro _ (And.intro ⟨rfl, by omega⟩ ?_) | refine Exists.intro _ (And.intro rfl ?_) | refine And.intro rfl ?_ | refine And.intro ⟨rfl, rfl⟩ ?_ | ((refine And.intro (fun _ => ?_) (fun _ => ?_)) <;> try (exfalso; omega))))
    refine Exists.intro (i + 1) (Exists.intro [0, 1] (And.intro ⟨by omega, (by show 16 - (i + 1) < 16 - i; omega)⟩ ⟨⟨rfl, rfl, rfl, trivial⟩, ⟨rfl, rfl, trivial⟩, rfl⟩))
theorem s_eqBl (s : Int) (m : List Nat) (bs : List Bool) (hm : m.length = 16) (hb : bs.length = 16) : Spec Try.prog n_l_eqBlobbed [bV s m bs, bV s m bs] [] (vb true) [] := by
  have h1 := s_eqD s m hm
  have h2 := s_eqBl16 bs hb
  refine SpecW.of_EV hf_l_eqBlobbed hc_l_eqBlobbed rfl rfl rfl fun w0 B ρ0 _ => ?_
  (repeat' (first | refine (h1).pure rfl ?_ | refine (h2).pure rfl ?_ | refine Exists.intro (pcl s m) (And.intro ⟨pcl_len hm, bcB_dia hm hb⟩ ?_) | refine Exists.intro (bbl bs) (And.intro ⟨bbl_len hb, bcB_blo hm hb⟩ ?_) | refine And.intro (neI rfl) ?_ | refine And.intro ⟨rfl, leR rfl, onesR rfl⟩ ?_ | refine And.intro ⟨rfl, leR rfl⟩ ?_ | refine draw_rule2 hfol (fun KK hKK => ?_) | refine hKK _ _ _ (by kernel_rfl) ?_ | refine region_rule (fun KK hKK => ?_) | refine hKK _ _ ?_ | refine And.intro (Eq.refl true) ?_ | refine Exists.intro _ (And.intro (wI (by omega)) ?_) | refine Exists.intro _ (And.intro (wU (by omega)) ?_) | refine Exists.intro _ (And.intro ⟨rfl, by omega⟩ ?_) | refine Exists.intro _ (And.intro rfl ?_) | refine And.intro rfl ?_ | refine And.intro ⟨rfl, rfl⟩ ?_ | ((refine And.intro (fun _ => ?_) (fun _ => ?_)) <;> try (exfalso; omega))))
  exact finP rfl
end Go.Proofs.Ytcibbadioijmcaa.VE
