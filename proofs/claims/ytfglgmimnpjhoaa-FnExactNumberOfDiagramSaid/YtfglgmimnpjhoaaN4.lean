/- Contracts of functions of the given program, for all arguments that the contract names; see each theorem. -/
import Derived.Test.YtfglgmimnpjhoaaN3
set_option linter.all false
namespace Go.Proofs.Ytfglgmimnpjhoaa.VE
open Go
set_option maxHeartbeats 800000
set_option maxRecDepth 100000

abbrev T_fB : TypeId := 79
def rS (l : List ByteArray) : List Value := l.map fun t => .string t
theorem rS_at {l : List ByteArray} {i : Nat} {t : ByteArray} (h : l[i]? = some t) : (rS l)[i]? = some (.string t) := by simp [rS, h]
theorem rS_push {l : List ByteArray} {t : ByteArray} : rS l ++ [Value.string t] = rS (l ++ [t]) := by simp [rS]
theorem row1S {c : List Value} {a : ByteArray} (h : c.length ≤ 1) : c.take (0 * 1) ++ (Value.string a).cells.toList ++ c.drop (0 * 1 + 1) = [.string a] := by
  simp [Value.cells, List.drop_of_length_le h]
/-- The objects of the recursion: the size, the list's cell, the recursion itself, the list. -/
abbrev moreB (n : Nat) (acc : List ByteArray) : List O := [.pc [.int .i64 n] T_int, .cc [.sl 3] T_s_string, .cc [.fn (.func n_i_bracketings_1) [] [.ptr 0 0, .ptr 1 0, .ptr 2 0]] T_fB, .pr T_string 1 acc.length (rS acc)]
/-- .. and behind it. -/
abbrev moreE (n : Nat) (acc : List ByteArray) : List O := [.pc [.int .i64 n] T_int, .cc [.sl 4] T_s_string, .cc [.fn (.func n_i_bracketings_1) [] [.ptr 0 0, .ptr 1 0, .ptr 2 0]] T_fB, .dead, .pr T_string 1 acc.length (rS acc)]
theorem s_brk (n : Nat) (hn : n ≤ 8) : ∀ (d : Nat) (t : ByteArray) (o : Nat) (acc : List ByteArray), t.size + d = 2 * n → o ≤ 16 → acc.length + 2 ^ d ≤ 65536 →
    Spec Try.prog n_i_bracketings_1 [.raw (.string t), vi o, .ptr 0 0, .ptr 1 0, .ptr 2 0] (moreB n acc) (.tup []) (moreE n (acc ++ br d t o))
  | 0, t, o, acc, hd, ho, hacc => by
    have w1 : IntKind.i64.wrap (2 * (n : Int)) = ((2 * n : Nat) : Int) := wC (by omega) (by omega)
    have w2 : IntKind.i64.wrap (((2 * n : Nat) : Int) - (t.size : Int)) = 0 := wC (by omega) (by omega)
    refine SpecW.of_EV hf_i_bracketings_1 hc_i_bracketings_1 rfl rfl rfl fun w0 B ρ0 _ => ?_
    (repeat' (first | refine Exists.intro _ (And.intro w1 ?_) | refine Exists.intro _ (And.intro w2 ?_) | refine And.intro ⟨rfl, mkL rfl⟩ ?_ | refine Exists.intro [Value.string t] (And.intro (row1S (mkL' rfl)) ?_) | refine Exists.intro (rS (acc ++ [t])) (And.intro ⟨rfl, onesR rfl, by omega, by omega, rS_push⟩ ?_) | refine Exists.intro [V.sl 5] (And.intro ⟨leR rfl, rfl⟩ ?_) | refine And.intro (neI rfl) ?_ | refine And.intro ⟨rfl, leR rfl, onesR rfl⟩ ?_ | refine And.intro ⟨rfl, leR rfl⟩ ?_ | refine draw_rule2 hfol (fun KK hKK => ?_) | refine hKK _ _ _ (by kernel_rfl) ?_ | refine region_rule (fun KK hKK => ?_) | refine hKK _ _ ?_ | refine And.intro (Eq.refl true) ?_ | refine Exists.intro _ (And.intro (wI (by omega)) ?_) | refine Exists.intro _ (And.intro (wU (by omega)) ?_) | refine Exists.intro _ (And.intro ⟨rfl, by omega⟩ ?_) | refine Exists.intro _ (And.intro rfl ?_) | refine And.intro rfl ?_ | refine And.intro ⟨rfl, rfl⟩ ?_ | ((refine And.intro (fun _ => ?_) (fun _ => ?_)) <;> try (exfalso; omega))))
    have hlen : (acc ++ br 0 t o).length = acc.length + 1 := by rw [List.length_append]; rfl
    exact Exists.intro [0, 1, 2, 3, 5] (And.intro rfl (And.intro ⟨rfl, rfl, rfl, rfl, by rw [hlen]; rfl, trivial⟩ rfl))
  | d + 1, t, o, acc, hd, ho, hacc => by
    have w1 : IntKind.i64.wrap (2 * (n : Int)) = ((2 * n : Nat) : Int) := wC (by omega) (by omega)
    have w2 : IntKind.i64.wrap (((2 * n : Nat) : Int) - (t.size : Int)) = ((d + 1 : Nat) : Int) := wC (by omega) (by omega)
    have w3 : IntKind.i64.wrap ((o : Int) + 1) = ((o + 1 : Nat) : Int) := wC (by omega) (by omega)
    have hp : 2 ^ (d + 1) = 2 ^ d * 2 := Nat.pow_succ ..
    have hs1 : (t ++ bO).size = t.size + 1 := by rw [ByteArray.size_append]; rfl
    have hs2 : (t ++ bC).size = t.size + 1 := by rw [ByteArray.size_append]; rfl
    refine SpecW.of_EV hf_i_bracketings_1 hc_i_bracketings_1 rfl rfl rfl fun w0 B ρ0 _ => ?_
    by_cases h1 : o < d + 1
    · have ho15 : o + 1 ≤ 16 := by omega
      have r1 := s_brk n hn d (t ++ bO) (o + 1) acc (by omega) ho15 (by omega)
      by_cases h2 : 0 < o
      · have w4 : IntKind.i64.wrap ((o : Int) - 1) = ((o - 1 : Nat) : Int) := wC (by omega) (by omega)
        have hl := wy_le d (o + 1)
        have r2 := s_brk n hn d (t ++ bC) (o - 1) (acc ++ br d (t ++ bO) (o + 1)) (by omega) (by omega) (by rw [List.length_append, br_len]; omega)
        have e : acc ++ br (d + 1) t o = acc ++ br d (t ++ bO) (o + 1) ++ br d (t ++ bC) (o - 1) := by rw [br, if_pos h1, if_pos h2, List.append_assoc]
        (repeat' (first | refine Exists.intro _ (And.intro w1 ?_) | refine Exists.intro _ (And.intro w2 ?_) | refine And.intro (show t.size + 1 ≤ 9223372036854775807 by omega) ?_ | refine Exists.intro _ (And.intro w3 ?_) | refine Exists.intro _ (And.intro w4 ?_) | refine (r1).make [0,1,2,3] rfl ⟨rfl, rfl, rfl, rfl, trivial⟩ ?_ | refine (r2).make [0,1,2,4] rfl ⟨rfl, rfl, rfl, rfl, trivial⟩ ?_ | refine And.intro (neI rfl) ?_ | refine And.intro ⟨rfl, leR rfl, onesR rfl⟩ ?_ | refine And.intro ⟨rfl, leR rfl⟩ ?_ | refine draw_rule2 hfol (fun KK hKK => ?_) | refine hKK _ _ _ (by kernel_rfl) ?_ | refine region_rule (fun KK hKK => ?_) | refine hKK _ _ ?_ | refine And.intro (Eq.refl true) ?_ | refine Exists.intro _ (And.intro (wI (by omega)) ?_) | refine Exists.intro _ (And.intro (wU (by omega)) ?_) | refine Exists.intro _ (And.intro ⟨rfl, by omega⟩ ?_) | refine Exists.intro _ (And.intro rfl ?_) | refine And.intro rfl ?_ | refine And.intro ⟨rfl, rfl⟩ ?_ | ((refine And.intro (fun _ => ?_) (fun _ => ?_)) <;> try (exfalso; omega))))
        exact Exists.intro [0, 1, 2, 3, 5] (And.intro rfl (And.intro ⟨rfl, rfl, rfl, rfl, by rw [e]; rfl, trivial⟩ rfl))
      · have e : acc ++ br (d + 1) t o = acc ++ br d (t ++ bO) (o + 1) := by rw [br, if_pos h1, if_neg h2, List.append_nil]
        (repeat' (first | refine Exists.intro _ (And.intro w1 ?_) | refine Exists.intro _ (And.intro w2 ?_) | refine And.intro (show t.size + 1 ≤ 9223372036854775807 by omega) ?_ | refine Exists.intro _ (And.intro w3 ?_) | refine (r1).make [0,1,2,3] rfl ⟨rfl, rfl, rfl, rfl, trivial⟩ ?_ | refine And.intro (neI rfl) ?_ | refine And.intro ⟨rfl, leR rfl, onesR rfl⟩ ?_ | refine And.intro ⟨rfl, leR rfl⟩ ?_ | refine draw_rule2 hfol (fun KK hKK => ?_) | refine hKK _ _ _ (by kernel_rfl) ?_ | refine region_rule (fun KK hKK => ?_) | refine hKK _ _ ?_ | refine And.intro (Eq.refl true) ?_ | refine Exists.intro _ (And.intro (wI (by omega)) ?_) | refine Exists.intro _ (And.intro (wU (by omega)) ?_) | refine Exists.intro _ (And.intro ⟨rfl, by omega⟩ ?_) | refine Exists.intro _ (And.intro rfl ?_) | refine And.intro rfl ?_ | refine And.intro ⟨rfl, rfl⟩ ?_ | ((refine And.intro (fun _ => ?_) (fun _ => ?_)) <;> try (exfalso; omega))))
        exact Exists.intro [0, 1, 2, 3, 4] (And.intro rfl (And.intro ⟨rfl, rfl, rfl, rfl, by rw [e]; rfl, trivial⟩ rfl))
    · have h2 : 0 < o := by omega
      have w4 : IntKind.i64.wrap ((o : Int) - 1) = ((o - 1 : Nat) : Int) := wC (by omega) (by omega)
      have r2 := s_brk n hn d (t ++ bC) (o - 1) acc (by omega) (by omega) (by omega)
      have e : acc ++ br (d + 1) t o = acc ++ br d (t ++ bC) (o - 1) := by rw [br, if_neg h1, if_pos h2, List.nil_append]
      (repeat' (first | refine Exists.intro _ (And.intro w1 ?_) | refine Exists.intro _ (And.intro w2 ?_) | refine And.intro (show t.size + 1 ≤ 9223372036854775807 by omega) ?_ | refine Exists.intro _ (And.intro w4 ?_) | refine (r2).make [0,1,2,3] rfl ⟨rfl, rfl, rfl, rfl, trivial⟩ ?_ | refine And.intro (neI rfl) ?_ | refine And.intro ⟨rfl, leR rfl, onesR rfl⟩ ?_ | refine And.intro ⟨rfl, leR rfl⟩ ?_ | refine draw_rule2 hfol (fun KK hKK => ?_) | refine hKK _ _ _ (by kernel_rfl) ?_ | refine region_rule (fun KK hKK => ?_) | refine hKK _ _ ?_ | refine And.intro (Eq.refl true) ?_ | refine Exists.intro _ (And.intro (wI (by omega)) ?_) | refine Exists.intro _ (And.intro (wU (by omega)) ?_) | refine Exists.intro _ (And.intro ⟨rfl, by omega⟩ ?_) | refine Exists.intro _ (And.intro rfl ?_) | refine And.intro rfl ?_ | refine And.intro ⟨rfl, rfl⟩ ?_ | ((refine And.intro (fun _ => ?_) (fun _ => ?_)) <;> try (exfalso; omega))))
      exact Exists.intro [0, 1, 2, 3, 4] (And.intro rfl (And.intro ⟨rfl, rfl, rfl, rfl, by rw [e]; rfl, trivial⟩ rfl))
theorem s_bracketings (n : Nat) (hn : n ≤ 8) : Spec Try.prog n_i_bracketings [vi n] [] (.sl 0) [.pr T_string 1 (br (2 * n) ⟨#[]⟩ 0).length (rS (br (2 * n) ⟨#[]⟩ 0))] := by
  have h := s_brk n hn (2 * n) ⟨#[]⟩ 0 [] (Nat.zero_add _) (by omega) (by
    have : 2 ^ (2 * n) ≤ 2 ^ 16 := Nat.pow_le_pow_right (by omega) (by omega)
    show 0 + _ ≤ _
    omega)
  rw [List.nil_append] at h
  refine SpecW.of_EV hf_i_bracketings hc_i_bracketings rfl rfl rfl fun w0 B ρ0 _ => ?_
  (repeat' (first | refine Exists.intro [V.sl 1] (And.intro ⟨leR rfl, rfl⟩ ?_) | refine Exists.intro [V.fn (.func n_i_bracketings_1) [] [.ptr 0 0, .ptr 2 0, .ptr 3 0]] (And.intro ⟨leR rfl, rfl⟩ ?_) | refine (h).make [0,2,3,1] rfl ⟨rfl, rfl, rfl, rfl, trivial⟩ ?_ | refine And.intro (neI rfl) ?_ | refine And.intro ⟨rfl, leR rfl, onesR rfl⟩ ?_ | refine And.intro ⟨rfl, leR rfl⟩ ?_ | refine draw_rule2 hfol (fun KK hKK => ?_) | refine hKK _ _ _ (by kernel_rfl) ?_ | refine region_rule (fun KK hKK => ?_) | refine hKK _ _ ?_ | refine And.intro (Eq.refl true) ?_ | refine Exists.intro _ (And.intro (wI (by omega)) ?_) | refine Exists.intro _ (And.intro (wU (by omega)) ?_) | refine Exists.intro _ (And.intro ⟨rfl, by omega⟩ ?_) | refine Exists.intro _ (And.intro rfl ?_) | refine And.intro rfl ?_ | refine And.intro ⟨rfl, rfl⟩ ?_ | ((refine And.intro (fun _ => ?_) (fun _ => ?_)) <;> try (exfalso; omega))))
  exact Exists.intro [4] (And.intro (rfl) (And.intro ⟨rfl, trivial⟩ rfl))
theorem s_ways : ∀ d o r : Nat, o + 2 * r = d → d ≤ 60 → Spec Try.prog n_s_l01Ways [vi o, vi r] [] (vi (wy d o : Nat)) [] := by
  intro d
  induction d with
  | zero =>
    intro o r h hd
    obtain ⟨rfl, rfl⟩ : o = 0 ∧ r = 0 := by omega
    refine SpecW.of_EV hf_s_l01Ways hc_s_l01Ways rfl rfl rfl fun w0 B ρ0 _ => ?_
    (repeat' (first | refine And.intro (neI rfl) ?_ | refine And.intro ⟨rfl, leR rfl, onesR rfl⟩ ?_ | refine And.intro ⟨rfl, leR rfl⟩ ?_ | refine draw_rule2 hfol (fun KK hKK => ?_) | refine hKK _ _ _ (by kernel_rfl) ?_ | refine region_rule (fun KK hKK => ?_) | refine hKK _ _ ?_ | refine And.intro (Eq.refl true) ?_ | refine Exists.intro _ (And.intro (wI (by omega)) ?_) | refine Exists.intro _ (And.intro (wU (by omega)) ?_) | refine Exists.intro _ (And.intro ⟨rfl, by omega⟩ ?_) | refine Exists.intro _ (And.intro rfl ?_) | refine And.intro rfl ?_ | refine And.intro ⟨rfl, rfl⟩ ?_ | ((refine And.intro (fun _ => ?_) (fun _ => ?_)) <;> try (exfalso; omega))))
    exact Exists.intro [] (And.intro (rfl) (And.intro trivial rfl))
  | succ d ih =>
    intro o r h hd
    by_cases hr : r = 0
    · subst hr
      obtain rfl : o = d + 1 := by omega
      refine SpecW.of_EV hf_s_l01Ways hc_s_l01Ways rfl rfl rfl fun w0 B ρ0 _ => ?_
      (repeat' (first | refine And.intro (neI rfl) ?_ | refine And.intro ⟨rfl, leR rfl, onesR rfl⟩ ?_ | refine And.intro ⟨rfl, leR rfl⟩ ?_ | refine draw_rule2 hfol (fun KK hKK => ?_) | refine hKK _ _ _ (by kernel_rfl) ?_ | refine region_rule (fun KK hKK => ?_) | refine hKK _ _ ?_ | refine And.intro (Eq.refl true) ?_ | refine Exists.intro _ (And.intro (wI (by omega)) ?_) | refine Exists.intro _ (And.intro (wU (by omega)) ?_) | refine Exists.intro _ (And.intro ⟨rfl, by omega⟩ ?_) | refine Exists.intro _ (And.intro rfl ?_) | refine And.intro rfl ?_ | refine And.intro ⟨rfl, rfl⟩ ?_ | ((refine And.intro (fun _ => ?_) (fun _ => ?_)) <;> try (exfalso; omega))))
      exact Exists.intro [] (And.intro (by rw [wy_self]; rfl) (And.intro trivial rfl))
    have h1 := ih (o + 1) (r - 1) (by omega) (by omega)
    have hp : 2 ^ d ≤ 2 ^ 60 := Nat.pow_le_pow_right (by omega) (by omega)
    have hl1 := wy_le d (o + 1)
    have w1 : IntKind.i64.wrap ((o : Int) + 1) = ((o + 1 : Nat) : Int) := wC (by omega) (by omega)
    have w2 : IntKind.i64.wrap ((r : Int) - 1) = ((r - 1 : Nat) : Int) := wC (by omega) (by omega)
    refine SpecW.of_EV hf_s_l01Ways hc_s_l01Ways rfl rfl rfl fun w0 B ρ0 _ => ?_
    by_cases h0 : 0 < o
    · have h2 := ih (o - 1) r (by omega) (by omega)
      have hl2 := wy_le d (o - 1)
      have w3 : IntKind.i64.wrap ((o : Int) - 1) = ((o - 1 : Nat) : Int) := wC (by omega) (by omega)
      have e : wy (d + 1) o = wy d (o + 1) + wy d (o - 1) := by rw [wy, if_pos (show o < d + 1 by omega), if_pos h0]
      rw [e]
      have w4 : IntKind.i64.wrap (((wy d (o + 1) : Nat) : Int) + ((wy d (o - 1) : Nat) : Int)) = ((wy d (o + 1) + wy d (o - 1) : Nat) : Int) := wC (by omega) (by omega)
      (repeat' (first | refine Exists.intro _ (And.intro w1 ?_) | refine Exists.intro _ (And.intro w2 ?_) | refine Exists.intro _ (And.intro w3 ?_) | refine Exists.intro _ (And.intro w4 ?_) | refine (h1).pure rfl ?_ | refine (h2).pure rfl ?_ | refine And.intro (neI rfl) ?_ | refine And.intro ⟨rfl, leR rfl, onesR rfl⟩ ?_ | refine And.intro ⟨rfl, leR rfl⟩ ?_ | refine draw_rule2 hfol (fun KK hKK => ?_) | refine hKK _ _ _ (by kernel_rfl) ?_ | refine region_rule (fun KK hKK => ?_) | refine hKK _ _ ?_ | refine And.intro (Eq.refl true) ?_ | refine Exists.intro _ (And.intro (wI (by omega)) ?_) | refine Exists.intro _ (And.intro (wU (by omega)) ?_) | refine Exists.intro _ (And.intro ⟨rfl, by omega⟩ ?_) | refine Exists.intro _ (And.intro rfl ?_) | refine And.intro rfl ?_ | refine And.intro ⟨rfl, rfl⟩ ?_ | ((refine And.intro (fun _ => ?_) (fun _ => ?_)) <;> try (exfalso; omega))))
      exact Exists.intro [] (And.intro (rfl) (And.intro trivial rfl))
    · have e : wy (d + 1) o = wy d (o + 1) := by rw [wy, if_pos (show o < d + 1 by omega), if_neg h0, Nat.add_zero]
      rw [e]
      (repeat' (first | refine Exists.intro _ (And.intro w1 ?_) | refine Exists.intro _ (And.intro w2 ?_) | refine (h1).pure rfl ?_ | refine And.intro (neI rfl) ?_ | refine And.intro ⟨rfl, leR rfl, onesR rfl⟩ ?_ | refine And.intro ⟨rfl, leR rfl⟩ ?_ | refine draw_rule2 hfol (fun KK hKK => ?_) | refine hKK _ _ _ (by kernel_rfl) ?_ | refine region_rule (fun KK hKK => ?_) | refine hKK _ _ ?_ | refine And.intro (Eq.refl true) ?_ | refine Exists.intro _ (And.intro (wI (by omega)) ?_) | refine Exists.intro _ (And.intro (wU (by omega)) ?_) | refine Exists.intro _ (And.intro ⟨rfl, by omega⟩ ?_) | refine Exists.intro _ (And.intro rfl ?_) | refine And.intro rfl ?_ | refine And.intro ⟨rfl, rfl⟩ ?_ | ((refine And.intro (fun _ => ?_) (fun _ => ?_)) <;> try (exfalso; omega))))
      exact Exists.intro [] (And.intro (rfl) (And.intro trivial rfl))
end Go.Proofs.Ytfglgmimnpjhoaa.VE
