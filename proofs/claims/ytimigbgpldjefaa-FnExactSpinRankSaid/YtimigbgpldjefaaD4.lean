/- Contracts of functions of the given program, for all arguments that the contract names; see each theorem. -/
import Derived.Test.YtimigbgpldjefaaD3
set_option linter.all false
namespace Go.Proofs.Ytimigbgpldjefaa.VE
open Go
set_option maxHeartbeats 800000
set_option maxRecDepth 100000

theorem row2l {c : List Value} {k : IntKind} {a : Int} (h : c.length = 2) : 1 * 1 + 1 ≤ (c.take (0 * 1) ++ (Value.int k a).cells.toList ++ c.drop (0 * 1 + 1)).length := by
  match c, h with
  | [x, y], _ => exact Nat.le_refl _
theorem row2i {c : List Value} {k : IntKind} {a b : Int} (h : c.length = 2) : (c.take (0 * 1) ++ (Value.int k a).cells.toList ++ c.drop (0 * 1 + 1)).take (1 * 1) ++ (Value.int k b).cells.toList ++ (c.take (0 * 1) ++ (Value.int k a).cells.toList ++ c.drop (0 * 1 + 1)).drop (1 * 1 + 1) = [.int k a, .int k b] := by
  match c, h with
  | [x, y], _ => rfl
theorem s_ient (n : Nat) (m : List Nat) (hV : IsV n m) (p q r : Int) (hp : 2 ≤ p ∧ p ≤ 97) (hq : 0 ≤ q ∧ q < p) (hr : 0 ≤ r ∧ r < p) (u v : Nat) (hu : u ≤ 1000) (hv : v ≤ 1000) :
    Spec Try.prog n_i_spins_entry [spA p q r, .ptr 0 0, vi u, vi v] [.pc (pcl n m) T_i_Diagram] (vi (ent n m p q r u v)) [.pc (pcl n m) T_i_Diagram] := by
  have hn := hV.n8
  have hn1 := hV.n1
  have hm := hV.len
  have hfol : Try.prog.follows .mixedOrders = true := rfl
  have w2 : IntKind.i64.wrap (2 * (n : Int)) = ((2 * n : Nat) : Int) := wC (by omega) (by omega)
  have hp0 : p ≠ 0 := by omega
  have hn0 : (n : Int) ≠ 0 := by omega
  have hsn := s_n n m
  refine SpecW.of_EV hf_i_spins_entry hc_i_spins_entry rfl rfl rfl fun w0 B ρ0 _ => ?_
  (repeat' (first | refine (hsn).read [0] rfl ⟨rfl, trivial⟩ ?_ | refine Exists.intro _ (And.intro w2 ?_) | refine And.intro (neI rfl) ?_ | refine And.intro ⟨rfl, leR rfl, onesR rfl⟩ ?_ | refine And.intro ⟨rfl, leR rfl⟩ ?_ | refine draw_rule2 hfol (fun KK hKK => ?_) | refine hKK _ _ _ (by kernel_rfl) ?_ | refine region_rule (fun KK hKK => ?_) | refine hKK _ _ ?_ | refine And.intro (Eq.refl true) ?_ | refine Exists.intro _ (And.intro (wI (by omega)) ?_) | refine Exists.intro _ (And.intro (wU (by omega)) ?_) | refine Exists.intro _ (And.intro ⟨rfl, by omega⟩ ?_) | refine Exists.intro _ (And.intro rfl ?_) | refine And.intro rfl ?_ | refine And.intro ⟨rfl, rfl⟩ ?_ | ((refine And.intro (fun _ => ?_) (fun _ => ?_)) <;> try (exfalso; omega))))
  refine loop_rule (α := Nat × Nat × Int) (fun (d, i, o) => i + d = 2 * n ∧ (-p < o ∧ o < p) ∧ entF n m p q r u v d i (o % p) = ent n m p q r u v)
    (fun (d, i, o) => [(1, .ptr 0 0), (2, vi u), (3, vi v), (4, .ptr 1 0), (9, vi n), (10, vi o), (19, vi (2 * n : Nat)), (20, vi i)]) (fun _ => [.pc (pcl n m) T_i_Diagram, .pc (spV p q r) T_i_spins]) (fun (d, _, _) => d) (2 * n, 0, 1) [0, 1]
    ⟨by omega, by omega, by rw [Int.emod_eq_of_lt (by omega) (by omega)]; rfl⟩ ⟨⟨rfl, rfl, rfl, rfl, rfl, rfl, rfl, rfl, trivial⟩, ⟨rfl, rfl, trivial⟩, rfl⟩ ?_
  rintro ⟨d, i, o⟩ g ⟨hd, ho, hR⟩
  by_cases h9 : d = 0
  · subst h9
    obtain rfl : i = 2 * n := by omega
    have hrest := s_rest o p (by omega) (by omega)
    (repeat' (first | refine (hrest).pure rfl ?_ | refine And.intro (neI rfl) ?_ | refine And.intro ⟨rfl, leR rfl, onesR rfl⟩ ?_ | refine And.intro ⟨rfl, leR rfl⟩ ?_ | refine draw_rule2 hfol (fun KK hKK => ?_) | refine hKK _ _ _ (by kernel_rfl) ?_ | refine region_rule (fun KK hKK => ?_) | refine hKK _ _ ?_ | refine And.intro (Eq.refl true) ?_ | refine Exists.intro _ (And.intro (wI (by omega)) ?_) | refine Exists.intro _ (And.intro (wU (by omega)) ?_) | refine Exists.intro _ (And.intro ⟨rfl, by omega⟩ ?_) | refine Exists.intro _ (And.intro rfl ?_) | refine And.intro rfl ?_ | refine And.intro ⟨rfl, rfl⟩ ?_ | ((refine And.intro (fun _ => ?_) (fun _ => ?_)) <;> try (exfalso; omega))))
    exact Exists.intro [0] (And.intro (by rw [← hR]; rfl) (And.intro ⟨rfl, trivial⟩ rfl))
  obtain ⟨d, rfl⟩ : ∃ e, d = e + 1 := ⟨d - 1, by omega⟩
  have hil : i < 2 * n := by omega
  have hk := hV.lt i hil
  have hki := hV.ne i hil
  have hat : (pcl n m)[1 + i]? = some (.int .u8 ((m.getD i 0 : Nat) : Int)) := pcl_at (by omega)
  have hfac : fac n m q r u v i = fac n m q r u v i := rfl
  conv at hfac => rhs; unfold fac
  generalize hkk : m.getD i 0 = k at hk hki hat hfac
  by_cases hlt : k < i
  · rw [if_pos hlt] at hfac
    rw [entF_f hfac, Int.mul_one, Int.emod_emod] at hR
    (repeat' (first | refine Exists.intro _ (And.intro hat ?_) | refine And.intro (neI rfl) ?_ | refine And.intro ⟨rfl, leR rfl, onesR rfl⟩ ?_ | refine And.intro ⟨rfl, leR rfl⟩ ?_ | refine draw_rule2 hfol (fun KK hKK => ?_) | refine hKK _ _ _ (by kernel_rfl) ?_ | refine region_rule (fun KK hKK => ?_) | refine hKK _ _ ?_ | refine And.intro (Eq.refl true) ?_ | refine Exists.intro _ (And.intro (wI (by omega)) ?_) | refine Exists.intro _ (And.intro (wU (by omega)) ?_) | refine Exists.intro _ (And.intro ⟨rfl, by omega⟩ ?_) | refine Exists.intro _ (And.intro rfl ?_) | refine And.intro rfl ?_ | refine And.intro ⟨rfl, rfl⟩ ?_ | ((refine And.intro (fun _ => ?_) (fun _ => ?_)) <;> try (exfalso; omega))))
    refine Exists.intro (d, i + 1, o) (Exists.intro [0, 1] (And.intro ⟨⟨by omega, ho, hR⟩, (by show d < d + 1; omega)⟩ ⟨⟨rfl, rfl, rfl, rfl, rfl, rfl, rfl, rfl, trivial⟩, ⟨rfl, rfl, trivial⟩, rfl⟩))
  rw [if_neg hlt] at hfac
  have e1 : Int.tmod (i : Int) (n : Int) = ((i % n : Nat) : Int) := tmN i n
  have e2 : Int.tmod (k : Int) (n : Int) = ((k % n : Nat) : Int) := tmN k n
  by_cases hin : i < n
  · rw [if_pos hin] at hfac
    rw [Nat.mod_eq_of_lt hin] at e1
    have c1 := s_ilett u n i (n - 1 - i) (by omega) (by omega) (by omega) (by omega)
    by_cases hkn : k < n
    · rw [if_pos hkn] at hfac
      rw [Nat.mod_eq_of_lt hkn] at e2
      have c2 := s_ilett v n k (n - 1 - k) (by omega) (by omega) (by omega) (by omega)
      have c4 := s_ilett u n k (n - 1 - k) (by omega) (by omega) (by omega) (by omega)
      rcases lt1_01 u (n - 1 - i) with ha | ha <;> rcases lt1_01 u (n - 1 - k) with hb | hb <;> rw [ha, hb] at hfac <;> rw [ha] at c1 <;> rw [hb] at c4
      · rw [if_pos rfl] at hfac
        rw [entF_n hfac] at hR
        (repeat' (first | refine Exists.intro _ (And.intro hat ?_) | refine And.intro hn0 ?_ | refine Exists.intro _ (And.intro e1 ?_) | refine Exists.intro _ (And.intro e2 ?_) | refine (c1).pure rfl ?_ | refine (c2).pure rfl ?_ | refine (c4).pure rfl ?_ | refine And.intro (neI rfl) ?_ | refine And.intro ⟨rfl, leR rfl, onesR rfl⟩ ?_ | refine And.intro ⟨rfl, leR rfl⟩ ?_ | refine draw_rule2 hfol (fun KK hKK => ?_) | refine hKK _ _ _ (by kernel_rfl) ?_ | refine region_rule (fun KK hKK => ?_) | refine hKK _ _ ?_ | refine And.intro (Eq.refl true) ?_ | refine Exists.intro _ (And.intro (wI (by omega)) ?_) | refine Exists.intro _ (And.intro (wU (by omega)) ?_) | refine Exists.intro _ (And.intro ⟨rfl, by omega⟩ ?_) | refine Exists.intro _ (And.intro rfl ?_) | refine And.intro rfl ?_ | refine And.intro ⟨rfl, rfl⟩ ?_ | ((refine And.intro (fun _ => ?_) (fun _ => ?_)) <;> try (exfalso; omega))))
        exact Exists.intro [0] (And.intro (by rw [← hR]; rfl) (And.intro ⟨rfl, trivial⟩ rfl))
      · rw [if_neg (by decide), if_pos rfl] at hfac
        rw [entF_f hfac, mulmod] at hR
        have hb2 := mulbd (o := o) (f := (-1)) (p := p) (by omega) (by omega)
        have hbd := tmod_bd (x := o * (-1)) (p := p) (by omega)
        have e3 : IntKind.i64.wrap (o * (-1)) = o * (-1) := wI (by omega)
        (repeat' (first | refine Exists.intro _ (And.intro hat ?_) | refine And.intro hn0 ?_ | refine Exists.intro _ (And.intro e1 ?_) | refine Exists.intro _ (And.intro e2 ?_) | refine (c1).pure rfl ?_ | refine (c2).pure rfl ?_ | refine (c4).pure rfl ?_ | refine Exists.intro _ (And.intro e3 ?_) | refine And.intro hp0 ?_ | refine And.intro ⟨rfl, mkL rfl⟩ ?_ | refine And.intro ⟨rfl, row2l mk_len⟩ ?_ | refine Exists.intro [Value.int .i64 (-1), Value.int .i64 q] (And.intro (row2i mk_len) ?_) | refine And.intro (neI rfl) ?_ | refine And.intro ⟨rfl, leR rfl, onesR rfl⟩ ?_ | refine And.intro ⟨rfl, leR rfl⟩ ?_ | refine draw_rule2 hfol (fun KK hKK => ?_) | refine hKK _ _ _ (by kernel_rfl) ?_ | refine region_rule (fun KK hKK => ?_) | refine hKK _ _ ?_ | refine And.intro (Eq.refl true) ?_ | refine Exists.intro _ (And.intro (wI (by omega)) ?_) | refine Exists.intro _ (And.intro (wU (by omega)) ?_) | refine Exists.intro _ (And.intro ⟨rfl, by omega⟩ ?_) | refine Exists.intro _ (And.intro rfl ?_) | refine And.intro rfl ?_ | refine And.intro ⟨rfl, rfl⟩ ?_ | ((refine And.intro (fun _ => ?_) (fun _ => ?_)) <;> try (exfalso; omega))))
        refine Exists.intro (d, i + 1, Int.tmod (o * (-1)) p) (Exists.intro [0, 1] (And.intro ⟨⟨by omega, hbd, by rw [tmod_emod]; exact hR⟩, (by show d < d + 1; omega)⟩ ⟨⟨rfl, rfl, rfl, rfl, rfl, rfl, rfl, rfl, trivial⟩, ⟨rfl, rfl, trivial⟩, rfl⟩))
      · rw [if_neg (by decide), if_neg (by decide)] at hfac
        rw [entF_f hfac, mulmod] at hR
        have hb2 := mulbd (o := o) (f := q) (p := p) (by omega) (by omega)
        have hbd := tmod_bd (x := o * q) (p := p) (by omega)
        have e3 : IntKind.i64.wrap (o * q) = o * q := wI (by omega)
        (repeat' (first | refine Exists.intro _ (And.intro hat ?_) | refine And.intro hn0 ?_ | refine Exists.intro _ (And.intro e1 ?_) | refine Exists.intro _ (And.intro e2 ?_) | refine (c1).pure rfl ?_ | refine (c2).pure rfl ?_ | refine (c4).pure rfl ?_ | refine Exists.intro _ (And.intro e3 ?_) | refine And.intro hp0 ?_ | refine And.intro ⟨rfl, mkL rfl⟩ ?_ | refine And.intro ⟨rfl, row2l mk_len⟩ ?_ | refine Exists.intro [Value.int .i64 (-1), Value.int .i64 q] (And.intro (row2i mk_len) ?_) | refine And.intro (neI rfl) ?_ | refine And.intro ⟨rfl, leR rfl, onesR rfl⟩ ?_ | refine And.intro ⟨rfl, leR rfl⟩ ?_ | refine draw_rule2 hfol (fun KK hKK => ?_) | refine hKK _ _ _ (by kernel_rfl) ?_ | refine region_rule (fun KK hKK => ?_) | refine hKK _ _ ?_ | refine And.intro (Eq.refl true) ?_ | refine Exists.intro _ (And.intro (wI (by omega)) ?_) | refine Exists.intro _ (And.intro (wU (by omega)) ?_) | refine Exists.intro _ (And.intro ⟨rfl, by omega⟩ ?_) | refine Exists.intro _ (And.intro rfl ?_) | refine And.intro rfl ?_ | refine And.intro ⟨rfl, rfl⟩ ?_ | ((refine And.intro (fun _ => ?_) (fun _ => ?_)) <;> try (exfalso; omega))))
        refine Exists.intro (d, i + 1, Int.tmod (o * q) p) (Exists.intro [0, 1] (And.intro ⟨⟨by omega, hbd, by rw [tmod_emod]; exact hR⟩, (by show d < d + 1; omega)⟩ ⟨⟨rfl, rfl, rfl, rfl, rfl, rfl, rfl, rfl, trivial⟩, ⟨rfl, rfl, trivial⟩, rfl⟩))
      · rw [if_pos rfl] at hfac
        rw [entF_n hfac] at hR
        (repeat' (first | refine Exists.intro _ (And.intro hat ?_) | refine And.intro hn0 ?_ | refine Exists.intro _ (And.intro e1 ?_) | refine Exists.intro _ (And.intro e2 ?_) | refine (c1).pure rfl ?_ | refine (c2).pure rfl ?_ | refine (c4).pure rfl ?_ | refine And.intro (neI rfl) ?_ | refine And.intro ⟨rfl, leR rfl, onesR rfl⟩ ?_ | refine And.intro ⟨rfl, leR rfl⟩ ?_ | refine draw_rule2 hfol (fun KK hKK => ?_) | refine hKK _ _ _ (by kernel_rfl) ?_ | refine region_rule (fun KK hKK => ?_) | refine hKK _ _ ?_ | refine And.intro (Eq.refl true) ?_ | refine Exists.intro _ (And.intro (wI (by omega)) ?_) | refine Exists.intro _ (And.intro (wU (by omega)) ?_) | refine Exists.intro _ (And.intro ⟨rfl, by omega⟩ ?_) | refine Exists.intro _ (And.intro rfl ?_) | refine And.intro rfl ?_ | refine And.intro ⟨rfl, rfl⟩ ?_ | ((refine And.intro (fun _ => ?_) (fun _ => ?_)) <;> try (exfalso; omega))))
        exact Exists.intro [0] (And.intro (by rw [← hR]; rfl) (And.intro ⟨rfl, trivial⟩ rfl))
    · rw [if_neg hkn] at hfac
      rw [Nat.mod_eq_sub_mod (by omega), Nat.mod_eq_of_lt (show k - n < n by omega)] at e2
      have c2 := s_ilett v n ((k - n : Nat) : Int) (2 * n - 1 - k) (by omega) (by omega) (by omega) (by omega)
      rcases lt1_01 u (n - 1 - i) with ha | ha <;> rcases lt1_01 v (2 * n - 1 - k) with hb | hb <;> rw [ha, hb] at hfac <;> rw [ha] at c1 <;> rw [hb] at c2
      · rw [if_pos rfl] at hfac
        rw [entF_f hfac, Int.mul_one, Int.emod_emod] at hR
        (repeat' (first | refine Exists.intro _ (And.intro hat ?_) | refine And.intro hn0 ?_ | refine Exists.intro _ (And.intro e1 ?_) | refine Exists.intro _ (And.intro e2 ?_) | refine (c1).pure rfl ?_ | refine (c2).pure rfl ?_ | refine And.intro (neI rfl) ?_ | refine And.intro ⟨rfl, leR rfl, onesR rfl⟩ ?_ | refine And.intro ⟨rfl, leR rfl⟩ ?_ | refine draw_rule2 hfol (fun KK hKK => ?_) | refine hKK _ _ _ (by kernel_rfl) ?_ | refine region_rule (fun KK hKK => ?_) | refine hKK _ _ ?_ | refine And.intro (Eq.refl true) ?_ | refine Exists.intro _ (And.intro (wI (by omega)) ?_) | refine Exists.intro _ (And.intro (wU (by omega)) ?_) | refine Exists.intro _ (And.intro ⟨rfl, by omega⟩ ?_) | refine Exists.intro _ (And.intro rfl ?_) | refine And.intro rfl ?_ | refine And.intro ⟨rfl, rfl⟩ ?_ | ((refine And.intro (fun _ => ?_) (fun _ => ?_)) <;> try (exfalso; omega))))
        refine Exists.intro (d, i + 1, o) (Exists.intro [0, 1] (And.intro ⟨⟨by omega, ho, hR⟩, (by show d < d + 1; omega)⟩ ⟨⟨rfl, rfl, rfl, rfl, rfl, rfl, rfl, rfl, trivial⟩, ⟨rfl, rfl, trivial⟩, rfl⟩))
      · rw [if_neg (by decide)] at hfac
        rw [entF_n hfac] at hR
        (repeat' (first | refine Exists.intro _ (And.intro hat ?_) | refine And.intro hn0 ?_ | refine Exists.intro _ (And.intro e1 ?_) | refine Exists.intro _ (And.intro e2 ?_) | refine (c1).pure rfl ?_ | refine (c2).pure rfl ?_ | refine And.intro (neI rfl) ?_ | refine And.intro ⟨rfl, leR rfl, onesR rfl⟩ ?_ | refine And.intro ⟨rfl, leR rfl⟩ ?_ | refine draw_rule2 hfol (fun KK hKK => ?_) | refine hKK _ _ _ (by kernel_rfl) ?_ | refine region_rule (fun KK hKK => ?_) | refine hKK _ _ ?_ | refine And.intro (Eq.refl true) ?_ | refine Exists.intro _ (And.intro (wI (by omega)) ?_) | refine Exists.intro _ (And.intro (wU (by omega)) ?_) | refine Exists.intro _ (And.intro ⟨rfl, by omega⟩ ?_) | refine Exists.intro _ (And.intro rfl ?_) | refine And.intro rfl ?_ | refine And.intro ⟨rfl, rfl⟩ ?_ | ((refine And.intro (fun _ => ?_) (fun _ => ?_)) <;> try (exfalso; omega))))
        exact Exists.intro [0] (And.intro (by rw [← hR]; rfl) (And.intro ⟨rfl, trivial⟩ rfl))
      · rw [if_neg (by decide)] at hfac
        rw [entF_n hfac] at hR
        (repeat' (first | refine Exists.intro _ (And.intro hat ?_) | refine And.intro hn0 ?_ | refine Exists.intro _ (And.intro e1 ?_) | refine Exists.intro _ (And.intro e2 ?_) | refine (c1).pure rfl ?_ | refine (c2).pure rfl ?_ | refine And.intro (neI rfl) ?_ | refine And.intro ⟨rfl, leR rfl, onesR rfl⟩ ?_ | refine And.intro ⟨rfl, leR rfl⟩ ?_ | refine draw_rule2 hfol (fun KK hKK => ?_) | refine hKK _ _ _ (by kernel_rfl) ?_ | refine region_rule (fun KK hKK => ?_) | refine hKK _ _ ?_ | refine And.intro (Eq.refl true) ?_ | refine Exists.intro _ (And.intro (wI (by omega)) ?_) | refine Exists.intro _ (And.intro (wU (by omega)) ?_) | refine Exists.intro _ (And.intro ⟨rfl, by omega⟩ ?_) | refine Exists.intro _ (And.intro rfl ?_) | refine And.intro rfl ?_ | refine And.intro ⟨rfl, rfl⟩ ?_ | ((refine And.intro (fun _ => ?_) (fun _ => ?_)) <;> try (exfalso; omega))))
        exact Exists.intro [0] (And.intro (by rw [← hR]; rfl) (And.intro ⟨rfl, trivial⟩ rfl))
      · rw [if_pos rfl] at hfac
        rw [entF_f hfac, Int.mul_one, Int.emod_emod] at hR
        (repeat' (first | refine Exists.intro _ (And.intro hat ?_) | refine And.intro hn0 ?_ | refine Exists.intro _ (And.intro e1 ?_) | refine Exists.intro _ (And.intro e2 ?_) | refine (c1).pure rfl ?_ | refine (c2).pure rfl ?_ | refine And.intro (neI rfl) ?_ | refine And.intro ⟨rfl, leR rfl, onesR rfl⟩ ?_ | refine And.intro ⟨rfl, leR rfl⟩ ?_ | refine draw_rule2 hfol (fun KK hKK => ?_) | refine hKK _ _ _ (by kernel_rfl) ?_ | refine region_rule (fun KK hKK => ?_) | refine hKK _ _ ?_ | refine And.intro (Eq.refl true) ?_ | refine Exists.intro _ (And.intro (wI (by omega)) ?_) | refine Exists.intro _ (And.intro (wU (by omega)) ?_) | refine Exists.intro _ (And.intro ⟨rfl, by omega⟩ ?_) | refine Exists.intro _ (And.intro rfl ?_) | refine And.intro rfl ?_ | refine And.intro ⟨rfl, rfl⟩ ?_ | ((refine And.intro (fun _ => ?_) (fun _ => ?_)) <;> try (exfalso; omega))))
        refine Exists.intro (d, i + 1, o) (Exists.intro [0, 1] (And.intro ⟨⟨by omega, ho, hR⟩, (by show d < d + 1; omega)⟩ ⟨⟨rfl, rfl, rfl, rfl, rfl, rfl, rfl, rfl, trivial⟩, ⟨rfl, rfl, trivial⟩, rfl⟩))
  · rw [if_neg hin] at hfac
    rw [Nat.mod_eq_sub_mod (by omega), Nat.mod_eq_of_lt (show i - n < n by omega)] at e1
    rw [Nat.mod_eq_sub_mod (by omega), Nat.mod_eq_of_lt (show k - n < n by omega)] at e2
    have c1 := s_ilett u n ((i - n : Nat) : Int) (2 * n - 1 - i) (by omega) (by omega) (by omega) (by omega)
    have c2 := s_ilett v n ((k - n : Nat) : Int) (2 * n - 1 - k) (by omega) (by omega) (by omega) (by omega)
    have c3 := s_ilett v n ((i - n : Nat) : Int) (2 * n - 1 - i) (by omega) (by omega) (by omega) (by omega)
    rcases lt1_01 v (2 * n - 1 - i) with ha | ha <;> rcases lt1_01 v (2 * n - 1 - k) with hb | hb <;> rw [ha, hb] at hfac <;> rw [ha] at c3 <;> rw [hb] at c2
    · rw [if_pos rfl] at hfac
      rw [entF_n hfac] at hR
      (repeat' (first | refine Exists.intro _ (And.intro hat ?_) | refine And.intro hn0 ?_ | refine Exists.intro _ (And.intro e1 ?_) | refine Exists.intro _ (And.intro e2 ?_) | refine (c1).pure rfl ?_ | refine (c2).pure rfl ?_ | refine (c3).pure rfl ?_ | refine And.intro (neI rfl) ?_ | refine And.intro ⟨rfl, leR rfl, onesR rfl⟩ ?_ | refine And.intro ⟨rfl, leR rfl⟩ ?_ | refine draw_rule2 hfol (fun KK hKK => ?_) | refine hKK _ _ _ (by kernel_rfl) ?_ | refine region_rule (fun KK hKK => ?_) | refine hKK _ _ ?_ | refine And.intro (Eq.refl true) ?_ | refine Exists.intro _ (And.intro (wI (by omega)) ?_) | refine Exists.intro _ (And.intro (wU (by omega)) ?_) | refine Exists.intro _ (And.intro ⟨rfl, by omega⟩ ?_) | refine Exists.intro _ (And.intro rfl ?_) | refine And.intro rfl ?_ | refine And.intro ⟨rfl, rfl⟩ ?_ | ((refine And.intro (fun _ => ?_) (fun _ => ?_)) <;> try (exfalso; omega))))
      exact Exists.intro [0] (And.intro (by rw [← hR]; rfl) (And.intro ⟨rfl, trivial⟩ rfl))
    · rw [if_neg (by decide), if_pos rfl] at hfac
      rw [entF_f hfac, mulmod] at hR
      have hb2 := mulbd (o := o) (f := r) (p := p) (by omega) (by omega)
      have hbd := tmod_bd (x := o * r) (p := p) (by omega)
      have e3 : IntKind.i64.wrap (o * r) = o * r := wI (by omega)
      (repeat' (first | refine Exists.intro _ (And.intro hat ?_) | refine And.intro hn0 ?_ | refine Exists.intro _ (And.intro e1 ?_) | refine Exists.intro _ (And.intro e2 ?_) | refine (c1).pure rfl ?_ | refine (c2).pure rfl ?_ | refine (c3).pure rfl ?_ | refine Exists.intro _ (And.intro e3 ?_) | refine And.intro hp0 ?_ | refine And.intro ⟨rfl, mkL rfl⟩ ?_ | refine And.intro ⟨rfl, row2l mk_len⟩ ?_ | refine Exists.intro [Value.int .i64 r, Value.int .i64 (-1)] (And.intro (row2i mk_len) ?_) | refine And.intro (neI rfl) ?_ | refine And.intro ⟨rfl, leR rfl, onesR rfl⟩ ?_ | refine And.intro ⟨rfl, leR rfl⟩ ?_ | refine draw_rule2 hfol (fun KK hKK => ?_) | refine hKK _ _ _ (by kernel_rfl) ?_ | refine region_rule (fun KK hKK => ?_) | refine hKK _ _ ?_ | refine And.intro (Eq.refl true) ?_ | refine Exists.intro _ (And.intro (wI (by omega)) ?_) | refine Exists.intro _ (And.intro (wU (by omega)) ?_) | refine Exists.intro _ (And.intro ⟨rfl, by omega⟩ ?_) | refine Exists.intro _ (And.intro rfl ?_) | refine And.intro rfl ?_ | refine And.intro ⟨rfl, rfl⟩ ?_ | ((refine And.intro (fun _ => ?_) (fun _ => ?_)) <;> try (exfalso; omega))))
      refine Exists.intro (d, i + 1, Int.tmod (o * r) p) (Exists.intro [0, 1] (And.intro ⟨⟨by omega, hbd, by rw [tmod_emod]; exact hR⟩, (by show d < d + 1; omega)⟩ ⟨⟨rfl, rfl, rfl, rfl, rfl, rfl, rfl, rfl, trivial⟩, ⟨rfl, rfl, trivial⟩, rfl⟩))
    · rw [if_neg (by decide), if_neg (by decide)] at hfac
      rw [entF_f hfac, mulmod] at hR
      have hb2 := mulbd (o := o) (f := (-1)) (p := p) (by omega) (by omega)
      have hbd := tmod_bd (x := o * (-1)) (p := p) (by omega)
      have e3 : IntKind.i64.wrap (o * (-1)) = o * (-1) := wI (by omega)
      (repeat' (first | refine Exists.intro _ (And.intro hat ?_) | refine And.intro hn0 ?_ | refine Exists.intro _ (And.intro e1 ?_) | refine Exists.intro _ (And.intro e2 ?_) | refine (c1).pure rfl ?_ | refine (c2).pure rfl ?_ | refine (c3).pure rfl ?_ | refine Exists.intro _ (And.intro e3 ?_) | refine And.intro hp0 ?_ | refine And.intro ⟨rfl, mkL rfl⟩ ?_ | refine And.intro ⟨rfl, row2l mk_len⟩ ?_ | refine Exists.intro [Value.int .i64 r, Value.int .i64 (-1)] (And.intro (row2i mk_len) ?_) | refine And.intro (neI rfl) ?_ | refine And.intro ⟨rfl, leR rfl, onesR rfl⟩ ?_ | refine And.intro ⟨rfl, leR rfl⟩ ?_ | refine draw_rule2 hfol (fun KK hKK => ?_) | refine hKK _ _ _ (by kernel_rfl) ?_ | refine region_rule (fun KK hKK => ?_) | refine hKK _ _ ?_ | refine And.intro (Eq.refl true) ?_ | refine Exists.intro _ (And.intro (wI (by omega)) ?_) | refine Exists.intro _ (And.intro (wU (by omega)) ?_) | refine Exists.intro _ (And.intro ⟨rfl, by omega⟩ ?_) | refine Exists.intro _ (And.intro rfl ?_) | refine And.intro rfl ?_ | refine And.intro ⟨rfl, rfl⟩ ?_ | ((refine And.intro (fun _ => ?_) (fun _ => ?_)) <;> try (exfalso; omega))))
      refine Exists.intro (d, i + 1, Int.tmod (o * (-1)) p) (Exists.intro [0, 1] (And.intro ⟨⟨by omega, hbd, by rw [tmod_emod]; exact hR⟩, (by show d < d + 1; omega)⟩ ⟨⟨rfl, rfl, rfl, rfl, rfl, rfl, rfl, rfl, trivial⟩, ⟨rfl, rfl, trivial⟩, rfl⟩))
    · rw [if_pos rfl] at hfac
      rw [entF_n hfac] at hR
      (repeat' (first | refine Exists.intro _ (And.intro hat ?_) | refine And.intro hn0 ?_ | refine Exists.intro _ (And.intro e1 ?_) | refine Exists.intro _ (And.intro e2 ?_) | refine (c1).pure rfl ?_ | refine (c2).pure rfl ?_ | refine (c3).pure rfl ?_ | refine And.intro (neI rfl) ?_ | refine And.intro ⟨rfl, leR rfl, onesR rfl⟩ ?_ | refine And.intro ⟨rfl, leR rfl⟩ ?_ | refine draw_rule2 hfol (fun KK hKK => ?_) | refine hKK _ _ _ (by kernel_rfl) ?_ | refine region_rule (fun KK hKK => ?_) | refine hKK _ _ ?_ | refine And.intro (Eq.refl true) ?_ | refine Exists.intro _ (And.intro (wI (by omega)) ?_) | refine Exists.intro _ (And.intro (wU (by omega)) ?_) | refine Exists.intro _ (And.intro ⟨rfl, by omega⟩ ?_) | refine Exists.intro _ (And.intro rfl ?_) | refine And.intro rfl ?_ | refine And.intro ⟨rfl, rfl⟩ ?_ | ((refine And.intro (fun _ => ?_) (fun _ => ?_)) <;> try (exfalso; omega))))
      exact Exists.intro [0] (And.intro (by rw [← hR]; rfl) (And.intro ⟨rfl, trivial⟩ rfl))
end Go.Proofs.Ytimigbgpldjefaa.VE
