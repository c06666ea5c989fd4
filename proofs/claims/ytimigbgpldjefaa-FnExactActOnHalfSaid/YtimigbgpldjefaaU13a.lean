/- Contracts of functions of the given program, for all arguments that the contract names; see each theorem. -/
import Derived.Test.YtimigbgpldjefaaU10b
set_option linter.all false
namespace Go.Proofs.Ytimigbgpldjefaa.VE
open Go
set_option maxHeartbeats 800000
set_option maxRecDepth 100000

/-- The half of a diagram from a point on. -/
def hch (n : Nat) (m : List Nat) (fr i : Nat) : UInt8 := if fr ≤ m.getD (fr + i) 0 ∧ m.getD (fr + i) 0 < fr + n then (if fr + i < m.getD (fr + i) 0 then 40 else 41) else 124
def hL (n : Nat) (m : List Nat) (fr k : Nat) : List UInt8 := (List.range k).map (hch n m fr)
def hB (n : Nat) (m : List Nat) (fr k : Nat) : ByteArray := ⟨(hL n m fr k).toArray⟩
def hC (n : Nat) (m : List Nat) (fr k : Nat) : List Value := (hL n m fr k).map fun b => .int .u8 b.toNat
theorem hC_succ {n : Nat} {m : List Nat} {fr k : Nat} {b : UInt8} (h : hch n m fr k = b) {x : Int} (hx : ((b.toNat : Nat) : Int) = x) : hC n m fr k ++ [.int .u8 x] = hC n m fr (k + 1) := by
  simp [hC, hL, List.range_succ, h, hx]

theorem div_side {n fr x : Nat} (hf : fr = 0 ∨ fr = n) (hx : x < 2 * n) : (x / n = fr / n) ↔ (fr ≤ x ∧ x < fr + n) := by
  have hn : 0 < n := by omega
  rcases hf with rfl | rfl
  · rw [Nat.zero_div, Nat.div_eq_zero_iff]; omega
  · rw [Nat.div_self hn]
    constructor
    · intro h
      have := Nat.div_add_mod x fr
      rw [h] at this
      have := Nat.mod_lt x hn
      omega
    · rintro ⟨h1, h2⟩
      rw [Nat.div_eq_iff hn]; omega

theorem s_halfOf (n : Nat) (m : List Nat) (hd : IsV n m) (fr : Nat) (hf : fr = 0 ∨ fr = n) : Spec Try.prog n_i_Diagram_halfOf [.ptr 0 0, vi fr] [.pc (pcl n m) T_i_Diagram] (.raw (.string (hB n m fr n))) [.pc (pcl n m) T_i_Diagram] := by
  have hm := hd.len
  have hn := hd.n8
  have hn1 := hd.n1
  have hfn : fr ≤ n := by omega
  refine SpecW.of_EV hf_i_Diagram_halfOf hc_i_Diagram_halfOf rfl rfl rfl fun w0 B ρ0 _ => ?_
  (repeat' (first | refine (s_n n m).read [0] rfl ⟨rfl, trivial⟩ ?_ | refine And.intro (neI rfl) ?_ | refine And.intro ⟨rfl, leR rfl, onesR rfl⟩ ?_ | refine And.intro ⟨rfl, leR rfl⟩ ?_ | refine draw_rule2 hfol (fun KK hKK => ?_) | refine hKK _ _ _ (by kernel_rfl) ?_ | refine region_rule (fun KK hKK => ?_) | refine hKK _ _ ?_ | refine And.intro (Eq.refl true) ?_ | refine Exists.intro _ (And.intro (wI (by omega)) ?_) | refine Exists.intro _ (And.intro (wU (by omega)) ?_) | refine Exists.intro _ (And.intro ⟨rfl, by omega⟩ ?_) | refine Exists.intro _ (And.intro rfl ?_) | refine And.intro rfl ?_ | refine And.intro ⟨rfl, rfl⟩ ?_ | ((refine And.intro (fun _ => ?_) (fun _ => ?_)) <;> try (exfalso; omega))))
  refine loop_rule (α := Nat) (fun i => i ≤ n)
    (fun i => [(0, .ptr 0 0), (1, vi fr), (5, vi n), (6, .sl 1), (12, vi n), (13, vi i)])
    (fun i => [.pc (pcl n m) T_i_Diagram, .pr T_uint8 1 i (hC n m fr i)]) (fun i => n - i) 0 [0, 1]
    (by omega) ⟨⟨rfl, rfl, rfl, rfl, rfl, rfl, trivial⟩, ⟨rfl, rfl, trivial⟩, rfl⟩ ?_
  rintro i g hi
  by_cases h9 : i = n
  · subst h9
    (repeat' (first | refine Exists.intro (hL i m fr i) (And.intro rfl ?_) | refine And.intro (neI rfl) ?_ | refine And.intro ⟨rfl, leR rfl, onesR rfl⟩ ?_ | refine And.intro ⟨rfl, leR rfl⟩ ?_ | refine draw_rule2 hfol (fun KK hKK => ?_) | refine hKK _ _ _ (by kernel_rfl) ?_ | refine region_rule (fun KK hKK => ?_) | refine hKK _ _ ?_ | refine And.intro (Eq.refl true) ?_ | refine Exists.intro _ (And.intro (wI (by omega)) ?_) | refine Exists.intro _ (And.intro (wU (by omega)) ?_) | refine Exists.intro _ (And.intro ⟨rfl, by omega⟩ ?_) | refine Exists.intro _ (And.intro rfl ?_) | refine And.intro rfl ?_ | refine And.intro ⟨rfl, rfl⟩ ?_ | ((refine And.intro (fun _ => ?_) (fun _ => ?_)) <;> try (exfalso; omega))))
    exact Exists.intro [0] (And.intro (rfl) (And.intro ⟨rfl, trivial⟩ rfl))
  have hil : i < n := by omega
  have hb := hd.lt (fr + i) (by omega)
  have hs := div_side hf hb
  have hfi : IntKind.i64.wrap ((fr : Int) + (i : Int)) = ((fr + i : Nat) : Int) := wC (by omega) (by omega)
  have e1 : IntKind.i64.wrap (Int.tdiv ((m.getD (fr + i) 0 : Nat) : Int) (n : Int)) = ((m.getD (fr + i) 0 / n : Nat) : Int) := by
    rw [tdN]; have h2 := Nat.div_le_self (m.getD (fr + i) 0) n; generalize m.getD (fr + i) 0 / n = q at h2 ⊢; exact wI (by omega)
  have e2 : IntKind.i64.wrap (Int.tdiv (fr : Int) (n : Int)) = ((fr / n : Nat) : Int) := by
    rw [tdN]; have h2 := Nat.div_le_self fr n; generalize fr / n = q at h2 ⊢; exact wI (by omega)
  have hn0 : (n : Int) ≠ 0 := by omega
  by_cases h1 : fr ≤ m.getD (fr + i) 0 ∧ m.getD (fr + i) 0 < fr + n
  rotate_left
  · have hne : m.getD (fr + i) 0 / n ≠ fr / n := fun h => h1 (hs.1 h)
    have hch1 : hch n m fr i = 124 := by simp only [hch, if_neg h1]
    generalize m.getD (fr + i) 0 / n = q1 at e1 hne
    generalize fr / n = q2 at e2 hne
    (repeat' (first | refine Exists.intro _ (And.intro (pcl_at (by omega)) ?_) | refine Exists.intro _ (And.intro hfi ?_) | refine Exists.intro _ (And.intro e1 ?_) | refine Exists.intro _ (And.intro e2 ?_) | refine And.intro hn0 ?_ | refine And.intro ⟨rfl, mkL rfl⟩ ?_ | refine Exists.intro [Value.int .u8 124] (And.intro (row1s (mkL' rfl)) ?_) | refine Exists.intro (hC n m fr (i + 1)) (And.intro ⟨rfl, onesR rfl, by omega, by omega, hC_succ hch1 rfl⟩ ?_) | refine And.intro (neI rfl) ?_ | refine And.intro ⟨rfl, leR rfl, onesR rfl⟩ ?_ | refine And.intro ⟨rfl, leR rfl⟩ ?_ | refine draw_rule2 hfol (fun KK hKK => ?_) | refine hKK _ _ _ (by kernel_rfl) ?_ | refine region_rule (fun KK hKK => ?_) | refine hKK _ _ ?_ | refine And.intro (Eq.refl true) ?_ | refine Exists.intro _ (And.intro (wI (by omega)) ?_) | refine Exists.intro _ (And.intro (wU (by omega)) ?_) | refine Exists.intro _ (And.intro ⟨rfl, by omega⟩ ?_) | refine Exists.intro _ (And.intro rfl ?_) | refine And.intro rfl ?_ | refine And.intro ⟨rfl, rfl⟩ ?_ | ((refine And.intro (fun _ => ?_) (fun _ => ?_)) <;> try (exfalso; omega))))
    refine Exists.intro (i + 1) (Exists.intro [0, 3] (And.intro ⟨by omega, (by show n - (i + 1) < n - i; omega)⟩ ⟨⟨rfl, rfl, rfl, rfl, rfl, rfl, trivial⟩, ⟨rfl, rfl, trivial⟩, rfl⟩))
  have heq : m.getD (fr + i) 0 / n = fr / n := hs.2 h1
  generalize m.getD (fr + i) 0 / n = q1 at e1 heq
  generalize fr / n = q2 at e2 heq
  by_cases h2 : fr + i < m.getD (fr + i) 0
  · have hch1 : hch n m fr i = 40 := by simp only [hch, if_pos h1, if_pos h2]
    (repeat' (first | refine Exists.intro _ (And.intro (pcl_at (by omega)) ?_) | refine Exists.intro _ (And.intro hfi ?_) | refine Exists.intro _ (And.intro e1 ?_) | refine Exists.intro _ (And.intro e2 ?_) | refine And.intro hn0 ?_ | refine And.intro ⟨rfl, mkL rfl⟩ ?_ | refine Exists.intro [Value.int .u8 40] (And.intro (row1s (mkL' rfl)) ?_) | refine Exists.intro (hC n m fr (i + 1)) (And.intro ⟨rfl, onesR rfl, by omega, by omega, hC_succ hch1 rfl⟩ ?_) | refine And.intro (neI rfl) ?_ | refine And.intro ⟨rfl, leR rfl, onesR rfl⟩ ?_ | refine And.intro ⟨rfl, leR rfl⟩ ?_ | refine draw_rule2 hfol (fun KK hKK => ?_) | refine hKK _ _ _ (by kernel_rfl) ?_ | refine region_rule (fun KK hKK => ?_) | refine hKK _ _ ?_ | refine And.intro (Eq.refl true) ?_ | refine Exists.intro _ (And.intro (wI (by omega)) ?_) | refine Exists.intro _ (And.intro (wU (by omega)) ?_) | refine Exists.intro _ (And.intro ⟨rfl, by omega⟩ ?_) | refine Exists.intro _ (And.intro rfl ?_) | refine And.intro rfl ?_ | refine And.intro ⟨rfl, rfl⟩ ?_ | ((refine And.intro (fun _ => ?_) (fun _ => ?_)) <;> try (exfalso; omega))))
    refine Exists.intro (i + 1) (Exists.intro [0, 3] (And.intro ⟨by omega, (by show n - (i + 1) < n - i; omega)⟩ ⟨⟨rfl, rfl, rfl, rfl, rfl, rfl, trivial⟩, ⟨rfl, rfl, trivial⟩, rfl⟩))
  · have hch1 : hch n m fr i = 41 := by simp only [hch, if_pos h1, if_neg h2]
    (repeat' (first | refine Exists.intro _ (And.intro (pcl_at (by omega)) ?_) | refine Exists.intro _ (And.intro hfi ?_) | refine Exists.intro _ (And.intro e1 ?_) | refine Exists.intro _ (And.intro e2 ?_) | refine And.intro hn0 ?_ | refine And.intro ⟨rfl, mkL rfl⟩ ?_ | refine Exists.intro [Value.int .u8 41] (And.intro (row1s (mkL' rfl)) ?_) | refine Exists.intro (hC n m fr (i + 1)) (And.intro ⟨rfl, onesR rfl, by omega, by omega, hC_succ hch1 rfl⟩ ?_) | refine And.intro (neI rfl) ?_ | refine And.intro ⟨rfl, leR rfl, onesR rfl⟩ ?_ | refine And.intro ⟨rfl, leR rfl⟩ ?_ | refine draw_rule2 hfol (fun KK hKK => ?_) | refine hKK _ _ _ (by kernel_rfl) ?_ | refine region_rule (fun KK hKK => ?_) | refine hKK _ _ ?_ | refine And.intro (Eq.refl true) ?_ | refine Exists.intro _ (And.intro (wI (by omega)) ?_) | refine Exists.intro _ (And.intro (wU (by omega)) ?_) | refine Exists.intro _ (And.intro ⟨rfl, by omega⟩ ?_) | refine Exists.intro _ (And.intro rfl ?_) | refine And.intro rfl ?_ | refine And.intro ⟨rfl, rfl⟩ ?_ | ((refine And.intro (fun _ => ?_) (fun _ => ?_)) <;> try (exfalso; omega))))
    refine Exists.intro (i + 1) (Exists.intro [0, 3] (And.intro ⟨by omega, (by show n - (i + 1) < n - i; omega)⟩ ⟨⟨rfl, rfl, rfl, rfl, rfl, rfl, trivial⟩, ⟨rfl, rfl, trivial⟩, rfl⟩))

def frB (b : Bool) (n : Nat) : Nat := match b with | true => n | false => 0
theorem s_shalf (n : Nat) (m : List Nat) (hd : IsV n m) (lower : Bool) : Spec Try.prog n_s_l04Half [pv n m, vb lower] [] (.raw (.string (hB n m (frB lower n) n))) [] := by
  have hm := hd.len
  have hn := hd.n8
  have hn1 := hd.n1
  obtain ⟨fr, hfr⟩ : ∃ fr, frB lower n = fr := ⟨_, rfl⟩
  have hf : fr = 0 ∨ fr = n := by cases lower <;> simp only [frB] at hfr <;> omega
  rw [hfr]
  refine SpecW.of_EV hf_s_l04Half hc_s_l04Half rfl rfl rfl fun w0 B ρ0 _ => ?_
  have hslot : (vi fr : V) = (match lower with | true => vi n | false => vi 0) := by cases lower <;> simp only [frB] at hfr <;> subst hfr <;> rfl
  cases lower <;>
  · (repeat' (first | refine And.intro (neI rfl) ?_ | refine And.intro ⟨rfl, leR rfl, onesR rfl⟩ ?_ | refine And.intro ⟨rfl, leR rfl⟩ ?_ | refine draw_rule2 hfol (fun KK hKK => ?_) | refine hKK _ _ _ (by kernel_rfl) ?_ | refine region_rule (fun KK hKK => ?_) | refine hKK _ _ ?_ | refine And.intro (Eq.refl true) ?_ | refine Exists.intro _ (And.intro (wI (by omega)) ?_) | refine Exists.intro _ (And.intro (wU (by omega)) ?_) | refine Exists.intro _ (And.intro ⟨rfl, by omega⟩ ?_) | refine Exists.intro _ (And.intro rfl ?_) | refine And.intro rfl ?_ | refine And.intro ⟨rfl, rfl⟩ ?_ | ((refine And.intro (fun _ => ?_) (fun _ => ?_)) <;> try (exfalso; omega))))
    refine loop_rule (α := Nat) (fun i => i ≤ n)
      (fun i => [(2, .ptr 0 0), (5, .sl 1), (6, vi fr), (7, vi (fr + i : Nat))])
      (fun i => [.pc (pcl n m) T_i_Diagram, .pr T_uint8 1 i (hC n m fr i)]) (fun i => n - i) 0 [0, 1]
      (by omega) ⟨⟨rfl, rfl, hslot.symm, hslot.symm, trivial⟩, ⟨rfl, rfl, trivial⟩, rfl⟩ ?_
    clear hslot
    rintro i g hi
    have hlt : ((fr + i : Nat) : Int) = (fr : Int) + (i : Int) := by omega
    by_cases h9 : i = n
    · subst h9
      (repeat' (first | refine Exists.intro (hL i m fr i) (And.intro rfl ?_) | refine And.intro (neI rfl) ?_ | refine And.intro ⟨rfl, leR rfl, onesR rfl⟩ ?_ | refine And.intro ⟨rfl, leR rfl⟩ ?_ | refine draw_rule2 hfol (fun KK hKK => ?_) | refine hKK _ _ _ (by kernel_rfl) ?_ | refine region_rule (fun KK hKK => ?_) | refine hKK _ _ ?_ | refine And.intro (Eq.refl true) ?_ | refine Exists.intro _ (And.intro (wI (by omega)) ?_) | refine Exists.intro _ (And.intro (wU (by omega)) ?_) | refine Exists.intro _ (And.intro ⟨rfl, by omega⟩ ?_) | refine Exists.intro _ (And.intro rfl ?_) | refine And.intro rfl ?_ | refine And.intro ⟨rfl, rfl⟩ ?_ | ((refine And.intro (fun _ => ?_) (fun _ => ?_)) <;> try (exfalso; omega))))
      exact Exists.intro [] (And.intro (rfl) (And.intro trivial rfl))
    have hil : i < n := by omega
    have hb := hd.lt (fr + i) (by omega)
    have hin := s_in ((m.getD (fr + i) 0 : Nat) : Int) (fr : Int) ((fr : Int) + (n : Int) - 1)
    have hsucc : IntKind.i64.wrap (((fr + i : Nat) : Int) + 1) = ((fr + (i + 1) : Nat) : Int) := wC (by omega) (by omega)
    by_cases h1 : fr ≤ m.getD (fr + i) 0 ∧ m.getD (fr + i) 0 < fr + n
    rotate_left
    · have hch1 : hch n m fr i = 124 := by simp only [hch, if_neg h1]
      rw [decide_eq_false (by omega)] at hin
      (repeat' (first | refine Exists.intro _ (And.intro (pcl_at (by omega)) ?_) | refine (hin).pure rfl ?_ | refine Exists.intro _ (And.intro hsucc ?_) | refine And.intro ⟨rfl, mkL rfl⟩ ?_ | refine Exists.intro [Value.int .u8 124] (And.intro (row1s (mkL' rfl)) ?_) | refine Exists.intro (hC n m fr (i + 1)) (And.intro ⟨rfl, onesR rfl, by omega, by omega, hC_succ hch1 rfl⟩ ?_) | refine And.intro (neI rfl) ?_ | refine And.intro ⟨rfl, leR rfl, onesR rfl⟩ ?_ | refine And.intro ⟨rfl, leR rfl⟩ ?_ | refine draw_rule2 hfol (fun KK hKK => ?_) | refine hKK _ _ _ (by kernel_rfl) ?_ | refine region_rule (fun KK hKK => ?_) | refine hKK _ _ ?_ | refine And.intro (Eq.refl true) ?_ | refine Exists.intro _ (And.intro (wI (by omega)) ?_) | refine Exists.intro _ (And.intro (wU (by omega)) ?_) | refine Exists.intro _ (And.intro ⟨rfl, by omega⟩ ?_) | refine Exists.intro _ (And.intro rfl ?_) | refine And.intro rfl ?_ | refine And.intro ⟨rfl, rfl⟩ ?_ | ((refine And.intro (fun _ => ?_) (fun _ => ?_)) <;> try (exfalso; omega))))
      refine Exists.intro (i + 1) (Exists.intro [0, 3] (And.intro ⟨by omega, (by show n - (i + 1) < n - i; omega)⟩ ⟨⟨rfl, rfl, rfl, rfl, trivial⟩, ⟨rfl, rfl, trivial⟩, rfl⟩))
    rw [decide_eq_true (by omega)] at hin
    by_cases h2 : fr + i < m.getD (fr + i) 0
    · have hch1 : hch n m fr i = 40 := by simp only [hch, if_pos h1, if_pos h2]
      (repeat' (first | refine Exists.intro _ (And.intro (pcl_at (by omega)) ?_) | refine (hin).pure rfl ?_ | refine Exists.intro _ (And.intro hsucc ?_) | refine And.intro ⟨rfl, mkL rfl⟩ ?_ | refine Exists.intro [Value.int .u8 40] (And.intro (row1s (mkL' rfl)) ?_) | refine Exists.intro (hC n m fr (i + 1)) (And.intro ⟨rfl, onesR rfl, by omega, by omega, hC_succ hch1 rfl⟩ ?_) | refine And.intro (neI rfl) ?_ | refine And.intro ⟨rfl, leR rfl, onesR rfl⟩ ?_ | refine And.intro ⟨rfl, leR rfl⟩ ?_ | refine draw_rule2 hfol (fun KK hKK => ?_) | refine hKK _ _ _ (by kernel_rfl) ?_ | refine region_rule (fun KK hKK => ?_) | refine hKK _ _ ?_ | refine And.intro (Eq.refl true) ?_ | refine Exists.intro _ (And.intro (wI (by omega)) ?_) | refine Exists.intro _ (And.intro (wU (by omega)) ?_) | refine Exists.intro _ (And.intro ⟨rfl, by omega⟩ ?_) | refine Exists.intro _ (And.intro rfl ?_) | refine And.intro rfl ?_ | refine And.intro ⟨rfl, rfl⟩ ?_ | ((refine And.intro (fun _ => ?_) (fun _ => ?_)) <;> try (exfalso; omega))))
      refine Exists.intro (i + 1) (Exists.intro [0, 3] (And.intro ⟨by omega, (by show n - (i + 1) < n - i; omega)⟩ ⟨⟨rfl, rfl, rfl, rfl, trivial⟩, ⟨rfl, rfl, trivial⟩, rfl⟩))
    · have hch1 : hch n m fr i = 41 := by simp only [hch, if_pos h1, if_neg h2]
      (repeat' (first | refine Exists.intro _ (And.intro (pcl_at (by omega)) ?_) | refine (hin).pure rfl ?_ | refine Exists.intro _ (And.intro hsucc ?_) | refine And.intro ⟨rfl, mkL rfl⟩ ?_ | refine Exists.intro [Value.int .u8 41] (And.intro (row1s (mkL' rfl)) ?_) | refine Exists.intro (hC n m fr (i + 1)) (And.intro ⟨rfl, onesR rfl, by omega, by omega, hC_succ hch1 rfl⟩ ?_) | refine And.intro (neI rfl) ?_ | refine And.intro ⟨rfl, leR rfl, onesR rfl⟩ ?_ | refine And.intro ⟨rfl, leR rfl⟩ ?_ | refine draw_rule2 hfol (fun KK hKK => ?_) | refine hKK _ _ _ (by kernel_rfl) ?_ | refine region_rule (fun KK hKK => ?_) | refine hKK _ _ ?_ | refine And.intro (Eq.refl true) ?_ | refine Exists.intro _ (And.intro (wI (by omega)) ?_) | refine Exists.intro _ (And.intro (wU (by omega)) ?_) | refine Exists.intro _ (And.intro ⟨rfl, by omega⟩ ?_) | refine Exists.intro _ (And.intro rfl ?_) | refine And.intro rfl ?_ | refine And.intro ⟨rfl, rfl⟩ ?_ | ((refine And.intro (fun _ => ?_) (fun _ => ?_)) <;> try (exfalso; omega))))
      refine Exists.intro (i + 1) (Exists.intro [0, 3] (And.intro ⟨by omega, (by show n - (i + 1) < n - i; omega)⟩ ⟨⟨rfl, rfl, rfl, rfl, trivial⟩, ⟨rfl, rfl, trivial⟩, rfl⟩))

end Go.Proofs.Ytimigbgpldjefaa.VE
