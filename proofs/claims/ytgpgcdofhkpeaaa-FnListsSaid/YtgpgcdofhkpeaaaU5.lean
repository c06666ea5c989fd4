/- Contracts of functions of the given program, for all arguments that the contract names; see each theorem. -/
import Derived.Test.YtgpgcdofhkpeaaaU3
set_option linter.all false
namespace Go.Proofs.Ytgpgcdofhkpeaaa.VE
open Go
set_option maxHeartbeats 800000
set_option maxRecDepth 100000

theorem tup2 {a b c d : Int} (h1 : a = c) (h2 : b = d) : V.tup [vi a, vi b] = V.tup [vi c, vi d] := by rw [h1, h2]
theorem s_ends (n : Nat) (m : List Nat) (i : Nat) (hm : m.length = 16) (hn : n ≤ 8) (hi : i < 2 * n) (hb : m.getD i 0 < 2 * n) :
    Spec Try.prog n_s_l01Ends [pv n m, vi i] [] (.tup [vi (min (plc n i) (plc n (m.getD i 0)) : Nat), vi (max (plc n i) (plc n (m.getD i 0)) : Nat)]) [] := by
  have h1 := s_place n i (by omega) hi
  have h2 := s_place n (m.getD i 0) (by omega) hb
  refine SpecW.of_EV hf_s_l01Ends hc_s_l01Ends rfl rfl rfl fun w0 B ρ0 _ => ?_
  (repeat' (first | refine h1.pure rfl ?_ | refine h2.pure rfl ?_ | refine Exists.intro _ (And.intro (pcl_at (by omega)) ?_) | refine And.intro (neI rfl) ?_ | refine And.intro ⟨rfl, leR rfl, onesR rfl⟩ ?_ | refine And.intro ⟨rfl, leR rfl⟩ ?_ | refine draw_rule2 hfol (fun KK hKK => ?_) | refine hKK _ _ _ (by kernel_rfl) ?_ | refine region_rule (fun KK hKK => ?_) | refine hKK _ _ ?_ | refine And.intro (Eq.refl true) ?_ | refine Exists.intro _ (And.intro (wI (by omega)) ?_) | refine Exists.intro _ (And.intro (wU (by omega)) ?_) | refine Exists.intro _ (And.intro ⟨rfl, by omega⟩ ?_) | refine Exists.intro _ (And.intro rfl ?_) | refine And.intro rfl ?_ | refine And.intro ⟨rfl, rfl⟩ ?_ | ((refine And.intro (fun _ => ?_) (fun _ => ?_)) <;> try (exfalso; omega))))
  exact Exists.intro [] (And.intro (tup2 (by split <;> omega) (by split <;> omega)) (And.intro trivial rfl))

def ckS (n : Nat) (m : List Nat) : Nat → Nat → Bool
  | 0, _ => true
  | d + 1, i => if 2 * n ≤ i then (if m.getD i 0 ≠ 0 then false else ckS n m d (i + 1)) else if 2 * n ≤ m.getD i 0 ∨ m.getD i 0 = i ∨ m.getD (m.getD i 0) 0 ≠ i then false else ckS n m d (i + 1)
def ckSA (n : Nat) (m : List Nat) : Bool := ckS n m 16 0
def ea (n : Nat) (m : List Nat) (i : Nat) : Nat := min (plc n i) (plc n (m.getD i 0))
def eb (n : Nat) (m : List Nat) (i : Nat) : Nat := max (plc n i) (plc n (m.getD i 0))
def crI (n : Nat) (m : List Nat) (i : Nat) : Nat → Nat → Bool
  | 0, _ => true
  | d + 1, k => if ea n m i < ea n m k ∧ ea n m k < eb n m i ∧ eb n m i < eb n m k then false else crI n m i d (k + 1)
def crIA (n : Nat) (m : List Nat) (i : Nat) : Bool := crI n m i (2 * n) 0
def crO (n : Nat) (m : List Nat) : Nat → Nat → Bool
  | 0, _ => true
  | d + 1, i => if crIA n m i then crO n m d (i + 1) else false
def crOA (n : Nat) (m : List Nat) : Bool := crO n m (2 * n) 0
def isDs (s : Int) (m : List Nat) : Bool := decide (1 ≤ s ∧ s ≤ 8) && (ckSA s.toNat m && crOA s.toNat m)
theorem ckS_lt {n : Nat} {m : List Nat} : ∀ d i, ckS n m d i = true → ∀ j, i ≤ j → j < i + d → j < 2 * n → m.getD j 0 < 2 * n
  | 0, i, _, j, h1, h2, _ => by omega
  | d + 1, i, h, j, h1, h2, h3 => by
    unfold ckS at h
    split at h
    · split at h
      · cases h
      · by_cases hj : j = i
        · omega
        · exact ckS_lt d (i + 1) h j (by omega) (by omega) h3
    · split at h
      · cases h
      · rename_i h4
        by_cases hj : j = i
        · subst hj; omega
        · exact ckS_lt d (i + 1) h j (by omega) (by omega) h3

theorem s_sIs (s : Int) (m : List Nat) (hm : m.length = 16) (hb : ∀ x ∈ m, x < 256) : Spec Try.prog n_s_l01Is [pv s m] [] (vb (isDs s m)) [] := by
  have hin := s_in s 1 8
  refine SpecW.of_EV hf_s_l01Is hc_s_l01Is rfl rfl rfl fun w0 B ρ0 _ => ?_
  by_cases h1 : 1 ≤ s ∧ s ≤ 8
  rotate_left
  · rw [decide_eq_false h1] at hin
    (repeat' (first | refine hin.pure rfl ?_ | refine And.intro (neI rfl) ?_ | refine And.intro ⟨rfl, leR rfl, onesR rfl⟩ ?_ | refine And.intro ⟨rfl, leR rfl⟩ ?_ | refine draw_rule2 hfol (fun KK hKK => ?_) | refine hKK _ _ _ (by kernel_rfl) ?_ | refine region_rule (fun KK hKK => ?_) | refine hKK _ _ ?_ | refine And.intro (Eq.refl true) ?_ | refine Exists.intro _ (And.intro (wI (by omega)) ?_) | refine Exists.intro _ (And.intro (wU (by omega)) ?_) | refine Exists.intro _ (And.intro ⟨rfl, by omega⟩ ?_) | refine Exists.intro _ (And.intro rfl ?_) | refine And.intro rfl ?_ | refine And.intro ⟨rfl, rfl⟩ ?_ | ((refine And.intro (fun _ => ?_) (fun _ => ?_)) <;> try (exfalso; omega))))
    exact finP (vbR (by simp [isDs, h1]))
  rw [decide_eq_true h1] at hin
  obtain ⟨n, rfl⟩ : ∃ n : Nat, s = n := ⟨s.toNat, by omega⟩
  (repeat' (first | refine hin.pure rfl ?_ | refine And.intro (neI rfl) ?_ | refine And.intro ⟨rfl, leR rfl, onesR rfl⟩ ?_ | refine And.intro ⟨rfl, leR rfl⟩ ?_ | refine draw_rule2 hfol (fun KK hKK => ?_) | refine hKK _ _ _ (by kernel_rfl) ?_ | refine region_rule (fun KK hKK => ?_) | refine hKK _ _ ?_ | refine And.intro (Eq.refl true) ?_ | refine Exists.intro _ (And.intro (wI (by omega)) ?_) | refine Exists.intro _ (And.intro (wU (by omega)) ?_) | refine Exists.intro _ (And.intro ⟨rfl, by omega⟩ ?_) | refine Exists.intro _ (And.intro rfl ?_) | refine And.intro rfl ?_ | refine And.intro ⟨rfl, rfl⟩ ?_ | ((refine And.intro (fun _ => ?_) (fun _ => ?_)) <;> try (exfalso; omega))))
  refine loop_rule (α := Nat) (fun i => i ≤ 16 ∧ ckS n m (16 - i) i = ckSA n m)
    (fun i => [(1, .ptr 0 0), (3, vi n), (4, vi i)]) (fun i => [.pc (pcl n m) T_i_Diagram]) (fun i => 16 - i) 0 [0]
    ⟨by omega, rfl⟩ ⟨⟨rfl, rfl, rfl, trivial⟩, ⟨rfl, trivial⟩, rfl⟩ ?_
  rintro i g ⟨hi, hR⟩
  by_cases h9 : i = 16
  rotate_left
  · have hil : i < 16 := by omega
    obtain ⟨d, hd⟩ : ∃ d, 16 - i = d + 1 := ⟨16 - i - 1, by omega⟩
    have hd' : 16 - (i + 1) = d := by omega
    rw [hd] at hR
    unfold ckS at hR
    have hb1 := getD_lt hb i
    have hb2 := getD_lt hb (m.getD i 0)
    (repeat' (first | refine Exists.intro _ (And.intro (pcl_at (by omega)) ?_) | refine And.intro (neI rfl) ?_ | refine And.intro ⟨rfl, leR rfl, onesR rfl⟩ ?_ | refine And.intro ⟨rfl, leR rfl⟩ ?_ | refine draw_rule2 hfol (fun KK hKK => ?_) | refine hKK _ _ _ (by kernel_rfl) ?_ | refine region_rule (fun KK hKK => ?_) | refine hKK _ _ ?_ | refine And.intro (Eq.refl true) ?_ | refine Exists.intro _ (And.intro (wI (by omega)) ?_) | refine Exists.intro _ (And.intro (wU (by omega)) ?_) | refine Exists.intro _ (And.intro ⟨rfl, by omega⟩ ?_) | refine Exists.intro _ (And.intro rfl ?_) | refine And.intro rfl ?_ | refine And.intro ⟨rfl, rfl⟩ ?_ | ((refine And.intro (fun _ => ?_) (fun _ => ?_)) <;> try (exfalso; omega))))
    all_goals first
      | exact finP (vbR (by simp only [isDs, Int.toNat_natCast, ← hR]; (repeat' split) <;> first | (exfalso; omega) | simp))
      | (refine Exists.intro (i + 1) (Exists.intro [0] (And.intro ⟨⟨by omega, ?_⟩, (by show 16 - (i + 1) < 16 - i; omega)⟩ ⟨⟨rfl, rfl, rfl, trivial⟩, ⟨rfl, trivial⟩, rfl⟩))
         rw [hd', ← hR]; (repeat' split) <;> first | rfl | (exfalso; omega))
  subst h9
  rw [Nat.sub_self] at hR
  have hck : ckSA n m = true := hR.symm
  have hbd : ∀ j, j < 2 * n → m.getD j 0 < 2 * n := fun j hj => ckS_lt 16 0 hck j (by omega) (by omega) hj
  have hr : isDs n m = crOA n m := by simp only [isDs, Int.toNat_natCast, hck, decide_eq_true h1, Bool.true_and]
  rw [hr]
  (repeat' (first | refine And.intro (neI rfl) ?_ | refine And.intro ⟨rfl, leR rfl, onesR rfl⟩ ?_ | refine And.intro ⟨rfl, leR rfl⟩ ?_ | refine draw_rule2 hfol (fun KK hKK => ?_) | refine hKK _ _ _ (by kernel_rfl) ?_ | refine region_rule (fun KK hKK => ?_) | refine hKK _ _ ?_ | refine And.intro (Eq.refl true) ?_ | refine Exists.intro _ (And.intro (wI (by omega)) ?_) | refine Exists.intro _ (And.intro (wU (by omega)) ?_) | refine Exists.intro _ (And.intro ⟨rfl, by omega⟩ ?_) | refine Exists.intro _ (And.intro rfl ?_) | refine And.intro rfl ?_ | refine And.intro ⟨rfl, rfl⟩ ?_ | ((refine And.intro (fun _ => ?_) (fun _ => ?_)) <;> try (exfalso; omega))))
  refine loop_rule (α := Nat) (fun i => i ≤ 2 * n ∧ crO n m (2 * n - i) i = crOA n m)
    (fun i => [(1, .ptr 0 0), (3, vi n), (6, vi i)]) (fun i => [.pc (pcl n m) T_i_Diagram]) (fun i => 2 * n - i) 0 [0]
    ⟨by omega, rfl⟩ ⟨⟨rfl, rfl, rfl, trivial⟩, ⟨rfl, trivial⟩, rfl⟩ ?_
  rintro i g ⟨hi, hR⟩
  by_cases h9 : i = 2 * n
  · subst h9
    rw [Nat.sub_self] at hR
    (repeat' (first | refine And.intro (neI rfl) ?_ | refine And.intro ⟨rfl, leR rfl, onesR rfl⟩ ?_ | refine And.intro ⟨rfl, leR rfl⟩ ?_ | refine draw_rule2 hfol (fun KK hKK => ?_) | refine hKK _ _ _ (by kernel_rfl) ?_ | refine region_rule (fun KK hKK => ?_) | refine hKK _ _ ?_ | refine And.intro (Eq.refl true) ?_ | refine Exists.intro _ (And.intro (wI (by omega)) ?_) | refine Exists.intro _ (And.intro (wU (by omega)) ?_) | refine Exists.intro _ (And.intro ⟨rfl, by omega⟩ ?_) | refine Exists.intro _ (And.intro rfl ?_) | refine And.intro rfl ?_ | refine And.intro ⟨rfl, rfl⟩ ?_ | ((refine And.intro (fun _ => ?_) (fun _ => ?_)) <;> try (exfalso; omega))))
    exact finP (vbR (by rw [← hR]; rfl))
  have hil : i < 2 * n := by omega
  obtain ⟨d, hd⟩ : ∃ d, 2 * n - i = d + 1 := ⟨2 * n - i - 1, by omega⟩
  have hd' : 2 * n - (i + 1) = d := by omega
  rw [hd] at hR
  unfold crO at hR
  have he1 : Spec Try.prog n_s_l01Ends [pv n m, vi i] [] (.tup [vi (ea n m i : Nat), vi (eb n m i : Nat)]) [] := s_ends n m i hm (by omega) hil (hbd i hil)
  (repeat' (first | refine he1.pure rfl ?_ | refine Exists.intro (pcl n m) (And.intro ⟨pcl_len hm, pcl_all hm⟩ ?_) | refine And.intro (neI rfl) ?_ | refine And.intro ⟨rfl, leR rfl, onesR rfl⟩ ?_ | refine And.intro ⟨rfl, leR rfl⟩ ?_ | refine draw_rule2 hfol (fun KK hKK => ?_) | refine hKK _ _ _ (by kernel_rfl) ?_ | refine region_rule (fun KK hKK => ?_) | refine hKK _ _ ?_ | refine And.intro (Eq.refl true) ?_ | refine Exists.intro _ (And.intro (wI (by omega)) ?_) | refine Exists.intro _ (And.intro (wU (by omega)) ?_) | refine Exists.intro _ (And.intro ⟨rfl, by omega⟩ ?_) | refine Exists.intro _ (And.intro rfl ?_) | refine And.intro rfl ?_ | refine And.intro ⟨rfl, rfl⟩ ?_ | ((refine And.intro (fun _ => ?_) (fun _ => ?_)) <;> try (exfalso; omega))))
  refine loop_rule (α := Nat) (fun k => k ≤ 2 * n ∧ crI n m i (2 * n - k) k = crIA n m i)
    (fun k => [(1, .ptr 0 0), (3, vi n), (6, vi i), (7, vi (ea n m i : Nat)), (8, vi (eb n m i : Nat)), (9, vi k)]) (fun k => [.pc (pcl n m) T_i_Diagram]) (fun k => 2 * n - k) 0 [0]
    ⟨by omega, rfl⟩ ⟨⟨rfl, rfl, rfl, rfl, rfl, rfl, trivial⟩, ⟨rfl, trivial⟩, rfl⟩ ?_
  rintro k g2 ⟨hk, hR2⟩
  by_cases h9 : k = 2 * n
  · subst h9
    rw [Nat.sub_self] at hR2
    have hcr : crIA n m i = true := hR2.symm
    rw [if_pos hcr] at hR
    (repeat' (first | refine And.intro (neI rfl) ?_ | refine And.intro ⟨rfl, leR rfl, onesR rfl⟩ ?_ | refine And.intro ⟨rfl, leR rfl⟩ ?_ | refine draw_rule2 hfol (fun KK hKK => ?_) | refine hKK _ _ _ (by kernel_rfl) ?_ | refine region_rule (fun KK hKK => ?_) | refine hKK _ _ ?_ | refine And.intro (Eq.refl true) ?_ | refine Exists.intro _ (And.intro (wI (by omega)) ?_) | refine Exists.intro _ (And.intro (wU (by omega)) ?_) | refine Exists.intro _ (And.intro ⟨rfl, by omega⟩ ?_) | refine Exists.intro _ (And.intro rfl ?_) | refine And.intro rfl ?_ | refine And.intro ⟨rfl, rfl⟩ ?_ | ((refine And.intro (fun _ => ?_) (fun _ => ?_)) <;> try (exfalso; omega))))
    refine Exists.intro (i + 1) (Exists.intro [0] (And.intro ⟨⟨by omega, by rw [hd']; exact hR⟩, (by show 2 * n - (i + 1) < 2 * n - i; omega)⟩ ⟨⟨rfl, rfl, rfl, trivial⟩, ⟨rfl, trivial⟩, rfl⟩))
  have hkl : k < 2 * n := by omega
  obtain ⟨d2, hd2⟩ : ∃ d, 2 * n - k = d + 1 := ⟨2 * n - k - 1, by omega⟩
  have hd2' : 2 * n - (k + 1) = d2 := by omega
  rw [hd2] at hR2
  unfold crI at hR2
  have he2 : Spec Try.prog n_s_l01Ends [pv n m, vi k] [] (.tup [vi (ea n m k : Nat), vi (eb n m k : Nat)]) [] := s_ends n m k hm (by omega) hkl (hbd k hkl)
  by_cases hx : ea n m i < ea n m k ∧ ea n m k < eb n m i ∧ eb n m i < eb n m k
  · rw [if_pos hx] at hR2
    rw [if_neg (by rw [← hR2]; decide)] at hR
    (repeat' (first | refine he2.pure rfl ?_ | refine Exists.intro (pcl n m) (And.intro ⟨pcl_len hm, pcl_all hm⟩ ?_) | refine And.intro (neI rfl) ?_ | refine And.intro ⟨rfl, leR rfl, onesR rfl⟩ ?_ | refine And.intro ⟨rfl, leR rfl⟩ ?_ | refine draw_rule2 hfol (fun KK hKK => ?_) | refine hKK _ _ _ (by kernel_rfl) ?_ | refine region_rule (fun KK hKK => ?_) | refine hKK _ _ ?_ | refine And.intro (Eq.refl true) ?_ | refine Exists.intro _ (And.intro (wI (by omega)) ?_) | refine Exists.intro _ (And.intro (wU (by omega)) ?_) | refine Exists.intro _ (And.intro ⟨rfl, by omega⟩ ?_) | refine Exists.intro _ (And.intro rfl ?_) | refine And.intro rfl ?_ | refine And.intro ⟨rfl, rfl⟩ ?_ | ((refine And.intro (fun _ => ?_) (fun _ => ?_)) <;> try (exfalso; omega))))
    all_goals exact finP (vbR hR)
  · rw [if_neg hx] at hR2
    (repeat' (first | refine he2.pure rfl ?_ | refine Exists.intro (pcl n m) (And.intro ⟨pcl_len hm, pcl_all hm⟩ ?_) | refine And.intro (neI rfl) ?_ | refine And.intro ⟨rfl, leR rfl, onesR rfl⟩ ?_ | refine And.intro ⟨rfl, leR rfl⟩ ?_ | refine draw_rule2 hfol (fun KK hKK => ?_) | refine hKK _ _ _ (by kernel_rfl) ?_ | refine region_rule (fun KK hKK => ?_) | refine hKK _ _ ?_ | refine And.intro (Eq.refl true) ?_ | refine Exists.intro _ (And.intro (wI (by omega)) ?_) | refine Exists.intro _ (And.intro (wU (by omega)) ?_) | refine Exists.intro _ (And.intro ⟨rfl, by omega⟩ ?_) | refine Exists.intro _ (And.intro rfl ?_) | refine And.intro rfl ?_ | refine And.intro ⟨rfl, rfl⟩ ?_ | ((refine And.intro (fun _ => ?_) (fun _ => ?_)) <;> try (exfalso; omega))))
    all_goals
      refine Exists.intro (k + 1) (Exists.intro [0] (And.intro ⟨⟨by omega, by rw [hd2']; exact hR2⟩, (by show 2 * n - (k + 1) < 2 * n - k; omega)⟩ ⟨⟨rfl, rfl, rfl, rfl, rfl, rfl, trivial⟩, ⟨rfl, trivial⟩, rfl⟩))
end Go.Proofs.Ytgpgcdofhkpeaaa.VE
