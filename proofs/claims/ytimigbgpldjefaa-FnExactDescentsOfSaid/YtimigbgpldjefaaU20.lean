/- Contracts of functions of the given program, for all arguments that the contract names; see each theorem. -/
import Derived.Test.YtimigbgpldjefaaU9
import Derived.Test.YtimigbgpldjefaaU7
import Derived.Test.YtimigbgpldjefaaW1
set_option linter.all false
namespace Go.Proofs.Ytimigbgpldjefaa.VE
open Go
set_option maxHeartbeats 800000
set_option maxRecDepth 100000

theorem s_sIs2 (s : Int) (m : List Nat) (hm : m.length = 16) (hb : ∀ x ∈ m, x < 256) : Spec Try.prog n_s_l01Is [pv s m] [] (vb (isDi s m)) [] := by
  have hq := s_sIs s m hm hb
  rwa [isD_eq s m hm] at hq


/-- The numbers below k that a test takes, in order. -/
def dsF (f : Nat → Bool) : Nat → List Nat
  | 0 => []
  | i + 1 => if f i = true then dsF f i ++ [i] else dsF f i
theorem dsF_len {f : Nat → Bool} : ∀ k, (dsF f k).length ≤ k
  | 0 => Nat.le_refl _
  | k + 1 => by
    have := dsF_len (f := f) k
    unfold dsF; split
    · simp; omega
    · omega
def dl (l : List Nat) : List Value := l.map fun x => .int .i64 ((x : Nat) : Int)
theorem dl_push {l : List Nat} {x : Nat} : dl l ++ [.int .i64 ((x : Nat) : Int)] = dl (l ++ [x]) := by simp [dl]
theorem dl_il (l : List Nat) : dl l = il (fun i => ((l.getD i 0 : Nat) : Int)) l.length := by
  apply List.ext_getElem (by simp [dl, il])
  intro i h1 h2
  have h3 : i < l.length := by simpa [dl] using h1
  simp [dl, il, List.getD_eq_getElem?_getD, h3]
def dup (m : List Nat) (i : Nat) : Bool := decide (m.getD i 0 = i + 1)
def dlo (n : Nat) (m : List Nat) (i : Nat) : Bool := decide (m.getD (n + i) 0 = n + i + 1)

theorem s_sDesc (s : Int) (m : List Nat) (hm : m.length = 16) (hb : ∀ x ∈ m, x < 256) (n : Nat) (hsn : s = n) (hd : IsD n m) (hv : isDi s m = true) : Spec Try.prog n_s_DescentsOf [pv s m] [] (.tup [.sl 0, .sl 1, vi 0]) [.pr T_int64 1 (dsF (dup m) (n - 1)).length (dl (dsF (dup m) (n - 1))), .pr T_int64 1 (dsF (dlo n m) (n - 1)).length (dl (dsF (dlo n m) (n - 1)))] := by
  subst hsn
  have hq := s_sIs2 n m hm hb
  rw [hv] at hq
  have hn := hd.n8
  refine SpecW.of_EV hf_s_DescentsOf hc_s_DescentsOf rfl rfl rfl fun w0 B ρ0 _ => ?_
  (repeat' (first | refine (hq).pure rfl ?_ | refine Exists.intro (pcl n m) (And.intro ⟨pcl_len hm, pcl_all hm⟩ ?_) | refine And.intro (neI rfl) ?_ | refine And.intro ⟨rfl, leR rfl, onesR rfl⟩ ?_ | refine And.intro ⟨rfl, leR rfl⟩ ?_ | refine draw_rule2 hfol (fun KK hKK => ?_) | refine hKK _ _ _ (by kernel_rfl) ?_ | refine region_rule (fun KK hKK => ?_) | refine hKK _ _ ?_ | refine And.intro (Eq.refl true) ?_ | refine Exists.intro _ (And.intro (wI (by omega)) ?_) | refine Exists.intro _ (And.intro (wU (by omega)) ?_) | refine Exists.intro _ (And.intro ⟨rfl, by omega⟩ ?_) | refine Exists.intro _ (And.intro rfl ?_) | refine And.intro rfl ?_ | refine And.intro ⟨rfl, rfl⟩ ?_ | ((refine And.intro (fun _ => ?_) (fun _ => ?_)) <;> try (exfalso; omega))))
  refine loop_rule (α := Nat) (fun i => i ≤ n - 1)
    (fun i => [(1, .ptr 0 0), (5, vi n), (6, .sl 1), (7, .sl 2), (8, vi i)]) (fun i => [.pc (pcl n m) T_i_Diagram, .pr T_int64 1 (dsF (dup m) i).length (dl (dsF (dup m) i)), .pr T_int64 1 (dsF (dlo n m) i).length (dl (dsF (dlo n m) i))]) (fun i => n - 1 - i) 0 [0, 1, 2]
    (by omega) ⟨⟨rfl, rfl, rfl, rfl, rfl, trivial⟩, ⟨rfl, rfl, rfl, trivial⟩, rfl⟩ ?_
  rintro i g hi
  by_cases h9 : i = n - 1
  · subst h9
    (repeat' (first | refine And.intro (neI rfl) ?_ | refine And.intro ⟨rfl, leR rfl, onesR rfl⟩ ?_ | refine And.intro ⟨rfl, leR rfl⟩ ?_ | refine draw_rule2 hfol (fun KK hKK => ?_) | refine hKK _ _ _ (by kernel_rfl) ?_ | refine region_rule (fun KK hKK => ?_) | refine hKK _ _ ?_ | refine And.intro (Eq.refl true) ?_ | refine Exists.intro _ (And.intro (wI (by omega)) ?_) | refine Exists.intro _ (And.intro (wU (by omega)) ?_) | refine Exists.intro _ (And.intro ⟨rfl, by omega⟩ ?_) | refine Exists.intro _ (And.intro rfl ?_) | refine And.intro rfl ?_ | refine And.intro ⟨rfl, rfl⟩ ?_ | ((refine And.intro (fun _ => ?_) (fun _ => ?_)) <;> try (exfalso; omega))))
    exact Exists.intro [1, 2] (And.intro (rfl) (And.intro ⟨rfl, rfl, trivial⟩ rfl))
  have hil : i < n - 1 := by omega
  have b1 := hd.lt i (by omega)
  have b2 := hd.lt (n + i) (by omega)
  have l1 := dsF_len (f := dup m) i
  have l2 := dsF_len (f := dlo n m) i
  have hw : (n : Int) + (i : Int) = ((n + i : Nat) : Int) := by omega
  cases hu : dup m i <;> cases hl : dlo n m i
  · have e1 : dsF (dup m) (i + 1) = dsF (dup m) i := by simp only [dsF, hu]; rfl
    have e2 : dsF (dlo n m) (i + 1) = dsF (dlo n m) i := by simp only [dsF, hl]; rfl
    have hu' : ¬ m.getD i 0 = i + 1 := of_decide_eq_false hu
    have hl' : ¬ m.getD (n + i) 0 = n + i + 1 := of_decide_eq_false hl
    (repeat' (first | refine Exists.intro _ (And.intro (pcl_at (m := m) (i := i) (by omega)) ?_) | refine Exists.intro _ (And.intro (pcl_at (m := m) (i := n + i) (by omega)) ?_) | refine And.intro (neI rfl) ?_ | refine And.intro ⟨rfl, leR rfl, onesR rfl⟩ ?_ | refine And.intro ⟨rfl, leR rfl⟩ ?_ | refine draw_rule2 hfol (fun KK hKK => ?_) | refine hKK _ _ _ (by kernel_rfl) ?_ | refine region_rule (fun KK hKK => ?_) | refine hKK _ _ ?_ | refine And.intro (Eq.refl true) ?_ | refine Exists.intro _ (And.intro (wI (by omega)) ?_) | refine Exists.intro _ (And.intro (wU (by omega)) ?_) | refine Exists.intro _ (And.intro ⟨rfl, by omega⟩ ?_) | refine Exists.intro _ (And.intro rfl ?_) | refine And.intro rfl ?_ | refine And.intro ⟨rfl, rfl⟩ ?_ | ((refine And.intro (fun _ => ?_) (fun _ => ?_)) <;> try (exfalso; omega))))
    exact Exists.intro (i + 1) (Exists.intro [0, 1, 2] (And.intro ⟨by omega, (by show n - 1 - (i + 1) < n - 1 - i; omega)⟩ ⟨⟨rfl, rfl, rfl, rfl, rfl, trivial⟩, ⟨rfl, by rw [e1]; rfl, by rw [e2]; rfl, trivial⟩, rfl⟩))
  · have e1 : dsF (dup m) (i + 1) = dsF (dup m) i := by simp only [dsF, hu]; rfl
    have e2 : dsF (dlo n m) (i + 1) = dsF (dlo n m) i ++ [i] := by simp only [dsF, hl]; rfl
    have hu' : ¬ m.getD i 0 = i + 1 := of_decide_eq_false hu
    have hl' : m.getD (n + i) 0 = n + i + 1 := of_decide_eq_true hl
    (repeat' (first | refine Exists.intro _ (And.intro (pcl_at (m := m) (i := i) (by omega)) ?_) | refine Exists.intro _ (And.intro (pcl_at (m := m) (i := n + i) (by omega)) ?_) | refine And.intro ⟨rfl, mkL rfl⟩ ?_ | refine Exists.intro [Value.int .i64 (i : Nat)] (And.intro (row1s (mkL' rfl)) ?_) | refine Exists.intro (dl (dsF (dlo n m) i ++ [i])) (And.intro ⟨rfl, onesR rfl, by omega, by omega, dl_push⟩ ?_) | refine And.intro (neI rfl) ?_ | refine And.intro ⟨rfl, leR rfl, onesR rfl⟩ ?_ | refine And.intro ⟨rfl, leR rfl⟩ ?_ | refine draw_rule2 hfol (fun KK hKK => ?_) | refine hKK _ _ _ (by kernel_rfl) ?_ | refine region_rule (fun KK hKK => ?_) | refine hKK _ _ ?_ | refine And.intro (Eq.refl true) ?_ | refine Exists.intro _ (And.intro (wI (by omega)) ?_) | refine Exists.intro _ (And.intro (wU (by omega)) ?_) | refine Exists.intro _ (And.intro ⟨rfl, by omega⟩ ?_) | refine Exists.intro _ (And.intro rfl ?_) | refine And.intro rfl ?_ | refine And.intro ⟨rfl, rfl⟩ ?_ | ((refine And.intro (fun _ => ?_) (fun _ => ?_)) <;> try (exfalso; omega))))
    exact Exists.intro (i + 1) (Exists.intro [0, 1, 4] (And.intro ⟨by omega, (by show n - 1 - (i + 1) < n - 1 - i; omega)⟩ ⟨⟨rfl, rfl, rfl, rfl, rfl, trivial⟩, ⟨rfl, by rw [e1]; rfl, by rw [e2, List.length_append]; rfl, trivial⟩, rfl⟩))
  · have e1 : dsF (dup m) (i + 1) = dsF (dup m) i ++ [i] := by simp only [dsF, hu]; rfl
    have e2 : dsF (dlo n m) (i + 1) = dsF (dlo n m) i := by simp only [dsF, hl]; rfl
    have hu' : m.getD i 0 = i + 1 := of_decide_eq_true hu
    have hl' : ¬ m.getD (n + i) 0 = n + i + 1 := of_decide_eq_false hl
    (repeat' (first | refine Exists.intro _ (And.intro (pcl_at (m := m) (i := i) (by omega)) ?_) | refine Exists.intro _ (And.intro (pcl_at (m := m) (i := n + i) (by omega)) ?_) | refine And.intro ⟨rfl, mkL rfl⟩ ?_ | refine Exists.intro [Value.int .i64 (i : Nat)] (And.intro (row1s (mkL' rfl)) ?_) | refine Exists.intro (dl (dsF (dup m) i ++ [i])) (And.intro ⟨rfl, onesR rfl, by omega, by omega, dl_push⟩ ?_) | refine And.intro (neI rfl) ?_ | refine And.intro ⟨rfl, leR rfl, onesR rfl⟩ ?_ | refine And.intro ⟨rfl, leR rfl⟩ ?_ | refine draw_rule2 hfol (fun KK hKK => ?_) | refine hKK _ _ _ (by kernel_rfl) ?_ | refine region_rule (fun KK hKK => ?_) | refine hKK _ _ ?_ | refine And.intro (Eq.refl true) ?_ | refine Exists.intro _ (And.intro (wI (by omega)) ?_) | refine Exists.intro _ (And.intro (wU (by omega)) ?_) | refine Exists.intro _ (And.intro ⟨rfl, by omega⟩ ?_) | refine Exists.intro _ (And.intro rfl ?_) | refine And.intro rfl ?_ | refine And.intro ⟨rfl, rfl⟩ ?_ | ((refine And.intro (fun _ => ?_) (fun _ => ?_)) <;> try (exfalso; omega))))
    exact Exists.intro (i + 1) (Exists.intro [0, 4, 2] (And.intro ⟨by omega, (by show n - 1 - (i + 1) < n - 1 - i; omega)⟩ ⟨⟨rfl, rfl, rfl, rfl, rfl, trivial⟩, ⟨rfl, by rw [e1, List.length_append]; rfl, by rw [e2]; rfl, trivial⟩, rfl⟩))
  · have e1 : dsF (dup m) (i + 1) = dsF (dup m) i ++ [i] := by simp only [dsF, hu]; rfl
    have e2 : dsF (dlo n m) (i + 1) = dsF (dlo n m) i ++ [i] := by simp only [dsF, hl]; rfl
    have hu' : m.getD i 0 = i + 1 := of_decide_eq_true hu
    have hl' : m.getD (n + i) 0 = n + i + 1 := of_decide_eq_true hl
    (repeat' (first | refine Exists.intro _ (And.intro (pcl_at (m := m) (i := i) (by omega)) ?_) | refine Exists.intro _ (And.intro (pcl_at (m := m) (i := n + i) (by omega)) ?_) | refine And.intro ⟨rfl, mkL rfl⟩ ?_ | refine Exists.intro [Value.int .i64 (i : Nat)] (And.intro (row1s (mkL' rfl)) ?_) | refine Exists.intro (dl (dsF (dup m) i ++ [i])) (And.intro ⟨rfl, onesR rfl, by omega, by omega, dl_push⟩ ?_) | refine And.intro ⟨rfl, mkL rfl⟩ ?_ | refine Exists.intro [Value.int .i64 (i : Nat)] (And.intro (row1s (mkL' rfl)) ?_) | refine Exists.intro (dl (dsF (dlo n m) i ++ [i])) (And.intro ⟨rfl, onesR rfl, by omega, by omega, dl_push⟩ ?_) | refine And.intro (neI rfl) ?_ | refine And.intro ⟨rfl, leR rfl, onesR rfl⟩ ?_ | refine And.intro ⟨rfl, leR rfl⟩ ?_ | refine draw_rule2 hfol (fun KK hKK => ?_) | refine hKK _ _ _ (by kernel_rfl) ?_ | refine region_rule (fun KK hKK => ?_) | refine hKK _ _ ?_ | refine And.intro (Eq.refl true) ?_ | refine Exists.intro _ (And.intro (wI (by omega)) ?_) | refine Exists.intro _ (And.intro (wU (by omega)) ?_) | refine Exists.intro _ (And.intro ⟨rfl, by omega⟩ ?_) | refine Exists.intro _ (And.intro rfl ?_) | refine And.intro rfl ?_ | refine And.intro ⟨rfl, rfl⟩ ?_ | ((refine And.intro (fun _ => ?_) (fun _ => ?_)) <;> try (exfalso; omega))))
    exact Exists.intro (i + 1) (Exists.intro [0, 4, 6] (And.intro ⟨by omega, (by show n - 1 - (i + 1) < n - 1 - i; omega)⟩ ⟨⟨rfl, rfl, rfl, rfl, rfl, trivial⟩, ⟨rfl, by rw [e1, List.length_append]; rfl, by rw [e2, List.length_append]; rfl, trivial⟩, rfl⟩))

theorem s_iDesc (s : Int) (m : List Nat) (hm : m.length = 16) (hb : ∀ x ∈ m, x < 256) (n : Nat) (hsn : s = n) (hd : IsD n m) (hv : isDi s m = true) : Spec Try.prog n_i_DescentsOf [pv s m] [] (.tup [.sl 0, .sl 1, vi 0]) [.pr T_int64 1 (dsF (dup m) (n - 1)).length (dl (dsF (dup m) (n - 1))), .pr T_int64 1 (dsF (dlo n m) (n - 1)).length (dl (dsF (dlo n m) (n - 1)))] := by
  subst hsn
  have hq := s_invalid1D n m hm hb
  rw [hv] at hq; simp only [Bool.not_true, cond_false] at hq
  have hn := hd.n8
  refine SpecW.of_EV hf_i_DescentsOf hc_i_DescentsOf rfl rfl rfl fun w0 B ρ0 _ => ?_
  have e0 : IntKind.i64.wrap ((n : Int) - 1) = ((n - 1 : Nat) : Int) := wC (by have := hd.n1; omega) (by omega)
  (repeat' (first | refine Exists.intro _ (And.intro e0 ?_) | refine (hq).read [1] rfl ⟨rfl, trivial⟩ ?_ | refine (s_n n m).read [0] rfl ⟨rfl, trivial⟩ ?_ | refine Exists.intro (pcl n m) (And.intro ⟨pcl_len hm, pcl_all hm⟩ ?_) | refine And.intro ⟨pcl_len hm, mkL rfl⟩ ?_ | refine Exists.intro (rowP [((n : Int), m)]) (And.intro (row1 (N := 17) (p := ((n : Int), m)) (mkL' rfl)) ?_) | refine And.intro (neI rfl) ?_ | refine And.intro ⟨rfl, leR rfl, onesR rfl⟩ ?_ | refine And.intro ⟨rfl, leR rfl⟩ ?_ | refine draw_rule2 hfol (fun KK hKK => ?_) | refine hKK _ _ _ (by kernel_rfl) ?_ | refine region_rule (fun KK hKK => ?_) | refine hKK _ _ ?_ | refine And.intro (Eq.refl true) ?_ | refine Exists.intro _ (And.intro (wI (by omega)) ?_) | refine Exists.intro _ (And.intro (wU (by omega)) ?_) | refine Exists.intro _ (And.intro ⟨rfl, by omega⟩ ?_) | refine Exists.intro _ (And.intro rfl ?_) | refine And.intro rfl ?_ | refine And.intro ⟨rfl, rfl⟩ ?_ | ((refine And.intro (fun _ => ?_) (fun _ => ?_)) <;> try (exfalso; omega))))
  refine loop_rule (α := Nat) (fun i => i ≤ n - 1)
    (fun i => [(1, .ptr 0 0), (6, vi n), (7, .sl 1), (8, .sl 2), (20, vi (n - 1 : Nat)), (21, vi i)]) (fun i => [.pc (pcl n m) T_i_Diagram, .pr T_int64 1 (dsF (dup m) i).length (dl (dsF (dup m) i)), .pr T_int64 1 (dsF (dlo n m) i).length (dl (dsF (dlo n m) i))]) (fun i => n - 1 - i) 0 [0, 2, 3]
    (by omega) ⟨⟨rfl, rfl, rfl, rfl, rfl, rfl, trivial⟩, ⟨rfl, rfl, rfl, trivial⟩, rfl⟩ ?_
  rintro i g hi
  by_cases h9 : i = n - 1
  · subst h9
    (repeat' (first | refine And.intro (neI rfl) ?_ | refine And.intro ⟨rfl, leR rfl, onesR rfl⟩ ?_ | refine And.intro ⟨rfl, leR rfl⟩ ?_ | refine draw_rule2 hfol (fun KK hKK => ?_) | refine hKK _ _ _ (by kernel_rfl) ?_ | refine region_rule (fun KK hKK => ?_) | refine hKK _ _ ?_ | refine And.intro (Eq.refl true) ?_ | refine Exists.intro _ (And.intro (wI (by omega)) ?_) | refine Exists.intro _ (And.intro (wU (by omega)) ?_) | refine Exists.intro _ (And.intro ⟨rfl, by omega⟩ ?_) | refine Exists.intro _ (And.intro rfl ?_) | refine And.intro rfl ?_ | refine And.intro ⟨rfl, rfl⟩ ?_ | ((refine And.intro (fun _ => ?_) (fun _ => ?_)) <;> try (exfalso; omega))))
    exact Exists.intro [1, 2] (And.intro (rfl) (And.intro ⟨rfl, rfl, trivial⟩ rfl))
  have hil : i < n - 1 := by omega
  have b1 := hd.lt i (by omega)
  have b2 := hd.lt (n + i) (by omega)
  have l1 := dsF_len (f := dup m) i
  have l2 := dsF_len (f := dlo n m) i
  cases hu : dup m i <;> cases hl : dlo n m i
  · have e1 : dsF (dup m) (i + 1) = dsF (dup m) i := by simp only [dsF, hu]; rfl
    have e2 : dsF (dlo n m) (i + 1) = dsF (dlo n m) i := by simp only [dsF, hl]; rfl
    have hu' : ¬ m.getD i 0 = i + 1 := of_decide_eq_false hu
    have hl' : ¬ m.getD (n + i) 0 = n + i + 1 := of_decide_eq_false hl
    (repeat' (first | refine Exists.intro _ (And.intro (pcl_at (m := m) (i := i) (by omega)) ?_) | refine Exists.intro _ (And.intro (pcl_at (m := m) (i := n + i) (by omega)) ?_) | refine And.intro (neI rfl) ?_ | refine And.intro ⟨rfl, leR rfl, onesR rfl⟩ ?_ | refine And.intro ⟨rfl, leR rfl⟩ ?_ | refine draw_rule2 hfol (fun KK hKK => ?_) | refine hKK _ _ _ (by kernel_rfl) ?_ | refine region_rule (fun KK hKK => ?_) | refine hKK _ _ ?_ | refine And.intro (Eq.refl true) ?_ | refine Exists.intro _ (And.intro (wI (by omega)) ?_) | refine Exists.intro _ (And.intro (wU (by omega)) ?_) | refine Exists.intro _ (And.intro ⟨rfl, by omega⟩ ?_) | refine Exists.intro _ (And.intro rfl ?_) | refine And.intro rfl ?_ | refine And.intro ⟨rfl, rfl⟩ ?_ | ((refine And.intro (fun _ => ?_) (fun _ => ?_)) <;> try (exfalso; omega))))
    exact Exists.intro (i + 1) (Exists.intro [0, 1, 2] (And.intro ⟨by omega, (by show n - 1 - (i + 1) < n - 1 - i; omega)⟩ ⟨⟨rfl, rfl, rfl, rfl, rfl, rfl, trivial⟩, ⟨rfl, by rw [e1]; rfl, by rw [e2]; rfl, trivial⟩, rfl⟩))
  · have e1 : dsF (dup m) (i + 1) = dsF (dup m) i := by simp only [dsF, hu]; rfl
    have e2 : dsF (dlo n m) (i + 1) = dsF (dlo n m) i ++ [i] := by simp only [dsF, hl]; rfl
    have hu' : ¬ m.getD i 0 = i + 1 := of_decide_eq_false hu
    have hl' : m.getD (n + i) 0 = n + i + 1 := of_decide_eq_true hl
    (repeat' (first | refine Exists.intro _ (And.intro (pcl_at (m := m) (i := i) (by omega)) ?_) | refine Exists.intro _ (And.intro (pcl_at (m := m) (i := n + i) (by omega)) ?_) | refine And.intro ⟨rfl, mkL rfl⟩ ?_ | refine Exists.intro [Value.int .i64 (i : Nat)] (And.intro (row1s (mkL' rfl)) ?_) | refine Exists.intro (dl (dsF (dlo n m) i ++ [i])) (And.intro ⟨rfl, onesR rfl, by omega, by omega, dl_push⟩ ?_) | refine And.intro (neI rfl) ?_ | refine And.intro ⟨rfl, leR rfl, onesR rfl⟩ ?_ | refine And.intro ⟨rfl, leR rfl⟩ ?_ | refine draw_rule2 hfol (fun KK hKK => ?_) | refine hKK _ _ _ (by kernel_rfl) ?_ | refine region_rule (fun KK hKK => ?_) | refine hKK _ _ ?_ | refine And.intro (Eq.refl true) ?_ | refine Exists.intro _ (And.intro (wI (by omega)) ?_) | refine Exists.intro _ (And.intro (wU (by omega)) ?_) | refine Exists.intro _ (And.intro ⟨rfl, by omega⟩ ?_) | refine Exists.intro _ (And.intro rfl ?_) | refine And.intro rfl ?_ | refine And.intro ⟨rfl, rfl⟩ ?_ | ((refine And.intro (fun _ => ?_) (fun _ => ?_)) <;> try (exfalso; omega))))
    exact Exists.intro (i + 1) (Exists.intro [0, 1, 4] (And.intro ⟨by omega, (by show n - 1 - (i + 1) < n - 1 - i; omega)⟩ ⟨⟨rfl, rfl, rfl, rfl, rfl, rfl, trivial⟩, ⟨rfl, by rw [e1]; rfl, by rw [e2, List.length_append]; rfl, trivial⟩, rfl⟩))
  · have e1 : dsF (dup m) (i + 1) = dsF (dup m) i ++ [i] := by simp only [dsF, hu]; rfl
    have e2 : dsF (dlo n m) (i + 1) = dsF (dlo n m) i := by simp only [dsF, hl]; rfl
    have hu' : m.getD i 0 = i + 1 := of_decide_eq_true hu
    have hl' : ¬ m.getD (n + i) 0 = n + i + 1 := of_decide_eq_false hl
    (repeat' (first | refine Exists.intro _ (And.intro (pcl_at (m := m) (i := i) (by omega)) ?_) | refine Exists.intro _ (And.intro (pcl_at (m := m) (i := n + i) (by omega)) ?_) | refine And.intro ⟨rfl, mkL rfl⟩ ?_ | refine Exists.intro [Value.int .i64 (i : Nat)] (And.intro (row1s (mkL' rfl)) ?_) | refine Exists.intro (dl (dsF (dup m) i ++ [i])) (And.intro ⟨rfl, onesR rfl, by omega, by omega, dl_push⟩ ?_) | refine And.intro (neI rfl) ?_ | refine And.intro ⟨rfl, leR rfl, onesR rfl⟩ ?_ | refine And.intro ⟨rfl, leR rfl⟩ ?_ | refine draw_rule2 hfol (fun KK hKK => ?_) | refine hKK _ _ _ (by kernel_rfl) ?_ | refine region_rule (fun KK hKK => ?_) | refine hKK _ _ ?_ | refine And.intro (Eq.refl true) ?_ | refine Exists.intro _ (And.intro (wI (by omega)) ?_) | refine Exists.intro _ (And.intro (wU (by omega)) ?_) | refine Exists.intro _ (And.intro ⟨rfl, by omega⟩ ?_) | refine Exists.intro _ (And.intro rfl ?_) | refine And.intro rfl ?_ | refine And.intro ⟨rfl, rfl⟩ ?_ | ((refine And.intro (fun _ => ?_) (fun _ => ?_)) <;> try (exfalso; omega))))
    exact Exists.intro (i + 1) (Exists.intro [0, 4, 2] (And.intro ⟨by omega, (by show n - 1 - (i + 1) < n - 1 - i; omega)⟩ ⟨⟨rfl, rfl, rfl, rfl, rfl, rfl, trivial⟩, ⟨rfl, by rw [e1, List.length_append]; rfl, by rw [e2]; rfl, trivial⟩, rfl⟩))
  · have e1 : dsF (dup m) (i + 1) = dsF (dup m) i ++ [i] := by simp only [dsF, hu]; rfl
    have e2 : dsF (dlo n m) (i + 1) = dsF (dlo n m) i ++ [i] := by simp only [dsF, hl]; rfl
    have hu' : m.getD i 0 = i + 1 := of_decide_eq_true hu
    have hl' : m.getD (n + i) 0 = n + i + 1 := of_decide_eq_true hl
    (repeat' (first | refine Exists.intro _ (And.intro (pcl_at (m := m) (i := i) (by omega)) ?_) | refine Exists.intro _ (And.intro (pcl_at (m := m) (i := n + i) (by omega)) ?_) | refine And.intro ⟨rfl, mkL rfl⟩ ?_ | refine Exists.intro [Value.int .i64 (i : Nat)] (And.intro (row1s (mkL' rfl)) ?_) | refine Exists.intro (dl (dsF (dup m) i ++ [i])) (And.intro ⟨rfl, onesR rfl, by omega, by omega, dl_push⟩ ?_) | refine And.intro ⟨rfl, mkL rfl⟩ ?_ | refine Exists.intro [Value.int .i64 (i : Nat)] (And.intro (row1s (mkL' rfl)) ?_) | refine Exists.intro (dl (dsF (dlo n m) i ++ [i])) (And.intro ⟨rfl, onesR rfl, by omega, by omega, dl_push⟩ ?_) | refine And.intro (neI rfl) ?_ | refine And.intro ⟨rfl, leR rfl, onesR rfl⟩ ?_ | refine And.intro ⟨rfl, leR rfl⟩ ?_ | refine draw_rule2 hfol (fun KK hKK => ?_) | refine hKK _ _ _ (by kernel_rfl) ?_ | refine region_rule (fun KK hKK => ?_) | refine hKK _ _ ?_ | refine And.intro (Eq.refl true) ?_ | refine Exists.intro _ (And.intro (wI (by omega)) ?_) | refine Exists.intro _ (And.intro (wU (by omega)) ?_) | refine Exists.intro _ (And.intro ⟨rfl, by omega⟩ ?_) | refine Exists.intro _ (And.intro rfl ?_) | refine And.intro rfl ?_ | refine And.intro ⟨rfl, rfl⟩ ?_ | ((refine And.intro (fun _ => ?_) (fun _ => ?_)) <;> try (exfalso; omega))))
    exact Exists.intro (i + 1) (Exists.intro [0, 4, 6] (And.intro ⟨by omega, (by show n - 1 - (i + 1) < n - 1 - i; omega)⟩ ⟨⟨rfl, rfl, rfl, rfl, rfl, rfl, trivial⟩, ⟨rfl, by rw [e1, List.length_append]; rfl, by rw [e2, List.length_append]; rfl, trivial⟩, rfl⟩))

theorem s_sDescE (s : Int) (m : List Nat) (hm : m.length = 16) (hb : ∀ x ∈ m, x < 256) (hv : isDi s m = false) : Spec Try.prog n_s_DescentsOf [pv s m] [] (.tup [.raw (.slice none 0 0), .raw (.slice none 0 0), vi 1]) [] := by
  have hq := s_sIs2 s m hm hb
  rw [hv] at hq
  refine SpecW.of_EV hf_s_DescentsOf hc_s_DescentsOf rfl rfl rfl fun w0 B ρ0 _ => ?_
  (repeat' (first | refine (hq).pure rfl ?_ | refine Exists.intro (pcl s m) (And.intro ⟨pcl_len hm, pcl_all hm⟩ ?_) | refine And.intro (neI rfl) ?_ | refine And.intro ⟨rfl, leR rfl, onesR rfl⟩ ?_ | refine And.intro ⟨rfl, leR rfl⟩ ?_ | refine draw_rule2 hfol (fun KK hKK => ?_) | refine hKK _ _ _ (by kernel_rfl) ?_ | refine region_rule (fun KK hKK => ?_) | refine hKK _ _ ?_ | refine And.intro (Eq.refl true) ?_ | refine Exists.intro _ (And.intro (wI (by omega)) ?_) | refine Exists.intro _ (And.intro (wU (by omega)) ?_) | refine Exists.intro _ (And.intro ⟨rfl, by omega⟩ ?_) | refine Exists.intro _ (And.intro rfl ?_) | refine And.intro rfl ?_ | refine And.intro ⟨rfl, rfl⟩ ?_ | ((refine And.intro (fun _ => ?_) (fun _ => ?_)) <;> try (exfalso; omega))))
  exact Exists.intro [] (And.intro (rfl) (And.intro trivial rfl))
theorem s_iDescE (s : Int) (m : List Nat) (hm : m.length = 16) (hb : ∀ x ∈ m, x < 256) (hv : isDi s m = false) : Spec Try.prog n_i_DescentsOf [pv s m] [] (.tup [.raw (.slice none 0 0), .raw (.slice none 0 0), vi 1]) [] := by
  have hq := s_invalid1D s m hm hb
  rw [hv] at hq; simp only [Bool.not_false, cond_true] at hq
  refine SpecW.of_EV hf_i_DescentsOf hc_i_DescentsOf rfl rfl rfl fun w0 B ρ0 _ => ?_
  (repeat' (first | refine (hq).read [1] rfl ⟨rfl, trivial⟩ ?_ | refine Exists.intro (pcl s m) (And.intro ⟨pcl_len hm, pcl_all hm⟩ ?_) | refine And.intro ⟨pcl_len hm, mkL rfl⟩ ?_ | refine Exists.intro (rowP [(s, m)]) (And.intro (row1 (N := 17) (p := (s, m)) (mkL' rfl)) ?_) | refine And.intro (neI rfl) ?_ | refine And.intro ⟨rfl, leR rfl, onesR rfl⟩ ?_ | refine And.intro ⟨rfl, leR rfl⟩ ?_ | refine draw_rule2 hfol (fun KK hKK => ?_) | refine hKK _ _ _ (by kernel_rfl) ?_ | refine region_rule (fun KK hKK => ?_) | refine hKK _ _ ?_ | refine And.intro (Eq.refl true) ?_ | refine Exists.intro _ (And.intro (wI (by omega)) ?_) | refine Exists.intro _ (And.intro (wU (by omega)) ?_) | refine Exists.intro _ (And.intro ⟨rfl, by omega⟩ ?_) | refine Exists.intro _ (And.intro rfl ?_) | refine And.intro rfl ?_ | refine And.intro ⟨rfl, rfl⟩ ?_ | ((refine And.intro (fun _ => ?_) (fun _ => ?_)) <;> try (exfalso; omega))))
  exact Exists.intro [] (And.intro (rfl) (And.intro trivial rfl))
theorem s_lawDesc (s : Int) (m : List Nat) (hm : m.length = 16) (hb : ∀ x ∈ m, x < 256) : Spec Try.prog n_l_FnExactDescentsOf [pv s m] [] (vb true) [] := by
  cases hv : isDi s m with
  | false =>
    have hS := s_sDescE s m hm hb hv
    have hI := s_iDescE s m hm hb hv
    have hm1 := s_markI0 1
    have hh1 := s_heldI0 1
    refine SpecW.of_EV hf_l_FnExactDescentsOf hc_l_FnExactDescentsOf rfl rfl rfl fun w0 B ρ0 _ => ?_
    (repeat' (first | refine (s_toD s m hm).pure rfl ?_ | refine Exists.intro (pcl s m) (And.intro ⟨pcl_len hm, pcl_all hm⟩ ?_) | refine (hS).pure rfl ?_ | refine (hI).pure rfl ?_ | refine (s_eqI0).pure rfl ?_ | refine (hm1).pure rfl ?_ | refine (hh1).pure rfl ?_ | refine And.intro (fun _ => ?_) (fun h => absurd rfl h) | refine And.intro (fun h => absurd rfl h) (fun _ => ?_) | refine And.intro (neI rfl) ?_ | refine And.intro ⟨rfl, leR rfl, onesR rfl⟩ ?_ | refine And.intro ⟨rfl, leR rfl⟩ ?_ | refine draw_rule2 hfol (fun KK hKK => ?_) | refine hKK _ _ _ (by kernel_rfl) ?_ | refine region_rule (fun KK hKK => ?_) | refine hKK _ _ ?_ | refine And.intro (Eq.refl true) ?_ | refine Exists.intro _ (And.intro (wI (by omega)) ?_) | refine Exists.intro _ (And.intro (wU (by omega)) ?_) | refine Exists.intro _ (And.intro ⟨rfl, by omega⟩ ?_) | refine Exists.intro _ (And.intro rfl ?_) | refine And.intro rfl ?_ | refine And.intro ⟨rfl, rfl⟩ ?_ | ((refine And.intro (fun _ => ?_) (fun _ => ?_)) <;> try (exfalso; omega))))
    exact finP rfl
  | true =>
    obtain ⟨n, hsn, hd⟩ := isDi_elim hm hv
    have hn := hd.n8
    have hS := s_sDesc s m hm hb n hsn hd hv
    have hI := s_iDesc s m hm hb n hsn hd hv
    have l1 := dsF_len (f := dup m) (n - 1)
    have l2 := dsF_len (f := dlo n m) (n - 1)
    rw [dl_il, dl_il] at hS hI
    generalize (dsF (dup m) (n - 1)).length = N1 at hS hI l1
    generalize (dsF (dlo n m) (n - 1)).length = N2 at hS hI l2
    generalize (fun i => (((dsF (dup m) (n - 1)).getD i 0 : Nat) : Int)) = g1 at hS hI
    generalize (fun i => (((dsF (dlo n m) (n - 1)).getD i 0 : Nat) : Int)) = g2 at hS hI
    have he1 := s_eqI g1 N1 (by omega)
    have he2 := s_eqI g2 N2 (by omega)
    have hm1 := s_markI g1 N1 1 (by omega) (by omega)
    have hm2 := s_markI g2 N2 (1 + N1) (by omega) (by omega)
    have hh1 := s_heldI N1 1 (by omega) (by omega)
    have hh2 := s_heldI N2 (1 + N1) (by omega) (by omega)
    refine SpecW.of_EV hf_l_FnExactDescentsOf hc_l_FnExactDescentsOf rfl rfl rfl fun w0 B ρ0 _ => ?_
    (repeat' (first | refine (s_toD s m hm).pure rfl ?_ | refine Exists.intro (pcl s m) (And.intro ⟨pcl_len hm, pcl_all hm⟩ ?_) | refine (hS).make [] rfl trivial ?_ | refine (hI).make [] rfl trivial ?_ | refine (he1).read [3,1] rfl ⟨rfl, rfl, trivial⟩ ?_ | refine (he2).read [4,2] rfl ⟨rfl, rfl, trivial⟩ ?_ | refine (he1).read [5,1] rfl ⟨rfl, rfl, trivial⟩ ?_ | refine (he2).read [6,2] rfl ⟨rfl, rfl, trivial⟩ ?_ | refine (hm1).make [3] rfl ⟨rfl, trivial⟩ ?_ | refine (hm2).make [4] rfl ⟨rfl, trivial⟩ ?_ | refine (hh1).read [3] rfl ⟨rfl, trivial⟩ ?_ | refine (hh2).read [4] rfl ⟨rfl, trivial⟩ ?_ | refine And.intro (fun _ => ?_) (fun h => absurd rfl h) | refine And.intro (fun h => absurd rfl h) (fun _ => ?_) | refine And.intro (neI rfl) ?_ | refine And.intro ⟨rfl, leR rfl, onesR rfl⟩ ?_ | refine And.intro ⟨rfl, leR rfl⟩ ?_ | refine draw_rule2 hfol (fun KK hKK => ?_) | refine hKK _ _ _ (by kernel_rfl) ?_ | refine region_rule (fun KK hKK => ?_) | refine hKK _ _ ?_ | refine And.intro (Eq.refl true) ?_ | refine Exists.intro _ (And.intro (wI (by omega)) ?_) | refine Exists.intro _ (And.intro (wU (by omega)) ?_) | refine Exists.intro _ (And.intro ⟨rfl, by omega⟩ ?_) | refine Exists.intro _ (And.intro rfl ?_) | refine And.intro rfl ?_ | refine And.intro ⟨rfl, rfl⟩ ?_ | ((refine And.intro (fun _ => ?_) (fun _ => ?_)) <;> try (exfalso; omega))))
    exact finP rfl
end Go.Proofs.Ytimigbgpldjefaa.VE
