/- Contracts of functions of the given program, for all arguments that the contract names; see each theorem. -/
import Derived.Test.YtcibbadioijmcaaM2
import Derived.Test.YtcibbadioijmcaaK2
set_option linter.all false
namespace Go.Proofs.Ytcibbadioijmcaa.VE
open Go
set_option maxHeartbeats 1600000
set_option maxRecDepth 100000

def bbO (n : Nat) (a b : List Nat) (ba bb : List Bool) : Nat → List Bool
  | 0 => List.replicate 16 false
  | i + 1 => ((bbO n a b ba bb i).set i (mB n a b ba bb 17 false i)).set (n + i) (mB n a b ba bb 17 true (n + i))
theorem bbO_len {n : Nat} {a b : List Nat} {ba bb : List Bool} : ∀ {i}, (bbO n a b ba bb i).length = 16
  | 0 => by simp [bbO]
  | i + 1 => by simp [bbO, bbO_len (i := i)]
def lpOB (n : Nat) (a b : List Nat) (ba bb : List Bool) : Nat → Nat → List Bool → Nat × Nat → Nat × Nat
  | 0, _, _, c => c
  | d + 1, j, s, c => if s.getD j false = true then lpOB n a b ba bb d (j + 1) s c else lpOB n a b ba bb d (j + 1) (spI n a b 8 j s) (if mL n a b ba bb j 8 true j = true then (c.1, c.2 + 1) else (c.1 + 1, c.2))
abbrev lc2 (c : Nat × Nat) : List Value := [.int .i64 (c.1 : Nat), .int .i64 (c.2 : Nat)]
abbrev lpC (h : Bool) (c : Nat × Nat) : Nat × Nat := if h = true then (c.1, c.2 + 1) else (c.1 + 1, c.2)
theorem s_count (c : Nat × Nat) (h : Bool) (hc : c.1 ≤ 1000 ∧ c.2 ≤ 1000) : Spec Try.prog n_i_bothLoops_count [.ptr 0 0, vb h] [.pc (lc2 c) T_i_bothLoops] (.tup []) [.pc (lc2 (lpC h c)) T_i_bothLoops] := by
  obtain ⟨c0, c1⟩ := c
  have e0 : IntKind.i64.wrap ((c0 : Int) + 1) = ((c0 + 1 : Nat) : Int) := wC (by omega) (by simp only [] at hc; omega)
  have e1 : IntKind.i64.wrap ((c1 : Int) + 1) = ((c1 + 1 : Nat) : Int) := wC (by omega) (by simp only [] at hc; omega)
  refine SpecW.of_EV hf_i_bothLoops_count hc_i_bothLoops_count rfl rfl rfl fun w0 B ρ0 _ => ?_
  have hfol : Try.prog.follows .mixedOrders = true := rfl
  cases h
  · (repeat' (first | refine Exists.intro 0 (And.intro ⟨rfl, leR rfl⟩ ?_) | refine Exists.intro _ (And.intro e0 ?_) | refine Exists.intro _ (And.intro e1 ?_) | refine Exists.intro [Value.int .i64 ((c0 + 1 : Nat) : Int), Value.int .i64 (c1 : Int)] (And.intro ⟨leR rfl, rfl⟩ ?_) | refine And.intro (neI rfl) ?_ | refine And.intro ⟨rfl, leR rfl, onesR rfl⟩ ?_ | refine And.intro ⟨rfl, leR rfl⟩ ?_ | refine draw_rule2 hfol (fun KK hKK => ?_) | refine hKK _ _ _ (by kernel_rfl) ?_ | refine region_rule (fun KK hKK => ?_) | refine hKK _ _ ?_ | refine And.intro (Eq.refl true) ?_ | refine Exists.intro _ (And.intro (wI (by omega)) ?_) | refine Exists.intro _ (And.intro (wU (by omega)) ?_) | refine Exists.intro _ (And.intro ⟨rfl, by omega⟩ ?_) | refine Exists.intro _ (And.intro rfl ?_) | refine And.intro rfl ?_ | refine And.intro ⟨rfl, rfl⟩ ?_ | ((refine And.intro (fun _ => ?_) (fun _ => ?_)) <;> try (exfalso; omega))))
    exact Exists.intro [0] (And.intro (rfl) (And.intro ⟨rfl, trivial⟩ rfl))
  · (repeat' (first | refine Exists.intro 1 (And.intro ⟨rfl, leR rfl⟩ ?_) | refine Exists.intro _ (And.intro e0 ?_) | refine Exists.intro _ (And.intro e1 ?_) | refine Exists.intro [Value.int .i64 (c0 : Int), Value.int .i64 ((c1 + 1 : Nat) : Int)] (And.intro ⟨leR rfl, rfl⟩ ?_) | refine And.intro (neI rfl) ?_ | refine And.intro ⟨rfl, leR rfl, onesR rfl⟩ ?_ | refine And.intro ⟨rfl, leR rfl⟩ ?_ | refine draw_rule2 hfol (fun KK hKK => ?_) | refine hKK _ _ _ (by kernel_rfl) ?_ | refine region_rule (fun KK hKK => ?_) | refine hKK _ _ ?_ | refine And.intro (Eq.refl true) ?_ | refine Exists.intro _ (And.intro (wI (by omega)) ?_) | refine Exists.intro _ (And.intro (wU (by omega)) ?_) | refine Exists.intro _ (And.intro ⟨rfl, by omega⟩ ?_) | refine Exists.intro _ (And.intro rfl ?_) | refine And.intro rfl ?_ | refine And.intro ⟨rfl, rfl⟩ ?_ | ((refine And.intro (fun _ => ?_) (fun _ => ?_)) <;> try (exfalso; omega))))
    exact Exists.intro [0] (And.intro (rfl) (And.intro ⟨rfl, trivial⟩ rfl))
theorem s_endB (n : Int) (out : List Nat) (ob : List Bool) (i k : Nat) (h : Bool) (lo : out.length = 16) (lob : ob.length = 16) (hi : i < 16) (hk : k < 256) :
    Spec Try.prog n_i_timesBlobbed_2 [vi i, vi k, .ptr 0 0, .ptr 1 0] [bO1 h, .pc (bcB n out ob) T_i_Blobbed] (.tup []) [bO1 false, .pc (bcB n (out.set i k) (ob.set i h)) T_i_Blobbed] := by
  have hfol : Try.prog.follows .mixedOrders = true := rfl
  have e1 : IntKind.u8.wrap (k : Int) = ((k : Nat) : Int) := wU (by omega)
  have l1 : (out.set i k).length = 16 := by simpa using lo
  refine SpecW.of_EV hf_i_timesBlobbed_2 hc_i_timesBlobbed_2 rfl rfl rfl fun w0 B ρ0 _ => ?_
  (repeat' (first | refine Exists.intro _ (And.intro e1 ?_) | refine Exists.intro (bcB n (out.set i k) ob) (And.intro ⟨by rw [bcB_len lo lob]; omega, bcB_mset lo lob hi⟩ ?_) | refine Exists.intro (bcB n (out.set i k) (ob.set i h)) (And.intro ⟨by rw [bcB_len l1 lob]; omega, bcB_bset l1 lob⟩ ?_) | refine Exists.intro [Value.bool false] (And.intro ⟨leR rfl, rfl⟩ ?_) | refine And.intro (neI rfl) ?_ | refine And.intro ⟨rfl, leR rfl, onesR rfl⟩ ?_ | refine And.intro ⟨rfl, leR rfl⟩ ?_ | refine draw_rule2 hfol (fun KK hKK => ?_) | refine hKK _ _ _ (by kernel_rfl) ?_ | refine region_rule (fun KK hKK => ?_) | refine hKK _ _ ?_ | refine And.intro (Eq.refl true) ?_ | refine Exists.intro _ (And.intro (wI (by omega)) ?_) | refine Exists.intro _ (And.intro (wU (by omega)) ?_) | refine Exists.intro _ (And.intro ⟨rfl, by omega⟩ ?_) | refine Exists.intro _ (And.intro rfl ?_) | refine And.intro rfl ?_ | refine And.intro ⟨rfl, rfl⟩ ?_ | ((refine And.intro (fun _ => ?_) (fun _ => ?_)) <;> try (exfalso; omega))))
  exact Exists.intro [0,1] (And.intro (rfl) (And.intro ⟨rfl, rfl, trivial⟩ rfl))
theorem s_loopB (c : Nat × Nat) (h : Bool) (hc : c.1 ≤ 1000 ∧ c.2 ≤ 1000) : Spec Try.prog n_i_timesBlobbed_3 [.ptr 0 0, .ptr 1 0] [.pc (lc2 c) T_i_bothLoops, bO1 h] (.tup []) [.pc (lc2 (lpC h c)) T_i_bothLoops, bO1 false] := by
  have h1 := s_count c h hc
  refine SpecW.of_EV hf_i_timesBlobbed_3 hc_i_timesBlobbed_3 rfl rfl rfl fun w0 B ρ0 _ => ?_
  (repeat' (first | refine (h1).make [0] rfl ⟨rfl, trivial⟩ ?_ | refine Exists.intro [Value.bool false] (And.intro ⟨leR rfl, rfl⟩ ?_) | refine And.intro (neI rfl) ?_ | refine And.intro ⟨rfl, leR rfl, onesR rfl⟩ ?_ | refine And.intro ⟨rfl, leR rfl⟩ ?_ | refine draw_rule2 hfol (fun KK hKK => ?_) | refine hKK _ _ _ (by kernel_rfl) ?_ | refine region_rule (fun KK hKK => ?_) | refine hKK _ _ ?_ | refine And.intro (Eq.refl true) ?_ | refine Exists.intro _ (And.intro (wI (by omega)) ?_) | refine Exists.intro _ (And.intro (wU (by omega)) ?_) | refine Exists.intro _ (And.intro ⟨rfl, by omega⟩ ?_) | refine Exists.intro _ (And.intro rfl ?_) | refine And.intro rfl ?_ | refine And.intro ⟨rfl, rfl⟩ ?_ | ((refine And.intro (fun _ => ?_) (fun _ => ?_)) <;> try (exfalso; omega))))
  exact Exists.intro [0,1] (And.intro (rfl) (And.intro ⟨rfl, rfl, trivial⟩ rfl))
end Go.Proofs.Ytcibbadioijmcaa.VE
