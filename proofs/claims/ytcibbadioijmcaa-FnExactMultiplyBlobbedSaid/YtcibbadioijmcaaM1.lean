/- Contracts of functions of the given program, for all arguments that the contract names; see each theorem. -/
import Derived.Test.YtcibbadioijmcaaU17s
import Derived.Test.YtcibbadioijmcaaC2
set_option linter.all false
namespace Go.Proofs.Ytcibbadioijmcaa.VE
open Go
set_option maxHeartbeats 800000
set_option maxRecDepth 100000

/-! products of blobbed diagrams: along the lines -/
def bl2 (ba bb : List Bool) : Bool → Nat → Bool
  | true, p => bb.getD p false
  | false, p => ba.getD p false
def mB (n : Nat) (a b : List Nat) (ba bb : List Bool) : Nat → Bool → Nat → Bool
  | 0, _, _ => false
  | d + 1, l, p => bl2 ba bb l p || (if isOut n l (mt a b l p) = true then false else mB n a b ba bb d (!l) (ep n (!l) (md n l (mt a b l p))))
def mL (n : Nat) (a b : List Nat) (ba bb : List Bool) (m : Nat) : Nat → Bool → Nat → Bool
  | 0, _, _ => false
  | d + 1, l, p => bl2 ba bb l p || (if md n l (mt a b l p) = m then false else mL n a b ba bb m d (!l) (ep n (!l) (md n l (mt a b l p))))
theorem mB_pack {n : Nat} {a b : List Nat} {ba bb : List Bool} {d : Nat} {l : Bool} {p : Nat} : mB n a b ba bb (d + 1) l p = (bl2 ba bb l p || (if isOut n l (mt a b l p) = true then false else mB n a b ba bb d (!l) (ep n (!l) (md n l (mt a b l p))))) := rfl
theorem mL_pack {n : Nat} {a b : List Nat} {ba bb : List Bool} {m d : Nat} {l : Bool} {p : Nat} : mL n a b ba bb m (d + 1) l p = (bl2 ba bb l p || (if md n l (mt a b l p) = m then false else mL n a b ba bb m d (!l) (ep n (!l) (md n l (mt a b l p))))) := rfl
abbrev bO1 (h : Bool) : O := .pc [.bool h] T_bool
theorem s_meetB (n : Int) (a b : List Nat) (ba bb : List Bool) (la : a.length = 16) (lb : b.length = 16) (lba : ba.length = 16) (lbb : bb.length = 16) (l : Bool) (p : Nat) (hp : p < 16) (h : Bool) :
    Spec Try.prog n_i_timesBlobbed_1 [vb l, vi p, .ptr 0 0, .ptr 1 0, .ptr 2 0] [bO1 h, .pc (bcB n b bb) T_i_Blobbed, .pc (bcB n a ba) T_i_Blobbed] (.tup []) [bO1 (h || bl2 ba bb l p), .pc (bcB n b bb) T_i_Blobbed, .pc (bcB n a ba) T_i_Blobbed] := by
  have hA := bcB_bat (s := n) (m := a) (bs := ba) la lba hp rfl
  have hB := bcB_bat (s := n) (m := b) (bs := bb) lb lbb hp rfl
  refine SpecW.of_EV hf_i_timesBlobbed_1 hc_i_timesBlobbed_1 rfl rfl rfl fun w0 B ρ0 _ => ?_
  cases l <;> cases h <;> (repeat' (first | refine Exists.intro _ (And.intro hA ?_) | refine Exists.intro _ (And.intro hB ?_) | refine Exists.intro [Value.bool _] (And.intro ⟨leR rfl, rfl⟩ ?_) | refine And.intro (neI rfl) ?_ | refine And.intro ⟨rfl, leR rfl, onesR rfl⟩ ?_ | refine And.intro ⟨rfl, leR rfl⟩ ?_ | refine draw_rule2 hfol (fun KK hKK => ?_) | refine hKK _ _ _ (by kernel_rfl) ?_ | refine region_rule (fun KK hKK => ?_) | refine hKK _ _ ?_ | refine And.intro (Eq.refl true) ?_ | refine Exists.intro _ (And.intro (wI (by omega)) ?_) | refine Exists.intro _ (And.intro (wU (by omega)) ?_) | refine Exists.intro _ (And.intro ⟨rfl, by omega⟩ ?_) | refine Exists.intro _ (And.intro rfl ?_) | refine And.intro rfl ?_ | refine And.intro ⟨rfl, rfl⟩ ?_ | ((refine And.intro (fun _ => ?_) (fun _ => ?_)) <;> try (exfalso; omega)))) <;> exact Exists.intro [0,1,2] (And.intro (rfl) (And.intro ⟨rfl, rfl, rfl, trivial⟩ rfl))
end Go.Proofs.Ytcibbadioijmcaa.VE
