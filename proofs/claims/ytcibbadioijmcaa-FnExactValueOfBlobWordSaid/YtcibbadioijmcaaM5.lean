/- Contracts of functions of the given program, for all arguments that the contract names; see each theorem. -/
import Derived.Test.YtcibbadioijmcaaM4
set_option linter.all false
namespace Go.Proofs.Ytcibbadioijmcaa.VE
open Go
set_option maxHeartbeats 1600000
set_option maxRecDepth 100000

abbrev mbV (n : Int) (m : List Nat) (bs : List Bool) (c : Nat × Nat) : V := .tup [bV n m bs, .raw (.agg (lc2 c).toArray)]
section
variable (n : Nat) (a b : List Nat) (ha : IsV n a) (hb : IsV n b) (ba bb : List Bool) (lba : ba.length = 16) (lbb : bb.length = 16)
include ha hb lba lbb
theorem s_timesB : Spec Try.prog n_i_timesBlobbed [bV n a ba, bV n b bb] [] (mbV n (oL n a b n).1 (bbO n a b ba bb n) (lpNB n a b ba bb)) [] := by
  have la := ha.len
  have lb := hb.len
  have hp := s_productB n a b ha hb ba bb lba lbb
  have lo := (oL_inv ha hb n (Nat.le_refl n)).1
  have lob := bbO_len (n := n) (a := a) (b := b) (ba := ba) (bb := bb) (i := n)
  have hfol : Try.prog.follows .mixedOrders = true := rfl
  generalize lpNB n a b ba bb = c at hp
  refine SpecW.of_EV hf_i_timesBlobbed hc_i_timesBlobbed rfl rfl rfl fun w0 B ρ0 _ => ?_
  (repeat' (first | refine Exists.intro (bcB 0 (List.replicate 16 0) (List.replicate 16 false)) (And.intro ⟨leR rfl, rfl⟩ ?_) | refine Exists.intro (lc2 (0, 0)) (And.intro ⟨leR rfl, rfl⟩ ?_) | refine Exists.intro [Value.bool false] (And.intro ⟨leR rfl, rfl⟩ ?_) | refine Exists.intro (bcB n (List.replicate 16 0) (List.replicate 16 false)) (And.intro ⟨leR rfl, rfl⟩ ?_) | refine (hp).make [0,1,4,5,6] rfl ⟨rfl, rfl, rfl, rfl, rfl, trivial⟩ ?_ | refine Exists.intro (bcB n (oL n a b n).1 (bbO n a b ba bb n)) (And.intro ⟨bcB_len lo lob, bcB_all lo lob⟩ ?_) | refine Exists.intro (lc2 c) (And.intro ⟨rfl, rfl⟩ ?_) | refine And.intro ⟨bcB_len lo lob, leR rfl, bcB_ones⟩ ?_ | refine Exists.intro (bcB n (oL n a b n).1 (bbO n a b ba bb n)) (And.intro ⟨leR rfl, spl0 (leR rfl)⟩ ?_) | refine Exists.intro (lc2 c) (And.intro ⟨leR rfl, rfl⟩ ?_) | refine And.intro (neI rfl) ?_ | refine And.intro ⟨rfl, leR rfl, onesR rfl⟩ ?_ | refine And.intro ⟨rfl, leR rfl⟩ ?_ | refine draw_rule2 hfol (fun KK hKK => ?_) | refine hKK _ _ _ (by kernel_rfl) ?_ | refine region_rule (fun KK hKK => ?_) | refine hKK _ _ ?_ | refine And.intro (Eq.refl true) ?_ | refine Exists.intro _ (And.intro (wI (by omega)) ?_) | refine Exists.intro _ (And.intro (wU (by omega)) ?_) | refine Exists.intro _ (And.intro ⟨rfl, by omega⟩ ?_) | refine Exists.intro _ (And.intro rfl ?_) | refine And.intro rfl ?_ | refine And.intro ⟨rfl, rfl⟩ ?_ | ((refine And.intro (fun _ => ?_) (fun _ => ?_)) <;> try (exfalso; omega))))
  exact Exists.intro [] (And.intro (rfl) (And.intro trivial rfl))
end
end Go.Proofs.Ytcibbadioijmcaa.VE
