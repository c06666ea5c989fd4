/- Contracts of functions of the given program, for all arguments that the contract names; see each theorem. -/
import Derived.Test.YtgpgcdofhkpeaaaI1
import Derived.Test.YtgpgcdofhkpeaaaLC
import Derived.Test.YtgpgcdofhkpeaaaU12e
import Derived.Test.YtgpgcdofhkpeaaaU11e
import Derived.Test.YtgpgcdofhkpeaaaU18e
set_option linter.all false
namespace Go.Proofs.Ytgpgcdofhkpeaaa.VE
open Go
set_option maxHeartbeats 1600000
set_option maxRecDepth 100000

/-! contracts for planar diagrams -/
theorem isDi_I {n : Nat} {m : List Nat} (hd : IsD n m) : isDi n m = true := by
  rw [← isD_eq n m hd.len]
  have h1 := hd.n1; have h8 := hd.n8
  unfold isDs
  simp only [Bool.and_eq_true, decide_eq_true_eq]
  rw [Int.toNat_natCast]
  refine ⟨⟨by omega, by omega⟩, (ckS_true (n := n) (m := m) 16 0).2 fun j _ _ => ⟨fun h => hd.zero j h, fun h => ⟨hd.lt j h, hd.ne j h, hd.inv j h⟩⟩, ?_⟩
  exact crOA_true.2 ((planar_iff hd.lt).2 hd.pl).2
section
variable {n : Nat} {a b : List Nat} (ha : IsD n a) (hb : IsD n b)
include ha
theorem q_flip : Spec Try.prog n_i_FlipDiagram [pv n a] [] (.tup [pv n (fl n a), vi 0]) [] := by
  have h := s_iFlip n a ha.len (byte_D ha)
  have hr : mvR gF n a = ((n : Int), fl n a, 0) := by unfold mvR; rw [if_pos (isDi_I ha)]; rfl
  rw [hr] at h; exact h
theorem q_thr : Spec Try.prog n_i_ThroughLines [pv n a] [] (.tup [vi (thC n a n : Nat), vi 0]) [] := by
  have h := s_iThr n a ha.len (byte_D ha)
  have hr : thR n a = (((thC n a n : Nat) : Int), 0) := by unfold thR; rw [if_pos (isDi_I ha)]; rfl
  rw [hr] at h; exact h
include hb
theorem q_mul : Spec Try.prog n_i_MultiplyDiagrams [pv n a, pv n b] [] (.tup [pv n (oL n a b n).1, vi (lpN n a b : Nat), vi 0]) [] := by
  have h := s_iMul n a ha.len (byte_D ha) n b hb.len (byte_D hb)
  have hr : mulR n a n b = ((n : Int), (oL n a b n).1, ((lpN n a b : Nat) : Int), 0) := by unfold mulR; rw [if_pos ⟨isDi_I ha, isDi_I hb⟩, if_pos rfl]; rfl
  rw [hr] at h; exact h
end
theorem eqSelf (s : Int) (m : List Nat) (hm : m.length = 16) : ∀ w, (Op.equalIn 10000 T_i_Diagram (.agg (pcl s m).toArray) (.agg (pcl s m).toArray)).run Try.prog w = .ok true w := fun w => by
  rw [eqDg w hm hm]; simp
end Go.Proofs.Ytgpgcdofhkpeaaa.VE
