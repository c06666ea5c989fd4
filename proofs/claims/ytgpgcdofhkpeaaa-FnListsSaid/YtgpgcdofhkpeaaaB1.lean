/- Contracts of functions of the given program, for all arguments that the contract names; see each theorem. -/
import Derived.Test.YtgpgcdofhkpeaaaEd
set_option linter.all false
namespace Go.Proofs.Ytgpgcdofhkpeaaa.VE
open Go
set_option maxHeartbeats 800000
set_option maxRecDepth 100000

/-! bools as cells -/
def bbl (s : List Bool) : List Value := s.map .bool
theorem bbl_at {s : List Bool} {i : Nat} {b : Bool} (hi : i < s.length) (h : s.getD i false = b) : (bbl s)[i]? = some (.bool b) := by
  rw [List.getD_eq_getElem?_getD, List.getElem?_eq_getElem hi] at h
  simp only [Option.getD_some] at h
  simp [bbl, hi, h]
theorem bbl_set {s : List Bool} {i : Nat} {b : Bool} : (bbl s).set i (.bool b) = bbl (s.set i b) := by simp [bbl, List.map_set]
theorem bbl_len {s : List Bool} {N : Nat} (h : s.length = N) : (bbl s).length = N := by simp [bbl, h]
theorem bbl_all {s : List Bool} {N : Nat} (h : s.length = N) : ((bbl s).drop 0).take N = bbl s := by
  rw [List.drop_zero, List.take_of_length_le (by rw [bbl_len h]; omega)]
theorem bbl_ones {s : List Bool} : ones (bbl s) := by
  intro u hu
  simp only [bbl, List.mem_map] at hu
  obtain ⟨b, _, rfl⟩ := hu
  rfl
theorem getB_set {s : List Bool} {i j : Nat} {b : Bool} (h : i < s.length) : (s.set i b).getD j false = if i = j then b else s.getD j false := by
  simp only [List.getD_eq_getElem?_getD]
  by_cases hij : i = j
  · subst hij; rw [List.getElem?_set_self h, if_pos rfl]; rfl
  · rw [List.getElem?_set_ne hij, if_neg hij]
theorem eqB_of {a b : List Bool} {N : Nat} (ha : a.length = N) (hb : b.length = N) (h : ∀ j, j < N → a.getD j false = b.getD j false) : a = b := by
  refine List.ext_getElem (by omega) fun i h1 h2 => ?_
  have := h i (by omega)
  simpa [List.getD_eq_getElem?_getD, List.getElem?_eq_getElem h1, List.getElem?_eq_getElem h2] using this

end Go.Proofs.Ytgpgcdofhkpeaaa.VE
