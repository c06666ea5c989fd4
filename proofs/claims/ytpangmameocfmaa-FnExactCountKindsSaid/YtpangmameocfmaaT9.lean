/- Contracts of functions of the given program, for all arguments that the contract names; see each theorem. -/
import Derived.Test.YtpangmameocfmaaP1
import Derived.Test.YtpangmameocfmaaT8
set_option linter.all false
namespace Go.Proofs.Ytpangmameocfmaa.VE.P
open Go
set_option maxHeartbeats 400000
set_option maxRecDepth 100000

theorem chB_of {bs : ByteArray} (h : ∀ j, j < bs.size → 48 ≤ tb bs j ∧ tb bs j ≤ 55) : ∀ d i, i + d = bs.size → chB bs d i = true
  | 0, _, _ => rfl
  | d + 1, i, hd => by
    have := h i (by omega)
    rw [chB, if_neg (by omega)]
    exact chB_of h d (i + 1) (by omega)
theorem parse_eq (bs : ByteArray) : parseS bs = parseG isPi bs := by
  unfold parseS parseG
  by_cases h : bs.size % 2 = 0 ∧ bs.size ≤ 8
  · rw [if_pos h, if_pos h, isP_eq _ _ pa_len]
    cases hq : isPi (bs.size / 2 : Nat) (pa bs bs.size) with
    | false => simp
    | true =>
      have : chA bs = true := by
        refine chB_of (fun j hj => ?_) bs.size 0 (by omega)
        have := isPi_lt hq j
        have hj8 : j < 8 := by omega
        rw [List.getD_eq_getElem?_getD] at this
        simp only [pa, List.getElem?_map, List.getElem?_range hj8, Option.map_some, Option.getD_some, if_pos hj] at this
        have htb : tb bs j < 256 := by rw [tb_at hj]; exact (bs[j]).toNat_lt
        omega
      rw [this]; rfl
  · rw [if_neg h, if_neg h]

theorem s_rowParse (bs : ByteArray) : Spec Try.prog n_l_FnExactParsePartition [.raw (.string bs)] [] (vb true) [] :=
  s_lawParse bs (fun _ => parse_eq bs)
end Go.Proofs.Ytpangmameocfmaa.VE.P
