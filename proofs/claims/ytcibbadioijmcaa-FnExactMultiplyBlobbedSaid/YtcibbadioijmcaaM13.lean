/- Contracts of functions of the given program, for all arguments that the contract names; see each theorem. -/
import Derived.Test.YtcibbadioijmcaaM12
set_option linter.all false
namespace Go.Proofs.Ytcibbadioijmcaa.VE
open Go
set_option maxHeartbeats 1600000
set_option maxRecDepth 100000

section
variable (s : Int) (a : List Nat) (ba : List Bool) (la : a.length = 16) (lba : ba.length = 16) (t : Int) (b : List Nat) (bb : List Bool) (lb : b.length = 16) (lbb : bb.length = 16) (rs : Int) (rm : List Nat) (rb : List Bool) (lr : rm.length = 16) (lrb : rb.length = 16) (c : Int)
include la lba lb lbb lr lrb
theorem lawok_M (g : Nat → Int) (hS : Spec Try.prog n_s_MultiplyBlobbed [bV s a ba, bV t b bb] [] (.tup [bV rs rm rb, .sl 0, vi c]) [.pr T_int64 1 2 (il g 2)]) (hI : Spec Try.prog n_i_MultiplyBlobbed [bV s a ba, bV t b bb] [] (.tup [bV rs rm rb, .sl 0, vi c]) [.pr T_int64 1 2 (il g 2)]) :
    Spec Try.prog n_l_FnExactMultiplyBlobbed [bV s a ba, bV t b bb] [] (vb true) [] := by
  have h1 := s_toBl s a ba la lba
  have h2 := s_toBl t b bb lb lbb
  have hq := s_eqBl rs rm rb lr lrb
  have he := s_eqI g 2 (by omega)
  have hm1 := s_markI g 2 1 (by omega) (by omega)
  have hh1 := s_heldI 2 1 (by omega) (by omega)
  have hfol : Try.prog.follows .mixedOrders = true := rfl
  refine SpecW.of_EV hf_l_FnExactMultiplyBlobbed hc_l_FnExactMultiplyBlobbed rfl rfl rfl fun w0 B ρ0 _ => ?_
  (repeat' (first | refine (h1).pure rfl ?_ | refine (h2).pure rfl ?_ | refine Exists.intro (bcB s a ba) (And.intro ⟨bcB_len la lba, bcB_all la lba⟩ ?_) | refine Exists.intro (bcB t b bb) (And.intro ⟨bcB_len lb lbb, bcB_all lb lbb⟩ ?_) | refine (hS).make [] rfl trivial ?_ | refine (hI).make [] rfl trivial ?_ | refine And.intro ⟨bcB_len lr lrb, leR rfl, bcB_ones⟩ ?_ | refine Exists.intro (bcB rs rm rb) (And.intro ⟨leR rfl, spl0 (leR rfl)⟩ ?_) | refine Exists.intro (bcB rs rm rb) (And.intro ⟨bcB_len lr lrb, bcB_all lr lrb⟩ ?_) | refine (hq).pure rfl ?_ | refine (he).read [4,2] rfl ⟨rfl, rfl, trivial⟩ ?_ | refine (he).read [6,2] rfl ⟨rfl, rfl, trivial⟩ ?_ | refine (hm1).make [4] rfl ⟨rfl, trivial⟩ ?_ | refine (hh1).read [4] rfl ⟨rfl, trivial⟩ ?_ | refine And.intro (fun h => absurd rfl h) (fun _ => ?_) | refine And.intro (fun _ => ?_) (fun h => absurd rfl h) | refine And.intro (neI rfl) ?_ | refine And.intro ⟨rfl, leR rfl, onesR rfl⟩ ?_ | refine And.intro ⟨rfl, leR rfl⟩ ?_ | refine draw_rule2 hfol (fun KK hKK => ?_) | refine hKK _ _ _ (by kernel_rfl) ?_ | refine region_rule (fun KK hKK => ?_) | refine hKK _ _ ?_ | refine And.intro (Eq.refl true) ?_ | refine Exists.intro _ (And.intro (wI (by omega)) ?_) | refine Exists.intro _ (And.intro (wU (by omega)) ?_) | refine Exists.intro _ (And.intro ⟨rfl, by omega⟩ ?_) | refine Exists.intro _ (And.intro rfl ?_) | refine And.intro rfl ?_ | refine And.intro ⟨rfl, rfl⟩ ?_ | ((refine And.intro (fun _ => ?_) (fun _ => ?_)) <;> try (exfalso; omega))))
  exact finP rfl
theorem lawerr_M (hS : Spec Try.prog n_s_MultiplyBlobbed [bV s a ba, bV t b bb] [] (.tup [bV rs rm rb, .raw (.slice none 0 0), vi c]) []) (hI : Spec Try.prog n_i_MultiplyBlobbed [bV s a ba, bV t b bb] [] (.tup [bV rs rm rb, .raw (.slice none 0 0), vi c]) []) :
    Spec Try.prog n_l_FnExactMultiplyBlobbed [bV s a ba, bV t b bb] [] (vb true) [] := by
  have h1 := s_toBl s a ba la lba
  have h2 := s_toBl t b bb lb lbb
  have hq := s_eqBl rs rm rb lr lrb
  have hm1 := s_markI0 1
  have hh1 := s_heldI0 1
  have hfol : Try.prog.follows .mixedOrders = true := rfl
  refine SpecW.of_EV hf_l_FnExactMultiplyBlobbed hc_l_FnExactMultiplyBlobbed rfl rfl rfl fun w0 B ρ0 _ => ?_
  (repeat' (first | refine (h1).pure rfl ?_ | refine (h2).pure rfl ?_ | refine Exists.intro (bcB s a ba) (And.intro ⟨bcB_len la lba, bcB_all la lba⟩ ?_) | refine Exists.intro (bcB t b bb) (And.intro ⟨bcB_len lb lbb, bcB_all lb lbb⟩ ?_) | refine (hS).pure rfl ?_ | refine (hI).pure rfl ?_ | refine And.intro ⟨bcB_len lr lrb, leR rfl, bcB_ones⟩ ?_ | refine Exists.intro (bcB rs rm rb) (And.intro ⟨leR rfl, spl0 (leR rfl)⟩ ?_) | refine Exists.intro (bcB rs rm rb) (And.intro ⟨bcB_len lr lrb, bcB_all lr lrb⟩ ?_) | refine (hq).pure rfl ?_ | refine (s_eqI0).pure rfl ?_ | refine (hm1).pure rfl ?_ | refine (hh1).pure rfl ?_ | refine And.intro (fun h => absurd rfl h) (fun _ => ?_) | refine And.intro (fun _ => ?_) (fun h => absurd rfl h) | refine And.intro (neI rfl) ?_ | refine And.intro ⟨rfl, leR rfl, onesR rfl⟩ ?_ | refine And.intro ⟨rfl, leR rfl⟩ ?_ | refine draw_rule2 hfol (fun KK hKK => ?_) | refine hKK _ _ _ (by kernel_rfl) ?_ | refine region_rule (fun KK hKK => ?_) | refine hKK _ _ ?_ | refine And.intro (Eq.refl true) ?_ | refine Exists.intro _ (And.intro (wI (by omega)) ?_) | refine Exists.intro _ (And.intro (wU (by omega)) ?_) | refine Exists.intro _ (And.intro ⟨rfl, by omega⟩ ?_) | refine Exists.intro _ (And.intro rfl ?_) | refine And.intro rfl ?_ | refine And.intro ⟨rfl, rfl⟩ ?_ | ((refine And.intro (fun _ => ?_) (fun _ => ?_)) <;> try (exfalso; omega))))
  exact finP rfl
end
theorem s_lawMulB (s : Int) (a : List Nat) (ba : List Bool) (la : a.length = 16) (xa : ∀ x ∈ a, x < 256) (lba : ba.length = 16) (t : Int) (b : List Nat) (bb : List Bool) (lb : b.length = 16) (xb : ∀ x ∈ b, x < 256) (lbb : bb.length = 16) :
    Spec Try.prog n_l_FnExactMultiplyBlobbed [bV s a ba, bV t b bb] [] (vb true) [] := by
  cases h : (isBl s a ba && isBl t b bb) with
  | false => exact lawerr_M s a ba la lba t b bb lb lbb 0 _ _ r16n r16b 1 (s_sMulB1 s a ba la xa lba t b bb lb xb lbb h) (s_iMulB1 s a ba la xa lba t b bb lb xb lbb h)
  | true =>
    rw [Bool.and_eq_true] at h
    by_cases hst : s = t
    · subst hst
      obtain ⟨n, rfl, hd, _, hoa⟩ := isBl_elim la h.1
      obtain ⟨n2, e2, he, _, hob⟩ := isBl_elim lb h.2
      obtain rfl : n = n2 := by omega
      have lo := (oL_inv hd.toIsV he.toIsV n (Nat.le_refl n)).1
      exact lawok_M n a ba la lba n b bb lb lbb n _ _ lo bbO_len 0 _ (s_sMulB n a b ba bb xa xb lba lbb hd.toIsV he.toIsV h.1 h.2 hoa hob) (s_iMulB n a b ba bb xa xb lba lbb hd.toIsV he.toIsV h.1 h.2)
    · exact lawerr_M s a ba la lba t b bb lb lbb 0 _ _ r16n r16b 2 (s_sMulB2 s a ba la xa lba t b bb lb xb lbb h.1 h.2 hst) (s_iMulB2 s a ba la xa lba t b bb lb xb lbb h.1 h.2 hst)
end Go.Proofs.Ytcibbadioijmcaa.VE
