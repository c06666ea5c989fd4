/- Contracts of functions of the given program, for all arguments that the contract names; see each theorem. -/
import Derived.Test.YtcibbadioijmcaaM11
import Derived.Test.YtcibbadioijmcaaW1
set_option linter.all false
namespace Go.Proofs.Ytcibbadioijmcaa.VE
open Go
set_option maxHeartbeats 1600000
set_option maxRecDepth 100000

def gc (c : Nat × Nat) (j : Nat) : Int := if j = 0 then ((c.1 : Nat) : Int) else ((c.2 : Nat) : Int)
theorem lc2_il {c : Nat × Nat} : lc2 c = il (gc c) 2 := rfl
theorem row2l {c : List Value} {k : IntKind} {a : Int} (h : c.length = 2) : 1 * 1 + 1 ≤ (c.take (0 * 1) ++ (Value.int k a).cells.toList ++ c.drop (0 * 1 + 1)).length := by
  match c, h with
  | [x, y], _ => exact Nat.le_refl _
theorem row2i {c : List Value} {k : IntKind} {a b : Int} (h : c.length = 2) : (c.take (0 * 1) ++ (Value.int k a).cells.toList ++ c.drop (0 * 1 + 1)).take (1 * 1) ++ (Value.int k b).cells.toList ++ (c.take (0 * 1) ++ (Value.int k a).cells.toList ++ c.drop (0 * 1 + 1)).drop (1 * 1 + 1) = [.int k a, .int k b] := by
  match c, h with
  | [x, y], _ => rfl
theorem s_listC (c : Nat × Nat) : Spec Try.prog n_i_bothLoops_list [.raw (.agg (lc2 c).toArray)] [] (.sl 0) [.pr T_int64 1 2 (il (gc c) 2)] := by
  refine SpecW.of_EV hf_i_bothLoops_list hc_i_bothLoops_list rfl rfl rfl fun w0 B ρ0 _ => ?_
  (repeat' (first | refine Exists.intro 0 (And.intro ⟨rfl, leR rfl⟩ ?_) | refine Exists.intro 1 (And.intro ⟨rfl, leR rfl⟩ ?_) | refine And.intro ⟨rfl, mkL rfl⟩ ?_ | refine And.intro ⟨rfl, row2l mk_len⟩ ?_ | refine Exists.intro (lc2 c) (And.intro (row2i mk_len) ?_) | refine And.intro (neI rfl) ?_ | refine And.intro ⟨rfl, leR rfl, onesR rfl⟩ ?_ | refine And.intro ⟨rfl, leR rfl⟩ ?_ | refine draw_rule2 hfol (fun KK hKK => ?_) | refine hKK _ _ _ (by kernel_rfl) ?_ | refine region_rule (fun KK hKK => ?_) | refine hKK _ _ ?_ | refine And.intro (Eq.refl true) ?_ | refine Exists.intro _ (And.intro (wI (by omega)) ?_) | refine Exists.intro _ (And.intro (wU (by omega)) ?_) | refine Exists.intro _ (And.intro ⟨rfl, by omega⟩ ?_) | refine Exists.intro _ (And.intro rfl ?_) | refine And.intro rfl ?_ | refine And.intro ⟨rfl, rfl⟩ ?_ | ((refine And.intro (fun _ => ?_) (fun _ => ?_)) <;> try (exfalso; omega))))
  exact Exists.intro [1] (And.intro (rfl) (And.intro ⟨rfl, trivial⟩ rfl))
theorem row2B {c : List Value} {p q : Int × List Nat × List Bool} (h : c.length = 2 * 33) (hp : (bcB p.1 p.2.1 p.2.2).length = 33) (hq : (bcB q.1 q.2.1 q.2.2).length = 33) :
    (c.take (0 * 33) ++ bcB p.1 p.2.1 p.2.2 ++ c.drop (0 * 33 + 33)).take (1 * 33) ++ bcB q.1 q.2.1 q.2.2 ++ (c.take (0 * 33) ++ bcB p.1 p.2.1 p.2.2 ++ c.drop (0 * 33 + 33)).drop (1 * 33 + 33) = rowB [p, q] := by
  have e : c.take (0 * 33) ++ bcB p.1 p.2.1 p.2.2 ++ c.drop (0 * 33 + 33) = bcB p.1 p.2.1 p.2.2 ++ c.drop 33 := by simp
  rw [e, Nat.one_mul, List.take_append_of_le_length (by omega), List.take_of_length_le (by omega), List.drop_of_length_le (by rw [List.length_append, List.length_drop, hp, h]; omega)]
  simp [rowB]
theorem okAt_bl {n : Nat} {a : List Nat} {ba : List Bool} (ha : IsV n a) (h : ∀ j, j < 16 → okAt n a ba j) (p : Nat) (hp : p < 2 * n) : ba.getD (a.getD p 0) false = ba.getD p false := by
  have hn := ha.n8
  have h1 := h p (by omega)
  have h2 := h (a.getD p 0) (by have := ha.lt p hp; omega)
  unfold okAt at h1 h2
  rw [ha.inv p hp] at h2
  exact bool_iff ⟨fun e => (h2 e).2.1, fun e => (h1 e).2.1⟩
abbrev zV : V := bV 0 (List.replicate 16 0) (List.replicate 16 false)
section
variable (s : Int) (a : List Nat) (ba : List Bool) (la : a.length = 16) (xa : ∀ x ∈ a, x < 256) (lba : ba.length = 16) (t : Int) (b : List Nat) (bb : List Bool) (lb : b.length = 16) (xb : ∀ x ∈ b, x < 256) (lbb : bb.length = 16)
include la xa lba lb xb lbb
theorem s_sMulB1 (h : (isBl s a ba && isBl t b bb) = false) : Spec Try.prog n_s_MultiplyBlobbed [bV s a ba, bV t b bb] [] (.tup [zV, .raw (.slice none 0 0), vi 1]) [] := by
  have h1 := s_sIsBl s a ba la xa lba
  have h2 := s_sIsBl t b bb lb xb lbb
  refine SpecW.of_EV hf_s_MultiplyBlobbed hc_s_MultiplyBlobbed rfl rfl rfl fun w0 B ρ0 _ => ?_
  cases hx : isBl s a ba with
  | false =>
    rw [hx] at h1
    (repeat' (first | refine (h1).pure rfl ?_ | refine (h2).pure rfl ?_ | refine Exists.intro (bcB s a ba) (And.intro ⟨bcB_len la lba, bcB_all la lba⟩ ?_) | refine Exists.intro (bcB t b bb) (And.intro ⟨bcB_len lb lbb, bcB_all lb lbb⟩ ?_) | refine Exists.intro (bcB 0 (List.replicate 16 0) (List.replicate 16 false)) (And.intro ⟨leR rfl, rfl⟩ ?_) | refine Exists.intro (bcB 0 (List.replicate 16 0) (List.replicate 16 false)) (And.intro ⟨rfl, rfl⟩ ?_) | refine And.intro (neI rfl) ?_ | refine And.intro ⟨rfl, leR rfl, onesR rfl⟩ ?_ | refine And.intro ⟨rfl, leR rfl⟩ ?_ | refine draw_rule2 hfol (fun KK hKK => ?_) | refine hKK _ _ _ (by kernel_rfl) ?_ | refine region_rule (fun KK hKK => ?_) | refine hKK _ _ ?_ | refine And.intro (Eq.refl true) ?_ | refine Exists.intro _ (And.intro (wI (by omega)) ?_) | refine Exists.intro _ (And.intro (wU (by omega)) ?_) | refine Exists.intro _ (And.intro ⟨rfl, by omega⟩ ?_) | refine Exists.intro _ (And.intro rfl ?_) | refine And.intro rfl ?_ | refine And.intro ⟨rfl, rfl⟩ ?_ | ((refine And.intro (fun _ => ?_) (fun _ => ?_)) <;> try (exfalso; omega))))
    exact Exists.intro [] (And.intro (rfl) (And.intro trivial rfl))
  | true =>
    rw [hx, Bool.true_and] at h
    rw [hx] at h1
    rw [h] at h2
    (repeat' (first | refine (h1).pure rfl ?_ | refine (h2).pure rfl ?_ | refine Exists.intro (bcB s a ba) (And.intro ⟨bcB_len la lba, bcB_all la lba⟩ ?_) | refine Exists.intro (bcB t b bb) (And.intro ⟨bcB_len lb lbb, bcB_all lb lbb⟩ ?_) | refine Exists.intro (bcB 0 (List.replicate 16 0) (List.replicate 16 false)) (And.intro ⟨leR rfl, rfl⟩ ?_) | refine Exists.intro (bcB 0 (List.replicate 16 0) (List.replicate 16 false)) (And.intro ⟨rfl, rfl⟩ ?_) | refine And.intro (neI rfl) ?_ | refine And.intro ⟨rfl, leR rfl, onesR rfl⟩ ?_ | refine And.intro ⟨rfl, leR rfl⟩ ?_ | refine draw_rule2 hfol (fun KK hKK => ?_) | refine hKK _ _ _ (by kernel_rfl) ?_ | refine region_rule (fun KK hKK => ?_) | refine hKK _ _ ?_ | refine And.intro (Eq.refl true) ?_ | refine Exists.intro _ (And.intro (wI (by omega)) ?_) | refine Exists.intro _ (And.intro (wU (by omega)) ?_) | refine Exists.intro _ (And.intro ⟨rfl, by omega⟩ ?_) | refine Exists.intro _ (And.intro rfl ?_) | refine And.intro rfl ?_ | refine And.intro ⟨rfl, rfl⟩ ?_ | ((refine And.intro (fun _ => ?_) (fun _ => ?_)) <;> try (exfalso; omega))))
    exact Exists.intro [] (And.intro (rfl) (And.intro trivial rfl))
theorem s_sMulB2 (hx : isBl s a ba = true) (hy : isBl t b bb = true) (hst : s ≠ t) : Spec Try.prog n_s_MultiplyBlobbed [bV s a ba, bV t b bb] [] (.tup [zV, .raw (.slice none 0 0), vi 2]) [] := by
  have h1 := s_sIsBl s a ba la xa lba
  have h2 := s_sIsBl t b bb lb xb lbb
  rw [hx] at h1
  rw [hy] at h2
  refine SpecW.of_EV hf_s_MultiplyBlobbed hc_s_MultiplyBlobbed rfl rfl rfl fun w0 B ρ0 _ => ?_
  (repeat' (first | refine (h1).pure rfl ?_ | refine (h2).pure rfl ?_ | refine Exists.intro (bcB s a ba) (And.intro ⟨bcB_len la lba, bcB_all la lba⟩ ?_) | refine Exists.intro (bcB t b bb) (And.intro ⟨bcB_len lb lbb, bcB_all lb lbb⟩ ?_) | refine Exists.intro (bcB 0 (List.replicate 16 0) (List.replicate 16 false)) (And.intro ⟨leR rfl, rfl⟩ ?_) | refine Exists.intro (bcB 0 (List.replicate 16 0) (List.replicate 16 false)) (And.intro ⟨rfl, rfl⟩ ?_) | refine And.intro (neI rfl) ?_ | refine And.intro ⟨rfl, leR rfl, onesR rfl⟩ ?_ | refine And.intro ⟨rfl, leR rfl⟩ ?_ | refine draw_rule2 hfol (fun KK hKK => ?_) | refine hKK _ _ _ (by kernel_rfl) ?_ | refine region_rule (fun KK hKK => ?_) | refine hKK _ _ ?_ | refine And.intro (Eq.refl true) ?_ | refine Exists.intro _ (And.intro (wI (by omega)) ?_) | refine Exists.intro _ (And.intro (wU (by omega)) ?_) | refine Exists.intro _ (And.intro ⟨rfl, by omega⟩ ?_) | refine Exists.intro _ (And.intro rfl ?_) | refine And.intro rfl ?_ | refine And.intro ⟨rfl, rfl⟩ ?_ | ((refine And.intro (fun _ => ?_) (fun _ => ?_)) <;> try (exfalso; omega))))
  exact Exists.intro [] (And.intro (rfl) (And.intro trivial rfl))
theorem s_iMulB1 (h : (isBl s a ba && isBl t b bb) = false) : Spec Try.prog n_i_MultiplyBlobbed [bV s a ba, bV t b bb] [] (.tup [zV, .raw (.slice none 0 0), vi 1]) [] := by
  have h1 := s_badB [(s, a, ba), (t, b, bb)] (by
    intro p hp
    simp only [List.mem_cons, List.not_mem_nil, or_false] at hp
    rcases hp with rfl | rfl
    · exact ⟨la, xa, lba⟩
    · exact ⟨lb, xb, lbb⟩) (show 2 ≤ 1000 by decide)
  have he : ([(s, a, ba), (t, b, bb)].any fun p => !isBl p.1 p.2.1 p.2.2) = true := by
    simp only [List.any_cons, List.any_nil, Bool.or_false]
    rw [← Bool.not_and, h]; rfl
  rw [he] at h1
  refine SpecW.of_EV hf_i_MultiplyBlobbed hc_i_MultiplyBlobbed rfl rfl rfl fun w0 B ρ0 _ => ?_
  (repeat' (first | refine (h1).read [3] rfl ⟨rfl, trivial⟩ ?_ | refine Exists.intro (bcB s a ba) (And.intro ⟨bcB_len la lba, bcB_all la lba⟩ ?_) | refine Exists.intro (bcB t b bb) (And.intro ⟨bcB_len lb lbb, bcB_all lb lbb⟩ ?_) | refine And.intro ⟨bcB_len la lba, mkL rfl⟩ ?_ | refine And.intro ⟨bcB_len lb lbb, Nat.le_of_eq (fill_len (N := 33) mk_len (bcB_len la lba) (leR rfl)).symm⟩ ?_ | refine Exists.intro (rowB [(s, a, ba), (t, b, bb)]) (And.intro (row2B (p := (_, a, ba)) (q := (_, b, bb)) mk_len (bcB_len la lba) (bcB_len lb lbb)) ?_) | refine Exists.intro (bcB 0 (List.replicate 16 0) (List.replicate 16 false)) (And.intro ⟨leR rfl, rfl⟩ ?_) | refine Exists.intro (bcB 0 (List.replicate 16 0) (List.replicate 16 false)) (And.intro ⟨rfl, rfl⟩ ?_) | refine And.intro (neI rfl) ?_ | refine And.intro ⟨rfl, leR rfl, onesR rfl⟩ ?_ | refine And.intro ⟨rfl, leR rfl⟩ ?_ | refine draw_rule2 hfol (fun KK hKK => ?_) | refine hKK _ _ _ (by kernel_rfl) ?_ | refine region_rule (fun KK hKK => ?_) | refine hKK _ _ ?_ | refine And.intro (Eq.refl true) ?_ | refine Exists.intro _ (And.intro (wI (by omega)) ?_) | refine Exists.intro _ (And.intro (wU (by omega)) ?_) | refine Exists.intro _ (And.intro ⟨rfl, by omega⟩ ?_) | refine Exists.intro _ (And.intro rfl ?_) | refine And.intro rfl ?_ | refine And.intro ⟨rfl, rfl⟩ ?_ | ((refine And.intro (fun _ => ?_) (fun _ => ?_)) <;> try (exfalso; omega))))
  exact Exists.intro [] (And.intro (rfl) (And.intro trivial rfl))
theorem s_iMulB2 (hx : isBl s a ba = true) (hy : isBl t b bb = true) (hst : s ≠ t) : Spec Try.prog n_i_MultiplyBlobbed [bV s a ba, bV t b bb] [] (.tup [zV, .raw (.slice none 0 0), vi 2]) [] := by
  have h1 := s_badB [(s, a, ba), (t, b, bb)] (by
    intro p hp
    simp only [List.mem_cons, List.not_mem_nil, or_false] at hp
    rcases hp with rfl | rfl
    · exact ⟨la, xa, lba⟩
    · exact ⟨lb, xb, lbb⟩) (show 2 ≤ 1000 by decide)
  have he : ([(s, a, ba), (t, b, bb)].any fun p => !isBl p.1 p.2.1 p.2.2) = false := by
    simp only [List.any_cons, List.any_nil, Bool.or_false]
    rw [hx, hy]; rfl
  rw [he] at h1
  refine SpecW.of_EV hf_i_MultiplyBlobbed hc_i_MultiplyBlobbed rfl rfl rfl fun w0 B ρ0 _ => ?_
  (repeat' (first | refine (h1).read [3] rfl ⟨rfl, trivial⟩ ?_ | refine Exists.intro (bcB s a ba) (And.intro ⟨bcB_len la lba, bcB_all la lba⟩ ?_) | refine Exists.intro (bcB t b bb) (And.intro ⟨bcB_len lb lbb, bcB_all lb lbb⟩ ?_) | refine And.intro ⟨bcB_len la lba, mkL rfl⟩ ?_ | refine And.intro ⟨bcB_len lb lbb, Nat.le_of_eq (fill_len (N := 33) mk_len (bcB_len la lba) (leR rfl)).symm⟩ ?_ | refine Exists.intro (rowB [(s, a, ba), (t, b, bb)]) (And.intro (row2B (p := (_, a, ba)) (q := (_, b, bb)) mk_len (bcB_len la lba) (bcB_len lb lbb)) ?_) | refine Exists.intro (bcB 0 (List.replicate 16 0) (List.replicate 16 false)) (And.intro ⟨leR rfl, rfl⟩ ?_) | refine Exists.intro (bcB 0 (List.replicate 16 0) (List.replicate 16 false)) (And.intro ⟨rfl, rfl⟩ ?_) | refine And.intro (neI rfl) ?_ | refine And.intro ⟨rfl, leR rfl, onesR rfl⟩ ?_ | refine And.intro ⟨rfl, leR rfl⟩ ?_ | refine draw_rule2 hfol (fun KK hKK => ?_) | refine hKK _ _ _ (by kernel_rfl) ?_ | refine region_rule (fun KK hKK => ?_) | refine hKK _ _ ?_ | refine And.intro (Eq.refl true) ?_ | refine Exists.intro _ (And.intro (wI (by omega)) ?_) | refine Exists.intro _ (And.intro (wU (by omega)) ?_) | refine Exists.intro _ (And.intro ⟨rfl, by omega⟩ ?_) | refine Exists.intro _ (And.intro rfl ?_) | refine And.intro rfl ?_ | refine And.intro ⟨rfl, rfl⟩ ?_ | ((refine And.intro (fun _ => ?_) (fun _ => ?_)) <;> try (exfalso; omega))))
  exact Exists.intro [] (And.intro (rfl) (And.intro trivial rfl))
end
section
variable (n : Nat) (a b : List Nat) (ba bb : List Bool) (xa : ∀ x ∈ a, x < 256) (xb : ∀ x ∈ b, x < 256) (lba : ba.length = 16) (lbb : bb.length = 16) (ha : IsV n a) (hb : IsV n b) (hx : isBl n a ba = true) (hy : isBl n b bb = true)
  (hoa : ∀ j, j < 16 → okAt n a ba j) (hob : ∀ j, j < 16 → okAt n b bb j)
include xa xb lba lbb ha hb hx hy
theorem s_iMulB : Spec Try.prog n_i_MultiplyBlobbed [bV n a ba, bV n b bb] [] (.tup [bV n (oL n a b n).1 (bbO n a b ba bb n), .sl 0, vi 0]) [.pr T_int64 1 2 (il (gc (lpNB n a b ba bb)) 2)] := by
  have la := ha.len
  have lb := hb.len
  have h1 := s_badB [((n : Int), a, ba), ((n : Int), b, bb)] (by
    intro p hp
    simp only [List.mem_cons, List.not_mem_nil, or_false] at hp
    rcases hp with rfl | rfl
    · exact ⟨la, xa, lba⟩
    · exact ⟨lb, xb, lbb⟩) (show 2 ≤ 1000 by decide)
  have he : ([((n : Int), a, ba), ((n : Int), b, bb)].any fun p => !isBl p.1 p.2.1 p.2.2) = false := by
    simp only [List.any_cons, List.any_nil, Bool.or_false]
    rw [hx, hy]; rfl
  rw [he] at h1
  have h2 := s_timesB n a b ha hb ba bb lba lbb
  have lo := (oL_inv ha hb n (Nat.le_refl n)).1
  have lob := bbO_len (n := n) (a := a) (b := b) (ba := ba) (bb := bb) (i := n)
  generalize (oL n a b n).1 = P at h2 lo
  generalize bbO n a b ba bb n = RB at h2 lob
  generalize lpNB n a b ba bb = c at h2
  have h3 := s_listC c
  have hfol : Try.prog.follows .mixedOrders = true := rfl
  refine SpecW.of_EV hf_i_MultiplyBlobbed hc_i_MultiplyBlobbed rfl rfl rfl fun w0 B ρ0 _ => ?_
  (repeat' (first | refine (h1).read [3] rfl ⟨rfl, trivial⟩ ?_ | refine (h2).pure rfl ?_ | refine (h3).make [] rfl trivial ?_ | refine Exists.intro (bcB n a ba) (And.intro ⟨bcB_len la lba, bcB_all la lba⟩ ?_) | refine Exists.intro (bcB n b bb) (And.intro ⟨bcB_len lb lbb, bcB_all lb lbb⟩ ?_) | refine And.intro ⟨bcB_len la lba, mkL rfl⟩ ?_ | refine And.intro ⟨bcB_len lb lbb, Nat.le_of_eq (fill_len (N := 33) mk_len (bcB_len la lba) (leR rfl)).symm⟩ ?_ | refine Exists.intro (rowB [((n : Int), a, ba), ((n : Int), b, bb)]) (And.intro (row2B (p := (_, a, ba)) (q := (_, b, bb)) mk_len (bcB_len la lba) (bcB_len lb lbb)) ?_) | refine Exists.intro (bcB n P RB) (And.intro ⟨bcB_len lo lob, bcB_all lo lob⟩ ?_) | refine Exists.intro (bcB n P RB) (And.intro ⟨leR rfl, spl0 (leR rfl)⟩ ?_) | refine And.intro ⟨bcB_len lo lob, leR rfl, bcB_ones⟩ ?_ | refine Exists.intro (lc2 c) (And.intro ⟨rfl, rfl⟩ ?_) | refine Exists.intro (lc2 c) (And.intro ⟨leR rfl, rfl⟩ ?_) | refine And.intro (neI rfl) ?_ | refine And.intro ⟨rfl, leR rfl, onesR rfl⟩ ?_ | refine And.intro ⟨rfl, leR rfl⟩ ?_ | refine draw_rule2 hfol (fun KK hKK => ?_) | refine hKK _ _ _ (by kernel_rfl) ?_ | refine region_rule (fun KK hKK => ?_) | refine hKK _ _ ?_ | refine And.intro (Eq.refl true) ?_ | refine Exists.intro _ (And.intro (wI (by omega)) ?_) | refine Exists.intro _ (And.intro (wU (by omega)) ?_) | refine Exists.intro _ (And.intro ⟨rfl, by omega⟩ ?_) | refine Exists.intro _ (And.intro rfl ?_) | refine And.intro rfl ?_ | refine And.intro ⟨rfl, rfl⟩ ?_ | ((refine And.intro (fun _ => ?_) (fun _ => ?_)) <;> try (exfalso; omega))))
  exact Exists.intro [6] (And.intro (rfl) (And.intro ⟨rfl, trivial⟩ rfl))
include hoa hob
theorem s_sMulB : Spec Try.prog n_s_MultiplyBlobbed [bV n a ba, bV n b bb] [] (.tup [bV n (oL n a b n).1 (bbO n a b ba bb n), .sl 0, vi 0]) [.pr T_int64 1 2 (il (gc (lpNB n a b ba bb)) 2)] := by
  have la := ha.len
  have lb := hb.len
  have h1 := s_sIsBl n a ba la xa lba
  have h2 := s_sIsBl n b bb lb xb lbb
  rw [hx] at h1
  rw [hy] at h2
  have hB : ∀ l p, p < 2 * n → bl2 ba bb l (mt a b l p) = bl2 ba bb l p := fun l p hp => by
    cases l
    · exact okAt_bl ha hoa p hp
    · exact okAt_bl hb hob p hp
  have h3 := s_l09Times n a b ha hb ba bb lba lbb
  rw [rB_eq ha hb hB n (Nat.le_refl n), ← lpNB_eq ha hb hB] at h3
  have lo := (oL_inv ha hb n (Nat.le_refl n)).1
  have lob := bbO_len (n := n) (a := a) (b := b) (ba := ba) (bb := bb) (i := n)
  generalize (oL n a b n).1 = P at h3 lo
  generalize bbO n a b ba bb n = RB at h3 lob
  generalize lpNB n a b ba bb = c at h3
  have hfol : Try.prog.follows .mixedOrders = true := rfl
  refine SpecW.of_EV hf_s_MultiplyBlobbed hc_s_MultiplyBlobbed rfl rfl rfl fun w0 B ρ0 _ => ?_
  (repeat' (first | refine (h1).pure rfl ?_ | refine (h2).pure rfl ?_ | refine (h3).pure rfl ?_ | refine Exists.intro (bcB n a ba) (And.intro ⟨bcB_len la lba, bcB_all la lba⟩ ?_) | refine Exists.intro (bcB n b bb) (And.intro ⟨bcB_len lb lbb, bcB_all lb lbb⟩ ?_) | refine Exists.intro (bcB n P RB) (And.intro ⟨bcB_len lo lob, bcB_all lo lob⟩ ?_) | refine Exists.intro (bcB n P RB) (And.intro ⟨leR rfl, spl0 (leR rfl)⟩ ?_) | refine And.intro ⟨bcB_len lo lob, leR rfl, bcB_ones⟩ ?_ | refine Exists.intro 0 (And.intro ⟨rfl, leR rfl⟩ ?_) | refine Exists.intro 1 (And.intro ⟨rfl, leR rfl⟩ ?_) | refine And.intro ⟨rfl, mkL rfl⟩ ?_ | refine And.intro ⟨rfl, row2l mk_len⟩ ?_ | refine Exists.intro (lc2 c) (And.intro (row2i mk_len) ?_) | refine Exists.intro (lc2 c) (And.intro ⟨rfl, rfl⟩ ?_) | refine Exists.intro (lc2 c) (And.intro ⟨leR rfl, rfl⟩ ?_) | refine And.intro (neI rfl) ?_ | refine And.intro ⟨rfl, leR rfl, onesR rfl⟩ ?_ | refine And.intro ⟨rfl, leR rfl⟩ ?_ | refine draw_rule2 hfol (fun KK hKK => ?_) | refine hKK _ _ _ (by kernel_rfl) ?_ | refine region_rule (fun KK hKK => ?_) | refine hKK _ _ ?_ | refine And.intro (Eq.refl true) ?_ | refine Exists.intro _ (And.intro (wI (by omega)) ?_) | refine Exists.intro _ (And.intro (wU (by omega)) ?_) | refine Exists.intro _ (And.intro ⟨rfl, by omega⟩ ?_) | refine Exists.intro _ (And.intro rfl ?_) | refine And.intro rfl ?_ | refine And.intro ⟨rfl, rfl⟩ ?_ | ((refine And.intro (fun _ => ?_) (fun _ => ?_)) <;> try (exfalso; omega))))
  exact Exists.intro [5] (And.intro (rfl) (And.intro ⟨rfl, trivial⟩ rfl))
end
end Go.Proofs.Ytcibbadioijmcaa.VE
