/- Contracts of functions of the given program, for all arguments that the contract names; see each theorem. -/
import Derived.Test.YtgpgcdofhkpeaaaF6
import Derived.Test.YtgpgcdofhkpeaaaEd
set_option linter.all false
namespace Go.Proofs.Ytgpgcdofhkpeaaa.VE
open Go
set_option maxHeartbeats 12000000
set_option maxRecDepth 100000

theorem s_lnum (n : Nat) (m : List Nat) (hd : IsD n m) : Spec Try.prog n_s_l03Number [pv n m] [] (vi (nuN n m : Nat)) [] := by
  have h := s_sNum n m hd.len (V_byte hd)
  have hr : nuR n m = (((nuN n m : Nat) : Int), 0) := by unfold nuR; rw [isDi_of hd]; rfl
  rw [hr] at h
  refine SpecW.of_EV hf_s_l03Number hc_s_l03Number rfl rfl rfl fun w0 B ρ0 _ => ?_
  (repeat' (first | refine (h).pure rfl ?_ | refine Exists.intro (pcl (n : Int) m) (And.intro ⟨pcl_len hd.len, pcl_all hd.len⟩ ?_) | refine And.intro ⟨pcl_len hd.len, leR rfl, pcl_ones⟩ ?_ | refine Exists.intro (pcl (n : Int) m) (And.intro ⟨leR rfl, spl0 (leR rfl)⟩ ?_) | refine And.intro (neI rfl) ?_ | refine And.intro ⟨rfl, leR rfl, onesR rfl⟩ ?_ | refine And.intro ⟨rfl, leR rfl⟩ ?_ | refine draw_rule2 hfol (fun KK hKK => ?_) | refine hKK _ _ _ (by kernel_rfl) ?_ | refine region_rule (fun KK hKK => ?_) | refine hKK _ _ ?_ | refine And.intro (Eq.refl true) ?_ | refine Exists.intro _ (And.intro (wI (by omega)) ?_) | refine Exists.intro _ (And.intro (wU (by omega)) ?_) | refine Exists.intro _ (And.intro ⟨rfl, by omega⟩ ?_) | refine Exists.intro _ (And.intro rfl ?_) | refine And.intro rfl ?_ | refine And.intro ⟨rfl, rfl⟩ ?_ | ((refine And.intro (fun _ => ?_) (fun _ => ?_)) <;> try (exfalso; omega))))
  exact Exists.intro [] (And.intro (rfl) (And.intro trivial rfl))

/-! rows of diagrams of one size -/
def dw (n : Nat) (l : List (List Nat)) : List Value := rowP (l.map fun m => ((n : Int), m))
theorem rowP_app : ∀ {a b : List (Int × List Nat)}, rowP (a ++ b) = rowP a ++ rowP b
  | [], _ => rfl
  | p :: a, b => by rw [List.cons_append, rowP, rowP, rowP_app, List.append_assoc]
theorem dw_app {n : Nat} {l : List (List Nat)} {m : List Nat} : dw n l ++ pcl n m = dw n (l ++ [m]) := by
  unfold dw; rw [List.map_append, rowP_app]; simp [rowP]
theorem dw_at {n : Nat} {l : List (List Nat)} {i : Nat} (hl : ∀ m ∈ l, m.length = 16) (hi : i < l.length) : ((dw n l).drop (i * 17)).take 17 = pcl n (l.getD i []) := by
  unfold dw
  refine rowP_at (N := 16) (p := ((n : Int), l.getD i [])) (fun p hp => ?_) ?_
  · obtain ⟨m, hm, rfl⟩ := List.mem_map.1 hp; exact hl m hm
  · rw [List.getElem?_map, List.getD_eq_getElem?_getD, List.getElem?_eq_getElem hi]; rfl
def plF (n : Nat) (ms : List (List Nat)) (x : Nat) : Int := ((pG n x 1 ms : Nat) : Int)
theorem eqDw (w : World) {s : Int} {n : Nat} {m m' : List Nat} (hm : m.length = 16) (hm' : m'.length = 16) {b : Bool} (h : decide (s = (n : Int) ∧ m = m') = b) : (Op.equalIn 10000 T_i_Diagram (.agg (pcl s m).toArray) (.agg (pcl n m').toArray)).run Try.prog w = .ok b w := by
  rw [eqDg w hm hm', ← h]
theorem wy_small (n : Nat) (hn : n ≤ 8) : wy (2 * n) 0 ≤ 65536 := by
  have := wy_le (2 * n) 0
  have : 2 ^ (2 * n) ≤ 2 ^ 16 := Nat.pow_le_pow_right (by omega) (by omega)
  omega
theorem row1sD {c : List Value} {s : Int} {m : List Nat} {N : Nat} (h : c.length ≤ N) : c.take (0 * N) ++ pcl s m ++ c.drop (0 * N + N) = pcl s m := by
  simp [List.drop_of_length_le h]
theorem pl_old {n : Nat} {t : GS} (h : GI n t) {e : List Nat} (he : e ∈ t.ms) : plF n t.ms (nuN n e) = ((ix e t.ms + 1 : Nat) : Int) := by
  unfold plF
  rw [pG_some he (fun m hm h2 => nu_inj (h.hd m hm) (h.hd e he) h2), Nat.add_comm]
theorem pl_new {n : Nat} {t : GS} (h : GI n t) {e : List Nat} (hD : IsD n e) (he : e ∉ t.ms) : plF n t.ms (nuN n e) = 0 := by
  unfold plF
  rw [pG_none fun m hm h2 => he (by rw [← nu_inj (h.hd m hm) hD h2]; exact hm)]; rfl
theorem pl_set {n : Nat} {t : GS} (h : GI n t) {e : List Nat} (hD : IsD n e) (he : e ∉ t.ms) {N : Nat} :
    (il (plF n t.ms) N).set (nuN n e) (.int .i64 ((t.ms.length + 1 : Nat) : Int)) = il (plF n (t.ms ++ [e])) N := il_set fun j _ => by
  unfold plF
  by_cases hj : j = nuN n e
  · subst hj
    rw [if_pos rfl, pG_some (by simp) (fun m hm h2 => ?_), ix_new he, Nat.add_comm]
    rcases List.mem_append.1 hm with h3 | h3
    · exact nu_inj (h.hd m h3) hD h2
    · simpa using h3
  · rw [if_neg hj, pG_app (Ne.symm hj)]
theorem eP_app {n : Nat} {ls : Int} {lm e : List Nat} {ms : List (List Nat)} {b : Bool} (hb : decide ((n : Int) = ls ∧ e = lm) = b) (hne : e ∉ ms) :
    eP n ls lm (ms ++ [e]) = if b = true then ((ms.length : Nat) : Int) else eP n ls lm ms := by
  unfold eP
  cases b with
  | true =>
    have h := of_decide_eq_true hb
    rw [if_pos (show ls = (n : Int) ∧ lm ∈ ms ++ [e] from ⟨h.1.symm, by simp [h.2]⟩), if_pos rfl, ← h.2, ix_new hne]
  | false =>
    have h := of_decide_eq_false hb
    rw [if_neg (show ¬ (false = true) by decide)]
    by_cases h2 : ls = n ∧ lm ∈ ms
    · rw [if_pos h2, if_pos (show ls = (n : Int) ∧ lm ∈ ms ++ [e] from ⟨h2.1, by simp [h2.2]⟩), ix_app h2.2]
    · rw [if_neg h2, if_neg (show ¬ (ls = (n : Int) ∧ lm ∈ ms ++ [e]) from fun h3 => ?_)]
      rcases List.mem_append.1 h3.2 with h4 | h4
      · exact h2 ⟨h3.1, h4⟩
      · exact h ⟨h3.1.symm, (List.mem_singleton.1 h4).symm⟩
/-- What is proved once for two paths: its statement is found where it is used first. -/
theorem cutU {T G : Prop} (h : (Unit → T) → G) (b : T) : G := h fun _ => b
def zT : List Value := List.replicate 5 (Value.slice none 0 0)
def goO (n : Nat) (ls : Int) (lm : List Nat) (s : GS) : List O :=
  [.pc (pcl ls lm) T_i_Diagram, .pc zT T_s_l03Tree, .cc [.sl 3, .sl 4, .sl 5, .sl 6, .sl 7] T_s_l03Tree, .pr T_i_Diagram 17 s.ms.length (dw n s.ms), .pr T_int64 1 s.ms.length (nl s.fr), .pr T_int64 1 s.ms.length (nl s.st), .pr T_int64 1 s.ms.length (nl s.ln), .pr T_int64 1 s.ms.length (wl s.wy), .pr T_int64 1 (wy (2 * n) 0) (il (plF n s.ms) (wy (2 * n) 0))]
theorem s_grow (n : Nat) (hn1 : 1 ≤ n) (hn : n ≤ 8) (ls : Int) (lm : List Nat) (hlm : lm.length = 16) (I : Nat) (hI : EndG n ls lm I) :
    Spec Try.prog n_s_l03Grow [vi n, pv ls lm] [] (.agg [.sl 0, .sl 1, .sl 2, .sl 3, .sl 4])
      [.pr T_i_Diagram 17 (gO n I).ms.length (dw n (gO n I).ms), .pr T_int64 1 (gO n I).ms.length (nl (gO n I).fr), .pr T_int64 1 (gO n I).ms.length (nl (gO n I).st), .pr T_int64 1 (gO n I).ms.length (nl (gO n I).ln), .pr T_int64 1 (gO n I).ms.length (wl (gO n I).wy)] := by
  have hfol : Try.prog.follows .mixedOrders = true := rfl
  have hU := un_D hn1 hn
  have hw := s_ways (2 * n) 0 n (by omega) (by omega)
  have hws := wy_small n hn
  have ho := s_sone n hn1 hn
  have hnu := s_lnum n (un n) hU
  have hnl := nu_lt hU
  have h0 : ((rowP [((n : Int), un n)]).drop (0 * 17)).take 17 = pcl n (un n) := dw_at (n := n) (l := [un n]) (i := 0) (fun m hm => by simp at hm; subst hm; exact un_len) (by simp)
  have hp0 : (il (fun _ => 0) (wy (2 * n) 0)).set (nuN n (un n)) (Value.int .i64 1) = il (plF n [un n]) (wy (2 * n) 0) := il_set fun j hj => by
    unfold plF; rw [pG]
    by_cases h : nuN n (un n) = j
    · rw [if_pos h, if_pos h.symm]; rfl
    · rw [if_neg h, if_neg (Ne.symm h)]; rfl
  refine SpecW.of_EV hf_s_l03Grow hc_s_l03Grow rfl rfl rfl fun w0 B ρ0 _ => ?_
  apply cutU
  case h =>
    intro body
    obtain ⟨b, hb⟩ : ∃ b : Bool, decide (ls = (n : Int) ∧ lm = un n) = b := ⟨_, rfl⟩
    have hE := fun w => eqDw w hlm un_len hb
    have he0 : eP n ls lm [un n] = if b = true then 0 else -1 := by
      unfold eP
      cases b with
      | true =>
        have h := of_decide_eq_true hb
        rw [if_pos ⟨h.1, by simp [h.2]⟩, h.2, if_pos rfl, ix, if_pos rfl]; rfl
      | false =>
        have h := of_decide_eq_false hb
        rw [if_neg (fun h2 => h ⟨h2.1, by simpa using h2.2⟩), if_neg (by simp)]
    cases b
    all_goals
      (repeat' (first | refine (hw).pure rfl ?_ | refine (ho).pure rfl ?_ | refine (hnu).pure rfl ?_ | refine And.intro ⟨pcl_len hU.len, mkL rfl⟩ ?_ | refine Exists.intro (rowP [((n : Int), (un n))]) (And.intro (row1 (N := 17) (p := ((n : Int), (un n))) (mkL' rfl)) ?_) | refine And.intro ⟨rfl, mkL rfl⟩ ?_ | refine Exists.intro [Value.int .i64 0] (And.intro (row1s (mkL' rfl)) ?_) | refine Exists.intro [Value.int .i64 1] (And.intro (row1s (mkL' rfl)) ?_) | refine And.intro ⟨rfl, leR rfl, rfl⟩ ?_ | refine Exists.intro [V.sl 2, V.sl 3, V.sl 4, V.sl 5, V.sl 6] (And.intro ⟨rfl, rfl⟩ ?_) | refine Exists.intro [V.sl 2, V.sl 3, V.sl 4, V.sl 5, V.sl 6] (And.intro ⟨leR rfl, rfl⟩ ?_) | refine Exists.intro (pcl ls lm) (And.intro ⟨pcl_len hlm, pcl_all hlm⟩ ?_) | refine And.intro ⟨pcl_len hlm, leR rfl, pcl_ones⟩ ?_ | refine Exists.intro (pcl ls lm) (And.intro ⟨leR rfl, spl0 (leR rfl)⟩ ?_) | refine Exists.intro (wy (2 * n) 0) (Exists.intro (il (fun _ => 0) (wy (2 * n) 0)) (And.intro ⟨rfl, rfl, by omega, by omega, mk_il⟩ ?_)) | refine Exists.intro (pcl n (un n)) (And.intro ⟨pcl_len un_len, h0⟩ ?_) | refine Exists.intro 0 (And.intro ⟨rfl, leR rfl⟩ ?_) | refine Exists.intro (il (plF n [un n]) (wy (2 * n) 0)) (And.intro ⟨by rw [il_len]; omega, hp0⟩ ?_) | refine Exists.intro _ (And.intro ⟨eg_i_Diagram, hE⟩ ?_) | refine And.intro (neI rfl) ?_ | refine And.intro ⟨rfl, leR rfl, onesR rfl⟩ ?_ | refine And.intro ⟨rfl, leR rfl⟩ ?_ | refine draw_rule2 hfol (fun KK hKK => ?_) | refine hKK _ _ _ (by kernel_rfl) ?_ | refine region_rule (fun KK hKK => ?_) | refine hKK _ _ ?_ | refine And.intro (Eq.refl true) ?_ | refine Exists.intro _ (And.intro (wI (by omega)) ?_) | refine Exists.intro _ (And.intro (wU (by omega)) ?_) | refine Exists.intro _ (And.intro ⟨rfl, by omega⟩ ?_) | refine Exists.intro _ (And.intro rfl ?_) | refine And.intro rfl ?_ | refine And.intro ⟨rfl, rfl⟩ ?_ | ((refine And.intro (fun _ => ?_) (fun _ => ?_)) <;> try (exfalso; omega))))
      refine loop_rule (α := Nat) (fun i => i ≤ I) (fun i => [(0, vi n), (3, .ptr 0 0), (4, .ptr 1 0), (6, .ptr 2 0), (7, .sl 8), (8, vi (eP n ls lm (gO n i).ms)), (9, vi i)])
        (fun i => goO n ls lm (gO n i)) (fun i => I - i) 0 [0, 1, 7, 2, 3, 4, 5, 6, 8] (by omega) ⟨⟨rfl, rfl, rfl, rfl, rfl, congrArg vi he0.symm, rfl, trivial⟩, ⟨rfl, rfl, rfl, rfl, rfl, rfl, rfl, rfl, rfl, trivial⟩, rfl⟩ (body ())
  case b =>
    rintro i g hi
    by_cases hiI : i = I
    · subst hiI
      have hG := gO_I hn1 hn hI.lt
      have hfew := hG.few
      have hfin := hI.fin
      clear hI
      generalize gO n i = s at hG hfew hfin ⊢
      by_cases hl : i < s.ms.length
      · have hs := hfin.resolve_left (by omega)
        have he : eP n ls lm s.ms = ((ix lm s.ms : Nat) : Int) := by unfold eP; rw [if_pos ⟨hs.1, hs.2.1⟩]
        have hx := ix_lt hs.2.1
        have hle := hs.2.2
        rw [he]
        generalize ix lm s.ms = x at hx hle
        have hll := hG.ll
        have a1 := nl_at (l := s.ln) (i := i) (by omega)
        have a2 := nl_at (l := s.ln) (i := x) (by omega)
        (repeat' (first | refine Exists.intro _ (And.intro a1 ?_) | refine Exists.intro _ (And.intro a2 ?_) | refine And.intro ⟨rfl, leR rfl, rfl⟩ ?_ | refine Exists.intro [V.sl 3, V.sl 4, V.sl 5, V.sl 6, V.sl 7] (And.intro ⟨rfl, rfl⟩ ?_) | refine Exists.intro [V.sl 3, V.sl 4, V.sl 5, V.sl 6, V.sl 7] (And.intro ⟨leR rfl, rfl⟩ ?_) | refine And.intro (neI rfl) ?_ | refine And.intro ⟨rfl, leR rfl, onesR rfl⟩ ?_ | refine And.intro ⟨rfl, leR rfl⟩ ?_ | refine draw_rule2 hfol (fun KK hKK => ?_) | refine hKK _ _ _ (by kernel_rfl) ?_ | refine region_rule (fun KK hKK => ?_) | refine hKK _ _ ?_ | refine And.intro (Eq.refl true) ?_ | refine Exists.intro _ (And.intro (wI (by omega)) ?_) | refine Exists.intro _ (And.intro (wU (by omega)) ?_) | refine Exists.intro _ (And.intro ⟨rfl, by omega⟩ ?_) | refine Exists.intro _ (And.intro rfl ?_) | refine And.intro rfl ?_ | refine And.intro ⟨rfl, rfl⟩ ?_ | ((refine And.intro (fun _ => ?_) (fun _ => ?_)) <;> try (exfalso; omega))))
        exact Exists.intro [3, 4, 5, 6, 7] (And.intro (rfl) (And.intro ⟨rfl, rfl, rfl, rfl, rfl, trivial⟩ rfl))
      · (repeat' (first | refine And.intro ⟨rfl, leR rfl, rfl⟩ ?_ | refine Exists.intro [V.sl 3, V.sl 4, V.sl 5, V.sl 6, V.sl 7] (And.intro ⟨rfl, rfl⟩ ?_) | refine Exists.intro [V.sl 3, V.sl 4, V.sl 5, V.sl 6, V.sl 7] (And.intro ⟨leR rfl, rfl⟩ ?_) | refine And.intro (neI rfl) ?_ | refine And.intro ⟨rfl, leR rfl, onesR rfl⟩ ?_ | refine And.intro ⟨rfl, leR rfl⟩ ?_ | refine draw_rule2 hfol (fun KK hKK => ?_) | refine hKK _ _ _ (by kernel_rfl) ?_ | refine region_rule (fun KK hKK => ?_) | refine hKK _ _ ?_ | refine And.intro (Eq.refl true) ?_ | refine Exists.intro _ (And.intro (wI (by omega)) ?_) | refine Exists.intro _ (And.intro (wU (by omega)) ?_) | refine Exists.intro _ (And.intro ⟨rfl, by omega⟩ ?_) | refine Exists.intro _ (And.intro rfl ?_) | refine And.intro rfl ?_ | refine And.intro ⟨rfl, rfl⟩ ?_ | ((refine And.intro (fun _ => ?_) (fun _ => ?_)) <;> try (exfalso; omega))))
        exact Exists.intro [3, 4, 5, 6, 7] (And.intro (rfl) (And.intro ⟨rfl, rfl, rfl, rfl, rfl, trivial⟩ rfl))
    have hil : i < I := by omega
    have hG := gO_I hn1 hn (i := i) (fun j hj => hI.lt j (by omega))
    have hl := hI.lt i hil
    have hgo := hI.go i hil
    have hfew := hG.few
    have hs1 : gO n (i + 1) = gI n i (n - 1) (gO n i) := rfl
    obtain ⟨s, hs⟩ : ∃ s, s = gO n i := ⟨_, rfl⟩
    rw [← hs] at hG hl hgo hfew hs1 ⊢
    clear hs
    refine region_rule (fun KK hKK => ?_)
    (repeat' (first | refine And.intro (neI rfl) ?_ | refine And.intro ⟨rfl, leR rfl, onesR rfl⟩ ?_ | refine And.intro ⟨rfl, leR rfl⟩ ?_ | refine hKK _ _ _ (by kernel_rfl) ?_ | refine hKK _ _ ?_ | refine And.intro (Eq.refl true) ?_ | refine Exists.intro _ (And.intro (wI (by omega)) ?_) | refine Exists.intro _ (And.intro (wU (by omega)) ?_) | refine Exists.intro _ (And.intro ⟨rfl, by omega⟩ ?_) | refine Exists.intro _ (And.intro rfl ?_) | refine And.intro rfl ?_ | refine And.intro ⟨rfl, rfl⟩ ?_ | ((refine And.intro (fun _ => ?_) (fun _ => ?_)) <;> try (exfalso; omega))))
    refine draw_join (α := Unit) (fun _ => True) (fun _ => [(0, vi n), (3, .ptr 0 0), (4, .ptr 1 0), (6, .ptr 2 0), (7, .sl 8), (8, vi (eP n ls lm s.ms)), (9, vi i), (60, vb false)])
      (fun i => goO n ls lm s) ?_ ?_
    · have hll := hG.ll
      have a1 := nl_at (l := s.ln) (i := i) (by omega)
      by_cases hm : ls = n ∧ lm ∈ s.ms
      · have he : eP n ls lm s.ms = ((ix lm s.ms : Nat) : Int) := by unfold eP; rw [if_pos hm]
        have hx := ix_lt hm.2
        have hle : ¬ s.ln.getD (ix lm s.ms) 0 ≤ s.ln.getD i 0 := fun h => hgo ⟨hm.1, hm.2, h⟩
        rw [he]
        generalize ix lm s.ms = x at hx hle
        have a2 := nl_at (l := s.ln) (i := x) (by omega)
        refine draw_rule2 hfol (fun KK hKK => ?_)
        (repeat' (first | refine Exists.intro _ (And.intro a1 ?_) | refine Exists.intro _ (And.intro a2 ?_) | refine And.intro (neI rfl) ?_ | refine And.intro ⟨rfl, leR rfl, onesR rfl⟩ ?_ | refine And.intro ⟨rfl, leR rfl⟩ ?_ | refine hKK _ _ _ (by kernel_rfl) ?_ | refine hKK _ _ ?_ | refine And.intro (Eq.refl true) ?_ | refine Exists.intro _ (And.intro (wI (by omega)) ?_) | refine Exists.intro _ (And.intro (wU (by omega)) ?_) | refine Exists.intro _ (And.intro ⟨rfl, by omega⟩ ?_) | refine Exists.intro _ (And.intro rfl ?_) | refine And.intro rfl ?_ | refine And.intro ⟨rfl, rfl⟩ ?_ | ((refine And.intro (fun _ => ?_) (fun _ => ?_)) <;> try (exfalso; omega))))
        exact Exists.intro () (Exists.intro [0, 1, 2, 3, 4, 5, 6, 7, 8] (And.intro trivial ⟨⟨rfl, rfl, rfl, rfl, rfl, rfl, rfl, rfl, trivial⟩, ⟨rfl, rfl, rfl, rfl, rfl, rfl, rfl, rfl, rfl, trivial⟩, rfl⟩))
      · have he : eP n ls lm s.ms = -1 := by unfold eP; rw [if_neg hm]
        rw [he]
        refine draw_rule2 hfol (fun KK hKK => ?_)
        (repeat' (first | refine Exists.intro _ (And.intro a1 ?_) | refine And.intro (neI rfl) ?_ | refine And.intro ⟨rfl, leR rfl, onesR rfl⟩ ?_ | refine And.intro ⟨rfl, leR rfl⟩ ?_ | refine hKK _ _ _ (by kernel_rfl) ?_ | refine hKK _ _ ?_ | refine And.intro (Eq.refl true) ?_ | refine Exists.intro _ (And.intro (wI (by omega)) ?_) | refine Exists.intro _ (And.intro (wU (by omega)) ?_) | refine Exists.intro _ (And.intro ⟨rfl, by omega⟩ ?_) | refine Exists.intro _ (And.intro rfl ?_) | refine And.intro rfl ?_ | refine And.intro ⟨rfl, rfl⟩ ?_ | ((refine And.intro (fun _ => ?_) (fun _ => ?_)) <;> try (exfalso; omega))))
        exact Exists.intro () (Exists.intro [0, 1, 2, 3, 4, 5, 6, 7, 8] (And.intro trivial ⟨⟨rfl, rfl, rfl, rfl, rfl, rfl, rfl, rfl, trivial⟩, ⟨rfl, rfl, rfl, rfl, rfl, rfl, rfl, rfl, rfl, trivial⟩, rfl⟩))
    rintro _ g1 _
    (repeat' (first | refine And.intro (neI rfl) ?_ | refine And.intro ⟨rfl, leR rfl, onesR rfl⟩ ?_ | refine And.intro ⟨rfl, leR rfl⟩ ?_ | refine draw_rule2 hfol (fun KK hKK => ?_) | refine hKK _ _ _ (by kernel_rfl) ?_ | refine region_rule (fun KK hKK => ?_) | refine hKK _ _ ?_ | refine And.intro (Eq.refl true) ?_ | refine Exists.intro _ (And.intro (wI (by omega)) ?_) | refine Exists.intro _ (And.intro (wU (by omega)) ?_) | refine Exists.intro _ (And.intro ⟨rfl, by omega⟩ ?_) | refine Exists.intro _ (And.intro rfl ?_) | refine And.intro rfl ?_ | refine And.intro ⟨rfl, rfl⟩ ?_ | ((refine And.intro (fun _ => ?_) (fun _ => ?_)) <;> try (exfalso; omega))))
    refine loop_rule (α := Nat) (fun k => k ≤ n - 1) (fun k => [(0, vi n), (3, .ptr 0 0), (4, .ptr 1 0), (6, .ptr 2 0), (7, .sl 8), (8, vi (eP n ls lm (gI n i k s).ms)), (9, vi i), (10, vi k)])
      (fun k => goO n ls lm (gI n i k s)) (fun k => n - 1 - k) 0 [0, 1, 2, 3, 4, 5, 6, 7, 8] (by omega) ⟨⟨rfl, rfl, rfl, rfl, rfl, rfl, rfl, rfl, trivial⟩, ⟨rfl, rfl, rfl, rfl, rfl, rfl, rfl, rfl, rfl, trivial⟩, rfl⟩ ?_
    rintro k g2 hk
    by_cases hkn : k = n - 1
    · subst hkn
      (repeat' (first | refine And.intro (neI rfl) ?_ | refine And.intro ⟨rfl, leR rfl, onesR rfl⟩ ?_ | refine And.intro ⟨rfl, leR rfl⟩ ?_ | refine draw_rule2 hfol (fun KK hKK => ?_) | refine hKK _ _ _ (by kernel_rfl) ?_ | refine region_rule (fun KK hKK => ?_) | refine hKK _ _ ?_ | refine And.intro (Eq.refl true) ?_ | refine Exists.intro _ (And.intro (wI (by omega)) ?_) | refine Exists.intro _ (And.intro (wU (by omega)) ?_) | refine Exists.intro _ (And.intro ⟨rfl, by omega⟩ ?_) | refine Exists.intro _ (And.intro rfl ?_) | refine And.intro rfl ?_ | refine And.intro ⟨rfl, rfl⟩ ?_ | ((refine And.intro (fun _ => ?_) (fun _ => ?_)) <;> try (exfalso; omega))))
      refine Exists.intro (i + 1) (Exists.intro [0, 1, 2, 3, 4, 5, 6, 7, 8] (And.intro ⟨by omega, (by show I - (i + 1) < I - i; omega)⟩ ?_))
      simp only [hs1]
      exact ⟨⟨rfl, rfl, rfl, rfl, rfl, rfl, rfl, trivial⟩, ⟨rfl, rfl, rfl, rfl, rfl, rfl, rfl, rfl, rfl, trivial⟩, rfl⟩
    have hkl : k + 1 < n := by omega
    have hGt : GI n (gI n i k s) := hG.gI hl (by omega)
    have hlt : i < (gI n i k s).ms.length := Nat.lt_of_lt_of_le hl gI_len
    have hs2 : gI n i (k + 1) s = gK n i k (gI n i k s) := rfl
    obtain ⟨t, ht⟩ : ∃ t, t = gI n i k s := ⟨_, rfl⟩
    rw [← ht] at hGt hlt hs2 ⊢
    clear ht
    have hft := hGt.few
    have hdt := hGt.at hlt
    have hat := dw_at (n := n) (fun m hm => (hGt.hd m hm).len) hlt
    have hcup := s_scup n k hn hkl
    have htm := s_stimes n (t.ms.getD i []) (gen n k) hdt.toIsV (gen_V hn hkl)
    have hD : IsD n (gE n i k t) := mul_gen_D hdt hkl
    replace htm : Spec Try.prog n_s_l01Times [pv n (t.ms.getD i []), pv n (gen n k)] [] (.tup [pv n (gE n i k t), vi (lpN n (t.ms.getD i []) (gen n k) : Nat)]) [] := htm
    have hgk : gK n i k t = if lpN n (t.ms.getD i []) (gen n k) = 0 then (if gE n i k t ∈ t.ms then gP i (ix (gE n i k t) t.ms) t else gP i t.ms.length (gN n i k t)) else t := rfl
    have hgn := hGt.gN hlt hkl
    have hgN : gN n i k t = ⟨t.ms ++ [gE n i k t], t.fr ++ [i], t.st ++ [k], t.ln ++ [t.ln.getD i 0 + 1], t.wy ++ [0]⟩ := rfl
    have hll := hGt.ll
    have hlw := hGt.lw
    have hlni := hGt.ln i hlt
    generalize lpN n (t.ms.getD i []) (gen n k) = lp at htm hgk
    generalize gE n i k t = e at htm hgk hD hgN hgn
    generalize t.ms.getD i [] = d at hdt hat htm
    have hde := hD.len
    have hnum := s_lnum n e hD
    have hnlt := nu_lt hD
    have hlpb : lp = 0 ∨ 0 < lp := by omega
    rcases hlpb with rfl | hlp
    rotate_left
    · -- a loop
      rw [if_neg (by omega)] at hgk
      (repeat' (first | refine (hcup).pure rfl ?_ | refine (htm).pure rfl ?_ | refine Exists.intro (pcl n d) (And.intro ⟨pcl_len hdt.len, hat⟩ ?_) | refine Exists.intro (pcl (n : Int) e) (And.intro ⟨pcl_len hde, pcl_all hde⟩ ?_) | refine And.intro ⟨pcl_len hde, leR rfl, pcl_ones⟩ ?_ | refine Exists.intro (pcl (n : Int) e) (And.intro ⟨leR rfl, spl0 (leR rfl)⟩ ?_) | refine And.intro (neI rfl) ?_ | refine And.intro ⟨rfl, leR rfl, onesR rfl⟩ ?_ | refine And.intro ⟨rfl, leR rfl⟩ ?_ | refine draw_rule2 hfol (fun KK hKK => ?_) | refine hKK _ _ _ (by kernel_rfl) ?_ | refine region_rule (fun KK hKK => ?_) | refine hKK _ _ ?_ | refine And.intro (Eq.refl true) ?_ | refine Exists.intro _ (And.intro (wI (by omega)) ?_) | refine Exists.intro _ (And.intro (wU (by omega)) ?_) | refine Exists.intro _ (And.intro ⟨rfl, by omega⟩ ?_) | refine Exists.intro _ (And.intro rfl ?_) | refine And.intro rfl ?_ | refine And.intro ⟨rfl, rfl⟩ ?_ | ((refine And.intro (fun _ => ?_) (fun _ => ?_)) <;> try (exfalso; omega))))
      refine Exists.intro (k + 1) (Exists.intro [0, 1, 2, 3, 4, 5, 6, 7, 8] (And.intro ⟨by omega, (by show n - 1 - (k + 1) < n - 1 - k; omega)⟩ ?_))
      simp only [hs2, hgk]
      exact ⟨⟨rfl, rfl, rfl, rfl, rfl, rfl, rfl, rfl, trivial⟩, ⟨rfl, rfl, rfl, rfl, rfl, rfl, rfl, rfl, rfl, trivial⟩, rfl⟩
    rw [if_pos rfl] at hgk
    by_cases hmem : e ∈ t.ms
    · -- an old one
      rw [if_pos hmem] at hgk
      have hpl := pl_old hGt hmem
      have hx := ix_lt hmem
      obtain ⟨x, hxe⟩ : ∃ x, x = ix e t.ms := ⟨_, rfl⟩
      rw [← hxe] at hgk hpl hx
      have hp0 : (il (plF n t.ms) (wy (2 * n) 0))[nuN n e]? = some (.int .i64 ((x + 1 : Nat) : Int)) := by rw [il_at hnlt, hpl]
      have hw1 : IntKind.i64.wrap (((x + 1 : Nat) : Int) - 1) = ((x : Nat) : Int) := wC (by omega) (by omega)
      have a1 := nl_at (l := t.ln) (i := i) (by omega)
      have a2 := nl_at (l := t.ln) (i := x) (by omega)
      have hlx := hGt.ln x hx
      by_cases hq : t.ln.getD x 0 = t.ln.getD i 0 + 1
      · have hgk2 : gI n i (k + 1) s = { t with wy := t.wy.set x (t.wy.getD x 0 + t.wy.getD i 0) } := by rw [hs2, hgk]; unfold gP; rw [if_pos hq]
        have b1 := wl_at (l := t.wy) (i := i) (by omega)
        have b2 := wl_at (l := t.wy) (i := x) (by omega)
        have ew : IntKind.i64.wrap (IntKind.i64.wrap ((t.wy.getD x 0 : Nat) : Int) + IntKind.i64.wrap ((t.wy.getD i 0 : Nat) : Int)) = IntKind.i64.wrap ((t.wy.getD x 0 + t.wy.getD i 0 : Nat) : Int) := by rw [wrap_add]; rfl
        (repeat' (first | refine (hcup).pure rfl ?_ | refine (htm).pure rfl ?_ | refine (hnum).pure rfl ?_ | refine Exists.intro (pcl n d) (And.intro ⟨pcl_len hdt.len, hat⟩ ?_) | refine Exists.intro (pcl (n : Int) e) (And.intro ⟨pcl_len hde, pcl_all hde⟩ ?_) | refine And.intro ⟨pcl_len hde, leR rfl, pcl_ones⟩ ?_ | refine Exists.intro (pcl (n : Int) e) (And.intro ⟨leR rfl, spl0 (leR rfl)⟩ ?_) | refine Exists.intro _ (And.intro hp0 ?_) | refine Exists.intro _ (And.intro hw1 ?_) | refine Exists.intro _ (And.intro a1 ?_) | refine Exists.intro _ (And.intro a2 ?_) | refine Exists.intro _ (And.intro b1 ?_) | refine Exists.intro _ (And.intro b2 ?_) | refine Exists.intro _ (And.intro ew ?_) | refine Exists.intro (wl (t.wy.set x (t.wy.getD x 0 + t.wy.getD i 0))) (And.intro ⟨by rw [wl_len]; omega, wl_set⟩ ?_) | refine And.intro (neI rfl) ?_ | refine And.intro ⟨rfl, leR rfl, onesR rfl⟩ ?_ | refine And.intro ⟨rfl, leR rfl⟩ ?_ | refine draw_rule2 hfol (fun KK hKK => ?_) | refine hKK _ _ _ (by kernel_rfl) ?_ | refine region_rule (fun KK hKK => ?_) | refine hKK _ _ ?_ | refine And.intro (Eq.refl true) ?_ | refine Exists.intro _ (And.intro (wI (by omega)) ?_) | refine Exists.intro _ (And.intro (wU (by omega)) ?_) | refine Exists.intro _ (And.intro ⟨rfl, by omega⟩ ?_) | refine Exists.intro _ (And.intro rfl ?_) | refine And.intro rfl ?_ | refine And.intro ⟨rfl, rfl⟩ ?_ | ((refine And.intro (fun _ => ?_) (fun _ => ?_)) <;> try (exfalso; omega))))
        refine Exists.intro (k + 1) (Exists.intro [0, 1, 2, 3, 4, 5, 6, 7, 8] (And.intro ⟨by omega, (by show n - 1 - (k + 1) < n - 1 - k; omega)⟩ ?_))
        simp only [hgk2]
        exact ⟨⟨rfl, rfl, rfl, rfl, rfl, rfl, rfl, rfl, trivial⟩, ⟨rfl, rfl, rfl, rfl, rfl, rfl, rfl, rfl, rfl, trivial⟩, rfl⟩
      · have hgk2 : gI n i (k + 1) s = t := by rw [hs2, hgk]; unfold gP; rw [if_neg hq]
        (repeat' (first | refine (hcup).pure rfl ?_ | refine (htm).pure rfl ?_ | refine (hnum).pure rfl ?_ | refine Exists.intro (pcl n d) (And.intro ⟨pcl_len hdt.len, hat⟩ ?_) | refine Exists.intro (pcl (n : Int) e) (And.intro ⟨pcl_len hde, pcl_all hde⟩ ?_) | refine And.intro ⟨pcl_len hde, leR rfl, pcl_ones⟩ ?_ | refine Exists.intro (pcl (n : Int) e) (And.intro ⟨leR rfl, spl0 (leR rfl)⟩ ?_) | refine Exists.intro _ (And.intro hp0 ?_) | refine Exists.intro _ (And.intro hw1 ?_) | refine Exists.intro _ (And.intro a1 ?_) | refine Exists.intro _ (And.intro a2 ?_) | refine And.intro (neI rfl) ?_ | refine And.intro ⟨rfl, leR rfl, onesR rfl⟩ ?_ | refine And.intro ⟨rfl, leR rfl⟩ ?_ | refine draw_rule2 hfol (fun KK hKK => ?_) | refine hKK _ _ _ (by kernel_rfl) ?_ | refine region_rule (fun KK hKK => ?_) | refine hKK _ _ ?_ | refine And.intro (Eq.refl true) ?_ | refine Exists.intro _ (And.intro (wI (by omega)) ?_) | refine Exists.intro _ (And.intro (wU (by omega)) ?_) | refine Exists.intro _ (And.intro ⟨rfl, by omega⟩ ?_) | refine Exists.intro _ (And.intro rfl ?_) | refine And.intro rfl ?_ | refine And.intro ⟨rfl, rfl⟩ ?_ | ((refine And.intro (fun _ => ?_) (fun _ => ?_)) <;> try (exfalso; omega))))
        refine Exists.intro (k + 1) (Exists.intro [0, 1, 2, 3, 4, 5, 6, 7, 8] (And.intro ⟨by omega, (by show n - 1 - (k + 1) < n - 1 - k; omega)⟩ ?_))
        simp only [hgk2]
        exact ⟨⟨rfl, rfl, rfl, rfl, rfl, rfl, rfl, rfl, trivial⟩, ⟨rfl, rfl, rfl, rfl, rfl, rfl, rfl, rfl, rfl, trivial⟩, rfl⟩
    · -- a new one
      rw [if_neg hmem, hgN] at hgk
      have hpl := pl_new hGt hD hmem
      have hp0 : (il (plF n t.ms) (wy (2 * n) 0))[nuN n e]? = some (.int .i64 0) := by rw [il_at hnlt, hpl]
      have hps := pl_set hGt hD hmem (N := wy (2 * n) 0)
      have hfe := (hgn hmem).few
      rw [hgN] at hfe
      have hlen : (t.ms ++ [e]).length = t.ms.length + 1 := by simp
      simp only [hlen] at hfe
      have a1 := nl_at (l := t.ln) (i := i) (by omega)
      have hw0 : IntKind.i64.wrap ((0 : Int) - 1) = -1 := rfl
      have hw1 : IntKind.i64.wrap ((t.ms.length : Int) + 1) = ((t.ms.length + 1 : Nat) : Int) := wC (by omega) (by omega)
      have hw2 : IntKind.i64.wrap (((t.ln.getD i 0 : Nat) : Int) + 1) = ((t.ln.getD i 0 + 1 : Nat) : Int) := wC (by omega) (by omega)
      have l3 : (t.ln ++ [t.ln.getD i 0 + 1]).getD t.ms.length 0 = t.ln.getD i 0 + 1 := by rw [getD_app, hll, if_neg (by omega), if_pos rfl]
      have l4 : (t.ln ++ [t.ln.getD i 0 + 1]).getD i 0 = t.ln.getD i 0 := by rw [getD_app, hll, if_pos hlt]
      have a3 := nl_at (l := t.ln ++ [t.ln.getD i 0 + 1]) (i := t.ms.length) (by simp; omega)
      rw [l3] at a3
      have a4 := nl_at (l := t.ln ++ [t.ln.getD i 0 + 1]) (i := i) (by simp; omega)
      rw [l4] at a4
      have w3 : (t.wy ++ [0]).getD t.ms.length 0 = 0 := by rw [getD_app, hlw, if_neg (by omega), if_pos rfl]
      have w4 : (t.wy ++ [0]).getD i 0 = t.wy.getD i 0 := by rw [getD_app, hlw, if_pos hlt]
      have b1 := wl_at (l := t.wy ++ [0]) (i := t.ms.length) (by simp; omega)
      rw [w3] at b1
      have b2 := wl_at (l := t.wy ++ [0]) (i := i) (by simp; omega)
      rw [w4] at b2
      have ew : IntKind.i64.wrap (IntKind.i64.wrap ((0 : Nat) : Int) + IntKind.i64.wrap ((t.wy.getD i 0 : Nat) : Int)) = IntKind.i64.wrap ((0 + t.wy.getD i 0 : Nat) : Int) := by rw [wrap_add]; rfl
      have hz0 : wl t.wy ++ [Value.int .i64 0] = wl (t.wy ++ [0]) := wl_app (x := 0)
      have hgk2 : gI n i (k + 1) s = ⟨t.ms ++ [e], t.fr ++ [i], t.st ++ [k], t.ln ++ [t.ln.getD i 0 + 1], (t.wy ++ [0]).set t.ms.length (0 + t.wy.getD i 0)⟩ := by
        rw [hs2, hgk]; unfold gP
        rw [if_pos (by rw [l3, l4])]
        simp only [w3, w4]
      have hws : ((t.wy ++ [0]).length) = t.ms.length + 1 := by simp [hlw]
      obtain ⟨b, hb⟩ : ∃ b : Bool, decide ((n : Int) = ls ∧ e = lm) = b := ⟨_, rfl⟩
      have hE : ∀ w, (Op.equalIn 10000 T_i_Diagram (.agg (pcl n e).toArray) (.agg (pcl ls lm).toArray)).run Try.prog w = .ok b w := fun w => by rw [eqDg w hde hlm, hb]
      have heP := eP_app hb hmem
      cases b
      all_goals
        (repeat' (first | refine (hcup).pure rfl ?_ | refine (htm).pure rfl ?_ | refine (hnum).pure rfl ?_ | refine Exists.intro (pcl n d) (And.intro ⟨pcl_len hdt.len, hat⟩ ?_) | refine Exists.intro (pcl (n : Int) e) (And.intro ⟨pcl_len hde, pcl_all hde⟩ ?_) | refine And.intro ⟨pcl_len hde, leR rfl, pcl_ones⟩ ?_ | refine Exists.intro (pcl (n : Int) e) (And.intro ⟨leR rfl, spl0 (leR rfl)⟩ ?_) | refine Exists.intro (pcl ls lm) (And.intro ⟨pcl_len hlm, pcl_all hlm⟩ ?_) | refine And.intro ⟨pcl_len hlm, leR rfl, pcl_ones⟩ ?_ | refine Exists.intro (pcl ls lm) (And.intro ⟨leR rfl, spl0 (leR rfl)⟩ ?_) | refine Exists.intro _ (And.intro hp0 ?_) | refine Exists.intro _ (And.intro hw0 ?_) | refine Exists.intro _ (And.intro hw1 ?_) | refine Exists.intro _ (And.intro hw2 ?_) | refine Exists.intro _ (And.intro a1 ?_) | refine Exists.intro _ (And.intro a3 ?_) | refine Exists.intro _ (And.intro a4 ?_) | refine Exists.intro _ (And.intro b1 ?_) | refine Exists.intro _ (And.intro b2 ?_) | refine Exists.intro _ (And.intro ew ?_) | refine Exists.intro (il (plF n (t.ms ++ [e])) (wy (2 * n) 0)) (And.intro ⟨by rw [il_len]; omega, hps⟩ ?_) | refine And.intro ⟨pcl_len hde, mkL rfl⟩ ?_ | refine Exists.intro (pcl n e) (And.intro (row1sD (N := 17) (mkL' rfl)) ?_) | refine Exists.intro (dw n (t.ms ++ [e])) (And.intro ⟨rfl, pcl_ones, by omega, by omega, dw_app⟩ ?_) | refine And.intro ⟨rfl, mkL rfl⟩ ?_ | refine Exists.intro [Value.int .i64 (i : Int)] (And.intro (row1s (mkL' rfl)) ?_) | refine Exists.intro (nl (t.fr ++ [i])) (And.intro ⟨rfl, onesR rfl, by omega, by omega, nl_app⟩ ?_) | refine Exists.intro [Value.int .i64 (k : Int)] (And.intro (row1s (mkL' rfl)) ?_) | refine Exists.intro (nl (t.st ++ [k])) (And.intro ⟨rfl, onesR rfl, by omega, by omega, nl_app⟩ ?_) | refine Exists.intro [Value.int .i64 ((t.ln.getD i 0 + 1 : Nat) : Int)] (And.intro (row1s (mkL' rfl)) ?_) | refine Exists.intro (nl (t.ln ++ [t.ln.getD i 0 + 1])) (And.intro ⟨rfl, onesR rfl, by omega, by omega, nl_app⟩ ?_) | refine Exists.intro [Value.int .i64 0] (And.intro (row1s (mkL' rfl)) ?_) | refine Exists.intro (wl (t.wy ++ [0])) (And.intro ⟨rfl, onesR rfl, by omega, by omega, hz0⟩ ?_) | refine Exists.intro _ (And.intro ⟨eg_i_Diagram, hE⟩ ?_) | refine Exists.intro [V.sl 11, V.sl 4, V.sl 5, V.sl 6, V.sl 7] (And.intro ⟨leR rfl, rfl⟩ ?_) | refine Exists.intro [V.sl 11, V.sl 13, V.sl 5, V.sl 6, V.sl 7] (And.intro ⟨leR rfl, rfl⟩ ?_) | refine Exists.intro [V.sl 11, V.sl 13, V.sl 15, V.sl 6, V.sl 7] (And.intro ⟨leR rfl, rfl⟩ ?_) | refine Exists.intro [V.sl 11, V.sl 13, V.sl 15, V.sl 17, V.sl 7] (And.intro ⟨leR rfl, rfl⟩ ?_) | refine Exists.intro [V.sl 11, V.sl 13, V.sl 15, V.sl 17, V.sl 19] (And.intro ⟨leR rfl, rfl⟩ ?_) | refine Exists.intro (wl ((t.wy ++ [0]).set t.ms.length (0 + t.wy.getD i 0))) (And.intro ⟨by rw [wl_len]; omega, wl_set⟩ ?_) | refine And.intro (neI rfl) ?_ | refine And.intro ⟨rfl, leR rfl, onesR rfl⟩ ?_ | refine And.intro ⟨rfl, leR rfl⟩ ?_ | refine draw_rule2 hfol (fun KK hKK => ?_) | refine hKK _ _ _ (by kernel_rfl) ?_ | refine region_rule (fun KK hKK => ?_) | refine hKK _ _ ?_ | refine And.intro (Eq.refl true) ?_ | refine Exists.intro _ (And.intro (wI (by omega)) ?_) | refine Exists.intro _ (And.intro (wU (by omega)) ?_) | refine Exists.intro _ (And.intro ⟨rfl, by omega⟩ ?_) | refine Exists.intro _ (And.intro rfl ?_) | refine And.intro rfl ?_ | refine And.intro ⟨rfl, rfl⟩ ?_ | ((refine And.intro (fun _ => ?_) (fun _ => ?_)) <;> try (exfalso; omega))))
        refine Exists.intro (k + 1) (Exists.intro [0, 1, 2, 11, 13, 15, 17, 19, 8] (And.intro ⟨by omega, (by show n - 1 - (k + 1) < n - 1 - k; omega)⟩ ?_))
        simp only [hgk2, goO, hlen, heP]
        exact ⟨⟨rfl, rfl, rfl, rfl, rfl, rfl, rfl, rfl, trivial⟩, ⟨rfl, rfl, rfl, rfl, rfl, rfl, rfl, rfl, rfl, trivial⟩, rfl⟩
end Go.Proofs.Ytgpgcdofhkpeaaa.VE
