/- Contracts of functions of the given program, for all arguments that the contract names; see each theorem. -/
import Derived.Test.YtgpgcdofhkpeaaaF7
set_option linter.all false
namespace Go.Proofs.Ytgpgcdofhkpeaaa.VE
open Go
set_option maxHeartbeats 4000000
set_option maxRecDepth 100000

/-! the word on the way back to the root -/
def FrS (s : GS) : Prop := ∀ j, 0 < j → j < s.ms.length → s.fr.getD j 0 < j
theorem FrS.gK {n i k : Nat} {s : GS} (h : FrS s) (hG : GI n s) (hi : i < s.ms.length) : FrS (gK n i k s) := by
  unfold Go.Proofs.Ytgpgcdofhkpeaaa.VE.gK
  split
  · split
    · intro j h1 h2
      rw [gP_ms.1] at h2; rw [gP_ms.2.1]; exact h j h1 h2
    · intro j h1 h2
      rw [gP_ms.1] at h2; rw [gP_ms.2.1]
      have h3 : j < s.ms.length + 1 := by simpa [gN] using h2
      show (s.fr ++ [i]).getD j 0 < j
      rw [getD_app, hG.lf]
      split
      · exact h j h1 (by assumption)
      · split <;> omega
  · exact h
theorem FrS.gI {n i : Nat} : ∀ {k : Nat} {s : GS}, FrS s → GI n s → i < s.ms.length → k + 1 ≤ n → FrS (gI n i k s)
  | 0, _, h, _, _, _ => h
  | k + 1, s, h, hG, hi, hk => (FrS.gI h hG hi (by omega)).gK (hG.gI hi (by omega)) (Nat.lt_of_lt_of_le hi gI_len)
theorem gO_F {n : Nat} (hn1 : 1 ≤ n) (hn : n ≤ 8) : ∀ {i : Nat}, (∀ j, j < i → j < (gO n j).ms.length) → FrS (gO n i)
  | 0, _ => fun j h1 h2 => by simp [gO] at h2; omega
  | i + 1, h => (gO_F hn1 hn fun j hj => h j (by omega)).gI (gO_I hn1 hn fun j hj => h j (by omega)) (h i (by omega)) (by omega)
def chW (s : GS) : Nat → Nat → List Nat → List Nat
  | 0, _, w => w
  | f + 1, a, w => if a = 0 then w else chW s f (s.fr.getD a 0) (s.st.getD a 0 :: w)
theorem chW_0 {s : GS} {w : List Nat} : ∀ {f : Nat}, chW s f 0 w = w
  | 0 => rfl
  | _ + 1 => by rw [chW, if_pos rfl]

theorem ix_ne {d : List Nat} : ∀ {ms : List (List Nat)} {i : Nat}, i < ix d ms → ms.getD i [] ≠ d
  | [], _, h => by simp [ix] at h
  | m :: r, 0, h => by
    rw [ix] at h
    split at h
    · omega
    · rename_i hm; exact hm
  | m :: r, i + 1, h => by
    rw [ix] at h
    split at h
    · omega
    · show r.getD i [] ≠ d
      exact ix_ne (by omega)
theorem s_find (n : Nat) (ms : List (List Nat)) (hms : ∀ m ∈ ms, m.length = 16) (d : List Nat) (hd : d ∈ ms) (hl : ms.length ≤ 65536) :
    Spec Try.prog n_s_l03Find [.sl 0, pv n d] [.pr T_i_Diagram 17 ms.length (dw n ms)] (vi (ix d ms : Nat)) [.pr T_i_Diagram 17 ms.length (dw n ms)] := by
  have hfol : Try.prog.follows .mixedOrders = true := rfl
  have hdl := hms d hd
  have hx := ix_lt hd
  have hxg := ix_get hd
  refine SpecW.of_EV hf_s_l03Find hc_s_l03Find rfl rfl rfl fun w0 B ρ0 _ => ?_
  (repeat' (first | refine Exists.intro (pcl (n : Int) d) (And.intro ⟨pcl_len hdl, pcl_all hdl⟩ ?_) | refine And.intro ⟨pcl_len hdl, leR rfl, pcl_ones⟩ ?_ | refine Exists.intro (pcl (n : Int) d) (And.intro ⟨leR rfl, spl0 (leR rfl)⟩ ?_) | refine And.intro (neI rfl) ?_ | refine And.intro ⟨rfl, leR rfl, onesR rfl⟩ ?_ | refine And.intro ⟨rfl, leR rfl⟩ ?_ | refine draw_rule2 hfol (fun KK hKK => ?_) | refine hKK _ _ _ (by kernel_rfl) ?_ | refine region_rule (fun KK hKK => ?_) | refine hKK _ _ ?_ | refine And.intro (Eq.refl true) ?_ | refine Exists.intro _ (And.intro (wI (by omega)) ?_) | refine Exists.intro _ (And.intro (wU (by omega)) ?_) | refine Exists.intro _ (And.intro ⟨rfl, by omega⟩ ?_) | refine Exists.intro _ (And.intro rfl ?_) | refine And.intro rfl ?_ | refine And.intro ⟨rfl, rfl⟩ ?_ | ((refine And.intro (fun _ => ?_) (fun _ => ?_)) <;> try (exfalso; omega))))
  refine loop_rule (α := Nat) (fun i => i ≤ ix d ms) (fun i => [(0, .sl 0), (3, .ptr 1 0), (5, vi i)])
    (fun i => [.pr T_i_Diagram 17 ms.length (dw n ms), .pc (pcl n d) T_i_Diagram]) (fun i => ms.length - i) 0 [0, 1] (by omega) ⟨⟨rfl, rfl, rfl, trivial⟩, ⟨rfl, rfl, trivial⟩, rfl⟩ ?_
  rintro i g hi
  have hil : i < ms.length := by omega
  have hat := dw_at (n := n) hms hil
  have hml := hms _ (getD_mem hil)
  by_cases hq : i = ix d ms
  · subst hq
    rw [hxg] at hat
    have hE := fun w => eqDw w (s := (n : Int)) (n := n) hdl hdl (decide_eq_true ⟨rfl, rfl⟩)
    (repeat' (first | refine Exists.intro (pcl n d) (And.intro ⟨pcl_len hdl, hat⟩ ?_) | refine Exists.intro (pcl (n : Int) d) (And.intro ⟨pcl_len hdl, pcl_all hdl⟩ ?_) | refine And.intro ⟨pcl_len hdl, leR rfl, pcl_ones⟩ ?_ | refine Exists.intro (pcl (n : Int) d) (And.intro ⟨leR rfl, spl0 (leR rfl)⟩ ?_) | refine Exists.intro _ (And.intro ⟨eg_i_Diagram, hE⟩ ?_) | refine And.intro (neI rfl) ?_ | refine And.intro ⟨rfl, leR rfl, onesR rfl⟩ ?_ | refine And.intro ⟨rfl, leR rfl⟩ ?_ | refine draw_rule2 hfol (fun KK hKK => ?_) | refine hKK _ _ _ (by kernel_rfl) ?_ | refine region_rule (fun KK hKK => ?_) | refine hKK _ _ ?_ | refine And.intro (Eq.refl true) ?_ | refine Exists.intro _ (And.intro (wI (by omega)) ?_) | refine Exists.intro _ (And.intro (wU (by omega)) ?_) | refine Exists.intro _ (And.intro ⟨rfl, by omega⟩ ?_) | refine Exists.intro _ (And.intro rfl ?_) | refine And.intro rfl ?_ | refine And.intro ⟨rfl, rfl⟩ ?_ | ((refine And.intro (fun _ => ?_) (fun _ => ?_)) <;> try (exfalso; omega))))
    exact Exists.intro [0] (And.intro (rfl) (And.intro ⟨rfl, trivial⟩ rfl))
  · have hne : ms.getD i [] ≠ d := ix_ne (by omega)
    have hE := fun w => eqDw w (s := (n : Int)) (n := n) hml hdl (decide_eq_false fun e => hne e.2)
    (repeat' (first | refine Exists.intro (pcl n (ms.getD i [])) (And.intro ⟨pcl_len hml, hat⟩ ?_) | refine Exists.intro (pcl (n : Int) d) (And.intro ⟨pcl_len hdl, pcl_all hdl⟩ ?_) | refine And.intro ⟨pcl_len hdl, leR rfl, pcl_ones⟩ ?_ | refine Exists.intro (pcl (n : Int) d) (And.intro ⟨leR rfl, spl0 (leR rfl)⟩ ?_) | refine Exists.intro _ (And.intro ⟨eg_i_Diagram, hE⟩ ?_) | refine And.intro (neI rfl) ?_ | refine And.intro ⟨rfl, leR rfl, onesR rfl⟩ ?_ | refine And.intro ⟨rfl, leR rfl⟩ ?_ | refine draw_rule2 hfol (fun KK hKK => ?_) | refine hKK _ _ _ (by kernel_rfl) ?_ | refine region_rule (fun KK hKK => ?_) | refine hKK _ _ ?_ | refine And.intro (Eq.refl true) ?_ | refine Exists.intro _ (And.intro (wI (by omega)) ?_) | refine Exists.intro _ (And.intro (wU (by omega)) ?_) | refine Exists.intro _ (And.intro ⟨rfl, by omega⟩ ?_) | refine Exists.intro _ (And.intro rfl ?_) | refine And.intro rfl ?_ | refine And.intro ⟨rfl, rfl⟩ ?_ | ((refine And.intro (fun _ => ?_) (fun _ => ?_)) <;> try (exfalso; omega))))
    refine Exists.intro (i + 1) (Exists.intro [0, 1] (And.intro ⟨by omega, (by show ms.length - (i + 1) < ms.length - i; omega)⟩ ⟨⟨rfl, rfl, rfl, trivial⟩, ⟨rfl, rfl, trivial⟩, rfl⟩))
/-- The chain's word of a diagram, and how many there are. -/
def wdG (s : GS) (d : List Nat) : List Nat := chW s (ix d s.ms) (ix d s.ms) []
theorem chW_len {s : GS} : ∀ {f a : Nat} {w : List Nat}, (chW s f a w).length ≤ w.length + f
  | 0, _, _ => by simp [chW]
  | f + 1, a, w => by
    rw [chW]; split
    · omega
    · have := chW_len (s := s) (f := f) (a := s.fr.getD a 0) (w := s.st.getD a 0 :: w)
      rw [List.length_cons] at this; omega
theorem s_normal (n : Nat) (d : List Nat) (hdD : IsD n d) (I : Nat) (hI : EndG n n d I) (hmem : d ∈ (gO n I).ms) :
    Spec Try.prog n_s_l03Normal [pv n d] [] (.tup [.sl 0, vi (IntKind.i64.wrap (((gO n I).wy.getD (ix d (gO n I).ms) 0 : Nat) : Int))]) [.pr T_int64 1 (wdG (gO n I) d).length (nl (wdG (gO n I) d))] := by
  have hfol : Try.prog.follows .mixedOrders = true := rfl
  have hdl := hdD.len
  have hg := s_grow n hdD.n1 hdD.n8 n d hdl I hI
  have hG := gO_I hdD.n1 hdD.n8 hI.lt
  have hF := gO_F hdD.n1 hdD.n8 hI.lt
  generalize gO n I = s at hg hG hF hmem ⊢
  have hfew := hG.few
  have hws := wy_small n hdD.n8
  have hx := ix_lt hmem
  have hlf := hG.lf; have hls := hG.ls; have hlw := hG.lw
  have hfi := s_find n s.ms (fun m hm => (hG.hd m hm).len) d hmem (by omega)
  have b1 := wl_at (l := s.wy) (i := ix d s.ms) (by omega)
  obtain ⟨W, hW⟩ : ∃ W, W = wdG s d := ⟨_, rfl⟩
  have hWl : W.length ≤ 65536 := by have := chW_len (s := s) (f := ix d s.ms) (a := ix d s.ms) (w := []); rw [hW]; unfold wdG; simp at this; omega
  rw [← hW]
  unfold wdG at hW
  generalize ix d s.ms = x at hx hfi b1 hW ⊢
  refine SpecW.of_EV hf_s_l03Normal hc_s_l03Normal rfl rfl rfl fun w0 B ρ0 _ => ?_
  (repeat' (first | refine Exists.intro (pcl (n : Int) d) (And.intro ⟨pcl_len hdl, pcl_all hdl⟩ ?_) | refine And.intro ⟨pcl_len hdl, leR rfl, pcl_ones⟩ ?_ | refine Exists.intro (pcl (n : Int) d) (And.intro ⟨leR rfl, spl0 (leR rfl)⟩ ?_) | refine Exists.intro _ (And.intro (pcl_at (by omega)) ?_) | refine (hg).make [] rfl trivial ?_ | refine (hfi).read [1] rfl ⟨rfl, trivial⟩ ?_ | refine Exists.intro _ (And.intro b1 ?_) | refine And.intro ⟨rfl, leR rfl, rfl⟩ ?_ | refine Exists.intro [V.sl 1, V.sl 2, V.sl 3, V.sl 4, V.sl 5] (And.intro ⟨rfl, rfl⟩ ?_) | refine Exists.intro [V.sl 1, V.sl 2, V.sl 3, V.sl 4, V.sl 5] (And.intro ⟨leR rfl, rfl⟩ ?_) | refine And.intro (neI rfl) ?_ | refine And.intro ⟨rfl, leR rfl, onesR rfl⟩ ?_ | refine And.intro ⟨rfl, leR rfl⟩ ?_ | refine draw_rule2 hfol (fun KK hKK => ?_) | refine hKK _ _ _ (by kernel_rfl) ?_ | refine region_rule (fun KK hKK => ?_) | refine hKK _ _ ?_ | refine And.intro (Eq.refl true) ?_ | refine Exists.intro _ (And.intro (wI (by omega)) ?_) | refine Exists.intro _ (And.intro (wU (by omega)) ?_) | refine Exists.intro _ (And.intro ⟨rfl, by omega⟩ ?_) | refine Exists.intro _ (And.intro rfl ?_) | refine And.intro rfl ?_ | refine And.intro ⟨rfl, rfl⟩ ?_ | ((refine And.intro (fun _ => ?_) (fun _ => ?_)) <;> try (exfalso; omega))))
  refine loop_rule (α := Nat × Nat × List Nat) (fun z => chW s z.1 z.2.1 z.2.2 = W ∧ z.2.1 ≤ z.1 ∧ z.2.1 < s.ms.length ∧ z.2.2.length + z.1 ≤ 65536)
    (fun z => [(4, .ptr 0 0), (5, vi z.2.1), (6, .sl 6), (7, vi (IntKind.i64.wrap ((s.wy.getD x 0 : Nat) : Int)))])
    (fun z => [.cc [.sl 1, .sl 2, .sl 3, .sl 4, .sl 5] T_s_l03Tree, .pr T_i_Diagram 17 s.ms.length (dw n s.ms), .pr T_int64 1 s.ms.length (nl s.fr), .pr T_int64 1 s.ms.length (nl s.st), .pr T_int64 1 s.ms.length (nl s.ln), .pr T_int64 1 s.ms.length (wl s.wy), .pr T_int64 1 z.2.2.length (nl z.2.2)])
    (fun z => z.1) (x, x, []) [6, 1, 2, 3, 4, 5, 7] ⟨hW.symm, Nat.le_refl _, hx, by simp; omega⟩ ⟨⟨rfl, rfl, rfl, rfl, trivial⟩, ⟨rfl, rfl, rfl, rfl, rfl, rfl, rfl, trivial⟩, rfl⟩ ?_
  rintro ⟨f, a, w⟩ g ⟨h1, h2, h3, h4⟩
  simp only [] at h1 h2 h3 h4 ⊢
  by_cases ha : a = 0
  · subst ha
    rw [chW_0] at h1
    subst h1
    (repeat' (first | refine And.intro (neI rfl) ?_ | refine And.intro ⟨rfl, leR rfl, onesR rfl⟩ ?_ | refine And.intro ⟨rfl, leR rfl⟩ ?_ | refine draw_rule2 hfol (fun KK hKK => ?_) | refine hKK _ _ _ (by kernel_rfl) ?_ | refine region_rule (fun KK hKK => ?_) | refine hKK _ _ ?_ | refine And.intro (Eq.refl true) ?_ | refine Exists.intro _ (And.intro (wI (by omega)) ?_) | refine Exists.intro _ (And.intro (wU (by omega)) ?_) | refine Exists.intro _ (And.intro ⟨rfl, by omega⟩ ?_) | refine Exists.intro _ (And.intro rfl ?_) | refine And.intro rfl ?_ | refine And.intro ⟨rfl, rfl⟩ ?_ | ((refine And.intro (fun _ => ?_) (fun _ => ?_)) <;> try (exfalso; omega))))
    exact Exists.intro [6] (And.intro (rfl) (And.intro ⟨rfl, trivial⟩ rfl))
  · cases f with
    | zero => omega
    | succ f =>
      rw [chW, if_neg ha] at h1
      have a1 := nl_at (l := s.st) (i := a) (by omega)
      have a2 := nl_at (l := s.fr) (i := a) (by omega)
      have hfa := hF a (by omega) h3
      (repeat' (first | refine Exists.intro _ (And.intro a1 ?_) | refine Exists.intro _ (And.intro a2 ?_) | refine And.intro ⟨rfl, mkL rfl⟩ ?_ | refine Exists.intro [Value.int .i64 ((s.st.getD a 0 : Nat) : Int)] (And.intro (row1s (mkL' rfl)) ?_) | refine Exists.intro (nl (s.st.getD a 0 :: w)) (And.intro ⟨rfl, nl_ones, by omega, by omega, rfl⟩ ?_) | refine And.intro (neI rfl) ?_ | refine And.intro ⟨rfl, leR rfl, onesR rfl⟩ ?_ | refine And.intro ⟨rfl, leR rfl⟩ ?_ | refine draw_rule2 hfol (fun KK hKK => ?_) | refine hKK _ _ _ (by kernel_rfl) ?_ | refine region_rule (fun KK hKK => ?_) | refine hKK _ _ ?_ | refine And.intro (Eq.refl true) ?_ | refine Exists.intro _ (And.intro (wI (by omega)) ?_) | refine Exists.intro _ (And.intro (wU (by omega)) ?_) | refine Exists.intro _ (And.intro ⟨rfl, by omega⟩ ?_) | refine Exists.intro _ (And.intro rfl ?_) | refine And.intro rfl ?_ | refine And.intro ⟨rfl, rfl⟩ ?_ | ((refine And.intro (fun _ => ?_) (fun _ => ?_)) <;> try (exfalso; omega))))
      refine Exists.intro (f, s.fr.getD a 0, s.st.getD a 0 :: w) (Exists.intro [0, 1, 2, 3, 4, 5, 8] (And.intro ⟨⟨h1, (by show s.fr.getD a 0 ≤ f; omega), (by show s.fr.getD a 0 < s.ms.length; omega), (by show (s.st.getD a 0 :: w).length + f ≤ 65536; rw [List.length_cons]; omega)⟩, (by show f < f + 1; omega)⟩ ?_))
      exact ⟨⟨rfl, rfl, rfl, rfl, trivial⟩, ⟨rfl, rfl, rfl, rfl, rfl, rfl, congrArg (fun k => some (O.pr T_int64 1 k (nl (s.st.getD a 0 :: w)))) (show 1 + w.length = (s.st.getD a 0 :: w).length by rw [List.length_cons]; omega), trivial⟩, rfl⟩
end Go.Proofs.Ytgpgcdofhkpeaaa.VE
