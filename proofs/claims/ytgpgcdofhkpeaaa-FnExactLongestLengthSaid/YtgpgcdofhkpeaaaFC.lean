/- Contracts of functions of the given program, for all arguments that the contract names; see each theorem. -/
import Derived.Test.YtgpgcdofhkpeaaaF8
import Derived.Test.YtgpgcdofhkpeaaaFB
set_option linter.all false
namespace Go.Proofs.Ytgpgcdofhkpeaaa.VE
open Go
set_option maxHeartbeats 1600000
set_option maxRecDepth 100000

/-! plain: the words of the tree -/
theorem chW_acc {s : GS} : ∀ {f a : Nat} {w : List Nat}, chW s f a w = chW s f a [] ++ w
  | 0, _, _ => rfl
  | f + 1, a, w => by
    rw [chW, chW]; split
    · rfl
    · rw [chW_acc (w := s.st.getD a 0 :: w), chW_acc (w := [s.st.getD a 0]), List.append_assoc]; rfl
theorem chW_fuel {s : GS} (hF : FrS s) : ∀ {f a : Nat}, a ≤ f → a < s.ms.length → chW s f a [] = chW s a a []
  | 0, a, h, _ => by obtain rfl : a = 0 := by omega
                     rfl
  | f + 1, a, h, hl => by
    by_cases h0 : a = 0
    · subst h0; rw [chW_0, chW_0]
    · obtain ⟨b, rfl⟩ : ∃ b, a = b + 1 := ⟨a - 1, by omega⟩
      have hb := hF (b + 1) (by omega) hl
      rw [chW, if_neg h0, chW, if_neg h0, chW_acc, chW_acc (f := b), chW_fuel hF (f := f) (by omega) (by omega), chW_fuel hF (f := b) (by omega) (by omega)]
def wJ (s : GS) (j : Nat) : List Nat := chW s j j []
theorem wJ_0 {s : GS} : wJ s 0 = [] := rfl
theorem wJ_step {s : GS} (hF : FrS s) {j : Nat} (h0 : 0 < j) (hl : j < s.ms.length) : wJ s j = wJ s (s.fr.getD j 0) ++ [s.st.getD j 0] := by
  have hb := hF j h0 hl
  unfold wJ
  obtain ⟨b, rfl⟩ : ∃ b, j = b + 1 := ⟨j - 1, by omega⟩
  rw [chW, if_neg (by omega), chW_acc, chW_fuel hF (f := b) (by omega) (by omega)]
theorem wJ_old {s t : GS} (hF : FrS s) (hf : ∀ j, j < s.ms.length → t.fr.getD j 0 = s.fr.getD j 0) (hs : ∀ j, j < s.ms.length → t.st.getD j 0 = s.st.getD j 0) : ∀ {f a : Nat} {w : List Nat}, a < s.ms.length → chW t f a w = chW s f a w
  | 0, _, _, _ => rfl
  | f + 1, a, w, hl => by
    rw [chW, chW]; split
    · rfl
    · rename_i h0
      have hb := hF a (by omega) hl
      rw [hf a hl, hs a hl, wJ_old hF hf hs (f := f) (by omega)]
/-- What a pair of an item and a generator gives to a diagram. -/
def prW (n : Nat) (s : GS) (e : List Nat) (q k : Nat) : Nat := if (oL n (s.ms.getD q []) (gen n k) n).1 = e ∧ lpN n (s.ms.getD q []) (gen n k) = 0 then cnt n (s.ln.getD q 0) (s.ms.getD q []) else 0
/-- What holds behind i items and k generators of the next one. -/
structure TI (n i k : Nat) (s : GS) : Prop where
  gi : GI n s
  fs : FrS s
  hi : i < s.ms.length
  lv : ∀ j, j < s.ms.length → lev n (s.ln.getD j 0) (s.ms.getD j [])
  le : ∀ j, j < s.ms.length → lst n (s.ln.getD j 0) (s.ms.getD j []) (wJ s j)
  mono : ∀ j j', j < j' → j' < s.ms.length → s.ln.getD j 0 ≤ s.ln.getD j' 0
  par : ∀ j, 0 < j → j < s.ms.length → s.ln.getD j 0 = s.ln.getD (s.fr.getD j 0) 0 + 1 ∧ (s.fr.getD j 0 < i ∨ (s.fr.getD j 0 = i ∧ s.st.getD j 0 < k))
  sort : ∀ j j', j < j' → j' < s.ms.length → s.ln.getD j 0 = s.ln.getD j' 0 → lle (wJ s j) (wJ s j')
  comp : ∀ d K, lev n K d → K ≤ s.ln.getD i 0 → d ∈ s.ms
  top : ∀ j, j < s.ms.length → s.ln.getD j 0 ≤ s.ln.getD i 0 + 1
  done : ∀ q k', (q < i ∨ (q = i ∧ k' < k)) → k' + 1 < n → lpN n (s.ms.getD q []) (gen n k') = 0 → (oL n (s.ms.getD q []) (gen n k') n).1 ∈ s.ms
  wys : ∀ j, j < s.ms.length → s.ln.getD j 0 ≤ s.ln.getD i 0 → s.wy.getD j 0 = cnt n (s.ln.getD j 0) (s.ms.getD j [])
  wyn : ∀ j, j < s.ms.length → s.ln.getD j 0 = s.ln.getD i 0 + 1 →
    s.wy.getD j 0 = ((List.range i).map fun q => if s.ln.getD q 0 = s.ln.getD i 0 then ((List.range (n - 1)).map fun k' => prW n s (s.ms.getD j []) q k').sum else 0).sum + ((List.range k).map fun k' => prW n s (s.ms.getD j []) i k').sum
end Go.Proofs.Ytgpgcdofhkpeaaa.VE
namespace Go.Proofs.Ytgpgcdofhkpeaaa.VE
open Go
set_option maxHeartbeats 1600000
set_option maxRecDepth 100000

theorem lev_0 {n : Nat} {d : List Nat} : lev n 0 d ↔ d = un n := by
  constructor
  · rintro ⟨⟨w, h1, h2⟩, _⟩
    have : w = [] := List.length_eq_zero_iff.1 h1
    subst this; exact LF.nil.1 h2
  · rintro rfl
    exact ⟨⟨[], rfl, LF.nil.2 rfl⟩, fun K hK => by omega⟩
theorem cnt_0 {n : Nat} : cnt n 0 (un n) = 1 := by
  show (if lv n [] = (un n, 0) then 1 else 0) = 1
  rw [if_pos (show lv n [] = (un n, 0) from rfl)]
theorem TI.start {n : Nat} (hn1 : 1 ≤ n) (hn : n ≤ 8) : TI n 0 0 (gO n 0) := by
  have hl : (gO n 0).ms.length = 1 := rfl
  refine ⟨gO_I hn1 hn fun j hj => by omega, gO_F hn1 hn fun j hj => by omega, by rw [hl]; omega, fun j hj => ?_, fun j hj => ?_, fun j j' h1 h2 => ?_, fun j h1 h2 => ?_, fun j j' h1 h2 => ?_, fun d K h1 h2 => ?_, fun j hj => ?_, fun q k' h => ?_, fun j hj _ => ?_, fun j hj h => ?_⟩
  · rw [hl] at hj; obtain rfl : j = 0 := by omega
    exact lev_0.2 rfl
  · rw [hl] at hj; obtain rfl : j = 0 := by omega
    exact ⟨rfl, LF.nil.2 rfl, fun u hu _ => by
      have : u = [] := List.length_eq_zero_iff.1 hu
      subst this; exact trivial⟩
  · rw [hl] at h2; omega
  · rw [hl] at h2; omega
  · rw [hl] at h2; omega
  · have h3 : K ≤ 0 := h2
    obtain rfl : K = 0 := by omega
    rw [lev_0.1 h1]; exact List.mem_singleton.2 rfl
  · rw [hl] at hj; obtain rfl : j = 0 := by omega
    exact Nat.zero_le _
  · omega
  · rw [hl] at hj; obtain rfl : j = 0 := by omega
    exact cnt_0.symm
  · rw [hl] at hj; obtain rfl : j = 0 := by omega
    have h3 : (0 : Nat) = 0 + 1 := h
    omega
end Go.Proofs.Ytgpgcdofhkpeaaa.VE
namespace Go.Proofs.Ytgpgcdofhkpeaaa.VE
open Go
set_option maxHeartbeats 1600000
set_option maxRecDepth 100000

/-- The items of a level. -/
def lvL (s : GS) (L : Nat) : List (List Nat) := ((List.range s.ms.length).filter fun j => s.ln.getD j 0 == L).map fun j => s.ms.getD j []
section
variable {n i k : Nat} {s : GS} (h : TI n i k s)
include h
theorem TI.mem {d : List Nat} {L : Nat} (hL : L ≤ s.ln.getD i 0) : d ∈ lvL s L ↔ lev n L d := by
  unfold lvL
  simp only [List.mem_map, List.mem_filter, List.mem_range, beq_iff_eq]
  constructor
  · rintro ⟨j, ⟨h1, h2⟩, rfl⟩
    have := h.lv j h1; rwa [h2] at this
  · intro hd
    have h1 := h.comp d L hd hL
    have h2 := ix_lt h1
    have h3 := ix_get h1
    refine ⟨ix d s.ms, ⟨h2, ?_⟩, h3⟩
    have h4 := h.lv _ h2
    rw [h3] at h4
    exact h4.uniq hd
theorem TI.lvL_nd (L : Nat) : (lvL s L).Nodup := by
  unfold lvL
  rw [List.Nodup, List.pairwise_map]
  have h1 : ((List.range s.ms.length).filter fun j => s.ln.getD j 0 == L).Pairwise (· ≠ ·) := List.nodup_range.filter _
  refine List.Pairwise.imp_of_mem ?_ h1
  intro a b ha hb hab e
  have ha' := List.mem_range.1 (List.mem_filter.1 ha).1
  have hb' := List.mem_range.1 (List.mem_filter.1 hb).1
  exact hab (by rw [← ix_at h.gi.nd ha', e, ix_at h.gi.nd hb'])
end
end Go.Proofs.Ytgpgcdofhkpeaaa.VE
namespace Go.Proofs.Ytgpgcdofhkpeaaa.VE
open Go
set_option maxHeartbeats 1600000
set_option maxRecDepth 100000

theorem sum_last {f : Nat → Nat} {k : Nat} : ((List.range (k + 1)).map f).sum = ((List.range k).map f).sum + f k := by
  rw [List.range_succ, List.map_append, List.sum_append]; simp
theorem chW_eq {s t : GS} (hf : t.fr = s.fr) (hs : t.st = s.st) : ∀ {f a : Nat} {w : List Nat}, chW t f a w = chW s f a w
  | 0, _, _ => rfl
  | f + 1, a, w => by rw [chW, chW, hf, hs, chW_eq hf hs]
theorem wJ_eq {s t : GS} (hf : t.fr = s.fr) (hs : t.st = s.st) (j : Nat) : wJ t j = wJ s j := chW_eq hf hs
theorem set_get {l : List Nat} {x v j : Nat} (hx : x < l.length) : (l.set x v).getD j 0 = if x = j then v else l.getD j 0 := getD_set' hx
section
variable {n i k : Nat} {s : GS} (h : TI n i k s)
include h
/-- A product that was met before. -/
theorem TI.old (hl : lpN n (s.ms.getD i []) (gen n k) = 0) (he : gE n i k s ∈ s.ms) : TI n i (k + 1) (gP i (ix (gE n i k s) s.ms) s) := by
  have hx := ix_lt he
  have hxg := ix_get he
  have hi := h.hi
  have hlw := h.gi.lw
  obtain ⟨x, hxe⟩ : ∃ x, x = ix (gE n i k s) s.ms := ⟨_, rfl⟩
  rw [← hxe] at hx hxg ⊢
  obtain ⟨e1, e2, e3, e4⟩ := gP_ms (i := i) (a := x) (s := s)
  have hpr : ∀ j, j < s.ms.length → prW n s (s.ms.getD j []) i k = if j = x then cnt n (s.ln.getD i 0) (s.ms.getD i []) else 0 := fun j hj => by
    unfold prW
    by_cases hjx : j = x
    · rw [if_pos hjx, if_pos ⟨by rw [hjx, hxg]; rfl, hl⟩]
    · rw [if_neg hjx, if_neg]
      rintro ⟨h1, _⟩
      refine hjx ?_
      rw [← ix_at h.gi.nd hj, ← h1, hxe]; rfl
  have hwy : ∀ j, j < s.ms.length → (gP i x s).wy.getD j 0 = if s.ln.getD x 0 = s.ln.getD i 0 + 1 ∧ j = x then s.wy.getD x 0 + s.wy.getD i 0 else s.wy.getD j 0 := fun j hj => by
    unfold gP
    by_cases hq : s.ln.getD x 0 = s.ln.getD i 0 + 1
    · rw [if_pos hq]
      show (s.wy.set x _).getD j 0 = _
      rw [set_get (by omega)]
      by_cases hjx : x = j
      · rw [if_pos hjx, if_pos ⟨hq, hjx.symm⟩]
      · rw [if_neg hjx, if_neg fun h2 => hjx h2.2.symm]
    · rw [if_neg hq, if_neg fun h2 => hq h2.1]
  have hgi := h.gi.gP (i := i) (a := x)
  have hW := wJ_eq (s := s) (t := gP i x s) e2 e3
  have hP : ∀ e q k', prW n (gP i x s) e q k' = prW n s e q k' := fun e q k' => by unfold prW; rw [e1, e4]
  generalize gP i x s = t at e1 e2 e3 e4 hwy hgi hW hP ⊢
  refine ⟨hgi, ?_, by rw [e1]; exact hi, ?_, ?_, ?_, ?_, ?_, ?_, ?_, ?_, ?_, ?_⟩
  · intro j h1 h2; rw [e1] at h2; rw [e2]; exact h.fs j h1 h2
  · rw [e1, e4]; exact h.lv
  · intro j hj; rw [e1] at hj; rw [e4, e1, hW]; exact h.le j hj
  · rw [e1, e4]; exact h.mono
  · intro j h1 h2
    rw [e1] at h2
    obtain ⟨a, b⟩ := h.par j h1 h2
    rw [e4, e2, e3]
    exact ⟨a, by omega⟩
  · intro j j' h1 h2 h3; rw [e1] at h2; rw [e4] at h3; rw [hW, hW]; exact h.sort j j' h1 h2 h3
  · rw [e1, e4]; exact h.comp
  · rw [e1, e4]; exact h.top
  · intro q k' h1 h2 h3
    rw [e1] at h3 ⊢
    by_cases e : q = i ∧ k' = k
    · obtain ⟨rfl, rfl⟩ := e; exact he
    · exact h.done q k' (by omega) h2 h3
  · intro j hj h1
    rw [e1] at hj; rw [e4] at h1
    rw [hwy j hj, e4, e1, if_neg]
    · exact h.wys j hj h1
    · rintro ⟨h2, h3⟩
      subst h3; omega
  · intro j hj h1
    rw [e1] at hj; rw [e4] at h1
    rw [hwy j hj, e4, e1]
    simp only [hP]
    rw [sum_last, hpr j hj]
    have hv := h.wyn j hj h1
    by_cases hjx : j = x
    · subst hjx
      rw [if_pos ⟨h1, rfl⟩, if_pos rfl, hv, h.wys i hi (Nat.le_refl _)]; omega
    · rw [if_neg fun h2 => hjx h2.2, if_neg hjx, hv]; omega
/-- A product with a loop. -/
theorem TI.loop (hl : lpN n (s.ms.getD i []) (gen n k) ≠ 0) : TI n i (k + 1) s := by
  refine ⟨h.gi, h.fs, h.hi, h.lv, h.le, h.mono, fun j h1 h2 => ?_, h.sort, h.comp, h.top, fun q k' h1 h2 h3 => ?_, h.wys, fun j h1 h2 => ?_⟩
  · obtain ⟨a, b⟩ := h.par j h1 h2
    exact ⟨a, by omega⟩
  · by_cases e : q = i ∧ k' = k
    · obtain ⟨rfl, rfl⟩ := e; exact absurd h3 hl
    · exact h.done q k' (by omega) h2 h3
  · rw [h.wyn j h1 h2, sum_last]
    have : prW n s (s.ms.getD j []) i k = 0 := by unfold prW; rw [if_neg fun h => hl h.2]
    omega
end
end Go.Proofs.Ytgpgcdofhkpeaaa.VE
namespace Go.Proofs.Ytgpgcdofhkpeaaa.VE
open Go
set_option maxHeartbeats 1600000
set_option maxRecDepth 100000

section
variable {n i k : Nat} {s : GS} (h : TI n i k s) (hk : k + 1 < n) (hl : lpN n (s.ms.getD i []) (gen n k) = 0) (he : gE n i k s ∉ s.ms)
include h hk hl he
/-- The word of a new one is the least. -/
theorem TI.new_lst (hn1 : 1 ≤ n) (hn : n ≤ 8) : lev n (s.ln.getD i 0 + 1) (gE n i k s) ∧ lst n (s.ln.getD i 0 + 1) (gE n i k s) (wJ s i ++ [k]) := by
  have hno : ∀ K, K ≤ s.ln.getD i 0 → ¬ has n K (gE n i k s) := fun K hK hh => by
    obtain ⟨M, h1, h2⟩ := hh.lev
    exact he (h.comp _ M h2 (by omega))
  have hi := h.hi
  have hii : ix (s.ms.getD i []) s.ms = i := ix_at h.gi.nd hi
  have hmem : s.ms.getD i [] ∈ lvL s (s.ln.getD i 0) := (h.mem (Nat.le_refl _)).2 (h.lv i hi)
  have hlw : ∀ d ∈ lvL s (s.ln.getD i 0), lst n (s.ln.getD i 0) d (wJ s (ix d s.ms)) ∧ ix d s.ms < s.ms.length ∧ s.ms.getD (ix d s.ms) [] = d ∧ s.ln.getD (ix d s.ms) 0 = s.ln.getD i 0 := fun d hd => by
    have h1 := (h.mem (Nat.le_refl _)).1 hd
    have h2 := h.comp d _ h1 (Nat.le_refl _)
    have h3 := ix_lt h2
    have h4 := ix_get h2
    have h5 := h.lv _ h3
    rw [h4] at h5
    have h6 := h5.uniq h1
    have h7 := h.le _ h3
    rw [h4, h6] at h7
    exact ⟨h7, h3, h4, h6⟩
  have hL := least_right hn1 hn (fun d => h.mem (Nat.le_refl _)) hno (lw := fun d => wJ s (ix d s.ms)) (fun d hd => (hlw d hd).1) (W := wJ s i ++ [k])
    ⟨s.ms.getD i [], k, hmem, hk, rfl, hl, by show _ = wJ s (ix (s.ms.getD i []) s.ms) ++ [k]; rw [hii]⟩ (fun d k' hd hk' h1 h2 => ?_)
  · exact ⟨⟨⟨_, hL.1, hL.2.1⟩, fun K hK => hno K (by omega)⟩, hL⟩
  · obtain ⟨g1, g2, g3, g4⟩ := hlw d hd
    show lle (wJ s i ++ [k]) (wJ s (ix d s.ms) ++ [k'])
    have hnd : ¬ (ix d s.ms < i ∨ (ix d s.ms = i ∧ k' < k)) := fun hh => by
      have := h.done _ _ hh hk' (by rw [g3]; exact h2)
      rw [g3, h1] at this
      exact he this
    have gi := h.le i hi
    rcases Nat.lt_or_ge i (ix d s.ms) with h3 | h3
    · refine lle_snoc (by rw [gi.1, g1.1]) (h.sort i _ h3 g2 g4.symm) fun e => ?_
      have e2 : s.ms.getD i [] = d := by
        have := gi.2.1; rw [e] at this
        exact LF.uniq this g1.2.1
      rw [← e2, hii] at h3; omega
    · have h4 : ix d s.ms = i := by omega
      rw [h4]
      exact lle_snoc rfl (lle_refl _) fun _ => by omega
end
end Go.Proofs.Ytgpgcdofhkpeaaa.VE
namespace Go.Proofs.Ytgpgcdofhkpeaaa.VE
open Go
set_option maxHeartbeats 1600000
set_option maxRecDepth 100000

theorem FrS.gP {i a : Nat} {s : GS} (h : FrS s) : FrS (gP i a s) := fun j h1 h2 => by
  rw [gP_ms.1] at h2; rw [gP_ms.2.1]; exact h j h1 h2
theorem FrS.gN {n i k : Nat} {s : GS} (h : FrS s) (hG : GI n s) (hi : i < s.ms.length) : FrS (gN n i k s) := fun j h1 h2 => by
  have h3 : j < s.ms.length + 1 := by simpa [Go.Proofs.Ytgpgcdofhkpeaaa.VE.gN] using h2
  show (s.fr ++ [i]).getD j 0 < j
  rw [getD_app, hG.lf]
  split
  · exact h j h1 (by assumption)
  · split <;> omega
theorem sum_none2 {f : Nat → Nat} {k : Nat} (h : ∀ y, y < k → f y = 0) : ((List.range k).map f).sum = 0 := sum_none fun y hy => h y (List.mem_range.1 hy)
theorem sum_same {f g : Nat → Nat} {k : Nat} (h : ∀ y, y < k → f y = g y) : ((List.range k).map f).sum = ((List.range k).map g).sum := sum_congr fun y hy => h y (List.mem_range.1 hy)
section
variable {n i k : Nat} {s : GS} (h : TI n i k s) (hk : k + 1 < n) (hl : lpN n (s.ms.getD i []) (gen n k) = 0) (he : gE n i k s ∉ s.ms)
include h hk hl he
/-- A product that is met for the first time. -/
theorem TI.new (hn1 : 1 ≤ n) (hn : n ≤ 8) : TI n i (k + 1) (gP i s.ms.length (gN n i k s)) := by
  obtain ⟨hW1, hW2⟩ := h.new_lst hk hl he hn1 hn
  have hi := h.hi
  have hg := h.gi
  have hgi : GI n (gP i s.ms.length (gN n i k s)) := (hg.gN hi hk he).gP
  have hfs : FrS (gP i s.ms.length (gN n i k s)) := (h.fs.gN hg hi).gP
  have hlf := hg.lf; have hls := hg.ls; have hll := hg.ll; have hlw := hg.lw
  have hpe : ∀ q k', (oL n (s.ms.getD q []) (gen n k') n).1 ∈ s.ms → gE n i k s ≠ (oL n (s.ms.getD q []) (gen n k') n).1 := fun q k' h1 h2 => he (by rw [h2]; exact h1)
  have hec : (oL n (s.ms.getD i []) (gen n k) n).1 = gE n i k s := rfl
  generalize gE n i k s = e at hW1 hW2 he hpe hec
  have hT : ∃ t, t = gP i s.ms.length (gN n i k s) := ⟨_, rfl⟩
  obtain ⟨t, ht⟩ := hT
  rw [← ht] at hgi hfs ⊢
  have hln : (s.ln ++ [s.ln.getD i 0 + 1]).getD s.ms.length 0 = s.ln.getD i 0 + 1 := by rw [getD_app, hll, if_neg (by omega), if_pos rfl]
  have hli : (s.ln ++ [s.ln.getD i 0 + 1]).getD i 0 = s.ln.getD i 0 := by rw [getD_app, hll, if_pos hi]
  have e1 : t.ms = s.ms ++ [e] := by rw [ht, gP_ms.1]; show s.ms ++ [(oL n (s.ms.getD i []) (gen n k) n).1] = _; rw [hec]
  have e2 : t.fr = s.fr ++ [i] := by rw [ht, gP_ms.2.1]; rfl
  have e3 : t.st = s.st ++ [k] := by rw [ht, gP_ms.2.2.1]; rfl
  have e4 : t.ln = s.ln ++ [s.ln.getD i 0 + 1] := by rw [ht, gP_ms.2.2.2]; rfl
  have e5 : t.wy = (s.wy ++ [0]).set s.ms.length ((s.wy ++ [0]).getD s.ms.length 0 + (s.wy ++ [0]).getD i 0) := by
    rw [ht]; unfold gP
    rw [if_pos (by show (s.ln ++ [s.ln.getD i 0 + 1]).getD s.ms.length 0 = (s.ln ++ [s.ln.getD i 0 + 1]).getD i 0 + 1; rw [hln, hli])]; rfl
  clear ht
  have a1 : ∀ j, j < s.ms.length → t.ms.getD j [] = s.ms.getD j [] := fun j hj => by rw [e1, getD_app, if_pos hj]
  have a2 : ∀ j, j < s.ms.length → t.fr.getD j 0 = s.fr.getD j 0 := fun j hj => by rw [e2, getD_app, hlf, if_pos hj]
  have a3 : ∀ j, j < s.ms.length → t.st.getD j 0 = s.st.getD j 0 := fun j hj => by rw [e3, getD_app, hls, if_pos hj]
  have a4 : ∀ j, j < s.ms.length → t.ln.getD j 0 = s.ln.getD j 0 := fun j hj => by rw [e4, getD_app, hll, if_pos hj]
  have b1 : t.ms.getD s.ms.length [] = e := by rw [e1, getD_app, if_neg (by omega), if_pos rfl]
  have b2 : t.fr.getD s.ms.length 0 = i := by rw [e2, getD_app, hlf, if_neg (by omega), if_pos rfl]
  have b3 : t.st.getD s.ms.length 0 = k := by rw [e3, getD_app, hls, if_neg (by omega), if_pos rfl]
  have b4 : t.ln.getD s.ms.length 0 = s.ln.getD i 0 + 1 := by rw [e4, hln]
  have a5 : ∀ j, j < s.ms.length → t.wy.getD j 0 = s.wy.getD j 0 := fun j hj => by
    rw [e5, set_get (by simp; omega), if_neg (by omega), getD_app, hlw, if_pos hj]
  have b5 : t.wy.getD s.ms.length 0 = s.wy.getD i 0 := by
    rw [e5, set_get (by simp; omega), if_pos rfl, getD_app, hlw, if_neg (by omega), if_pos rfl, getD_app, hlw, if_pos hi, Nat.zero_add]
  have hlen : t.ms.length = s.ms.length + 1 := by rw [e1]; simp
  clear e1 e2 e3 e4 e5
  have hwo : ∀ j, j < s.ms.length → wJ t j = wJ s j := fun j hj => wJ_old h.fs a2 a3 hj
  have hwn : wJ t s.ms.length = wJ s i ++ [k] := by
    rw [wJ_step hfs (by omega) (by omega), b2, b3, hwo i hi]
  have hc : ∀ {j}, j < t.ms.length → j < s.ms.length ∨ j = s.ms.length := fun hj => by omega
  have hP : ∀ e' q k', q < s.ms.length → prW n t e' q k' = prW n s e' q k' := fun e' q k' hq => by unfold prW; rw [a1 q hq, a4 q hq]
  have hmem : ∀ d, d ∈ s.ms → d ∈ t.ms := fun d hd => by
    have h1 := ix_lt hd
    have h2 := a1 _ h1
    rw [ix_get hd] at h2
    rw [← h2]; exact getD_mem (by omega)
  have hemem : e ∈ t.ms := by rw [← b1]; exact getD_mem (by omega)
  refine ⟨hgi, hfs, by omega, fun j hj => ?_, fun j hj => ?_, fun j j' h1 h2 => ?_, fun j h1 h2 => ?_, fun j j' h1 h2 h3 => ?_, fun d K h1 h2 => ?_, fun j hj => ?_, fun q k' h1 h2 h3 => ?_, fun j hj h1 => ?_, fun j hj h1 => ?_⟩
  · rcases hc hj with hj | rfl
    · rw [a4 j hj, a1 j hj]; exact h.lv j hj
    · rw [b4, b1]; exact hW1
  · rcases hc hj with hj | rfl
    · rw [a4 j hj, a1 j hj, hwo j hj]; exact h.le j hj
    · rw [b4, b1, hwn]; exact hW2
  · rcases hc h2 with h3 | rfl
    · rw [a4 j (by omega), a4 j' h3]; exact h.mono j j' h1 h3
    · rw [a4 j (by omega), b4]; exact h.top j (by omega)
  · rcases hc h2 with h3 | rfl
    · obtain ⟨c1, c2⟩ := h.par j h1 h3
      have hf := h.fs j h1 h3
      rw [a4 j h3, a2 j h3, a3 j h3, a4 _ (by omega)]
      exact ⟨c1, by omega⟩
    · rw [b4, b2, b3, a4 i hi]
      exact ⟨rfl, .inr ⟨rfl, by omega⟩⟩
  · rcases hc h2 with h4 | rfl
    · rw [a4 j (by omega), a4 j' h4] at h3
      rw [hwo j (by omega), hwo j' h4]; exact h.sort j j' h1 h4 h3
    · rw [a4 j (by omega), b4] at h3
      have hj0 : 0 < j := by
        rcases Nat.eq_zero_or_pos j with e0 | e0
        · have := hg.ln j (by omega); omega
        · exact e0
      obtain ⟨c1, c2⟩ := h.par j hj0 (by omega)
      have hf := h.fs j hj0 (by omega)
      rw [hwo j (by omega), hwn, wJ_step h.fs hj0 (by omega)]
      have hlj := h.le (s.fr.getD j 0) (by omega)
      have hlI := h.le i hi
      have hlev : s.ln.getD (s.fr.getD j 0) 0 = s.ln.getD i 0 := by omega
      refine lle_snoc (by rw [hlj.1, hlI.1]; exact hlev) ?_ fun ew => ?_
      · rcases c2 with c2 | ⟨c2, _⟩
        · exact h.sort _ _ c2 hi hlev
        · rw [c2]; exact lle_refl _
      · rcases c2 with c2 | ⟨c2, c3⟩
        · exfalso
          have g1 := hlj.2.1
          rw [ew] at g1
          have g2 := LF.uniq g1 hlI.2.1
          have g3 := ix_at hg.nd (show s.fr.getD j 0 < s.ms.length by omega)
          rw [g2, ix_at hg.nd hi] at g3
          omega
        · omega
  · rw [a4 i hi] at h2
    exact hmem d (h.comp d K h1 h2)
  · rw [a4 i hi]
    rcases hc hj with hj | rfl
    · rw [a4 j hj]; exact h.top j hj
    · rw [b4]; exact Nat.le_refl _
  · rw [a1 q (by omega)] at h3 ⊢
    by_cases e0 : q = i ∧ k' = k
    · obtain ⟨rfl, rfl⟩ := e0; rw [hec]; exact hemem
    · exact hmem _ (h.done q k' (by omega) h2 h3)
  · rw [a4 i hi] at h1
    rcases hc hj with hj | rfl
    · rw [a4 j hj] at h1 ⊢
      rw [a5 j hj, a1 j hj]; exact h.wys j hj h1
    · rw [b4] at h1; omega
  · rw [a4 i hi] at h1 ⊢
    have hsum : ∀ e', ((List.range i).map fun q => if t.ln.getD q 0 = s.ln.getD i 0 then ((List.range (n - 1)).map fun k' => prW n t e' q k').sum else 0).sum
        = ((List.range i).map fun q => if s.ln.getD q 0 = s.ln.getD i 0 then ((List.range (n - 1)).map fun k' => prW n s e' q k').sum else 0).sum := fun e' =>
      sum_same fun q hq => by rw [a4 q (by omega)]; simp only [hP e' q _ (by omega)]
    have hsum2 : ∀ e', ((List.range (k + 1)).map fun k' => prW n t e' i k').sum = ((List.range k).map fun k' => prW n s e' i k').sum + prW n s e' i k := fun e' => by
      rw [sum_last, hP e' i k hi, sum_same fun k' _ => hP e' i k' hi]
    rw [hsum, hsum2]
    have hprk : ∀ e', prW n s e' i k = if e = e' then cnt n (s.ln.getD i 0) (s.ms.getD i []) else 0 := fun e' => by
      unfold prW
      rw [hec]
      by_cases c : e = e'
      · rw [if_pos c, if_pos ⟨c, hl⟩]
      · rw [if_neg c, if_neg fun c2 => c c2.1]
    rcases hc hj with hj | rfl
    · rw [a4 j hj] at h1
      rw [a5 j hj, a1 j hj, hprk, if_neg fun c => he (by rw [c]; exact getD_mem hj), h.wyn j hj h1]; rfl
    · rw [b5, b1, hprk, if_pos rfl, h.wys i hi (Nat.le_refl _)]
      have hz : ∀ q k', (q < i ∨ (q = i ∧ k' < k)) → k' + 1 < n → prW n s e q k' = 0 := fun q k' c1 c2 => by
        unfold prW
        rw [if_neg]
        rintro ⟨c3, c4⟩
        exact hpe q k' (h.done q k' c1 c2 c4) c3.symm
      rw [sum_none2 fun q hq => ?_, sum_none2 fun k' hk' => hz i k' (.inr ⟨rfl, hk'⟩) (by omega)]
      · omega
      · split
        · exact sum_none2 fun k' hk' => hz q k' (.inl hq) (by omega)
        · rfl
end
/-- One generator more. -/
theorem TI.step {n i k : Nat} {s : GS} (h : TI n i k s) (hk : k + 1 < n) (hn1 : 1 ≤ n) (hn : n ≤ 8) : TI n i (k + 1) (gK n i k s) := by
  unfold gK
  split
  · rename_i hl
    split
    · rename_i he; exact h.old hl he
    · rename_i he; exact h.new hk hl he hn1 hn
  · rename_i hl; exact h.loop hl
theorem TI.all {n i : Nat} (hn1 : 1 ≤ n) (hn : n ≤ 8) : ∀ {k : Nat} {s : GS}, TI n i 0 s → k + 1 ≤ n → TI n i k (gI n i k s)
  | 0, _, h, _ => h
  | k + 1, s, h, hk => (TI.all hn1 hn h (by omega)).step (by omega) hn1 hn
end Go.Proofs.Ytgpgcdofhkpeaaa.VE
namespace Go.Proofs.Ytgpgcdofhkpeaaa.VE
open Go
set_option maxHeartbeats 1600000
set_option maxRecDepth 100000

theorem has_0 {n : Nat} {d : List Nat} (h : has n 0 d) : d = un n := by
  obtain ⟨w, h1, h2⟩ := h
  have : w = [] := List.length_eq_zero_iff.1 h1
  subst this; exact LF.nil.1 h2
/-- A diagram of the next level is a product of one of this level. -/
theorem lev.pred {n L : Nat} {d : List Nat} (hn1 : 1 ≤ n) (hn : n ≤ 8) (h : lev n (L + 1) d) : ∃ e k, lev n L e ∧ k + 1 < n ∧ (oL n e (gen n k) n).1 = d ∧ lpN n e (gen n k) = 0 := by
  obtain ⟨⟨w, h1, h2⟩, h3⟩ := h
  rcases List.eq_nil_or_concat w with rfl | ⟨v, k, rfl⟩
  · simp at h1
  · rw [List.concat_eq_append] at h1 h2
    have hv : v.length = L := by simpa using h1
    obtain ⟨k1, e, k2, k3, k4⟩ := (LF.snoc_iff hn1 hn).1 h2
    exact ⟨e, k, ⟨⟨v, hv, k2⟩, fun K hK ⟨z, hz, hzd⟩ => h3 (K + 1) (by omega) ⟨z ++ [k], by simp [hz], (LF.snoc_iff hn1 hn).2 ⟨k1, e, hzd, k3, k4⟩⟩⟩, k1, k3, k4⟩
theorem sum_filter {f : Nat → Nat} {p : Nat → Bool} : ∀ {l : List Nat}, ((l.filter p).map f).sum = (l.map fun x => if p x = true then f x else 0).sum
  | [] => rfl
  | x :: l => by
    rw [List.filter_cons, List.map_cons, List.sum_cons, ← sum_filter (l := l)]
    by_cases h : p x = true
    · rw [if_pos h, if_pos h, List.map_cons, List.sum_cons]
    · rw [if_neg h, if_neg h, Nat.zero_add]
theorem sum_cut {f : Nat → Nat} {a : Nat} : ∀ {b : Nat}, (∀ y, a ≤ y → y < a + b → f y = 0) → ((List.range (a + b)).map f).sum = ((List.range a).map f).sum
  | 0, _ => rfl
  | b + 1, h => by
    rw [← Nat.add_assoc, sum_last, sum_cut (b := b) fun y h1 h2 => h y h1 (by omega), h (a + b) (by omega) (by omega)]; rfl
section
variable {n i : Nat} {s : GS} (h : TI n i (n - 1) s) (hn1 : 1 ≤ n) (hn : n ≤ 8)
include h hn1 hn
/-- What is found behind a whole item. -/
theorem TI.wyl {j : Nat} (hj : j < s.ms.length) (h1 : s.ln.getD j 0 = s.ln.getD i 0 + 1) (hbig : ∀ q, i < q → q < s.ms.length → s.ln.getD i 0 < s.ln.getD q 0) : s.wy.getD j 0 = cnt n (s.ln.getD j 0) (s.ms.getD j []) := by
  have hlv := h.lv j hj
  have hc := cnt_right hn1 hn (h.lvL_nd (s.ln.getD i 0)) (fun d => h.mem (Nat.le_refl _)) (e := s.ms.getD j []) (fun K hK => hlv.2 K (by omega))
  rw [h1, hc, h.wyn j hj h1]
  have hi := h.hi
  have e1 : ((List.range (n - 1)).map fun k' => prW n s (s.ms.getD j []) i k').sum = (fun q => if s.ln.getD q 0 = s.ln.getD i 0 then ((List.range (n - 1)).map fun k' => prW n s (s.ms.getD j []) q k').sum else 0) i := (if_pos rfl).symm
  rw [e1, ← sum_last, show i + 1 = i + 1 from rfl]
  have hb := sum_cut (f := fun q => if s.ln.getD q 0 = s.ln.getD i 0 then ((List.range (n - 1)).map fun k' => prW n s (s.ms.getD j []) q k').sum else 0) (a := i + 1) (b := s.ms.length - (i + 1)) fun y h2 h3 => if_neg (by have := hbig y (by omega) (by omega); omega)
  rw [show i + 1 + (s.ms.length - (i + 1)) = s.ms.length by omega] at hb
  rw [← hb]
  unfold lvL
  rw [List.map_map, sum_filter]
  refine sum_same fun q hq => ?_
  by_cases c : s.ln.getD q 0 = s.ln.getD i 0
  · rw [if_pos c, if_pos (by simpa using c)]
    refine sum_congr fun k' _ => ?_
    simp only [Function.comp_apply, prW, c]
  · rw [if_neg c, if_neg (by simpa using c)]
/-- The next item. -/
theorem TI.next (hi1 : i + 1 < s.ms.length) : TI n (i + 1) 0 s := by
  have hi := h.hi
  have hm := h.mono i (i + 1) (by omega) hi1
  have ht := h.top (i + 1) hi1
  have hbig : s.ln.getD (i + 1) 0 = s.ln.getD i 0 + 1 → ∀ q, i < q → q < s.ms.length → s.ln.getD i 0 < s.ln.getD q 0 := fun e q h1 h2 => by
    by_cases hq : q = i + 1
    · subst hq; omega
    · have := h.mono (i + 1) q (by omega) h2; omega
  have hdone : ∀ q k', q < i + 1 → k' + 1 < n → lpN n (s.ms.getD q []) (gen n k') = 0 → (oL n (s.ms.getD q []) (gen n k') n).1 ∈ s.ms := fun q k' h1 h2 h3 => h.done q k' (by omega) h2 h3
  refine ⟨h.gi, h.fs, hi1, h.lv, h.le, h.mono, fun j h1 h2 => ?_, h.sort, fun d K h1 h2 => ?_, fun j hj => ?_, fun q k' h1 h2 h3 => hdone q k' (by omega) h2 h3, fun j hj h1 => ?_, fun j hj h1 => ?_⟩
  · obtain ⟨a, b⟩ := h.par j h1 h2
    exact ⟨a, by omega⟩
  · by_cases hK : K ≤ s.ln.getD i 0
    · exact h.comp d K h1 hK
    · have e : s.ln.getD (i + 1) 0 = s.ln.getD i 0 + 1 := by omega
      obtain rfl : K = s.ln.getD i 0 + 1 := by omega
      obtain ⟨e', k', g1, g2, g3, g4⟩ := h1.pred hn1 hn
      have g5 := h.comp e' _ g1 (Nat.le_refl _)
      have g6 := ix_lt g5
      have g7 := ix_get g5
      have g8 := h.lv _ g6
      rw [g7] at g8
      have g9 := g8.uniq g1
      have g10 : ix e' s.ms < i + 1 := by
        rcases Nat.lt_or_ge (ix e' s.ms) (i + 1) with c | c
        · exact c
        · have := hbig e (ix e' s.ms) (by omega) g6; omega
      have := hdone _ k' g10 g2 (by rw [g7]; exact g4)
      rw [g7, g3] at this
      exact this
  · have := h.top j hj
    omega
  · by_cases c : s.ln.getD j 0 ≤ s.ln.getD i 0
    · exact h.wys j hj c
    · exact h.wyl hn1 hn hj (by omega) (hbig (by omega))
  · have := h.top j hj
    have e : s.ln.getD (i + 1) 0 = s.ln.getD i 0 := by omega
    rw [h.wyn j hj (by omega), sum_last]
    simp only [e, if_true]; rfl
/-- Behind all items. -/
theorem TI.fin_all (hi1 : s.ms.length ≤ i + 1) : (∀ d K, lev n K d → d ∈ s.ms) ∧ ∀ j, j < s.ms.length → s.wy.getD j 0 = cnt n (s.ln.getD j 0) (s.ms.getD j []) := by
  have hi := h.hi
  refine ⟨?_, fun j hj => ?_⟩
  · intro d K
    induction K generalizing d with
    | zero => exact fun hd => h.comp d 0 hd (by omega)
    | succ K ih =>
      intro hd
      obtain ⟨e', k', g1, g2, g3, g4⟩ := hd.pred hn1 hn
      have g5 := ih e' g1
      have g6 := ix_lt g5
      have := h.done (ix e' s.ms) k' (by omega) g2 (by rw [ix_get g5]; exact g4)
      rw [ix_get g5, g3] at this
      exact this
  · have : s.ln.getD j 0 ≤ s.ln.getD i 0 := by
      by_cases e : j = i
      · subst e; exact Nat.le_refl _
      · exact h.mono j i (by omega) hi
    exact h.wys j hj this
end
theorem TI.at {n : Nat} (hn1 : 1 ≤ n) (hn : n ≤ 8) : ∀ {i : Nat}, (∀ j, j ≤ i → j < (gO n j).ms.length) → TI n i 0 (gO n i)
  | 0, _ => TI.start hn1 hn
  | i + 1, h => ((TI.at hn1 hn fun j hj => h j (by omega)).all hn1 hn (by omega)).next hn1 hn (h (i + 1) (Nat.le_refl _))
/-- What the tree tells where it ends. -/
theorem tree_end {n : Nat} (hn1 : 1 ≤ n) (hn : n ≤ 8) {ls : Int} {lm : List Nat} {I : Nat} (hI : EndG n ls lm I) (hs : (gO n I).ms.length ≤ I) :
    (∀ d K, lev n K d → d ∈ (gO n I).ms) ∧ ∀ j, j < (gO n I).ms.length → lev n ((gO n I).ln.getD j 0) ((gO n I).ms.getD j []) ∧ lst n ((gO n I).ln.getD j 0) ((gO n I).ms.getD j []) (wJ (gO n I) j) ∧ (gO n I).wy.getD j 0 = cnt n ((gO n I).ln.getD j 0) ((gO n I).ms.getD j []) ∧ (gO n I).ln.getD j 0 ≤ (gO n I).ln.getD ((gO n I).ms.length - 1) 0 := by
  cases I with
  | zero => have : (gO n 0).ms.length = 1 := rfl
            omega
  | succ i =>
    have h := (TI.at hn1 hn (i := i) fun j hj => hI.lt j (by omega)).all hn1 hn (k := n - 1) (by omega)
    have e : gI n i (n - 1) (gO n i) = gO n (i + 1) := rfl
    rw [e] at h
    obtain ⟨h1, h2⟩ := h.fin_all hn1 hn hs
    refine ⟨h1, fun j hj => ⟨h.lv j hj, h.le j hj, h2 j hj, ?_⟩⟩
    by_cases c : j = (gO n (i + 1)).ms.length - 1
    · rw [← c]; exact Nat.le_refl _
    · exact h.mono j _ (by omega) (by omega)
/-- What the tree tells of a planar diagram. -/
theorem tree_of {n : Nat} {d : List Nat} (hD : IsD n d) {I : Nat} (hI : EndG n n d I) : d ∈ (gO n I).ms ∧ ∃ L, lev n L d ∧ lst n L d (wdG (gO n I) d) ∧ (gO n I).wy.getD (ix d (gO n I).ms) 0 = cnt n L d := by
  have hn1 := hD.n1; have hn := hD.n8
  by_cases hs : (gO n I).ms.length ≤ I
  · obtain ⟨h1, h2⟩ := tree_end hn1 hn hI hs
    obtain ⟨w, hw⟩ := reach hD
    obtain ⟨K, _, hK⟩ := has.lev ⟨w, rfl, hw⟩
    have hm := h1 d K hK
    obtain ⟨g1, g2, g3, _⟩ := h2 _ (ix_lt hm)
    rw [ix_get hm] at g1 g2 g3
    exact ⟨hm, _, g1, g2, g3⟩
  · have h := TI.at hn1 hn (i := I) fun j hj => by
      by_cases e : j = I
      · subst e; omega
      · exact hI.lt j (by omega)
    obtain ⟨_, hm, hle⟩ := hI.fin.resolve_left hs
    have hx := ix_lt hm
    have g1 := h.lv _ hx; have g2 := h.le _ hx; have g3 := h.wys _ hx hle
    rw [ix_get hm] at g1 g2 g3
    exact ⟨hm, _, g1, g2, g3⟩
end Go.Proofs.Ytgpgcdofhkpeaaa.VE
