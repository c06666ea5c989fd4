/- Contracts of functions of the given program, for all arguments that the contract names; see each theorem. -/
import Derived.Test.YtgpgcdofhkpeaaaFC
import Derived.Test.YtgpgcdofhkpeaaaVE9
set_option linter.all false
namespace Go.Proofs.Ytgpgcdofhkpeaaa.VE
open Go
set_option maxHeartbeats 1600000
set_option maxRecDepth 100000

/-! plain: the program's search, level by level -/
/-- The level and the least word of each diagram. -/
structure WD (n : Nat) (W : List Nat → Nat × List Nat) : Prop where
  l : ∀ d, IsD n d → lev n (W d).1 d
  w : ∀ d, IsD n d → lst n (W d).1 d (W d).2
  b : ∀ d, IsD n d → (W d).1 ≤ 65536
theorem lev.D {n L : Nat} {d : List Nat} (hn1 : 1 ≤ n) (hn : n ≤ 8) (h : lev n L d) : IsD n d := by
  obtain ⟨⟨w, _, h⟩, _⟩ := h
  exact h.D hn1 hn
theorem WD.ex {n : Nat} (hn1 : 1 ≤ n) (hn : n ≤ 8) : ∃ W, WD n W := by
  have h : ∀ d : List Nat, ∃ p : Nat × List Nat, IsD n d → lev n p.1 d ∧ lst n p.1 d p.2 ∧ p.1 ≤ 65536 := fun d => by
    by_cases hD : IsD n d
    · obtain ⟨I, hI⟩ := EndG.ex hn1 hn n d
      obtain ⟨hm, L, h1, h2, _⟩ := tree_of hD hI
      refine ⟨(L, wdG (gO n I) d), fun _ => ⟨h1, h2, ?_⟩⟩
      have h3 := h2.1
      have h4 := chW_len (s := gO n I) (f := ix d (gO n I).ms) (a := ix d (gO n I).ms) (w := [])
      have h5 := ix_lt hm
      have h6 := (gO_I hn1 hn hI.lt).few
      have h7 := wy_small n hn
      unfold wdG at h3
      simp only [List.length_nil] at h4
      show L ≤ 65536
      omega
    · exact ⟨(0, []), fun h => absurd h hD⟩
  obtain ⟨W, hW⟩ := Classical.axiomOfChoice h
  exact ⟨W, fun d hd => (hW d hd).1, fun d hd => (hW d hd).2.1, fun d hd => (hW d hd).2.2⟩
section
variable {n : Nat} {W : List Nat → Nat × List Nat} (hW : WD n W)
include hW
theorem WD.lev_iff (hn1 : 1 ≤ n) (hn : n ≤ 8) {L : Nat} {d : List Nat} : lev n L d ↔ IsD n d ∧ (W d).1 = L :=
  ⟨fun h => ⟨h.D hn1 hn, (hW.l d (h.D hn1 hn)).uniq h⟩, fun h => by have := hW.l d h.1; rwa [h.2] at this⟩
theorem WD.len {d : List Nat} (hd : IsD n d) : (W d).2.length = (W d).1 := (hW.w d hd).1
theorem WD.unit (hn1 : 1 ≤ n) (hn : n ≤ 8) : W (un n) = (0, []) := by
  have h1 : (W (un n)).1 = 0 := ((hW.lev_iff hn1 hn (L := 0) (d := un n)).1 (lev_0.2 rfl)).2
  have h2 := hW.len (un_D hn1 hn)
  rw [h1] at h2
  exact Prod.ext h1 (List.length_eq_zero_iff.1 h2)
/-- What the reference finds. -/
theorem WD.tree {d : List Nat} (hD : IsD n d) {I : Nat} (hI : EndG n n d I) : d ∈ (gO n I).ms ∧ wdG (gO n I) d = (W d).2 ∧ (gO n I).wy.getD (ix d (gO n I).ms) 0 = cnt n (W d).1 d := by
  obtain ⟨h1, L, h2, h3, h4⟩ := tree_of hD hI
  obtain rfl := (hW.l d hD).uniq h2
  exact ⟨h1, h3.uniq (hW.w d hD), h4⟩
end
def pE (n i : Nat) (d : List Nat) : List Nat := (oL n (gen n i) d n).1
def pL (n i : Nat) (d : List Nat) : Nat := lpN n (gen n i) d
def nS (n : Nat) (ks : List (List Nat)) (i : Nat) (d : List Nat) (es : List (List Nat)) : List (List Nat) :=
  if pL n i d = 0 ∧ pE n i d ∉ ks ∧ pE n i d ∉ es then es ++ [pE n i d] else es
def nJ (n : Nat) (ks l : List (List Nat)) (i : Nat) (es : List (List Nat)) : Nat → List (List Nat)
  | 0 => es
  | j + 1 => nS n ks i (l.getD j []) (nJ n ks l i es j)
def nO (n : Nat) (ks l : List (List Nat)) : Nat → List (List Nat)
  | 0 => []
  | i + 1 => nJ n ks l i (nO n ks l i) l.length
def kO (n : Nat) : Nat → List (List Nat) × List (List Nat)
  | 0 => ([un n], [un n])
  | L + 1 => ((kO n L).1 ++ nO n (kO n L).1 (kO n L).2 (n - 1), nO n (kO n L).1 (kO n L).2 (n - 1))
/-- What is found up to a level. -/
structure KI (n : Nat) (W : List Nat → Nat × List Nat) (L : Nat) (ks l : List (List Nat)) : Prop where
  nd : ks.Nodup
  mem : ∀ d, d ∈ ks ↔ IsD n d ∧ (W d).1 ≤ L
  lnd : l.Nodup
  lmem : ∀ d, d ∈ l ↔ IsD n d ∧ (W d).1 = L
def mc (n : Nat) (W : List Nat → Nat × List Nat) (d : List Nat) : Nat := cnt n (W d).1 d
def prL (n : Nat) (W : List Nat → Nat × List Nat) (e : List Nat) (i : Nat) (d : List Nat) : Nat := if pE n i d = e ∧ pL n i d = 0 then mc n W d else 0
/-- What is found of the next level. -/
structure NI (n : Nat) (W : List Nat → Nat × List Nat) (ks l : List (List Nat)) (i j : Nat) (es : List (List Nat)) (w : List Nat → List Nat) (c : List Nat → Nat) : Prop where
  nd : es.Nodup
  dis : ∀ e ∈ es, e ∉ ks
  D : ∀ e ∈ es, IsD n e
  done : ∀ i' j', (i' < i ∨ (i' = i ∧ j' < j)) → j' < l.length → pL n i' (l.getD j' []) = 0 → pE n i' (l.getD j' []) ∉ ks → pE n i' (l.getD j' []) ∈ es
  wex : ∀ e ∈ es, ∃ i' j', (i' < i ∨ (i' = i ∧ j' < j)) ∧ j' < l.length ∧ i' + 1 < n ∧ pL n i' (l.getD j' []) = 0 ∧ pE n i' (l.getD j' []) = e ∧ w e = i' :: (W (l.getD j' [])).2
  wmin : ∀ e ∈ es, ∀ i' j', (i' < i ∨ (i' = i ∧ j' < j)) → j' < l.length → pL n i' (l.getD j' []) = 0 → pE n i' (l.getD j' []) = e → lle (w e) (i' :: (W (l.getD j' [])).2)
  cn : ∀ e ∈ es, c e = ((List.range i).map fun i' => (l.map fun d => prL n W e i' d).sum).sum + ((List.range j).map fun j' => prL n W e i (l.getD j' [])).sum
theorem NI.start {n : Nat} {W : List Nat → Nat × List Nat} {ks l : List (List Nat)} {w : List Nat → List Nat} {c : List Nat → Nat} : NI n W ks l 0 0 [] w c :=
  ⟨List.nodup_nil, fun e h => by simp at h, fun e h => by simp at h, fun i' j' h => by omega, fun e h => by simp at h, fun e h => by simp at h, fun e h => by simp at h⟩
theorem proc_c {i j i' j' : Nat} (h : i' < i ∨ (i' = i ∧ j' < j + 1)) : (i' < i ∨ (i' = i ∧ j' < j)) ∨ (i' = i ∧ j' = j) := by omega
section
variable {n : Nat} {W : List Nat → Nat × List Nat} {ks l : List (List Nat)} {i j : Nat} {es : List (List Nat)} {w : List Nat → List Nat} {c : List Nat → Nat}
/-- A product with a loop, or an old one. -/
theorem NI.skip (h : NI n W ks l i j es w c) (hs : pL n i (l.getD j []) ≠ 0 ∨ pE n i (l.getD j []) ∈ ks) : NI n W ks l i (j + 1) es w c := by
  refine ⟨h.nd, h.dis, h.D, fun i' j' hp h1 h2 h3 => ?_, fun e he => ?_, fun e he i' j' hp h1 h2 h3 => ?_, fun e he => ?_⟩
  · rcases proc_c hp with hp | ⟨rfl, rfl⟩
    · exact h.done i' j' hp h1 h2 h3
    · rcases hs with hs | hs
      · exact absurd h2 hs
      · exact absurd hs h3
  · obtain ⟨i', j', hp, r⟩ := h.wex e he
    exact ⟨i', j', by omega, r⟩
  · rcases proc_c hp with hp | ⟨rfl, rfl⟩
    · exact h.wmin e he i' j' hp h1 h2 h3
    · rcases hs with hs | hs
      · exact absurd h2 hs
      · exact absurd (h3 ▸ hs) (h.dis e he)
  · rw [h.cn e he, sum_last]
    have : prL n W e i (l.getD j []) = 0 := if_neg fun hc => by
      rcases hs with hs | hs
      · exact hs hc.2
      · exact h.dis e he (hc.1 ▸ hs)
    omega
/-- One that is met again. -/
theorem NI.again (h : NI n W ks l i j es w c) (hi : i + 1 < n) (hj : j < l.length) (hl : pL n i (l.getD j []) = 0) (he : pE n i (l.getD j []) ∈ es) {w' : List Nat}
    (hw : (w' = i :: (W (l.getD j [])).2 ∧ lle w' (w (pE n i (l.getD j [])))) ∨ (w' = w (pE n i (l.getD j [])) ∧ lle w' (i :: (W (l.getD j [])).2))) :
    NI n W ks l i (j + 1) es (upF w (pE n i (l.getD j [])) w') (upF c (pE n i (l.getD j [])) (c (pE n i (l.getD j [])) + mc n W (l.getD j []))) := by
  obtain ⟨d, hd⟩ : ∃ d, d = l.getD j [] := ⟨_, rfl⟩
  obtain ⟨x, hx⟩ : ∃ x, x = pE n i (l.getD j []) := ⟨_, rfl⟩
  have hle1 : lle w' (i :: (W (l.getD j [])).2) := by
    rcases hw with ⟨rfl, _⟩ | ⟨_, h⟩
    · exact lle_refl _
    · exact h
  have hle2 : lle w' (w (pE n i (l.getD j []))) := by
    rcases hw with ⟨_, h⟩ | ⟨rfl, _⟩
    · exact h
    · exact lle_refl _
  refine ⟨h.nd, h.dis, h.D, fun i' j' hp h1 h2 h3 => ?_, fun e he' => ?_, fun e he' i' j' hp h1 h2 h3 => ?_, fun e he' => ?_⟩
  · rcases proc_c hp with hp | ⟨rfl, rfl⟩
    · exact h.done i' j' hp h1 h2 h3
    · exact he
  · by_cases e0 : e = pE n i (l.getD j [])
    · subst e0
      rw [upF_eq]
      rcases hw with ⟨h1, _⟩ | ⟨h1, _⟩
      · exact ⟨i, j, .inr ⟨rfl, by omega⟩, hj, hi, hl, rfl, h1⟩
      · obtain ⟨i', j', hp, r⟩ := h.wex _ he
        rw [h1]
        exact ⟨i', j', by omega, r⟩
    · rw [upF_ne e0]
      obtain ⟨i', j', hp, r⟩ := h.wex e he'
      exact ⟨i', j', by omega, r⟩
  · by_cases e0 : e = pE n i (l.getD j [])
    · rw [e0, upF_eq]
      rcases proc_c hp with hp | ⟨rfl, rfl⟩
      · exact lle_trans hle2 (h.wmin _ he i' j' hp h1 h2 (h3.trans e0))
      · exact hle1
    · rw [upF_ne e0]
      rcases proc_c hp with hp | ⟨rfl, rfl⟩
      · exact h.wmin e he' i' j' hp h1 h2 h3
      · exact absurd h3.symm e0
  · by_cases e0 : e = pE n i (l.getD j [])
    · rw [e0, upF_eq, h.cn _ he, sum_last]
      have : prL n W (pE n i (l.getD j [])) i (l.getD j []) = mc n W (l.getD j []) := if_pos ⟨rfl, hl⟩
      omega
    · rw [upF_ne e0, h.cn e he', sum_last]
      have : prL n W e i (l.getD j []) = 0 := if_neg fun hc => e0 hc.1.symm
      omega
/-- One that is met first. -/
theorem NI.new (h : NI n W ks l i j es w c) (hi : i + 1 < n) (hj : j < l.length) (hl : pL n i (l.getD j []) = 0) (hk : pE n i (l.getD j []) ∉ ks) (he : pE n i (l.getD j []) ∉ es) (hD : IsD n (pE n i (l.getD j []))) :
    NI n W ks l i (j + 1) (es ++ [pE n i (l.getD j [])]) (upF w (pE n i (l.getD j [])) (i :: (W (l.getD j [])).2)) (upF c (pE n i (l.getD j [])) (mc n W (l.getD j []))) := by
  have hm : ∀ e, e ∈ es ++ [pE n i (l.getD j [])] → (e ∈ es ∧ e ≠ pE n i (l.getD j [])) ∨ e = pE n i (l.getD j []) := fun e h1 => by
    rcases List.mem_append.1 h1 with h1 | h1
    · exact .inl ⟨h1, fun e0 => he (e0 ▸ h1)⟩
    · exact .inr (List.mem_singleton.1 h1)
  have hno : ∀ i' j', (i' < i ∨ (i' = i ∧ j' < j)) → j' < l.length → pL n i' (l.getD j' []) = 0 → pE n i' (l.getD j' []) ≠ pE n i (l.getD j []) := fun i' j' hp h1 h2 h3 => he (h3 ▸ h.done i' j' hp h1 h2 (h3 ▸ hk))
  refine ⟨?_, fun e he' => ?_, fun e he' => ?_, fun i' j' hp h1 h2 h3 => ?_, fun e he' => ?_, fun e he' i' j' hp h1 h2 h3 => ?_, fun e he' => ?_⟩
  · rw [List.nodup_append]
    refine ⟨h.nd, by simp, fun a ha b hb e => ?_⟩
    simp at hb; subst hb; subst e; exact he ha
  · rcases hm e he' with ⟨h1, _⟩ | rfl
    · exact h.dis e h1
    · exact hk
  · rcases hm e he' with ⟨h1, _⟩ | rfl
    · exact h.D e h1
    · exact hD
  · rcases proc_c hp with hp | ⟨rfl, rfl⟩
    · exact List.mem_append_left _ (h.done i' j' hp h1 h2 h3)
    · exact List.mem_append_right _ (List.mem_singleton.2 rfl)
  · rcases hm e he' with ⟨h1, h2⟩ | rfl
    · rw [upF_ne h2]
      obtain ⟨i', j', hp, r⟩ := h.wex e h1
      exact ⟨i', j', by omega, r⟩
    · rw [upF_eq]
      exact ⟨i, j, .inr ⟨rfl, by omega⟩, hj, hi, hl, rfl, rfl⟩
  · rcases hm e he' with ⟨g1, g2⟩ | rfl
    · rw [upF_ne g2]
      rcases proc_c hp with hp | ⟨rfl, rfl⟩
      · exact h.wmin e g1 i' j' hp h1 h2 h3
      · exact absurd h3.symm g2
    · rw [upF_eq]
      rcases proc_c hp with hp | ⟨rfl, rfl⟩
      · exact absurd h3 (hno i' j' hp h1 h2)
      · exact lle_refl _
  · rcases hm e he' with ⟨g1, g2⟩ | rfl
    · rw [upF_ne g2, h.cn e g1, sum_last]
      have : prL n W e i (l.getD j []) = 0 := if_neg fun hc => g2 hc.1.symm
      omega
    · rw [upF_eq, sum_last]
      have h1 : prL n W (pE n i (l.getD j [])) i (l.getD j []) = mc n W (l.getD j []) := if_pos ⟨rfl, hl⟩
      have h2 : ((List.range i).map fun i' => (l.map fun d => prL n W (pE n i (l.getD j [])) i' d).sum).sum = 0 := sum_none2 fun i' hi' => sum_none fun d hd => by
        obtain ⟨j', hj', rfl⟩ := List.getElem_of_mem hd
        have e1 : l.getD j' [] = l[j'] := by rw [List.getD_eq_getElem?_getD, List.getElem?_eq_getElem hj']; rfl
        rw [← e1]
        exact if_neg fun hc => hno i' j' (.inl hi') hj' hc.2 hc.1
      have h3 : ((List.range j).map fun j' => prL n W (pE n i (l.getD j [])) i (l.getD j' [])).sum = 0 := sum_none2 fun j' hj' => if_neg fun hc => hno i j' (.inr ⟨rfl, hj'⟩) (by omega) hc.2 hc.1
      omega
theorem sum_getD {f : List Nat → Nat} : ∀ {l : List (List Nat)}, ((List.range l.length).map fun j => f (l.getD j [])).sum = (l.map f).sum
  | [] => rfl
  | x :: l => by
    rw [List.length_cons, List.range_succ_eq_map, List.map_cons, List.sum_cons, List.map_map, List.map_cons, List.sum_cons, ← sum_getD (l := l)]
    rfl
/-- The next generator. -/
theorem NI.row (h : NI n W ks l i l.length es w c) : NI n W ks l (i + 1) 0 es w c := by
  refine ⟨h.nd, h.dis, h.D, fun i' j' hp h1 h2 h3 => h.done i' j' (by omega) h1 h2 h3, fun e he => ?_, fun e he i' j' hp h1 h2 h3 => h.wmin e he i' j' (by omega) h1 h2 h3, fun e he => ?_⟩
  · obtain ⟨i', j', hp, r⟩ := h.wex e he
    exact ⟨i', j', by omega, r⟩
  · rw [h.cn e he, sum_last, sum_getD (f := fun d => prL n W e i d)]; rfl
theorem KI.lev (hW : WD n W) (hn1 : 1 ≤ n) (hn : n ≤ 8) {L : Nat} (h : KI n W L ks l) (d : List Nat) : d ∈ l ↔ lev n L d := by
  rw [h.lmem, hW.lev_iff hn1 hn]
/-- The next level. -/
theorem NI.fin (h : NI n W ks l (n - 1) 0 es w c) (hW : WD n W) (hn1 : 1 ≤ n) (hn : n ≤ 8) {L : Nat} (hK : KI n W L ks l) :
    (∀ e ∈ es, w e = (W e).2 ∧ c e = mc n W e) ∧ KI n W (L + 1) (ks ++ es) es := by
  have hl := hK.lev hW hn1 hn
  have hat : ∀ {j}, j < l.length → l.getD j [] ∈ l := fun hj => getD_mem hj
  have hnk : ∀ {e}, IsD n e → e ∉ ks → L < (W e).1 := fun hD hk => Nat.lt_of_not_le fun h1 => hk ((hK.mem _).2 ⟨hD, h1⟩)
  have hmem : ∀ e, e ∈ es ↔ IsD n e ∧ (W e).1 = L + 1 := fun e => by
    constructor
    · intro he
      have hD := h.D e he
      refine ⟨hD, ?_⟩
      have h1 := hnk hD (h.dis e he)
      obtain ⟨i', j', hp, hj, hi', h2, h3, _⟩ := h.wex e he
      have h4 := (hl _).1 (hat hj)
      obtain ⟨u, hu, hul⟩ := h4.1
      have h5 : has n (L + 1) e := ⟨i' :: u, by simp [hu], LF.cons_iff.2 ⟨hi', _, hul, h3, h2⟩⟩
      obtain ⟨K, h6, h7⟩ := h5.lev
      have h8 := (hW.l e hD).uniq h7
      omega
    · rintro ⟨hD, he⟩
      have h1 := hW.w e hD
      rw [he] at h1
      obtain ⟨h2, h3, _⟩ := h1
      have hle := (hW.l e hD)
      rw [he] at hle
      cases hw : (W e).2 with
      | nil => rw [hw] at h2; simp at h2
      | cons i' u =>
        rw [hw] at h2 h3
        obtain ⟨k1, d, k2, k3, k4⟩ := LF.cons_iff.1 h3
        have hu : u.length = L := by simpa using h2
        have hd : d ∈ l := (hl d).2 ⟨⟨u, hu, k2⟩, fun K hK ⟨v, hv, hvd⟩ => hle.2 (K + 1) (by omega) ⟨i' :: v, by simp [hv], LF.cons_iff.2 ⟨k1, d, hvd, k3, k4⟩⟩⟩
        obtain ⟨j', hj', rfl⟩ := List.getElem_of_mem hd
        have e1 : l.getD j' [] = l[j'] := by rw [List.getD_eq_getElem?_getD, List.getElem?_eq_getElem hj']; rfl
        have h4 := h.done i' j' (by omega) hj' (by rw [e1]; exact k4) (by
          rw [e1]
          intro h5
          have h6 := ((hK.mem _).1 h5).2
          rw [show pE n i' l[j'] = e from k3] at h6
          omega)
        rw [e1, show pE n i' l[j'] = e from k3] at h4
        exact h4
  refine ⟨fun e he => ?_, ?_, fun d => ?_, h.nd, hmem⟩
  · have hD := h.D e he
    have hL := ((hmem e).1 he).2
    have hle := hW.l e hD
    rw [hL] at hle
    have hno : ∀ K, K ≤ L → ¬ has n K e := fun K hK => hle.2 K (by omega)
    constructor
    · refine lst.uniq (least_left hn1 hn hl hno (lw := fun d => (W d).2) (fun d hd => ?_) (W := w e) ?_ ?_) (hL ▸ hW.w e hD)
      · have h1 := (hK.lmem d).1 hd
        exact h1.2 ▸ hW.w d h1.1
      · obtain ⟨i', j', hp, hj, hi', h2, h3, h4⟩ := h.wex e he
        exact ⟨i', _, hat hj, hi', h3, h2, h4⟩
      · intro i' d hd hi' h1 h2
        obtain ⟨j', hj', rfl⟩ := List.getElem_of_mem hd
        have e1 : l.getD j' [] = l[j'] := by rw [List.getD_eq_getElem?_getD, List.getElem?_eq_getElem hj']; rfl
        have := h.wmin e he i' j' (by omega) hj' (by rw [e1]; exact h2) (by rw [e1]; exact h1)
        rwa [e1] at this
    · rw [h.cn e he]
      unfold mc
      rw [hL, cnt_left hn1 hn hK.lnd hl hno]
      show _ + 0 = _
      refine sum_congr fun i' _ => sum_congr fun d hd => ?_
      have h1 := (hK.lmem d).1 hd
      unfold prL mc
      rw [h1.2]; rfl
  · rw [List.nodup_append]
    exact ⟨hK.nd, h.nd, fun a ha b hb e => h.dis b hb (e ▸ ha)⟩
  · rw [List.mem_append, hK.mem, hmem]
    constructor
    · rintro (⟨h1, h2⟩ | ⟨h1, h2⟩)
      · exact ⟨h1, by omega⟩
      · exact ⟨h1, by omega⟩
    · rintro ⟨h1, h2⟩
      by_cases h3 : (W d).1 ≤ L
      · exact .inl ⟨h1, h3⟩
      · exact .inr ⟨h1, by omega⟩
theorem KI.start (hW : WD n W) (hn1 : 1 ≤ n) (hn : n ≤ 8) : KI n W 0 [un n] [un n] := by
  have h1 : ∀ d, d ∈ [un n] ↔ IsD n d ∧ (W d).1 = 0 := fun d => by
    rw [← hW.lev_iff hn1 hn, lev_0, List.mem_singleton]
  exact ⟨by simp, fun d => by rw [h1]; exact ⟨fun h => ⟨h.1, by omega⟩, fun h => ⟨h.1, by omega⟩⟩, by simp, h1⟩
end
end Go.Proofs.Ytgpgcdofhkpeaaa.VE
namespace Go.Proofs.Ytgpgcdofhkpeaaa.VE
open Go
set_option maxHeartbeats 1600000
set_option maxRecDepth 100000

/-! words compared -/
def cmI (x y : Int) : Int := if x < y then -1 else if y < x then 1 else 0
theorem s_nan (x : Int) : Spec Try.prog n_g_isNaN_int64 [vi x] [] (vb false) [] := by
  refine SpecW.of_EV hf_g_isNaN_int64 hc_g_isNaN_int64 rfl rfl rfl fun w0 B ρ0 _ => ?_
  obtain ⟨b, hb⟩ : ∃ b : Bool, (x != x) = b := ⟨_, rfl⟩
  have hb2 : b = false := by rw [← hb]; simp
  subst hb2
  (repeat' (first | refine Exists.intro _ (And.intro hb ?_) | refine And.intro (neI rfl) ?_ | refine And.intro ⟨rfl, leR rfl, onesR rfl⟩ ?_ | refine And.intro ⟨rfl, leR rfl⟩ ?_ | refine draw_rule2 hfol (fun KK hKK => ?_) | refine hKK _ _ _ (by kernel_rfl) ?_ | refine region_rule (fun KK hKK => ?_) | refine hKK _ _ ?_ | refine And.intro (Eq.refl true) ?_ | refine Exists.intro _ (And.intro (wI (by omega)) ?_) | refine Exists.intro _ (And.intro (wU (by omega)) ?_) | refine Exists.intro _ (And.intro ⟨rfl, by omega⟩ ?_) | refine Exists.intro _ (And.intro rfl ?_) | refine And.intro rfl ?_ | refine And.intro ⟨rfl, rfl⟩ ?_ | ((refine And.intro (fun _ => ?_) (fun _ => ?_)) <;> try (exfalso; omega))))
  exact Exists.intro [] (And.intro (rfl) (And.intro trivial rfl))
theorem s_cmI (x y : Int) : Spec Try.prog n_g_Compare_int64_155 [vi x, vi y] [] (vi (cmI x y)) [] := by
  have h1 := s_nan x
  have h2 := s_nan y
  unfold cmI
  refine SpecW.of_EV hf_g_Compare_int64_155 hc_g_Compare_int64_155 rfl rfl rfl fun w0 B ρ0 _ => ?_
  by_cases c1 : x < y
  · rw [if_pos c1]
    (repeat' (first | refine (h1).pure rfl ?_ | refine (h2).pure rfl ?_ | refine And.intro (neI rfl) ?_ | refine And.intro ⟨rfl, leR rfl, onesR rfl⟩ ?_ | refine And.intro ⟨rfl, leR rfl⟩ ?_ | refine draw_rule2 hfol (fun KK hKK => ?_) | refine hKK _ _ _ (by kernel_rfl) ?_ | refine region_rule (fun KK hKK => ?_) | refine hKK _ _ ?_ | refine And.intro (Eq.refl true) ?_ | refine Exists.intro _ (And.intro (wI (by omega)) ?_) | refine Exists.intro _ (And.intro (wU (by omega)) ?_) | refine Exists.intro _ (And.intro ⟨rfl, by omega⟩ ?_) | refine Exists.intro _ (And.intro rfl ?_) | refine And.intro rfl ?_ | refine And.intro ⟨rfl, rfl⟩ ?_ | ((refine And.intro (fun _ => ?_) (fun _ => ?_)) <;> try (exfalso; omega))))
    exact Exists.intro [] (And.intro (rfl) (And.intro trivial rfl))
  · rw [if_neg c1]
    by_cases c2 : y < x
    · rw [if_pos c2]
      (repeat' (first | refine (h1).pure rfl ?_ | refine (h2).pure rfl ?_ | refine And.intro (neI rfl) ?_ | refine And.intro ⟨rfl, leR rfl, onesR rfl⟩ ?_ | refine And.intro ⟨rfl, leR rfl⟩ ?_ | refine draw_rule2 hfol (fun KK hKK => ?_) | refine hKK _ _ _ (by kernel_rfl) ?_ | refine region_rule (fun KK hKK => ?_) | refine hKK _ _ ?_ | refine And.intro (Eq.refl true) ?_ | refine Exists.intro _ (And.intro (wI (by omega)) ?_) | refine Exists.intro _ (And.intro (wU (by omega)) ?_) | refine Exists.intro _ (And.intro ⟨rfl, by omega⟩ ?_) | refine Exists.intro _ (And.intro rfl ?_) | refine And.intro rfl ?_ | refine And.intro ⟨rfl, rfl⟩ ?_ | ((refine And.intro (fun _ => ?_) (fun _ => ?_)) <;> try (exfalso; omega))))
      exact Exists.intro [] (And.intro (rfl) (And.intro trivial rfl))
    · rw [if_neg c2]
      (repeat' (first | refine (h1).pure rfl ?_ | refine (h2).pure rfl ?_ | refine And.intro (neI rfl) ?_ | refine And.intro ⟨rfl, leR rfl, onesR rfl⟩ ?_ | refine And.intro ⟨rfl, leR rfl⟩ ?_ | refine draw_rule2 hfol (fun KK hKK => ?_) | refine hKK _ _ _ (by kernel_rfl) ?_ | refine region_rule (fun KK hKK => ?_) | refine hKK _ _ ?_ | refine And.intro (Eq.refl true) ?_ | refine Exists.intro _ (And.intro (wI (by omega)) ?_) | refine Exists.intro _ (And.intro (wU (by omega)) ?_) | refine Exists.intro _ (And.intro ⟨rfl, by omega⟩ ?_) | refine Exists.intro _ (And.intro rfl ?_) | refine And.intro rfl ?_ | refine And.intro ⟨rfl, rfl⟩ ?_ | ((refine And.intro (fun _ => ?_) (fun _ => ?_)) <;> try (exfalso; omega))))
      exact Exists.intro [] (And.intro (rfl) (And.intro trivial rfl))
def cmL : List Nat → List Nat → Int
  | [], [] => 0
  | [], _ :: _ => -1
  | _ :: _, [] => 1
  | x :: a, y :: b => if x < y then -1 else if y < x then 1 else cmL a b
theorem cmL_neg : ∀ {a b : List Nat}, a.length = b.length → (cmL a b < 0 ↔ ¬ lle b a)
  | [], [], _ => by simp [cmL, lle]
  | [], _ :: _, h => by simp at h
  | _ :: _, [], h => by simp at h
  | x :: a, y :: b, h => by
    have ih := cmL_neg (a := a) (b := b) (by simpa using h)
    simp only [cmL, lle]
    by_cases c1 : x < y
    · rw [if_pos c1]
      exact ⟨fun _ => by omega, fun _ => by omega⟩
    · rw [if_neg c1]
      by_cases c2 : y < x
      · rw [if_pos c2]
        exact ⟨fun h => by omega, fun h => absurd (.inl c2) h⟩
      · rw [if_neg c2, ih]
        obtain rfl : x = y := by omega
        exact ⟨fun h1 h2 => h2.elim (fun h3 => by omega) fun h3 => h1 h3.2, fun h1 h2 => h1 (.inr ⟨rfl, h2⟩)⟩
theorem drop_cons' {a : List Nat} {i : Nat} (h : i < a.length) : a.drop i = a.getD i 0 :: a.drop (i + 1) := by
  rw [List.drop_eq_getElem_cons h, List.getD_eq_getElem?_getD, List.getElem?_eq_getElem h]; rfl
theorem s_cmL (a b : List Nat) (ha : a.length ≤ 1000000) (hb : b.length ≤ 1000000) :
    Spec Try.prog n_g_Compare_int64 [.sl 0, .sl 1] [.pr T_int64 1 a.length (nl a), .pr T_int64 1 b.length (nl b)] (vi (cmL a b)) [.pr T_int64 1 a.length (nl a), .pr T_int64 1 b.length (nl b)] := by
  obtain ⟨R, hR⟩ : ∃ R, R = cmL a b := ⟨_, rfl⟩
  rw [← hR]
  refine SpecW.of_EV hf_g_Compare_int64 hc_g_Compare_int64 rfl rfl rfl fun w0 B ρ0 _ => ?_
  (repeat' (first | refine And.intro (neI rfl) ?_ | refine And.intro ⟨rfl, leR rfl, onesR rfl⟩ ?_ | refine And.intro ⟨rfl, leR rfl⟩ ?_ | refine draw_rule2 hfol (fun KK hKK => ?_) | refine hKK _ _ _ (by kernel_rfl) ?_ | refine region_rule (fun KK hKK => ?_) | refine hKK _ _ ?_ | refine And.intro (Eq.refl true) ?_ | refine Exists.intro _ (And.intro (wI (by omega)) ?_) | refine Exists.intro _ (And.intro (wU (by omega)) ?_) | refine Exists.intro _ (And.intro ⟨rfl, by omega⟩ ?_) | refine Exists.intro _ (And.intro rfl ?_) | refine And.intro rfl ?_ | refine And.intro ⟨rfl, rfl⟩ ?_ | ((refine And.intro (fun _ => ?_) (fun _ => ?_)) <;> try (exfalso; omega))))
  refine loop_rule (α := Nat) (fun i => i ≤ a.length ∧ i ≤ b.length ∧ cmL (a.drop i) (b.drop i) = R) (fun i => [(0, .sl 0), (1, .sl 1), (9, .sl 0), (10, vi a.length), (11, vi i)])
    (fun i => [.pr T_int64 1 a.length (nl a), .pr T_int64 1 b.length (nl b)]) (fun i => a.length - i) 0 [0, 1] ⟨by omega, by omega, hR.symm⟩ ⟨⟨rfl, rfl, rfl, rfl, rfl, trivial⟩, ⟨rfl, rfl, trivial⟩, rfl⟩ ?_
  rintro i g ⟨h1, h2, h3⟩
  by_cases e1 : i = a.length
  · subst e1
    rw [List.drop_length] at h3
    by_cases e2 : a.length = b.length
    · rw [e2, List.drop_length] at h3
      subst h3
      (repeat' (first | refine And.intro (neI rfl) ?_ | refine And.intro ⟨rfl, leR rfl, onesR rfl⟩ ?_ | refine And.intro ⟨rfl, leR rfl⟩ ?_ | refine draw_rule2 hfol (fun KK hKK => ?_) | refine hKK _ _ _ (by kernel_rfl) ?_ | refine region_rule (fun KK hKK => ?_) | refine hKK _ _ ?_ | refine And.intro (Eq.refl true) ?_ | refine Exists.intro _ (And.intro (wI (by omega)) ?_) | refine Exists.intro _ (And.intro (wU (by omega)) ?_) | refine Exists.intro _ (And.intro ⟨rfl, by omega⟩ ?_) | refine Exists.intro _ (And.intro rfl ?_) | refine And.intro rfl ?_ | refine And.intro ⟨rfl, rfl⟩ ?_ | ((refine And.intro (fun _ => ?_) (fun _ => ?_)) <;> try (exfalso; omega))))
      exact Exists.intro [0, 1] (And.intro (rfl) (And.intro ⟨rfl, rfl, trivial⟩ rfl))
    · rw [drop_cons' (by omega)] at h3
      subst h3
      (repeat' (first | refine And.intro (neI rfl) ?_ | refine And.intro ⟨rfl, leR rfl, onesR rfl⟩ ?_ | refine And.intro ⟨rfl, leR rfl⟩ ?_ | refine draw_rule2 hfol (fun KK hKK => ?_) | refine hKK _ _ _ (by kernel_rfl) ?_ | refine region_rule (fun KK hKK => ?_) | refine hKK _ _ ?_ | refine And.intro (Eq.refl true) ?_ | refine Exists.intro _ (And.intro (wI (by omega)) ?_) | refine Exists.intro _ (And.intro (wU (by omega)) ?_) | refine Exists.intro _ (And.intro ⟨rfl, by omega⟩ ?_) | refine Exists.intro _ (And.intro rfl ?_) | refine And.intro rfl ?_ | refine And.intro ⟨rfl, rfl⟩ ?_ | ((refine And.intro (fun _ => ?_) (fun _ => ?_)) <;> try (exfalso; omega))))
      exact Exists.intro [0, 1] (And.intro (rfl) (And.intro ⟨rfl, rfl, trivial⟩ rfl))
  · have hi : i < a.length := by omega
    rw [drop_cons' hi] at h3
    by_cases e2 : i = b.length
    · rw [e2, List.drop_length] at h3
      subst h3
      have a1 := nl_at hi
      (repeat' (first | refine Exists.intro _ (And.intro a1 ?_) | refine And.intro (neI rfl) ?_ | refine And.intro ⟨rfl, leR rfl, onesR rfl⟩ ?_ | refine And.intro ⟨rfl, leR rfl⟩ ?_ | refine draw_rule2 hfol (fun KK hKK => ?_) | refine hKK _ _ _ (by kernel_rfl) ?_ | refine region_rule (fun KK hKK => ?_) | refine hKK _ _ ?_ | refine And.intro (Eq.refl true) ?_ | refine Exists.intro _ (And.intro (wI (by omega)) ?_) | refine Exists.intro _ (And.intro (wU (by omega)) ?_) | refine Exists.intro _ (And.intro ⟨rfl, by omega⟩ ?_) | refine Exists.intro _ (And.intro rfl ?_) | refine And.intro rfl ?_ | refine And.intro ⟨rfl, rfl⟩ ?_ | ((refine And.intro (fun _ => ?_) (fun _ => ?_)) <;> try (exfalso; omega))))
      exact Exists.intro [0, 1] (And.intro (rfl) (And.intro ⟨rfl, rfl, trivial⟩ rfl))
    · have hib : i < b.length := by omega
      rw [drop_cons' hib] at h3
      have a1 := nl_at hi
      have a2 := nl_at hib
      have hc := s_cmI ((a.getD i 0 : Nat) : Int) ((b.getD i 0 : Nat) : Int)
      unfold cmI at hc
      rw [cmL] at h3
      by_cases c1 : a.getD i 0 < b.getD i 0
      · rw [if_pos c1] at h3
        rw [if_pos (by omega)] at hc
        subst h3
        (repeat' (first | refine Exists.intro _ (And.intro a1 ?_) | refine Exists.intro _ (And.intro a2 ?_) | refine (hc).pure rfl ?_ | refine And.intro (neI rfl) ?_ | refine And.intro ⟨rfl, leR rfl, onesR rfl⟩ ?_ | refine And.intro ⟨rfl, leR rfl⟩ ?_ | refine draw_rule2 hfol (fun KK hKK => ?_) | refine hKK _ _ _ (by kernel_rfl) ?_ | refine region_rule (fun KK hKK => ?_) | refine hKK _ _ ?_ | refine And.intro (Eq.refl true) ?_ | refine Exists.intro _ (And.intro (wI (by omega)) ?_) | refine Exists.intro _ (And.intro (wU (by omega)) ?_) | refine Exists.intro _ (And.intro ⟨rfl, by omega⟩ ?_) | refine Exists.intro _ (And.intro rfl ?_) | refine And.intro rfl ?_ | refine And.intro ⟨rfl, rfl⟩ ?_ | ((refine And.intro (fun _ => ?_) (fun _ => ?_)) <;> try (exfalso; omega))))
        exact Exists.intro [0, 1] (And.intro (rfl) (And.intro ⟨rfl, rfl, trivial⟩ rfl))
      · rw [if_neg c1] at h3
        rw [if_neg (by omega)] at hc
        by_cases c2 : b.getD i 0 < a.getD i 0
        · rw [if_pos c2] at h3
          rw [if_pos (by omega)] at hc
          subst h3
          (repeat' (first | refine Exists.intro _ (And.intro a1 ?_) | refine Exists.intro _ (And.intro a2 ?_) | refine (hc).pure rfl ?_ | refine And.intro (neI rfl) ?_ | refine And.intro ⟨rfl, leR rfl, onesR rfl⟩ ?_ | refine And.intro ⟨rfl, leR rfl⟩ ?_ | refine draw_rule2 hfol (fun KK hKK => ?_) | refine hKK _ _ _ (by kernel_rfl) ?_ | refine region_rule (fun KK hKK => ?_) | refine hKK _ _ ?_ | refine And.intro (Eq.refl true) ?_ | refine Exists.intro _ (And.intro (wI (by omega)) ?_) | refine Exists.intro _ (And.intro (wU (by omega)) ?_) | refine Exists.intro _ (And.intro ⟨rfl, by omega⟩ ?_) | refine Exists.intro _ (And.intro rfl ?_) | refine And.intro rfl ?_ | refine And.intro ⟨rfl, rfl⟩ ?_ | ((refine And.intro (fun _ => ?_) (fun _ => ?_)) <;> try (exfalso; omega))))
          exact Exists.intro [0, 1] (And.intro (rfl) (And.intro ⟨rfl, rfl, trivial⟩ rfl))
        · rw [if_neg c2] at h3
          rw [if_neg (by omega)] at hc
          (repeat' (first | refine Exists.intro _ (And.intro a1 ?_) | refine Exists.intro _ (And.intro a2 ?_) | refine (hc).pure rfl ?_ | refine And.intro (neI rfl) ?_ | refine And.intro ⟨rfl, leR rfl, onesR rfl⟩ ?_ | refine And.intro ⟨rfl, leR rfl⟩ ?_ | refine draw_rule2 hfol (fun KK hKK => ?_) | refine hKK _ _ _ (by kernel_rfl) ?_ | refine region_rule (fun KK hKK => ?_) | refine hKK _ _ ?_ | refine And.intro (Eq.refl true) ?_ | refine Exists.intro _ (And.intro (wI (by omega)) ?_) | refine Exists.intro _ (And.intro (wU (by omega)) ?_) | refine Exists.intro _ (And.intro ⟨rfl, by omega⟩ ?_) | refine Exists.intro _ (And.intro rfl ?_) | refine And.intro rfl ?_ | refine And.intro ⟨rfl, rfl⟩ ?_ | ((refine And.intro (fun _ => ?_) (fun _ => ?_)) <;> try (exfalso; omega))))
          exact Exists.intro (i + 1) (Exists.intro [0, 1] (And.intro ⟨⟨by omega, by omega, h3⟩, (by show a.length - (i + 1) < a.length - i; omega)⟩ ⟨⟨rfl, rfl, rfl, rfl, rfl, trivial⟩, ⟨rfl, rfl, trivial⟩, rfl⟩))
end Go.Proofs.Ytgpgcdofhkpeaaa.VE
namespace Go.Proofs.Ytgpgcdofhkpeaaa.VE
open Go
set_option maxHeartbeats 1600000
set_option maxRecDepth 100000

/-! plain: the search goes on from level to level, and ends -/
section
variable {n : Nat} {W : List Nat → Nat × List Nat} {ks l : List (List Nat)} {i j : Nat} {es : List (List Nat)} {w : List Nat → List Nat} {c : List Nat → Nat}
theorem NI.ex_step (h : NI n W ks l i j es w c) (hi : i + 1 < n) (hj : j < l.length) (hD : IsD n (l.getD j [])) : ∃ w' c', NI n W ks l i (j + 1) (nS n ks i (l.getD j []) es) w' c' := by
  unfold nS
  by_cases h1 : pL n i (l.getD j []) ≠ 0 ∨ pE n i (l.getD j []) ∈ ks
  · rw [if_neg (by rintro ⟨a, b, _⟩; rcases h1 with h1 | h1; exact h1 a; exact b h1)]
    exact ⟨w, c, h.skip h1⟩
  · have hl : pL n i (l.getD j []) = 0 := Classical.byContradiction fun a => h1 (.inl a)
    have hk : pE n i (l.getD j []) ∉ ks := fun a => h1 (.inr a)
    by_cases he : pE n i (l.getD j []) ∈ es
    · rw [if_neg (by rintro ⟨_, _, b⟩; exact b he)]
      rcases lle_total (x := i :: (W (l.getD j [])).2) (y := w (pE n i (l.getD j []))) with hle | hle
      · exact ⟨_, _, h.again hi hj hl he (.inl ⟨rfl, hle⟩)⟩
      · exact ⟨_, _, h.again hi hj hl he (.inr ⟨rfl, hle⟩)⟩
    · rw [if_pos ⟨hl, hk, he⟩]
      exact ⟨_, _, h.new hi hj hl hk he (gen_mul_D hD hi)⟩
theorem NI.ex_row (hl : ∀ d ∈ l, IsD n d) (h : NI n W ks l i 0 es w c) (hi : i + 1 < n) : ∀ {j : Nat}, j ≤ l.length → ∃ w' c', NI n W ks l i j (nJ n ks l i es j) w' c'
  | 0, _ => ⟨w, c, h⟩
  | j + 1, hj => by
    obtain ⟨w1, c1, h1⟩ := NI.ex_row hl h hi (j := j) (by omega)
    exact h1.ex_step hi (by omega) (hl _ (getD_mem (by omega)))
theorem NI.ex_all (hl : ∀ d ∈ l, IsD n d) : ∀ {i : Nat}, i + 1 ≤ n → ∃ w' c', NI n W ks l i 0 (nO n ks l i) w' c'
  | 0, _ => ⟨fun _ => [], fun _ => 0, NI.start⟩
  | i + 1, hi => by
    obtain ⟨w1, c1, h1⟩ := NI.ex_all hl (i := i) (by omega)
    obtain ⟨w2, c2, h2⟩ := h1.ex_row hl (by omega) (Nat.le_refl _)
    exact ⟨w2, c2, h2.row⟩
theorem KI.at (hW : WD n W) (hn1 : 1 ≤ n) (hn : n ≤ 8) : ∀ L, KI n W L (kO n L).1 (kO n L).2
  | 0 => KI.start hW hn1 hn
  | L + 1 => by
    have hK := KI.at hW hn1 hn L
    obtain ⟨w1, c1, h1⟩ := NI.ex_all (n := n) (W := W) (ks := (kO n L).1) (l := (kO n L).2) (fun d hd => ((hK.lmem d).1 hd).1) (i := n - 1) (by omega)
    exact (h1.fin hW hn1 hn hK).2
end
/-- Where the search ends. -/
structure EndS (n : Nat) (u : Option (List Nat)) (E : Nat) : Prop where
  go : ∀ L, L < E → (kO n L).2 ≠ [] ∧ ∀ d, u = some d → d ∉ (kO n L).1
  fin : (kO n E).2 = [] ∨ ∃ d, u = some d ∧ d ∈ (kO n E).1
theorem EndS.ex {n : Nat} {W : List Nat → Nat × List Nat} (hW : WD n W) (hn1 : 1 ≤ n) (hn : n ≤ 8) (u : Option (List Nat)) : ∃ E, EndS n u E := by
  refine Classical.byContradiction fun hno => ?_
  have key : ∀ L, ∀ K, K < L → (kO n K).2 ≠ [] ∧ ∀ d, u = some d → d ∉ (kO n K).1 := by
    intro L
    induction L with
    | zero => exact fun K hK => by omega
    | succ L ih =>
      have h : ¬ ((kO n L).2 = [] ∨ ∃ d, u = some d ∧ d ∈ (kO n L).1) := fun h => hno ⟨L, ih, h⟩
      intro K hK
      by_cases e : K = L
      · subst e
        exact ⟨fun h1 => h (.inl h1), fun d h1 h2 => h (.inr ⟨d, h1, h2⟩)⟩
      · exact ih K (by omega)
  have h1 := (key 65538 65537 (by omega)).1
  have hK := KI.at hW hn1 hn 65537
  cases hl : (kO n 65537).2 with
  | nil => exact h1 hl
  | cons d r =>
    have h2 := (hK.lmem d).1 (by rw [hl]; simp)
    have h3 := hW.b d h2.1
    omega
/-- All levels that come ahead of one are there. -/
theorem KI.down {n : Nat} {W : List Nat → Nat × List Nat} (hW : WD n W) (hn1 : 1 ≤ n) (hn : n ≤ 8) {d : List Nat} (hD : IsD n d) : ∀ {K}, K ≤ (W d).1 → ∃ e, IsD n e ∧ (W e).1 = K := by
  intro K hK
  obtain ⟨m, hm⟩ : ∃ m, (W d).1 = K + m := ⟨(W d).1 - K, by omega⟩
  clear hK
  induction m generalizing d with
  | zero => exact ⟨d, hD, hm⟩
  | succ m ih =>
    have h1 := hW.l d hD
    rw [hm, ← Nat.add_assoc] at h1
    obtain ⟨e, k, h2, _⟩ := h1.pred hn1 hn
    have h3 := (hW.lev_iff hn1 hn).1 h2
    exact ih h3.1 h3.2
/-- What is asked for is found. -/
theorem EndS.mem {n : Nat} {W : List Nat → Nat × List Nat} (hW : WD n W) (hn1 : 1 ≤ n) (hn : n ≤ 8) {u : Option (List Nat)} {E : Nat} (h : EndS n u E) (hu : ∀ d, u = some d → IsD n d) {d : List Nat} (hD : IsD n d) (hd : u = some d ∨ u = none) : d ∈ (kO n E).1 := by
  have hK := KI.at hW hn1 hn E
  rcases h.fin with h1 | ⟨e, h1, h2⟩
  · refine (hK.mem d).2 ⟨hD, Nat.le_of_not_lt fun h3 => ?_⟩
    obtain ⟨e, he, he2⟩ := KI.down hW hn1 hn hD (K := E) (by omega)
    have := (hK.lmem e).2 ⟨he, he2⟩
    rw [h1] at this
    simp at this
  · rcases hd with hd | hd
    · rw [hd] at h1; injection h1 with h1; subst h1; exact h2
    · rw [hd] at h1; cases h1
end Go.Proofs.Ytgpgcdofhkpeaaa.VE
