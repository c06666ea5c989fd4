/- Contracts of functions of the given program, for all arguments that the contract names; see each theorem. -/
import Derived.Test.YtgpgcdofhkpeaaaFA
import Derived.Test.YtgpgcdofhkpeaaaK3
import Derived.Test.YtgpgcdofhkpeaaaU12a
import Derived.Test.YtgpgcdofhkpeaaaU11e
set_option linter.all false
namespace Go.Proofs.Ytgpgcdofhkpeaaa.VE
open Go
set_option maxHeartbeats 1600000
set_option maxRecDepth 100000

/-! plain: diagrams whose points are told by other numbers -/
/-- On a circle: one place on. -/
theorem Planar.rot {N : Nat} {q r : Nat → Nat} (h : Planar N q) (hr : ∀ j, j < N → r ((j + 1) % N) = (q j + 1) % N) : Planar N r := by
  have hs : ∀ j, j < N → (j + 1) % N = if j + 1 = N then 0 else j + 1 := fun j hj => by
    split
    · rename_i e; rw [e]; exact Nat.mod_self _
    · exact Nat.mod_eq_of_lt (by omega)
  have hb : ∀ j, j < N → ∃ j', j' < N ∧ j = (j' + 1) % N := fun j hj => by
    cases j with
    | zero => exact ⟨N - 1, by omega, by rw [hs _ (by omega), if_pos (by omega)]⟩
    | succ j => exact ⟨j, by omega, by rw [hs _ (by omega), if_neg (by omega)]⟩
  constructor
  · intro j hj
    obtain ⟨j', hj', rfl⟩ := hb j hj
    obtain ⟨h1, h2, h3⟩ := h.1 j' hj'
    rw [hr j' hj']
    refine ⟨Nat.mod_lt _ (by omega), ?_, ?_⟩
    · rw [hs _ h1, hs _ hj']
      split <;> split <;> omega
    · rw [hr _ h1, h3]
  · intro j c hj h1 h2 h3
    have hrl : ∀ x, x < N → r x < N := fun x hx => by
      obtain ⟨x', hx', rfl⟩ := hb x hx
      rw [hr x' hx']; exact Nat.mod_lt _ (by omega)
    have hc : c < N := by have := hrl j hj; omega
    obtain ⟨j', hj', rfl⟩ := hb j hj
    obtain ⟨c', hc', rfl⟩ := hb c hc
    have b1 := (h.1 j' hj').1
    have b2 := (h.1 c' hc').1
    rw [hr j' hj'] at h1 h3 ⊢
    rw [hr c' hc']
    rw [hs j' hj', hs _ b1] at h1
    rw [hs j' hj', hs c' hc'] at h2
    rw [hs c' hc', hs _ b1] at h3
    rw [hs j' hj', hs _ b1, hs _ b2]
    by_cases e1 : j' + 1 = N
    · rw [if_pos e1] at h1 h2 ⊢
      by_cases e2 : q j' + 1 = N
      · rw [if_pos e2] at h1; omega
      · rw [if_neg e2] at h1 h3 ⊢
        by_cases e3 : c' + 1 = N
        · rw [if_pos e3] at h2; omega
        · rw [if_neg e3] at h2 h3
          have hq := (h.1 j' hj').2.2
          have := h.out (j := q j') (c := c') b1 hc' (by rw [hq]; omega) (.inl (by omega))
          rw [hq] at this
          rw [if_neg (by omega)]
          omega
    · rw [if_neg e1] at h1 h2 ⊢
      by_cases e2 : q j' + 1 = N
      · rw [if_pos e2] at h1; omega
      · rw [if_neg e2] at h1 h3 ⊢
        by_cases e3 : c' + 1 = N
        · rw [if_pos e3] at h2; omega
        · rw [if_neg e3] at h2 h3
          have := h.2 j' c' hj' (by omega) (by omega) (by omega)
          rw [if_neg (by omega)]
          omega
/-- The other way round. -/
theorem Planar.rev {N : Nat} {q r : Nat → Nat} (h : Planar N q) (hr : ∀ j, j < N → r j = N - 1 - q (N - 1 - j)) : Planar N r := by
  constructor
  · intro j hj
    obtain ⟨h1, h2, h3⟩ := h.1 (N - 1 - j) (by omega)
    rw [hr j hj]
    refine ⟨by omega, by omega, ?_⟩
    rw [hr _ (by omega), show N - 1 - (N - 1 - q (N - 1 - j)) = q (N - 1 - j) by omega, h3]; omega
  · intro j c hj h1 h2 h3
    obtain ⟨g1, g2, g3⟩ := h.1 (N - 1 - j) (by omega)
    rw [hr j hj] at h1 h3 ⊢
    obtain ⟨k1, k2, k3⟩ := h.1 (N - 1 - c) (by omega)
    rw [hr c (by omega)]
    have := h.2 (q (N - 1 - j)) (N - 1 - c) g1 (by omega) (by omega) (by omega)
    omega
/-- A diagram whose points get other numbers. -/
def rl (n : Nat) (G : Nat → Nat) (m : List Nat) : List Nat := wr G (fun i => G (m.getD i 0)) (2 * n)
theorem rl_len {n : Nat} {G : Nat → Nat} {m : List Nat} : (rl n G m).length = 16 := wr_len
/-- Numbers for numbers. -/
structure Bij (N : Nat) (G : Nat → Nat) : Prop where
  lt : ∀ i, i < N → G i < N
  inj : ∀ i j, i < N → j < N → G i = G j → i = j
theorem Bij.sur {N : Nat} {G : Nat → Nat} (h : Bij N G) {y : Nat} (hy : y < N) : ∃ x, x < N ∧ G x = y := inj_surj N G h.lt h.inj y hy
section
variable {n : Nat} {G : Nat → Nat} {m : List Nat} (hn : n ≤ 8) (hG : Bij (2 * n) G)
include hn hG
theorem rl_at {i : Nat} (hi : i < 2 * n) : (rl n G m).getD (G i) 0 = G (m.getD i 0) :=
  wr_at (fun j hj => by have := hG.lt j hj; omega) (fun i j h1 h2 => hG.inj i j h1 h2) i hi
theorem rl_out {x : Nat} (hx : 2 * n ≤ x) : (rl n G m).getD x 0 = 0 :=
  wr_out (fun j hj => by have := hG.lt j hj; omega) x fun j hj => by have := hG.lt j hj; omega
theorem rl_V (hm : IsV n m) : IsV n (rl n G m) := by
  refine ⟨hm.n1, hm.n8, rl_len, fun j hj => ?_, fun j hj => ?_, fun j hj => ?_, fun j hj => rl_out hn hG hj⟩
  · obtain ⟨i, hi, rfl⟩ := hG.sur hj
    rw [rl_at hn hG hi]; exact hG.lt _ (hm.lt i hi)
  · obtain ⟨i, hi, rfl⟩ := hG.sur hj
    rw [rl_at hn hG hi]
    exact fun e => hm.ne i hi (hG.inj _ _ (hm.lt i hi) hi e)
  · obtain ⟨i, hi, rfl⟩ := hG.sur hj
    rw [rl_at hn hG hi, rl_at hn hG (hm.lt i hi), hm.inv i hi]
/-- Told by what is at each point. -/
theorem rl_ext (hm : IsV n m) {a : List Nat} (ha : IsV n a) (h : ∀ i, i < 2 * n → a.getD (G i) 0 = G (m.getD i 0)) : a = rl n G m := by
  have hr := rl_V hn hG hm
  refine V_ext ha.len hr.len ha.zero hr.zero fun j hj => ?_
  obtain ⟨i, hi, rfl⟩ := hG.sur hj
  rw [h i hi, rl_at hn hG hi]
end
theorem gF_eq {n i : Nat} (hi : i < 2 * n) : gF n i = if i < n then i + n else i - n := by
  unfold gF
  split
  · exact Nat.mod_eq_of_lt (by omega)
  · rw [show i + n = (i - n) + 2 * n by omega, Nat.add_mod_right]; exact Nat.mod_eq_of_lt (by omega)
theorem gF_bij {n : Nat} : Bij (2 * n) (gF n) :=
  ⟨fun i hi => Nat.mod_lt _ (by omega), fun i j hi hj h => by rw [gF_eq hi, gF_eq hj] at h; split at h <;> split at h <;> omega⟩
theorem gF_gF {n i : Nat} (hi : i < 2 * n) : gF n (gF n i) = i := by
  rw [gF_eq (gF_bij.lt i hi), gF_eq hi]; split <;> split <;> omega
theorem plc_F {n k : Nat} (hk : k < 2 * n) : plc n (gF n (plc n k)) = 2 * n - 1 - k := by
  have h1 := plc_lt hk
  rw [gF_eq h1]
  unfold plc at h1 ⊢
  repeat' split
  all_goals omega
/-- A diagram turned upside down. -/
abbrev fl (n : Nat) (m : List Nat) : List Nat := rl n (gF n) m
theorem fl_V {n : Nat} {m : List Nat} (hm : IsV n m) : IsV n (fl n m) := rl_V hm.n8 gF_bij hm
theorem fl_D {n : Nat} {m : List Nat} (hm : IsD n m) : IsD n (fl n m) := by
  refine ⟨fl_V hm.toIsV, hm.pl.rev fun k hk => ?_⟩
  have hk' : 2 * n - 1 - k < 2 * n := by omega
  have e : plc n k = gF n (plc n (2 * n - 1 - k)) := by
    have h1 := plc_F hk'
    have h2 := gF_bij.lt _ (plc_lt hk')
    rw [show 2 * n - 1 - (2 * n - 1 - k) = k by omega] at h1
    have h5 : plc n (plc n (gF n (plc n (2 * n - 1 - k)))) = plc n k := congrArg (plc n) h1
    rw [plc_inv h2] at h5
    exact h5.symm
  unfold qq
  rw [e, rl_at hm.n8 gF_bij (plc_lt hk')]
  have h3 := hm.lt _ (plc_lt hk')
  have h4 := plc_F (plc_lt h3)
  rw [plc_inv h3] at h4
  rw [h4]
/-! upside down, a product is the product the other way round -/
def fv (n x : Nat) : Nat := if x < n then x + 2 * n else if x < 2 * n then x else x - 2 * n
theorem fv_a {n p : Nat} (hp : p < 2 * n) : fv n p = n + gF n p := by
  rw [gF_eq hp]; unfold fv; (repeat' split) <;> omega
theorem fv_b {n p : Nat} (hp : p < 2 * n) : fv n (n + p) = gF n p := by
  rw [gF_eq hp]; unfold fv; (repeat' split) <;> omega
theorem fv_op {n p : Nat} (hp : p < 2 * n) : fv n (op n p) = op n (gF n p) := by
  rw [gF_eq hp]; unfold fv op; (repeat' split) <;> omega
section
variable {n : Nat} {a b : List Nat} (ha : IsV n a) (hb : IsV n b)
include ha hb
theorem fv_E {x y : Nat} (h : E2 n a b x y) : E2 n (fl n b) (fl n a) (fv n x) (fv n y) := by
  rcases h with ⟨hx, rfl⟩ | ⟨hx1, hx2, rfl⟩
  · have h1 := ha.lt x hx
    rw [fv_a hx, fv_a h1]
    refine .inr ⟨by omega, by have := gF_bij.lt x hx; omega, ?_⟩
    rw [show n + gF n x - n = gF n x by omega, rl_at ha.n8 gF_bij hx]
  · obtain ⟨p, rfl⟩ : ∃ p, x = n + p := ⟨x - n, by omega⟩
    rw [show n + p - n = p by omega]
    have hp : p < 2 * n := by omega
    have h1 := hb.lt p hp
    rw [fv_b hp, fv_b h1]
    exact .inl ⟨gF_bij.lt p hp, (rl_at hb.n8 gF_bij hp).symm⟩
theorem fv_Cn {x y : Nat} (h : Cn (E2 n a b) x y) : Cn (E2 n (fl n b) (fl n a)) (fv n x) (fv n y) := by
  induction h with
  | refl => exact .refl _
  | step _ e ih => exact .step ih (fv_E ha hb e)
end
theorem fl_fl {n : Nat} {m : List Nat} (hm : IsV n m) : fl n (fl n m) = m := by
  symm
  refine rl_ext hm.n8 gF_bij (fl_V hm) hm fun i hi => ?_
  have h1 := rl_at (m := m) hm.n8 gF_bij (gF_bij.lt i hi)
  rw [gF_gF hi] at h1
  rw [h1, gF_gF (hm.lt _ (gF_bij.lt i hi))]
theorem fv_fv {n x : Nat} (hx : x < 3 * n) : fv n (fv n x) = x := by
  unfold fv; (repeat' split) <;> omega
section
variable {n : Nat} {a b : List Nat} (ha : IsV n a) (hb : IsV n b)
include ha hb
theorem fl_mul : fl n (oL n a b n).1 = (oL n (fl n b) (fl n a) n).1 := by
  have hP := oL_V ha hb
  have hQ := oL_V (fl_V hb) (fl_V ha)
  symm
  refine rl_ext ha.n8 gF_bij hP hQ fun p hp => ?_
  have h1 := hP.lt p hp
  have h2 := (oL_cn ha hb hp h1).2 (.inr rfl)
  have h3 := fv_Cn ha hb h2
  rw [fv_op hp, fv_op h1] at h3
  exact om_of (fl_V hb) (fl_V ha) (gF_bij.lt p hp) (gF_bij.lt _ h1) (fun e => hP.ne p hp (gF_bij.inj _ _ h1 hp e)) h3
theorem fl_lp : lpN n (fl n b) (fl n a) = lpN n a b := by
  have hfa := fl_V ha; have hfb := fl_V hb
  rw [lpN_cls hfb hfa, lpN_cls ha hb]
  have hmid : (midL n).map (fv n) = midL n := by
    conv => rhs; rw [← List.map_id (midL n)]
    refine List.map_congr_left fun x hx => ?_
    have := mem_midL.1 hx
    unfold fv; rw [if_neg (by omega), if_pos (by omega)]; rfl
  have e1 : cls (Cn (E2 n (fl n b) (fl n a))) (outL n) (midL n) = cls (Cn (E2 n (fl n b) (fl n a))) ((outL n).map (fv n)) ((midL n).map (fv n)) := by
    rw [hmid]
    refine cls_seen fun x => ⟨fun ⟨y, h1, h2⟩ => ⟨y, List.mem_map.2 ⟨fv n y, ?_, fv_fv ?_⟩, h2⟩, fun ⟨y, h1, h2⟩ => ⟨y, ?_, h2⟩⟩
    · have := mem_outL.1 h1
      rw [mem_outL]; unfold fv; repeat' split
      all_goals omega
    · have := mem_outL.1 h1; omega
    · obtain ⟨z, h3, rfl⟩ := List.mem_map.1 h1
      have := mem_outL.1 h3
      rw [mem_outL]; unfold fv; repeat' split
      all_goals omega
  rw [e1, cls_map]
  refine cls_congr fun x hx y hy => ⟨fun h => ?_, fun h => fv_Cn ha hb h⟩
  have hx3 : x < 3 * n := by have := mem_midL.1 hx; omega
  have hy3 : y < 3 * n := by
    rcases hy with hy | hy
    · have := mem_outL.1 hy; omega
    · have := mem_midL.1 hy; omega
  have h2 := fv_Cn hfb hfa h
  rw [fl_fl ha, fl_fl hb, fv_fv hx3, fv_fv hy3] at h2
  exact h2
end
/-! products of planar diagrams are planar -/
theorem mul_D {n : Nat} {a b : List Nat} (ha : IsD n a) (hb : IsD n b) : IsD n (oL n a b n).1 := by
  obtain ⟨w, hw, hv⟩ := reach ha
  have key : ∀ w, okW n w → IsD n (oL n (lv n w).1 b n).1 := by
    intro w
    induction w with
    | nil => intro _; show IsD n (oL n (un n) b n).1; rw [un_mul hb.toIsV]; exact hb
    | cons i w ih =>
      intro h
      have hg := gen_V ha.n8 h.cons.1
      have hw := (lv_D ha.n1 ha.n8 h.cons.2).toIsV
      show IsD n (oL n (oL n (gen n i) (lv n w).1 n).1 b n).1
      rw [mul_assoc_V hg hw hb.toIsV]
      exact gen_mul_D (ih h.cons.2) h.cons.1
  have := key w hw
  rwa [hv] at this
/-! no more lines go through -/
theorem thC_mono {n : Nat} {m m' : List Nat} : ∀ {k : Nat}, (∀ i, i < k → n ≤ m'.getD i 0 → n ≤ m.getD i 0) → thC n m' k ≤ thC n m k
  | 0, _ => Nat.le_refl _
  | k + 1, h => by
    have ih := thC_mono (n := n) (m := m) (m' := m') (k := k) fun i hi => h i (by omega)
    unfold thC
    by_cases h1 : n ≤ m'.getD k 0
    · rw [if_pos h1, if_pos (h k (by omega) h1)]; omega
    · rw [if_neg h1]; split <;> omega
theorem thC_mg {n : Nat} {x : List Nat} (hx : IsV n x) {k : Nat} (hk : k + 1 < n) : thC n (mg x (n + k) (n + k + 1)) n ≤ thC n x n := by
  refine thC_mono fun p hp h => ?_
  have hn := hx.n8
  have hl := hx.len
  have b1 := hx.lt (n + k) (by omega)
  have b2 := hx.lt (n + k + 1) (by omega)
  rw [mg_get (by omega) (by omega) (by omega) (by omega)] at h
  rw [if_neg (by omega), if_neg (by omega)] at h
  by_cases e1 : x.getD (n + k + 1) 0 = p
  · rw [← e1, hx.inv _ (by omega)]; omega
  · rw [if_neg e1] at h
    by_cases e2 : x.getD (n + k) 0 = p
    · rw [← e2, hx.inv _ (by omega)]; omega
    · rw [if_neg e2] at h; exact h
theorem thC_mul {n : Nat} {a b : List Nat} (ha : IsV n a) (hb : IsD n b) : thC n (oL n a b n).1 n ≤ thC n a n := by
  obtain ⟨w, hw, hv⟩ := reach hb
  have hn1 := hb.n1; have hn := hb.n8
  have key : ∀ w, okW n w → ∀ x, IsV n x → thC n (oL n x (lv n w).1 n).1 n ≤ thC n x n := by
    intro w
    induction w with
    | nil => intro _ x hx; show thC n (oL n x (un n) n).1 n ≤ _; rw [mul_un hx]; exact Nat.le_refl _
    | cons i w ih =>
      intro h x hx
      have hg := gen_V hn h.cons.1
      have hw := (lv_D hn1 hn h.cons.2).toIsV
      show thC n (oL n x (oL n (gen n i) (lv n w).1 n).1 n).1 n ≤ _
      rw [← mul_assoc_V hx hg hw]
      refine Nat.le_trans (ih h.cons.2 _ (oL_V hx hg)) ?_
      rw [mul_gen hx h.cons.1]
      exact thC_mg hx h.cons.1
  have := key w hw a ha
  rwa [hv] at this
end Go.Proofs.Ytgpgcdofhkpeaaa.VE
