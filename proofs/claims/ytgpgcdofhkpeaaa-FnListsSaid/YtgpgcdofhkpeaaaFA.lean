/- Contracts of functions of the given program, for all arguments that the contract names; see each theorem. -/
import Derived.Test.YtgpgcdofhkpeaaaK3
import Derived.Test.YtgpgcdofhkpeaaaU21
import Derived.Test.YtgpgcdofhkpeaaaU3
set_option linter.all false
namespace Go.Proofs.Ytgpgcdofhkpeaaa.VE
open Go
set_option maxHeartbeats 800000
set_option maxRecDepth 100000

/-! plain: products with the unit and with generators -/
theorem V_ext {n : Nat} {a b : List Nat} (ha : a.length = 16) (hb : b.length = 16) (hz : ∀ j, 2 * n ≤ j → a.getD j 0 = 0) (hz' : ∀ j, 2 * n ≤ j → b.getD j 0 = 0) (h : ∀ j, j < 2 * n → a.getD j 0 = b.getD j 0) : a = b := by
  refine eq_of_getD ha hb fun j hj => ?_
  by_cases h1 : j < 2 * n
  · exact h j h1
  · rw [hz j (by omega), hz' j (by omega)]
theorem cls_zero {R : Nat → Nat → Prop} : ∀ {l s : List Nat}, (∀ x ∈ l, ∃ y, y ∈ s ∧ R y x) → cls R s l = 0
  | [], _, _ => rfl
  | x :: l, s, h => by
    rw [cls, nwP_t (h x (by simp)), cls_zero (l := l) (fun z hz => ?_)]
    obtain ⟨y, h1, h2⟩ := h z (by simp [hz])
    exact ⟨y, by simp [h1], h2⟩
theorem cls_pos {R : Nat → Nat → Prop} (hs : ∀ x y, R x y → R y x) (ht : ∀ x y z, R x y → R y z → R x z) : ∀ {l s : List Nat} {x : Nat}, x ∈ l → (¬ ∃ y, y ∈ s ∧ R y x) → 0 < cls R s l
  | [], _, _, h, _ => by cases h
  | z :: l, s, x, h, hn => by
    rw [cls]
    by_cases hz : ∃ y, y ∈ s ∧ R y z
    · rw [nwP_t hz]
      rcases List.mem_cons.1 h with rfl | h
      · exact absurd hz hn
      · have := cls_pos hs ht (s := z :: s) h (fun ⟨y, h1, h2⟩ => by
          rcases List.mem_cons.1 h1 with rfl | h1
          · obtain ⟨u, h3, h4⟩ := hz
            exact hn ⟨u, h3, ht _ _ _ h4 h2⟩
          · exact hn ⟨y, h1, h2⟩)
        omega
    · rw [nwP_f hz]; omega

section
variable {n : Nat} {a b : List Nat} (ha : IsV n a) (hb : IsV n b)
include ha hb
/-- A product is told by its lines. -/
theorem om_of {p t : Nat} (hp : p < 2 * n) (htl : t < 2 * n) (hne : t ≠ p) (h : Cn (E2 n a b) (op n p) (op n t)) : (oL n a b n).1.getD p 0 = t := by
  rw [oL_om ha hb hp]
  rcases om_uniq ha hb hp htl h with h | h
  · exact absurd h hne
  · exact h.symm
theorem lpN_zero (h : ∀ j, j < n → ∃ p, p < 2 * n ∧ Cn (E2 n a b) (op n p) (n + j)) : lpN n a b = 0 := by
  rw [lpN_cls ha hb]
  refine cls_zero fun x hx => ?_
  have := mem_midL.1 hx
  obtain ⟨p, h1, h2⟩ := h (x - n) (by omega)
  refine ⟨op n p, mem_outL.2 (by unfold op; split <;> omega), ?_⟩
  rwa [show n + (x - n) = x from by omega] at h2
theorem lpN_pos {j : Nat} (hj : j < n) (h : ∀ p, p < 2 * n → ¬ Cn (E2 n a b) (op n p) (n + j)) : 0 < lpN n a b := by
  rw [lpN_cls ha hb]
  refine cls_pos (fun x y h => h.symm (E2.symm ha hb)) (fun x y z h1 h2 => h1.trans h2) (x := n + j) (mem_midL.2 (by omega)) ?_
  rintro ⟨y, h1, h2⟩
  rcases mem_outL.1 h1 with h3 | h3
  · exact h y (by omega) (by unfold op; rwa [if_pos h3])
  · exact h (y - n) (by omega) (by unfold op; rwa [if_neg (by omega), show n + (y - n) = y from by omega])
end

/-- Two points are joined, and whom they were joined with. -/
def mg (a : List Nat) (x y : Nat) : List Nat := jn2 (jn2 a (a.getD x 0) (a.getD y 0)) x y
theorem mg_len {a : List Nat} {x y : Nat} : (mg a x y).length = a.length := by simp [mg, jn2_len]
theorem mg_get {a : List Nat} {x y p : Nat} (hx : x < a.length) (hy : y < a.length) (hu : a.getD x 0 < a.length) (hv : a.getD y 0 < a.length) :
    (mg a x y).getD p 0 = if y = p then x else if x = p then y else if a.getD y 0 = p then a.getD x 0 else if a.getD x 0 = p then a.getD y 0 else a.getD p 0 := by
  unfold mg
  rw [jn2_get (by rw [jn2_len]; exact hx) (by rw [jn2_len]; exact hy), jn2_get hu hv]

section
variable {n : Nat} {a : List Nat} (ha : IsV n a) {x y : Nat} (hx : x < 2 * n) (hy : y < 2 * n) (hxy : x ≠ y)
include ha hx hy hxy
theorem mg_get' (p : Nat) : (mg a x y).getD p 0 = if y = p then x else if x = p then y else if a.getD y 0 = p then a.getD x 0 else if a.getD x 0 = p then a.getD y 0 else a.getD p 0 := by
  have := ha.n8; have := ha.len; have := ha.lt x hx; have := ha.lt y hy
  exact mg_get (by omega) (by omega) (by omega) (by omega)
theorem mg_same (h : a.getD x 0 = y) : mg a x y = a := by
  have h2 : a.getD y 0 = x := by rw [← h]; exact ha.inv x hx
  refine eq_of_getD (by rw [mg_len]; exact ha.len) ha.len fun p hp => ?_
  rw [mg_get' ha hx hy hxy, h, h2]
  by_cases h3 : y = p
  · rw [if_pos h3, ← h3, h2]
  by_cases h4 : x = p
  · rw [if_neg h3, if_pos h4, ← h4, h]
  rw [if_neg h3, if_neg h4, if_neg h4, if_neg h3]
theorem mg_V : IsV n (mg a x y) := by
  have hu := ha.lt x hx; have hv := ha.lt y hy
  have iu := ha.inv x hx; have iv := ha.inv y hy
  have nu := ha.ne x hx; have nv := ha.ne y hy
  have g := mg_get' ha hx hy hxy
  have inj : ∀ p q, p < 2 * n → q < 2 * n → a.getD p 0 = a.getD q 0 → p = q := fun p q h1 h2 e => by rw [← ha.inv p h1, e, ha.inv q h2]
  have huv : a.getD x 0 ≠ a.getD y 0 := fun e => hxy (inj x y hx hy e)
  refine ⟨ha.n1, ha.n8, by rw [mg_len]; exact ha.len, fun p hp => ?_, fun p hp => ?_, fun p hp => ?_, fun p hp => ?_⟩
  · have := ha.lt p hp
    rw [g]; (repeat' split) <;> omega
  · have := ha.ne p hp
    rw [g]; (repeat' split) <;> omega
  · by_cases hs : a.getD x 0 = y
    · rw [mg_same ha hx hy hxy hs]; exact ha.inv p hp
    have hs' : a.getD y 0 ≠ x := fun e => hs (by rw [← e]; exact iv)
    rw [g p]
    by_cases h1 : y = p
    · rw [if_pos h1, g, if_neg (fun e => hxy e.symm), if_pos rfl]; exact h1
    rw [if_neg h1]
    by_cases h2 : x = p
    · rw [if_pos h2, g, if_pos rfl]; exact h2
    rw [if_neg h2]
    by_cases h3 : a.getD y 0 = p
    · rw [if_pos h3, g, if_neg (fun e => hs e.symm), if_neg (fun e => nu e.symm), if_neg (fun e => huv e.symm), if_pos rfl]; exact h3
    rw [if_neg h3]
    by_cases h4 : a.getD x 0 = p
    · rw [if_pos h4, g, if_neg (fun e => nv e.symm), if_neg (fun e => hs' e.symm), if_pos rfl]; exact h4
    rw [if_neg h4, g]
    have e1 : y ≠ a.getD p 0 := fun e => h3 (by rw [e]; exact ha.inv p hp)
    have e2 : x ≠ a.getD p 0 := fun e => h4 (by rw [e]; exact ha.inv p hp)
    rw [if_neg e1, if_neg e2, if_neg (fun e => h1 (inj y p hy hp e)), if_neg (fun e => h2 (inj x p hx hp e))]
    exact ha.inv p hp
  · rw [g, if_neg (by omega), if_neg (by omega), if_neg (by omega), if_neg (by omega)]; exact ha.zero p hp
/-- What a product is that joins two places. -/
theorem om_mg {A B : List Nat} (hA : IsV n A) (hB : IsV n B) {w : Nat → Nat} (h1 : ∀ p, p < 2 * n → p ≠ x → p ≠ y → Cn (E2 n A B) (op n p) (w p)) (h2 : ∀ p, p < 2 * n → Cn (E2 n A B) (w p) (w (a.getD p 0)))
    (h3 : Cn (E2 n A B) (w x) (w y)) (h4 : Cn (E2 n A B) (op n x) (op n y)) : (oL n A B n).1 = mg a x y := by
  have hC := oL_V hA hB
  have hu := ha.lt x hx; have hv := ha.lt y hy
  have nu := ha.ne x hx; have nv := ha.ne y hy
  have sy := E2.symm hA hB
  refine V_ext hC.len (by rw [mg_len]; exact ha.len) hC.zero (mg_V ha hx hy hxy).zero fun p hp => ?_
  have hl := (mg_V ha hx hy hxy).lt p hp
  have hne := (mg_V ha hx hy hxy).ne p hp
  refine om_of hA hB hp hl hne ?_
  rw [mg_get' ha hx hy hxy]
  by_cases e1 : y = p
  · rw [if_pos e1, ← e1]; exact h4.symm sy
  rw [if_neg e1]
  by_cases e2 : x = p
  · rw [if_pos e2, ← e2]; exact h4
  rw [if_neg e2]
  have ip := ha.inv p hp
  by_cases e3 : a.getD y 0 = p
  · rw [if_pos e3]
    have hux : a.getD x 0 ≠ y := fun e => e2 (by rw [← ha.inv x hx, e, e3])
    refine (h1 p hp (Ne.symm e2) (Ne.symm e1)).trans (.trans ?_ ((h1 _ hu nu hux).symm sy))
    rw [← e3]
    exact ((h2 y hy).symm sy).trans ((h3.symm sy).trans (h2 x hx))
  rw [if_neg e3]
  by_cases e4 : a.getD x 0 = p
  · rw [if_pos e4]
    have hvx : a.getD y 0 ≠ x := fun e => e1 (by rw [← ha.inv y hy, e, e4])
    refine (h1 p hp (Ne.symm e2) (Ne.symm e1)).trans (.trans ?_ ((h1 _ hv hvx nv).symm sy))
    rw [← e4]
    exact ((h2 x hx).symm sy).trans (h3.trans (h2 y hy))
  rw [if_neg e4]
  have f1 : a.getD p 0 ≠ x := fun e => e4 (by rw [← e]; exact ip)
  have f2 : a.getD p 0 ≠ y := fun e => e3 (by rw [← e]; exact ip)
  exact (h1 p hp (Ne.symm e2) (Ne.symm e1)).trans ((h2 p hp).trans ((h1 _ (ha.lt p hp) f1 f2).symm sy))
end

section
variable {n : Nat} {a : List Nat} (ha : IsV n a)
include ha
theorem om_same {A B : List Nat} (hA : IsV n A) (hB : IsV n B) {w : Nat → Nat} (h1 : ∀ p, p < 2 * n → Cn (E2 n A B) (op n p) (w p)) (h2 : ∀ p, p < 2 * n → Cn (E2 n A B) (w p) (w (a.getD p 0))) : (oL n A B n).1 = a := by
  have hC := oL_V hA hB
  refine V_ext hC.len ha.len hC.zero ha.zero fun p hp => om_of hA hB hp (ha.lt p hp) (ha.ne p hp) ?_
  exact (h1 p hp).trans ((h2 p hp).trans ((h1 _ (ha.lt p hp)).symm (E2.symm hA hB)))
theorem mul_un : (oL n a (un n) n).1 = a := by
  have hn := ha.n8
  refine om_same ha ha (un_V ha.n1 hn) (w := id) (fun p hp => ?_) (fun p hp => .one (.inl ⟨hp, rfl⟩))
  unfold op; split
  · exact .refl _
  · refine .one (.inr ⟨by omega, by omega, ?_⟩)
    rw [show n + p - n = p from by omega, un_get hn, if_neg (by omega), if_pos hp]; simp only [id]; omega
theorem un_mul : (oL n (un n) a n).1 = a := by
  have hn := ha.n8
  refine om_same ha (un_V ha.n1 hn) ha (w := (n + ·)) (fun p hp => ?_) (fun p hp => .one (.inr ⟨by omega, by omega, by rw [show n + p - n = p from by omega]⟩))
  unfold op; split
  · rename_i h
    refine .one (.inl ⟨hp, ?_⟩)
    rw [un_get hn, if_pos h]
  · exact .refl _
theorem lp_un : lpN n a (un n) = 0 := by
  have hn := ha.n8
  refine lpN_zero ha (un_V ha.n1 hn) fun j hj => ⟨n + j, by omega, ?_⟩
  refine .one (.inr ⟨by unfold op; split <;> omega, by unfold op; split <;> omega, ?_⟩)
  unfold op
  rw [if_neg (by omega), show n + (n + j) - n = n + j from by omega, un_get hn, if_neg (by omega), if_pos (by omega)]; omega
theorem un_lp : lpN n (un n) a = 0 := by
  have hn := ha.n8
  refine lpN_zero (un_V ha.n1 hn) ha fun j hj => ⟨j, by omega, ?_⟩
  refine .one (.inl ⟨by unfold op; split <;> omega, ?_⟩)
  unfold op
  rw [if_pos hj, un_get hn, if_pos hj]

variable {k : Nat} (hk : k + 1 < n)
include hk
theorem mul_gen : (oL n a (gen n k) n).1 = mg a (n + k) (n + k + 1) := by
  have hn := ha.n8
  have hg := gen_V hn hk
  refine om_mg ha (by omega) (by omega) (by omega) ha hg (w := id) (fun p hp e1 e2 => ?_) (fun p hp => .one (.inl ⟨hp, rfl⟩)) ?_ ?_
  · unfold op; split
    · exact .refl _
    · refine .one (.inr ⟨by omega, by omega, ?_⟩)
      rw [show n + p - n = p from by omega, gen_get hn hk, if_neg (by omega), if_neg (by omega), if_neg e1, if_neg e2, if_neg (by omega), if_pos hp]; simp only [id]; omega
  · refine .one (.inr ⟨by simp only [id]; omega, by simp only [id]; omega, ?_⟩)
    simp only [id]
    rw [show n + k - n = k from by omega, gen_get hn hk, if_pos rfl]; omega
  · refine .one (.inr ⟨by unfold op; split <;> omega, by unfold op; split <;> omega, ?_⟩)
    unfold op
    rw [if_neg (by omega), if_neg (by omega), show n + (n + k) - n = n + k from by omega, gen_get hn hk, if_neg (by omega), if_neg (by omega), if_pos rfl]
theorem gen_mul : (oL n (gen n k) a n).1 = mg a k (k + 1) := by
  have hn := ha.n8
  have hg := gen_V hn hk
  refine om_mg ha (by omega) (by omega) (by omega) hg ha (w := (n + ·)) (fun p hp e1 e2 => ?_) (fun p hp => .one (.inr ⟨by omega, by omega, by rw [show n + p - n = p from by omega]⟩)) ?_ ?_
  · unfold op; split
    · rename_i h
      refine .one (.inl ⟨hp, ?_⟩)
      rw [gen_get hn hk, if_neg e1, if_neg e2, if_neg (by omega), if_neg (by omega), if_pos h]
    · exact .refl _
  · refine .one (.inl ⟨by omega, ?_⟩)
    rw [gen_get hn hk, if_neg (by omega), if_neg (by omega), if_pos rfl]; omega
  · refine .one (.inl ⟨by unfold op; split <;> omega, ?_⟩)
    unfold op
    rw [if_pos (by omega), if_pos (by omega), gen_get hn hk, if_pos rfl]
theorem lp_gen : lpN n a (gen n k) = 0 ↔ a.getD (n + k) 0 ≠ n + k + 1 := by
  have hn := ha.n8
  have hg := gen_V hn hk
  have sy := E2.symm ha hg
  have low : ∀ j, j < n → j ≠ k → j ≠ k + 1 → Cn (E2 n a (gen n k)) (op n (n + j)) (n + j) := fun j hj e1 e2 => by
    refine .one (.inr ⟨by unfold op; split <;> omega, by unfold op; split <;> omega, ?_⟩)
    unfold op
    rw [if_neg (by omega), show n + (n + j) - n = n + j from by omega, gen_get hn hk, if_neg (by omega), if_neg (by omega), if_neg (by omega), if_neg (by omega), if_neg (by omega), if_pos (by omega)]; omega
  have any : ∀ p, p < 2 * n → p ≠ n + k → p ≠ n + k + 1 → Cn (E2 n a (gen n k)) (op n p) p := fun p hp e1 e2 => by
    by_cases h : p < n
    · unfold op; rw [if_pos h]; exact .refl _
    · have := low (p - n) (by omega) (by omega) (by omega)
      rwa [show n + (p - n) = p from by omega] at this
  constructor
  · intro h0 he
    refine absurd h0 (Nat.pos_iff_ne_zero.1 (lpN_pos ha hg (j := k) (by omega) fun p hp h => ?_))
    have hi : a.getD (n + k + 1) 0 = n + k := by rw [← he]; exact ha.inv _ (by omega)
    have := Cn.closed (S := fun z => z = n + k ∨ z = n + k + 1) (fun u v hu hE => by
      rcases hE with ⟨h1, rfl⟩ | ⟨h1, h2, rfl⟩
      · rcases hu with rfl | rfl
        · exact .inr he
        · exact .inl hi
      · rcases hu with rfl | rfl
        · refine .inr ?_
          rw [show n + k - n = k from by omega, gen_get hn hk, if_pos rfl]; omega
        · refine .inl ?_
          rw [show n + k + 1 - n = k + 1 from by omega, gen_get hn hk, if_neg (by omega), if_pos rfl]) (h.symm sy) (.inl rfl)
    unfold op at this; split at this <;> omega
  · intro hne
    have hx := ha.lt (n + k) (by omega); have hy := ha.lt (n + k + 1) (by omega)
    have h1 := ha.ne (n + k) (by omega); have h2 := ha.ne (n + k + 1) (by omega)
    have h3 : a.getD (n + k + 1) 0 ≠ n + k := fun e => hne (by have := ha.inv (n + k + 1) (by omega); rwa [e] at this)
    refine lpN_zero ha hg fun j hj => ?_
    by_cases e1 : j = k
    · subst e1
      exact ⟨_, hx, (any _ hx h1 hne).trans ((Cn.one (.inl ⟨by omega, rfl⟩)).symm sy)⟩
    by_cases e2 : j = k + 1
    · subst e2
      exact ⟨_, hy, (any _ hy h3 h2).trans ((Cn.one (.inl ⟨by omega, rfl⟩)).symm sy)⟩
    exact ⟨n + j, by omega, low j hj e1 e2⟩
theorem gen_lp : lpN n (gen n k) a = 0 ↔ a.getD k 0 ≠ k + 1 := by
  have hn := ha.n8
  have hg := gen_V hn hk
  have sy := E2.symm hg ha
  have up : ∀ j, j < n → j ≠ k → j ≠ k + 1 → Cn (E2 n (gen n k) a) (op n j) (n + j) := fun j hj e1 e2 => by
    refine .one (.inl ⟨by unfold op; split <;> omega, ?_⟩)
    unfold op
    rw [if_pos (by omega), gen_get hn hk, if_neg (by omega), if_neg (by omega), if_neg (by omega), if_neg (by omega), if_pos (by omega)]
  have any : ∀ p, p < 2 * n → p ≠ k → p ≠ k + 1 → Cn (E2 n (gen n k) a) (op n p) (n + p) := fun p hp e1 e2 => by
    by_cases h : p < n
    · exact up p h e1 e2
    · unfold op; rw [if_neg h]; exact .refl _
  constructor
  · intro h0 he
    refine absurd h0 (Nat.pos_iff_ne_zero.1 (lpN_pos hg ha (j := k) (by omega) fun p hp h => ?_))
    have hi : a.getD (k + 1) 0 = k := by rw [← he]; exact ha.inv _ (by omega)
    have := Cn.closed (S := fun z => z = n + k ∨ z = n + k + 1) (fun u v hu hE => by
      rcases hE with ⟨h1, rfl⟩ | ⟨h1, h2, rfl⟩
      · rcases hu with rfl | rfl
        · refine .inr ?_
          rw [gen_get hn hk, if_neg (by omega), if_neg (by omega), if_pos rfl]
        · refine .inl ?_
          rw [gen_get hn hk, if_neg (by omega), if_neg (by omega), if_neg (by omega), if_pos rfl]
      · rcases hu with rfl | rfl
        · refine .inr ?_
          rw [show n + k - n = k from by omega, he]; omega
        · refine .inl ?_
          rw [show n + k + 1 - n = k + 1 from by omega, hi]) (h.symm sy) (.inl rfl)
    unfold op at this; split at this <;> omega
  · intro hne
    have hx := ha.lt k (by omega); have hy := ha.lt (k + 1) (by omega)
    have h1 := ha.ne k (by omega); have h2 := ha.ne (k + 1) (by omega)
    have h3 : a.getD (k + 1) 0 ≠ k := fun e => hne (by have := ha.inv (k + 1) (by omega); rwa [e] at this)
    have st : ∀ p, p < 2 * n → Cn (E2 n (gen n k) a) (n + p) (n + a.getD p 0) := fun p hp => .one (.inr ⟨by omega, by omega, by rw [show n + p - n = p from by omega]⟩)
    refine lpN_zero hg ha fun j hj => ?_
    by_cases e1 : j = k
    · subst e1
      exact ⟨_, hx, (any _ hx h1 hne).trans ((st _ (by omega)).symm sy)⟩
    by_cases e2 : j = k + 1
    · subst e2
      exact ⟨_, hy, (any _ hy h3 h2).trans ((st _ (by omega)).symm sy)⟩
    exact ⟨j, by omega, up j hj e1 e2⟩
end
end Go.Proofs.Ytgpgcdofhkpeaaa.VE
namespace Go.Proofs.Ytgpgcdofhkpeaaa.VE
open Go
set_option maxHeartbeats 1600000
set_option maxRecDepth 100000

/-! plain: joining two neighbours leaves a diagram planar -/
theorem Planar.congr {N : Nat} {q r : Nat → Nat} (h : Planar N q) (he : ∀ j, j < N → r j = q j) : Planar N r := by
  refine ⟨fun j hj => ?_, fun j c hj h1 h2 h3 => ?_⟩
  · obtain ⟨a, b, c⟩ := h.1 j hj
    rw [he j hj, he _ a]; exact ⟨a, b, c⟩
  · rw [he j hj] at h1 h3 ⊢
    have := (h.1 j hj).1
    rw [he c (by omega)]
    exact h.2 j c hj h1 h2 h3
theorem Planar.out {N : Nat} {q : Nat → Nat} (h : Planar N q) {j c : Nat} (hj : j < N) (hc : c < N) (h1 : j < q j) (h2 : c < j ∨ q j < c) : q c < j ∨ q j < q c := by
  obtain ⟨a1, a2, a3⟩ := h.1 j hj
  obtain ⟨b1, b2, b3⟩ := h.1 c hc
  by_cases e1 : q c = j
  · exfalso; rw [e1] at b3; omega
  by_cases e2 : q c = q j
  · exfalso; rw [e2, a3] at b3; omega
  by_cases e3 : q c < j ∨ q j < q c
  · exact e3
  exfalso
  have := h.2 j (q c) hj h1 (by omega) (by omega)
  rw [b3] at this; omega
def mgF (q : Nat → Nat) (i j : Nat) : Nat := if i + 1 = j then i else if i = j then i + 1 else if q (i + 1) = j then q i else if q i = j then q (i + 1) else q j
theorem mgF_pl {N : Nat} {q : Nat → Nat} (h : Planar N q) {i : Nat} (hi : i + 1 < N) : Planar N (mgF q i) := by
  obtain ⟨u1, u2, u3⟩ := h.1 i (by omega)
  obtain ⟨v1, v2, v3⟩ := h.1 (i + 1) hi
  by_cases hs : q i = i + 1
  · have hs2 : q (i + 1) = i := by rw [← hs]; exact u3
    refine h.congr fun j hj => ?_
    unfold mgF
    by_cases e1 : i + 1 = j
    · rw [if_pos e1, ← e1, hs2]
    by_cases e2 : i = j
    · rw [if_neg e1, if_pos e2, ← e2, hs]
    rw [if_neg e1, if_neg e2, hs2, if_neg e2, hs, if_neg e1]
  have hs2 : q (i + 1) ≠ i := fun e => hs (by rw [e] at v3; exact v3)
  have inj : ∀ a b, a < N → b < N → q a = q b → a = b := fun a b ha hb e => by rw [← (h.1 a ha).2.2, e, (h.1 b hb).2.2]
  have huv : q i ≠ q (i + 1) := fun e => by have := inj _ _ (by omega) hi e; omega
  have gen : ∀ j, j < N → j ≠ i → j ≠ i + 1 → j ≠ q i → j ≠ q (i + 1) → mgF q i j = q j ∧ q j ≠ i ∧ q j ≠ i + 1 ∧ q j ≠ q i ∧ q j ≠ q (i + 1) := fun j hj e1 e2 e3 e4 => by
    refine ⟨?_, fun e => e3 ?_, fun e => e4 ?_, fun e => e1 (inj _ _ hj (by omega) e), fun e => e2 (inj _ _ hj hi e)⟩
    · unfold mgF; rw [if_neg (Ne.symm e2), if_neg (Ne.symm e1), if_neg (Ne.symm e4), if_neg (Ne.symm e3)]
    · rw [← e]; exact (h.1 j hj).2.2.symm
    · rw [← e]; exact (h.1 j hj).2.2.symm
  have m1 : mgF q i i = i + 1 := by unfold mgF; rw [if_neg (by omega), if_pos rfl]
  have m2 : mgF q i (i + 1) = i := by unfold mgF; rw [if_pos rfl]
  have m3 : mgF q i (q i) = q (i + 1) := by unfold mgF; rw [if_neg (Ne.symm hs), if_neg (Ne.symm u2), if_neg (Ne.symm huv), if_pos rfl]
  have m4 : mgF q i (q (i + 1)) = q i := by unfold mgF; rw [if_neg (Ne.symm v2), if_neg (Ne.symm hs2), if_pos rfl]
  -- how the two pairs lie
  have lie : (i + 1 < q i → i + 1 < q (i + 1) ∧ q (i + 1) < q i) ∧ (q (i + 1) < i → q (i + 1) < q i ∧ q i < i) := by
    refine ⟨fun hlt => ?_, fun hlt => ?_⟩
    · have := h.2 i (i + 1) (by omega) (by omega) (by omega) hlt
      omega
    · have := h.2 (q (i + 1)) i v1 (by omega) hlt (by omega)
      omega
  refine ⟨fun j hj => ?_, fun j c hj h1 h2 h3 => ?_⟩
  · by_cases e1 : j = i
    · subst e1; rw [m1, m2]; omega
    by_cases e2 : j = i + 1
    · subst e2; rw [m2, m1]; omega
    by_cases e3 : j = q i
    · subst e3; rw [m3, m4]; exact ⟨v1, Ne.symm huv, rfl⟩
    by_cases e4 : j = q (i + 1)
    · subst e4; rw [m4, m3]; exact ⟨u1, huv, rfl⟩
    obtain ⟨g1, g2, g3, g4, g5⟩ := gen j hj e1 e2 e3 e4
    obtain ⟨w1, w2, w3⟩ := h.1 j hj
    rw [g1, (gen (q j) w1 g2 g3 g4 g5).1]; exact ⟨w1, w2, w3⟩
  · by_cases e1 : j = i
    · subst e1; rw [m1] at h3; omega
    by_cases e2 : j = i + 1
    · subst e2; rw [m2] at h1; omega
    have hjt : mgF q i j < N := by
      by_cases e3 : j = q i
      · subst e3; rw [m3]; exact v1
      by_cases e4 : j = q (i + 1)
      · subst e4; rw [m4]; exact u1
      rw [(gen j hj e1 e2 e3 e4).1]; exact (h.1 j hj).1
    have hc : c < N := by omega
    -- another place
    by_cases e3 : j = q i
    · subst e3
      rw [m3] at h1 h3 ⊢
      by_cases c1 : c = i
      · subst c1; rw [m1]; omega
      by_cases c2 : c = i + 1
      · subst c2; rw [m2]; omega
      by_cases c3 : c = q i
      · omega
      by_cases c4 : c = q (i + 1)
      · omega
      obtain ⟨g1, g2, g3, g4, g5⟩ := gen c hc c1 c2 c3 c4
      rw [g1]
      have p1 := h.2 (q i) c u1; rw [u3] at p1
      have p2 := h.2 (i + 1) c hi
      have p3 := h.out hi hc (c := c); 
      have p4 := h.out u1 hc (c := c); rw [u3] at p4
      omega
    by_cases e4 : j = q (i + 1)
    · subst e4
      rw [m4] at h1 h3 ⊢
      by_cases c1 : c = i
      · subst c1; rw [m1]; omega
      by_cases c2 : c = i + 1
      · subst c2; rw [m2]; omega
      by_cases c3 : c = q i
      · omega
      by_cases c4 : c = q (i + 1)
      · omega
      obtain ⟨g1, g2, g3, g4, g5⟩ := gen c hc c1 c2 c3 c4
      rw [g1]
      have p1 := h.2 (q (i + 1)) c v1; rw [v3] at p1
      have p2 := h.2 i c (by omega)
      have p3 := h.out (j := i) (by omega) hc
      have p4 := h.out (j := i + 1) hi hc
      have p5 := h.out u1 hc; rw [u3] at p5
      have p6 := h.out v1 hc; rw [v3] at p6
      omega
    obtain ⟨j1, j2, j3, j4, j5⟩ := gen j hj e1 e2 e3 e4
    rw [j1] at h1 h3 ⊢
    have p1 := h.2 j c hj h1 h2 h3
    by_cases c1 : c = i
    · subst c1; rw [m1]; omega
    by_cases c2 : c = i + 1
    · subst c2; rw [m2]; omega
    by_cases c3 : c = q i
    · subst c3
      rw [m3]; rw [u3] at p1
      exact h.2 j (i + 1) hj h1 (by omega) (by omega)
    by_cases c4 : c = q (i + 1)
    · subst c4
      rw [m4]; rw [v3] at p1
      exact h.2 j i hj h1 (by omega) (by omega)
    rw [(gen c hc c1 c2 c3 c4).1]; exact p1

section
variable {n : Nat} {a : List Nat} (ha : IsV n a)
include ha
theorem mg_symm {x y : Nat} (hx : x < 2 * n) (hy : y < 2 * n) (hxy : x ≠ y) : mg a x y = mg a y x := by
  have nx := ha.ne x hx; have ny := ha.ne y hy
  refine eq_of_getD (N := 16) (by rw [mg_len]; exact ha.len) (by rw [mg_len]; exact ha.len) fun p hp => ?_
  rw [mg_get' ha hx hy hxy, mg_get' ha hy hx (Ne.symm hxy)]
  have inj : a.getD x 0 = a.getD y 0 → x = y := fun e => by rw [← ha.inv x hx, e, ha.inv y hy]
  by_cases e1 : y = p
  · rw [if_pos e1, if_neg (show ¬ x = p from fun e => hxy (e.trans e1.symm)), if_pos e1]
  by_cases e2 : x = p
  · rw [if_neg e1, if_pos e2, if_pos e2]
  rw [if_neg e1, if_neg e2, if_neg e2, if_neg e1]
  by_cases e3 : a.getD y 0 = p
  · rw [if_pos e3, if_neg (fun e => hxy (inj (by rw [e, e3]))), if_pos e3]
  · rw [if_neg e3]
    by_cases e4 : a.getD x 0 = p
    · rw [if_pos e4, if_pos e4]
    · rw [if_neg e4, if_neg e4, if_neg e3]
/-- Joined places in reading order. -/
theorem qq_mg {i : Nat} (hi : i + 1 < 2 * n) {j : Nat} (hj : j < 2 * n) : qq n (mg a (plc n i) (plc n (i + 1))) j = mgF (qq n a) i j := by
  have l1 := plc_lt (n := n) (i := i) (by omega)
  have l2 := plc_lt (n := n) (i := i + 1) hi
  have lj := plc_lt hj
  have pinj : ∀ {x y : Nat}, x < 2 * n → y < 2 * n → plc n x = plc n y → x = y := fun {x y} hx hy e => by rw [← plc_inv hx, e, plc_inv hy]
  have hne : plc n i ≠ plc n (i + 1) := fun e => by have := pinj (by omega) hi e; omega
  have h1 := ha.lt _ l1; have h2 := ha.lt _ l2
  unfold qq mgF
  rw [mg_get' ha l1 l2 hne]
  by_cases e1 : i + 1 = j
  · rw [if_pos (by rw [e1]), if_pos e1, plc_inv (by omega)]
  rw [if_neg (fun e => e1 (pinj hi hj e)), if_neg e1]
  by_cases e2 : i = j
  · rw [if_pos (by rw [e2]), if_pos e2, plc_inv hi]
  rw [if_neg (fun e => e2 (pinj (by omega) hj e)), if_neg e2]
  have k3 : a.getD (plc n (i + 1)) 0 = plc n j ↔ plc n (a.getD (plc n (i + 1)) 0) = j := ⟨fun e => by rw [e]; exact plc_inv hj, fun e => by rw [← plc_inv h2, e]⟩
  have k4 : a.getD (plc n i) 0 = plc n j ↔ plc n (a.getD (plc n i) 0) = j := ⟨fun e => by rw [e]; exact plc_inv hj, fun e => by rw [← plc_inv h1, e]⟩
  by_cases e3 : a.getD (plc n (i + 1)) 0 = plc n j
  · rw [if_pos e3, if_pos (k3.1 e3)]
  rw [if_neg e3, if_neg (fun e => e3 (k3.2 e))]
  by_cases e4 : a.getD (plc n i) 0 = plc n j
  · rw [if_pos e4, if_pos (k4.1 e4)]
  rw [if_neg e4, if_neg (fun e => e4 (k4.2 e))]
end
theorem mg_D {n : Nat} {a : List Nat} (ha : IsD n a) {i : Nat} (hi : i + 1 < 2 * n) : IsD n (mg a (plc n i) (plc n (i + 1))) := by
  have l1 := plc_lt (n := n) (i := i) (by omega)
  have l2 := plc_lt (n := n) (i := i + 1) hi
  have hne : plc n i ≠ plc n (i + 1) := fun e => by
    have h3 : plc n (plc n i) = plc n (plc n (i + 1)) := by rw [e]
    rw [plc_inv (by omega), plc_inv hi] at h3
    omega
  exact ⟨mg_V ha.toIsV l1 l2 hne, (mgF_pl ha.pl hi).congr fun j hj => qq_mg ha.toIsV hi hj⟩
section
variable {n : Nat} {a : List Nat} (ha : IsD n a) {k : Nat} (hk : k + 1 < n)
include ha hk
theorem mg_top : IsD n (mg a k (k + 1)) := by
  have := mg_D ha (i := k) (by omega)
  rwa [show plc n k = k by unfold plc; rw [if_pos (by omega)], show plc n (k + 1) = k + 1 by unfold plc; rw [if_pos hk]] at this
theorem mg_bot : IsD n (mg a (n + k) (n + k + 1)) := by
  have := mg_D ha (i := 2 * n - 2 - k) (by omega)
  rw [show plc n (2 * n - 2 - k) = n + k + 1 by unfold plc; rw [if_neg (by omega)]; omega, show plc n (2 * n - 2 - k + 1) = n + k by unfold plc; rw [if_neg (by omega)]; omega] at this
  rwa [mg_symm ha.toIsV (by omega) (by omega) (by omega)]
theorem mul_gen_D : IsD n (oL n a (gen n k) n).1 := by rw [mul_gen ha.toIsV hk]; exact mg_bot ha hk
theorem gen_mul_D : IsD n (oL n (gen n k) a n).1 := by rw [gen_mul ha.toIsV hk]; exact mg_top ha hk
end
theorem un_D {n : Nat} (hn1 : 1 ≤ n) (hn : n ≤ 8) : IsD n (un n) := by
  refine ⟨un_V hn1 hn, ?_⟩
  have e : ∀ j, j < 2 * n → qq n (un n) j = 2 * n - 1 - j := fun j hj => by
    unfold qq plc
    rw [un_get hn]
    by_cases h : j < n
    · rw [if_pos h, if_pos h, if_neg (by omega)]; omega
    · rw [if_neg h, if_neg (show ¬ 3 * n - 1 - j < n by omega), if_pos (show 3 * n - 1 - j < 2 * n by omega), if_pos (by omega)]; omega
  refine ⟨fun j hj => ?_, fun j c hj h1 h2 h3 => ?_⟩
  · rw [e j hj, e _ (by omega)]; omega
  · rw [e j hj] at *; rw [e c (by omega)]; omega
end Go.Proofs.Ytgpgcdofhkpeaaa.VE
namespace Go.Proofs.Ytgpgcdofhkpeaaa.VE
open Go
set_option maxHeartbeats 1600000
set_option maxRecDepth 100000

/-! plain: values of words from both sides -/
def lv (n : Nat) : List Nat → List Nat × Nat
  | [] => (un n, 0)
  | i :: w => ((oL n (gen n i) (lv n w).1 n).1, lpN n (gen n i) (lv n w).1 + (lv n w).2)
def rvF (n : Nat) : List Nat → List Nat × Nat → List Nat × Nat
  | [], s => s
  | i :: w, s => rvF n w ((oL n s.1 (gen n i) n).1, s.2 + lpN n s.1 (gen n i))
def okW (n : Nat) (w : List Nat) : Prop := ∀ i ∈ w, i + 1 < n
theorem okW.cons {n i : Nat} {w : List Nat} (h : okW n (i :: w)) : i + 1 < n ∧ okW n w := ⟨h i (by simp), fun j hj => h j (by simp [hj])⟩
theorem lv_D {n : Nat} (hn1 : 1 ≤ n) (hn : n ≤ 8) : ∀ {w : List Nat}, okW n w → IsD n (lv n w).1
  | [], _ => un_D hn1 hn
  | i :: w, h => gen_mul_D (lv_D hn1 hn h.cons.2) h.cons.1
/-- A word read from the left, before a diagram, is the product with its value. -/
theorem rvF_eq {n : Nat} (hn1 : 1 ≤ n) (hn : n ≤ 8) : ∀ {w : List Nat} {s : List Nat × Nat}, okW n w → IsV n s.1 → rvF n w s = ((oL n s.1 (lv n w).1 n).1, s.2 + lpN n s.1 (lv n w).1 + (lv n w).2)
  | [], s, _, hs => by
    show s = ((oL n s.1 (un n) n).1, s.2 + lpN n s.1 (un n) + 0)
    rw [mul_un hs, lp_un hs]
    rfl
  | i :: w, s, h, hs => by
    have hg := gen_V hn h.cons.1
    have hw := (lv_D hn1 hn h.cons.2).toIsV
    rw [rvF, rvF_eq hn1 hn h.cons.2 (oL_V hs hg)]
    have h1 := mul_assoc_V hs hg hw
    have h2 := loops_assoc hs hg hw
    simp only [lv]
    rw [h1]
    refine Prod.ext rfl ?_
    simp only []
    omega
theorem rv_lv {n : Nat} (hn1 : 1 ≤ n) (hn : n ≤ 8) {w : List Nat} (h : okW n w) : rvF n w (un n, 0) = lv n w := by
  have hw := (lv_D hn1 hn h).toIsV
  rw [rvF_eq hn1 hn h (un_V hn1 hn), un_mul hw, un_lp hw]
  exact Prod.ext rfl (by simp)
theorem rvF_snoc {n k : Nat} : ∀ {w : List Nat} {s : List Nat × Nat}, rvF n (w ++ [k]) s = ((oL n (rvF n w s).1 (gen n k) n).1, (rvF n w s).2 + lpN n (rvF n w s).1 (gen n k))
  | [], _ => rfl
  | i :: w, s => by rw [List.cons_append, rvF, rvF, rvF_snoc]
theorem okW_snoc {n k : Nat} {w : List Nat} : okW n (w ++ [k]) ↔ okW n w ∧ k + 1 < n := by
  unfold okW
  constructor
  · intro h; exact ⟨fun i hi => h i (by simp [hi]), h k (by simp)⟩
  · rintro ⟨h1, h2⟩ i hi
    rcases List.mem_append.1 hi with h | h
    · exact h1 i h
    · simp at h; omega
theorem lv_snoc {n k : Nat} (hn1 : 1 ≤ n) (hn : n ≤ 8) {w : List Nat} (h : okW n w) (hk : k + 1 < n) : lv n (w ++ [k]) = ((oL n (lv n w).1 (gen n k) n).1, (lv n w).2 + lpN n (lv n w).1 (gen n k)) := by
  rw [← rv_lv hn1 hn (okW_snoc.2 ⟨h, hk⟩), rvF_snoc, rv_lv hn1 hn h]
/-- A word without loops, of a diagram. -/
def LF (n : Nat) (w d : List Nat) : Prop := okW n w ∧ lv n w = (d, 0)
theorem LF.cons_iff {n i : Nat} {w d : List Nat} : LF n (i :: w) d ↔ i + 1 < n ∧ ∃ e, LF n w e ∧ (oL n (gen n i) e n).1 = d ∧ lpN n (gen n i) e = 0 := by
  constructor
  · rintro ⟨h1, h2⟩
    simp only [lv, Prod.mk.injEq] at h2
    exact ⟨h1.cons.1, (lv n w).1, ⟨h1.cons.2, Prod.ext rfl (by show (lv n w).2 = 0; omega)⟩, h2.1, by omega⟩
  · rintro ⟨h1, e, ⟨h2, h3⟩, h4, h5⟩
    refine ⟨fun j hj => ?_, ?_⟩
    · rcases List.mem_cons.1 hj with rfl | hj
      · exact h1
      · exact h2 j hj
    · simp only [lv, h3]; exact Prod.ext h4 (by simp only []; omega)
theorem LF.snoc_iff {n k : Nat} {w d : List Nat} (hn1 : 1 ≤ n) (hn : n ≤ 8) : LF n (w ++ [k]) d ↔ k + 1 < n ∧ ∃ e, LF n w e ∧ (oL n e (gen n k) n).1 = d ∧ lpN n e (gen n k) = 0 := by
  constructor
  · rintro ⟨h1, h2⟩
    obtain ⟨h3, h4⟩ := okW_snoc.1 h1
    rw [lv_snoc hn1 hn h3 h4] at h2
    simp only [Prod.mk.injEq] at h2
    exact ⟨h4, (lv n w).1, ⟨h3, Prod.ext rfl (by show (lv n w).2 = 0; omega)⟩, h2.1, by omega⟩
  · rintro ⟨h1, e, ⟨h2, h3⟩, h4, h5⟩
    refine ⟨okW_snoc.2 ⟨h2, h1⟩, ?_⟩
    rw [lv_snoc hn1 hn h2 h1, h3]; exact Prod.ext h4 (by simp only []; omega)
theorem LF.D {n : Nat} {w d : List Nat} (hn1 : 1 ≤ n) (hn : n ≤ 8) (h : LF n w d) : IsD n d := by
  have := lv_D hn1 hn h.1; rwa [h.2] at this
theorem LF.nil {n : Nat} {d : List Nat} : LF n [] d ↔ d = un n := by
  constructor
  · rintro ⟨_, h⟩; simp [lv] at h; exact h.symm
  · rintro rfl; exact ⟨fun i hi => by simp at hi, rfl⟩
theorem LF.uniq {n : Nat} {w d e : List Nat} (h : LF n w d) (h' : LF n w e) : d = e := by
  have := h.2.symm.trans h'.2; simp at this; exact this

/-! plain: each planar diagram has a word without loops -/
theorem inj_surj : ∀ (n : Nat) (f : Nat → Nat), (∀ j, j < n → f j < n) → (∀ i j, i < n → j < n → f i = f j → i = j) → ∀ y, y < n → ∃ j, j < n ∧ f j = y
  | 0, _, _, _, y, hy => absurd hy (by omega)
  | n + 1, f, h1, h2, y, hy => by
    by_cases ht : y = f n
    · exact ⟨n, by omega, ht.symm⟩
    have hg := inj_surj n (fun j => if f j = n then f n else f j) (fun j hj => by
      have a1 := h1 j (by omega); have a2 := h1 n (by omega)
      (try dsimp only)
      split
      · rename_i e
        have : f n ≠ n := fun e2 => by have := h2 j n (by omega) (by omega) (by rw [e, e2]); omega
        omega
      · omega) (fun i j hi hj e => by
      (try dsimp only at e)
      split at e <;> split at e
      · exact h2 i j (by omega) (by omega) (by omega)
      · have := h2 n j (by omega) (by omega) e; omega
      · have := h2 i n (by omega) (by omega) e; omega
      · exact h2 i j (by omega) (by omega) e)
    by_cases hyn : y = n
    · by_cases hfn : f n = n
      · exact ⟨n, by omega, by omega⟩
      obtain ⟨j, hj, he⟩ := hg (f n) (by have := h1 n (by omega); omega)
      (try dsimp only at he)
      split at he
      · exact ⟨j, by omega, by omega⟩
      · have := h2 j n (by omega) (by omega) he; omega
    obtain ⟨j, hj, he⟩ := hg y (by omega)
    (try dsimp only at he)
    split at he
    · exact absurd he.symm ht
    · exact ⟨j, by omega, he⟩
/-- Without two neighbours that are joined, no two of a stretch are. -/
theorem no_pair {N : Nat} {q : Nat → Nat} (h : Planar N q) {A B : Nat} (hB : B ≤ N) (hn : ∀ i, A ≤ i → i + 1 < B → q i ≠ i + 1) : ∀ (L j : Nat), A ≤ j → q j = j + L + 1 → j + L + 1 < B → False := by
  intro L
  induction L using Nat.strongRecOn with
  | _ L ih =>
    intro j hA hj hl
    by_cases h0 : L = 0
    · subst h0; exact hn j hA hl hj
    obtain ⟨c1, c2⟩ := h.2 j (j + 1) (by omega) (by omega) (by omega) (by omega)
    have := (h.1 (j + 1) (by omega)).2.1
    obtain ⟨M, hM⟩ : ∃ M, q (j + 1) = (j + 1) + M + 1 := ⟨q (j + 1) - (j + 2), by omega⟩
    exact ih M (by omega) (j + 1) (by omega) hM (by omega)
theorem plc_top {n : Nat} (j : Nat) (h : j < n) : plc n j = j := by unfold plc; rw [if_pos h]
theorem plc_bot {n : Nat} (j : Nat) (h : n ≤ j) : plc n j = 3 * n - 1 - j := by unfold plc; rw [if_neg (by omega)]
section
variable {n : Nat} {d : List Nat} (hd : IsD n d)
include hd
theorem no_top (h : ∀ i, i + 1 < n → d.getD i 0 ≠ i + 1) : ∀ j, j < n → n ≤ d.getD j 0 := by
  have key := no_pair hd.pl (A := 0) (B := n) (by omega) (fun i _ hi e => by
    unfold qq at e
    rw [plc_top i (by omega)] at e
    have hl := hd.lt i (by omega)
    by_cases h1 : d.getD i 0 < n
    · rw [plc_top _ h1] at e; exact h i hi e
    · rw [plc_bot (d.getD i 0) (by omega)] at e; omega)
  have q0 : ∀ j, j < n → d.getD j 0 < n → qq n d j = d.getD j 0 := fun j hj h1 => by
    unfold qq; rw [plc_top j hj, plc_top _ h1]
  intro j hj
  refine Nat.le_of_not_lt fun h1 => ?_
  have h2 := hd.ne j (by omega)
  rcases Nat.lt_or_gt_of_ne h2 with h3 | h3
  · refine key (j - d.getD j 0 - 1) (d.getD j 0) (by omega) ?_ (by omega)
    rw [q0 _ h1 (by rw [hd.inv j (by omega)]; exact hj), hd.inv j (by omega)]; omega
  · refine key (d.getD j 0 - j - 1) j (by omega) ?_ (by omega)
    rw [q0 j hj h1]; omega
theorem no_bot (h : ∀ i, i + 1 < n → d.getD (n + i) 0 ≠ n + i + 1) : ∀ j, j < n → d.getD (n + j) 0 < n := by
  have key := no_pair hd.pl (A := n) (B := 2 * n) (by omega) (fun i hA hi e => by
    unfold qq at e
    rw [plc_bot i hA] at e
    have hl := hd.lt (3 * n - 1 - i) (by omega)
    by_cases h1 : d.getD (3 * n - 1 - i) 0 < n
    · rw [plc_top _ h1] at e; omega
    · rw [plc_bot (d.getD (3 * n - 1 - i) 0) (by omega)] at e
      have e1 : d.getD (3 * n - 1 - i) 0 = 3 * n - 2 - i := by omega
      have e2 := hd.inv (3 * n - 1 - i) (by omega)
      rw [e1] at e2
      refine h (2 * n - 2 - i) (by omega) ?_
      rw [show n + (2 * n - 2 - i) = 3 * n - 2 - i by omega, e2]; omega)
  have q0 : ∀ j, n ≤ j → j < 2 * n → n ≤ d.getD (plc n j) 0 → qq n d j = 3 * n - 1 - d.getD (plc n j) 0 := fun j hj hj2 h1 => by
    unfold qq; rw [plc_bot _ h1]
  intro j hj
  refine Nat.lt_of_not_le fun h1 => ?_
  have h2 := hd.ne (n + j) (by omega)
  have hl := hd.lt (n + j) (by omega)
  have hp : plc n (2 * n - 1 - j) = n + j := by rw [plc_bot _ (by omega)]; omega
  have hp2 : plc n (3 * n - 1 - d.getD (n + j) 0) = d.getD (n + j) 0 := by rw [plc_bot _ (by omega)]; omega
  rcases Nat.lt_or_gt_of_ne h2 with h3 | h3
  · refine key ((3 * n - 1 - d.getD (n + j) 0) - (2 * n - 1 - j) - 1) (2 * n - 1 - j) (by omega) ?_ (by omega)
    rw [q0 _ (by omega) (by omega) (by rw [hp]; exact h1), hp]; omega
  · refine key ((2 * n - 1 - j) - (3 * n - 1 - d.getD (n + j) 0) - 1) (3 * n - 1 - d.getD (n + j) 0) (by omega) ?_ (by omega)
    rw [q0 _ (by omega) (by omega) (by rw [hp2, hd.inv _ (by omega)]; omega), hp2, hd.inv _ (by omega)]; omega
/-- Without a cup above it is the unit. -/
theorem un_of (h : ∀ i, i + 1 < n → d.getD i 0 ≠ i + 1) : d = un n := by
  have ht := no_top hd h
  have hn := hd.n8
  have inj : ∀ a b, a < 2 * n → b < 2 * n → d.getD a 0 = d.getD b 0 → a = b := fun a b ha hb e => by rw [← hd.inv a ha, e, hd.inv b hb]
  have hs := inj_surj n (fun j => d.getD j 0 - n) (fun j hj => by have := hd.lt j (by omega); (try dsimp only); omega) (fun i j hi hj e => by
    have := ht i hi; have := ht j hj
    exact inj i j (by omega) (by omega) (by (try dsimp only at e); omega))
  have hb : ∀ y, y < n → d.getD (n + y) 0 < n := fun y hy => by
    obtain ⟨j, hj, e⟩ := hs y hy
    have := ht j hj
    have e2 : n + y = d.getD j 0 := by (try dsimp only at e); omega
    rw [e2, hd.inv j (by omega)]; exact hj
  have hq : ∀ j, j < n → qq n d j = 3 * n - 1 - d.getD j 0 := fun j hj => by
    unfold qq; rw [plc_top j hj, plc_bot _ (ht j hj)]
  have key : ∀ e j, j + e + 1 = n → d.getD j 0 = n + j := by
    intro e
    induction e using Nat.strongRecOn with
    | _ e ih =>
      intro j hj
      have h1 := ht j (by omega)
      have h2 := hd.lt j (by omega)
      have hqj := hq j (by omega)
      -- not below
      have lo : d.getD j 0 ≤ n + j := by
        by_cases h0 : e = 0
        · omega
        have h3 := ih (e - 1) (by omega) (j + 1) (by omega)
        have h4 := hd.pl.2 j (j + 1) (by omega) (by omega) (by omega) (by omega)
        rw [hq (j + 1) (by omega), h3] at h4
        omega
      refine Nat.le_antisymm lo (Nat.le_of_not_lt fun h5 => ?_)
      -- the place n + j lies within
      have h6 := hd.pl.2 j (2 * n - 1 - j) (by omega) (by omega) (by omega) (by omega)
      have h7 := hb j (by omega)
      have h8 : qq n d (2 * n - 1 - j) = d.getD (n + j) 0 := by
        unfold qq; rw [plc_bot (2 * n - 1 - j) (by omega), show 3 * n - 1 - (2 * n - 1 - j) = n + j by omega, plc_top _ h7]
      rw [h8] at h6
      have h9 := ih (n - 1 - d.getD (n + j) 0) (by omega) (d.getD (n + j) 0) (by omega)
      rw [hd.inv (n + j) (by omega)] at h9
      omega
  refine V_ext hd.len un_len hd.zero (un_V hd.n1 hn).zero fun j hj => ?_
  rw [un_get hn]
  by_cases h1 : j < n
  · rw [if_pos h1]; exact key (n - 1 - j) j (by omega)
  · rw [if_neg h1, if_pos hj]
    have := key (n - 1 - (j - n)) (j - n) (by omega)
    rw [show n + (j - n) = j by omega] at this
    have e := hd.inv (j - n) (by omega)
    rw [this] at e; exact e
end
end Go.Proofs.Ytgpgcdofhkpeaaa.VE
namespace Go.Proofs.Ytgpgcdofhkpeaaa.VE
open Go
set_option maxHeartbeats 1600000
set_option maxRecDepth 100000

/-! plain: each planar diagram has a word without loops -/
def RC (n : Nat) (d : List Nat) : Prop := ∃ w, LF n w d
/-- The first k lines are straight. -/
def St (n k : Nat) (d : List Nat) : Prop := ∀ j, j < k → d.getD j 0 = n + j
section
variable {n : Nat} {d : List Nat} (hd : IsD n d)
include hd
theorem St.low {k : Nat} (h : St n k d) (hk : k ≤ n) {j : Nat} (hj : j < k) : d.getD (n + j) 0 = j := by
  have e := hd.inv j (by omega); rw [h j hj] at e; exact e
/-- A line between other points touches no straight line. -/
theorem St.mg {k x y : Nat} (h : St n k d) (hk : k ≤ n) (hx : x < 2 * n) (hy : y < 2 * n) (hxy : x ≠ y) (kx : k ≤ x) (ky : k ≤ y) (kx2 : ¬ (n ≤ x ∧ x < n + k)) (ky2 : ¬ (n ≤ y ∧ y < n + k)) : St n k (mg d x y) := by
  intro j hj
  have e1 : d.getD x 0 ≠ j := fun e => by have := hd.inv x hx; rw [e, h j hj] at this; omega
  have e2 : d.getD y 0 ≠ j := fun e => by have := hd.inv y hy; rw [e, h j hj] at this; omega
  rw [mg_get' hd.toIsV hx hy hxy, if_neg (by omega), if_neg (by omega), if_neg e2, if_neg e1]
  exact h j hj
/-- Two joins, each with a neighbour, bring a cup back. -/
theorem mg_back {x y z : Nat} (hx : x < 2 * n) (hy : y < 2 * n) (hz : z < 2 * n) (hxy : x ≠ y) (hyz : y ≠ z) (hxz : x ≠ z) (h : d.getD y 0 = z) : mg (mg d x y) y z = d ∧ (mg d x y).getD y 0 = x ∧ (mg d x y).getD z 0 = d.getD x 0 := by
  have V := mg_V hd.toIsV hx hy hxy
  have hz2 : d.getD z 0 = y := by rw [← h]; exact hd.inv y hy
  have g := mg_get' hd.toIsV hx hy hxy
  have nx := hd.ne x hx
  have ix := hd.inv x hx
  have xy' : d.getD x 0 ≠ y := fun e => by rw [e, h] at ix; omega
  have xz' : d.getD x 0 ≠ z := fun e => by rw [e, hz2] at ix; omega
  have gy : (mg d x y).getD y 0 = x := by rw [g, if_pos rfl]
  have gz : (mg d x y).getD z 0 = d.getD x 0 := by rw [g, if_neg hyz, if_neg hxz, if_pos h]
  refine ⟨?_, gy, gz⟩
  refine eq_of_getD (N := 16) (by rw [mg_len, mg_len]; exact hd.len) hd.len fun p hp => ?_
  rw [mg_get' V hy hz hyz, gy, gz, g, h]
  by_cases e1 : z = p
  · rw [if_pos e1, ← e1]; exact hz2.symm
  by_cases e2 : y = p
  · rw [if_neg e1, if_pos e2, ← e2]; exact h.symm
  rw [if_neg e1, if_neg e2]
  by_cases e3 : d.getD x 0 = p
  · rw [if_pos e3, ← e3]; exact ix.symm
  rw [if_neg e3]
  by_cases e4 : x = p
  · rw [if_pos e4, ← e4]
  rw [if_neg e4, if_neg e2, if_neg e4, if_neg e1, if_neg e3]
end
section
variable {n : Nat}
theorem RC.cons {d e : List Nat} {i : Nat} (hi : i + 1 < n) (h : RC n e) (h1 : (oL n (gen n i) e n).1 = d) (h2 : lpN n (gen n i) e = 0) : RC n d := by
  obtain ⟨w, hw⟩ := h
  exact ⟨i :: w, LF.cons_iff.2 ⟨hi, e, hw, h1, h2⟩⟩
theorem RC.snoc (hn1 : 1 ≤ n) (hn : n ≤ 8) {d e : List Nat} {i : Nat} (hi : i + 1 < n) (h : RC n e) (h1 : (oL n e (gen n i) n).1 = d) (h2 : lpN n e (gen n i) = 0) : RC n d := by
  obtain ⟨w, hw⟩ := h
  exact ⟨w ++ [i], (LF.snoc_iff hn1 hn).2 ⟨hi, e, hw, h1, h2⟩⟩
/-- A cup above may be moved to the left. -/
theorem top_left {k : Nat} (hR : ∀ d, IsD n d → St n k d → d.getD k 0 = k + 1 → RC n d) : ∀ (e : Nat) (d : List Nat), k + e + 1 < n → IsD n d → St n k d → d.getD (k + e) 0 = k + e + 1 → RC n d
  | 0, d, _, hd, hs, h => hR d hd hs h
  | e + 1, d, he, hd, hs, h => by
    have hn := hd.n8
    obtain ⟨b1, b2, b3⟩ := mg_back hd (x := k + e) (y := k + e + 1) (z := k + e + 2) (by omega) (by omega) (by omega) (by omega) (by omega) (by omega) h
    have hd' := mg_top hd (k := k + e) (by omega)
    have ih := top_left hR e _ (by omega) hd' (hs.mg hd (by omega) (by omega) (by omega) (by omega) (by omega) (by omega) (by omega) (by omega)) (by
      have := (mg_V hd.toIsV (x := k + e) (y := k + e + 1) (by omega) (by omega) (by omega)).inv (k + e + 1) (by omega)
      rwa [b2] at this)
    refine RC.cons (i := k + e + 1) (by omega) ih ?_ ?_
    · rw [gen_mul hd'.toIsV (by omega)]; exact b1
    · rw [gen_lp hd'.toIsV (by omega), b2]; omega
/-- A cup below may be moved to the left. -/
theorem bot_left {k : Nat} (hR : ∀ d, IsD n d → St n k d → d.getD k 0 = k + 1 → d.getD (n + k) 0 = n + k + 1 → RC n d) : ∀ (e : Nat) (d : List Nat), k + e + 1 < n → IsD n d → St n k d → d.getD k 0 = k + 1 → d.getD (n + k + e) 0 = n + k + e + 1 → RC n d
  | 0, d, _, hd, hs, h0, h => hR d hd hs h0 h
  | e + 1, d, he, hd, hs, h0, h => by
    have hn := hd.n8
    obtain ⟨b1, b2, b3⟩ := mg_back hd (x := n + k + e) (y := n + k + e + 1) (z := n + k + e + 2) (by omega) (by omega) (by omega) (by omega) (by omega) (by omega) h
    have hd' := mg_bot hd (k := k + e) (by omega)
    rw [show n + (k + e) = n + k + e by omega] at hd'
    have ih := bot_left hR e _ (by omega) hd' (hs.mg hd (by omega) (by omega) (by omega) (by omega) (by omega) (by omega) (by omega) (by omega)) (by
      have i0 := hd.inv k (by omega)
      rw [h0] at i0
      have i1 := hd.inv (n + k + e) (by omega)
      have i2 := hd.inv (n + k + e + 1) (by omega)
      rw [mg_get' hd.toIsV (by omega) (by omega) (by omega), if_neg (by omega), if_neg (by omega), if_neg (fun e => by rw [e, h0] at i2; omega), if_neg (fun e => by rw [e, h0] at i1; omega)]
      exact h0) (by
      have := (mg_V hd.toIsV (x := n + k + e) (y := n + k + e + 1) (by omega) (by omega) (by omega)).inv (n + k + e + 1) (by omega)
      rwa [b2] at this)
    refine RC.snoc hd.n1 hn (i := k + e + 1) (by omega) ih ?_ ?_
    · rw [mul_gen hd'.toIsV (by omega), show n + (k + e + 1) = n + k + e + 1 by omega]; exact b1
    · rw [lp_gen hd'.toIsV (by omega), show n + (k + e + 1) = n + k + e + 1 by omega, b2]; omega
/-- Two neighbouring cups at the ends are opened: still planar. -/
theorem pl_open {k s : Nat} {q r : Nat → Nat} (h : Planar (k + s + 2) q) (hs : k + 1 < s) (Q1 : q k = k + 1) (Q3 : q s = s + 1) (Qs : ∀ j, j < k → q j = k + s + 1 - j)
    (R1 : r k = s + 1) (R2 : r (k + 1) = s) (R3 : r (s + 1) = k) (R4 : r s = k + 1) (Ro : ∀ j, j < k + s + 2 → j ≠ k → j ≠ k + 1 → j ≠ s + 1 → j ≠ s → r j = q j) : Planar (k + s + 2) r := by
  have Q2 : q (k + 1) = k := by rw [← Q1]; exact (h.1 k (by omega)).2.2
  have Q4 : q (s + 1) = s := by rw [← Q3]; exact (h.1 s (by omega)).2.2
  have Qs2 : ∀ j, s + 1 < j → j < k + s + 2 → q j = k + s + 1 - j := fun j h1 h2 => by
    have e1 := Qs (k + s + 1 - j) (by omega)
    have e2 := (h.1 (k + s + 1 - j) (by omega)).2.2
    rwa [e1, show k + s + 1 - (k + s + 1 - j) = j by omega] at e2
  have Rn : ∀ j, j < k + s + 2 → j ≠ k → j ≠ k + 1 → j ≠ s + 1 → j ≠ s → q j ≠ k ∧ q j ≠ k + 1 ∧ q j ≠ s + 1 ∧ q j ≠ s := fun j hj a1 a2 a3 a4 => by
    have e2 := (h.1 j hj).2.2
    refine ⟨fun e => ?_, fun e => ?_, fun e => ?_, fun e => ?_⟩
    · rw [e, Q1] at e2; exact a2 e2.symm
    · rw [e, Q2] at e2; exact a1 e2.symm
    · rw [e, Q4] at e2; exact a4 e2.symm
    · rw [e, Q3] at e2; exact a3 e2.symm
  have Ri : ∀ j, k + 1 < j → j < s → k + 1 < q j ∧ q j < s := fun j a1 a2 => by
    obtain ⟨b2, b3, b4, b5⟩ := Rn j (by omega) (by omega) (by omega) (by omega) (by omega)
    have l := (h.1 j (by omega)).1
    have i := (h.1 j (by omega)).2.2
    by_cases c1 : q j < k
    · have := Qs _ c1; omega
    by_cases c2 : s + 1 < q j
    · have := Qs2 (q j) c2 l; omega
    omega
  refine ⟨fun j hj => ?_, fun j c hj a1 a2 a3 => ?_⟩
  · by_cases j1 : j = k
    · rw [j1, R1, R3]; omega
    by_cases j2 : j = k + 1
    · rw [j2, R2, R4]; omega
    by_cases j3 : j = s + 1
    · rw [j3, R3, R1]; omega
    by_cases j4 : j = s
    · rw [j4, R4, R2]; omega
    obtain ⟨b2, b3, b4, b5⟩ := Rn j hj j1 j2 j3 j4
    obtain ⟨w1, w2, w3⟩ := h.1 j hj
    rw [Ro j hj j1 j2 j3 j4, Ro (q j) w1 b2 b3 b4 b5]; exact ⟨w1, w2, w3⟩
  · by_cases j0 : j < k
    · have e0 := Ro j hj (by omega) (by omega) (by omega) (by omega)
      rw [e0, Qs j j0] at a3 ⊢
      by_cases c1 : c = k
      · rw [c1, R1]; omega
      by_cases c2 : c = k + 1
      · rw [c2, R2]; omega
      by_cases c3 : c = s + 1
      · rw [c3, R3]; omega
      by_cases c4 : c = s
      · rw [c4, R4]; omega
      rw [Ro c (by omega) c1 c2 c3 c4]
      have := h.2 j c hj (by rw [Qs j j0]; omega) a2 (by rw [Qs j j0]; omega)
      rwa [Qs j j0] at this
    by_cases j1 : j = k
    · rw [j1, R1] at a3 ⊢
      by_cases c2 : c = k + 1
      · rw [c2, R2]; omega
      by_cases c4 : c = s
      · rw [c4, R4]; omega
      rw [Ro c (by omega) (by omega) c2 (by omega) c4]
      have := Ri c (by omega) (by omega); omega
    by_cases j2 : j = k + 1
    · rw [j2, R2] at a3 ⊢
      rw [Ro c (by omega) (by omega) (by omega) (by omega) (by omega)]
      have := Ri c (by omega) (by omega); omega
    by_cases j3 : j = s + 1
    · rw [j3, R3] at a1; omega
    by_cases j4 : j = s
    · rw [j4, R4] at a1; omega
    rw [Ro j hj j1 j2 j3 j4] at a1 a3 ⊢
    by_cases j5 : j < s
    · have r := Ri j (by omega) j5
      rw [Ro c (by omega) (by omega) (by omega) (by omega) (by omega)]
      exact h.2 j c hj a1 a2 a3
    · have := Qs2 j (by omega) hj; omega
/-- Cups above one another at the left end are opened. -/
theorem open_D {k : Nat} {d : List Nat} (hk : k + 1 < n) (hd : IsD n d) (hs : St n k d) (h1 : d.getD k 0 = k + 1) (h2 : d.getD (n + k) 0 = n + k + 1) :
    IsD n (mg d k (n + k)) ∧ St n (k + 2) (mg d k (n + k)) ∧ mg (mg d k (n + k)) k (k + 1) = d := by
  have hn := hd.n8
  have i1 : d.getD (k + 1) 0 = k := by have := hd.inv k (by omega); rwa [h1] at this
  have i2 : d.getD (n + k + 1) 0 = n + k := by have := hd.inv (n + k) (by omega); rwa [h2] at this
  have g := mg_get' hd.toIsV (x := k) (y := n + k) (by omega) (by omega) (by omega)
  rw [h1, h2] at g
  have V := mg_V hd.toIsV (x := k) (y := n + k) (by omega) (by omega) (by omega)
  have gk : (mg d k (n + k)).getD k 0 = n + k := by rw [g, if_neg (by omega), if_pos rfl]
  have gk1 : (mg d k (n + k)).getD (k + 1) 0 = n + k + 1 := by rw [g, if_neg (by omega), if_neg (by omega), if_neg (by omega), if_pos rfl]
  have gm : (mg d k (n + k)).getD (n + k) 0 = k := by rw [g, if_pos rfl]
  have gm1 : (mg d k (n + k)).getD (n + k + 1) 0 = k + 1 := by rw [g, if_neg (by omega), if_neg (by omega), if_pos rfl]
  have go : ∀ p, p ≠ k → p ≠ k + 1 → p ≠ n + k → p ≠ n + k + 1 → (mg d k (n + k)).getD p 0 = d.getD p 0 := fun p a1 a2 a3 a4 => by
    rw [g, if_neg (Ne.symm a3), if_neg (Ne.symm a1), if_neg (Ne.symm a4), if_neg (Ne.symm a2)]
  refine ⟨⟨V, ?_⟩, ?_, ?_⟩
  · -- in reading order: k, k + 1, .., s, s + 1
    obtain ⟨t, ht⟩ : ∃ t, 2 * n = k + t + 2 := ⟨2 * n - 2 - k, by omega⟩
    have hpl := hd.pl
    clear g V
    rw [ht] at hpl ⊢
    refine pl_open hpl (by omega) ?_ ?_ (fun j hj => ?_) ?_ ?_ ?_ ?_ (fun j hj a1 a2 a3 a4 => ?_)
    · unfold qq; rw [plc_top k (by omega), h1, plc_top _ hk]
    · unfold qq; rw [plc_bot t (by omega), show 3 * n - 1 - t = n + k + 1 by omega, i2, plc_bot _ (by omega)]; omega
    · unfold qq; rw [plc_top j (by omega), hs j hj, plc_bot _ (by omega)]; omega
    · unfold qq; rw [plc_top k (by omega), gk, plc_bot _ (by omega)]; omega
    · unfold qq; rw [plc_top (k + 1) (by omega), gk1, plc_bot _ (by omega)]; omega
    · unfold qq; rw [plc_bot (t + 1) (by omega), show 3 * n - 1 - (t + 1) = n + k by omega, gm, plc_top k (by omega)]
    · unfold qq; rw [plc_bot t (by omega), show 3 * n - 1 - t = n + k + 1 by omega, gm1, plc_top (k + 1) (by omega)]
    · unfold qq
      have l : plc n j ≠ k ∧ plc n j ≠ k + 1 ∧ plc n j ≠ n + k ∧ plc n j ≠ n + k + 1 := by
        clear go gk gk1 gm gm1 i1 i2 h1 h2
        unfold plc; split <;> omega
      rw [go (plc n j) l.1 l.2.1 l.2.2.1 l.2.2.2]
  · intro j hj
    by_cases c1 : j = k
    · subst c1; exact gk
    by_cases c2 : j = k + 1
    · subst c2; rw [gk1]; omega
    rw [go j c1 c2 (by omega) (by omega)]; exact hs j (by omega)
  · refine eq_of_getD (N := 16) (by rw [mg_len, mg_len]; exact hd.len) hd.len fun p hp => ?_
    rw [mg_get' V (by omega) (by omega) (by omega), gk, gk1]
    by_cases c2 : k + 1 = p
    · rw [if_pos c2, ← c2, i1]
    by_cases c1 : k = p
    · rw [if_neg c2, if_pos c1, ← c1, h1]
    by_cases c3 : n + k + 1 = p
    · rw [if_neg c2, if_neg c1, if_pos c3, ← c3, i2]
    by_cases c4 : n + k = p
    · rw [if_neg c2, if_neg c1, if_neg c3, if_pos c4, ← c4, h2]
    rw [if_neg c2, if_neg c1, if_neg c3, if_neg c4]
    exact go p (Ne.symm c1) (Ne.symm c2) (Ne.symm c4) (Ne.symm c3)
theorem reach_St (hn1 : 1 ≤ n) (hn : n ≤ 8) : ∀ (m k : Nat), n ≤ k + m → k ≤ n → ∀ d, IsD n d → St n k d → RC n d := by
  intro m
  induction m using Nat.strongRecOn with
  | _ m ih =>
    intro k hm hk d hd hs
    by_cases hu : ∀ i, i + 1 < n → d.getD i 0 ≠ i + 1
    · exact ⟨[], LF.nil.2 (un_of hd hu)⟩
    obtain ⟨i, hi⟩ := Classical.not_forall.1 hu
    obtain ⟨hi, hc⟩ := Classical.not_imp.1 hi
    have hc := Classical.not_not.1 hc
    have hik : k ≤ i := Nat.le_of_not_lt fun h => by have := hs i h; omega
    refine top_left (k := k) (fun d hd hs h1 => ?_) (i - k) d (by omega) hd hs (by rw [show k + (i - k) = i by omega]; exact hc)
    -- there is a cup below
    have hb : ¬ ∀ i, i + 1 < n → d.getD (n + i) 0 ≠ n + i + 1 := fun h => by
      have hlow := no_bot hd h
      obtain ⟨y, hy, e⟩ := inj_surj n (fun j => d.getD (n + j) 0) hlow (fun a b ha hb e => by
        have e' : d.getD (n + a) 0 = d.getD (n + b) 0 := e
        have := hd.inv (n + a) (by omega)
        rw [e', hd.inv (n + b) (by omega)] at this; omega) k (by omega)
      have e' : d.getD (n + y) 0 = k := e
      have := hd.inv (n + y) (by omega)
      rw [e', h1] at this; omega
    obtain ⟨j, hj⟩ := Classical.not_forall.1 hb
    obtain ⟨hj, hcj⟩ := Classical.not_imp.1 hj
    have hcj := Classical.not_not.1 hcj
    have hjk : k ≤ j := Nat.le_of_not_lt fun h => by have := St.low hd hs (by omega) h; omega
    refine bot_left (k := k) (fun d hd hs h1 h2 => ?_) (j - k) d (by omega) hd hs h1 (by rw [show n + k + (j - k) = n + j by omega]; exact hcj)
    obtain ⟨o1, o2, o3⟩ := open_D (by omega) hd hs h1 h2
    refine RC.cons (i := k) (by omega) (ih (m - 1) (by omega) (k + 2) (by omega) (by omega) _ o1 o2) ?_ ?_
    · rw [gen_mul o1.toIsV (by omega)]; exact o3
    · rw [gen_lp o1.toIsV (by omega), o2 k (by omega)]; omega
end
/-- Each planar diagram has a word without loops. -/
theorem reach {n : Nat} {d : List Nat} (hd : IsD n d) : RC n d := reach_St hd.n1 hd.n8 n 0 (by omega) (by omega) d hd (fun j hj => by omega)
end Go.Proofs.Ytgpgcdofhkpeaaa.VE
