/- Contracts of functions of the given program, for all arguments that the contract names; see each theorem. -/
import Derived.Test.YtgpgcdofhkpeaaaK2
set_option linter.all false
namespace Go.Proofs.Ytgpgcdofhkpeaaa.VE
open Go
set_option maxHeartbeats 800000
set_option maxRecDepth 100000

/-! plain: three diagrams, one above the other, among 4 n points: the product is associative, with its loops -/
def E3 (n : Nat) (a b c : List Nat) (x y : Nat) : Prop := (x < 2 * n ∧ y = a.getD x 0) ∨ (n ≤ x ∧ x < 3 * n ∧ y = n + b.getD (x - n) 0) ∨ (2 * n ≤ x ∧ x < 4 * n ∧ y = 2 * n + c.getD (x - 2 * n) 0)
/-- Points of the upper two with the third, among all. -/
def ps (n x : Nat) : Nat := if x < 2 * n then x else n + x
theorem op_op {n p : Nat} (hp : p < 2 * n) : op n (op n p) = ps n (op n p) := by
  unfold op ps
  by_cases h : p < n
  · simp only [if_pos h]; rw [if_pos (show p < 2 * n by omega)]
  · rw [if_neg h, if_neg (show ¬ n + p < n by omega), if_neg (show ¬ n + p < 2 * n by omega)]

section
variable {n : Nat} {a b c : List Nat} (ha : IsV n a) (hb : IsV n b) (hc : IsV n c)
include ha hb hc
theorem E3.symm : ∀ x y, E3 n a b c x y → E3 n a b c y x := by
  rintro x y (⟨h1, rfl⟩ | ⟨h1, h2, rfl⟩ | ⟨h1, h2, rfl⟩)
  · exact .inl ⟨ha.lt x h1, (ha.inv x h1).symm⟩
  · have h3 := hb.lt (x - n) (by omega)
    have h4 := hb.inv (x - n) (by omega)
    refine .inr (.inl ⟨by omega, by omega, ?_⟩)
    rw [Nat.add_sub_cancel_left, h4]; omega
  · have h3 := hc.lt (x - 2 * n) (by omega)
    have h4 := hc.inv (x - 2 * n) (by omega)
    refine .inr (.inr ⟨by omega, by omega, ?_⟩)
    rw [Nat.add_sub_cancel_left, h4]; omega
omit ha hb hc in
theorem E3_ab {x y : Nat} (h : E2 n a b x y) : E3 n a b c x y := by
  rcases h with h | h
  · exact .inl h
  · exact .inr (.inl h)
omit ha hb hc in
theorem E3_bc {x y : Nat} (h : E2 n b c x y) : E3 n a b c (n + x) (n + y) := by
  rcases h with ⟨h1, rfl⟩ | ⟨h1, h2, rfl⟩
  · exact .inr (.inl ⟨by omega, by omega, by rw [Nat.add_sub_cancel_left]⟩)
  · exact .inr (.inr ⟨by omega, by omega, by rw [show n + x - 2 * n = x - n from by omega]; omega⟩)
omit ha hb hc in
theorem cn_shift {x y : Nat} (h : Cn (E2 n b c) x y) : Cn (E3 n a b c) (n + x) (n + y) := by
  induction h with
  | refl => exact .refl _
  | step _ e ih => exact .step ih (E3_bc e)
omit ha hb hc in
theorem cn_ab {x y : Nat} (h : Cn (E2 n a b) x y) : Cn (E3 n a b c) x y := h.mono fun _ _ e => .one (E3_ab e)
omit hb hc in
theorem E3_lt_a {x : Nat} (h : x < 2 * n) : a.getD x 0 < 2 * n := ha.lt x h

/-- What is joined through the upper two. -/
theorem cn_left {x y : Nat} (hx : x < 3 * n) (hy : y < 3 * n) : Cn (E3 n a b c) (op n x) (op n y) ↔ Cn (E2 n (oL n a b n).1 c) x y := by
  have hn := ha.n1
  have hD := oL_V ha hb
  -- an edge of the product is a way
  have edge : ∀ x y, E2 n (oL n a b n).1 c x y → Cn (E3 n a b c) (op n x) (op n y) := by
    rintro x y (⟨h1, rfl⟩ | ⟨h1, h2, rfl⟩)
    · have h2 := hD.lt x h1
      exact cn_ab ((oL_cn ha hb h1 h2).2 (.inr rfl))
    · have h3 := hc.lt (x - n) (by omega)
      refine .one (.inr (.inr ?_))
      unfold op
      rw [if_neg (by omega), if_neg (by omega)]
      exact ⟨by omega, by omega, by rw [show n + x - 2 * n = x - n from by omega]; omega⟩
  constructor
  · intro h
    have hop : ∀ z, z < 3 * n → op n z < n ∨ (2 * n ≤ op n z ∧ op n z < 4 * n) := fun z hz => by unfold op; split <;> omega
    have hout : ∀ z, z < 2 * n → op n z < 3 * n := fun z hz => by unfold op; split <;> omega
    have hcl := Cn.closed (S := fun z => (∃ u, u < 3 * n ∧ z = op n u ∧ Cn (E2 n (oL n a b n).1 c) x u) ∨ (n ≤ z ∧ z < 2 * n ∧ ∃ u, u < 2 * n ∧ Cn (E2 n a b) (op n u) z ∧ Cn (E2 n (oL n a b n).1 c) x u)) (fun z w hz hE => by
      -- a step inside the upper two
      have inner : ∀ u, u < 2 * n → Cn (E2 n (oL n a b n).1 c) x u → Cn (E2 n a b) (op n u) w → w < 3 * n → (∃ u, u < 3 * n ∧ w = op n u ∧ Cn (E2 n (oL n a b n).1 c) x u) ∨ (n ≤ w ∧ w < 2 * n ∧ ∃ u, u < 2 * n ∧ Cn (E2 n a b) (op n u) w ∧ Cn (E2 n (oL n a b n).1 c) x u) := by
        intro u hu hxu hcw hw
        by_cases hmid : n ≤ w ∧ w < 2 * n
        · exact .inr ⟨hmid.1, hmid.2, u, hu, hcw, hxu⟩
        · obtain ⟨q, hq, hqw⟩ : ∃ q, q < 2 * n ∧ w = op n q := by
            by_cases h : w < n
            · exact ⟨w, by omega, by unfold op; rw [if_pos h]⟩
            · exact ⟨w - n, by omega, by unfold op; rw [if_neg (by omega)]; omega⟩
          rw [hqw] at hcw
          refine .inl ⟨q, by omega, hqw, ?_⟩
          rcases (oL_cn ha hb hu hq).1 hcw with h | h
          · rw [h]; exact hxu
          · exact .step hxu (.inl ⟨hu, h⟩)
      have hab : ∀ z w, E2 n a b z w → w < 3 * n := by
        rintro z w (⟨h1, rfl⟩ | ⟨h1, h2, rfl⟩)
        · have := ha.lt z h1; omega
        · have := hb.lt (z - n) (by omega); omega
      rcases hz with ⟨u, hu, rfl, hxu⟩ | ⟨h1, h2, u, hu, huz, hxu⟩
      · rcases hE with hE | hE | ⟨h3, h4, rfl⟩
        · have hE' : E2 n a b (op n u) w := .inl hE
          have hu2 : u < 2 * n := by have := hE.1; unfold op at this; split at this <;> omega
          exact inner u hu2 hxu (.one hE') (hab _ _ hE')
        · have hE' : E2 n a b (op n u) w := .inr hE
          have hu2 : u < 2 * n := by have := hE.2.1; unfold op at this; split at this <;> omega
          exact inner u hu2 hxu (.one hE') (hab _ _ hE')
        · have hun : n ≤ u := by unfold op at h3; split at h3 <;> omega
          have e1 : op n u - 2 * n = u - n := by unfold op; rw [if_neg (by omega)]; omega
          have h5 := hc.lt (u - n) (by omega)
          rw [e1]
          refine .inl ⟨n + c.getD (u - n) 0, by omega, ?_, .step hxu (.inr ⟨hun, hu, rfl⟩)⟩
          unfold op; rw [if_neg (by omega)]; omega
      · have hE' : E2 n a b z w := by
          rcases hE with hE | hE | ⟨h3, _⟩
          · exact .inl hE
          · exact .inr hE
          · omega
        exact inner u hu hxu (.step huz hE') (hab _ _ hE')) h (.inl ⟨x, hx, rfl, .refl _⟩)
    rcases hcl with ⟨u, _, h1, h2⟩ | ⟨h1, h2, _⟩
    · rw [op_inj h1]; exact h2
    · have := hop y hy; omega
  · intro h
    have : ∀ y, Cn (E2 n (oL n a b n).1 c) x y → Cn (E3 n a b c) (op n x) (op n y) := by
      intro y h
      induction h with
      | refl => exact .refl _
      | step _ e ih => exact ih.trans (edge _ _ e)
    exact this y h
/-- What is joined through the lower two. -/
theorem cn_right {x y : Nat} (hx : x < 3 * n) (hy : y < 3 * n) : Cn (E3 n a b c) (ps n x) (ps n y) ↔ Cn (E2 n a (oL n b c n).1) x y := by
  have hn := ha.n1
  have hD := oL_V hb hc
  have hps : ∀ u, n ≤ u → ps n u = n + op n (u - n) := fun u hu => by unfold ps op; split <;> split <;> omega
  have edge : ∀ x y, E2 n a (oL n b c n).1 x y → Cn (E3 n a b c) (ps n x) (ps n y) := by
    rintro x y (⟨h1, rfl⟩ | ⟨h1, h2, rfl⟩)
    · have h2 := ha.lt x h1
      refine .one (.inl ?_)
      unfold ps; rw [if_pos h1, if_pos h2]; exact ⟨h1, rfl⟩
    · have h3 := hD.lt (x - n) (by omega)
      rw [hps x h1, hps _ (by omega), Nat.add_sub_cancel_left]
      exact cn_shift ((oL_cn hb hc (by omega) h3).2 (.inr rfl))
  constructor
  · intro h
    have hcl := Cn.closed (S := fun z => (∃ u, u < 3 * n ∧ z = ps n u ∧ Cn (E2 n a (oL n b c n).1) x u) ∨ (2 * n ≤ z ∧ z < 3 * n ∧ ∃ u, u < 2 * n ∧ Cn (E2 n b c) (op n u) (z - n) ∧ Cn (E2 n a (oL n b c n).1) x (n + u))) (fun z w hz hE => by
      have inner : ∀ u w', w = n + w' → u < 2 * n → Cn (E2 n a (oL n b c n).1) x (n + u) → Cn (E2 n b c) (op n u) w' → w' < 3 * n → (∃ u, u < 3 * n ∧ w = ps n u ∧ Cn (E2 n a (oL n b c n).1) x u) ∨ (2 * n ≤ w ∧ w < 3 * n ∧ ∃ u, u < 2 * n ∧ Cn (E2 n b c) (op n u) (w - n) ∧ Cn (E2 n a (oL n b c n).1) x (n + u)) := by
        intro u w' hww hu hxu hcw hw
        by_cases hmid : n ≤ w' ∧ w' < 2 * n
        · exact .inr ⟨by omega, by omega, u, hu, by rw [hww, Nat.add_sub_cancel_left]; exact hcw, hxu⟩
        · obtain ⟨q, hq, hqw⟩ : ∃ q, q < 2 * n ∧ w' = op n q := by
            by_cases h : w' < n
            · exact ⟨w', by omega, by unfold op; rw [if_pos h]⟩
            · exact ⟨w' - n, by omega, by unfold op; rw [if_neg (by omega)]; omega⟩
          rw [hqw] at hcw
          refine .inl ⟨n + q, by omega, by rw [hww, hqw, hps _ (by omega), Nat.add_sub_cancel_left], ?_⟩
          rcases (oL_cn hb hc hu hq).1 hcw with h | h
          · rw [h]; exact hxu
          · refine .step hxu (.inr ⟨by omega, by omega, ?_⟩)
            rw [Nat.add_sub_cancel_left, h]
      have hbc : ∀ z w, E2 n b c z w → w < 3 * n := by
        rintro z w (⟨h1, rfl⟩ | ⟨h1, h2, rfl⟩)
        · have := hb.lt z h1; omega
        · have := hc.lt (z - n) (by omega); omega
      -- an edge of the lower two
      have low : n ≤ z → ((n ≤ z ∧ z < 3 * n ∧ w = n + b.getD (z - n) 0) ∨ (2 * n ≤ z ∧ z < 4 * n ∧ w = 2 * n + c.getD (z - 2 * n) 0)) → ∃ w', w = n + w' ∧ E2 n b c (z - n) w' := by
        rintro hz (⟨h1, h2, rfl⟩ | ⟨h1, h2, rfl⟩)
        · exact ⟨_, rfl, .inl ⟨by omega, rfl⟩⟩
        · exact ⟨n + c.getD (z - 2 * n) 0, by omega, .inr ⟨by omega, by omega, by rw [show z - n - n = z - 2 * n from by omega]⟩⟩
      rcases hz with ⟨u, hu, rfl, hxu⟩ | ⟨h1, h2, u, hu, huz, hxu⟩
      · rcases hE with ⟨h3, rfl⟩ | hE
        · have hu2 : ps n u = u := by unfold ps; unfold ps at h3; split at h3 <;> first | rw [if_pos ‹_›] | omega
          rw [hu2] at h3 ⊢
          have h4 := ha.lt u h3
          exact .inl ⟨_, by omega, by unfold ps; rw [if_pos h4], .step hxu (.inl ⟨h3, rfl⟩)⟩
        · have hun : n ≤ u := by
            have : n ≤ ps n u := by rcases hE with h | h <;> omega
            unfold ps at this; split at this <;> omega
          obtain ⟨w', hw', he⟩ := low (by rw [hps u hun]; omega) hE
          have e1 : ps n u - n = op n (u - n) := by rw [hps u hun, Nat.add_sub_cancel_left]
          rw [e1] at he
          exact inner (u - n) w' hw' (by omega) (by rw [show n + (u - n) = u from by omega]; exact hxu) (.one he) (hbc _ _ he)
      · have hE' : (n ≤ z ∧ z < 3 * n ∧ w = n + b.getD (z - n) 0) ∨ (2 * n ≤ z ∧ z < 4 * n ∧ w = 2 * n + c.getD (z - 2 * n) 0) := by
          rcases hE with ⟨h3, _⟩ | hE
          · omega
          · exact hE
        obtain ⟨w', hw', he⟩ := low (by omega) hE'
        exact inner u w' hw' hu hxu (.step huz he) (hbc _ _ he)) h (.inl ⟨x, hx, rfl, .refl _⟩)
    rcases hcl with ⟨u, _, h1, h2⟩ | ⟨h1, h2, _⟩
    · have : y = u := by unfold ps at h1; split at h1 <;> split at h1 <;> omega
      rw [this]; exact h2
    · unfold ps at h1 h2; split at h1 <;> split at h2 <;> omega
  · intro h
    have : ∀ y, Cn (E2 n a (oL n b c n).1) x y → Cn (E3 n a b c) (ps n x) (ps n y) := by
      intro y h
      induction h with
      | refl => exact .refl _
      | step _ e ih => exact ih.trans (edge _ _ e)
    exact this y h

/-- The product of three. -/
theorem mul_assoc_V : (oL n (oL n a b n).1 c n).1 = (oL n a (oL n b c n).1 n).1 := by
  have hD := oL_V ha hb
  have hF := oL_V hb hc
  have hX := oL_V hD hc
  have hY := oL_V ha hF
  refine eq_of_getD hX.len hY.len fun p hp => ?_
  by_cases h : p < 2 * n
  · have h1 := hX.lt p h
    have hout : ∀ q, q < 2 * n → op n q < 3 * n := fun q hq => by unfold op; split <;> omega
    have key : Cn (E2 n a (oL n b c n).1) (op n p) (op n ((oL n (oL n a b n).1 c n).1.getD p 0)) := by
      rw [← cn_right ha hb hc (hout _ h) (hout _ h1), ← op_op h, ← op_op h1, cn_left ha hb hc (hout _ h) (hout _ h1)]
      exact (oL_cn hD hc h h1).2 (.inr rfl)
    rcases (oL_cn ha hF h h1).1 key with h2 | h2
    · exact absurd h2 (hX.ne p h)
    · exact h2
  · rw [hX.zero p (by omega), hY.zero p (by omega)]

omit ha hb hc in
theorem exists_mem_iff {s t : List Nat} {R : Nat → Nat → Prop} {x : Nat} (h : ∀ y, y ∈ s ↔ y ∈ t) : (∃ y, y ∈ s ∧ R y x) ↔ ∃ y, y ∈ t ∧ R y x :=
  ⟨fun ⟨y, hy, hr⟩ => ⟨y, (h y).1 hy, hr⟩, fun ⟨y, hy, hr⟩ => ⟨y, (h y).2 hy, hr⟩⟩
omit ha hb hc in
/-- Loops inside a part of the points, seen from all: 'f' tells where the part lies. -/
theorem cls_inner {R2 R3 : Nat → Nat → Prop} {f : Nat → Nat} {out : List Nat} (hsub : ∀ x y, R2 x y → R3 (f x) (f y)) :
    ∀ (l s t : List Nat), (∀ x z, (x ∈ l ∨ x ∈ t) → z ∈ l → R3 (f x) (f z) → R2 x z ∨ ∃ y, y ∈ out ∧ R2 y z) → (∀ y, y ∈ out → y ∈ t) → (∀ z, z ∈ l → ((∃ y, y ∈ s ∧ R3 y (f z)) ↔ ∃ y, y ∈ t ∧ R2 y z)) → cls R3 s (l.map f) = cls R2 t l
  | [], _, _, _, _, _ => rfl
  | x :: l, s, t, hin, ho, hI => by
    simp only [List.map_cons, cls]
    rw [show (∃ y, y ∈ s ∧ R3 y (f x)) = (∃ y, y ∈ t ∧ R2 y x) from propext (hI x (by simp))]
    congr 1
    refine cls_inner hsub l (f x :: s) (x :: t) (fun u z hu hz => hin u z (by
      rcases hu with hu | hu
      · exact .inl (by simp [hu])
      · rcases List.mem_cons.1 hu with rfl | hu
        · exact .inl (by simp)
        · exact .inr hu) (by simp [hz])) (fun y hy => by simp [ho y hy]) fun z hz => ?_
    have hz' := hI z (by simp [hz])
    constructor
    · rintro ⟨y, hy, hr⟩
      rcases List.mem_cons.1 hy with rfl | hy
      · rcases hin x z (.inl (by simp)) (by simp [hz]) hr with h | ⟨u, hu, h⟩
        · exact ⟨x, by simp, h⟩
        · exact ⟨u, by simp [ho u hu], h⟩
      · obtain ⟨u, hu, h⟩ := hz'.1 ⟨y, hy, hr⟩
        exact ⟨u, by simp [hu], h⟩
    · rintro ⟨y, hy, hr⟩
      rcases List.mem_cons.1 hy with rfl | hy
      · exact ⟨f y, by simp, hsub _ _ hr⟩
      · obtain ⟨u, hu, h⟩ := hz'.2 ⟨y, hy, hr⟩
        exact ⟨u, by simp [hu], h⟩
/-- A way to a middle point of the upper two either stays inside, or meets what is outer there. -/
theorem mid_ab {x z : Nat} (hz : z ∈ midL n) (h : Cn (E3 n a b c) x z) : (x ∈ midL n ∧ Cn (E2 n a b) x z) ∨ ∃ y, y ∈ outL n ∧ Cn (E2 n a b) y z := by
  refine Cn.closed (S := fun w => (w ∈ midL n ∧ Cn (E2 n a b) w z) ∨ ∃ y, y ∈ outL n ∧ Cn (E2 n a b) y z) (fun w u hw hE => ?_) (h.symm (E3.symm ha hb hc)) (.inl ⟨hz, .refl _⟩)
  rcases hw with ⟨hm, hwz⟩ | hw
  · have hm' := mem_midL.1 hm
    have hE' : E2 n a b w u := by
      rcases hE with hE | hE | ⟨h3, _⟩
      · exact .inl hE
      · exact .inr hE
      · omega
    have huz : Cn (E2 n a b) u z := (Cn.one (E2.symm ha hb _ _ hE')).trans hwz
    have hu3 : u < 3 * n := by
      rcases hE' with ⟨h1, rfl⟩ | ⟨h1, h2, rfl⟩
      · have := ha.lt w h1; omega
      · have := hb.lt (w - n) (by omega); omega
    by_cases hum : n ≤ u ∧ u < 2 * n
    · exact .inl ⟨mem_midL.2 hum, huz⟩
    · exact .inr ⟨u, mem_outL.2 (by omega), huz⟩
  · exact .inr hw
theorem mid_bc {x z : Nat} (hz : z ∈ midL n) (h : Cn (E3 n a b c) x (n + z)) : (∃ x', x = n + x' ∧ x' ∈ midL n ∧ Cn (E2 n b c) x' z) ∨ ∃ y, y ∈ outL n ∧ Cn (E2 n b c) y z := by
  refine Cn.closed (S := fun w => (∃ w', w = n + w' ∧ w' ∈ midL n ∧ Cn (E2 n b c) w' z) ∨ ∃ y, y ∈ outL n ∧ Cn (E2 n b c) y z) (fun w u hw hE => ?_) (h.symm (E3.symm ha hb hc)) (.inl ⟨z, rfl, hz, .refl _⟩)
  rcases hw with ⟨w', rfl, hm, hwz⟩ | hw
  · have hm' := mem_midL.1 hm
    obtain ⟨u', rfl, hE'⟩ : ∃ u', u = n + u' ∧ E2 n b c w' u' := by
      rcases hE with ⟨h3, _⟩ | ⟨h1, h2, rfl⟩ | ⟨h1, h2, rfl⟩
      · omega
      · exact ⟨_, rfl, .inl ⟨by omega, by rw [Nat.add_sub_cancel_left]⟩⟩
      · exact ⟨n + c.getD (w' - n) 0, by rw [show n + w' - 2 * n = w' - n from by omega]; omega, .inr ⟨by omega, by omega, rfl⟩⟩
    have huz : Cn (E2 n b c) u' z := (Cn.one (E2.symm hb hc _ _ hE')).trans hwz
    have hu3 : u' < 3 * n := by
      rcases hE' with ⟨h1, rfl⟩ | ⟨h1, h2, rfl⟩
      · have := hb.lt w' h1; omega
      · have := hc.lt (w' - n) (by omega); omega
    by_cases hum : n ≤ u' ∧ u' < 2 * n
    · exact .inl ⟨u', rfl, mem_midL.2 hum, huz⟩
    · exact .inr ⟨u', mem_outL.2 (by omega), huz⟩
  · exact .inr hw
/-- The loops of the product of three. -/
theorem loops_assoc : lpN n a b + lpN n (oL n a b n).1 c = lpN n b c + lpN n a (oL n b c n).1 := by
  have hD := oL_V ha hb
  have hF := oL_V hb hc
  have hsym : ∀ x y, Cn (E3 n a b c) x y → Cn (E3 n a b c) y x := fun x y h => h.symm (E3.symm ha hb hc)
  have htr : ∀ x y z, Cn (E3 n a b c) x y → Cn (E3 n a b c) y z → Cn (E3 n a b c) x z := fun x y z h1 h2 => h1.trans h2
  have hout : ∀ p, p < 2 * n → op n p < 3 * n := fun q hq => by unfold op; split <;> omega
  -- the points: outer ones, the first middle, the second middle
  have hO : (outL n).map (op n) = (outL n).map (ps n) := by
    refine List.map_congr_left fun v hv => ?_
    obtain ⟨p, hp, rfl⟩ := List.mem_map.1 hv
    exact op_op (List.mem_range.1 hp)
  have hM1 : (midL n).map (ps n) = midL n := by
    rw [List.map_congr_left (g := id) fun v hv => by have := mem_midL.1 hv; unfold ps; rw [if_pos this.2]; rfl]; simp
  have hM2 : (midL n).map (op n) = (midL n).map (n + ·) := List.map_congr_left fun v hv => by
    have := mem_midL.1 hv; unfold op; rw [if_neg (by omega)]
  -- the products' loops, among all
  have e1 : lpN n (oL n a b n).1 c = cls (Cn (E3 n a b c)) ((outL n).map (op n)) ((midL n).map (n + ·)) := by
    rw [lpN_cls hD hc, ← hM2, cls_map]
    refine cls_congr fun x hx y hy => ?_
    have hx := mem_midL.1 hx
    have hy3 : y < 3 * n := by
      rcases hy with hy | hy
      · have := mem_outL.1 hy; omega
      · have := mem_midL.1 hy; omega
    exact (cn_left ha hb hc hy3 (by omega)).symm
  have e2 : lpN n a (oL n b c n).1 = cls (Cn (E3 n a b c)) ((outL n).map (op n)) (midL n) := by
    rw [lpN_cls ha hF, hO]
    conv => rhs; rw [← hM1]
    rw [cls_map]
    refine cls_congr fun x hx y hy => ?_
    have hx := mem_midL.1 hx
    have hy3 : y < 3 * n := by
      rcases hy with hy | hy
      · have := mem_outL.1 hy; omega
      · have := mem_midL.1 hy; omega
    exact (cn_right ha hb hc hy3 (by omega)).symm
  have e3 : lpN n a b = cls (Cn (E3 n a b c)) (((midL n).map (n + ·)).reverse ++ (outL n).map (op n)) (midL n) := by
    rw [lpN_cls ha hb]
    have := cls_inner (R2 := Cn (E2 n a b)) (R3 := Cn (E3 n a b c)) (f := id) (out := outL n) (fun x y h => cn_ab h) (midL n) (((midL n).map (n + ·)).reverse ++ (outL n).map (op n)) (outL n) (fun x z _ hz h => by
      rcases mid_ab ha hb hc hz h with ⟨_, h⟩ | h
      · exact .inl h
      · exact .inr h) (fun _ h => h) (fun z hz => by
      have hz' := mem_midL.1 hz
      constructor
      · rintro ⟨y, hy, hr⟩
        rcases mid_ab ha hb hc hz hr with ⟨hm, h⟩ | h
        · exfalso
          have hm := mem_midL.1 hm
          simp only [List.mem_append, List.mem_reverse, List.mem_map] at hy
          rcases hy with ⟨u, hu, rfl⟩ | ⟨u, hu, rfl⟩
          · have := mem_midL.1 hu; omega
          · have := mem_outL.1 hu; unfold op at hm; split at hm <;> omega
        · exact h
      · rintro ⟨y, hy, hr⟩
        refine ⟨y, ?_, cn_ab hr⟩
        have hy' := mem_outL.1 hy
        simp only [List.mem_append, List.mem_reverse, List.mem_map]
        by_cases h : y < n
        · exact .inr ⟨y, mem_outL.2 (.inl h), by unfold op; rw [if_pos h]⟩
        · exact .inl ⟨y - n, mem_midL.2 (by omega), by omega⟩)
    rw [List.map_id] at this
    exact this.symm
  have e4 : lpN n b c = cls (Cn (E3 n a b c)) ((midL n).reverse ++ (outL n).map (op n)) ((midL n).map (n + ·)) := by
    rw [lpN_cls hb hc]
    exact (cls_inner (R2 := Cn (E2 n b c)) (R3 := Cn (E3 n a b c)) (f := (n + ·)) (out := outL n) (fun x y h => cn_shift h) (midL n) ((midL n).reverse ++ (outL n).map (op n)) (outL n) (fun x z _ hz h => by
      rcases mid_bc ha hb hc hz h with ⟨x', hx', _, h⟩ | h
      · rw [show x = x' from by omega]; exact .inl h
      · exact .inr h) (fun _ h => h) (fun z hz => by
      have hz' := mem_midL.1 hz
      constructor
      · rintro ⟨y, hy, hr⟩
        rcases mid_bc ha hb hc hz hr with ⟨y', rfl, hm, h⟩ | h
        · exfalso
          have hm := mem_midL.1 hm
          simp only [List.mem_append, List.mem_reverse, List.mem_map] at hy
          rcases hy with hu | ⟨u, hu, he⟩
          · have := mem_midL.1 hu; omega
          · have := mem_outL.1 hu; unfold op at he; split at he <;> omega
        · exact h
      · rintro ⟨y, hy, hr⟩
        refine ⟨n + y, ?_, cn_shift hr⟩
        have hy' := mem_outL.1 hy
        simp only [List.mem_append, List.mem_reverse, List.mem_map]
        by_cases h : y < n
        · exact .inl (mem_midL.2 (by omega))
        · exact .inr ⟨y, hy, by unfold op; rw [if_neg (by omega)]⟩)).symm
  -- counted in two orders
  have p1 := cls_append (R := Cn (E3 n a b c)) (l := (midL n).map (n + ·)) (l' := midL n) (s := (outL n).map (op n))
  have p2 := cls_append (R := Cn (E3 n a b c)) (l := midL n) (l' := (midL n).map (n + ·)) (s := (outL n).map (op n))
  rw [cls_perm hsym htr List.perm_append_comm] at p1
  omega
end
end Go.Proofs.Ytgpgcdofhkpeaaa.VE
