/- Contracts of functions of the given program, for all arguments that the contract names; see each theorem. -/
import Derived.Test.YtgpgcdofhkpeaaaI1
import Derived.Test.YtgpgcdofhkpeaaaU14e
import Derived.Test.YtgpgcdofhkpeaaaU15p
set_option linter.all false
namespace Go.Proofs.Ytgpgcdofhkpeaaa.VE
open Go
set_option maxHeartbeats 1600000
set_option maxRecDepth 100000

/-! plain: turns and mirrors -/
theorem addm' {N x k : Nat} (hx : x < N) (hk : k ≤ N) : (x + k) % N = if x + k < N then x + k else x + k - N := by
  split
  · exact Nat.mod_eq_of_lt (by assumption)
  · rw [Nat.mod_eq_sub_mod (by omega)]; exact Nat.mod_eq_of_lt (by omega)
theorem Bij.comp {N : Nat} {G H : Nat → Nat} (hG : Bij N G) (hH : Bij N H) : Bij N fun i => G (H i) :=
  ⟨fun i hi => hG.lt _ (hH.lt i hi), fun i j hi hj h => hH.inj i j hi hj (hG.inj _ _ (hH.lt i hi) (hH.lt j hj) h)⟩
section
variable {n : Nat} {G H : Nat → Nat} {m : List Nat} (hm : IsV n m)
include hm
theorem rl_comp (hG : Bij (2 * n) G) (hH : Bij (2 * n) H) : rl n G (rl n H m) = rl n (fun i => G (H i)) m := by
  have h1 := rl_V hm.n8 hH hm
  refine rl_ext hm.n8 (hG.comp hH) hm (rl_V hm.n8 hG h1) fun i hi => ?_
  rw [rl_at hm.n8 hG (hH.lt i hi), rl_at hm.n8 hH hi]
theorem rl_congr (hG : Bij (2 * n) G) (h : ∀ i, i < 2 * n → G i = H i) : rl n G m = rl n H m := by
  have hH : Bij (2 * n) H := ⟨fun i hi => by rw [← h i hi]; exact hG.lt i hi, fun i j hi hj e => hG.inj i j hi hj (by rw [h i hi, h j hj]; exact e)⟩
  refine rl_ext hm.n8 hH hm (rl_V hm.n8 hG hm) fun i hi => ?_
  rw [← h i hi, ← h _ (hm.lt i hi), rl_at hm.n8 hG hi]
theorem rl_id (h : ∀ i, i < 2 * n → G i = i) : rl n G m = m := by
  have hG : Bij (2 * n) G := ⟨fun i hi => by rw [h i hi]; exact hi, fun i j hi hj e => by rw [h i hi, h j hj] at e; exact e⟩
  symm
  refine rl_ext hm.n8 hG hm hm fun i hi => ?_
  rw [h i hi, h _ (hm.lt i hi)]
end
/-- k places on. -/
def gTk (n k i : Nat) : Nat := plc n ((plc n i + k) % (2 * n))
theorem gTk_bij {n k : Nat} (hn1 : 1 ≤ n) (hk : k ≤ 2 * n) : Bij (2 * n) (gTk n k) := by
  refine ⟨fun i hi => plc_lt (Nat.mod_lt _ (by omega)), fun i j hi hj h => ?_⟩
  have h1 := congrArg (plc n) h
  unfold gTk at h1
  rw [plc_inv (Nat.mod_lt _ (by omega)), plc_inv (Nat.mod_lt _ (by omega)), addm' (plc_lt hi) hk, addm' (plc_lt hj) hk] at h1
  have l1 := plc_lt hi
  have l2 := plc_lt hj
  have : plc n i = plc n j := by split at h1 <;> split at h1 <;> omega
  rw [← plc_inv hi, this, plc_inv hj]
theorem gTk_succ {n k i : Nat} (hn1 : 1 ≤ n) (hi : i < 2 * n) : gT n (gTk n k i) = gTk n (k + 1) i := by
  unfold gT gTk
  rw [plc_inv (Nat.mod_lt _ (by omega)), Nat.mod_add_mod, Nat.add_assoc]
theorem gT_bij {n : Nat} (hn1 : 1 ≤ n) : Bij (2 * n) (gT n) := gTk_bij (k := 1) hn1 (by omega)
theorem turn_D {n : Nat} {m : List Nat} (hm : IsD n m) : IsD n (rl n (gT n) m) := by
  have hG := gT_bij hm.n1
  refine ⟨rl_V hm.n8 hG hm.toIsV, hm.pl.rot fun j hj => ?_⟩
  have e : plc n ((j + 1) % (2 * n)) = gT n (plc n j) := by unfold gT; rw [plc_inv hj]
  unfold qq
  rw [e, rl_at hm.n8 hG (plc_lt hj)]
  unfold gT
  rw [plc_inv (Nat.mod_lt _ (by have := hm.n1; omega))]
abbrev tn (n k : Nat) (m : List Nat) : List Nat := rl n (gTk n k) m
theorem tn_one {n : Nat} {m : List Nat} : rl n (gT n) m = tn n 1 m := rfl
theorem tn_succ {n k : Nat} {m : List Nat} (hm : IsV n m) (hk : k + 1 ≤ 2 * n) : rl n (gT n) (tn n k m) = tn n (k + 1) m := by
  have hG := gT_bij hm.n1
  rw [rl_comp hm hG (gTk_bij hm.n1 (by omega))]
  exact rl_congr hm (hG.comp (gTk_bij hm.n1 (by omega))) fun i hi => gTk_succ hm.n1 hi
theorem tn_all {n : Nat} {m : List Nat} (hm : IsV n m) : tn n (2 * n) m = m := rl_id hm fun i hi => by
  unfold gTk
  rw [Nat.add_mod_right, Nat.mod_eq_of_lt (plc_lt hi), plc_inv hi]
theorem tn_D {n : Nat} {m : List Nat} (hm : IsD n m) : ∀ {k}, k ≤ 2 * n → IsD n (tn n k m)
  | 0, _ => by
    have : tn n 0 m = m := rl_id hm.toIsV fun i hi => by
      unfold gTk
      rw [Nat.add_zero, Nat.mod_eq_of_lt (plc_lt hi), plc_inv hi]
    rw [this]; exact hm
  | k + 1, h => by
    rw [← tn_succ hm.toIsV h]
    exact turn_D (tn_D hm (by omega))
theorem gM_eq {n i : Nat} (hi : i < 2 * n) : gM n i = if i < n then n - 1 - i else 3 * n - 1 - i := by
  unfold gM
  by_cases h : i < n
  · rw [if_pos h, Nat.div_eq_of_lt h, Nat.mod_eq_of_lt h]; omega
  · rw [if_neg h]
    have h1 : i / n = 1 := by
      rw [show i = (i - n) + n by omega, Nat.add_div_right _ (by omega), Nat.div_eq_of_lt (by omega)]
    have h2 : i % n = i - n := by
      rw [Nat.mod_eq_sub_mod (by omega), Nat.mod_eq_of_lt (by omega)]
    rw [h1, h2]; omega
theorem gM_bij {n : Nat} : Bij (2 * n) (gM n) :=
  ⟨fun i hi => by rw [gM_eq hi]; split <;> omega, fun i j hi hj h => by rw [gM_eq hi, gM_eq hj] at h; split at h <;> split at h <;> omega⟩
theorem gM_gM {n i : Nat} (hi : i < 2 * n) : gM n (gM n i) = i := by
  rw [gM_eq (gM_bij.lt i hi), gM_eq hi]; (repeat' split) <;> omega
theorem gM_gF {n i : Nat} (hi : i < 2 * n) : gM n (gF n i) = gF n (gM n i) := by
  rw [gM_eq (gF_bij.lt i hi), gF_eq (gM_bij.lt i hi), gM_eq hi, gF_eq hi]; (repeat' split) <;> omega
abbrev mi (n : Nat) (m : List Nat) : List Nat := rl n (gM n) m
theorem mi_mi {n : Nat} {m : List Nat} (hm : IsV n m) : mi n (mi n m) = m := by
  show rl n (gM n) (rl n (gM n) m) = m
  rw [rl_comp hm gM_bij gM_bij]
  exact rl_id hm fun i hi => gM_gM hi
theorem mi_D {n : Nat} {m : List Nat} (hm : IsD n m) : IsD n (mi n m) := by
  have h := tn_D (fl_D hm) (k := n) (by omega)
  have e : tn n n (fl n m) = mi n m := by
    show rl n (gTk n n) (rl n (gF n) m) = rl n (gM n) m
    rw [rl_comp hm.toIsV (gTk_bij (k := n) hm.n1 (by omega)) gF_bij]
    refine rl_congr hm.toIsV ((gTk_bij hm.n1 (by omega)).comp gF_bij) fun i hi => ?_
    have hp := plc_lt (n := n) (gF_bij.lt i hi)
    have hmm := gM_bij.lt i hi
    unfold gTk
    rw [addm' hp (by omega), gM_eq hi]
    rw [gM_eq hi] at hmm
    rw [gF_eq hi] at hp ⊢
    unfold plc at hp ⊢
    (repeat' split at hp) <;> (repeat' split) <;> (repeat' split at hmm) <;> omega
  rw [e] at h; exact h
/-! plain: the loops of a closure are the parts of a graph -/
def EC (n : Nat) (m : List Nat) (x y : Nat) : Prop := x < 2 * n ∧ (y = m.getD x 0 ∨ y = gF n x)
theorem gF_ne {n i : Nat} (hi : i < 2 * n) : gF n i ≠ i := by rw [gF_eq hi]; split <;> omega
theorem nxt_F {n : Nat} {m : List Nat} {k : Nat} : nxt n m k = gF n (m.getD k 0) := rfl
section
variable {n : Nat} {m : List Nat} (hm : IsV n m)
include hm
theorem EC.symm : ∀ x y, EC n m x y → EC n m y x := by
  rintro x y ⟨hx, rfl | rfl⟩
  · exact ⟨hm.lt x hx, .inl (hm.inv x hx).symm⟩
  · exact ⟨gF_bij.lt x hx, .inr (gF_gF hx).symm⟩
theorem EC.lt {x y : Nat} (h : Cn (EC n m) x y) (hx : x < 2 * n) : y < 2 * n :=
  h.closed (S := fun y => y < 2 * n) (fun x y hx h => by
    rcases h with ⟨_, rfl | rfl⟩
    · exact hm.lt x hx
    · exact gF_bij.lt x hx) hx
/-- A walk on its way round a loop. -/
structure WQ (n : Nat) (m : List Nat) (S0 : List Bool) (k p e : Nat) (s : List Bool) : Prop where
  len : s.length = 16
  sub : ∀ x, S0.getD x false = true → s.getD x false = true
  kA : s.getD k false = true
  pb : p < 2 * n
  eA : e < 2 * n ∧ s.getD e false = true ∧ S0.getD e false = false
  pe : gF n e = p
  ek : e ≠ k
  mc : ∀ x, x < 2 * n → s.getD x false = true → S0.getD x false = false → s.getD (m.getD x 0) false = true ∧ S0.getD (m.getD x 0) false = false
  fc : ∀ x, x < 2 * n → s.getD x false = true → S0.getD x false = false → x ≠ k → x ≠ e → s.getD (gF n x) false = true ∧ S0.getD (gF n x) false = false ∧ gF n x ≠ k ∧ gF n x ≠ e
  cn : ∀ x, x < 2 * n → s.getD x false = true → S0.getD x false = false → Cn (EC n m) k x
theorem clI_res {S0 : List Bool} {k : Nat} (hk : k < 2 * n) (hk0 : S0.getD k false = false) (hc : ∀ x y, EC n m x y → S0.getD x false = true → S0.getD y false = true) :
    ∀ {d : Nat} {p e : Nat} {s : List Bool}, cF s < d → WQ n m S0 k p e s → (clI n m d p s).length = 16 ∧ ∀ x, x < 2 * n → ((clI n m d p s).getD x false = true ↔ (S0.getD x false = true ∨ Cn (EC n m) k x))
  | 0, _, _, _, hd, _ => by omega
  | d + 1, p, e, s, hd, h => by
    have hn := hm.n8
    unfold clI
    have hfe : gF n p = e := by rw [← h.pe, gF_gF h.eA.1]
    have hp0 : S0.getD p false = false := by
      cases hq : S0.getD p false with
      | false => rfl
      | true =>
        have := hc p e ⟨h.pb, .inr hfe.symm⟩ hq
        rw [h.eA.2.2] at this; cases this
    by_cases hsp : s.getD p false = true
    · rw [if_pos hsp]
      have hpk : p = k := by
        refine Classical.byContradiction fun hne => ?_
        have hpe : p ≠ e := fun e1 => gF_ne h.pb (by rw [hfe, e1])
        exact (h.fc p h.pb hsp hp0 hne hpe).2.2.2 hfe
      refine ⟨h.len, fun x hx => ⟨fun hs => ?_, ?_⟩⟩
      · cases hq : S0.getD x false with
        | true => exact .inl rfl
        | false => exact .inr (h.cn x hx hs hq)
      · rintro (hs | hs)
        · exact h.sub x hs
        · refine (hs.closed (S := fun y => y < 2 * n ∧ s.getD y false = true ∧ S0.getD y false = false) (fun y z hy hE => ?_) ⟨hk, h.kA, hk0⟩).2.1
          obtain ⟨h1, h2, h3⟩ := hy
          rcases hE with ⟨_, rfl | rfl⟩
          · exact ⟨hm.lt y h1, h.mc y h1 h2 h3⟩
          · refine ⟨gF_bij.lt y h1, ?_⟩
            by_cases e1 : y = k
            · rw [e1, ← hpk, hfe]; exact h.eA.2
            · by_cases e2 : y = e
              · rw [e2, h.pe, hpk]; exact ⟨h.kA, hk0⟩
              · exact ⟨(h.fc y h1 h2 h3 e1 e2).1, (h.fc y h1 h2 h3 e1 e2).2.1⟩
    · rw [if_neg hsp]
      have hsp' : s.getD p false = false := by simpa using hsp
      have hmp := hm.lt p h.pb
      have hmne := hm.ne p h.pb
      have hmp0 : S0.getD (m.getD p 0) false = false := by
        cases hq : S0.getD (m.getD p 0) false with
        | false => rfl
        | true =>
          have := hc _ p ⟨hmp, .inl (hm.inv p h.pb).symm⟩ hq
          rw [hp0] at this; cases this
      have hsm : s.getD (m.getD p 0) false = false := by
        cases hq : s.getD (m.getD p 0) false with
        | false => rfl
        | true =>
          have := (h.mc _ hmp hq hmp0).1
          rw [hm.inv p h.pb, hsp'] at this; cases this
      have hl := h.len
      have hl1 : (s.set p true).length = 16 := by simpa using hl
      have hg : ∀ x, ((s.set p true).set (m.getD p 0) true).getD x false = if m.getD p 0 = x then true else if p = x then true else s.getD x false := fun x => by
        rw [getB_set (by rw [hl1]; omega), getB_set (by rw [hl]; have := h.pb; omega)]
      have hold : ∀ x, s.getD x false = true → x ≠ p ∧ x ≠ m.getD p 0 := fun x hx => ⟨fun e1 => (by rw [e1, hsp'] at hx; cases hx), fun e1 => (by rw [e1, hsm] at hx; cases hx)⟩
      have hup : ∀ x, s.getD x false = true → ((s.set p true).set (m.getD p 0) true).getD x false = true := fun x hx => by
        rw [hg]; split
        · rfl
        · split
          · rfl
          · exact hx
      have hcs : ∀ x, ((s.set p true).set (m.getD p 0) true).getD x false = true → x = m.getD p 0 ∨ x = p ∨ s.getD x false = true := fun x hx => by
        rw [hg] at hx; split at hx
        · exact .inl (by omega)
        · split at hx
          · exact .inr (.inl (by omega))
          · exact .inr (.inr hx)
      have hcp : Cn (EC n m) k p := .step (h.cn e h.eA.1 h.eA.2.1 h.eA.2.2) ⟨h.eA.1, .inr h.pe.symm⟩
      refine clI_res hk hk0 hc (e := m.getD p 0) ?_ ⟨by simpa using hl, fun x hx => hup x (h.sub x hx), hup k h.kA, gF_bij.lt _ hmp, ⟨hmp, by rw [hg, if_pos rfl], hmp0⟩, rfl, fun e1 => (hold k h.kA).2 e1.symm, ?_, ?_, ?_⟩
      · have c1 := cF_set (s := s) (i := p) (by rw [hl]; have := h.pb; omega) hsp'
        have c2 := cF_le (s := s.set p true) (i := m.getD p 0)
        omega
      · intro x hx hs h0
        rcases hcs x hs with rfl | rfl | hs
        · rw [hm.inv p h.pb]; exact ⟨by rw [hg, if_neg hmne, if_pos rfl], hp0⟩
        · exact ⟨by rw [hg, if_pos rfl], hmp0⟩
        · have := h.mc x hx hs h0; exact ⟨hup _ this.1, this.2⟩
      · intro x hx hs h0 hxk hxe
        rcases hcs x hs with rfl | rfl | hs
        · exact absurd rfl hxe
        · rw [hfe]; exact ⟨hup _ h.eA.2.1, h.eA.2.2, h.ek, (hold e h.eA.2.1).2⟩
        · by_cases e1 : x = e
          · rw [e1, h.pe]
            exact ⟨by rw [hg, if_neg hmne, if_pos rfl], hp0, fun e2 => (hold k h.kA).1 e2.symm, fun e2 => hmne e2.symm⟩
          · have := h.fc x hx hs h0 hxk e1
            exact ⟨hup _ this.1, this.2.1, this.2.2.1, (hold _ this.1).2⟩
      · intro x hx hs h0
        rcases hcs x hs with rfl | rfl | hs
        · exact .step hcp ⟨h.pb, .inl rfl⟩
        · exact hcp
        · exact h.cn x hx hs h0
theorem clI_all {S0 : List Bool} {k : Nat} (hl : S0.length = 16) (hk : k < 2 * n) (hk0 : S0.getD k false = false) (hc : ∀ x y, EC n m x y → S0.getD x false = true → S0.getD y false = true) :
    (clI n m 17 k S0).length = 16 ∧ ∀ x, x < 2 * n → ((clI n m 17 k S0).getD x false = true ↔ (S0.getD x false = true ∨ Cn (EC n m) k x)) := by
  have hn := hm.n8
  have hmk := hm.lt k hk
  have hne := hm.ne k hk
  have hm0 : S0.getD (m.getD k 0) false = false := by
    cases hq : S0.getD (m.getD k 0) false with
    | false => rfl
    | true =>
      have := hc _ k ⟨hmk, .inl (hm.inv k hk).symm⟩ hq
      rw [hk0] at this; cases this
  have hl1 : (S0.set k true).length = 16 := by simpa using hl
  have hg : ∀ x, ((S0.set k true).set (m.getD k 0) true).getD x false = if m.getD k 0 = x then true else if k = x then true else S0.getD x false := fun x => by
    rw [getB_set (by rw [hl1]; omega), getB_set (by rw [hl]; omega)]
  have hcs : ∀ x, ((S0.set k true).set (m.getD k 0) true).getD x false = true → S0.getD x false = false → x = m.getD k 0 ∨ x = k := fun x hx h0 => by
    rw [hg] at hx; split at hx
    · exact .inl (by omega)
    · split at hx
      · exact .inr (by omega)
      · rw [h0] at hx; cases hx
  unfold clI
  rw [if_neg (by rw [hk0]; decide)]
  refine clI_res hm hk hk0 hc (e := m.getD k 0) ?_ ⟨by simpa using hl, fun x hx => ?_, ?_, gF_bij.lt _ hmk, ⟨hmk, by rw [hg, if_pos rfl], hm0⟩, rfl, hne, ?_, ?_, ?_⟩
  · have c1 := cF_set (s := S0) (i := k) (by rw [hl]; omega) hk0
    have c2 := cF_le (s := S0.set k true) (i := m.getD k 0)
    have c3 := cF_all (s := S0)
    have c4 : cF ((S0.set k true).set (m.getD k 0) true) < 16 := by omega
    exact c4
  · rw [hg]; split
    · rfl
    · split
      · rfl
      · exact hx
  · rw [hg, if_neg hne, if_pos rfl]
  · intro x hx hs h0
    rcases hcs x hs h0 with rfl | rfl
    · rw [hm.inv k hk]; exact ⟨by rw [hg, if_neg hne, if_pos rfl], hk0⟩
    · exact ⟨by rw [hg, if_pos rfl], hm0⟩
  · intro x hx hs h0 h1 h2
    rcases hcs x hs h0 with rfl | rfl
    · exact absurd rfl h2
    · exact absurd rfl h1
  · intro x hx hs h0
    rcases hcs x hs h0 with rfl | rfl
    · exact .one ⟨hk, .inl rfl⟩
    · exact .refl _
theorem clO_cls : ∀ (d i : Nat) (s : List Bool) (c : Nat) (seen : List Nat), i + d = 2 * n → s.length = 16 → (∀ y ∈ seen, y < 2 * n) → (∀ x, x < 2 * n → (s.getD x false = true ↔ ∃ y, y ∈ seen ∧ Cn (EC n m) y x)) → (∀ x, 2 * n ≤ x → s.getD x false = false) →
    clO n m d i s c = c + cls (Cn (EC n m)) seen (List.range' i d)
  | 0, _, _, _, _, _, _, _, _, _ => by simp [clO, cls]
  | d + 1, i, s, c, seen, hi, hs, hse, hI, hout => by
    unfold clO
    simp only [List.range'_succ, cls]
    cases hc : s.getD i false with
    | true =>
      rw [if_pos rfl, nwP_t ((hI i (by omega)).1 hc), clO_cls d (i + 1) s c (i :: seen) (by omega) hs (fun y hy => by rcases List.mem_cons.1 hy with rfl | hy; omega; exact hse y hy) (fun x hx => ?_) hout]
      · omega
      · rw [hI x hx]
        obtain ⟨u, hu, hr⟩ := (hI i (by omega)).1 hc
        constructor
        · rintro ⟨y, hy, h⟩; exact ⟨y, by simp [hy], h⟩
        · rintro ⟨y, hy, h⟩
          rcases List.mem_cons.1 hy with rfl | hy
          · exact ⟨u, hu, hr.trans h⟩
          · exact ⟨y, hy, h⟩
    | false =>
      have hno : ¬ ∃ y, y ∈ seen ∧ Cn (EC n m) y i := fun h => by rw [(hI i (by omega)).2 h] at hc; cases hc
      have hcl : ∀ x y, EC n m x y → s.getD x false = true → s.getD y false = true := fun x y hE hx => by
        have hx2 : x < 2 * n := hE.1
        have hy2 : y < 2 * n := EC.lt hm (.one hE) hx2
        obtain ⟨u, hu, hr⟩ := (hI x hx2).1 hx
        exact (hI y hy2).2 ⟨u, hu, .step hr hE⟩
      obtain ⟨r1, r2⟩ := clI_all hm hs (show i < 2 * n by omega) hc hcl
      have r3 : ∀ x, 2 * n ≤ x → (clI n m 17 i s).getD x false = false := by
        have key : ∀ (d k : Nat) (s : List Bool), k < 2 * n → s.length = 16 → (∀ x, 2 * n ≤ x → s.getD x false = false) → ∀ x, 2 * n ≤ x → (clI n m d k s).getD x false = false := by
          intro d
          induction d with
          | zero => intro k s _ _ h x hx; exact h x hx
          | succ d ih =>
            intro k s hk hl h x hx
            unfold clI
            split
            · exact h x hx
            · have hmk := hm.lt k hk
              have hn := hm.n8
              refine ih _ _ (gF_bij.lt _ hmk) (by simpa using hl) (fun z hz => ?_) x hx
              rw [getB_set (by rw [List.length_set, hl]; omega), getB_set (by rw [hl]; omega), if_neg (by omega), if_neg (by omega)]
              exact h z hz
        exact key 17 i s (by omega) hs hout
      rw [if_neg (by decide), nwP_f hno, clO_cls d (i + 1) (clI n m 17 i s) (c + 1) (i :: seen) (by omega) r1 (fun y hy => by rcases List.mem_cons.1 hy with rfl | hy; omega; exact hse y hy) (fun x hx => ?_) r3]
      · omega
      · rw [r2 x hx]
        constructor
        · rintro (h | h)
          · obtain ⟨y, hy, hr⟩ := (hI x hx).1 h
            exact ⟨y, by simp [hy], hr⟩
          · exact ⟨i, by simp, h⟩
        · rintro ⟨y, hy, hr⟩
          rcases List.mem_cons.1 hy with rfl | hy
          · exact .inr hr
          · exact .inl ((hI x hx).2 ⟨y, hy, hr⟩)
theorem clN_cls : clN n m = cls (Cn (EC n m)) [] (List.range (2 * n)) := by
  unfold clN
  rw [clO_cls hm (2 * n) 0 (List.replicate 16 false) 0 [] (by omega) (by simp) (fun y hy => by simp at hy) (fun x hx => ?_) (fun x hx => ?_), Nat.zero_add, List.range_eq_range']
  · constructor
    · intro h
      rw [List.getD_eq_getElem?_getD, List.getElem?_replicate] at h
      split at h <;> cases h
    · rintro ⟨y, hy, _⟩; simp at hy
  · rw [List.getD_eq_getElem?_getD, List.getElem?_replicate]; split <;> rfl
end
theorem map_perm {N : Nat} {G : Nat → Nat} (hG : Bij N G) : ((List.range N).map G).Perm (List.range N) := by
  refine (List.perm_ext_iff_of_nodup ?_ List.nodup_range).2 fun x => ?_
  · rw [List.Nodup, List.pairwise_map]
    refine List.Pairwise.imp_of_mem ?_ List.nodup_range
    intro a b ha hb hab e
    exact hab (hG.inj a b (List.mem_range.1 ha) (List.mem_range.1 hb) e)
  · rw [List.mem_map, List.mem_range]
    constructor
    · rintro ⟨y, hy, rfl⟩; exact hG.lt y (List.mem_range.1 hy)
    · intro hx
      obtain ⟨y, hy, rfl⟩ := hG.sur hx
      exact ⟨y, List.mem_range.2 hy, rfl⟩
theorem mi_Cn {n : Nat} {m : List Nat} (hm : IsV n m) {x y : Nat} (hx : x < 2 * n) (h : Cn (EC n m) x y) : Cn (EC n (mi n m)) (gM n x) (gM n y) := by
  induction h with
  | refl => exact .refl _
  | step h1 e ih =>
    refine .step ih ?_
    have hy := EC.lt hm h1 hx
    rcases e with ⟨_, rfl | rfl⟩
    · exact ⟨gM_bij.lt _ hy, .inl (rl_at hm.n8 gM_bij hy).symm⟩
    · exact ⟨gM_bij.lt _ hy, .inr (gM_gF hy)⟩
theorem mi_clN {n : Nat} {m : List Nat} (hm : IsV n m) : clN n (mi n m) = clN n m := by
  have hM := rl_V hm.n8 gM_bij hm
  rw [clN_cls hM, clN_cls hm]
  rw [← cls_perm (fun x y h => h.symm (EC.symm hM)) (fun x y z h1 h2 => h1.trans h2) (map_perm (N := 2 * n) (G := gM n) gM_bij) []]
  rw [show ([] : List Nat) = ([] : List Nat).map (gM n) from rfl, cls_map]
  refine cls_congr fun x hx y hy => ?_
  have hx2 := List.mem_range.1 hx
  have hy2 : y < 2 * n := by
    rcases hy with h | h
    · simp at h
    · exact List.mem_range.1 h
  constructor
  · intro h
    have h1 := mi_Cn hM (gM_bij.lt y hy2) h
    rw [mi_mi hm, gM_gM hy2, gM_gM hx2] at h1
    exact h1
  · exact fun h => mi_Cn hm hy2 h
end Go.Proofs.Ytgpgcdofhkpeaaa.VE
