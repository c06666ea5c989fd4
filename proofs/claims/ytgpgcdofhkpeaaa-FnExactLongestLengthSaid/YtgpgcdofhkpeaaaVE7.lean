/- Contracts of functions of the given program, for all arguments that the contract names; see each theorem. -/
import Derived.Test.YtgpgcdofhkpeaaaVE6
set_option linter.all false
namespace Go.Proofs.Ytgpgcdofhkpeaaa.VE
open Go

/-! pools: two rows lent at a time, rows exchanged -/
section
variable {H : List O} {e : TypeId} {n R k r q i j a b : Nat} {g : Nat → Nat} {xs : Nat → List Value}
theorem okO_plss (h : okIds H [k, r, q] = true) : okO H (.cr e n R (((plL k g R).set i (.sl r)).set j (.sl q))) := fun x hx => by
  rcases idsL_set hx with hx | hx
  · rcases idsL_set hx with hx | hx
    · obtain rfl := plL_ids hx; exact okIds_elim h _ (by simp)
    · simp [V.ids] at hx; subst hx; exact okIds_elim h _ (by simp)
  · simp [V.ids] at hx; subst hx; exact okIds_elim h _ (by simp)
theorem okO_plpp (h : okIds H [k] = true) : okO H (.cr e n R (((plL k g R).set i (.pl k a)).set j (.pl k b))) := fun x hx => by
  rcases idsL_set hx with hx | hx
  · rcases idsL_set hx with hx | hx
    · obtain rfl := plL_ids hx; exact okIds_elim h _ (by simp)
    · simp [V.ids] at hx; subst hx; exact okIds_elim h _ (by simp)
  · simp [V.ids] at hx; subst hx; exact okIds_elim h _ (by simp)
theorem okO_rsss (h : okIds H [r, q] = true) : okO H (.po e (((rsP xs R).set i (.lent r)).set j (.lent q))) := fun x hx => by
  rcases idsP_set hx with hx | hx
  · rcases idsP_set hx with hx | hx
    · exact (rsP_ids hx).elim
    · simp [PR.ids] at hx; subst hx; exact okIds_elim h _ (by simp)
  · simp [PR.ids] at hx; subst hx; exact okIds_elim h _ (by simp)
theorem crSS {σ : Nat → Nat} {x : Option O} (h : x = some (.cr e n R (((plL (σ k) g R).set i (.sl (σ r))).set j (.sl (σ q))))) : x = some ((O.cr e n R (((plL k g R).set i (.sl r)).set j (.sl q))).mapIds σ) := by rw [h]; simp only [O.mapIds, plL_mapIds, mapIdsL_set, V.mapIds]
theorem crPP {σ : Nat → Nat} {x : Option O} (h : x = some (.cr e n R (((plL (σ k) g R).set i (.pl (σ k) a)).set j (.pl (σ k) b)))) : x = some ((O.cr e n R (((plL k g R).set i (.pl k a)).set j (.pl k b))).mapIds σ) := by rw [h]; simp only [O.mapIds, plL_mapIds, mapIdsL_set, V.mapIds]
theorem poSS {σ : Nat → Nat} {x : Option O} (h : x = some (.po e (((rsP xs R).set i (.lent (σ r))).set j (.lent (σ q))))) : x = some ((O.po e (((rsP xs R).set i (.lent r)).set j (.lent q))).mapIds σ) := by rw [h]; simp only [O.mapIds, List.map_set, rsP_mapIds, PR.mapIds]
theorem eqO_lendS {ρ : Rho} (hne : j ≠ i) (h : (V.sl q).ren ρ = (V.pl k (g j)).ren ρ) : eqO ρ (.cr e n R ((plL k g R).set i (.sl r))) (.cr e n R (((plL k g R).set i (.sl r)).set j (.sl q))) := eqO_set fun u hu => by
  have hj : j < R := by have := lt_of_get hu; rwa [List.length_set, plL_len] at this
  rw [plL_other hj hne] at hu; injection hu with hu; subst hu; exact h
theorem eqO_backS {ρ : Rho} (hne : j ≠ i) (h : (V.pl k (g j)).ren ρ = (V.sl q).ren ρ) : eqO ρ (.cr e n R (((plL k g R).set i (.sl r)).set j (.sl q))) (.cr e n R ((plL k g R).set i (.sl r))) := eqO_unset fun u hu => by
  have hj : j < R := by have := lt_of_get hu; rwa [List.length_set, plL_len] at this
  rw [plL_other hj hne] at hu; injection hu with hu; subst hu; exact h.symm
theorem rsP_other (hj : j < R) (hne : j ≠ i) : ((rsP xs R).set i (.lent r))[j]? = some (.row (xs j)) := by rw [List.getElem?_set_ne (Ne.symm hne)]; exact rsP_at hj
theorem rsP_lentS (hj : j < R) : (((rsP xs R).set i (.lent r)).set j (.lent q))[j]? = some (.lent q) := by rw [List.getElem?_set_self (by rw [List.length_set, rsP_len]; exact hj)]
theorem rsP_congrS {ys : Nat → List Value} (h : ∀ t, t < R → t ≠ i → xs t = ys t) : (rsP xs R).set i (.lent r) = (rsP ys R).set i (.lent r) := by
  refine List.ext_getElem (by simp [rsP]) fun t h1 h2 => ?_
  have ht : t < R := by simpa [rsP] using h2
  rw [List.getElem_set, List.getElem_set]
  split
  · rfl
  · rename_i e; simp only [rsP, List.getElem_map, List.getElem_range]; rw [h t ht fun e' => e e'.symm]
theorem rsP_backS {ys : Nat → List Value} {y : List Value} (hne : j ≠ i) (hy : y = ys j) (h : ∀ t, t < R → t ≠ i → t ≠ j → ys t = xs t) : (((rsP xs R).set i (.lent r)).set j (.lent q)).set j (.row y) = (rsP ys R).set i (.lent r) := by
  rw [List.set_set]
  refine List.ext_getElem (by simp [rsP]) fun t h1 h2 => ?_
  have ht : t < R := by simpa [rsP] using h2
  rw [List.getElem_set, List.getElem_set, List.getElem_set]
  by_cases e1 : j = t
  · subst e1
    rw [if_pos rfl, if_neg (fun e => hne e.symm)]
    simp only [rsP, List.getElem_map, List.getElem_range, hy]
  · rw [if_neg e1]
    split
    · rfl
    · rename_i e2; simp only [rsP, List.getElem_map, List.getElem_range]; rw [h t ht (fun e => e2 e.symm) (fun e => e1 e.symm)]
theorem plL_gotS {v w : V} (hj : j < R) : (((plL k g R).set i v).set j w)[j]? = some w := by rw [List.getElem?_set_self (by rw [List.length_set, plL_len]; exact hj)]
theorem plL_gotO {v w : V} (hi : i < R) (hne : i ≠ j) : (((plL k g R).set i v).set j w)[i]? = some v := by rw [List.getElem?_set_ne (Ne.symm hne)]; exact plL_got hi
end
/-- The rows of a pool in another order (some may be left behind). -/
theorem GG.perm {S S' : List (Nat × V)} {H H' : List O} (k : Nat) {e : TypeId} {rs : List PR} (rs' : List PR) (τ : Nat → Nat) (hk : H[k]? = some (.po e rs))
    (hin : ∀ i, i < rs'.length → τ i < rs.length ∧ rs'[i]? = rs[τ i]?) (inj : ∀ i i', i < rs'.length → i' < rs'.length → τ i = τ i' → i = i')
    (hS : ∀ ρ, (∀ i, i < rs'.length → (V.pl (H.length + 1) i).ren ρ = (V.pl k (τ i)).ren ρ) → simS ρ S S')
    (hH : ∀ ρ, (∀ i, i < rs'.length → (V.pl (H.length + 1) i).ren ρ = (V.pl k (τ i)).ren ρ) → simO ρ ((((H ++ [O.pr e 1 0 []]).set k .dead).set H.length .dead) ++ [.po e rs']) H')
    (okS : okIds H' (idsS S') = true) (okH : okAll H' H') : GG S H S' H' :=
  GG.of (fun ρ => ∀ i, i < rs'.length → (V.pl (H.length + 1) i).ren ρ = (V.pl k (τ i)).ren ρ) (fun Γ ρ w h => by
    have hkl := lt_of_get hk
    have h1 := h.more (o := .pr e 1 0 []) (v := .slice none 0 0) rfl (fun ρ' hv b hb => by
      have hb : (ρ'.val H.length).ownBlock = some b := hb
      rw [hv] at hb; simp [Value.ownBlock] at hb) (fun ρ' hv => ⟨by rw [hv]; exact World.ownsRow_nil w 0 e 1, fun b hb => by rw [hv] at hb; simp [Value.ownBlock] at hb⟩) (by simp)
    obtain ⟨ρ', h2, h3, h4⟩ := h1.rebuild (k := k) (m := H.length) (rs' := rs') (by rw [List.getElem?_append_left hkl]; exact hk) (by rw [List.getElem?_append_right (Nat.le_refl _), Nat.sub_self]; rfl) (fun i => some (τ i))
      (fun i j hi hj => by injection hj with hj; subst hj; exact hin i hi) (fun i _ h => by cases h) (fun i i' hi hi' h => inj i i' hi hi' (by injection h))
    have hl : (H ++ [O.pr e 1 0 []]).length = H.length + 1 := by simp
    rw [hl] at h3 h4
    refine ⟨ρ', h2, fun i hi => ?_, fun i hi => ?_⟩
    · have := h3 i (by omega)
      have h5 := put_lt (ρ := ρ) (b := 0) (v := .slice none 0 0) hi
      exact ⟨this.1.trans h5.1, this.2.trans h5.2⟩
    · simp only [V.ren]
      rw [h4 i hi, (h3 k (by omega)).2]) hS hH okS okH
/-- Two rows exchanged: the outer row's cells, under the pool's new order. -/
theorem eqO_swap {ρ : Rho} {e : TypeId} {n R k k' a b : Nat} (ha : a < R) (hb : b < R) (h : ∀ i, i < R → (V.pl k' i).ren ρ = (V.pl k (if i = a then b else if i = b then a else i)).ren ρ) :
    eqO ρ (.cr e n R (((plL k (fun j => j) R).set a (.pl k b)).set b (.pl k a))) (.cr e n R (plL k' (fun j => j) R)) := by
  refine eqO_cr ?_
  rw [renL_set, renL_set]
  refine List.ext_getElem? fun t => ?_
  have hlen : ∀ kk, (renL ρ (plL kk (fun j => j) R)).length = R := fun kk => by rw [renL_length, plL_len]
  by_cases ht : t < R
  · rw [renL_get, plL_at ht, Option.map_some, h t ht, List.getElem?_set, List.getElem?_set, List.length_set, hlen]
    by_cases e1 : b = t
    · subst e1
      rw [if_pos rfl, if_pos hb]
      by_cases e2 : b = a
      · subst e2; rw [if_pos rfl, if_pos rfl]
      · rw [if_neg e2, if_pos rfl]
    · rw [if_neg e1]
      by_cases e2 : a = t
      · subst e2
        rw [if_pos rfl, if_pos ha, if_pos rfl]
      · rw [if_neg e2, if_neg (fun e => e2 e.symm), if_neg (fun e => e1 e.symm), renL_get, plL_at ht]; rfl
  · rw [List.getElem?_eq_none (by rw [hlen]; omega), List.getElem?_eq_none (by rw [List.length_set, List.length_set, hlen]; omega)]
/-- A row replaced by another one, another row being lent. -/
theorem eqO_repl {ρ : Rho} {e : TypeId} {n R k k' r q a i : Nat} (hi : i < R) (hne : i ≠ a) (h : ∀ t, t < R → t ≠ i → (V.pl k' t).ren ρ = (V.pl k t).ren ρ) (h2 : (V.pl k' i).ren ρ = (V.sl q).ren ρ) :
    eqO ρ (.cr e n R (((plL k (fun j => j) R).set a (.sl r)).set i (.sl q))) (.cr e n R ((plL k' (fun j => j) R).set a (.sl r))) := by
  refine eqO_cr ?_
  rw [renL_set, renL_set, renL_set]
  refine List.ext_getElem? fun t => ?_
  have hlen : ∀ kk, (renL ρ (plL kk (fun j => j) R)).length = R := fun kk => by rw [renL_length, plL_len]
  by_cases ht : t < R
  · rw [List.getElem?_set, List.getElem?_set, List.getElem?_set, List.length_set, hlen, hlen, renL_get, renL_get, plL_at ht, plL_at ht, Option.map_some, Option.map_some]
    by_cases e1 : i = t
    · subst e1
      rw [if_neg (fun e => hne e.symm), if_pos rfl, if_pos hi, h2]
    · rw [if_neg e1, h t ht (fun e => e1 e.symm)]
  · rw [List.getElem?_eq_none (by rw [List.length_set, hlen]; omega), List.getElem?_eq_none (by rw [List.length_set, List.length_set, hlen]; omega)]
end Go.Proofs.Ytgpgcdofhkpeaaa.VE
