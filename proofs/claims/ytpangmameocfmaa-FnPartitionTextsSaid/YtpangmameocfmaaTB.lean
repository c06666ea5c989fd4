/- Contracts of functions of the given program, for all arguments that the contract names; see each theorem. -/
import Derived.Test.YtpangmameocfmaaU1
set_option linter.all false
namespace Go.Proofs.Ytpangmameocfmaa.VE.P
open Go
set_option maxHeartbeats 800000
set_option maxRecDepth 100000

/-! 'named', as plain law -/
def nmF (k : Int) : List Int → Nat → Option Nat
  | [], _ => none
  | j :: r, i => if k = j then some i else nmF k r (i + 1)
def nmL (g : Nat → Int) : Nat → Nat → List Int → List Nat → List Nat
  | 0, _, _, out => out
  | d + 1, i, ks, out => match nmF (g i) ks 0 with
    | some j => nmL g d (i + 1) ks (out.set i j)
    | none => nmL g d (i + 1) (ks ++ [g i]) (out.set i ks.length)
def nm (g : Nat → Int) (n : Nat) : List Nat := nmL g (2 * n) 0 [] (List.replicate 8 0)

/-- The entries of its map. -/
def entL : Nat → List Int → List (Value × V)
  | _, [] => []
  | j, k :: r => (.int .i64 k, vu j) :: entL (j + 1) r
theorem entL_find {k : Int} : ∀ {ks : List Int} {j : Nat}, findI k (entL j ks) = some ((nmF k ks j).map fun x => vu x)
  | [], _ => rfl
  | q :: r, j => by
    simp only [entL, findI, nmF]
    split
    · rfl
    · exact entL_find
theorem entL_set {k : Int} : ∀ {ks : List Int} {j : Nat}, nmF k ks j = none → setI k (vu ((j + ks.length : Nat) : Int)) (entL j ks) = entL j (ks ++ [k])
  | [], _, _ => rfl
  | q :: r, j, h => by
    simp only [nmF] at h
    split at h
    · cases h
    · rename_i hq
      simp only [entL, setI, if_neg hq, List.cons_append]
      rw [← entL_set h, List.length_cons, show j + (r.length + 1) = j + 1 + r.length from by omega]
theorem entL_len : ∀ {ks : List Int} {j : Nat}, (entL j ks).length = ks.length
  | [], _ => rfl
  | q :: r, j => by simp [entL, entL_len]
theorem entL_ids : ∀ {ks : List Int} {j : Nat}, idsL ((entL j ks).map (·.2)) = []
  | [], _ => rfl
  | q :: r, j => by simp only [entL, List.map_cons, idsL, V.ids, List.nil_append]; exact entL_ids
theorem entL_mapL {σ : Nat → Nat} : ∀ {ks : List Int} {j : Nat}, (entL j ks).map (fun p => (p.1, p.2.mapIds σ)) = entL j ks
  | [], _ => rfl
  | q :: r, j => by simp only [entL, List.map_cons, V.mapIds, entL_mapL]
theorem entL_mo {σ : Nat → Nat} {ks : List Int} {j : Nat} : O.mo (entL j ks) = O.mapIds σ (.mo (entL j ks)) := by
  simp only [O.mapIds, entL_mapL]
theorem goodB_via {m : Nat} {π : List Nat} {H : List O} {ids l : List Nat} (h : idsO H = l) (h2 : (Nat.beq π.length H.length && (nodupB π && (okIds H l && (okIds H ids && (Nat.ble m H.length && fixB m π))))) = true) : goodB m π H ids = true := by
  unfold goodB; rw [h]; exact h2
theorem nmF_lt {k : Int} : ∀ {ks : List Int} {j x : Nat}, nmF k ks j = some x → x < j + ks.length
  | [], _, _, h => by simp [nmF] at h
  | q :: r, j, x, h => by
    simp only [nmF] at h
    split at h
    · injection h with h; simp; omega
    · have := nmF_lt h; simp; omega

theorem nmL_len {g : Nat → Int} : ∀ (d i : Nat) (ks : List Int) (out : List Nat), (nmL g d i ks out).length = out.length
  | 0, _, _, _ => rfl
  | d + 1, i, ks, out => by
    simp only [nmL]
    split
    · rw [nmL_len]; simp
    · rw [nmL_len]; simp
theorem nm_len {g : Nat → Int} {n : Nat} : (nm g n).length = 8 := by unfold nm; rw [nmL_len]; simp

end Go.Proofs.Ytpangmameocfmaa.VE.P
namespace Go.Proofs.Ytpangmameocfmaa.VE.P
open Go
set_option maxHeartbeats 800000
set_option maxRecDepth 100000

theorem nmF_snoc {v x : Int} : ∀ {ks : List Int} {b : Nat}, nmF v (ks ++ [x]) b = match nmF v ks b with | some r => some r | none => if v = x then some (b + ks.length) else none
  | [], b => by simp [nmF]
  | q :: r, b => by
    simp only [List.cons_append, nmF]
    by_cases h : v = q
    · simp [h]
    · rw [if_neg h, if_neg h, nmF_snoc]
      cases nmF v r (b + 1) with
      | some y => rfl
      | none => simp only [List.length_cons]; split <;> simp; omega

def TI (g : Nat → Int) (n : Nat) : Nat × List Int × List Nat → Prop := fun (i, ks, out) =>
  i ≤ 2 * n ∧ out.length = 8 ∧ ks.length ≤ i ∧ nmL g (2 * n - i) i ks out = nm g n ∧ (∀ j, j < i → nmF (g j) ks 0 = some (out.getD j 0)) ∧ ∀ v, (∀ j, j < i → g j ≠ v) → nmF v ks 0 = none
theorem TI_old {g : Nat → Int} {n i k : Nat} {ks : List Int} {out : List Nat} (hn : n ≤ 4) (h : TI g n (i, ks, out)) (hi : i < 2 * n) (hk : k < i) (he : g k = g i) : out.getD k 0 < ks.length ∧ TI g n (i + 1, ks, out.set i (out.getD k 0)) := by
  obtain ⟨h1, h2, h3, h4, h5, h6⟩ := h
  have hf := h5 k hk
  rw [he] at hf
  have hlt := nmF_lt hf
  refine ⟨by omega, by omega, by simpa using h2, by omega, ?_, fun j hj => ?_, fun v hv => h6 v fun j hj => hv j (by omega)⟩
  · rw [← h4, show 2 * n - i = (2 * n - (i + 1)) + 1 from by omega, nmL, hf]
  · rw [getD_set' (by omega)]
    by_cases hij : i = j
    · subst hij; rw [if_pos rfl]; exact hf
    · rw [if_neg hij]; exact h5 j (by omega)
theorem TI_new {g : Nat → Int} {n i : Nat} {ks : List Int} {out : List Nat} (hn : n ≤ 4) (h : TI g n (i, ks, out)) (hi : i < 2 * n) (he : ∀ k, k < i → g k ≠ g i) : TI g n (i + 1, ks ++ [g i], out.set i ks.length) := by
  obtain ⟨h1, h2, h3, h4, h5, h6⟩ := h
  have hf := h6 (g i) he
  refine ⟨by omega, by simpa using h2, by simp; omega, ?_, fun j hj => ?_, fun v hv => ?_⟩
  · rw [← h4, show 2 * n - i = (2 * n - (i + 1)) + 1 from by omega, nmL, hf]
  · rw [nmF_snoc, getD_set' (by omega)]
    by_cases hij : i = j
    · subst hij; rw [hf, if_pos rfl]; simp
    · rw [if_neg hij, h5 j (by omega)]
  · rw [nmF_snoc, h6 v fun j hj => hv j (by omega)]
    simp only []
    rw [if_neg (fun e => hv i (by omega) e.symm)]

theorem s_told (g : Nat → Int) (n : Nat) (hn : n ≤ 4) : Spec Try.prog n_s_l07Told [vi n, .sl 0] [.pr T_int64 1 (2 * n) (il g (2 * n))] (pv n (nm g n)) [.pr T_int64 1 (2 * n) (il g (2 * n))] := by
  refine SpecW.of_EV hf_s_l07Told hc_s_l07Told rfl rfl rfl fun w0 B ρ0 _ => ?_
  (repeat' (first | refine Exists.intro (pcl n (List.replicate 8 0)) (And.intro ⟨leR rfl, rfl⟩ ?_) | refine And.intro (neI rfl) ?_ | refine And.intro ⟨rfl, leR rfl, onesR rfl⟩ ?_ | refine And.intro ⟨rfl, leR rfl⟩ ?_ | refine draw_rule2 hfol (fun KK hKK => ?_) | refine hKK _ _ _ (by kernel_rfl) ?_ | refine region_rule (fun KK hKK => ?_) | refine hKK _ _ ?_ | refine And.intro (Eq.refl true) ?_ | refine Exists.intro _ (And.intro (wI (by omega)) ?_) | refine Exists.intro _ (And.intro (wU (by omega)) ?_) | refine Exists.intro _ (And.intro ⟨rfl, by omega⟩ ?_) | refine Exists.intro _ (And.intro rfl ?_) | refine And.intro rfl ?_ | refine And.intro ⟨rfl, rfl⟩ ?_ | ((refine And.intro (fun _ => ?_) (fun _ => ?_)) <;> try (exfalso; omega))))
  refine loop_rule (α := Nat × List Int × List Nat) (TI g n)
      (fun (i, ks, out) => [(0, vi n), (1, .sl 0), (4, .ptr 1 0), (5, .ptr 2 0), (6, vu (ks.length : Nat)), (7, vi i)])
      (fun (i, ks, out) => [.pr T_int64 1 (2 * n) (il g (2 * n)), .pc (pcl 0 (List.replicate 8 0)) T_i_Partition, .pc (pcl n out) T_i_Partition]) (fun (i, _, _) => 2 * n - i) (0, [], List.replicate 8 0) [0, 1, 2]
      ⟨by omega, by simp, by simp, rfl, fun j hj => by omega, fun _ _ => rfl⟩ ⟨⟨rfl, rfl, rfl, rfl, rfl, rfl, trivial⟩, ⟨rfl, rfl, rfl, trivial⟩, rfl⟩ ?_
  rintro ⟨i, ks, out⟩ gg hI
  obtain ⟨hi, hout, hks, hR, h5, h6⟩ := id hI
  by_cases h8 : i = 2 * n
  · subst h8
    rw [Nat.sub_self] at hR
    replace hR : out = nm g n := hR
    (repeat' (first | refine Exists.intro (pcl n out) (And.intro ⟨pcl_len hout, pcl_all hout⟩ ?_) | refine And.intro ⟨pcl_len hout, leR rfl, pcl_ones⟩ ?_ | refine Exists.intro (pcl n out) (And.intro ⟨leR rfl, spl0 (leR rfl)⟩ ?_) | refine And.intro (neI rfl) ?_ | refine And.intro ⟨rfl, leR rfl, onesR rfl⟩ ?_ | refine And.intro ⟨rfl, leR rfl⟩ ?_ | refine draw_rule2 hfol (fun KK hKK => ?_) | refine hKK _ _ _ (by kernel_rfl) ?_ | refine region_rule (fun KK hKK => ?_) | refine hKK _ _ ?_ | refine And.intro (Eq.refl true) ?_ | refine Exists.intro _ (And.intro (wI (by omega)) ?_) | refine Exists.intro _ (And.intro (wU (by omega)) ?_) | refine Exists.intro _ (And.intro ⟨rfl, by omega⟩ ?_) | refine Exists.intro _ (And.intro rfl ?_) | refine And.intro rfl ?_ | refine And.intro ⟨rfl, rfl⟩ ?_ | ((refine And.intro (fun _ => ?_) (fun _ => ?_)) <;> try (exfalso; omega))))
    exact Exists.intro [0] (And.intro (by rw [← hR]; rfl) (And.intro ⟨rfl, trivial⟩ rfl))
  have hil : i < 2 * n := by omega
  (repeat' (first | refine And.intro (neI rfl) ?_ | refine And.intro ⟨rfl, leR rfl, onesR rfl⟩ ?_ | refine And.intro ⟨rfl, leR rfl⟩ ?_ | refine draw_rule2 hfol (fun KK hKK => ?_) | refine hKK _ _ _ (by kernel_rfl) ?_ | refine region_rule (fun KK hKK => ?_) | refine hKK _ _ ?_ | refine And.intro (Eq.refl true) ?_ | refine Exists.intro _ (And.intro (wI (by omega)) ?_) | refine Exists.intro _ (And.intro (wU (by omega)) ?_) | refine Exists.intro _ (And.intro ⟨rfl, by omega⟩ ?_) | refine Exists.intro _ (And.intro rfl ?_) | refine And.intro rfl ?_ | refine And.intro ⟨rfl, rfl⟩ ?_ | ((refine And.intro (fun _ => ?_) (fun _ => ?_)) <;> try (exfalso; omega))))
  refine loop_rule (α := Nat) (fun k => k ≤ i ∧ ∀ j, j < k → g j ≠ g i)
      (fun k => [(0, vi n), (1, .sl 0), (4, .ptr 1 0), (5, .ptr 2 0), (6, vu (ks.length : Nat)), (7, vi i), (8, vu (ks.length : Nat)), (9, vi k)])
      (fun k => [.pr T_int64 1 (2 * n) (il g (2 * n)), .pc (pcl 0 (List.replicate 8 0)) T_i_Partition, .pc (pcl n out) T_i_Partition]) (fun k => i - k) 0 [0, 1, 2]
      ⟨by omega, fun j hj => by omega⟩ ⟨⟨rfl, rfl, rfl, rfl, rfl, rfl, rfl, rfl, trivial⟩, ⟨rfl, rfl, rfl, trivial⟩, rfl⟩ ?_
  rintro k g2 ⟨hk, hne⟩
  by_cases hki : k = i
  · subst hki
    (repeat' (first | refine Exists.intro (pcl n (out.set k ks.length)) (And.intro ⟨by rw [pcl_len hout]; omega, pcl_set⟩ ?_) | refine And.intro (neI rfl) ?_ | refine And.intro ⟨rfl, leR rfl, onesR rfl⟩ ?_ | refine And.intro ⟨rfl, leR rfl⟩ ?_ | refine draw_rule2 hfol (fun KK hKK => ?_) | refine hKK _ _ _ (by kernel_rfl) ?_ | refine region_rule (fun KK hKK => ?_) | refine hKK _ _ ?_ | refine And.intro (Eq.refl true) ?_ | refine Exists.intro _ (And.intro (wI (by omega)) ?_) | refine Exists.intro _ (And.intro (wU (by omega)) ?_) | refine Exists.intro _ (And.intro ⟨rfl, by omega⟩ ?_) | refine Exists.intro _ (And.intro rfl ?_) | refine And.intro rfl ?_ | refine And.intro ⟨rfl, rfl⟩ ?_ | ((refine And.intro (fun _ => ?_) (fun _ => ?_)) <;> try (exfalso; omega))))
    refine Exists.intro (k + 1, ks ++ [g k], out.set k ks.length) (Exists.intro [0, 1, 2] (And.intro ⟨TI_new hn hI hil hne, (by show 2 * n - (k + 1) < 2 * n - k; omega)⟩ ⟨⟨rfl, rfl, rfl, rfl, vuR (by simp), rfl, trivial⟩, ⟨rfl, rfl, rfl, trivial⟩, rfl⟩))
  have hkl : k < i := by omega
  by_cases he : g k = g i
  · obtain ⟨hlt, hI'⟩ := TI_old hn hI hil hkl he
    (repeat' (first | refine Exists.intro _ (And.intro (il_at (by omega)) ?_) | refine Exists.intro _ (And.intro (pcl_at (by omega)) ?_) | refine And.intro (fun _ => ?_) (fun h => absurd he h) | refine Exists.intro (pcl n (out.set i (out.getD k 0))) (And.intro ⟨by rw [pcl_len hout]; omega, pcl_set⟩ ?_) | refine And.intro (neI rfl) ?_ | refine And.intro ⟨rfl, leR rfl, onesR rfl⟩ ?_ | refine And.intro ⟨rfl, leR rfl⟩ ?_ | refine draw_rule2 hfol (fun KK hKK => ?_) | refine hKK _ _ _ (by kernel_rfl) ?_ | refine region_rule (fun KK hKK => ?_) | refine hKK _ _ ?_ | refine And.intro (Eq.refl true) ?_ | refine Exists.intro _ (And.intro (wI (by omega)) ?_) | refine Exists.intro _ (And.intro (wU (by omega)) ?_) | refine Exists.intro _ (And.intro ⟨rfl, by omega⟩ ?_) | refine Exists.intro _ (And.intro rfl ?_) | refine And.intro rfl ?_ | refine And.intro ⟨rfl, rfl⟩ ?_ | ((refine And.intro (fun _ => ?_) (fun _ => ?_)) <;> try (exfalso; omega))))
    refine Exists.intro (i + 1, ks, out.set i (out.getD k 0)) (Exists.intro [0, 1, 2] (And.intro ⟨hI', (by show 2 * n - (i + 1) < 2 * n - i; omega)⟩ ⟨⟨rfl, rfl, rfl, rfl, rfl, rfl, trivial⟩, ⟨rfl, rfl, rfl, trivial⟩, rfl⟩))
  · (repeat' (first | refine Exists.intro _ (And.intro (il_at (by omega)) ?_) | refine And.intro (fun h => absurd h he) (fun _ => ?_) | refine And.intro (neI rfl) ?_ | refine And.intro ⟨rfl, leR rfl, onesR rfl⟩ ?_ | refine And.intro ⟨rfl, leR rfl⟩ ?_ | refine draw_rule2 hfol (fun KK hKK => ?_) | refine hKK _ _ _ (by kernel_rfl) ?_ | refine region_rule (fun KK hKK => ?_) | refine hKK _ _ ?_ | refine And.intro (Eq.refl true) ?_ | refine Exists.intro _ (And.intro (wI (by omega)) ?_) | refine Exists.intro _ (And.intro (wU (by omega)) ?_) | refine Exists.intro _ (And.intro ⟨rfl, by omega⟩ ?_) | refine Exists.intro _ (And.intro rfl ?_) | refine And.intro rfl ?_ | refine And.intro ⟨rfl, rfl⟩ ?_ | ((refine And.intro (fun _ => ?_) (fun _ => ?_)) <;> try (exfalso; omega))))
    refine Exists.intro (k + 1) (Exists.intro [0, 1, 2] (And.intro ⟨⟨by omega, fun j hj => ?_⟩, (by show i - (k + 1) < i - k; omega)⟩ ⟨⟨rfl, rfl, rfl, rfl, rfl, rfl, rfl, rfl, trivial⟩, ⟨rfl, rfl, rfl, trivial⟩, rfl⟩))
    by_cases hjk : j = k
    · subst hjk; exact he
    · exact hne j (by omega)
end Go.Proofs.Ytpangmameocfmaa.VE.P
