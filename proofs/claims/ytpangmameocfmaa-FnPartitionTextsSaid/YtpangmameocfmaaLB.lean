/- Contracts of functions of the given program, for all arguments that the contract names; see each theorem. -/
import Derived.Test.YtpangmameocfmaaLA
import Derived.Test.YtpangmameocfmaaQ1
import Derived.Test.YtpangmameocfmaaU3a
import Derived.Test.YtpangmameocfmaaU16a
set_option linter.all false
namespace Go.Proofs.Ytpangmameocfmaa.VE
open Go
set_option maxHeartbeats 800000
set_option maxRecDepth 100000

/-! a text of brackets is read -/
def tbL (bs : ByteArray) (i : Nat) : Nat := ((bs[i]?.map UInt8.toNat).getD 0)
theorem bsL_at {bs : ByteArray} {i : Nat} (h : i < bs.size) : bs[i]? = some bs[i] := getElem?_pos bs i h
theorem tbL_at {bs : ByteArray} {i : Nat} (h : i < bs.size) : tbL bs i = bs[i].toNat := by simp [tbL, bsL_at h]
def rowL (st : List Nat) : List Value := st.reverse.map fun (x : Nat) => .int .i64 (x : Int)
theorem rowL_push {i : Nat} {st : List Nat} : rowL st ++ [.int .i64 (i : Int)] = rowL (i :: st) := by simp [rowL]
theorem rowL_top {i : Nat} {r : List Nat} : (rowL (i :: r))[r.length]? = some (.int .i64 (i : Int)) := by simp [rowL]
theorem rowL_pop {i : Nat} {r : List Nat} : (rowL (i :: r)).take (r.length * 1) = rowL r := by simp [rowL]
/-- The diagram so far. -/
def MI (n k : Nat) (st : List Nat) (o : Nat → Nat) (M : List Nat) : Prop := M.length = 16 ∧ ∀ j, j < 16 → M.getD j 0 = if j < 2 * n ∧ plc n j < k ∧ plc n j ∉ st then plc n (o (plc n j)) else 0
theorem MI_push {n k : Nat} {st : List Nat} {o : Nat → Nat} {M : List Nat} (h : MI n k st o M) : MI n (k + 1) (k :: st) o M := by
  refine ⟨h.1, fun j hj => ?_⟩
  rw [h.2 j hj]
  by_cases h1 : j < 2 * n ∧ plc n j < k ∧ plc n j ∉ st
  · rw [if_pos h1, if_pos ⟨h1.1, by omega, by simp only [List.mem_cons, not_or]; exact ⟨by omega, h1.2.2⟩⟩]
  · rw [if_neg h1, if_neg]
    rintro ⟨h2, h3, h4⟩
    simp only [List.mem_cons, not_or] at h4
    exact h1 ⟨h2, by omega, h4.2⟩
theorem MI_pop {t : Nat → Nat} {n k i : Nat} {st : List Nat} {o : Nat → Nat} {M : List Nat} (hn : n ≤ 8) (hk : k < 2 * n) (hp : PI t k (i :: st) o) (h : MI n k (i :: st) o M) : MI n (k + 1) st (up2 o i k) ((M.set (plc n i) (plc n k)).set (plc n k) (plc n i)) := by
  have hik := hp.lt i (by simp)
  have hni : i ∉ st := fun e => by
    have := List.rel_of_pairwise_cons hp.sorted e
    omega
  have hl1 := plc_lt (n := n) (i := i) (by omega)
  have hl2 := plc_lt (n := n) (i := k) hk
  have hv1 := plc_inv (n := n) (i := i) (by omega)
  have hv2 := plc_inv (n := n) (i := k) hk
  refine ⟨by simpa using h.1, fun j hj => ?_⟩
  rw [getD_set' (by rw [List.length_set, h.1]; omega), getD_set' (by rw [h.1]; omega), h.2 j hj]
  by_cases h1 : plc n k = j
  · subst h1
    rw [if_pos rfl, hv2, if_pos ⟨hl2, by omega, fun e => by have := hp.lt k (by simp [e]); omega⟩]
    show plc n i = plc n (if k = k then i else _)
    rw [if_pos rfl]
  · rw [if_neg h1]
    by_cases h2 : plc n i = j
    · subst h2
      rw [if_pos rfl, hv1, if_pos ⟨hl1, by omega, hni⟩]
      show plc n k = plc n (if i = k then i else if i = i then k else _)
      rw [if_neg (by omega), if_pos rfl]
    · rw [if_neg h2]
      by_cases h3 : j < 2 * n
      · have e1 : plc n j ≠ k := fun e => h1 (by rw [← e, plc_inv h3])
        have e2 : plc n j ≠ i := fun e => h2 (by rw [← e, plc_inv h3])
        have e3 : up2 o i k (plc n j) = o (plc n j) := by
          show (if plc n j = k then i else if plc n j = i then k else o (plc n j)) = _
          rw [if_neg e1, if_neg e2]
        rw [e3]
        by_cases h4 : plc n j < k ∧ plc n j ∉ st
        · rw [if_pos ⟨h3, h4.1, by simp only [List.mem_cons, not_or]; exact ⟨e2, h4.2⟩⟩, if_pos ⟨h3, by omega, h4.2⟩]
        · rw [if_neg (fun e => h4 ⟨e.2.1, fun e5 => e.2.2 (by simp [e5])⟩), if_neg (fun e => h4 ⟨by omega, e.2.2⟩)]
      · rw [if_neg (fun e => h3 e.1), if_neg (fun e => h3 e.1)]
theorem MI_end {n : Nat} {o : Nat → Nat} {M : List Nat} (hn : n ≤ 8) (ho : ∀ j, j < 2 * n → o j < 2 * n) (h : MI n (2 * n) [] o M) : M = jD n o (2 * n) := by
  refine eq_of_getD h.1 (jD_len _) fun j hj => ?_
  rw [h.2 j hj, jD_at hn ho _ (Nat.le_refl _)]
  by_cases h1 : j < 2 * n
  · rw [if_pos ⟨h1, plc_lt h1, by simp⟩, if_pos ⟨h1, plc_lt h1⟩]
  · rw [if_neg (fun e => h1 e.1), if_neg (fun e => h1 e.1)]
theorem MI_0 {n : Nat} {o : Nat → Nat} : MI n 0 [] o (List.replicate 16 0) := by
  refine ⟨by simp, fun j hj => ?_⟩
  rw [if_neg (by omega), List.getD_eq_getElem?_getD, List.getElem?_replicate, if_pos hj]; rfl
end Go.Proofs.Ytpangmameocfmaa.VE
namespace Go.Proofs.Ytpangmameocfmaa.VE
open Go
set_option maxHeartbeats 800000
set_option maxRecDepth 100000

theorem s_lread (n : Nat) (bs : ByteArray) (hn1 : 1 ≤ n) (hn : n ≤ 8) (hs : bs.size = 2 * n) (o : Nat → Nat) (hp : pm (tbL bs) bs.size 0 [] (fun _ => 0) = some ([], o)) : Spec Try.prog n_s_l01Read [.raw (.string bs)] [] (.tup [pv n (jD n o (2 * n)), vb true]) [] := by
  have hpl := (pm_planar hp).1
  rw [hs] at hp hpl
  have hfol : Try.prog.follows .mixedOrders = true := rfl
  have hin := s_in (n : Int) 1 8
  rw [decide_eq_true (by omega)] at hin
  have e0 : IntKind.i64.wrap (Int.tdiv (bs.size : Int) 2) = (n : Int) := by rw [td2, show bs.size / 2 = n by omega]; exact wI (by omega)
  have e1 : Int.tmod (bs.size : Int) 2 = 0 := by rw [tm2]; omega
  have w2n : IntKind.i64.wrap (2 * (n : Int)) = ((2 * n : Nat) : Int) := wC (by omega) (by omega)
  refine SpecW.of_EV hf_s_l01Read hc_s_l01Read rfl rfl rfl fun w0 B ρ0 _ => ?_
  (repeat' (first | refine Exists.intro _ (And.intro e0 ?_) | refine Exists.intro 0 (And.intro e1 ?_) | refine (hin).pure rfl ?_ | refine Exists.intro (pcl (n : Int) (List.replicate 16 0)) (And.intro ⟨leR rfl, rfl⟩ ?_) | refine Exists.intro (pcl (n : Int) (List.replicate 16 0)) (And.intro ⟨rfl, rfl⟩ ?_) | refine And.intro (neI rfl) ?_ | refine And.intro ⟨rfl, leR rfl, onesR rfl⟩ ?_ | refine And.intro ⟨rfl, leR rfl⟩ ?_ | refine draw_rule2 hfol (fun KK hKK => ?_) | refine hKK _ _ _ (by kernel_rfl) ?_ | refine region_rule (fun KK hKK => ?_) | refine hKK _ _ ?_ | refine And.intro (Eq.refl true) ?_ | refine Exists.intro _ (And.intro (wI (by omega)) ?_) | refine Exists.intro _ (And.intro (wU (by omega)) ?_) | refine Exists.intro _ (And.intro ⟨rfl, by omega⟩ ?_) | refine Exists.intro _ (And.intro rfl ?_) | refine And.intro rfl ?_ | refine And.intro ⟨rfl, rfl⟩ ?_ | ((refine And.intro (fun _ => ?_) (fun _ => ?_)) <;> try (exfalso; omega))))
  refine loop_rule (α := Nat × List Nat × (Nat → Nat) × List Nat) (fun (k, st, q, M) => k ≤ 2 * n ∧ st.length ≤ k ∧ PI (tbL bs) k st q ∧ MI n k st q M ∧ pm (tbL bs) (2 * n - k) k st q = some ([], o))
    (fun (k, st, q, M) => [(0, .raw (.string bs)), (2, .ptr 0 0), (4, vi n), (5, .ptr 1 0), (6, .sl 2), (7, vi k)])
    (fun (k, st, q, M) => [.pc (pcl 0 (List.replicate 16 0)) T_i_Diagram, .pc (pcl n M) T_i_Diagram, .pr T_int64 1 st.length (rowL st)]) (fun (k, _, _, _) => 2 * n - k) (0, [], (fun _ => 0), List.replicate 16 0) [0, 2, 1]
    ⟨by omega, by simp, PI.start _ _, MI_0, hp⟩ ⟨⟨rfl, rfl, rfl, rfl, rfl, rfl, trivial⟩, ⟨rfl, rfl, rfl, trivial⟩, rfl⟩ ?_
  rintro ⟨k, st, q, M⟩ g ⟨hk, hsl, hPI, hMI, hR⟩
  by_cases h9 : k = 2 * n
  · subst h9
    rw [Nat.sub_self] at hR
    obtain ⟨rfl, rfl⟩ := Prod.mk.inj (Option.some.inj (show some (st, q) = some ([], o) from hR))
    have hM := MI_end hn (fun j hj => (hpl.1 j hj).1) hMI
    have hlen : ([] : List Nat).length = 0 := rfl
    (repeat' (first | refine Exists.intro _ (And.intro w2n ?_) | refine Exists.intro (pcl (n : Int) M) (And.intro ⟨pcl_len hMI.1, pcl_all hMI.1⟩ ?_) | refine And.intro ⟨pcl_len hMI.1, leR rfl, pcl_ones⟩ ?_ | refine Exists.intro (pcl (n : Int) M) (And.intro ⟨leR rfl, spl0 (leR rfl)⟩ ?_) | refine And.intro (neI rfl) ?_ | refine And.intro ⟨rfl, leR rfl, onesR rfl⟩ ?_ | refine And.intro ⟨rfl, leR rfl⟩ ?_ | refine draw_rule2 hfol (fun KK hKK => ?_) | refine hKK _ _ _ (by kernel_rfl) ?_ | refine region_rule (fun KK hKK => ?_) | refine hKK _ _ ?_ | refine And.intro (Eq.refl true) ?_ | refine Exists.intro _ (And.intro (wI (by omega)) ?_) | refine Exists.intro _ (And.intro (wU (by omega)) ?_) | refine Exists.intro _ (And.intro ⟨rfl, by omega⟩ ?_) | refine Exists.intro _ (And.intro rfl ?_) | refine And.intro rfl ?_ | refine And.intro ⟨rfl, rfl⟩ ?_ | ((refine And.intro (fun _ => ?_) (fun _ => ?_)) <;> try (exfalso; omega))))
    exact Exists.intro [] (And.intro (by rw [hM]; rfl) (And.intro trivial rfl))
  have hkl : k < 2 * n := by omega
  have hks : k < bs.size := by omega
  obtain ⟨d, hd⟩ : ∃ d, 2 * n - k = d + 1 := ⟨2 * n - k - 1, by omega⟩
  have hd' : 2 * n - (k + 1) = d := by omega
  rw [hd] at hR
  unfold pm at hR
  by_cases h40 : tbL bs k = 40
  · have hb : bs[k].toNat = 40 := by rw [← tbL_at hks]; exact h40
    rw [if_pos h40] at hR
    (repeat' (first | refine Exists.intro _ (And.intro w2n ?_) | refine Exists.intro k (Exists.intro bs[k] (And.intro ⟨rfl, bsL_at hks⟩ ?_)) | refine And.intro ⟨rfl, mkL rfl⟩ ?_ | refine Exists.intro [Value.int .i64 (k : Int)] (And.intro (row1s (mkL' rfl)) ?_) | refine Exists.intro (rowL (k :: st)) (And.intro ⟨rfl, onesR rfl, by omega, by omega, rowL_push⟩ ?_) | refine And.intro (neI rfl) ?_ | refine And.intro ⟨rfl, leR rfl, onesR rfl⟩ ?_ | refine And.intro ⟨rfl, leR rfl⟩ ?_ | refine draw_rule2 hfol (fun KK hKK => ?_) | refine hKK _ _ _ (by kernel_rfl) ?_ | refine region_rule (fun KK hKK => ?_) | refine hKK _ _ ?_ | refine And.intro (Eq.refl true) ?_ | refine Exists.intro _ (And.intro (wI (by omega)) ?_) | refine Exists.intro _ (And.intro (wU (by omega)) ?_) | refine Exists.intro _ (And.intro ⟨rfl, by omega⟩ ?_) | refine Exists.intro _ (And.intro rfl ?_) | refine And.intro rfl ?_ | refine And.intro ⟨rfl, rfl⟩ ?_ | ((refine And.intro (fun _ => ?_) (fun _ => ?_)) <;> try (exfalso; omega))))
    refine Exists.intro (k + 1, k :: st, q, M) (Exists.intro [0, 1, 4] (And.intro ⟨⟨by omega, by simp; omega, hPI.push h40, MI_push hMI, by rw [hd']; exact hR⟩, (by show 2 * n - (k + 1) < 2 * n - k; omega)⟩ ⟨⟨rfl, rfl, rfl, rfl, rfl, rfl, trivial⟩, ⟨rfl, rfl, rfl, trivial⟩, rfl⟩))
  rw [if_neg h40] at hR
  have hb40 : bs[k].toNat ≠ 40 := by rw [← tbL_at hks]; exact h40
  by_cases h41 : tbL bs k = 41
  rotate_left
  · rw [if_pos h41] at hR; cases hR
  have hb : bs[k].toNat = 41 := by rw [← tbL_at hks]; exact h41
  rw [if_neg (fun e => e h41)] at hR
  cases st with
  | nil => cases hR
  | cons i r =>
    simp only [] at hR
    have hik := hPI.lt i (by simp)
    simp only [List.length_cons] at hsl
    have hlen : (i :: r).length = r.length + 1 := rfl
    have hw : IntKind.i64.wrap (((r.length + 1 : Nat) : Int) - 1) = ((r.length : Nat) : Int) := wC (by omega) (by omega)
    have p1 := s_place n i (by omega) (by omega)
    have p2 := s_place n k (by omega) hkl
    have l1 := plc_lt (n := n) (i := i) (by omega)
    have l2 := plc_lt (n := n) (i := k) hkl
    have hj := s_join n M (plc n i) (plc n k) hMI.1 (by omega) (by omega)
    have hMI2 := MI_pop hn hkl hPI hMI
    generalize ((M.set (plc n i) (plc n k)).set (plc n k) (plc n i)) = M2 at hj hMI2
    (repeat' (first | refine Exists.intro _ (And.intro w2n ?_) | refine Exists.intro k (Exists.intro bs[k] (And.intro ⟨rfl, bsL_at hks⟩ ?_)) | refine Exists.intro _ (And.intro hw ?_) | refine Exists.intro _ (And.intro rowL_top ?_) | refine Exists.intro r.length (Exists.intro (rowL r) (And.intro ⟨rfl, by show r.length ≤ r.length + 1; omega, rfl, rowL_pop⟩ ?_)) | refine Exists.intro (pcl (n : Int) M) (And.intro ⟨pcl_len hMI.1, pcl_all hMI.1⟩ ?_) | refine And.intro ⟨pcl_len hMI.1, leR rfl, pcl_ones⟩ ?_ | refine Exists.intro (pcl (n : Int) M) (And.intro ⟨leR rfl, spl0 (leR rfl)⟩ ?_) | refine (p1).pure rfl ?_ | refine (p2).pure rfl ?_ | refine (hj).pure rfl ?_ | refine Exists.intro (pcl n M2) (And.intro ⟨by rw [pcl_len hMI.1]; exact Nat.le_refl _, spl0 (Nat.le_of_eq (pcl_len hMI.1))⟩ ?_) | refine And.intro ⟨pcl_len hMI2.1, leR rfl, pcl_ones⟩ ?_ | refine And.intro (neI rfl) ?_ | refine And.intro ⟨rfl, leR rfl, onesR rfl⟩ ?_ | refine And.intro ⟨rfl, leR rfl⟩ ?_ | refine draw_rule2 hfol (fun KK hKK => ?_) | refine hKK _ _ _ (by kernel_rfl) ?_ | refine region_rule (fun KK hKK => ?_) | refine hKK _ _ ?_ | refine And.intro (Eq.refl true) ?_ | refine Exists.intro _ (And.intro (wI (by omega)) ?_) | refine Exists.intro _ (And.intro (wU (by omega)) ?_) | refine Exists.intro _ (And.intro ⟨rfl, by omega⟩ ?_) | refine Exists.intro _ (And.intro rfl ?_) | refine And.intro rfl ?_ | refine And.intro ⟨rfl, rfl⟩ ?_ | ((refine And.intro (fun _ => ?_) (fun _ => ?_)) <;> try (exfalso; omega))))
    refine Exists.intro (k + 1, r, up2 q i k, M2) (Exists.intro [0, 1, 3] (And.intro ⟨⟨by omega, by omega, hPI.pop h41, hMI2, by rw [hd']; exact hR⟩, (by show 2 * n - (k + 1) < 2 * n - k; omega)⟩ ⟨⟨rfl, rfl, rfl, rfl, rfl, rfl, trivial⟩, ⟨rfl, rfl, rfl, trivial⟩, rfl⟩))
end Go.Proofs.Ytpangmameocfmaa.VE
namespace Go.Proofs.Ytpangmameocfmaa.VE
open Go
set_option maxHeartbeats 1600000
set_option maxRecDepth 100000

/-! a diagram of a size is drawn -/
theorem jD_byte {n : Nat} {o : Nat → Nat} (hn : n ≤ 8) (hp : Planar (2 * n) o) (i : Nat) : (jD n o (2 * n)).getD i 0 < 16 := by
  have ho : ∀ j, j < 2 * n → o j < 2 * n := fun j hj => (hp.1 j hj).1
  rw [jD_at hn ho _ (Nat.le_refl _)]
  split
  · rename_i h
    have := plc_lt (n := n) (ho _ (plc_lt h.1)); omega
  · omega
theorem pm_op {t : Nat → Nat} {d k : Nat} {st : List Nat} {o : Nat → Nat} (ht : t k = 40) : pm t (d + 1) k st o = pm t d (k + 1) (k :: st) o := by
  conv => lhs; unfold pm
  rw [if_pos ht]
theorem pm_cl {t : Nat → Nat} {d k i : Nat} {r : List Nat} {o : Nat → Nat} (ht : t k = 41) : pm t (d + 1) k (i :: r) o = pm t d (k + 1) r (up2 o i k) := by
  conv => lhs; unfold pm
  rw [if_neg (by rw [ht]; decide), if_neg (by rw [ht]; decide)]
theorem pm_congr {t t' : Nat → Nat} : ∀ {d k : Nat} {st : List Nat} {o : Nat → Nat}, (∀ j, k ≤ j → j < k + d → t j = t' j) → pm t d k st o = pm t' d k st o
  | 0, _, _, _, _ => rfl
  | d + 1, k, st, o, h => by
    unfold pm
    rw [← h k (by omega) (by omega), pm_congr (t := t) (t' := t') (d := d) (k := k + 1) fun j h1 h2 => h j (by omega) (by omega)]
    cases st with
    | nil => rfl
    | cons i r => simp only [pm_congr (t := t) (t' := t') (d := d) (k := k + 1) (st := r) fun j h1 h2 => h j (by omega) (by omega)]
theorem pm_snoc {t : Nat → Nat} : ∀ {d k : Nat} {st st' : List Nat} {o o' : Nat → Nat}, pm t d k st o = some (st', o') → pm t (d + 1) k st o = pm t 1 (k + d) st' o'
  | 0, k, st, st', o, o', h => by
    obtain ⟨rfl, rfl⟩ := Prod.mk.inj (Option.some.inj (show some (st, o) = some (st', o') from h))
    rfl
  | d + 1, k, st, st', o, o', h => by
    by_cases h40 : t k = 40
    · rw [pm_op h40] at h ⊢
      rw [pm_snoc h, show k + 1 + d = k + (d + 1) by omega]
    · by_cases h41 : t k = 41
      · cases st with
        | nil => unfold pm at h; rw [if_neg h40, if_neg (fun e => e h41)] at h; cases h
        | cons i r =>
          rw [pm_cl h41] at h ⊢
          rw [pm_snoc h, show k + 1 + d = k + (d + 1) by omega]
      · unfold pm at h; rw [if_neg h40, if_pos h41] at h; cases h
def b40 : ByteArray := ⟨#[40]⟩
def b41 : ByteArray := ⟨#[41]⟩
theorem tbL_app {T : ByteArray} {c : UInt8} {j : Nat} : tbL (T ++ ⟨#[c]⟩) j = if j < T.size then tbL T j else if j = T.size then c.toNat else 0 := by
  have hs : (T ++ (⟨#[c]⟩ : ByteArray)).size = T.size + 1 := by rw [ByteArray.size_append]; rfl
  by_cases h : j < T.size
  · rw [if_pos h, tbL_at (by omega), tbL_at h]
    congr 1
    exact ByteArray.getElem_append_left h
  · rw [if_neg h]
    by_cases h2 : j = T.size
    · subst h2
      rw [if_pos rfl, tbL_at (by omega), ByteArray.getElem_append_right (Nat.le_refl _)]
      simp
      rfl
    · rw [if_neg h2]
      unfold tbL
      rw [getElem?_neg _ _ (by omega)]; rfl
/-- A text of brackets, so many of which are open. -/
def Bal (T : ByteArray) (m : Nat) : Prop := ∃ st o, pm (tbL T) T.size 0 [] (fun _ => 0) = some (st, o) ∧ st.length = m
theorem Bal.app {T : ByteArray} {m : Nat} {c : UInt8} (h : Bal T m) : ∃ st o, st.length = m ∧ pm (tbL (T ++ ⟨#[c]⟩)) (T ++ (⟨#[c]⟩ : ByteArray)).size 0 [] (fun _ => 0) = pm (tbL (T ++ ⟨#[c]⟩)) 1 T.size st o ∧ tbL (T ++ ⟨#[c]⟩) T.size = c.toNat := by
  obtain ⟨st, o, h1, h2⟩ := h
  have hs : (T ++ (⟨#[c]⟩ : ByteArray)).size = T.size + 1 := by rw [ByteArray.size_append]; rfl
  refine ⟨st, o, h2, ?_, by rw [tbL_app, if_neg (by omega), if_pos rfl]⟩
  rw [hs, pm_snoc (st' := st) (o' := o), Nat.zero_add]
  rw [← h1]
  exact pm_congr fun j _ hj => by rw [tbL_app, if_pos (by omega)]
theorem Bal.open' {T : ByteArray} {m : Nat} (h : Bal T m) : Bal (T ++ b40) (m + 1) := by
  obtain ⟨st, o, h1, h2, h3⟩ := h.app (c := 40)
  refine ⟨T.size :: st, o, ?_, by simp [h1]⟩
  show pm (tbL (T ++ ⟨#[40]⟩)) (T ++ (⟨#[40]⟩ : ByteArray)).size 0 [] (fun _ => 0) = _
  rw [h2, pm_op (by rw [h3]; rfl)]; rfl
theorem Bal.close' {T : ByteArray} {m : Nat} (h : Bal T (m + 1)) : Bal (T ++ b41) m := by
  obtain ⟨st, o, h1, h2, h3⟩ := h.app (c := 41)
  cases st with
  | nil => simp at h1
  | cons i r =>
    refine ⟨r, up2 o i T.size, ?_, by simpa using h1⟩
    show pm (tbL (T ++ ⟨#[41]⟩)) (T ++ (⟨#[41]⟩ : ByteArray)).size 0 [] (fun _ => 0) = _
    rw [h2, pm_cl (by rw [h3]; rfl)]; rfl
theorem Bal.nil : Bal ⟨#[]⟩ 0 := ⟨[], fun _ => 0, rfl, rfl⟩
theorem b40_size : b40.size = 1 := rfl
theorem b41_size : b41.size = 1 := rfl
/-- The text that is drawn, and the source behind it. -/
def dO (g : Nat → Int) (N : Nat) : Nat → Nat → Nat → Nat → Nat → ByteArray → ByteArray × Nat × Nat
  | 0, _, _, a, h, T => (T, a, h)
  | f + 1, op, re, a, h, T =>
    if re = 0 then (if op = 0 then (T, a, h) else dO g N f (op - 1) 0 a h (T ++ b41))
    else if op = 0 then dO g N f 1 (re - 1) a h (T ++ b40)
    else if nxV g N a h % 2 = 0 then dO g N f (op + 1) (re - 1) (nxA N a) (lc h) (T ++ b40)
    else dO g N f (op - 1) re (nxA N a) (lc h) (T ++ b41)
theorem dO_ok {g : Nat → Int} {N : Nat} : ∀ {f op re a h : Nat} {T : ByteArray}, 2 * re + op ≤ f → a ≤ N → Bal T op → Bal (dO g N f op re a h T).1 0 ∧ (dO g N f op re a h T).1.size = T.size + op + 2 * re ∧ (dO g N f op re a h T).2.1 ≤ N
  | 0, op, re, a, h, T, hf, ha, hB => by
    obtain rfl : op = 0 := by omega
    obtain rfl : re = 0 := by omega
    exact ⟨hB, rfl, ha⟩
  | f + 1, op, re, a, h, T, hf, ha, hB => by
    have e40 : (T ++ b40).size = T.size + 1 := by rw [ByteArray.size_append]; rfl
    have e41 : (T ++ b41).size = T.size + 1 := by rw [ByteArray.size_append]; rfl
    rw [dO]
    by_cases hr : re = 0
    · subst hr
      rw [if_pos rfl]
      by_cases ho : op = 0
      · subst ho
        rw [if_pos rfl]
        exact ⟨hB, rfl, ha⟩
      · rw [if_neg ho]
        obtain ⟨x, rfl⟩ : ∃ x, op = x + 1 := ⟨op - 1, by omega⟩
        rw [Nat.add_sub_cancel]
        have := dO_ok (g := g) (N := N) (f := f) (op := x) (re := 0) (a := a) (h := h) (T := T ++ b41) (by omega) ha hB.close'
        exact ⟨this.1, by rw [this.2.1, e41]; omega, this.2.2⟩
    · rw [if_neg hr]
      by_cases ho : op = 0
      · subst ho
        rw [if_pos rfl]
        have := dO_ok (g := g) (N := N) (f := f) (op := 1) (re := re - 1) (a := a) (h := h) (T := T ++ b40) (by omega) ha hB.open'
        exact ⟨this.1, by rw [this.2.1, e40]; omega, this.2.2⟩
      · rw [if_neg ho]
        by_cases hb : nxV g N a h % 2 = 0
        · rw [if_pos hb]
          have := dO_ok (g := g) (N := N) (f := f) (op := op + 1) (re := re - 1) (a := nxA N a) (h := lc h) (T := T ++ b40) (by omega) (nxA_le ha) hB.open'
          exact ⟨this.1, by rw [this.2.1, e40]; omega, this.2.2⟩
        · rw [if_neg hb]
          obtain ⟨x, rfl⟩ : ∃ x, op = x + 1 := ⟨op - 1, by omega⟩
          rw [Nat.add_sub_cancel]
          have := dO_ok (g := g) (N := N) (f := f) (op := x) (re := re) (a := nxA N a) (h := lc h) (T := T ++ b41) (by omega) (nxA_le ha) hB.close'
          exact ⟨this.1, by rw [this.2.1, e41]; omega, this.2.2⟩
attribute [local irreducible] IntKind.wrap
theorem s_drawOfP {W : World → (Nat → Prop) → Prop} {v : Value} {g : Nat → Int} {N : Nat} (hA : ArgK .u8 W v g N) (hN : N ≤ 1048576) (hg : ∀ j, j < N → 0 ≤ g j ∧ g j < 256) (at' h : Nat) (hat : at' ≤ N) (n : Nat) (hn1 : 1 ≤ n) (hn : n ≤ 8) :
    ∃ m a2 h2, (m.length = 16 ∧ ∀ j, m.getD j 0 < 16) ∧ a2 ≤ N ∧ SpecW Try.prog W n_s_l01DrawOf [.ptr 0 0, vi n] [srcO v at' h] (pv n m) [srcO v a2 h2] := by
  obtain ⟨hb1, hb2, hb3⟩ := dO_ok (g := g) (N := N) (f := 2 * n) (op := 0) (re := n) (a := at') (h := h) (T := ⟨#[]⟩) (by omega) hat Bal.nil
  obtain ⟨r, hr⟩ : ∃ r, r = dO g N (2 * n) 0 n at' h ⟨#[]⟩ := ⟨_, rfl⟩
  rw [← hr] at hb1 hb2 hb3
  have hsz : r.1.size = 2 * n := by rw [hb2]; show 0 + 0 + 2 * n = 2 * n; omega
  obtain ⟨st, o, hpm, hst⟩ := hb1
  obtain rfl : st = [] := List.length_eq_zero_iff.1 hst
  have hpl := (pm_planar hpm).1
  rw [hsz] at hpl
  have hD : (jD n o (2 * n)).length = 16 ∧ ∀ j, (jD n o (2 * n)).getD j 0 < 16 := ⟨jD_len _, jD_byte hn hpl⟩
  have hrd := s_lread n r.1 hn1 hn hsz o hpm
  refine ⟨_, _, _, hD, hb3, (?_ : SpecW Try.prog W n_s_l01DrawOf [.ptr 0 0, vi n] [srcO v at' h] (pv n (jD n o (2 * n))) [srcO v r.2.1 r.2.2])⟩
  have hDl := hD.1
  generalize jD n o (2 * n) = m at hrd hDl ⊢
  clear hpm hpl hD
  refine SpecW.of_EV hf_s_l01DrawOf hc_s_l01DrawOf rfl rfl rfl fun w0 B ρ0 hW => ?_
  have hp := ArgK.pass (Γ := ⟨w0, B, ([srcO v at' h] : List O).length, ρ0⟩) hA hW
  (repeat' (first | refine Exists.intro (pcl 0 (List.replicate 16 0)) (And.intro ⟨leR rfl, rfl⟩ ?_) | refine Exists.intro (pcl 0 (List.replicate 16 0)) (And.intro ⟨rfl, rfl⟩ ?_) | refine And.intro (neI rfl) ?_ | refine And.intro ⟨rfl, leR rfl, onesR rfl⟩ ?_ | refine And.intro ⟨rfl, leR rfl⟩ ?_ | refine draw_rule2 hfol (fun KK hKK => ?_) | refine hKK _ _ _ (by kernel_rfl) ?_ | refine region_rule (fun KK hKK => ?_) | refine hKK _ _ ?_ | refine And.intro (Eq.refl true) ?_ | refine Exists.intro _ (And.intro (wI (by omega)) ?_) | refine Exists.intro _ (And.intro (wU (by omega)) ?_) | refine Exists.intro _ (And.intro ⟨rfl, by omega⟩ ?_) | refine Exists.intro _ (And.intro rfl ?_) | refine And.intro rfl ?_ | refine And.intro ⟨rfl, rfl⟩ ?_ | ((refine And.intro (fun _ => ?_) (fun _ => ?_)) <;> try (exfalso; omega))))
  refine loop_rule (α := Nat × Nat × Nat × Nat × Nat × ByteArray) (fun (f, op, re, a, h, T) => 2 * re + op ≤ f ∧ f ≤ 16 ∧ a ≤ N ∧ T.size + op + 2 * re = 2 * n ∧ dO g N f op re a h T = r)
    (fun (f, op, re, a, h, T) => [(0, .ptr 0 0), (1, vi n), (4, .ptr 1 0), (5, .raw (.string T)), (6, vi op), (7, vi re)])
    (fun (f, op, re, a, h, T) => [srcO v a h, .pc (pcl 0 (List.replicate 16 0)) T_i_Diagram]) (fun (f, _) => f) (2 * n, 0, n, at', h, ⟨#[]⟩) [0, 1]
    ⟨by omega, by omega, hat, by show 0 + 0 + 2 * n = 2 * n; omega, hr.symm⟩ ⟨⟨rfl, rfl, rfl, rfl, rfl, rfl, trivial⟩, ⟨rfl, rfl, trivial⟩, rfl⟩ ?_
  rintro ⟨f, op, re, a, h, T⟩ gg ⟨h1, h2, h3, h4, h5⟩
  dsimp only at h1 h2 h3 h4 h5 ⊢
  have hT : T.size ≤ 1000 := by omega
  cases f with
  | zero =>
    obtain rfl : op = 0 := by omega
    obtain rfl : re = 0 := by omega
    rw [dO] at h5
    subst h5
    (repeat' (first | refine (hrd).pure rfl ?_ | refine Exists.intro (pcl (n : Int) m) (And.intro ⟨pcl_len hDl, pcl_all hDl⟩ ?_) | refine And.intro ⟨pcl_len hDl, leR rfl, pcl_ones⟩ ?_ | refine Exists.intro (pcl (n : Int) m) (And.intro ⟨leR rfl, spl0 (leR rfl)⟩ ?_) | refine And.intro (neI rfl) ?_ | refine And.intro ⟨rfl, leR rfl, onesR rfl⟩ ?_ | refine And.intro ⟨rfl, leR rfl⟩ ?_ | refine draw_rule2 hfol (fun KK hKK => ?_) | refine hKK _ _ _ (by kernel_rfl) ?_ | refine region_rule (fun KK hKK => ?_) | refine hKK _ _ ?_ | refine And.intro (Eq.refl true) ?_ | refine Exists.intro _ (And.intro (wI (by omega)) ?_) | refine Exists.intro _ (And.intro (wU (by omega)) ?_) | refine Exists.intro _ (And.intro ⟨rfl, by omega⟩ ?_) | refine Exists.intro _ (And.intro rfl ?_) | refine And.intro rfl ?_ | refine And.intro ⟨rfl, rfl⟩ ?_ | ((refine And.intro (fun _ => ?_) (fun _ => ?_)) <;> try (exfalso; omega))))
    exact Exists.intro [0] (And.intro (rfl) (And.intro ⟨rfl, trivial⟩ rfl))
  | succ f =>
    rw [dO] at h5
    have w1 : IntKind.i64.wrap ((op : Int) + 1) = ((op + 1 : Nat) : Int) := wC (by omega) (by omega)
    by_cases hre : re = 0
    · subst hre
      rw [if_pos rfl] at h5
      by_cases hop : op = 0
      · subst hop
        rw [if_pos rfl] at h5
        subst h5
        (repeat' (first | refine (hrd).pure rfl ?_ | refine Exists.intro (pcl (n : Int) m) (And.intro ⟨pcl_len hDl, pcl_all hDl⟩ ?_) | refine And.intro ⟨pcl_len hDl, leR rfl, pcl_ones⟩ ?_ | refine Exists.intro (pcl (n : Int) m) (And.intro ⟨leR rfl, spl0 (leR rfl)⟩ ?_) | refine And.intro (neI rfl) ?_ | refine And.intro ⟨rfl, leR rfl, onesR rfl⟩ ?_ | refine And.intro ⟨rfl, leR rfl⟩ ?_ | refine draw_rule2 hfol (fun KK hKK => ?_) | refine hKK _ _ _ (by kernel_rfl) ?_ | refine region_rule (fun KK hKK => ?_) | refine hKK _ _ ?_ | refine And.intro (Eq.refl true) ?_ | refine Exists.intro _ (And.intro (wI (by omega)) ?_) | refine Exists.intro _ (And.intro (wU (by omega)) ?_) | refine Exists.intro _ (And.intro ⟨rfl, by omega⟩ ?_) | refine Exists.intro _ (And.intro rfl ?_) | refine And.intro rfl ?_ | refine And.intro ⟨rfl, rfl⟩ ?_ | ((refine And.intro (fun _ => ?_) (fun _ => ?_)) <;> try (exfalso; omega))))
        exact Exists.intro [0] (And.intro (rfl) (And.intro ⟨rfl, trivial⟩ rfl))
      · rw [if_neg hop] at h5
        have w2 : IntKind.i64.wrap ((op : Int) - 1) = ((op - 1 : Nat) : Int) := wC (by omega) (by omega)
        have hsz : (T ++ b41).size = T.size + 1 := by rw [ByteArray.size_append]; rfl
        (repeat' (first | refine Exists.intro _ (And.intro w2 ?_) | refine And.intro (by show T.size + 1 ≤ _; omega) (Exists.intro (T ++ b41) (And.intro rfl ?_)) | refine And.intro (neI rfl) ?_ | refine And.intro ⟨rfl, leR rfl, onesR rfl⟩ ?_ | refine And.intro ⟨rfl, leR rfl⟩ ?_ | refine draw_rule2 hfol (fun KK hKK => ?_) | refine hKK _ _ _ (by kernel_rfl) ?_ | refine region_rule (fun KK hKK => ?_) | refine hKK _ _ ?_ | refine And.intro (Eq.refl true) ?_ | refine Exists.intro _ (And.intro (wI (by omega)) ?_) | refine Exists.intro _ (And.intro (wU (by omega)) ?_) | refine Exists.intro _ (And.intro ⟨rfl, by omega⟩ ?_) | refine Exists.intro _ (And.intro rfl ?_) | refine And.intro rfl ?_ | refine And.intro ⟨rfl, rfl⟩ ?_ | ((refine And.intro (fun _ => ?_) (fun _ => ?_)) <;> try (exfalso; omega))))
        exact Exists.intro (f, op - 1, 0, a, h, T ++ b41) (Exists.intro [0, 1] (And.intro ⟨⟨by dsimp only; omega, by dsimp only; omega, h3, by dsimp only; omega, h5⟩, (by show f < f + 1; omega)⟩ ⟨⟨rfl, rfl, rfl, rfl, rfl, rfl, trivial⟩, ⟨rfl, rfl, trivial⟩, rfl⟩))
    · rw [if_neg hre] at h5
      have w3 : IntKind.i64.wrap ((re : Int) - 1) = ((re - 1 : Nat) : Int) := wC (by omega) (by omega)
      have hsz : (T ++ b40).size = T.size + 1 := by rw [ByteArray.size_append]; rfl
      have hsz2 : (T ++ b41).size = T.size + 1 := by rw [ByteArray.size_append]; rfl
      by_cases hop : op = 0
      · subst hop
        rw [if_pos rfl] at h5
        have w4 : IntKind.i64.wrap ((0 : Int) + 1) = ((1 : Nat) : Int) := wC (by omega) (by omega)
        (repeat' (first | refine Exists.intro _ (And.intro w3 ?_) | refine Exists.intro _ (And.intro w4 ?_) | refine And.intro (by show T.size + 1 ≤ _; omega) (Exists.intro (T ++ b40) (And.intro rfl ?_)) | refine And.intro (neI rfl) ?_ | refine And.intro ⟨rfl, leR rfl, onesR rfl⟩ ?_ | refine And.intro ⟨rfl, leR rfl⟩ ?_ | refine draw_rule2 hfol (fun KK hKK => ?_) | refine hKK _ _ _ (by kernel_rfl) ?_ | refine region_rule (fun KK hKK => ?_) | refine hKK _ _ ?_ | refine And.intro (Eq.refl true) ?_ | refine Exists.intro _ (And.intro (wI (by omega)) ?_) | refine Exists.intro _ (And.intro (wU (by omega)) ?_) | refine Exists.intro _ (And.intro ⟨rfl, by omega⟩ ?_) | refine Exists.intro _ (And.intro rfl ?_) | refine And.intro rfl ?_ | refine And.intro ⟨rfl, rfl⟩ ?_ | ((refine And.intro (fun _ => ?_) (fun _ => ?_)) <;> try (exfalso; omega))))
        exact Exists.intro (f, 1, re - 1, a, h, T ++ b40) (Exists.intro [0, 1] (And.intro ⟨⟨by dsimp only; omega, by dsimp only; omega, h3, by dsimp only; omega, h5⟩, (by show f < f + 1; omega)⟩ ⟨⟨rfl, rfl, rfl, rfl, rfl, rfl, trivial⟩, ⟨rfl, rfl, trivial⟩, rfl⟩))
      · rw [if_neg hop] at h5
        have n1 := s_next hA hN hg a h h3 2 (by omega)
        rw [show (if a < N then a + 1 else a) = nxA N a from rfl] at n1
        have hlt : nxV g N a h % 2 < 2 := Nat.mod_lt _ (by omega)
        have w2 : IntKind.i64.wrap ((op : Int) - 1) = ((op - 1 : Nat) : Int) := wC (by omega) (by omega)
        by_cases hb : nxV g N a h % 2 = 0
        · rw [if_pos hb] at h5
          rw [hb] at n1
          generalize hh : lc h = h' at n1 h5
          (repeat' (first | refine n1.makeW hp [0] rfl ⟨rfl, trivial⟩ ?_ | refine Exists.intro _ (And.intro w1 ?_) | refine Exists.intro _ (And.intro w3 ?_) | refine And.intro (by show T.size + 1 ≤ _; omega) (Exists.intro (T ++ b40) (And.intro rfl ?_)) | refine And.intro (neI rfl) ?_ | refine And.intro ⟨rfl, leR rfl, onesR rfl⟩ ?_ | refine And.intro ⟨rfl, leR rfl⟩ ?_ | refine draw_rule2 hfol (fun KK hKK => ?_) | refine hKK _ _ _ (by kernel_rfl) ?_ | refine region_rule (fun KK hKK => ?_) | refine hKK _ _ ?_ | refine And.intro (Eq.refl true) ?_ | refine Exists.intro _ (And.intro (wI (by omega)) ?_) | refine Exists.intro _ (And.intro (wU (by omega)) ?_) | refine Exists.intro _ (And.intro ⟨rfl, by omega⟩ ?_) | refine Exists.intro _ (And.intro rfl ?_) | refine And.intro rfl ?_ | refine And.intro ⟨rfl, rfl⟩ ?_ | ((refine And.intro (fun _ => ?_) (fun _ => ?_)) <;> try (exfalso; omega))))
          exact Exists.intro (f, op + 1, re - 1, nxA N a, h', T ++ b40) (Exists.intro [0, 1] (And.intro ⟨⟨by dsimp only; omega, by dsimp only; omega, nxA_le h3, by dsimp only; omega, h5⟩, (by show f < f + 1; omega)⟩ ⟨⟨rfl, rfl, rfl, rfl, rfl, rfl, trivial⟩, ⟨rfl, rfl, trivial⟩, rfl⟩))
        · rw [if_neg hb] at h5
          have hne : ((nxV g N a h % 2 : Nat) : Int) ≠ 0 := by omega
          generalize nxV g N a h % 2 = q at n1 hne
          generalize hh : lc h = h' at n1 h5
          (repeat' (first | refine n1.makeW hp [0] rfl ⟨rfl, trivial⟩ ?_ | refine Exists.intro _ (And.intro w2 ?_) | refine And.intro (by show T.size + 1 ≤ _; omega) (Exists.intro (T ++ b41) (And.intro rfl ?_)) | refine And.intro (neI rfl) ?_ | refine And.intro ⟨rfl, leR rfl, onesR rfl⟩ ?_ | refine And.intro ⟨rfl, leR rfl⟩ ?_ | refine draw_rule2 hfol (fun KK hKK => ?_) | refine hKK _ _ _ (by kernel_rfl) ?_ | refine region_rule (fun KK hKK => ?_) | refine hKK _ _ ?_ | refine And.intro (Eq.refl true) ?_ | refine Exists.intro _ (And.intro (wI (by omega)) ?_) | refine Exists.intro _ (And.intro (wU (by omega)) ?_) | refine Exists.intro _ (And.intro ⟨rfl, by omega⟩ ?_) | refine Exists.intro _ (And.intro rfl ?_) | refine And.intro rfl ?_ | refine And.intro ⟨rfl, rfl⟩ ?_ | ((refine And.intro (fun _ => ?_) (fun _ => ?_)) <;> try (exfalso; omega))))
          exact Exists.intro (f, op - 1, re, nxA N a, h', T ++ b41) (Exists.intro [0, 1] (And.intro ⟨⟨by dsimp only; omega, by dsimp only; omega, nxA_le h3, by dsimp only; omega, h5⟩, (by show f < f + 1; omega)⟩ ⟨⟨rfl, rfl, rfl, rfl, rfl, rfl, trivial⟩, ⟨rfl, rfl, trivial⟩, rfl⟩))
end Go.Proofs.Ytpangmameocfmaa.VE
namespace Go.Proofs.Ytpangmameocfmaa.VE
open Go
set_option maxHeartbeats 3200000
set_option maxRecDepth 100000

/-! texts are damaged (L13 without the diagrams' texts) -/
def rS (l : List ByteArray) : List Value := l.map fun t => .string t
theorem rS_at {l : List ByteArray} {i : Nat} {t : ByteArray} (h : l[i]? = some t) : (rS l)[i]? = some (.string t) := by simp [rS, h]
def fillS (c : List Value) : List ByteArray → Nat → List Value
  | [], _ => c
  | a :: r, i => fillS (c.take (i * 1) ++ (Value.string a).cells.toList ++ c.drop (i * 1 + 1)) r (i + 1)
theorem oneS_len {c : List Value} {a : ByteArray} {i : Nat} (h : i < c.length) : (c.take (i * 1) ++ (Value.string a).cells.toList ++ c.drop (i * 1 + 1)).length = c.length := by
  simp [Value.cells]; omega
theorem fillS_len : ∀ (l : List ByteArray) (c : List Value) (i : Nat), i + l.length ≤ c.length → (fillS c l i).length = c.length
  | [], _, _, _ => rfl
  | a :: r, c, i, h => by
    simp only [List.length_cons] at h
    have h1 := oneS_len (c := c) (a := a) (i := i) (by omega)
    rw [fillS, fillS_len r _ (i + 1) (by rw [h1]; omega), h1]
theorem fillS_eq : ∀ (l : List ByteArray) (c : List Value) (i : Nat), i + l.length = c.length → fillS c l i = c.take i ++ l.map (Value.string)
  | [], c, i, h => by
    simp only [List.length_nil, Nat.add_zero] at h
    rw [fillS, List.map_nil, List.append_nil, List.take_of_length_le (by omega)]
  | a :: r, c, i, h => by
    simp only [List.length_cons] at h
    have h1 := oneS_len (c := c) (a := a) (i := i) (by omega)
    rw [fillS, fillS_eq r _ (i + 1) (by rw [h1]; omega), Nat.mul_one]
    have e : (c.take i ++ (Value.string a).cells.toList ++ c.drop (i + 1)).take (i + 1) = c.take i ++ [Value.string a] := by
      rw [List.take_append_of_le_length (by simp [Value.cells]; omega), List.take_of_length_le (by simp [Value.cells]; omega)]
      rfl
    rw [e]; simp
theorem row_s {z : Array Value} {K : Nat} (l : List ByteArray) (hK : K = l.length) : fillS (madeCells z (K * 1)).toList l 0 = rS l := by
  rw [fillS_eq l _ 0 (by rw [mkK]; omega), List.take_zero, List.nil_append]; rfl
theorem row_s_le {z : Array Value} {K i : Nat} (l : List ByteArray) (hl : l.length ≤ K) (hi : i < K) : i * 1 + 1 ≤ (fillS (madeCells z (K * 1)).toList l 0).length := by
  have h := mkK (z := z) (K := K)
  rw [fillS_len l _ 0 (by omega), h]; omega
abbrev cS40 : ByteArray := ⟨#[40]⟩
abbrev cS41 : ByteArray := ⟨#[41]⟩
abbrev cS124 : ByteArray := ⟨#[124]⟩
abbrev cS49 : ByteArray := ⟨#[49]⟩
abbrev cS48 : ByteArray := ⟨#[48]⟩
abbrev cS44 : ByteArray := ⟨#[44]⟩
abbrev cS32 : ByteArray := ⟨#[32]⟩
abbrev cS45 : ByteArray := ⟨#[45]⟩
abbrev cS120 : ByteArray := ⟨#[120]⟩
abbrev cS10 : ByteArray := ⟨#[10]⟩
def sgL : List ByteArray := [cS40, cS41, cS124, cS49, cS48, cS44, cS32, cS45, cS120, cS10]
theorem sgL_at {q : Nat} (hq : q < 10) : ∃ c, sgL[q]? = some c ∧ c.size = 1 := by
  have h : ∀ q, q < 10 → ∃ c, sgL[q]? = some c ∧ c.size = 1 := by
    intro q hq
    match q, hq with
    | 0, _ => exact ⟨_, rfl, rfl⟩
    | 1, _ => exact ⟨_, rfl, rfl⟩
    | 2, _ => exact ⟨_, rfl, rfl⟩
    | 3, _ => exact ⟨_, rfl, rfl⟩
    | 4, _ => exact ⟨_, rfl, rfl⟩
    | 5, _ => exact ⟨_, rfl, rfl⟩
    | 6, _ => exact ⟨_, rfl, rfl⟩
    | 7, _ => exact ⟨_, rfl, rfl⟩
    | 8, _ => exact ⟨_, rfl, rfl⟩
    | 9, _ => exact ⟨_, rfl, rfl⟩
    | q + 10, h => omega
  exact h q hq
attribute [local irreducible] IntKind.wrap
theorem cat_size (a b : ByteArray) : (a ++ b).size = a.size + b.size := ByteArray.size_append
theorem ext_size (a : ByteArray) (i j : Nat) (h : j ≤ a.size) : (a.extract i j).size = j - i := by rw [ByteArray.size_extract]; omega
theorem lcn_one (h : Nat) : lc h = lcn 1 h := rfl

section
variable {W : World → (Nat → Prop) → Prop} {v : Value} {g : Nat → Int} {N : Nat} (hA : ArgK .u8 W v g N) (hN : N ≤ 1048576) (hg : ∀ j, j < N → 0 ≤ g j ∧ g j < 256)
include hA hN hg
theorem s_nxl (at' h : Nat) (hat : at' ≤ N) (n : Nat) (hn : 1 ≤ n) : ∃ q, q < n ∧ SpecW Try.prog W n_s_l01Next [.ptr 0 0, vi n] [srcO v at' h] (vi (q : Nat)) [srcO v (nxA N at') (lc h)] :=
  ⟨_, Nat.mod_lt _ (by omega), s_next hA hN hg at' h hat n hn⟩
omit hA hN hg in
theorem nxA_ge {N a : Nat} : a ≤ nxA N a := by unfold nxA; split <;> omega
theorem s_damage (at' h : Nat) (hat : at' ≤ N) (t : ByteArray) (ht : t.size ≤ 4611686018427387904) :
    ∃ t' a' j, at' ≤ a' ∧ a' ≤ N ∧ (j = 1 ∨ j = 3) ∧ t'.size ≤ t.size + 1 ∧ SpecW Try.prog W n_s_l01Damage [.ptr 0 0, .raw (.string t)] [srcO v at' h] (.raw (.string t')) [srcO v a' (lcn j h)] := by
  obtain ⟨q, hq, c1⟩ := s_nxl hA hN hg at' h hat 10 (by omega)
  have hf := (@nxA_ge N at')
  have ha1 := nxA_le hat
  generalize nxA N at' = a1 at c1 ha1 hf
  obtain ⟨c, hc, hcs⟩ := sgL_at hq
  have hcS := rS_at hc
  by_cases h0 : t.size = 0
  · refine ⟨c, a1, 1, hf, ha1, Or.inl rfl, by omega, (?_ : SpecW Try.prog W n_s_l01Damage [.ptr 0 0, .raw (.string t)] [srcO v at' h] (.raw (.string c)) [srcO v a1 (lc h)])⟩
    generalize lc h = h1 at c1 ⊢
    refine SpecW.of_EV hf_s_l01Damage hc_s_l01Damage rfl rfl rfl fun w0 B ρ0 hW => ?_
    have hp := ArgK.pass (Γ := ⟨w0, B, ([srcO v at' h] : List O).length, ρ0⟩) hA hW
    (repeat' (first | refine And.intro ⟨rfl, mkL rfl⟩ (And.intro ⟨rfl, row_s_le (K := 10) [cS40] (leR rfl) (leR rfl)⟩ (And.intro ⟨rfl, row_s_le (K := 10) [cS40, cS41] (leR rfl) (leR rfl)⟩ (And.intro ⟨rfl, row_s_le (K := 10) [cS40, cS41, cS124] (leR rfl) (leR rfl)⟩ (And.intro ⟨rfl, row_s_le (K := 10) [cS40, cS41, cS124, cS49] (leR rfl) (leR rfl)⟩ (And.intro ⟨rfl, row_s_le (K := 10) [cS40, cS41, cS124, cS49, cS48] (leR rfl) (leR rfl)⟩ (And.intro ⟨rfl, row_s_le (K := 10) [cS40, cS41, cS124, cS49, cS48, cS44] (leR rfl) (leR rfl)⟩ (And.intro ⟨rfl, row_s_le (K := 10) [cS40, cS41, cS124, cS49, cS48, cS44, cS32] (leR rfl) (leR rfl)⟩ (And.intro ⟨rfl, row_s_le (K := 10) [cS40, cS41, cS124, cS49, cS48, cS44, cS32, cS45] (leR rfl) (leR rfl)⟩ (And.intro ⟨rfl, row_s_le (K := 10) [cS40, cS41, cS124, cS49, cS48, cS44, cS32, cS45, cS120] (leR rfl) (leR rfl)⟩ (Exists.intro (rS [cS40, cS41, cS124, cS49, cS48, cS44, cS32, cS45, cS120, cS10]) (And.intro (row_s (K := 10) [cS40, cS41, cS124, cS49, cS48, cS44, cS32, cS45, cS120, cS10] rfl) ?_))))))))))) | refine c1.makeW hp [0] rfl ⟨rfl, trivial⟩ ?_ | refine Exists.intro _ (And.intro hcS ?_) | refine And.intro (neI rfl) ?_ | refine And.intro ⟨rfl, leR rfl, onesR rfl⟩ ?_ | refine And.intro ⟨rfl, leR rfl⟩ ?_ | refine draw_rule2 hfol (fun KK hKK => ?_) | refine hKK _ _ _ (by kernel_rfl) ?_ | refine region_rule (fun KK hKK => ?_) | refine hKK _ _ ?_ | refine And.intro (Eq.refl true) ?_ | refine Exists.intro _ (And.intro (wI (by omega)) ?_) | refine Exists.intro _ (And.intro (wU (by omega)) ?_) | refine Exists.intro _ (And.intro ⟨rfl, by omega⟩ ?_) | refine Exists.intro _ (And.intro rfl ?_) | refine And.intro rfl ?_ | refine And.intro ⟨rfl, rfl⟩ ?_ | ((refine And.intro (fun _ => ?_) (fun _ => ?_)) <;> try (exfalso; omega))))
    exact Exists.intro [0] (And.intro (rfl) (And.intro ⟨rfl, trivial⟩ rfl))
  obtain ⟨k, hk, c2⟩ := s_nxl hA hN hg a1 (lc h) ha1 t.size (by omega)
  have hf2 := (@nxA_ge N a1)
  have ha2 := nxA_le ha1
  generalize nxA N a1 = a2 at c2 ha2 hf2
  obtain ⟨r, hr, c3⟩ := s_nxl hA hN hg a2 (lc (lc h)) ha2 3 (by omega)
  have hf3 := (@nxA_ge N a2)
  have ha3 := nxA_le ha2
  generalize nxA N a2 = a3 at c3 ha3 hf3
  have w1 : IntKind.i64.wrap ((k : Int) + 1) = ((k + 1 : Nat) : Int) := wC (by omega) (by omega)
  have w2 : IntKind.i64.wrap ((t.size : Nat) : Int) = ((t.size : Nat) : Int) := wI (by omega)
  have e1 := ext_size t 0 k (by omega)
  have e2 := ext_size t (k + 1) t.size (by omega)
  have e3 := ext_size t k t.size (by omega)
  obtain ⟨A, hAe⟩ : ∃ A, t.extract 0 k = A := ⟨_, rfl⟩
  obtain ⟨B1, hBe⟩ : ∃ B, t.extract (k + 1) t.size = B := ⟨_, rfl⟩
  obtain ⟨C, hCe⟩ : ∃ C, t.extract k t.size = C := ⟨_, rfl⟩
  rw [hAe] at e1; rw [hBe] at e2; rw [hCe] at e3
  have s1 := cat_size A c
  have s2 := cat_size (A ++ c) B1
  have s3 := cat_size A B1
  have s4 := cat_size (A ++ c) C
  by_cases r0 : r = 0
  · subst r0
    refine ⟨A ++ c ++ B1, a3, 3, by omega, ha3, Or.inr rfl, by omega, (?_ : SpecW Try.prog W n_s_l01Damage [.ptr 0 0, .raw (.string t)] [srcO v at' h] (.raw (.string (A ++ c ++ B1))) [srcO v a3 (lc (lc (lc h)))])⟩
    generalize lc (lc (lc h)) = h3 at c3 ⊢
    generalize lc (lc h) = h2 at c2 c3
    generalize lc h = h1 at c1 c2
    refine SpecW.of_EV hf_s_l01Damage hc_s_l01Damage rfl rfl rfl fun w0 B ρ0 hW => ?_
    have hp := ArgK.pass (Γ := ⟨w0, B, ([srcO v at' h] : List O).length, ρ0⟩) hA hW
    (repeat' (first | refine And.intro ⟨rfl, mkL rfl⟩ (And.intro ⟨rfl, row_s_le (K := 10) [cS40] (leR rfl) (leR rfl)⟩ (And.intro ⟨rfl, row_s_le (K := 10) [cS40, cS41] (leR rfl) (leR rfl)⟩ (And.intro ⟨rfl, row_s_le (K := 10) [cS40, cS41, cS124] (leR rfl) (leR rfl)⟩ (And.intro ⟨rfl, row_s_le (K := 10) [cS40, cS41, cS124, cS49] (leR rfl) (leR rfl)⟩ (And.intro ⟨rfl, row_s_le (K := 10) [cS40, cS41, cS124, cS49, cS48] (leR rfl) (leR rfl)⟩ (And.intro ⟨rfl, row_s_le (K := 10) [cS40, cS41, cS124, cS49, cS48, cS44] (leR rfl) (leR rfl)⟩ (And.intro ⟨rfl, row_s_le (K := 10) [cS40, cS41, cS124, cS49, cS48, cS44, cS32] (leR rfl) (leR rfl)⟩ (And.intro ⟨rfl, row_s_le (K := 10) [cS40, cS41, cS124, cS49, cS48, cS44, cS32, cS45] (leR rfl) (leR rfl)⟩ (And.intro ⟨rfl, row_s_le (K := 10) [cS40, cS41, cS124, cS49, cS48, cS44, cS32, cS45, cS120] (leR rfl) (leR rfl)⟩ (Exists.intro (rS [cS40, cS41, cS124, cS49, cS48, cS44, cS32, cS45, cS120, cS10]) (And.intro (row_s (K := 10) [cS40, cS41, cS124, cS49, cS48, cS44, cS32, cS45, cS120, cS10] rfl) ?_))))))))))) | refine c1.makeW hp [0] rfl ⟨rfl, trivial⟩ ?_ | refine Exists.intro _ (And.intro hcS ?_) | refine Exists.intro _ (And.intro w2 ?_) | refine c2.makeW hp [0] rfl ⟨rfl, trivial⟩ ?_ | refine c3.makeW hp [0] rfl ⟨rfl, trivial⟩ ?_ | refine Exists.intro _ (And.intro w1 ?_) | refine Exists.intro k (Exists.intro A (And.intro ⟨rfl, by omega, hAe⟩ ?_)) | refine Exists.intro (k + 1) (Exists.intro B1 (And.intro ⟨rfl, by omega, hBe⟩ ?_)) | refine And.intro (show A.size + c.size ≤ 9223372036854775807 by omega) ?_ | refine And.intro (show (A ++ c).size + B1.size ≤ 9223372036854775807 by omega) ?_ | refine And.intro (neI rfl) ?_ | refine And.intro ⟨rfl, leR rfl, onesR rfl⟩ ?_ | refine And.intro ⟨rfl, leR rfl⟩ ?_ | refine draw_rule2 hfol (fun KK hKK => ?_) | refine hKK _ _ _ (by kernel_rfl) ?_ | refine region_rule (fun KK hKK => ?_) | refine hKK _ _ ?_ | refine And.intro (Eq.refl true) ?_ | refine Exists.intro _ (And.intro (wI (by omega)) ?_) | refine Exists.intro _ (And.intro (wU (by omega)) ?_) | refine Exists.intro _ (And.intro ⟨rfl, by omega⟩ ?_) | refine Exists.intro _ (And.intro rfl ?_) | refine And.intro rfl ?_ | refine And.intro ⟨rfl, rfl⟩ ?_ | ((refine And.intro (fun _ => ?_) (fun _ => ?_)) <;> try (exfalso; omega))))
    exact Exists.intro [0] (And.intro (rfl) (And.intro ⟨rfl, trivial⟩ rfl))
  by_cases r1 : r = 1
  · subst r1
    refine ⟨A ++ B1, a3, 3, by omega, ha3, Or.inr rfl, by omega, (?_ : SpecW Try.prog W n_s_l01Damage [.ptr 0 0, .raw (.string t)] [srcO v at' h] (.raw (.string (A ++ B1))) [srcO v a3 (lc (lc (lc h)))])⟩
    generalize lc (lc (lc h)) = h3 at c3 ⊢
    generalize lc (lc h) = h2 at c2 c3
    generalize lc h = h1 at c1 c2
    refine SpecW.of_EV hf_s_l01Damage hc_s_l01Damage rfl rfl rfl fun w0 B ρ0 hW => ?_
    have hp := ArgK.pass (Γ := ⟨w0, B, ([srcO v at' h] : List O).length, ρ0⟩) hA hW
    (repeat' (first | refine And.intro ⟨rfl, mkL rfl⟩ (And.intro ⟨rfl, row_s_le (K := 10) [cS40] (leR rfl) (leR rfl)⟩ (And.intro ⟨rfl, row_s_le (K := 10) [cS40, cS41] (leR rfl) (leR rfl)⟩ (And.intro ⟨rfl, row_s_le (K := 10) [cS40, cS41, cS124] (leR rfl) (leR rfl)⟩ (And.intro ⟨rfl, row_s_le (K := 10) [cS40, cS41, cS124, cS49] (leR rfl) (leR rfl)⟩ (And.intro ⟨rfl, row_s_le (K := 10) [cS40, cS41, cS124, cS49, cS48] (leR rfl) (leR rfl)⟩ (And.intro ⟨rfl, row_s_le (K := 10) [cS40, cS41, cS124, cS49, cS48, cS44] (leR rfl) (leR rfl)⟩ (And.intro ⟨rfl, row_s_le (K := 10) [cS40, cS41, cS124, cS49, cS48, cS44, cS32] (leR rfl) (leR rfl)⟩ (And.intro ⟨rfl, row_s_le (K := 10) [cS40, cS41, cS124, cS49, cS48, cS44, cS32, cS45] (leR rfl) (leR rfl)⟩ (And.intro ⟨rfl, row_s_le (K := 10) [cS40, cS41, cS124, cS49, cS48, cS44, cS32, cS45, cS120] (leR rfl) (leR rfl)⟩ (Exists.intro (rS [cS40, cS41, cS124, cS49, cS48, cS44, cS32, cS45, cS120, cS10]) (And.intro (row_s (K := 10) [cS40, cS41, cS124, cS49, cS48, cS44, cS32, cS45, cS120, cS10] rfl) ?_))))))))))) | refine c1.makeW hp [0] rfl ⟨rfl, trivial⟩ ?_ | refine Exists.intro _ (And.intro hcS ?_) | refine Exists.intro _ (And.intro w2 ?_) | refine c2.makeW hp [0] rfl ⟨rfl, trivial⟩ ?_ | refine c3.makeW hp [0] rfl ⟨rfl, trivial⟩ ?_ | refine Exists.intro _ (And.intro w1 ?_) | refine Exists.intro k (Exists.intro A (And.intro ⟨rfl, by omega, hAe⟩ ?_)) | refine Exists.intro (k + 1) (Exists.intro B1 (And.intro ⟨rfl, by omega, hBe⟩ ?_)) | refine And.intro (show A.size + B1.size ≤ 9223372036854775807 by omega) ?_ | refine And.intro (neI rfl) ?_ | refine And.intro ⟨rfl, leR rfl, onesR rfl⟩ ?_ | refine And.intro ⟨rfl, leR rfl⟩ ?_ | refine draw_rule2 hfol (fun KK hKK => ?_) | refine hKK _ _ _ (by kernel_rfl) ?_ | refine region_rule (fun KK hKK => ?_) | refine hKK _ _ ?_ | refine And.intro (Eq.refl true) ?_ | refine Exists.intro _ (And.intro (wI (by omega)) ?_) | refine Exists.intro _ (And.intro (wU (by omega)) ?_) | refine Exists.intro _ (And.intro ⟨rfl, by omega⟩ ?_) | refine Exists.intro _ (And.intro rfl ?_) | refine And.intro rfl ?_ | refine And.intro ⟨rfl, rfl⟩ ?_ | ((refine And.intro (fun _ => ?_) (fun _ => ?_)) <;> try (exfalso; omega))))
    exact Exists.intro [0] (And.intro (rfl) (And.intro ⟨rfl, trivial⟩ rfl))
  · refine ⟨A ++ c ++ C, a3, 3, by omega, ha3, Or.inr rfl, by omega, (?_ : SpecW Try.prog W n_s_l01Damage [.ptr 0 0, .raw (.string t)] [srcO v at' h] (.raw (.string (A ++ c ++ C))) [srcO v a3 (lc (lc (lc h)))])⟩
    generalize lc (lc (lc h)) = h3 at c3 ⊢
    generalize lc (lc h) = h2 at c2 c3
    generalize lc h = h1 at c1 c2
    refine SpecW.of_EV hf_s_l01Damage hc_s_l01Damage rfl rfl rfl fun w0 B ρ0 hW => ?_
    have hp := ArgK.pass (Γ := ⟨w0, B, ([srcO v at' h] : List O).length, ρ0⟩) hA hW
    (repeat' (first | refine And.intro ⟨rfl, mkL rfl⟩ (And.intro ⟨rfl, row_s_le (K := 10) [cS40] (leR rfl) (leR rfl)⟩ (And.intro ⟨rfl, row_s_le (K := 10) [cS40, cS41] (leR rfl) (leR rfl)⟩ (And.intro ⟨rfl, row_s_le (K := 10) [cS40, cS41, cS124] (leR rfl) (leR rfl)⟩ (And.intro ⟨rfl, row_s_le (K := 10) [cS40, cS41, cS124, cS49] (leR rfl) (leR rfl)⟩ (And.intro ⟨rfl, row_s_le (K := 10) [cS40, cS41, cS124, cS49, cS48] (leR rfl) (leR rfl)⟩ (And.intro ⟨rfl, row_s_le (K := 10) [cS40, cS41, cS124, cS49, cS48, cS44] (leR rfl) (leR rfl)⟩ (And.intro ⟨rfl, row_s_le (K := 10) [cS40, cS41, cS124, cS49, cS48, cS44, cS32] (leR rfl) (leR rfl)⟩ (And.intro ⟨rfl, row_s_le (K := 10) [cS40, cS41, cS124, cS49, cS48, cS44, cS32, cS45] (leR rfl) (leR rfl)⟩ (And.intro ⟨rfl, row_s_le (K := 10) [cS40, cS41, cS124, cS49, cS48, cS44, cS32, cS45, cS120] (leR rfl) (leR rfl)⟩ (Exists.intro (rS [cS40, cS41, cS124, cS49, cS48, cS44, cS32, cS45, cS120, cS10]) (And.intro (row_s (K := 10) [cS40, cS41, cS124, cS49, cS48, cS44, cS32, cS45, cS120, cS10] rfl) ?_))))))))))) | refine c1.makeW hp [0] rfl ⟨rfl, trivial⟩ ?_ | refine Exists.intro _ (And.intro hcS ?_) | refine Exists.intro _ (And.intro w2 ?_) | refine c2.makeW hp [0] rfl ⟨rfl, trivial⟩ ?_ | refine c3.makeW hp [0] rfl ⟨rfl, trivial⟩ ?_ | refine Exists.intro _ (And.intro w1 ?_) | refine Exists.intro k (Exists.intro A (And.intro ⟨rfl, by omega, hAe⟩ ?_)) | refine Exists.intro k (Exists.intro C (And.intro ⟨rfl, by omega, hCe⟩ ?_)) | refine And.intro (show A.size + c.size ≤ 9223372036854775807 by omega) ?_ | refine And.intro (show (A ++ c).size + C.size ≤ 9223372036854775807 by omega) ?_ | refine And.intro (neI rfl) ?_ | refine And.intro ⟨rfl, leR rfl, onesR rfl⟩ ?_ | refine And.intro ⟨rfl, leR rfl⟩ ?_ | refine draw_rule2 hfol (fun KK hKK => ?_) | refine hKK _ _ _ (by kernel_rfl) ?_ | refine region_rule (fun KK hKK => ?_) | refine hKK _ _ ?_ | refine And.intro (Eq.refl true) ?_ | refine Exists.intro _ (And.intro (wI (by omega)) ?_) | refine Exists.intro _ (And.intro (wU (by omega)) ?_) | refine Exists.intro _ (And.intro ⟨rfl, by omega⟩ ?_) | refine Exists.intro _ (And.intro rfl ?_) | refine And.intro rfl ?_ | refine And.intro ⟨rfl, rfl⟩ ?_ | ((refine And.intro (fun _ => ?_) (fun _ => ?_)) <;> try (exfalso; omega))))
    exact Exists.intro [0] (And.intro (rfl) (And.intro ⟨rfl, trivial⟩ rfl))
end
end Go.Proofs.Ytpangmameocfmaa.VE
namespace Go.Proofs.Ytpangmameocfmaa.VE
open Go
set_option maxHeartbeats 3200000
set_option maxRecDepth 100000

attribute [local irreducible] IntKind.wrap
/-- The damage ends: K bounds the rounds behind the code's end. -/
def EK (K h : Nat) : Prop := (K = 0 ∧ lcv (lc h) % 3 ≠ 0) ∨ (1 ≤ K ∧ lcv (lcn (2 * (K - 1)) (lc h)) % 3 ≠ 0 ∧ lcv (lcn (2 * (K - 1) + 2) (lc h)) % 3 ≠ 0)
theorem EK_ex (h : Nat) : ∃ K, K ≤ 72057594037927937 ∧ EK K h := by
  obtain ⟨J, hJ, h1, h2⟩ := lc_ends (lc h)
  exact ⟨J + 1, by omega, Or.inr ⟨by omega, h1, h2⟩⟩
theorem lcnn (h : Nat) : lcv (lcn 0 h) = lcv h := rfl
theorem lcS (j h : Nat) : lc (lcn j h) = lcn (j + 1) h := by
  rw [lcn_one, ← lcn_add]
theorem EK_next {K h j : Nat} (hE : EK K h) (h0 : lcv (lc h) % 3 = 0) (hj : j = 1 ∨ j = 3) : ∃ K', K' < K ∧ EK K' (lcn j (lc h)) := by
  rcases hE with ⟨_, h1⟩ | ⟨hK, h1, h2⟩
  · exact absurd h0 h1
  have hK2 : 2 ≤ K := by
    refine Classical.byContradiction fun hn => ?_
    obtain rfl : K = 1 := by omega
    exact h1 h0
  obtain ⟨k, rfl⟩ : ∃ k, K = k + 2 := ⟨K - 2, by omega⟩
  rw [show 2 * (k + 2 - 1) = 2 + 2 * k by omega] at h1 h2
  rcases hj with rfl | rfl
  · refine ⟨k + 1, by omega, Or.inr ⟨by omega, ?_, ?_⟩⟩
    · rw [lcS, ← lcn_add, show 1 + 1 + 2 * (k + 1 - 1) = 2 + 2 * k by omega]; exact h1
    · rw [lcS, ← lcn_add, show 1 + 1 + (2 * (k + 1 - 1) + 2) = 2 + 2 * k + 2 by omega]; exact h2
  · cases k with
    | zero =>
      refine ⟨0, by omega, Or.inl ⟨rfl, ?_⟩⟩
      rw [lcS]; exact h2
    | succ k =>
      refine ⟨k + 1, by omega, Or.inr ⟨by omega, ?_, ?_⟩⟩
      · rw [lcS, ← lcn_add, show 3 + 1 + 2 * (k + 1 - 1) = 2 + 2 * (k + 1) by omega]; exact h1
      · rw [lcS, ← lcn_add, show 3 + 1 + (2 * (k + 1 - 1) + 2) = 2 + 2 * (k + 1) + 2 by omega]; exact h2
/-- The rounds of the damage. -/
def Rn (W : World → (Nat → Prop) → Prop) (v : Value) (g : Nat → Int) (N : Nat) (T : ByteArray) : Nat → Nat → Nat → ByteArray → Prop
  | 0, a, h, t => (nxV g N a h % 3 ≠ 0 ∧ T = t) ∧ a ≤ N
  | n + 1, a, h, t => nxV g N a h % 3 = 0 ∧ a ≤ N ∧ ∃ t' a' h', SpecW Try.prog W n_s_l01Damage [.ptr 0 0, .raw (.string t)] [srcO v (nxA N a) (lc h)] (.raw (.string t')) [srcO v a' h'] ∧ Rn W v g N T n a' h' t'
section
variable {W : World → (Nat → Prop) → Prop} {v : Value} {g : Nat → Int} {N : Nat} (hA : ArgK .u8 W v g N) (hN : N ≤ 1048576) (hg : ∀ j, j < N → 0 ≤ g j ∧ g j < 256)
include hA hN hg
theorem Rn_end : ∀ (K h : Nat) (t : ByteArray), EK K h → K ≤ 72057594037927937 → t.size + K ≤ 72057594039000000 → ∃ n T, T.size ≤ 72057594039000000 ∧ Rn W v g N T n N h t := by
  intro K
  induction K using Nat.strongRecOn with
  | ind K ih =>
    intro h t hE hK hs
    have hx : nxV g N N h = lcv (lc h) := by unfold nxV; rw [if_neg (by omega), Nat.add_zero]
    by_cases h0 : lcv (lc h) % 3 = 0
    · obtain ⟨t', a', j, ha, ha', hj, hs', c⟩ := s_damage hA hN hg N (lc h) (Nat.le_refl _) t (by omega)
      obtain rfl : a' = N := by omega
      obtain ⟨K', hK', hE'⟩ := EK_next hE h0 hj
      obtain ⟨n, T, hT, hR⟩ := ih K' hK' _ t' hE' (by omega) (by omega)
      have hn : nxA a' a' = a' := by unfold nxA; rw [if_neg (by omega)]
      refine ⟨n + 1, T, hT, by rw [hx]; exact h0, Nat.le_refl _, t', a', _, ?_, hR⟩
      rw [hn]; exact c
    · exact ⟨0, t, by omega, ⟨by rw [hx]; exact h0, rfl⟩, Nat.le_refl _⟩
theorem Rn_ex : ∀ (d a h : Nat) (t : ByteArray), a + d = N → t.size ≤ 16 + a → ∃ n T, T.size ≤ 72057594039000000 ∧ Rn W v g N T n a h t := by
  intro d
  induction d using Nat.strongRecOn with
  | ind d ih =>
    intro a h t hd hs
    by_cases h9 : a = N
    · subst h9
      obtain ⟨K, hK, hE⟩ := EK_ex h
      exact Rn_end hA hN hg K h t hE hK (by omega)
    by_cases h0 : nxV g N a h % 3 = 0
    · have hn : nxA N a = a + 1 := by unfold nxA; rw [if_pos (by omega)]
      obtain ⟨t', a', j, ha, ha', hj, hs', c⟩ := s_damage hA hN hg (a + 1) (lc h) (by omega) t (by omega)
      obtain ⟨n, T, hT, hR⟩ := ih (N - a') (by omega) a' (lcn j (lc h)) t' (by omega) (by omega)
      refine ⟨n + 1, T, hT, h0, by omega, t', a', _, ?_, hR⟩
      rw [hn]; exact c
    · exact ⟨0, t, by omega, ⟨h0, rfl⟩, by omega⟩
end
end Go.Proofs.Ytpangmameocfmaa.VE
