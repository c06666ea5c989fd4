/- Contracts of functions of the given program, for all arguments that the contract names; see each theorem. -/
import Derived.Test.YtgpgcdofhkpeaaaLA
import Derived.Test.YtgpgcdofhkpeaaaQ1
import Derived.Test.YtgpgcdofhkpeaaaU3a
import Derived.Test.YtgpgcdofhkpeaaaU16a
import Derived.Test.YtgpgcdofhkpeaaaU9
import Derived.Test.YtgpgcdofhkpeaaaFA
import Derived.Test.YtgpgcdofhkpeaaaU22
set_option linter.all false
namespace Go.Proofs.Ytgpgcdofhkpeaaa.VE
open Go
set_option maxHeartbeats 800000
set_option maxRecDepth 100000

/-! a text of brackets is read -/
def tbL (bs : ByteArray) (i : Nat) : Nat := ((bs[i]?.map UInt8.toNat).getD 0)
theorem bsL_at {bs : ByteArray} {i : Nat} (h : i < bs.size) : bs[i]? = some bs[i] := getElem?_pos bs i h
theorem tbL_at {bs : ByteArray} {i : Nat} (h : i < bs.size) : tbL bs i = bs[i].toNat := by simp [tbL, bsL_at h]
def rowL (st : List Nat) : List Value := st.reverse.map fun (x : Nat) => .int .i64 (x : Int)
theorem rowL_push {i : Nat} {st : List Nat} : rowL st ++ [.int .i64 (i : Int)] = rowL (i :: st) := by simp [rowL]
theorem rowL_top {i : Nat} {r : List Nat} : (rowL (i :: r))[r.length]? = some (.int .i64 (i : Int)) := by simp [rowL]
theorem rowL_pop {i : Nat} {r : List Nat} : (rowL (i :: r)).take (r.length * 1) = rowL r := by simp [rowL]
/-- The diagram so far. -/
def MI (n k : Nat) (st : List Nat) (o : Nat → Nat) (M : List Nat) : Prop := M.length = 16 ∧ ∀ j, j < 16 → M.getD j 0 = if j < 2 * n ∧ plc n j < k ∧ plc n j ∉ st then plc n (o (plc n j)) else 0
theorem MI_push {n k : Nat} {st : List Nat} {o : Nat → Nat} {M : List Nat} (h : MI n k st o M) : MI n (k + 1) (k :: st) o M := by
  refine ⟨h.1, fun j hj => ?_⟩
  rw [h.2 j hj]
  by_cases h1 : j < 2 * n ∧ plc n j < k ∧ plc n j ∉ st
  · rw [if_pos h1, if_pos ⟨h1.1, by omega, by simp only [List.mem_cons, not_or]; exact ⟨by omega, h1.2.2⟩⟩]
  · rw [if_neg h1, if_neg]
    rintro ⟨h2, h3, h4⟩
    simp only [List.mem_cons, not_or] at h4
    exact h1 ⟨h2, by omega, h4.2⟩
theorem MI_pop {t : Nat → Nat} {n k i : Nat} {st : List Nat} {o : Nat → Nat} {M : List Nat} (hn : n ≤ 8) (hk : k < 2 * n) (hp : PI t k (i :: st) o) (h : MI n k (i :: st) o M) : MI n (k + 1) st (up2 o i k) ((M.set (plc n i) (plc n k)).set (plc n k) (plc n i)) := by
  have hik := hp.lt i (by simp)
  have hni : i ∉ st := fun e => by
    have := List.rel_of_pairwise_cons hp.sorted e
    omega
  have hl1 := plc_lt (n := n) (i := i) (by omega)
  have hl2 := plc_lt (n := n) (i := k) hk
  have hv1 := plc_inv (n := n) (i := i) (by omega)
  have hv2 := plc_inv (n := n) (i := k) hk
  refine ⟨by simpa using h.1, fun j hj => ?_⟩
  rw [getD_set' (by rw [List.length_set, h.1]; omega), getD_set' (by rw [h.1]; omega), h.2 j hj]
  by_cases h1 : plc n k = j
  · subst h1
    rw [if_pos rfl, hv2, if_pos ⟨hl2, by omega, fun e => by have := hp.lt k (by simp [e]); omega⟩]
    show plc n i = plc n (if k = k then i else _)
    rw [if_pos rfl]
  · rw [if_neg h1]
    by_cases h2 : plc n i = j
    · subst h2
      rw [if_pos rfl, hv1, if_pos ⟨hl1, by omega, hni⟩]
      show plc n k = plc n (if i = k then i else if i = i then k else _)
      rw [if_neg (by omega), if_pos rfl]
    · rw [if_neg h2]
      by_cases h3 : j < 2 * n
      · have e1 : plc n j ≠ k := fun e => h1 (by rw [← e, plc_inv h3])
        have e2 : plc n j ≠ i := fun e => h2 (by rw [← e, plc_inv h3])
        have e3 : up2 o i k (plc n j) = o (plc n j) := by
          show (if plc n j = k then i else if plc n j = i then k else o (plc n j)) = _
          rw [if_neg e1, if_neg e2]
        rw [e3]
        by_cases h4 : plc n j < k ∧ plc n j ∉ st
        · rw [if_pos ⟨h3, h4.1, by simp only [List.mem_cons, not_or]; exact ⟨e2, h4.2⟩⟩, if_pos ⟨h3, by omega, h4.2⟩]
        · rw [if_neg (fun e => h4 ⟨e.2.1, fun e5 => e.2.2 (by simp [e5])⟩), if_neg (fun e => h4 ⟨by omega, e.2.2⟩)]
      · rw [if_neg (fun e => h3 e.1), if_neg (fun e => h3 e.1)]
theorem MI_end {n : Nat} {o : Nat → Nat} {M : List Nat} (hn : n ≤ 8) (ho : ∀ j, j < 2 * n → o j < 2 * n) (h : MI n (2 * n) [] o M) : M = jD n o (2 * n) := by
  refine eq_of_getD h.1 (jD_len _) fun j hj => ?_
  rw [h.2 j hj, jD_at hn ho _ (Nat.le_refl _)]
  by_cases h1 : j < 2 * n
  · rw [if_pos ⟨h1, plc_lt h1, by simp⟩, if_pos ⟨h1, plc_lt h1⟩]
  · rw [if_neg (fun e => h1 e.1), if_neg (fun e => h1 e.1)]
theorem MI_0 {n : Nat} {o : Nat → Nat} : MI n 0 [] o (List.replicate 16 0) := by
  refine ⟨by simp, fun j hj => ?_⟩
  rw [if_neg (by omega), List.getD_eq_getElem?_getD, List.getElem?_replicate, if_pos hj]; rfl
end Go.Proofs.Ytgpgcdofhkpeaaa.VE
namespace Go.Proofs.Ytgpgcdofhkpeaaa.VE
open Go
set_option maxHeartbeats 800000
set_option maxRecDepth 100000

theorem s_lread (n : Nat) (bs : ByteArray) (hn1 : 1 ≤ n) (hn : n ≤ 8) (hs : bs.size = 2 * n) (o : Nat → Nat) (hp : pm (tbL bs) bs.size 0 [] (fun _ => 0) = some ([], o)) : Spec Try.prog n_s_l01Read [.raw (.string bs)] [] (.tup [pv n (jD n o (2 * n)), vb true]) [] := by
  have hpl := (pm_planar hp).1
  rw [hs] at hp hpl
  have hfol : Try.prog.follows .mixedOrders = true := rfl
  have hin := s_in (n : Int) 1 8
  rw [decide_eq_true (by omega)] at hin
  have e0 : IntKind.i64.wrap (Int.tdiv (bs.size : Int) 2) = (n : Int) := by rw [td2, show bs.size / 2 = n by omega]; exact wI (by omega)
  have e1 : Int.tmod (bs.size : Int) 2 = 0 := by rw [tm2]; omega
  have w2n : IntKind.i64.wrap (2 * (n : Int)) = ((2 * n : Nat) : Int) := wC (by omega) (by omega)
  refine SpecW.of_EV hf_s_l01Read hc_s_l01Read rfl rfl rfl fun w0 B ρ0 _ => ?_
  (repeat' (first | refine Exists.intro _ (And.intro e0 ?_) | refine Exists.intro 0 (And.intro e1 ?_) | refine (hin).pure rfl ?_ | refine Exists.intro (pcl (n : Int) (List.replicate 16 0)) (And.intro ⟨leR rfl, rfl⟩ ?_) | refine Exists.intro (pcl (n : Int) (List.replicate 16 0)) (And.intro ⟨rfl, rfl⟩ ?_) | refine And.intro (neI rfl) ?_ | refine And.intro ⟨rfl, leR rfl, onesR rfl⟩ ?_ | refine And.intro ⟨rfl, leR rfl⟩ ?_ | refine draw_rule2 hfol (fun KK hKK => ?_) | refine hKK _ _ _ (by kernel_rfl) ?_ | refine region_rule (fun KK hKK => ?_) | refine hKK _ _ ?_ | refine And.intro (Eq.refl true) ?_ | refine Exists.intro _ (And.intro (wI (by omega)) ?_) | refine Exists.intro _ (And.intro (wU (by omega)) ?_) | refine Exists.intro _ (And.intro ⟨rfl, by omega⟩ ?_) | refine Exists.intro _ (And.intro rfl ?_) | refine And.intro rfl ?_ | refine And.intro ⟨rfl, rfl⟩ ?_ | ((refine And.intro (fun _ => ?_) (fun _ => ?_)) <;> try (exfalso; omega))))
  refine loop_rule (α := Nat × List Nat × (Nat → Nat) × List Nat) (fun (k, st, q, M) => k ≤ 2 * n ∧ st.length ≤ k ∧ PI (tbL bs) k st q ∧ MI n k st q M ∧ pm (tbL bs) (2 * n - k) k st q = some ([], o))
    (fun (k, st, q, M) => [(0, .raw (.string bs)), (2, .ptr 0 0), (4, vi n), (5, .ptr 1 0), (6, .sl 2), (7, vi k)])
    (fun (k, st, q, M) => [.pc (pcl 0 (List.replicate 16 0)) T_i_Diagram, .pc (pcl n M) T_i_Diagram, .pr T_int64 1 st.length (rowL st)]) (fun (k, _, _, _) => 2 * n - k) (0, [], (fun _ => 0), List.replicate 16 0) [0, 2, 1]
    ⟨by omega, by simp, PI.start _ _, MI_0, hp⟩ ⟨⟨rfl, rfl, rfl, rfl, rfl, rfl, trivial⟩, ⟨rfl, rfl, rfl, trivial⟩, rfl⟩ ?_
  rintro ⟨k, st, q, M⟩ g ⟨hk, hsl, hPI, hMI, hR⟩
  by_cases h9 : k = 2 * n
  · subst h9
    rw [Nat.sub_self] at hR
    obtain ⟨rfl, rfl⟩ := Prod.mk.inj (Option.some.inj (show some (st, q) = some ([], o) from hR))
    have hM := MI_end hn (fun j hj => (hpl.1 j hj).1) hMI
    have hlen : ([] : List Nat).length = 0 := rfl
    (repeat' (first | refine Exists.intro _ (And.intro w2n ?_) | refine Exists.intro (pcl (n : Int) M) (And.intro ⟨pcl_len hMI.1, pcl_all hMI.1⟩ ?_) | refine And.intro ⟨pcl_len hMI.1, leR rfl, pcl_ones⟩ ?_ | refine Exists.intro (pcl (n : Int) M) (And.intro ⟨leR rfl, spl0 (leR rfl)⟩ ?_) | refine And.intro (neI rfl) ?_ | refine And.intro ⟨rfl, leR rfl, onesR rfl⟩ ?_ | refine And.intro ⟨rfl, leR rfl⟩ ?_ | refine draw_rule2 hfol (fun KK hKK => ?_) | refine hKK _ _ _ (by kernel_rfl) ?_ | refine region_rule (fun KK hKK => ?_) | refine hKK _ _ ?_ | refine And.intro (Eq.refl true) ?_ | refine Exists.intro _ (And.intro (wI (by omega)) ?_) | refine Exists.intro _ (And.intro (wU (by omega)) ?_) | refine Exists.intro _ (And.intro ⟨rfl, by omega⟩ ?_) | refine Exists.intro _ (And.intro rfl ?_) | refine And.intro rfl ?_ | refine And.intro ⟨rfl, rfl⟩ ?_ | ((refine And.intro (fun _ => ?_) (fun _ => ?_)) <;> try (exfalso; omega))))
    exact Exists.intro [] (And.intro (by rw [hM]; rfl) (And.intro trivial rfl))
  have hkl : k < 2 * n := by omega
  have hks : k < bs.size := by omega
  obtain ⟨d, hd⟩ : ∃ d, 2 * n - k = d + 1 := ⟨2 * n - k - 1, by omega⟩
  have hd' : 2 * n - (k + 1) = d := by omega
  rw [hd] at hR
  unfold pm at hR
  by_cases h40 : tbL bs k = 40
  · have hb : bs[k].toNat = 40 := by rw [← tbL_at hks]; exact h40
    rw [if_pos h40] at hR
    (repeat' (first | refine Exists.intro _ (And.intro w2n ?_) | refine Exists.intro k (Exists.intro bs[k] (And.intro ⟨rfl, bsL_at hks⟩ ?_)) | refine And.intro ⟨rfl, mkL rfl⟩ ?_ | refine Exists.intro [Value.int .i64 (k : Int)] (And.intro (row1s (mkL' rfl)) ?_) | refine Exists.intro (rowL (k :: st)) (And.intro ⟨rfl, onesR rfl, by omega, by omega, rowL_push⟩ ?_) | refine And.intro (neI rfl) ?_ | refine And.intro ⟨rfl, leR rfl, onesR rfl⟩ ?_ | refine And.intro ⟨rfl, leR rfl⟩ ?_ | refine draw_rule2 hfol (fun KK hKK => ?_) | refine hKK _ _ _ (by kernel_rfl) ?_ | refine region_rule (fun KK hKK => ?_) | refine hKK _ _ ?_ | refine And.intro (Eq.refl true) ?_ | refine Exists.intro _ (And.intro (wI (by omega)) ?_) | refine Exists.intro _ (And.intro (wU (by omega)) ?_) | refine Exists.intro _ (And.intro ⟨rfl, by omega⟩ ?_) | refine Exists.intro _ (And.intro rfl ?_) | refine And.intro rfl ?_ | refine And.intro ⟨rfl, rfl⟩ ?_ | ((refine And.intro (fun _ => ?_) (fun _ => ?_)) <;> try (exfalso; omega))))
    refine Exists.intro (k + 1, k :: st, q, M) (Exists.intro [0, 1, 4] (And.intro ⟨⟨by omega, by simp; omega, hPI.push h40, MI_push hMI, by rw [hd']; exact hR⟩, (by show 2 * n - (k + 1) < 2 * n - k; omega)⟩ ⟨⟨rfl, rfl, rfl, rfl, rfl, rfl, trivial⟩, ⟨rfl, rfl, rfl, trivial⟩, rfl⟩))
  rw [if_neg h40] at hR
  have hb40 : bs[k].toNat ≠ 40 := by rw [← tbL_at hks]; exact h40
  by_cases h41 : tbL bs k = 41
  rotate_left
  · rw [if_pos h41] at hR; cases hR
  have hb : bs[k].toNat = 41 := by rw [← tbL_at hks]; exact h41
  rw [if_neg (fun e => e h41)] at hR
  cases st with
  | nil => cases hR
  | cons i r =>
    simp only [] at hR
    have hik := hPI.lt i (by simp)
    simp only [List.length_cons] at hsl
    have hlen : (i :: r).length = r.length + 1 := rfl
    have hw : IntKind.i64.wrap (((r.length + 1 : Nat) : Int) - 1) = ((r.length : Nat) : Int) := wC (by omega) (by omega)
    have p1 := s_place n i (by omega) (by omega)
    have p2 := s_place n k (by omega) hkl
    have l1 := plc_lt (n := n) (i := i) (by omega)
    have l2 := plc_lt (n := n) (i := k) hkl
    have hj := s_join n M (plc n i) (plc n k) hMI.1 (by omega) (by omega)
    have hMI2 := MI_pop hn hkl hPI hMI
    generalize ((M.set (plc n i) (plc n k)).set (plc n k) (plc n i)) = M2 at hj hMI2
    (repeat' (first | refine Exists.intro _ (And.intro w2n ?_) | refine Exists.intro k (Exists.intro bs[k] (And.intro ⟨rfl, bsL_at hks⟩ ?_)) | refine Exists.intro _ (And.intro hw ?_) | refine Exists.intro _ (And.intro rowL_top ?_) | refine Exists.intro r.length (Exists.intro (rowL r) (And.intro ⟨rfl, by show r.length ≤ r.length + 1; omega, rfl, rowL_pop⟩ ?_)) | refine Exists.intro (pcl (n : Int) M) (And.intro ⟨pcl_len hMI.1, pcl_all hMI.1⟩ ?_) | refine And.intro ⟨pcl_len hMI.1, leR rfl, pcl_ones⟩ ?_ | refine Exists.intro (pcl (n : Int) M) (And.intro ⟨leR rfl, spl0 (leR rfl)⟩ ?_) | refine (p1).pure rfl ?_ | refine (p2).pure rfl ?_ | refine (hj).pure rfl ?_ | refine Exists.intro (pcl n M2) (And.intro ⟨by rw [pcl_len hMI.1]; exact Nat.le_refl _, spl0 (Nat.le_of_eq (pcl_len hMI.1))⟩ ?_) | refine And.intro ⟨pcl_len hMI2.1, leR rfl, pcl_ones⟩ ?_ | refine And.intro (neI rfl) ?_ | refine And.intro ⟨rfl, leR rfl, onesR rfl⟩ ?_ | refine And.intro ⟨rfl, leR rfl⟩ ?_ | refine draw_rule2 hfol (fun KK hKK => ?_) | refine hKK _ _ _ (by kernel_rfl) ?_ | refine region_rule (fun KK hKK => ?_) | refine hKK _ _ ?_ | refine And.intro (Eq.refl true) ?_ | refine Exists.intro _ (And.intro (wI (by omega)) ?_) | refine Exists.intro _ (And.intro (wU (by omega)) ?_) | refine Exists.intro _ (And.intro ⟨rfl, by omega⟩ ?_) | refine Exists.intro _ (And.intro rfl ?_) | refine And.intro rfl ?_ | refine And.intro ⟨rfl, rfl⟩ ?_ | ((refine And.intro (fun _ => ?_) (fun _ => ?_)) <;> try (exfalso; omega))))
    refine Exists.intro (k + 1, r, up2 q i k, M2) (Exists.intro [0, 1, 3] (And.intro ⟨⟨by omega, by omega, hPI.pop h41, hMI2, by rw [hd']; exact hR⟩, (by show 2 * n - (k + 1) < 2 * n - k; omega)⟩ ⟨⟨rfl, rfl, rfl, rfl, rfl, rfl, trivial⟩, ⟨rfl, rfl, rfl, trivial⟩, rfl⟩))
end Go.Proofs.Ytgpgcdofhkpeaaa.VE
namespace Go.Proofs.Ytgpgcdofhkpeaaa.VE
open Go
set_option maxHeartbeats 1600000
set_option maxRecDepth 100000

/-! a diagram of a size is drawn -/
theorem jD_D {n : Nat} {o : Nat → Nat} (hn1 : 1 ≤ n) (hn : n ≤ 8) (hp : Planar (2 * n) o) : IsD n (jD n o (2 * n)) := by
  have ho : ∀ j, j < 2 * n → o j < 2 * n := fun j hj => (hp.1 j hj).1
  have hg : ∀ i, i < 2 * n → (jD n o (2 * n)).getD i 0 = plc n (o (plc n i)) := fun i hi => by
    rw [jD_at hn ho _ (Nat.le_refl _), if_pos ⟨hi, plc_lt hi⟩]
  have hb : ∀ i, i < 2 * n → plc n (o (plc n i)) < 2 * n := fun i hi => plc_lt (ho _ (plc_lt hi))
  have hq : ∀ j, j < 2 * n → qq n (jD n o (2 * n)) j = o j := fun j hj => by
    unfold qq
    rw [hg _ (plc_lt hj), plc_inv hj, plc_inv (ho j hj)]
  refine ⟨⟨hn1, hn, jD_len _, fun j hj => ?_, fun j hj h => ?_, fun j hj => ?_, fun j hj => ?_⟩, ?_, ?_⟩
  · rw [hg j hj]; exact hb j hj
  · rw [hg j hj] at h
    have h1 := congrArg (plc n) h
    rw [plc_inv (ho _ (plc_lt hj))] at h1
    exact (hp.1 _ (plc_lt hj)).2.1 h1
  · rw [hg j hj, hg _ (hb j hj), plc_inv (ho _ (plc_lt hj)), (hp.1 _ (plc_lt hj)).2.2, plc_inv hj]
  · rw [jD_at hn ho _ (Nat.le_refl _), if_neg (by omega)]
  · intro j hj
    rw [hq j hj, hq _ (ho j hj)]
    exact hp.1 j hj
  · intro j c hj h1 h2 h3
    rw [hq j hj] at h1 h3 ⊢
    rw [hq c (by have := ho j hj; omega)]
    exact hp.2 j c hj h1 h2 h3
theorem pm_op {t : Nat → Nat} {d k : Nat} {st : List Nat} {o : Nat → Nat} (ht : t k = 40) : pm t (d + 1) k st o = pm t d (k + 1) (k :: st) o := by
  conv => lhs; unfold pm
  rw [if_pos ht]
theorem pm_cl {t : Nat → Nat} {d k i : Nat} {r : List Nat} {o : Nat → Nat} (ht : t k = 41) : pm t (d + 1) k (i :: r) o = pm t d (k + 1) r (up2 o i k) := by
  conv => lhs; unfold pm
  rw [if_neg (by rw [ht]; decide), if_neg (by rw [ht]; decide)]
theorem pm_congr {t t' : Nat → Nat} : ∀ {d k : Nat} {st : List Nat} {o : Nat → Nat}, (∀ j, k ≤ j → j < k + d → t j = t' j) → pm t d k st o = pm t' d k st o
  | 0, _, _, _, _ => rfl
  | d + 1, k, st, o, h => by
    unfold pm
    rw [← h k (by omega) (by omega), pm_congr (t := t) (t' := t') (d := d) (k := k + 1) fun j h1 h2 => h j (by omega) (by omega)]
    cases st with
    | nil => rfl
    | cons i r => simp only [pm_congr (t := t) (t' := t') (d := d) (k := k + 1) (st := r) fun j h1 h2 => h j (by omega) (by omega)]
theorem pm_snoc {t : Nat → Nat} : ∀ {d k : Nat} {st st' : List Nat} {o o' : Nat → Nat}, pm t d k st o = some (st', o') → pm t (d + 1) k st o = pm t 1 (k + d) st' o'
  | 0, k, st, st', o, o', h => by
    obtain ⟨rfl, rfl⟩ := Prod.mk.inj (Option.some.inj (show some (st, o) = some (st', o') from h))
    rfl
  | d + 1, k, st, st', o, o', h => by
    by_cases h40 : t k = 40
    · rw [pm_op h40] at h ⊢
      rw [pm_snoc h, show k + 1 + d = k + (d + 1) by omega]
    · by_cases h41 : t k = 41
      · cases st with
        | nil => unfold pm at h; rw [if_neg h40, if_neg (fun e => e h41)] at h; cases h
        | cons i r =>
          rw [pm_cl h41] at h ⊢
          rw [pm_snoc h, show k + 1 + d = k + (d + 1) by omega]
      · unfold pm at h; rw [if_neg h40, if_pos h41] at h; cases h
def b40 : ByteArray := ⟨#[40]⟩
def b41 : ByteArray := ⟨#[41]⟩
theorem tbL_app {T : ByteArray} {c : UInt8} {j : Nat} : tbL (T ++ ⟨#[c]⟩) j = if j < T.size then tbL T j else if j = T.size then c.toNat else 0 := by
  have hs : (T ++ (⟨#[c]⟩ : ByteArray)).size = T.size + 1 := by rw [ByteArray.size_append]; rfl
  by_cases h : j < T.size
  · rw [if_pos h, tbL_at (by omega), tbL_at h]
    congr 1
    exact ByteArray.getElem_append_left h
  · rw [if_neg h]
    by_cases h2 : j = T.size
    · subst h2
      rw [if_pos rfl, tbL_at (by omega), ByteArray.getElem_append_right (Nat.le_refl _)]
      simp
      rfl
    · rw [if_neg h2]
      unfold tbL
      rw [getElem?_neg _ _ (by omega)]; rfl
/-- A text of brackets, so many of which are open. -/
def Bal (T : ByteArray) (m : Nat) : Prop := ∃ st o, pm (tbL T) T.size 0 [] (fun _ => 0) = some (st, o) ∧ st.length = m
theorem Bal.app {T : ByteArray} {m : Nat} {c : UInt8} (h : Bal T m) : ∃ st o, st.length = m ∧ pm (tbL (T ++ ⟨#[c]⟩)) (T ++ (⟨#[c]⟩ : ByteArray)).size 0 [] (fun _ => 0) = pm (tbL (T ++ ⟨#[c]⟩)) 1 T.size st o ∧ tbL (T ++ ⟨#[c]⟩) T.size = c.toNat := by
  obtain ⟨st, o, h1, h2⟩ := h
  have hs : (T ++ (⟨#[c]⟩ : ByteArray)).size = T.size + 1 := by rw [ByteArray.size_append]; rfl
  refine ⟨st, o, h2, ?_, by rw [tbL_app, if_neg (by omega), if_pos rfl]⟩
  rw [hs, pm_snoc (st' := st) (o' := o), Nat.zero_add]
  rw [← h1]
  exact pm_congr fun j _ hj => by rw [tbL_app, if_pos (by omega)]
theorem Bal.open' {T : ByteArray} {m : Nat} (h : Bal T m) : Bal (T ++ b40) (m + 1) := by
  obtain ⟨st, o, h1, h2, h3⟩ := h.app (c := 40)
  refine ⟨T.size :: st, o, ?_, by simp [h1]⟩
  show pm (tbL (T ++ ⟨#[40]⟩)) (T ++ (⟨#[40]⟩ : ByteArray)).size 0 [] (fun _ => 0) = _
  rw [h2, pm_op (by rw [h3]; rfl)]; rfl
theorem Bal.close' {T : ByteArray} {m : Nat} (h : Bal T (m + 1)) : Bal (T ++ b41) m := by
  obtain ⟨st, o, h1, h2, h3⟩ := h.app (c := 41)
  cases st with
  | nil => simp at h1
  | cons i r =>
    refine ⟨r, up2 o i T.size, ?_, by simpa using h1⟩
    show pm (tbL (T ++ ⟨#[41]⟩)) (T ++ (⟨#[41]⟩ : ByteArray)).size 0 [] (fun _ => 0) = _
    rw [h2, pm_cl (by rw [h3]; rfl)]; rfl
theorem Bal.nil : Bal ⟨#[]⟩ 0 := ⟨[], fun _ => 0, rfl, rfl⟩
theorem b40_size : b40.size = 1 := rfl
theorem b41_size : b41.size = 1 := rfl
/-- The text that is drawn, and the source behind it. -/
def dO (g : Nat → Int) (N : Nat) : Nat → Nat → Nat → Nat → Nat → ByteArray → ByteArray × Nat × Nat
  | 0, _, _, a, h, T => (T, a, h)
  | f + 1, op, re, a, h, T =>
    if re = 0 then (if op = 0 then (T, a, h) else dO g N f (op - 1) 0 a h (T ++ b41))
    else if op = 0 then dO g N f 1 (re - 1) a h (T ++ b40)
    else if nxV g N a h % 2 = 0 then dO g N f (op + 1) (re - 1) (nxA N a) (lc h) (T ++ b40)
    else dO g N f (op - 1) re (nxA N a) (lc h) (T ++ b41)
theorem dO_ok {g : Nat → Int} {N : Nat} : ∀ {f op re a h : Nat} {T : ByteArray}, 2 * re + op ≤ f → a ≤ N → Bal T op → Bal (dO g N f op re a h T).1 0 ∧ (dO g N f op re a h T).1.size = T.size + op + 2 * re ∧ (dO g N f op re a h T).2.1 ≤ N
  | 0, op, re, a, h, T, hf, ha, hB => by
    obtain rfl : op = 0 := by omega
    obtain rfl : re = 0 := by omega
    exact ⟨hB, rfl, ha⟩
  | f + 1, op, re, a, h, T, hf, ha, hB => by
    have e40 : (T ++ b40).size = T.size + 1 := by rw [ByteArray.size_append]; rfl
    have e41 : (T ++ b41).size = T.size + 1 := by rw [ByteArray.size_append]; rfl
    rw [dO]
    by_cases hr : re = 0
    · subst hr
      rw [if_pos rfl]
      by_cases ho : op = 0
      · subst ho
        rw [if_pos rfl]
        exact ⟨hB, rfl, ha⟩
      · rw [if_neg ho]
        obtain ⟨x, rfl⟩ : ∃ x, op = x + 1 := ⟨op - 1, by omega⟩
        rw [Nat.add_sub_cancel]
        have := dO_ok (g := g) (N := N) (f := f) (op := x) (re := 0) (a := a) (h := h) (T := T ++ b41) (by omega) ha hB.close'
        exact ⟨this.1, by rw [this.2.1, e41]; omega, this.2.2⟩
    · rw [if_neg hr]
      by_cases ho : op = 0
      · subst ho
        rw [if_pos rfl]
        have := dO_ok (g := g) (N := N) (f := f) (op := 1) (re := re - 1) (a := a) (h := h) (T := T ++ b40) (by omega) ha hB.open'
        exact ⟨this.1, by rw [this.2.1, e40]; omega, this.2.2⟩
      · rw [if_neg ho]
        by_cases hb : nxV g N a h % 2 = 0
        · rw [if_pos hb]
          have := dO_ok (g := g) (N := N) (f := f) (op := op + 1) (re := re - 1) (a := nxA N a) (h := lc h) (T := T ++ b40) (by omega) (nxA_le ha) hB.open'
          exact ⟨this.1, by rw [this.2.1, e40]; omega, this.2.2⟩
        · rw [if_neg hb]
          obtain ⟨x, rfl⟩ : ∃ x, op = x + 1 := ⟨op - 1, by omega⟩
          rw [Nat.add_sub_cancel]
          have := dO_ok (g := g) (N := N) (f := f) (op := x) (re := re) (a := nxA N a) (h := lc h) (T := T ++ b41) (by omega) (nxA_le ha) hB.close'
          exact ⟨this.1, by rw [this.2.1, e41]; omega, this.2.2⟩
attribute [local irreducible] IntKind.wrap
theorem s_drawOf {W : World → (Nat → Prop) → Prop} {v : Value} {g : Nat → Int} {N : Nat} (hA : ArgK .u8 W v g N) (hN : N ≤ 1048576) (hg : ∀ j, j < N → 0 ≤ g j ∧ g j < 256) (at' h : Nat) (hat : at' ≤ N) (n : Nat) (hn1 : 1 ≤ n) (hn : n ≤ 8) :
    ∃ m a2 h2, IsD n m ∧ a2 ≤ N ∧ SpecW Try.prog W n_s_l01DrawOf [.ptr 0 0, vi n] [srcO v at' h] (pv n m) [srcO v a2 h2] := by
  obtain ⟨hb1, hb2, hb3⟩ := dO_ok (g := g) (N := N) (f := 2 * n) (op := 0) (re := n) (a := at') (h := h) (T := ⟨#[]⟩) (by omega) hat Bal.nil
  obtain ⟨r, hr⟩ : ∃ r, r = dO g N (2 * n) 0 n at' h ⟨#[]⟩ := ⟨_, rfl⟩
  rw [← hr] at hb1 hb2 hb3
  have hsz : r.1.size = 2 * n := by rw [hb2]; show 0 + 0 + 2 * n = 2 * n; omega
  obtain ⟨st, o, hpm, hst⟩ := hb1
  obtain rfl : st = [] := List.length_eq_zero_iff.1 hst
  have hpl := (pm_planar hpm).1
  rw [hsz] at hpl
  have hD := jD_D hn1 hn hpl
  have hrd := s_lread n r.1 hn1 hn hsz o hpm
  refine ⟨_, _, _, hD, hb3, (?_ : SpecW Try.prog W n_s_l01DrawOf [.ptr 0 0, vi n] [srcO v at' h] (pv n (jD n o (2 * n))) [srcO v r.2.1 r.2.2])⟩
  have hDl := hD.len
  generalize jD n o (2 * n) = m at hrd hDl ⊢
  clear hpm hpl hD
  refine SpecW.of_EV hf_s_l01DrawOf hc_s_l01DrawOf rfl rfl rfl fun w0 B ρ0 hW => ?_
  have hp := ArgK.pass (Γ := ⟨w0, B, ([srcO v at' h] : List O).length, ρ0⟩) hA hW
  (repeat' (first | refine Exists.intro (pcl 0 (List.replicate 16 0)) (And.intro ⟨leR rfl, rfl⟩ ?_) | refine Exists.intro (pcl 0 (List.replicate 16 0)) (And.intro ⟨rfl, rfl⟩ ?_) | refine And.intro (neI rfl) ?_ | refine And.intro ⟨rfl, leR rfl, onesR rfl⟩ ?_ | refine And.intro ⟨rfl, leR rfl⟩ ?_ | refine draw_rule2 hfol (fun KK hKK => ?_) | refine hKK _ _ _ (by kernel_rfl) ?_ | refine region_rule (fun KK hKK => ?_) | refine hKK _ _ ?_ | refine And.intro (Eq.refl true) ?_ | refine Exists.intro _ (And.intro (wI (by omega)) ?_) | refine Exists.intro _ (And.intro (wU (by omega)) ?_) | refine Exists.intro _ (And.intro ⟨rfl, by omega⟩ ?_) | refine Exists.intro _ (And.intro rfl ?_) | refine And.intro rfl ?_ | refine And.intro ⟨rfl, rfl⟩ ?_ | ((refine And.intro (fun _ => ?_) (fun _ => ?_)) <;> try (exfalso; omega))))
  refine loop_rule (α := Nat × Nat × Nat × Nat × Nat × ByteArray) (fun (f, op, re, a, h, T) => 2 * re + op ≤ f ∧ f ≤ 16 ∧ a ≤ N ∧ T.size + op + 2 * re = 2 * n ∧ dO g N f op re a h T = r)
    (fun (f, op, re, a, h, T) => [(0, .ptr 0 0), (1, vi n), (4, .ptr 1 0), (5, .raw (.string T)), (6, vi op), (7, vi re)])
    (fun (f, op, re, a, h, T) => [srcO v a h, .pc (pcl 0 (List.replicate 16 0)) T_i_Diagram]) (fun (f, _) => f) (2 * n, 0, n, at', h, ⟨#[]⟩) [0, 1]
    ⟨by omega, by omega, hat, by show 0 + 0 + 2 * n = 2 * n; omega, hr.symm⟩ ⟨⟨rfl, rfl, rfl, rfl, rfl, rfl, trivial⟩, ⟨rfl, rfl, trivial⟩, rfl⟩ ?_
  rintro ⟨f, op, re, a, h, T⟩ gg ⟨h1, h2, h3, h4, h5⟩
  dsimp only at h1 h2 h3 h4 h5 ⊢
  have hT : T.size ≤ 1000 := by omega
  cases f with
  | zero =>
    obtain rfl : op = 0 := by omega
    obtain rfl : re = 0 := by omega
    rw [dO] at h5
    subst h5
    (repeat' (first | refine (hrd).pure rfl ?_ | refine Exists.intro (pcl (n : Int) m) (And.intro ⟨pcl_len hDl, pcl_all hDl⟩ ?_) | refine And.intro ⟨pcl_len hDl, leR rfl, pcl_ones⟩ ?_ | refine Exists.intro (pcl (n : Int) m) (And.intro ⟨leR rfl, spl0 (leR rfl)⟩ ?_) | refine And.intro (neI rfl) ?_ | refine And.intro ⟨rfl, leR rfl, onesR rfl⟩ ?_ | refine And.intro ⟨rfl, leR rfl⟩ ?_ | refine draw_rule2 hfol (fun KK hKK => ?_) | refine hKK _ _ _ (by kernel_rfl) ?_ | refine region_rule (fun KK hKK => ?_) | refine hKK _ _ ?_ | refine And.intro (Eq.refl true) ?_ | refine Exists.intro _ (And.intro (wI (by omega)) ?_) | refine Exists.intro _ (And.intro (wU (by omega)) ?_) | refine Exists.intro _ (And.intro ⟨rfl, by omega⟩ ?_) | refine Exists.intro _ (And.intro rfl ?_) | refine And.intro rfl ?_ | refine And.intro ⟨rfl, rfl⟩ ?_ | ((refine And.intro (fun _ => ?_) (fun _ => ?_)) <;> try (exfalso; omega))))
    exact Exists.intro [0] (And.intro (rfl) (And.intro ⟨rfl, trivial⟩ rfl))
  | succ f =>
    rw [dO] at h5
    have w1 : IntKind.i64.wrap ((op : Int) + 1) = ((op + 1 : Nat) : Int) := wC (by omega) (by omega)
    by_cases hre : re = 0
    · subst hre
      rw [if_pos rfl] at h5
      by_cases hop : op = 0
      · subst hop
        rw [if_pos rfl] at h5
        subst h5
        (repeat' (first | refine (hrd).pure rfl ?_ | refine Exists.intro (pcl (n : Int) m) (And.intro ⟨pcl_len hDl, pcl_all hDl⟩ ?_) | refine And.intro ⟨pcl_len hDl, leR rfl, pcl_ones⟩ ?_ | refine Exists.intro (pcl (n : Int) m) (And.intro ⟨leR rfl, spl0 (leR rfl)⟩ ?_) | refine And.intro (neI rfl) ?_ | refine And.intro ⟨rfl, leR rfl, onesR rfl⟩ ?_ | refine And.intro ⟨rfl, leR rfl⟩ ?_ | refine draw_rule2 hfol (fun KK hKK => ?_) | refine hKK _ _ _ (by kernel_rfl) ?_ | refine region_rule (fun KK hKK => ?_) | refine hKK _ _ ?_ | refine And.intro (Eq.refl true) ?_ | refine Exists.intro _ (And.intro (wI (by omega)) ?_) | refine Exists.intro _ (And.intro (wU (by omega)) ?_) | refine Exists.intro _ (And.intro ⟨rfl, by omega⟩ ?_) | refine Exists.intro _ (And.intro rfl ?_) | refine And.intro rfl ?_ | refine And.intro ⟨rfl, rfl⟩ ?_ | ((refine And.intro (fun _ => ?_) (fun _ => ?_)) <;> try (exfalso; omega))))
        exact Exists.intro [0] (And.intro (rfl) (And.intro ⟨rfl, trivial⟩ rfl))
      · rw [if_neg hop] at h5
        have w2 : IntKind.i64.wrap ((op : Int) - 1) = ((op - 1 : Nat) : Int) := wC (by omega) (by omega)
        have hsz : (T ++ b41).size = T.size + 1 := by rw [ByteArray.size_append]; rfl
        (repeat' (first | refine Exists.intro _ (And.intro w2 ?_) | refine And.intro (by show T.size + 1 ≤ _; omega) (Exists.intro (T ++ b41) (And.intro rfl ?_)) | refine And.intro (neI rfl) ?_ | refine And.intro ⟨rfl, leR rfl, onesR rfl⟩ ?_ | refine And.intro ⟨rfl, leR rfl⟩ ?_ | refine draw_rule2 hfol (fun KK hKK => ?_) | refine hKK _ _ _ (by kernel_rfl) ?_ | refine region_rule (fun KK hKK => ?_) | refine hKK _ _ ?_ | refine And.intro (Eq.refl true) ?_ | refine Exists.intro _ (And.intro (wI (by omega)) ?_) | refine Exists.intro _ (And.intro (wU (by omega)) ?_) | refine Exists.intro _ (And.intro ⟨rfl, by omega⟩ ?_) | refine Exists.intro _ (And.intro rfl ?_) | refine And.intro rfl ?_ | refine And.intro ⟨rfl, rfl⟩ ?_ | ((refine And.intro (fun _ => ?_) (fun _ => ?_)) <;> try (exfalso; omega))))
        exact Exists.intro (f, op - 1, 0, a, h, T ++ b41) (Exists.intro [0, 1] (And.intro ⟨⟨by dsimp only; omega, by dsimp only; omega, h3, by dsimp only; omega, h5⟩, (by show f < f + 1; omega)⟩ ⟨⟨rfl, rfl, rfl, rfl, rfl, rfl, trivial⟩, ⟨rfl, rfl, trivial⟩, rfl⟩))
    · rw [if_neg hre] at h5
      have w3 : IntKind.i64.wrap ((re : Int) - 1) = ((re - 1 : Nat) : Int) := wC (by omega) (by omega)
      have hsz : (T ++ b40).size = T.size + 1 := by rw [ByteArray.size_append]; rfl
      have hsz2 : (T ++ b41).size = T.size + 1 := by rw [ByteArray.size_append]; rfl
      by_cases hop : op = 0
      · subst hop
        rw [if_pos rfl] at h5
        have w4 : IntKind.i64.wrap ((0 : Int) + 1) = ((1 : Nat) : Int) := wC (by omega) (by omega)
        (repeat' (first | refine Exists.intro _ (And.intro w3 ?_) | refine Exists.intro _ (And.intro w4 ?_) | refine And.intro (by show T.size + 1 ≤ _; omega) (Exists.intro (T ++ b40) (And.intro rfl ?_)) | refine And.intro (neI rfl) ?_ | refine And.intro ⟨rfl, leR rfl, onesR rfl⟩ ?_ | refine And.intro ⟨rfl, leR rfl⟩ ?_ | refine draw_rule2 hfol (fun KK hKK => ?_) | refine hKK _ _ _ (by kernel_rfl) ?_ | refine region_rule (fun KK hKK => ?_) | refine hKK _ _ ?_ | refine And.intro (Eq.refl true) ?_ | refine Exists.intro _ (And.intro (wI (by omega)) ?_) | refine Exists.intro _ (And.intro (wU (by omega)) ?_) | refine Exists.intro _ (And.intro ⟨rfl, by omega⟩ ?_) | refine Exists.intro _ (And.intro rfl ?_) | refine And.intro rfl ?_ | refine And.intro ⟨rfl, rfl⟩ ?_ | ((refine And.intro (fun _ => ?_) (fun _ => ?_)) <;> try (exfalso; omega))))
        exact Exists.intro (f, 1, re - 1, a, h, T ++ b40) (Exists.intro [0, 1] (And.intro ⟨⟨by dsimp only; omega, by dsimp only; omega, h3, by dsimp only; omega, h5⟩, (by show f < f + 1; omega)⟩ ⟨⟨rfl, rfl, rfl, rfl, rfl, rfl, trivial⟩, ⟨rfl, rfl, trivial⟩, rfl⟩))
      · rw [if_neg hop] at h5
        have n1 := s_next hA hN hg a h h3 2 (by omega)
        rw [show (if a < N then a + 1 else a) = nxA N a from rfl] at n1
        have hlt : nxV g N a h % 2 < 2 := Nat.mod_lt _ (by omega)
        have w2 : IntKind.i64.wrap ((op : Int) - 1) = ((op - 1 : Nat) : Int) := wC (by omega) (by omega)
        by_cases hb : nxV g N a h % 2 = 0
        · rw [if_pos hb] at h5
          rw [hb] at n1
          generalize hh : lc h = h' at n1 h5
          (repeat' (first | refine n1.makeW hp [0] rfl ⟨rfl, trivial⟩ ?_ | refine Exists.intro _ (And.intro w1 ?_) | refine Exists.intro _ (And.intro w3 ?_) | refine And.intro (by show T.size + 1 ≤ _; omega) (Exists.intro (T ++ b40) (And.intro rfl ?_)) | refine And.intro (neI rfl) ?_ | refine And.intro ⟨rfl, leR rfl, onesR rfl⟩ ?_ | refine And.intro ⟨rfl, leR rfl⟩ ?_ | refine draw_rule2 hfol (fun KK hKK => ?_) | refine hKK _ _ _ (by kernel_rfl) ?_ | refine region_rule (fun KK hKK => ?_) | refine hKK _ _ ?_ | refine And.intro (Eq.refl true) ?_ | refine Exists.intro _ (And.intro (wI (by omega)) ?_) | refine Exists.intro _ (And.intro (wU (by omega)) ?_) | refine Exists.intro _ (And.intro ⟨rfl, by omega⟩ ?_) | refine Exists.intro _ (And.intro rfl ?_) | refine And.intro rfl ?_ | refine And.intro ⟨rfl, rfl⟩ ?_ | ((refine And.intro (fun _ => ?_) (fun _ => ?_)) <;> try (exfalso; omega))))
          exact Exists.intro (f, op + 1, re - 1, nxA N a, h', T ++ b40) (Exists.intro [0, 1] (And.intro ⟨⟨by dsimp only; omega, by dsimp only; omega, nxA_le h3, by dsimp only; omega, h5⟩, (by show f < f + 1; omega)⟩ ⟨⟨rfl, rfl, rfl, rfl, rfl, rfl, trivial⟩, ⟨rfl, rfl, trivial⟩, rfl⟩))
        · rw [if_neg hb] at h5
          have hne : ((nxV g N a h % 2 : Nat) : Int) ≠ 0 := by omega
          generalize nxV g N a h % 2 = q at n1 hne
          generalize hh : lc h = h' at n1 h5
          (repeat' (first | refine n1.makeW hp [0] rfl ⟨rfl, trivial⟩ ?_ | refine Exists.intro _ (And.intro w2 ?_) | refine And.intro (by show T.size + 1 ≤ _; omega) (Exists.intro (T ++ b41) (And.intro rfl ?_)) | refine And.intro (neI rfl) ?_ | refine And.intro ⟨rfl, leR rfl, onesR rfl⟩ ?_ | refine And.intro ⟨rfl, leR rfl⟩ ?_ | refine draw_rule2 hfol (fun KK hKK => ?_) | refine hKK _ _ _ (by kernel_rfl) ?_ | refine region_rule (fun KK hKK => ?_) | refine hKK _ _ ?_ | refine And.intro (Eq.refl true) ?_ | refine Exists.intro _ (And.intro (wI (by omega)) ?_) | refine Exists.intro _ (And.intro (wU (by omega)) ?_) | refine Exists.intro _ (And.intro ⟨rfl, by omega⟩ ?_) | refine Exists.intro _ (And.intro rfl ?_) | refine And.intro rfl ?_ | refine And.intro ⟨rfl, rfl⟩ ?_ | ((refine And.intro (fun _ => ?_) (fun _ => ?_)) <;> try (exfalso; omega))))
          exact Exists.intro (f, op - 1, re, nxA N a, h', T ++ b41) (Exists.intro [0, 1] (And.intro ⟨⟨by dsimp only; omega, by dsimp only; omega, nxA_le h3, by dsimp only; omega, h5⟩, (by show f < f + 1; omega)⟩ ⟨⟨rfl, rfl, rfl, rfl, rfl, rfl, trivial⟩, ⟨rfl, rfl, trivial⟩, rfl⟩))
end Go.Proofs.Ytgpgcdofhkpeaaa.VE
namespace Go.Proofs.Ytgpgcdofhkpeaaa.VE
open Go
set_option maxHeartbeats 1600000
set_option maxRecDepth 100000

/-! diagrams are drawn, and seldom something that is none -/
theorem gen_D {n k : Nat} (hn : n ≤ 8) (hk : k + 1 < n) : IsD n (gen n k) := by
  have h := mul_gen_D (un_D (by omega) hn) hk
  rwa [un_mul (gen_V hn hk)] at h
theorem byte_D {n : Nat} {m : List Nat} (hd : IsD n m) : ∀ x ∈ m, x < 256 := by
  intro x hx
  obtain ⟨i, hi⟩ := List.getElem?_of_mem hx
  have hn := hd.n8
  have e : m.getD i 0 = x := by rw [List.getD_eq_getElem?_getD, hi]; rfl
  by_cases h : i < 2 * n
  · have := hd.lt i h; omega
  · have := hd.zero i (by omega); omega
theorem byte_set {m : List Nat} {i b : Nat} (hm : ∀ x ∈ m, x < 256) (hb : b < 256) : ∀ x ∈ m.set i b, x < 256 := fun x hx => by
  rcases List.mem_or_eq_of_mem_set hx with h | h
  · exact hm x h
  · omega
def pS (x : Int) (r : Nat) : Int := pk [1, 2, 3, 3, 4, 4, 5, x] r
theorem pS_ok {q r : Nat} (hq : q < 8) (hr : r < 8) : ∃ n : Nat, 1 ≤ n ∧ n ≤ 8 ∧ pS ((q + 1 : Nat) : Int) r = n := by
  have h : r = 0 ∨ r = 1 ∨ r = 2 ∨ r = 3 ∨ r = 4 ∨ r = 5 ∨ r = 6 ∨ r = 7 := by omega
  rcases h with rfl | rfl | rfl | rfl | rfl | rfl | rfl | rfl
  · exact ⟨1, by omega, by omega, rfl⟩
  · exact ⟨2, by omega, by omega, rfl⟩
  · exact ⟨3, by omega, by omega, rfl⟩
  · exact ⟨3, by omega, by omega, rfl⟩
  · exact ⟨4, by omega, by omega, rfl⟩
  · exact ⟨4, by omega, by omega, rfl⟩
  · exact ⟨5, by omega, by omega, rfl⟩
  · exact ⟨q + 1, by omega, by omega, rfl⟩
attribute [local irreducible] IntKind.wrap
section
variable {W : World → (Nat → Prop) → Prop} {v : Value} {g : Nat → Int} {N : Nat} (hA : ArgK .u8 W v g N) (hN : N ≤ 1048576) (hg : ∀ j, j < N → 0 ≤ g j ∧ g j < 256)
include hA hN hg
theorem s_nxt (at' h : Nat) (hat : at' ≤ N) (n : Nat) (hn : 1 ≤ n) : ∃ q h2, q < n ∧ SpecW Try.prog W n_s_l01Next [.ptr 0 0, vi n] [srcO v at' h] (vi (q : Nat)) [srcO v (nxA N at') h2] := by
  have n1 := s_next hA hN hg at' h hat n hn
  rw [show (if at' < N then at' + 1 else at') = nxA N at' from rfl] at n1
  exact ⟨_, _, Nat.mod_lt _ (by omega), n1⟩
theorem s_drawSize (at' h : Nat) (hat : at' ≤ N) :
    ∃ n a2 h2, 1 ≤ n ∧ n ≤ 8 ∧ a2 ≤ N ∧ SpecW Try.prog W n_s_l01DrawSize [.ptr 0 0] [srcO v at' h] (vi (n : Nat)) [srcO v a2 h2] := by
  obtain ⟨q, h1, hq, n1⟩ := s_nxt hA hN hg at' h hat 8 (by omega)
  have ha1 := nxA_le hat
  have n2 := s_pick hA hN hg (nxA N at') h1 ha1 (pS ((q + 1 : Nat) : Int)) 8 (by omega) (by omega)
  have hm : nxV g N (nxA N at') h1 % 8 < 8 := Nat.mod_lt _ (by omega)
  generalize nxV g N (nxA N at') h1 % 8 = r at n2 hm
  obtain ⟨n, hn1, hn8, hn⟩ := pS_ok hq hm
  rw [hn] at n2
  refine ⟨n, _, _, hn1, hn8, nxA_le ha1, (?_ : SpecW Try.prog W n_s_l01DrawSize [.ptr 0 0] [srcO v at' h] (vi (n : Nat)) [srcO v (nxA N (nxA N at')) (lc h1)])⟩
  have w1 : IntKind.i64.wrap (1 + (q : Int)) = ((q + 1 : Nat) : Int) := wC (by omega) (by omega)
  generalize nxA N (nxA N at') = a2 at n2 ⊢
  generalize nxA N at' = a1 at n1 n2
  generalize lc h1 = h2 at n2 ⊢
  generalize hz : ((q + 1 : Nat) : Int) = z at w1 n2
  unfold pS at n2
  refine SpecW.of_EV hf_s_l01DrawSize hc_s_l01DrawSize rfl rfl rfl fun w0 B ρ0 hW => ?_
  have hp := ArgK.pass (Γ := ⟨w0, B, ([srcO v at' h] : List O).length, ρ0⟩) hA hW
  (repeat' (first | refine n1.makeW hp [0] rfl ⟨rfl, trivial⟩ ?_ | refine Exists.intro _ (And.intro w1 ?_) | refine And.intro ⟨rfl, mkL rfl⟩ (And.intro ⟨rfl, row_k_le (K := 8) [1] (leR rfl) (leR rfl)⟩ (And.intro ⟨rfl, row_k_le (K := 8) [1, 2] (leR rfl) (leR rfl)⟩ (And.intro ⟨rfl, row_k_le (K := 8) [1, 2, 3] (leR rfl) (leR rfl)⟩ (And.intro ⟨rfl, row_k_le (K := 8) [1, 2, 3, 3] (leR rfl) (leR rfl)⟩ (And.intro ⟨rfl, row_k_le (K := 8) [1, 2, 3, 3, 4] (leR rfl) (leR rfl)⟩ (And.intro ⟨rfl, row_k_le (K := 8) [1, 2, 3, 3, 4, 4] (leR rfl) (leR rfl)⟩ (And.intro ⟨rfl, row_k_le (K := 8) [1, 2, 3, 3, 4, 4, 5] (leR rfl) (leR rfl)⟩ (Exists.intro (il (pk [1, 2, 3, 3, 4, 4, 5, z]) 8) (And.intro (row_k [1, 2, 3, 3, 4, 4, 5, z] rfl) ?_))))))))) | refine n2.makeW hp [0, 1] rfl ⟨rfl, rfl, trivial⟩ ?_ | refine And.intro (neI rfl) ?_ | refine And.intro ⟨rfl, leR rfl, onesR rfl⟩ ?_ | refine And.intro ⟨rfl, leR rfl⟩ ?_ | refine draw_rule2 hfol (fun KK hKK => ?_) | refine hKK _ _ _ (by kernel_rfl) ?_ | refine region_rule (fun KK hKK => ?_) | refine hKK _ _ ?_ | refine And.intro (Eq.refl true) ?_ | refine Exists.intro _ (And.intro (wI (by omega)) ?_) | refine Exists.intro _ (And.intro (wU (by omega)) ?_) | refine Exists.intro _ (And.intro ⟨rfl, by omega⟩ ?_) | refine Exists.intro _ (And.intro rfl ?_) | refine And.intro rfl ?_ | refine And.intro ⟨rfl, rfl⟩ ?_ | ((refine And.intro (fun _ => ?_) (fun _ => ?_)) <;> try (exfalso; omega))))
  exact Exists.intro [0] (And.intro (rfl) (And.intro ⟨rfl, trivial⟩ rfl))
theorem s_draw (at' h : Nat) (hat : at' ≤ N) :
    ∃ n m a2 h2, IsD n m ∧ a2 ≤ N ∧ SpecW Try.prog W n_s_l01Draw [.ptr 0 0] [srcO v at' h] (pv (n : Nat) m) [srcO v a2 h2] := by
  obtain ⟨n, a1, h1, hn1, hn, ha1, c1⟩ := s_drawSize hA hN hg at' h hat
  obtain ⟨q, h2, hq, c2⟩ := s_nxt hA hN hg a1 h1 ha1 8 (by omega)
  have ha2 := nxA_le ha1
  generalize nxA N a1 = a2 at c2 ha2
  by_cases q0 : q = 0
  · subst q0
    have c3 := s_sone n hn1 hn
    refine ⟨n, un n, a2, h2, un_D hn1 hn, ha2, ?_⟩
    refine SpecW.of_EV hf_s_l01Draw hc_s_l01Draw rfl rfl rfl fun w0 B ρ0 hW => ?_
    have hp := ArgK.pass (Γ := ⟨w0, B, ([srcO v at' h] : List O).length, ρ0⟩) hA hW
    (repeat' (first | refine c1.makeW hp [0] rfl ⟨rfl, trivial⟩ ?_ | refine c2.makeW hp [0] rfl ⟨rfl, trivial⟩ ?_ | refine (c3).pure rfl ?_ | refine Exists.intro (pcl (n : Int) (un n)) (And.intro ⟨pcl_len un_len, pcl_all un_len⟩ ?_) | refine And.intro ⟨pcl_len un_len, leR rfl, pcl_ones⟩ ?_ | refine Exists.intro (pcl (n : Int) (un n)) (And.intro ⟨leR rfl, spl0 (leR rfl)⟩ ?_) | refine And.intro (neI rfl) ?_ | refine And.intro ⟨rfl, leR rfl, onesR rfl⟩ ?_ | refine And.intro ⟨rfl, leR rfl⟩ ?_ | refine draw_rule2 hfol (fun KK hKK => ?_) | refine hKK _ _ _ (by kernel_rfl) ?_ | refine region_rule (fun KK hKK => ?_) | refine hKK _ _ ?_ | refine And.intro (Eq.refl true) ?_ | refine Exists.intro _ (And.intro (wI (by omega)) ?_) | refine Exists.intro _ (And.intro (wU (by omega)) ?_) | refine Exists.intro _ (And.intro ⟨rfl, by omega⟩ ?_) | refine Exists.intro _ (And.intro rfl ?_) | refine And.intro rfl ?_ | refine And.intro ⟨rfl, rfl⟩ ?_ | ((refine And.intro (fun _ => ?_) (fun _ => ?_)) <;> try (exfalso; omega))))
    exact Exists.intro [0] (And.intro (rfl) (And.intro ⟨rfl, trivial⟩ rfl))
  by_cases q1 : q = 1 ∧ 1 < n
  · obtain ⟨rfl, hn2⟩ := q1
    obtain ⟨k, h3, hk, c3⟩ := s_nxt hA hN hg a2 h2 ha2 (n - 1) (by omega)
    have ha3 := nxA_le ha2
    have c4 := s_scup n k hn (by omega)
    have w1 : IntKind.i64.wrap ((n : Int) - 1) = ((n - 1 : Nat) : Int) := wC (by omega) (by omega)
    have hl := (gen_V (n := n) (i := k) hn (by omega)).len
    refine ⟨n, gen n k, _, h3, gen_D hn (by omega), ha3, ?_⟩
    generalize nxA N a2 = a3 at c3 ⊢
    refine SpecW.of_EV hf_s_l01Draw hc_s_l01Draw rfl rfl rfl fun w0 B ρ0 hW => ?_
    have hp := ArgK.pass (Γ := ⟨w0, B, ([srcO v at' h] : List O).length, ρ0⟩) hA hW
    (repeat' (first | refine c1.makeW hp [0] rfl ⟨rfl, trivial⟩ ?_ | refine c2.makeW hp [0] rfl ⟨rfl, trivial⟩ ?_ | refine Exists.intro _ (And.intro w1 ?_) | refine c3.makeW hp [0] rfl ⟨rfl, trivial⟩ ?_ | refine (c4).pure rfl ?_ | refine Exists.intro (pcl (n : Int) (gen n k)) (And.intro ⟨pcl_len hl, pcl_all hl⟩ ?_) | refine And.intro ⟨pcl_len hl, leR rfl, pcl_ones⟩ ?_ | refine Exists.intro (pcl (n : Int) (gen n k)) (And.intro ⟨leR rfl, spl0 (leR rfl)⟩ ?_) | refine And.intro (neI rfl) ?_ | refine And.intro ⟨rfl, leR rfl, onesR rfl⟩ ?_ | refine And.intro ⟨rfl, leR rfl⟩ ?_ | refine draw_rule2 hfol (fun KK hKK => ?_) | refine hKK _ _ _ (by kernel_rfl) ?_ | refine region_rule (fun KK hKK => ?_) | refine hKK _ _ ?_ | refine And.intro (Eq.refl true) ?_ | refine Exists.intro _ (And.intro (wI (by omega)) ?_) | refine Exists.intro _ (And.intro (wU (by omega)) ?_) | refine Exists.intro _ (And.intro ⟨rfl, by omega⟩ ?_) | refine Exists.intro _ (And.intro rfl ?_) | refine And.intro rfl ?_ | refine And.intro ⟨rfl, rfl⟩ ?_ | ((refine And.intro (fun _ => ?_) (fun _ => ?_)) <;> try (exfalso; omega))))
    exact Exists.intro [0] (And.intro (rfl) (And.intro ⟨rfl, trivial⟩ rfl))
  · obtain ⟨m, a3, h3, hD, ha3, c3⟩ := s_drawOf hA hN hg a2 h2 ha2 n hn1 hn
    refine ⟨n, m, a3, h3, hD, ha3, ?_⟩
    have hl := hD.len
    by_cases q2 : q = 1
    · subst q2
      have hn2 : ¬ 1 < n := fun h => q1 ⟨rfl, h⟩
      refine SpecW.of_EV hf_s_l01Draw hc_s_l01Draw rfl rfl rfl fun w0 B ρ0 hW => ?_
      have hp := ArgK.pass (Γ := ⟨w0, B, ([srcO v at' h] : List O).length, ρ0⟩) hA hW
      (repeat' (first | refine c1.makeW hp [0] rfl ⟨rfl, trivial⟩ ?_ | refine c2.makeW hp [0] rfl ⟨rfl, trivial⟩ ?_ | refine c3.makeW hp [0] rfl ⟨rfl, trivial⟩ ?_ | refine Exists.intro (pcl (n : Int) m) (And.intro ⟨pcl_len hl, pcl_all hl⟩ ?_) | refine And.intro ⟨pcl_len hl, leR rfl, pcl_ones⟩ ?_ | refine Exists.intro (pcl (n : Int) m) (And.intro ⟨leR rfl, spl0 (leR rfl)⟩ ?_) | refine And.intro (neI rfl) ?_ | refine And.intro ⟨rfl, leR rfl, onesR rfl⟩ ?_ | refine And.intro ⟨rfl, leR rfl⟩ ?_ | refine draw_rule2 hfol (fun KK hKK => ?_) | refine hKK _ _ _ (by kernel_rfl) ?_ | refine region_rule (fun KK hKK => ?_) | refine hKK _ _ ?_ | refine And.intro (Eq.refl true) ?_ | refine Exists.intro _ (And.intro (wI (by omega)) ?_) | refine Exists.intro _ (And.intro (wU (by omega)) ?_) | refine Exists.intro _ (And.intro ⟨rfl, by omega⟩ ?_) | refine Exists.intro _ (And.intro rfl ?_) | refine And.intro rfl ?_ | refine And.intro ⟨rfl, rfl⟩ ?_ | ((refine And.intro (fun _ => ?_) (fun _ => ?_)) <;> try (exfalso; omega))))
      exact Exists.intro [0] (And.intro (rfl) (And.intro ⟨rfl, trivial⟩ rfl))
    · refine SpecW.of_EV hf_s_l01Draw hc_s_l01Draw rfl rfl rfl fun w0 B ρ0 hW => ?_
      have hp := ArgK.pass (Γ := ⟨w0, B, ([srcO v at' h] : List O).length, ρ0⟩) hA hW
      (repeat' (first | refine c1.makeW hp [0] rfl ⟨rfl, trivial⟩ ?_ | refine c2.makeW hp [0] rfl ⟨rfl, trivial⟩ ?_ | refine c3.makeW hp [0] rfl ⟨rfl, trivial⟩ ?_ | refine Exists.intro (pcl (n : Int) m) (And.intro ⟨pcl_len hl, pcl_all hl⟩ ?_) | refine And.intro ⟨pcl_len hl, leR rfl, pcl_ones⟩ ?_ | refine Exists.intro (pcl (n : Int) m) (And.intro ⟨leR rfl, spl0 (leR rfl)⟩ ?_) | refine And.intro (neI rfl) ?_ | refine And.intro ⟨rfl, leR rfl, onesR rfl⟩ ?_ | refine And.intro ⟨rfl, leR rfl⟩ ?_ | refine draw_rule2 hfol (fun KK hKK => ?_) | refine hKK _ _ _ (by kernel_rfl) ?_ | refine region_rule (fun KK hKK => ?_) | refine hKK _ _ ?_ | refine And.intro (Eq.refl true) ?_ | refine Exists.intro _ (And.intro (wI (by omega)) ?_) | refine Exists.intro _ (And.intro (wU (by omega)) ?_) | refine Exists.intro _ (And.intro ⟨rfl, by omega⟩ ?_) | refine Exists.intro _ (And.intro rfl ?_) | refine And.intro rfl ?_ | refine And.intro ⟨rfl, rfl⟩ ?_ | ((refine And.intro (fun _ => ?_) (fun _ => ?_)) <;> try (exfalso; omega))))
      exact Exists.intro [0] (And.intro (rfl) (And.intro ⟨rfl, trivial⟩ rfl))
theorem s_bad (at' h : Nat) (hat : at' ≤ N) (n : Nat) (m : List Nat) (hD : IsD n m) :
    ∃ s' m' a2 h2, m'.length = 16 ∧ (∀ x ∈ m', x < 256) ∧ a2 ≤ N ∧ SpecW Try.prog W n_s_l01Bad [.ptr 0 0, pv (n : Nat) m] [srcO v at' h] (pv s' m') [srcO v a2 h2] := by
  have hn1 := hD.n1; have hn := hD.n8; have hl := hD.len
  have hb := byte_D hD
  obtain ⟨q, h1, hq, c1⟩ := s_nxt hA hN hg at' h hat 40 (by omega)
  have ha1 := nxA_le hat
  generalize nxA N at' = a1 at c1 ha1
  by_cases q0 : q = 0
  · subst q0
    have w1 : IntKind.i64.wrap ((n : Int) - 1) = ((n - 1 : Nat) : Int) := wC (by omega) (by omega)
    generalize ((n - 1 : Nat) : Int) = z at w1
    have c2 := s_pick hA hN hg a1 h1 ha1 (pk [0, 9, -1, z]) 4 (by omega) (by omega)
    have ha2 := nxA_le ha1
    generalize pk [0, 9, -1, z] (nxV g N a1 h1 % 4) = y at c2
    generalize nxA N a1 = a2 at c2 ha2
    generalize lc h1 = h2 at c2
    refine ⟨y, m, a2, h2, hl, hb, ha2, ?_⟩
    refine SpecW.of_EV hf_s_l01Bad hc_s_l01Bad rfl rfl rfl fun w0 B ρ0 hW => ?_
    have hp := ArgK.pass (Γ := ⟨w0, B, ([srcO v at' h] : List O).length, ρ0⟩) hA hW
    (repeat' (first | refine c1.makeW hp [0] rfl ⟨rfl, trivial⟩ ?_ | refine Exists.intro (pcl (n : Int) m) (And.intro ⟨pcl_len hl, pcl_all hl⟩ ?_) | refine And.intro ⟨pcl_len hl, leR rfl, pcl_ones⟩ ?_ | refine Exists.intro (pcl (n : Int) m) (And.intro ⟨leR rfl, spl0 (leR rfl)⟩ ?_) | refine Exists.intro _ (And.intro w1 ?_) | refine And.intro ⟨rfl, mkL rfl⟩ ?_ | refine And.intro ⟨rfl, row_k_le (K := 4) [0] (leR rfl) (by decide)⟩ ?_ | refine And.intro ⟨rfl, row_k_le (K := 4) [0, 9] (leR rfl) (by decide)⟩ ?_ | refine And.intro ⟨rfl, row_k_le (K := 4) [0, 9, -1] (leR rfl) (by decide)⟩ ?_ | refine Exists.intro (il (pk [0, 9, -1, z]) 4) (And.intro (row_k [0, 9, -1, z] rfl) ?_) | refine c2.makeW hp [0, 3] rfl ⟨rfl, rfl, trivial⟩ ?_ | refine Exists.intro (pcl y m) (And.intro ⟨by rw [pcl_len hl]; omega, rfl⟩ ?_) | refine Exists.intro (pcl y m) (And.intro ⟨pcl_len hl, pcl_all hl⟩ ?_) | refine And.intro ⟨pcl_len hl, leR rfl, pcl_ones⟩ ?_ | refine Exists.intro (pcl y m) (And.intro ⟨leR rfl, spl0 (leR rfl)⟩ ?_) | refine And.intro (neI rfl) ?_ | refine And.intro ⟨rfl, leR rfl, onesR rfl⟩ ?_ | refine And.intro ⟨rfl, leR rfl⟩ ?_ | refine draw_rule2 hfol (fun KK hKK => ?_) | refine hKK _ _ _ (by kernel_rfl) ?_ | refine region_rule (fun KK hKK => ?_) | refine hKK _ _ ?_ | refine And.intro (Eq.refl true) ?_ | refine Exists.intro _ (And.intro (wI (by omega)) ?_) | refine Exists.intro _ (And.intro (wU (by omega)) ?_) | refine Exists.intro _ (And.intro ⟨rfl, by omega⟩ ?_) | refine Exists.intro _ (And.intro rfl ?_) | refine And.intro rfl ?_ | refine And.intro ⟨rfl, rfl⟩ ?_ | ((refine And.intro (fun _ => ?_) (fun _ => ?_)) <;> try (exfalso; omega))))
    exact Exists.intro [0] (And.intro (rfl) (And.intro ⟨rfl, trivial⟩ rfl))
  by_cases q1 : q = 1
  · subst q1
    obtain ⟨i, h2, hi, c2⟩ := s_nxt hA hN hg a1 h1 ha1 16 (by omega)
    have ha2 := nxA_le ha1
    generalize nxA N a1 = a2 at c2 ha2
    obtain ⟨b, h3, hb2, c3⟩ := s_nxt hA hN hg a2 h2 ha2 17 (by omega)
    have ha3 := nxA_le ha2
    generalize nxA N a2 = a3 at c3 ha3
    have hl2 : (m.set i b).length = 16 := by simpa using hl
    have w1 : IntKind.u8.wrap (b : Int) = (b : Int) := wU (by omega)
    refine ⟨n, m.set i b, a3, h3, hl2, byte_set hb (by omega), ha3, ?_⟩
    refine SpecW.of_EV hf_s_l01Bad hc_s_l01Bad rfl rfl rfl fun w0 B ρ0 hW => ?_
    have hp := ArgK.pass (Γ := ⟨w0, B, ([srcO v at' h] : List O).length, ρ0⟩) hA hW
    (repeat' (first | refine c1.makeW hp [0] rfl ⟨rfl, trivial⟩ ?_ | refine Exists.intro (pcl (n : Int) m) (And.intro ⟨pcl_len hl, pcl_all hl⟩ ?_) | refine And.intro ⟨pcl_len hl, leR rfl, pcl_ones⟩ ?_ | refine Exists.intro (pcl (n : Int) m) (And.intro ⟨leR rfl, spl0 (leR rfl)⟩ ?_) | refine c2.makeW hp [0] rfl ⟨rfl, trivial⟩ ?_ | refine c3.makeW hp [0] rfl ⟨rfl, trivial⟩ ?_ | refine Exists.intro _ (And.intro w1 ?_) | refine Exists.intro (pcl n (m.set i b)) (And.intro ⟨by rw [pcl_len hl]; omega, pcl_set⟩ ?_) | refine Exists.intro (pcl (n : Int) (m.set i b)) (And.intro ⟨pcl_len hl2, pcl_all hl2⟩ ?_) | refine And.intro ⟨pcl_len hl2, leR rfl, pcl_ones⟩ ?_ | refine Exists.intro (pcl (n : Int) (m.set i b)) (And.intro ⟨leR rfl, spl0 (leR rfl)⟩ ?_) | refine And.intro (neI rfl) ?_ | refine And.intro ⟨rfl, leR rfl, onesR rfl⟩ ?_ | refine And.intro ⟨rfl, leR rfl⟩ ?_ | refine draw_rule2 hfol (fun KK hKK => ?_) | refine hKK _ _ _ (by kernel_rfl) ?_ | refine region_rule (fun KK hKK => ?_) | refine hKK _ _ ?_ | refine And.intro (Eq.refl true) ?_ | refine Exists.intro _ (And.intro (wI (by omega)) ?_) | refine Exists.intro _ (And.intro (wU (by omega)) ?_) | refine Exists.intro _ (And.intro ⟨rfl, by omega⟩ ?_) | refine Exists.intro _ (And.intro rfl ?_) | refine And.intro rfl ?_ | refine And.intro ⟨rfl, rfl⟩ ?_ | ((refine And.intro (fun _ => ?_) (fun _ => ?_)) <;> try (exfalso; omega))))
    exact Exists.intro [0] (And.intro (rfl) (And.intro ⟨rfl, trivial⟩ rfl))
  by_cases q2 : q = 2 ∧ 1 < n
  · obtain ⟨rfl, hn2⟩ := q2
    obtain ⟨i, h2, hi, c2⟩ := s_nxt hA hN hg a1 h1 ha1 (2 * n) (by omega)
    have ha2 := nxA_le ha1
    generalize nxA N a1 = a2 at c2 ha2
    obtain ⟨k, h3, hk, c3⟩ := s_nxt hA hN hg a2 h2 ha2 (2 * n) (by omega)
    have ha3 := nxA_le ha2
    generalize nxA N a2 = a3 at c3 ha3
    have w2 : IntKind.i64.wrap (2 * (n : Int)) = ((2 * n : Nat) : Int) := wC (by omega) (by omega)
    have x1 := pcl_at (s := (n : Int)) (m := m) (i := i) (by omega)
    have x2 := pcl_at (s := (n : Int)) (m := m) (i := k) (by omega)
    have b1 := hD.lt i hi
    have b2 := hD.lt k hk
    generalize m.getD i 0 = a at x1 b1
    generalize m.getD k 0 = b at x2 b2
    have w3 : IntKind.i64.wrap (a : Int) = (a : Int) := wI (by omega)
    have w4 : IntKind.i64.wrap (b : Int) = (b : Int) := wI (by omega)
    by_cases hc : k ≠ i ∧ k ≠ a
    · obtain ⟨g1, g2⟩ := hc
      have j1 := s_join n m i k hl (by omega) (by omega)
      have hl1 : ((m.set i k).set k i).length = 16 := by simpa using hl
      have j2 := s_join n ((m.set i k).set k i) a b hl1 (by omega) (by omega)
      have hl2 : ((((m.set i k).set k i).set a b).set b a).length = 16 := by simpa using hl
      have hby := byte_set (i := b) (b := a) (byte_set (i := a) (b := b) (byte_set (i := k) (b := i) (byte_set (i := i) (b := k) hb (by omega)) (by omega)) (by omega)) (by omega)
      refine ⟨n, (((m.set i k).set k i).set a b).set b a, a3, h3, hl2, hby, ha3, ?_⟩
      generalize ((((m.set i k).set k i).set a b).set b a) = m2 at j2 hl2 ⊢
      generalize ((m.set i k).set k i) = m1 at j1 j2
      refine SpecW.of_EV hf_s_l01Bad hc_s_l01Bad rfl rfl rfl fun w0 B ρ0 hW => ?_
      have hp := ArgK.pass (Γ := ⟨w0, B, ([srcO v at' h] : List O).length, ρ0⟩) hA hW
      (repeat' (first | refine c1.makeW hp [0] rfl ⟨rfl, trivial⟩ ?_ | refine Exists.intro (pcl (n : Int) m) (And.intro ⟨pcl_len hl, pcl_all hl⟩ ?_) | refine And.intro ⟨pcl_len hl, leR rfl, pcl_ones⟩ ?_ | refine Exists.intro (pcl (n : Int) m) (And.intro ⟨leR rfl, spl0 (leR rfl)⟩ ?_) | refine Exists.intro _ (And.intro w2 ?_) | refine c2.makeW hp [0] rfl ⟨rfl, trivial⟩ ?_ | refine c3.makeW hp [0] rfl ⟨rfl, trivial⟩ ?_ | refine Exists.intro _ (And.intro x1 ?_) | refine Exists.intro _ (And.intro x2 ?_) | refine Exists.intro _ (And.intro w3 ?_) | refine Exists.intro _ (And.intro w4 ?_) | refine (j1).pure rfl ?_ | refine (j2).pure rfl ?_ | refine And.intro ⟨pcl_len hl2, leR rfl, pcl_ones⟩ ?_ | refine Exists.intro (pcl n m2) (And.intro ⟨(by rw [pcl_len hl]; exact Nat.le_refl _), spl0 (Nat.le_of_eq (pcl_len hl))⟩ ?_) | refine Exists.intro (pcl (n : Int) m2) (And.intro ⟨pcl_len hl2, pcl_all hl2⟩ ?_) | refine And.intro ⟨pcl_len hl2, leR rfl, pcl_ones⟩ ?_ | refine Exists.intro (pcl (n : Int) m2) (And.intro ⟨leR rfl, spl0 (leR rfl)⟩ ?_) | refine And.intro (neI rfl) ?_ | refine And.intro ⟨rfl, leR rfl, onesR rfl⟩ ?_ | refine And.intro ⟨rfl, leR rfl⟩ ?_ | refine draw_rule2 hfol (fun KK hKK => ?_) | refine hKK _ _ _ (by kernel_rfl) ?_ | refine region_rule (fun KK hKK => ?_) | refine hKK _ _ ?_ | refine And.intro (Eq.refl true) ?_ | refine Exists.intro _ (And.intro (wI (by omega)) ?_) | refine Exists.intro _ (And.intro (wU (by omega)) ?_) | refine Exists.intro _ (And.intro ⟨rfl, by omega⟩ ?_) | refine Exists.intro _ (And.intro rfl ?_) | refine And.intro rfl ?_ | refine And.intro ⟨rfl, rfl⟩ ?_ | ((refine And.intro (fun _ => ?_) (fun _ => ?_)) <;> try (exfalso; omega))))
      exact Exists.intro [0] (And.intro (rfl) (And.intro ⟨rfl, trivial⟩ rfl))
    · refine ⟨n, m, a3, h3, hl, hb, ha3, ?_⟩
      refine SpecW.of_EV hf_s_l01Bad hc_s_l01Bad rfl rfl rfl fun w0 B ρ0 hW => ?_
      have hp := ArgK.pass (Γ := ⟨w0, B, ([srcO v at' h] : List O).length, ρ0⟩) hA hW
      by_cases g1 : k = i
      · subst g1
        (repeat' (first | refine c1.makeW hp [0] rfl ⟨rfl, trivial⟩ ?_ | refine Exists.intro (pcl (n : Int) m) (And.intro ⟨pcl_len hl, pcl_all hl⟩ ?_) | refine And.intro ⟨pcl_len hl, leR rfl, pcl_ones⟩ ?_ | refine Exists.intro (pcl (n : Int) m) (And.intro ⟨leR rfl, spl0 (leR rfl)⟩ ?_) | refine Exists.intro _ (And.intro w2 ?_) | refine c2.makeW hp [0] rfl ⟨rfl, trivial⟩ ?_ | refine c3.makeW hp [0] rfl ⟨rfl, trivial⟩ ?_ | refine Exists.intro _ (And.intro x1 ?_) | refine Exists.intro _ (And.intro x2 ?_) | refine Exists.intro _ (And.intro w3 ?_) | refine Exists.intro _ (And.intro w4 ?_) | refine And.intro (neI rfl) ?_ | refine And.intro ⟨rfl, leR rfl, onesR rfl⟩ ?_ | refine And.intro ⟨rfl, leR rfl⟩ ?_ | refine draw_rule2 hfol (fun KK hKK => ?_) | refine hKK _ _ _ (by kernel_rfl) ?_ | refine region_rule (fun KK hKK => ?_) | refine hKK _ _ ?_ | refine And.intro (Eq.refl true) ?_ | refine Exists.intro _ (And.intro (wI (by omega)) ?_) | refine Exists.intro _ (And.intro (wU (by omega)) ?_) | refine Exists.intro _ (And.intro ⟨rfl, by omega⟩ ?_) | refine Exists.intro _ (And.intro rfl ?_) | refine And.intro rfl ?_ | refine And.intro ⟨rfl, rfl⟩ ?_ | ((refine And.intro (fun _ => ?_) (fun _ => ?_)) <;> try (exfalso; omega))))
        exact Exists.intro [0] (And.intro (rfl) (And.intro ⟨rfl, trivial⟩ rfl))
      · have g2 : k = a := Classical.byContradiction fun h => hc ⟨g1, h⟩
        subst g2
        (repeat' (first | refine c1.makeW hp [0] rfl ⟨rfl, trivial⟩ ?_ | refine Exists.intro (pcl (n : Int) m) (And.intro ⟨pcl_len hl, pcl_all hl⟩ ?_) | refine And.intro ⟨pcl_len hl, leR rfl, pcl_ones⟩ ?_ | refine Exists.intro (pcl (n : Int) m) (And.intro ⟨leR rfl, spl0 (leR rfl)⟩ ?_) | refine Exists.intro _ (And.intro w2 ?_) | refine c2.makeW hp [0] rfl ⟨rfl, trivial⟩ ?_ | refine c3.makeW hp [0] rfl ⟨rfl, trivial⟩ ?_ | refine Exists.intro _ (And.intro x1 ?_) | refine Exists.intro _ (And.intro x2 ?_) | refine Exists.intro _ (And.intro w3 ?_) | refine Exists.intro _ (And.intro w4 ?_) | refine And.intro (neI rfl) ?_ | refine And.intro ⟨rfl, leR rfl, onesR rfl⟩ ?_ | refine And.intro ⟨rfl, leR rfl⟩ ?_ | refine draw_rule2 hfol (fun KK hKK => ?_) | refine hKK _ _ _ (by kernel_rfl) ?_ | refine region_rule (fun KK hKK => ?_) | refine hKK _ _ ?_ | refine And.intro (Eq.refl true) ?_ | refine Exists.intro _ (And.intro (wI (by omega)) ?_) | refine Exists.intro _ (And.intro (wU (by omega)) ?_) | refine Exists.intro _ (And.intro ⟨rfl, by omega⟩ ?_) | refine Exists.intro _ (And.intro rfl ?_) | refine And.intro rfl ?_ | refine And.intro ⟨rfl, rfl⟩ ?_ | ((refine And.intro (fun _ => ?_) (fun _ => ?_)) <;> try (exfalso; omega))))
        exact Exists.intro [0] (And.intro (rfl) (And.intro ⟨rfl, trivial⟩ rfl))
  · refine ⟨n, m, a1, h1, hl, hb, ha1, ?_⟩
    refine SpecW.of_EV hf_s_l01Bad hc_s_l01Bad rfl rfl rfl fun w0 B ρ0 hW => ?_
    have hp := ArgK.pass (Γ := ⟨w0, B, ([srcO v at' h] : List O).length, ρ0⟩) hA hW
    by_cases q3 : q = 2
    · subst q3
      have hn2 : ¬ 1 < n := fun h => q2 ⟨rfl, h⟩
      (repeat' (first | refine c1.makeW hp [0] rfl ⟨rfl, trivial⟩ ?_ | refine Exists.intro (pcl (n : Int) m) (And.intro ⟨pcl_len hl, pcl_all hl⟩ ?_) | refine And.intro ⟨pcl_len hl, leR rfl, pcl_ones⟩ ?_ | refine Exists.intro (pcl (n : Int) m) (And.intro ⟨leR rfl, spl0 (leR rfl)⟩ ?_) | refine And.intro (neI rfl) ?_ | refine And.intro ⟨rfl, leR rfl, onesR rfl⟩ ?_ | refine And.intro ⟨rfl, leR rfl⟩ ?_ | refine draw_rule2 hfol (fun KK hKK => ?_) | refine hKK _ _ _ (by kernel_rfl) ?_ | refine region_rule (fun KK hKK => ?_) | refine hKK _ _ ?_ | refine And.intro (Eq.refl true) ?_ | refine Exists.intro _ (And.intro (wI (by omega)) ?_) | refine Exists.intro _ (And.intro (wU (by omega)) ?_) | refine Exists.intro _ (And.intro ⟨rfl, by omega⟩ ?_) | refine Exists.intro _ (And.intro rfl ?_) | refine And.intro rfl ?_ | refine And.intro ⟨rfl, rfl⟩ ?_ | ((refine And.intro (fun _ => ?_) (fun _ => ?_)) <;> try (exfalso; omega))))
      exact Exists.intro [0] (And.intro (rfl) (And.intro ⟨rfl, trivial⟩ rfl))
    · (repeat' (first | refine c1.makeW hp [0] rfl ⟨rfl, trivial⟩ ?_ | refine Exists.intro (pcl (n : Int) m) (And.intro ⟨pcl_len hl, pcl_all hl⟩ ?_) | refine And.intro ⟨pcl_len hl, leR rfl, pcl_ones⟩ ?_ | refine Exists.intro (pcl (n : Int) m) (And.intro ⟨leR rfl, spl0 (leR rfl)⟩ ?_) | refine And.intro (neI rfl) ?_ | refine And.intro ⟨rfl, leR rfl, onesR rfl⟩ ?_ | refine And.intro ⟨rfl, leR rfl⟩ ?_ | refine draw_rule2 hfol (fun KK hKK => ?_) | refine hKK _ _ _ (by kernel_rfl) ?_ | refine region_rule (fun KK hKK => ?_) | refine hKK _ _ ?_ | refine And.intro (Eq.refl true) ?_ | refine Exists.intro _ (And.intro (wI (by omega)) ?_) | refine Exists.intro _ (And.intro (wU (by omega)) ?_) | refine Exists.intro _ (And.intro ⟨rfl, by omega⟩ ?_) | refine Exists.intro _ (And.intro rfl ?_) | refine And.intro rfl ?_ | refine And.intro ⟨rfl, rfl⟩ ?_ | ((refine And.intro (fun _ => ?_) (fun _ => ?_)) <;> try (exfalso; omega))))
      exact Exists.intro [0] (And.intro (rfl) (And.intro ⟨rfl, trivial⟩ rfl))
theorem s_spoil (at' h : Nat) (hat : at' ≤ N) :
    ∃ s' m' a2 h2, m'.length = 16 ∧ (∀ x ∈ m', x < 256) ∧ a2 ≤ N ∧ SpecW Try.prog W n_s_l01Spoil [.ptr 0 0] [srcO v at' h] (pv s' m') [srcO v a2 h2] := by
  obtain ⟨n, m, a1, h1, hD, ha1, c1⟩ := s_draw hA hN hg at' h hat
  obtain ⟨s', m', a2, h2, hl, hb, ha2, c2⟩ := s_bad hA hN hg a1 h1 ha1 n m hD
  refine ⟨s', m', a2, h2, hl, hb, ha2, ?_⟩
  have hl1 := hD.len
  refine SpecW.of_EV hf_s_l01Spoil hc_s_l01Spoil rfl rfl rfl fun w0 B ρ0 hW => ?_
  have hp := ArgK.pass (Γ := ⟨w0, B, ([srcO v at' h] : List O).length, ρ0⟩) hA hW
  (repeat' (first | refine c1.makeW hp [0] rfl ⟨rfl, trivial⟩ ?_ | refine c2.makeW hp [0] rfl ⟨rfl, trivial⟩ ?_ | refine Exists.intro (pcl s' m') (And.intro ⟨pcl_len hl, pcl_all hl⟩ ?_) | refine And.intro ⟨pcl_len hl, leR rfl, pcl_ones⟩ ?_ | refine Exists.intro (pcl s' m') (And.intro ⟨leR rfl, spl0 (leR rfl)⟩ ?_) | refine And.intro (neI rfl) ?_ | refine And.intro ⟨rfl, leR rfl, onesR rfl⟩ ?_ | refine And.intro ⟨rfl, leR rfl⟩ ?_ | refine draw_rule2 hfol (fun KK hKK => ?_) | refine hKK _ _ _ (by kernel_rfl) ?_ | refine region_rule (fun KK hKK => ?_) | refine hKK _ _ ?_ | refine And.intro (Eq.refl true) ?_ | refine Exists.intro _ (And.intro (wI (by omega)) ?_) | refine Exists.intro _ (And.intro (wU (by omega)) ?_) | refine Exists.intro _ (And.intro ⟨rfl, by omega⟩ ?_) | refine Exists.intro _ (And.intro rfl ?_) | refine And.intro rfl ?_ | refine And.intro ⟨rfl, rfl⟩ ?_ | ((refine And.intro (fun _ => ?_) (fun _ => ?_)) <;> try (exfalso; omega))))
  exact Exists.intro [0] (And.intro (rfl) (And.intro ⟨rfl, trivial⟩ rfl))
end
end Go.Proofs.Ytgpgcdofhkpeaaa.VE
