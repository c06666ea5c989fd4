/- Contracts of functions of the given program, for all arguments that the contract names; see each theorem. -/
import Derived.Test.YtgpgcdofhkpeaaaLB
import Derived.Test.YtgpgcdofhkpeaaaU4
import Derived.Test.YtgpgcdofhkpeaaaNA
import Derived.Test.YtgpgcdofhkpeaaaNB
import Derived.Test.YtgpgcdofhkpeaaaVE6
import Derived.Test.YtgpgcdofhkpeaaaLC
import Derived.Test.YtgpgcdofhkpeaaaI5
set_option linter.all false
namespace Go.Proofs.Ytgpgcdofhkpeaaa.VE
open Go
set_option maxHeartbeats 1600000
set_option maxRecDepth 100000

/-! any text is read -/
theorem s_lreadF (n : Nat) (bs : ByteArray) (hn1 : 1 ≤ n) (hn : n ≤ 8) (hs : bs.size = 2 * n) (hno : ∀ o, pm (tbL bs) bs.size 0 [] (fun _ => 0) ≠ some ([], o)) : Spec Try.prog n_s_l01Read [.raw (.string bs)] [] (.tup [pv 0 (List.replicate 16 0), vb false]) [] := by
  have hfol : Try.prog.follows .mixedOrders = true := rfl
  have hin := s_in (n : Int) 1 8
  rw [decide_eq_true (by omega)] at hin
  rw [hs] at hno
  have e0 : IntKind.i64.wrap (Int.tdiv (bs.size : Int) 2) = (n : Int) := by rw [td2, show bs.size / 2 = n by omega]; exact wI (by omega)
  have e1 : Int.tmod (bs.size : Int) 2 = 0 := by rw [tm2]; omega
  have w2n : IntKind.i64.wrap (2 * (n : Int)) = ((2 * n : Nat) : Int) := wC (by omega) (by omega)
  refine SpecW.of_EV hf_s_l01Read hc_s_l01Read rfl rfl rfl fun w0 B ρ0 _ => ?_
  (repeat' (first | refine Exists.intro _ (And.intro e0 ?_) | refine Exists.intro 0 (And.intro e1 ?_) | refine (hin).pure rfl ?_ | refine Exists.intro (pcl (n : Int) (List.replicate 16 0)) (And.intro ⟨leR rfl, rfl⟩ ?_) | refine Exists.intro (pcl (n : Int) (List.replicate 16 0)) (And.intro ⟨rfl, rfl⟩ ?_) | refine And.intro (neI rfl) ?_ | refine And.intro ⟨rfl, leR rfl, onesR rfl⟩ ?_ | refine And.intro ⟨rfl, leR rfl⟩ ?_ | refine draw_rule2 hfol (fun KK hKK => ?_) | refine hKK _ _ _ (by kernel_rfl) ?_ | refine region_rule (fun KK hKK => ?_) | refine hKK _ _ ?_ | refine And.intro (Eq.refl true) ?_ | refine Exists.intro _ (And.intro (wI (by omega)) ?_) | refine Exists.intro _ (And.intro (wU (by omega)) ?_) | refine Exists.intro _ (And.intro ⟨rfl, by omega⟩ ?_) | refine Exists.intro _ (And.intro rfl ?_) | refine And.intro rfl ?_ | refine And.intro ⟨rfl, rfl⟩ ?_ | ((refine And.intro (fun _ => ?_) (fun _ => ?_)) <;> try (exfalso; omega))))
  refine loop_rule (α := Nat × List Nat × (Nat → Nat) × List Nat) (fun (k, st, q, M) => k ≤ 2 * n ∧ st.length ≤ k ∧ PI (tbL bs) k st q ∧ M.length = 16 ∧ ∀ o, pm (tbL bs) (2 * n - k) k st q ≠ some ([], o))
    (fun (k, st, q, M) => [(0, .raw (.string bs)), (2, .ptr 0 0), (4, vi n), (5, .ptr 1 0), (6, .sl 2), (7, vi k)])
    (fun (k, st, q, M) => [.pc (pcl 0 (List.replicate 16 0)) T_i_Diagram, .pc (pcl n M) T_i_Diagram, .pr T_int64 1 st.length (rowL st)]) (fun (k, _, _, _) => 2 * n - k) (0, [], (fun _ => 0), List.replicate 16 0) [0, 2, 1]
    ⟨by omega, by simp, PI.start _ _, by simp, hno⟩ ⟨⟨rfl, rfl, rfl, rfl, rfl, rfl, trivial⟩, ⟨rfl, rfl, rfl, trivial⟩, rfl⟩ ?_
  rintro ⟨k, st, q, M⟩ g ⟨hk, hsl, hPI, hM, hR⟩
  dsimp only at hk hsl hPI hM hR ⊢
  by_cases h9 : k = 2 * n
  · subst h9
    rw [Nat.sub_self] at hR
    cases st with
    | nil => exact absurd rfl (hR q)
    | cons i r =>
      have hlen : (i :: r).length = r.length + 1 := rfl
      (repeat' (first | refine Exists.intro _ (And.intro w2n ?_) | refine Exists.intro (pcl 0 (List.replicate 16 0)) (And.intro ⟨leR rfl, rfl⟩ ?_) | refine Exists.intro (pcl 0 (List.replicate 16 0)) (And.intro ⟨rfl, rfl⟩ ?_) | refine And.intro (neI rfl) ?_ | refine And.intro ⟨rfl, leR rfl, onesR rfl⟩ ?_ | refine And.intro ⟨rfl, leR rfl⟩ ?_ | refine draw_rule2 hfol (fun KK hKK => ?_) | refine hKK _ _ _ (by kernel_rfl) ?_ | refine region_rule (fun KK hKK => ?_) | refine hKK _ _ ?_ | refine And.intro (Eq.refl true) ?_ | refine Exists.intro _ (And.intro (wI (by omega)) ?_) | refine Exists.intro _ (And.intro (wU (by omega)) ?_) | refine Exists.intro _ (And.intro ⟨rfl, by omega⟩ ?_) | refine Exists.intro _ (And.intro rfl ?_) | refine And.intro rfl ?_ | refine And.intro ⟨rfl, rfl⟩ ?_ | ((refine And.intro (fun _ => ?_) (fun _ => ?_)) <;> try (exfalso; omega))))
      exact Exists.intro [] (And.intro (rfl) (And.intro trivial rfl))
  have hkl : k < 2 * n := by omega
  have hks : k < bs.size := by omega
  obtain ⟨d, hd⟩ : ∃ d, 2 * n - k = d + 1 := ⟨2 * n - k - 1, by omega⟩
  have hd' : 2 * n - (k + 1) = d := by omega
  rw [hd] at hR
  by_cases h40 : tbL bs k = 40
  · have hb : bs[k].toNat = 40 := by rw [← tbL_at hks]; exact h40
    simp only [pm_op h40] at hR
    (repeat' (first | refine Exists.intro _ (And.intro w2n ?_) | refine Exists.intro k (Exists.intro bs[k] (And.intro ⟨rfl, bsL_at hks⟩ ?_)) | refine And.intro ⟨rfl, mkL rfl⟩ ?_ | refine Exists.intro [Value.int .i64 (k : Int)] (And.intro (row1s (mkL' rfl)) ?_) | refine Exists.intro (rowL (k :: st)) (And.intro ⟨rfl, onesR rfl, by omega, by omega, rowL_push⟩ ?_) | refine And.intro (neI rfl) ?_ | refine And.intro ⟨rfl, leR rfl, onesR rfl⟩ ?_ | refine And.intro ⟨rfl, leR rfl⟩ ?_ | refine draw_rule2 hfol (fun KK hKK => ?_) | refine hKK _ _ _ (by kernel_rfl) ?_ | refine region_rule (fun KK hKK => ?_) | refine hKK _ _ ?_ | refine And.intro (Eq.refl true) ?_ | refine Exists.intro _ (And.intro (wI (by omega)) ?_) | refine Exists.intro _ (And.intro (wU (by omega)) ?_) | refine Exists.intro _ (And.intro ⟨rfl, by omega⟩ ?_) | refine Exists.intro _ (And.intro rfl ?_) | refine And.intro rfl ?_ | refine And.intro ⟨rfl, rfl⟩ ?_ | ((refine And.intro (fun _ => ?_) (fun _ => ?_)) <;> try (exfalso; omega))))
    refine Exists.intro (k + 1, k :: st, q, M) (Exists.intro [0, 1, 4] (And.intro ⟨⟨by omega, by simp; omega, hPI.push h40, hM, by rw [hd']; exact hR⟩, (by show 2 * n - (k + 1) < 2 * n - k; omega)⟩ ⟨⟨rfl, rfl, rfl, rfl, rfl, rfl, trivial⟩, ⟨rfl, rfl, rfl, trivial⟩, rfl⟩))
  have hb40 : bs[k].toNat ≠ 40 := by rw [← tbL_at hks]; exact h40
  by_cases h41 : tbL bs k = 41
  · have hb : bs[k].toNat = 41 := by rw [← tbL_at hks]; exact h41
    cases st with
    | nil =>
      have hlen : ([] : List Nat).length = 0 := rfl
      (repeat' (first | refine Exists.intro _ (And.intro w2n ?_) | refine Exists.intro k (Exists.intro bs[k] (And.intro ⟨rfl, bsL_at hks⟩ ?_)) | refine Exists.intro (pcl 0 (List.replicate 16 0)) (And.intro ⟨leR rfl, rfl⟩ ?_) | refine Exists.intro (pcl 0 (List.replicate 16 0)) (And.intro ⟨rfl, rfl⟩ ?_) | refine And.intro (neI rfl) ?_ | refine And.intro ⟨rfl, leR rfl, onesR rfl⟩ ?_ | refine And.intro ⟨rfl, leR rfl⟩ ?_ | refine draw_rule2 hfol (fun KK hKK => ?_) | refine hKK _ _ _ (by kernel_rfl) ?_ | refine region_rule (fun KK hKK => ?_) | refine hKK _ _ ?_ | refine And.intro (Eq.refl true) ?_ | refine Exists.intro _ (And.intro (wI (by omega)) ?_) | refine Exists.intro _ (And.intro (wU (by omega)) ?_) | refine Exists.intro _ (And.intro ⟨rfl, by omega⟩ ?_) | refine Exists.intro _ (And.intro rfl ?_) | refine And.intro rfl ?_ | refine And.intro ⟨rfl, rfl⟩ ?_ | ((refine And.intro (fun _ => ?_) (fun _ => ?_)) <;> try (exfalso; omega))))
      exact Exists.intro [] (And.intro (rfl) (And.intro trivial rfl))
    | cons i r =>
      simp only [pm_cl h41] at hR
      have hik := hPI.lt i (by simp)
      simp only [List.length_cons] at hsl
      have hlen : (i :: r).length = r.length + 1 := rfl
      have hw : IntKind.i64.wrap (((r.length + 1 : Nat) : Int) - 1) = ((r.length : Nat) : Int) := wC (by omega) (by omega)
      have p1 := s_place n i (by omega) (by omega)
      have p2 := s_place n k (by omega) hkl
      have l1 := plc_lt (n := n) (i := i) (by omega)
      have l2 := plc_lt (n := n) (i := k) hkl
      have hj := s_join n M (plc n i) (plc n k) hM (by omega) (by omega)
      have hM2 : ((M.set (plc n i) (plc n k)).set (plc n k) (plc n i)).length = 16 := by simpa using hM
      generalize ((M.set (plc n i) (plc n k)).set (plc n k) (plc n i)) = M2 at hj hM2
      (repeat' (first | refine Exists.intro _ (And.intro w2n ?_) | refine Exists.intro k (Exists.intro bs[k] (And.intro ⟨rfl, bsL_at hks⟩ ?_)) | refine Exists.intro _ (And.intro hw ?_) | refine Exists.intro _ (And.intro rowL_top ?_) | refine Exists.intro r.length (Exists.intro (rowL r) (And.intro ⟨rfl, by show r.length ≤ r.length + 1; omega, rfl, rowL_pop⟩ ?_)) | refine Exists.intro (pcl (n : Int) M) (And.intro ⟨pcl_len hM, pcl_all hM⟩ ?_) | refine And.intro ⟨pcl_len hM, leR rfl, pcl_ones⟩ ?_ | refine Exists.intro (pcl (n : Int) M) (And.intro ⟨leR rfl, spl0 (leR rfl)⟩ ?_) | refine (p1).pure rfl ?_ | refine (p2).pure rfl ?_ | refine (hj).pure rfl ?_ | refine Exists.intro (pcl n M2) (And.intro ⟨by rw [pcl_len hM]; exact Nat.le_refl _, spl0 (Nat.le_of_eq (pcl_len hM))⟩ ?_) | refine And.intro ⟨pcl_len hM2, leR rfl, pcl_ones⟩ ?_ | refine And.intro (neI rfl) ?_ | refine And.intro ⟨rfl, leR rfl, onesR rfl⟩ ?_ | refine And.intro ⟨rfl, leR rfl⟩ ?_ | refine draw_rule2 hfol (fun KK hKK => ?_) | refine hKK _ _ _ (by kernel_rfl) ?_ | refine region_rule (fun KK hKK => ?_) | refine hKK _ _ ?_ | refine And.intro (Eq.refl true) ?_ | refine Exists.intro _ (And.intro (wI (by omega)) ?_) | refine Exists.intro _ (And.intro (wU (by omega)) ?_) | refine Exists.intro _ (And.intro ⟨rfl, by omega⟩ ?_) | refine Exists.intro _ (And.intro rfl ?_) | refine And.intro rfl ?_ | refine And.intro ⟨rfl, rfl⟩ ?_ | ((refine And.intro (fun _ => ?_) (fun _ => ?_)) <;> try (exfalso; omega))))
      refine Exists.intro (k + 1, r, up2 q i k, M2) (Exists.intro [0, 1, 3] (And.intro ⟨⟨by omega, by dsimp only; omega, hPI.pop h41, hM2, by rw [hd']; exact hR⟩, (by show 2 * n - (k + 1) < 2 * n - k; omega)⟩ ⟨⟨rfl, rfl, rfl, rfl, rfl, rfl, trivial⟩, ⟨rfl, rfl, rfl, trivial⟩, rfl⟩))
  · have hb : bs[k].toNat ≠ 41 := by rw [← tbL_at hks]; exact h41
    (repeat' (first | refine Exists.intro _ (And.intro w2n ?_) | refine Exists.intro k (Exists.intro bs[k] (And.intro ⟨rfl, bsL_at hks⟩ ?_)) | refine Exists.intro (pcl 0 (List.replicate 16 0)) (And.intro ⟨leR rfl, rfl⟩ ?_) | refine Exists.intro (pcl 0 (List.replicate 16 0)) (And.intro ⟨rfl, rfl⟩ ?_) | refine And.intro (neI rfl) ?_ | refine And.intro ⟨rfl, leR rfl, onesR rfl⟩ ?_ | refine And.intro ⟨rfl, leR rfl⟩ ?_ | refine draw_rule2 hfol (fun KK hKK => ?_) | refine hKK _ _ _ (by kernel_rfl) ?_ | refine region_rule (fun KK hKK => ?_) | refine hKK _ _ ?_ | refine And.intro (Eq.refl true) ?_ | refine Exists.intro _ (And.intro (wI (by omega)) ?_) | refine Exists.intro _ (And.intro (wU (by omega)) ?_) | refine Exists.intro _ (And.intro ⟨rfl, by omega⟩ ?_) | refine Exists.intro _ (And.intro rfl ?_) | refine And.intro rfl ?_ | refine And.intro ⟨rfl, rfl⟩ ?_ | ((refine And.intro (fun _ => ?_) (fun _ => ?_)) <;> try (exfalso; omega))))
    exact Exists.intro [] (And.intro (rfl) (And.intro trivial rfl))
/-- What is read. -/
def rdG (bs : ByteArray) : Int × List Nat × Bool := if bs.size % 2 = 0 ∧ 1 ≤ bs.size / 2 ∧ bs.size / 2 ≤ 8 then rdR (bs.size / 2) bs else (0, List.replicate 16 0, false)
theorem rdG_len (bs : ByteArray) : (rdG bs).2.1.length = 16 := by
  unfold rdG; split
  · exact rdR_len _ _
  · simp
theorem s_rdGs (bs : ByteArray) (hb : bs.size ≤ 4611686018427387904) : Spec Try.prog n_s_l01Read [.raw (.string bs)] [] (dbV (rdG bs)) [] := by
  unfold rdG
  by_cases h : bs.size % 2 = 0 ∧ 1 ≤ bs.size / 2 ∧ bs.size / 2 ≤ 8
  · rw [if_pos h]
    obtain ⟨h1, h2, h3⟩ := h
    have hs : bs.size = 2 * (bs.size / 2) := by omega
    by_cases hp : ∃ o, pm (tbL bs) bs.size 0 [] (fun _ => 0) = some ([], o)
    · obtain ⟨o, ho⟩ := hp
      have hr := s_lread (bs.size / 2) bs h2 h3 hs o ho
      have e : rdR (bs.size / 2) bs = (((bs.size / 2 : Nat) : Int), jD (bs.size / 2) o (2 * (bs.size / 2)), true) := by
        unfold rdR
        rw [show pm (tb bs) bs.size 0 [] (fun _ => 0) = some ([], o) from ho]
      rw [e]; exact hr
    · have hno : ∀ o, pm (tbL bs) bs.size 0 [] (fun _ => 0) ≠ some ([], o) := fun o e => hp ⟨o, e⟩
      have hr := s_lreadF (bs.size / 2) bs h2 h3 hs hno
      have e : rdR (bs.size / 2) bs = (0, List.replicate 16 0, false) := by
        unfold rdR
        have hno' : ∀ o, pm (tb bs) bs.size 0 [] (fun _ => 0) ≠ some ([], o) := hno
        cases hq : pm (tb bs) bs.size 0 [] (fun _ => 0) with
        | none => rfl
        | some p =>
          obtain ⟨st, o⟩ := p
          cases st with
          | nil => exact absurd hq (hno' o)
          | cons i r => rfl
      rw [e]; exact hr
  · rw [if_neg h]
    have hfol : Try.prog.follows .mixedOrders = true := rfl
    have e0 : IntKind.i64.wrap (Int.tdiv (bs.size : Int) 2) = ((bs.size / 2 : Nat) : Int) := by rw [td2]; exact wI (by omega)
    by_cases h1 : bs.size % 2 = 0
    · have e1 : Int.tmod (bs.size : Int) 2 = 0 := by rw [tm2]; omega
      have hin := s_in ((bs.size / 2 : Nat) : Int) 1 8
      rw [decide_eq_false (by omega)] at hin
      generalize ((bs.size / 2 : Nat) : Int) = z at e0 hin
      refine SpecW.of_EV hf_s_l01Read hc_s_l01Read rfl rfl rfl fun w0 B ρ0 _ => ?_
      (repeat' (first | refine Exists.intro _ (And.intro e0 ?_) | refine Exists.intro 0 (And.intro e1 ?_) | refine (hin).pure rfl ?_ | refine Exists.intro (pcl 0 (List.replicate 16 0)) (And.intro ⟨leR rfl, rfl⟩ ?_) | refine Exists.intro (pcl 0 (List.replicate 16 0)) (And.intro ⟨rfl, rfl⟩ ?_) | refine And.intro (neI rfl) ?_ | refine And.intro ⟨rfl, leR rfl, onesR rfl⟩ ?_ | refine And.intro ⟨rfl, leR rfl⟩ ?_ | refine draw_rule2 hfol (fun KK hKK => ?_) | refine hKK _ _ _ (by kernel_rfl) ?_ | refine region_rule (fun KK hKK => ?_) | refine hKK _ _ ?_ | refine And.intro (Eq.refl true) ?_ | refine Exists.intro _ (And.intro (wI (by omega)) ?_) | refine Exists.intro _ (And.intro (wU (by omega)) ?_) | refine Exists.intro _ (And.intro ⟨rfl, by omega⟩ ?_) | refine Exists.intro _ (And.intro rfl ?_) | refine And.intro rfl ?_ | refine And.intro ⟨rfl, rfl⟩ ?_ | ((refine And.intro (fun _ => ?_) (fun _ => ?_)) <;> try (exfalso; omega))))
      exact Exists.intro [] (And.intro (rfl) (And.intro trivial rfl))
    · have e1 : Int.tmod (bs.size : Int) 2 = 1 := by rw [tm2]; omega
      generalize ((bs.size / 2 : Nat) : Int) = z at e0
      refine SpecW.of_EV hf_s_l01Read hc_s_l01Read rfl rfl rfl fun w0 B ρ0 _ => ?_
      (repeat' (first | refine Exists.intro _ (And.intro e0 ?_) | refine Exists.intro 1 (And.intro e1 ?_) | refine Exists.intro (pcl 0 (List.replicate 16 0)) (And.intro ⟨leR rfl, rfl⟩ ?_) | refine Exists.intro (pcl 0 (List.replicate 16 0)) (And.intro ⟨rfl, rfl⟩ ?_) | refine And.intro (neI rfl) ?_ | refine And.intro ⟨rfl, leR rfl, onesR rfl⟩ ?_ | refine And.intro ⟨rfl, leR rfl⟩ ?_ | refine draw_rule2 hfol (fun KK hKK => ?_) | refine hKK _ _ _ (by kernel_rfl) ?_ | refine region_rule (fun KK hKK => ?_) | refine hKK _ _ ?_ | refine And.intro (Eq.refl true) ?_ | refine Exists.intro _ (And.intro (wI (by omega)) ?_) | refine Exists.intro _ (And.intro (wU (by omega)) ?_) | refine Exists.intro _ (And.intro ⟨rfl, by omega⟩ ?_) | refine Exists.intro _ (And.intro rfl ?_) | refine And.intro rfl ?_ | refine And.intro ⟨rfl, rfl⟩ ?_ | ((refine And.intro (fun _ => ?_) (fun _ => ?_)) <;> try (exfalso; omega))))
      exact Exists.intro [] (And.intro (rfl) (And.intro trivial rfl))
theorem s_rdGi (bs : ByteArray) (hb : bs.size ≤ 4611686018427387904) : Spec Try.prog n_i_read [.raw (.string bs)] [] (dbV (rdG bs)) [] := by
  unfold rdG
  by_cases h : bs.size % 2 = 0 ∧ 1 ≤ bs.size / 2 ∧ bs.size / 2 ≤ 8
  · rw [if_pos h]
    exact s_read (bs.size / 2) bs h.2.1 h.2.2 (by omega)
  · rw [if_neg h]
    have w1 : IntKind.i64.wrap (bs.size : Int) = (bs.size : Int) := wI (by omega)
    by_cases h1 : bs.size % 2 = 0
    · have e1 : Int.tmod (bs.size : Int) 2 = 0 := by rw [tm2]; omega
      have hin := s_iin (bs.size : Int) 2 16
      rw [decide_eq_false (by omega)] at hin
      refine SpecW.of_EV hf_i_read hc_i_read rfl rfl rfl fun w0 B ρ0 _ => ?_
      (repeat' (first | refine Exists.intro 0 (And.intro e1 ?_) | refine Exists.intro _ (And.intro w1 ?_) | refine (hin).pure rfl ?_ | refine Exists.intro (pcl 0 (List.replicate 16 0)) (And.intro ⟨leR rfl, rfl⟩ ?_) | refine Exists.intro (pcl 0 (List.replicate 16 0)) (And.intro ⟨rfl, rfl⟩ ?_) | refine And.intro (neI rfl) ?_ | refine And.intro ⟨rfl, leR rfl, onesR rfl⟩ ?_ | refine And.intro ⟨rfl, leR rfl⟩ ?_ | refine draw_rule2 hfol (fun KK hKK => ?_) | refine hKK _ _ _ (by kernel_rfl) ?_ | refine region_rule (fun KK hKK => ?_) | refine hKK _ _ ?_ | refine And.intro (Eq.refl true) ?_ | refine Exists.intro _ (And.intro (wI (by omega)) ?_) | refine Exists.intro _ (And.intro (wU (by omega)) ?_) | refine Exists.intro _ (And.intro ⟨rfl, by omega⟩ ?_) | refine Exists.intro _ (And.intro rfl ?_) | refine And.intro rfl ?_ | refine And.intro ⟨rfl, rfl⟩ ?_ | ((refine And.intro (fun _ => ?_) (fun _ => ?_)) <;> try (exfalso; omega))))
      exact Exists.intro [] (And.intro (rfl) (And.intro trivial rfl))
    · have e1 : Int.tmod (bs.size : Int) 2 = 1 := by rw [tm2]; omega
      refine SpecW.of_EV hf_i_read hc_i_read rfl rfl rfl fun w0 B ρ0 _ => ?_
      (repeat' (first | refine Exists.intro 1 (And.intro e1 ?_) | refine Exists.intro (pcl 0 (List.replicate 16 0)) (And.intro ⟨leR rfl, rfl⟩ ?_) | refine Exists.intro (pcl 0 (List.replicate 16 0)) (And.intro ⟨rfl, rfl⟩ ?_) | refine And.intro (neI rfl) ?_ | refine And.intro ⟨rfl, leR rfl, onesR rfl⟩ ?_ | refine And.intro ⟨rfl, leR rfl⟩ ?_ | refine draw_rule2 hfol (fun KK hKK => ?_) | refine hKK _ _ _ (by kernel_rfl) ?_ | refine region_rule (fun KK hKK => ?_) | refine hKK _ _ ?_ | refine And.intro (Eq.refl true) ?_ | refine Exists.intro _ (And.intro (wI (by omega)) ?_) | refine Exists.intro _ (And.intro (wU (by omega)) ?_) | refine Exists.intro _ (And.intro ⟨rfl, by omega⟩ ?_) | refine Exists.intro _ (And.intro rfl ?_) | refine And.intro rfl ?_ | refine And.intro ⟨rfl, rfl⟩ ?_ | ((refine And.intro (fun _ => ?_) (fun _ => ?_)) <;> try (exfalso; omega))))
      exact Exists.intro [] (And.intro (rfl) (And.intro trivial rfl))
/-- What a text is parsed to. -/
def pdR (bs : ByteArray) : Int × List Nat × Int := if (rdG bs).2.2 = true then ((rdG bs).1, (rdG bs).2.1, 0) else (0, List.replicate 16 0, 6)
theorem pdR_len (bs : ByteArray) : (pdR bs).2.1.length = 16 := by
  unfold pdR; split
  · exact rdG_len bs
  · simp
theorem s_iParse (bs : ByteArray) (hb : bs.size ≤ 4611686018427387904) : Spec Try.prog n_i_ParseDiagram [.raw (.string bs)] [] (.tup [pv (pdR bs).1 (pdR bs).2.1, vi (pdR bs).2.2]) [] := by
  have h := s_rdGi bs hb
  have hl := rdG_len bs
  unfold pdR
  generalize rdG bs = p at h hl
  obtain ⟨s, m, b⟩ := p
  refine SpecW.of_EV hf_i_ParseDiagram hc_i_ParseDiagram rfl rfl rfl fun w0 B ρ0 _ => ?_
  cases b
  · (repeat' (first | refine (h).pure rfl ?_ | refine Exists.intro (pcl s m) (And.intro ⟨pcl_len hl, pcl_all hl⟩ ?_) | refine And.intro ⟨pcl_len hl, leR rfl, pcl_ones⟩ ?_ | refine Exists.intro (pcl s m) (And.intro ⟨leR rfl, spl0 (leR rfl)⟩ ?_) | refine Exists.intro (pcl 0 (List.replicate 16 0)) (And.intro ⟨leR rfl, rfl⟩ ?_) | refine Exists.intro (pcl 0 (List.replicate 16 0)) (And.intro ⟨rfl, rfl⟩ ?_) | refine And.intro (neI rfl) ?_ | refine And.intro ⟨rfl, leR rfl, onesR rfl⟩ ?_ | refine And.intro ⟨rfl, leR rfl⟩ ?_ | refine draw_rule2 hfol (fun KK hKK => ?_) | refine hKK _ _ _ (by kernel_rfl) ?_ | refine region_rule (fun KK hKK => ?_) | refine hKK _ _ ?_ | refine And.intro (Eq.refl true) ?_ | refine Exists.intro _ (And.intro (wI (by omega)) ?_) | refine Exists.intro _ (And.intro (wU (by omega)) ?_) | refine Exists.intro _ (And.intro ⟨rfl, by omega⟩ ?_) | refine Exists.intro _ (And.intro rfl ?_) | refine And.intro rfl ?_ | refine And.intro ⟨rfl, rfl⟩ ?_ | ((refine And.intro (fun _ => ?_) (fun _ => ?_)) <;> try (exfalso; omega))))
    exact Exists.intro [] (And.intro (rfl) (And.intro trivial rfl))
  · (repeat' (first | refine (h).pure rfl ?_ | refine Exists.intro (pcl s m) (And.intro ⟨pcl_len hl, pcl_all hl⟩ ?_) | refine And.intro ⟨pcl_len hl, leR rfl, pcl_ones⟩ ?_ | refine Exists.intro (pcl s m) (And.intro ⟨leR rfl, spl0 (leR rfl)⟩ ?_) | refine And.intro (neI rfl) ?_ | refine And.intro ⟨rfl, leR rfl, onesR rfl⟩ ?_ | refine And.intro ⟨rfl, leR rfl⟩ ?_ | refine draw_rule2 hfol (fun KK hKK => ?_) | refine hKK _ _ _ (by kernel_rfl) ?_ | refine region_rule (fun KK hKK => ?_) | refine hKK _ _ ?_ | refine And.intro (Eq.refl true) ?_ | refine Exists.intro _ (And.intro (wI (by omega)) ?_) | refine Exists.intro _ (And.intro (wU (by omega)) ?_) | refine Exists.intro _ (And.intro ⟨rfl, by omega⟩ ?_) | refine Exists.intro _ (And.intro rfl ?_) | refine And.intro rfl ?_ | refine And.intro ⟨rfl, rfl⟩ ?_ | ((refine And.intro (fun _ => ?_) (fun _ => ?_)) <;> try (exfalso; omega))))
    exact Exists.intro [] (And.intro (rfl) (And.intro trivial rfl))
theorem s_sParse (bs : ByteArray) (hb : bs.size ≤ 4611686018427387904) : Spec Try.prog n_s_ParseDiagram [.raw (.string bs)] [] (.tup [pv (pdR bs).1 (pdR bs).2.1, vi (pdR bs).2.2]) [] := by
  have h := s_rdGs bs hb
  have hl := rdG_len bs
  unfold pdR
  generalize rdG bs = p at h hl
  obtain ⟨s, m, b⟩ := p
  refine SpecW.of_EV hf_s_ParseDiagram hc_s_ParseDiagram rfl rfl rfl fun w0 B ρ0 _ => ?_
  cases b
  · (repeat' (first | refine (h).pure rfl ?_ | refine Exists.intro (pcl s m) (And.intro ⟨pcl_len hl, pcl_all hl⟩ ?_) | refine And.intro ⟨pcl_len hl, leR rfl, pcl_ones⟩ ?_ | refine Exists.intro (pcl s m) (And.intro ⟨leR rfl, spl0 (leR rfl)⟩ ?_) | refine Exists.intro (pcl 0 (List.replicate 16 0)) (And.intro ⟨leR rfl, rfl⟩ ?_) | refine Exists.intro (pcl 0 (List.replicate 16 0)) (And.intro ⟨rfl, rfl⟩ ?_) | refine And.intro (neI rfl) ?_ | refine And.intro ⟨rfl, leR rfl, onesR rfl⟩ ?_ | refine And.intro ⟨rfl, leR rfl⟩ ?_ | refine draw_rule2 hfol (fun KK hKK => ?_) | refine hKK _ _ _ (by kernel_rfl) ?_ | refine region_rule (fun KK hKK => ?_) | refine hKK _ _ ?_ | refine And.intro (Eq.refl true) ?_ | refine Exists.intro _ (And.intro (wI (by omega)) ?_) | refine Exists.intro _ (And.intro (wU (by omega)) ?_) | refine Exists.intro _ (And.intro ⟨rfl, by omega⟩ ?_) | refine Exists.intro _ (And.intro rfl ?_) | refine And.intro rfl ?_ | refine And.intro ⟨rfl, rfl⟩ ?_ | ((refine And.intro (fun _ => ?_) (fun _ => ?_)) <;> try (exfalso; omega))))
    exact Exists.intro [] (And.intro (rfl) (And.intro trivial rfl))
  · (repeat' (first | refine (h).pure rfl ?_ | refine Exists.intro (pcl s m) (And.intro ⟨pcl_len hl, pcl_all hl⟩ ?_) | refine And.intro ⟨pcl_len hl, leR rfl, pcl_ones⟩ ?_ | refine Exists.intro (pcl s m) (And.intro ⟨leR rfl, spl0 (leR rfl)⟩ ?_) | refine And.intro (neI rfl) ?_ | refine And.intro ⟨rfl, leR rfl, onesR rfl⟩ ?_ | refine And.intro ⟨rfl, leR rfl⟩ ?_ | refine draw_rule2 hfol (fun KK hKK => ?_) | refine hKK _ _ _ (by kernel_rfl) ?_ | refine region_rule (fun KK hKK => ?_) | refine hKK _ _ ?_ | refine And.intro (Eq.refl true) ?_ | refine Exists.intro _ (And.intro (wI (by omega)) ?_) | refine Exists.intro _ (And.intro (wU (by omega)) ?_) | refine Exists.intro _ (And.intro ⟨rfl, by omega⟩ ?_) | refine Exists.intro _ (And.intro rfl ?_) | refine And.intro rfl ?_ | refine And.intro ⟨rfl, rfl⟩ ?_ | ((refine And.intro (fun _ => ?_) (fun _ => ?_)) <;> try (exfalso; omega))))
    exact Exists.intro [] (And.intro (rfl) (And.intro trivial rfl))
end Go.Proofs.Ytgpgcdofhkpeaaa.VE
namespace Go.Proofs.Ytgpgcdofhkpeaaa.VE
open Go
set_option maxHeartbeats 3200000
set_option maxRecDepth 100000

/-! lists of texts and of diagrams -/
theorem s_ltx : ∀ (d : Nat) (t : ByteArray) (o r : Nat) (acc : List ByteArray), o + 2 * r = d → d ≤ 16 → t.size + d ≤ 16 → acc.length + 2 ^ d ≤ 65536 →
    Spec Try.prog n_s_l01Texts [.sl 0, .raw (.string t), vi o, vi r] [.pr T_string 1 acc.length (rS acc)] (.sl 1) [.dead, .pr T_string 1 (acc ++ br d t o).length (rS (acc ++ br d t o))]
  | 0, t, o, r, acc, hd, _, ht, hacc => by
    obtain rfl : o = 0 := by omega
    obtain rfl : r = 0 := by omega
    have hlen : (acc ++ br 0 t 0).length = acc.length + 1 := by rw [List.length_append]; rfl
    refine SpecW.of_EV hf_s_l01Texts hc_s_l01Texts rfl rfl rfl fun w0 B ρ0 _ => ?_
    (repeat' (first | refine And.intro ⟨rfl, mkL rfl⟩ ?_ | refine Exists.intro [Value.string t] (And.intro (row1S (mkL' rfl)) ?_) | refine Exists.intro (rS (acc ++ [t])) (And.intro ⟨rfl, onesR rfl, by omega, by omega, rS_push⟩ ?_) | refine And.intro (neI rfl) ?_ | refine And.intro ⟨rfl, leR rfl, onesR rfl⟩ ?_ | refine And.intro ⟨rfl, leR rfl⟩ ?_ | refine draw_rule2 hfol (fun KK hKK => ?_) | refine hKK _ _ _ (by kernel_rfl) ?_ | refine region_rule (fun KK hKK => ?_) | refine hKK _ _ ?_ | refine And.intro (Eq.refl true) ?_ | refine Exists.intro _ (And.intro (wI (by omega)) ?_) | refine Exists.intro _ (And.intro (wU (by omega)) ?_) | refine Exists.intro _ (And.intro ⟨rfl, by omega⟩ ?_) | refine Exists.intro _ (And.intro rfl ?_) | refine And.intro rfl ?_ | refine And.intro ⟨rfl, rfl⟩ ?_ | ((refine And.intro (fun _ => ?_) (fun _ => ?_)) <;> try (exfalso; omega))))
    exact Exists.intro [0, 2] (And.intro rfl (And.intro ⟨rfl, by rw [hlen]; rfl, trivial⟩ rfl))
  | d + 1, t, o, r, acc, hd, h16, ht, hacc => by
    have w3 : IntKind.i64.wrap ((o : Int) + 1) = ((o + 1 : Nat) : Int) := wC (by omega) (by omega)
    have hp : 2 ^ (d + 1) = 2 ^ d * 2 := Nat.pow_succ ..
    have hs1 : (t ++ bO).size = t.size + 1 := by rw [ByteArray.size_append]; rfl
    have hs2 : (t ++ bC).size = t.size + 1 := by rw [ByteArray.size_append]; rfl
    by_cases h1 : 0 < r
    · have w5 : IntKind.i64.wrap ((r : Int) - 1) = ((r - 1 : Nat) : Int) := wC (by omega) (by omega)
      have r1 := s_ltx d (t ++ bO) (o + 1) (r - 1) acc (by omega) (by omega) (by omega) (by omega)
      by_cases h2 : 0 < o
      · have w4 : IntKind.i64.wrap ((o : Int) - 1) = ((o - 1 : Nat) : Int) := wC (by omega) (by omega)
        have hl := wy_le d (o + 1)
        have r2 := s_ltx d (t ++ bC) (o - 1) r (acc ++ br d (t ++ bO) (o + 1)) (by omega) (by omega) (by omega) (by rw [List.length_append, br_len]; omega)
        have e : acc ++ br (d + 1) t o = acc ++ br d (t ++ bO) (o + 1) ++ br d (t ++ bC) (o - 1) := by rw [br, if_pos (by omega), if_pos h2, List.append_assoc]
        refine SpecW.of_EV hf_s_l01Texts hc_s_l01Texts rfl rfl rfl fun w0 B ρ0 _ => ?_
        (repeat' (first | refine And.intro (show t.size + 1 ≤ 9223372036854775807 by omega) ?_ | refine Exists.intro _ (And.intro w3 ?_) | refine Exists.intro _ (And.intro w4 ?_) | refine Exists.intro _ (And.intro w5 ?_) | refine (r1).make [0] rfl ⟨rfl, trivial⟩ ?_ | refine (r2).make [1] rfl ⟨rfl, trivial⟩ ?_ | refine And.intro (neI rfl) ?_ | refine And.intro ⟨rfl, leR rfl, onesR rfl⟩ ?_ | refine And.intro ⟨rfl, leR rfl⟩ ?_ | refine draw_rule2 hfol (fun KK hKK => ?_) | refine hKK _ _ _ (by kernel_rfl) ?_ | refine region_rule (fun KK hKK => ?_) | refine hKK _ _ ?_ | refine And.intro (Eq.refl true) ?_ | refine Exists.intro _ (And.intro (wI (by omega)) ?_) | refine Exists.intro _ (And.intro (wU (by omega)) ?_) | refine Exists.intro _ (And.intro ⟨rfl, by omega⟩ ?_) | refine Exists.intro _ (And.intro rfl ?_) | refine And.intro rfl ?_ | refine And.intro ⟨rfl, rfl⟩ ?_ | ((refine And.intro (fun _ => ?_) (fun _ => ?_)) <;> try (exfalso; omega))))
        exact Exists.intro [0, 2] (And.intro rfl (And.intro ⟨rfl, by rw [e]; rfl, trivial⟩ rfl))
      · have e : acc ++ br (d + 1) t o = acc ++ br d (t ++ bO) (o + 1) := by rw [br, if_pos (by omega), if_neg h2, List.append_nil]
        refine SpecW.of_EV hf_s_l01Texts hc_s_l01Texts rfl rfl rfl fun w0 B ρ0 _ => ?_
        (repeat' (first | refine And.intro (show t.size + 1 ≤ 9223372036854775807 by omega) ?_ | refine Exists.intro _ (And.intro w3 ?_) | refine Exists.intro _ (And.intro w5 ?_) | refine (r1).make [0] rfl ⟨rfl, trivial⟩ ?_ | refine And.intro (neI rfl) ?_ | refine And.intro ⟨rfl, leR rfl, onesR rfl⟩ ?_ | refine And.intro ⟨rfl, leR rfl⟩ ?_ | refine draw_rule2 hfol (fun KK hKK => ?_) | refine hKK _ _ _ (by kernel_rfl) ?_ | refine region_rule (fun KK hKK => ?_) | refine hKK _ _ ?_ | refine And.intro (Eq.refl true) ?_ | refine Exists.intro _ (And.intro (wI (by omega)) ?_) | refine Exists.intro _ (And.intro (wU (by omega)) ?_) | refine Exists.intro _ (And.intro ⟨rfl, by omega⟩ ?_) | refine Exists.intro _ (And.intro rfl ?_) | refine And.intro rfl ?_ | refine And.intro ⟨rfl, rfl⟩ ?_ | ((refine And.intro (fun _ => ?_) (fun _ => ?_)) <;> try (exfalso; omega))))
        exact Exists.intro [0, 1] (And.intro rfl (And.intro ⟨rfl, by rw [e]; rfl, trivial⟩ rfl))
    · have h2 : 0 < o := by omega
      have w4 : IntKind.i64.wrap ((o : Int) - 1) = ((o - 1 : Nat) : Int) := wC (by omega) (by omega)
      have r2 := s_ltx d (t ++ bC) (o - 1) r acc (by omega) (by omega) (by omega) (by omega)
      have e : acc ++ br (d + 1) t o = acc ++ br d (t ++ bC) (o - 1) := by rw [br, if_neg (by omega), if_pos h2, List.nil_append]
      refine SpecW.of_EV hf_s_l01Texts hc_s_l01Texts rfl rfl rfl fun w0 B ρ0 _ => ?_
      (repeat' (first | refine And.intro (show t.size + 1 ≤ 9223372036854775807 by omega) ?_ | refine Exists.intro _ (And.intro w4 ?_) | refine (r2).make [0] rfl ⟨rfl, trivial⟩ ?_ | refine And.intro (neI rfl) ?_ | refine And.intro ⟨rfl, leR rfl, onesR rfl⟩ ?_ | refine And.intro ⟨rfl, leR rfl⟩ ?_ | refine draw_rule2 hfol (fun KK hKK => ?_) | refine hKK _ _ _ (by kernel_rfl) ?_ | refine region_rule (fun KK hKK => ?_) | refine hKK _ _ ?_ | refine And.intro (Eq.refl true) ?_ | refine Exists.intro _ (And.intro (wI (by omega)) ?_) | refine Exists.intro _ (And.intro (wU (by omega)) ?_) | refine Exists.intro _ (And.intro ⟨rfl, by omega⟩ ?_) | refine Exists.intro _ (And.intro rfl ?_) | refine And.intro rfl ?_ | refine And.intro ⟨rfl, rfl⟩ ?_ | ((refine And.intro (fun _ => ?_) (fun _ => ?_)) <;> try (exfalso; omega))))
      exact Exists.intro [0, 1] (And.intro rfl (And.intro ⟨rfl, by rw [e]; rfl, trivial⟩ rfl))
/-- All texts of a size. -/
def allT (n : Nat) : List ByteArray := br (2 * n) ⟨#[]⟩ 0
theorem allT_len {n : Nat} (hn : n ≤ 8) : (allT n).length ≤ 65536 := by
  unfold allT
  rw [br_len]
  have h1 := wy_le (2 * n) 0
  have h2 : 2 ^ (2 * n) ≤ 2 ^ 16 := Nat.pow_le_pow_right (by omega) (by omega)
  omega
theorem br_bal : ∀ (d : Nat) (t : ByteArray) (o r : Nat), o + 2 * r = d → Bal t o → ∀ s ∈ br d t o, Bal s 0 ∧ s.size = t.size + d
  | 0, t, o, r, hd, hb, s, hs => by
    obtain rfl : o = 0 := by omega
    have : s = t := by simpa [br] using hs
    subst this; exact ⟨hb, rfl⟩
  | d + 1, t, o, r, hd, hb, s, hs => by
    have hs1 : (t ++ bO).size = t.size + 1 := by rw [ByteArray.size_append]; rfl
    have hs2 : (t ++ bC).size = t.size + 1 := by rw [ByteArray.size_append]; rfl
    rw [br] at hs
    rcases List.mem_append.1 hs with h | h
    · split at h
      · have := br_bal d (t ++ bO) (o + 1) (r - 1) (by omega) hb.open' s h
        exact ⟨this.1, by rw [this.2, hs1]; omega⟩
      · simp at h
    · split at h
      · obtain ⟨x, rfl⟩ : ∃ x, o = x + 1 := ⟨o - 1, by omega⟩
        have := br_bal d (t ++ bC) x r (by omega) hb.close' s (by simpa using h)
        exact ⟨this.1, by rw [this.2, hs2]; omega⟩
      · simp at h
theorem bal_rd {n : Nat} {t : ByteArray} (hn1 : 1 ≤ n) (hn : n ≤ 8) (hs : t.size = 2 * n) (hb : Bal t 0) : (rdG t).2.2 = true ∧ (rdG t).1 = n ∧ IsD n (rdG t).2.1 := by
  obtain ⟨st, o, h1, h2⟩ := hb
  obtain rfl : st = [] := List.length_eq_zero_iff.1 h2
  have e : rdG t = ((n : Int), jD n o (2 * n), true) := by
    unfold rdG
    rw [if_pos (by omega), show t.size / 2 = n by omega]
    unfold rdR
    rw [show pm (tb t) t.size 0 [] (fun _ => 0) = some ([], o) from h1]
  have hpl := (pm_planar h1).1
  rw [hs] at hpl
  rw [e]
  exact ⟨rfl, rfl, jD_D hn1 hn hpl⟩
theorem allT_bal {n : Nat} {t : ByteArray} (ht : t ∈ allT n) : Bal t 0 ∧ t.size = 2 * n := by
  have h := br_bal (2 * n) ⟨#[]⟩ 0 n (by omega) Bal.nil t ht
  exact ⟨h.1, by rw [h.2]; show 0 + 2 * n = 2 * n; omega⟩
theorem rowP_appJ : ∀ {a b : List (Int × List Nat)}, rowP (a ++ b) = rowP a ++ rowP b
  | [], _ => rfl
  | p :: a, b => by rw [List.cons_append, rowP, rowP, rowP_appJ, List.append_assoc]
def rdP (t : ByteArray) : Int × List Nat := ((rdG t).1, (rdG t).2.1)
theorem row1sJ {c : List Value} {s : Int} {m : List Nat} {N : Nat} (h : c.length ≤ N) : c.take (0 * N) ++ pcl s m ++ c.drop (0 * N + N) = pcl s m := by
  simp [List.drop_of_length_le h]
abbrev rowA (l : List ByteArray) : O := .pr T_i_Diagram 17 l.length (rowP (l.map rdP))
theorem take_succ' {l : List ByteArray} {i : Nat} {t : ByteArray} (h : l[i]? = some t) : l.take (i + 1) = l.take i ++ [t] := by
  rw [List.take_add_one, h]; rfl
theorem s_lall (n : Nat) (hn1 : 1 ≤ n) (hn : n ≤ 8) : Spec Try.prog n_s_l01All [vi n] [] (.sl 0) [rowA (allT n)] := by
  have hL := allT_len hn
  have h0 : Spec Try.prog n_s_l01Texts [.raw (.slice none 0 0), .raw (.string ⟨#[]⟩), vi (0 : Nat), vi n] [] (.sl 0) [.pr T_string 1 (allT n).length (rS (allT n))] := by
    obtain ⟨d, hd⟩ : ∃ d, 2 * n = d + 1 := ⟨2 * n - 1, by omega⟩
    have hp : 2 ^ d ≤ 2 ^ 16 := Nat.pow_le_pow_right (by omega) (by omega)
    have r1 := s_ltx d ((⟨#[]⟩ : ByteArray) ++ bO) 1 (n - 1) [] (by omega) (by omega) (by rw [ByteArray.size_append]; show 0 + 1 + d ≤ 16; omega) (by show 0 + 2 ^ d ≤ 65536; omega)
    rw [List.nil_append] at r1
    have e : allT n = br d ((⟨#[]⟩ : ByteArray) ++ bO) 1 := by unfold allT; rw [hd, br, if_pos (by omega), if_neg (by omega), List.append_nil]
    rw [← e] at r1
    have w3 : IntKind.i64.wrap (((0 : Nat) : Int) + 1) = ((1 : Nat) : Int) := wC (by omega) (by omega)
    have w5 : IntKind.i64.wrap ((n : Int) - 1) = ((n - 1 : Nat) : Int) := wC (by omega) (by omega)
    refine SpecW.of_EV hf_s_l01Texts hc_s_l01Texts rfl rfl rfl fun w0 B ρ0 _ => ?_
    refine code_ghost (π := []) (S := [(0, .raw (.slice none 0 0)), (1, .raw (.string ⟨#[]⟩)), (2, vi (0 : Nat)), (3, vi n)]) (H := []) ⟨⟨rfl, rfl, rfl, rfl, trivial⟩, trivial, rfl⟩
      (GG.nilrow (S' := [(0, .sl 0), (1, .raw (.string ⟨#[]⟩)), (2, vi (0 : Nat)), (3, vi n)]) (H' := [.pr T_string 1 0 []]) T_string (fun ρ hE => ⟨rfl, hE, rfl, rfl, rfl, rfl, rfl, rfl, trivial⟩) (fun ρ _ => ⟨eqR, trivial⟩) rfl (by repeat' (first | exact trivial | exact okO_pl rfl | exact okO_pls rfl | exact okO_plss rfl | exact okO_plpp rfl | exact okO_pla rfl | exact okO_rs | exact okO_rss rfl | exact okO_rsss rfl | exact okO_wP rfl | exact okO_wL rfl | exact okO_r rfl | refine And.intro ?_ ?_))) (fun g => ?_)
    (repeat' (first | refine And.intro (show (⟨#[]⟩ : ByteArray).size + 1 ≤ 9223372036854775807 by decide) ?_ | refine Exists.intro _ (And.intro w3 ?_) | refine Exists.intro _ (And.intro w5 ?_) | refine (r1).make [0] rfl ⟨rfl, trivial⟩ ?_ | refine And.intro (neI rfl) ?_ | refine And.intro ⟨rfl, leR rfl, onesR rfl⟩ ?_ | refine And.intro ⟨rfl, leR rfl⟩ ?_ | refine draw_rule2 hfol (fun KK hKK => ?_) | refine hKK _ _ _ (by kernel_rfl) ?_ | refine region_rule (fun KK hKK => ?_) | refine hKK _ _ ?_ | refine And.intro (Eq.refl true) ?_ | refine Exists.intro _ (And.intro (wI (by omega)) ?_) | refine Exists.intro _ (And.intro (wU (by omega)) ?_) | refine Exists.intro _ (And.intro ⟨rfl, by omega⟩ ?_) | refine Exists.intro _ (And.intro rfl ?_) | refine And.intro rfl ?_ | refine And.intro ⟨rfl, rfl⟩ ?_ | ((refine And.intro (fun _ => ?_) (fun _ => ?_)) <;> try (exfalso; omega))))
    exact Exists.intro [1] (And.intro (rfl) (And.intro ⟨rfl, trivial⟩ rfl))
  refine SpecW.of_EV hf_s_l01All hc_s_l01All rfl rfl rfl fun w0 B ρ0 _ => ?_
  (repeat' (first | refine (h0).make [] rfl trivial ?_ | refine And.intro (neI rfl) ?_ | refine And.intro ⟨rfl, leR rfl, onesR rfl⟩ ?_ | refine And.intro ⟨rfl, leR rfl⟩ ?_ | refine draw_rule2 hfol (fun KK hKK => ?_) | refine hKK _ _ _ (by kernel_rfl) ?_ | refine region_rule (fun KK hKK => ?_) | refine hKK _ _ ?_ | refine And.intro (Eq.refl true) ?_ | refine Exists.intro _ (And.intro (wI (by omega)) ?_) | refine Exists.intro _ (And.intro (wU (by omega)) ?_) | refine Exists.intro _ (And.intro ⟨rfl, by omega⟩ ?_) | refine Exists.intro _ (And.intro rfl ?_) | refine And.intro rfl ?_ | refine And.intro ⟨rfl, rfl⟩ ?_ | ((refine And.intro (fun _ => ?_) (fun _ => ?_)) <;> try (exfalso; omega))))
  refine loop_rule (α := Nat) (fun i => i ≤ (allT n).length) (fun i => [(3, .sl 0), (4, .sl 1), (5, vi i)])
    (fun i => [.pr T_string 1 (allT n).length (rS (allT n)), .pr T_i_Diagram 17 i (rowP (((allT n).take i).map rdP))]) (fun i => (allT n).length - i) 0 [0, 1] (by omega) ⟨⟨rfl, rfl, rfl, trivial⟩, ⟨rfl, rfl, trivial⟩, rfl⟩ ?_
  rintro i g hi
  by_cases h9 : i = (allT n).length
  · subst h9
    rw [List.take_length]
    (repeat' (first | refine And.intro (neI rfl) ?_ | refine And.intro ⟨rfl, leR rfl, onesR rfl⟩ ?_ | refine And.intro ⟨rfl, leR rfl⟩ ?_ | refine draw_rule2 hfol (fun KK hKK => ?_) | refine hKK _ _ _ (by kernel_rfl) ?_ | refine region_rule (fun KK hKK => ?_) | refine hKK _ _ ?_ | refine And.intro (Eq.refl true) ?_ | refine Exists.intro _ (And.intro (wI (by omega)) ?_) | refine Exists.intro _ (And.intro (wU (by omega)) ?_) | refine Exists.intro _ (And.intro ⟨rfl, by omega⟩ ?_) | refine Exists.intro _ (And.intro rfl ?_) | refine And.intro rfl ?_ | refine And.intro ⟨rfl, rfl⟩ ?_ | ((refine And.intro (fun _ => ?_) (fun _ => ?_)) <;> try (exfalso; omega))))
    exact Exists.intro [1] (And.intro (rfl) (And.intro ⟨rfl, trivial⟩ rfl))
  have hil : i < (allT n).length := by omega
  obtain ⟨t, ht⟩ : ∃ t, (allT n)[i]? = some t := ⟨_, List.getElem?_eq_getElem hil⟩
  obtain ⟨hb, hs⟩ := allT_bal (List.mem_of_getElem? ht)
  have hr := s_rdGs t (by omega)
  have hl := rdG_len t
  have hap : rowP (((allT n).take i).map rdP) ++ pcl (rdG t).1 (rdG t).2.1 = rowP (((allT n).take (i + 1)).map rdP) := by
    rw [take_succ' ht, List.map_append, rowP_appJ]; simp [rowP, rdP]
  generalize rdG t = p at hr hl hap
  (repeat' (first | refine Exists.intro _ (And.intro (rS_at ht) ?_) | refine (hr).pure rfl ?_ | refine Exists.intro (pcl p.1 p.2.1) (And.intro ⟨pcl_len hl, pcl_all hl⟩ ?_) | refine And.intro ⟨pcl_len hl, leR rfl, pcl_ones⟩ ?_ | refine Exists.intro (pcl p.1 p.2.1) (And.intro ⟨leR rfl, spl0 (leR rfl)⟩ ?_) | refine And.intro ⟨pcl_len hl, mkL rfl⟩ ?_ | refine Exists.intro (pcl p.1 p.2.1) (And.intro (row1sJ (N := 17) (mkL' rfl)) ?_) | refine Exists.intro (rowP (((allT n).take (i + 1)).map rdP)) (And.intro ⟨rfl, pcl_ones, by omega, by omega, hap⟩ ?_) | refine And.intro (neI rfl) ?_ | refine And.intro ⟨rfl, leR rfl, onesR rfl⟩ ?_ | refine And.intro ⟨rfl, leR rfl⟩ ?_ | refine draw_rule2 hfol (fun KK hKK => ?_) | refine hKK _ _ _ (by kernel_rfl) ?_ | refine region_rule (fun KK hKK => ?_) | refine hKK _ _ ?_ | refine And.intro (Eq.refl true) ?_ | refine Exists.intro _ (And.intro (wI (by omega)) ?_) | refine Exists.intro _ (And.intro (wU (by omega)) ?_) | refine Exists.intro _ (And.intro ⟨rfl, by omega⟩ ?_) | refine Exists.intro _ (And.intro rfl ?_) | refine And.intro rfl ?_ | refine And.intro ⟨rfl, rfl⟩ ?_ | ((refine And.intro (fun _ => ?_) (fun _ => ?_)) <;> try (exfalso; omega))))
  exact Exists.intro (i + 1) (Exists.intro [0, 4] (And.intro ⟨by omega, (by show (allT n).length - (i + 1) < (allT n).length - i; omega)⟩ ⟨⟨rfl, rfl, rfl, trivial⟩, ⟨rfl, rfl, trivial⟩, rfl⟩))
theorem s_iall (n : Nat) (hn : n ≤ 8) : Spec Try.prog n_i_allDiagrams [vi n] [] (.sl 0) [rowA (allT n)] := by
  have hL := allT_len hn
  have h0 := s_bracketings n hn
  replace h0 : Spec Try.prog n_i_bracketings [vi n] [] (.sl 0) [.pr T_string 1 (allT n).length (rS (allT n))] := h0
  refine SpecW.of_EV hf_i_allDiagrams hc_i_allDiagrams rfl rfl rfl fun w0 B ρ0 _ => ?_
  (repeat' (first | refine (h0).make [] rfl trivial ?_ | refine And.intro (neI rfl) ?_ | refine And.intro ⟨rfl, leR rfl, onesR rfl⟩ ?_ | refine And.intro ⟨rfl, leR rfl⟩ ?_ | refine draw_rule2 hfol (fun KK hKK => ?_) | refine hKK _ _ _ (by kernel_rfl) ?_ | refine region_rule (fun KK hKK => ?_) | refine hKK _ _ ?_ | refine And.intro (Eq.refl true) ?_ | refine Exists.intro _ (And.intro (wI (by omega)) ?_) | refine Exists.intro _ (And.intro (wU (by omega)) ?_) | refine Exists.intro _ (And.intro ⟨rfl, by omega⟩ ?_) | refine Exists.intro _ (And.intro rfl ?_) | refine And.intro rfl ?_ | refine And.intro ⟨rfl, rfl⟩ ?_ | ((refine And.intro (fun _ => ?_) (fun _ => ?_)) <;> try (exfalso; omega))))
  refine loop_rule (α := Nat) (fun i => i ≤ (allT n).length) (fun i => [(10, .sl 0), (3, .sl 1), (11, vi (allT n).length), (12, vi i)])
    (fun i => [.pr T_string 1 (allT n).length (rS (allT n)), .pr T_i_Diagram 17 i (rowP (((allT n).take i).map rdP))]) (fun i => (allT n).length - i) 0 [1, 0] (by omega) ⟨⟨rfl, rfl, rfl, rfl, trivial⟩, ⟨rfl, rfl, trivial⟩, rfl⟩ ?_
  rintro i g hi
  by_cases h9 : i = (allT n).length
  · subst h9
    rw [List.take_length]
    (repeat' (first | refine And.intro (neI rfl) ?_ | refine And.intro ⟨rfl, leR rfl, onesR rfl⟩ ?_ | refine And.intro ⟨rfl, leR rfl⟩ ?_ | refine draw_rule2 hfol (fun KK hKK => ?_) | refine hKK _ _ _ (by kernel_rfl) ?_ | refine region_rule (fun KK hKK => ?_) | refine hKK _ _ ?_ | refine And.intro (Eq.refl true) ?_ | refine Exists.intro _ (And.intro (wI (by omega)) ?_) | refine Exists.intro _ (And.intro (wU (by omega)) ?_) | refine Exists.intro _ (And.intro ⟨rfl, by omega⟩ ?_) | refine Exists.intro _ (And.intro rfl ?_) | refine And.intro rfl ?_ | refine And.intro ⟨rfl, rfl⟩ ?_ | ((refine And.intro (fun _ => ?_) (fun _ => ?_)) <;> try (exfalso; omega))))
    exact Exists.intro [1] (And.intro (rfl) (And.intro ⟨rfl, trivial⟩ rfl))
  have hil : i < (allT n).length := by omega
  obtain ⟨t, ht⟩ : ∃ t, (allT n)[i]? = some t := ⟨_, List.getElem?_eq_getElem hil⟩
  obtain ⟨hb, hs⟩ := allT_bal (List.mem_of_getElem? ht)
  have hr := s_rdGi t (by omega)
  have hl := rdG_len t
  have hap : rowP (((allT n).take i).map rdP) ++ pcl (rdG t).1 (rdG t).2.1 = rowP (((allT n).take (i + 1)).map rdP) := by
    rw [take_succ' ht, List.map_append, rowP_appJ]; simp [rowP, rdP]
  generalize rdG t = p at hr hl hap
  (repeat' (first | refine Exists.intro _ (And.intro (rS_at ht) ?_) | refine (hr).pure rfl ?_ | refine Exists.intro (pcl p.1 p.2.1) (And.intro ⟨pcl_len hl, pcl_all hl⟩ ?_) | refine And.intro ⟨pcl_len hl, leR rfl, pcl_ones⟩ ?_ | refine Exists.intro (pcl p.1 p.2.1) (And.intro ⟨leR rfl, spl0 (leR rfl)⟩ ?_) | refine And.intro ⟨pcl_len hl, mkL rfl⟩ ?_ | refine Exists.intro (pcl p.1 p.2.1) (And.intro (row1sJ (N := 17) (mkL' rfl)) ?_) | refine Exists.intro (rowP (((allT n).take (i + 1)).map rdP)) (And.intro ⟨rfl, pcl_ones, by omega, by omega, hap⟩ ?_) | refine And.intro (neI rfl) ?_ | refine And.intro ⟨rfl, leR rfl, onesR rfl⟩ ?_ | refine And.intro ⟨rfl, leR rfl⟩ ?_ | refine draw_rule2 hfol (fun KK hKK => ?_) | refine hKK _ _ _ (by kernel_rfl) ?_ | refine region_rule (fun KK hKK => ?_) | refine hKK _ _ ?_ | refine And.intro (Eq.refl true) ?_ | refine Exists.intro _ (And.intro (wI (by omega)) ?_) | refine Exists.intro _ (And.intro (wU (by omega)) ?_) | refine Exists.intro _ (And.intro ⟨rfl, by omega⟩ ?_) | refine Exists.intro _ (And.intro rfl ?_) | refine And.intro rfl ?_ | refine And.intro ⟨rfl, rfl⟩ ?_ | ((refine And.intro (fun _ => ?_) (fun _ => ?_)) <;> try (exfalso; omega))))
  exact Exists.intro (i + 1) (Exists.intro [0, 4] (And.intro ⟨by omega, (by show (allT n).length - (i + 1) < (allT n).length - i; omega)⟩ ⟨⟨rfl, rfl, rfl, rfl, trivial⟩, ⟨rfl, rfl, trivial⟩, rfl⟩))
/-! AllDiagrams -/
theorem s_sAll (n : Nat) (hn1 : 1 ≤ n) (hn : n ≤ 6) : Spec Try.prog n_s_AllDiagrams [vi n] [] (.tup [.sl 0, vi 0]) [rowA (allT n)] := by
  have h := s_lall n hn1 (by omega)
  have hin := s_in (n : Int) 1 6
  rw [decide_eq_true (by omega)] at hin
  refine SpecW.of_EV hf_s_AllDiagrams hc_s_AllDiagrams rfl rfl rfl fun w0 B ρ0 _ => ?_
  (repeat' (first | refine (hin).pure rfl ?_ | refine (h).make [] rfl trivial ?_ | refine And.intro (neI rfl) ?_ | refine And.intro ⟨rfl, leR rfl, onesR rfl⟩ ?_ | refine And.intro ⟨rfl, leR rfl⟩ ?_ | refine draw_rule2 hfol (fun KK hKK => ?_) | refine hKK _ _ _ (by kernel_rfl) ?_ | refine region_rule (fun KK hKK => ?_) | refine hKK _ _ ?_ | refine And.intro (Eq.refl true) ?_ | refine Exists.intro _ (And.intro (wI (by omega)) ?_) | refine Exists.intro _ (And.intro (wU (by omega)) ?_) | refine Exists.intro _ (And.intro ⟨rfl, by omega⟩ ?_) | refine Exists.intro _ (And.intro rfl ?_) | refine And.intro rfl ?_ | refine And.intro ⟨rfl, rfl⟩ ?_ | ((refine And.intro (fun _ => ?_) (fun _ => ?_)) <;> try (exfalso; omega))))
  exact Exists.intro [0] (And.intro (rfl) (And.intro ⟨rfl, trivial⟩ rfl))
theorem s_iAll (n : Nat) (hn1 : 1 ≤ n) (hn : n ≤ 6) : Spec Try.prog n_i_AllDiagrams [vi n] [] (.tup [.sl 0, vi 0]) [rowA (allT n)] := by
  have h := s_iall n (by omega)
  have hin := s_iin (n : Int) 1 6
  rw [decide_eq_true (by omega)] at hin
  refine SpecW.of_EV hf_i_AllDiagrams hc_i_AllDiagrams rfl rfl rfl fun w0 B ρ0 _ => ?_
  (repeat' (first | refine (hin).pure rfl ?_ | refine (h).make [] rfl trivial ?_ | refine And.intro (neI rfl) ?_ | refine And.intro ⟨rfl, leR rfl, onesR rfl⟩ ?_ | refine And.intro ⟨rfl, leR rfl⟩ ?_ | refine draw_rule2 hfol (fun KK hKK => ?_) | refine hKK _ _ _ (by kernel_rfl) ?_ | refine region_rule (fun KK hKK => ?_) | refine hKK _ _ ?_ | refine And.intro (Eq.refl true) ?_ | refine Exists.intro _ (And.intro (wI (by omega)) ?_) | refine Exists.intro _ (And.intro (wU (by omega)) ?_) | refine Exists.intro _ (And.intro ⟨rfl, by omega⟩ ?_) | refine Exists.intro _ (And.intro rfl ?_) | refine And.intro rfl ?_ | refine And.intro ⟨rfl, rfl⟩ ?_ | ((refine And.intro (fun _ => ?_) (fun _ => ?_)) <;> try (exfalso; omega))))
  exact Exists.intro [0] (And.intro (rfl) (And.intro ⟨rfl, trivial⟩ rfl))
theorem s_sAllE (n : Int) (h : ¬ (1 ≤ n ∧ n ≤ 6)) : Spec Try.prog n_s_AllDiagrams [vi n] [] (.tup [.raw (.slice none 0 0), vi 2]) [] := by
  have hin := s_in n 1 6
  rw [decide_eq_false h] at hin
  refine SpecW.of_EV hf_s_AllDiagrams hc_s_AllDiagrams rfl rfl rfl fun w0 B ρ0 _ => ?_
  (repeat' (first | refine (hin).pure rfl ?_ | refine And.intro (neI rfl) ?_ | refine And.intro ⟨rfl, leR rfl, onesR rfl⟩ ?_ | refine And.intro ⟨rfl, leR rfl⟩ ?_ | refine draw_rule2 hfol (fun KK hKK => ?_) | refine hKK _ _ _ (by kernel_rfl) ?_ | refine region_rule (fun KK hKK => ?_) | refine hKK _ _ ?_ | refine And.intro (Eq.refl true) ?_ | refine Exists.intro _ (And.intro (wI (by omega)) ?_) | refine Exists.intro _ (And.intro (wU (by omega)) ?_) | refine Exists.intro _ (And.intro ⟨rfl, by omega⟩ ?_) | refine Exists.intro _ (And.intro rfl ?_) | refine And.intro rfl ?_ | refine And.intro ⟨rfl, rfl⟩ ?_ | ((refine And.intro (fun _ => ?_) (fun _ => ?_)) <;> try (exfalso; omega))))
  exact Exists.intro [] (And.intro (rfl) (And.intro trivial rfl))
theorem s_iAllE (n : Int) (h : ¬ (1 ≤ n ∧ n ≤ 6)) : Spec Try.prog n_i_AllDiagrams [vi n] [] (.tup [.raw (.slice none 0 0), vi 2]) [] := by
  have hin := s_iin n 1 6
  rw [decide_eq_false h] at hin
  refine SpecW.of_EV hf_i_AllDiagrams hc_i_AllDiagrams rfl rfl rfl fun w0 B ρ0 _ => ?_
  (repeat' (first | refine (hin).pure rfl ?_ | refine And.intro (neI rfl) ?_ | refine And.intro ⟨rfl, leR rfl, onesR rfl⟩ ?_ | refine And.intro ⟨rfl, leR rfl⟩ ?_ | refine draw_rule2 hfol (fun KK hKK => ?_) | refine hKK _ _ _ (by kernel_rfl) ?_ | refine region_rule (fun KK hKK => ?_) | refine hKK _ _ ?_ | refine And.intro (Eq.refl true) ?_ | refine Exists.intro _ (And.intro (wI (by omega)) ?_) | refine Exists.intro _ (And.intro (wU (by omega)) ?_) | refine Exists.intro _ (And.intro ⟨rfl, by omega⟩ ?_) | refine Exists.intro _ (And.intro rfl ?_) | refine And.intro rfl ?_ | refine And.intro ⟨rfl, rfl⟩ ?_ | ((refine And.intro (fun _ => ?_) (fun _ => ?_)) <;> try (exfalso; omega))))
  exact Exists.intro [] (And.intro (rfl) (And.intro trivial rfl))
theorem s_diag5 (l : List (Int × List Nat)) (hl : ∀ p ∈ l, p.2.length = 16) (hb : l.length ≤ 1000000) : Spec Try.prog n_l_diagrams5 [.sl 0, .sl 1] [.pr T_i_Diagram 17 l.length (rowP l), .pr T_i_Diagram 17 l.length (rowP l)] (vb true) [.pr T_i_Diagram 17 l.length (rowP l), .pr T_i_Diagram 17 l.length (rowP l)] := by
  have hfol : Try.prog.follows .mixedOrders = true := rfl
  refine SpecW.of_EV hf_l_diagrams5 hc_l_diagrams5 rfl rfl rfl fun w0 B ρ0 _ => ?_
  (repeat' (first | refine And.intro (neI rfl) ?_ | refine And.intro ⟨rfl, leR rfl, onesR rfl⟩ ?_ | refine And.intro ⟨rfl, leR rfl⟩ ?_ | refine draw_rule2 hfol (fun KK hKK => ?_) | refine hKK _ _ _ (by kernel_rfl) ?_ | refine region_rule (fun KK hKK => ?_) | refine hKK _ _ ?_ | refine And.intro (Eq.refl true) ?_ | refine Exists.intro _ (And.intro (wI (by omega)) ?_) | refine Exists.intro _ (And.intro (wU (by omega)) ?_) | refine Exists.intro _ (And.intro ⟨rfl, by omega⟩ ?_) | refine Exists.intro _ (And.intro rfl ?_) | refine And.intro rfl ?_ | refine And.intro ⟨rfl, rfl⟩ ?_ | ((refine And.intro (fun _ => ?_) (fun _ => ?_)) <;> try (exfalso; omega))))
  refine loop_rule (α := Nat) (fun i => i ≤ l.length) (fun i => [(0, .sl 0), (1, .sl 1), (5, vi i)]) (fun i => [.pr T_i_Diagram 17 l.length (rowP l), .pr T_i_Diagram 17 l.length (rowP l)]) (fun i => l.length - i) 0 [0, 1]
    (by omega) ⟨⟨rfl, rfl, rfl, trivial⟩, ⟨rfl, rfl, trivial⟩, rfl⟩ ?_
  rintro i g hi
  by_cases h9 : i = l.length
  · subst h9
    (repeat' (first | refine And.intro (neI rfl) ?_ | refine And.intro ⟨rfl, leR rfl, onesR rfl⟩ ?_ | refine And.intro ⟨rfl, leR rfl⟩ ?_ | refine draw_rule2 hfol (fun KK hKK => ?_) | refine hKK _ _ _ (by kernel_rfl) ?_ | refine region_rule (fun KK hKK => ?_) | refine hKK _ _ ?_ | refine And.intro (Eq.refl true) ?_ | refine Exists.intro _ (And.intro (wI (by omega)) ?_) | refine Exists.intro _ (And.intro (wU (by omega)) ?_) | refine Exists.intro _ (And.intro ⟨rfl, by omega⟩ ?_) | refine Exists.intro _ (And.intro rfl ?_) | refine And.intro rfl ?_ | refine And.intro ⟨rfl, rfl⟩ ?_ | ((refine And.intro (fun _ => ?_) (fun _ => ?_)) <;> try (exfalso; omega))))
    exact Exists.intro [0, 1] (And.intro (rfl) (And.intro ⟨rfl, rfl, trivial⟩ rfl))
  have hil : i < l.length := by omega
  obtain ⟨p, hp⟩ : ∃ p, l[i]? = some p := ⟨_, List.getElem?_eq_getElem hil⟩
  have hpl := hl p (List.mem_of_getElem? hp)
  have hat := rowP_at (N := 16) hl hp
  have hE : ∀ w, (Op.equalIn 10000 T_i_Diagram (.agg (pcl p.1 p.2).toArray) (.agg (pcl p.1 p.2).toArray)).run Try.prog w = .ok true w := fun w => by rw [eqDg w hpl hpl]; simp
  (repeat' (first | refine Exists.intro (pcl p.1 p.2) (And.intro ⟨pcl_len hpl, hat⟩ ?_) | refine Exists.intro _ (And.intro ⟨eg_i_Diagram, hE⟩ ?_) | refine And.intro (neI rfl) ?_ | refine And.intro ⟨rfl, leR rfl, onesR rfl⟩ ?_ | refine And.intro ⟨rfl, leR rfl⟩ ?_ | refine draw_rule2 hfol (fun KK hKK => ?_) | refine hKK _ _ _ (by kernel_rfl) ?_ | refine region_rule (fun KK hKK => ?_) | refine hKK _ _ ?_ | refine And.intro (Eq.refl true) ?_ | refine Exists.intro _ (And.intro (wI (by omega)) ?_) | refine Exists.intro _ (And.intro (wU (by omega)) ?_) | refine Exists.intro _ (And.intro ⟨rfl, by omega⟩ ?_) | refine Exists.intro _ (And.intro rfl ?_) | refine And.intro rfl ?_ | refine And.intro ⟨rfl, rfl⟩ ?_ | ((refine And.intro (fun _ => ?_) (fun _ => ?_)) <;> try (exfalso; omega))))
  exact Exists.intro (i + 1) (Exists.intro [0, 1] (And.intro ⟨by omega, (by show l.length - (i + 1) < l.length - i; omega)⟩ ⟨⟨rfl, rfl, rfl, trivial⟩, ⟨rfl, rfl, trivial⟩, rfl⟩))
theorem s_diag50 : Spec Try.prog n_l_diagrams5 [.raw (.slice none 0 0), .raw (.slice none 0 0)] [] (vb true) [] := by
  refine SpecW.of_EV hf_l_diagrams5 hc_l_diagrams5 rfl rfl rfl fun w0 B ρ0 _ => ?_
  (repeat' (first | refine And.intro (neI rfl) ?_ | refine And.intro ⟨rfl, leR rfl, onesR rfl⟩ ?_ | refine And.intro ⟨rfl, leR rfl⟩ ?_ | refine draw_rule2 hfol (fun KK hKK => ?_) | refine hKK _ _ _ (by kernel_rfl) ?_ | refine region_rule (fun KK hKK => ?_) | refine hKK _ _ ?_ | refine And.intro (Eq.refl true) ?_ | refine Exists.intro _ (And.intro (wI (by omega)) ?_) | refine Exists.intro _ (And.intro (wU (by omega)) ?_) | refine Exists.intro _ (And.intro ⟨rfl, by omega⟩ ?_) | refine Exists.intro _ (And.intro rfl ?_) | refine And.intro rfl ?_ | refine And.intro ⟨rfl, rfl⟩ ?_ | ((refine And.intro (fun _ => ?_) (fun _ => ?_)) <;> try (exfalso; omega))))
  refine loop_rule (α := Unit) (fun _ => True) (fun _ => [(0, .raw (.slice none 0 0)), (1, .raw (.slice none 0 0)), (5, vi 0)]) (fun _ => []) (fun _ => 0) () []
    trivial ⟨⟨rfl, rfl, rfl, trivial⟩, trivial, rfl⟩ ?_
  rintro _ gg _
  (repeat' (first | refine And.intro (neI rfl) ?_ | refine And.intro ⟨rfl, leR rfl, onesR rfl⟩ ?_ | refine And.intro ⟨rfl, leR rfl⟩ ?_ | refine draw_rule2 hfol (fun KK hKK => ?_) | refine hKK _ _ _ (by kernel_rfl) ?_ | refine region_rule (fun KK hKK => ?_) | refine hKK _ _ ?_ | refine And.intro (Eq.refl true) ?_ | refine Exists.intro _ (And.intro (wI (by omega)) ?_) | refine Exists.intro _ (And.intro (wU (by omega)) ?_) | refine Exists.intro _ (And.intro ⟨rfl, by omega⟩ ?_) | refine Exists.intro _ (And.intro rfl ?_) | refine And.intro rfl ?_ | refine And.intro ⟨rfl, rfl⟩ ?_ | ((refine And.intro (fun _ => ?_) (fun _ => ?_)) <;> try (exfalso; omega))))
  exact Exists.intro [] (And.intro (rfl) (And.intro trivial rfl))
end Go.Proofs.Ytgpgcdofhkpeaaa.VE
namespace Go.Proofs.Ytgpgcdofhkpeaaa.VE
open Go
set_option maxHeartbeats 3200000
set_option maxRecDepth 100000

/-! DiagramOfNumber -/
def doR (n k : Int) : Int × List Nat × Int := if (1 ≤ n ∧ n ≤ 8) ∧ 0 ≤ k ∧ k < (allT n.toNat).length then pdR ((allT n.toNat).getD k.toNat ⟨#[]⟩) else (0, List.replicate 16 0, 2)
theorem doR_len (n k : Int) : (doR n k).2.1.length = 16 := by
  unfold doR; split
  · exact pdR_len _
  · simp
theorem s_iDoN (n k : Int) : Spec Try.prog n_i_DiagramOfNumber [vi n, vi k] [] (.tup [pv (doR n k).1 (doR n k).2.1, vi (doR n k).2.2]) [] := by
  have h1 := s_iin n 1 8
  unfold doR
  by_cases hn : 1 ≤ n ∧ n ≤ 8
  rotate_left
  · rw [decide_eq_false hn] at h1
    rw [if_neg fun h => hn h.1]
    refine SpecW.of_EV hf_i_DiagramOfNumber hc_i_DiagramOfNumber rfl rfl rfl fun w0 B ρ0 _ => ?_
    (repeat' (first | refine (h1).pure rfl ?_ | refine Exists.intro (pcl 0 (List.replicate 16 0)) (And.intro ⟨leR rfl, rfl⟩ ?_) | refine Exists.intro (pcl 0 (List.replicate 16 0)) (And.intro ⟨rfl, rfl⟩ ?_) | refine And.intro (neI rfl) ?_ | refine And.intro ⟨rfl, leR rfl, onesR rfl⟩ ?_ | refine And.intro ⟨rfl, leR rfl⟩ ?_ | refine draw_rule2 hfol (fun KK hKK => ?_) | refine hKK _ _ _ (by kernel_rfl) ?_ | refine region_rule (fun KK hKK => ?_) | refine hKK _ _ ?_ | refine And.intro (Eq.refl true) ?_ | refine Exists.intro _ (And.intro (wI (by omega)) ?_) | refine Exists.intro _ (And.intro (wU (by omega)) ?_) | refine Exists.intro _ (And.intro ⟨rfl, by omega⟩ ?_) | refine Exists.intro _ (And.intro rfl ?_) | refine And.intro rfl ?_ | refine And.intro ⟨rfl, rfl⟩ ?_ | ((refine And.intro (fun _ => ?_) (fun _ => ?_)) <;> try (exfalso; omega))))
    exact Exists.intro [] (And.intro (rfl) (And.intro trivial rfl))
  rw [decide_eq_true hn] at h1
  obtain ⟨N, rfl⟩ : ∃ N : Nat, n = N := ⟨n.toNat, by omega⟩
  rw [Int.toNat_natCast]
  have hb := s_bracketings N (by omega)
  replace hb : Spec Try.prog n_i_bracketings [vi N] [] (.sl 0) [.pr T_string 1 (allT N).length (rS (allT N))] := hb
  have hL := allT_len (n := N) (by omega)
  have h2 := s_iin k 0 (((allT N).length : Int) - 1)
  have w1 : IntKind.i64.wrap (((allT N).length : Nat) : Int) = (((allT N).length : Nat) : Int) := wI (by omega)
  have w2 : IntKind.i64.wrap ((((allT N).length : Nat) : Int) - 1) = (((allT N).length : Nat) : Int) - 1 := wI (by omega)
  by_cases hk : 0 ≤ k ∧ k < (allT N).length
  · rw [decide_eq_true (by omega)] at h2
    rw [if_pos ⟨hn, hk⟩]
    obtain ⟨K, rfl⟩ : ∃ K : Nat, k = K := ⟨k.toNat, by omega⟩
    rw [Int.toNat_natCast]
    have hKl : K < (allT N).length := by omega
    obtain ⟨t, ht⟩ : ∃ t, (allT N)[K]? = some t := ⟨_, List.getElem?_eq_getElem hKl⟩
    have hg : (allT N).getD K ⟨#[]⟩ = t := by rw [List.getD_eq_getElem?_getD, ht]; rfl
    rw [hg]
    have hs := (allT_bal (List.mem_of_getElem? ht)).2
    have hp := s_iParse t (by omega)
    have hl := pdR_len t
    generalize pdR t = p at hp hl
    refine SpecW.of_EV hf_i_DiagramOfNumber hc_i_DiagramOfNumber rfl rfl rfl fun w0 B ρ0 _ => ?_
    (repeat' (first | refine (h1).pure rfl ?_ | refine (hb).make [] rfl trivial ?_ | refine Exists.intro _ (And.intro w1 ?_) | refine Exists.intro _ (And.intro w2 ?_) | refine (h2).pure rfl ?_ | refine Exists.intro _ (And.intro (rS_at ht) ?_) | refine (hp).pure rfl ?_ | refine Exists.intro (pcl p.1 p.2.1) (And.intro ⟨pcl_len hl, pcl_all hl⟩ ?_) | refine And.intro ⟨pcl_len hl, leR rfl, pcl_ones⟩ ?_ | refine Exists.intro (pcl p.1 p.2.1) (And.intro ⟨leR rfl, spl0 (leR rfl)⟩ ?_) | refine And.intro (neI rfl) ?_ | refine And.intro ⟨rfl, leR rfl, onesR rfl⟩ ?_ | refine And.intro ⟨rfl, leR rfl⟩ ?_ | refine draw_rule2 hfol (fun KK hKK => ?_) | refine hKK _ _ _ (by kernel_rfl) ?_ | refine region_rule (fun KK hKK => ?_) | refine hKK _ _ ?_ | refine And.intro (Eq.refl true) ?_ | refine Exists.intro _ (And.intro (wI (by omega)) ?_) | refine Exists.intro _ (And.intro (wU (by omega)) ?_) | refine Exists.intro _ (And.intro ⟨rfl, by omega⟩ ?_) | refine Exists.intro _ (And.intro rfl ?_) | refine And.intro rfl ?_ | refine And.intro ⟨rfl, rfl⟩ ?_ | ((refine And.intro (fun _ => ?_) (fun _ => ?_)) <;> try (exfalso; omega))))
    exact Exists.intro [] (And.intro (rfl) (And.intro trivial rfl))
  · rw [decide_eq_false (by omega)] at h2
    rw [if_neg fun h => hk h.2]
    refine SpecW.of_EV hf_i_DiagramOfNumber hc_i_DiagramOfNumber rfl rfl rfl fun w0 B ρ0 _ => ?_
    (repeat' (first | refine (h1).pure rfl ?_ | refine (hb).make [] rfl trivial ?_ | refine Exists.intro _ (And.intro w1 ?_) | refine Exists.intro _ (And.intro w2 ?_) | refine (h2).pure rfl ?_ | refine Exists.intro (pcl 0 (List.replicate 16 0)) (And.intro ⟨leR rfl, rfl⟩ ?_) | refine Exists.intro (pcl 0 (List.replicate 16 0)) (And.intro ⟨rfl, rfl⟩ ?_) | refine And.intro (neI rfl) ?_ | refine And.intro ⟨rfl, leR rfl, onesR rfl⟩ ?_ | refine And.intro ⟨rfl, leR rfl⟩ ?_ | refine draw_rule2 hfol (fun KK hKK => ?_) | refine hKK _ _ _ (by kernel_rfl) ?_ | refine region_rule (fun KK hKK => ?_) | refine hKK _ _ ?_ | refine And.intro (Eq.refl true) ?_ | refine Exists.intro _ (And.intro (wI (by omega)) ?_) | refine Exists.intro _ (And.intro (wU (by omega)) ?_) | refine Exists.intro _ (And.intro ⟨rfl, by omega⟩ ?_) | refine Exists.intro _ (And.intro rfl ?_) | refine And.intro rfl ?_ | refine And.intro ⟨rfl, rfl⟩ ?_ | ((refine And.intro (fun _ => ?_) (fun _ => ?_)) <;> try (exfalso; omega))))
    exact Exists.intro [] (And.intro (rfl) (And.intro trivial rfl))
theorem s_sDoN (n k : Int) : Spec Try.prog n_s_DiagramOfNumber [vi n, vi k] [] (.tup [pv (doR n k).1 (doR n k).2.1, vi (doR n k).2.2]) [] := by
  have h1 := s_in n 1 8
  unfold doR
  by_cases hn : 1 ≤ n ∧ n ≤ 8
  rotate_left
  · rw [decide_eq_false hn] at h1
    rw [if_neg fun h => hn h.1]
    refine SpecW.of_EV hf_s_DiagramOfNumber hc_s_DiagramOfNumber rfl rfl rfl fun w0 B ρ0 _ => ?_
    (repeat' (first | refine (h1).pure rfl ?_ | refine Exists.intro (pcl 0 (List.replicate 16 0)) (And.intro ⟨leR rfl, rfl⟩ ?_) | refine Exists.intro (pcl 0 (List.replicate 16 0)) (And.intro ⟨rfl, rfl⟩ ?_) | refine And.intro (neI rfl) ?_ | refine And.intro ⟨rfl, leR rfl, onesR rfl⟩ ?_ | refine And.intro ⟨rfl, leR rfl⟩ ?_ | refine draw_rule2 hfol (fun KK hKK => ?_) | refine hKK _ _ _ (by kernel_rfl) ?_ | refine region_rule (fun KK hKK => ?_) | refine hKK _ _ ?_ | refine And.intro (Eq.refl true) ?_ | refine Exists.intro _ (And.intro (wI (by omega)) ?_) | refine Exists.intro _ (And.intro (wU (by omega)) ?_) | refine Exists.intro _ (And.intro ⟨rfl, by omega⟩ ?_) | refine Exists.intro _ (And.intro rfl ?_) | refine And.intro rfl ?_ | refine And.intro ⟨rfl, rfl⟩ ?_ | ((refine And.intro (fun _ => ?_) (fun _ => ?_)) <;> try (exfalso; omega))))
    exact Exists.intro [] (And.intro (rfl) (And.intro trivial rfl))
  rw [decide_eq_true hn] at h1
  obtain ⟨N, rfl⟩ : ∃ N : Nat, n = N := ⟨n.toNat, by omega⟩
  rw [Int.toNat_natCast]
  have hN1 : 1 ≤ N := by omega
  have hN8 : N ≤ 8 := by omega
  have hL := allT_len hN8
  have hlen : (allT N).length = wy (2 * N) 0 := br_len _ _ _
  have hw := s_ways (2 * N) 0 N (by omega) (by omega)
  rw [← hlen] at hw
  have h2 := s_in k 0 (((allT N).length : Int) - 1)
  have w1 : (if (1 : Int) > (N : Int) then 1 else (N : Int)) = (N : Int) := by rw [if_neg (by omega)]
  have w2 : (if (8 : Int) < (N : Int) then 8 else (N : Int)) = (N : Int) := by rw [if_neg (by omega)]
  have w3 : IntKind.i64.wrap ((((allT N).length : Nat) : Int) - 1) = (((allT N).length : Nat) : Int) - 1 := wI (by omega)
  by_cases hk : 0 ≤ k ∧ k < (allT N).length
  rotate_left
  · rw [decide_eq_false (by omega)] at h2
    rw [if_neg fun h => hk h.2]
    refine SpecW.of_EV hf_s_DiagramOfNumber hc_s_DiagramOfNumber rfl rfl rfl fun w0 B ρ0 _ => ?_
    (repeat' (first | refine (h1).pure rfl ?_ | refine Exists.intro _ (And.intro w1 ?_) | refine Exists.intro _ (And.intro w2 ?_) | refine (hw).pure rfl ?_ | refine Exists.intro _ (And.intro w3 ?_) | refine (h2).pure rfl ?_ | refine Exists.intro (pcl 0 (List.replicate 16 0)) (And.intro ⟨leR rfl, rfl⟩ ?_) | refine Exists.intro (pcl 0 (List.replicate 16 0)) (And.intro ⟨rfl, rfl⟩ ?_) | refine And.intro (neI rfl) ?_ | refine And.intro ⟨rfl, leR rfl, onesR rfl⟩ ?_ | refine And.intro ⟨rfl, leR rfl⟩ ?_ | refine draw_rule2 hfol (fun KK hKK => ?_) | refine hKK _ _ _ (by kernel_rfl) ?_ | refine region_rule (fun KK hKK => ?_) | refine hKK _ _ ?_ | refine And.intro (Eq.refl true) ?_ | refine Exists.intro _ (And.intro (wI (by omega)) ?_) | refine Exists.intro _ (And.intro (wU (by omega)) ?_) | refine Exists.intro _ (And.intro ⟨rfl, by omega⟩ ?_) | refine Exists.intro _ (And.intro rfl ?_) | refine And.intro rfl ?_ | refine And.intro ⟨rfl, rfl⟩ ?_ | ((refine And.intro (fun _ => ?_) (fun _ => ?_)) <;> try (exfalso; omega))))
    exact Exists.intro [] (And.intro (rfl) (And.intro trivial rfl))
  rw [decide_eq_true (by omega)] at h2
  rw [if_pos ⟨hn, hk⟩]
  obtain ⟨K, rfl⟩ : ∃ K : Nat, k = K := ⟨k.toNat, by omega⟩
  rw [Int.toNat_natCast]
  have hKl : K < (allT N).length := by omega
  obtain ⟨t, ht⟩ : ∃ t, (allT N)[K]? = some t := ⟨_, List.getElem?_eq_getElem hKl⟩
  have hg : (allT N).getD K ⟨#[]⟩ = t := by rw [List.getD_eq_getElem?_getD, ht]; rfl
  rw [hg]
  obtain ⟨hbal, hs⟩ := allT_bal (List.mem_of_getElem? ht)
  have hok := (bal_rd hN1 hN8 hs hbal).1
  have hr := s_rdGs t (by omega)
  have hl := rdG_len t
  have hpd : pdR t = ((rdG t).1, (rdG t).2.1, 0) := by unfold pdR; rw [if_pos hok]
  rw [hpd]
  generalize rdG t = p at hr hl
  refine SpecW.of_EV hf_s_DiagramOfNumber hc_s_DiagramOfNumber rfl rfl rfl fun w0 B ρ0 _ => ?_
  (repeat' (first | refine (h1).pure rfl ?_ | refine Exists.intro _ (And.intro w1 ?_) | refine Exists.intro _ (And.intro w2 ?_) | refine (hw).pure rfl ?_ | refine Exists.intro _ (And.intro w3 ?_) | refine (h2).pure rfl ?_ | refine And.intro (neI rfl) ?_ | refine And.intro ⟨rfl, leR rfl, onesR rfl⟩ ?_ | refine And.intro ⟨rfl, leR rfl⟩ ?_ | refine draw_rule2 hfol (fun KK hKK => ?_) | refine hKK _ _ _ (by kernel_rfl) ?_ | refine region_rule (fun KK hKK => ?_) | refine hKK _ _ ?_ | refine And.intro (Eq.refl true) ?_ | refine Exists.intro _ (And.intro (wI (by omega)) ?_) | refine Exists.intro _ (And.intro (wU (by omega)) ?_) | refine Exists.intro _ (And.intro ⟨rfl, by omega⟩ ?_) | refine Exists.intro _ (And.intro rfl ?_) | refine And.intro rfl ?_ | refine And.intro ⟨rfl, rfl⟩ ?_ | ((refine And.intro (fun _ => ?_) (fun _ => ?_)) <;> try (exfalso; omega))))
  refine loop_rule (α := Nat × ByteArray × Nat × Nat × Nat) (fun (d, T, o, r, k) => o + 2 * r = d ∧ d ≤ 16 ∧ T.size + d ≤ 16 ∧ k ≤ 65536 ∧ (br d T o)[k]? = some t)
    (fun (d, T, o, r, k) => [(0, vi N), (1, vi k), (4, .ptr 0 0), (6, .raw (.string T)), (7, vi o), (8, vi r)])
    (fun (d, T, o, r, k) => [.pc (pcl 0 (List.replicate 16 0)) T_i_Diagram]) (fun (d, _) => d) (2 * N, ⟨#[]⟩, 0, N, K) [0]
    ⟨by omega, by omega, by show 0 + 2 * N ≤ 16; omega, by omega, ht⟩ ⟨⟨rfl, rfl, rfl, rfl, rfl, rfl, trivial⟩, ⟨rfl, trivial⟩, rfl⟩ ?_
  rintro ⟨d, T, o, r, k⟩ g ⟨hd, hd16, hT, hk2, hat⟩
  dsimp only at hd hd16 hT hk2 hat ⊢
  cases d with
  | zero =>
    obtain rfl : o = 0 := by omega
    obtain rfl : r = 0 := by omega
    have hkt : T = t := by
      rw [br] at hat
      cases k with
      | zero => simpa using hat
      | succ k => simp at hat
    subst hkt
    (repeat' (first | refine (hr).pure rfl ?_ | refine Exists.intro (pcl p.1 p.2.1) (And.intro ⟨pcl_len hl, pcl_all hl⟩ ?_) | refine And.intro ⟨pcl_len hl, leR rfl, pcl_ones⟩ ?_ | refine Exists.intro (pcl p.1 p.2.1) (And.intro ⟨leR rfl, spl0 (leR rfl)⟩ ?_) | refine And.intro (neI rfl) ?_ | refine And.intro ⟨rfl, leR rfl, onesR rfl⟩ ?_ | refine And.intro ⟨rfl, leR rfl⟩ ?_ | refine draw_rule2 hfol (fun KK hKK => ?_) | refine hKK _ _ _ (by kernel_rfl) ?_ | refine region_rule (fun KK hKK => ?_) | refine hKK _ _ ?_ | refine And.intro (Eq.refl true) ?_ | refine Exists.intro _ (And.intro (wI (by omega)) ?_) | refine Exists.intro _ (And.intro (wU (by omega)) ?_) | refine Exists.intro _ (And.intro ⟨rfl, by omega⟩ ?_) | refine Exists.intro _ (And.intro rfl ?_) | refine And.intro rfl ?_ | refine And.intro ⟨rfl, rfl⟩ ?_ | ((refine And.intro (fun _ => ?_) (fun _ => ?_)) <;> try (exfalso; omega))))
    exact Exists.intro [] (And.intro (rfl) (And.intro trivial rfl))
  | succ d =>
    have hs1 : (T ++ bO).size = T.size + 1 := by rw [ByteArray.size_append]; rfl
    have hs2 : (T ++ bC).size = T.size + 1 := by rw [ByteArray.size_append]; rfl
    have w5 : IntKind.i64.wrap ((o : Int) + 1) = ((o + 1 : Nat) : Int) := wC (by omega) (by omega)
    rw [br] at hat
    by_cases hr0 : 0 < r
    · rw [if_pos (by omega)] at hat
      have w6 : IntKind.i64.wrap ((r : Int) - 1) = ((r - 1 : Nat) : Int) := wC (by omega) (by omega)
      have hw2 := s_ways d (o + 1) (r - 1) (by omega) (by omega)
      have hwl := wy_le d (o + 1)
      have hp2 : 2 ^ d ≤ 2 ^ 16 := Nat.pow_le_pow_right (by omega) (by omega)
      have hbl := br_len d (T ++ bO) (o + 1)
      by_cases hlt : k < wy d (o + 1)
      · rw [List.getElem?_append_left (by omega)] at hat
        (repeat' (first | refine Exists.intro _ (And.intro w5 ?_) | refine Exists.intro _ (And.intro w6 ?_) | refine (hw2).pure rfl ?_ | refine And.intro (show T.size + 1 ≤ 9223372036854775807 by omega) ?_ | refine And.intro (neI rfl) ?_ | refine And.intro ⟨rfl, leR rfl, onesR rfl⟩ ?_ | refine And.intro ⟨rfl, leR rfl⟩ ?_ | refine draw_rule2 hfol (fun KK hKK => ?_) | refine hKK _ _ _ (by kernel_rfl) ?_ | refine region_rule (fun KK hKK => ?_) | refine hKK _ _ ?_ | refine And.intro (Eq.refl true) ?_ | refine Exists.intro _ (And.intro (wI (by omega)) ?_) | refine Exists.intro _ (And.intro (wU (by omega)) ?_) | refine Exists.intro _ (And.intro ⟨rfl, by omega⟩ ?_) | refine Exists.intro _ (And.intro rfl ?_) | refine And.intro rfl ?_ | refine And.intro ⟨rfl, rfl⟩ ?_ | ((refine And.intro (fun _ => ?_) (fun _ => ?_)) <;> try (exfalso; omega))))
        all_goals exact Exists.intro (d, T ++ bO, o + 1, r - 1, k) (Exists.intro [0] (And.intro ⟨⟨by dsimp only; omega, by dsimp only; omega, by dsimp only; omega, hk2, hat⟩, (by show d < d + 1; omega)⟩ ⟨⟨rfl, rfl, rfl, rfl, rfl, rfl, trivial⟩, ⟨rfl, trivial⟩, rfl⟩))
      · rw [List.getElem?_append_right (by omega), hbl] at hat
        have ho : 0 < o := by
          refine Classical.byContradiction fun h => ?_
          rw [if_neg h] at hat; simp at hat
        rw [if_pos ho] at hat
        have w7 : IntKind.i64.wrap ((k : Int) - ((wy d (o + 1) : Nat) : Int)) = ((k - wy d (o + 1) : Nat) : Int) := wC (by omega) (by omega)
        have w8 : IntKind.i64.wrap ((o : Int) - 1) = ((o - 1 : Nat) : Int) := wC (by omega) (by omega)
        (repeat' (first | refine Exists.intro _ (And.intro w5 ?_) | refine Exists.intro _ (And.intro w6 ?_) | refine Exists.intro _ (And.intro w7 ?_) | refine Exists.intro _ (And.intro w8 ?_) | refine (hw2).pure rfl ?_ | refine And.intro (show T.size + 1 ≤ 9223372036854775807 by omega) ?_ | refine And.intro (neI rfl) ?_ | refine And.intro ⟨rfl, leR rfl, onesR rfl⟩ ?_ | refine And.intro ⟨rfl, leR rfl⟩ ?_ | refine draw_rule2 hfol (fun KK hKK => ?_) | refine hKK _ _ _ (by kernel_rfl) ?_ | refine region_rule (fun KK hKK => ?_) | refine hKK _ _ ?_ | refine And.intro (Eq.refl true) ?_ | refine Exists.intro _ (And.intro (wI (by omega)) ?_) | refine Exists.intro _ (And.intro (wU (by omega)) ?_) | refine Exists.intro _ (And.intro ⟨rfl, by omega⟩ ?_) | refine Exists.intro _ (And.intro rfl ?_) | refine And.intro rfl ?_ | refine And.intro ⟨rfl, rfl⟩ ?_ | ((refine And.intro (fun _ => ?_) (fun _ => ?_)) <;> try (exfalso; omega))))
        exact Exists.intro (d, T ++ bC, o - 1, r, k - wy d (o + 1)) (Exists.intro [0] (And.intro ⟨⟨by dsimp only; omega, by dsimp only; omega, by dsimp only; omega, by dsimp only; omega, hat⟩, (by show d < d + 1; omega)⟩ ⟨⟨rfl, rfl, rfl, rfl, rfl, rfl, trivial⟩, ⟨rfl, trivial⟩, rfl⟩))
    · rw [if_neg (by omega), List.nil_append, if_pos (by omega)] at hat
      have w7 : IntKind.i64.wrap ((k : Int) - 0) = (k : Int) := wC (by omega) (by omega)
      have w8 : IntKind.i64.wrap ((o : Int) - 1) = ((o - 1 : Nat) : Int) := wC (by omega) (by omega)
      (repeat' (first | refine Exists.intro _ (And.intro w7 ?_) | refine Exists.intro _ (And.intro w8 ?_) | refine And.intro (show T.size + 1 ≤ 9223372036854775807 by omega) ?_ | refine And.intro (neI rfl) ?_ | refine And.intro ⟨rfl, leR rfl, onesR rfl⟩ ?_ | refine And.intro ⟨rfl, leR rfl⟩ ?_ | refine draw_rule2 hfol (fun KK hKK => ?_) | refine hKK _ _ _ (by kernel_rfl) ?_ | refine region_rule (fun KK hKK => ?_) | refine hKK _ _ ?_ | refine And.intro (Eq.refl true) ?_ | refine Exists.intro _ (And.intro (wI (by omega)) ?_) | refine Exists.intro _ (And.intro (wU (by omega)) ?_) | refine Exists.intro _ (And.intro ⟨rfl, by omega⟩ ?_) | refine Exists.intro _ (And.intro rfl ?_) | refine And.intro rfl ?_ | refine And.intro ⟨rfl, rfl⟩ ?_ | ((refine And.intro (fun _ => ?_) (fun _ => ?_)) <;> try (exfalso; omega))))
      exact Exists.intro (d, T ++ bC, o - 1, r, k) (Exists.intro [0] (And.intro ⟨⟨by dsimp only; omega, by dsimp only; omega, by dsimp only; omega, hk2, hat⟩, (by show d < d + 1; omega)⟩ ⟨⟨rfl, rfl, rfl, rfl, rfl, rfl, trivial⟩, ⟨rfl, trivial⟩, rfl⟩))
/-! back from numbers and texts -/
theorem brB_sz {q : Nat → Nat} {k : Nat} : (brB q k).size = k := by
  show (brL q k).toArray.size = k
  simp [brL]
theorem rd_back {n : Nat} {m : List Nat} (hd : IsD n m) (hv : isDi n m = true) : pdR (brB (qq n m) (2 * n)) = ((n : Int), m, 0) := by
  have h := hv
  unfold isDi at h
  simp only [Bool.and_eq_true, decide_eq_true_eq] at h
  obtain ⟨_, _, h3, h4, h5⟩ := h
  rw [Int.toNat_natCast] at h3 h4 h5
  have hn1 := hd.n1; have hn := hd.n8
  have e : rdG (brB (qq n m) (2 * n)) = rdR n (brB (qq n m) (2 * n)) := by
    unfold rdG
    rw [brB_sz, if_pos (by omega), show 2 * n / 2 = n by omega]
  unfold pdR
  rw [e, if_pos h3, h4, h5]
theorem do_back {n : Nat} {m : List Nat} (hd : IsD n m) (hv : isDi n m = true) : doR n ((rkF (qq n m) (2 * n) 0 0 : Nat) : Int) = ((n : Int), m, 0) := by
  have hn1 := hd.n1; have hn := hd.n8
  have hat := br_at (N := 2 * n) (q := qq n m) hd.pl.1 (2 * n) 0 (by omega)
  rw [show opc (qq n m) 0 = 0 from rfl, show brB (qq n m) 0 = ⟨#[]⟩ from rfl] at hat
  have hlt := (List.getElem?_eq_some_iff.1 hat).1
  unfold doR
  rw [Int.toNat_natCast, Int.toNat_natCast, if_pos ⟨by omega, by omega, by unfold allT; omega⟩]
  have hg : (allT n).getD (rkF (qq n m) (2 * n) 0 0) ⟨#[]⟩ = brB (qq n m) (2 * n) := by
    unfold allT
    rw [List.getD_eq_getElem?_getD, hat]; rfl
  rw [hg]
  exact rd_back hd hv
end Go.Proofs.Ytgpgcdofhkpeaaa.VE
namespace Go.Proofs.Ytgpgcdofhkpeaaa.VE
open Go
set_option maxHeartbeats 12000000
set_option maxRecDepth 100000

/-! the law FnLists -/
attribute [local irreducible] IntKind.wrap
theorem s_lawLists {W : World → (Nat → Prop) → Prop} {v : Value} {g : Nat → Int} {N : Nat} (hA : ArgK .u8 W v g N) (hg : ∀ j, j < N → 0 ≤ g j ∧ g j < 256) : SpecW Try.prog W n_l_FnLists [.raw v] [] (vb true) [] := by
  obtain ⟨a, cap, hv⟩ := hA.form
  have hfol : Try.prog.follows .mixedOrders = true := rfl
  have cB := s_big (W := W) hv
  by_cases hbig : 4096 < N
  · rw [decide_eq_true hbig] at cB
    refine SpecW.of_EV hf_l_FnLists hc_l_FnLists rfl rfl rfl fun w0 B ρ0 hW => ?_
    have hp := ArgK.pass (Γ := ⟨w0, B, ([] : List O).length, ρ0⟩) hA hW
    (repeat' (first | refine cB.readW hp [] rfl trivial ?_ | refine And.intro (neI rfl) ?_ | refine And.intro ⟨rfl, leR rfl, onesR rfl⟩ ?_ | refine And.intro ⟨rfl, leR rfl⟩ ?_ | refine draw_rule2 hfol (fun KK hKK => ?_) | refine hKK _ _ _ (by kernel_rfl) ?_ | refine region_rule (fun KK hKK => ?_) | refine hKK _ _ ?_ | refine And.intro (Eq.refl true) ?_ | refine Exists.intro _ (And.intro (wI (by omega)) ?_) | refine Exists.intro _ (And.intro (wU (by omega)) ?_) | refine Exists.intro _ (And.intro ⟨rfl, by omega⟩ ?_) | refine Exists.intro _ (And.intro rfl ?_) | refine And.intro rfl ?_ | refine And.intro ⟨rfl, rfl⟩ ?_ | ((refine And.intro (fun _ => ?_) (fun _ => ?_)) <;> try (exfalso; omega))))
    exact finP rfl
  rw [decide_eq_false hbig] at cB
  have hN : N ≤ 1048576 := by omega
  obtain ⟨s, m, hl, hb, cD⟩ := s_DrawNumberOfDiagram hA hN hg
  obtain ⟨sz, cA⟩ := s_DrawAllDiagrams hA hN hg
  obtain ⟨dn, dk, cN⟩ := s_DrawDiagramOfNumber hA hN hg
  obtain ⟨s2, m2, l2, b2, cT⟩ := s_DrawDiagramText hA hN hg
  obtain ⟨T, hT, cP⟩ := s_DrawParseDiagram hA hN hg
  refine SpecW.of_EV hf_l_FnLists hc_l_FnLists rfl rfl rfl fun w0 B ρ0 hW => ?_
  have hp := ArgK.pass (Γ := ⟨w0, B, ([] : List O).length, ρ0⟩) hA hW
  apply cutI
  case h =>
    intro body14
    have c1 := s_iNum s m hl hb
    have c2 := s_sNum s m hl hb
    by_cases hv1 : isDi s m = true
    · obtain ⟨n, rfl, hd⟩ := isDi_elim hl hv1
      have c3 := s_iDoN n ((rkF (qq n m) (2 * n) 0 0 : Nat) : Int)
      rw [do_back hd hv1] at c3
      replace c3 : Spec Try.prog n_i_DiagramOfNumber [vi n, vi (rkF (qq n m) (2 * n) 0 0 : Nat)] [] (.tup [pv n m, vi 0]) [] := c3
      have c4 := s_iDText n m hl hb
      have hr4 : dtR n m = (brB (qq n m) (2 * n), 0) := by unfold dtR; rw [if_pos hv1]; rfl
      rw [hr4] at c4
      replace c4 : Spec Try.prog n_i_DiagramText [pv n m] [] (.tup [.raw (.string (brB (qq n m) (2 * n))), vi 0]) [] := c4
      have hn8 := hd.n8
      have hsz : (brB (qq n m) (2 * n)).size = 2 * n := brB_size
      have c5 := s_iParse (brB (qq n m) (2 * n)) (by omega)
      rw [rd_back hd hv1] at c5
      replace c5 : Spec Try.prog n_i_ParseDiagram [.raw (.string (brB (qq n m) (2 * n)))] [] (.tup [pv n m, vi 0]) [] := c5
      have hrn : nuR n m = (((rkF (qq n m) (2 * n) 0 0 : Nat) : Int), 0) := by unfold nuR; rw [if_pos hv1]; rfl
      rw [hrn] at c1 c2
      replace c1 : Spec Try.prog n_i_NumberOfDiagram [pv n m] [] (.tup [vi (rkF (qq n m) (2 * n) 0 0 : Nat), vi 0]) [] := c1
      replace c2 : Spec Try.prog n_s_NumberOfDiagram [pv n m] [] (.tup [vi (rkF (qq n m) (2 * n) 0 0 : Nat), vi 0]) [] := c2
      clear hr4 hrn hsz
      generalize brB (qq n m) (2 * n) = t at c4 c5
      generalize rkF (qq n m) (2 * n) 0 0 = r at c1 c2 c3
      have hE := eqSelf n m hl
      (repeat' (first | refine reg_enter (id := 14) (π := []) (S := [(0, .raw v)]) (H := []) ⟨⟨rfl, trivial⟩, trivial, rfl⟩ (body14 ()) | refine cB.readW hp [] rfl trivial ?_ | refine cD.makeW hp [] rfl trivial ?_ | refine Exists.intro (pcl (n : Int) m) (And.intro ⟨pcl_len hl, pcl_all hl⟩ ?_) | refine And.intro ⟨pcl_len hl, leR rfl, pcl_ones⟩ ?_ | refine Exists.intro (pcl (n : Int) m) (And.intro ⟨leR rfl, spl0 (leR rfl)⟩ ?_) | refine (c1).pure rfl ?_ | refine (c2).pure rfl ?_ | refine (c3).pure rfl ?_ | refine (c4).pure rfl ?_ | refine (c5).pure rfl ?_ | refine Exists.intro _ (And.intro ⟨eg_i_Diagram, hE⟩ ?_) | refine And.intro (fun h => absurd rfl h) (fun _ => ?_) | refine And.intro (neI rfl) ?_ | refine And.intro ⟨rfl, leR rfl, onesR rfl⟩ ?_ | refine And.intro ⟨rfl, leR rfl⟩ ?_ | refine draw_rule2 hfol (fun KK hKK => ?_) | refine hKK _ _ _ (by kernel_rfl) ?_ | refine region_rule (fun KK hKK => ?_) | refine hKK _ _ ?_ | refine And.intro (Eq.refl true) ?_ | refine Exists.intro _ (And.intro (wI (by omega)) ?_) | refine Exists.intro _ (And.intro (wU (by omega)) ?_) | refine Exists.intro _ (And.intro ⟨rfl, by omega⟩ ?_) | refine Exists.intro _ (And.intro rfl ?_) | refine And.intro rfl ?_ | refine And.intro ⟨rfl, rfl⟩ ?_ | ((refine And.intro (fun _ => ?_) (fun _ => ?_)) <;> try (exfalso; omega))))
    · have hcode : (nuR s m).2 ≠ 0 := by unfold nuR; rw [if_neg hv1]; show (1 : Int) ≠ 0; omega
      generalize nuR s m = p at c1 c2 hcode
      (repeat' (first | refine reg_enter (id := 14) (π := []) (S := [(0, .raw v)]) (H := []) ⟨⟨rfl, trivial⟩, trivial, rfl⟩ (body14 ()) | refine cB.readW hp [] rfl trivial ?_ | refine cD.makeW hp [] rfl trivial ?_ | refine Exists.intro (pcl s m) (And.intro ⟨pcl_len hl, pcl_all hl⟩ ?_) | refine And.intro ⟨pcl_len hl, leR rfl, pcl_ones⟩ ?_ | refine Exists.intro (pcl s m) (And.intro ⟨leR rfl, spl0 (leR rfl)⟩ ?_) | refine (c1).pure rfl ?_ | refine (c2).pure rfl ?_ | refine And.intro (fun h => absurd rfl h) (fun _ => ?_) | refine And.intro (neI rfl) ?_ | refine And.intro ⟨rfl, leR rfl, onesR rfl⟩ ?_ | refine And.intro ⟨rfl, leR rfl⟩ ?_ | refine draw_rule2 hfol (fun KK hKK => ?_) | refine hKK _ _ _ (by kernel_rfl) ?_ | refine region_rule (fun KK hKK => ?_) | refine hKK _ _ ?_ | refine And.intro (Eq.refl true) ?_ | refine Exists.intro _ (And.intro (wI (by omega)) ?_) | refine Exists.intro _ (And.intro (wU (by omega)) ?_) | refine Exists.intro _ (And.intro ⟨rfl, by omega⟩ ?_) | refine Exists.intro _ (And.intro rfl ?_) | refine And.intro rfl ?_ | refine And.intro ⟨rfl, rfl⟩ ?_ | ((refine And.intro (fun _ => ?_) (fun _ => ?_)) <;> try (exfalso; omega))))
  case b =>
    intro g14
    clear cD
    apply cutI
    case h =>
      intro body19
      by_cases hs : 1 ≤ sz ∧ sz ≤ 6
      · obtain ⟨n, rfl⟩ : ∃ n : Nat, sz = n := ⟨sz.toNat, by omega⟩
        have c1 := s_iAll n (by omega) (by omega)
        have c2 := s_sAll n (by omega) (by omega)
        have c3 := s_diag5 ((allT n).map rdP) (fun p hp => by
          obtain ⟨t, _, rfl⟩ := List.mem_map.1 hp
          exact rdG_len t) (by rw [List.length_map]; have := allT_len (n := n) (by omega); omega)
        rw [List.length_map] at c3
        (repeat' (first | refine reg_enter (id := 19) (π := []) (S := [(0, .raw v)]) (H := []) ⟨⟨rfl, trivial⟩, trivial, rfl⟩ (body19 ()) | refine cA.makeW hp [] rfl trivial ?_ | refine (c1).make [] rfl trivial ?_ | refine (c2).make [] rfl trivial ?_ | refine (c3).read [0,1] rfl ⟨rfl, rfl, trivial⟩ ?_ | refine And.intro (fun h => absurd rfl h) (fun _ => ?_) | refine And.intro (neI rfl) ?_ | refine And.intro ⟨rfl, leR rfl, onesR rfl⟩ ?_ | refine And.intro ⟨rfl, leR rfl⟩ ?_ | refine draw_rule2 hfol (fun KK hKK => ?_) | refine hKK _ _ _ (by kernel_rfl) ?_ | refine region_rule (fun KK hKK => ?_) | refine hKK _ _ ?_ | refine And.intro (Eq.refl true) ?_ | refine Exists.intro _ (And.intro (wI (by omega)) ?_) | refine Exists.intro _ (And.intro (wU (by omega)) ?_) | refine Exists.intro _ (And.intro ⟨rfl, by omega⟩ ?_) | refine Exists.intro _ (And.intro rfl ?_) | refine And.intro rfl ?_ | refine And.intro ⟨rfl, rfl⟩ ?_ | ((refine And.intro (fun _ => ?_) (fun _ => ?_)) <;> try (exfalso; omega))))
      · have c1 := s_iAllE sz hs
        have c2 := s_sAllE sz hs
        (repeat' (first | refine reg_enter (id := 19) (π := []) (S := [(0, .raw v)]) (H := []) ⟨⟨rfl, trivial⟩, trivial, rfl⟩ (body19 ()) | refine cA.makeW hp [] rfl trivial ?_ | refine (c1).pure rfl ?_ | refine (c2).pure rfl ?_ | refine (s_diag50).pure rfl ?_ | refine And.intro (fun h => absurd rfl h) (fun _ => ?_) | refine And.intro (neI rfl) ?_ | refine And.intro ⟨rfl, leR rfl, onesR rfl⟩ ?_ | refine And.intro ⟨rfl, leR rfl⟩ ?_ | refine draw_rule2 hfol (fun KK hKK => ?_) | refine hKK _ _ _ (by kernel_rfl) ?_ | refine region_rule (fun KK hKK => ?_) | refine hKK _ _ ?_ | refine And.intro (Eq.refl true) ?_ | refine Exists.intro _ (And.intro (wI (by omega)) ?_) | refine Exists.intro _ (And.intro (wU (by omega)) ?_) | refine Exists.intro _ (And.intro ⟨rfl, by omega⟩ ?_) | refine Exists.intro _ (And.intro rfl ?_) | refine And.intro rfl ?_ | refine And.intro ⟨rfl, rfl⟩ ?_ | ((refine And.intro (fun _ => ?_) (fun _ => ?_)) <;> try (exfalso; omega))))
    case b =>
      intro g19
      clear cA
      have c1 := s_iDoN dn dk
      have c2 := s_sDoN dn dk
      have t1 := doR_len dn dk
      generalize doR dn dk = p at c1 c2 t1
      have c3 := s_iDText s2 m2 l2 b2
      have c4 := s_sDText s2 m2 l2 b2
      generalize dtR s2 m2 = q at c3 c4
      replace c3 : Spec Try.prog n_i_DiagramText [pv s2 m2] [] (.tup [.raw (.string q.1), vi q.2]) [] := c3
      replace c4 : Spec Try.prog n_s_DiagramText [pv s2 m2] [] (.tup [.raw (.string q.1), vi q.2]) [] := c4
      have c5 := s_iParse T (by omega)
      have c6 := s_sParse T (by omega)
      have t2 := pdR_len T
      generalize pdR T = r at c5 c6 t2
      have hE1 := eqSelf p.1 p.2.1 t1
      have hE2 := eqSelf r.1 r.2.1 t2
      (repeat' (first | refine cN.makeW hp [] rfl trivial ?_ | refine cT.makeW hp [] rfl trivial ?_ | refine cP.makeW hp [] rfl trivial ?_ | refine Exists.intro (pcl s2 m2) (And.intro ⟨pcl_len l2, pcl_all l2⟩ ?_) | refine And.intro ⟨pcl_len l2, leR rfl, pcl_ones⟩ ?_ | refine Exists.intro (pcl s2 m2) (And.intro ⟨leR rfl, spl0 (leR rfl)⟩ ?_) | refine (c1).pure rfl ?_ | refine (c2).pure rfl ?_ | refine (c3).pure rfl ?_ | refine (c4).pure rfl ?_ | refine (c5).pure rfl ?_ | refine (c6).pure rfl ?_ | refine Exists.intro (pcl p.1 p.2.1) (And.intro ⟨pcl_len t1, pcl_all t1⟩ ?_) | refine And.intro ⟨pcl_len t1, leR rfl, pcl_ones⟩ ?_ | refine Exists.intro (pcl p.1 p.2.1) (And.intro ⟨leR rfl, spl0 (leR rfl)⟩ ?_) | refine Exists.intro (pcl r.1 r.2.1) (And.intro ⟨pcl_len t2, pcl_all t2⟩ ?_) | refine And.intro ⟨pcl_len t2, leR rfl, pcl_ones⟩ ?_ | refine Exists.intro (pcl r.1 r.2.1) (And.intro ⟨leR rfl, spl0 (leR rfl)⟩ ?_) | refine Exists.intro _ (And.intro ⟨eg_i_Diagram, hE1⟩ ?_) | refine Exists.intro _ (And.intro ⟨eg_i_Diagram, hE2⟩ ?_) | refine And.intro (fun _ => ?_) (fun h => absurd rfl h) | refine And.intro (fun h => absurd rfl h) (fun _ => ?_) | refine And.intro (neI rfl) ?_ | refine And.intro ⟨rfl, leR rfl, onesR rfl⟩ ?_ | refine And.intro ⟨rfl, leR rfl⟩ ?_ | refine draw_rule2 hfol (fun KK hKK => ?_) | refine hKK _ _ _ (by kernel_rfl) ?_ | refine region_rule (fun KK hKK => ?_) | refine hKK _ _ ?_ | refine And.intro (Eq.refl true) ?_ | refine Exists.intro _ (And.intro (wI (by omega)) ?_) | refine Exists.intro _ (And.intro (wU (by omega)) ?_) | refine Exists.intro _ (And.intro ⟨rfl, by omega⟩ ?_) | refine Exists.intro _ (And.intro rfl ?_) | refine And.intro rfl ?_ | refine And.intro ⟨rfl, rfl⟩ ?_ | ((refine And.intro (fun _ => ?_) (fun _ => ?_)) <;> try (exfalso; omega))))
      all_goals exact finP rfl
end Go.Proofs.Ytgpgcdofhkpeaaa.VE
