/- Contracts of functions of the given program, for all arguments that the contract names; see each theorem. -/
import Derived.Test.YtcibbadioijmcaaC4
import Derived.Test.YtcibbadioijmcaaVE5
import Derived.Test.YtcibbadioijmcaaW1
set_option linter.all false
namespace Go.Proofs.Ytcibbadioijmcaa.VE
open Go
set_option maxHeartbeats 1600000
set_option maxRecDepth 100000

/-! texts of blobbed diagrams -/
def bBy (n : Nat) (m : List Nat) (bs : List Bool) (k : Nat) : UInt8 := if k < qq n m k then (if bs.getD (plc n k) false = true then 91 else 40) else (if bs.getD (plc n k) false = true then 93 else 41)
def btL (n : Nat) (m : List Nat) (bs : List Bool) (k : Nat) : List UInt8 := (List.range k).map (bBy n m bs)
def btB (n : Nat) (m : List Nat) (bs : List Bool) (k : Nat) : ByteArray := ⟨(btL n m bs k).toArray⟩
def btC (n : Nat) (m : List Nat) (bs : List Bool) (k : Nat) : List Value := (btL n m bs k).map fun b => .int .u8 b.toNat
theorem btC_succ {n : Nat} {m : List Nat} {bs : List Bool} {k : Nat} {b : UInt8} {x : Int} (h : bBy n m bs k = b) (hx : (b.toNat : Int) = x) : btC n m bs k ++ [.int .u8 x] = btC n m bs (k + 1) := by simp [btC, btL, List.range_succ, h, hx]
def mbY (n : Nat) (m : List Nat) (bs : List Bool) (k j : Nat) : UInt8 := if j < k then bBy n m bs j else (if j < qq n m j then 40 else 41)
def mbC (n : Nat) (m : List Nat) (bs : List Bool) (k : Nat) : List Value := (List.range (2 * n)).map fun j => .int .u8 (mbY n m bs k j).toNat
theorem mbY_ne {n : Nat} {m : List Nat} {bs : List Bool} {k j : Nat} (h : j ≠ k) : mbY n m bs k j = mbY n m bs (k + 1) j := by
  unfold mbY
  by_cases h2 : j < k
  · rw [if_pos h2, if_pos (show j < k + 1 by omega)]
  · rw [if_neg h2, if_neg (show ¬ j < k + 1 by omega)]
theorem mbY_eq {n : Nat} {m : List Nat} {bs : List Bool} {k : Nat} : mbY n m bs (k + 1) k = bBy n m bs k := by
  unfold mbY; rw [if_pos (show k < k + 1 by omega)]
theorem mbC_0 {n : Nat} {m : List Nat} {bs : List Bool} : mbC n m bs 0 = brC (qq n m) (2 * n) := by simp [mbC, brC, brL, mbY]
theorem mbC_n {n : Nat} {m : List Nat} {bs : List Bool} : mbC n m bs (2 * n) = btC n m bs (2 * n) := by
  simp only [mbC, btC, btL, List.map_map]
  refine List.map_congr_left fun j hj => ?_
  rw [List.mem_range] at hj
  simp [mbY, hj]
theorem mbC_at {n : Nat} {m : List Nat} {bs : List Bool} {k j : Nat} (hj : j < 2 * n) : (mbC n m bs k)[j]? = some (.int .u8 ((mbY n m bs k j).toNat : Int)) := by simp [mbC, hj]
theorem mbC_len {n : Nat} {m : List Nat} {bs : List Bool} {k : Nat} : (mbC n m bs k).length = 2 * n := by simp [mbC]
theorem mbC_set {n : Nat} {m : List Nat} {bs : List Bool} {k : Nat} {x : Int} (hx : ((bBy n m bs k).toNat : Int) = x) : (mbC n m bs k).set k (.int .u8 x) = mbC n m bs (k + 1) := by
  refine List.ext_getElem (by simp [mbC]) fun i h1 h2 => ?_
  rw [List.getElem_set]
  split
  · rename_i e; subst e
    simp [mbC, mbY_eq, ← hx]
  · rename_i e
    simp only [mbC, List.getElem_map, List.getElem_range]
    rw [mbY_ne (show i ≠ k from fun h => e h.symm)]
theorem mbC_same {n : Nat} {m : List Nat} {bs : List Bool} {k : Nat} (h : bs.getD (plc n k) false = false) : mbC n m bs k = mbC n m bs (k + 1) := by
  refine List.map_congr_left fun j _ => ?_
  by_cases hjk : j = k
  · subst hjk
    rw [mbY_eq]
    unfold mbY bBy
    rw [if_neg (show ¬ j < j by omega), if_neg (show ¬ bs.getD (plc n j) false = true by rw [h]; decide), if_neg (show ¬ bs.getD (plc n j) false = true by rw [h]; decide)]
  · rw [mbY_ne hjk]
theorem s_btext (n : Nat) (m : List Nat) (bs : List Bool) (hd : IsD n m) (hbs : bs.length = 16) : Spec Try.prog n_i_Blobbed_text [.ptr 0 0] [.pc (bcB n m bs) T_i_Blobbed] (.raw (.string (btB n m bs (2 * n)))) [.pc (bcB n m bs) T_i_Blobbed] := by
  have hfol := hfolW
  have hm := hd.len
  have hn8 := hd.n8
  have ht := s_textG n m (bbl bs) T_i_Blobbed hd
  have hnn := s_nG n m (bbl bs) T_i_Blobbed
  refine SpecW.of_EV hf_i_Blobbed_text hc_i_Blobbed_text rfl rfl rfl fun w0 B ρ0 _ => ?_
  (repeat' (first | refine (ht).read [0] rfl ⟨rfl, trivial⟩ ?_ | refine conv_bytes (e := T_uint8) (2 * n) (brC (qq n m) (2 * n)) rfl rfl rfl rfl rfl brB_size rfl ?_ | refine And.intro (neI rfl) ?_ | refine And.intro ⟨rfl, leR rfl, onesR rfl⟩ ?_ | refine And.intro ⟨rfl, leR rfl⟩ ?_ | refine draw_rule2 hfol (fun KK hKK => ?_) | refine hKK _ _ _ (by kernel_rfl) ?_ | refine region_rule (fun KK hKK => ?_) | refine hKK _ _ ?_ | refine And.intro (Eq.refl true) ?_ | refine Exists.intro _ (And.intro (wI (by omega)) ?_) | refine Exists.intro _ (And.intro (wU (by omega)) ?_) | refine Exists.intro _ (And.intro ⟨rfl, by omega⟩ ?_) | refine Exists.intro _ (And.intro rfl ?_) | refine And.intro rfl ?_ | refine And.intro ⟨rfl, rfl⟩ ?_ | ((refine And.intro (fun _ => ?_) (fun _ => ?_)) <;> try (exfalso; omega))))
  refine loop_rule (α := Nat) (fun k => k ≤ 2 * n) (fun k => [(0, .ptr 0 0), (3, .sl 1), (11, vi (2 * n : Nat)), (12, vi k)])
    (fun k => [.pc (bcB n m bs) T_i_Blobbed, .mr T_uint8 (2 * n) (mbC n m bs k)]) (fun k => 2 * n - k) 0 [0, 1]
    (by omega) ⟨⟨rfl, rfl, rfl, rfl, trivial⟩, ⟨rfl, congrArg some (congrArg (O.mr T_uint8 (2 * n)) mbC_0.symm), trivial⟩, rfl⟩ ?_
  rintro k g hk
  by_cases h9 : k = 2 * n
  · subst h9
    (repeat' (first | refine Exists.intro (btL n m bs (2 * n)) (And.intro mbC_n ?_) | refine And.intro (neI rfl) ?_ | refine And.intro ⟨rfl, leR rfl, onesR rfl⟩ ?_ | refine And.intro ⟨rfl, leR rfl⟩ ?_ | refine draw_rule2 hfol (fun KK hKK => ?_) | refine hKK _ _ _ (by kernel_rfl) ?_ | refine region_rule (fun KK hKK => ?_) | refine hKK _ _ ?_ | refine And.intro (Eq.refl true) ?_ | refine Exists.intro _ (And.intro (wI (by omega)) ?_) | refine Exists.intro _ (And.intro (wU (by omega)) ?_) | refine Exists.intro _ (And.intro ⟨rfl, by omega⟩ ?_) | refine Exists.intro _ (And.intro rfl ?_) | refine And.intro rfl ?_ | refine And.intro ⟨rfl, rfl⟩ ?_ | ((refine And.intro (fun _ => ?_) (fun _ => ?_)) <;> try (exfalso; omega))))
    exact Exists.intro [0] (And.intro (rfl) (And.intro ⟨rfl, trivial⟩ rfl))
  have hkl : k < 2 * n := by omega
  have hp1 := plc_lt hkl
  have hpl := s_iplace n k (by omega) hkl
  have hat := mbC_at (n := n) (m := m) (bs := bs) (k := k) hkl
  cases hb : bs.getD (plc n k) false with
  | false =>
    have hbc := bcB_bat (s := n) (m := m) (bs := bs) hm hbs (by omega) hb
    (repeat' (first | refine (hnn).read [0] rfl ⟨rfl, trivial⟩ ?_ | refine (hpl).pure rfl ?_ | refine Exists.intro _ (And.intro hbc ?_) | refine And.intro (neI rfl) ?_ | refine And.intro ⟨rfl, leR rfl, onesR rfl⟩ ?_ | refine And.intro ⟨rfl, leR rfl⟩ ?_ | refine draw_rule2 hfol (fun KK hKK => ?_) | refine hKK _ _ _ (by kernel_rfl) ?_ | refine region_rule (fun KK hKK => ?_) | refine hKK _ _ ?_ | refine And.intro (Eq.refl true) ?_ | refine Exists.intro _ (And.intro (wI (by omega)) ?_) | refine Exists.intro _ (And.intro (wU (by omega)) ?_) | refine Exists.intro _ (And.intro ⟨rfl, by omega⟩ ?_) | refine Exists.intro _ (And.intro rfl ?_) | refine And.intro rfl ?_ | refine And.intro ⟨rfl, rfl⟩ ?_ | ((refine And.intro (fun _ => ?_) (fun _ => ?_)) <;> try (exfalso; omega))))
    refine Exists.intro (k + 1) (Exists.intro [0, 1] (And.intro ⟨by omega, (by show 2 * n - (k + 1) < 2 * n - k; omega)⟩ ⟨⟨rfl, rfl, rfl, rfl, trivial⟩, ⟨rfl, congrArg some (congrArg (O.mr T_uint8 (2 * n)) (mbC_same hb)), trivial⟩, rfl⟩))
  | true =>
    have hbc := bcB_bat (s := n) (m := m) (bs := bs) hm hbs (by omega) hb
    by_cases hop : k < qq n m k
    · have hx : mbY n m bs k k = 40 := by unfold mbY; rw [if_neg (show ¬ k < k by omega), if_pos hop]
      have hy : bBy n m bs k = 91 := by unfold bBy; rw [if_pos hop, if_pos hb]
      rw [hx] at hat
      have hset := mbC_set (n := n) (m := m) (bs := bs) (k := k) (x := 91) (by rw [hy]; rfl)
      (repeat' (first | refine (hnn).read [0] rfl ⟨rfl, trivial⟩ ?_ | refine (hpl).pure rfl ?_ | refine Exists.intro _ (And.intro hbc ?_) | refine Exists.intro _ (And.intro hat ?_) | refine Exists.intro (mbC n m bs (k + 1)) (And.intro ⟨by rw [mbC_len]; omega, hset⟩ ?_) | refine And.intro (fun _ => ?_) (fun h => absurd rfl h) | refine And.intro (neI rfl) ?_ | refine And.intro ⟨rfl, leR rfl, onesR rfl⟩ ?_ | refine And.intro ⟨rfl, leR rfl⟩ ?_ | refine draw_rule2 hfol (fun KK hKK => ?_) | refine hKK _ _ _ (by kernel_rfl) ?_ | refine region_rule (fun KK hKK => ?_) | refine hKK _ _ ?_ | refine And.intro (Eq.refl true) ?_ | refine Exists.intro _ (And.intro (wI (by omega)) ?_) | refine Exists.intro _ (And.intro (wU (by omega)) ?_) | refine Exists.intro _ (And.intro ⟨rfl, by omega⟩ ?_) | refine Exists.intro _ (And.intro rfl ?_) | refine And.intro rfl ?_ | refine And.intro ⟨rfl, rfl⟩ ?_ | ((refine And.intro (fun _ => ?_) (fun _ => ?_)) <;> try (exfalso; omega))))
      refine Exists.intro (k + 1) (Exists.intro [0, 1] (And.intro ⟨by omega, (by show 2 * n - (k + 1) < 2 * n - k; omega)⟩ ⟨⟨rfl, rfl, rfl, rfl, trivial⟩, ⟨rfl, rfl, trivial⟩, rfl⟩))
    · have hx : mbY n m bs k k = 41 := by unfold mbY; rw [if_neg (show ¬ k < k by omega), if_neg hop]
      have hy : bBy n m bs k = 93 := by unfold bBy; rw [if_neg hop, if_pos hb]
      rw [hx] at hat
      have hset := mbC_set (n := n) (m := m) (bs := bs) (k := k) (x := 93) (by rw [hy]; rfl)
      (repeat' (first | refine (hnn).read [0] rfl ⟨rfl, trivial⟩ ?_ | refine (hpl).pure rfl ?_ | refine Exists.intro _ (And.intro hbc ?_) | refine Exists.intro _ (And.intro hat ?_) | refine Exists.intro (mbC n m bs (k + 1)) (And.intro ⟨by rw [mbC_len]; omega, hset⟩ ?_) | refine And.intro (fun h => absurd h (by decide)) (fun _ => ?_) | refine And.intro (neI rfl) ?_ | refine And.intro ⟨rfl, leR rfl, onesR rfl⟩ ?_ | refine And.intro ⟨rfl, leR rfl⟩ ?_ | refine draw_rule2 hfol (fun KK hKK => ?_) | refine hKK _ _ _ (by kernel_rfl) ?_ | refine region_rule (fun KK hKK => ?_) | refine hKK _ _ ?_ | refine And.intro (Eq.refl true) ?_ | refine Exists.intro _ (And.intro (wI (by omega)) ?_) | refine Exists.intro _ (And.intro (wU (by omega)) ?_) | refine Exists.intro _ (And.intro ⟨rfl, by omega⟩ ?_) | refine Exists.intro _ (And.intro rfl ?_) | refine And.intro rfl ?_ | refine And.intro ⟨rfl, rfl⟩ ?_ | ((refine And.intro (fun _ => ?_) (fun _ => ?_)) <;> try (exfalso; omega))))
      refine Exists.intro (k + 1) (Exists.intro [0, 1] (And.intro ⟨by omega, (by show 2 * n - (k + 1) < 2 * n - k; omega)⟩ ⟨⟨rfl, rfl, rfl, rfl, trivial⟩, ⟨rfl, rfl, trivial⟩, rfl⟩))
theorem brB_at {q : Nat → Nat} {N k : Nat} (h : k < N) : (brB q N)[k]? = some (if k < q k then 40 else 41) := by
  have hs : k < (brB q N).size := by rw [brB_size]; exact h
  rw [getElem?_pos (brB q N) k hs]
  congr 1
  show (brB q N).data[k] = _
  simp [brB, brL]
theorem s_stextB (n : Nat) (m : List Nat) (bs : List Bool) (hd : IsD n m) (hbs : bs.length = 16) : Spec Try.prog n_s_l09Text [bV n m bs] [] (.raw (.string (btB n m bs (2 * n)))) [] := by
  have hm := hd.len
  have hn8 := hd.n8
  have ht := s_stext n m hd
  refine SpecW.of_EV hf_s_l09Text hc_s_l09Text rfl rfl rfl fun w0 B ρ0 _ => ?_
  (repeat' (first | refine Exists.intro (pcl n m) (And.intro ⟨pcl_len hm, bcB_dia hm hbs⟩ ?_) | refine (ht).pure rfl ?_ | refine And.intro (neI rfl) ?_ | refine And.intro ⟨rfl, leR rfl, onesR rfl⟩ ?_ | refine And.intro ⟨rfl, leR rfl⟩ ?_ | refine draw_rule2 hfol (fun KK hKK => ?_) | refine hKK _ _ _ (by kernel_rfl) ?_ | refine region_rule (fun KK hKK => ?_) | refine hKK _ _ ?_ | refine And.intro (Eq.refl true) ?_ | refine Exists.intro _ (And.intro (wI (by omega)) ?_) | refine Exists.intro _ (And.intro (wU (by omega)) ?_) | refine Exists.intro _ (And.intro ⟨rfl, by omega⟩ ?_) | refine Exists.intro _ (And.intro rfl ?_) | refine And.intro rfl ?_ | refine And.intro ⟨rfl, rfl⟩ ?_ | ((refine And.intro (fun _ => ?_) (fun _ => ?_)) <;> try (exfalso; omega))))
  refine loop_rule (α := Nat) (fun k => k ≤ 2 * n) (fun k => [(1, .ptr 0 0), (3, .raw (.string (brB (qq n m) (2 * n)))), (4, .sl 1), (5, vi k)])
    (fun k => [.pc (bcB n m bs) T_i_Blobbed, .pr T_uint8 1 k (btC n m bs k)]) (fun k => 2 * n - k) 0 [0, 1]
    (by omega) ⟨⟨rfl, rfl, rfl, rfl, trivial⟩, ⟨rfl, rfl, trivial⟩, rfl⟩ ?_
  rintro k g hk
  have hsz : (((brB (qq n m) (2 * n)).size : Nat) : Int) = 2 * (n : Int) := by rw [brB_size]; omega
  by_cases h9 : k = 2 * n
  · subst h9
    (repeat' (first | refine Exists.intro (btL n m bs (2 * n)) (And.intro rfl ?_) | refine And.intro (neI rfl) ?_ | refine And.intro ⟨rfl, leR rfl, onesR rfl⟩ ?_ | refine And.intro ⟨rfl, leR rfl⟩ ?_ | refine draw_rule2 hfol (fun KK hKK => ?_) | refine hKK _ _ _ (by kernel_rfl) ?_ | refine region_rule (fun KK hKK => ?_) | refine hKK _ _ ?_ | refine And.intro (Eq.refl true) ?_ | refine Exists.intro _ (And.intro (wI (by omega)) ?_) | refine Exists.intro _ (And.intro (wU (by omega)) ?_) | refine Exists.intro _ (And.intro ⟨rfl, by omega⟩ ?_) | refine Exists.intro _ (And.intro rfl ?_) | refine And.intro rfl ?_ | refine And.intro ⟨rfl, rfl⟩ ?_ | ((refine And.intro (fun _ => ?_) (fun _ => ?_)) <;> try (exfalso; omega))))
    exact Exists.intro [] (And.intro (rfl) (And.intro trivial rfl))
  have hkl : k < 2 * n := by omega
  have hp1 := plc_lt hkl
  have hpl := s_place n k (by omega) hkl
  have hget := brB_at (q := qq n m) hkl
  cases hb : bs.getD (plc n k) false with
  | false =>
    have hbc := bcB_bat (s := n) (m := m) (bs := bs) hm hbs (by omega) hb
    by_cases hop : k < qq n m k
    · rw [if_pos hop] at hget
      have hy : bBy n m bs k = 40 := by unfold bBy; rw [if_pos hop, if_neg (by rw [hb]; decide)]
      (repeat' (first | refine (hpl).pure rfl ?_ | refine Exists.intro _ (And.intro hbc ?_) | refine Exists.intro k (Exists.intro 40 (And.intro ⟨rfl, hget⟩ ?_)) | refine And.intro ⟨rfl, mkL rfl⟩ ?_ | refine Exists.intro [Value.int .u8 40] (And.intro (row1s (mkL' rfl)) ?_) | refine Exists.intro (btC n m bs (k + 1)) (And.intro ⟨rfl, onesR rfl, by omega, by omega, btC_succ hy rfl⟩ ?_) | refine And.intro (neI rfl) ?_ | refine And.intro ⟨rfl, leR rfl, onesR rfl⟩ ?_ | refine And.intro ⟨rfl, leR rfl⟩ ?_ | refine draw_rule2 hfol (fun KK hKK => ?_) | refine hKK _ _ _ (by kernel_rfl) ?_ | refine region_rule (fun KK hKK => ?_) | refine hKK _ _ ?_ | refine And.intro (Eq.refl true) ?_ | refine Exists.intro _ (And.intro (wI (by omega)) ?_) | refine Exists.intro _ (And.intro (wU (by omega)) ?_) | refine Exists.intro _ (And.intro ⟨rfl, by omega⟩ ?_) | refine Exists.intro _ (And.intro rfl ?_) | refine And.intro rfl ?_ | refine And.intro ⟨rfl, rfl⟩ ?_ | ((refine And.intro (fun _ => ?_) (fun _ => ?_)) <;> try (exfalso; omega))))
      refine Exists.intro (k + 1) (Exists.intro [0, 3] (And.intro ⟨by omega, (by show 2 * n - (k + 1) < 2 * n - k; omega)⟩ ⟨⟨rfl, rfl, rfl, rfl, trivial⟩, ⟨rfl, rfl, trivial⟩, rfl⟩))
    · rw [if_neg hop] at hget
      have hy : bBy n m bs k = 41 := by unfold bBy; rw [if_neg hop, if_neg (by rw [hb]; decide)]
      (repeat' (first | refine (hpl).pure rfl ?_ | refine Exists.intro _ (And.intro hbc ?_) | refine Exists.intro k (Exists.intro 41 (And.intro ⟨rfl, hget⟩ ?_)) | refine And.intro ⟨rfl, mkL rfl⟩ ?_ | refine Exists.intro [Value.int .u8 41] (And.intro (row1s (mkL' rfl)) ?_) | refine Exists.intro (btC n m bs (k + 1)) (And.intro ⟨rfl, onesR rfl, by omega, by omega, btC_succ hy rfl⟩ ?_) | refine And.intro (neI rfl) ?_ | refine And.intro ⟨rfl, leR rfl, onesR rfl⟩ ?_ | refine And.intro ⟨rfl, leR rfl⟩ ?_ | refine draw_rule2 hfol (fun KK hKK => ?_) | refine hKK _ _ _ (by kernel_rfl) ?_ | refine region_rule (fun KK hKK => ?_) | refine hKK _ _ ?_ | refine And.intro (Eq.refl true) ?_ | refine Exists.intro _ (And.intro (wI (by omega)) ?_) | refine Exists.intro _ (And.intro (wU (by omega)) ?_) | refine Exists.intro _ (And.intro ⟨rfl, by omega⟩ ?_) | refine Exists.intro _ (And.intro rfl ?_) | refine And.intro rfl ?_ | refine And.intro ⟨rfl, rfl⟩ ?_ | ((refine And.intro (fun _ => ?_) (fun _ => ?_)) <;> try (exfalso; omega))))
      refine Exists.intro (k + 1) (Exists.intro [0, 3] (And.intro ⟨by omega, (by show 2 * n - (k + 1) < 2 * n - k; omega)⟩ ⟨⟨rfl, rfl, rfl, rfl, trivial⟩, ⟨rfl, rfl, trivial⟩, rfl⟩))
  | true =>
    have hbc := bcB_bat (s := n) (m := m) (bs := bs) hm hbs (by omega) hb
    by_cases hop : k < qq n m k
    · rw [if_pos hop] at hget
      have hy : bBy n m bs k = 91 := by unfold bBy; rw [if_pos hop, if_pos hb]
      (repeat' (first | refine (hpl).pure rfl ?_ | refine Exists.intro _ (And.intro hbc ?_) | refine Exists.intro k (Exists.intro 40 (And.intro ⟨rfl, hget⟩ ?_)) | refine And.intro ⟨rfl, mkL rfl⟩ ?_ | refine Exists.intro [Value.int .u8 91] (And.intro (row1s (mkL' rfl)) ?_) | refine Exists.intro (btC n m bs (k + 1)) (And.intro ⟨rfl, onesR rfl, by omega, by omega, btC_succ hy rfl⟩ ?_) | refine And.intro (fun _ => ?_) (fun h => absurd rfl h) | refine And.intro (neI rfl) ?_ | refine And.intro ⟨rfl, leR rfl, onesR rfl⟩ ?_ | refine And.intro ⟨rfl, leR rfl⟩ ?_ | refine draw_rule2 hfol (fun KK hKK => ?_) | refine hKK _ _ _ (by kernel_rfl) ?_ | refine region_rule (fun KK hKK => ?_) | refine hKK _ _ ?_ | refine And.intro (Eq.refl true) ?_ | refine Exists.intro _ (And.intro (wI (by omega)) ?_) | refine Exists.intro _ (And.intro (wU (by omega)) ?_) | refine Exists.intro _ (And.intro ⟨rfl, by omega⟩ ?_) | refine Exists.intro _ (And.intro rfl ?_) | refine And.intro rfl ?_ | refine And.intro ⟨rfl, rfl⟩ ?_ | ((refine And.intro (fun _ => ?_) (fun _ => ?_)) <;> try (exfalso; omega))))
      refine Exists.intro (k + 1) (Exists.intro [0, 3] (And.intro ⟨by omega, (by show 2 * n - (k + 1) < 2 * n - k; omega)⟩ ⟨⟨rfl, rfl, rfl, rfl, trivial⟩, ⟨rfl, rfl, trivial⟩, rfl⟩))
    · rw [if_neg hop] at hget
      have hy : bBy n m bs k = 93 := by unfold bBy; rw [if_neg hop, if_pos hb]
      (repeat' (first | refine (hpl).pure rfl ?_ | refine Exists.intro _ (And.intro hbc ?_) | refine Exists.intro k (Exists.intro 41 (And.intro ⟨rfl, hget⟩ ?_)) | refine And.intro ⟨rfl, mkL rfl⟩ ?_ | refine Exists.intro [Value.int .u8 93] (And.intro (row1s (mkL' rfl)) ?_) | refine Exists.intro (btC n m bs (k + 1)) (And.intro ⟨rfl, onesR rfl, by omega, by omega, btC_succ hy rfl⟩ ?_) | refine And.intro (fun h => absurd h (by decide)) (fun _ => ?_) | refine And.intro (neI rfl) ?_ | refine And.intro ⟨rfl, leR rfl, onesR rfl⟩ ?_ | refine And.intro ⟨rfl, leR rfl⟩ ?_ | refine draw_rule2 hfol (fun KK hKK => ?_) | refine hKK _ _ _ (by kernel_rfl) ?_ | refine region_rule (fun KK hKK => ?_) | refine hKK _ _ ?_ | refine And.intro (Eq.refl true) ?_ | refine Exists.intro _ (And.intro (wI (by omega)) ?_) | refine Exists.intro _ (And.intro (wU (by omega)) ?_) | refine Exists.intro _ (And.intro ⟨rfl, by omega⟩ ?_) | refine Exists.intro _ (And.intro rfl ?_) | refine And.intro rfl ?_ | refine And.intro ⟨rfl, rfl⟩ ?_ | ((refine And.intro (fun _ => ?_) (fun _ => ?_)) <;> try (exfalso; omega))))
      refine Exists.intro (k + 1) (Exists.intro [0, 3] (And.intro ⟨by omega, (by show 2 * n - (k + 1) < 2 * n - k; omega)⟩ ⟨⟨rfl, rfl, rfl, rfl, trivial⟩, ⟨rfl, rfl, trivial⟩, rfl⟩))
def btR (s : Int) (m : List Nat) (bs : List Bool) : ByteArray × Int := if isBl s m bs then (btB s.toNat m bs (2 * s.toNat), 0) else (⟨#[]⟩, 1)
theorem s_sBText (s : Int) (m : List Nat) (bs : List Bool) (hm : m.length = 16) (hb : ∀ x ∈ m, x < 256) (hbs : bs.length = 16) : Spec Try.prog n_s_BlobbedText [bV s m bs] [] (stV (btR s m bs)) [] := by
  have hq := s_sIsBl s m bs hm hb hbs
  have hr : btR s m bs = if isBl s m bs then (btB s.toNat m bs (2 * s.toNat), 0) else (⟨#[]⟩, 1) := rfl
  refine SpecW.of_EV hf_s_BlobbedText hc_s_BlobbedText rfl rfl rfl fun w0 B ρ0 _ => ?_
  cases hv : isBl s m bs with
  | false =>
    rw [hv] at hq hr
    (repeat' (first | refine (hq).pure rfl ?_ | refine Exists.intro (bcB s m bs) (And.intro ⟨bcB_len hm hbs, bcB_all hm hbs⟩ ?_) | refine And.intro (neI rfl) ?_ | refine And.intro ⟨rfl, leR rfl, onesR rfl⟩ ?_ | refine And.intro ⟨rfl, leR rfl⟩ ?_ | refine draw_rule2 hfol (fun KK hKK => ?_) | refine hKK _ _ _ (by kernel_rfl) ?_ | refine region_rule (fun KK hKK => ?_) | refine hKK _ _ ?_ | refine And.intro (Eq.refl true) ?_ | refine Exists.intro _ (And.intro (wI (by omega)) ?_) | refine Exists.intro _ (And.intro (wU (by omega)) ?_) | refine Exists.intro _ (And.intro ⟨rfl, by omega⟩ ?_) | refine Exists.intro _ (And.intro rfl ?_) | refine And.intro rfl ?_ | refine And.intro ⟨rfl, rfl⟩ ?_ | ((refine And.intro (fun _ => ?_) (fun _ => ?_)) <;> try (exfalso; omega))))
    exact Exists.intro [] (And.intro (by rw [hr]; rfl) (And.intro trivial rfl))
  | true =>
    rw [hv] at hq hr
    have hv' := hv
    unfold isBl at hv'
    simp only [Bool.and_eq_true] at hv'
    obtain ⟨n, rfl, hd⟩ := isDi_elim hm hv'.1
    have ht := s_stextB n m bs hd hbs
    (repeat' (first | refine (hq).pure rfl ?_ | refine (ht).pure rfl ?_ | refine Exists.intro (bcB n m bs) (And.intro ⟨bcB_len hm hbs, bcB_all hm hbs⟩ ?_) | refine And.intro (neI rfl) ?_ | refine And.intro ⟨rfl, leR rfl, onesR rfl⟩ ?_ | refine And.intro ⟨rfl, leR rfl⟩ ?_ | refine draw_rule2 hfol (fun KK hKK => ?_) | refine hKK _ _ _ (by kernel_rfl) ?_ | refine region_rule (fun KK hKK => ?_) | refine hKK _ _ ?_ | refine And.intro (Eq.refl true) ?_ | refine Exists.intro _ (And.intro (wI (by omega)) ?_) | refine Exists.intro _ (And.intro (wU (by omega)) ?_) | refine Exists.intro _ (And.intro ⟨rfl, by omega⟩ ?_) | refine Exists.intro _ (And.intro rfl ?_) | refine And.intro rfl ?_ | refine And.intro ⟨rfl, rfl⟩ ?_ | ((refine And.intro (fun _ => ?_) (fun _ => ?_)) <;> try (exfalso; omega))))
    exact Exists.intro [] (And.intro (by rw [hr]; rfl) (And.intro trivial rfl))
theorem s_iBText (s : Int) (m : List Nat) (bs : List Bool) (hm : m.length = 16) (hb : ∀ x ∈ m, x < 256) (hbs : bs.length = 16) : Spec Try.prog n_i_BlobbedText [bV s m bs] [] (stV (btR s m bs)) [] := by
  have hq := s_badB1D s m bs hm hb hbs
  have hr : btR s m bs = if isBl s m bs then (btB s.toNat m bs (2 * s.toNat), 0) else (⟨#[]⟩, 1) := rfl
  refine SpecW.of_EV hf_i_BlobbedText hc_i_BlobbedText rfl rfl rfl fun w0 B ρ0 _ => ?_
  cases hv : isBl s m bs with
  | false =>
    rw [hv] at hq hr
    (repeat' (first | refine (hq).read [1] rfl ⟨rfl, trivial⟩ ?_ | refine Exists.intro (bcB s m bs) (And.intro ⟨bcB_len hm hbs, bcB_all hm hbs⟩ ?_) | refine And.intro ⟨bcB_len hm hbs, mkL rfl⟩ ?_ | refine Exists.intro (rowB [(s, m, bs)]) (And.intro (row1B (mkL' rfl)) ?_) | refine And.intro (neI rfl) ?_ | refine And.intro ⟨rfl, leR rfl, onesR rfl⟩ ?_ | refine And.intro ⟨rfl, leR rfl⟩ ?_ | refine draw_rule2 hfol (fun KK hKK => ?_) | refine hKK _ _ _ (by kernel_rfl) ?_ | refine region_rule (fun KK hKK => ?_) | refine hKK _ _ ?_ | refine And.intro (Eq.refl true) ?_ | refine Exists.intro _ (And.intro (wI (by omega)) ?_) | refine Exists.intro _ (And.intro (wU (by omega)) ?_) | refine Exists.intro _ (And.intro ⟨rfl, by omega⟩ ?_) | refine Exists.intro _ (And.intro rfl ?_) | refine And.intro rfl ?_ | refine And.intro ⟨rfl, rfl⟩ ?_ | ((refine And.intro (fun _ => ?_) (fun _ => ?_)) <;> try (exfalso; omega))))
    exact Exists.intro [] (And.intro (by rw [hr]; rfl) (And.intro trivial rfl))
  | true =>
    rw [hv] at hq hr
    have hv' := hv
    unfold isBl at hv'
    simp only [Bool.and_eq_true] at hv'
    obtain ⟨n, rfl, hd⟩ := isDi_elim hm hv'.1
    have ht := s_btext n m bs hd hbs
    (repeat' (first | refine (hq).read [1] rfl ⟨rfl, trivial⟩ ?_ | refine (ht).read [0] rfl ⟨rfl, trivial⟩ ?_ | refine Exists.intro (bcB n m bs) (And.intro ⟨bcB_len hm hbs, bcB_all hm hbs⟩ ?_) | refine And.intro ⟨bcB_len hm hbs, mkL rfl⟩ ?_ | refine Exists.intro (rowB [(n, m, bs)]) (And.intro (row1B (mkL' rfl)) ?_) | refine And.intro (neI rfl) ?_ | refine And.intro ⟨rfl, leR rfl, onesR rfl⟩ ?_ | refine And.intro ⟨rfl, leR rfl⟩ ?_ | refine draw_rule2 hfol (fun KK hKK => ?_) | refine hKK _ _ _ (by kernel_rfl) ?_ | refine region_rule (fun KK hKK => ?_) | refine hKK _ _ ?_ | refine And.intro (Eq.refl true) ?_ | refine Exists.intro _ (And.intro (wI (by omega)) ?_) | refine Exists.intro _ (And.intro (wU (by omega)) ?_) | refine Exists.intro _ (And.intro ⟨rfl, by omega⟩ ?_) | refine Exists.intro _ (And.intro rfl ?_) | refine And.intro rfl ?_ | refine And.intro ⟨rfl, rfl⟩ ?_ | ((refine And.intro (fun _ => ?_) (fun _ => ?_)) <;> try (exfalso; omega))))
    exact Exists.intro [] (And.intro (by rw [hr]; rfl) (And.intro trivial rfl))
theorem s_lawBText (s : Int) (m : List Nat) (bs : List Bool) (hm : m.length = 16) (hb : ∀ x ∈ m, x < 256) (hbs : bs.length = 16) : Spec Try.prog n_l_FnExactBlobbedText [bV s m bs] [] (vb true) [] := by
  have h1 := s_sBText s m bs hm hb hbs
  have h2 := s_iBText s m bs hm hb hbs
  have ht := s_toBl s m bs hm hbs
  refine SpecW.of_EV hf_l_FnExactBlobbedText hc_l_FnExactBlobbedText rfl rfl rfl fun w0 B ρ0 _ => ?_
  generalize btR s m bs = p at h1 h2
  (repeat' (first | refine (ht).pure rfl ?_ | refine (h1).pure rfl ?_ | refine (h2).pure rfl ?_ | refine Exists.intro (bcB s m bs) (And.intro ⟨bcB_len hm hbs, bcB_all hm hbs⟩ ?_) | refine And.intro (fun _ => ?_) (fun h => absurd rfl h) | refine And.intro (neI rfl) ?_ | refine And.intro ⟨rfl, leR rfl, onesR rfl⟩ ?_ | refine And.intro ⟨rfl, leR rfl⟩ ?_ | refine draw_rule2 hfol (fun KK hKK => ?_) | refine hKK _ _ _ (by kernel_rfl) ?_ | refine region_rule (fun KK hKK => ?_) | refine hKK _ _ ?_ | refine And.intro (Eq.refl true) ?_ | refine Exists.intro _ (And.intro (wI (by omega)) ?_) | refine Exists.intro _ (And.intro (wU (by omega)) ?_) | refine Exists.intro _ (And.intro ⟨rfl, by omega⟩ ?_) | refine Exists.intro _ (And.intro rfl ?_) | refine And.intro rfl ?_ | refine And.intro ⟨rfl, rfl⟩ ?_ | ((refine And.intro (fun _ => ?_) (fun _ => ?_)) <;> try (exfalso; omega))))
  exact finP rfl
end Go.Proofs.Ytcibbadioijmcaa.VE
