/- Contracts of functions of the given program, for all arguments that the contract names; see each theorem. -/
import Derived.Test.YtcibbadioijmcaaM15
import Derived.Test.YtcibbadioijmcaaW4
set_option linter.all false
namespace Go.Proofs.Ytcibbadioijmcaa.VE
open Go
set_option maxHeartbeats 1600000
set_option maxRecDepth 100000

/-- Is it a letter, a word? -/
def lbB (n : Int) (x : Int) : Bool := decide (-1 ≤ x ∧ x ≤ n - 2)
def wbB (n : Int) (g : Nat → Int) (N : Nat) : Bool := decide (1 ≤ n ∧ n ≤ 8) && decide (N ≤ 60) && decide (∀ j, j < N → lbB n (g j) = true)
theorem wbB_elim {n : Int} {g : Nat → Int} {N : Nat} (h : wbB n g N = true) : ∃ k : Nat, n = k ∧ 1 ≤ k ∧ k ≤ 8 ∧ N ≤ 60 ∧ okB k g N := by
  unfold wbB at h
  simp only [Bool.and_eq_true, decide_eq_true_eq] at h
  obtain ⟨⟨h1, h2⟩, h3⟩ := h
  obtain ⟨k, rfl⟩ : ∃ k : Nat, n = k := ⟨n.toNat, by omega⟩
  exact ⟨k, rfl, by omega, by omega, h2, fun j hj => by have := h3 j hj; unfold lbB at this; exact of_decide_eq_true this⟩
theorem s_sVBE (n : Int) (g : Nat → Int) (N : Nat) (hN : N ≤ 1048576) (h : wbB n g N = false) : Spec Try.prog n_s_ValueOfBlobWord [vi n, .sl 0] [.pr T_int64 1 N (il g N)] (.tup [zV, .raw (.slice none 0 0), vi 2]) [.pr T_int64 1 N (il g N)] := by
  have hin := s_in n 1 8
  refine SpecW.of_EV hf_s_ValueOfBlobWord hc_s_ValueOfBlobWord rfl rfl rfl fun w0 B ρ0 _ => ?_
  by_cases h1 : 1 ≤ n ∧ n ≤ 8
  rotate_left
  · rw [decide_eq_false h1] at hin
    (repeat' (first | refine (hin).pure rfl ?_ | refine Exists.intro (bcB 0 (List.replicate 16 0) (List.replicate 16 false)) (And.intro ⟨leR rfl, rfl⟩ ?_) | refine Exists.intro (bcB 0 (List.replicate 16 0) (List.replicate 16 false)) (And.intro ⟨rfl, rfl⟩ ?_) | refine And.intro (neI rfl) ?_ | refine And.intro ⟨rfl, leR rfl, onesR rfl⟩ ?_ | refine And.intro ⟨rfl, leR rfl⟩ ?_ | refine draw_rule2 hfol (fun KK hKK => ?_) | refine hKK _ _ _ (by kernel_rfl) ?_ | refine region_rule (fun KK hKK => ?_) | refine hKK _ _ ?_ | refine And.intro (Eq.refl true) ?_ | refine Exists.intro _ (And.intro (wI (by omega)) ?_) | refine Exists.intro _ (And.intro (wU (by omega)) ?_) | refine Exists.intro _ (And.intro ⟨rfl, by omega⟩ ?_) | refine Exists.intro _ (And.intro rfl ?_) | refine And.intro rfl ?_ | refine And.intro ⟨rfl, rfl⟩ ?_ | ((refine And.intro (fun _ => ?_) (fun _ => ?_)) <;> try (exfalso; omega))))
    exact Exists.intro [0] (And.intro (rfl) (And.intro ⟨rfl, trivial⟩ rfl))
  rw [decide_eq_true h1] at hin
  by_cases h2 : N ≤ 60
  rotate_left
  · (repeat' (first | refine (hin).pure rfl ?_ | refine Exists.intro (bcB 0 (List.replicate 16 0) (List.replicate 16 false)) (And.intro ⟨leR rfl, rfl⟩ ?_) | refine Exists.intro (bcB 0 (List.replicate 16 0) (List.replicate 16 false)) (And.intro ⟨rfl, rfl⟩ ?_) | refine And.intro (neI rfl) ?_ | refine And.intro ⟨rfl, leR rfl, onesR rfl⟩ ?_ | refine And.intro ⟨rfl, leR rfl⟩ ?_ | refine draw_rule2 hfol (fun KK hKK => ?_) | refine hKK _ _ _ (by kernel_rfl) ?_ | refine region_rule (fun KK hKK => ?_) | refine hKK _ _ ?_ | refine And.intro (Eq.refl true) ?_ | refine Exists.intro _ (And.intro (wI (by omega)) ?_) | refine Exists.intro _ (And.intro (wU (by omega)) ?_) | refine Exists.intro _ (And.intro ⟨rfl, by omega⟩ ?_) | refine Exists.intro _ (And.intro rfl ?_) | refine And.intro rfl ?_ | refine And.intro ⟨rfl, rfl⟩ ?_ | ((refine And.intro (fun _ => ?_) (fun _ => ?_)) <;> try (exfalso; omega))))
    exact Exists.intro [0] (And.intro (rfl) (And.intro ⟨rfl, trivial⟩ rfl))
  have hno : ¬ ∀ j, j < N → lbB n (g j) = true := fun h3 => by
    unfold wbB at h
    rw [decide_eq_true h1, decide_eq_true h2, decide_eq_true h3] at h
    cases h
  (repeat' (first | refine (hin).pure rfl ?_ | refine And.intro (neI rfl) ?_ | refine And.intro ⟨rfl, leR rfl, onesR rfl⟩ ?_ | refine And.intro ⟨rfl, leR rfl⟩ ?_ | refine draw_rule2 hfol (fun KK hKK => ?_) | refine hKK _ _ _ (by kernel_rfl) ?_ | refine region_rule (fun KK hKK => ?_) | refine hKK _ _ ?_ | refine And.intro (Eq.refl true) ?_ | refine Exists.intro _ (And.intro (wI (by omega)) ?_) | refine Exists.intro _ (And.intro (wU (by omega)) ?_) | refine Exists.intro _ (And.intro ⟨rfl, by omega⟩ ?_) | refine Exists.intro _ (And.intro rfl ?_) | refine And.intro rfl ?_ | refine And.intro ⟨rfl, rfl⟩ ?_ | ((refine And.intro (fun _ => ?_) (fun _ => ?_)) <;> try (exfalso; omega))))
  refine loop_rule (α := Nat) (fun k => k ≤ N ∧ ∀ j, j < k → lbB n (g j) = true) (fun k => [(0, vi n), (1, .sl 0), (4, .ptr 1 0), (7, vi k)]) (fun k => [.pr T_int64 1 N (il g N), zBl]) (fun k => N - k) 0 [0, 1]
    ⟨by omega, fun j hj => by omega⟩ ⟨⟨rfl, rfl, rfl, rfl, trivial⟩, ⟨rfl, rfl, trivial⟩, rfl⟩ ?_
  rintro k gg ⟨hk, hok⟩
  by_cases h9 : k = N
  · subst h9; exact absurd hok hno
  have hkl : k < N := by omega
  have hi2 := s_in (g k) (-1) (n - 2)
  have e1 : IntKind.i64.wrap (n - 2) = n - 2 := wI (by omega)
  cases hx : lbB n (g k) with
  | false =>
    rw [show decide (-1 ≤ g k ∧ g k ≤ n - 2) = false from hx] at hi2
    (repeat' (first | refine Exists.intro _ (And.intro (il_at hkl) ?_) | refine Exists.intro _ (And.intro e1 ?_) | refine (hi2).pure rfl ?_ | refine Exists.intro (bcB 0 (List.replicate 16 0) (List.replicate 16 false)) (And.intro ⟨leR rfl, rfl⟩ ?_) | refine Exists.intro (bcB 0 (List.replicate 16 0) (List.replicate 16 false)) (And.intro ⟨rfl, rfl⟩ ?_) | refine And.intro (neI rfl) ?_ | refine And.intro ⟨rfl, leR rfl, onesR rfl⟩ ?_ | refine And.intro ⟨rfl, leR rfl⟩ ?_ | refine draw_rule2 hfol (fun KK hKK => ?_) | refine hKK _ _ _ (by kernel_rfl) ?_ | refine region_rule (fun KK hKK => ?_) | refine hKK _ _ ?_ | refine And.intro (Eq.refl true) ?_ | refine Exists.intro _ (And.intro (wI (by omega)) ?_) | refine Exists.intro _ (And.intro (wU (by omega)) ?_) | refine Exists.intro _ (And.intro ⟨rfl, by omega⟩ ?_) | refine Exists.intro _ (And.intro rfl ?_) | refine And.intro rfl ?_ | refine And.intro ⟨rfl, rfl⟩ ?_ | ((refine And.intro (fun _ => ?_) (fun _ => ?_)) <;> try (exfalso; omega))))
    exact Exists.intro [0] (And.intro (rfl) (And.intro ⟨rfl, trivial⟩ rfl))
  | true =>
    rw [show decide (-1 ≤ g k ∧ g k ≤ n - 2) = true from hx] at hi2
    (repeat' (first | refine Exists.intro _ (And.intro (il_at hkl) ?_) | refine Exists.intro _ (And.intro e1 ?_) | refine (hi2).pure rfl ?_ | refine And.intro (neI rfl) ?_ | refine And.intro ⟨rfl, leR rfl, onesR rfl⟩ ?_ | refine And.intro ⟨rfl, leR rfl⟩ ?_ | refine draw_rule2 hfol (fun KK hKK => ?_) | refine hKK _ _ _ (by kernel_rfl) ?_ | refine region_rule (fun KK hKK => ?_) | refine hKK _ _ ?_ | refine And.intro (Eq.refl true) ?_ | refine Exists.intro _ (And.intro (wI (by omega)) ?_) | refine Exists.intro _ (And.intro (wU (by omega)) ?_) | refine Exists.intro _ (And.intro ⟨rfl, by omega⟩ ?_) | refine Exists.intro _ (And.intro rfl ?_) | refine And.intro rfl ?_ | refine And.intro ⟨rfl, rfl⟩ ?_ | ((refine And.intro (fun _ => ?_) (fun _ => ?_)) <;> try (exfalso; omega))))
    refine Exists.intro (k + 1) (Exists.intro [0, 1] (And.intro ⟨⟨by omega, fun q hq => ?_⟩, (by show N - (k + 1) < N - k; omega)⟩ ⟨⟨rfl, rfl, rfl, rfl, trivial⟩, ⟨rfl, rfl, trivial⟩, rfl⟩))
    by_cases hqi : q = k
    · subst hqi; exact hx
    · exact hok q (by omega)
theorem s_sVB (n : Nat) (g : Nat → Int) (N : Nat) (hn1 : 1 ≤ n) (hn : n ≤ 8) (hN : N ≤ 60) (hg : okB n g N) : Spec Try.prog n_s_ValueOfBlobWord [vi n, .sl 0] [.pr T_int64 1 N (il g N)] (.tup [bV n (vB n g N).1 (vB n g N).2.1, .sl 1, vi 0]) [.pr T_int64 1 N (il g N), .pr T_int64 1 2 (il (gc (vB n g N).2.2) 2)] := by
  have hin := s_in n 1 8
  rw [decide_eq_true (by omega)] at hin
  have hu := s_sone n hn1 hn
  have hfol : Try.prog.follows .mixedOrders = true := rfl
  refine SpecW.of_EV hf_s_ValueOfBlobWord hc_s_ValueOfBlobWord rfl rfl rfl fun w0 B ρ0 _ => ?_
  (repeat' (first | refine (hin).pure rfl ?_ | refine And.intro (neI rfl) ?_ | refine And.intro ⟨rfl, leR rfl, onesR rfl⟩ ?_ | refine And.intro ⟨rfl, leR rfl⟩ ?_ | refine draw_rule2 hfol (fun KK hKK => ?_) | refine hKK _ _ _ (by kernel_rfl) ?_ | refine region_rule (fun KK hKK => ?_) | refine hKK _ _ ?_ | refine And.intro (Eq.refl true) ?_ | refine Exists.intro _ (And.intro (wI (by omega)) ?_) | refine Exists.intro _ (And.intro (wU (by omega)) ?_) | refine Exists.intro _ (And.intro ⟨rfl, by omega⟩ ?_) | refine Exists.intro _ (And.intro rfl ?_) | refine And.intro rfl ?_ | refine And.intro ⟨rfl, rfl⟩ ?_ | ((refine And.intro (fun _ => ?_) (fun _ => ?_)) <;> try (exfalso; omega))))
  refine loop_rule (α := Nat) (fun k => k ≤ N) (fun k => [(0, vi n), (1, .sl 0), (4, .ptr 1 0), (7, vi k)]) (fun k => [.pr T_int64 1 N (il g N), zBl]) (fun k => N - k) 0 [0, 1]
    (by omega) ⟨⟨rfl, rfl, rfl, rfl, trivial⟩, ⟨rfl, rfl, trivial⟩, rfl⟩ ?_
  rintro k gg hk
  by_cases h9 : k = N
  rotate_left
  · have hkl : k < N := by omega
    have hgk := hg k hkl
    have hi2 := s_in (g k) (-1) ((n : Int) - 2)
    rw [decide_eq_true hgk] at hi2
    have e1 : IntKind.i64.wrap ((n : Int) - 2) = (n : Int) - 2 := wI (by omega)
    (repeat' (first | refine Exists.intro _ (And.intro (il_at hkl) ?_) | refine Exists.intro _ (And.intro e1 ?_) | refine (hi2).pure rfl ?_ | refine And.intro (neI rfl) ?_ | refine And.intro ⟨rfl, leR rfl, onesR rfl⟩ ?_ | refine And.intro ⟨rfl, leR rfl⟩ ?_ | refine draw_rule2 hfol (fun KK hKK => ?_) | refine hKK _ _ _ (by kernel_rfl) ?_ | refine region_rule (fun KK hKK => ?_) | refine hKK _ _ ?_ | refine And.intro (Eq.refl true) ?_ | refine Exists.intro _ (And.intro (wI (by omega)) ?_) | refine Exists.intro _ (And.intro (wU (by omega)) ?_) | refine Exists.intro _ (And.intro ⟨rfl, by omega⟩ ?_) | refine Exists.intro _ (And.intro rfl ?_) | refine And.intro rfl ?_ | refine And.intro ⟨rfl, rfl⟩ ?_ | ((refine And.intro (fun _ => ?_) (fun _ => ?_)) <;> try (exfalso; omega))))
    refine Exists.intro (k + 1) (Exists.intro [0, 1] (And.intro ⟨by omega, (by show N - (k + 1) < N - k; omega)⟩ ⟨⟨rfl, rfl, rfl, rfl, trivial⟩, ⟨rfl, rfl, trivial⟩, rfl⟩))
  subst h9
  (repeat' (first | refine (hu).pure rfl ?_ | refine And.intro ⟨pcl_size un_len, leR rfl⟩ ?_ | refine Exists.intro (bcB n (un n) (List.replicate 16 false)) (And.intro (bcB_sd (s := 0) (m := List.replicate 16 0) (bs := List.replicate 16 false) r16n r16b) ?_) | refine And.intro ⟨bcB_len un_len r16b, leR rfl, bcB_ones⟩ ?_ | refine Exists.intro (bcB n (un n) (List.replicate 16 false)) (And.intro ⟨leR rfl, spl0 (leR rfl)⟩ ?_) | refine And.intro ⟨rfl, mkL rfl⟩ ?_ | refine And.intro ⟨rfl, row2l mk_len⟩ ?_ | refine Exists.intro (lc2 (0, 0)) (And.intro (row2i mk_len) ?_) | refine And.intro (neI rfl) ?_ | refine And.intro ⟨rfl, leR rfl, onesR rfl⟩ ?_ | refine And.intro ⟨rfl, leR rfl⟩ ?_ | refine draw_rule2 hfol (fun KK hKK => ?_) | refine hKK _ _ _ (by kernel_rfl) ?_ | refine region_rule (fun KK hKK => ?_) | refine hKK _ _ ?_ | refine And.intro (Eq.refl true) ?_ | refine Exists.intro _ (And.intro (wI (by omega)) ?_) | refine Exists.intro _ (And.intro (wU (by omega)) ?_) | refine Exists.intro _ (And.intro ⟨rfl, by omega⟩ ?_) | refine Exists.intro _ (And.intro rfl ?_) | refine And.intro rfl ?_ | refine And.intro ⟨rfl, rfl⟩ ?_ | ((refine And.intro (fun _ => ?_) (fun _ => ?_)) <;> try (exfalso; omega))))
  refine loop_rule (α := Nat) (fun i => i ≤ k) (fun i => [(0, vi n), (1, .sl 0), (4, .ptr 1 0), (8, .ptr 2 0), (9, .sl 3), (10, vi i)])
    (fun i => [.pr T_int64 1 k (il g k), zBl, .pc (bcB n (vB n g i).1 (vB n g i).2.1) T_i_Blobbed, .pr T_int64 1 2 (lc2 (vB n g i).2.2)]) (fun i => k - i) 0 [0, 1, 3, 2]
    (by omega) ⟨⟨rfl, rfl, rfl, rfl, rfl, rfl, trivial⟩, ⟨rfl, rfl, rfl, rfl, trivial⟩, rfl⟩ ?_
  clear gg hk
  rintro i gg hi
  obtain ⟨hV, hl, hsy, hle⟩ := vB_ok hn1 hn i (fun j hj => hg j (by omega))
  have lV := hV.len
  by_cases h9 : i = k
  · subst h9
    (repeat' (first | refine Exists.intro (bcB n (vB n g i).1 (vB n g i).2.1) (And.intro ⟨bcB_len lV hl, bcB_all lV hl⟩ ?_) | refine And.intro ⟨bcB_len lV hl, leR rfl, bcB_ones⟩ ?_ | refine Exists.intro (bcB n (vB n g i).1 (vB n g i).2.1) (And.intro ⟨leR rfl, spl0 (leR rfl)⟩ ?_) | refine And.intro (neI rfl) ?_ | refine And.intro ⟨rfl, leR rfl, onesR rfl⟩ ?_ | refine And.intro ⟨rfl, leR rfl⟩ ?_ | refine draw_rule2 hfol (fun KK hKK => ?_) | refine hKK _ _ _ (by kernel_rfl) ?_ | refine region_rule (fun KK hKK => ?_) | refine hKK _ _ ?_ | refine And.intro (Eq.refl true) ?_ | refine Exists.intro _ (And.intro (wI (by omega)) ?_) | refine Exists.intro _ (And.intro (wU (by omega)) ?_) | refine Exists.intro _ (And.intro ⟨rfl, by omega⟩ ?_) | refine Exists.intro _ (And.intro rfl ?_) | refine And.intro rfl ?_ | refine And.intro ⟨rfl, rfl⟩ ?_ | ((refine And.intro (fun _ => ?_) (fun _ => ?_)) <;> try (exfalso; omega))))
    exact Exists.intro [0,3] (And.intro (rfl) (And.intro ⟨rfl, rfl, trivial⟩ rfl))
  have hil : i < k := by omega
  have hgi := hg i hil
  have hVg := gm_V (n := n) (x := g i) hn1 hn hgi.2
  have hst := s_sstep n (g i) hn1 hn hgi
  have h80 := s_l09Times n (vB n g i).1 (gm n (g i)) hV hVg (vB n g i).2.1 (gbl n (g i)) hl gbl_len
  have hB := symB2 hsy (gbl_sym (n := n) (x := g i) hn1 hn)
  rw [rB_eq hV hVg hB n (Nat.le_refl n), ← lpNB_eq hV hVg hB] at h80
  have hle2 := lpNB_le (n := n) (a := (vB n g i).1) (b := gm n (g i)) (ba := (vB n g i).2.1) (bb := gbl n (g i))
  have hs : vB n g (i + 1) = ((oL n (vB n g i).1 (gm n (g i)) n).1, bbO n (vB n g i).1 (gm n (g i)) (vB n g i).2.1 (gbl n (g i)) n,
      ((vB n g i).2.2.1 + (lpNB n (vB n g i).1 (gm n (g i)) (vB n g i).2.1 (gbl n (g i))).1, (vB n g i).2.2.2 + (lpNB n (vB n g i).1 (gm n (g i)) (vB n g i).2.1 (gbl n (g i))).2)) := rfl
  have lo := (oL_V hV hVg).len
  have lob := bbO_len (n := n) (a := (vB n g i).1) (b := gm n (g i)) (ba := (vB n g i).2.1) (bb := gbl n (g i)) (i := n)
  generalize (oL n (vB n g i).1 (gm n (g i)) n).1 = P at h80 hs lo
  generalize bbO n (vB n g i).1 (gm n (g i)) (vB n g i).2.1 (gbl n (g i)) n = RB at h80 hs lob
  generalize lpNB n (vB n g i).1 (gm n (g i)) (vB n g i).2.1 (gbl n (g i)) = dd at h80 hs hle2
  obtain ⟨d0, d1⟩ := dd
  generalize hv1 : (vB n g i).2.2 = cc at hle hs ⊢
  obtain ⟨c0, c1⟩ := cc
  replace hle : c0 + c1 ≤ 8 * i := hle
  replace hle2 : d0 + d1 ≤ n := hle2
  have e0 : IntKind.i64.wrap ((c0 : Int) + (d0 : Int)) = ((c0 + d0 : Nat) : Int) := wC (by omega) (by omega)
  have e1 : IntKind.i64.wrap ((c1 : Int) + (d1 : Int)) = ((c1 + d1 : Nat) : Int) := wC (by omega) (by omega)
  generalize (vB n g i).1 = M at *
  generalize (vB n g i).2.1 = BS at *
  (repeat' (first | refine Exists.intro _ (And.intro (il_at hil) ?_) | refine Exists.intro (bcB n M BS) (And.intro ⟨bcB_len lV hl, bcB_all lV hl⟩ ?_) | refine (hst).pure rfl ?_ | refine (h80).pure rfl ?_ | refine And.intro ⟨bcB_len lo lob, leR rfl, bcB_ones⟩ ?_ | refine Exists.intro (bcB n P RB) (And.intro ⟨leR rfl, spl0 (leR rfl)⟩ ?_) | refine Exists.intro (bcB n P RB) (And.intro ⟨bcB_len lo lob, bcB_all lo lob⟩ ?_) | refine Exists.intro (lc2 (d0, d1)) (And.intro ⟨leR rfl, rfl⟩ ?_) | refine Exists.intro (bcB n P RB) (And.intro ⟨by rw [bcB_len lV hl]; exact Nat.le_refl _, spl0 (Nat.le_of_eq (bcB_len lV hl))⟩ ?_) | refine Exists.intro _ (And.intro e0 ?_) | refine Exists.intro _ (And.intro e1 ?_) | refine Exists.intro 0 (And.intro ⟨rfl, leR rfl⟩ ?_) | refine Exists.intro 1 (And.intro ⟨rfl, leR rfl⟩ ?_) | refine Exists.intro (lc2 (c0 + d0, c1)) (And.intro ⟨leR rfl, rfl⟩ ?_) | refine Exists.intro (lc2 (c0 + d0, c1 + d1)) (And.intro ⟨leR rfl, rfl⟩ ?_) | refine And.intro (neI rfl) ?_ | refine And.intro ⟨rfl, leR rfl, onesR rfl⟩ ?_ | refine And.intro ⟨rfl, leR rfl⟩ ?_ | refine draw_rule2 hfol (fun KK hKK => ?_) | refine hKK _ _ _ (by kernel_rfl) ?_ | refine region_rule (fun KK hKK => ?_) | refine hKK _ _ ?_ | refine And.intro (Eq.refl true) ?_ | refine Exists.intro _ (And.intro (wI (by omega)) ?_) | refine Exists.intro _ (And.intro (wU (by omega)) ?_) | refine Exists.intro _ (And.intro ⟨rfl, by omega⟩ ?_) | refine Exists.intro _ (And.intro rfl ?_) | refine And.intro rfl ?_ | refine And.intro ⟨rfl, rfl⟩ ?_ | ((refine And.intro (fun _ => ?_) (fun _ => ?_)) <;> try (exfalso; omega))))
  refine Exists.intro (i + 1) (Exists.intro [0, 1, 2, 3] (And.intro ⟨by omega, (by show k - (i + 1) < k - i; omega)⟩ ⟨⟨rfl, rfl, rfl, rfl, rfl, rfl, trivial⟩, ⟨rfl, rfl, by rw [hs]; rfl, by rw [hs]; rfl, trivial⟩, rfl⟩))
end Go.Proofs.Ytcibbadioijmcaa.VE
