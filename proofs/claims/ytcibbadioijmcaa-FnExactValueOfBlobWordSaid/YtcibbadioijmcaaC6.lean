/- Contracts of functions of the given program, for all arguments that the contract names; see each theorem. -/
import Derived.Test.YtcibbadioijmcaaC4
import Derived.Test.YtcibbadioijmcaaU12a
set_option linter.all false
namespace Go.Proofs.Ytcibbadioijmcaa.VE
open Go
set_option maxHeartbeats 800000
set_option maxRecDepth 100000

def wb (p : Nat → Nat) (v : Nat → Bool) : Nat → List Bool
  | 0 => List.replicate 16 false
  | k + 1 => (wb p v k).set (p k) (v k)
theorem wb_len {p : Nat → Nat} {v : Nat → Bool} : ∀ {k}, (wb p v k).length = 16
  | 0 => by simp [wb]
  | k + 1 => by simp [wb, wb_len (k := k)]
abbrev bdV (p : Int × List Nat × List Bool × Int) : V := .tup [bV p.1 p.2.1 p.2.2.1, vi p.2.2.2]
abbrev flM (n : Nat) (m : List Nat) : List Nat := wr (gF n) (fun i => gF n (m.getD i 0)) (2 * n)
abbrev flB (n : Nat) (bs : List Bool) (k : Nat) : List Bool := wb (gF n) (fun i => bs.getD i false) k
def fbR (s : Int) (m : List Nat) (bs : List Bool) : Int × List Nat × List Bool × Int := if isBl s m bs then (s, flM s.toNat m, flB s.toNat bs (2 * s.toNat), 0) else (0, List.replicate 16 0, List.replicate 16 false, 1)
theorem fbR_len (s : Int) (m : List Nat) (bs : List Bool) : (fbR s m bs).2.1.length = 16 ∧ (fbR s m bs).2.2.1.length = 16 := by
  unfold fbR; split
  · exact ⟨wr_len, wb_len⟩
  · simp
theorem isBl_elim {s : Int} {m : List Nat} {bs : List Bool} (hm : m.length = 16) (h : isBl s m bs = true) : ∃ n : Nat, s = n ∧ IsD n m ∧ isDi s m = true ∧ ∀ j, j < 16 → okAt n m bs j := by
  unfold isBl at h
  simp only [Bool.and_eq_true] at h
  obtain ⟨h1, h2⟩ := h
  obtain ⟨n, rfl, hd⟩ := isDi_elim hm h1
  rw [Int.toNat_natCast] at h2
  exact ⟨n, rfl, hd, h1, fun j hj => (blI_true 16 0).1 h2 j (by omega) (by omega)⟩
theorem pcl_size {s : Int} {m : List Nat} (h : m.length = 16) : (Value.agg (pcl s m).toArray).cells.size = 17 := by
  show (pcl s m).toArray.size = 17
  simp [pcl_len h]

theorem s_sFlipB (s : Int) (m : List Nat) (bs : List Bool) (hm : m.length = 16) (hb : ∀ x ∈ m, x < 256) (hbs : bs.length = 16) : Spec Try.prog n_s_FlipBlobbed [bV s m bs] [] (bdV (fbR s m bs)) [] := by
  have hq := s_sIsBl s m bs hm hb hbs
  have hr : fbR s m bs = if isBl s m bs then (s, flM s.toNat m, flB s.toNat bs (2 * s.toNat), 0) else (0, List.replicate 16 0, List.replicate 16 false, 1) := rfl
  refine SpecW.of_EV hf_s_FlipBlobbed hc_s_FlipBlobbed rfl rfl rfl fun w0 B ρ0 _ => ?_
  cases hv : isBl s m bs with
  | false =>
    rw [hv] at hq hr
    (repeat' (first | refine (hq).pure rfl ?_ | refine Exists.intro (bcB s m bs) (And.intro ⟨bcB_len hm hbs, bcB_all hm hbs⟩ ?_) | refine Exists.intro (bcB 0 (List.replicate 16 0) (List.replicate 16 false)) (And.intro ⟨leR rfl, rfl⟩ ?_) | refine Exists.intro (bcB 0 (List.replicate 16 0) (List.replicate 16 false)) (And.intro ⟨rfl, rfl⟩ ?_) | refine And.intro (neI rfl) ?_ | refine And.intro ⟨rfl, leR rfl, onesR rfl⟩ ?_ | refine And.intro ⟨rfl, leR rfl⟩ ?_ | refine draw_rule2 hfol (fun KK hKK => ?_) | refine hKK _ _ _ (by kernel_rfl) ?_ | refine region_rule (fun KK hKK => ?_) | refine hKK _ _ ?_ | refine And.intro (Eq.refl true) ?_ | refine Exists.intro _ (And.intro (wI (by omega)) ?_) | refine Exists.intro _ (And.intro (wU (by omega)) ?_) | refine Exists.intro _ (And.intro ⟨rfl, by omega⟩ ?_) | refine Exists.intro _ (And.intro rfl ?_) | refine And.intro rfl ?_ | refine And.intro ⟨rfl, rfl⟩ ?_ | ((refine And.intro (fun _ => ?_) (fun _ => ?_)) <;> try (exfalso; omega))))
    exact Exists.intro [] (And.intro (by rw [hr]; rfl) (And.intro trivial rfl))
  | true =>
  rw [hv] at hq hr
  obtain ⟨n, rfl, hd, _, _⟩ := isBl_elim hm hv
  have hn := hd.n8
  have hn1 := hd.n1
  have hfl := s_sflip n m hd
  have hwl : (flM n m).length = 16 := wr_len
  (repeat' (first | refine (hq).pure rfl ?_ | refine (hfl).pure rfl ?_ | refine Exists.intro (bcB n m bs) (And.intro ⟨bcB_len hm hbs, bcB_all hm hbs⟩ ?_) | refine Exists.intro (pcl n m) (And.intro ⟨pcl_len hm, bcB_dia hm hbs⟩ ?_) | refine And.intro ⟨pcl_size hwl, leR rfl⟩ ?_ | refine Exists.intro (bcB n (flM n m) (List.replicate 16 false)) (And.intro (bcB_sd (s := 0) (m := List.replicate 16 0) (bs := List.replicate 16 false) r16n r16b) ?_) | refine And.intro ⟨bcB_len hwl r16b, leR rfl, bcB_ones⟩ ?_ | refine Exists.intro (bcB n (flM n m) (List.replicate 16 false)) (And.intro ⟨leR rfl, spl0 (leR rfl)⟩ ?_) | refine And.intro (neI rfl) ?_ | refine And.intro ⟨rfl, leR rfl, onesR rfl⟩ ?_ | refine And.intro ⟨rfl, leR rfl⟩ ?_ | refine draw_rule2 hfol (fun KK hKK => ?_) | refine hKK _ _ _ (by kernel_rfl) ?_ | refine region_rule (fun KK hKK => ?_) | refine hKK _ _ ?_ | refine And.intro (Eq.refl true) ?_ | refine Exists.intro _ (And.intro (wI (by omega)) ?_) | refine Exists.intro _ (And.intro (wU (by omega)) ?_) | refine Exists.intro _ (And.intro ⟨rfl, by omega⟩ ?_) | refine Exists.intro _ (And.intro rfl ?_) | refine And.intro rfl ?_ | refine And.intro ⟨rfl, rfl⟩ ?_ | ((refine And.intro (fun _ => ?_) (fun _ => ?_)) <;> try (exfalso; omega))))
  refine loop_rule (α := Nat) (fun k => k ≤ 2 * n)
    (fun k => [(1, .ptr 0 0), (2, .ptr 1 0), (4, vi n), (5, .ptr 2 0), (6, vi k)])
    (fun k => [.pc (bcB n m bs) T_i_Blobbed, .pc (bcB 0 (List.replicate 16 0) (List.replicate 16 false)) T_i_Blobbed, .pc (bcB n (flM n m) (flB n bs k)) T_i_Blobbed]) (fun k => 2 * n - k) 0 [0, 1, 2]
    (by omega) ⟨⟨rfl, rfl, rfl, rfl, rfl, trivial⟩, ⟨rfl, rfl, rfl, trivial⟩, rfl⟩ ?_
  rintro k g hk
  by_cases h9 : k = 2 * n
  · subst h9
    (repeat' (first | refine Exists.intro (bcB n (flM n m) (flB n bs (2 * n))) (And.intro ⟨bcB_len hwl wb_len, bcB_all hwl wb_len⟩ ?_) | refine And.intro ⟨bcB_len hwl wb_len, leR rfl, bcB_ones⟩ ?_ | refine Exists.intro (bcB n (flM n m) (flB n bs (2 * n))) (And.intro ⟨leR rfl, spl0 (leR rfl)⟩ ?_) | refine And.intro (neI rfl) ?_ | refine And.intro ⟨rfl, leR rfl, onesR rfl⟩ ?_ | refine And.intro ⟨rfl, leR rfl⟩ ?_ | refine draw_rule2 hfol (fun KK hKK => ?_) | refine hKK _ _ _ (by kernel_rfl) ?_ | refine region_rule (fun KK hKK => ?_) | refine hKK _ _ ?_ | refine And.intro (Eq.refl true) ?_ | refine Exists.intro _ (And.intro (wI (by omega)) ?_) | refine Exists.intro _ (And.intro (wU (by omega)) ?_) | refine Exists.intro _ (And.intro ⟨rfl, by omega⟩ ?_) | refine Exists.intro _ (And.intro rfl ?_) | refine And.intro rfl ?_ | refine And.intro ⟨rfl, rfl⟩ ?_ | ((refine And.intro (fun _ => ?_) (fun _ => ?_)) <;> try (exfalso; omega))))
    exact Exists.intro [] (And.intro (by rw [hr]; rfl) (And.intro trivial rfl))
  have hkl : k < 2 * n := by omega
  have g1 := gF_lt (n := n) (i := k) hn1
  have hn0 : (2 * (n : Int)) ≠ 0 := by omega
  have t1 := tmF (n := n) (i := k)
  have hbat := bcB_bat (s := n) hm hbs (i := k) (by omega) rfl
  (repeat' (first | refine And.intro hn0 ?_ | refine Exists.intro _ (And.intro t1 ?_) | refine Exists.intro _ (And.intro hbat ?_) | refine Exists.intro (bcB n (flM n m) (flB n bs (k + 1))) (And.intro ⟨by rw [bcB_len hwl wb_len]; omega, bcB_bset hwl wb_len⟩ ?_) | refine And.intro (neI rfl) ?_ | refine And.intro ⟨rfl, leR rfl, onesR rfl⟩ ?_ | refine And.intro ⟨rfl, leR rfl⟩ ?_ | refine draw_rule2 hfol (fun KK hKK => ?_) | refine hKK _ _ _ (by kernel_rfl) ?_ | refine region_rule (fun KK hKK => ?_) | refine hKK _ _ ?_ | refine And.intro (Eq.refl true) ?_ | refine Exists.intro _ (And.intro (wI (by omega)) ?_) | refine Exists.intro _ (And.intro (wU (by omega)) ?_) | refine Exists.intro _ (And.intro ⟨rfl, by omega⟩ ?_) | refine Exists.intro _ (And.intro rfl ?_) | refine And.intro rfl ?_ | refine And.intro ⟨rfl, rfl⟩ ?_ | ((refine And.intro (fun _ => ?_) (fun _ => ?_)) <;> try (exfalso; omega))))
  refine Exists.intro (k + 1) (Exists.intro [0, 1, 2] (And.intro ⟨by omega, (by show 2 * n - (k + 1) < 2 * n - k; omega)⟩ ⟨⟨rfl, rfl, rfl, rfl, rfl, trivial⟩, ⟨rfl, rfl, rfl, trivial⟩, rfl⟩))

theorem s_iFlipB (s : Int) (m : List Nat) (bs : List Bool) (hm : m.length = 16) (hb : ∀ x ∈ m, x < 256) (hbs : bs.length = 16) : Spec Try.prog n_i_FlipBlobbed [bV s m bs] [] (bdV (fbR s m bs)) [] := by
  have hq := s_badB1D s m bs hm hb hbs
  have hr : fbR s m bs = if isBl s m bs then (s, flM s.toNat m, flB s.toNat bs (2 * s.toNat), 0) else (0, List.replicate 16 0, List.replicate 16 false, 1) := rfl
  refine SpecW.of_EV hf_i_FlipBlobbed hc_i_FlipBlobbed rfl rfl rfl fun w0 B ρ0 _ => ?_
  cases hv : isBl s m bs with
  | false =>
    rw [hv] at hq hr
    (repeat' (first | refine (hq).read [2] rfl ⟨rfl, trivial⟩ ?_ | refine Exists.intro (bcB s m bs) (And.intro ⟨bcB_len hm hbs, bcB_all hm hbs⟩ ?_) | refine And.intro ⟨bcB_len hm hbs, mkL rfl⟩ ?_ | refine Exists.intro (rowB [(s, m, bs)]) (And.intro (row1B (mkL' rfl)) ?_) | refine Exists.intro (bcB 0 (List.replicate 16 0) (List.replicate 16 false)) (And.intro ⟨leR rfl, rfl⟩ ?_) | refine Exists.intro (bcB 0 (List.replicate 16 0) (List.replicate 16 false)) (And.intro ⟨rfl, rfl⟩ ?_) | refine And.intro (neI rfl) ?_ | refine And.intro ⟨rfl, leR rfl, onesR rfl⟩ ?_ | refine And.intro ⟨rfl, leR rfl⟩ ?_ | refine draw_rule2 hfol (fun KK hKK => ?_) | refine hKK _ _ _ (by kernel_rfl) ?_ | refine region_rule (fun KK hKK => ?_) | refine hKK _ _ ?_ | refine And.intro (Eq.refl true) ?_ | refine Exists.intro _ (And.intro (wI (by omega)) ?_) | refine Exists.intro _ (And.intro (wU (by omega)) ?_) | refine Exists.intro _ (And.intro ⟨rfl, by omega⟩ ?_) | refine Exists.intro _ (And.intro rfl ?_) | refine And.intro rfl ?_ | refine And.intro ⟨rfl, rfl⟩ ?_ | ((refine And.intro (fun _ => ?_) (fun _ => ?_)) <;> try (exfalso; omega))))
    exact Exists.intro [] (And.intro (by rw [hr]; rfl) (And.intro trivial rfl))
  | true =>
  rw [hv] at hq hr
  obtain ⟨n, rfl, hd, _, _⟩ := isBl_elim hm hv
  have hn := hd.n8
  have hn1 := hd.n1
  have hfl := s_iflip n m hd
  have hwl : (flM n m).length = 16 := wr_len
  (repeat' (first | refine (hq).read [2] rfl ⟨rfl, trivial⟩ ?_ | refine (s_nG n m (bbl bs) T_i_Blobbed).read [0] rfl ⟨rfl, trivial⟩ ?_ | refine (hfl).pure rfl ?_ | refine Exists.intro (bcB n m bs) (And.intro ⟨bcB_len hm hbs, bcB_all hm hbs⟩ ?_) | refine And.intro ⟨bcB_len hm hbs, mkL rfl⟩ ?_ | refine Exists.intro (rowB [((n : Int), m, bs)]) (And.intro (row1B (mkL' rfl)) ?_) | refine Exists.intro (pcl n m) (And.intro ⟨pcl_len hm, bcB_dia hm hbs⟩ ?_) | refine And.intro ⟨pcl_size hwl, leR rfl⟩ ?_ | refine Exists.intro (bcB n (flM n m) (List.replicate 16 false)) (And.intro (bcB_sd (s := 0) (m := List.replicate 16 0) (bs := List.replicate 16 false) r16n r16b) ?_) | refine And.intro ⟨bcB_len hwl r16b, leR rfl, bcB_ones⟩ ?_ | refine Exists.intro (bcB n (flM n m) (List.replicate 16 false)) (And.intro ⟨leR rfl, spl0 (leR rfl)⟩ ?_) | refine And.intro (neI rfl) ?_ | refine And.intro ⟨rfl, leR rfl, onesR rfl⟩ ?_ | refine And.intro ⟨rfl, leR rfl⟩ ?_ | refine draw_rule2 hfol (fun KK hKK => ?_) | refine hKK _ _ _ (by kernel_rfl) ?_ | refine region_rule (fun KK hKK => ?_) | refine hKK _ _ ?_ | refine And.intro (Eq.refl true) ?_ | refine Exists.intro _ (And.intro (wI (by omega)) ?_) | refine Exists.intro _ (And.intro (wU (by omega)) ?_) | refine Exists.intro _ (And.intro ⟨rfl, by omega⟩ ?_) | refine Exists.intro _ (And.intro rfl ?_) | refine And.intro rfl ?_ | refine And.intro ⟨rfl, rfl⟩ ?_ | ((refine And.intro (fun _ => ?_) (fun _ => ?_)) <;> try (exfalso; omega))))
  refine loop_rule (α := Nat) (fun k => k ≤ 2 * n)
    (fun k => [(1, .ptr 0 0), (2, .ptr 1 0), (4, vi n), (5, .ptr 2 0), (18, vi (2 * n)), (19, vi k)])
    (fun k => [.pc (bcB n m bs) T_i_Blobbed, .pc (bcB 0 (List.replicate 16 0) (List.replicate 16 false)) T_i_Blobbed, .pc (bcB n (flM n m) (flB n bs k)) T_i_Blobbed]) (fun k => 2 * n - k) 0 [0, 1, 3]
    (by omega) ⟨⟨rfl, rfl, rfl, rfl, rfl, rfl, trivial⟩, ⟨rfl, rfl, rfl, trivial⟩, rfl⟩ ?_
  rintro k g hk
  by_cases h9 : k = 2 * n
  · subst h9
    (repeat' (first | refine Exists.intro (bcB n (flM n m) (flB n bs (2 * n))) (And.intro ⟨bcB_len hwl wb_len, bcB_all hwl wb_len⟩ ?_) | refine And.intro ⟨bcB_len hwl wb_len, leR rfl, bcB_ones⟩ ?_ | refine Exists.intro (bcB n (flM n m) (flB n bs (2 * n))) (And.intro ⟨leR rfl, spl0 (leR rfl)⟩ ?_) | refine And.intro (neI rfl) ?_ | refine And.intro ⟨rfl, leR rfl, onesR rfl⟩ ?_ | refine And.intro ⟨rfl, leR rfl⟩ ?_ | refine draw_rule2 hfol (fun KK hKK => ?_) | refine hKK _ _ _ (by kernel_rfl) ?_ | refine region_rule (fun KK hKK => ?_) | refine hKK _ _ ?_ | refine And.intro (Eq.refl true) ?_ | refine Exists.intro _ (And.intro (wI (by omega)) ?_) | refine Exists.intro _ (And.intro (wU (by omega)) ?_) | refine Exists.intro _ (And.intro ⟨rfl, by omega⟩ ?_) | refine Exists.intro _ (And.intro rfl ?_) | refine And.intro rfl ?_ | refine And.intro ⟨rfl, rfl⟩ ?_ | ((refine And.intro (fun _ => ?_) (fun _ => ?_)) <;> try (exfalso; omega))))
    exact Exists.intro [] (And.intro (by rw [hr]; rfl) (And.intro trivial rfl))
  have hkl : k < 2 * n := by omega
  have g1 := gF_lt (n := n) (i := k) hn1
  have hn0 : (2 * (n : Int)) ≠ 0 := by omega
  have t1 := tmF (n := n) (i := k)
  have hbat := bcB_bat (s := n) hm hbs (i := k) (by omega) rfl
  (repeat' (first | refine And.intro hn0 ?_ | refine Exists.intro _ (And.intro t1 ?_) | refine Exists.intro _ (And.intro hbat ?_) | refine Exists.intro (bcB n (flM n m) (flB n bs (k + 1))) (And.intro ⟨by rw [bcB_len hwl wb_len]; omega, bcB_bset hwl wb_len⟩ ?_) | refine And.intro (neI rfl) ?_ | refine And.intro ⟨rfl, leR rfl, onesR rfl⟩ ?_ | refine And.intro ⟨rfl, leR rfl⟩ ?_ | refine draw_rule2 hfol (fun KK hKK => ?_) | refine hKK _ _ _ (by kernel_rfl) ?_ | refine region_rule (fun KK hKK => ?_) | refine hKK _ _ ?_ | refine And.intro (Eq.refl true) ?_ | refine Exists.intro _ (And.intro (wI (by omega)) ?_) | refine Exists.intro _ (And.intro (wU (by omega)) ?_) | refine Exists.intro _ (And.intro ⟨rfl, by omega⟩ ?_) | refine Exists.intro _ (And.intro rfl ?_) | refine And.intro rfl ?_ | refine And.intro ⟨rfl, rfl⟩ ?_ | ((refine And.intro (fun _ => ?_) (fun _ => ?_)) <;> try (exfalso; omega))))
  refine Exists.intro (k + 1) (Exists.intro [0, 1, 2] (And.intro ⟨by omega, (by show 2 * n - (k + 1) < 2 * n - k; omega)⟩ ⟨⟨rfl, rfl, rfl, rfl, rfl, rfl, trivial⟩, ⟨rfl, rfl, rfl, trivial⟩, rfl⟩))

theorem s_lawFlipB (s : Int) (m : List Nat) (bs : List Bool) (hm : m.length = 16) (hb : ∀ x ∈ m, x < 256) (hbs : bs.length = 16) : Spec Try.prog n_l_FnExactFlipBlobbed [bV s m bs] [] (vb true) [] := by
  have h1 := s_sFlipB s m bs hm hb hbs
  have h2 := s_iFlipB s m bs hm hb hbs
  have ht := s_toBl s m bs hm hbs
  obtain ⟨hl, hl2⟩ := fbR_len s m bs
  generalize fbR s m bs = p at h1 h2 hl hl2
  have he := s_eqBl p.1 p.2.1 p.2.2.1 hl hl2
  refine SpecW.of_EV hf_l_FnExactFlipBlobbed hc_l_FnExactFlipBlobbed rfl rfl rfl fun w0 B ρ0 _ => ?_
  (repeat' (first | refine (ht).pure rfl ?_ | refine (h1).pure rfl ?_ | refine (h2).pure rfl ?_ | refine (he).pure rfl ?_ | refine Exists.intro (bcB s m bs) (And.intro ⟨bcB_len hm hbs, bcB_all hm hbs⟩ ?_) | refine Exists.intro (bcB p.1 p.2.1 p.2.2.1) (And.intro ⟨bcB_len hl hl2, bcB_all hl hl2⟩ ?_) | refine And.intro ⟨bcB_len hl hl2, leR rfl, bcB_ones⟩ ?_ | refine Exists.intro (bcB p.1 p.2.1 p.2.2.1) (And.intro ⟨leR rfl, spl0 (leR rfl)⟩ ?_) | refine And.intro (fun _ => ?_) (fun h => absurd rfl h) | refine And.intro (neI rfl) ?_ | refine And.intro ⟨rfl, leR rfl, onesR rfl⟩ ?_ | refine And.intro ⟨rfl, leR rfl⟩ ?_ | refine draw_rule2 hfol (fun KK hKK => ?_) | refine hKK _ _ _ (by kernel_rfl) ?_ | refine region_rule (fun KK hKK => ?_) | refine hKK _ _ ?_ | refine And.intro (Eq.refl true) ?_ | refine Exists.intro _ (And.intro (wI (by omega)) ?_) | refine Exists.intro _ (And.intro (wU (by omega)) ?_) | refine Exists.intro _ (And.intro ⟨rfl, by omega⟩ ?_) | refine Exists.intro _ (And.intro rfl ?_) | refine And.intro rfl ?_ | refine And.intro ⟨rfl, rfl⟩ ?_ | ((refine And.intro (fun _ => ?_) (fun _ => ?_)) <;> try (exfalso; omega))))
  exact finP rfl
end Go.Proofs.Ytcibbadioijmcaa.VE
