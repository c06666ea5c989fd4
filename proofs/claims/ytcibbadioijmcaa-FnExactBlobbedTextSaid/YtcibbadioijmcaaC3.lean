/- Contracts of functions of the given program, for all arguments that the contract names; see each theorem. -/
import Derived.Test.YtcibbadioijmcaaC2
set_option linter.all false
namespace Go.Proofs.Ytcibbadioijmcaa.VE
open Go
set_option maxHeartbeats 800000
set_option maxRecDepth 100000

theorem s_indexN (l : List Nat) (x : Nat) (hl : l.length ≤ 1000) : ∃ r : Int, decide (r ≥ 0) = decide (x ∈ l) ∧ Spec Try.prog n_g_Index_int [.sl 0, vi x] [.pr T_int 1 l.length (nl l)] (vi r) [.pr T_int 1 l.length (nl l)] := by
  have hex : ∃ r : Int, (∃ p, p < l.length ∧ l.getD p 0 = x ∧ r = p ∧ ∀ q, q < p → l.getD q 0 ≠ x) ∨ (r = -1 ∧ ∀ q, q < l.length → l.getD q 0 ≠ x) := by
    have : ∀ d, d ≤ l.length → (∃ p, p < d ∧ l.getD p 0 = x ∧ ∀ q, q < p → l.getD q 0 ≠ x) ∨ ∀ q, q < d → l.getD q 0 ≠ x := by
      intro d
      induction d with
      | zero => exact fun _ => .inr fun q hq => by omega
      | succ d ih =>
        intro hd
        rcases ih (by omega) with ⟨p, h1, h2⟩ | h
        · exact .inl ⟨p, by omega, h2⟩
        · by_cases hx : l.getD d 0 = x
          · exact .inl ⟨d, by omega, hx, h⟩
          · refine .inr fun q hq => ?_
            by_cases hqd : q = d
            · subst hqd; exact hx
            · exact h q (by omega)
    rcases this l.length (Nat.le_refl _) with ⟨p, h1, h2, h3⟩ | h
    · exact ⟨p, .inl ⟨p, h1, h2, rfl, h3⟩⟩
    · exact ⟨-1, .inr ⟨rfl, h⟩⟩
  obtain ⟨r, hr⟩ := hex
  have hmem : x ∈ l ↔ ∃ p, p < l.length ∧ l.getD p 0 = x := by
    rw [List.mem_iff_getElem]
    constructor
    · rintro ⟨p, hp, e⟩; exact ⟨p, hp, by simp [List.getD_eq_getElem?_getD, hp, e]⟩
    · rintro ⟨p, hp, e⟩; exact ⟨p, hp, by simpa [List.getD_eq_getElem?_getD, hp] using e⟩
  refine ⟨r, ?_, ?_⟩
  · rcases hr with ⟨p, h1, h2, rfl, _⟩ | ⟨rfl, h⟩
    · rw [decide_eq_true (hmem.2 ⟨p, h1, h2⟩)]; exact decide_eq_true (by omega)
    · rw [decide_eq_false (p := x ∈ l) (fun hx => by obtain ⟨p, h1, h2⟩ := hmem.1 hx; exact h p h1 h2)]; rfl
  refine SpecW.of_EV hf_g_Index_int hc_g_Index_int rfl rfl rfl fun w0 B ρ0 _ => ?_
  (repeat' (first | refine And.intro (neI rfl) ?_ | refine And.intro ⟨rfl, leR rfl, onesR rfl⟩ ?_ | refine And.intro ⟨rfl, leR rfl⟩ ?_ | refine draw_rule2 hfol (fun KK hKK => ?_) | refine hKK _ _ _ (by kernel_rfl) ?_ | refine region_rule (fun KK hKK => ?_) | refine hKK _ _ ?_ | refine And.intro (Eq.refl true) ?_ | refine Exists.intro _ (And.intro (wI (by omega)) ?_) | refine Exists.intro _ (And.intro (wU (by omega)) ?_) | refine Exists.intro _ (And.intro ⟨rfl, by omega⟩ ?_) | refine Exists.intro _ (And.intro rfl ?_) | refine And.intro rfl ?_ | refine And.intro ⟨rfl, rfl⟩ ?_ | ((refine And.intro (fun _ => ?_) (fun _ => ?_)) <;> try (exfalso; omega))))
  refine loop_rule (α := Nat) (fun i => i ≤ l.length ∧ ∀ q, q < i → l.getD q 0 ≠ x)
      (fun i => [(0, .sl 0), (1, vi x), (7, vi l.length), (8, vi i)]) (fun _ => [.pr T_int 1 l.length (nl l)]) (fun i => l.length - i) 0 [0]
      ⟨by omega, fun q hq => by omega⟩ ⟨⟨rfl, rfl, rfl, rfl, trivial⟩, ⟨rfl, trivial⟩, rfl⟩ ?_
  rintro i g ⟨hi, hno⟩
  by_cases h9 : i = l.length
  · have : r = -1 := by
      rcases hr with ⟨p, h1, h2, _⟩ | ⟨h, _⟩
      · exact absurd h2 (hno p (by omega))
      · exact h
    subst this
    subst h9
    (repeat' (first | refine And.intro (neI rfl) ?_ | refine And.intro ⟨rfl, leR rfl, onesR rfl⟩ ?_ | refine And.intro ⟨rfl, leR rfl⟩ ?_ | refine draw_rule2 hfol (fun KK hKK => ?_) | refine hKK _ _ _ (by kernel_rfl) ?_ | refine region_rule (fun KK hKK => ?_) | refine hKK _ _ ?_ | refine And.intro (Eq.refl true) ?_ | refine Exists.intro _ (And.intro (wI (by omega)) ?_) | refine Exists.intro _ (And.intro (wU (by omega)) ?_) | refine Exists.intro _ (And.intro ⟨rfl, by omega⟩ ?_) | refine Exists.intro _ (And.intro rfl ?_) | refine And.intro rfl ?_ | refine And.intro ⟨rfl, rfl⟩ ?_ | ((refine And.intro (fun _ => ?_) (fun _ => ?_)) <;> try (exfalso; omega))))
    exact Exists.intro [0] (And.intro (rfl) (And.intro ⟨rfl, trivial⟩ rfl))
  have hil : i < l.length := by omega
  have hat := nl_at hil
  by_cases hx : l.getD i 0 = x
  · have hri : r = i := by
      rcases hr with ⟨p, h1, h2, h3, h4⟩ | ⟨_, h⟩
      · rcases Nat.lt_trichotomy p i with h | h | h
        · exact absurd h2 (hno p h)
        · rw [h3, h]
        · exact absurd hx (h4 i h)
      · exact absurd hx (h i hil)
    subst hri
    (repeat' (first | refine Exists.intro _ (And.intro hat ?_) | refine And.intro (neI rfl) ?_ | refine And.intro ⟨rfl, leR rfl, onesR rfl⟩ ?_ | refine And.intro ⟨rfl, leR rfl⟩ ?_ | refine draw_rule2 hfol (fun KK hKK => ?_) | refine hKK _ _ _ (by kernel_rfl) ?_ | refine region_rule (fun KK hKK => ?_) | refine hKK _ _ ?_ | refine And.intro (Eq.refl true) ?_ | refine Exists.intro _ (And.intro (wI (by omega)) ?_) | refine Exists.intro _ (And.intro (wU (by omega)) ?_) | refine Exists.intro _ (And.intro ⟨rfl, by omega⟩ ?_) | refine Exists.intro _ (And.intro rfl ?_) | refine And.intro rfl ?_ | refine And.intro ⟨rfl, rfl⟩ ?_ | ((refine And.intro (fun _ => ?_) (fun _ => ?_)) <;> try (exfalso; omega))))
    exact Exists.intro [0] (And.intro (rfl) (And.intro ⟨rfl, trivial⟩ rfl))
  · (repeat' (first | refine Exists.intro _ (And.intro hat ?_) | refine And.intro (neI rfl) ?_ | refine And.intro ⟨rfl, leR rfl, onesR rfl⟩ ?_ | refine And.intro ⟨rfl, leR rfl⟩ ?_ | refine draw_rule2 hfol (fun KK hKK => ?_) | refine hKK _ _ _ (by kernel_rfl) ?_ | refine region_rule (fun KK hKK => ?_) | refine hKK _ _ ?_ | refine And.intro (Eq.refl true) ?_ | refine Exists.intro _ (And.intro (wI (by omega)) ?_) | refine Exists.intro _ (And.intro (wU (by omega)) ?_) | refine Exists.intro _ (And.intro ⟨rfl, by omega⟩ ?_) | refine Exists.intro _ (And.intro rfl ?_) | refine And.intro rfl ?_ | refine And.intro ⟨rfl, rfl⟩ ?_ | ((refine And.intro (fun _ => ?_) (fun _ => ?_)) <;> try (exfalso; omega))))
    refine Exists.intro (i + 1) (Exists.intro [0] (And.intro ⟨⟨by omega, fun q hq => ?_⟩, (by show l.length - (i + 1) < l.length - i; omega)⟩ ⟨⟨rfl, rfl, rfl, rfl, trivial⟩, ⟨rfl, trivial⟩, rfl⟩))
    by_cases hqi : q = i
    · subst hqi; exact hx
    · exact hno q (by omega)
theorem s_containsN (l : List Nat) (x : Nat) (hl : l.length ≤ 1000) : Spec Try.prog n_g_Contains_int [.sl 0, vi x] [.pr T_int 1 l.length (nl l)] (vb (decide (x ∈ l))) [.pr T_int 1 l.length (nl l)] := by
  obtain ⟨r, hr, hc⟩ := s_indexN l x hl
  rw [← hr]
  refine SpecW.of_EV hf_g_Contains_int hc_g_Contains_int rfl rfl rfl fun w0 B ρ0 _ => ?_
  (repeat' (first | refine (hc).read [0] rfl ⟨rfl, trivial⟩ ?_ | refine And.intro (neI rfl) ?_ | refine And.intro ⟨rfl, leR rfl, onesR rfl⟩ ?_ | refine And.intro ⟨rfl, leR rfl⟩ ?_ | refine draw_rule2 hfol (fun KK hKK => ?_) | refine hKK _ _ _ (by kernel_rfl) ?_ | refine region_rule (fun KK hKK => ?_) | refine hKK _ _ ?_ | refine And.intro (Eq.refl true) ?_ | refine Exists.intro _ (And.intro (wI (by omega)) ?_) | refine Exists.intro _ (And.intro (wU (by omega)) ?_) | refine Exists.intro _ (And.intro ⟨rfl, by omega⟩ ?_) | refine Exists.intro _ (And.intro rfl ?_) | refine And.intro rfl ?_ | refine And.intro ⟨rfl, rfl⟩ ?_ | ((refine And.intro (fun _ => ?_) (fun _ => ?_)) <;> try (exfalso; omega))))
  all_goals exact Exists.intro [0] (And.intro (vbR (by first | rw [decide_eq_true (by omega)] | rw [decide_eq_false (by omega)])) (And.intro ⟨rfl, trivial⟩ rfl))

def okAt (n : Nat) (m : List Nat) (bs : List Bool) (i : Nat) : Prop := bs.getD i false = true → i < 2 * n ∧ bs.getD (m.getD i 0) false = true ∧ (oB n m (2 * n)).getD i false = true
instance {n : Nat} {m : List Nat} {bs : List Bool} {i : Nat} : Decidable (okAt n m bs i) := by unfold okAt; infer_instance
def blI (n : Nat) (m : List Nat) (bs : List Bool) : Nat → Nat → Bool
  | 0, _ => true
  | d + 1, i => if okAt n m bs i then blI n m bs d (i + 1) else false
theorem blI_true {n : Nat} {m : List Nat} {bs : List Bool} : ∀ d i, blI n m bs d i = true ↔ ∀ j, i ≤ j → j < i + d → okAt n m bs j
  | 0, i => by simp [blI]; omega
  | d + 1, i => by
    unfold blI
    split
    · rename_i h
      rw [blI_true d (i + 1)]
      constructor
      · intro hh j h1 h2
        by_cases hj : j = i
        · subst hj; exact h
        · exact hh j (by omega) (by omega)
      · intro hh j h1 h2; exact hh j (by omega) (by omega)
    · rename_i h
      simp only [Bool.false_eq_true, false_iff]
      exact fun hh => h (hh i (Nat.le_refl _) (by omega))
def isBl (s : Int) (m : List Nat) (bs : List Bool) : Bool := isDi s m && blI s.toNat m bs 16 0

theorem s_sIsBl (s : Int) (m : List Nat) (bs : List Bool) (hm : m.length = 16) (hb : ∀ x ∈ m, x < 256) (hbs : bs.length = 16) : Spec Try.prog n_s_l09Is [bV s m bs] [] (vb (isBl s m bs)) [] := by
  have hq := s_sIs' s m hm hb
  refine SpecW.of_EV hf_s_l09Is hc_s_l09Is rfl rfl rfl fun w0 B ρ0 _ => ?_
  cases hv : isDi s m with
  | false =>
    rw [hv] at hq
    (repeat' (first | refine (hq).pure rfl ?_ | refine Exists.intro (pcl s m) (And.intro ⟨pcl_len hm, bcB_dia hm hbs⟩ ?_) | refine And.intro (neI rfl) ?_ | refine And.intro ⟨rfl, leR rfl, onesR rfl⟩ ?_ | refine And.intro ⟨rfl, leR rfl⟩ ?_ | refine draw_rule2 hfol (fun KK hKK => ?_) | refine hKK _ _ _ (by kernel_rfl) ?_ | refine region_rule (fun KK hKK => ?_) | refine hKK _ _ ?_ | refine And.intro (Eq.refl true) ?_ | refine Exists.intro _ (And.intro (wI (by omega)) ?_) | refine Exists.intro _ (And.intro (wU (by omega)) ?_) | refine Exists.intro _ (And.intro ⟨rfl, by omega⟩ ?_) | refine Exists.intro _ (And.intro rfl ?_) | refine And.intro rfl ?_ | refine And.intro ⟨rfl, rfl⟩ ?_ | ((refine And.intro (fun _ => ?_) (fun _ => ?_)) <;> try (exfalso; omega))))
    exact finP (vbR (by simp [isBl, hv]))
  | true =>
  rw [hv] at hq
  obtain ⟨n, rfl, hd⟩ := isDi_elim hm hv
  have hn := hd.n8
  have hr : isBl n m bs = blI n m bs 16 0 := by simp [isBl, hv]
  rw [hr]
  generalize hRd : blI n m bs 16 0 = R
  have hop := s_sopen n m hd
  (repeat' (first | refine (hq).pure rfl ?_ | refine (hop).pure rfl ?_ | refine Exists.intro (pcl n m) (And.intro ⟨pcl_len hm, bcB_dia hm hbs⟩ ?_) | refine And.intro ⟨bbl_len oB_len, leR rfl, bbl_ones⟩ ?_ | refine Exists.intro (bbl (oB n m (2 * n))) (And.intro ⟨leR rfl, spl0 (leR rfl)⟩ ?_) | refine And.intro (neI rfl) ?_ | refine And.intro ⟨rfl, leR rfl, onesR rfl⟩ ?_ | refine And.intro ⟨rfl, leR rfl⟩ ?_ | refine draw_rule2 hfol (fun KK hKK => ?_) | refine hKK _ _ _ (by kernel_rfl) ?_ | refine region_rule (fun KK hKK => ?_) | refine hKK _ _ ?_ | refine And.intro (Eq.refl true) ?_ | refine Exists.intro _ (And.intro (wI (by omega)) ?_) | refine Exists.intro _ (And.intro (wU (by omega)) ?_) | refine Exists.intro _ (And.intro ⟨rfl, by omega⟩ ?_) | refine Exists.intro _ (And.intro rfl ?_) | refine And.intro rfl ?_ | refine And.intro ⟨rfl, rfl⟩ ?_ | ((refine And.intro (fun _ => ?_) (fun _ => ?_)) <;> try (exfalso; omega))))
  refine loop_rule (α := Nat) (fun i => i ≤ 16 ∧ blI n m bs (16 - i) i = R)
    (fun i => [(1, .ptr 0 0), (3, .ptr 1 0), (4, vi i)]) (fun i => [.pc (bcB n m bs) T_i_Blobbed, .pc (bbl (oB n m (2 * n))) T_a16q_bool]) (fun i => 16 - i) 0 [0, 1]
    ⟨by omega, hRd⟩ ⟨⟨rfl, rfl, rfl, trivial⟩, ⟨rfl, rfl, trivial⟩, rfl⟩ ?_
  rintro i g ⟨hi, hR⟩
  by_cases h9 : i = 16
  · subst h9
    rw [Nat.sub_self] at hR
    (repeat' (first | refine And.intro (neI rfl) ?_ | refine And.intro ⟨rfl, leR rfl, onesR rfl⟩ ?_ | refine And.intro ⟨rfl, leR rfl⟩ ?_ | refine draw_rule2 hfol (fun KK hKK => ?_) | refine hKK _ _ _ (by kernel_rfl) ?_ | refine region_rule (fun KK hKK => ?_) | refine hKK _ _ ?_ | refine And.intro (Eq.refl true) ?_ | refine Exists.intro _ (And.intro (wI (by omega)) ?_) | refine Exists.intro _ (And.intro (wU (by omega)) ?_) | refine Exists.intro _ (And.intro ⟨rfl, by omega⟩ ?_) | refine Exists.intro _ (And.intro rfl ?_) | refine And.intro rfl ?_ | refine And.intro ⟨rfl, rfl⟩ ?_ | ((refine And.intro (fun _ => ?_) (fun _ => ?_)) <;> try (exfalso; omega))))
    exact finP (vbR (by rw [← hR]; rfl))
  have hil : i < 16 := by omega
  obtain ⟨d, hdd⟩ : ∃ d, 16 - i = d + 1 := ⟨16 - i - 1, by omega⟩
  have hd' : 16 - (i + 1) = d := by omega
  rw [hdd] at hR
  unfold blI at hR
  cases hbi : bs.getD i false with
  | false =>
    rw [if_pos (show okAt n m bs i from fun h => by rw [hbi] at h; cases h)] at hR
    (repeat' (first | refine Exists.intro _ (And.intro (bcB_bat hm hbs hil hbi) ?_) | refine And.intro (neI rfl) ?_ | refine And.intro ⟨rfl, leR rfl, onesR rfl⟩ ?_ | refine And.intro ⟨rfl, leR rfl⟩ ?_ | refine draw_rule2 hfol (fun KK hKK => ?_) | refine hKK _ _ _ (by kernel_rfl) ?_ | refine region_rule (fun KK hKK => ?_) | refine hKK _ _ ?_ | refine And.intro (Eq.refl true) ?_ | refine Exists.intro _ (And.intro (wI (by omega)) ?_) | refine Exists.intro _ (And.intro (wU (by omega)) ?_) | refine Exists.intro _ (And.intro ⟨rfl, by omega⟩ ?_) | refine Exists.intro _ (And.intro rfl ?_) | refine And.intro rfl ?_ | refine And.intro ⟨rfl, rfl⟩ ?_ | ((refine And.intro (fun _ => ?_) (fun _ => ?_)) <;> try (exfalso; omega))))
    refine Exists.intro (i + 1) (Exists.intro [0, 1] (And.intro ⟨⟨by omega, by rw [hd']; exact hR⟩, (by show 16 - (i + 1) < 16 - i; omega)⟩ ⟨⟨rfl, rfl, rfl, trivial⟩, ⟨rfl, rfl, trivial⟩, rfl⟩))
  | true =>
    by_cases hin : i < 2 * n
    rotate_left
    · rw [if_neg (show ¬ okAt n m bs i from fun h => hin (h hbi).1)] at hR
      (repeat' (first | refine Exists.intro _ (And.intro (bcB_bat hm hbs hil hbi) ?_) | refine And.intro (neI rfl) ?_ | refine And.intro ⟨rfl, leR rfl, onesR rfl⟩ ?_ | refine And.intro ⟨rfl, leR rfl⟩ ?_ | refine draw_rule2 hfol (fun KK hKK => ?_) | refine hKK _ _ _ (by kernel_rfl) ?_ | refine region_rule (fun KK hKK => ?_) | refine hKK _ _ ?_ | refine And.intro (Eq.refl true) ?_ | refine Exists.intro _ (And.intro (wI (by omega)) ?_) | refine Exists.intro _ (And.intro (wU (by omega)) ?_) | refine Exists.intro _ (And.intro ⟨rfl, by omega⟩ ?_) | refine Exists.intro _ (And.intro rfl ?_) | refine And.intro rfl ?_ | refine And.intro ⟨rfl, rfl⟩ ?_ | ((refine And.intro (fun _ => ?_) (fun _ => ?_)) <;> try (exfalso; omega))))
      exact finP (vbR hR)
    have hlm := hd.lt i hin
    cases hoi : (oB n m (2 * n)).getD i false with
    | false =>
      rw [if_neg (show ¬ okAt n m bs i from fun h => by have := (h hbi).2.2; rw [hoi] at this; cases this)] at hR
      (repeat' (first | refine Exists.intro _ (And.intro (bcB_bat hm hbs hil hbi) ?_) | refine Exists.intro _ (And.intro (bbl_at (by rw [oB_len]; omega) hoi) ?_) | refine And.intro (neI rfl) ?_ | refine And.intro ⟨rfl, leR rfl, onesR rfl⟩ ?_ | refine And.intro ⟨rfl, leR rfl⟩ ?_ | refine draw_rule2 hfol (fun KK hKK => ?_) | refine hKK _ _ _ (by kernel_rfl) ?_ | refine region_rule (fun KK hKK => ?_) | refine hKK _ _ ?_ | refine And.intro (Eq.refl true) ?_ | refine Exists.intro _ (And.intro (wI (by omega)) ?_) | refine Exists.intro _ (And.intro (wU (by omega)) ?_) | refine Exists.intro _ (And.intro ⟨rfl, by omega⟩ ?_) | refine Exists.intro _ (And.intro rfl ?_) | refine And.intro rfl ?_ | refine And.intro ⟨rfl, rfl⟩ ?_ | ((refine And.intro (fun _ => ?_) (fun _ => ?_)) <;> try (exfalso; omega))))
      exact finP (vbR hR)
    | true =>
      have hml : m.getD i 0 < 16 := by omega
      cases hbm : bs.getD (m.getD i 0) false with
      | false =>
        rw [if_neg (show ¬ okAt n m bs i from fun h => by have := (h hbi).2.1; rw [hbm] at this; cases this)] at hR
        (repeat' (first | refine Exists.intro _ (And.intro (bcB_bat hm hbs hil hbi) ?_) | refine Exists.intro _ (And.intro (bbl_at (by rw [oB_len]; omega) hoi) ?_) | refine Exists.intro _ (And.intro (bcB_at hm hbs hil) ?_) | refine Exists.intro _ (And.intro (bcB_bat hm hbs hml hbm) ?_) | refine And.intro (neI rfl) ?_ | refine And.intro ⟨rfl, leR rfl, onesR rfl⟩ ?_ | refine And.intro ⟨rfl, leR rfl⟩ ?_ | refine draw_rule2 hfol (fun KK hKK => ?_) | refine hKK _ _ _ (by kernel_rfl) ?_ | refine region_rule (fun KK hKK => ?_) | refine hKK _ _ ?_ | refine And.intro (Eq.refl true) ?_ | refine Exists.intro _ (And.intro (wI (by omega)) ?_) | refine Exists.intro _ (And.intro (wU (by omega)) ?_) | refine Exists.intro _ (And.intro ⟨rfl, by omega⟩ ?_) | refine Exists.intro _ (And.intro rfl ?_) | refine And.intro rfl ?_ | refine And.intro ⟨rfl, rfl⟩ ?_ | ((refine And.intro (fun _ => ?_) (fun _ => ?_)) <;> try (exfalso; omega))))
        exact finP (vbR hR)
      | true =>
        rw [if_pos (show okAt n m bs i from fun _ => ⟨hin, hbm, hoi⟩)] at hR
        (repeat' (first | refine Exists.intro _ (And.intro (bcB_bat hm hbs hil hbi) ?_) | refine Exists.intro _ (And.intro (bbl_at (by rw [oB_len]; omega) hoi) ?_) | refine Exists.intro _ (And.intro (bcB_at hm hbs hil) ?_) | refine Exists.intro _ (And.intro (bcB_bat hm hbs hml hbm) ?_) | refine And.intro (neI rfl) ?_ | refine And.intro ⟨rfl, leR rfl, onesR rfl⟩ ?_ | refine And.intro ⟨rfl, leR rfl⟩ ?_ | refine draw_rule2 hfol (fun KK hKK => ?_) | refine hKK _ _ _ (by kernel_rfl) ?_ | refine region_rule (fun KK hKK => ?_) | refine hKK _ _ ?_ | refine And.intro (Eq.refl true) ?_ | refine Exists.intro _ (And.intro (wI (by omega)) ?_) | refine Exists.intro _ (And.intro (wU (by omega)) ?_) | refine Exists.intro _ (And.intro ⟨rfl, by omega⟩ ?_) | refine Exists.intro _ (And.intro rfl ?_) | refine And.intro rfl ?_ | refine And.intro ⟨rfl, rfl⟩ ?_ | ((refine And.intro (fun _ => ?_) (fun _ => ?_)) <;> try (exfalso; omega))))
        refine Exists.intro (i + 1) (Exists.intro [0, 1] (And.intro ⟨⟨by omega, by rw [hd']; exact hR⟩, (by show 16 - (i + 1) < 16 - i; omega)⟩ ⟨⟨rfl, rfl, rfl, trivial⟩, ⟨rfl, rfl, trivial⟩, rfl⟩))

theorem s_iIsBl (s : Int) (m : List Nat) (bs : List Bool) (hm : m.length = 16) (hb : ∀ x ∈ m, x < 256) (hbs : bs.length = 16) : Spec Try.prog n_i_IsBlobbed [bV s m bs] [] (vb (isBl s m bs)) [] := by
  have hq := s_iIsD s m hm hb
  refine SpecW.of_EV hf_i_IsBlobbed hc_i_IsBlobbed rfl rfl rfl fun w0 B ρ0 _ => ?_
  cases hv : isDi s m with
  | false =>
    rw [hv] at hq
    (repeat' (first | refine (hq).pure rfl ?_ | refine Exists.intro (pcl s m) (And.intro ⟨pcl_len hm, bcB_dia hm hbs⟩ ?_) | refine And.intro (neI rfl) ?_ | refine And.intro ⟨rfl, leR rfl, onesR rfl⟩ ?_ | refine And.intro ⟨rfl, leR rfl⟩ ?_ | refine draw_rule2 hfol (fun KK hKK => ?_) | refine hKK _ _ _ (by kernel_rfl) ?_ | refine region_rule (fun KK hKK => ?_) | refine hKK _ _ ?_ | refine And.intro (Eq.refl true) ?_ | refine Exists.intro _ (And.intro (wI (by omega)) ?_) | refine Exists.intro _ (And.intro (wU (by omega)) ?_) | refine Exists.intro _ (And.intro ⟨rfl, by omega⟩ ?_) | refine Exists.intro _ (And.intro rfl ?_) | refine And.intro rfl ?_ | refine And.intro ⟨rfl, rfl⟩ ?_ | ((refine And.intro (fun _ => ?_) (fun _ => ?_)) <;> try (exfalso; omega))))
    exact finP (vbR (by simp [isBl, hv]))
  | true =>
  rw [hv] at hq
  obtain ⟨n, rfl, hd⟩ := isDi_elim hm hv
  have hn := hd.n8
  have hr : isBl n m bs = blI n m bs 16 0 := by simp [isBl, hv]
  rw [hr]
  generalize hRd : blI n m bs 16 0 = R
  have hop := s_open n m (bbl bs) T_i_Blobbed hd
  have hol := opL_len (q := qq n m) (2 * n)
  (repeat' (first | refine (hq).pure rfl ?_ | refine (s_nG n m (bbl bs) T_i_Blobbed).read [0] rfl ⟨rfl, trivial⟩ ?_ | refine (hop).make [0] rfl ⟨rfl, trivial⟩ ?_ | refine Exists.intro (pcl n m) (And.intro ⟨pcl_len hm, bcB_dia hm hbs⟩ ?_) | refine Exists.intro (bbl bs) (And.intro ⟨bbl_len hbs, bcB_blo hm hbs⟩ ?_) | refine And.intro (neI rfl) ?_ | refine And.intro ⟨rfl, leR rfl, onesR rfl⟩ ?_ | refine And.intro ⟨rfl, leR rfl⟩ ?_ | refine draw_rule2 hfol (fun KK hKK => ?_) | refine hKK _ _ _ (by kernel_rfl) ?_ | refine region_rule (fun KK hKK => ?_) | refine hKK _ _ ?_ | refine And.intro (Eq.refl true) ?_ | refine Exists.intro _ (And.intro (wI (by omega)) ?_) | refine Exists.intro _ (And.intro (wU (by omega)) ?_) | refine Exists.intro _ (And.intro ⟨rfl, by omega⟩ ?_) | refine Exists.intro _ (And.intro rfl ?_) | refine And.intro rfl ?_ | refine And.intro ⟨rfl, rfl⟩ ?_ | ((refine And.intro (fun _ => ?_) (fun _ => ?_)) <;> try (exfalso; omega))))
  refine loop_rule (α := Nat) (fun i => i ≤ 16 ∧ blI n m bs (16 - i) i = R)
    (fun i => [(1, .ptr 0 0), (3, vi n), (4, .sl 1), (17, .raw (.agg (bbl bs).toArray)), (18, vi i)]) (fun i => [.pc (bcB n m bs) T_i_Blobbed, .pr T_int 1 (opL (qq n m) (2 * n)).length (nl (opL (qq n m) (2 * n)))]) (fun i => 16 - i) 0 [0, 1]
    ⟨by omega, hRd⟩ ⟨⟨rfl, rfl, rfl, rfl, rfl, trivial⟩, ⟨rfl, rfl, trivial⟩, rfl⟩ ?_
  rintro i g ⟨hi, hR⟩
  by_cases h9 : i = 16
  · subst h9
    rw [Nat.sub_self] at hR
    (repeat' (first | refine And.intro (neI rfl) ?_ | refine And.intro ⟨rfl, leR rfl, onesR rfl⟩ ?_ | refine And.intro ⟨rfl, leR rfl⟩ ?_ | refine draw_rule2 hfol (fun KK hKK => ?_) | refine hKK _ _ _ (by kernel_rfl) ?_ | refine region_rule (fun KK hKK => ?_) | refine hKK _ _ ?_ | refine And.intro (Eq.refl true) ?_ | refine Exists.intro _ (And.intro (wI (by omega)) ?_) | refine Exists.intro _ (And.intro (wU (by omega)) ?_) | refine Exists.intro _ (And.intro ⟨rfl, by omega⟩ ?_) | refine Exists.intro _ (And.intro rfl ?_) | refine And.intro rfl ?_ | refine And.intro ⟨rfl, rfl⟩ ?_ | ((refine And.intro (fun _ => ?_) (fun _ => ?_)) <;> try (exfalso; omega))))
    exact finP (vbR (by rw [← hR]; rfl))
  have hil : i < 16 := by omega
  obtain ⟨d, hdd⟩ : ∃ d, 16 - i = d + 1 := ⟨16 - i - 1, by omega⟩
  have hd' : 16 - (i + 1) = d := by omega
  rw [hdd] at hR
  unfold blI at hR
  cases hbi : bs.getD i false with
  | false =>
    rw [if_pos (show okAt n m bs i from fun h => by rw [hbi] at h; cases h)] at hR
    (repeat' (first | refine Exists.intro _ (And.intro (bbl_at (by omega) hbi) ?_) | refine And.intro (neI rfl) ?_ | refine And.intro ⟨rfl, leR rfl, onesR rfl⟩ ?_ | refine And.intro ⟨rfl, leR rfl⟩ ?_ | refine draw_rule2 hfol (fun KK hKK => ?_) | refine hKK _ _ _ (by kernel_rfl) ?_ | refine region_rule (fun KK hKK => ?_) | refine hKK _ _ ?_ | refine And.intro (Eq.refl true) ?_ | refine Exists.intro _ (And.intro (wI (by omega)) ?_) | refine Exists.intro _ (And.intro (wU (by omega)) ?_) | refine Exists.intro _ (And.intro ⟨rfl, by omega⟩ ?_) | refine Exists.intro _ (And.intro rfl ?_) | refine And.intro rfl ?_ | refine And.intro ⟨rfl, rfl⟩ ?_ | ((refine And.intro (fun _ => ?_) (fun _ => ?_)) <;> try (exfalso; omega))))
    refine Exists.intro (i + 1) (Exists.intro [0, 1] (And.intro ⟨⟨by omega, by rw [hd']; exact hR⟩, (by show 16 - (i + 1) < 16 - i; omega)⟩ ⟨⟨rfl, rfl, rfl, rfl, rfl, trivial⟩, ⟨rfl, rfl, trivial⟩, rfl⟩))
  | true =>
    by_cases hin : i < 2 * n
    rotate_left
    · rw [if_neg (show ¬ okAt n m bs i from fun h => hin (h hbi).1)] at hR
      (repeat' (first | refine Exists.intro _ (And.intro (bbl_at (by omega) hbi) ?_) | refine And.intro (neI rfl) ?_ | refine And.intro ⟨rfl, leR rfl, onesR rfl⟩ ?_ | refine And.intro ⟨rfl, leR rfl⟩ ?_ | refine draw_rule2 hfol (fun KK hKK => ?_) | refine hKK _ _ _ (by kernel_rfl) ?_ | refine region_rule (fun KK hKK => ?_) | refine hKK _ _ ?_ | refine And.intro (Eq.refl true) ?_ | refine Exists.intro _ (And.intro (wI (by omega)) ?_) | refine Exists.intro _ (And.intro (wU (by omega)) ?_) | refine Exists.intro _ (And.intro ⟨rfl, by omega⟩ ?_) | refine Exists.intro _ (And.intro rfl ?_) | refine And.intro rfl ?_ | refine And.intro ⟨rfl, rfl⟩ ?_ | ((refine And.intro (fun _ => ?_) (fun _ => ?_)) <;> try (exfalso; omega))))
      exact finP (vbR hR)
    have hlm := hd.lt i hin
    have hml : m.getD i 0 < 16 := by omega
    have p1 := plc_lt hin
    have p2 := plc_lt hlm
    cases hbm : bs.getD (m.getD i 0) false with
    | false =>
      rw [if_neg (show ¬ okAt n m bs i from fun h => by have := (h hbi).2.1; rw [hbm] at this; cases this)] at hR
      (repeat' (first | refine Exists.intro _ (And.intro (bbl_at (by omega) hbi) ?_) | refine Exists.intro _ (And.intro (bcB_at hm hbs hil) ?_) | refine Exists.intro _ (And.intro (bcB_bat hm hbs hml hbm) ?_) | refine And.intro (neI rfl) ?_ | refine And.intro ⟨rfl, leR rfl, onesR rfl⟩ ?_ | refine And.intro ⟨rfl, leR rfl⟩ ?_ | refine draw_rule2 hfol (fun KK hKK => ?_) | refine hKK _ _ _ (by kernel_rfl) ?_ | refine region_rule (fun KK hKK => ?_) | refine hKK _ _ ?_ | refine And.intro (Eq.refl true) ?_ | refine Exists.intro _ (And.intro (wI (by omega)) ?_) | refine Exists.intro _ (And.intro (wU (by omega)) ?_) | refine Exists.intro _ (And.intro ⟨rfl, by omega⟩ ?_) | refine Exists.intro _ (And.intro rfl ?_) | refine And.intro rfl ?_ | refine And.intro ⟨rfl, rfl⟩ ?_ | ((refine And.intro (fun _ => ?_) (fun _ => ?_)) <;> try (exfalso; omega))))
      exact finP (vbR hR)
    | true =>
      have c1 := s_iplace n i (by omega) hin
      have c2 := s_iplace n (m.getD i 0) (by omega) hlm
      have hct := s_containsN (opL (qq n m) (2 * n)) (min (plc n i) (plc n (m.getD i 0))) (by omega)
      have hmin : (if ((plc n (m.getD i 0) : Nat) : Int) < ((plc n i : Nat) : Int) then ((plc n (m.getD i 0) : Nat) : Int) else ((plc n i : Nat) : Int)) = ((min (plc n i) (plc n (m.getD i 0)) : Nat) : Int) := by
        split <;> omega
      cases hoi : (oB n m (2 * n)).getD i false with
      | false =>
        rw [if_neg (show ¬ okAt n m bs i from fun h => by have := (h hbi).2.2; rw [hoi] at this; cases this)] at hR
        rw [decide_eq_false (fun h => by have := (open_eq hd hin).2 h; rw [hoi] at this; cases this)] at hct
        (repeat' (first | refine Exists.intro _ (And.intro (bbl_at (by omega) hbi) ?_) | refine Exists.intro _ (And.intro (bcB_at hm hbs hil) ?_) | refine Exists.intro _ (And.intro (bcB_bat hm hbs hml hbm) ?_) | refine (c1).pure rfl ?_ | refine (c2).pure rfl ?_ | refine Exists.intro _ (And.intro hmin ?_) | refine (hct).read [1] rfl ⟨rfl, trivial⟩ ?_ | refine And.intro (neI rfl) ?_ | refine And.intro ⟨rfl, leR rfl, onesR rfl⟩ ?_ | refine And.intro ⟨rfl, leR rfl⟩ ?_ | refine draw_rule2 hfol (fun KK hKK => ?_) | refine hKK _ _ _ (by kernel_rfl) ?_ | refine region_rule (fun KK hKK => ?_) | refine hKK _ _ ?_ | refine And.intro (Eq.refl true) ?_ | refine Exists.intro _ (And.intro (wI (by omega)) ?_) | refine Exists.intro _ (And.intro (wU (by omega)) ?_) | refine Exists.intro _ (And.intro ⟨rfl, by omega⟩ ?_) | refine Exists.intro _ (And.intro rfl ?_) | refine And.intro rfl ?_ | refine And.intro ⟨rfl, rfl⟩ ?_ | ((refine And.intro (fun _ => ?_) (fun _ => ?_)) <;> try (exfalso; omega))))
        exact finP (vbR hR)
      | true =>
        rw [if_pos (show okAt n m bs i from fun _ => ⟨hin, hbm, hoi⟩)] at hR
        rw [decide_eq_true ((open_eq hd hin).1 hoi)] at hct
        (repeat' (first | refine Exists.intro _ (And.intro (bbl_at (by omega) hbi) ?_) | refine Exists.intro _ (And.intro (bcB_at hm hbs hil) ?_) | refine Exists.intro _ (And.intro (bcB_bat hm hbs hml hbm) ?_) | refine (c1).pure rfl ?_ | refine (c2).pure rfl ?_ | refine Exists.intro _ (And.intro hmin ?_) | refine (hct).read [1] rfl ⟨rfl, trivial⟩ ?_ | refine And.intro (neI rfl) ?_ | refine And.intro ⟨rfl, leR rfl, onesR rfl⟩ ?_ | refine And.intro ⟨rfl, leR rfl⟩ ?_ | refine draw_rule2 hfol (fun KK hKK => ?_) | refine hKK _ _ _ (by kernel_rfl) ?_ | refine region_rule (fun KK hKK => ?_) | refine hKK _ _ ?_ | refine And.intro (Eq.refl true) ?_ | refine Exists.intro _ (And.intro (wI (by omega)) ?_) | refine Exists.intro _ (And.intro (wU (by omega)) ?_) | refine Exists.intro _ (And.intro ⟨rfl, by omega⟩ ?_) | refine Exists.intro _ (And.intro rfl ?_) | refine And.intro rfl ?_ | refine And.intro ⟨rfl, rfl⟩ ?_ | ((refine And.intro (fun _ => ?_) (fun _ => ?_)) <;> try (exfalso; omega))))
        refine Exists.intro (i + 1) (Exists.intro [0, 1] (And.intro ⟨⟨by omega, by rw [hd']; exact hR⟩, (by show 16 - (i + 1) < 16 - i; omega)⟩ ⟨⟨rfl, rfl, rfl, rfl, rfl, trivial⟩, ⟨rfl, rfl, trivial⟩, rfl⟩))

theorem s_sIsBlobbed (s : Int) (m : List Nat) (bs : List Bool) (hm : m.length = 16) (hb : ∀ x ∈ m, x < 256) (hbs : bs.length = 16) : Spec Try.prog n_s_IsBlobbed [bV s m bs] [] (vb (isBl s m bs)) [] := by
  have hq := s_sIsBl s m bs hm hb hbs
  refine SpecW.of_EV hf_s_IsBlobbed hc_s_IsBlobbed rfl rfl rfl fun w0 B ρ0 _ => ?_
  (repeat' (first | refine (hq).pure rfl ?_ | refine Exists.intro (bcB s m bs) (And.intro ⟨bcB_len hm hbs, bcB_all hm hbs⟩ ?_) | refine And.intro (neI rfl) ?_ | refine And.intro ⟨rfl, leR rfl, onesR rfl⟩ ?_ | refine And.intro ⟨rfl, leR rfl⟩ ?_ | refine draw_rule2 hfol (fun KK hKK => ?_) | refine hKK _ _ _ (by kernel_rfl) ?_ | refine region_rule (fun KK hKK => ?_) | refine hKK _ _ ?_ | refine And.intro (Eq.refl true) ?_ | refine Exists.intro _ (And.intro (wI (by omega)) ?_) | refine Exists.intro _ (And.intro (wU (by omega)) ?_) | refine Exists.intro _ (And.intro ⟨rfl, by omega⟩ ?_) | refine Exists.intro _ (And.intro rfl ?_) | refine And.intro rfl ?_ | refine And.intro ⟨rfl, rfl⟩ ?_ | ((refine And.intro (fun _ => ?_) (fun _ => ?_)) <;> try (exfalso; omega))))
  exact finP rfl
theorem s_lawIsBl (s : Int) (m : List Nat) (bs : List Bool) (hm : m.length = 16) (hb : ∀ x ∈ m, x < 256) (hbs : bs.length = 16) : Spec Try.prog n_l_FnExactIsBlobbed [bV s m bs] [] (vb true) [] := by
  have h1 := s_sIsBlobbed s m bs hm hb hbs
  have h2 := s_iIsBl s m bs hm hb hbs
  have ht := s_toBl s m bs hm hbs
  generalize isBl s m bs = q at h1 h2
  refine SpecW.of_EV hf_l_FnExactIsBlobbed hc_l_FnExactIsBlobbed rfl rfl rfl fun w0 B ρ0 _ => ?_
  cases q <;>
  · (repeat' (first | refine (ht).pure rfl ?_ | refine (h1).pure rfl ?_ | refine (h2).pure rfl ?_ | refine Exists.intro (bcB s m bs) (And.intro ⟨bcB_len hm hbs, bcB_all hm hbs⟩ ?_) | refine And.intro (neI rfl) ?_ | refine And.intro ⟨rfl, leR rfl, onesR rfl⟩ ?_ | refine And.intro ⟨rfl, leR rfl⟩ ?_ | refine draw_rule2 hfol (fun KK hKK => ?_) | refine hKK _ _ _ (by kernel_rfl) ?_ | refine region_rule (fun KK hKK => ?_) | refine hKK _ _ ?_ | refine And.intro (Eq.refl true) ?_ | refine Exists.intro _ (And.intro (wI (by omega)) ?_) | refine Exists.intro _ (And.intro (wU (by omega)) ?_) | refine Exists.intro _ (And.intro ⟨rfl, by omega⟩ ?_) | refine Exists.intro _ (And.intro rfl ?_) | refine And.intro rfl ?_ | refine And.intro ⟨rfl, rfl⟩ ?_ | ((refine And.intro (fun _ => ?_) (fun _ => ?_)) <;> try (exfalso; omega))))
    exact finP rfl
end Go.Proofs.Ytcibbadioijmcaa.VE
