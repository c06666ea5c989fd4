/- Contracts of functions of the given program, for all arguments that the contract names; see each theorem. -/
import Derived.Test.YtgpgcdofhkpeaaaU3
set_option linter.all false
namespace Go.Proofs.Ytgpgcdofhkpeaaa.VE
open Go
set_option maxHeartbeats 800000
set_option maxRecDepth 100000

def rdR (n : Nat) (bs : ByteArray) : Int × List Nat × Bool := match pm (tb bs) bs.size 0 [] (fun _ => 0) with
  | some ([], o) => (n, jD n o (2 * n), true)
  | _ => (0, List.replicate 16 0, false)
theorem rdR_len (n : Nat) (bs : ByteArray) : (rdR n bs).2.1.length = 16 := by
  unfold rdR; split
  · exact jD_len _
  · simp
abbrev dbV (p : Int × List Nat × Bool) : V := .tup [pv p.1 p.2.1, vb p.2.2]

theorem s_read (n : Nat) (bs : ByteArray) (hn1 : 1 ≤ n) (hn : n ≤ 8) (hs : bs.size = 2 * n) : Spec Try.prog n_i_read [.raw (.string bs)] [] (dbV (rdR n bs)) [] := by
  have hin := s_iin bs.size 2 16
  rw [decide_eq_true (by omega)] at hin
  have e1 : Int.tmod (bs.size : Int) 2 = 0 := by rw [tm2]; omega
  have e2 : IntKind.i64.wrap (Int.tdiv (bs.size : Int) 2) = (n : Int) := by rw [td2, show bs.size / 2 = n by omega]; exact wI (by omega)
  cases hp : pm (tb bs) bs.size 0 [] (fun _ => 0) with
  | none =>
    have hr : rdR n bs = (0, List.replicate 16 0, false) := by simp [rdR, hp]
    have hq := s_partners0 bs (by omega) hp
    refine SpecW.of_EV hf_i_read hc_i_read rfl rfl rfl fun w0 B ρ0 _ => ?_
    (repeat' (first | refine hin.pure rfl ?_ | refine Exists.intro 0 (And.intro e1 ?_) | refine hq.pure rfl ?_ | refine Exists.intro (pcl 0 (List.replicate 16 0)) (And.intro ⟨leR rfl, rfl⟩ ?_) | refine Exists.intro (pcl 0 (List.replicate 16 0)) (And.intro ⟨rfl, rfl⟩ ?_) | refine And.intro (neI rfl) ?_ | refine And.intro ⟨rfl, leR rfl, onesR rfl⟩ ?_ | refine And.intro ⟨rfl, leR rfl⟩ ?_ | refine draw_rule2 hfol (fun KK hKK => ?_) | refine hKK _ _ _ (by kernel_rfl) ?_ | refine region_rule (fun KK hKK => ?_) | refine hKK _ _ ?_ | refine And.intro (Eq.refl true) ?_ | refine Exists.intro _ (And.intro (wI (by omega)) ?_) | refine Exists.intro _ (And.intro (wU (by omega)) ?_) | refine Exists.intro _ (And.intro ⟨rfl, by omega⟩ ?_) | refine Exists.intro _ (And.intro rfl ?_) | refine And.intro rfl ?_ | refine And.intro ⟨rfl, rfl⟩ ?_ | ((refine And.intro (fun _ => ?_) (fun _ => ?_)) <;> try (exfalso; omega))))
    exact Exists.intro [] (And.intro (by rw [hr]; rfl) (And.intro trivial rfl))
  | some p =>
    obtain ⟨st, o⟩ := p
    have hq := s_partners bs (by omega) st o hp
    cases st with
    | nil =>
      have hr : rdR n bs = ((n : Int), jD n o (2 * n), true) := by simp [rdR, hp]
      obtain ⟨⟨hpl, _⟩, _⟩ := pm_planar hp
      rw [hs] at hq hpl
      have hj := s_joined n o hn1 hn fun j hj => (hpl j hj).1
      refine SpecW.of_EV hf_i_read hc_i_read rfl rfl rfl fun w0 B ρ0 _ => ?_
      (repeat' (first | refine hin.pure rfl ?_ | refine Exists.intro 0 (And.intro e1 ?_) | refine Exists.intro _ (And.intro e2 ?_) | refine hq.make [] rfl trivial ?_ | refine hj.read [1] rfl ⟨rfl, trivial⟩ ?_ | refine And.intro ⟨pcl_len (jD_len _), leR rfl, pcl_ones⟩ ?_ | refine Exists.intro (pcl n (jD n o (2 * n))) (And.intro ⟨leR rfl, spl0 (leR rfl)⟩ ?_) | refine Exists.intro (pcl n (jD n o (2 * n))) (And.intro ⟨pcl_len (jD_len _), pcl_all (jD_len _)⟩ ?_) | refine And.intro (neI rfl) ?_ | refine And.intro ⟨rfl, leR rfl, onesR rfl⟩ ?_ | refine And.intro ⟨rfl, leR rfl⟩ ?_ | refine draw_rule2 hfol (fun KK hKK => ?_) | refine hKK _ _ _ (by kernel_rfl) ?_ | refine region_rule (fun KK hKK => ?_) | refine hKK _ _ ?_ | refine And.intro (Eq.refl true) ?_ | refine Exists.intro _ (And.intro (wI (by omega)) ?_) | refine Exists.intro _ (And.intro (wU (by omega)) ?_) | refine Exists.intro _ (And.intro ⟨rfl, by omega⟩ ?_) | refine Exists.intro _ (And.intro rfl ?_) | refine And.intro rfl ?_ | refine And.intro ⟨rfl, rfl⟩ ?_ | ((refine And.intro (fun _ => ?_) (fun _ => ?_)) <;> try (exfalso; omega))))
      exact Exists.intro [] (And.intro (by rw [hr]; rfl) (And.intro trivial rfl))
    | cons x r =>
      have hr : rdR n bs = (0, List.replicate 16 0, false) := by simp [rdR, hp]
      refine SpecW.of_EV hf_i_read hc_i_read rfl rfl rfl fun w0 B ρ0 _ => ?_
      (repeat' (first | refine hin.pure rfl ?_ | refine Exists.intro 0 (And.intro e1 ?_) | refine hq.make [] rfl trivial ?_ | refine Exists.intro (pcl 0 (List.replicate 16 0)) (And.intro ⟨leR rfl, rfl⟩ ?_) | refine Exists.intro (pcl 0 (List.replicate 16 0)) (And.intro ⟨rfl, rfl⟩ ?_) | refine And.intro (neI rfl) ?_ | refine And.intro ⟨rfl, leR rfl, onesR rfl⟩ ?_ | refine And.intro ⟨rfl, leR rfl⟩ ?_ | refine draw_rule2 hfol (fun KK hKK => ?_) | refine hKK _ _ _ (by kernel_rfl) ?_ | refine region_rule (fun KK hKK => ?_) | refine hKK _ _ ?_ | refine And.intro (Eq.refl true) ?_ | refine Exists.intro _ (And.intro (wI (by omega)) ?_) | refine Exists.intro _ (And.intro (wU (by omega)) ?_) | refine Exists.intro _ (And.intro ⟨rfl, by omega⟩ ?_) | refine Exists.intro _ (And.intro rfl ?_) | refine And.intro rfl ?_ | refine And.intro ⟨rfl, rfl⟩ ?_ | ((refine And.intro (fun _ => ?_) (fun _ => ?_)) <;> try (exfalso; omega))))
      exact Exists.intro [] (And.intro (by rw [hr]; rfl) (And.intro trivial rfl))

theorem eqDg (w : World) {s s' : Int} {m m' : List Nat} (hm : m.length = 16) (hm' : m'.length = 16) : (Op.equalIn 10000 T_i_Diagram (.agg (pcl s m).toArray) (.agg (pcl s' m').toArray)).run Try.prog w = .ok (decide (s = s' ∧ m = m')) w :=
  eq_sized rfl st_i_Diagram rfl rfl rfl rfl rfl rfl rfl rfl rfl rfl rfl hm hm'

def ckI (n : Nat) (m : List Nat) : Nat → Nat → Bool
  | 0, _ => true
  | d + 1, i => if (2 * n ≤ i ∧ m.getD i 0 ≠ 0) ∨ (i < 2 * n ∧ 2 * n ≤ m.getD i 0) then false else ckI n m d (i + 1)
def ckA (n : Nat) (m : List Nat) : Bool := ckI n m 16 0
theorem ckI_true {n : Nat} {m : List Nat} : ∀ d i, ckI n m d i = true ↔ ∀ j, i ≤ j → j < i + d → (2 * n ≤ j → m.getD j 0 = 0) ∧ (j < 2 * n → m.getD j 0 < 2 * n)
  | 0, i => by simp [ckI]; omega
  | d + 1, i => by
    unfold ckI
    split
    · rename_i h
      simp only [Bool.false_eq_true, false_iff]
      intro hh
      have := hh i (Nat.le_refl _) (by omega)
      rcases h with ⟨h1, h2⟩ | ⟨h1, h2⟩
      · exact h2 (this.1 h1)
      · have := this.2 h1; omega
    · rename_i h
      rw [ckI_true d (i + 1)]
      constructor
      · intro hh j h1 h2
        by_cases hj : j = i
        · subst hj
          exact ⟨fun h3 => Decidable.of_not_not fun h4 => h (.inl ⟨h3, h4⟩), fun h3 => Nat.lt_of_not_le fun h4 => h (.inr ⟨h3, h4⟩)⟩
        · exact hh j (by omega) (by omega)
      · intro hh j h1 h2
        exact hh j (by omega) (by omega)

def isDi (s : Int) (m : List Nat) : Bool := decide (1 ≤ s ∧ s ≤ 8) && (ckA s.toNat m && ((rdR s.toNat (brB (qq s.toNat m) (2 * s.toNat))).2.2 && decide ((rdR s.toNat (brB (qq s.toNat m) (2 * s.toNat))).1 = s ∧ (rdR s.toNat (brB (qq s.toNat m) (2 * s.toNat))).2.1 = m)))

theorem s_iIsD (s : Int) (m : List Nat) (hm : m.length = 16) (hb : ∀ x ∈ m, x < 256) : Spec Try.prog n_i_IsDiagram [pv s m] [] (vb (isDi s m)) [] := by
  have hin := s_iin s 1 8
  refine SpecW.of_EV hf_i_IsDiagram hc_i_IsDiagram rfl rfl rfl fun w0 B ρ0 _ => ?_
  by_cases h1 : 1 ≤ s ∧ s ≤ 8
  rotate_left
  · rw [decide_eq_false h1] at hin
    (repeat' (first | refine hin.pure rfl ?_ | refine And.intro (neI rfl) ?_ | refine And.intro ⟨rfl, leR rfl, onesR rfl⟩ ?_ | refine And.intro ⟨rfl, leR rfl⟩ ?_ | refine draw_rule2 hfol (fun KK hKK => ?_) | refine hKK _ _ _ (by kernel_rfl) ?_ | refine region_rule (fun KK hKK => ?_) | refine hKK _ _ ?_ | refine And.intro (Eq.refl true) ?_ | refine Exists.intro _ (And.intro (wI (by omega)) ?_) | refine Exists.intro _ (And.intro (wU (by omega)) ?_) | refine Exists.intro _ (And.intro ⟨rfl, by omega⟩ ?_) | refine Exists.intro _ (And.intro rfl ?_) | refine And.intro rfl ?_ | refine And.intro ⟨rfl, rfl⟩ ?_ | ((refine And.intro (fun _ => ?_) (fun _ => ?_)) <;> try (exfalso; omega))))
    exact finP (vbR (by simp [isDi, h1]))
  rw [decide_eq_true h1] at hin
  obtain ⟨n, rfl⟩ : ∃ n : Nat, s = n := ⟨s.toNat, by omega⟩
  (repeat' (first | refine hin.pure rfl ?_ | refine Exists.intro (bcl m) (And.intro ⟨bcl_len hm, pcl_part hm⟩ ?_) | refine And.intro (neI rfl) ?_ | refine And.intro ⟨rfl, leR rfl, onesR rfl⟩ ?_ | refine And.intro ⟨rfl, leR rfl⟩ ?_ | refine draw_rule2 hfol (fun KK hKK => ?_) | refine hKK _ _ _ (by kernel_rfl) ?_ | refine region_rule (fun KK hKK => ?_) | refine hKK _ _ ?_ | refine And.intro (Eq.refl true) ?_ | refine Exists.intro _ (And.intro (wI (by omega)) ?_) | refine Exists.intro _ (And.intro (wU (by omega)) ?_) | refine Exists.intro _ (And.intro ⟨rfl, by omega⟩ ?_) | refine Exists.intro _ (And.intro rfl ?_) | refine And.intro rfl ?_ | refine And.intro ⟨rfl, rfl⟩ ?_ | ((refine And.intro (fun _ => ?_) (fun _ => ?_)) <;> try (exfalso; omega))))
  refine loop_rule (α := Nat) (fun i => i ≤ 16 ∧ ckI n m (16 - i) i = ckA n m)
    (fun i => [(1, .ptr 0 0), (12, bv m), (13, vi i)]) (fun i => [.pc (pcl n m) T_i_Diagram]) (fun i => 16 - i) 0 [0]
    ⟨by omega, rfl⟩ ⟨⟨rfl, rfl, rfl, trivial⟩, ⟨rfl, trivial⟩, rfl⟩ ?_
  rintro i g ⟨hi, hR⟩
  by_cases h9 : i = 16
  · subst h9
    rw [Nat.sub_self] at hR
    have hck : ckA n m = true := hR.symm
    have hr : isDi n m = ((rdR n (brB (qq n m) (2 * n))).2.2 && decide ((rdR n (brB (qq n m) (2 * n))).1 = n ∧ (rdR n (brB (qq n m) (2 * n))).2.1 = m)) := by
      simp only [isDi, Int.toNat_natCast, hck, decide_eq_true h1, Bool.true_and]
    have hbd : ∀ j, j < 2 * n → m.getD j 0 < 2 * n := fun j hj => ((ckI_true 16 0).1 hck j (by omega) (by omega)).2 hj
    have ht := s_text n m hm (by omega) (by omega) hbd
    have hrd := s_read n (brB (qq n m) (2 * n)) (by omega) (by omega) (by simp [brB, brL, ByteArray.size])
    have hl := rdR_len n (brB (qq n m) (2 * n))
    rw [hr]
    generalize rdR n (brB (qq n m) (2 * n)) = p at hrd hl
    obtain ⟨p1, p2, p3⟩ := p
    cases p3
    all_goals
      (repeat' (first | refine ht.read [0] rfl ⟨rfl, trivial⟩ ?_ | refine hrd.pure rfl ?_ | refine And.intro ⟨pcl_len hl, leR rfl, pcl_ones⟩ ?_ | refine Exists.intro (pcl p1 p2) (And.intro ⟨leR rfl, spl0 (leR rfl)⟩ ?_) | refine Exists.intro (pcl p1 p2) (And.intro ⟨pcl_len hl, pcl_all hl⟩ ?_) | refine Exists.intro (pcl n m) (And.intro ⟨pcl_len hm, pcl_all hm⟩ ?_) | refine Exists.intro _ (And.intro ⟨eg_i_Diagram, fun w => eqDg w hl hm⟩ ?_) | refine And.intro (neI rfl) ?_ | refine And.intro ⟨rfl, leR rfl, onesR rfl⟩ ?_ | refine And.intro ⟨rfl, leR rfl⟩ ?_ | refine draw_rule2 hfol (fun KK hKK => ?_) | refine hKK _ _ _ (by kernel_rfl) ?_ | refine region_rule (fun KK hKK => ?_) | refine hKK _ _ ?_ | refine And.intro (Eq.refl true) ?_ | refine Exists.intro _ (And.intro (wI (by omega)) ?_) | refine Exists.intro _ (And.intro (wU (by omega)) ?_) | refine Exists.intro _ (And.intro ⟨rfl, by omega⟩ ?_) | refine Exists.intro _ (And.intro rfl ?_) | refine And.intro rfl ?_ | refine And.intro ⟨rfl, rfl⟩ ?_ | ((refine And.intro (fun _ => ?_) (fun _ => ?_)) <;> try (exfalso; omega))))
      exact finP (vbR (by simp))
  have hil : i < 16 := by omega
  obtain ⟨d, hd⟩ : ∃ d, 16 - i = d + 1 := ⟨16 - i - 1, by omega⟩
  have hd' : 16 - (i + 1) = d := by omega
  rw [hd] at hR
  unfold ckI at hR
  have hb1 := getD_lt hb i
  by_cases hbad : (2 * n ≤ i ∧ m.getD i 0 ≠ 0) ∨ (i < 2 * n ∧ 2 * n ≤ m.getD i 0)
  · rw [if_pos hbad] at hR
    have hr : isDi n m = false := by simp only [isDi, Int.toNat_natCast, ← hR, Bool.false_and, Bool.and_false]
    (repeat' (first | refine (s_n n m).read [0] rfl ⟨rfl, trivial⟩ ?_ | refine Exists.intro _ (And.intro (bcl_at (by omega)) ?_) | refine And.intro (neI rfl) ?_ | refine And.intro ⟨rfl, leR rfl, onesR rfl⟩ ?_ | refine And.intro ⟨rfl, leR rfl⟩ ?_ | refine draw_rule2 hfol (fun KK hKK => ?_) | refine hKK _ _ _ (by kernel_rfl) ?_ | refine region_rule (fun KK hKK => ?_) | refine hKK _ _ ?_ | refine And.intro (Eq.refl true) ?_ | refine Exists.intro _ (And.intro (wI (by omega)) ?_) | refine Exists.intro _ (And.intro (wU (by omega)) ?_) | refine Exists.intro _ (And.intro ⟨rfl, by omega⟩ ?_) | refine Exists.intro _ (And.intro rfl ?_) | refine And.intro rfl ?_ | refine And.intro ⟨rfl, rfl⟩ ?_ | ((refine And.intro (fun _ => ?_) (fun _ => ?_)) <;> try (exfalso; omega))))
    all_goals exact finP (vbR hr.symm)
  · rw [if_neg hbad] at hR
    (repeat' (first | refine (s_n n m).read [0] rfl ⟨rfl, trivial⟩ ?_ | refine Exists.intro _ (And.intro (bcl_at (by omega)) ?_) | refine And.intro (neI rfl) ?_ | refine And.intro ⟨rfl, leR rfl, onesR rfl⟩ ?_ | refine And.intro ⟨rfl, leR rfl⟩ ?_ | refine draw_rule2 hfol (fun KK hKK => ?_) | refine hKK _ _ _ (by kernel_rfl) ?_ | refine region_rule (fun KK hKK => ?_) | refine hKK _ _ ?_ | refine And.intro (Eq.refl true) ?_ | refine Exists.intro _ (And.intro (wI (by omega)) ?_) | refine Exists.intro _ (And.intro (wU (by omega)) ?_) | refine Exists.intro _ (And.intro ⟨rfl, by omega⟩ ?_) | refine Exists.intro _ (And.intro rfl ?_) | refine And.intro rfl ?_ | refine And.intro ⟨rfl, rfl⟩ ?_ | ((refine And.intro (fun _ => ?_) (fun _ => ?_)) <;> try (exfalso; omega))))
    all_goals
      refine Exists.intro (i + 1) (Exists.intro [0] (And.intro ⟨⟨by omega, by rw [hd']; exact hR⟩, (by show 16 - (i + 1) < 16 - i; omega)⟩ ⟨⟨rfl, rfl, rfl, trivial⟩, ⟨rfl, trivial⟩, rfl⟩))
end Go.Proofs.Ytgpgcdofhkpeaaa.VE
