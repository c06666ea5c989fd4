/- Contracts of functions of the given program, for all arguments that the contract names; see each theorem. -/
import Derived.Test.YtgpgcdofhkpeaaaW1
import Derived.Test.YtgpgcdofhkpeaaaVE4
import Derived.Test.YtgpgcdofhkpeaaaU22
set_option linter.all false
namespace Go.Proofs.Ytgpgcdofhkpeaaa.VE
open Go
set_option maxHeartbeats 800000
set_option maxRecDepth 100000

/-! rows of ints that come from outside -/
theorem s_toI {W : World → (Nat → Prop) → Prop} {v : Value} {g : Nat → Int} {N : Nat} (h : ArgI W v g N) (hN : N ≤ 1048576) : SpecW Try.prog W n_l_toInt64S [.raw v] [] (.sl 0) [.pr T_int64 1 N (il g N)] := by
  rcases h with ⟨a, cap, rfl, rfl, rfl⟩ | ⟨b, off, cap, cs, t, fr, rfl, rfl, hg⟩
  · refine SpecW.of_EV hf_l_toInt64S hc_l_toInt64S rfl rfl rfl fun w0 B ρ0 _ => ?_
    (repeat' (first | refine Exists.intro 0 (Exists.intro (il (fun _ => 0) 0) (And.intro ⟨rfl, rfl, by omega, by omega, mk_il⟩ ?_)) | refine And.intro (neI rfl) ?_ | refine And.intro ⟨rfl, leR rfl, onesR rfl⟩ ?_ | refine And.intro ⟨rfl, leR rfl⟩ ?_ | refine draw_rule2 hfol (fun KK hKK => ?_) | refine hKK _ _ _ (by kernel_rfl) ?_ | refine region_rule (fun KK hKK => ?_) | refine hKK _ _ ?_ | refine And.intro (Eq.refl true) ?_ | refine Exists.intro _ (And.intro (wI (by omega)) ?_) | refine Exists.intro _ (And.intro (wU (by omega)) ?_) | refine Exists.intro _ (And.intro ⟨rfl, by omega⟩ ?_) | refine Exists.intro _ (And.intro rfl ?_) | refine And.intro rfl ?_ | refine And.intro ⟨rfl, rfl⟩ ?_ | ((refine And.intro (fun _ => ?_) (fun _ => ?_)) <;> try (exfalso; omega))))
    refine loop_rule (α := Unit) (fun _ => True) (fun _ => [(0, .raw (.slice a 0 cap)), (3, .sl 0), (4, vi 0)]) (fun _ => [.pr T_int64 1 0 (il g 0)]) (fun _ => 0) () [0]
      trivial ⟨⟨rfl, rfl, rfl, trivial⟩, ⟨rfl, trivial⟩, rfl⟩ ?_
    rintro _ gg _
    (repeat' (first | refine And.intro (neI rfl) ?_ | refine And.intro ⟨rfl, leR rfl, onesR rfl⟩ ?_ | refine And.intro ⟨rfl, leR rfl⟩ ?_ | refine draw_rule2 hfol (fun KK hKK => ?_) | refine hKK _ _ _ (by kernel_rfl) ?_ | refine region_rule (fun KK hKK => ?_) | refine hKK _ _ ?_ | refine And.intro (Eq.refl true) ?_ | refine Exists.intro _ (And.intro (wI (by omega)) ?_) | refine Exists.intro _ (And.intro (wU (by omega)) ?_) | refine Exists.intro _ (And.intro ⟨rfl, by omega⟩ ?_) | refine Exists.intro _ (And.intro rfl ?_) | refine And.intro rfl ?_ | refine And.intro ⟨rfl, rfl⟩ ?_ | ((refine And.intro (fun _ => ?_) (fun _ => ?_)) <;> try (exfalso; omega))))
    exact Exists.intro [0] (And.intro (rfl) (And.intro ⟨rfl, trivial⟩ rfl))
  · refine SpecW.of_EV hf_l_toInt64S hc_l_toInt64S rfl rfl rfl fun w0 B ρ0 hW => ?_
    have hW : w0.heap[b]? = some (.cells cs t fr) ∧ ¬ B b := hW
    (repeat' (first | refine Exists.intro N (Exists.intro (il (fun _ => 0) N) (And.intro ⟨rfl, rfl, by omega, by omega, mk_il⟩ ?_)) | refine And.intro (neI rfl) ?_ | refine And.intro ⟨rfl, leR rfl, onesR rfl⟩ ?_ | refine And.intro ⟨rfl, leR rfl⟩ ?_ | refine draw_rule2 hfol (fun KK hKK => ?_) | refine hKK _ _ _ (by kernel_rfl) ?_ | refine region_rule (fun KK hKK => ?_) | refine hKK _ _ ?_ | refine And.intro (Eq.refl true) ?_ | refine Exists.intro _ (And.intro (wI (by omega)) ?_) | refine Exists.intro _ (And.intro (wU (by omega)) ?_) | refine Exists.intro _ (And.intro ⟨rfl, by omega⟩ ?_) | refine Exists.intro _ (And.intro rfl ?_) | refine And.intro rfl ?_ | refine And.intro ⟨rfl, rfl⟩ ?_ | ((refine And.intro (fun _ => ?_) (fun _ => ?_)) <;> try (exfalso; omega))))
    refine loop_rule (α := Nat) (fun k => k ≤ N) (fun k => [(0, .raw (.slice (some ⟨b, off, none⟩) N cap)), (3, .sl 0), (4, vi k)]) (fun k => [.pr T_int64 1 N (il (fun j => if j < k then g j else 0) N)]) (fun k => N - k) 0 [0]
      (by omega) ⟨⟨rfl, rfl, rfl, trivial⟩, ⟨rfl, trivial⟩, rfl⟩ ?_
    rintro k gg hk
    by_cases h9 : k = N
    · subst h9
      (repeat' (first | refine And.intro (neI rfl) ?_ | refine And.intro ⟨rfl, leR rfl, onesR rfl⟩ ?_ | refine And.intro ⟨rfl, leR rfl⟩ ?_ | refine draw_rule2 hfol (fun KK hKK => ?_) | refine hKK _ _ _ (by kernel_rfl) ?_ | refine region_rule (fun KK hKK => ?_) | refine hKK _ _ ?_ | refine And.intro (Eq.refl true) ?_ | refine Exists.intro _ (And.intro (wI (by omega)) ?_) | refine Exists.intro _ (And.intro (wU (by omega)) ?_) | refine Exists.intro _ (And.intro ⟨rfl, by omega⟩ ?_) | refine Exists.intro _ (And.intro rfl ?_) | refine And.intro rfl ?_ | refine And.intro ⟨rfl, rfl⟩ ?_ | ((refine And.intro (fun _ => ?_) (fun _ => ?_)) <;> try (exfalso; omega))))
      exact Exists.intro [0] (And.intro rfl (And.intro ⟨congrArg some (congrArg (O.pr T_int64 1 k) (il_congr fun j hj => if_pos hj)), trivial⟩ rfl))
    have hkl : k < N := by omega
    have hat := hg k hkl
    have hset : (il (fun j => if j < k then g j else 0) N).set k (.int .i64 (g k)) = il (fun j => if j < k + 1 then g j else 0) N := il_set fun j hj => by
      by_cases hjk : j = k
      · subst hjk; rw [if_pos (by omega), if_pos rfl]
      · rw [if_neg hjk]
        by_cases h2 : j < k
        · rw [if_pos h2, if_pos (by omega)]
        · rw [if_neg h2, if_neg (by omega)]
    (repeat' (first | refine Exists.intro (off + k) (And.intro (by omega) ?_) | refine Exists.intro cs (Exists.intro t (Exists.intro fr (And.intro hW ?_))) | refine Exists.intro _ (And.intro hat ?_) | refine Exists.intro (il (fun j => if j < k + 1 then g j else 0) N) (And.intro ⟨by rw [il_len]; omega, hset⟩ ?_) | refine And.intro (neI rfl) ?_ | refine And.intro ⟨rfl, leR rfl, onesR rfl⟩ ?_ | refine And.intro ⟨rfl, leR rfl⟩ ?_ | refine draw_rule2 hfol (fun KK hKK => ?_) | refine hKK _ _ _ (by kernel_rfl) ?_ | refine region_rule (fun KK hKK => ?_) | refine hKK _ _ ?_ | refine And.intro (Eq.refl true) ?_ | refine Exists.intro _ (And.intro (wI (by omega)) ?_) | refine Exists.intro _ (And.intro (wU (by omega)) ?_) | refine Exists.intro _ (And.intro ⟨rfl, by omega⟩ ?_) | refine Exists.intro _ (And.intro rfl ?_) | refine And.intro rfl ?_ | refine And.intro ⟨rfl, rfl⟩ ?_ | ((refine And.intro (fun _ => ?_) (fun _ => ?_)) <;> try (exfalso; omega))))
    refine Exists.intro (k + 1) (Exists.intro [0] (And.intro ⟨by omega, (by show N - (k + 1) < N - k; omega)⟩ ⟨⟨rfl, rfl, rfl, trivial⟩, ⟨rfl, trivial⟩, rfl⟩))
end Go.Proofs.Ytgpgcdofhkpeaaa.VE
namespace Go.Proofs.Ytgpgcdofhkpeaaa.VE
open Go
set_option maxHeartbeats 800000
set_option maxRecDepth 100000

theorem s_ival (n : Nat) (g : Nat → Int) (N : Nat) (hn1 : 2 ≤ n) (hn : n ≤ 8) (hN : N ≤ 60) (hg : okL n g N) :
    Spec Try.prog n_i_value [vi n, .sl 0] [.pr T_int64 1 N (il g N)] (dlV n (vw n g N).1 ((vw n g N).2 : Nat)) [.pr T_int64 1 N (il g N)] := by
  have hfol : Try.prog.follows .mixedOrders = true := rfl
  have hu := s_iunit n (by omega) hn
  refine SpecW.of_EV hf_i_value hc_i_value rfl rfl rfl fun w0 B ρ0 _ => ?_
  (repeat' (first | refine (hu).pure rfl ?_ | refine Exists.intro (pcl (n : Int) (un n)) (And.intro ⟨pcl_len un_len, pcl_all un_len⟩ ?_) | refine And.intro ⟨pcl_len un_len, leR rfl, pcl_ones⟩ ?_ | refine Exists.intro (pcl (n : Int) (un n)) (And.intro ⟨leR rfl, spl0 (leR rfl)⟩ ?_) | refine And.intro (neI rfl) ?_ | refine And.intro ⟨rfl, leR rfl, onesR rfl⟩ ?_ | refine And.intro ⟨rfl, leR rfl⟩ ?_ | refine draw_rule2 hfol (fun KK hKK => ?_) | refine hKK _ _ _ (by kernel_rfl) ?_ | refine region_rule (fun KK hKK => ?_) | refine hKK _ _ ?_ | refine And.intro (Eq.refl true) ?_ | refine Exists.intro _ (And.intro (wI (by omega)) ?_) | refine Exists.intro _ (And.intro (wU (by omega)) ?_) | refine Exists.intro _ (And.intro ⟨rfl, by omega⟩ ?_) | refine Exists.intro _ (And.intro rfl ?_) | refine And.intro rfl ?_ | refine And.intro ⟨rfl, rfl⟩ ?_ | ((refine And.intro (fun _ => ?_) (fun _ => ?_)) <;> try (exfalso; omega))))
  refine loop_rule (α := Nat) (fun k => k ≤ N) (fun k => [(4, .ptr 1 0), (0, vi n), (6, .ptr 2 0), (7, vi ((vw n g k).2 : Nat)), (14, .sl 0), (15, vi N), (16, vi k)])
    (fun k => [.pr T_int64 1 N (il g N), .pc (pcl 0 (List.replicate 16 0)) T_i_Diagram, .pc (pcl n (vw n g k).1) T_i_Diagram]) (fun k => N - k) 0 [0, 1, 2]
    (by omega) ⟨⟨rfl, rfl, rfl, rfl, rfl, rfl, rfl, trivial⟩, ⟨rfl, rfl, rfl, trivial⟩, rfl⟩ ?_
  rintro k gg hk
  have hV := vw_V (by omega) hn k (fun j hj => hg j (by omega))
  by_cases h9 : k = N
  · subst h9
    (repeat' (first | refine Exists.intro (pcl (n : Int) (vw n g k).1) (And.intro ⟨pcl_len hV.len, pcl_all hV.len⟩ ?_) | refine And.intro ⟨pcl_len hV.len, leR rfl, pcl_ones⟩ ?_ | refine Exists.intro (pcl (n : Int) (vw n g k).1) (And.intro ⟨leR rfl, spl0 (leR rfl)⟩ ?_) | refine And.intro (neI rfl) ?_ | refine And.intro ⟨rfl, leR rfl, onesR rfl⟩ ?_ | refine And.intro ⟨rfl, leR rfl⟩ ?_ | refine draw_rule2 hfol (fun KK hKK => ?_) | refine hKK _ _ _ (by kernel_rfl) ?_ | refine region_rule (fun KK hKK => ?_) | refine hKK _ _ ?_ | refine And.intro (Eq.refl true) ?_ | refine Exists.intro _ (And.intro (wI (by omega)) ?_) | refine Exists.intro _ (And.intro (wU (by omega)) ?_) | refine Exists.intro _ (And.intro ⟨rfl, by omega⟩ ?_) | refine Exists.intro _ (And.intro rfl ?_) | refine And.intro rfl ?_ | refine And.intro ⟨rfl, rfl⟩ ?_ | ((refine And.intro (fun _ => ?_) (fun _ => ?_)) <;> try (exfalso; omega))))
    exact Exists.intro [0] (And.intro (rfl) (And.intro ⟨rfl, trivial⟩ rfl))
  have hkl : k < N := by omega
  have hgk := hg k hkl
  have hVg := gen_V (n := n) (i := (g k).toNat) hn (by omega)
  have hc := s_igen n (g k).toNat hn (by omega)
  rw [Int.toNat_of_nonneg hgk.1] at hc
  have ht := s_times n (vw n g k).1 (gen n (g k).toNat) hV hVg
  have hle1 := vw_le (n := n) (g := g) k
  have hle2 := lpN_le (n := n) (a := (vw n g k).1) (b := gen n (g k).toNat)
  have hle3 : n * k ≤ 8 * 60 := Nat.mul_le_mul hn (by omega)
  have hV1 := oL_V hV hVg
  have e1 : IntKind.i64.wrap (((vw n g k).2 : Nat) + ((lpN n (vw n g k).1 (gen n (g k).toNat) : Nat) : Int)) = (((vw n g (k + 1)).2 : Nat) : Int) := wC (by simp [vw]) (by simp only [vw]; omega)
  (repeat' (first | refine Exists.intro _ (And.intro (il_at hkl) ?_) | refine (hc).pure rfl ?_ | refine (ht).pure rfl ?_ | refine Exists.intro _ (And.intro e1 ?_) | refine Exists.intro (pcl (n : Int) (vw n g k).1) (And.intro ⟨pcl_len hV.len, pcl_all hV.len⟩ ?_) | refine And.intro ⟨pcl_len hV.len, leR rfl, pcl_ones⟩ ?_ | refine Exists.intro (pcl (n : Int) (vw n g k).1) (And.intro ⟨leR rfl, spl0 (leR rfl)⟩ ?_) | refine Exists.intro (pcl (n : Int) (oL n (vw n g k).1 (gen n (g k).toNat) n).1) (And.intro ⟨pcl_len hV1.len, pcl_all hV1.len⟩ ?_) | refine And.intro ⟨pcl_len hV1.len, leR rfl, pcl_ones⟩ ?_ | refine Exists.intro (pcl (n : Int) (oL n (vw n g k).1 (gen n (g k).toNat) n).1) (And.intro ⟨leR rfl, spl0 (leR rfl)⟩ ?_) | refine Exists.intro (pcl n (vw n g (k + 1)).1) (And.intro ⟨(by rw [pcl_len hV.len]; exact Nat.le_refl _), spl0 (Nat.le_of_eq (pcl_len hV.len))⟩ ?_) | refine And.intro (neI rfl) ?_ | refine And.intro ⟨rfl, leR rfl, onesR rfl⟩ ?_ | refine And.intro ⟨rfl, leR rfl⟩ ?_ | refine draw_rule2 hfol (fun KK hKK => ?_) | refine hKK _ _ _ (by kernel_rfl) ?_ | refine region_rule (fun KK hKK => ?_) | refine hKK _ _ ?_ | refine And.intro (Eq.refl true) ?_ | refine Exists.intro _ (And.intro (wI (by omega)) ?_) | refine Exists.intro _ (And.intro (wU (by omega)) ?_) | refine Exists.intro _ (And.intro ⟨rfl, by omega⟩ ?_) | refine Exists.intro _ (And.intro rfl ?_) | refine And.intro rfl ?_ | refine And.intro ⟨rfl, rfl⟩ ?_ | ((refine And.intro (fun _ => ?_) (fun _ => ?_)) <;> try (exfalso; omega))))
  refine Exists.intro (k + 1) (Exists.intro [0, 1, 2] (And.intro ⟨by omega, (by show N - (k + 1) < N - k; omega)⟩ ⟨⟨rfl, rfl, rfl, rfl, rfl, rfl, rfl, trivial⟩, ⟨rfl, rfl, rfl, trivial⟩, rfl⟩))

/-- Is it a letter? -/
def ltB (n : Int) (g : Nat → Int) (j : Nat) : Bool := decide (0 ≤ g j ∧ g j ≤ n - 2)
theorem s_ok1 (n i : Int) (hn : 2 ≤ n ∧ n ≤ 8) : Spec Try.prog n_i_wordOk_1 [vi i, .ptr 0 0] [.pc [.int .i64 n] T_int64] (vb (!decide (0 ≤ i ∧ i ≤ n - 2))) [.pc [.int .i64 n] T_int64] := by
  have hin := s_iin i 0 (n - 2)
  generalize decide (0 ≤ i ∧ i ≤ n - 2) = b at hin ⊢
  refine SpecW.of_EV hf_i_wordOk_1 hc_i_wordOk_1 rfl rfl rfl fun w0 B ρ0 _ => ?_
  cases b <;>
  · (repeat' (first | refine (hin).pure rfl ?_ | refine And.intro (neI rfl) ?_ | refine And.intro ⟨rfl, leR rfl, onesR rfl⟩ ?_ | refine And.intro ⟨rfl, leR rfl⟩ ?_ | refine draw_rule2 hfol (fun KK hKK => ?_) | refine hKK _ _ _ (by kernel_rfl) ?_ | refine region_rule (fun KK hKK => ?_) | refine hKK _ _ ?_ | refine And.intro (Eq.refl true) ?_ | refine Exists.intro _ (And.intro (wI (by omega)) ?_) | refine Exists.intro _ (And.intro (wU (by omega)) ?_) | refine Exists.intro _ (And.intro ⟨rfl, by omega⟩ ?_) | refine Exists.intro _ (And.intro rfl ?_) | refine And.intro rfl ?_ | refine And.intro ⟨rfl, rfl⟩ ?_ | ((refine And.intro (fun _ => ?_) (fun _ => ?_)) <;> try (exfalso; omega))))
    exact Exists.intro [0] (And.intro (rfl) (And.intro ⟨rfl, trivial⟩ rfl))
theorem s_okix (n : Int) (hn : 2 ≤ n ∧ n ≤ 8) (g : Nat → Int) (N : Nat) (hN : N ≤ 60) : ∃ r : Int, decide (r ≥ 0) = !decide (∀ j, j < N → ltB n g j = true) ∧
    Spec Try.prog n_g_IndexFunc_int64 [.sl 0, .fn (.func n_i_wordOk_1) [] [.ptr 1 0]] [.pr T_int64 1 N (il g N), .pc [.int .i64 n] T_int64] (vi r) [.pr T_int64 1 N (il g N), .pc [.int .i64 n] T_int64] := by
  have hex : ∃ r : Int, (∃ p, p < N ∧ ltB n g p = false ∧ r = p ∧ ∀ q, q < p → ltB n g q = true) ∨ (r = -1 ∧ ∀ q, q < N → ltB n g q = true) := by
    by_cases h : ∀ q, q < N → ltB n g q = true
    · exact ⟨-1, .inr ⟨rfl, h⟩⟩
    · have hx : ∃ p, p < N ∧ ltB n g p = false := Classical.byContradiction fun hno => h fun q hq => by
        cases hb : ltB n g q with
        | true => rfl
        | false => exact absurd ⟨q, hq, hb⟩ hno
      obtain ⟨p, hp⟩ := hx
      induction p using Nat.strongRecOn with
      | _ p ih =>
        by_cases hm : ∃ q, q < p ∧ ltB n g q = false
        · obtain ⟨q, h1, h2⟩ := hm; exact ih q h1 ⟨by omega, h2⟩
        · exact ⟨p, .inl ⟨p, hp.1, hp.2, rfl, fun q hq => by
            cases hb : ltB n g q with
            | true => rfl
            | false => exact absurd ⟨q, hq, hb⟩ hm⟩⟩
  obtain ⟨r, hr⟩ := hex
  refine ⟨r, ?_, ?_⟩
  · rcases hr with ⟨p, h1, h2, rfl, _⟩ | ⟨rfl, h⟩
    · rw [decide_eq_false (show ¬ ∀ j, j < N → ltB n g j = true from fun h => by rw [h p h1] at h2; cases h2)]; exact decide_eq_true (by omega)
    · rw [decide_eq_true h]; rfl
  refine SpecW.of_EV hf_g_IndexFunc_int64 hc_g_IndexFunc_int64 rfl rfl rfl fun w0 B ρ0 _ => ?_
  (repeat' (first | refine And.intro (neI rfl) ?_ | refine And.intro ⟨rfl, leR rfl, onesR rfl⟩ ?_ | refine And.intro ⟨rfl, leR rfl⟩ ?_ | refine draw_rule2 hfol (fun KK hKK => ?_) | refine hKK _ _ _ (by kernel_rfl) ?_ | refine region_rule (fun KK hKK => ?_) | refine hKK _ _ ?_ | refine And.intro (Eq.refl true) ?_ | refine Exists.intro _ (And.intro (wI (by omega)) ?_) | refine Exists.intro _ (And.intro (wU (by omega)) ?_) | refine Exists.intro _ (And.intro ⟨rfl, by omega⟩ ?_) | refine Exists.intro _ (And.intro rfl ?_) | refine And.intro rfl ?_ | refine And.intro ⟨rfl, rfl⟩ ?_ | ((refine And.intro (fun _ => ?_) (fun _ => ?_)) <;> try (exfalso; omega))))
  refine loop_rule (α := Nat) (fun i => i ≤ N ∧ ∀ q, q < i → ltB n g q = true)
      (fun i => [(0, .sl 0), (1, .fn (.func n_i_wordOk_1) [] [.ptr 1 0]), (7, vi N), (8, vi i)]) (fun _ => [.pr T_int64 1 N (il g N), .pc [.int .i64 n] T_int64]) (fun i => N - i) 0 [0, 1]
      ⟨by omega, fun q hq => by omega⟩ ⟨⟨rfl, rfl, rfl, rfl, trivial⟩, ⟨rfl, rfl, trivial⟩, rfl⟩ ?_
  rintro i gg ⟨hi, hno⟩
  by_cases h9 : i = N
  · subst h9
    have : r = -1 := by
      rcases hr with ⟨p, h1, h2, _⟩ | ⟨h, _⟩
      · rw [hno p h1] at h2; cases h2
      · exact h
    subst this
    (repeat' (first | refine And.intro (neI rfl) ?_ | refine And.intro ⟨rfl, leR rfl, onesR rfl⟩ ?_ | refine And.intro ⟨rfl, leR rfl⟩ ?_ | refine draw_rule2 hfol (fun KK hKK => ?_) | refine hKK _ _ _ (by kernel_rfl) ?_ | refine region_rule (fun KK hKK => ?_) | refine hKK _ _ ?_ | refine And.intro (Eq.refl true) ?_ | refine Exists.intro _ (And.intro (wI (by omega)) ?_) | refine Exists.intro _ (And.intro (wU (by omega)) ?_) | refine Exists.intro _ (And.intro ⟨rfl, by omega⟩ ?_) | refine Exists.intro _ (And.intro rfl ?_) | refine And.intro rfl ?_ | refine And.intro ⟨rfl, rfl⟩ ?_ | ((refine And.intro (fun _ => ?_) (fun _ => ?_)) <;> try (exfalso; omega))))
    exact Exists.intro [0,1] (And.intro (rfl) (And.intro ⟨rfl, rfl, trivial⟩ rfl))
  have hil : i < N := by omega
  have hq := s_ok1 n (g i) hn
  cases hx : ltB n g i with
  | false =>
    have hri : r = i := by
      rcases hr with ⟨p, h1, h2, h3, h4⟩ | ⟨_, h⟩
      · rcases Nat.lt_trichotomy p i with h | h | h
        · rw [hno p h] at h2; cases h2
        · rw [h3, h]
        · rw [h4 i h] at hx; cases hx
      · rw [h i hil] at hx; cases hx
    subst hri
    rw [show decide (0 ≤ g i ∧ g i ≤ n - 2) = false from hx] at hq
    (repeat' (first | refine Exists.intro _ (And.intro (il_at hil) ?_) | refine (hq).read [1] rfl ⟨rfl, trivial⟩ ?_ | refine And.intro (neI rfl) ?_ | refine And.intro ⟨rfl, leR rfl, onesR rfl⟩ ?_ | refine And.intro ⟨rfl, leR rfl⟩ ?_ | refine draw_rule2 hfol (fun KK hKK => ?_) | refine hKK _ _ _ (by kernel_rfl) ?_ | refine region_rule (fun KK hKK => ?_) | refine hKK _ _ ?_ | refine And.intro (Eq.refl true) ?_ | refine Exists.intro _ (And.intro (wI (by omega)) ?_) | refine Exists.intro _ (And.intro (wU (by omega)) ?_) | refine Exists.intro _ (And.intro ⟨rfl, by omega⟩ ?_) | refine Exists.intro _ (And.intro rfl ?_) | refine And.intro rfl ?_ | refine And.intro ⟨rfl, rfl⟩ ?_ | ((refine And.intro (fun _ => ?_) (fun _ => ?_)) <;> try (exfalso; omega))))
    exact Exists.intro [0,1] (And.intro (rfl) (And.intro ⟨rfl, rfl, trivial⟩ rfl))
  | true =>
    rw [show decide (0 ≤ g i ∧ g i ≤ n - 2) = true from hx] at hq
    (repeat' (first | refine Exists.intro _ (And.intro (il_at hil) ?_) | refine (hq).read [1] rfl ⟨rfl, trivial⟩ ?_ | refine And.intro (neI rfl) ?_ | refine And.intro ⟨rfl, leR rfl, onesR rfl⟩ ?_ | refine And.intro ⟨rfl, leR rfl⟩ ?_ | refine draw_rule2 hfol (fun KK hKK => ?_) | refine hKK _ _ _ (by kernel_rfl) ?_ | refine region_rule (fun KK hKK => ?_) | refine hKK _ _ ?_ | refine And.intro (Eq.refl true) ?_ | refine Exists.intro _ (And.intro (wI (by omega)) ?_) | refine Exists.intro _ (And.intro (wU (by omega)) ?_) | refine Exists.intro _ (And.intro ⟨rfl, by omega⟩ ?_) | refine Exists.intro _ (And.intro rfl ?_) | refine And.intro rfl ?_ | refine And.intro ⟨rfl, rfl⟩ ?_ | ((refine And.intro (fun _ => ?_) (fun _ => ?_)) <;> try (exfalso; omega))))
    refine Exists.intro (i + 1) (Exists.intro [0, 1] (And.intro ⟨⟨by omega, fun q hq => ?_⟩, (by show N - (i + 1) < N - i; omega)⟩ ⟨⟨rfl, rfl, rfl, rfl, trivial⟩, ⟨rfl, rfl, trivial⟩, rfl⟩))
    by_cases hqi : q = i
    · subst hqi; exact hx
    · exact hno q (by omega)
theorem s_okct (n : Int) (hn : 2 ≤ n ∧ n ≤ 8) (g : Nat → Int) (N : Nat) (hN : N ≤ 60) : Spec Try.prog n_g_ContainsFunc_int64 [.sl 0, .fn (.func n_i_wordOk_1) [] [.ptr 1 0]] [.pr T_int64 1 N (il g N), .pc [.int .i64 n] T_int64] (vb (!decide (∀ j, j < N → ltB n g j = true))) [.pr T_int64 1 N (il g N), .pc [.int .i64 n] T_int64] := by
  obtain ⟨r, hr, hq⟩ := s_okix n hn g N hN
  rw [← hr]
  refine SpecW.of_EV hf_g_ContainsFunc_int64 hc_g_ContainsFunc_int64 rfl rfl rfl fun w0 B ρ0 _ => ?_
  (repeat' (first | refine (hq).read [0,1] rfl ⟨rfl, rfl, trivial⟩ ?_ | refine And.intro (neI rfl) ?_ | refine And.intro ⟨rfl, leR rfl, onesR rfl⟩ ?_ | refine And.intro ⟨rfl, leR rfl⟩ ?_ | refine draw_rule2 hfol (fun KK hKK => ?_) | refine hKK _ _ _ (by kernel_rfl) ?_ | refine region_rule (fun KK hKK => ?_) | refine hKK _ _ ?_ | refine And.intro (Eq.refl true) ?_ | refine Exists.intro _ (And.intro (wI (by omega)) ?_) | refine Exists.intro _ (And.intro (wU (by omega)) ?_) | refine Exists.intro _ (And.intro ⟨rfl, by omega⟩ ?_) | refine Exists.intro _ (And.intro rfl ?_) | refine And.intro rfl ?_ | refine And.intro ⟨rfl, rfl⟩ ?_ | ((refine And.intro (fun _ => ?_) (fun _ => ?_)) <;> try (exfalso; omega))))
  all_goals exact Exists.intro [0,1] (And.intro (vbR (by first | rw [decide_eq_true (by omega)] | rw [decide_eq_false (by omega)])) (And.intro ⟨rfl, rfl, trivial⟩ rfl))
/-- Is it a word? -/
def wdB (n : Int) (g : Nat → Int) (N : Nat) : Bool := decide (2 ≤ n ∧ n ≤ 8) && decide (N ≤ 60) && decide (∀ j, j < N → ltB n g j = true)
theorem s_iwd (n : Int) (g : Nat → Int) (N : Nat) (hN : N ≤ 1048576) : Spec Try.prog n_i_wordOk [vi n, .sl 0] [.pr T_int64 1 N (il g N)] (vb (wdB n g N)) [.pr T_int64 1 N (il g N)] := by
  have hin := s_iin n 2 8
  refine SpecW.of_EV hf_i_wordOk hc_i_wordOk rfl rfl rfl fun w0 B ρ0 _ => ?_
  by_cases h1 : 2 ≤ n ∧ n ≤ 8
  · rw [decide_eq_true h1] at hin
    by_cases h2 : N ≤ 60
    · have hct := s_okct n h1 g N h2
      have hw : wdB n g N = decide (∀ j, j < N → ltB n g j = true) := by simp [wdB, h1, h2]
      rw [hw]
      generalize decide (∀ j, j < N → ltB n g j = true) = b at hct
      cases b <;>
      · (repeat' (first | refine (hin).pure rfl ?_ | refine (hct).read [0,1] rfl ⟨rfl, rfl, trivial⟩ ?_ | refine And.intro (neI rfl) ?_ | refine And.intro ⟨rfl, leR rfl, onesR rfl⟩ ?_ | refine And.intro ⟨rfl, leR rfl⟩ ?_ | refine draw_rule2 hfol (fun KK hKK => ?_) | refine hKK _ _ _ (by kernel_rfl) ?_ | refine region_rule (fun KK hKK => ?_) | refine hKK _ _ ?_ | refine And.intro (Eq.refl true) ?_ | refine Exists.intro _ (And.intro (wI (by omega)) ?_) | refine Exists.intro _ (And.intro (wU (by omega)) ?_) | refine Exists.intro _ (And.intro ⟨rfl, by omega⟩ ?_) | refine Exists.intro _ (And.intro rfl ?_) | refine And.intro rfl ?_ | refine And.intro ⟨rfl, rfl⟩ ?_ | ((refine And.intro (fun _ => ?_) (fun _ => ?_)) <;> try (exfalso; omega))))
        exact Exists.intro [0] (And.intro (rfl) (And.intro ⟨rfl, trivial⟩ rfl))
    · have hw : wdB n g N = false := by simp [wdB, h2]
      rw [hw]
      (repeat' (first | refine (hin).pure rfl ?_ | refine And.intro (neI rfl) ?_ | refine And.intro ⟨rfl, leR rfl, onesR rfl⟩ ?_ | refine And.intro ⟨rfl, leR rfl⟩ ?_ | refine draw_rule2 hfol (fun KK hKK => ?_) | refine hKK _ _ _ (by kernel_rfl) ?_ | refine region_rule (fun KK hKK => ?_) | refine hKK _ _ ?_ | refine And.intro (Eq.refl true) ?_ | refine Exists.intro _ (And.intro (wI (by omega)) ?_) | refine Exists.intro _ (And.intro (wU (by omega)) ?_) | refine Exists.intro _ (And.intro ⟨rfl, by omega⟩ ?_) | refine Exists.intro _ (And.intro rfl ?_) | refine And.intro rfl ?_ | refine And.intro ⟨rfl, rfl⟩ ?_ | ((refine And.intro (fun _ => ?_) (fun _ => ?_)) <;> try (exfalso; omega))))
      exact Exists.intro [0] (And.intro (rfl) (And.intro ⟨rfl, trivial⟩ rfl))
  · rw [decide_eq_false h1] at hin
    have hw : wdB n g N = false := by unfold wdB; rw [decide_eq_false h1]; rfl
    rw [hw]
    (repeat' (first | refine (hin).pure rfl ?_ | refine And.intro (neI rfl) ?_ | refine And.intro ⟨rfl, leR rfl, onesR rfl⟩ ?_ | refine And.intro ⟨rfl, leR rfl⟩ ?_ | refine draw_rule2 hfol (fun KK hKK => ?_) | refine hKK _ _ _ (by kernel_rfl) ?_ | refine region_rule (fun KK hKK => ?_) | refine hKK _ _ ?_ | refine And.intro (Eq.refl true) ?_ | refine Exists.intro _ (And.intro (wI (by omega)) ?_) | refine Exists.intro _ (And.intro (wU (by omega)) ?_) | refine Exists.intro _ (And.intro ⟨rfl, by omega⟩ ?_) | refine Exists.intro _ (And.intro rfl ?_) | refine And.intro rfl ?_ | refine And.intro ⟨rfl, rfl⟩ ?_ | ((refine And.intro (fun _ => ?_) (fun _ => ?_)) <;> try (exfalso; omega))))
    exact Exists.intro [0] (And.intro (rfl) (And.intro ⟨rfl, trivial⟩ rfl))
theorem s_swd (n : Int) (g : Nat → Int) (N : Nat) (hN : N ≤ 1048576) : Spec Try.prog n_s_l03Is [vi n, .sl 0] [.pr T_int64 1 N (il g N)] (vb (wdB n g N)) [.pr T_int64 1 N (il g N)] := by
  have hin := s_in n 2 8
  refine SpecW.of_EV hf_s_l03Is hc_s_l03Is rfl rfl rfl fun w0 B ρ0 _ => ?_
  by_cases h1 : 2 ≤ n ∧ n ≤ 8
  rotate_left
  · rw [decide_eq_false h1] at hin
    have hw : wdB n g N = false := by unfold wdB; rw [decide_eq_false h1]; rfl
    rw [hw]
    (repeat' (first | refine (hin).pure rfl ?_ | refine And.intro (neI rfl) ?_ | refine And.intro ⟨rfl, leR rfl, onesR rfl⟩ ?_ | refine And.intro ⟨rfl, leR rfl⟩ ?_ | refine draw_rule2 hfol (fun KK hKK => ?_) | refine hKK _ _ _ (by kernel_rfl) ?_ | refine region_rule (fun KK hKK => ?_) | refine hKK _ _ ?_ | refine And.intro (Eq.refl true) ?_ | refine Exists.intro _ (And.intro (wI (by omega)) ?_) | refine Exists.intro _ (And.intro (wU (by omega)) ?_) | refine Exists.intro _ (And.intro ⟨rfl, by omega⟩ ?_) | refine Exists.intro _ (And.intro rfl ?_) | refine And.intro rfl ?_ | refine And.intro ⟨rfl, rfl⟩ ?_ | ((refine And.intro (fun _ => ?_) (fun _ => ?_)) <;> try (exfalso; omega))))
    exact Exists.intro [0] (And.intro (rfl) (And.intro ⟨rfl, trivial⟩ rfl))
  rw [decide_eq_true h1] at hin
  by_cases h2 : N ≤ 60
  rotate_left
  · have hw : wdB n g N = false := by simp [wdB, h2]
    rw [hw]
    (repeat' (first | refine (hin).pure rfl ?_ | refine And.intro (neI rfl) ?_ | refine And.intro ⟨rfl, leR rfl, onesR rfl⟩ ?_ | refine And.intro ⟨rfl, leR rfl⟩ ?_ | refine draw_rule2 hfol (fun KK hKK => ?_) | refine hKK _ _ _ (by kernel_rfl) ?_ | refine region_rule (fun KK hKK => ?_) | refine hKK _ _ ?_ | refine And.intro (Eq.refl true) ?_ | refine Exists.intro _ (And.intro (wI (by omega)) ?_) | refine Exists.intro _ (And.intro (wU (by omega)) ?_) | refine Exists.intro _ (And.intro ⟨rfl, by omega⟩ ?_) | refine Exists.intro _ (And.intro rfl ?_) | refine And.intro rfl ?_ | refine And.intro ⟨rfl, rfl⟩ ?_ | ((refine And.intro (fun _ => ?_) (fun _ => ?_)) <;> try (exfalso; omega))))
    exact Exists.intro [0] (And.intro (rfl) (And.intro ⟨rfl, trivial⟩ rfl))
  have hw : wdB n g N = decide (∀ j, j < N → ltB n g j = true) := by simp [wdB, h1, h2]
  rw [hw]
  (repeat' (first | refine (hin).pure rfl ?_ | refine And.intro (neI rfl) ?_ | refine And.intro ⟨rfl, leR rfl, onesR rfl⟩ ?_ | refine And.intro ⟨rfl, leR rfl⟩ ?_ | refine draw_rule2 hfol (fun KK hKK => ?_) | refine hKK _ _ _ (by kernel_rfl) ?_ | refine region_rule (fun KK hKK => ?_) | refine hKK _ _ ?_ | refine And.intro (Eq.refl true) ?_ | refine Exists.intro _ (And.intro (wI (by omega)) ?_) | refine Exists.intro _ (And.intro (wU (by omega)) ?_) | refine Exists.intro _ (And.intro ⟨rfl, by omega⟩ ?_) | refine Exists.intro _ (And.intro rfl ?_) | refine And.intro rfl ?_ | refine And.intro ⟨rfl, rfl⟩ ?_ | ((refine And.intro (fun _ => ?_) (fun _ => ?_)) <;> try (exfalso; omega))))
  refine loop_rule (α := Nat) (fun k => k ≤ N ∧ ∀ j, j < k → ltB n g j = true) (fun k => [(0, vi n), (1, .sl 0), (5, vi k)]) (fun k => [.pr T_int64 1 N (il g N)]) (fun k => N - k) 0 [0]
    ⟨by omega, fun j hj => by omega⟩ ⟨⟨rfl, rfl, rfl, trivial⟩, ⟨rfl, trivial⟩, rfl⟩ ?_
  rintro k gg ⟨hk, hno⟩
  by_cases h9 : k = N
  · subst h9
    rw [decide_eq_true hno]
    (repeat' (first | refine And.intro (neI rfl) ?_ | refine And.intro ⟨rfl, leR rfl, onesR rfl⟩ ?_ | refine And.intro ⟨rfl, leR rfl⟩ ?_ | refine draw_rule2 hfol (fun KK hKK => ?_) | refine hKK _ _ _ (by kernel_rfl) ?_ | refine region_rule (fun KK hKK => ?_) | refine hKK _ _ ?_ | refine And.intro (Eq.refl true) ?_ | refine Exists.intro _ (And.intro (wI (by omega)) ?_) | refine Exists.intro _ (And.intro (wU (by omega)) ?_) | refine Exists.intro _ (And.intro ⟨rfl, by omega⟩ ?_) | refine Exists.intro _ (And.intro rfl ?_) | refine And.intro rfl ?_ | refine And.intro ⟨rfl, rfl⟩ ?_ | ((refine And.intro (fun _ => ?_) (fun _ => ?_)) <;> try (exfalso; omega))))
    exact Exists.intro [0] (And.intro (rfl) (And.intro ⟨rfl, trivial⟩ rfl))
  have hkl : k < N := by omega
  have hi2 := s_in (g k) 0 (n - 2)
  have e1 : IntKind.i64.wrap (n - 2) = n - 2 := wI (by omega)
  cases hx : ltB n g k with
  | false =>
    rw [show decide (0 ≤ g k ∧ g k ≤ n - 2) = false from hx] at hi2
    rw [decide_eq_false (show ¬ ∀ j, j < N → ltB n g j = true from fun h => by rw [h k hkl] at hx; cases hx)]
    (repeat' (first | refine Exists.intro _ (And.intro (il_at hkl) ?_) | refine Exists.intro _ (And.intro e1 ?_) | refine (hi2).pure rfl ?_ | refine And.intro (neI rfl) ?_ | refine And.intro ⟨rfl, leR rfl, onesR rfl⟩ ?_ | refine And.intro ⟨rfl, leR rfl⟩ ?_ | refine draw_rule2 hfol (fun KK hKK => ?_) | refine hKK _ _ _ (by kernel_rfl) ?_ | refine region_rule (fun KK hKK => ?_) | refine hKK _ _ ?_ | refine And.intro (Eq.refl true) ?_ | refine Exists.intro _ (And.intro (wI (by omega)) ?_) | refine Exists.intro _ (And.intro (wU (by omega)) ?_) | refine Exists.intro _ (And.intro ⟨rfl, by omega⟩ ?_) | refine Exists.intro _ (And.intro rfl ?_) | refine And.intro rfl ?_ | refine And.intro ⟨rfl, rfl⟩ ?_ | ((refine And.intro (fun _ => ?_) (fun _ => ?_)) <;> try (exfalso; omega))))
    exact Exists.intro [0] (And.intro (rfl) (And.intro ⟨rfl, trivial⟩ rfl))
  | true =>
    rw [show decide (0 ≤ g k ∧ g k ≤ n - 2) = true from hx] at hi2
    (repeat' (first | refine Exists.intro _ (And.intro (il_at hkl) ?_) | refine Exists.intro _ (And.intro e1 ?_) | refine (hi2).pure rfl ?_ | refine And.intro (neI rfl) ?_ | refine And.intro ⟨rfl, leR rfl, onesR rfl⟩ ?_ | refine And.intro ⟨rfl, leR rfl⟩ ?_ | refine draw_rule2 hfol (fun KK hKK => ?_) | refine hKK _ _ _ (by kernel_rfl) ?_ | refine region_rule (fun KK hKK => ?_) | refine hKK _ _ ?_ | refine And.intro (Eq.refl true) ?_ | refine Exists.intro _ (And.intro (wI (by omega)) ?_) | refine Exists.intro _ (And.intro (wU (by omega)) ?_) | refine Exists.intro _ (And.intro ⟨rfl, by omega⟩ ?_) | refine Exists.intro _ (And.intro rfl ?_) | refine And.intro rfl ?_ | refine And.intro ⟨rfl, rfl⟩ ?_ | ((refine And.intro (fun _ => ?_) (fun _ => ?_)) <;> try (exfalso; omega))))
    refine Exists.intro (k + 1) (Exists.intro [0] (And.intro ⟨⟨by omega, fun q hq => ?_⟩, (by show N - (k + 1) < N - k; omega)⟩ ⟨⟨rfl, rfl, rfl, trivial⟩, ⟨rfl, trivial⟩, rfl⟩))
    by_cases hqi : q = k
    · subst hqi; exact hx
    · exact hno q (by omega)
end Go.Proofs.Ytgpgcdofhkpeaaa.VE
namespace Go.Proofs.Ytgpgcdofhkpeaaa.VE
open Go
set_option maxHeartbeats 800000
set_option maxRecDepth 100000

theorem wdB_elim {n : Int} {g : Nat → Int} {N : Nat} (h : wdB n g N = true) : ∃ k : Nat, n = k ∧ 2 ≤ k ∧ k ≤ 8 ∧ N ≤ 60 ∧ okL k g N := by
  unfold wdB at h
  simp only [Bool.and_eq_true, decide_eq_true_eq] at h
  obtain ⟨⟨h1, h2⟩, h3⟩ := h
  obtain ⟨k, rfl⟩ : ∃ k : Nat, n = k := ⟨n.toNat, by omega⟩
  exact ⟨k, rfl, by omega, by omega, h2, fun j hj => by have := h3 j hj; unfold ltB at this; exact of_decide_eq_true this⟩
end Go.Proofs.Ytgpgcdofhkpeaaa.VE
