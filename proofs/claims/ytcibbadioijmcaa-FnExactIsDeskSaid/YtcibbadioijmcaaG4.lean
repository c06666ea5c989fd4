/- Contracts of functions of the given program, for all arguments that the contract names; see each theorem. -/
import Derived.Test.YtcibbadioijmcaaG3
import Derived.Test.YtcibbadioijmcaaC2
import Derived.Test.YtcibbadioijmcaaU10a
import Derived.Test.YtcibbadioijmcaaD2a
set_option linter.all false
namespace Go.Proofs.Ytcibbadioijmcaa.VE
open Go
set_option maxHeartbeats 1600000
set_option maxRecDepth 100000

/-! a diagram inside a row of terms: its text -/
theorem s_nR (t : Nat → Tm) (N k : Nat) (hs : okTs t N) (hk : k < N) : Spec Try.prog n_i_Diagram_n [.ptr 0 (k * 18)] [.pr T_i_Term 18 N (rowT t N)] (vi (t k).1) [.pr T_i_Term 18 N (rowT t N)] := by
  have h0 := rowT_size hs hk
  refine SpecW.of_EV hf_i_Diagram_n hc_i_Diagram_n rfl rfl rfl fun w0 B ρ0 _ => ?_
  (repeat' (first | refine Exists.intro _ (And.intro h0 ?_) | refine And.intro (neI rfl) ?_ | refine And.intro ⟨rfl, leR rfl, onesR rfl⟩ ?_ | refine And.intro ⟨rfl, leR rfl⟩ ?_ | refine draw_rule2 hfol (fun KK hKK => ?_) | refine hKK _ _ _ (by kernel_rfl) ?_ | refine region_rule (fun KK hKK => ?_) | refine hKK _ _ ?_ | refine And.intro (Eq.refl true) ?_ | refine Exists.intro _ (And.intro (wI (by omega)) ?_) | refine Exists.intro _ (And.intro (wU (by omega)) ?_) | refine Exists.intro _ (And.intro ⟨rfl, by omega⟩ ?_) | refine Exists.intro _ (And.intro rfl ?_) | refine And.intro rfl ?_ | refine And.intro ⟨rfl, rfl⟩ ?_ | ((refine And.intro (fun _ => ?_) (fun _ => ?_)) <;> try (exfalso; omega))))
  exact Exists.intro [0] (And.intro (rfl) (And.intro ⟨rfl, trivial⟩ rfl))
theorem s_textR (t : Nat → Tm) (N k n : Nat) (hs : okTs t N) (hk : k < N) (hn : (t k).1 = n) (hd : IsD n (t k).2.1) : Spec Try.prog n_i_Diagram_text [.ptr 0 (k * 18)] [.pr T_i_Term 18 N (rowT t N)] (.raw (.string (brB (qq n (t k).2.1) (2 * n)))) [.pr T_i_Term 18 N (rowT t N)] := by
  have hm := hd.len
  have hn8 := hd.n8
  have hb := hd.lt
  have hN := s_nR t N k hs hk
  rw [hn] at hN
  have hmt := fun i hi => rowT_mate (i := i) hs hk hi
  generalize (t k).2.1 = m at *
  refine SpecW.of_EV hf_i_Diagram_text hc_i_Diagram_text rfl rfl rfl fun w0 B ρ0 _ => ?_
  (repeat' (first | refine (hN).read [0] rfl ⟨rfl, trivial⟩ ?_ | refine And.intro (neI rfl) ?_ | refine And.intro ⟨rfl, leR rfl, onesR rfl⟩ ?_ | refine And.intro ⟨rfl, leR rfl⟩ ?_ | refine draw_rule2 hfol (fun KK hKK => ?_) | refine hKK _ _ _ (by kernel_rfl) ?_ | refine region_rule (fun KK hKK => ?_) | refine hKK _ _ ?_ | refine And.intro (Eq.refl true) ?_ | refine Exists.intro _ (And.intro (wI (by omega)) ?_) | refine Exists.intro _ (And.intro (wU (by omega)) ?_) | refine Exists.intro _ (And.intro ⟨rfl, by omega⟩ ?_) | refine Exists.intro _ (And.intro rfl ?_) | refine And.intro rfl ?_ | refine And.intro ⟨rfl, rfl⟩ ?_ | ((refine And.intro (fun _ => ?_) (fun _ => ?_)) <;> try (exfalso; omega))))
  refine loop_rule (α := Nat) (fun k => k ≤ 2 * n)
    (fun i => [(0, .ptr 0 (k * 18)), (3, vi n), (4, .sl 1), (10, vi (2 * n)), (11, vi i)])
    (fun i => [.pr T_i_Term 18 N (rowT t N), .pr T_uint8 1 i (brC (qq n m) i)]) (fun i => 2 * n - i) 0 [0, 1]
    (by omega) ⟨⟨rfl, rfl, rfl, rfl, rfl, trivial⟩, ⟨rfl, rfl, trivial⟩, rfl⟩ ?_
  rintro i g hi
  by_cases h9 : i = 2 * n
  · subst h9
    (repeat' (first | refine Exists.intro (brL (qq n m) (2 * n)) (And.intro rfl ?_) | refine And.intro (neI rfl) ?_ | refine And.intro ⟨rfl, leR rfl, onesR rfl⟩ ?_ | refine And.intro ⟨rfl, leR rfl⟩ ?_ | refine draw_rule2 hfol (fun KK hKK => ?_) | refine hKK _ _ _ (by kernel_rfl) ?_ | refine region_rule (fun KK hKK => ?_) | refine hKK _ _ ?_ | refine And.intro (Eq.refl true) ?_ | refine Exists.intro _ (And.intro (wI (by omega)) ?_) | refine Exists.intro _ (And.intro (wU (by omega)) ?_) | refine Exists.intro _ (And.intro ⟨rfl, by omega⟩ ?_) | refine Exists.intro _ (And.intro rfl ?_) | refine And.intro rfl ?_ | refine And.intro ⟨rfl, rfl⟩ ?_ | ((refine And.intro (fun _ => ?_) (fun _ => ?_)) <;> try (exfalso; omega))))
    exact Exists.intro [0] (And.intro (rfl) (And.intro ⟨rfl, trivial⟩ rfl))
  have hkl : i < 2 * n := by omega
  have hp1 := plc_lt hkl
  have hb1 := hb _ hp1
  have hpl := s_iplace n i (by omega) hkl
  have hpl2 : Spec Try.prog n_i_placeOf [vi n, vi (m.getD (plc n i) 0 : Nat)] [] (vi (qq n m i : Nat)) [] := s_iplace n (m.getD (plc n i) 0) (by omega) hb1
  have hc := hmt (plc n i) (by omega)
  rw [← Nat.add_assoc] at hc
  by_cases hop : i < qq n m i
  · (repeat' (first | refine (hpl).pure rfl ?_ | refine (hpl2).pure rfl ?_ | refine Exists.intro _ (And.intro hc ?_) | refine And.intro ⟨rfl, mkL rfl⟩ ?_ | refine Exists.intro [Value.int .u8 40] (And.intro (row1s (mkL' rfl)) ?_) | refine Exists.intro (brC (qq n m) (i + 1)) (And.intro ⟨rfl, onesR rfl, by omega, by omega, brC_succ1 hop⟩ ?_) | refine And.intro (neI rfl) ?_ | refine And.intro ⟨rfl, leR rfl, onesR rfl⟩ ?_ | refine And.intro ⟨rfl, leR rfl⟩ ?_ | refine draw_rule2 hfol (fun KK hKK => ?_) | refine hKK _ _ _ (by kernel_rfl) ?_ | refine region_rule (fun KK hKK => ?_) | refine hKK _ _ ?_ | refine And.intro (Eq.refl true) ?_ | refine Exists.intro _ (And.intro (wI (by omega)) ?_) | refine Exists.intro _ (And.intro (wU (by omega)) ?_) | refine Exists.intro _ (And.intro ⟨rfl, by omega⟩ ?_) | refine Exists.intro _ (And.intro rfl ?_) | refine And.intro rfl ?_ | refine And.intro ⟨rfl, rfl⟩ ?_ | ((refine And.intro (fun _ => ?_) (fun _ => ?_)) <;> try (exfalso; omega))))
    refine Exists.intro (i + 1) (Exists.intro [0, 3] (And.intro ⟨by omega, (by show 2 * n - (i + 1) < 2 * n - i; omega)⟩ ⟨⟨rfl, rfl, rfl, rfl, rfl, trivial⟩, ⟨rfl, rfl, trivial⟩, rfl⟩))
  · (repeat' (first | refine (hpl).pure rfl ?_ | refine (hpl2).pure rfl ?_ | refine Exists.intro _ (And.intro hc ?_) | refine And.intro ⟨rfl, mkL rfl⟩ ?_ | refine Exists.intro [Value.int .u8 41] (And.intro (row1s (mkL' rfl)) ?_) | refine Exists.intro (brC (qq n m) (i + 1)) (And.intro ⟨rfl, onesR rfl, by omega, by omega, brC_succ2 hop⟩ ?_) | refine And.intro (neI rfl) ?_ | refine And.intro ⟨rfl, leR rfl, onesR rfl⟩ ?_ | refine And.intro ⟨rfl, leR rfl⟩ ?_ | refine draw_rule2 hfol (fun KK hKK => ?_) | refine hKK _ _ _ (by kernel_rfl) ?_ | refine region_rule (fun KK hKK => ?_) | refine hKK _ _ ?_ | refine And.intro (Eq.refl true) ?_ | refine Exists.intro _ (And.intro (wI (by omega)) ?_) | refine Exists.intro _ (And.intro (wU (by omega)) ?_) | refine Exists.intro _ (And.intro ⟨rfl, by omega⟩ ?_) | refine Exists.intro _ (And.intro rfl ?_) | refine And.intro rfl ?_ | refine And.intro ⟨rfl, rfl⟩ ?_ | ((refine And.intro (fun _ => ?_) (fun _ => ?_)) <;> try (exfalso; omega))))
    refine Exists.intro (i + 1) (Exists.intro [0, 3] (And.intro ⟨by omega, (by show 2 * n - (i + 1) < 2 * n - i; omega)⟩ ⟨⟨rfl, rfl, rfl, rfl, rfl, trivial⟩, ⟨rfl, rfl, trivial⟩, rfl⟩))
end Go.Proofs.Ytcibbadioijmcaa.VE
