/- Contracts of functions of the given program, for all arguments that the contract names; see each theorem. -/
import Derived.Test.YtcibbadioijmcaaM17
import Derived.Test.YtcibbadioijmcaaW3
set_option linter.all false
namespace Go.Proofs.Ytcibbadioijmcaa.VE
open Go
set_option maxHeartbeats 1600000
set_option maxRecDepth 100000

theorem s_lawVBE {W : World → (Nat → Prop) → Prop} {v : Value} {g : Nat → Int} {N : Nat} (n : Int) (hA : ArgI W v g N) (hN : N ≤ 1048576) (h : wbB n g N = false) : SpecW Try.prog W n_l_FnExactValueOfBlobWord [vi n, .raw v] [] (vb true) [] := by
  obtain ⟨a, cap, hv⟩ := hA.form
  have h1 := s_sVBE n g N hN h
  have h2 := s_iVBE n g N hN h
  have hq := s_eqBl 0 (List.replicate 16 0) (List.replicate 16 false) r16n r16b
  have ht := s_toI hA hN
  have he := s_eqI g N (by omega)
  have hm1 := s_markI g N 1 (by omega) (by omega)
  have hm0 := s_markI0 1
  have hh0 := s_heldI0 1
  have hfol : Try.prog.follows .mixedOrders = true := rfl
  refine SpecW.of_EV hf_l_FnExactValueOfBlobWord hc_l_FnExactValueOfBlobWord rfl rfl rfl fun w0 B ρ0 hW => ?_
  have hp := ArgK.pass (Γ := ⟨w0, B, ([] : List O).length, ρ0⟩) hA hW
  rw [hv] at ht ⊢
  (repeat' (first | refine ht.makeW hp [] rfl trivial ?_ | refine (h1).read [0] rfl ⟨rfl, trivial⟩ ?_ | refine (h2).read [2] rfl ⟨rfl, trivial⟩ ?_ | refine (h2).read [5] rfl ⟨rfl, trivial⟩ ?_ | refine And.intro ⟨bcB_len r16n r16b, leR rfl, bcB_ones⟩ ?_ | refine Exists.intro (bcB 0 (List.replicate 16 0) (List.replicate 16 false)) (And.intro ⟨leR rfl, spl0 (leR rfl)⟩ ?_) | refine Exists.intro (bcB 0 (List.replicate 16 0) (List.replicate 16 false)) (And.intro ⟨bcB_len r16n r16b, bcB_all r16n r16b⟩ ?_) | refine (hq).pure rfl ?_ | refine (s_eqI0).pure rfl ?_ | refine (he).read [2,4] rfl ⟨rfl, rfl, trivial⟩ ?_ | refine (hm1).make [2] rfl ⟨rfl, trivial⟩ ?_ | refine (hm0).pure rfl ?_ | refine (hh0).pure rfl ?_ | refine And.intro (fun h => absurd rfl h) (fun _ => ?_) | refine And.intro (fun _ => ?_) (fun h => absurd rfl h) | refine And.intro (neI rfl) ?_ | refine And.intro ⟨rfl, leR rfl, onesR rfl⟩ ?_ | refine And.intro ⟨rfl, leR rfl⟩ ?_ | refine draw_rule2 hfol (fun KK hKK => ?_) | refine hKK _ _ _ (by kernel_rfl) ?_ | refine region_rule (fun KK hKK => ?_) | refine hKK _ _ ?_ | refine And.intro (Eq.refl true) ?_ | refine Exists.intro _ (And.intro (wI (by omega)) ?_) | refine Exists.intro _ (And.intro (wU (by omega)) ?_) | refine Exists.intro _ (And.intro ⟨rfl, by omega⟩ ?_) | refine Exists.intro _ (And.intro rfl ?_) | refine And.intro rfl ?_ | refine And.intro ⟨rfl, rfl⟩ ?_ | ((refine And.intro (fun _ => ?_) (fun _ => ?_)) <;> try (exfalso; omega))))
  exact finP rfl
theorem s_lawVBO {W : World → (Nat → Prop) → Prop} {v : Value} {g : Nat → Int} {N : Nat} (n : Nat) (hA : ArgI W v g N) (hn1 : 1 ≤ n) (hn : n ≤ 8) (hN : N ≤ 60) (hg : okB n g N) : SpecW Try.prog W n_l_FnExactValueOfBlobWord [vi n, .raw v] [] (vb true) [] := by
  obtain ⟨a, cap, hv⟩ := hA.form
  have h1 := s_sVB n g N hn1 hn hN hg
  have h2 := s_iVB n g N hn1 hn hN hg
  obtain ⟨hV, hl, _, _⟩ := vB_ok hn1 hn N hg
  have lV := hV.len
  generalize (vB n g N).1 = M at *
  generalize (vB n g N).2.1 = BS at *
  generalize gc (vB n g N).2.2 = G at *
  have hq := s_eqBl n M BS lV hl
  have ht := s_toI hA (by omega)
  have he := s_eqI g N (by omega)
  have heG := s_eqI G 2 (by omega)
  have hm1 := s_markI g N 1 (by omega) (by omega)
  have hmG := s_markI G 2 1 (by omega) (by omega)
  have hhG := s_heldI 2 1 (by omega) (by omega)
  have hfol : Try.prog.follows .mixedOrders = true := rfl
  refine SpecW.of_EV hf_l_FnExactValueOfBlobWord hc_l_FnExactValueOfBlobWord rfl rfl rfl fun w0 B ρ0 hW => ?_
  have hp := ArgK.pass (Γ := ⟨w0, B, ([] : List O).length, ρ0⟩) hA hW
  rw [hv] at ht ⊢
  (repeat' (first | refine ht.makeW hp [] rfl trivial ?_ | refine (h1).make [0] rfl ⟨rfl, trivial⟩ ?_ | refine (h2).make [3] rfl ⟨rfl, trivial⟩ ?_ | refine (h2).make [7] rfl ⟨rfl, trivial⟩ ?_ | refine And.intro ⟨bcB_len lV hl, leR rfl, bcB_ones⟩ ?_ | refine Exists.intro (bcB n M BS) (And.intro ⟨leR rfl, spl0 (leR rfl)⟩ ?_) | refine Exists.intro (bcB n M BS) (And.intro ⟨bcB_len lV hl, bcB_all lV hl⟩ ?_) | refine (hq).pure rfl ?_ | refine (heG).read [4,1] rfl ⟨rfl, rfl, trivial⟩ ?_ | refine (heG).read [8,1] rfl ⟨rfl, rfl, trivial⟩ ?_ | refine (he).read [3,6] rfl ⟨rfl, rfl, trivial⟩ ?_ | refine (hm1).make [3] rfl ⟨rfl, trivial⟩ ?_ | refine (hmG).make [4] rfl ⟨rfl, trivial⟩ ?_ | refine (hhG).read [4] rfl ⟨rfl, trivial⟩ ?_ | refine And.intro (fun h => absurd rfl h) (fun _ => ?_) | refine And.intro (fun _ => ?_) (fun h => absurd rfl h) | refine And.intro (neI rfl) ?_ | refine And.intro ⟨rfl, leR rfl, onesR rfl⟩ ?_ | refine And.intro ⟨rfl, leR rfl⟩ ?_ | refine draw_rule2 hfol (fun KK hKK => ?_) | refine hKK _ _ _ (by kernel_rfl) ?_ | refine region_rule (fun KK hKK => ?_) | refine hKK _ _ ?_ | refine And.intro (Eq.refl true) ?_ | refine Exists.intro _ (And.intro (wI (by omega)) ?_) | refine Exists.intro _ (And.intro (wU (by omega)) ?_) | refine Exists.intro _ (And.intro ⟨rfl, by omega⟩ ?_) | refine Exists.intro _ (And.intro rfl ?_) | refine And.intro rfl ?_ | refine And.intro ⟨rfl, rfl⟩ ?_ | ((refine And.intro (fun _ => ?_) (fun _ => ?_)) <;> try (exfalso; omega))))
  exact finP rfl
theorem s_lawVB {W : World → (Nat → Prop) → Prop} {v : Value} {g : Nat → Int} {N : Nat} (n : Int) (_ : -9223372036854775808 ≤ n ∧ n ≤ 9223372036854775807) (hA : ArgI W v g N) : SpecW Try.prog W n_l_FnExactValueOfBlobWord [vi n, .raw v] [] (vb true) [] := by
  by_cases hN : N ≤ 1048576
  · cases h : wbB n g N with
    | false => exact s_lawVBE n hA hN h
    | true =>
      obtain ⟨k, rfl, h1, h2, h3, h4⟩ := wbB_elim h
      exact s_lawVBO k hA h1 h2 h3 h4
  · obtain ⟨a, cap, hv⟩ := hA.form
    refine SpecW.of_EV hf_l_FnExactValueOfBlobWord hc_l_FnExactValueOfBlobWord rfl rfl rfl fun w0 B ρ0 hW => ?_
    rw [hv]
    (repeat' (first | refine And.intro (neI rfl) ?_ | refine And.intro ⟨rfl, leR rfl, onesR rfl⟩ ?_ | refine And.intro ⟨rfl, leR rfl⟩ ?_ | refine draw_rule2 hfol (fun KK hKK => ?_) | refine hKK _ _ _ (by kernel_rfl) ?_ | refine region_rule (fun KK hKK => ?_) | refine hKK _ _ ?_ | refine And.intro (Eq.refl true) ?_ | refine Exists.intro _ (And.intro (wI (by omega)) ?_) | refine Exists.intro _ (And.intro (wU (by omega)) ?_) | refine Exists.intro _ (And.intro ⟨rfl, by omega⟩ ?_) | refine Exists.intro _ (And.intro rfl ?_) | refine And.intro rfl ?_ | refine And.intro ⟨rfl, rfl⟩ ?_ | ((refine And.intro (fun _ => ?_) (fun _ => ?_)) <;> try (exfalso; omega))))
    exact finP rfl
end Go.Proofs.Ytcibbadioijmcaa.VE
