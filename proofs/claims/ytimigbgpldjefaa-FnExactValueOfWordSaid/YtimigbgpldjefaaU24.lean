/- Contracts of functions of the given program, for all arguments that the contract names; see each theorem. -/
import Derived.Test.YtimigbgpldjefaaU23
set_option linter.all false
namespace Go.Proofs.Ytimigbgpldjefaa.VE
open Go
set_option maxHeartbeats 800000
set_option maxRecDepth 100000

theorem wdB_elim {n : Int} {g : Nat → Int} {N : Nat} (h : wdB n g N = true) : ∃ k : Nat, n = k ∧ 2 ≤ k ∧ k ≤ 8 ∧ N ≤ 60 ∧ okL k g N := by
  unfold wdB at h
  simp only [Bool.and_eq_true, decide_eq_true_eq] at h
  obtain ⟨⟨h1, h2⟩, h3⟩ := h
  obtain ⟨k, rfl⟩ : ∃ k : Nat, n = k := ⟨n.toNat, by omega⟩
  exact ⟨k, rfl, by omega, by omega, h2, fun j hj => by have := h3 j hj; unfold ltB at this; exact of_decide_eq_true this⟩
abbrev dl4 (p : Int × List Nat × Int × Int) : V := .tup [pv p.1 p.2.1, vi p.2.2.1, vi p.2.2.2]
def vowR (n : Int) (g : Nat → Int) (N : Nat) : Int × List Nat × Int × Int :=
  if wdB n g N = true then (n, (vw n.toNat g N).1, (((vw n.toNat g N).2 : Nat) : Int), 0) else (0, List.replicate 16 0, 0, 2)
theorem vowR_len {n : Int} {g : Nat → Int} {N : Nat} : (vowR n g N).2.1.length = 16 := by
  unfold vowR; split
  · rename_i h
    obtain ⟨k, rfl, h1, h2, h3, h4⟩ := wdB_elim h
    exact (vw_V (by omega) h2 N h4).len
  · simp
theorem s_sVow (n : Int) (g : Nat → Int) (N : Nat) (hN : N ≤ 1048576) : Spec Try.prog n_s_ValueOfWord [vi n, .sl 0] [.pr T_int64 1 N (il g N)] (dl4 (vowR n g N)) [.pr T_int64 1 N (il g N)] := by
  have hw := s_swd n g N hN
  refine SpecW.of_EV hf_s_ValueOfWord hc_s_ValueOfWord rfl rfl rfl fun w0 B ρ0 _ => ?_
  by_cases h : wdB n g N = true
  · have hr : vowR n g N = (n, (vw n.toNat g N).1, (((vw n.toNat g N).2 : Nat) : Int), 0) := if_pos h
    obtain ⟨k, rfl, h1, h2, h3, h4⟩ := wdB_elim h
    rw [h] at hw
    have hv := s_sval k g N h1 h2 h3 h4
    have hl := (vw_V (by omega) h2 N h4).len
    (repeat' (first | refine (hw).read [0] rfl ⟨rfl, trivial⟩ ?_ | refine (hv).read [0] rfl ⟨rfl, trivial⟩ ?_ | refine Exists.intro (pcl (k : Int) (vw k g N).1) (And.intro ⟨pcl_len hl, pcl_all hl⟩ ?_) | refine And.intro ⟨pcl_len hl, leR rfl, pcl_ones⟩ ?_ | refine Exists.intro (pcl (k : Int) (vw k g N).1) (And.intro ⟨leR rfl, spl0 (leR rfl)⟩ ?_) | refine And.intro (neI rfl) ?_ | refine And.intro ⟨rfl, leR rfl, onesR rfl⟩ ?_ | refine And.intro ⟨rfl, leR rfl⟩ ?_ | refine draw_rule2 hfol (fun KK hKK => ?_) | refine hKK _ _ _ (by kernel_rfl) ?_ | refine region_rule (fun KK hKK => ?_) | refine hKK _ _ ?_ | refine And.intro (Eq.refl true) ?_ | refine Exists.intro _ (And.intro (wI (by omega)) ?_) | refine Exists.intro _ (And.intro (wU (by omega)) ?_) | refine Exists.intro _ (And.intro ⟨rfl, by omega⟩ ?_) | refine Exists.intro _ (And.intro rfl ?_) | refine And.intro rfl ?_ | refine And.intro ⟨rfl, rfl⟩ ?_ | ((refine And.intro (fun _ => ?_) (fun _ => ?_)) <;> try (exfalso; omega))))
    exact Exists.intro [0] (And.intro (by rw [hr]; rfl) (And.intro ⟨rfl, trivial⟩ rfl))
  · have hr : vowR n g N = (0, List.replicate 16 0, 0, 2) := if_neg h
    rw [show wdB n g N = false from by cases hb : wdB n g N <;> simp [hb] at h ⊢] at hw
    (repeat' (first | refine (hw).read [0] rfl ⟨rfl, trivial⟩ ?_ | refine Exists.intro (pcl 0 (List.replicate 16 0)) (And.intro ⟨leR rfl, rfl⟩ ?_) | refine Exists.intro (pcl 0 (List.replicate 16 0)) (And.intro ⟨rfl, rfl⟩ ?_) | refine And.intro (neI rfl) ?_ | refine And.intro ⟨rfl, leR rfl, onesR rfl⟩ ?_ | refine And.intro ⟨rfl, leR rfl⟩ ?_ | refine draw_rule2 hfol (fun KK hKK => ?_) | refine hKK _ _ _ (by kernel_rfl) ?_ | refine region_rule (fun KK hKK => ?_) | refine hKK _ _ ?_ | refine And.intro (Eq.refl true) ?_ | refine Exists.intro _ (And.intro (wI (by omega)) ?_) | refine Exists.intro _ (And.intro (wU (by omega)) ?_) | refine Exists.intro _ (And.intro ⟨rfl, by omega⟩ ?_) | refine Exists.intro _ (And.intro rfl ?_) | refine And.intro rfl ?_ | refine And.intro ⟨rfl, rfl⟩ ?_ | ((refine And.intro (fun _ => ?_) (fun _ => ?_)) <;> try (exfalso; omega))))
    exact Exists.intro [0] (And.intro (by rw [hr]; rfl) (And.intro ⟨rfl, trivial⟩ rfl))
theorem s_iVow (n : Int) (g : Nat → Int) (N : Nat) (hN : N ≤ 1048576) : Spec Try.prog n_i_ValueOfWord [vi n, .sl 0] [.pr T_int64 1 N (il g N)] (dl4 (vowR n g N)) [.pr T_int64 1 N (il g N)] := by
  have hw := s_iwd n g N hN
  refine SpecW.of_EV hf_i_ValueOfWord hc_i_ValueOfWord rfl rfl rfl fun w0 B ρ0 _ => ?_
  by_cases h : wdB n g N = true
  · have hr : vowR n g N = (n, (vw n.toNat g N).1, (((vw n.toNat g N).2 : Nat) : Int), 0) := if_pos h
    obtain ⟨k, rfl, h1, h2, h3, h4⟩ := wdB_elim h
    rw [h] at hw
    have hv := s_ival k g N h1 h2 h3 h4
    have hl := (vw_V (by omega) h2 N h4).len
    (repeat' (first | refine (hw).read [0] rfl ⟨rfl, trivial⟩ ?_ | refine (hv).read [0] rfl ⟨rfl, trivial⟩ ?_ | refine Exists.intro (pcl (k : Int) (vw k g N).1) (And.intro ⟨pcl_len hl, pcl_all hl⟩ ?_) | refine And.intro ⟨pcl_len hl, leR rfl, pcl_ones⟩ ?_ | refine Exists.intro (pcl (k : Int) (vw k g N).1) (And.intro ⟨leR rfl, spl0 (leR rfl)⟩ ?_) | refine And.intro (neI rfl) ?_ | refine And.intro ⟨rfl, leR rfl, onesR rfl⟩ ?_ | refine And.intro ⟨rfl, leR rfl⟩ ?_ | refine draw_rule2 hfol (fun KK hKK => ?_) | refine hKK _ _ _ (by kernel_rfl) ?_ | refine region_rule (fun KK hKK => ?_) | refine hKK _ _ ?_ | refine And.intro (Eq.refl true) ?_ | refine Exists.intro _ (And.intro (wI (by omega)) ?_) | refine Exists.intro _ (And.intro (wU (by omega)) ?_) | refine Exists.intro _ (And.intro ⟨rfl, by omega⟩ ?_) | refine Exists.intro _ (And.intro rfl ?_) | refine And.intro rfl ?_ | refine And.intro ⟨rfl, rfl⟩ ?_ | ((refine And.intro (fun _ => ?_) (fun _ => ?_)) <;> try (exfalso; omega))))
    exact Exists.intro [0] (And.intro (by rw [hr]; rfl) (And.intro ⟨rfl, trivial⟩ rfl))
  · have hr : vowR n g N = (0, List.replicate 16 0, 0, 2) := if_neg h
    rw [show wdB n g N = false from by cases hb : wdB n g N <;> simp [hb] at h ⊢] at hw
    (repeat' (first | refine (hw).read [0] rfl ⟨rfl, trivial⟩ ?_ | refine Exists.intro (pcl 0 (List.replicate 16 0)) (And.intro ⟨leR rfl, rfl⟩ ?_) | refine Exists.intro (pcl 0 (List.replicate 16 0)) (And.intro ⟨rfl, rfl⟩ ?_) | refine And.intro (neI rfl) ?_ | refine And.intro ⟨rfl, leR rfl, onesR rfl⟩ ?_ | refine And.intro ⟨rfl, leR rfl⟩ ?_ | refine draw_rule2 hfol (fun KK hKK => ?_) | refine hKK _ _ _ (by kernel_rfl) ?_ | refine region_rule (fun KK hKK => ?_) | refine hKK _ _ ?_ | refine And.intro (Eq.refl true) ?_ | refine Exists.intro _ (And.intro (wI (by omega)) ?_) | refine Exists.intro _ (And.intro (wU (by omega)) ?_) | refine Exists.intro _ (And.intro ⟨rfl, by omega⟩ ?_) | refine Exists.intro _ (And.intro rfl ?_) | refine And.intro rfl ?_ | refine And.intro ⟨rfl, rfl⟩ ?_ | ((refine And.intro (fun _ => ?_) (fun _ => ?_)) <;> try (exfalso; omega))))
    exact Exists.intro [0] (And.intro (by rw [hr]; rfl) (And.intro ⟨rfl, trivial⟩ rfl))
theorem ArgK.form {k : IntKind} {W : World → (Nat → Prop) → Prop} {v : Value} {g : Nat → Int} {N : Nat} (h : ArgK k W v g N) : ∃ a cap, v = .slice a N cap := by
  rcases h with ⟨a, cap, rfl, rfl, _⟩ | ⟨b, off, cap, _, _, _, rfl, _⟩
  · exact ⟨a, cap, rfl⟩
  · exact ⟨_, cap, rfl⟩
theorem s_lawVow {W : World → (Nat → Prop) → Prop} {v : Value} {g : Nat → Int} {N : Nat} (n : Int) (_ : -9223372036854775808 ≤ n ∧ n ≤ 9223372036854775807) (hA : ArgI W v g N) : SpecW Try.prog W n_l_FnExactValueOfWord [vi n, .raw v] [] (vb true) [] := by
  obtain ⟨a, cap, hv⟩ := hA.form
  refine SpecW.of_EV hf_l_FnExactValueOfWord hc_l_FnExactValueOfWord rfl rfl rfl fun w0 B ρ0 hW => ?_
  have hp := ArgK.pass (Γ := ⟨w0, B, ([] : List O).length, ρ0⟩) hA hW
  by_cases hN : N ≤ 1048576
  · have ht := s_toI hA hN
    have h1 := s_sVow n g N hN
    have h2 := s_iVow n g N hN
    have he := s_eqI g N (by omega)
    have hl := vowR_len (n := n) (g := g) (N := N)
    generalize vowR n g N = p at h1 h2 hl
    have hd := s_eqD p.1 p.2.1 hl
    rw [hv] at ht ⊢
    (repeat' (first | refine ht.makeW hp [] rfl trivial ?_ | refine (h1).read [0] rfl ⟨rfl, trivial⟩ ?_ | refine (h2).read [2] rfl ⟨rfl, trivial⟩ ?_ | refine (hd).pure rfl ?_ | refine (he).read [2,4] rfl ⟨rfl, rfl, trivial⟩ ?_ | refine Exists.intro (pcl p.1 p.2.1) (And.intro ⟨pcl_len hl, pcl_all hl⟩ ?_) | refine And.intro ⟨pcl_len hl, leR rfl, pcl_ones⟩ ?_ | refine Exists.intro (pcl p.1 p.2.1) (And.intro ⟨leR rfl, spl0 (leR rfl)⟩ ?_) | refine And.intro (fun h => absurd rfl h) (fun _ => ?_) | refine And.intro (fun _ => ?_) (fun h => absurd rfl h) | refine And.intro (neI rfl) ?_ | refine And.intro ⟨rfl, leR rfl, onesR rfl⟩ ?_ | refine And.intro ⟨rfl, leR rfl⟩ ?_ | refine draw_rule2 hfol (fun KK hKK => ?_) | refine hKK _ _ _ (by kernel_rfl) ?_ | refine region_rule (fun KK hKK => ?_) | refine hKK _ _ ?_ | refine And.intro (Eq.refl true) ?_ | refine Exists.intro _ (And.intro (wI (by omega)) ?_) | refine Exists.intro _ (And.intro (wU (by omega)) ?_) | refine Exists.intro _ (And.intro ⟨rfl, by omega⟩ ?_) | refine Exists.intro _ (And.intro rfl ?_) | refine And.intro rfl ?_ | refine And.intro ⟨rfl, rfl⟩ ?_ | ((refine And.intro (fun _ => ?_) (fun _ => ?_)) <;> try (exfalso; omega))))
    exact finP rfl
  · rw [hv]
    (repeat' (first | refine And.intro (neI rfl) ?_ | refine And.intro ⟨rfl, leR rfl, onesR rfl⟩ ?_ | refine And.intro ⟨rfl, leR rfl⟩ ?_ | refine draw_rule2 hfol (fun KK hKK => ?_) | refine hKK _ _ _ (by kernel_rfl) ?_ | refine region_rule (fun KK hKK => ?_) | refine hKK _ _ ?_ | refine And.intro (Eq.refl true) ?_ | refine Exists.intro _ (And.intro (wI (by omega)) ?_) | refine Exists.intro _ (And.intro (wU (by omega)) ?_) | refine Exists.intro _ (And.intro ⟨rfl, by omega⟩ ?_) | refine Exists.intro _ (And.intro rfl ?_) | refine And.intro rfl ?_ | refine And.intro ⟨rfl, rfl⟩ ?_ | ((refine And.intro (fun _ => ?_) (fun _ => ?_)) <;> try (exfalso; omega))))
    exact finP rfl
end Go.Proofs.Ytimigbgpldjefaa.VE
