/- Contracts of functions of the given program, for all arguments that the contract names; see each theorem. -/
import Derived.Test.YtgpgcdofhkpeaaaF26
import Derived.Test.YtgpgcdofhkpeaaaWA
set_option linter.all false
namespace Go.Proofs.Ytgpgcdofhkpeaaa.VE
open Go
set_option maxHeartbeats 1600000
set_option maxRecDepth 100000

/-! the laws ReduceWord and IsReducedWord -/
theorem vw_D {n : Nat} {g : Nat → Int} (hn1 : 2 ≤ n) (hn : n ≤ 8) : ∀ k, okL n g k → IsD n (vw n g k).1
  | 0, _ => un_D (by omega) hn
  | k + 1, h => mul_gen_D (vw_D hn1 hn k fun j hj => h j (by omega)) (by have := h k (by omega); omega)
theorem D_byte {n : Nat} {d : List Nat} (hD : IsD n d) : ∀ x ∈ d, x < 256 := V_byte hD
theorem isDi_D {n : Nat} {d : List Nat} (hD : IsD n d) : isDi n d = true := isDi_of hD
theorem s_sRed (n : Nat) (g : Nat → Int) (N : Nat) (hn1 : 2 ≤ n) (hn : n ≤ 8) (hN : N ≤ 60) (hg : okL n g N) (hb : wdB n g N = true) (W : List Nat → Nat × List Nat) (hW : WD n W) :
    Spec Try.prog n_s_ReduceWord [vi n, .sl 0] [.pr T_int64 1 N (il g N)] (.tup [.sl 1, vi ((vw n g N).2 : Nat), vi 0]) [.pr T_int64 1 N (il g N), rwW W (vw n g N).1] := by
  have hw := s_swd n g N (by omega)
  rw [hb] at hw
  have hv := s_sval n g N hn1 hn hN hg
  have hD := vw_D hn1 hn N hg
  have hs := s_norm n W hW _ hD
  have hl := hD.len
  refine SpecW.of_EV hf_s_ReduceWord hc_s_ReduceWord rfl rfl rfl fun w0 B ρ0 _ => ?_
  (repeat' (first | refine (hw).read [0] rfl ⟨rfl, trivial⟩ ?_ | refine (hv).read [0] rfl ⟨rfl, trivial⟩ ?_ | refine Exists.intro (pcl (n : Int) (vw n g N).1) (And.intro ⟨pcl_len hl, pcl_all hl⟩ ?_) | refine And.intro ⟨pcl_len hl, leR rfl, pcl_ones⟩ ?_ | refine Exists.intro (pcl (n : Int) (vw n g N).1) (And.intro ⟨leR rfl, spl0 (leR rfl)⟩ ?_) | refine (hs).make [] rfl trivial ?_ | refine And.intro (neI rfl) ?_ | refine And.intro ⟨rfl, leR rfl, onesR rfl⟩ ?_ | refine And.intro ⟨rfl, leR rfl⟩ ?_ | refine draw_rule2 hfol (fun KK hKK => ?_) | refine hKK _ _ _ (by kernel_rfl) ?_ | refine region_rule (fun KK hKK => ?_) | refine hKK _ _ ?_ | refine And.intro (Eq.refl true) ?_ | refine Exists.intro _ (And.intro (wI (by omega)) ?_) | refine Exists.intro _ (And.intro (wU (by omega)) ?_) | refine Exists.intro _ (And.intro ⟨rfl, by omega⟩ ?_) | refine Exists.intro _ (And.intro rfl ?_) | refine And.intro rfl ?_ | refine And.intro ⟨rfl, rfl⟩ ?_ | ((refine And.intro (fun _ => ?_) (fun _ => ?_)) <;> try (exfalso; omega))))
  exact Exists.intro [0, 2] (And.intro (rfl) (And.intro ⟨rfl, rfl, trivial⟩ rfl))
theorem s_sRedE (n : Int) (g : Nat → Int) (N : Nat) (hN : N ≤ 1048576) (hb : wdB n g N = false) : Spec Try.prog n_s_ReduceWord [vi n, .sl 0] [.pr T_int64 1 N (il g N)] (.tup [.raw (.slice none 0 0), vi 0, vi 2]) [.pr T_int64 1 N (il g N)] := by
  have hw := s_swd n g N hN
  rw [hb] at hw
  refine SpecW.of_EV hf_s_ReduceWord hc_s_ReduceWord rfl rfl rfl fun w0 B ρ0 _ => ?_
  (repeat' (first | refine (hw).read [0] rfl ⟨rfl, trivial⟩ ?_ | refine And.intro (neI rfl) ?_ | refine And.intro ⟨rfl, leR rfl, onesR rfl⟩ ?_ | refine And.intro ⟨rfl, leR rfl⟩ ?_ | refine draw_rule2 hfol (fun KK hKK => ?_) | refine hKK _ _ _ (by kernel_rfl) ?_ | refine region_rule (fun KK hKK => ?_) | refine hKK _ _ ?_ | refine And.intro (Eq.refl true) ?_ | refine Exists.intro _ (And.intro (wI (by omega)) ?_) | refine Exists.intro _ (And.intro (wU (by omega)) ?_) | refine Exists.intro _ (And.intro ⟨rfl, by omega⟩ ?_) | refine Exists.intro _ (And.intro rfl ?_) | refine And.intro rfl ?_ | refine And.intro ⟨rfl, rfl⟩ ?_ | ((refine And.intro (fun _ => ?_) (fun _ => ?_)) <;> try (exfalso; omega))))
  exact Exists.intro [0] (And.intro (rfl) (And.intro ⟨rfl, trivial⟩ rfl))
theorem s_iRed (n : Nat) (g : Nat → Int) (N : Nat) (hn1 : 2 ≤ n) (hn : n ≤ 8) (hN : N ≤ 60) (hg : okL n g N) (hb : wdB n g N = true) (W : List Nat → Nat × List Nat) (hW : WD n W) :
    Spec Try.prog n_i_ReduceWord [vi n, .sl 0] [.pr T_int64 1 N (il g N)] (.tup [.sl 1, vi ((vw n g N).2 : Nat), vi 0]) [.pr T_int64 1 N (il g N), rwW W (vw n g N).1] := by
  have hw := s_iwd n g N (by omega)
  rw [hb] at hw
  have hv := s_ival n g N hn1 hn hN hg
  have hD := vw_D hn1 hn N hg
  have hl := hD.len
  obtain ⟨E, hE⟩ := EndS.ex hW (by omega) hn (some (vw n g N).1)
  obtain ⟨hm, hs⟩ := s_short n W hW _ hD E hE
  generalize (kO n E).1 = ks at hm hs
  have hx := ix_lt hm
  have hgt := ix_get hm
  have h : Spec Try.prog n_i_ReduceWord [vi n, .sl 0] [.pr T_int64 1 N (il g N)] (.tup [.pl 1 (ix (vw n g N).1 ks), vi ((vw n g N).2 : Nat), vi 0]) [.pr T_int64 1 N (il g N), wpO W ks] := by
    refine SpecW.of_EV hf_i_ReduceWord hc_i_ReduceWord rfl rfl (ha_all rfl (by repeat' (first | exact trivial | exact okO_pl rfl | exact okO_pls rfl | exact okO_plss rfl | exact okO_plpp rfl | exact okO_pla rfl | exact okO_rs | exact okO_rss rfl | exact okO_rsss rfl | exact okO_wP rfl | exact okO_wL rfl | exact okO_r rfl | refine And.intro ?_ ?_)) rfl (by repeat' (first | exact trivial | exact okO_pl rfl | exact okO_pls rfl | exact okO_plss rfl | exact okO_plpp rfl | exact okO_pla rfl | exact okO_rs | exact okO_rss rfl | exact okO_rsss rfl | exact okO_wP rfl | exact okO_wL rfl | exact okO_r rfl | refine And.intro ?_ ?_))) fun w0 B ρ0 _ => ?_
    (repeat' (first | refine (hw).read [0] rfl ⟨rfl, trivial⟩ ?_ | refine (hv).read [0] rfl ⟨rfl, trivial⟩ ?_ | refine Exists.intro (pcl (n : Int) (vw n g N).1) (And.intro ⟨pcl_len hl, pcl_all hl⟩ ?_) | refine And.intro ⟨pcl_len hl, leR rfl, pcl_ones⟩ ?_ | refine Exists.intro (pcl (n : Int) (vw n g N).1) (And.intro ⟨leR rfl, spl0 (leR rfl)⟩ ?_) | refine hs.makeN [] rfl trivial (effR rfl rfl (nwR poM rfl)) ?_ | refine And.intro (neI rfl) ?_ | refine And.intro ⟨rfl, leR rfl, onesR rfl⟩ ?_ | refine And.intro ⟨rfl, leR rfl⟩ ?_ | refine draw_rule2 hfol (fun KK hKK => ?_) | refine hKK _ _ _ (by kernel_rfl) ?_ | refine region_rule (fun KK hKK => ?_) | refine hKK _ _ ?_ | refine And.intro (Eq.refl true) ?_ | refine Exists.intro _ (And.intro (wI (by omega)) ?_) | refine Exists.intro _ (And.intro (wU (by omega)) ?_) | refine Exists.intro _ (And.intro ⟨rfl, by omega⟩ ?_) | refine Exists.intro _ (And.intro rfl ?_) | refine And.intro rfl ?_ | refine And.intro ⟨rfl, rfl⟩ ?_ | ((refine And.intro (fun _ => ?_) (fun _ => ?_)) <;> try (exfalso; omega))))
    exact Exists.intro [0, 2] (And.intro rfl (And.intro (by repeat' (first | exact trivial | exact crP rfl | exact crS rfl | exact crSS rfl | exact crPP rfl | exact crA rfl | exact poP rfl | exact poS rfl | exact poSS rfl | exact moW rfl | exact moL rfl | exact rfl | refine And.intro ?_ ?_)) (goodB_all rfl (by repeat' (first | exact trivial | exact okO_pl rfl | exact okO_pls rfl | exact okO_plss rfl | exact okO_plpp rfl | exact okO_pla rfl | exact okO_rs | exact okO_rss rfl | exact okO_rsss rfl | exact okO_wP rfl | exact okO_wL rfl | exact okO_r rfl | refine And.intro ?_ ?_)) rfl)))
  refine h.told (v1 := .tup [.sl 2, vi ((vw n g N).2 : Nat), vi 0]) (L2 := [.pr T_int64 1 N (il g N), .po T_int64 ((rsP (fun j => nl (W (ks.getD j [])).2) ks.length).set (ix (vw n g N).1 ks) (.lent 2)), rwW W (vw n g N).1])
    (GG.lend (k := 1) (j := ix (vw n g N).1 ks) rfl (rsP_at hx) (fun ρ hE => ⟨rfl, by have h5 : (V.sl 2).ren ρ = (V.pl 1 (ix (vw n g N).1 ks)).ren ρ := hE; simp only [V.ren, renL] at h5 ⊢; rw [h5], trivial⟩) (fun ρ hE => ⟨eqR, eqR, .inl (by rw [nl_len, hgt]), trivial⟩) rfl (by repeat' (first | exact trivial | exact okO_pl rfl | exact okO_pls rfl | exact okO_plss rfl | exact okO_plpp rfl | exact okO_pla rfl | exact okO_rs | exact okO_rss rfl | exact okO_rsss rfl | exact okO_wP rfl | exact okO_wL rfl | exact okO_r rfl | refine And.intro ?_ ?_))) [0, 2] rfl ⟨rfl, rfl, trivial⟩ rfl rfl
theorem s_iRedE (n : Int) (g : Nat → Int) (N : Nat) (hN : N ≤ 1048576) (hb : wdB n g N = false) : Spec Try.prog n_i_ReduceWord [vi n, .sl 0] [.pr T_int64 1 N (il g N)] (.tup [.raw (.slice none 0 0), vi 0, vi 2]) [.pr T_int64 1 N (il g N)] := by
  have hw := s_iwd n g N hN
  rw [hb] at hw
  refine SpecW.of_EV hf_i_ReduceWord hc_i_ReduceWord rfl rfl rfl fun w0 B ρ0 _ => ?_
  (repeat' (first | refine (hw).read [0] rfl ⟨rfl, trivial⟩ ?_ | refine And.intro (neI rfl) ?_ | refine And.intro ⟨rfl, leR rfl, onesR rfl⟩ ?_ | refine And.intro ⟨rfl, leR rfl⟩ ?_ | refine draw_rule2 hfol (fun KK hKK => ?_) | refine hKK _ _ _ (by kernel_rfl) ?_ | refine region_rule (fun KK hKK => ?_) | refine hKK _ _ ?_ | refine And.intro (Eq.refl true) ?_ | refine Exists.intro _ (And.intro (wI (by omega)) ?_) | refine Exists.intro _ (And.intro (wU (by omega)) ?_) | refine Exists.intro _ (And.intro ⟨rfl, by omega⟩ ?_) | refine Exists.intro _ (And.intro rfl ?_) | refine And.intro rfl ?_ | refine And.intro ⟨rfl, rfl⟩ ?_ | ((refine And.intro (fun _ => ?_) (fun _ => ?_)) <;> try (exfalso; omega))))
  exact Exists.intro [0] (And.intro (rfl) (And.intro ⟨rfl, trivial⟩ rfl))
theorem s_lawRed {W : World → (Nat → Prop) → Prop} {v : Value} {g : Nat → Int} {N : Nat} (n : Int) (_ : -9223372036854775808 ≤ n ∧ n ≤ 9223372036854775807) (hA : ArgI W v g N) : SpecW Try.prog W n_l_FnExactReduceWord [vi n, .raw v] [] (vb true) [] := by
  obtain ⟨a, cap, hv⟩ := hA.form
  by_cases hN : N ≤ 1048576
  · have ht := s_toI hA hN
    have he := s_eqI g N (by omega)
    have hm := s_markI g N 1 (by omega) (by omega)
    cases hb : wdB n g N with
    | true =>
      obtain ⟨k, rfl, h2, h8, hN60, hg⟩ := wdB_elim hb
      obtain ⟨Wd, hW⟩ := WD.ex (n := k) (by omega) h8
      have h1 := s_sRed k g N h2 h8 hN60 hg hb Wd hW
      have h3 := s_iRed k g N h2 h8 hN60 hg hb Wd hW
      have hD := vw_D h2 h8 N hg
      have hl := hW.len hD
      have hlb := hW.b _ hD
      have hle := vw_le (n := k) (g := g) N
      have hle3 : k * N ≤ 8 * 60 := Nat.mul_le_mul h8 hN60
      unfold rwW at h1 h3
      rw [nl_il] at h1 h3
      generalize (vw k g N).2 = q at h1 h3 hle
      generalize (Wd (vw k g N).1).2.length = M at h1 h3 hl
      generalize (fun i => (((Wd (vw k g N).1).2.getD i 0 : Nat) : Int)) = f at h1 h3
      have he2 := s_eqI f M (by omega)
      have hm2 := s_markI f M 1 (by omega) (by omega)
      have hh2 := s_heldI M 1 (by omega) (by omega)
      refine SpecW.of_EV hf_l_FnExactReduceWord hc_l_FnExactReduceWord rfl rfl rfl fun w0 B ρ0 hW => ?_
      have hp := ArgK.pass (Γ := ⟨w0, B, ([] : List O).length, ρ0⟩) hA hW
      rw [hv] at ht ⊢
      (repeat' (first | refine ht.makeW hp [] rfl trivial ?_ | refine (h1).make [0] rfl ⟨rfl, trivial⟩ ?_ | refine (h3).make [2] rfl ⟨rfl, trivial⟩ ?_ | refine (he2).read [3,1] rfl ⟨rfl, rfl, trivial⟩ ?_ | refine (he).read [2,4] rfl ⟨rfl, rfl, trivial⟩ ?_ | refine (hm).make [2] rfl ⟨rfl, trivial⟩ ?_ | refine (hm2).make [3] rfl ⟨rfl, trivial⟩ ?_ | refine (hh2).read [3] rfl ⟨rfl, trivial⟩ ?_ | refine (h3).make [5] rfl ⟨rfl, trivial⟩ ?_ | refine (he2).read [6,1] rfl ⟨rfl, rfl, trivial⟩ ?_ | refine And.intro (fun h => absurd rfl h) (fun _ => ?_) | refine And.intro (fun _ => ?_) (fun h => absurd rfl h) | refine And.intro (neI rfl) ?_ | refine And.intro ⟨rfl, leR rfl, onesR rfl⟩ ?_ | refine And.intro ⟨rfl, leR rfl⟩ ?_ | refine draw_rule2 hfol (fun KK hKK => ?_) | refine hKK _ _ _ (by kernel_rfl) ?_ | refine region_rule (fun KK hKK => ?_) | refine hKK _ _ ?_ | refine And.intro (Eq.refl true) ?_ | refine Exists.intro _ (And.intro (wI (by omega)) ?_) | refine Exists.intro _ (And.intro (wU (by omega)) ?_) | refine Exists.intro _ (And.intro ⟨rfl, by omega⟩ ?_) | refine Exists.intro _ (And.intro rfl ?_) | refine And.intro rfl ?_ | refine And.intro ⟨rfl, rfl⟩ ?_ | ((refine And.intro (fun _ => ?_) (fun _ => ?_)) <;> try (exfalso; omega))))
      exact finP rfl
    | false =>
      have h1 := s_sRedE n g N hN hb
      have h3 := s_iRedE n g N hN hb
      have hm1 := s_markI0 1
      have hh1 := s_heldI0 1
      refine SpecW.of_EV hf_l_FnExactReduceWord hc_l_FnExactReduceWord rfl rfl rfl fun w0 B ρ0 hW => ?_
      have hp := ArgK.pass (Γ := ⟨w0, B, ([] : List O).length, ρ0⟩) hA hW
      rw [hv] at ht ⊢
      (repeat' (first | refine ht.makeW hp [] rfl trivial ?_ | refine (h1).read [0] rfl ⟨rfl, trivial⟩ ?_ | refine (h3).read [1] rfl ⟨rfl, trivial⟩ ?_ | refine (h3).read [3] rfl ⟨rfl, trivial⟩ ?_ | refine (s_eqI0).pure rfl ?_ | refine (he).read [1,2] rfl ⟨rfl, rfl, trivial⟩ ?_ | refine (hm).make [1] rfl ⟨rfl, trivial⟩ ?_ | refine (hm1).pure rfl ?_ | refine (hh1).pure rfl ?_ | refine And.intro (fun h => absurd rfl h) (fun _ => ?_) | refine And.intro (fun _ => ?_) (fun h => absurd rfl h) | refine And.intro (neI rfl) ?_ | refine And.intro ⟨rfl, leR rfl, onesR rfl⟩ ?_ | refine And.intro ⟨rfl, leR rfl⟩ ?_ | refine draw_rule2 hfol (fun KK hKK => ?_) | refine hKK _ _ _ (by kernel_rfl) ?_ | refine region_rule (fun KK hKK => ?_) | refine hKK _ _ ?_ | refine And.intro (Eq.refl true) ?_ | refine Exists.intro _ (And.intro (wI (by omega)) ?_) | refine Exists.intro _ (And.intro (wU (by omega)) ?_) | refine Exists.intro _ (And.intro ⟨rfl, by omega⟩ ?_) | refine Exists.intro _ (And.intro rfl ?_) | refine And.intro rfl ?_ | refine And.intro ⟨rfl, rfl⟩ ?_ | ((refine And.intro (fun _ => ?_) (fun _ => ?_)) <;> try (exfalso; omega))))
      exact finP rfl
  · refine SpecW.of_EV hf_l_FnExactReduceWord hc_l_FnExactReduceWord rfl rfl rfl fun w0 B ρ0 hW => ?_
    have hp := ArgK.pass (Γ := ⟨w0, B, ([] : List O).length, ρ0⟩) hA hW
    rw [hv]
    (repeat' (first | refine And.intro (neI rfl) ?_ | refine And.intro ⟨rfl, leR rfl, onesR rfl⟩ ?_ | refine And.intro ⟨rfl, leR rfl⟩ ?_ | refine draw_rule2 hfol (fun KK hKK => ?_) | refine hKK _ _ _ (by kernel_rfl) ?_ | refine region_rule (fun KK hKK => ?_) | refine hKK _ _ ?_ | refine And.intro (Eq.refl true) ?_ | refine Exists.intro _ (And.intro (wI (by omega)) ?_) | refine Exists.intro _ (And.intro (wU (by omega)) ?_) | refine Exists.intro _ (And.intro ⟨rfl, by omega⟩ ?_) | refine Exists.intro _ (And.intro rfl ?_) | refine And.intro rfl ?_ | refine And.intro ⟨rfl, rfl⟩ ?_ | ((refine And.intro (fun _ => ?_) (fun _ => ?_)) <;> try (exfalso; omega))))
    exact finP rfl
end Go.Proofs.Ytgpgcdofhkpeaaa.VE
