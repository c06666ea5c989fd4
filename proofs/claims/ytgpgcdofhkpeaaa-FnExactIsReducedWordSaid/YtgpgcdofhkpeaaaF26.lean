/- Contracts of functions of the given program, for all arguments that the contract names; see each theorem. -/
import Derived.Test.YtgpgcdofhkpeaaaF25
import Derived.Test.YtgpgcdofhkpeaaaW1
set_option linter.all false
namespace Go.Proofs.Ytgpgcdofhkpeaaa.VE
open Go
set_option maxHeartbeats 1600000
set_option maxRecDepth 100000

theorem nl_il (w : List Nat) : nl w = il (fun i => ((w.getD i 0 : Nat) : Int)) w.length := by
  refine List.ext_getElem? fun i => ?_
  by_cases h : i < w.length
  · rw [nl_at h, il_at h]
  · rw [List.getElem?_eq_none (by rw [nl_len]; omega), List.getElem?_eq_none (by rw [il_len]; omega)]
/-- The word's row. -/
abbrev rwW (W : List Nat → Nat × List Nat) (d : List Nat) : O := .pr T_int64 1 (W d).2.length (nl (W d).2)
theorem s_norm (n : Nat) (W : List Nat → Nat × List Nat) (hW : WD n W) (d : List Nat) (hD : IsD n d) :
    Spec Try.prog n_s_l03Normal [pv n d] [] (.tup [.sl 0, vi (IntKind.i64.wrap ((mc n W d : Nat) : Int))]) [rwW W d] := by
  obtain ⟨I, hI⟩ := EndG.ex hD.n1 hD.n8 n d
  obtain ⟨h1, h2, h3⟩ := hW.tree hD hI
  have h := s_normal n d hD I hI h1
  rw [h2, h3] at h
  exact h
/-- The reference's NormalWord. -/
theorem s_sNW (n : Nat) (W : List Nat → Nat × List Nat) (hW : WD n W) (d : List Nat) (hD : IsD n d) (hb : ∀ x ∈ d, x < 256) (hv : isDi n d = true) : Spec Try.prog n_s_NormalWord [pv n d] [] (.tup [.sl 0, vi 0]) [rwW W d] := by
  have hdl := hD.len
  have hq := s_sIs n d hdl hb
  rw [isD_eq n d hdl, hv] at hq
  have hs := s_norm n W hW d hD
  refine SpecW.of_EV hf_s_NormalWord hc_s_NormalWord rfl rfl rfl fun w0 B ρ0 _ => ?_
  (repeat' (first | refine (hq).pure rfl ?_ | refine Exists.intro (pcl (n : Int) d) (And.intro ⟨pcl_len hdl, pcl_all hdl⟩ ?_) | refine And.intro ⟨pcl_len hdl, leR rfl, pcl_ones⟩ ?_ | refine Exists.intro (pcl (n : Int) d) (And.intro ⟨leR rfl, spl0 (leR rfl)⟩ ?_) | refine (hs).make [] rfl trivial ?_ | refine And.intro (neI rfl) ?_ | refine And.intro ⟨rfl, leR rfl, onesR rfl⟩ ?_ | refine And.intro ⟨rfl, leR rfl⟩ ?_ | refine draw_rule2 hfol (fun KK hKK => ?_) | refine hKK _ _ _ (by kernel_rfl) ?_ | refine region_rule (fun KK hKK => ?_) | refine hKK _ _ ?_ | refine And.intro (Eq.refl true) ?_ | refine Exists.intro _ (And.intro (wI (by omega)) ?_) | refine Exists.intro _ (And.intro (wU (by omega)) ?_) | refine Exists.intro _ (And.intro ⟨rfl, by omega⟩ ?_) | refine Exists.intro _ (And.intro rfl ?_) | refine And.intro rfl ?_ | refine And.intro ⟨rfl, rfl⟩ ?_ | ((refine And.intro (fun _ => ?_) (fun _ => ?_)) <;> try (exfalso; omega))))
  exact Exists.intro [1] (And.intro (rfl) (And.intro ⟨rfl, trivial⟩ rfl))
theorem s_sNWe (s : Int) (d : List Nat) (hdl : d.length = 16) (hb : ∀ x ∈ d, x < 256) (hv : isDi s d = false) : Spec Try.prog n_s_NormalWord [pv s d] [] (.tup [.raw (.slice none 0 0), vi 1]) [] := by
  have hq := s_sIs s d hdl hb
  rw [isD_eq s d hdl, hv] at hq
  refine SpecW.of_EV hf_s_NormalWord hc_s_NormalWord rfl rfl rfl fun w0 B ρ0 _ => ?_
  (repeat' (first | refine (hq).pure rfl ?_ | refine Exists.intro (pcl s d) (And.intro ⟨pcl_len hdl, pcl_all hdl⟩ ?_) | refine And.intro ⟨pcl_len hdl, leR rfl, pcl_ones⟩ ?_ | refine Exists.intro (pcl s d) (And.intro ⟨leR rfl, spl0 (leR rfl)⟩ ?_) | refine And.intro (neI rfl) ?_ | refine And.intro ⟨rfl, leR rfl, onesR rfl⟩ ?_ | refine And.intro ⟨rfl, leR rfl⟩ ?_ | refine draw_rule2 hfol (fun KK hKK => ?_) | refine hKK _ _ _ (by kernel_rfl) ?_ | refine region_rule (fun KK hKK => ?_) | refine hKK _ _ ?_ | refine And.intro (Eq.refl true) ?_ | refine Exists.intro _ (And.intro (wI (by omega)) ?_) | refine Exists.intro _ (And.intro (wU (by omega)) ?_) | refine Exists.intro _ (And.intro ⟨rfl, by omega⟩ ?_) | refine Exists.intro _ (And.intro rfl ?_) | refine And.intro rfl ?_ | refine And.intro ⟨rfl, rfl⟩ ?_ | ((refine And.intro (fun _ => ?_) (fun _ => ?_)) <;> try (exfalso; omega))))
  exact Exists.intro [] (And.intro (rfl) (And.intro trivial rfl))
/-- The program's. -/
theorem s_iNW (n : Nat) (W : List Nat → Nat × List Nat) (hW : WD n W) (d : List Nat) (hD : IsD n d) (hb : ∀ x ∈ d, x < 256) (hv : isDi n d = true) : Spec Try.prog n_i_NormalWord [pv n d] [] (.tup [.sl 0, vi 0]) [rwW W d] := by
  have hdl := hD.len
  have hq := s_invalid1D n d hdl hb
  rw [hv] at hq; simp only [Bool.not_true, cond_false] at hq
  obtain ⟨E, hE⟩ := EndS.ex hW hD.n1 hD.n8 (some d)
  obtain ⟨hm, hs⟩ := s_short n W hW d hD E hE
  generalize (kO n E).1 = ks at hm hs
  have hx := ix_lt hm
  have hg := ix_get hm
  have h : Spec Try.prog n_i_NormalWord [pv n d] [] (.tup [.pl 0 (ix d ks), vi 0]) [wpO W ks] := by
    refine SpecW.of_EV hf_i_NormalWord hc_i_NormalWord rfl rfl (ha_all rfl (by repeat' (first | exact trivial | exact okO_pl rfl | exact okO_pls rfl | exact okO_plss rfl | exact okO_plpp rfl | exact okO_pla rfl | exact okO_rs | exact okO_rss rfl | exact okO_rsss rfl | exact okO_wP rfl | exact okO_wL rfl | exact okO_r rfl | refine And.intro ?_ ?_)) rfl (by repeat' (first | exact trivial | exact okO_pl rfl | exact okO_pls rfl | exact okO_plss rfl | exact okO_plpp rfl | exact okO_pla rfl | exact okO_rs | exact okO_rss rfl | exact okO_rsss rfl | exact okO_wP rfl | exact okO_wL rfl | exact okO_r rfl | refine And.intro ?_ ?_))) fun w0 B ρ0 _ => ?_
    (repeat' (first | refine (hq).read [1] rfl ⟨rfl, trivial⟩ ?_ | refine Exists.intro (pcl (n : Int) d) (And.intro ⟨pcl_len hdl, pcl_all hdl⟩ ?_) | refine And.intro ⟨pcl_len hdl, mkL rfl⟩ ?_ | refine Exists.intro (rowP [((n : Int), d)]) (And.intro (row1 (N := 17) (p := ((n : Int), d)) (mkL' rfl)) ?_) | refine hs.makeN [] rfl trivial (effR rfl rfl (nwR poM rfl)) ?_ | refine And.intro (neI rfl) ?_ | refine And.intro ⟨rfl, leR rfl, onesR rfl⟩ ?_ | refine And.intro ⟨rfl, leR rfl⟩ ?_ | refine draw_rule2 hfol (fun KK hKK => ?_) | refine hKK _ _ _ (by kernel_rfl) ?_ | refine region_rule (fun KK hKK => ?_) | refine hKK _ _ ?_ | refine And.intro (Eq.refl true) ?_ | refine Exists.intro _ (And.intro (wI (by omega)) ?_) | refine Exists.intro _ (And.intro (wU (by omega)) ?_) | refine Exists.intro _ (And.intro ⟨rfl, by omega⟩ ?_) | refine Exists.intro _ (And.intro rfl ?_) | refine And.intro rfl ?_ | refine And.intro ⟨rfl, rfl⟩ ?_ | ((refine And.intro (fun _ => ?_) (fun _ => ?_)) <;> try (exfalso; omega))))
    exact Exists.intro [2] (And.intro rfl (And.intro (by repeat' (first | exact trivial | exact crP rfl | exact crS rfl | exact crSS rfl | exact crPP rfl | exact crA rfl | exact poP rfl | exact poS rfl | exact poSS rfl | exact moW rfl | exact moL rfl | exact rfl | refine And.intro ?_ ?_)) (goodB_all rfl (by repeat' (first | exact trivial | exact okO_pl rfl | exact okO_pls rfl | exact okO_plss rfl | exact okO_plpp rfl | exact okO_pla rfl | exact okO_rs | exact okO_rss rfl | exact okO_rsss rfl | exact okO_wP rfl | exact okO_wL rfl | exact okO_r rfl | refine And.intro ?_ ?_)) rfl)))
  refine h.told (v1 := .tup [.sl 1, vi 0]) (L2 := [.po T_int64 ((rsP (fun j => nl (W (ks.getD j [])).2) ks.length).set (ix d ks) (.lent 1)), rwW W d])
    (GG.lend (k := 0) (j := ix d ks) rfl (rsP_at hx) (fun ρ hE => ⟨rfl, by have h5 : (V.sl 1).ren ρ = (V.pl 0 (ix d ks)).ren ρ := hE; simp only [V.ren, renL] at h5 ⊢; rw [h5], trivial⟩) (fun ρ hE => ⟨eqR, .inl (by rw [nl_len, hg]), trivial⟩) rfl (by repeat' (first | exact trivial | exact okO_pl rfl | exact okO_pls rfl | exact okO_plss rfl | exact okO_plpp rfl | exact okO_pla rfl | exact okO_rs | exact okO_rss rfl | exact okO_rsss rfl | exact okO_wP rfl | exact okO_wL rfl | exact okO_r rfl | refine And.intro ?_ ?_))) [1] rfl ⟨rfl, trivial⟩ rfl rfl
theorem s_iNWe (s : Int) (d : List Nat) (hdl : d.length = 16) (hb : ∀ x ∈ d, x < 256) (hv : isDi s d = false) : Spec Try.prog n_i_NormalWord [pv s d] [] (.tup [.raw (.slice none 0 0), vi 1]) [] := by
  have hq := s_invalid1D s d hdl hb
  rw [hv] at hq; simp only [Bool.not_false, cond_true] at hq
  refine SpecW.of_EV hf_i_NormalWord hc_i_NormalWord rfl rfl rfl fun w0 B ρ0 _ => ?_
  (repeat' (first | refine (hq).read [1] rfl ⟨rfl, trivial⟩ ?_ | refine Exists.intro (pcl s d) (And.intro ⟨pcl_len hdl, pcl_all hdl⟩ ?_) | refine And.intro ⟨pcl_len hdl, mkL rfl⟩ ?_ | refine Exists.intro (rowP [(s, d)]) (And.intro (row1 (N := 17) (p := (s, d)) (mkL' rfl)) ?_) | refine And.intro (neI rfl) ?_ | refine And.intro ⟨rfl, leR rfl, onesR rfl⟩ ?_ | refine And.intro ⟨rfl, leR rfl⟩ ?_ | refine draw_rule2 hfol (fun KK hKK => ?_) | refine hKK _ _ _ (by kernel_rfl) ?_ | refine region_rule (fun KK hKK => ?_) | refine hKK _ _ ?_ | refine And.intro (Eq.refl true) ?_ | refine Exists.intro _ (And.intro (wI (by omega)) ?_) | refine Exists.intro _ (And.intro (wU (by omega)) ?_) | refine Exists.intro _ (And.intro ⟨rfl, by omega⟩ ?_) | refine Exists.intro _ (And.intro rfl ?_) | refine And.intro rfl ?_ | refine And.intro ⟨rfl, rfl⟩ ?_ | ((refine And.intro (fun _ => ?_) (fun _ => ?_)) <;> try (exfalso; omega))))
  exact Exists.intro [] (And.intro (rfl) (And.intro trivial rfl))
end Go.Proofs.Ytgpgcdofhkpeaaa.VE
