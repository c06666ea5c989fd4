/- Contracts of functions of the given program, for all arguments that the contract names; see each theorem. -/
import Derived.Test.YtgpgcdofhkpeaaaF26
set_option linter.all false
namespace Go.Proofs.Ytgpgcdofhkpeaaa.VE
open Go
set_option maxHeartbeats 1600000
set_option maxRecDepth 100000

/-! the laws NormalWord, LengthOfDiagram, CountShortest -/
theorem lawok_NormalWord (s : Int) (m : List Nat) (hm : m.length = 16) (N : Nat) (g : Nat → Int) (c : Int) (hN : N ≤ 4000000) (hS : Spec Try.prog n_s_NormalWord [pv s m] [] (.tup [.sl 0, vi c]) [.pr T_int64 1 N (il g N)]) (hI : Spec Try.prog n_i_NormalWord [pv s m] [] (.tup [.sl 0, vi c]) [.pr T_int64 1 N (il g N)]) :
    Spec Try.prog n_l_FnExactNormalWord [pv s m] [] (vb true) [] := by
  have he := s_eqI g N hN
  have hm1 := s_markI g N 1 hN (by omega)
  have hh1 := s_heldI N 1 hN (by omega)
  refine SpecW.of_EV hf_l_FnExactNormalWord hc_l_FnExactNormalWord rfl rfl rfl fun w0 B ρ0 _ => ?_
  (repeat' (first | refine (s_toD s m hm).pure rfl ?_ | refine Exists.intro (pcl s m) (And.intro ⟨pcl_len hm, pcl_all hm⟩ ?_) | refine (hS).make [] rfl trivial ?_ | refine (hI).make [] rfl trivial ?_ | refine (he).read [2,1] rfl ⟨rfl, rfl, trivial⟩ ?_ | refine (he).read [3,1] rfl ⟨rfl, rfl, trivial⟩ ?_ | refine (hm1).make [2] rfl ⟨rfl, trivial⟩ ?_ | refine (hh1).read [2] rfl ⟨rfl, trivial⟩ ?_ | refine And.intro (fun _ => ?_) (fun h => absurd rfl h) | refine And.intro (fun h => absurd rfl h) (fun _ => ?_) | refine And.intro (neI rfl) ?_ | refine And.intro ⟨rfl, leR rfl, onesR rfl⟩ ?_ | refine And.intro ⟨rfl, leR rfl⟩ ?_ | refine draw_rule2 hfol (fun KK hKK => ?_) | refine hKK _ _ _ (by kernel_rfl) ?_ | refine region_rule (fun KK hKK => ?_) | refine hKK _ _ ?_ | refine And.intro (Eq.refl true) ?_ | refine Exists.intro _ (And.intro (wI (by omega)) ?_) | refine Exists.intro _ (And.intro (wU (by omega)) ?_) | refine Exists.intro _ (And.intro ⟨rfl, by omega⟩ ?_) | refine Exists.intro _ (And.intro rfl ?_) | refine And.intro rfl ?_ | refine And.intro ⟨rfl, rfl⟩ ?_ | ((refine And.intro (fun _ => ?_) (fun _ => ?_)) <;> try (exfalso; omega))))
  exact finP rfl
theorem lawerr_NormalWord (s : Int) (m : List Nat) (hm : m.length = 16) (c : Int) (hS : Spec Try.prog n_s_NormalWord [pv s m] [] (.tup [.raw (.slice none 0 0), vi c]) []) (hI : Spec Try.prog n_i_NormalWord [pv s m] [] (.tup [.raw (.slice none 0 0), vi c]) []) :
    Spec Try.prog n_l_FnExactNormalWord [pv s m] [] (vb true) [] := by
  have hm1 := s_markI0 1
  have hh1 := s_heldI0 1
  refine SpecW.of_EV hf_l_FnExactNormalWord hc_l_FnExactNormalWord rfl rfl rfl fun w0 B ρ0 _ => ?_
  (repeat' (first | refine (s_toD s m hm).pure rfl ?_ | refine Exists.intro (pcl s m) (And.intro ⟨pcl_len hm, pcl_all hm⟩ ?_) | refine (hS).pure rfl ?_ | refine (hI).pure rfl ?_ | refine (s_eqI0).pure rfl ?_ | refine (hm1).pure rfl ?_ | refine (hh1).pure rfl ?_ | refine And.intro (fun _ => ?_) (fun h => absurd rfl h) | refine And.intro (fun h => absurd rfl h) (fun _ => ?_) | refine And.intro (neI rfl) ?_ | refine And.intro ⟨rfl, leR rfl, onesR rfl⟩ ?_ | refine And.intro ⟨rfl, leR rfl⟩ ?_ | refine draw_rule2 hfol (fun KK hKK => ?_) | refine hKK _ _ _ (by kernel_rfl) ?_ | refine region_rule (fun KK hKK => ?_) | refine hKK _ _ ?_ | refine And.intro (Eq.refl true) ?_ | refine Exists.intro _ (And.intro (wI (by omega)) ?_) | refine Exists.intro _ (And.intro (wU (by omega)) ?_) | refine Exists.intro _ (And.intro ⟨rfl, by omega⟩ ?_) | refine Exists.intro _ (And.intro rfl ?_) | refine And.intro rfl ?_ | refine And.intro ⟨rfl, rfl⟩ ?_ | ((refine And.intro (fun _ => ?_) (fun _ => ?_)) <;> try (exfalso; omega))))
  exact finP rfl

theorem s_lawNW (s : Int) (m : List Nat) (hm : m.length = 16) (hb : ∀ x ∈ m, x < 256) : Spec Try.prog n_l_FnExactNormalWord [pv s m] [] (vb true) [] := by
  cases hv : isDi s m with
  | false => exact lawerr_NormalWord s m hm 1 (s_sNWe s m hm hb hv) (s_iNWe s m hm hb hv)
  | true =>
    obtain ⟨n, rfl, hd⟩ := isDi_elim hm hv
    obtain ⟨W, hW⟩ := WD.ex hd.n1 hd.n8
    have h1 := s_sNW n W hW m hd hb hv
    have h2 := s_iNW n W hW m hd hb hv
    have hl := hW.len hd
    have hb' := hW.b m hd
    unfold rwW at h1 h2
    rw [nl_il] at h1 h2
    exact lawok_NormalWord n m hm _ _ 0 (by omega) h1 h2
theorem s_sLen (s : Int) (m : List Nat) (hm : m.length = 16) (hb : ∀ x ∈ m, x < 256) (K : Nat) (hK : ∀ (n : Nat) W, s = n → IsD n m → WD n W → (W m).2.length = K) :
    Spec Try.prog n_s_LengthOfDiagram [pv s m] [] (.tup [vi (if isDi s m = true then (K : Int) else 0), vi (if isDi s m = true then 0 else 1)]) [] := by
  have hq := s_sIs s m hm hb
  rw [isD_eq s m hm] at hq
  cases hv : isDi s m with
  | false =>
    rw [hv] at hq
    refine SpecW.of_EV hf_s_LengthOfDiagram hc_s_LengthOfDiagram rfl rfl rfl fun w0 B ρ0 _ => ?_
    (repeat' (first | refine (hq).pure rfl ?_ | refine Exists.intro (pcl s m) (And.intro ⟨pcl_len hm, pcl_all hm⟩ ?_) | refine And.intro ⟨pcl_len hm, leR rfl, pcl_ones⟩ ?_ | refine Exists.intro (pcl s m) (And.intro ⟨leR rfl, spl0 (leR rfl)⟩ ?_) | refine And.intro (neI rfl) ?_ | refine And.intro ⟨rfl, leR rfl, onesR rfl⟩ ?_ | refine And.intro ⟨rfl, leR rfl⟩ ?_ | refine draw_rule2 hfol (fun KK hKK => ?_) | refine hKK _ _ _ (by kernel_rfl) ?_ | refine region_rule (fun KK hKK => ?_) | refine hKK _ _ ?_ | refine And.intro (Eq.refl true) ?_ | refine Exists.intro _ (And.intro (wI (by omega)) ?_) | refine Exists.intro _ (And.intro (wU (by omega)) ?_) | refine Exists.intro _ (And.intro ⟨rfl, by omega⟩ ?_) | refine Exists.intro _ (And.intro rfl ?_) | refine And.intro rfl ?_ | refine And.intro ⟨rfl, rfl⟩ ?_ | ((refine And.intro (fun _ => ?_) (fun _ => ?_)) <;> try (exfalso; omega))))
    exact Exists.intro [] (And.intro (rfl) (And.intro trivial rfl))
  | true =>
    rw [hv] at hq
    obtain ⟨n, rfl, hd⟩ := isDi_elim hm hv
    obtain ⟨W, hW⟩ := WD.ex hd.n1 hd.n8
    have hs := s_norm n W hW m hd
    have hKW := hK n W rfl hd hW
    have hb' := hW.b m hd
    have hl := hW.len hd
    unfold rwW at hs
    rw [hKW] at hs
    refine SpecW.of_EV hf_s_LengthOfDiagram hc_s_LengthOfDiagram rfl rfl rfl fun w0 B ρ0 _ => ?_
    (repeat' (first | refine (hq).pure rfl ?_ | refine Exists.intro (pcl (n : Int) m) (And.intro ⟨pcl_len hm, pcl_all hm⟩ ?_) | refine And.intro ⟨pcl_len hm, leR rfl, pcl_ones⟩ ?_ | refine Exists.intro (pcl (n : Int) m) (And.intro ⟨leR rfl, spl0 (leR rfl)⟩ ?_) | refine (hs).make [] rfl trivial ?_ | refine And.intro (neI rfl) ?_ | refine And.intro ⟨rfl, leR rfl, onesR rfl⟩ ?_ | refine And.intro ⟨rfl, leR rfl⟩ ?_ | refine draw_rule2 hfol (fun KK hKK => ?_) | refine hKK _ _ _ (by kernel_rfl) ?_ | refine region_rule (fun KK hKK => ?_) | refine hKK _ _ ?_ | refine And.intro (Eq.refl true) ?_ | refine Exists.intro _ (And.intro (wI (by omega)) ?_) | refine Exists.intro _ (And.intro (wU (by omega)) ?_) | refine Exists.intro _ (And.intro ⟨rfl, by omega⟩ ?_) | refine Exists.intro _ (And.intro rfl ?_) | refine And.intro rfl ?_ | refine And.intro ⟨rfl, rfl⟩ ?_ | ((refine And.intro (fun _ => ?_) (fun _ => ?_)) <;> try (exfalso; omega))))
    exact Exists.intro [] (And.intro (rfl) (And.intro trivial rfl))
theorem s_iLen (s : Int) (m : List Nat) (hm : m.length = 16) (hb : ∀ x ∈ m, x < 256) (K : Nat) (hK : ∀ (n : Nat) W, s = n → IsD n m → WD n W → (W m).2.length = K) :
    Spec Try.prog n_i_LengthOfDiagram [pv s m] [] (.tup [vi (if isDi s m = true then (K : Int) else 0), vi (if isDi s m = true then 0 else 1)]) [] := by
  cases hv : isDi s m with
  | false =>
    have hs := s_iNWe s m hm hb hv
    refine SpecW.of_EV hf_i_LengthOfDiagram hc_i_LengthOfDiagram rfl rfl rfl fun w0 B ρ0 _ => ?_
    (repeat' (first | refine (hs).pure rfl ?_ | refine Exists.intro (pcl s m) (And.intro ⟨pcl_len hm, pcl_all hm⟩ ?_) | refine And.intro ⟨pcl_len hm, leR rfl, pcl_ones⟩ ?_ | refine Exists.intro (pcl s m) (And.intro ⟨leR rfl, spl0 (leR rfl)⟩ ?_) | refine And.intro (neI rfl) ?_ | refine And.intro ⟨rfl, leR rfl, onesR rfl⟩ ?_ | refine And.intro ⟨rfl, leR rfl⟩ ?_ | refine draw_rule2 hfol (fun KK hKK => ?_) | refine hKK _ _ _ (by kernel_rfl) ?_ | refine region_rule (fun KK hKK => ?_) | refine hKK _ _ ?_ | refine And.intro (Eq.refl true) ?_ | refine Exists.intro _ (And.intro (wI (by omega)) ?_) | refine Exists.intro _ (And.intro (wU (by omega)) ?_) | refine Exists.intro _ (And.intro ⟨rfl, by omega⟩ ?_) | refine Exists.intro _ (And.intro rfl ?_) | refine And.intro rfl ?_ | refine And.intro ⟨rfl, rfl⟩ ?_ | ((refine And.intro (fun _ => ?_) (fun _ => ?_)) <;> try (exfalso; omega))))
    exact Exists.intro [] (And.intro (rfl) (And.intro trivial rfl))
  | true =>
    obtain ⟨n, rfl, hd⟩ := isDi_elim hm hv
    obtain ⟨W, hW⟩ := WD.ex hd.n1 hd.n8
    have hs := s_iNW n W hW m hd hb hv
    have hKW := hK n W rfl hd hW
    have hb' := hW.b m hd
    have hl := hW.len hd
    unfold rwW at hs
    rw [hKW] at hs
    refine SpecW.of_EV hf_i_LengthOfDiagram hc_i_LengthOfDiagram rfl rfl rfl fun w0 B ρ0 _ => ?_
    (repeat' (first | refine Exists.intro (pcl (n : Int) m) (And.intro ⟨pcl_len hm, pcl_all hm⟩ ?_) | refine And.intro ⟨pcl_len hm, leR rfl, pcl_ones⟩ ?_ | refine Exists.intro (pcl (n : Int) m) (And.intro ⟨leR rfl, spl0 (leR rfl)⟩ ?_) | refine (hs).make [] rfl trivial ?_ | refine And.intro (neI rfl) ?_ | refine And.intro ⟨rfl, leR rfl, onesR rfl⟩ ?_ | refine And.intro ⟨rfl, leR rfl⟩ ?_ | refine draw_rule2 hfol (fun KK hKK => ?_) | refine hKK _ _ _ (by kernel_rfl) ?_ | refine region_rule (fun KK hKK => ?_) | refine hKK _ _ ?_ | refine And.intro (Eq.refl true) ?_ | refine Exists.intro _ (And.intro (wI (by omega)) ?_) | refine Exists.intro _ (And.intro (wU (by omega)) ?_) | refine Exists.intro _ (And.intro ⟨rfl, by omega⟩ ?_) | refine Exists.intro _ (And.intro rfl ?_) | refine And.intro rfl ?_ | refine And.intro ⟨rfl, rfl⟩ ?_ | ((refine And.intro (fun _ => ?_) (fun _ => ?_)) <;> try (exfalso; omega))))
    exact Exists.intro [] (And.intro (rfl) (And.intro trivial rfl))
theorem WD.same {n : Nat} {W W' : List Nat → Nat × List Nat} (h : WD n W) (h' : WD n W') {d : List Nat} (hD : IsD n d) : (W d).1 = (W' d).1 ∧ (W d).2 = (W' d).2 := by
  have h1 := (h.l d hD).uniq (h'.l d hD)
  have h2 := h.w d hD
  rw [h1] at h2
  exact ⟨h1, h2.uniq (h'.w d hD)⟩
theorem len_ex (s : Int) (m : List Nat) : ∃ K : Nat, ∀ (n : Nat) W, s = n → IsD n m → WD n W → (W m).2.length = K := by
  by_cases h : ∃ (n : Nat) (W : List Nat → Nat × List Nat), s = n ∧ IsD n m ∧ WD n W
  · obtain ⟨n, W, h1, h2, h3⟩ := h
    refine ⟨(W m).2.length, fun n' W' g1 g2 g3 => ?_⟩
    obtain rfl : n = n' := by omega
    rw [(h3.same g3 h2).2]
  · exact ⟨0, fun n W g1 g2 g3 => absurd ⟨n, W, g1, g2, g3⟩ h⟩
theorem s_lawLen (s : Int) (m : List Nat) (hm : m.length = 16) (hb : ∀ x ∈ m, x < 256) : Spec Try.prog n_l_FnExactLengthOfDiagram [pv s m] [] (vb true) [] := by
  obtain ⟨K, hK⟩ := len_ex s m
  have h1 := s_sLen s m hm hb K hK
  have h2 := s_iLen s m hm hb K hK
  have ht := s_toD s m hm
  generalize (if isDi s m = true then (K : Int) else 0) = a at h1 h2
  generalize (if isDi s m = true then (0 : Int) else 1) = b at h1 h2
  refine SpecW.of_EV hf_l_FnExactLengthOfDiagram hc_l_FnExactLengthOfDiagram rfl rfl rfl fun w0 B ρ0 _ => ?_
  (repeat' (first | refine (ht).pure rfl ?_ | refine Exists.intro (pcl s m) (And.intro ⟨pcl_len hm, pcl_all hm⟩ ?_) | refine (h1).pure rfl ?_ | refine (h2).pure rfl ?_ | refine And.intro (fun h => absurd rfl h) (fun _ => ?_) | refine And.intro (neI rfl) ?_ | refine And.intro ⟨rfl, leR rfl, onesR rfl⟩ ?_ | refine And.intro ⟨rfl, leR rfl⟩ ?_ | refine draw_rule2 hfol (fun KK hKK => ?_) | refine hKK _ _ _ (by kernel_rfl) ?_ | refine region_rule (fun KK hKK => ?_) | refine hKK _ _ ?_ | refine And.intro (Eq.refl true) ?_ | refine Exists.intro _ (And.intro (wI (by omega)) ?_) | refine Exists.intro _ (And.intro (wU (by omega)) ?_) | refine Exists.intro _ (And.intro ⟨rfl, by omega⟩ ?_) | refine Exists.intro _ (And.intro rfl ?_) | refine And.intro rfl ?_ | refine And.intro ⟨rfl, rfl⟩ ?_ | ((refine And.intro (fun _ => ?_) (fun _ => ?_)) <;> try (exfalso; omega))))
  exact finP rfl
/-- How many words: modulo 2^64. -/
theorem s_sCnt (n : Nat) (m : List Nat) (hm : m.length = 16) (hb : ∀ x ∈ m, x < 256) (hv : isDi n m = true) (hd : IsD n m) (W : List Nat → Nat × List Nat) (hW : WD n W) :
    Spec Try.prog n_s_CountShortest [pv n m] [] (.tup [vi (IntKind.i64.wrap ((mc n W m : Nat) : Int)), vi 0]) [] := by
  have hq := s_sIs n m hm hb
  rw [isD_eq n m hm, hv] at hq
  have hs := s_norm n W hW m hd
  generalize IntKind.i64.wrap ((mc n W m : Nat) : Int) = c at hs ⊢
  refine SpecW.of_EV hf_s_CountShortest hc_s_CountShortest rfl rfl rfl fun w0 B ρ0 _ => ?_
  (repeat' (first | refine (hq).pure rfl ?_ | refine Exists.intro (pcl (n : Int) m) (And.intro ⟨pcl_len hm, pcl_all hm⟩ ?_) | refine And.intro ⟨pcl_len hm, leR rfl, pcl_ones⟩ ?_ | refine Exists.intro (pcl (n : Int) m) (And.intro ⟨leR rfl, spl0 (leR rfl)⟩ ?_) | refine (hs).make [] rfl trivial ?_ | refine And.intro (neI rfl) ?_ | refine And.intro ⟨rfl, leR rfl, onesR rfl⟩ ?_ | refine And.intro ⟨rfl, leR rfl⟩ ?_ | refine draw_rule2 hfol (fun KK hKK => ?_) | refine hKK _ _ _ (by kernel_rfl) ?_ | refine region_rule (fun KK hKK => ?_) | refine hKK _ _ ?_ | refine And.intro (Eq.refl true) ?_ | refine Exists.intro _ (And.intro (wI (by omega)) ?_) | refine Exists.intro _ (And.intro (wU (by omega)) ?_) | refine Exists.intro _ (And.intro ⟨rfl, by omega⟩ ?_) | refine Exists.intro _ (And.intro rfl ?_) | refine And.intro rfl ?_ | refine And.intro ⟨rfl, rfl⟩ ?_ | ((refine And.intro (fun _ => ?_) (fun _ => ?_)) <;> try (exfalso; omega))))
  exact Exists.intro [] (And.intro (rfl) (And.intro trivial rfl))
theorem s_iCnt (n : Nat) (m : List Nat) (hm : m.length = 16) (hb : ∀ x ∈ m, x < 256) (hv : isDi n m = true) (hd : IsD n m) (W : List Nat → Nat × List Nat) (hW : WD n W) :
    Spec Try.prog n_i_CountShortest [pv n m] [] (.tup [vi (IntKind.i64.wrap ((mc n W m : Nat) : Int)), vi 0]) [] := by
  have hq := s_invalid1D n m hm hb
  rw [hv] at hq; simp only [Bool.not_true, cond_false] at hq
  obtain ⟨E, hE⟩ := EndS.ex hW hd.n1 hd.n8 (some m)
  obtain ⟨hmm, hs⟩ := s_short n W hW m hd E hE
  generalize IntKind.i64.wrap ((mc n W m : Nat) : Int) = c at hs ⊢
  refine SpecW.of_EV hf_i_CountShortest hc_i_CountShortest rfl rfl rfl fun w0 B ρ0 _ => ?_
  (repeat' (first | refine (hq).read [1] rfl ⟨rfl, trivial⟩ ?_ | refine Exists.intro (pcl (n : Int) m) (And.intro ⟨pcl_len hm, pcl_all hm⟩ ?_) | refine And.intro ⟨pcl_len hm, mkL rfl⟩ ?_ | refine Exists.intro (rowP [((n : Int), m)]) (And.intro (row1 (N := 17) (p := ((n : Int), m)) (mkL' rfl)) ?_) | refine hs.makeN [] rfl trivial (effR rfl rfl (nwR poM rfl)) ?_ | refine And.intro (neI rfl) ?_ | refine And.intro ⟨rfl, leR rfl, onesR rfl⟩ ?_ | refine And.intro ⟨rfl, leR rfl⟩ ?_ | refine draw_rule2 hfol (fun KK hKK => ?_) | refine hKK _ _ _ (by kernel_rfl) ?_ | refine region_rule (fun KK hKK => ?_) | refine hKK _ _ ?_ | refine And.intro (Eq.refl true) ?_ | refine Exists.intro _ (And.intro (wI (by omega)) ?_) | refine Exists.intro _ (And.intro (wU (by omega)) ?_) | refine Exists.intro _ (And.intro ⟨rfl, by omega⟩ ?_) | refine Exists.intro _ (And.intro rfl ?_) | refine And.intro rfl ?_ | refine And.intro ⟨rfl, rfl⟩ ?_ | ((refine And.intro (fun _ => ?_) (fun _ => ?_)) <;> try (exfalso; omega))))
  exact Exists.intro [] (And.intro (rfl) (And.intro trivial rfl))
theorem s_sCntE (s : Int) (m : List Nat) (hm : m.length = 16) (hb : ∀ x ∈ m, x < 256) (hv : isDi s m = false) : Spec Try.prog n_s_CountShortest [pv s m] [] (.tup [vi 0, vi 1]) [] := by
  have hq := s_sIs s m hm hb
  rw [isD_eq s m hm, hv] at hq
  refine SpecW.of_EV hf_s_CountShortest hc_s_CountShortest rfl rfl rfl fun w0 B ρ0 _ => ?_
  (repeat' (first | refine (hq).pure rfl ?_ | refine Exists.intro (pcl s m) (And.intro ⟨pcl_len hm, pcl_all hm⟩ ?_) | refine And.intro ⟨pcl_len hm, leR rfl, pcl_ones⟩ ?_ | refine Exists.intro (pcl s m) (And.intro ⟨leR rfl, spl0 (leR rfl)⟩ ?_) | refine And.intro (neI rfl) ?_ | refine And.intro ⟨rfl, leR rfl, onesR rfl⟩ ?_ | refine And.intro ⟨rfl, leR rfl⟩ ?_ | refine draw_rule2 hfol (fun KK hKK => ?_) | refine hKK _ _ _ (by kernel_rfl) ?_ | refine region_rule (fun KK hKK => ?_) | refine hKK _ _ ?_ | refine And.intro (Eq.refl true) ?_ | refine Exists.intro _ (And.intro (wI (by omega)) ?_) | refine Exists.intro _ (And.intro (wU (by omega)) ?_) | refine Exists.intro _ (And.intro ⟨rfl, by omega⟩ ?_) | refine Exists.intro _ (And.intro rfl ?_) | refine And.intro rfl ?_ | refine And.intro ⟨rfl, rfl⟩ ?_ | ((refine And.intro (fun _ => ?_) (fun _ => ?_)) <;> try (exfalso; omega))))
  exact Exists.intro [] (And.intro (rfl) (And.intro trivial rfl))
theorem s_iCntE (s : Int) (m : List Nat) (hm : m.length = 16) (hb : ∀ x ∈ m, x < 256) (hv : isDi s m = false) : Spec Try.prog n_i_CountShortest [pv s m] [] (.tup [vi 0, vi 1]) [] := by
  have hq := s_invalid1D s m hm hb
  rw [hv] at hq; simp only [Bool.not_false, cond_true] at hq
  refine SpecW.of_EV hf_i_CountShortest hc_i_CountShortest rfl rfl rfl fun w0 B ρ0 _ => ?_
  (repeat' (first | refine (hq).read [1] rfl ⟨rfl, trivial⟩ ?_ | refine Exists.intro (pcl s m) (And.intro ⟨pcl_len hm, pcl_all hm⟩ ?_) | refine And.intro ⟨pcl_len hm, mkL rfl⟩ ?_ | refine Exists.intro (rowP [(s, m)]) (And.intro (row1 (N := 17) (p := (s, m)) (mkL' rfl)) ?_) | refine And.intro (neI rfl) ?_ | refine And.intro ⟨rfl, leR rfl, onesR rfl⟩ ?_ | refine And.intro ⟨rfl, leR rfl⟩ ?_ | refine draw_rule2 hfol (fun KK hKK => ?_) | refine hKK _ _ _ (by kernel_rfl) ?_ | refine region_rule (fun KK hKK => ?_) | refine hKK _ _ ?_ | refine And.intro (Eq.refl true) ?_ | refine Exists.intro _ (And.intro (wI (by omega)) ?_) | refine Exists.intro _ (And.intro (wU (by omega)) ?_) | refine Exists.intro _ (And.intro ⟨rfl, by omega⟩ ?_) | refine Exists.intro _ (And.intro rfl ?_) | refine And.intro rfl ?_ | refine And.intro ⟨rfl, rfl⟩ ?_ | ((refine And.intro (fun _ => ?_) (fun _ => ?_)) <;> try (exfalso; omega))))
  exact Exists.intro [] (And.intro (rfl) (And.intro trivial rfl))
theorem s_lawCnt0 (s : Int) (m : List Nat) (hm : m.length = 16) (a b : Int) (h1 : Spec Try.prog n_s_CountShortest [pv s m] [] (.tup [vi a, vi b]) []) (h2 : Spec Try.prog n_i_CountShortest [pv s m] [] (.tup [vi a, vi b]) []) :
    Spec Try.prog n_l_FnExactCountShortest [pv s m] [] (vb true) [] := by
  have ht := s_toD s m hm
  refine SpecW.of_EV hf_l_FnExactCountShortest hc_l_FnExactCountShortest rfl rfl rfl fun w0 B ρ0 _ => ?_
  (repeat' (first | refine (ht).pure rfl ?_ | refine Exists.intro (pcl s m) (And.intro ⟨pcl_len hm, pcl_all hm⟩ ?_) | refine (h1).pure rfl ?_ | refine (h2).pure rfl ?_ | refine And.intro (fun h => absurd rfl h) (fun _ => ?_) | refine And.intro (neI rfl) ?_ | refine And.intro ⟨rfl, leR rfl, onesR rfl⟩ ?_ | refine And.intro ⟨rfl, leR rfl⟩ ?_ | refine draw_rule2 hfol (fun KK hKK => ?_) | refine hKK _ _ _ (by kernel_rfl) ?_ | refine region_rule (fun KK hKK => ?_) | refine hKK _ _ ?_ | refine And.intro (Eq.refl true) ?_ | refine Exists.intro _ (And.intro (wI (by omega)) ?_) | refine Exists.intro _ (And.intro (wU (by omega)) ?_) | refine Exists.intro _ (And.intro ⟨rfl, by omega⟩ ?_) | refine Exists.intro _ (And.intro rfl ?_) | refine And.intro rfl ?_ | refine And.intro ⟨rfl, rfl⟩ ?_ | ((refine And.intro (fun _ => ?_) (fun _ => ?_)) <;> try (exfalso; omega))))
  exact finP rfl
theorem s_lawCnt (s : Int) (m : List Nat) (hm : m.length = 16) (hb : ∀ x ∈ m, x < 256) : Spec Try.prog n_l_FnExactCountShortest [pv s m] [] (vb true) [] := by
  cases hv : isDi s m with
  | false => exact s_lawCnt0 s m hm 0 1 (s_sCntE s m hm hb hv) (s_iCntE s m hm hb hv)
  | true =>
    obtain ⟨n, rfl, hd⟩ := isDi_elim hm hv
    obtain ⟨W, hW⟩ := WD.ex hd.n1 hd.n8
    exact s_lawCnt0 n m hm _ 0 (s_sCnt n m hm hb hv hd W hW) (s_iCnt n m hm hb hv hd W hW)
end Go.Proofs.Ytgpgcdofhkpeaaa.VE
