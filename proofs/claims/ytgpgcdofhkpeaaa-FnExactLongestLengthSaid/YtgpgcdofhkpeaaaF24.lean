/- Contracts of functions of the given program, for all arguments that the contract names; see each theorem. -/
import Derived.Test.YtgpgcdofhkpeaaaF22
set_option linter.all false
namespace Go.Proofs.Ytgpgcdofhkpeaaa.VE
open Go
set_option maxHeartbeats 12000000
set_option maxRecDepth 100000
theorem s_searchN (n : Nat) (W : List Nat → Nat × List Nat) (hW : WD n W) (hn1 : 1 ≤ n) (hn : n ≤ 8) (E : Nat) (hE : EndS n none E) :
    Spec Try.prog n_i_search [vi n, .raw (.pointer none)] [] (.mp 0)
      [mE n (wvP 1 (fun e => ix e (kO n E).1) (mc n W)) (kO n E).1, .po T_int64 (rsP (fun j => nl (W ((kO n E).1.getD j [])).2) (kO n E).1.length)] := by
  have hfol : Try.prog.follows .mixedOrders = true := rfl
  have hU := un_D hn1 hn
  have hun := s_iunit n hn1 hn
  have hds0 : dset (un n) wz [] = [un n].map fun d => (d, wz) := rfl
  have hWu := hW.unit hn1 hn
  have hmc0 : mc n W (un n) = 1 := by unfold mc; rw [hWu]; exact cnt_0
  have hn1w : IntKind.i64.wrap ((n : Int) - 1) = ((n - 1 : Nat) : Int) := by
    have h : IntKind.i64.wrap ((n : Int) - 1) = (n : Int) - 1 := wC (by omega) (by omega)
    omega
  refine SpecW.of_EV hf_i_search hc_i_search rfl rfl (ha_all rfl (by repeat' (first | exact trivial | exact okO_pl rfl | exact okO_pls rfl | exact okO_plss rfl | exact okO_plpp rfl | exact okO_pla rfl | exact okO_rs | exact okO_rss rfl | exact okO_rsss rfl | exact okO_wP rfl | exact okO_wL rfl | exact okO_r rfl | refine And.intro ?_ ?_)) rfl (by repeat' (first | exact trivial | exact okO_pl rfl | exact okO_pls rfl | exact okO_plss rfl | exact okO_plpp rfl | exact okO_pla rfl | exact okO_rs | exact okO_rss rfl | exact okO_rsss rfl | exact okO_wP rfl | exact okO_wL rfl | exact okO_r rfl | refine And.intro ?_ ?_))) fun w0 B ρ0 _ => ?_
  refine code_ghost (π := []) (S := [(0, vi n), (1, .raw (.pointer none))]) (H := []) ⟨⟨rfl, rfl, trivial⟩, trivial, rfl⟩ (GG.nilrow (S' := [(0, vi n), (1, .raw (.pointer none))]) (H' := [.pr T_int64 1 0 []]) T_int64 (fun ρ _ => simS_refl _) (fun ρ _ => ⟨eqR, trivial⟩) rfl (by repeat' (first | exact trivial | exact okO_pl rfl | exact okO_pls rfl | exact okO_plss rfl | exact okO_plpp rfl | exact okO_pla rfl | exact okO_rs | exact okO_rss rfl | exact okO_rsss rfl | exact okO_wP rfl | exact okO_wL rfl | exact okO_r rfl | refine And.intro ?_ ?_))) (fun g => ?_)
  (repeat' (first | refine makeMap_i rfl ?_ | refine (hun).pure rfl ?_ | refine And.intro ⟨pcl_len hU.len, mkL rfl⟩ ?_ | refine Exists.intro (rowP [((n : Int), (un n))]) (And.intro (row1 (N := 17) (p := ((n : Int), (un n))) (mkL' rfl)) ?_) | refine upd_e (s := (n : Int)) (N := 16) (.inr rfl) rfl rfl dkD rfl rfl rfl rfl rfl hU.len (by simp) hds0 ?_ | refine And.intro (neI rfl) ?_ | refine And.intro ⟨rfl, leR rfl, onesR rfl⟩ ?_ | refine And.intro ⟨rfl, leR rfl⟩ ?_ | refine draw_rule2 hfol (fun KK hKK => ?_) | refine hKK _ _ _ (by kernel_rfl) ?_ | refine region_rule (fun KK hKK => ?_) | refine hKK _ _ ?_ | refine And.intro (Eq.refl true) ?_ | refine Exists.intro _ (And.intro (wI (by omega)) ?_) | refine Exists.intro _ (And.intro (wU (by omega)) ?_) | refine Exists.intro _ (And.intro ⟨rfl, by omega⟩ ?_) | refine Exists.intro _ (And.intro rfl ?_) | refine And.intro rfl ?_ | refine And.intro ⟨rfl, rfl⟩ ?_ | ((refine And.intro (fun _ => ?_) (fun _ => ?_)) <;> try (exfalso; omega))))
  have e1 : GG [(0, vi n), (1, .raw (.pointer none)), (5, .mp 1), (6, .sl 2)] [.pr T_int64 1 0 [], mE n (fun _ => wz) [un n], .pr T_i_Diagram 17 1 (dw n [un n])] [(0, vi n), (1, .raw (.pointer none)), (5, .mp 1), (6, .sl 2)] [.pr T_int64 1 0 [], mE n (wvL 2 (fun _ => 0) (un n) 3 (mc n W)) [un n], .pr T_i_Diagram 17 1 (dw n [un n]), .pr T_int64 1 0 []] := GG.nilrow T_int64 (fun ρ _ => simS_refl _)
      (fun ρ hE => ⟨eqR, eqO_mE fun d hd => by
        rw [List.mem_singleton.1 hd, wvL_eq, hmc0]
        have h3 : (V.sl 3).ren ρ = .slice none 0 0 := hE
        simp only [V.ren, renL, wz] at h3 ⊢
        rw [h3]; rfl, eqR, eqR, trivial⟩) rfl (by repeat' (first | exact trivial | exact okO_pl rfl | exact okO_pls rfl | exact okO_plss rfl | exact okO_plpp rfl | exact okO_pla rfl | exact okO_rs | exact okO_rss rfl | exact okO_rsss rfl | exact okO_wP rfl | exact okO_wL rfl | exact okO_r rfl | refine And.intro ?_ ?_))
  have e2 : GG [(0, vi n), (1, .raw (.pointer none)), (5, .mp 1), (6, .sl 2)] [.pr T_int64 1 0 [], mE n (wvL 2 (fun _ => 0) (un n) 3 (mc n W)) [un n], .pr T_i_Diagram 17 1 (dw n [un n]), .pr T_int64 1 0 []] [(0, vi n), (1, .raw (.pointer none)), (5, .mp 1), (6, .sl 2)] [.pr T_int64 1 0 [], mE n (wvL 2 (fun _ => 0) (un n) 3 (mc n W)) [un n], .pr T_i_Diagram 17 1 (dw n [un n]), .pr T_int64 1 0 [], .po T_int64 []] := GG.pool T_int64 (fun ρ => simS_refl _) (fun ρ => ⟨eqR, eqR, eqR, eqR, eqR, trivial⟩) rfl (by repeat' (first | exact trivial | exact okO_pl rfl | exact okO_pls rfl | exact okO_plss rfl | exact okO_plpp rfl | exact okO_pla rfl | exact okO_rs | exact okO_rss rfl | exact okO_rsss rfl | exact okO_wP rfl | exact okO_wL rfl | exact okO_r rfl | refine And.intro ?_ ?_))
  have e3 : GG [(0, vi n), (1, .raw (.pointer none)), (5, .mp 1), (6, .sl 2)] [.pr T_int64 1 0 [], mE n (wvL 2 (fun _ => 0) (un n) 3 (mc n W)) [un n], .pr T_i_Diagram 17 1 (dw n [un n]), .pr T_int64 1 0 [], .po T_int64 []] [(0, vi n), (1, .raw (.pointer none)), (5, .mp 1), (6, .sl 2)] [.pr T_int64 1 0 [], mE n (wvP 5 (fun _ => 0) (mc n W)) [un n], .pr T_i_Diagram 17 1 (dw n [un n]), .dead, .dead, pwO (fun _ => []) 1] := GG.absorb (k := 4) (m := 3) rfl rfl (fun ρ _ => simS_refl _) (fun ρ hE => ⟨eqR, eqO_absL (fun d hd h => absurd (List.mem_singleton.1 hd) h) hE.2, eqR, eqR, eqR, eqR, trivial⟩) rfl (by repeat' (first | exact trivial | exact okO_pl rfl | exact okO_pls rfl | exact okO_plss rfl | exact okO_plpp rfl | exact okO_pla rfl | exact okO_rs | exact okO_rss rfl | exact okO_rsss rfl | exact okO_wP rfl | exact okO_wL rfl | exact okO_r rfl | refine And.intro ?_ ?_))
  refine code_ghost (π := [0, 1, 2]) (S := [(0, vi n), (1, .raw (.pointer none)), (5, .mp 1), (6, .sl 2)]) (H := [.pr T_int64 1 0 [], mE n (fun _ => wz) [un n], .pr T_i_Diagram 17 1 (dw n [un n])]) ⟨⟨rfl, rfl, rfl, rfl, trivial⟩, ⟨rfl, moP rfl, rfl, trivial⟩, goodB_all rfl (by repeat' (first | exact trivial | exact okO_pl rfl | exact okO_pls rfl | exact okO_plss rfl | exact okO_plpp rfl | exact okO_pla rfl | exact okO_rs | exact okO_rss rfl | exact okO_rsss rfl | exact okO_wP rfl | exact okO_wL rfl | exact okO_r rfl | refine And.intro ?_ ?_)) rfl⟩ (e1.trans (e2.trans e3)) (fun g => ?_)
  refine loop_rule (α := Nat × (List Nat → Nat) × (Nat → List Nat) × Nat) (fun (L, g, xs, R) => L ≤ E ∧ PJ (kO n L).1 (fun d => (W d).2) g xs R)
    (fun (L, g, xs, R) => [(0, vi n), (1, .raw (.pointer none)), (5, .mp 1), (6, .sl 2)])
    (fun (L, g, xs, R) => [.pr T_int64 1 0 [], mE n (wvP 3 g (mc n W)) (kO n L).1, .pr T_i_Diagram 17 (kO n L).2.length (dw n (kO n L).2), pwO xs R])
    (fun (L, _, _, _) => E - L) (0, fun _ => 0, fun _ => [], 1) [0, 1, 2, 5] ⟨by omega, ⟨fun d _ => by show 0 < 1; omega, fun d hd => by rw [List.mem_singleton.1 hd, hWu], fun d hd e he _ => by rw [List.mem_singleton.1 hd, List.mem_singleton.1 he]⟩⟩ ⟨⟨rfl, rfl, rfl, rfl, trivial⟩, (by repeat' (first | exact trivial | exact crP rfl | exact crS rfl | exact crSS rfl | exact crPP rfl | exact crA rfl | exact poP rfl | exact poS rfl | exact poSS rfl | exact moW rfl | exact moL rfl | exact rfl | refine And.intro ?_ ?_)), goodB_all rfl (by repeat' (first | exact trivial | exact okO_pl rfl | exact okO_pls rfl | exact okO_plss rfl | exact okO_plpp rfl | exact okO_pla rfl | exact okO_rs | exact okO_rss rfl | exact okO_rsss rfl | exact okO_wP rfl | exact okO_wL rfl | exact okO_r rfl | refine And.intro ?_ ?_)) rfl⟩ ?_
  rintro ⟨L, g, xs, R⟩ gg ⟨hL, hP⟩
  have hK := KI.at hW hn1 hn L
  have hK2 := KI.at hW hn1 hn (L + 1)
  dsimp only at hL hP ⊢
  obtain ⟨ks, hks⟩ : ∃ ks, ks = (kO n L).1 := ⟨_, rfl⟩
  obtain ⟨l, hl⟩ : ∃ l, l = (kO n L).2 := ⟨_, rfl⟩
  have hk1 : (kO n (L + 1)).1 = ks ++ nO n ks l (n - 1) := by rw [hks, hl]; rfl
  have hk2 : (kO n (L + 1)).2 = nO n ks l (n - 1) := by rw [hks, hl]; rfl
  have hgo := hE.go L
  have hfin := hE.fin
  rw [← hks] at hP hK hgo ⊢
  rw [← hl] at hK hgo ⊢
  have hll : l.length ≤ 65536 := by
    have h1 := few hK.lnd fun m hm => ((hK.lmem m).1 hm).1
    have h2 := wy_small n hn
    omega
  have hk16 : ∀ d ∈ ks, d.length = 16 := fun d hd => ((hK.mem d).1 hd).1.len
  have hl16 : ∀ d ∈ l, d.length = 16 := fun d hd => ((hK.lmem d).1 hd).1.len
  by_cases hLE : L = E
  · subst hLE
    have hwf := srch_end (n := n) (o := .pr T_int64 1 0 []) hK.nd hP (fun H => okO_r rfl) rfl
    rw [← hks, ← hl] at hfin
    rw [← hks]
    have fk : fits (atL [0, 1, 3]) [.pr T_int64 1 0 [], mE n (wvP 3 g (mc n W)) ks, .pr T_i_Diagram 17 l.length (dw n l), pwO xs R] [.pr T_int64 1 0 [], mE n (wvP 2 g (mc n W)) ks, pwO xs R] 0 := (by repeat' (first | exact trivial | exact crP rfl | exact crS rfl | exact crSS rfl | exact crPP rfl | exact crA rfl | exact poP rfl | exact poS rfl | exact poSS rfl | exact moW rfl | exact moL rfl | exact rfl | refine And.intro ?_ ?_))
    have bk : goodB 0 [0, 1, 3] [.pr T_int64 1 0 [], mE n (wvP 2 g (mc n W)) ks, pwO xs R] (idsS [(5, .mp 1)]) = true := goodB_all rfl (by repeat' (first | exact trivial | exact okO_pl rfl | exact okO_pls rfl | exact okO_plss rfl | exact okO_plpp rfl | exact okO_pla rfl | exact okO_rs | exact okO_rss rfl | exact okO_rsss rfl | exact okO_wP rfl | exact okO_wL rfl | exact okO_r rfl | refine And.intro ?_ ?_)) rfl
    have hl0 : l = [] := by
      rcases hfin with h | ⟨d, h1, h2⟩
      · exact h
      · cases h1
    · subst hl0
      have h00 : ([] : List (List Nat)).length = 0 := rfl
      (repeat' (first | refine reg_ghost (id := 32) (π := [0, 1, 3]) (S := [(5, .mp 1)]) (H := [.pr T_int64 1 0 [], mE n (wvP 2 g (mc n W)) ks, pwO xs R]) ⟨⟨rfl, trivial⟩, fk, bk⟩ hwf (fun gg => ?_) | refine And.intro (neI rfl) ?_ | refine And.intro ⟨rfl, leR rfl, onesR rfl⟩ ?_ | refine And.intro ⟨rfl, leR rfl⟩ ?_ | refine draw_rule2 hfol (fun KK hKK => ?_) | refine hKK _ _ _ (by kernel_rfl) ?_ | refine region_rule (fun KK hKK => ?_) | refine hKK _ _ ?_ | refine And.intro (Eq.refl true) ?_ | refine Exists.intro _ (And.intro (wI (by omega)) ?_) | refine Exists.intro _ (And.intro (wU (by omega)) ?_) | refine Exists.intro _ (And.intro ⟨rfl, by omega⟩ ?_) | refine Exists.intro _ (And.intro rfl ?_) | refine And.intro rfl ?_ | refine And.intro ⟨rfl, rfl⟩ ?_ | ((refine And.intro (fun _ => ?_) (fun _ => ?_)) <;> try (exfalso; omega))))
      exact Exists.intro [1, 4] (And.intro rfl (And.intro (by repeat' (first | exact trivial | exact crP rfl | exact crS rfl | exact crSS rfl | exact crPP rfl | exact crA rfl | exact poP rfl | exact poS rfl | exact poSS rfl | exact moW rfl | exact moL rfl | exact rfl | refine And.intro ?_ ?_)) (goodB_all rfl (by repeat' (first | exact trivial | exact okO_pl rfl | exact okO_pls rfl | exact okO_plss rfl | exact okO_plpp rfl | exact okO_pla rfl | exact okO_rs | exact okO_rss rfl | exact okO_rsss rfl | exact okO_wP rfl | exact okO_wL rfl | exact okO_r rfl | refine And.intro ?_ ?_)) rfl)))
  have hLl : L < E := by omega
  have hgl := (hgo hLl).1
  have hlp : 0 < l.length := by
    cases l with
    | nil => exact absurd rfl hgl
    | cons a r => simp
  (repeat' (first | refine makeMap_i rfl ?_ | refine Exists.intro _ (And.intro hn1w ?_) | refine And.intro (neI rfl) ?_ | refine And.intro ⟨rfl, leR rfl, onesR rfl⟩ ?_ | refine And.intro ⟨rfl, leR rfl⟩ ?_ | refine draw_rule2 hfol (fun KK hKK => ?_) | refine hKK _ _ _ (by kernel_rfl) ?_ | refine region_rule (fun KK hKK => ?_) | refine hKK _ _ ?_ | refine And.intro (Eq.refl true) ?_ | refine Exists.intro _ (And.intro (wI (by omega)) ?_) | refine Exists.intro _ (And.intro (wU (by omega)) ?_) | refine Exists.intro _ (And.intro ⟨rfl, by omega⟩ ?_) | refine Exists.intro _ (And.intro rfl ?_) | refine And.intro rfl ?_ | refine And.intro ⟨rfl, rfl⟩ ?_ | ((refine And.intro (fun _ => ?_) (fun _ => ?_)) <;> try (exfalso; omega))))
  refine loop_rule (α := Nat × (List Nat → List Nat) × (List Nat → Nat) × (List Nat → Nat) × (Nat → List Nat) × Nat) (fun (i, w, c, g, xs, R) => i ≤ n - 1 ∧ NI n W ks l i 0 (nO n ks l i) w c ∧ (∀ d ∈ ks, w d = (W d).2) ∧ PJ (ks ++ nO n ks l i) w g xs R)
    (fun (i, w, c, g, xs, R) => [(0, vi n), (1, .raw (.pointer none)), (5, .mp 1), (6, .sl 2), (9, .mp 4), (10, .sl 5), (48, vi (n - 1 : Nat)), (49, vi i)])
    (fun (i, w, c, g, xs, R) => [.pr T_int64 1 0 [], mE n (wvP 3 g (mc n W)) ks, .pr T_i_Diagram 17 l.length (dw n l), pwO xs R, mE n (wvP 3 g c) (nO n ks l i), .pr T_i_Diagram 17 (nO n ks l i).length (dw n (nO n ks l i))]) (fun (i, _) => n - 1 - i) (0, (fun d => (W d).2), (fun _ => 0), g, xs, R) [0, 1, 2, 3, 4, 5]
    ⟨by omega, NI.start, fun d _ => rfl, hP.sub (fun d hd => (List.mem_append.1 hd).resolve_right (by simp [nO])) fun d _ => rfl⟩ ⟨⟨rfl, rfl, rfl, rfl, rfl, rfl, rfl, rfl, trivial⟩, (by repeat' (first | exact trivial | exact crP rfl | exact crS rfl | exact crSS rfl | exact crPP rfl | exact crA rfl | exact poP rfl | exact poS rfl | exact poSS rfl | exact moW rfl | exact moL rfl | exact rfl | refine And.intro ?_ ?_)), goodB_all rfl (by repeat' (first | exact trivial | exact okO_pl rfl | exact okO_pls rfl | exact okO_plss rfl | exact okO_plpp rfl | exact okO_pla rfl | exact okO_rs | exact okO_rss rfl | exact okO_rsss rfl | exact okO_wP rfl | exact okO_wL rfl | exact okO_r rfl | refine And.intro ?_ ?_)) rfl⟩ ?_
  clear hP
  rintro ⟨i, w, c, g, xs, R⟩ gg2 ⟨hi, hN, hwk, hP⟩
  dsimp only at hi hN hwk hP ⊢
  by_cases hin : i = n - 1
  · subst hin
    obtain ⟨es, hes⟩ : ∃ es, es = nO n ks l (n - 1) := ⟨_, rfl⟩
    rw [← hes] at hN hP hk1 hk2 ⊢
    obtain ⟨hNw, hNK⟩ := hN.fin hW hn1 hn hK
    have hel : es.length ≤ 65536 := by
      have h1 := few hN.nd hN.D
      have h2 := wy_small n hn
      omega
    have hPE : PJ (ks ++ es) (fun d => (W d).2) g xs R := hP.sub (fun d hd => hd) fun d hd => by
      rcases List.mem_append.1 hd with h | h
      · exact hwk d h
      · exact (hNw d h).1
    have e4 : mE n (wvP 3 g c) es = mE n (wvP 3 g (mc n W)) es := mE_congr fun d hd => by unfold wvP; rw [(hNw d hd).2]
    rw [e4]
    have he16 : ∀ d ∈ es, d.length = 16 := fun d hd => (hN.D d hd).len
    (repeat' (first | refine And.intro (neI rfl) ?_ | refine And.intro ⟨rfl, leR rfl, onesR rfl⟩ ?_ | refine And.intro ⟨rfl, leR rfl⟩ ?_ | refine draw_rule2 hfol (fun KK hKK => ?_) | refine hKK _ _ _ (by kernel_rfl) ?_ | refine region_rule (fun KK hKK => ?_) | refine hKK _ _ ?_ | refine And.intro (Eq.refl true) ?_ | refine Exists.intro _ (And.intro (wI (by omega)) ?_) | refine Exists.intro _ (And.intro (wU (by omega)) ?_) | refine Exists.intro _ (And.intro ⟨rfl, by omega⟩ ?_) | refine Exists.intro _ (And.intro rfl ?_) | refine And.intro rfl ?_ | refine And.intro ⟨rfl, rfl⟩ ?_ | ((refine And.intro (fun _ => ?_) (fun _ => ?_)) <;> try (exfalso; omega))))
    refine loop_rule (α := Nat) (fun j => j ≤ es.length) (fun j => [(0, vi n), (1, .raw (.pointer none)), (5, .mp 1), (9, .mp 3), (10, .sl 4), (121, .sl 4), (122, vi es.length), (123, vi j)])
      (fun j => [.pr T_int64 1 0 [], mE n (wvP 2 g (mc n W)) (ks ++ es.take j), pwO xs R, mE n (wvP 2 g (mc n W)) es, .pr T_i_Diagram 17 es.length (dw n es)]) (fun j => es.length - j) 0 [0, 1, 3, 4, 5] (by omega) ⟨⟨rfl, rfl, rfl, rfl, rfl, rfl, rfl, rfl, trivial⟩, ⟨rfl , moW (by rw [List.take_zero, List.append_nil]; rfl), poP rfl, moW rfl, rfl, trivial⟩, goodB_all rfl (by repeat' (first | exact trivial | exact okO_pl rfl | exact okO_pls rfl | exact okO_plss rfl | exact okO_plpp rfl | exact okO_pla rfl | exact okO_rs | exact okO_rss rfl | exact okO_rsss rfl | exact okO_wP rfl | exact okO_wL rfl | exact okO_r rfl | refine And.intro ?_ ?_)) rfl⟩ ?_
    rintro j gg3 hj
    by_cases hje : j = es.length
    · subst hje
      rw [List.take_length]
      (repeat' (first | refine And.intro (neI rfl) ?_ | refine And.intro ⟨rfl, leR rfl, onesR rfl⟩ ?_ | refine And.intro ⟨rfl, leR rfl⟩ ?_ | refine draw_rule2 hfol (fun KK hKK => ?_) | refine hKK _ _ _ (by kernel_rfl) ?_ | refine region_rule (fun KK hKK => ?_) | refine hKK _ _ ?_ | refine And.intro (Eq.refl true) ?_ | refine Exists.intro _ (And.intro (wI (by omega)) ?_) | refine Exists.intro _ (And.intro (wU (by omega)) ?_) | refine Exists.intro _ (And.intro ⟨rfl, by omega⟩ ?_) | refine Exists.intro _ (And.intro rfl ?_) | refine And.intro rfl ?_ | refine And.intro ⟨rfl, rfl⟩ ?_ | ((refine And.intro (fun _ => ?_) (fun _ => ?_)) <;> try (exfalso; omega))))
      refine Exists.intro (L + 1, g, xs, R) (Exists.intro [0, 1, 4, 2] (And.intro ⟨⟨by omega, by rw [hk1]; exact hPE⟩, (by show E - (L + 1) < E - L; omega)⟩ ?_))
      dsimp only
      rw [hk1, hk2]
      exact ⟨⟨rfl, rfl, rfl, rfl, trivial⟩, (by repeat' (first | exact trivial | exact crP rfl | exact crS rfl | exact crSS rfl | exact crPP rfl | exact crA rfl | exact poP rfl | exact poS rfl | exact poSS rfl | exact moW rfl | exact moL rfl | exact rfl | refine And.intro ?_ ?_)), goodB_all rfl (by repeat' (first | exact trivial | exact okO_pl rfl | exact okO_pls rfl | exact okO_plss rfl | exact okO_plpp rfl | exact okO_pla rfl | exact okO_rs | exact okO_rss rfl | exact okO_rsss rfl | exact okO_wP rfl | exact okO_wL rfl | exact okO_r rfl | refine And.intro ?_ ?_)) rfl⟩
    · have hjl : j < es.length := by omega
      obtain ⟨e, he⟩ : ∃ e, e = es.getD j [] := ⟨_, rfl⟩
      have hem : e ∈ es := by rw [he]; exact getD_mem hjl
      have hek : e ∉ ks ++ es.take j := fun h => by
        rcases List.mem_append.1 h with h | h
        · exact hN.dis e hem h
        · obtain ⟨i', hi', h2⟩ := List.getElem_of_mem h
          have hi2 : i' < j := by rw [List.length_take] at hi'; omega
          have h3 : es.getD i' [] = e := by
            rw [← h2, List.getElem_take, List.getD_eq_getElem?_getD, List.getElem?_eq_getElem (by omega)]; rfl
          have h4 := ix_at hN.nd (show i' < es.length by omega)
          rw [h3, he, ix_at hN.nd hjl] at h4; omega
      have he1 := he16 e hem
      have hat := dw_at (n := n) he16 hjl
      rw [← he] at hat
      have htk : ks ++ es.take (j + 1) = (ks ++ es.take j) ++ [e] := by
        rw [List.take_add_one, List.append_assoc, List.getElem?_eq_getElem hjl, he, List.getD_eq_getElem?_getD, List.getElem?_eq_getElem hjl]; rfl
      have hr : dget e (es.map fun d => (d, wvP 2 g (mc n W) d)) = some (wvP 2 g (mc n W) e) := dget_in hem
      have hds : dset e (wvP 2 g (mc n W) e) ((ks ++ es.take j).map fun d => (d, wvP 2 g (mc n W) d)) = (ks ++ es.take (j + 1)).map fun d => (d, wvP 2 g (mc n W) d) := by rw [htk]; exact dset_out hek fun _ _ => rfl
      have hl2 : ∀ d ∈ ks ++ es.take j, d.length = 16 := fun d hd => by
        rcases List.mem_append.1 hd with h | h
        · exact hk16 d h
        · exact he16 d (List.mem_of_mem_take h)
      (repeat' (first | refine Exists.intro (pcl n e) (And.intro ⟨pcl_len he1, hat⟩ ?_) | refine Exists.intro (pcl (n : Int) e) (And.intro ⟨pcl_len he1, pcl_all he1⟩ ?_) | refine And.intro ⟨pcl_len he1, leR rfl, pcl_ones⟩ ?_ | refine Exists.intro (pcl (n : Int) e) (And.intro ⟨leR rfl, spl0 (leR rfl)⟩ ?_) | refine look_d (s := (n : Int)) (N := 16) rfl rfl dkD rfl rfl rfl rfl rfl he1 (map_len16 he16) hr ?_ | refine upd_e (s := (n : Int)) (N := 16) (.inl rfl) rfl rfl dkD rfl rfl rfl rfl rfl he1 (map_len16 hl2) hds ?_ | refine And.intro (neI rfl) ?_ | refine And.intro ⟨rfl, leR rfl, onesR rfl⟩ ?_ | refine And.intro ⟨rfl, leR rfl⟩ ?_ | refine draw_rule2 hfol (fun KK hKK => ?_) | refine hKK _ _ _ (by kernel_rfl) ?_ | refine region_rule (fun KK hKK => ?_) | refine hKK _ _ ?_ | refine And.intro (Eq.refl true) ?_ | refine Exists.intro _ (And.intro (wI (by omega)) ?_) | refine Exists.intro _ (And.intro (wU (by omega)) ?_) | refine Exists.intro _ (And.intro ⟨rfl, by omega⟩ ?_) | refine Exists.intro _ (And.intro rfl ?_) | refine And.intro rfl ?_ | refine And.intro ⟨rfl, rfl⟩ ?_ | ((refine And.intro (fun _ => ?_) (fun _ => ?_)) <;> try (exfalso; omega))))
      exact Exists.intro (j + 1) (Exists.intro [0, 1, 2, 3, 4] (And.intro ⟨by omega, (by show es.length - (j + 1) < es.length - j; omega)⟩ ⟨⟨rfl, rfl, rfl, rfl, rfl, rfl, rfl, rfl, trivial⟩, ⟨rfl, moW rfl, poP rfl, moW rfl, rfl, trivial⟩, goodB_all rfl (by repeat' (first | exact trivial | exact okO_pl rfl | exact okO_pls rfl | exact okO_plss rfl | exact okO_plpp rfl | exact okO_pla rfl | exact okO_rs | exact okO_rss rfl | exact okO_rsss rfl | exact okO_wP rfl | exact okO_wL rfl | exact okO_r rfl | refine And.intro ?_ ?_)) rfl⟩))
  have hin' : i + 1 < n := by omega
  have hgen := s_igen n i hn hin'
  (repeat' (first | refine And.intro (neI rfl) ?_ | refine And.intro ⟨rfl, leR rfl, onesR rfl⟩ ?_ | refine And.intro ⟨rfl, leR rfl⟩ ?_ | refine draw_rule2 hfol (fun KK hKK => ?_) | refine hKK _ _ _ (by kernel_rfl) ?_ | refine region_rule (fun KK hKK => ?_) | refine hKK _ _ ?_ | refine And.intro (Eq.refl true) ?_ | refine Exists.intro _ (And.intro (wI (by omega)) ?_) | refine Exists.intro _ (And.intro (wU (by omega)) ?_) | refine Exists.intro _ (And.intro ⟨rfl, by omega⟩ ?_) | refine Exists.intro _ (And.intro rfl ?_) | refine And.intro rfl ?_ | refine And.intro ⟨rfl, rfl⟩ ?_ | ((refine And.intro (fun _ => ?_) (fun _ => ?_)) <;> try (exfalso; omega))))
  refine loop_rule (α := Nat × (List Nat → List Nat) × (List Nat → Nat) × (List Nat → Nat) × (Nat → List Nat) × Nat) (fun (j, w, c, g, xs, R) => j ≤ l.length ∧ NI n W ks l i j (nJ n ks l i (nO n ks l i) j) w c ∧ (∀ d ∈ ks, w d = (W d).2) ∧ PJ (ks ++ (nJ n ks l i (nO n ks l i) j)) w g xs R)
    (fun (j, w, c, g, xs, R) => [(0, vi n), (1, .raw (.pointer none)), (5, .mp 1), (6, .sl 2), (9, .mp 4), (10, .sl 5), (48, vi (n - 1 : Nat)), (49, vi i), (11, vi i), (52, .sl 2), (53, vi l.length), (54, vi j)])
    (fun (j, w, c, g, xs, R) => [.pr T_int64 1 0 [], mE n (wvP 3 g (mc n W)) ks, .pr T_i_Diagram 17 l.length (dw n l), pwO xs R, mE n (wvP 3 g c) (nJ n ks l i (nO n ks l i) j), .pr T_i_Diagram 17 (nJ n ks l i (nO n ks l i) j).length (dw n (nJ n ks l i (nO n ks l i) j))]) (fun (j, _) => l.length - j) (0, w, c, g, xs, R) [0, 1, 2, 3, 4, 5]
    ⟨by omega, hN, hwk, hP⟩ ⟨⟨rfl, rfl, rfl, rfl, rfl, rfl, rfl, rfl, rfl, rfl, rfl, rfl, trivial⟩, (by repeat' (first | exact trivial | exact crP rfl | exact crS rfl | exact crSS rfl | exact crPP rfl | exact crA rfl | exact poP rfl | exact poS rfl | exact poSS rfl | exact moW rfl | exact moL rfl | exact rfl | refine And.intro ?_ ?_)), goodB_all rfl (by repeat' (first | exact trivial | exact okO_pl rfl | exact okO_pls rfl | exact okO_plss rfl | exact okO_plpp rfl | exact okO_pla rfl | exact okO_rs | exact okO_rss rfl | exact okO_rsss rfl | exact okO_wP rfl | exact okO_wL rfl | exact okO_r rfl | refine And.intro ?_ ?_)) rfl⟩ ?_
  clear hP hN hwk
  rintro ⟨j, w, c, g, xs, R⟩ gg3 ⟨hj, hN, hwk, hP⟩
  dsimp only at hj hN hwk hP ⊢
  by_cases hje : j = l.length
  · subst hje
    (repeat' (first | refine And.intro (neI rfl) ?_ | refine And.intro ⟨rfl, leR rfl, onesR rfl⟩ ?_ | refine And.intro ⟨rfl, leR rfl⟩ ?_ | refine draw_rule2 hfol (fun KK hKK => ?_) | refine hKK _ _ _ (by kernel_rfl) ?_ | refine region_rule (fun KK hKK => ?_) | refine hKK _ _ ?_ | refine And.intro (Eq.refl true) ?_ | refine Exists.intro _ (And.intro (wI (by omega)) ?_) | refine Exists.intro _ (And.intro (wU (by omega)) ?_) | refine Exists.intro _ (And.intro ⟨rfl, by omega⟩ ?_) | refine Exists.intro _ (And.intro rfl ?_) | refine And.intro rfl ?_ | refine And.intro ⟨rfl, rfl⟩ ?_ | ((refine And.intro (fun _ => ?_) (fun _ => ?_)) <;> try (exfalso; omega))))
    exact Exists.intro (i + 1, w, c, g, xs, R) (Exists.intro [0, 1, 2, 3, 4, 5] (And.intro ⟨⟨by omega, hN.row, hwk, hP⟩, (by show n - 1 - (i + 1) < n - 1 - i; omega)⟩ ⟨⟨rfl, rfl, rfl, rfl, rfl, rfl, rfl, rfl, trivial⟩, (by repeat' (first | exact trivial | exact crP rfl | exact crS rfl | exact crSS rfl | exact crPP rfl | exact crA rfl | exact poP rfl | exact poS rfl | exact poSS rfl | exact moW rfl | exact moL rfl | exact rfl | refine And.intro ?_ ?_)), goodB_all rfl (by repeat' (first | exact trivial | exact okO_pl rfl | exact okO_pls rfl | exact okO_plss rfl | exact okO_plpp rfl | exact okO_pla rfl | exact okO_rs | exact okO_rss rfl | exact okO_rsss rfl | exact okO_wP rfl | exact okO_wL rfl | exact okO_r rfl | refine And.intro ?_ ?_)) rfl⟩))
  have hjl : j < l.length := by omega
  obtain ⟨es, hes⟩ : ∃ es, es = (nJ n ks l i (nO n ks l i) j) := ⟨_, rfl⟩
  have hn2 : nJ n ks l i (nO n ks l i) (j + 1) = nS n ks i (l.getD j []) es := by rw [hes]; rfl
  rw [← hes] at hN hP ⊢
  clear hes
  have hel : es.length ≤ 65536 := by
    have h1 := few hN.nd hN.D
    have h2 := wy_small n hn
    omega
  have hes16 : ∀ d ∈ es, d.length = 16 := fun d hd => (hN.D d hd).len
  have hdl := (hK.lmem _).1 (getD_mem hjl)
  have hat := dw_at (n := n) hl16 hjl
  have htm := s_times n (gen n i) (l.getD j []) (gen_V hn hin') hdl.1.toIsV
  replace htm : Spec Try.prog n_i_times [pv n (gen n i), pv n (l.getD j [])] [] (dlV n (pE n i (l.getD j [])) (pL n i (l.getD j []) : Nat)) [] := htm
  have hD : IsD n (pE n i (l.getD j [])) := gen_mul_D hdl.1 hin'
  have hskip := hN.skip (j := j)
  have hagain := fun hl he w' => hN.again hin' hjl hl he (w' := w')
  have hnew := fun hl hk he => hN.new hin' hjl hl hk he hD
  have hlw : ∀ e ∈ es, (w e).length = L + 1 := fun e he => by
    obtain ⟨i', j', _, hj', _, _, _, h⟩ := hN.wex e he
    have h1 := (hK.lmem _).1 (getD_mem hj')
    rw [h, List.length_cons, hW.len h1.1, h1.2]
  unfold nS at hn2
  obtain ⟨d, hde⟩ : ∃ d, d = l.getD j [] := ⟨_, rfl⟩
  rw [← hde] at hn2 hdl hat htm hD hskip hagain hnew
  clear hde
  obtain ⟨lp, hlp0⟩ : ∃ lp, lp = pL n i d := ⟨_, rfl⟩
  obtain ⟨e, hee⟩ : ∃ e, e = pE n i d := ⟨_, rfl⟩
  rw [← hlp0] at hn2 htm hskip hagain hnew
  rw [← hee] at hn2 htm hD hskip hagain hnew
  clear hlp0 hee
  have hd16 := hdl.1.len
  have he16 := hD.len
  have hdk : d ∈ ks := (hK.mem d).2 ⟨hdl.1, by omega⟩
  have hWl : (W d).2.length = L := by rw [hW.len hdl.1, hdl.2]
  have hLb : L ≤ 65536 := by have := hW.b d hdl.1; omega
  by_cases hek : e ∈ ks
  · -- found before
    rw [if_neg fun h => h.2.1 hek] at hn2
    have hrk : dget e (ks.map fun d => (d, wvP 3 g (mc n W) d)) = some (wvP 3 g (mc n W) e) := dget_in hek
    (repeat' (first | refine (hgen).pure rfl ?_ | refine (htm).pure rfl ?_ | refine Exists.intro (pcl n d) (And.intro ⟨pcl_len hd16, hat⟩ ?_) | refine Exists.intro (pcl (n : Int) d) (And.intro ⟨pcl_len hd16, pcl_all hd16⟩ ?_) | refine And.intro ⟨pcl_len hd16, leR rfl, pcl_ones⟩ ?_ | refine Exists.intro (pcl (n : Int) d) (And.intro ⟨leR rfl, spl0 (leR rfl)⟩ ?_) | refine Exists.intro (pcl (n : Int) e) (And.intro ⟨pcl_len he16, pcl_all he16⟩ ?_) | refine And.intro ⟨pcl_len he16, leR rfl, pcl_ones⟩ ?_ | refine Exists.intro (pcl (n : Int) e) (And.intro ⟨leR rfl, spl0 (leR rfl)⟩ ?_) | refine look_d (s := (n : Int)) (N := 16) rfl rfl dkD rfl rfl rfl rfl rfl he16 (map_len16 hk16) hrk ?_ | refine And.intro ⟨rfl, leR rfl, rfl⟩ ?_ | refine Exists.intro [.pl 3 (g e), vi (IntKind.i64.wrap ((mc n W e : Nat) : Int))] (And.intro ⟨leR rfl, rfl⟩ ?_) | refine And.intro (neI rfl) ?_ | refine And.intro ⟨rfl, leR rfl, onesR rfl⟩ ?_ | refine And.intro ⟨rfl, leR rfl⟩ ?_ | refine draw_rule2 hfol (fun KK hKK => ?_) | refine hKK _ _ _ (by kernel_rfl) ?_ | refine region_rule (fun KK hKK => ?_) | refine hKK _ _ ?_ | refine And.intro (Eq.refl true) ?_ | refine Exists.intro _ (And.intro (wI (by omega)) ?_) | refine Exists.intro _ (And.intro (wU (by omega)) ?_) | refine Exists.intro _ (And.intro ⟨rfl, by omega⟩ ?_) | refine Exists.intro _ (And.intro rfl ?_) | refine And.intro rfl ?_ | refine And.intro ⟨rfl, rfl⟩ ?_ | ((refine And.intro (fun _ => ?_) (fun _ => ?_)) <;> try (exfalso; omega))))
    refine Exists.intro (j + 1, w, c, g, xs, R) (Exists.intro [0, 1, 2, 3, 4, 5] (And.intro ⟨⟨by omega, by rw [hn2]; exact hskip (.inr hek), hwk, by rw [hn2]; exact hP⟩, (by show l.length - (j + 1) < l.length - j; omega)⟩ ?_))
    dsimp only
    rw [hn2]
    exact ⟨⟨rfl, rfl, rfl, rfl, rfl, rfl, rfl, rfl, rfl, rfl, rfl, rfl, trivial⟩, (by repeat' (first | exact trivial | exact crP rfl | exact crS rfl | exact crSS rfl | exact crPP rfl | exact crA rfl | exact poP rfl | exact poS rfl | exact poSS rfl | exact moW rfl | exact moL rfl | exact rfl | refine And.intro ?_ ?_)), goodB_all rfl (by repeat' (first | exact trivial | exact okO_pl rfl | exact okO_pls rfl | exact okO_plss rfl | exact okO_plpp rfl | exact okO_pla rfl | exact okO_rs | exact okO_rss rfl | exact okO_rsss rfl | exact okO_wP rfl | exact okO_wL rfl | exact okO_r rfl | refine And.intro ?_ ?_)) rfl⟩
  by_cases hlp1 : lp ≠ 0
  · -- a loop
    rw [if_neg fun h => hlp1 h.1] at hn2
    have hrk : dget e (ks.map fun d => (d, wvP 3 g (mc n W) d)) = none := dget_out hek
    have hlp2 : 0 < lp := by omega
    (repeat' (first | refine (hgen).pure rfl ?_ | refine (htm).pure rfl ?_ | refine Exists.intro (pcl n d) (And.intro ⟨pcl_len hd16, hat⟩ ?_) | refine Exists.intro (pcl (n : Int) d) (And.intro ⟨pcl_len hd16, pcl_all hd16⟩ ?_) | refine And.intro ⟨pcl_len hd16, leR rfl, pcl_ones⟩ ?_ | refine Exists.intro (pcl (n : Int) d) (And.intro ⟨leR rfl, spl0 (leR rfl)⟩ ?_) | refine Exists.intro (pcl (n : Int) e) (And.intro ⟨pcl_len he16, pcl_all he16⟩ ?_) | refine And.intro ⟨pcl_len he16, leR rfl, pcl_ones⟩ ?_ | refine Exists.intro (pcl (n : Int) e) (And.intro ⟨leR rfl, spl0 (leR rfl)⟩ ?_) | refine look_d (s := (n : Int)) (N := 16) rfl rfl dkD rfl rfl rfl rfl rfl he16 (map_len16 hk16) hrk ?_ | refine Exists.intro [Value.slice none 0 0, Value.int .i64 0] (And.intro ⟨leR rfl, rfl⟩ ?_) | refine And.intro (neI rfl) ?_ | refine And.intro ⟨rfl, leR rfl, onesR rfl⟩ ?_ | refine And.intro ⟨rfl, leR rfl⟩ ?_ | refine draw_rule2 hfol (fun KK hKK => ?_) | refine hKK _ _ _ (by kernel_rfl) ?_ | refine region_rule (fun KK hKK => ?_) | refine hKK _ _ ?_ | refine And.intro (Eq.refl true) ?_ | refine Exists.intro _ (And.intro (wI (by omega)) ?_) | refine Exists.intro _ (And.intro (wU (by omega)) ?_) | refine Exists.intro _ (And.intro ⟨rfl, by omega⟩ ?_) | refine Exists.intro _ (And.intro rfl ?_) | refine And.intro rfl ?_ | refine And.intro ⟨rfl, rfl⟩ ?_ | ((refine And.intro (fun _ => ?_) (fun _ => ?_)) <;> try (exfalso; omega))))
    refine Exists.intro (j + 1, w, c, g, xs, R) (Exists.intro [0, 1, 2, 3, 4, 5] (And.intro ⟨⟨by omega, by rw [hn2]; exact hskip (.inl hlp1), hwk, by rw [hn2]; exact hP⟩, (by show l.length - (j + 1) < l.length - j; omega)⟩ ?_))
    dsimp only
    rw [hn2]
    exact ⟨⟨rfl, rfl, rfl, rfl, rfl, rfl, rfl, rfl, rfl, rfl, rfl, rfl, trivial⟩, (by repeat' (first | exact trivial | exact crP rfl | exact crS rfl | exact crSS rfl | exact crPP rfl | exact crA rfl | exact poP rfl | exact poS rfl | exact poSS rfl | exact moW rfl | exact moL rfl | exact rfl | refine And.intro ?_ ?_)), goodB_all rfl (by repeat' (first | exact trivial | exact okO_pl rfl | exact okO_pls rfl | exact okO_plss rfl | exact okO_plpp rfl | exact okO_pla rfl | exact okO_rs | exact okO_rss rfl | exact okO_rsss rfl | exact okO_wP rfl | exact okO_wL rfl | exact okO_r rfl | refine And.intro ?_ ?_)) rfl⟩
  obtain rfl : lp = 0 := by omega
  have hgd := hP.lt d (List.mem_append_left _ hdk)
  have hxd : xs (g d) = (W d).2 := by rw [hP.at' d (List.mem_append_left _ hdk), hwk d hdk]
  have hksR : ∀ x ∈ ks, x ≠ e ∧ g x < R := fun x hx => ⟨fun h => hek (h ▸ hx), hP.lt x (List.mem_append_left _ hx)⟩
  have hde : d ≠ e := fun h => hek (h ▸ hdk)
  have hwk2 : ∀ v, ∀ x ∈ ks, upF w e v x = (W x).2 := fun v x hx => by rw [upF_ne (hksR x hx).1]; exact hwk x hx
  have hrk : dget e (ks.map fun d_1 => (d_1, wvL 3 g d 6 (mc n W) d_1)) = none := dget_out hek
  have hrd : dget d (ks.map fun d_1 => (d_1, wvL 3 g d 6 (mc n W) d_1)) = some (.agg [.sl 6, .raw (.int .i64 (IntKind.i64.wrap ((mc n W d : Nat) : Int)))]) := by rw [dget_in hdk, wvL_eq]
  by_cases hee : e ∈ es
  · -- met before
    rw [if_neg fun h => h.2.2 hee] at hn2
    have hge := hP.lt e (List.mem_append_right _ hee)
    have hxe := hP.at' e (List.mem_append_right _ hee)
    have hne : g e ≠ g d := fun h => hde (hP.inj e (List.mem_append_right _ hee) d (List.mem_append_left _ hdk) h).symm
    have hesR : ∀ x ∈ es, g x < R := fun x hx => hP.lt x (List.mem_append_right _ hx)
    have hwel := hlw e hee
    have hcm := s_cmL (i :: (W d).2) (w e) (by rw [List.length_cons]; omega) (by omega)
    have hcn := cmL_neg (a := i :: (W d).2) (b := w e) (by rw [List.length_cons, hWl, hwel])
    rw [show (i :: (W d).2).length = 1 + (W d).2.length by rw [List.length_cons]; omega] at hcm
    generalize cmL (i :: (W d).2) (w e) = cv at hcm hcn
    have hre : dget e (es.map fun d => (d, wvL 3 g e 7 c d)) = some (.agg [.sl 7, .raw (.int .i64 (IntKind.i64.wrap ((c e : Nat) : Int)))]) := by rw [dget_in hee, wvL_eq]
    have ew : IntKind.i64.wrap (IntKind.i64.wrap ((c e : Nat) : Int) + IntKind.i64.wrap ((mc n W d : Nat) : Int)) = IntKind.i64.wrap ((c e + mc n W d : Nat) : Int) := by rw [wrap_add]; rfl
    refine code_ghost (π := [0, 1, 2, 3, 4, 5]) (S := [(0, vi n), (1, .raw (.pointer none)), (5, .mp 1), (6, .sl 2), (9, .mp 4), (10, .sl 5), (48, vi (n - 1 : Nat)), (49, vi i), (11, vi i), (52, .sl 2), (53, vi l.length), (54, vi j)]) (H := [.pr T_int64 1 0 [], mE n (wvP 3 g (mc n W)) ks, .pr T_i_Diagram 17 l.length (dw n l), pwO xs R, mE n (wvP 3 g c) es, .pr T_i_Diagram 17 es.length (dw n es)]) ⟨⟨rfl, rfl, rfl, rfl, rfl, rfl, rfl, rfl, rfl, rfl, rfl, rfl, trivial⟩, (by repeat' (first | exact trivial | exact crP rfl | exact crS rfl | exact crSS rfl | exact crPP rfl | exact crA rfl | exact poP rfl | exact poS rfl | exact poSS rfl | exact moW rfl | exact moL rfl | exact rfl | refine And.intro ?_ ?_)), goodB_all rfl (by repeat' (first | exact trivial | exact okO_pl rfl | exact okO_pls rfl | exact okO_plss rfl | exact okO_plpp rfl | exact okO_pla rfl | exact okO_rs | exact okO_rss rfl | exact okO_rsss rfl | exact okO_wP rfl | exact okO_wL rfl | exact okO_r rfl | refine And.intro ?_ ?_)) rfl⟩ (gg_lend2N hgd hxd hge hxe hne) (fun gg => ?_)
    by_cases hcv : cv < 0
    · have hle : lle (i :: (W d).2) (w e) := by
        rcases lle_total (x := i :: (W d).2) (y := w e) with h | h
        · exact h
        · exact absurd h (hcn.1 hcv)
      have hNI := hagain rfl hee (i :: (W d).2) (.inl ⟨rfl, hle⟩)
      have hds : dset e (.agg [.sl 12, .raw (.int .i64 (IntKind.i64.wrap ((c e + mc n W d : Nat) : Int)))]) (es.map fun d => (d, wvL 3 g e 7 c d)) = es.map fun x => (x, wvL 3 g e 12 (upF c e (c e + mc n W d)) x) := by
        have h1 : wvL 3 g e 12 (upF c e (c e + mc n W d)) e = .agg [.sl 12, .raw (.int .i64 (IntKind.i64.wrap ((c e + mc n W d : Nat) : Int)))] := by rw [wvL_eq, upF_eq]
        rw [← h1]
        exact dset_in hN.nd hee fun x _ hx => by rw [wvL_ne hx, wvL_ne hx]; unfold wvP; rw [upF_ne hx]
      have fk : ∀ x8 x9 x10 x11 x13, fits (atL [0, 1, 2, 3, 4, 5, 6, 7, 12]) [.pr T_int64 1 0 [], mE n (wvL 3 g d 6 (mc n W)) ks, .pr T_i_Diagram 17 l.length (dw n l), .po T_int64 (((rsP (fun j => nl (xs j)) R).set (g d) (.lent 6)).set (g e) (.lent 7)), mE n (wvL 3 g e 12 (upF c e (c e + mc n W d))) es, .pr T_i_Diagram 17 es.length (dw n es), .pr T_int64 1 (W d).2.length (nl (W d).2), .pr T_int64 1 (w e).length (nl (w e)), x8, x9, x10, x11, .pr T_int64 1 (1 + (W d).2.length) (nl (i :: (W d).2)), x13] [.pr T_int64 1 0 [], mE n (wvL 3 g d 6 (mc n W)) ks, .pr T_i_Diagram 17 l.length (dw n l), .po T_int64 (((rsP (fun j => nl (xs j)) R).set (g d) (.lent 6)).set (g e) (.lent 7)), mE n (wvL 3 g e 8 (upF c e (c e + mc n W d))) es, .pr T_i_Diagram 17 es.length (dw n es), .pr T_int64 1 (W d).2.length (nl (W d).2), .pr T_int64 1 (w e).length (nl (w e)), .pr T_int64 1 (1 + (W d).2.length) (nl (i :: (W d).2))] 0 := fun _ _ _ _ _ => (by repeat' (first | exact trivial | exact crP rfl | exact crS rfl | exact crSS rfl | exact crPP rfl | exact crA rfl | exact poP rfl | exact poS rfl | exact poSS rfl | exact moW rfl | exact moL rfl | exact rfl | refine And.intro ?_ ?_))
      have bk : goodB 0 [0, 1, 2, 3, 4, 5, 6, 7, 12] [.pr T_int64 1 0 [], mE n (wvL 3 g d 6 (mc n W)) ks, .pr T_i_Diagram 17 l.length (dw n l), .po T_int64 (((rsP (fun j => nl (xs j)) R).set (g d) (.lent 6)).set (g e) (.lent 7)), mE n (wvL 3 g e 8 (upF c e (c e + mc n W d))) es, .pr T_i_Diagram 17 es.length (dw n es), .pr T_int64 1 (W d).2.length (nl (W d).2), .pr T_int64 1 (w e).length (nl (w e)), .pr T_int64 1 (1 + (W d).2.length) (nl (i :: (W d).2))] (idsS [(0, vi n), (1, .raw (.pointer none)), (5, .mp 1), (6, .sl 2), (9, .mp 4), (10, .sl 5), (48, vi (n - 1 : Nat)), (49, vi i), (11, vi i), (52, .sl 2), (53, vi l.length), (54, vi j)]) = true := goodB_all rfl (by repeat' (first | exact trivial | exact okO_pl rfl | exact okO_pls rfl | exact okO_plss rfl | exact okO_plpp rfl | exact okO_pla rfl | exact okO_rs | exact okO_rss rfl | exact okO_rsss rfl | exact okO_wP rfl | exact okO_wL rfl | exact okO_r rfl | refine And.intro ?_ ?_)) rfl
      have gk := gg_updN (n := n) (i := i) (j := j) (l := l) (ks := ks) (es := es) (W := W) (w := w) (c := upF c e (c e + mc n W d)) hgd hxd hge hxe hne hksR hesR
      (repeat' (first | refine reg_ghost (id := 24) (π := [0, 1, 2, 3, 4, 5, 6, 7, 12]) (S := [(0, vi n), (1, .raw (.pointer none)), (5, .mp 1), (6, .sl 2), (9, .mp 4), (10, .sl 5), (48, vi (n - 1 : Nat)), (49, vi i), (11, vi i), (52, .sl 2), (53, vi l.length), (54, vi j)]) (H := [.pr T_int64 1 0 [], mE n (wvL 3 g d 6 (mc n W)) ks, .pr T_i_Diagram 17 l.length (dw n l), .po T_int64 (((rsP (fun j => nl (xs j)) R).set (g d) (.lent 6)).set (g e) (.lent 7)), mE n (wvL 3 g e 8 (upF c e (c e + mc n W d))) es, .pr T_i_Diagram 17 es.length (dw n es), .pr T_int64 1 (W d).2.length (nl (W d).2), .pr T_int64 1 (w e).length (nl (w e)), .pr T_int64 1 (1 + (W d).2.length) (nl (i :: (W d).2))]) ⟨⟨rfl, rfl, rfl, rfl, rfl, rfl, rfl, rfl, rfl, rfl, rfl, rfl, trivial⟩, fk _ _ _ _ _, bk⟩ gk (fun gg => ?_) | refine (hgen).pure rfl ?_ | refine (htm).pure rfl ?_ | refine Exists.intro (pcl n d) (And.intro ⟨pcl_len hd16, hat⟩ ?_) | refine Exists.intro (pcl (n : Int) d) (And.intro ⟨pcl_len hd16, pcl_all hd16⟩ ?_) | refine And.intro ⟨pcl_len hd16, leR rfl, pcl_ones⟩ ?_ | refine Exists.intro (pcl (n : Int) d) (And.intro ⟨leR rfl, spl0 (leR rfl)⟩ ?_) | refine Exists.intro (pcl (n : Int) e) (And.intro ⟨pcl_len he16, pcl_all he16⟩ ?_) | refine And.intro ⟨pcl_len he16, leR rfl, pcl_ones⟩ ?_ | refine Exists.intro (pcl (n : Int) e) (And.intro ⟨leR rfl, spl0 (leR rfl)⟩ ?_) | refine look_d (s := (n : Int)) (N := 16) rfl rfl dkD rfl rfl rfl rfl rfl he16 (map_len16 hk16) hrk ?_ | refine Exists.intro [Value.slice none 0 0, Value.int .i64 0] (And.intro ⟨leR rfl, rfl⟩ ?_) | refine And.intro ⟨rfl, mkL rfl⟩ ?_ | refine Exists.intro [Value.int .i64 ((i : Nat) : Int)] (And.intro (row1s (mkL' rfl)) ?_) | refine Exists.intro (nl (i :: (W d).2)) (And.intro ⟨rfl, nl_ones, by omega, by omega, rfl⟩ ?_) | refine look_d (s := (n : Int)) (N := 16) rfl rfl dkD rfl rfl rfl rfl rfl he16 (map_len16 hes16) hre ?_ | refine look_d (s := (n : Int)) (N := 16) rfl rfl dkD rfl rfl rfl rfl rfl hd16 (map_len16 hk16) hrd ?_ | refine (hcm).read [12, 7] rfl ⟨rfl, rfl, trivial⟩ ?_ | refine And.intro ⟨rfl, leR rfl, rfl⟩ ?_ | refine Exists.intro [.sl 7, vi (IntKind.i64.wrap ((c e : Nat) : Int))] (And.intro ⟨leR rfl, rfl⟩ ?_) | refine Exists.intro [.sl 12, vi (IntKind.i64.wrap ((c e : Nat) : Int))] (And.intro ⟨leR rfl, rfl⟩ ?_) | refine Exists.intro _ (And.intro ew ?_) | refine upd_e (s := (n : Int)) (N := 16) (.inl rfl) rfl rfl dkD rfl rfl rfl rfl rfl he16 (map_len16 hes16) hds ?_ | refine And.intro (neI rfl) ?_ | refine And.intro ⟨rfl, leR rfl, onesR rfl⟩ ?_ | refine And.intro ⟨rfl, leR rfl⟩ ?_ | refine draw_rule2 hfol (fun KK hKK => ?_) | refine hKK _ _ _ (by kernel_rfl) ?_ | refine region_rule (fun KK hKK => ?_) | refine hKK _ _ ?_ | refine And.intro (Eq.refl true) ?_ | refine Exists.intro _ (And.intro (wI (by omega)) ?_) | refine Exists.intro _ (And.intro (wU (by omega)) ?_) | refine Exists.intro _ (And.intro ⟨rfl, by omega⟩ ?_) | refine Exists.intro _ (And.intro rfl ?_) | refine And.intro rfl ?_ | refine And.intro ⟨rfl, rfl⟩ ?_ | ((refine And.intro (fun _ => ?_) (fun _ => ?_)) <;> try (exfalso; omega))))
      refine Exists.intro (j + 1, upF w e (i :: (W d).2), upF c e (c e + mc n W d), upF g e R, upN xs R (i :: (W d).2), R + 1) (Exists.intro [0, 1, 2, 9, 4, 5] (And.intro ⟨⟨by omega, by rw [hn2]; exact hNI, hwk2 _, by rw [hn2]; exact hP.put fun x hx => .inl hx⟩, (by show l.length - (j + 1) < l.length - j; omega)⟩ ?_))
      dsimp only
      rw [hn2]
      exact ⟨⟨rfl, rfl, rfl, rfl, rfl, rfl, rfl, rfl, rfl, rfl, rfl, rfl, trivial⟩, (by repeat' (first | exact trivial | exact crP rfl | exact crS rfl | exact crSS rfl | exact crPP rfl | exact crA rfl | exact poP rfl | exact poS rfl | exact poSS rfl | exact moW rfl | exact moL rfl | exact rfl | refine And.intro ?_ ?_)), goodB_all rfl (by repeat' (first | exact trivial | exact okO_pl rfl | exact okO_pls rfl | exact okO_plss rfl | exact okO_plpp rfl | exact okO_pla rfl | exact okO_rs | exact okO_rss rfl | exact okO_rsss rfl | exact okO_wP rfl | exact okO_wL rfl | exact okO_r rfl | refine And.intro ?_ ?_)) rfl⟩
    · have hle : lle (w e) (i :: (W d).2) := Classical.byContradiction fun h => hcv (hcn.2 h)
      have hNI := hagain rfl hee (w e) (.inr ⟨rfl, hle⟩)
      have hds : dset e (.agg [.sl 7, .raw (.int .i64 (IntKind.i64.wrap ((c e + mc n W d : Nat) : Int)))]) (es.map fun d => (d, wvL 3 g e 7 c d)) = es.map fun x => (x, wvL 3 g e 7 (upF c e (c e + mc n W d)) x) := by
        have h1 : wvL 3 g e 7 (upF c e (c e + mc n W d)) e = .agg [.sl 7, .raw (.int .i64 (IntKind.i64.wrap ((c e + mc n W d : Nat) : Int)))] := by rw [wvL_eq, upF_eq]
        rw [← h1]
        exact dset_in hN.nd hee fun x _ hx => by rw [wvL_ne hx, wvL_ne hx]; unfold wvP; rw [upF_ne hx]
      have hwid : ∀ x, upF w e (w e) x = w x := fun x => by
        by_cases h : x = e
        · rw [h, upF_eq]
        · rw [upF_ne h]
      have fk : ∀ x8 x9 x10 x11 x12 x13, fits (atL [0, 1, 2, 3, 4, 5, 6, 7]) [.pr T_int64 1 0 [], mE n (wvL 3 g d 6 (mc n W)) ks, .pr T_i_Diagram 17 l.length (dw n l), .po T_int64 (((rsP (fun j => nl (xs j)) R).set (g d) (.lent 6)).set (g e) (.lent 7)), mE n (wvL 3 g e 7 (upF c e (c e + mc n W d))) es, .pr T_i_Diagram 17 es.length (dw n es), .pr T_int64 1 (W d).2.length (nl (W d).2), .pr T_int64 1 (w e).length (nl (w e)), x8, x9, x10, x11, x12, x13] [.pr T_int64 1 0 [], mE n (wvL 3 g d 6 (mc n W)) ks, .pr T_i_Diagram 17 l.length (dw n l), .po T_int64 (((rsP (fun j => nl (xs j)) R).set (g d) (.lent 6)).set (g e) (.lent 7)), mE n (wvL 3 g e 7 (upF c e (c e + mc n W d))) es, .pr T_i_Diagram 17 es.length (dw n es), .pr T_int64 1 (W d).2.length (nl (W d).2), .pr T_int64 1 (w e).length (nl (w e))] 0 := fun _ _ _ _ _ _ => (by repeat' (first | exact trivial | exact crP rfl | exact crS rfl | exact crSS rfl | exact crPP rfl | exact crA rfl | exact poP rfl | exact poS rfl | exact poSS rfl | exact moW rfl | exact moL rfl | exact rfl | refine And.intro ?_ ?_))
      have bk : goodB 0 [0, 1, 2, 3, 4, 5, 6, 7] [.pr T_int64 1 0 [], mE n (wvL 3 g d 6 (mc n W)) ks, .pr T_i_Diagram 17 l.length (dw n l), .po T_int64 (((rsP (fun j => nl (xs j)) R).set (g d) (.lent 6)).set (g e) (.lent 7)), mE n (wvL 3 g e 7 (upF c e (c e + mc n W d))) es, .pr T_i_Diagram 17 es.length (dw n es), .pr T_int64 1 (W d).2.length (nl (W d).2), .pr T_int64 1 (w e).length (nl (w e))] (idsS [(0, vi n), (1, .raw (.pointer none)), (5, .mp 1), (6, .sl 2), (9, .mp 4), (10, .sl 5), (48, vi (n - 1 : Nat)), (49, vi i), (11, vi i), (52, .sl 2), (53, vi l.length), (54, vi j)]) = true := goodB_all rfl (by repeat' (first | exact trivial | exact okO_pl rfl | exact okO_pls rfl | exact okO_plss rfl | exact okO_plpp rfl | exact okO_pla rfl | exact okO_rs | exact okO_rss rfl | exact okO_rsss rfl | exact okO_wP rfl | exact okO_wL rfl | exact okO_r rfl | refine And.intro ?_ ?_)) rfl
      have gk := gg_keepN (n := n) (i := i) (j := j) (l := l) (ks := ks) (es := es) (W := W) (w := w) (c := upF c e (c e + mc n W d)) hgd hxd hge hxe hne
      (repeat' (first | refine reg_ghost (id := 24) (π := [0, 1, 2, 3, 4, 5, 6, 7]) (S := [(0, vi n), (1, .raw (.pointer none)), (5, .mp 1), (6, .sl 2), (9, .mp 4), (10, .sl 5), (48, vi (n - 1 : Nat)), (49, vi i), (11, vi i), (52, .sl 2), (53, vi l.length), (54, vi j)]) (H := [.pr T_int64 1 0 [], mE n (wvL 3 g d 6 (mc n W)) ks, .pr T_i_Diagram 17 l.length (dw n l), .po T_int64 (((rsP (fun j => nl (xs j)) R).set (g d) (.lent 6)).set (g e) (.lent 7)), mE n (wvL 3 g e 7 (upF c e (c e + mc n W d))) es, .pr T_i_Diagram 17 es.length (dw n es), .pr T_int64 1 (W d).2.length (nl (W d).2), .pr T_int64 1 (w e).length (nl (w e))]) ⟨⟨rfl, rfl, rfl, rfl, rfl, rfl, rfl, rfl, rfl, rfl, rfl, rfl, trivial⟩, fk _ _ _ _ _ _, bk⟩ gk (fun gg => ?_) | refine (hgen).pure rfl ?_ | refine (htm).pure rfl ?_ | refine Exists.intro (pcl n d) (And.intro ⟨pcl_len hd16, hat⟩ ?_) | refine Exists.intro (pcl (n : Int) d) (And.intro ⟨pcl_len hd16, pcl_all hd16⟩ ?_) | refine And.intro ⟨pcl_len hd16, leR rfl, pcl_ones⟩ ?_ | refine Exists.intro (pcl (n : Int) d) (And.intro ⟨leR rfl, spl0 (leR rfl)⟩ ?_) | refine Exists.intro (pcl (n : Int) e) (And.intro ⟨pcl_len he16, pcl_all he16⟩ ?_) | refine And.intro ⟨pcl_len he16, leR rfl, pcl_ones⟩ ?_ | refine Exists.intro (pcl (n : Int) e) (And.intro ⟨leR rfl, spl0 (leR rfl)⟩ ?_) | refine look_d (s := (n : Int)) (N := 16) rfl rfl dkD rfl rfl rfl rfl rfl he16 (map_len16 hk16) hrk ?_ | refine Exists.intro [Value.slice none 0 0, Value.int .i64 0] (And.intro ⟨leR rfl, rfl⟩ ?_) | refine And.intro ⟨rfl, mkL rfl⟩ ?_ | refine Exists.intro [Value.int .i64 ((i : Nat) : Int)] (And.intro (row1s (mkL' rfl)) ?_) | refine Exists.intro (nl (i :: (W d).2)) (And.intro ⟨rfl, nl_ones, by omega, by omega, rfl⟩ ?_) | refine look_d (s := (n : Int)) (N := 16) rfl rfl dkD rfl rfl rfl rfl rfl he16 (map_len16 hes16) hre ?_ | refine look_d (s := (n : Int)) (N := 16) rfl rfl dkD rfl rfl rfl rfl rfl hd16 (map_len16 hk16) hrd ?_ | refine (hcm).read [12, 7] rfl ⟨rfl, rfl, trivial⟩ ?_ | refine And.intro ⟨rfl, leR rfl, rfl⟩ ?_ | refine Exists.intro [.sl 7, vi (IntKind.i64.wrap ((c e : Nat) : Int))] (And.intro ⟨leR rfl, rfl⟩ ?_) | refine Exists.intro _ (And.intro ew ?_) | refine upd_e (s := (n : Int)) (N := 16) (.inl rfl) rfl rfl dkD rfl rfl rfl rfl rfl he16 (map_len16 hes16) hds ?_ | refine And.intro (neI rfl) ?_ | refine And.intro ⟨rfl, leR rfl, onesR rfl⟩ ?_ | refine And.intro ⟨rfl, leR rfl⟩ ?_ | refine draw_rule2 hfol (fun KK hKK => ?_) | refine hKK _ _ _ (by kernel_rfl) ?_ | refine region_rule (fun KK hKK => ?_) | refine hKK _ _ ?_ | refine And.intro (Eq.refl true) ?_ | refine Exists.intro _ (And.intro (wI (by omega)) ?_) | refine Exists.intro _ (And.intro (wU (by omega)) ?_) | refine Exists.intro _ (And.intro ⟨rfl, by omega⟩ ?_) | refine Exists.intro _ (And.intro rfl ?_) | refine And.intro rfl ?_ | refine And.intro ⟨rfl, rfl⟩ ?_ | ((refine And.intro (fun _ => ?_) (fun _ => ?_)) <;> try (exfalso; omega))))
      refine Exists.intro (j + 1, upF w e (w e), upF c e (c e + mc n W d), g, xs, R) (Exists.intro [0, 1, 2, 3, 4, 5] (And.intro ⟨⟨by omega, by rw [hn2]; exact hNI, hwk2 _, by rw [hn2]; exact hP.sub (fun x hx => hx) fun x _ => (hwid x).symm⟩, (by show l.length - (j + 1) < l.length - j; omega)⟩ ?_))
      dsimp only
      rw [hn2]
      exact ⟨⟨rfl, rfl, rfl, rfl, rfl, rfl, rfl, rfl, rfl, rfl, rfl, rfl, trivial⟩, (by repeat' (first | exact trivial | exact crP rfl | exact crS rfl | exact crSS rfl | exact crPP rfl | exact crA rfl | exact poP rfl | exact poS rfl | exact poSS rfl | exact moW rfl | exact moL rfl | exact rfl | refine And.intro ?_ ?_)), goodB_all rfl (by repeat' (first | exact trivial | exact okO_pl rfl | exact okO_pls rfl | exact okO_plss rfl | exact okO_plpp rfl | exact okO_pla rfl | exact okO_rs | exact okO_rss rfl | exact okO_rsss rfl | exact okO_wP rfl | exact okO_wL rfl | exact okO_r rfl | refine And.intro ?_ ?_)) rfl⟩
  · -- met first
    rw [if_pos ⟨rfl, hek, hee⟩] at hn2
    have hNI := hnew rfl hek hee
    have hre : dget e (es.map fun d => (d, wvP 3 g c d)) = none := dget_out hee
    have hds : dset e (.agg [.sl 11, .raw (.int .i64 (IntKind.i64.wrap ((mc n W d : Nat) : Int)))]) (es.map fun d => (d, wvP 3 g c d)) = (es ++ [e]).map fun x => (x, wvL 3 g e 11 (upF c e (mc n W d)) x) := by
      have h1 : wvL 3 g e 11 (upF c e (mc n W d)) e = .agg [.sl 11, .raw (.int .i64 (IntKind.i64.wrap ((mc n W d : Nat) : Int)))] := by rw [wvL_eq, upF_eq]
      rw [← h1]
      exact dset_out hee fun x hx => by
        have hx : x ≠ e := fun h => hee (h ▸ hx)
        rw [wvL_ne hx]; unfold wvP; rw [upF_ne hx]
    have ew : IntKind.i64.wrap ((0 : Int) + IntKind.i64.wrap ((mc n W d : Nat) : Int)) = IntKind.i64.wrap ((mc n W d : Nat) : Int) := by
      have := wrap_add 0 ((mc n W d : Nat) : Int)
      rw [show IntKind.i64.wrap 0 = 0 from rfl] at this
      rw [this, Int.zero_add]
    have hesR : ∀ x ∈ es ++ [e], x ≠ e → g x < R := fun x hx h => by
      rcases List.mem_append.1 hx with h1 | h1
      · exact hP.lt x (List.mem_append_right _ h1)
      · exact absurd (List.mem_singleton.1 h1) h
    have hlen : (es ++ [e]).length = es.length + 1 := by simp
    refine code_ghost (π := [0, 1, 2, 3, 4, 5]) (S := [(0, vi n), (1, .raw (.pointer none)), (5, .mp 1), (6, .sl 2), (9, .mp 4), (10, .sl 5), (48, vi (n - 1 : Nat)), (49, vi i), (11, vi i), (52, .sl 2), (53, vi l.length), (54, vi j)]) (H := [.pr T_int64 1 0 [], mE n (wvP 3 g (mc n W)) ks, .pr T_i_Diagram 17 l.length (dw n l), pwO xs R, mE n (wvP 3 g c) es, .pr T_i_Diagram 17 es.length (dw n es)]) ⟨⟨rfl, rfl, rfl, rfl, rfl, rfl, rfl, rfl, rfl, rfl, rfl, rfl, trivial⟩, (by repeat' (first | exact trivial | exact crP rfl | exact crS rfl | exact crSS rfl | exact crPP rfl | exact crA rfl | exact poP rfl | exact poS rfl | exact poSS rfl | exact moW rfl | exact moL rfl | exact rfl | refine And.intro ?_ ?_)), goodB_all rfl (by repeat' (first | exact trivial | exact okO_pl rfl | exact okO_pls rfl | exact okO_plss rfl | exact okO_plpp rfl | exact okO_pla rfl | exact okO_rs | exact okO_rss rfl | exact okO_rsss rfl | exact okO_wP rfl | exact okO_wL rfl | exact okO_r rfl | refine And.intro ?_ ?_)) rfl⟩ (gg_lendN (e := e) (w := w) hgd hxd) (fun gg => ?_)
    have fk : ∀ x7 x8 x9 x10 x12 x13 x5, fits (atL [0, 1, 2, 3, 4, 14, 6, 11]) [.pr T_int64 1 0 [], mE n (wvL 3 g d 6 (mc n W)) ks, .pr T_i_Diagram 17 l.length (dw n l), .po T_int64 ((rsP (fun j => nl (xs j)) R).set (g d) (.lent 6)), mE n (wvL 3 g e 11 (upF c e (mc n W d))) (es ++ [e]), x5, .pr T_int64 1 (W d).2.length (nl (W d).2), x7, x8, x9, x10, .pr T_int64 1 (1 + (W d).2.length) (nl (i :: (W d).2)), x12, x13, .pr T_i_Diagram 17 (es.length + 1) (dw n (es ++ [e]))] [.pr T_int64 1 0 [], mE n (wvL 3 g d 6 (mc n W)) ks, .pr T_i_Diagram 17 l.length (dw n l), .po T_int64 ((rsP (fun j => nl (xs j)) R).set (g d) (.lent 6)), mE n (wvL 3 g e 7 (upF c e (mc n W d))) (es ++ [e]), .pr T_i_Diagram 17 (es.length + 1) (dw n (es ++ [e])), .pr T_int64 1 (W d).2.length (nl (W d).2), .pr T_int64 1 (1 + (W d).2.length) (nl (i :: (W d).2))] 0 := fun _ _ _ _ _ _ _ => (by repeat' (first | exact trivial | exact crP rfl | exact crS rfl | exact crSS rfl | exact crPP rfl | exact crA rfl | exact poP rfl | exact poS rfl | exact poSS rfl | exact moW rfl | exact moL rfl | exact rfl | refine And.intro ?_ ?_))
    have bk : goodB 0 [0, 1, 2, 3, 4, 14, 6, 11] [.pr T_int64 1 0 [], mE n (wvL 3 g d 6 (mc n W)) ks, .pr T_i_Diagram 17 l.length (dw n l), .po T_int64 ((rsP (fun j => nl (xs j)) R).set (g d) (.lent 6)), mE n (wvL 3 g e 7 (upF c e (mc n W d))) (es ++ [e]), .pr T_i_Diagram 17 (es.length + 1) (dw n (es ++ [e])), .pr T_int64 1 (W d).2.length (nl (W d).2), .pr T_int64 1 (1 + (W d).2.length) (nl (i :: (W d).2))] (idsS [(0, vi n), (1, .raw (.pointer none)), (5, .mp 1), (6, .sl 2), (9, .mp 4), (10, .sl 5), (48, vi (n - 1 : Nat)), (49, vi i), (11, vi i), (52, .sl 2), (53, vi l.length), (54, vi j)]) = true := goodB_all rfl (by repeat' (first | exact trivial | exact okO_pl rfl | exact okO_pls rfl | exact okO_plss rfl | exact okO_plpp rfl | exact okO_pla rfl | exact okO_rs | exact okO_rss rfl | exact okO_rsss rfl | exact okO_wP rfl | exact okO_wL rfl | exact okO_r rfl | refine And.intro ?_ ?_)) rfl
    have gk := gg_newN (n := n) (i := i) (j := j) (l := l) (ks := ks) (es := es ++ [e]) (W := W) (d := d) (e := e) (w := w) (c := upF c e (mc n W d)) (N := es.length + 1) hgd hxd hksR hesR
    (repeat' (first | refine reg_ghost (id := 24) (π := [0, 1, 2, 3, 4, 14, 6, 11]) (S := [(0, vi n), (1, .raw (.pointer none)), (5, .mp 1), (6, .sl 2), (9, .mp 4), (10, .sl 5), (48, vi (n - 1 : Nat)), (49, vi i), (11, vi i), (52, .sl 2), (53, vi l.length), (54, vi j)]) (H := [.pr T_int64 1 0 [], mE n (wvL 3 g d 6 (mc n W)) ks, .pr T_i_Diagram 17 l.length (dw n l), .po T_int64 ((rsP (fun j => nl (xs j)) R).set (g d) (.lent 6)), mE n (wvL 3 g e 7 (upF c e (mc n W d))) (es ++ [e]), .pr T_i_Diagram 17 (es.length + 1) (dw n (es ++ [e])), .pr T_int64 1 (W d).2.length (nl (W d).2), .pr T_int64 1 (1 + (W d).2.length) (nl (i :: (W d).2))]) ⟨⟨rfl, rfl, rfl, rfl, rfl, rfl, rfl, rfl, rfl, rfl, rfl, rfl, trivial⟩, fk _ _ _ _ _ _ _, bk⟩ gk (fun gg => ?_) | refine (hgen).pure rfl ?_ | refine (htm).pure rfl ?_ | refine Exists.intro (pcl n d) (And.intro ⟨pcl_len hd16, hat⟩ ?_) | refine Exists.intro (pcl (n : Int) d) (And.intro ⟨pcl_len hd16, pcl_all hd16⟩ ?_) | refine And.intro ⟨pcl_len hd16, leR rfl, pcl_ones⟩ ?_ | refine Exists.intro (pcl (n : Int) d) (And.intro ⟨leR rfl, spl0 (leR rfl)⟩ ?_) | refine Exists.intro (pcl (n : Int) e) (And.intro ⟨pcl_len he16, pcl_all he16⟩ ?_) | refine And.intro ⟨pcl_len he16, leR rfl, pcl_ones⟩ ?_ | refine Exists.intro (pcl (n : Int) e) (And.intro ⟨leR rfl, spl0 (leR rfl)⟩ ?_) | refine look_d (s := (n : Int)) (N := 16) rfl rfl dkD rfl rfl rfl rfl rfl he16 (map_len16 hk16) hrk ?_ | refine Exists.intro [Value.slice none 0 0, Value.int .i64 0] (And.intro ⟨leR rfl, rfl⟩ ?_) | refine And.intro ⟨rfl, mkL rfl⟩ ?_ | refine Exists.intro [Value.int .i64 ((i : Nat) : Int)] (And.intro (row1s (mkL' rfl)) ?_) | refine Exists.intro (nl (i :: (W d).2)) (And.intro ⟨rfl, nl_ones, by omega, by omega, rfl⟩ ?_) | refine look_d (s := (n : Int)) (N := 16) rfl rfl dkD rfl rfl rfl rfl rfl he16 (map_len16 hes16) hre ?_ | refine look_d (s := (n : Int)) (N := 16) rfl rfl dkD rfl rfl rfl rfl rfl hd16 (map_len16 hk16) hrd ?_ | refine Exists.intro [.sl 11, vi 0] (And.intro ⟨leR rfl, rfl⟩ ?_) | refine Exists.intro _ (And.intro ew ?_) | refine upd_e (s := (n : Int)) (N := 16) (.inl rfl) rfl rfl dkD rfl rfl rfl rfl rfl he16 (map_len16 hes16) hds ?_ | refine And.intro ⟨pcl_len he16, mkL rfl⟩ ?_ | refine Exists.intro (pcl n e) (And.intro (row1sD (N := 17) (mkL' rfl)) ?_) | refine Exists.intro (dw n (es ++ [e])) (And.intro ⟨rfl, pcl_ones, by omega, by omega, dw_app⟩ ?_) | refine And.intro (neI rfl) ?_ | refine And.intro ⟨rfl, leR rfl, onesR rfl⟩ ?_ | refine And.intro ⟨rfl, leR rfl⟩ ?_ | refine draw_rule2 hfol (fun KK hKK => ?_) | refine hKK _ _ _ (by kernel_rfl) ?_ | refine region_rule (fun KK hKK => ?_) | refine hKK _ _ ?_ | refine And.intro (Eq.refl true) ?_ | refine Exists.intro _ (And.intro (wI (by omega)) ?_) | refine Exists.intro _ (And.intro (wU (by omega)) ?_) | refine Exists.intro _ (And.intro ⟨rfl, by omega⟩ ?_) | refine Exists.intro _ (And.intro rfl ?_) | refine And.intro rfl ?_ | refine And.intro ⟨rfl, rfl⟩ ?_ | ((refine And.intro (fun _ => ?_) (fun _ => ?_)) <;> try (exfalso; omega))))
    refine Exists.intro (j + 1, upF w e (i :: (W d).2), upF c e (mc n W d), upF g e R, upN xs R (i :: (W d).2), R + 1) (Exists.intro [0, 1, 2, 8, 4, 5] (And.intro ⟨⟨by omega, by rw [hn2]; exact hNI, hwk2 _, by
      rw [hn2]
      exact hP.put fun x hx => by
        rw [← List.append_assoc] at hx
        rcases List.mem_append.1 hx with h | h
        · exact .inl h
        · exact .inr (List.mem_singleton.1 h)⟩, (by show l.length - (j + 1) < l.length - j; omega)⟩ ?_))
    dsimp only
    rw [hn2, hlen]
    exact ⟨⟨rfl, rfl, rfl, rfl, rfl, rfl, rfl, rfl, rfl, rfl, rfl, rfl, trivial⟩, (by repeat' (first | exact trivial | exact crP rfl | exact crS rfl | exact crSS rfl | exact crPP rfl | exact crA rfl | exact poP rfl | exact poS rfl | exact poSS rfl | exact moW rfl | exact moL rfl | exact rfl | refine And.intro ?_ ?_)), goodB_all rfl (by repeat' (first | exact trivial | exact okO_pl rfl | exact okO_pls rfl | exact okO_plss rfl | exact okO_plpp rfl | exact okO_pla rfl | exact okO_rs | exact okO_rss rfl | exact okO_rsss rfl | exact okO_wP rfl | exact okO_wL rfl | exact okO_r rfl | refine And.intro ?_ ?_)) rfl⟩
end Go.Proofs.Ytgpgcdofhkpeaaa.VE

