/- Contracts of functions of the given program, for all arguments that the contract names; see each theorem. -/
import Derived.Test.YtgpgcdofhkpeaaaF24
import Derived.Test.YtgpgcdofhkpeaaaF8
import Derived.Test.YtgpgcdofhkpeaaaVEX
set_option linter.all false
namespace Go.Proofs.Ytgpgcdofhkpeaaa.VE
open Go
set_option maxHeartbeats 3200000
set_option maxRecDepth 100000

/-! the law LongestLength -/
theorem zer_len : (List.replicate 16 0 : List Nat).length = 16 := by simp
/-- The level of the last. -/
theorem long_ex {n : Nat} (hn1 : 1 ≤ n) (hn : n ≤ 8) {W : List Nat → Nat × List Nat} (hW : WD n W) {I : Nat} (hI : EndG n 0 (List.replicate 16 0) I) {E : Nat} (hE : EndS n none E) :
    (gO n I).ms.length ≠ 0 ∧ (∀ d ∈ (kO n E).1, (W d).1 ≤ (gO n I).ln.getD ((gO n I).ms.length - 1) 0) ∧ ∃ d ∈ (kO n E).1, (W d).1 = (gO n I).ln.getD ((gO n I).ms.length - 1) 0 := by
  have hle : (gO n I).ms.length ≤ I := by
    rcases hI.fin with h | h
    · exact h
    · exfalso
      have : (0 : Int) = n := h.1
      omega
  obtain ⟨h1, h2⟩ := tree_end hn1 hn hI hle
  have hG := gO_I hn1 hn hI.lt
  have h0 : un n ∈ (gO n I).ms := h1 (un n) 0 (lev_0.2 rfl)
  have hpos : 0 < (gO n I).ms.length := Nat.lt_of_le_of_lt (Nat.zero_le _) (ix_lt h0)
  have hK := KI.at hW hn1 hn E
  refine ⟨by omega, fun d hd => ?_, ?_⟩
  · have hD := ((hK.mem d).1 hd).1
    have hm := h1 d _ (hW.l d hD)
    obtain ⟨g1, _, _, g4⟩ := h2 _ (ix_lt hm)
    rw [ix_get hm] at g1
    rw [(hW.l d hD).uniq g1]; exact g4
  · obtain ⟨g1, _⟩ := h2 ((gO n I).ms.length - 1) (by omega)
    have hD := g1.D hn1 hn
    exact ⟨_, hE.mem hW hn1 hn (fun d h => by cases h) hD (.inr rfl), (hW.l _ hD).uniq g1⟩
theorem s_sLong (n : Nat) (hn1 : 1 ≤ n) (hn : n ≤ 8) (I : Nat) (hI : EndG n 0 (List.replicate 16 0) I) (h0 : (gO n I).ms.length ≠ 0) :
    Spec Try.prog n_s_LongestLength [vi n] [] (.tup [vi ((gO n I).ln.getD ((gO n I).ms.length - 1) 0 : Nat), vi 0]) [] := by
  have hfol : Try.prog.follows .mixedOrders = true := rfl
  have hg := s_grow n hn1 hn 0 (List.replicate 16 0) zer_len I hI
  have hG := gO_I hn1 hn hI.lt
  have hin := s_in (n : Int) 1 8
  rw [decide_eq_true (by omega)] at hin
  generalize gO n I = s at hg hG h0 ⊢
  have hfew := hG.few
  have hws := wy_small n hn
  have hll := hG.ll
  have a1 := nl_at (l := s.ln) (i := s.ms.length - 1) (by omega)
  have w1 : IntKind.i64.wrap ((s.ms.length : Int) - 1) = ((s.ms.length - 1 : Nat) : Int) := wC (by omega) (by omega)
  refine SpecW.of_EV hf_s_LongestLength hc_s_LongestLength rfl rfl rfl fun w0 B ρ0 _ => ?_
  (repeat' (first | refine (hin).pure rfl ?_ | refine (hg).make [] rfl trivial ?_ | refine Exists.intro _ (And.intro a1 ?_) | refine Exists.intro _ (And.intro w1 ?_) | refine And.intro ⟨rfl, leR rfl, rfl⟩ ?_ | refine Exists.intro [V.sl 0, V.sl 1, V.sl 2, V.sl 3, V.sl 4] (And.intro ⟨rfl, rfl⟩ ?_) | refine Exists.intro [V.sl 0, V.sl 1, V.sl 2, V.sl 3, V.sl 4] (And.intro ⟨leR rfl, rfl⟩ ?_) | refine And.intro (neI rfl) ?_ | refine And.intro ⟨rfl, leR rfl, onesR rfl⟩ ?_ | refine And.intro ⟨rfl, leR rfl⟩ ?_ | refine draw_rule2 hfol (fun KK hKK => ?_) | refine hKK _ _ _ (by kernel_rfl) ?_ | refine region_rule (fun KK hKK => ?_) | refine hKK _ _ ?_ | refine And.intro (Eq.refl true) ?_ | refine Exists.intro _ (And.intro (wI (by omega)) ?_) | refine Exists.intro _ (And.intro (wU (by omega)) ?_) | refine Exists.intro _ (And.intro ⟨rfl, by omega⟩ ?_) | refine Exists.intro _ (And.intro rfl ?_) | refine And.intro rfl ?_ | refine And.intro ⟨rfl, rfl⟩ ?_ | ((refine And.intro (fun _ => ?_) (fun _ => ?_)) <;> try (exfalso; omega))))
  exact Exists.intro [] (And.intro (rfl) (And.intro trivial rfl))
theorem eqO_cc {ρ : Rho} {xs ys : List V} {t : TypeId} (h : renL ρ ys = renL ρ xs) : eqO ρ (.cc xs t) (.cc ys t) := .inr (.inl ⟨by simp [O.shape], rfl, h⟩)
abbrev T_shortest : TypeId := 69
theorem s_iLong (n : Nat) (hn1 : 1 ≤ n) (hn : n ≤ 8) (W : List Nat → Nat × List Nat) (hW : WD n W) (E : Nat) (hE : EndS n none E) (M : Nat) (hM1 : ∀ d ∈ (kO n E).1, (W d).1 ≤ M) (hM2 : ∃ d ∈ (kO n E).1, (W d).1 = M) :
    Spec Try.prog n_i_LongestLength [vi n] [] (.tup [vi M, vi 0]) [] := by
  have hs := s_searchN n W hW hn1 hn E hE
  have hK := KI.at hW hn1 hn E
  have hin := s_iin (n : Int) 1 8
  rw [decide_eq_true (by omega)] at hin
  generalize (kO n E).1 = ks at hs hK hM1 hM2
  have hfew := few hK.nd fun m hm => ((hK.mem m).1 hm).1
  have hws := wy_small n hn
  obtain ⟨dM, hdM, hdM2⟩ := hM2
  have hpos : 0 < ks.length := Nat.lt_of_le_of_lt (Nat.zero_le _) (ix_lt hdM)
  have hMb : M ≤ 65536 := by rw [← hdM2]; exact hW.b _ ((hK.mem _).1 hdM).1
  obtain ⟨P, hP⟩ : ∃ P : Nat → List Value, P = fun j => nl (W (ks.getD j [])).2 := ⟨_, rfl⟩
  have hPl : ∀ j, j < ks.length → (P j).length = (W (ks.getD j [])).1 := fun j hj => by
    rw [hP]
    show (nl _).length = _
    rw [nl_len, hW.len ((hK.mem _).1 (getD_mem hj)).1]
  rw [← hP] at hs
  obtain ⟨es, hes⟩ : ∃ es, es = dm n (ks.map fun d => (d, wvP 1 (fun e => ix e ks) (mc n W) d)) := ⟨_, rfl⟩
  have hel : es.length = ks.length := by rw [hes]; simp [dm]
  have heM : mE n (wvP 1 (fun e => ix e ks) (mc n W)) ks = .mo es := by rw [hes]; rfl
  have hei : ∀ i, i < ks.length → es[i]? = some (.agg (pcl n (ks.getD i [])).toArray, .agg [.pl 1 i, .raw (.int .i64 (IntKind.i64.wrap ((mc n W (ks.getD i []) : Nat) : Int)))]) := fun i hi => by
    have h1 : ix (ks.getD i []) ks = i := ix_at hK.nd hi
    rw [hes]
    simp only [dm, List.getElem?_map, List.map_map]
    have h2 : ks[i]? = some (ks.getD i []) := by rw [List.getD_eq_getElem?_getD, List.getElem?_eq_getElem hi]; rfl
    rw [h2]
    have h3 : wvP 1 (fun e => ix e ks) (mc n W) (ks.getD i []) = .agg [.pl 1 i, .raw (.int .i64 (IntKind.i64.wrap ((mc n W (ks.getD i []) : Nat) : Int)))] := by
      show V.agg [.pl 1 (ix (ks.getD i []) ks), _] = _
      rw [h1]
    show some (Value.agg (pcl (n : Int) (ks.getD i [])).toArray, wvP 1 (fun e => ix e ks) (mc n W) (ks.getD i [])) = _
    rw [h3]
  have hmiE : ∀ σ : Nat → Nat, (O.mo es).mapIds σ = mE n (wvP (σ 1) (fun e => ix e ks) (mc n W)) ks := fun σ => by rw [← heM, moM]
  clear hes
  refine SpecW.of_EV hf_i_LongestLength hc_i_LongestLength rfl rfl rfl fun w0 B ρ0 _ => ?_
  (repeat' (first | refine (hin).pure rfl ?_ | refine hs.makeN [] rfl trivial (effR rfl rfl (nwR moM (nwR poM rfl))) ?_ | refine range_m rfl rfl rfl (congrArg some heM) ?_ | refine And.intro (neI rfl) ?_ | refine And.intro ⟨rfl, leR rfl, onesR rfl⟩ ?_ | refine And.intro ⟨rfl, leR rfl⟩ ?_ | refine draw_rule2 hfol (fun KK hKK => ?_) | refine hKK _ _ _ (by kernel_rfl) ?_ | refine region_rule (fun KK hKK => ?_) | refine hKK _ _ ?_ | refine And.intro (Eq.refl true) ?_ | refine Exists.intro _ (And.intro (wI (by omega)) ?_) | refine Exists.intro _ (And.intro (wU (by omega)) ?_) | refine Exists.intro _ (And.intro ⟨rfl, by omega⟩ ?_) | refine Exists.intro _ (And.intro rfl ?_) | refine And.intro rfl ?_ | refine And.intro ⟨rfl, rfl⟩ ?_ | ((refine And.intro (fun _ => ?_) (fun _ => ?_)) <;> try (exfalso; omega))))
  have hg0 : GG [(4, vi (0 : Nat)), (12, .ptr 2 0)] [mE n (wvP 1 (fun e => ix e ks) (mc n W)) ks, .po T_int64 (rsP P ks.length), .mi 0 es.length #[] es.length] [(4, vi (0 : Nat)), (12, .ptr 2 0)] [mE n (wvP 1 (fun e => ix e ks) (mc n W)) ks, .po T_int64 ((rsP P ks.length).set 0 (.lent 3)), .mi 0 es.length #[] es.length, .pr T_int64 1 (P 0).length (P 0)] :=
    GG.lend (k := 1) (j := 0) rfl (rsP_at hpos) (fun ρ _ => simS_refl _) (fun ρ _ => ⟨eqR, eqR, eqR, eqR, trivial⟩) rfl (by repeat' (first | exact trivial | exact okO_pl rfl | exact okO_pls rfl | exact okO_plss rfl | exact okO_plpp rfl | exact okO_pla rfl | exact okO_rs | exact okO_rss rfl | exact okO_rsss rfl | exact okO_wP rfl | exact okO_wL rfl | exact okO_r rfl | refine And.intro ?_ ?_))
  refine code_ghost (π := [0, 1, 2]) (S := [(4, vi (0 : Nat)), (12, .ptr 2 0)]) (H := [mE n (wvP 1 (fun e => ix e ks) (mc n W)) ks, .po T_int64 (rsP P ks.length), .mi 0 es.length #[] es.length]) ⟨⟨rfl, rfl, trivial⟩, (by repeat' (first | exact trivial | exact crP rfl | exact crS rfl | exact crSS rfl | exact crPP rfl | exact crA rfl | exact poP rfl | exact poS rfl | exact poSS rfl | exact moW rfl | exact moL rfl | exact rfl | refine And.intro ?_ ?_)), goodB_all rfl (by repeat' (first | exact trivial | exact okO_pl rfl | exact okO_pls rfl | exact okO_plss rfl | exact okO_plpp rfl | exact okO_pla rfl | exact okO_rs | exact okO_rss rfl | exact okO_rsss rfl | exact okO_wP rfl | exact okO_wL rfl | exact okO_r rfl | refine And.intro ?_ ?_)) rfl⟩ hg0 (fun g => ?_)
  refine loop_rule (α := Array Nat × Nat × Nat) (fun (seen, m, j0) => seen.toList.Nodup ∧ (∀ i ∈ seen, i < ks.length ∧ (W (ks.getD i [])).1 ≤ m) ∧ m ≤ M ∧ j0 < ks.length)
    (fun (seen, m, j0) => [(4, vi m), (12, .ptr 2 0)]) (fun (seen, m, j0) => [mE n (wvP 1 (fun e => ix e ks) (mc n W)) ks, .po T_int64 ((rsP P ks.length).set j0 (.lent 3)), .mi 0 es.length seen es.length, .pr T_int64 1 (P j0).length (P j0)]) (fun (seen, _, _) => ks.length - seen.size) (#[], 0, 0) [0, 1, 2, 3]
    ⟨by simp, fun i hi => by simp at hi, by omega, hpos⟩ ⟨⟨rfl, rfl, trivial⟩, (by repeat' (first | exact trivial | exact crP rfl | exact crS rfl | exact crSS rfl | exact crPP rfl | exact crA rfl | exact poP rfl | exact poS rfl | exact poSS rfl | exact moW rfl | exact moL rfl | exact rfl | refine And.intro ?_ ?_)), goodB_all rfl (by repeat' (first | exact trivial | exact okO_pl rfl | exact okO_pls rfl | exact okO_plss rfl | exact okO_plpp rfl | exact okO_pla rfl | exact okO_rs | exact okO_rss rfl | exact okO_rsss rfl | exact okO_wP rfl | exact okO_wL rfl | exact okO_r rfl | refine And.intro ?_ ?_)) rfl⟩ ?_
  rintro ⟨seen, m, j0⟩ gg ⟨hnd, hse, hm, hj0⟩
  dsimp only at hnd hse hm hj0 ⊢
  refine reg_next rfl rfl rfl rfl rfl (congrArg some heM) rfl rfl (fun KK hKK => And.intro (fun i key v hi hns => ?_) (fun hall => ?_))
  · have hil : i < ks.length := by have := lt_of_get hi; omega
    rw [hei i hil] at hi
    obtain ⟨rfl, rfl⟩ := Prod.mk.inj (Option.some.inj hi)
    have hss : seen.size < ks.length := by
      have h1 := pigeonN ks.length (i :: seen.toList) (List.nodup_cons.2 ⟨by simpa using hns, hnd⟩) fun x hx => by
        rcases List.mem_cons.1 hx with rfl | hx
        · exact hil
        · exact (hse x (by simpa using hx)).1
      simp at h1; omega
    have hbk : (seen.push i).back? = some i := by simp
    have hPi := hPl i hil
    have hWM := hM1 _ (getD_mem hil)
    have hmx : (if (((P i).length : Nat) : Int) > (m : Int) then (((P i).length : Nat) : Int) else (m : Int)) = ((max m (P i).length : Nat) : Int) := by split <;> omega
    have e1 : GG [(4, vi m), (6, .ptr 4 0), (12, .ptr 2 0)] [mE n (wvP 1 (fun e => ix e ks) (mc n W)) ks, .po T_int64 ((rsP P ks.length).set j0 (.lent 3)), .mi 0 es.length (seen.push i) es.length, .pr T_int64 1 (P j0).length (P j0), .cc [.pl 1 i, vi (IntKind.i64.wrap ((mc n W (ks.getD i []) : Nat) : Int))] T_shortest] [(4, vi m), (6, .ptr 4 0), (12, .ptr 2 0)] [mE n (wvP 1 (fun e => ix e ks) (mc n W)) ks, .po T_int64 (rsP P ks.length), .mi 0 es.length (seen.push i) es.length, .dead, .cc [.pl 1 i, vi (IntKind.i64.wrap ((mc n W (ks.getD i []) : Nat) : Int))] T_shortest] := GG.back (k := 1) (j := j0) (r := 3) rfl (rsP_lent hj0) rfl (fun ρ _ => simS_refl _) (fun ρ _ => ⟨eqR, .inl (congrArg (O.po T_int64) (rsP_same rfl)), eqR, eqR, eqR, trivial⟩) rfl (by repeat' (first | exact trivial | exact okO_pl rfl | exact okO_pls rfl | exact okO_plss rfl | exact okO_plpp rfl | exact okO_pla rfl | exact okO_rs | exact okO_rss rfl | exact okO_rsss rfl | exact okO_wP rfl | exact okO_wL rfl | exact okO_r rfl | refine And.intro ?_ ?_))
    have e2 : GG [(4, vi m), (6, .ptr 4 0), (12, .ptr 2 0)] [mE n (wvP 1 (fun e => ix e ks) (mc n W)) ks, .po T_int64 (rsP P ks.length), .mi 0 es.length (seen.push i) es.length, .dead, .cc [.pl 1 i, vi (IntKind.i64.wrap ((mc n W (ks.getD i []) : Nat) : Int))] T_shortest] [(4, vi m), (6, .ptr 4 0), (12, .ptr 2 0)] [mE n (wvP 1 (fun e => ix e ks) (mc n W)) ks, .po T_int64 ((rsP P ks.length).set i (.lent 5)), .mi 0 es.length (seen.push i) es.length, .dead, .cc [.sl 5, vi (IntKind.i64.wrap ((mc n W (ks.getD i []) : Nat) : Int))] T_shortest, .pr T_int64 1 (P i).length (P i)] := GG.lend (k := 1) (j := i) rfl (rsP_at hil) (fun ρ _ => simS_refl _) (fun ρ hE => ⟨eqR, eqR, eqR, eqR, eqO_cc (by have h5 : (V.sl 5).ren ρ = (V.pl 1 i).ren ρ := hE; simp only [renL, h5]), eqR, trivial⟩) rfl (by repeat' (first | exact trivial | exact okO_pl rfl | exact okO_pls rfl | exact okO_plss rfl | exact okO_plpp rfl | exact okO_pla rfl | exact okO_rs | exact okO_rss rfl | exact okO_rsss rfl | exact okO_wP rfl | exact okO_wL rfl | exact okO_r rfl | refine And.intro ?_ ?_))
    have e3 := e1.trans e2
    have bk : goodB 0 [0, 1, 2, 3, 4] [mE n (wvP 1 (fun e => ix e ks) (mc n W)) ks, .po T_int64 ((rsP P ks.length).set j0 (.lent 3)), .mi 0 es.length (seen.push i) es.length, .pr T_int64 1 (P j0).length (P j0), .cc [.pl 1 i, vi (IntKind.i64.wrap ((mc n W (ks.getD i []) : Nat) : Int))] T_shortest] (idsS [(4, vi m), (6, .ptr 4 0), (12, .ptr 2 0)]) = true := goodB_all rfl (by repeat' (first | exact trivial | exact okO_pl rfl | exact okO_pls rfl | exact okO_plss rfl | exact okO_plpp rfl | exact okO_pla rfl | exact okO_rs | exact okO_rss rfl | exact okO_rsss rfl | exact okO_wP rfl | exact okO_wL rfl | exact okO_r rfl | refine And.intro ?_ ?_)) rfl
    have fk : fits (atL [0, 1, 2, 3, 4]) [mE n (wvP 1 (fun e => ix e ks) (mc n W)) ks, .po T_int64 ((rsP P ks.length).set j0 (.lent 3)), .mi 0 es.length (seen.push i) es.length, .pr T_int64 1 (P j0).length (P j0), .cc [.pl 1 i, vi (IntKind.i64.wrap ((mc n W (ks.getD i []) : Nat) : Int))] T_shortest] [mE n (wvP 1 (fun e => ix e ks) (mc n W)) ks, .po T_int64 ((rsP P ks.length).set j0 (.lent 3)), .mi 0 es.length (seen.push i) es.length, .pr T_int64 1 (P j0).length (P j0), .cc [.pl 1 i, vi (IntKind.i64.wrap ((mc n W (ks.getD i []) : Nat) : Int))] T_shortest] 0 := (by repeat' (first | exact trivial | exact crP rfl | exact crS rfl | exact crSS rfl | exact crPP rfl | exact crA rfl | exact poP rfl | exact poS rfl | exact poSS rfl | exact moW rfl | exact moL rfl | exact rfl | refine And.intro ?_ ?_))
    (repeat' (first | refine reg_ghost (id := 7) (π := [0, 1, 2, 3, 4]) (S := [(4, vi m), (6, .ptr 4 0), (12, .ptr 2 0)]) (H := [mE n (wvP 1 (fun e => ix e ks) (mc n W)) ks, .po T_int64 ((rsP P ks.length).set j0 (.lent 3)), .mi 0 es.length (seen.push i) es.length, .pr T_int64 1 (P j0).length (P j0), .cc [.pl 1 i, vi (IntKind.i64.wrap ((mc n W (ks.getD i []) : Nat) : Int))] T_shortest]) ⟨⟨rfl, rfl, rfl, trivial⟩, fk, bk⟩ e3 (fun gg => ?_) | refine entry_m rfl rfl rfl (congrArg some heM) rfl hbk (hei i hil) ?_ | refine And.intro ⟨rfl, leR rfl, rfl⟩ ?_ | refine Exists.intro [.pl 1 i, vi (IntKind.i64.wrap ((mc n W (ks.getD i []) : Nat) : Int))] (And.intro ⟨leR rfl, rfl⟩ ?_) | refine Exists.intro _ (And.intro hmx ?_) | refine And.intro (neI rfl) ?_ | refine And.intro ⟨rfl, leR rfl, onesR rfl⟩ ?_ | refine And.intro ⟨rfl, leR rfl⟩ ?_ | refine draw_rule2 hfol (fun KK hKK => ?_) | refine hKK _ _ _ (by kernel_rfl) ?_ | refine region_rule (fun KK hKK => ?_) | refine hKK _ _ ?_ | refine And.intro (Eq.refl true) ?_ | refine Exists.intro _ (And.intro (wI (by omega)) ?_) | refine Exists.intro _ (And.intro (wU (by omega)) ?_) | refine Exists.intro _ (And.intro ⟨rfl, by omega⟩ ?_) | refine Exists.intro _ (And.intro rfl ?_) | refine And.intro rfl ?_ | refine And.intro ⟨rfl, rfl⟩ ?_ | ((refine And.intro (fun _ => ?_) (fun _ => ?_)) <;> try (exfalso; omega))))
    have hnd2 : (seen.push i).toList.Nodup := by
      rw [Array.toList_push, List.nodup_append]
      refine ⟨hnd, by simp, fun a ha b hb e => ?_⟩
      simp at hb; subst hb; subst e; exact hns (by simpa using ha)
    have hse2 : ∀ x ∈ seen.push i, x < ks.length ∧ (W (ks.getD x [])).1 ≤ max m (P i).length := fun x hx => by
      rcases Array.mem_push.1 hx with h | h
      · have := hse x h; omega
      · subst h; exact ⟨hil, by omega⟩
    exact Exists.intro (seen.push i, max m (P i).length, i) (Exists.intro [0, 1, 2, 5] (And.intro ⟨⟨hnd2, hse2, by dsimp only; omega, hil⟩, (by show ks.length - (seen.push i).size < ks.length - seen.size; rw [Array.size_push]; omega)⟩ ⟨⟨rfl, rfl, trivial⟩, (by repeat' (first | exact trivial | exact crP rfl | exact crS rfl | exact crSS rfl | exact crPP rfl | exact crA rfl | exact poP rfl | exact poS rfl | exact poSS rfl | exact moW rfl | exact moL rfl | exact rfl | refine And.intro ?_ ?_)), goodB_all rfl (by repeat' (first | exact trivial | exact okO_pl rfl | exact okO_pls rfl | exact okO_plss rfl | exact okO_plpp rfl | exact okO_pla rfl | exact okO_rs | exact okO_rss rfl | exact okO_rsss rfl | exact okO_wP rfl | exact okO_wL rfl | exact okO_r rfl | refine And.intro ?_ ?_)) rfl⟩))
  · have hmM : m = M := by
      have h1 := (hse _ (hall (ix dM ks) (by rw [hel]; exact ix_lt hdM))).2
      rw [ix_get hdM, hdM2] at h1
      omega
    (repeat' (first | refine And.intro (neI rfl) ?_ | refine And.intro ⟨rfl, leR rfl, onesR rfl⟩ ?_ | refine And.intro ⟨rfl, leR rfl⟩ ?_ | refine draw_rule2 hfol (fun KK hKK => ?_) | refine hKK _ _ _ (by kernel_rfl) ?_ | refine region_rule (fun KK hKK => ?_) | refine hKK _ _ ?_ | refine And.intro (Eq.refl true) ?_ | refine Exists.intro _ (And.intro (wI (by omega)) ?_) | refine Exists.intro _ (And.intro (wU (by omega)) ?_) | refine Exists.intro _ (And.intro ⟨rfl, by omega⟩ ?_) | refine Exists.intro _ (And.intro rfl ?_) | refine And.intro rfl ?_ | refine And.intro ⟨rfl, rfl⟩ ?_ | ((refine And.intro (fun _ => ?_) (fun _ => ?_)) <;> try (exfalso; omega))))
    exact Exists.intro [] (And.intro (by rw [hmM]; rfl) (And.intro trivial rfl))
theorem s_sLongE (n : Int) (h : ¬ (1 ≤ n ∧ n ≤ 8)) : Spec Try.prog n_s_LongestLength [vi n] [] (.tup [vi 0, vi 2]) [] := by
  have hin := s_in n 1 8
  rw [decide_eq_false h] at hin
  refine SpecW.of_EV hf_s_LongestLength hc_s_LongestLength rfl rfl rfl fun w0 B ρ0 _ => ?_
  (repeat' (first | refine (hin).pure rfl ?_ | refine And.intro (neI rfl) ?_ | refine And.intro ⟨rfl, leR rfl, onesR rfl⟩ ?_ | refine And.intro ⟨rfl, leR rfl⟩ ?_ | refine draw_rule2 hfol (fun KK hKK => ?_) | refine hKK _ _ _ (by kernel_rfl) ?_ | refine region_rule (fun KK hKK => ?_) | refine hKK _ _ ?_ | refine And.intro (Eq.refl true) ?_ | refine Exists.intro _ (And.intro (wI (by omega)) ?_) | refine Exists.intro _ (And.intro (wU (by omega)) ?_) | refine Exists.intro _ (And.intro ⟨rfl, by omega⟩ ?_) | refine Exists.intro _ (And.intro rfl ?_) | refine And.intro rfl ?_ | refine And.intro ⟨rfl, rfl⟩ ?_ | ((refine And.intro (fun _ => ?_) (fun _ => ?_)) <;> try (exfalso; omega))))
  exact Exists.intro [] (And.intro (rfl) (And.intro trivial rfl))
theorem s_iLongE (n : Int) (h : ¬ (1 ≤ n ∧ n ≤ 8)) : Spec Try.prog n_i_LongestLength [vi n] [] (.tup [vi 0, vi 2]) [] := by
  have hin := s_iin n 1 8
  rw [decide_eq_false h] at hin
  refine SpecW.of_EV hf_i_LongestLength hc_i_LongestLength rfl rfl rfl fun w0 B ρ0 _ => ?_
  (repeat' (first | refine (hin).pure rfl ?_ | refine And.intro (neI rfl) ?_ | refine And.intro ⟨rfl, leR rfl, onesR rfl⟩ ?_ | refine And.intro ⟨rfl, leR rfl⟩ ?_ | refine draw_rule2 hfol (fun KK hKK => ?_) | refine hKK _ _ _ (by kernel_rfl) ?_ | refine region_rule (fun KK hKK => ?_) | refine hKK _ _ ?_ | refine And.intro (Eq.refl true) ?_ | refine Exists.intro _ (And.intro (wI (by omega)) ?_) | refine Exists.intro _ (And.intro (wU (by omega)) ?_) | refine Exists.intro _ (And.intro ⟨rfl, by omega⟩ ?_) | refine Exists.intro _ (And.intro rfl ?_) | refine And.intro rfl ?_ | refine And.intro ⟨rfl, rfl⟩ ?_ | ((refine And.intro (fun _ => ?_) (fun _ => ?_)) <;> try (exfalso; omega))))
  exact Exists.intro [] (And.intro (rfl) (And.intro trivial rfl))
theorem s_lawLong (n : Int) (_ : -9223372036854775808 ≤ n ∧ n ≤ 9223372036854775807) : Spec Try.prog n_l_FnExactLongestLength [vi n] [] (vb true) [] := by
  have key : ∃ a b : Int, Spec Try.prog n_s_LongestLength [vi n] [] (.tup [vi a, vi b]) [] ∧ Spec Try.prog n_i_LongestLength [vi n] [] (.tup [vi a, vi b]) [] := by
    by_cases h : 1 ≤ n ∧ n ≤ 8
    · obtain ⟨k, rfl⟩ : ∃ k : Nat, n = k := ⟨n.toNat, by omega⟩
      have hn1 : 1 ≤ k := by omega
      have hn : k ≤ 8 := by omega
      obtain ⟨W, hW⟩ := WD.ex hn1 hn
      obtain ⟨I, hI⟩ := EndG.ex hn1 hn 0 (List.replicate 16 0)
      obtain ⟨E, hE⟩ := EndS.ex hW hn1 hn none
      obtain ⟨h0, hM1, hM2⟩ := long_ex hn1 hn hW hI hE
      exact ⟨_, _, s_sLong k hn1 hn I hI h0, s_iLong k hn1 hn W hW E hE _ hM1 hM2⟩
    · exact ⟨_, _, s_sLongE n h, s_iLongE n h⟩
  obtain ⟨a, b, h1, h2⟩ := key
  refine SpecW.of_EV hf_l_FnExactLongestLength hc_l_FnExactLongestLength rfl rfl rfl fun w0 B ρ0 _ => ?_
  (repeat' (first | refine (h1).pure rfl ?_ | refine (h2).pure rfl ?_ | refine And.intro (fun h => absurd rfl h) (fun _ => ?_) | refine And.intro (neI rfl) ?_ | refine And.intro ⟨rfl, leR rfl, onesR rfl⟩ ?_ | refine And.intro ⟨rfl, leR rfl⟩ ?_ | refine draw_rule2 hfol (fun KK hKK => ?_) | refine hKK _ _ _ (by kernel_rfl) ?_ | refine region_rule (fun KK hKK => ?_) | refine hKK _ _ ?_ | refine And.intro (Eq.refl true) ?_ | refine Exists.intro _ (And.intro (wI (by omega)) ?_) | refine Exists.intro _ (And.intro (wU (by omega)) ?_) | refine Exists.intro _ (And.intro ⟨rfl, by omega⟩ ?_) | refine Exists.intro _ (And.intro rfl ?_) | refine And.intro rfl ?_ | refine And.intro ⟨rfl, rfl⟩ ?_ | ((refine And.intro (fun _ => ?_) (fun _ => ?_)) <;> try (exfalso; omega))))
  exact finP rfl
end Go.Proofs.Ytgpgcdofhkpeaaa.VE
