/- Contracts of functions of the given program, for all arguments that the contract names; see each theorem. -/
import Derived.Test.YtgpgcdofhkpeaaaF23
import Derived.Test.YtgpgcdofhkpeaaaF8
import Derived.Test.YtgpgcdofhkpeaaaU9
set_option linter.all false
namespace Go.Proofs.Ytgpgcdofhkpeaaa.VE
open Go
set_option maxHeartbeats 1600000
set_option maxRecDepth 100000

/-- What a function gives, told otherwise. -/
theorem SpecW.told {P : Program} {W : World → (Nat → Prop) → Prop} {fid : FuncId} {args : List V} {L0 L1 L2 L' : List O} {v v1 v' : V} (h : SpecW P W fid args L0 v L1) (hg : GG [(0, v)] L1 [(0, v1)] L2) (π : List Nat)
    (hv : v1 = v'.mapIds (atL π)) (hfit : fits (atL π) L2 L' 0) (hb : goodB L0.length π L' v'.ids = true) (ha : (okIds L' v'.ids && okIds L' (idsO L')) = true) : SpecW P W fid args L0 v' L' := by
  simp only [Bool.and_eq_true] at ha
  obtain ⟨h1, h2, h3, h4, h5, h6⟩ := h
  refine ⟨h1, h2, h3, ha.1, ha.2, fun ρ w hW hr => (h6 ρ w hW hr).mono ?_⟩
  rintro en w' ⟨ρ', rfl, hr'⟩
  obtain ⟨ρ2, hr2, hk2, hs2⟩ := hg _ _ _ hr' (fun k hk => okIds_elim h4 k (by simpa [idsS] using hk))
  obtain ⟨g1, g2, g3, g4, g5, g6⟩ := goodB_elim hb
  refine ⟨⟨fun i => ρ2.blk (atL π i), fun i => ρ2.val (atL π i)⟩, ?_, ?_⟩
  · rw [← hs2.1.2, hv, V.ren_mapIds]
  · exact hr2.reindex hfit (fun i j hi hj he => atL_inj g2 (by omega) (by omega) he) g3 g5 g6
/-! the program's word of a diagram -/
abbrev wpO (W : List Nat → Nat × List Nat) (ks : List (List Nat)) : O := .po T_int64 (rsP (fun j => nl (W (ks.getD j [])).2) ks.length)
theorem s_short (n : Nat) (W : List Nat → Nat × List Nat) (hW : WD n W) (d : List Nat) (hD : IsD n d) (E : Nat) (hE : EndS n (some d) E) :
    d ∈ (kO n E).1 ∧ Spec Try.prog n_i_shortestOf [pv n d] [] (.agg [.pl 0 (ix d (kO n E).1), vi (IntKind.i64.wrap ((mc n W d : Nat) : Int))]) [wpO W (kO n E).1] := by
  have hfol : Try.prog.follows .mixedOrders = true := rfl
  have hn1 := hD.n1; have hn := hD.n8
  have hdl := hD.len
  have hs := s_search n W hW hn1 hn d hdl E hE
  have hmem : d ∈ (kO n E).1 := hE.mem hW hn1 hn (fun e he => by injection he with he; subst he; exact hD) hD (.inl rfl)
  refine ⟨hmem, ?_⟩
  have hK := KI.at hW hn1 hn E
  have hsn := s_n (n : Int) d
  replace hs : Spec Try.prog n_i_search [vi n, .ptr 0 0] [.pc (pcl n d) T_i_Diagram] (.mp 1) ([.pc (pcl n d) T_i_Diagram] ++ [mE n (wvP 2 (fun e => ix e (kO n E).1) (mc n W)) (kO n E).1, .po T_int64 (rsP (fun j => nl (W ((kO n E).1.getD j [])).2) (kO n E).1.length)]) := hs
  generalize (kO n E).1 = ks at hs hmem hK ⊢
  have hk16 : ∀ d ∈ ks, d.length = 16 := fun d hd => ((hK.mem d).1 hd).1.len
  have hr : dget d (ks.map fun d => (d, wvP 3 (fun e => ix e ks) (mc n W) d)) = some (wvP 3 (fun e => ix e ks) (mc n W) d) := dget_in hmem
  refine SpecW.of_EV hf_i_shortestOf hc_i_shortestOf rfl rfl (ha_all rfl (by repeat' (first | exact trivial | exact okO_pl rfl | exact okO_pls rfl | exact okO_plss rfl | exact okO_plpp rfl | exact okO_pla rfl | exact okO_rs | exact okO_rss rfl | exact okO_rsss rfl | exact okO_wP rfl | exact okO_wL rfl | exact okO_r rfl | refine And.intro ?_ ?_)) rfl (by repeat' (first | exact trivial | exact okO_pl rfl | exact okO_pls rfl | exact okO_plss rfl | exact okO_plpp rfl | exact okO_pla rfl | exact okO_rs | exact okO_rss rfl | exact okO_rsss rfl | exact okO_wP rfl | exact okO_wL rfl | exact okO_r rfl | refine And.intro ?_ ?_))) fun w0 B ρ0 _ => ?_
  (repeat' (first | refine Exists.intro (pcl (n : Int) d) (And.intro ⟨pcl_len hdl, pcl_all hdl⟩ ?_) | refine And.intro ⟨pcl_len hdl, leR rfl, pcl_ones⟩ ?_ | refine Exists.intro (pcl (n : Int) d) (And.intro ⟨leR rfl, spl0 (leR rfl)⟩ ?_) | refine (hsn).read [0] rfl ⟨rfl, trivial⟩ ?_ | refine hs.readN [0] rfl ⟨rfl, trivial⟩ rfl rfl (nwR moM (nwR poM rfl)) ?_ | refine look_d (s := (n : Int)) (N := 16) rfl rfl dkD rfl rfl rfl rfl rfl hdl (map_len16 hk16) hr ?_ | refine And.intro ⟨rfl, leR rfl, rfl⟩ ?_ | refine Exists.intro [.pl 3 (ix d ks), vi (IntKind.i64.wrap ((mc n W d : Nat) : Int))] (And.intro ⟨leR rfl, rfl⟩ ?_) | refine Exists.intro [.pl 3 (ix d ks), vi (IntKind.i64.wrap ((mc n W d : Nat) : Int))] (And.intro ⟨rfl, rfl⟩ ?_) | refine And.intro (neI rfl) ?_ | refine And.intro ⟨rfl, leR rfl, onesR rfl⟩ ?_ | refine And.intro ⟨rfl, leR rfl⟩ ?_ | refine draw_rule2 hfol (fun KK hKK => ?_) | refine hKK _ _ _ (by kernel_rfl) ?_ | refine region_rule (fun KK hKK => ?_) | refine hKK _ _ ?_ | refine And.intro (Eq.refl true) ?_ | refine Exists.intro _ (And.intro (wI (by omega)) ?_) | refine Exists.intro _ (And.intro (wU (by omega)) ?_) | refine Exists.intro _ (And.intro ⟨rfl, by omega⟩ ?_) | refine Exists.intro _ (And.intro rfl ?_) | refine And.intro rfl ?_ | refine And.intro ⟨rfl, rfl⟩ ?_ | ((refine And.intro (fun _ => ?_) (fun _ => ?_)) <;> try (exfalso; omega))))
  exact Exists.intro [3] (And.intro rfl (And.intro (by repeat' (first | exact trivial | exact crP rfl | exact crS rfl | exact crSS rfl | exact crPP rfl | exact crA rfl | exact poP rfl | exact poS rfl | exact poSS rfl | exact moW rfl | exact moL rfl | exact rfl | refine And.intro ?_ ?_)) (goodB_all rfl (by repeat' (first | exact trivial | exact okO_pl rfl | exact okO_pls rfl | exact okO_plss rfl | exact okO_plpp rfl | exact okO_pla rfl | exact okO_rs | exact okO_rss rfl | exact okO_rsss rfl | exact okO_wP rfl | exact okO_wL rfl | exact okO_r rfl | refine And.intro ?_ ?_)) rfl)))
end Go.Proofs.Ytgpgcdofhkpeaaa.VE
