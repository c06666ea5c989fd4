/- Contracts of functions of the given program, for all arguments that the contract names; see each theorem. -/
import Derived.Test.YtgpgcdofhkpeaaaI1
import Derived.Test.YtgpgcdofhkpeaaaL11
import Derived.Test.YtgpgcdofhkpeaaaU8e
import Derived.Test.YtgpgcdofhkpeaaaU12e
import Derived.Test.YtgpgcdofhkpeaaaU11e
import Derived.Test.YtgpgcdofhkpeaaaU18e
set_option linter.all false
namespace Go.Proofs.Ytgpgcdofhkpeaaa.VE
open Go
set_option maxHeartbeats 12000000
set_option maxRecDepth 100000

/-! the law FnProducts -/
theorem isDi_I {n : Nat} {m : List Nat} (hd : IsD n m) : isDi n m = true := by
  rw [← isD_eq n m hd.len]
  have h1 := hd.n1; have h8 := hd.n8
  unfold isDs
  simp only [Bool.and_eq_true, decide_eq_true_eq]
  rw [Int.toNat_natCast]
  refine ⟨⟨by omega, by omega⟩, (ckS_true (n := n) (m := m) 16 0).2 fun j _ _ => ⟨fun h => hd.zero j h, fun h => ⟨hd.lt j h, hd.ne j h, hd.inv j h⟩⟩, ?_⟩
  exact crOA_true.2 ((planar_iff hd.lt).2 hd.pl).2
section
variable {n : Nat} {a b : List Nat} (ha : IsD n a) (hb : IsD n b)
include ha
theorem q_flip : Spec Try.prog n_i_FlipDiagram [pv n a] [] (.tup [pv n (fl n a), vi 0]) [] := by
  have h := s_iFlip n a ha.len (byte_D ha)
  have hr : mvR gF n a = ((n : Int), fl n a, 0) := by unfold mvR; rw [if_pos (isDi_I ha)]; rfl
  rw [hr] at h; exact h
theorem q_thr : Spec Try.prog n_i_ThroughLines [pv n a] [] (.tup [vi (thC n a n : Nat), vi 0]) [] := by
  have h := s_iThr n a ha.len (byte_D ha)
  have hr : thR n a = (((thC n a n : Nat) : Int), 0) := by unfold thR; rw [if_pos (isDi_I ha)]; rfl
  rw [hr] at h; exact h
include hb
theorem q_mul : Spec Try.prog n_i_MultiplyDiagrams [pv n a, pv n b] [] (.tup [pv n (oL n a b n).1, vi (lpN n a b : Nat), vi 0]) [] := by
  have h := s_iMul n a ha.len (byte_D ha) n b hb.len (byte_D hb)
  have hr : mulR n a n b = ((n : Int), (oL n a b n).1, ((lpN n a b : Nat) : Int), 0) := by unfold mulR; rw [if_pos ⟨isDi_I ha, isDi_I hb⟩, if_pos rfl]; rfl
  rw [hr] at h; exact h
end
theorem eqSelf (s : Int) (m : List Nat) (hm : m.length = 16) : ∀ w, (Op.equalIn 10000 T_i_Diagram (.agg (pcl s m).toArray) (.agg (pcl s m).toArray)).run Try.prog w = .ok true w := fun w => by
  rw [eqDg w hm hm]; simp
attribute [local irreducible] IntKind.wrap
theorem s_lawProducts {W : World → (Nat → Prop) → Prop} {v : Value} {g : Nat → Int} {N : Nat} (hA : ArgK .u8 W v g N) (hg : ∀ j, j < N → 0 ≤ g j ∧ g j < 256) : SpecW Try.prog W n_l_FnProducts [.raw v] [] (vb true) [] := by
  obtain ⟨a, cap, hv⟩ := hA.form
  have hfol : Try.prog.follows .mixedOrders = true := rfl
  have cB := s_big (W := W) hv
  by_cases hbig : 4096 < N
  · rw [decide_eq_true hbig] at cB
    refine SpecW.of_EV hf_l_FnProducts hc_l_FnProducts rfl rfl rfl fun w0 B ρ0 hW => ?_
    have hp := ArgK.pass (Γ := ⟨w0, B, ([] : List O).length, ρ0⟩) hA hW
    (repeat' (first | refine cB.readW hp [] rfl trivial ?_ | refine And.intro (neI rfl) ?_ | refine And.intro ⟨rfl, leR rfl, onesR rfl⟩ ?_ | refine And.intro ⟨rfl, leR rfl⟩ ?_ | refine draw_rule2 hfol (fun KK hKK => ?_) | refine hKK _ _ _ (by kernel_rfl) ?_ | refine region_rule (fun KK hKK => ?_) | refine hKK _ _ ?_ | refine And.intro (Eq.refl true) ?_ | refine Exists.intro _ (And.intro (wI (by omega)) ?_) | refine Exists.intro _ (And.intro (wU (by omega)) ?_) | refine Exists.intro _ (And.intro ⟨rfl, by omega⟩ ?_) | refine Exists.intro _ (And.intro rfl ?_) | refine And.intro rfl ?_ | refine And.intro ⟨rfl, rfl⟩ ?_ | ((refine And.intro (fun _ => ?_) (fun _ => ?_)) <;> try (exfalso; omega))))
    exact finP rfl
  rw [decide_eq_false hbig] at cB
  have hN : N ≤ 1048576 := by omega
  obtain ⟨s1, m1, s2, m2, l1, b1, l2, b2, cD⟩ := s_DrawMultiplyDiagrams hA hN hg
  obtain ⟨s3, m3, l3, b3, cD3⟩ := s_DrawFlipDiagram hA hN hg
  obtain ⟨s4, m4, l4, b4, cD4⟩ := s_DrawThroughLines hA hN hg
  obtain ⟨r5, cD5⟩ := s_DrawUnitDiagram hA hN hg
  have cF3i := s_iFlip s3 m3 l3 b3
  have cF3s := s_sFlip s3 m3 l3 b3
  have lf3 := mvR_len gF s3 m3
  generalize mvR gF s3 m3 = f3 at cF3i cF3s lf3
  have hE3 := eqSelf f3.1 f3.2.1 lf3
  have cT4i := s_iThr s4 m4 l4 b4
  have cT4s := s_sThr s4 m4 l4 b4
  generalize thR s4 m4 = t4 at cT4i cT4s
  have cU5i := s_iUnit r5
  have cU5s := s_sUnit r5
  have lu5 := unR_len r5
  generalize unR r5 = u5 at cU5i cU5s lu5
  have hE5 := eqSelf u5.1 u5.2.1 lu5
  have cMi := s_iMul s1 m1 l1 b1 s2 m2 l2 b2
  have cMs := s_sMul s1 m1 l1 b1 s2 m2 l2 b2
  have cI := s_iIsD s1 m1 l1 b1
  have cS := s_sIsD s1 m1 l1 b1
  by_cases hok : isDi s1 m1 = true ∧ isDi s2 m2 = true ∧ s1 = s2
  · obtain ⟨h1, h2, rfl⟩ := hok
    rw [h1] at cI cS
    obtain ⟨n, rfl, hd⟩ := isDi_elim l1 h1
    obtain ⟨n', hn', he⟩ := isDi_elim l2 h2
    obtain rfl : n = n' := by omega
    have hn1 := hd.n1; have hn := hd.n8
    have hr : mulR n m1 n m2 = ((n : Int), (oL n m1 m2 n).1, ((lpN n m1 m2 : Nat) : Int), 0) := by unfold mulR; rw [if_pos ⟨h1, h2⟩, if_pos rfl]; rfl
    replace cMi : Spec Try.prog n_i_MultiplyDiagrams [pv n m1, pv n m2] [] (.tup [pv n (oL n m1 m2 n).1, vi (lpN n m1 m2 : Nat), vi 0]) [] := by rw [hr] at cMi; exact cMi
    replace cMs : Spec Try.prog n_s_MultiplyDiagrams [pv n m1, pv n m2] [] (.tup [pv n (oL n m1 m2 n).1, vi (lpN n m1 m2 : Nat), vi 0]) [] := by rw [hr] at cMs; exact cMs
    have hP := mul_D hd he
    have hF := fl_D hd
    have hX := mul_D he hF
    have hG := fl_D he
    have hU := un_D hn1 hn
    have c1 := q_flip hd
    have c2 := q_mul hP hF
    have c3 := q_mul he hF
    have c4 := q_mul hd hX
    have c5 := s_iUnit n
    replace c5 : Spec Try.prog n_i_UnitDiagram [vi n] [] (.tup [pv n (un n), vi 0]) [] := by
      rw [show unR n = ((n : Int), un n, 0) from by unfold unR; rw [if_pos (by omega)]; rfl] at c5; exact c5
    have c6 := q_mul hd hU
    rw [mul_un hd.toIsV, lp_un hd.toIsV] at c6
    have c7 := q_flip he
    have c8 := q_mul hG hF
    have c9 := q_flip hP
    have c10 := q_thr hP
    have c11 := q_thr hd
    have hth := thC_mul hd.toIsV he
    have hsum := loops_assoc hd.toIsV he.toIsV hF.toIsV
    have k1 := lpN_le (n := n) (a := m1) (b := m2)
    have k2 := lpN_le (n := n) (a := (oL n m1 m2 n).1) (b := fl n m1)
    have k3 := lpN_le (n := n) (a := m2) (b := fl n m1)
    have k4 := lpN_le (n := n) (a := m1) (b := (oL n m2 (fl n m1) n).1)
    rw [← mul_assoc_V hd.toIsV he.toIsV hF.toIsV] at c4
    rw [← fl_mul hd.toIsV he.toIsV, fl_lp hd.toIsV he.toIsV] at c8
    have hL := (mul_D hP hF).len
    have hT := (fl_D hP).len
    have hPl := hP.len; have hFl := hF.len; have hXl := hX.len; have hGl := hG.len
    have t1 := thC_le (n := n) (m := m1) n
    generalize thC n (oL n m1 m2 n).1 n = thP at c10 hth
    generalize thC n m1 n = thA at c11 hth t1
    clear hX hG hP hU
    generalize fl n (oL n m1 m2 n).1 = T at c8 c9 hT
    generalize (oL n (oL n m1 m2 n).1 (fl n m1) n).1 = L at c2 c4 hL
    generalize lpN n (oL n m1 m2 n).1 (fl n m1) = la at c2 hsum k2
    generalize lpN n m1 (oL n m2 (fl n m1) n).1 = lc at c4 hsum k4
    generalize lpN n m2 (fl n m1) = lb at c3 hsum k3
    generalize lpN n m1 m2 = lp at cMi cMs c8 hsum k1
    generalize (oL n m1 m2 n).1 = P at cMi cMs c2 c9 c10 hPl
    generalize (oL n m2 (fl n m1) n).1 = X at c3 c4 hXl
    generalize fl n m1 = F at c1 c2 c3 c8 hFl
    generalize fl n m2 = G at c7 c8 hGl
    have hEP := eqSelf n P hPl
    have hEL := eqSelf n L hL
    have hEd := eqSelf n m1 l1
    have hET := eqSelf n T hT
    clear hd he hF
    refine SpecW.of_EV hf_l_FnProducts hc_l_FnProducts rfl rfl rfl fun w0 B ρ0 hW => ?_
    have hp := ArgK.pass (Γ := ⟨w0, B, ([] : List O).length, ρ0⟩) hA hW
    (repeat' (first | refine cB.readW hp [] rfl trivial ?_ | refine cD.makeW hp [] rfl trivial ?_ | refine Exists.intro (pcl (n : Int) m1) (And.intro ⟨pcl_len l1, pcl_all l1⟩ ?_) | refine And.intro ⟨pcl_len l1, leR rfl, pcl_ones⟩ ?_ | refine Exists.intro (pcl (n : Int) m1) (And.intro ⟨leR rfl, spl0 (leR rfl)⟩ ?_) | refine Exists.intro (pcl (n : Int) m2) (And.intro ⟨pcl_len l2, pcl_all l2⟩ ?_) | refine And.intro ⟨pcl_len l2, leR rfl, pcl_ones⟩ ?_ | refine Exists.intro (pcl (n : Int) m2) (And.intro ⟨leR rfl, spl0 (leR rfl)⟩ ?_) | refine (cMi).pure rfl ?_ | refine (cMs).pure rfl ?_ | refine (cI).pure rfl ?_ | refine (cS).pure rfl ?_ | refine (c1).pure rfl ?_ | refine (c2).pure rfl ?_ | refine (c3).pure rfl ?_ | refine (c4).pure rfl ?_ | refine (c5).pure rfl ?_ | refine (c6).pure rfl ?_ | refine (c7).pure rfl ?_ | refine (c8).pure rfl ?_ | refine (c9).pure rfl ?_ | refine (c10).pure rfl ?_ | refine (c11).pure rfl ?_ | refine Exists.intro (pcl (n : Int) P) (And.intro ⟨pcl_len hPl, pcl_all hPl⟩ ?_) | refine And.intro ⟨pcl_len hPl, leR rfl, pcl_ones⟩ ?_ | refine Exists.intro (pcl (n : Int) P) (And.intro ⟨leR rfl, spl0 (leR rfl)⟩ ?_) | refine Exists.intro (pcl (n : Int) F) (And.intro ⟨pcl_len hFl, pcl_all hFl⟩ ?_) | refine And.intro ⟨pcl_len hFl, leR rfl, pcl_ones⟩ ?_ | refine Exists.intro (pcl (n : Int) F) (And.intro ⟨leR rfl, spl0 (leR rfl)⟩ ?_) | refine Exists.intro (pcl (n : Int) L) (And.intro ⟨pcl_len hL, pcl_all hL⟩ ?_) | refine And.intro ⟨pcl_len hL, leR rfl, pcl_ones⟩ ?_ | refine Exists.intro (pcl (n : Int) L) (And.intro ⟨leR rfl, spl0 (leR rfl)⟩ ?_) | refine Exists.intro (pcl (n : Int) X) (And.intro ⟨pcl_len hXl, pcl_all hXl⟩ ?_) | refine And.intro ⟨pcl_len hXl, leR rfl, pcl_ones⟩ ?_ | refine Exists.intro (pcl (n : Int) X) (And.intro ⟨leR rfl, spl0 (leR rfl)⟩ ?_) | refine Exists.intro (pcl (n : Int) G) (And.intro ⟨pcl_len hGl, pcl_all hGl⟩ ?_) | refine And.intro ⟨pcl_len hGl, leR rfl, pcl_ones⟩ ?_ | refine Exists.intro (pcl (n : Int) G) (And.intro ⟨leR rfl, spl0 (leR rfl)⟩ ?_) | refine Exists.intro (pcl (n : Int) T) (And.intro ⟨pcl_len hT, pcl_all hT⟩ ?_) | refine And.intro ⟨pcl_len hT, leR rfl, pcl_ones⟩ ?_ | refine Exists.intro (pcl (n : Int) T) (And.intro ⟨leR rfl, spl0 (leR rfl)⟩ ?_) | refine Exists.intro (pcl (n : Int) (un n)) (And.intro ⟨pcl_len un_len, pcl_all un_len⟩ ?_) | refine And.intro ⟨pcl_len un_len, leR rfl, pcl_ones⟩ ?_ | refine Exists.intro (pcl (n : Int) (un n)) (And.intro ⟨leR rfl, spl0 (leR rfl)⟩ ?_) | refine Exists.intro _ (And.intro ⟨eg_i_Diagram, hEP⟩ ?_) | refine Exists.intro _ (And.intro ⟨eg_i_Diagram, hEL⟩ ?_) | refine Exists.intro _ (And.intro ⟨eg_i_Diagram, hEd⟩ ?_) | refine Exists.intro _ (And.intro ⟨eg_i_Diagram, hET⟩ ?_) | refine cD3.makeW hp [] rfl trivial ?_ | refine Exists.intro (pcl s3 m3) (And.intro ⟨pcl_len l3, pcl_all l3⟩ ?_) | refine And.intro ⟨pcl_len l3, leR rfl, pcl_ones⟩ ?_ | refine Exists.intro (pcl s3 m3) (And.intro ⟨leR rfl, spl0 (leR rfl)⟩ ?_) | refine (cF3i).pure rfl ?_ | refine (cF3s).pure rfl ?_ | refine Exists.intro (pcl f3.1 f3.2.1) (And.intro ⟨pcl_len lf3, pcl_all lf3⟩ ?_) | refine And.intro ⟨pcl_len lf3, leR rfl, pcl_ones⟩ ?_ | refine Exists.intro (pcl f3.1 f3.2.1) (And.intro ⟨leR rfl, spl0 (leR rfl)⟩ ?_) | refine cD4.makeW hp [] rfl trivial ?_ | refine Exists.intro (pcl s4 m4) (And.intro ⟨pcl_len l4, pcl_all l4⟩ ?_) | refine And.intro ⟨pcl_len l4, leR rfl, pcl_ones⟩ ?_ | refine Exists.intro (pcl s4 m4) (And.intro ⟨leR rfl, spl0 (leR rfl)⟩ ?_) | refine (cT4i).pure rfl ?_ | refine (cT4s).pure rfl ?_ | refine cD5.makeW hp [] rfl trivial ?_ | refine (cU5i).pure rfl ?_ | refine (cU5s).pure rfl ?_ | refine Exists.intro (pcl u5.1 u5.2.1) (And.intro ⟨pcl_len lu5, pcl_all lu5⟩ ?_) | refine And.intro ⟨pcl_len lu5, leR rfl, pcl_ones⟩ ?_ | refine Exists.intro (pcl u5.1 u5.2.1) (And.intro ⟨leR rfl, spl0 (leR rfl)⟩ ?_) | refine Exists.intro _ (And.intro ⟨eg_i_Diagram, hE3⟩ ?_) | refine Exists.intro _ (And.intro ⟨eg_i_Diagram, hE5⟩ ?_) | refine And.intro (fun h => absurd rfl h) (fun _ => ?_) | refine And.intro (neI rfl) ?_ | refine And.intro ⟨rfl, leR rfl, onesR rfl⟩ ?_ | refine And.intro ⟨rfl, leR rfl⟩ ?_ | refine draw_rule2 hfol (fun KK hKK => ?_) | refine hKK _ _ _ (by kernel_rfl) ?_ | refine region_rule (fun KK hKK => ?_) | refine hKK _ _ ?_ | refine And.intro (Eq.refl true) ?_ | refine Exists.intro _ (And.intro (wI (by omega)) ?_) | refine Exists.intro _ (And.intro (wU (by omega)) ?_) | refine Exists.intro _ (And.intro ⟨rfl, by omega⟩ ?_) | refine Exists.intro _ (And.intro rfl ?_) | refine And.intro rfl ?_ | refine And.intro ⟨rfl, rfl⟩ ?_ | ((refine And.intro (fun _ => ?_) (fun _ => ?_)) <;> try (exfalso; omega))))
    all_goals exact finP rfl
  · have hcode : (mulR s1 m1 s2 m2).2.2.2 ≠ 0 := by
      unfold mulR
      by_cases hd : isDi s1 m1 = true ∧ isDi s2 m2 = true
      · rw [if_pos hd, if_neg fun h => hok ⟨hd.1, hd.2, h⟩]; show (2 : Int) ≠ 0; omega
      · rw [if_neg hd]; show (1 : Int) ≠ 0; omega
    have hpl := mulR_len s1 m1 l1 s2 m2 l2
    generalize mulR s1 m1 s2 m2 = p at cMi cMs hcode hpl
    have hEp := eqSelf p.1 p.2.1 hpl
    generalize isDi s1 m1 = bb at cI cS
    refine SpecW.of_EV hf_l_FnProducts hc_l_FnProducts rfl rfl rfl fun w0 B ρ0 hW => ?_
    have hp := ArgK.pass (Γ := ⟨w0, B, ([] : List O).length, ρ0⟩) hA hW
    cases bb
    all_goals
      (repeat' (first | refine cB.readW hp [] rfl trivial ?_ | refine cD.makeW hp [] rfl trivial ?_ | refine Exists.intro (pcl s1 m1) (And.intro ⟨pcl_len l1, pcl_all l1⟩ ?_) | refine And.intro ⟨pcl_len l1, leR rfl, pcl_ones⟩ ?_ | refine Exists.intro (pcl s1 m1) (And.intro ⟨leR rfl, spl0 (leR rfl)⟩ ?_) | refine Exists.intro (pcl s2 m2) (And.intro ⟨pcl_len l2, pcl_all l2⟩ ?_) | refine And.intro ⟨pcl_len l2, leR rfl, pcl_ones⟩ ?_ | refine Exists.intro (pcl s2 m2) (And.intro ⟨leR rfl, spl0 (leR rfl)⟩ ?_) | refine (cMi).pure rfl ?_ | refine (cMs).pure rfl ?_ | refine (cI).pure rfl ?_ | refine (cS).pure rfl ?_ | refine Exists.intro (pcl p.1 p.2.1) (And.intro ⟨pcl_len hpl, pcl_all hpl⟩ ?_) | refine And.intro ⟨pcl_len hpl, leR rfl, pcl_ones⟩ ?_ | refine Exists.intro (pcl p.1 p.2.1) (And.intro ⟨leR rfl, spl0 (leR rfl)⟩ ?_) | refine Exists.intro _ (And.intro ⟨eg_i_Diagram, hEp⟩ ?_) | refine cD3.makeW hp [] rfl trivial ?_ | refine Exists.intro (pcl s3 m3) (And.intro ⟨pcl_len l3, pcl_all l3⟩ ?_) | refine And.intro ⟨pcl_len l3, leR rfl, pcl_ones⟩ ?_ | refine Exists.intro (pcl s3 m3) (And.intro ⟨leR rfl, spl0 (leR rfl)⟩ ?_) | refine (cF3i).pure rfl ?_ | refine (cF3s).pure rfl ?_ | refine Exists.intro (pcl f3.1 f3.2.1) (And.intro ⟨pcl_len lf3, pcl_all lf3⟩ ?_) | refine And.intro ⟨pcl_len lf3, leR rfl, pcl_ones⟩ ?_ | refine Exists.intro (pcl f3.1 f3.2.1) (And.intro ⟨leR rfl, spl0 (leR rfl)⟩ ?_) | refine cD4.makeW hp [] rfl trivial ?_ | refine Exists.intro (pcl s4 m4) (And.intro ⟨pcl_len l4, pcl_all l4⟩ ?_) | refine And.intro ⟨pcl_len l4, leR rfl, pcl_ones⟩ ?_ | refine Exists.intro (pcl s4 m4) (And.intro ⟨leR rfl, spl0 (leR rfl)⟩ ?_) | refine (cT4i).pure rfl ?_ | refine (cT4s).pure rfl ?_ | refine cD5.makeW hp [] rfl trivial ?_ | refine (cU5i).pure rfl ?_ | refine (cU5s).pure rfl ?_ | refine Exists.intro (pcl u5.1 u5.2.1) (And.intro ⟨pcl_len lu5, pcl_all lu5⟩ ?_) | refine And.intro ⟨pcl_len lu5, leR rfl, pcl_ones⟩ ?_ | refine Exists.intro (pcl u5.1 u5.2.1) (And.intro ⟨leR rfl, spl0 (leR rfl)⟩ ?_) | refine Exists.intro _ (And.intro ⟨eg_i_Diagram, hE3⟩ ?_) | refine Exists.intro _ (And.intro ⟨eg_i_Diagram, hE5⟩ ?_) | refine And.intro (fun h => absurd rfl h) (fun _ => ?_) | refine And.intro (neI rfl) ?_ | refine And.intro ⟨rfl, leR rfl, onesR rfl⟩ ?_ | refine And.intro ⟨rfl, leR rfl⟩ ?_ | refine draw_rule2 hfol (fun KK hKK => ?_) | refine hKK _ _ _ (by kernel_rfl) ?_ | refine region_rule (fun KK hKK => ?_) | refine hKK _ _ ?_ | refine And.intro (Eq.refl true) ?_ | refine Exists.intro _ (And.intro (wI (by omega)) ?_) | refine Exists.intro _ (And.intro (wU (by omega)) ?_) | refine Exists.intro _ (And.intro ⟨rfl, by omega⟩ ?_) | refine Exists.intro _ (And.intro rfl ?_) | refine And.intro rfl ?_ | refine And.intro ⟨rfl, rfl⟩ ?_ | ((refine And.intro (fun _ => ?_) (fun _ => ?_)) <;> try (exfalso; omega))))
      all_goals exact finP rfl
end Go.Proofs.Ytgpgcdofhkpeaaa.VE
