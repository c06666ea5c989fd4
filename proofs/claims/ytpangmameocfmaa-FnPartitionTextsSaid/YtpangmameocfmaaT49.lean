/- Contracts of functions of the given program, for all arguments that the contract names; see each theorem. -/
import Derived.Test.YtpangmameocfmaaTN
set_option linter.all false
namespace Go.Proofs.Ytpangmameocfmaa.VE.P
open Go Go.Proofs.Ytpangmameocfmaa.VE
set_option maxHeartbeats 12000000
set_option maxRecDepth 100000

/-! the law FnPartitionTexts -/
theorem reg_enter {P : Program} {Γ : Ctx} {nt id : Nat} {ops : Array Oper} {Q : Exit → Sl → List O → Prop} {f : Sl} {L : List O} {π : List Nat} {S : List (Nat × V)} {H : List O} (start : enter Γ.m π f L S H)
    (h : ∀ g, regOK P Γ nt id ops Q (slS g S) H) : regOK P Γ nt id ops Q f L := by
  intro ρ a w ha hr
  obtain ⟨g1, g2⟩ := enter_rel ha hr start
  exact h _ _ a w g1 g2
theorem cutI {T G : Prop} (h : (Unit → T) → G) (b : T) : G := h fun _ => b

theorem eqSelfP (s : Int) (m : List Nat) (hm : m.length = 8) : ∀ w, (Op.equalIn 10000 T_i_Partition (.agg (pcl s m).toArray) (.agg (pcl s m).toArray)).run Try.prog w = .ok true w := fun w => eqPw w hm hm (by simp)
attribute [local irreducible] IntKind.wrap
theorem s_lawPT {W : World → (Nat → Prop) → Prop} {v : Value} {g : Nat → Int} {N : Nat} (hA : ArgK .u8 W v g N) (hg : ∀ j, j < N → 0 ≤ g j ∧ g j < 256) : SpecW Try.prog W n_l_FnPartitionTexts [.raw v] [] (vb true) [] := by
  obtain ⟨a, cap, hv⟩ := hA.form
  have hfol : Try.prog.follows .mixedOrders = true := rfl
  have cB := s_bigA (W := W) hv
  by_cases hbig : 4096 < N
  · rw [decide_eq_true hbig] at cB
    refine SpecW.of_EV hf_l_FnPartitionTexts hc_l_FnPartitionTexts rfl rfl rfl fun w0 B ρ0 hW => ?_
    have hp := ArgK.pass (Γ := ⟨w0, B, ([] : List O).length, ρ0⟩) hA hW
    (repeat' (first | refine cB.readW hp [] rfl trivial ?_ | refine And.intro (neI rfl) ?_ | refine And.intro ⟨rfl, leR rfl, onesR rfl⟩ ?_ | refine And.intro ⟨rfl, leR rfl⟩ ?_ | refine draw_rule2 hfol (fun KK hKK => ?_) | refine hKK _ _ _ (by kernel_rfl) ?_ | refine region_rule (fun KK hKK => ?_) | refine hKK _ _ ?_ | refine And.intro (Eq.refl true) ?_ | refine Exists.intro _ (And.intro (wI (by omega)) ?_) | refine Exists.intro _ (And.intro (wU (by omega)) ?_) | refine Exists.intro _ (And.intro ⟨rfl, by omega⟩ ?_) | refine Exists.intro _ (And.intro rfl ?_) | refine And.intro rfl ?_ | refine And.intro ⟨rfl, rfl⟩ ?_ | ((refine And.intro (fun _ => ?_) (fun _ => ?_)) <;> try (exfalso; omega))))
    exact finP rfl
  rw [decide_eq_false hbig] at cB
  have hN : N ≤ 1048576 := by omega
  obtain ⟨s, m, hl, hb, cD⟩ := s_DrawPowersOfPartition hA hN hg
  obtain ⟨s2, m2, l2, b2, cX⟩ := s_DrawPartitionText hA hN hg
  obtain ⟨T, hT, cP⟩ := s_DrawParsePartition hA hN hg
  obtain ⟨s3, m3, l3, b3, cH⟩ := s_DrawThroughParts hA hN hg
  obtain ⟨un, cU⟩ := s_DrawUnitPartition hA hN hg
  refine SpecW.of_EV hf_l_FnPartitionTexts hc_l_FnPartitionTexts rfl rfl rfl fun w0 B ρ0 hW => ?_
  have hp := ArgK.pass (Γ := ⟨w0, B, ([] : List O).length, ρ0⟩) hA hW
  apply cutI
  case h =>
    intro body23
    cases hv1 : isPi s m with
    | false =>
      have c1 := s_iPowE s m hl hb hv1
      have c2 := s_sPowE s m hl hb hv1
      (repeat' (first | refine reg_enter (id := 23) (π := []) (S := [(0, .raw v)]) (H := []) ⟨⟨rfl, trivial⟩, trivial, rfl⟩ (body23 ()) | refine cB.readW hp [] rfl trivial ?_ | refine cD.makeW hp [] rfl trivial ?_ | refine Exists.intro (pcl s m) (And.intro ⟨pcl_len hl, pcl_all hl⟩ ?_) | refine And.intro ⟨pcl_len hl, leR rfl, pcl_ones⟩ ?_ | refine Exists.intro (pcl s m) (And.intro ⟨leR rfl, spl0 (leR rfl)⟩ ?_) | refine (c1).pure rfl ?_ | refine (c2).pure rfl ?_ | refine (s_like0).pure rfl ?_ | refine And.intro (fun _ => ?_) (fun h => absurd rfl h) | refine And.intro (fun h => absurd rfl h) (fun _ => ?_) | refine And.intro (neI rfl) ?_ | refine And.intro ⟨rfl, leR rfl, onesR rfl⟩ ?_ | refine And.intro ⟨rfl, leR rfl⟩ ?_ | refine draw_rule2 hfol (fun KK hKK => ?_) | refine hKK _ _ _ (by kernel_rfl) ?_ | refine region_rule (fun KK hKK => ?_) | refine hKK _ _ ?_ | refine And.intro (Eq.refl true) ?_ | refine Exists.intro _ (And.intro (wI (by omega)) ?_) | refine Exists.intro _ (And.intro (wU (by omega)) ?_) | refine Exists.intro _ (And.intro ⟨rfl, by omega⟩ ?_) | refine Exists.intro _ (And.intro rfl ?_) | refine And.intro rfl ?_ | refine And.intro ⟨rfl, rfl⟩ ?_ | ((refine And.intro (fun _ => ?_) (fun _ => ?_)) <;> try (exfalso; omega))))
    | true =>
      obtain ⟨n, rfl, hn1, hn⟩ := isPi_size hv1
      have hlt := isPi_lt hv1
      obtain ⟨K, i0, hi0, hK, he, hd⟩ := pw_rep (n := n) hl hlt hn
      have c1 := s_iPow n m hl hb hv1 hn1 hn K i0 hi0 hK he hd
      have c2 := s_sPow n m hl hb hv1 hn1 hn K i0 hi0 hK he hd
      have c3 : Spec Try.prog n_l_likeInts [.sl 0, .sl 1] [.pr T_int64 1 2 (i2 (i0 + 1) (K - i0)), .pr T_int64 1 2 (i2 (i0 + 1) (K - i0))] (vb true) [.pr T_int64 1 2 (i2 (i0 + 1) (K - i0)), .pr T_int64 1 2 (i2 (i0 + 1) (K - i0))] := s_like _ 2 (by omega)
      have e0 : (i2 (i0 + 1) (K - i0))[0]? = some (.int .i64 ((i0 + 1 : Nat) : Int)) := rfl
      have e1 : (i2 (i0 + 1) (K - i0))[1]? = some (.int .i64 ((K - i0 : Nat) : Int)) := rfl
      generalize i2 (i0 + 1) (K - i0) = X at c1 c2 c3 e0 e1
      have w1 : IntKind.i64.wrap (((i0 + 1 : Nat) : Int) + ((K - i0 : Nat) : Int)) = ((K + 1 : Nat) : Int) := wC (by omega) (by omega)
      (repeat' (first | refine cB.readW hp [] rfl trivial ?_ | refine cD.makeW hp [] rfl trivial ?_ | refine (c1).make [] rfl trivial ?_ | refine (c2).make [] rfl trivial ?_ | refine (c3).read [1,2] rfl ⟨rfl, rfl, trivial⟩ ?_ | refine Exists.intro (pcl (n : Int) m) (And.intro ⟨pcl_len hl, pcl_all hl⟩ ?_) | refine And.intro ⟨pcl_len hl, leR rfl, pcl_ones⟩ ?_ | refine Exists.intro (pcl (n : Int) m) (And.intro ⟨leR rfl, spl0 (leR rfl)⟩ ?_) | refine Exists.intro (pcl 0 (List.replicate 8 0)) (And.intro ⟨leR rfl, rfl⟩ ?_) | refine Exists.intro (pcl 0 (List.replicate 8 0)) (And.intro ⟨rfl, rfl⟩ ?_) | refine And.intro (fun _ => ?_) (fun h => absurd rfl h) | refine And.intro (fun h => absurd rfl h) (fun _ => ?_) | refine And.intro (neI rfl) ?_ | refine And.intro ⟨rfl, leR rfl, onesR rfl⟩ ?_ | refine And.intro ⟨rfl, leR rfl⟩ ?_ | refine draw_rule2 hfol (fun KK hKK => ?_) | refine hKK _ _ _ (by kernel_rfl) ?_ | refine region_rule (fun KK hKK => ?_) | refine hKK _ _ ?_ | refine And.intro (Eq.refl true) ?_ | refine Exists.intro _ (And.intro (wI (by omega)) ?_) | refine Exists.intro _ (And.intro (wU (by omega)) ?_) | refine Exists.intro _ (And.intro ⟨rfl, by omega⟩ ?_) | refine Exists.intro _ (And.intro rfl ?_) | refine And.intro rfl ?_ | refine And.intro ⟨rfl, rfl⟩ ?_ | ((refine And.intro (fun _ => ?_) (fun _ => ?_)) <;> try (exfalso; omega))))
      refine loop_rule (α := Nat × Nat × Int × List Nat) (fun (j, th, fs, fm) => j ≤ K ∧ thN n (pw n m (j + 1)) ≤ th ∧ th ≤ 100 ∧ fm.length = 8 ∧ (i0 < j → fs = n ∧ fm = pw n m i0))
        (fun (j, th, fs, fm) => [(0, .raw v), (3, .ptr 0 0), (4, .sl 1), (8, .ptr 2 0), (9, .ptr 3 0), (10, vi th), (11, vi (j + 1 : Nat))])
        (fun (j, th, fs, fm) => [.pc (pcl n m) T_i_Partition, .pr T_int64 1 2 X, .pc (pcl n (pw n m j)) T_i_Partition, .pc (pcl fs fm) T_i_Partition]) (fun (j, _) => K - j) (0, n, 0, List.replicate 8 0) [0, 1, 3, 4]
        ⟨by omega, thN_n, by omega, by simp, fun h => absurd h (by omega)⟩ ⟨⟨rfl, rfl, rfl, rfl, rfl, rfl, rfl, trivial⟩, ⟨rfl, rfl, rfl, rfl, trivial⟩, rfl⟩ ?_
      rintro ⟨j, th, fs, fm⟩ gg ⟨hj, hth, hth2, hfm, hfst⟩
      dsimp only at hj hth hth2 hfm hfst ⊢
      have hpl : (pw n m j).length = 8 := pw_len hl j
      by_cases hjK : j = K
      · subst hjK
        obtain ⟨rfl, rfl⟩ := hfst hi0
        rw [← he]
        have hpl2 : (pw n m i0).length = 8 := pw_len hl i0
        have hE := eqSelfP n (pw n m i0) hpl2
        generalize pw n m i0 = Q at hpl2 hE ⊢
        (repeat' (first | refine reg_enter (id := 23) (π := []) (S := [(0, .raw v)]) (H := []) ⟨⟨rfl, trivial⟩, trivial, rfl⟩ (body23 ()) | refine Exists.intro 0 (And.intro ⟨(rfl : (0 : Int) = ((0 : Nat) : Int)), leR rfl⟩ ?_) | refine Exists.intro 1 (And.intro ⟨(rfl : (1 : Int) = ((1 : Nat) : Int)), leR rfl⟩ ?_) | refine Exists.intro _ (And.intro e0 ?_) | refine Exists.intro _ (And.intro e1 ?_) | refine Exists.intro _ (And.intro w1 ?_) | refine Exists.intro (pcl (n : Int) Q) (And.intro ⟨pcl_len hpl2, pcl_all hpl2⟩ ?_) | refine And.intro ⟨pcl_len hpl2, leR rfl, pcl_ones⟩ ?_ | refine Exists.intro (pcl (n : Int) Q) (And.intro ⟨leR rfl, spl0 (leR rfl)⟩ ?_) | refine Exists.intro _ (And.intro ⟨eg_i_Partition, hE⟩ ?_) | refine And.intro (fun _ => ?_) (fun h => absurd rfl h) | refine And.intro (fun h => absurd rfl h) (fun _ => ?_) | refine And.intro (neI rfl) ?_ | refine And.intro ⟨rfl, leR rfl, onesR rfl⟩ ?_ | refine And.intro ⟨rfl, leR rfl⟩ ?_ | refine draw_rule2 hfol (fun KK hKK => ?_) | refine hKK _ _ _ (by kernel_rfl) ?_ | refine region_rule (fun KK hKK => ?_) | refine hKK _ _ ?_ | refine And.intro (Eq.refl true) ?_ | refine Exists.intro _ (And.intro (wI (by omega)) ?_) | refine Exists.intro _ (And.intro (wU (by omega)) ?_) | refine Exists.intro _ (And.intro ⟨rfl, by omega⟩ ?_) | refine Exists.intro _ (And.intro rfl ?_) | refine And.intro rfl ?_ | refine And.intro ⟨rfl, rfl⟩ ?_ | ((refine And.intro (fun _ => ?_) (fun _ => ?_)) <;> try (exfalso; omega))))
      · have hpm : isPi n (pw n m j) = true := pw_is hv1 hn1 hn j
        have hpm2 : isPi n (pw n m (j + 1)) = true := pw_is hv1 hn1 hn (j + 1)
        have hpb : ∀ x ∈ pw n m j, x < 256 := fun x hx => by have := lt_mem (isPi_lt hpm) x hx; omega
        have hpb2 : ∀ x ∈ pw n m (j + 1), x < 256 := fun x hx => by have := lt_mem (isPi_lt hpm2) x hx; omega
        have hpl2 : (pw n m (j + 1)).length = 8 := pw_len hl (j + 1)
        have c5 := s_iMul n (pw n m j) hpl hpb n m hl hb
        have hr5 : mulR n (pw n m j) n m = ((n : Int), pw n m (j + 1), (((ctI (gd (pw n m j)) (gd m) n n).2 : Nat) : Int), 0) := by unfold mulR; rw [if_pos ⟨hpm, hv1⟩, if_pos rfl]; rfl
        rw [hr5] at c5
        replace c5 : Spec Try.prog n_i_MultiplyPartitions [pv n (pw n m j), pv n m] [] (.tup [pv n (pw n m (j + 1)), vi ((ctI (gd (pw n m j)) (gd m) n n).2 : Nat), vi 0]) [] := c5
        generalize ((ctI (gd (pw n m j)) (gd m) n n).2) = ct at c5
        have c6 := s_iThr n (pw n m (j + 1)) hpl2 hpb2
        rw [thr_is hpm2] at c6
        replace c6 : Spec Try.prog n_i_ThroughParts [pv n (pw n m (j + 1))] [] (.tup [vi (thN n (pw n m (j + 1)) : Nat), vi 0]) [] := c6
        have hnx := thN_pw (m := m) hn hlt (j + 1)
        have w2 : IntKind.i64.wrap (((j + 1 : Nat) : Int) + 1) = ((j + 1 + 1 : Nat) : Int) := wC (by omega) (by omega)
        generalize hct : thN n (pw n m (j + 1)) = t1 at c6 hth hnx
        generalize hQ2 : pw n m (j + 1) = Q2 at c5 c6 hpl2
        generalize hQ : pw n m j = Q at c5 hpl ⊢
        by_cases hj0 : j = i0
        · have hq0 : (((j + 1 : Nat) : Int)) = ((i0 + 1 : Nat) : Int) := by omega
          (repeat' (first | refine Exists.intro 0 (And.intro ⟨(rfl : (0 : Int) = ((0 : Nat) : Int)), leR rfl⟩ ?_) | refine Exists.intro 1 (And.intro ⟨(rfl : (1 : Int) = ((1 : Nat) : Int)), leR rfl⟩ ?_) | refine Exists.intro _ (And.intro e0 ?_) | refine Exists.intro _ (And.intro e1 ?_) | refine Exists.intro _ (And.intro w1 ?_) | refine Exists.intro _ (And.intro w2 ?_) | refine Exists.intro (pcl (n : Int) Q) (And.intro ⟨pcl_len hpl, pcl_all hpl⟩ ?_) | refine And.intro ⟨pcl_len hpl, leR rfl, pcl_ones⟩ ?_ | refine Exists.intro (pcl (n : Int) Q) (And.intro ⟨leR rfl, spl0 (leR rfl)⟩ ?_) | refine Exists.intro (pcl (n : Int) m) (And.intro ⟨pcl_len hl, pcl_all hl⟩ ?_) | refine And.intro ⟨pcl_len hl, leR rfl, pcl_ones⟩ ?_ | refine Exists.intro (pcl (n : Int) m) (And.intro ⟨leR rfl, spl0 (leR rfl)⟩ ?_) | refine (c5).pure rfl ?_ | refine (c6).pure rfl ?_ | refine Exists.intro (pcl (n : Int) Q2) (And.intro ⟨pcl_len hpl2, pcl_all hpl2⟩ ?_) | refine And.intro ⟨pcl_len hpl2, leR rfl, pcl_ones⟩ ?_ | refine Exists.intro (pcl (n : Int) Q2) (And.intro ⟨leR rfl, spl0 (leR rfl)⟩ ?_) | refine Exists.intro (pcl fs fm) (And.intro ⟨pcl_len hfm, pcl_all hfm⟩ ?_) | refine And.intro ⟨pcl_len hfm, leR rfl, pcl_ones⟩ ?_ | refine Exists.intro (pcl fs fm) (And.intro ⟨leR rfl, spl0 (leR rfl)⟩ ?_) | refine Exists.intro (pcl n Q) (And.intro ⟨(by rw [pcl_len hfm]; exact Nat.le_refl _), spl0 (Nat.le_of_eq (pcl_len hfm))⟩ ?_) | refine Exists.intro (pcl n Q2) (And.intro ⟨(by rw [pcl_len hpl]; exact Nat.le_refl _), spl0 (Nat.le_of_eq (pcl_len hpl))⟩ ?_) | refine And.intro (fun _ => ?_) (fun h => absurd rfl h) | refine And.intro (fun h => absurd rfl h) (fun _ => ?_) | refine And.intro (neI rfl) ?_ | refine And.intro ⟨rfl, leR rfl, onesR rfl⟩ ?_ | refine And.intro ⟨rfl, leR rfl⟩ ?_ | refine draw_rule2 hfol (fun KK hKK => ?_) | refine hKK _ _ _ (by kernel_rfl) ?_ | refine region_rule (fun KK hKK => ?_) | refine hKK _ _ ?_ | refine And.intro (Eq.refl true) ?_ | refine Exists.intro _ (And.intro (wI (by omega)) ?_) | refine Exists.intro _ (And.intro (wU (by omega)) ?_) | refine Exists.intro _ (And.intro ⟨rfl, by omega⟩ ?_) | refine Exists.intro _ (And.intro rfl ?_) | refine And.intro rfl ?_ | refine And.intro ⟨rfl, rfl⟩ ?_ | ((refine And.intro (fun _ => ?_) (fun _ => ?_)) <;> try (exfalso; omega))))
          exact Exists.intro (j + 1, t1, (n : Int), Q) (Exists.intro [0, 1, 2, 3] (And.intro ⟨⟨by dsimp only; omega, hnx, by dsimp only; omega, hpl, fun _ => ⟨rfl, by rw [← hQ, hj0]⟩⟩, (by show K - (j + 1) < K - j; omega)⟩ ⟨⟨rfl, rfl, rfl, rfl, rfl, rfl, rfl, trivial⟩, ⟨rfl, rfl, by rw [hQ2]; rfl, rfl, trivial⟩, rfl⟩))
        · have hq0 : (((j + 1 : Nat) : Int)) ≠ ((i0 + 1 : Nat) : Int) := by omega
          (repeat' (first | refine Exists.intro 0 (And.intro ⟨(rfl : (0 : Int) = ((0 : Nat) : Int)), leR rfl⟩ ?_) | refine Exists.intro 1 (And.intro ⟨(rfl : (1 : Int) = ((1 : Nat) : Int)), leR rfl⟩ ?_) | refine Exists.intro _ (And.intro e0 ?_) | refine Exists.intro _ (And.intro e1 ?_) | refine Exists.intro _ (And.intro w1 ?_) | refine Exists.intro _ (And.intro w2 ?_) | refine Exists.intro (pcl (n : Int) Q) (And.intro ⟨pcl_len hpl, pcl_all hpl⟩ ?_) | refine And.intro ⟨pcl_len hpl, leR rfl, pcl_ones⟩ ?_ | refine Exists.intro (pcl (n : Int) Q) (And.intro ⟨leR rfl, spl0 (leR rfl)⟩ ?_) | refine Exists.intro (pcl (n : Int) m) (And.intro ⟨pcl_len hl, pcl_all hl⟩ ?_) | refine And.intro ⟨pcl_len hl, leR rfl, pcl_ones⟩ ?_ | refine Exists.intro (pcl (n : Int) m) (And.intro ⟨leR rfl, spl0 (leR rfl)⟩ ?_) | refine (c5).pure rfl ?_ | refine (c6).pure rfl ?_ | refine Exists.intro (pcl (n : Int) Q2) (And.intro ⟨pcl_len hpl2, pcl_all hpl2⟩ ?_) | refine And.intro ⟨pcl_len hpl2, leR rfl, pcl_ones⟩ ?_ | refine Exists.intro (pcl (n : Int) Q2) (And.intro ⟨leR rfl, spl0 (leR rfl)⟩ ?_) | refine Exists.intro (pcl n Q2) (And.intro ⟨(by rw [pcl_len hpl]; exact Nat.le_refl _), spl0 (Nat.le_of_eq (pcl_len hpl))⟩ ?_) | refine And.intro (fun _ => ?_) (fun h => absurd rfl h) | refine And.intro (fun h => absurd rfl h) (fun _ => ?_) | refine And.intro (neI rfl) ?_ | refine And.intro ⟨rfl, leR rfl, onesR rfl⟩ ?_ | refine And.intro ⟨rfl, leR rfl⟩ ?_ | refine draw_rule2 hfol (fun KK hKK => ?_) | refine hKK _ _ _ (by kernel_rfl) ?_ | refine region_rule (fun KK hKK => ?_) | refine hKK _ _ ?_ | refine And.intro (Eq.refl true) ?_ | refine Exists.intro _ (And.intro (wI (by omega)) ?_) | refine Exists.intro _ (And.intro (wU (by omega)) ?_) | refine Exists.intro _ (And.intro ⟨rfl, by omega⟩ ?_) | refine Exists.intro _ (And.intro rfl ?_) | refine And.intro rfl ?_ | refine And.intro ⟨rfl, rfl⟩ ?_ | ((refine And.intro (fun _ => ?_) (fun _ => ?_)) <;> try (exfalso; omega))))
          exact Exists.intro (j + 1, t1, fs, fm) (Exists.intro [0, 1, 2, 3] (And.intro ⟨⟨by dsimp only; omega, hnx, by dsimp only; omega, hfm, fun h => hfst (by dsimp only at h; omega)⟩, (by show K - (j + 1) < K - j; omega)⟩ ⟨⟨rfl, rfl, rfl, rfl, rfl, rfl, rfl, trivial⟩, ⟨rfl, rfl, by rw [hQ2]; rfl, rfl, trivial⟩, rfl⟩))
  case b =>
    intro g23
    clear cD
    apply cutI
    case h =>
      intro body32
      have c1 := s_iText s2 m2 l2 b2
      have c2 := s_sText s2 m2 l2 b2
      cases hv2 : isPi s2 m2 with
      | true =>
        obtain ⟨n, rfl, hn1, hn⟩ := isPi_size hv2
        rw [text_is hv2] at c1 c2
        have hsz : (dgB m2 (2 * n)).size = 2 * n := dgB_size
        have c3 := s_iParse (dgB m2 (2 * n)) (by omega)
        rw [parse_back l2 hv2] at c3
        replace c1 : Spec Try.prog n_i_PartitionText [pv n m2] [] (.tup [.raw (.string (dgB m2 (2 * n))), vi 0]) [] := c1
        replace c2 : Spec Try.prog n_s_PartitionText [pv n m2] [] (.tup [.raw (.string (dgB m2 (2 * n))), vi 0]) [] := c2
        replace c3 : Spec Try.prog n_i_ParsePartition [.raw (.string (dgB m2 (2 * n)))] [] (.tup [pv n m2, vi 0]) [] := c3
        clear hsz
        generalize dgB m2 (2 * n) = t at c1 c2 c3
        have hE := eqSelfP n m2 l2
        (repeat' (first | refine reg_enter (id := 32) (π := []) (S := [(0, .raw v)]) (H := []) ⟨⟨rfl, trivial⟩, trivial, rfl⟩ (body32 ()) | refine cX.makeW hp [] rfl trivial ?_ | refine Exists.intro (pcl (n : Int) m2) (And.intro ⟨pcl_len l2, pcl_all l2⟩ ?_) | refine And.intro ⟨pcl_len l2, leR rfl, pcl_ones⟩ ?_ | refine Exists.intro (pcl (n : Int) m2) (And.intro ⟨leR rfl, spl0 (leR rfl)⟩ ?_) | refine (c1).pure rfl ?_ | refine (c2).pure rfl ?_ | refine (c3).pure rfl ?_ | refine Exists.intro _ (And.intro ⟨eg_i_Partition, hE⟩ ?_) | refine And.intro (fun _ => ?_) (fun h => absurd rfl h) | refine And.intro (fun h => absurd rfl h) (fun _ => ?_) | refine And.intro (neI rfl) ?_ | refine And.intro ⟨rfl, leR rfl, onesR rfl⟩ ?_ | refine And.intro ⟨rfl, leR rfl⟩ ?_ | refine draw_rule2 hfol (fun KK hKK => ?_) | refine hKK _ _ _ (by kernel_rfl) ?_ | refine region_rule (fun KK hKK => ?_) | refine hKK _ _ ?_ | refine And.intro (Eq.refl true) ?_ | refine Exists.intro _ (And.intro (wI (by omega)) ?_) | refine Exists.intro _ (And.intro (wU (by omega)) ?_) | refine Exists.intro _ (And.intro ⟨rfl, by omega⟩ ?_) | refine Exists.intro _ (And.intro rfl ?_) | refine And.intro rfl ?_ | refine And.intro ⟨rfl, rfl⟩ ?_ | ((refine And.intro (fun _ => ?_) (fun _ => ?_)) <;> try (exfalso; omega))))
      | false =>
        have hr : textR s2 m2 = (⟨#[]⟩, 1) := by unfold textR; rw [hv2]; rfl
        rw [hr] at c1 c2
        (repeat' (first | refine reg_enter (id := 32) (π := []) (S := [(0, .raw v)]) (H := []) ⟨⟨rfl, trivial⟩, trivial, rfl⟩ (body32 ()) | refine cX.makeW hp [] rfl trivial ?_ | refine Exists.intro (pcl s2 m2) (And.intro ⟨pcl_len l2, pcl_all l2⟩ ?_) | refine And.intro ⟨pcl_len l2, leR rfl, pcl_ones⟩ ?_ | refine Exists.intro (pcl s2 m2) (And.intro ⟨leR rfl, spl0 (leR rfl)⟩ ?_) | refine (c1).pure rfl ?_ | refine (c2).pure rfl ?_ | refine And.intro (fun _ => ?_) (fun h => absurd rfl h) | refine And.intro (fun h => absurd rfl h) (fun _ => ?_) | refine And.intro (neI rfl) ?_ | refine And.intro ⟨rfl, leR rfl, onesR rfl⟩ ?_ | refine And.intro ⟨rfl, leR rfl⟩ ?_ | refine draw_rule2 hfol (fun KK hKK => ?_) | refine hKK _ _ _ (by kernel_rfl) ?_ | refine region_rule (fun KK hKK => ?_) | refine hKK _ _ ?_ | refine And.intro (Eq.refl true) ?_ | refine Exists.intro _ (And.intro (wI (by omega)) ?_) | refine Exists.intro _ (And.intro (wU (by omega)) ?_) | refine Exists.intro _ (And.intro ⟨rfl, by omega⟩ ?_) | refine Exists.intro _ (And.intro rfl ?_) | refine And.intro rfl ?_ | refine And.intro ⟨rfl, rfl⟩ ?_ | ((refine And.intro (fun _ => ?_) (fun _ => ?_)) <;> try (exfalso; omega))))
    case b =>
      intro g32
      clear cX
      have c1 := s_iParse T (by omega)
      have c2 := s_sParse T (by omega)
      rw [parse_eq] at c2
      have t1 : (parseG isPi T).2.1.length = 8 := by
        unfold parseG; split
        · split
          · exact pa_len
          · simp
        · simp
      generalize parseG isPi T = p at c1 c2 t1
      replace c1 : Spec Try.prog n_i_ParsePartition [.raw (.string T)] [] (.tup [pv p.1 p.2.1, vi p.2.2]) [] := c1
      replace c2 : Spec Try.prog n_s_ParsePartition [.raw (.string T)] [] (.tup [pv p.1 p.2.1, vi p.2.2]) [] := c2
      have c3 := s_iThr s3 m3 l3 b3
      have c4 := s_sThr s3 m3 l3 b3
      generalize thrR s3 m3 = q at c3 c4
      replace c3 : Spec Try.prog n_i_ThroughParts [pv s3 m3] [] (.tup [vi q.1, vi q.2]) [] := c3
      replace c4 : Spec Try.prog n_s_ThroughParts [pv s3 m3] [] (.tup [vi q.1, vi q.2]) [] := c4
      have c5 := s_iUnit un
      have c6 := s_sUnit un
      have t2 := unR_len un
      generalize unR un = r at c5 c6 t2
      replace c5 : Spec Try.prog n_i_UnitPartition [vi un] [] (.tup [pv r.1 r.2.1, vi r.2.2]) [] := c5
      replace c6 : Spec Try.prog n_s_UnitPartition [vi un] [] (.tup [pv r.1 r.2.1, vi r.2.2]) [] := c6
      have hE1 := eqSelfP p.1 p.2.1 t1
      have hE2 := eqSelfP r.1 r.2.1 t2
      (repeat' (first | refine cP.makeW hp [] rfl trivial ?_ | refine cH.makeW hp [] rfl trivial ?_ | refine cU.makeW hp [] rfl trivial ?_ | refine Exists.intro (pcl s3 m3) (And.intro ⟨pcl_len l3, pcl_all l3⟩ ?_) | refine And.intro ⟨pcl_len l3, leR rfl, pcl_ones⟩ ?_ | refine Exists.intro (pcl s3 m3) (And.intro ⟨leR rfl, spl0 (leR rfl)⟩ ?_) | refine (c1).pure rfl ?_ | refine (c2).pure rfl ?_ | refine (c3).pure rfl ?_ | refine (c4).pure rfl ?_ | refine (c5).pure rfl ?_ | refine (c6).pure rfl ?_ | refine Exists.intro (pcl p.1 p.2.1) (And.intro ⟨pcl_len t1, pcl_all t1⟩ ?_) | refine And.intro ⟨pcl_len t1, leR rfl, pcl_ones⟩ ?_ | refine Exists.intro (pcl p.1 p.2.1) (And.intro ⟨leR rfl, spl0 (leR rfl)⟩ ?_) | refine Exists.intro (pcl r.1 r.2.1) (And.intro ⟨pcl_len t2, pcl_all t2⟩ ?_) | refine And.intro ⟨pcl_len t2, leR rfl, pcl_ones⟩ ?_ | refine Exists.intro (pcl r.1 r.2.1) (And.intro ⟨leR rfl, spl0 (leR rfl)⟩ ?_) | refine Exists.intro _ (And.intro ⟨eg_i_Partition, hE1⟩ ?_) | refine Exists.intro _ (And.intro ⟨eg_i_Partition, hE2⟩ ?_) | refine And.intro (fun _ => ?_) (fun h => absurd rfl h) | refine And.intro (fun h => absurd rfl h) (fun _ => ?_) | refine And.intro (neI rfl) ?_ | refine And.intro ⟨rfl, leR rfl, onesR rfl⟩ ?_ | refine And.intro ⟨rfl, leR rfl⟩ ?_ | refine draw_rule2 hfol (fun KK hKK => ?_) | refine hKK _ _ _ (by kernel_rfl) ?_ | refine region_rule (fun KK hKK => ?_) | refine hKK _ _ ?_ | refine And.intro (Eq.refl true) ?_ | refine Exists.intro _ (And.intro (wI (by omega)) ?_) | refine Exists.intro _ (And.intro (wU (by omega)) ?_) | refine Exists.intro _ (And.intro ⟨rfl, by omega⟩ ?_) | refine Exists.intro _ (And.intro rfl ?_) | refine And.intro rfl ?_ | refine And.intro ⟨rfl, rfl⟩ ?_ | ((refine And.intro (fun _ => ?_) (fun _ => ?_)) <;> try (exfalso; omega))))
      all_goals exact finP rfl
end Go.Proofs.Ytpangmameocfmaa.VE.P
