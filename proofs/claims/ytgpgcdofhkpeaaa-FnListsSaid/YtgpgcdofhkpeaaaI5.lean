/- Contracts of functions of the given program, for all arguments that the contract names; see each theorem. -/
import Derived.Test.YtgpgcdofhkpeaaaI4
import Derived.Test.YtgpgcdofhkpeaaaI2c
import Derived.Test.YtgpgcdofhkpeaaaLC
import Derived.Test.YtgpgcdofhkpeaaaU14e
import Derived.Test.YtgpgcdofhkpeaaaU15e
set_option linter.all false
namespace Go.Proofs.Ytgpgcdofhkpeaaa.VE
open Go
set_option maxHeartbeats 12000000
set_option maxRecDepth 100000

/-! the law FnShapes -/
theorem reg_enter {P : Program} {Γ : Ctx} {nt id : Nat} {ops : Array Oper} {Q : Exit → Sl → List O → Prop} {f : Sl} {L : List O} {π : List Nat} {S : List (Nat × V)} {H : List O} (start : enter Γ.m π f L S H)
    (h : ∀ g, regOK P Γ nt id ops Q (slS g S) H) : regOK P Γ nt id ops Q f L := by
  intro ρ a w ha hr
  obtain ⟨g1, g2⟩ := enter_rel ha hr start
  exact h _ _ a w g1 g2
theorem cutI {T G : Prop} (h : (Unit → T) → G) (b : T) : G := h fun _ => b
theorem clO_le' {n : Nat} {m : List Nat} : ∀ d i s c, clO n m d i s c ≤ c + d
  | 0, _, _, _ => Nat.le_refl _
  | d + 1, i, s, c => by
    unfold clO; split
    · have := clO_le' (n := n) (m := m) d (i + 1) s c; omega
    · have := clO_le' (n := n) (m := m) d (i + 1) (clI n m 17 i s) (c + 1); omega
theorem clN_le' {n : Nat} {m : List Nat} : clN n m ≤ 2 * n := by have := clO_le' (n := n) (m := m) (2 * n) 0 (List.replicate 16 false) 0; unfold clN; omega
section
variable {n : Nat} {m : List Nat} (hm : IsD n m)
include hm
theorem q_turn : Spec Try.prog n_i_TurnDiagram [pv n m] [] (.tup [pv n (rl n (gT n) m), vi 0]) [] := by
  have h := s_iTurn n m hm.len (byte_D hm)
  have hr : mvR gT n m = ((n : Int), rl n (gT n) m, 0) := by unfold mvR; rw [if_pos (isDi_I hm)]; rfl
  rw [hr] at h; exact h
theorem q_turnS : Spec Try.prog n_s_TurnDiagram [pv n m] [] (.tup [pv n (rl n (gT n) m), vi 0]) [] := by
  have h := s_sTurn n m hm.len (byte_D hm)
  have hr : mvR gT n m = ((n : Int), rl n (gT n) m, 0) := by unfold mvR; rw [if_pos (isDi_I hm)]; rfl
  rw [hr] at h; exact h
theorem q_mir : Spec Try.prog n_i_MirrorDiagram [pv n m] [] (.tup [pv n (mi n m), vi 0]) [] := by
  have h := s_iMirror n m hm.len (byte_D hm)
  have hr : mvR gM n m = ((n : Int), mi n m, 0) := by unfold mvR; rw [if_pos (isDi_I hm)]; rfl
  rw [hr] at h; exact h
theorem q_mirS : Spec Try.prog n_s_MirrorDiagram [pv n m] [] (.tup [pv n (mi n m), vi 0]) [] := by
  have h := s_sMirror n m hm.len (byte_D hm)
  have hr : mvR gM n m = ((n : Int), mi n m, 0) := by unfold mvR; rw [if_pos (isDi_I hm)]; rfl
  rw [hr] at h; exact h
theorem q_clo : Spec Try.prog n_i_ClosureLoops [pv n m] [] (.tup [vi (clN n m : Nat), vi 0]) [] := by
  have h := s_iClo n m hm.len (byte_D hm)
  have hr : cloR n m = (((clN n m : Nat) : Int), 0) := by unfold cloR; rw [if_pos (isDi_I hm)]; rfl
  rw [hr] at h; exact h
theorem q_cloS : Spec Try.prog n_s_ClosureLoops [pv n m] [] (.tup [vi (clN n m : Nat), vi 0]) [] := by
  have h := s_sClo n m hm.len (byte_D hm)
  have hr : cloR n m = (((clN n m : Nat) : Int), 0) := by unfold cloR; rw [if_pos (isDi_I hm)]; rfl
  rw [hr] at h; exact h
end
attribute [local irreducible] IntKind.wrap
theorem s_lawShapes {W : World → (Nat → Prop) → Prop} {v : Value} {g : Nat → Int} {N : Nat} (hA : ArgK .u8 W v g N) (hg : ∀ j, j < N → 0 ≤ g j ∧ g j < 256) : SpecW Try.prog W n_l_FnShapes [.raw v] [] (vb true) [] := by
  obtain ⟨a, cap, hv⟩ := hA.form
  have hfol : Try.prog.follows .mixedOrders = true := rfl
  have cB := s_big (W := W) hv
  by_cases hbig : 4096 < N
  · rw [decide_eq_true hbig] at cB
    refine SpecW.of_EV hf_l_FnShapes hc_l_FnShapes rfl rfl rfl fun w0 B ρ0 hW => ?_
    have hp := ArgK.pass (Γ := ⟨w0, B, ([] : List O).length, ρ0⟩) hA hW
    (repeat' (first | refine cB.readW hp [] rfl trivial ?_ | refine And.intro (neI rfl) ?_ | refine And.intro ⟨rfl, leR rfl, onesR rfl⟩ ?_ | refine And.intro ⟨rfl, leR rfl⟩ ?_ | refine draw_rule2 hfol (fun KK hKK => ?_) | refine hKK _ _ _ (by kernel_rfl) ?_ | refine region_rule (fun KK hKK => ?_) | refine hKK _ _ ?_ | refine And.intro (Eq.refl true) ?_ | refine Exists.intro _ (And.intro (wI (by omega)) ?_) | refine Exists.intro _ (And.intro (wU (by omega)) ?_) | refine Exists.intro _ (And.intro ⟨rfl, by omega⟩ ?_) | refine Exists.intro _ (And.intro rfl ?_) | refine And.intro rfl ?_ | refine And.intro ⟨rfl, rfl⟩ ?_ | ((refine And.intro (fun _ => ?_) (fun _ => ?_)) <;> try (exfalso; omega))))
    exact finP rfl
  rw [decide_eq_false hbig] at cB
  have hN : N ≤ 1048576 := by omega
  obtain ⟨s, m, hl, hb, cD⟩ := s_DrawTurnDiagram hA hN hg
  obtain ⟨s1, m1, s2, m2, l1, b1, l2, b2, cU⟩ := s_DrawUnionDiagram hA hN hg
  obtain ⟨gn, gi, cG⟩ := s_DrawGeneratorDiagram hA hN hg
  refine SpecW.of_EV hf_l_FnShapes hc_l_FnShapes rfl rfl rfl fun w0 B ρ0 hW => ?_
  have hp := ArgK.pass (Γ := ⟨w0, B, ([] : List O).length, ρ0⟩) hA hW
  apply cutI
  case h =>
    intro body25
    by_cases hv1 : isDi s m = true
    · obtain ⟨n, rfl, hd⟩ := isDi_elim hl hv1
      have hn1 := hd.n1; have hn := hd.n8
      have c1 := q_turn hd; have c2 := q_turnS hd
      have c3 := q_mir hd; have c4 := q_mirS hd
      have c5 := q_clo hd; have c6 := q_cloS hd
      have hmi := mi_D hd
      have c7 := q_mir hmi
      rw [mi_mi hd.toIsV] at c7
      have c8 := q_clo hmi
      rw [mi_clN hd.toIsV] at c8
      have k1 := clN_le' (n := n) (m := m)
      generalize clN n m = c at c5 c6 c8 k1
      rw [tn_one] at c1 c2
      have hT1 := (tn_D hd (k := 1) (by omega)).len
      have hMl := hmi.len
      have hE1 := eqSelf n (tn n 1 m) hT1
      have hE2 := eqSelf n (mi n m) hMl
      have hE3 := eqSelf n m hl
      have w2 : IntKind.i64.wrap (2 * (n : Int)) = ((2 * n : Nat) : Int) := wC (by omega) (by omega)
      (repeat' (first | refine cB.readW hp [] rfl trivial ?_ | refine cD.makeW hp [] rfl trivial ?_ | refine Exists.intro (pcl (n : Int) m) (And.intro ⟨pcl_len hl, pcl_all hl⟩ ?_) | refine And.intro ⟨pcl_len hl, leR rfl, pcl_ones⟩ ?_ | refine Exists.intro (pcl (n : Int) m) (And.intro ⟨leR rfl, spl0 (leR rfl)⟩ ?_) | refine (c1).pure rfl ?_ | refine (c2).pure rfl ?_ | refine (c3).pure rfl ?_ | refine (c4).pure rfl ?_ | refine (c5).pure rfl ?_ | refine (c6).pure rfl ?_ | refine Exists.intro (pcl (n : Int) (tn n 1 m)) (And.intro ⟨pcl_len hT1, pcl_all hT1⟩ ?_) | refine And.intro ⟨pcl_len hT1, leR rfl, pcl_ones⟩ ?_ | refine Exists.intro (pcl (n : Int) (tn n 1 m)) (And.intro ⟨leR rfl, spl0 (leR rfl)⟩ ?_) | refine Exists.intro (pcl (n : Int) (mi n m)) (And.intro ⟨pcl_len hMl, pcl_all hMl⟩ ?_) | refine And.intro ⟨pcl_len hMl, leR rfl, pcl_ones⟩ ?_ | refine Exists.intro (pcl (n : Int) (mi n m)) (And.intro ⟨leR rfl, spl0 (leR rfl)⟩ ?_) | refine Exists.intro _ (And.intro ⟨eg_i_Diagram, hE1⟩ ?_) | refine Exists.intro _ (And.intro ⟨eg_i_Diagram, hE2⟩ ?_) | refine And.intro (fun h => absurd rfl h) (fun _ => ?_) | refine And.intro (neI rfl) ?_ | refine And.intro ⟨rfl, leR rfl, onesR rfl⟩ ?_ | refine And.intro ⟨rfl, leR rfl⟩ ?_ | refine draw_rule2 hfol (fun KK hKK => ?_) | refine hKK _ _ _ (by kernel_rfl) ?_ | refine region_rule (fun KK hKK => ?_) | refine hKK _ _ ?_ | refine And.intro (Eq.refl true) ?_ | refine Exists.intro _ (And.intro (wI (by omega)) ?_) | refine Exists.intro _ (And.intro (wU (by omega)) ?_) | refine Exists.intro _ (And.intro ⟨rfl, by omega⟩ ?_) | refine Exists.intro _ (And.intro rfl ?_) | refine And.intro rfl ?_ | refine And.intro ⟨rfl, rfl⟩ ?_ | ((refine And.intro (fun _ => ?_) (fun _ => ?_)) <;> try (exfalso; omega))))
      refine loop_rule (α := Nat) (fun k => 1 ≤ k ∧ k ≤ 2 * n) (fun k => [(0, .raw v), (3, .ptr 0 0), (8, .ptr 1 0), (12, vi (c : Nat)), (16, .ptr 2 0), (17, vi k)])
        (fun k => [.pc (pcl n m) T_i_Diagram, .pc (pcl n (mi n m)) T_i_Diagram, .pc (pcl n (tn n k m)) T_i_Diagram]) (fun k => 2 * n - k) 1 [0, 3, 5] ⟨by omega, by omega⟩ ⟨⟨rfl, rfl, rfl, rfl, rfl, rfl, trivial⟩, ⟨rfl, rfl, rfl, trivial⟩, rfl⟩ ?_
      rintro k gg ⟨hk1, hk2⟩
      have hTk := tn_D hd hk2
      have hTl := hTk.len
      by_cases hk : k = 2 * n
      · subst hk
        rw [tn_all hd.toIsV]
        (repeat' (first | refine reg_enter (id := 25) (π := []) (S := [(0, .raw v)]) (H := []) ⟨⟨rfl, trivial⟩, trivial, rfl⟩ (body25 ()) | refine Exists.intro _ (And.intro w2 ?_) | refine Exists.intro (pcl (n : Int) m) (And.intro ⟨pcl_len hl, pcl_all hl⟩ ?_) | refine And.intro ⟨pcl_len hl, leR rfl, pcl_ones⟩ ?_ | refine Exists.intro (pcl (n : Int) m) (And.intro ⟨leR rfl, spl0 (leR rfl)⟩ ?_) | refine Exists.intro (pcl (n : Int) (mi n m)) (And.intro ⟨pcl_len hMl, pcl_all hMl⟩ ?_) | refine And.intro ⟨pcl_len hMl, leR rfl, pcl_ones⟩ ?_ | refine Exists.intro (pcl (n : Int) (mi n m)) (And.intro ⟨leR rfl, spl0 (leR rfl)⟩ ?_) | refine (c7).pure rfl ?_ | refine (c8).pure rfl ?_ | refine Exists.intro _ (And.intro ⟨eg_i_Diagram, hE3⟩ ?_) | refine And.intro (fun h => absurd rfl h) (fun _ => ?_) | refine And.intro (neI rfl) ?_ | refine And.intro ⟨rfl, leR rfl, onesR rfl⟩ ?_ | refine And.intro ⟨rfl, leR rfl⟩ ?_ | refine draw_rule2 hfol (fun KK hKK => ?_) | refine hKK _ _ _ (by kernel_rfl) ?_ | refine region_rule (fun KK hKK => ?_) | refine hKK _ _ ?_ | refine And.intro (Eq.refl true) ?_ | refine Exists.intro _ (And.intro (wI (by omega)) ?_) | refine Exists.intro _ (And.intro (wU (by omega)) ?_) | refine Exists.intro _ (And.intro ⟨rfl, by omega⟩ ?_) | refine Exists.intro _ (And.intro rfl ?_) | refine And.intro rfl ?_ | refine And.intro ⟨rfl, rfl⟩ ?_ | ((refine And.intro (fun _ => ?_) (fun _ => ?_)) <;> try (exfalso; omega))))
      · have c9 := q_turn hTk
        rw [tn_succ hd.toIsV (by omega)] at c9
        have hT2 := (tn_D hd (k := k + 1) (by omega)).len
        have w3 : IntKind.i64.wrap ((k : Int) + 1) = ((k + 1 : Nat) : Int) := wC (by omega) (by omega)
        (repeat' (first | refine Exists.intro _ (And.intro w2 ?_) | refine Exists.intro _ (And.intro w3 ?_) | refine Exists.intro (pcl (n : Int) m) (And.intro ⟨pcl_len hl, pcl_all hl⟩ ?_) | refine And.intro ⟨pcl_len hl, leR rfl, pcl_ones⟩ ?_ | refine Exists.intro (pcl (n : Int) m) (And.intro ⟨leR rfl, spl0 (leR rfl)⟩ ?_) | refine Exists.intro (pcl (n : Int) (tn n k m)) (And.intro ⟨pcl_len hTl, pcl_all hTl⟩ ?_) | refine And.intro ⟨pcl_len hTl, leR rfl, pcl_ones⟩ ?_ | refine Exists.intro (pcl (n : Int) (tn n k m)) (And.intro ⟨leR rfl, spl0 (leR rfl)⟩ ?_) | refine Exists.intro (pcl (n : Int) (tn n (k + 1) m)) (And.intro ⟨pcl_len hT2, pcl_all hT2⟩ ?_) | refine And.intro ⟨pcl_len hT2, leR rfl, pcl_ones⟩ ?_ | refine Exists.intro (pcl (n : Int) (tn n (k + 1) m)) (And.intro ⟨leR rfl, spl0 (leR rfl)⟩ ?_) | refine (c9).pure rfl ?_ | refine Exists.intro (pcl n (tn n (k + 1) m)) (And.intro ⟨(by rw [pcl_len hTl]; exact Nat.le_refl _), spl0 (Nat.le_of_eq (pcl_len hTl))⟩ ?_) | refine And.intro (neI rfl) ?_ | refine And.intro ⟨rfl, leR rfl, onesR rfl⟩ ?_ | refine And.intro ⟨rfl, leR rfl⟩ ?_ | refine draw_rule2 hfol (fun KK hKK => ?_) | refine hKK _ _ _ (by kernel_rfl) ?_ | refine region_rule (fun KK hKK => ?_) | refine hKK _ _ ?_ | refine And.intro (Eq.refl true) ?_ | refine Exists.intro _ (And.intro (wI (by omega)) ?_) | refine Exists.intro _ (And.intro (wU (by omega)) ?_) | refine Exists.intro _ (And.intro ⟨rfl, by omega⟩ ?_) | refine Exists.intro _ (And.intro rfl ?_) | refine And.intro rfl ?_ | refine And.intro ⟨rfl, rfl⟩ ?_ | ((refine And.intro (fun _ => ?_) (fun _ => ?_)) <;> try (exfalso; omega))))
        exact Exists.intro (k + 1) (Exists.intro [0, 1, 2] (And.intro ⟨⟨by omega, by omega⟩, (by show 2 * n - (k + 1) < 2 * n - k; omega)⟩ ⟨⟨rfl, rfl, rfl, rfl, rfl, rfl, trivial⟩, ⟨rfl, rfl, rfl, trivial⟩, rfl⟩))
    · have c1 := s_iTurn s m hl hb
      have c2 := s_sTurn s m hl hb
      have c3 := s_iMirror s m hl hb
      have c4 := s_sMirror s m hl hb
      have c5 := s_iClo s m hl hb
      have c6 := s_sClo s m hl hb
      have t1 := mvR_len gT s m
      have t2 := mvR_len gM s m
      have hcode : (mvR gT s m).2.2 ≠ 0 := by unfold mvR; rw [if_neg hv1]; show (1 : Int) ≠ 0; omega
      generalize mvR gT s m = p at c1 c2 t1 hcode
      generalize mvR gM s m = q at c3 c4 t2
      generalize cloR s m = r at c5 c6
      have hE1 := eqSelf p.1 p.2.1 t1
      have hE2 := eqSelf q.1 q.2.1 t2
      (repeat' (first | refine reg_enter (id := 25) (π := []) (S := [(0, .raw v)]) (H := []) ⟨⟨rfl, trivial⟩, trivial, rfl⟩ (body25 ()) | refine cB.readW hp [] rfl trivial ?_ | refine cD.makeW hp [] rfl trivial ?_ | refine Exists.intro (pcl s m) (And.intro ⟨pcl_len hl, pcl_all hl⟩ ?_) | refine And.intro ⟨pcl_len hl, leR rfl, pcl_ones⟩ ?_ | refine Exists.intro (pcl s m) (And.intro ⟨leR rfl, spl0 (leR rfl)⟩ ?_) | refine (c1).pure rfl ?_ | refine (c2).pure rfl ?_ | refine (c3).pure rfl ?_ | refine (c4).pure rfl ?_ | refine (c5).pure rfl ?_ | refine (c6).pure rfl ?_ | refine Exists.intro (pcl p.1 p.2.1) (And.intro ⟨pcl_len t1, pcl_all t1⟩ ?_) | refine And.intro ⟨pcl_len t1, leR rfl, pcl_ones⟩ ?_ | refine Exists.intro (pcl p.1 p.2.1) (And.intro ⟨leR rfl, spl0 (leR rfl)⟩ ?_) | refine Exists.intro (pcl q.1 q.2.1) (And.intro ⟨pcl_len t2, pcl_all t2⟩ ?_) | refine And.intro ⟨pcl_len t2, leR rfl, pcl_ones⟩ ?_ | refine Exists.intro (pcl q.1 q.2.1) (And.intro ⟨leR rfl, spl0 (leR rfl)⟩ ?_) | refine Exists.intro _ (And.intro ⟨eg_i_Diagram, hE1⟩ ?_) | refine Exists.intro _ (And.intro ⟨eg_i_Diagram, hE2⟩ ?_) | refine And.intro (fun h => absurd rfl h) (fun _ => ?_) | refine And.intro (neI rfl) ?_ | refine And.intro ⟨rfl, leR rfl, onesR rfl⟩ ?_ | refine And.intro ⟨rfl, leR rfl⟩ ?_ | refine draw_rule2 hfol (fun KK hKK => ?_) | refine hKK _ _ _ (by kernel_rfl) ?_ | refine region_rule (fun KK hKK => ?_) | refine hKK _ _ ?_ | refine And.intro (Eq.refl true) ?_ | refine Exists.intro _ (And.intro (wI (by omega)) ?_) | refine Exists.intro _ (And.intro (wU (by omega)) ?_) | refine Exists.intro _ (And.intro ⟨rfl, by omega⟩ ?_) | refine Exists.intro _ (And.intro rfl ?_) | refine And.intro rfl ?_ | refine And.intro ⟨rfl, rfl⟩ ?_ | ((refine And.intro (fun _ => ?_) (fun _ => ?_)) <;> try (exfalso; omega))))
  case b =>
    intro g25
    clear cD
    apply cutI
    case h =>
      intro body36
      by_cases hv2 : isDi s1 m1 = true ∧ isDi s2 m2 = true ∧ ¬ s1 + s2 > 8
      · obtain ⟨h1, h2, h3⟩ := hv2
        obtain ⟨n, rfl, hd⟩ := isDi_elim l1 h1
        obtain ⟨k, rfl, he⟩ := isDi_elim l2 h2
        have hnk : n + k ≤ 8 := by omega
        have hr : unionR n m1 k m2 = (((n + k : Nat) : Int), uW n k m1 m2, 0) := by unfold unionR; rw [if_pos ⟨h1, h2⟩, if_neg h3, Int.natCast_add]; rfl
        have c1 := s_iUnion n m1 l1 b1 k m2 l2 b2
        have c2 := s_sUnion n m1 l1 b1 k m2 l2 b2
        replace c1 : Spec Try.prog n_i_UnionDiagram [pv n m1, pv k m2] [] (.tup [pv ((n + k : Nat) : Int) (uW n k m1 m2), vi 0]) [] := by rw [hr] at c1; exact c1
        replace c2 : Spec Try.prog n_s_UnionDiagram [pv n m1, pv k m2] [] (.tup [pv ((n + k : Nat) : Int) (uW n k m1 m2), vi 0]) [] := by rw [hr] at c2; exact c2
        have hU := uW_D hd he hnk
        have c3 := q_clo hd; have c4 := q_clo he; have c5 := q_clo hU
        rw [uW_clN hd.toIsV he.toIsV hnk] at c5
        have hUl := hU.len
        have hE1 := eqSelf ((n + k : Nat) : Int) (uW n k m1 m2) hUl
        have k1 := clN_le' (n := n) (m := m1)
        have k2 := clN_le' (n := k) (m := m2)
        have w1 : IntKind.i64.wrap (((clN n m1 : Nat) : Int) + ((clN k m2 : Nat) : Int)) = ((clN n m1 + clN k m2 : Nat) : Int) := wC (by omega) (by omega)
        generalize clN n m1 + clN k m2 = z at c5 w1
        generalize clN n m1 = x at c3 w1 k1
        generalize clN k m2 = y at c4 w1 k2
        generalize uW n k m1 m2 = U at c1 c2 c5 hUl hE1
        clear hU
        generalize ((n + k : Nat) : Int) = M at c1 c2 c5 hE1
        (repeat' (first | refine reg_enter (id := 36) (π := []) (S := [(0, .raw v)]) (H := []) ⟨⟨rfl, trivial⟩, trivial, rfl⟩ (body36 ()) | refine cU.makeW hp [] rfl trivial ?_ | refine Exists.intro (pcl (n : Int) m1) (And.intro ⟨pcl_len l1, pcl_all l1⟩ ?_) | refine And.intro ⟨pcl_len l1, leR rfl, pcl_ones⟩ ?_ | refine Exists.intro (pcl (n : Int) m1) (And.intro ⟨leR rfl, spl0 (leR rfl)⟩ ?_) | refine Exists.intro (pcl (k : Int) m2) (And.intro ⟨pcl_len l2, pcl_all l2⟩ ?_) | refine And.intro ⟨pcl_len l2, leR rfl, pcl_ones⟩ ?_ | refine Exists.intro (pcl (k : Int) m2) (And.intro ⟨leR rfl, spl0 (leR rfl)⟩ ?_) | refine (c1).pure rfl ?_ | refine (c2).pure rfl ?_ | refine Exists.intro (pcl M U) (And.intro ⟨pcl_len hUl, pcl_all hUl⟩ ?_) | refine And.intro ⟨pcl_len hUl, leR rfl, pcl_ones⟩ ?_ | refine Exists.intro (pcl M U) (And.intro ⟨leR rfl, spl0 (leR rfl)⟩ ?_) | refine Exists.intro _ (And.intro ⟨eg_i_Diagram, hE1⟩ ?_) | refine (c3).pure rfl ?_ | refine (c4).pure rfl ?_ | refine (c5).pure rfl ?_ | refine Exists.intro _ (And.intro w1 ?_) | refine And.intro (fun h => absurd rfl h) (fun _ => ?_) | refine And.intro (neI rfl) ?_ | refine And.intro ⟨rfl, leR rfl, onesR rfl⟩ ?_ | refine And.intro ⟨rfl, leR rfl⟩ ?_ | refine draw_rule2 hfol (fun KK hKK => ?_) | refine hKK _ _ _ (by kernel_rfl) ?_ | refine region_rule (fun KK hKK => ?_) | refine hKK _ _ ?_ | refine And.intro (Eq.refl true) ?_ | refine Exists.intro _ (And.intro (wI (by omega)) ?_) | refine Exists.intro _ (And.intro (wU (by omega)) ?_) | refine Exists.intro _ (And.intro ⟨rfl, by omega⟩ ?_) | refine Exists.intro _ (And.intro rfl ?_) | refine And.intro rfl ?_ | refine And.intro ⟨rfl, rfl⟩ ?_ | ((refine And.intro (fun _ => ?_) (fun _ => ?_)) <;> try (exfalso; omega))))
      · have c1 := s_iUnion s1 m1 l1 b1 s2 m2 l2 b2
        have c2 := s_sUnion s1 m1 l1 b1 s2 m2 l2 b2
        have t1 := unionR_len s1 m1 s2 m2
        have hcode : (unionR s1 m1 s2 m2).2.2 ≠ 0 := by
          unfold unionR
          by_cases hd : isDi s1 m1 = true ∧ isDi s2 m2 = true
          · rw [if_pos hd, if_pos (Classical.byContradiction fun h => hv2 ⟨hd.1, hd.2, h⟩)]; show (3 : Int) ≠ 0; omega
          · rw [if_neg hd]; show (1 : Int) ≠ 0; omega
        generalize unionR s1 m1 s2 m2 = p at c1 c2 t1 hcode
        have hE1 := eqSelf p.1 p.2.1 t1
        (repeat' (first | refine reg_enter (id := 36) (π := []) (S := [(0, .raw v)]) (H := []) ⟨⟨rfl, trivial⟩, trivial, rfl⟩ (body36 ()) | refine cU.makeW hp [] rfl trivial ?_ | refine Exists.intro (pcl s1 m1) (And.intro ⟨pcl_len l1, pcl_all l1⟩ ?_) | refine And.intro ⟨pcl_len l1, leR rfl, pcl_ones⟩ ?_ | refine Exists.intro (pcl s1 m1) (And.intro ⟨leR rfl, spl0 (leR rfl)⟩ ?_) | refine Exists.intro (pcl s2 m2) (And.intro ⟨pcl_len l2, pcl_all l2⟩ ?_) | refine And.intro ⟨pcl_len l2, leR rfl, pcl_ones⟩ ?_ | refine Exists.intro (pcl s2 m2) (And.intro ⟨leR rfl, spl0 (leR rfl)⟩ ?_) | refine (c1).pure rfl ?_ | refine (c2).pure rfl ?_ | refine Exists.intro (pcl p.1 p.2.1) (And.intro ⟨pcl_len t1, pcl_all t1⟩ ?_) | refine And.intro ⟨pcl_len t1, leR rfl, pcl_ones⟩ ?_ | refine Exists.intro (pcl p.1 p.2.1) (And.intro ⟨leR rfl, spl0 (leR rfl)⟩ ?_) | refine Exists.intro _ (And.intro ⟨eg_i_Diagram, hE1⟩ ?_) | refine And.intro (fun h => absurd rfl h) (fun _ => ?_) | refine And.intro (neI rfl) ?_ | refine And.intro ⟨rfl, leR rfl, onesR rfl⟩ ?_ | refine And.intro ⟨rfl, leR rfl⟩ ?_ | refine draw_rule2 hfol (fun KK hKK => ?_) | refine hKK _ _ _ (by kernel_rfl) ?_ | refine region_rule (fun KK hKK => ?_) | refine hKK _ _ ?_ | refine And.intro (Eq.refl true) ?_ | refine Exists.intro _ (And.intro (wI (by omega)) ?_) | refine Exists.intro _ (And.intro (wU (by omega)) ?_) | refine Exists.intro _ (And.intro ⟨rfl, by omega⟩ ?_) | refine Exists.intro _ (And.intro rfl ?_) | refine And.intro rfl ?_ | refine And.intro ⟨rfl, rfl⟩ ?_ | ((refine And.intro (fun _ => ?_) (fun _ => ?_)) <;> try (exfalso; omega))))
    case b =>
      intro g36
      clear cU
      have c1 := s_iGen gn gi
      have c2 := s_sGen gn gi
      by_cases hv3 : (2 ≤ gn ∧ gn ≤ 8) ∧ 0 ≤ gi ∧ gi ≤ gn - 2
      · obtain ⟨n, rfl⟩ : ∃ n : Nat, gn = n := ⟨gn.toNat, by omega⟩
        obtain ⟨i, rfl⟩ : ∃ i : Nat, gi = i := ⟨gi.toNat, by omega⟩
        have hn : n ≤ 8 := by omega
        have hi : i + 1 < n := by omega
        have hr : geR n i = ((n : Int), gen n i, 0) := by unfold geR; rw [if_pos hv3]; rfl
        replace c1 : Spec Try.prog n_i_GeneratorDiagram [vi n, vi i] [] (.tup [pv n (gen n i), vi 0]) [] := by rw [hr] at c1; exact c1
        replace c2 : Spec Try.prog n_s_GeneratorDiagram [vi n, vi i] [] (.tup [pv n (gen n i), vi 0]) [] := by rw [hr] at c2; exact c2
        have hG := gen_D hn hi
        have c3 := q_mul hG hG
        rw [gen_sq hn hi, gen_sq_lp hn hi] at c3
        replace c3 : Spec Try.prog n_i_MultiplyDiagrams [pv n (gen n i), pv n (gen n i)] [] (.tup [pv n (gen n i), vi 1, vi 0]) [] := c3
        have hGl := hG.len
        generalize gen n i = G at c1 c2 c3 hGl
        clear hG
        have hE1 := eqSelf n G hGl
        (repeat' (first | refine cG.makeW hp [] rfl trivial ?_ | refine (c1).pure rfl ?_ | refine (c2).pure rfl ?_ | refine (c3).pure rfl ?_ | refine Exists.intro (pcl (n : Int) G) (And.intro ⟨pcl_len hGl, pcl_all hGl⟩ ?_) | refine And.intro ⟨pcl_len hGl, leR rfl, pcl_ones⟩ ?_ | refine Exists.intro (pcl (n : Int) G) (And.intro ⟨leR rfl, spl0 (leR rfl)⟩ ?_) | refine Exists.intro _ (And.intro ⟨eg_i_Diagram, hE1⟩ ?_) | refine And.intro (fun h => absurd rfl h) (fun _ => ?_) | refine And.intro (neI rfl) ?_ | refine And.intro ⟨rfl, leR rfl, onesR rfl⟩ ?_ | refine And.intro ⟨rfl, leR rfl⟩ ?_ | refine draw_rule2 hfol (fun KK hKK => ?_) | refine hKK _ _ _ (by kernel_rfl) ?_ | refine region_rule (fun KK hKK => ?_) | refine hKK _ _ ?_ | refine And.intro (Eq.refl true) ?_ | refine Exists.intro _ (And.intro (wI (by omega)) ?_) | refine Exists.intro _ (And.intro (wU (by omega)) ?_) | refine Exists.intro _ (And.intro ⟨rfl, by omega⟩ ?_) | refine Exists.intro _ (And.intro rfl ?_) | refine And.intro rfl ?_ | refine And.intro ⟨rfl, rfl⟩ ?_ | ((refine And.intro (fun _ => ?_) (fun _ => ?_)) <;> try (exfalso; omega))))
        all_goals exact finP rfl
      · have t1 := geR_len gn gi
        have hcode : (geR gn gi).2.2 ≠ 0 := by unfold geR; rw [if_neg hv3]; show (2 : Int) ≠ 0; omega
        generalize geR gn gi = p at c1 c2 t1 hcode
        have hE1 := eqSelf p.1 p.2.1 t1
        (repeat' (first | refine cG.makeW hp [] rfl trivial ?_ | refine (c1).pure rfl ?_ | refine (c2).pure rfl ?_ | refine Exists.intro (pcl p.1 p.2.1) (And.intro ⟨pcl_len t1, pcl_all t1⟩ ?_) | refine And.intro ⟨pcl_len t1, leR rfl, pcl_ones⟩ ?_ | refine Exists.intro (pcl p.1 p.2.1) (And.intro ⟨leR rfl, spl0 (leR rfl)⟩ ?_) | refine Exists.intro _ (And.intro ⟨eg_i_Diagram, hE1⟩ ?_) | refine And.intro (fun h => absurd rfl h) (fun _ => ?_) | refine And.intro (neI rfl) ?_ | refine And.intro ⟨rfl, leR rfl, onesR rfl⟩ ?_ | refine And.intro ⟨rfl, leR rfl⟩ ?_ | refine draw_rule2 hfol (fun KK hKK => ?_) | refine hKK _ _ _ (by kernel_rfl) ?_ | refine region_rule (fun KK hKK => ?_) | refine hKK _ _ ?_ | refine And.intro (Eq.refl true) ?_ | refine Exists.intro _ (And.intro (wI (by omega)) ?_) | refine Exists.intro _ (And.intro (wU (by omega)) ?_) | refine Exists.intro _ (And.intro ⟨rfl, by omega⟩ ?_) | refine Exists.intro _ (And.intro rfl ?_) | refine And.intro rfl ?_ | refine And.intro ⟨rfl, rfl⟩ ?_ | ((refine And.intro (fun _ => ?_) (fun _ => ?_)) <;> try (exfalso; omega))))
        all_goals exact finP rfl
end Go.Proofs.Ytgpgcdofhkpeaaa.VE
