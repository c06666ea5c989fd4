/- Contracts of functions of the given program, for all arguments that the contract names; see each theorem. -/
import Derived.Test.YtgpgcdofhkpeaaaU17s
set_option linter.all false
namespace Go.Proofs.Ytgpgcdofhkpeaaa.VE
open Go
set_option maxHeartbeats 800000
set_option maxRecDepth 100000

abbrev dlV (s : Int) (m : List Nat) (c : Int) : V := .tup [pv s m, vi c]
theorem s_stimes (n : Nat) (a b : List Nat) (ha : IsV n a) (hb : IsV n b) : Spec Try.prog n_s_l01Times [pv n a, pv n b] [] (dlV n (oL n a b n).1 (lpN n a b : Nat)) [] := by
  have la := ha.len
  have lb := hb.len
  have hn := ha.n8
  have hn1 := ha.n1
  refine SpecW.of_EV hf_s_l01Times hc_s_l01Times rfl rfl rfl fun w0 B ρ0 _ => ?_
  (repeat' (first | refine Exists.intro (pcl n (List.replicate 16 0)) (And.intro ⟨leR rfl, rfl⟩ ?_) | refine Exists.intro (pcl n (List.replicate 16 0)) (And.intro ⟨rfl, rfl⟩ ?_) | refine Exists.intro (bbl (List.replicate 8 false)) (And.intro ⟨leR rfl, rfl⟩ ?_) | refine And.intro (neI rfl) ?_ | refine And.intro ⟨rfl, leR rfl, onesR rfl⟩ ?_ | refine And.intro ⟨rfl, leR rfl⟩ ?_ | refine draw_rule2 hfol (fun KK hKK => ?_) | refine hKK _ _ _ (by kernel_rfl) ?_ | refine region_rule (fun KK hKK => ?_) | refine hKK _ _ ?_ | refine And.intro (Eq.refl true) ?_ | refine Exists.intro _ (And.intro (wI (by omega)) ?_) | refine Exists.intro _ (And.intro (wU (by omega)) ?_) | refine Exists.intro _ (And.intro ⟨rfl, by omega⟩ ?_) | refine Exists.intro _ (And.intro rfl ?_) | refine And.intro rfl ?_ | refine And.intro ⟨rfl, rfl⟩ ?_ | ((refine And.intro (fun _ => ?_) (fun _ => ?_)) <;> try (exfalso; omega))))
  refine loop_rule (α := Nat) (fun i => i ≤ n)
    (fun i => [(2, .ptr 0 0), (3, .ptr 1 0), (4, .ptr 2 0), (6, vi n), (7, .ptr 3 0), (8, .ptr 4 0), (9, vi i)])
    (fun i => [.pc (pcl n a) T_i_Diagram, .pc (pcl n b) T_i_Diagram, .pc (pcl 0 (List.replicate 16 0)) T_i_Diagram, .pc (bbl (oL n a b i).2) T_a8q_bool, .pc (pcl n (oL n a b i).1) T_i_Diagram]) (fun i => n - i) 0 [0, 1, 2, 3, 4]
    (by omega) ⟨⟨rfl, rfl, rfl, rfl, rfl, rfl, rfl, trivial⟩, ⟨rfl, rfl, rfl, rfl, rfl, trivial⟩, rfl⟩ ?_
  rintro i g hi
  obtain ⟨l1, l2, hclo, _⟩ := oL_inv ha hb i hi
  by_cases h9 : i = n
  rotate_left
  · have hil : i < n := by omega
    have o1 : isOut n false i = true := by simp [isOut]; omega
    have o2 : isOut n true (n + i) = true := by simp [isOut]
    have f1 := fol_out ha hb (l := false) (p := i) (by omega) o1 l2 hclo
    have l3 : (fol n a b 17 false i (oL n a b i).2).2.2.length = 8 := by rw [fol_len ha hb]; exact l2
    have f2 := fol_out ha hb (l := true) (p := n + i) (by omega) o2 l3 f1.1
    have c1 := s_sfollow n a b ha hb false i (oL n a b i).2 l2 (by omega) (ends_out ha hb (by omega) o1)
    have c3 := s_sfollow n a b ha hb true (n + i) (fol n a b 17 false i (oL n a b i).2).2.2 l3 (by omega) (ends_out ha hb (by omega) o2)
    have e1 : IntKind.i64.wrap ((n : Int) + (i : Int)) = ((n + i : Nat) : Int) := wC (by omega) (by omega)
    have l4 : ((oL n a b i).1.set i (fol n a b 17 false i (oL n a b i).2).1).length = 16 := by simpa using l1
    (repeat' (first | refine (c1).make [3] rfl ⟨rfl, trivial⟩ ?_ | refine (c3).make [3] rfl ⟨rfl, trivial⟩ ?_ | refine Exists.intro _ (And.intro e1 ?_) | refine Exists.intro (pcl n a) (And.intro ⟨pcl_len la, pcl_all la⟩ ?_) | refine Exists.intro (pcl n b) (And.intro ⟨pcl_len lb, pcl_all lb⟩ ?_) | refine Exists.intro (pcl n ((oL n a b i).1.set i (fol n a b 17 false i (oL n a b i).2).1)) (And.intro ⟨by rw [pcl_len l1]; omega, pcl_set⟩ ?_) | refine Exists.intro (pcl n (oL n a b (i + 1)).1) (And.intro ⟨by rw [pcl_len l4]; omega, pcl_set⟩ ?_) | refine And.intro (neI rfl) ?_ | refine And.intro ⟨rfl, leR rfl, onesR rfl⟩ ?_ | refine And.intro ⟨rfl, leR rfl⟩ ?_ | refine draw_rule2 hfol (fun KK hKK => ?_) | refine hKK _ _ _ (by kernel_rfl) ?_ | refine region_rule (fun KK hKK => ?_) | refine hKK _ _ ?_ | refine And.intro (Eq.refl true) ?_ | refine Exists.intro _ (And.intro (wI (by omega)) ?_) | refine Exists.intro _ (And.intro (wU (by omega)) ?_) | refine Exists.intro _ (And.intro ⟨rfl, by omega⟩ ?_) | refine Exists.intro _ (And.intro rfl ?_) | refine And.intro rfl ?_ | refine And.intro ⟨rfl, rfl⟩ ?_ | ((refine And.intro (fun _ => ?_) (fun _ => ?_)) <;> try (exfalso; omega))))
    refine Exists.intro (i + 1) (Exists.intro [0, 1, 2, 3, 4] (And.intro ⟨by omega, (by show n - (i + 1) < n - i; omega)⟩ ⟨⟨rfl, rfl, rfl, rfl, rfl, rfl, rfl, trivial⟩, ⟨rfl, rfl, rfl, rfl, rfl, trivial⟩, rfl⟩))
  subst h9
  (repeat' (first | refine And.intro (neI rfl) ?_ | refine And.intro ⟨rfl, leR rfl, onesR rfl⟩ ?_ | refine And.intro ⟨rfl, leR rfl⟩ ?_ | refine draw_rule2 hfol (fun KK hKK => ?_) | refine hKK _ _ _ (by kernel_rfl) ?_ | refine region_rule (fun KK hKK => ?_) | refine hKK _ _ ?_ | refine And.intro (Eq.refl true) ?_ | refine Exists.intro _ (And.intro (wI (by omega)) ?_) | refine Exists.intro _ (And.intro (wU (by omega)) ?_) | refine Exists.intro _ (And.intro ⟨rfl, by omega⟩ ?_) | refine Exists.intro _ (And.intro rfl ?_) | refine And.intro rfl ?_ | refine And.intro ⟨rfl, rfl⟩ ?_ | ((refine And.intro (fun _ => ?_) (fun _ => ?_)) <;> try (exfalso; omega))))
  refine loop_rule (α := Nat × List Bool × Nat) (fun (j, s, c) => j ≤ i ∧ s.length = 8 ∧ G i a b s ∧ c ≤ j ∧ lpO i a b (i - j) j s c = lpN i a b)
    (fun (j, s, c) => [(2, .ptr 0 0), (3, .ptr 1 0), (4, .ptr 2 0), (6, vi i), (7, .ptr 3 0), (8, .ptr 4 0), (14, vi c), (15, vi j)])
    (fun (j, s, c) => [.pc (pcl i a) T_i_Diagram, .pc (pcl i b) T_i_Diagram, .pc (pcl 0 (List.replicate 16 0)) T_i_Diagram, .pc (bbl s) T_a8q_bool, .pc (pcl i (oL i a b i).1) T_i_Diagram]) (fun (j, _, _) => i - j) (0, (oL i a b i).2, 0) [0, 1, 2, 3, 4]
    ⟨by omega, l2, oL_G ha hb, by omega, rfl⟩ ⟨⟨rfl, rfl, rfl, rfl, rfl, rfl, rfl, rfl, trivial⟩, ⟨rfl, rfl, rfl, rfl, rfl, trivial⟩, rfl⟩ ?_
  rintro ⟨j, s, c⟩ g2 ⟨hj, hs, hG, hc, hR⟩
  by_cases h9 : j = i
  · subst h9
    rw [Nat.sub_self] at hR
    replace hR : c = lpN j a b := hR
    subst hR
    (repeat' (first | refine Exists.intro (pcl j (oL j a b j).1) (And.intro ⟨pcl_len l1, pcl_all l1⟩ ?_) | refine And.intro ⟨pcl_len l1, leR rfl, pcl_ones⟩ ?_ | refine Exists.intro (pcl j (oL j a b j).1) (And.intro ⟨leR rfl, spl0 (leR rfl)⟩ ?_) | refine And.intro (neI rfl) ?_ | refine And.intro ⟨rfl, leR rfl, onesR rfl⟩ ?_ | refine And.intro ⟨rfl, leR rfl⟩ ?_ | refine draw_rule2 hfol (fun KK hKK => ?_) | refine hKK _ _ _ (by kernel_rfl) ?_ | refine region_rule (fun KK hKK => ?_) | refine hKK _ _ ?_ | refine And.intro (Eq.refl true) ?_ | refine Exists.intro _ (And.intro (wI (by omega)) ?_) | refine Exists.intro _ (And.intro (wU (by omega)) ?_) | refine Exists.intro _ (And.intro ⟨rfl, by omega⟩ ?_) | refine Exists.intro _ (And.intro rfl ?_) | refine And.intro rfl ?_ | refine And.intro ⟨rfl, rfl⟩ ?_ | ((refine And.intro (fun _ => ?_) (fun _ => ?_)) <;> try (exfalso; omega))))
    exact Exists.intro [] (And.intro (rfl) (And.intro trivial rfl))
  have hjl : j < i := by omega
  obtain ⟨d, hdd⟩ : ∃ d, i - j = d + 1 := ⟨i - j - 1, by omega⟩
  have hd' : i - (j + 1) = d := by omega
  rw [hdd] at hR
  unfold lpO at hR
  cases hsj : s.getD j false with
  | true =>
    rw [if_pos hsj] at hR
    (repeat' (first | refine Exists.intro _ (And.intro (bbl_at (by omega) hsj) ?_) | refine And.intro (neI rfl) ?_ | refine And.intro ⟨rfl, leR rfl, onesR rfl⟩ ?_ | refine And.intro ⟨rfl, leR rfl⟩ ?_ | refine draw_rule2 hfol (fun KK hKK => ?_) | refine hKK _ _ _ (by kernel_rfl) ?_ | refine region_rule (fun KK hKK => ?_) | refine hKK _ _ ?_ | refine And.intro (Eq.refl true) ?_ | refine Exists.intro _ (And.intro (wI (by omega)) ?_) | refine Exists.intro _ (And.intro (wU (by omega)) ?_) | refine Exists.intro _ (And.intro ⟨rfl, by omega⟩ ?_) | refine Exists.intro _ (And.intro rfl ?_) | refine And.intro rfl ?_ | refine And.intro ⟨rfl, rfl⟩ ?_ | ((refine And.intro (fun _ => ?_) (fun _ => ?_)) <;> try (exfalso; omega))))
    refine Exists.intro (j + 1, s, c) (Exists.intro [0, 1, 2, 3, 4] (And.intro ⟨⟨by omega, hs, hG, by omega, by rw [hd']; exact hR⟩, (by show i - (j + 1) < i - j; omega)⟩ ⟨⟨rfl, rfl, rfl, rfl, rfl, rfl, rfl, rfl, trivial⟩, ⟨rfl, rfl, rfl, rfl, rfl, trivial⟩, rfl⟩))
  | false =>
    rw [if_neg (by rw [hsj]; decide)] at hR
    obtain ⟨_, _, q3⟩ := loop_eq ha hb hs hG hjl hsj
    (repeat' (first | refine Exists.intro _ (And.intro (bbl_at (by omega) hsj) ?_) | refine And.intro (neI rfl) ?_ | refine And.intro ⟨rfl, leR rfl, onesR rfl⟩ ?_ | refine And.intro ⟨rfl, leR rfl⟩ ?_ | refine draw_rule2 hfol (fun KK hKK => ?_) | refine hKK _ _ _ (by kernel_rfl) ?_ | refine region_rule (fun KK hKK => ?_) | refine hKK _ _ ?_ | refine And.intro (Eq.refl true) ?_ | refine Exists.intro _ (And.intro (wI (by omega)) ?_) | refine Exists.intro _ (And.intro (wU (by omega)) ?_) | refine Exists.intro _ (And.intro ⟨rfl, by omega⟩ ?_) | refine Exists.intro _ (And.intro rfl ?_) | refine And.intro rfl ?_ | refine And.intro ⟨rfl, rfl⟩ ?_ | ((refine And.intro (fun _ => ?_) (fun _ => ?_)) <;> try (exfalso; omega))))
    refine loop_rule (α := Nat × Nat × List Bool) (fun (d, k, t) => k < i ∧ s.getD k false = false ∧ t.length = 8 ∧ cF t ≤ d ∧ spI i a b d k t = spI i a b 8 j s)
      (fun (d, k, t) => [(2, .ptr 0 0), (3, .ptr 1 0), (4, .ptr 2 0), (6, vi i), (7, .ptr 3 0), (8, .ptr 4 0), (14, vi (c + 1 : Nat)), (15, vi j), (16, vi k)])
      (fun (d, k, t) => [.pc (pcl i a) T_i_Diagram, .pc (pcl i b) T_i_Diagram, .pc (pcl 0 (List.replicate 16 0)) T_i_Diagram, .pc (bbl t) T_a8q_bool, .pc (pcl i (oL i a b i).1) T_i_Diagram]) (fun (d, _, _) => d) (8, j, s) [0, 1, 2, 3, 4]
      ⟨hjl, hsj, hs, by have := cF_all (s := s); omega, rfl⟩ ⟨⟨rfl, rfl, rfl, rfl, rfl, rfl, viR (by omega), rfl, rfl, trivial⟩, ⟨rfl, rfl, rfl, rfl, rfl, trivial⟩, rfl⟩ ?_
    rintro ⟨d2, k, t⟩ g3 ⟨hk, hsk, ht, hcd, hR2⟩
    cases htk : t.getD k false with
    | true =>
      have he : spI i a b 8 j s = t := by
        rw [← hR2]; cases d2 with
        | zero => rfl
        | succ d2 => unfold spI; rw [if_pos htk]
      rw [he] at hR q3
      (repeat' (first | refine Exists.intro _ (And.intro (bbl_at (by omega) htk) ?_) | refine And.intro (neI rfl) ?_ | refine And.intro ⟨rfl, leR rfl, onesR rfl⟩ ?_ | refine And.intro ⟨rfl, leR rfl⟩ ?_ | refine draw_rule2 hfol (fun KK hKK => ?_) | refine hKK _ _ _ (by kernel_rfl) ?_ | refine region_rule (fun KK hKK => ?_) | refine hKK _ _ ?_ | refine And.intro (Eq.refl true) ?_ | refine Exists.intro _ (And.intro (wI (by omega)) ?_) | refine Exists.intro _ (And.intro (wU (by omega)) ?_) | refine Exists.intro _ (And.intro ⟨rfl, by omega⟩ ?_) | refine Exists.intro _ (And.intro rfl ?_) | refine And.intro rfl ?_ | refine And.intro ⟨rfl, rfl⟩ ?_ | ((refine And.intro (fun _ => ?_) (fun _ => ?_)) <;> try (exfalso; omega))))
      refine Exists.intro (j + 1, t, c + 1) (Exists.intro [0, 1, 2, 3, 4] (And.intro ⟨⟨by omega, ht, q3, by omega, by rw [hd']; exact hR⟩, (by show i - (j + 1) < i - j; omega)⟩ ⟨⟨rfl, rfl, rfl, rfl, rfl, rfl, rfl, rfl, trivial⟩, ⟨rfl, rfl, rfl, rfl, rfl, trivial⟩, rfl⟩))
    | false =>
      have hcs := cF_set (by omega) htk
      obtain ⟨d3, rfl⟩ : ∃ d3, d2 = d3 + 1 := ⟨d2 - 1, by omega⟩
      unfold spI at hR2
      rw [if_neg (by rw [htk]; decide)] at hR2
      obtain ⟨g1, g2, _, _⟩ := sg_facts ha hb hG hk hsk false
      obtain ⟨k1, k2, _, _⟩ := sg_facts ha hb hG g1 g2 true
      have ho : ¬ a.getD (i + k) 0 < i := of_decide_eq_false (hG k hk hsk false).1
      have hlt := ha.lt (i + k) (by omega)
      have hs1 : sg i a b false k = a.getD (i + k) 0 - i := rfl
      rw [hs1] at g1 g2 k1 k2 hR2
      have hs2 : sg i a b true (a.getD (i + k) 0 - i) = b.getD (a.getD (i + k) 0 - i) 0 := rfl
      rw [hs2] at k1 k2 hR2
      have hle := cF_le (s := t.set k true) (i := a.getD (i + k) 0 - i)
      have e1 : IntKind.i64.wrap ((i : Int) + (k : Int)) = ((i + k : Nat) : Int) := wC (by omega) (by omega)
      have e2 : IntKind.i64.wrap (((a.getD (i + k) 0 : Nat) : Int) - (i : Int)) = ((a.getD (i + k) 0 - i : Nat) : Int) := wC (by omega) (by omega)
      (repeat' (first | refine Exists.intro _ (And.intro (bbl_at (by omega) htk) ?_) | refine Exists.intro _ (And.intro (pcl_at (by omega)) ?_) | refine Exists.intro _ (And.intro e1 ?_) | refine Exists.intro _ (And.intro e2 ?_) | refine Exists.intro (bbl (t.set k true)) (And.intro ⟨by rw [bbl_len ht]; omega, bbl_set⟩ ?_) | refine Exists.intro (bbl ((t.set k true).set (a.getD (i + k) 0 - i) true)) (And.intro ⟨by rw [bbl_len (N := 8) (by rw [List.length_set]; exact ht)]; omega, bbl_set⟩ ?_) | refine And.intro (neI rfl) ?_ | refine And.intro ⟨rfl, leR rfl, onesR rfl⟩ ?_ | refine And.intro ⟨rfl, leR rfl⟩ ?_ | refine draw_rule2 hfol (fun KK hKK => ?_) | refine hKK _ _ _ (by kernel_rfl) ?_ | refine region_rule (fun KK hKK => ?_) | refine hKK _ _ ?_ | refine And.intro (Eq.refl true) ?_ | refine Exists.intro _ (And.intro (wI (by omega)) ?_) | refine Exists.intro _ (And.intro (wU (by omega)) ?_) | refine Exists.intro _ (And.intro ⟨rfl, by omega⟩ ?_) | refine Exists.intro _ (And.intro rfl ?_) | refine And.intro rfl ?_ | refine And.intro ⟨rfl, rfl⟩ ?_ | ((refine And.intro (fun _ => ?_) (fun _ => ?_)) <;> try (exfalso; omega))))
      refine Exists.intro (d3, b.getD (a.getD (i + k) 0 - i) 0, (t.set k true).set (a.getD (i + k) 0 - i) true) (Exists.intro [0, 1, 2, 3, 4] (And.intro ⟨⟨k1, k2, by simpa using ht, by omega, hR2⟩, (by show d3 < d3 + 1; omega)⟩ ⟨⟨rfl, rfl, rfl, rfl, rfl, rfl, rfl, rfl, rfl, trivial⟩, ⟨rfl, rfl, rfl, rfl, rfl, trivial⟩, rfl⟩))

end Go.Proofs.Ytgpgcdofhkpeaaa.VE
