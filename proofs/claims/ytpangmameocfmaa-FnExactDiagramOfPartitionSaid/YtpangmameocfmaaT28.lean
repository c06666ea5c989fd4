/- Contracts of functions of the given program, for all arguments that the contract names; see each theorem. -/
import Derived.Test.YtpangmameocfmaaT27
set_option linter.all false
namespace Go.Proofs.Ytpangmameocfmaa.VE.P
open Go
set_option maxHeartbeats 800000
set_option maxRecDepth 100000

theorem two_len {l : List Nat} {i k : Nat} (h : l.length = 16) : ((l.set i k).set k i).length = 16 := by simpa using h

theorem s_sDop (s : Int) (m : List Nat) (hm : m.length = 8) (hb : ∀ x ∈ m, x < 256) (n : Nat) (hsn : s = n) (hn1 : 1 ≤ n) (hn : n ≤ 4) (hv : isPi s m = true) (hp : plB n m = true) (hk : allK kPair (kC (key n m) (2 * n)) (mx m (2 * n)) = true) : Spec Try.prog n_s_DiagramOfPartition [pv s m] [] (prV ((n : Int), spJ (fun t => m.getD t 0) (2 * n), 0)) [] := by
  subst hsn
  have hq := s_is n m hm hb
  rw [isP_eq _ m hm, hv] at hq
  have hkk := s_skinds n m hm hv hn1 hn
  have k0 : (bl (KD n m) 7)[0]? = some (.bool true) := (bl_at (by omega)).trans (by rw [show KD n m 0 = plB n m from rfl, hp])
  have k1 : (bl (KD n m) 7)[1]? = some (.bool true) := (bl_at (by omega)).trans (by rw [show KD n m 1 = allK kPair (kC (key n m) (2 * n)) (mx m (2 * n)) from rfl, hk])
  generalize KD n m = kd at hkk k0 k1
  refine SpecW.of_EV hf_s_DiagramOfPartition hc_s_DiagramOfPartition rfl rfl rfl fun w0 B ρ0 _ => ?_
  (repeat' (first | refine (hq).pure rfl ?_ | refine (hkk).make [] rfl trivial ?_ | refine Exists.intro 0 (And.intro ⟨rfl, leR rfl⟩ ?_) | refine Exists.intro 1 (And.intro ⟨rfl, leR rfl⟩ ?_) | refine Exists.intro _ (And.intro k0 ?_) | refine Exists.intro _ (And.intro k1 ?_) | refine Exists.intro (pcl n m) (And.intro ⟨pcl_len hm, pcl_all hm⟩ ?_) | refine Exists.intro (pcl (n : Int) (List.replicate 16 0)) (And.intro ⟨leR rfl, rfl⟩ ?_) | refine Exists.intro (pcl (n : Int) (List.replicate 16 0)) (And.intro ⟨rfl, rfl⟩ ?_) | refine Exists.intro (pcl 0 (List.replicate 16 0)) (And.intro ⟨leR rfl, rfl⟩ ?_) | refine Exists.intro (pcl 0 (List.replicate 16 0)) (And.intro ⟨rfl, rfl⟩ ?_) | refine And.intro (neI rfl) ?_ | refine And.intro ⟨rfl, leR rfl, onesR rfl⟩ ?_ | refine And.intro ⟨rfl, leR rfl⟩ ?_ | refine draw_rule2 hfol (fun KK hKK => ?_) | refine hKK _ _ _ (by kernel_rfl) ?_ | refine region_rule (fun KK hKK => ?_) | refine hKK _ _ ?_ | refine And.intro (Eq.refl true) ?_ | refine Exists.intro _ (And.intro (wI (by omega)) ?_) | refine Exists.intro _ (And.intro (wU (by omega)) ?_) | refine Exists.intro _ (And.intro ⟨rfl, by omega⟩ ?_) | refine Exists.intro _ (And.intro rfl ?_) | refine And.intro rfl ?_ | refine And.intro ⟨rfl, rfl⟩ ?_ | ((refine And.intro (fun _ => ?_) (fun _ => ?_)) <;> try (exfalso; omega))))
  refine loop_rule (α := Nat) (fun i => i ≤ 2 * n)
    (fun i => [(1, .ptr 0 0), (2, .ptr 1 0), (5, .ptr 2 0), (6, vi i)])
    (fun i => [.pc (pcl n m) T_i_Partition, .pc (pcl 0 (List.replicate 16 0)) T_i_Diagram, .pc (pcl n (spJ (fun t => m.getD t 0) i)) T_i_Diagram]) (fun i => 2 * n - i) 0 [0, 1, 3]
    (by omega) ⟨⟨rfl, rfl, rfl, rfl, trivial⟩, ⟨rfl, rfl, rfl, trivial⟩, rfl⟩ ?_
  rintro i g hi
  by_cases h9 : i = 2 * n
  · subst h9
    (repeat' (first | refine Exists.intro (pcl (n : Int) (spJ (fun t => m.getD t 0) (2 * n))) (And.intro ⟨pcl_len (spJ_len _), pcl_all (spJ_len _)⟩ ?_) | refine And.intro ⟨pcl_len (spJ_len _), leR rfl, pcl_ones⟩ ?_ | refine Exists.intro (pcl (n : Int) (spJ (fun t => m.getD t 0) (2 * n))) (And.intro ⟨leR rfl, spl0 (leR rfl)⟩ ?_) | refine And.intro (neI rfl) ?_ | refine And.intro ⟨rfl, leR rfl, onesR rfl⟩ ?_ | refine And.intro ⟨rfl, leR rfl⟩ ?_ | refine draw_rule2 hfol (fun KK hKK => ?_) | refine hKK _ _ _ (by kernel_rfl) ?_ | refine region_rule (fun KK hKK => ?_) | refine hKK _ _ ?_ | refine And.intro (Eq.refl true) ?_ | refine Exists.intro _ (And.intro (wI (by omega)) ?_) | refine Exists.intro _ (And.intro (wU (by omega)) ?_) | refine Exists.intro _ (And.intro ⟨rfl, by omega⟩ ?_) | refine Exists.intro _ (And.intro rfl ?_) | refine And.intro rfl ?_ | refine And.intro ⟨rfl, rfl⟩ ?_ | ((refine And.intro (fun _ => ?_) (fun _ => ?_)) <;> try (exfalso; omega))))
    exact Exists.intro [] (And.intro (rfl) (And.intro trivial rfl))
  have hil : i < 2 * n := by omega
  (repeat' (first | refine And.intro (neI rfl) ?_ | refine And.intro ⟨rfl, leR rfl, onesR rfl⟩ ?_ | refine And.intro ⟨rfl, leR rfl⟩ ?_ | refine draw_rule2 hfol (fun KK hKK => ?_) | refine hKK _ _ _ (by kernel_rfl) ?_ | refine region_rule (fun KK hKK => ?_) | refine hKK _ _ ?_ | refine And.intro (Eq.refl true) ?_ | refine Exists.intro _ (And.intro (wI (by omega)) ?_) | refine Exists.intro _ (And.intro (wU (by omega)) ?_) | refine Exists.intro _ (And.intro ⟨rfl, by omega⟩ ?_) | refine Exists.intro _ (And.intro rfl ?_) | refine And.intro rfl ?_ | refine And.intro ⟨rfl, rfl⟩ ?_ | ((refine And.intro (fun _ => ?_) (fun _ => ?_)) <;> try (exfalso; omega))))
  refine loop_rule (α := Nat) (fun k => k ≤ i)
    (fun k => [(1, .ptr 0 0), (2, .ptr 1 0), (5, .ptr 2 0), (6, vi i), (7, vi k)])
    (fun k => [.pc (pcl n m) T_i_Partition, .pc (pcl 0 (List.replicate 16 0)) T_i_Diagram, .pc (pcl n (spK (fun t => m.getD t 0) i k (spJ (fun t => m.getD t 0) i))) T_i_Diagram]) (fun k => i - k) 0 [0, 1, 2]
    (by omega) ⟨⟨rfl, rfl, rfl, rfl, rfl, trivial⟩, ⟨rfl, rfl, rfl, trivial⟩, rfl⟩ ?_
  rintro k g2 hki
  by_cases h8 : k = i
  · subst h8
    (repeat' (first | refine And.intro (neI rfl) ?_ | refine And.intro ⟨rfl, leR rfl, onesR rfl⟩ ?_ | refine And.intro ⟨rfl, leR rfl⟩ ?_ | refine draw_rule2 hfol (fun KK hKK => ?_) | refine hKK _ _ _ (by kernel_rfl) ?_ | refine region_rule (fun KK hKK => ?_) | refine hKK _ _ ?_ | refine And.intro (Eq.refl true) ?_ | refine Exists.intro _ (And.intro (wI (by omega)) ?_) | refine Exists.intro _ (And.intro (wU (by omega)) ?_) | refine Exists.intro _ (And.intro ⟨rfl, by omega⟩ ?_) | refine Exists.intro _ (And.intro rfl ?_) | refine And.intro rfl ?_ | refine And.intro ⟨rfl, rfl⟩ ?_ | ((refine And.intro (fun _ => ?_) (fun _ => ?_)) <;> try (exfalso; omega))))
    refine Exists.intro (k + 1) (Exists.intro [0, 1, 2] (And.intro ⟨by omega, (by show 2 * n - (k + 1) < 2 * n - k; omega)⟩ ⟨⟨rfl, rfl, rfl, rfl, trivial⟩, ⟨rfl, rfl, rfl, trivial⟩, rfl⟩))
  have hkl : k < i := by omega
  have hll : (spK (fun t => m.getD t 0) i k (spJ (fun t => m.getD t 0) i)).length = 16 := by rw [spK_len, spJ_len]
  by_cases h : m.getD i 0 = m.getD k 0
  · have e1 : spK (fun t => m.getD t 0) i (k + 1) (spJ (fun t => m.getD t 0) i) = ((spK (fun t => m.getD t 0) i k (spJ (fun t => m.getD t 0) i)).set i k).set k i := by rw [spK, if_pos h]
    generalize spK (fun t => m.getD t 0) i k (spJ (fun t => m.getD t 0) i) = l at e1 hll
    have hjn := VE.s_join (n : Int) l i k hll (by omega) (by omega)
    have hl1 := two_len (i := i) (k := k) hll
    (repeat' (first | refine Exists.intro _ (And.intro (pcl_at (m := m) (i := i) (by omega)) ?_) | refine Exists.intro _ (And.intro (pcl_at (m := m) (i := k) (by omega)) ?_) | refine (hjn).pure rfl ?_ | refine Exists.intro (pcl n l) (And.intro ⟨pcl_len hll, pcl_all hll⟩ ?_) | refine And.intro ⟨pcl_len hl1, leR rfl, pcl_ones⟩ ?_ | refine Exists.intro (pcl n ((l.set i k).set k i)) (And.intro ⟨by rw [pcl_len hll]; exact leR rfl, spl0 (by rw [pcl_len hll]; exact leR rfl)⟩ ?_) | refine And.intro (neI rfl) ?_ | refine And.intro ⟨rfl, leR rfl, onesR rfl⟩ ?_ | refine And.intro ⟨rfl, leR rfl⟩ ?_ | refine draw_rule2 hfol (fun KK hKK => ?_) | refine hKK _ _ _ (by kernel_rfl) ?_ | refine region_rule (fun KK hKK => ?_) | refine hKK _ _ ?_ | refine And.intro (Eq.refl true) ?_ | refine Exists.intro _ (And.intro (wI (by omega)) ?_) | refine Exists.intro _ (And.intro (wU (by omega)) ?_) | refine Exists.intro _ (And.intro ⟨rfl, by omega⟩ ?_) | refine Exists.intro _ (And.intro rfl ?_) | refine And.intro rfl ?_ | refine And.intro ⟨rfl, rfl⟩ ?_ | ((refine And.intro (fun _ => ?_) (fun _ => ?_)) <;> try (exfalso; omega))))
    refine Exists.intro (k + 1) (Exists.intro [0, 1, 2] (And.intro ⟨by omega, (by show i - (k + 1) < i - k; omega)⟩ ⟨⟨rfl, rfl, rfl, rfl, rfl, trivial⟩, ⟨rfl, rfl, by rw [e1]; rfl, trivial⟩, rfl⟩))
  · have e1 : spK (fun t => m.getD t 0) i (k + 1) (spJ (fun t => m.getD t 0) i) = spK (fun t => m.getD t 0) i k (spJ (fun t => m.getD t 0) i) := by rw [spK, if_neg h]
    (repeat' (first | refine Exists.intro _ (And.intro (pcl_at (m := m) (i := i) (by omega)) ?_) | refine Exists.intro _ (And.intro (pcl_at (m := m) (i := k) (by omega)) ?_) | refine And.intro (neI rfl) ?_ | refine And.intro ⟨rfl, leR rfl, onesR rfl⟩ ?_ | refine And.intro ⟨rfl, leR rfl⟩ ?_ | refine draw_rule2 hfol (fun KK hKK => ?_) | refine hKK _ _ _ (by kernel_rfl) ?_ | refine region_rule (fun KK hKK => ?_) | refine hKK _ _ ?_ | refine And.intro (Eq.refl true) ?_ | refine Exists.intro _ (And.intro (wI (by omega)) ?_) | refine Exists.intro _ (And.intro (wU (by omega)) ?_) | refine Exists.intro _ (And.intro ⟨rfl, by omega⟩ ?_) | refine Exists.intro _ (And.intro rfl ?_) | refine And.intro rfl ?_ | refine And.intro ⟨rfl, rfl⟩ ?_ | ((refine And.intro (fun _ => ?_) (fun _ => ?_)) <;> try (exfalso; omega))))
    refine Exists.intro (k + 1) (Exists.intro [0, 1, 2] (And.intro ⟨by omega, (by show i - (k + 1) < i - k; omega)⟩ ⟨⟨rfl, rfl, rfl, rfl, rfl, trivial⟩, ⟨rfl, rfl, by rw [e1]; rfl, trivial⟩, rfl⟩))

theorem s_iDop (s : Int) (m : List Nat) (hm : m.length = 8) (hb : ∀ x ∈ m, x < 256) (n : Nat) (hsn : s = n) (hn1 : 1 ≤ n) (hn : n ≤ 4) (hv : isPi s m = true) (hp : plB n m = true) (hk : allK kPair (kC (key n m) (2 * n)) (mx m (2 * n)) = true) : Spec Try.prog n_i_DiagramOfPartition [pv s m] [] (prV ((n : Int), jD n (fw (xa n m) (2 * n)) (2 * n), 0)) [] := by
  subst hsn
  have hq := s_bad [((n : Int), m)] (fun p hp => by simp at hp; subst hp; exact ⟨hm, hb⟩) (by simp)
  simp only [List.any_cons, List.any_nil, Bool.or_false] at hq
  rw [hv] at hq
  have hkk := s_ikinds n m hm hb hv hn1 hn
  have k0 : (bl (KD n m) 7)[0]? = some (.bool true) := (bl_at (by omega)).trans (by rw [show KD n m 0 = plB n m from rfl, hp])
  have k1 : (bl (KD n m) 7)[1]? = some (.bool true) := (bl_at (by omega)).trans (by rw [show KD n m 1 = allK kPair (kC (key n m) (2 * n)) (mx m (2 * n)) from rfl, hk])
  generalize KD n m = kd at hkk k0 k1
  have har := s_around n m hm hn
  have hlt : ∀ i, i < 2 * n → fw (xa n m) (2 * n) i < 2 * n := fun i hi => fw_lt (by omega) hi
  refine SpecW.of_EV hf_i_DiagramOfPartition hc_i_DiagramOfPartition rfl rfl rfl fun w0 B ρ0 _ => ?_
  (repeat' (first | refine (hq).read [2] rfl ⟨rfl, trivial⟩ ?_ | refine (hkk).make [0] rfl ⟨rfl, trivial⟩ ?_ | refine Exists.intro 0 (And.intro ⟨rfl, leR rfl⟩ ?_) | refine Exists.intro 1 (And.intro ⟨rfl, leR rfl⟩ ?_) | refine Exists.intro _ (And.intro k0 ?_) | refine Exists.intro _ (And.intro k1 ?_) | refine (har).make [0] rfl ⟨rfl, trivial⟩ ?_ | refine Exists.intro (pcl n m) (And.intro ⟨pcl_len hm, pcl_all hm⟩ ?_) | refine And.intro ⟨pcl_len hm, mkL rfl⟩ ?_ | refine Exists.intro (rowP [((n : Int), m)]) (And.intro (row1 (N := 9) (p := ((n : Int), m)) (mkL' rfl)) ?_) | refine Exists.intro (pcl 0 (List.replicate 16 0)) (And.intro ⟨leR rfl, rfl⟩ ?_) | refine Exists.intro (pcl 0 (List.replicate 16 0)) (And.intro ⟨rfl, rfl⟩ ?_) | refine And.intro (neI rfl) ?_ | refine And.intro ⟨rfl, leR rfl, onesR rfl⟩ ?_ | refine And.intro ⟨rfl, leR rfl⟩ ?_ | refine draw_rule2 hfol (fun KK hKK => ?_) | refine hKK _ _ _ (by kernel_rfl) ?_ | refine region_rule (fun KK hKK => ?_) | refine hKK _ _ ?_ | refine And.intro (Eq.refl true) ?_ | refine Exists.intro _ (And.intro (wI (by omega)) ?_) | refine Exists.intro _ (And.intro (wU (by omega)) ?_) | refine Exists.intro _ (And.intro ⟨rfl, by omega⟩ ?_) | refine Exists.intro _ (And.intro rfl ?_) | refine And.intro rfl ?_ | refine And.intro ⟨rfl, rfl⟩ ?_ | ((refine And.intro (fun _ => ?_) (fun _ => ?_)) <;> try (exfalso; omega))))
  refine loop_rule (α := Nat) (fun k => k ≤ 2 * n)
    (fun k => [(1, .ptr 0 0), (2, .ptr 1 0), (5, .sl 2), (6, .sl 3), (27, vi (2 * n : Nat)), (28, vi k)])
    (fun k => [.pc (pcl n m) T_i_Partition, .pc (pcl 0 (List.replicate 16 0)) T_i_Diagram, .pr T_uint8 1 (2 * n) (ul (xa n m) (2 * n)), .pr T_int 1 k (il (oI (fw (xa n m) (2 * n))) k)]) (fun k => 2 * n - k) 0 [0, 1, 4, 5]
    (by omega) ⟨⟨rfl, rfl, rfl, rfl, rfl, rfl, trivial⟩, ⟨rfl, rfl, rfl, rfl, trivial⟩, rfl⟩ ?_
  rintro k g hkn
  by_cases h9 : k = 2 * n
  · subst h9
    have hj := VE.s_joined n (fw (xa n m) (2 * n)) (by omega) (by omega) hlt
    (repeat' (first | refine (s_n n m).read [0] rfl ⟨rfl, trivial⟩ ?_ | refine (hj).read [3] rfl ⟨rfl, trivial⟩ ?_ | refine Exists.intro (pcl (n : Int) (jD n (fw (xa n m) (2 * n)) (2 * n))) (And.intro ⟨pcl_len (jD_len _), pcl_all (jD_len _)⟩ ?_) | refine And.intro ⟨pcl_len (jD_len _), leR rfl, pcl_ones⟩ ?_ | refine Exists.intro (pcl (n : Int) (jD n (fw (xa n m) (2 * n)) (2 * n))) (And.intro ⟨leR rfl, spl0 (leR rfl)⟩ ?_) | refine And.intro (neI rfl) ?_ | refine And.intro ⟨rfl, leR rfl, onesR rfl⟩ ?_ | refine And.intro ⟨rfl, leR rfl⟩ ?_ | refine draw_rule2 hfol (fun KK hKK => ?_) | refine hKK _ _ _ (by kernel_rfl) ?_ | refine region_rule (fun KK hKK => ?_) | refine hKK _ _ ?_ | refine And.intro (Eq.refl true) ?_ | refine Exists.intro _ (And.intro (wI (by omega)) ?_) | refine Exists.intro _ (And.intro (wU (by omega)) ?_) | refine Exists.intro _ (And.intro ⟨rfl, by omega⟩ ?_) | refine Exists.intro _ (And.intro rfl ?_) | refine And.intro rfl ?_ | refine And.intro ⟨rfl, rfl⟩ ?_ | ((refine And.intro (fun _ => ?_) (fun _ => ?_)) <;> try (exfalso; omega))))
    exact Exists.intro [] (And.intro (rfl) (And.intro trivial rfl))
  have hkl : k < 2 * n := by omega
  have hfo := s_following (xa n m) (2 * n) k (by omega) (by omega) hkl
  (repeat' (first | refine (hfo).read [2] rfl ⟨rfl, trivial⟩ ?_ | refine And.intro ⟨rfl, mkL rfl⟩ ?_ | refine Exists.intro [Value.int .i64 (oI (fw (xa n m) (2 * n)) k)] (And.intro (row1s (mkL' rfl)) ?_) | refine Exists.intro (il (oI (fw (xa n m) (2 * n))) (k + 1)) (And.intro ⟨rfl, onesR rfl, by omega, by omega, il_succ⟩ ?_) | refine And.intro (neI rfl) ?_ | refine And.intro ⟨rfl, leR rfl, onesR rfl⟩ ?_ | refine And.intro ⟨rfl, leR rfl⟩ ?_ | refine draw_rule2 hfol (fun KK hKK => ?_) | refine hKK _ _ _ (by kernel_rfl) ?_ | refine region_rule (fun KK hKK => ?_) | refine hKK _ _ ?_ | refine And.intro (Eq.refl true) ?_ | refine Exists.intro _ (And.intro (wI (by omega)) ?_) | refine Exists.intro _ (And.intro (wU (by omega)) ?_) | refine Exists.intro _ (And.intro ⟨rfl, by omega⟩ ?_) | refine Exists.intro _ (And.intro rfl ?_) | refine And.intro rfl ?_ | refine And.intro ⟨rfl, rfl⟩ ?_ | ((refine And.intro (fun _ => ?_) (fun _ => ?_)) <;> try (exfalso; omega))))
  refine Exists.intro (k + 1) (Exists.intro [0, 1, 2, 5] (And.intro ⟨by omega, (by show 2 * n - (k + 1) < 2 * n - k; omega)⟩ ⟨⟨rfl, rfl, rfl, rfl, rfl, rfl, trivial⟩, ⟨rfl, rfl, rfl, rfl, trivial⟩, rfl⟩))

theorem s_sDopE (s : Int) (m : List Nat) (hm : m.length = 8) (hb : ∀ x ∈ m, x < 256) (hv : isPi s m = false) : Spec Try.prog n_s_DiagramOfPartition [pv s m] [] (prV (0, List.replicate 16 0, 1)) [] := by
  have hq := s_is s m hm hb
  rw [isP_eq _ m hm, hv] at hq
  refine SpecW.of_EV hf_s_DiagramOfPartition hc_s_DiagramOfPartition rfl rfl rfl fun w0 B ρ0 _ => ?_
  (repeat' (first | refine (hq).pure rfl ?_ | refine Exists.intro (pcl s m) (And.intro ⟨pcl_len hm, pcl_all hm⟩ ?_) | refine Exists.intro (pcl 0 (List.replicate 16 0)) (And.intro ⟨leR rfl, rfl⟩ ?_) | refine Exists.intro (pcl 0 (List.replicate 16 0)) (And.intro ⟨rfl, rfl⟩ ?_) | refine And.intro (neI rfl) ?_ | refine And.intro ⟨rfl, leR rfl, onesR rfl⟩ ?_ | refine And.intro ⟨rfl, leR rfl⟩ ?_ | refine draw_rule2 hfol (fun KK hKK => ?_) | refine hKK _ _ _ (by kernel_rfl) ?_ | refine region_rule (fun KK hKK => ?_) | refine hKK _ _ ?_ | refine And.intro (Eq.refl true) ?_ | refine Exists.intro _ (And.intro (wI (by omega)) ?_) | refine Exists.intro _ (And.intro (wU (by omega)) ?_) | refine Exists.intro _ (And.intro ⟨rfl, by omega⟩ ?_) | refine Exists.intro _ (And.intro rfl ?_) | refine And.intro rfl ?_ | refine And.intro ⟨rfl, rfl⟩ ?_ | ((refine And.intro (fun _ => ?_) (fun _ => ?_)) <;> try (exfalso; omega))))
  exact Exists.intro [] (And.intro (rfl) (And.intro trivial rfl))
theorem s_iDopE (s : Int) (m : List Nat) (hm : m.length = 8) (hb : ∀ x ∈ m, x < 256) (hv : isPi s m = false) : Spec Try.prog n_i_DiagramOfPartition [pv s m] [] (prV (0, List.replicate 16 0, 1)) [] := by
  have hq := s_bad [(s, m)] (fun p hp => by simp at hp; subst hp; exact ⟨hm, hb⟩) (by simp)
  simp only [List.any_cons, List.any_nil, Bool.or_false] at hq
  rw [hv] at hq
  refine SpecW.of_EV hf_i_DiagramOfPartition hc_i_DiagramOfPartition rfl rfl rfl fun w0 B ρ0 _ => ?_
  (repeat' (first | refine (hq).read [2] rfl ⟨rfl, trivial⟩ ?_ | refine Exists.intro (pcl s m) (And.intro ⟨pcl_len hm, pcl_all hm⟩ ?_) | refine And.intro ⟨pcl_len hm, mkL rfl⟩ ?_ | refine Exists.intro (rowP [(s, m)]) (And.intro (row1 (N := 9) (p := (s, m)) (mkL' rfl)) ?_) | refine Exists.intro (pcl 0 (List.replicate 16 0)) (And.intro ⟨leR rfl, rfl⟩ ?_) | refine Exists.intro (pcl 0 (List.replicate 16 0)) (And.intro ⟨rfl, rfl⟩ ?_) | refine And.intro (neI rfl) ?_ | refine And.intro ⟨rfl, leR rfl, onesR rfl⟩ ?_ | refine And.intro ⟨rfl, leR rfl⟩ ?_ | refine draw_rule2 hfol (fun KK hKK => ?_) | refine hKK _ _ _ (by kernel_rfl) ?_ | refine region_rule (fun KK hKK => ?_) | refine hKK _ _ ?_ | refine And.intro (Eq.refl true) ?_ | refine Exists.intro _ (And.intro (wI (by omega)) ?_) | refine Exists.intro _ (And.intro (wU (by omega)) ?_) | refine Exists.intro _ (And.intro ⟨rfl, by omega⟩ ?_) | refine Exists.intro _ (And.intro rfl ?_) | refine And.intro rfl ?_ | refine And.intro ⟨rfl, rfl⟩ ?_ | ((refine And.intro (fun _ => ?_) (fun _ => ?_)) <;> try (exfalso; omega))))
  exact Exists.intro [] (And.intro (rfl) (And.intro trivial rfl))
theorem s_sDopS (s : Int) (m : List Nat) (hm : m.length = 8) (hb : ∀ x ∈ m, x < 256) (n : Nat) (hsn : s = n) (hn1 : 1 ≤ n) (hn : n ≤ 4) (hv : isPi s m = true) (hpk : ¬ (plB n m = true ∧ allK kPair (kC (key n m) (2 * n)) (mx m (2 * n)) = true)) : Spec Try.prog n_s_DiagramOfPartition [pv s m] [] (prV (0, List.replicate 16 0, 5)) [] := by
  subst hsn
  have hq := s_is n m hm hb
  rw [isP_eq _ m hm, hv] at hq
  have hkk := s_skinds n m hm hv hn1 hn
  have k0 : (bl (KD n m) 7)[0]? = some (.bool (plB n m)) := (bl_at (by omega)).trans rfl
  have k1 : (bl (KD n m) 7)[1]? = some (.bool (allK kPair (kC (key n m) (2 * n)) (mx m (2 * n)))) := (bl_at (by omega)).trans rfl
  generalize KD n m = kd at hkk k0 k1
  generalize plB n m = p at k0 hpk
  generalize allK kPair (kC (key n m) (2 * n)) (mx m (2 * n)) = q at k1 hpk
  refine SpecW.of_EV hf_s_DiagramOfPartition hc_s_DiagramOfPartition rfl rfl rfl fun w0 B ρ0 _ => ?_
  cases p with
  | false =>
    (repeat' (first | refine (hq).pure rfl ?_ | refine (hkk).make [] rfl trivial ?_ | refine Exists.intro 0 (And.intro ⟨rfl, leR rfl⟩ ?_) | refine Exists.intro 1 (And.intro ⟨rfl, leR rfl⟩ ?_) | refine Exists.intro _ (And.intro k0 ?_) | refine Exists.intro _ (And.intro k1 ?_) | refine Exists.intro (pcl n m) (And.intro ⟨pcl_len hm, pcl_all hm⟩ ?_) | refine Exists.intro (pcl 0 (List.replicate 16 0)) (And.intro ⟨leR rfl, rfl⟩ ?_) | refine Exists.intro (pcl 0 (List.replicate 16 0)) (And.intro ⟨rfl, rfl⟩ ?_) | refine And.intro (neI rfl) ?_ | refine And.intro ⟨rfl, leR rfl, onesR rfl⟩ ?_ | refine And.intro ⟨rfl, leR rfl⟩ ?_ | refine draw_rule2 hfol (fun KK hKK => ?_) | refine hKK _ _ _ (by kernel_rfl) ?_ | refine region_rule (fun KK hKK => ?_) | refine hKK _ _ ?_ | refine And.intro (Eq.refl true) ?_ | refine Exists.intro _ (And.intro (wI (by omega)) ?_) | refine Exists.intro _ (And.intro (wU (by omega)) ?_) | refine Exists.intro _ (And.intro ⟨rfl, by omega⟩ ?_) | refine Exists.intro _ (And.intro rfl ?_) | refine And.intro rfl ?_ | refine And.intro ⟨rfl, rfl⟩ ?_ | ((refine And.intro (fun _ => ?_) (fun _ => ?_)) <;> try (exfalso; omega))))
    exact Exists.intro [] (And.intro (rfl) (And.intro trivial rfl))
  | true => cases q with
    | true => exact absurd ⟨rfl, rfl⟩ hpk
    | false =>
      (repeat' (first | refine (hq).pure rfl ?_ | refine (hkk).make [] rfl trivial ?_ | refine Exists.intro 0 (And.intro ⟨rfl, leR rfl⟩ ?_) | refine Exists.intro 1 (And.intro ⟨rfl, leR rfl⟩ ?_) | refine Exists.intro _ (And.intro k0 ?_) | refine Exists.intro _ (And.intro k1 ?_) | refine Exists.intro (pcl n m) (And.intro ⟨pcl_len hm, pcl_all hm⟩ ?_) | refine Exists.intro (pcl 0 (List.replicate 16 0)) (And.intro ⟨leR rfl, rfl⟩ ?_) | refine Exists.intro (pcl 0 (List.replicate 16 0)) (And.intro ⟨rfl, rfl⟩ ?_) | refine And.intro (neI rfl) ?_ | refine And.intro ⟨rfl, leR rfl, onesR rfl⟩ ?_ | refine And.intro ⟨rfl, leR rfl⟩ ?_ | refine draw_rule2 hfol (fun KK hKK => ?_) | refine hKK _ _ _ (by kernel_rfl) ?_ | refine region_rule (fun KK hKK => ?_) | refine hKK _ _ ?_ | refine And.intro (Eq.refl true) ?_ | refine Exists.intro _ (And.intro (wI (by omega)) ?_) | refine Exists.intro _ (And.intro (wU (by omega)) ?_) | refine Exists.intro _ (And.intro ⟨rfl, by omega⟩ ?_) | refine Exists.intro _ (And.intro rfl ?_) | refine And.intro rfl ?_ | refine And.intro ⟨rfl, rfl⟩ ?_ | ((refine And.intro (fun _ => ?_) (fun _ => ?_)) <;> try (exfalso; omega))))
      exact Exists.intro [] (And.intro (rfl) (And.intro trivial rfl))
theorem s_iDopS (s : Int) (m : List Nat) (hm : m.length = 8) (hb : ∀ x ∈ m, x < 256) (n : Nat) (hsn : s = n) (hn1 : 1 ≤ n) (hn : n ≤ 4) (hv : isPi s m = true) (hpk : ¬ (plB n m = true ∧ allK kPair (kC (key n m) (2 * n)) (mx m (2 * n)) = true)) : Spec Try.prog n_i_DiagramOfPartition [pv s m] [] (prV (0, List.replicate 16 0, 5)) [] := by
  subst hsn
  have hq := s_bad [((n : Int), m)] (fun p hp => by simp at hp; subst hp; exact ⟨hm, hb⟩) (by simp)
  simp only [List.any_cons, List.any_nil, Bool.or_false] at hq
  rw [hv] at hq
  have hkk := s_ikinds n m hm hb hv hn1 hn
  have k0 : (bl (KD n m) 7)[0]? = some (.bool (plB n m)) := (bl_at (by omega)).trans rfl
  have k1 : (bl (KD n m) 7)[1]? = some (.bool (allK kPair (kC (key n m) (2 * n)) (mx m (2 * n)))) := (bl_at (by omega)).trans rfl
  generalize KD n m = kd at hkk k0 k1
  generalize plB n m = p at k0 hpk
  generalize allK kPair (kC (key n m) (2 * n)) (mx m (2 * n)) = q at k1 hpk
  refine SpecW.of_EV hf_i_DiagramOfPartition hc_i_DiagramOfPartition rfl rfl rfl fun w0 B ρ0 _ => ?_
  cases p with
  | false =>
    (repeat' (first | refine (hq).read [2] rfl ⟨rfl, trivial⟩ ?_ | refine (hkk).make [0] rfl ⟨rfl, trivial⟩ ?_ | refine Exists.intro 0 (And.intro ⟨rfl, leR rfl⟩ ?_) | refine Exists.intro 1 (And.intro ⟨rfl, leR rfl⟩ ?_) | refine Exists.intro _ (And.intro k0 ?_) | refine Exists.intro _ (And.intro k1 ?_) | refine Exists.intro (pcl n m) (And.intro ⟨pcl_len hm, pcl_all hm⟩ ?_) | refine And.intro ⟨pcl_len hm, mkL rfl⟩ ?_ | refine Exists.intro (rowP [((n : Int), m)]) (And.intro (row1 (N := 9) (p := ((n : Int), m)) (mkL' rfl)) ?_) | refine Exists.intro (pcl 0 (List.replicate 16 0)) (And.intro ⟨leR rfl, rfl⟩ ?_) | refine Exists.intro (pcl 0 (List.replicate 16 0)) (And.intro ⟨rfl, rfl⟩ ?_) | refine And.intro (neI rfl) ?_ | refine And.intro ⟨rfl, leR rfl, onesR rfl⟩ ?_ | refine And.intro ⟨rfl, leR rfl⟩ ?_ | refine draw_rule2 hfol (fun KK hKK => ?_) | refine hKK _ _ _ (by kernel_rfl) ?_ | refine region_rule (fun KK hKK => ?_) | refine hKK _ _ ?_ | refine And.intro (Eq.refl true) ?_ | refine Exists.intro _ (And.intro (wI (by omega)) ?_) | refine Exists.intro _ (And.intro (wU (by omega)) ?_) | refine Exists.intro _ (And.intro ⟨rfl, by omega⟩ ?_) | refine Exists.intro _ (And.intro rfl ?_) | refine And.intro rfl ?_ | refine And.intro ⟨rfl, rfl⟩ ?_ | ((refine And.intro (fun _ => ?_) (fun _ => ?_)) <;> try (exfalso; omega))))
    exact Exists.intro [] (And.intro (rfl) (And.intro trivial rfl))
  | true => cases q with
    | true => exact absurd ⟨rfl, rfl⟩ hpk
    | false =>
      (repeat' (first | refine (hq).read [2] rfl ⟨rfl, trivial⟩ ?_ | refine (hkk).make [0] rfl ⟨rfl, trivial⟩ ?_ | refine Exists.intro 0 (And.intro ⟨rfl, leR rfl⟩ ?_) | refine Exists.intro 1 (And.intro ⟨rfl, leR rfl⟩ ?_) | refine Exists.intro _ (And.intro k0 ?_) | refine Exists.intro _ (And.intro k1 ?_) | refine Exists.intro (pcl n m) (And.intro ⟨pcl_len hm, pcl_all hm⟩ ?_) | refine And.intro ⟨pcl_len hm, mkL rfl⟩ ?_ | refine Exists.intro (rowP [((n : Int), m)]) (And.intro (row1 (N := 9) (p := ((n : Int), m)) (mkL' rfl)) ?_) | refine Exists.intro (pcl 0 (List.replicate 16 0)) (And.intro ⟨leR rfl, rfl⟩ ?_) | refine Exists.intro (pcl 0 (List.replicate 16 0)) (And.intro ⟨rfl, rfl⟩ ?_) | refine And.intro (neI rfl) ?_ | refine And.intro ⟨rfl, leR rfl, onesR rfl⟩ ?_ | refine And.intro ⟨rfl, leR rfl⟩ ?_ | refine draw_rule2 hfol (fun KK hKK => ?_) | refine hKK _ _ _ (by kernel_rfl) ?_ | refine region_rule (fun KK hKK => ?_) | refine hKK _ _ ?_ | refine And.intro (Eq.refl true) ?_ | refine Exists.intro _ (And.intro (wI (by omega)) ?_) | refine Exists.intro _ (And.intro (wU (by omega)) ?_) | refine Exists.intro _ (And.intro ⟨rfl, by omega⟩ ?_) | refine Exists.intro _ (And.intro rfl ?_) | refine And.intro rfl ?_ | refine And.intro ⟨rfl, rfl⟩ ?_ | ((refine And.intro (fun _ => ?_) (fun _ => ?_)) <;> try (exfalso; omega))))
      exact Exists.intro [] (And.intro (rfl) (And.intro trivial rfl))

theorem lawDop (s : Int) (m : List Nat) (hm : m.length = 8) (p : Int × List Nat × Int) (hl : p.2.1.length = 16) (h1 : Spec Try.prog n_s_DiagramOfPartition [pv s m] [] (prV p) []) (h2 : Spec Try.prog n_i_DiagramOfPartition [pv s m] [] (prV p) []) : Spec Try.prog n_l_FnExactDiagramOfPartition [pv s m] [] (vb true) [] := by
  have he := VE.s_eqD p.1 p.2.1 hl
  refine SpecW.of_EV hf_l_FnExactDiagramOfPartition hc_l_FnExactDiagramOfPartition rfl rfl rfl fun w0 B ρ0 _ => ?_
  (repeat' (first | refine (s_toP s m hm).pure rfl ?_ | refine (h1).pure rfl ?_ | refine (h2).pure rfl ?_ | refine (he).pure rfl ?_ | refine Exists.intro (pcl p.1 p.2.1) (And.intro ⟨pcl_len hl, pcl_all hl⟩ ?_) | refine And.intro ⟨pcl_len hl, leR rfl, pcl_ones⟩ ?_ | refine Exists.intro (pcl p.1 p.2.1) (And.intro ⟨leR rfl, spl0 (leR rfl)⟩ ?_) | refine Exists.intro (pcl s m) (And.intro ⟨pcl_len hm, pcl_all hm⟩ ?_) | refine And.intro (fun _ => ?_) (fun h => absurd rfl h) | refine And.intro (neI rfl) ?_ | refine And.intro ⟨rfl, leR rfl, onesR rfl⟩ ?_ | refine And.intro ⟨rfl, leR rfl⟩ ?_ | refine draw_rule2 hfol (fun KK hKK => ?_) | refine hKK _ _ _ (by kernel_rfl) ?_ | refine region_rule (fun KK hKK => ?_) | refine hKK _ _ ?_ | refine And.intro (Eq.refl true) ?_ | refine Exists.intro _ (And.intro (wI (by omega)) ?_) | refine Exists.intro _ (And.intro (wU (by omega)) ?_) | refine Exists.intro _ (And.intro ⟨rfl, by omega⟩ ?_) | refine Exists.intro _ (And.intro rfl ?_) | refine And.intro rfl ?_ | refine And.intro ⟨rfl, rfl⟩ ?_ | ((refine And.intro (fun _ => ?_) (fun _ => ?_)) <;> try (exfalso; omega))))
  exact finP rfl
theorem s_lawDop (s : Int) (m : List Nat) (hm : m.length = 8) (hb : ∀ x ∈ m, x < 256) : Spec Try.prog n_l_FnExactDiagramOfPartition [pv s m] [] (vb true) [] := by
  cases hv : isPi s m with
  | false => exact lawDop s m hm _ (by simp) (s_sDopE s m hm hb hv) (s_iDopE s m hm hb hv)
  | true =>
    obtain ⟨n, hsn, hn1, hn⟩ := isPi_size hv
    by_cases h : plB n m = true ∧ allK kPair (kC (key n m) (2 * n)) (mx m (2 * n)) = true
    · have h1 := s_sDop s m hm hb n hsn hn1 hn hv h.1 h.2
      rw [spJ_eq hn (two_of h.2)] at h1
      exact lawDop s m hm _ (jD_len _) h1 (s_iDop s m hm hb n hsn hn1 hn hv h.1 h.2)
    · exact lawDop s m hm _ (by simp) (s_sDopS s m hm hb n hsn hn1 hn hv h) (s_iDopS s m hm hb n hsn hn1 hn hv h)
end Go.Proofs.Ytpangmameocfmaa.VE.P
