/- Contracts of functions of the given program, for all arguments that the contract names; see each theorem. -/
import Derived.Test.YtcibbadioijmcaaM14
set_option linter.all false
namespace Go.Proofs.Ytcibbadioijmcaa.VE
open Go
set_option maxHeartbeats 1600000
set_option maxRecDepth 100000

theorem blob_set {n : Nat} (m : List Nat) (hm : m.length = 16) : (bcB n m (List.replicate 16 false)).set 17 (.bool true) = bcB n m ((List.replicate 16 false).set 0 true) := bcB_bset (i := 0) hm r16b
theorem s_sblob (n : Nat) (hn1 : 1 ≤ n) (hn : n ≤ 8) : Spec Try.prog n_s_l09Blob [vi n] [] (bV n (un n) (((List.replicate 16 false).set 0 true).set n true)) [] := by
  have hu := s_sone n hn1 hn
  have l1 : ((List.replicate 16 false).set 0 true).length = 16 := by simp
  have l2 : (((List.replicate 16 false).set 0 true).set n true).length = 16 := by simp
  refine SpecW.of_EV hf_s_l09Blob hc_s_l09Blob rfl rfl rfl fun w0 B ρ0 _ => ?_
  (repeat' (first | refine Exists.intro 0 (And.intro ⟨rfl, leR rfl⟩ ?_) | refine (hu).pure rfl ?_ | refine And.intro ⟨pcl_size un_len, leR rfl⟩ ?_ | refine Exists.intro (bcB n (un n) (List.replicate 16 false)) (And.intro (bcB_sd (s := 0) (m := List.replicate 16 0) (bs := List.replicate 16 false) r16n r16b) ?_) | refine And.intro ⟨bcB_len un_len r16b, leR rfl, bcB_ones⟩ ?_ | refine Exists.intro (bcB n (un n) (List.replicate 16 false)) (And.intro ⟨leR rfl, spl0 (leR rfl)⟩ ?_) | refine Exists.intro (bcB n (un n) ((List.replicate 16 false).set 0 true)) (And.intro ⟨by rw [bcB_len un_len r16b]; omega, blob_set (un n) un_len⟩ ?_) | refine Exists.intro (bcB n (un n) (((List.replicate 16 false).set 0 true).set n true)) (And.intro ⟨by rw [bcB_len un_len l1]; omega, bcB_bset un_len l1⟩ ?_) | refine Exists.intro (bcB n (un n) (((List.replicate 16 false).set 0 true).set n true)) (And.intro ⟨bcB_len un_len l2, bcB_all un_len l2⟩ ?_) | refine And.intro ⟨bcB_len un_len l2, leR rfl, bcB_ones⟩ ?_ | refine Exists.intro (bcB n (un n) (((List.replicate 16 false).set 0 true).set n true)) (And.intro ⟨leR rfl, spl0 (leR rfl)⟩ ?_) | refine And.intro (neI rfl) ?_ | refine And.intro ⟨rfl, leR rfl, onesR rfl⟩ ?_ | refine And.intro ⟨rfl, leR rfl⟩ ?_ | refine draw_rule2 hfol (fun KK hKK => ?_) | refine hKK _ _ _ (by kernel_rfl) ?_ | refine region_rule (fun KK hKK => ?_) | refine hKK _ _ ?_ | refine And.intro (Eq.refl true) ?_ | refine Exists.intro _ (And.intro (wI (by omega)) ?_) | refine Exists.intro _ (And.intro (wU (by omega)) ?_) | refine Exists.intro _ (And.intro ⟨rfl, by omega⟩ ?_) | refine Exists.intro _ (And.intro rfl ?_) | refine And.intro rfl ?_ | refine And.intro ⟨rfl, rfl⟩ ?_ | ((refine And.intro (fun _ => ?_) (fun _ => ?_)) <;> try (exfalso; omega))))
  exact Exists.intro [] (And.intro (rfl) (And.intro trivial rfl))
theorem s_iblob (n : Nat) (hn1 : 1 ≤ n) (hn : n ≤ 8) : Spec Try.prog n_i_blob [vi n] [] (bV n (un n) (((List.replicate 16 false).set 0 true).set n true)) [] := by
  have hu := s_iunit n hn1 hn
  have hfol : Try.prog.follows .mixedOrders = true := rfl
  have l1 : ((List.replicate 16 false).set 0 true).length = 16 := by simp
  have l2 : (((List.replicate 16 false).set 0 true).set n true).length = 16 := by simp
  refine SpecW.of_EV hf_i_blob hc_i_blob rfl rfl rfl fun w0 B ρ0 _ => ?_
  (repeat' (first | refine Exists.intro 0 (And.intro ⟨rfl, leR rfl⟩ ?_) | refine (hu).pure rfl ?_ | refine And.intro ⟨pcl_size un_len, leR rfl⟩ ?_ | refine Exists.intro (bcB n (un n) (List.replicate 16 false)) (And.intro (bcB_sd (s := 0) (m := List.replicate 16 0) (bs := List.replicate 16 false) r16n r16b) ?_) | refine And.intro ⟨bcB_len un_len r16b, leR rfl, bcB_ones⟩ ?_ | refine Exists.intro (bcB n (un n) (List.replicate 16 false)) (And.intro ⟨leR rfl, spl0 (leR rfl)⟩ ?_) | refine Exists.intro (bcB n (un n) ((List.replicate 16 false).set 0 true)) (And.intro ⟨by rw [bcB_len un_len r16b]; omega, blob_set (un n) un_len⟩ ?_) | refine Exists.intro (bcB n (un n) (((List.replicate 16 false).set 0 true).set n true)) (And.intro ⟨by rw [bcB_len un_len l1]; omega, bcB_bset un_len l1⟩ ?_) | refine Exists.intro (bcB n (un n) (((List.replicate 16 false).set 0 true).set n true)) (And.intro ⟨bcB_len un_len l2, bcB_all un_len l2⟩ ?_) | refine And.intro ⟨bcB_len un_len l2, leR rfl, bcB_ones⟩ ?_ | refine Exists.intro (bcB n (un n) (((List.replicate 16 false).set 0 true).set n true)) (And.intro ⟨leR rfl, spl0 (leR rfl)⟩ ?_) | refine And.intro (neI rfl) ?_ | refine And.intro ⟨rfl, leR rfl, onesR rfl⟩ ?_ | refine And.intro ⟨rfl, leR rfl⟩ ?_ | refine draw_rule2 hfol (fun KK hKK => ?_) | refine hKK _ _ _ (by kernel_rfl) ?_ | refine region_rule (fun KK hKK => ?_) | refine hKK _ _ ?_ | refine And.intro (Eq.refl true) ?_ | refine Exists.intro _ (And.intro (wI (by omega)) ?_) | refine Exists.intro _ (And.intro (wU (by omega)) ?_) | refine Exists.intro _ (And.intro ⟨rfl, by omega⟩ ?_) | refine Exists.intro _ (And.intro rfl ?_) | refine And.intro rfl ?_ | refine And.intro ⟨rfl, rfl⟩ ?_ | ((refine And.intro (fun _ => ?_) (fun _ => ?_)) <;> try (exfalso; omega))))
  exact Exists.intro [] (And.intro (rfl) (And.intro trivial rfl))
theorem s_sstep (n : Nat) (x : Int) (hn1 : 1 ≤ n) (hn : n ≤ 8) (hx : -1 ≤ x ∧ x ≤ (n : Int) - 2) : Spec Try.prog n_s_l09Step [vi n, vi x] [] (bV n (gm n x) (gbl n x)) [] := by
  by_cases h : x < 0
  · have hb := s_sblob n hn1 hn
    have l2 : (((List.replicate 16 false).set 0 true).set n true).length = 16 := by simp
    unfold gm gbl
    rw [if_pos h, if_pos h]
    refine SpecW.of_EV hf_s_l09Step hc_s_l09Step rfl rfl rfl fun w0 B ρ0 _ => ?_
    (repeat' (first | refine (hb).pure rfl ?_ | refine And.intro ⟨bcB_len un_len l2, leR rfl, bcB_ones⟩ ?_ | refine Exists.intro (bcB n (un n) (((List.replicate 16 false).set 0 true).set n true)) (And.intro ⟨leR rfl, spl0 (leR rfl)⟩ ?_) | refine Exists.intro (bcB n (un n) (((List.replicate 16 false).set 0 true).set n true)) (And.intro ⟨bcB_len un_len l2, bcB_all un_len l2⟩ ?_) | refine And.intro (neI rfl) ?_ | refine And.intro ⟨rfl, leR rfl, onesR rfl⟩ ?_ | refine And.intro ⟨rfl, leR rfl⟩ ?_ | refine draw_rule2 hfol (fun KK hKK => ?_) | refine hKK _ _ _ (by kernel_rfl) ?_ | refine region_rule (fun KK hKK => ?_) | refine hKK _ _ ?_ | refine And.intro (Eq.refl true) ?_ | refine Exists.intro _ (And.intro (wI (by omega)) ?_) | refine Exists.intro _ (And.intro (wU (by omega)) ?_) | refine Exists.intro _ (And.intro ⟨rfl, by omega⟩ ?_) | refine Exists.intro _ (And.intro rfl ?_) | refine And.intro rfl ?_ | refine And.intro ⟨rfl, rfl⟩ ?_ | ((refine And.intro (fun _ => ?_) (fun _ => ?_)) <;> try (exfalso; omega))))
    exact Exists.intro [] (And.intro (rfl) (And.intro trivial rfl))
  · obtain ⟨k, rfl⟩ : ∃ k : Nat, x = k := ⟨x.toNat, by omega⟩
    have hb := s_scup n k hn (by omega)
    unfold gm gbl
    rw [if_neg h, if_neg h, Int.toNat_natCast]
    refine SpecW.of_EV hf_s_l09Step hc_s_l09Step rfl rfl rfl fun w0 B ρ0 _ => ?_
    (repeat' (first | refine (hb).pure rfl ?_ | refine And.intro ⟨pcl_size gen_len, leR rfl⟩ ?_ | refine Exists.intro (bcB n (gen n k) (List.replicate 16 false)) (And.intro (bcB_sd (s := 0) (m := List.replicate 16 0) (bs := List.replicate 16 false) r16n r16b) ?_) | refine And.intro ⟨bcB_len gen_len r16b, leR rfl, bcB_ones⟩ ?_ | refine Exists.intro (bcB n (gen n k) (List.replicate 16 false)) (And.intro ⟨leR rfl, spl0 (leR rfl)⟩ ?_) | refine Exists.intro (bcB n (gen n k) (List.replicate 16 false)) (And.intro ⟨bcB_len gen_len r16b, bcB_all gen_len r16b⟩ ?_) | refine And.intro (neI rfl) ?_ | refine And.intro ⟨rfl, leR rfl, onesR rfl⟩ ?_ | refine And.intro ⟨rfl, leR rfl⟩ ?_ | refine draw_rule2 hfol (fun KK hKK => ?_) | refine hKK _ _ _ (by kernel_rfl) ?_ | refine region_rule (fun KK hKK => ?_) | refine hKK _ _ ?_ | refine And.intro (Eq.refl true) ?_ | refine Exists.intro _ (And.intro (wI (by omega)) ?_) | refine Exists.intro _ (And.intro (wU (by omega)) ?_) | refine Exists.intro _ (And.intro ⟨rfl, by omega⟩ ?_) | refine Exists.intro _ (And.intro rfl ?_) | refine And.intro rfl ?_ | refine And.intro ⟨rfl, rfl⟩ ?_ | ((refine And.intro (fun _ => ?_) (fun _ => ?_)) <;> try (exfalso; omega))))
    exact Exists.intro [] (And.intro (rfl) (And.intro trivial rfl))
theorem s_istep (n : Nat) (x : Int) (hn1 : 1 ≤ n) (hn : n ≤ 8) (hx : -1 ≤ x ∧ x ≤ (n : Int) - 2) : Spec Try.prog n_i_blobFactor [vi n, vi x] [] (bV n (gm n x) (gbl n x)) [] := by
  by_cases h : x < 0
  · obtain rfl : x = -1 := by omega
    have hb := s_iblob n hn1 hn
    have l2 : (((List.replicate 16 false).set 0 true).set n true).length = 16 := by simp
    unfold gm gbl
    rw [if_pos h, if_pos h]
    refine SpecW.of_EV hf_i_blobFactor hc_i_blobFactor rfl rfl rfl fun w0 B ρ0 _ => ?_
    (repeat' (first | refine (hb).pure rfl ?_ | refine And.intro ⟨bcB_len un_len l2, leR rfl, bcB_ones⟩ ?_ | refine Exists.intro (bcB n (un n) (((List.replicate 16 false).set 0 true).set n true)) (And.intro ⟨leR rfl, spl0 (leR rfl)⟩ ?_) | refine Exists.intro (bcB n (un n) (((List.replicate 16 false).set 0 true).set n true)) (And.intro ⟨bcB_len un_len l2, bcB_all un_len l2⟩ ?_) | refine And.intro (neI rfl) ?_ | refine And.intro ⟨rfl, leR rfl, onesR rfl⟩ ?_ | refine And.intro ⟨rfl, leR rfl⟩ ?_ | refine draw_rule2 hfol (fun KK hKK => ?_) | refine hKK _ _ _ (by kernel_rfl) ?_ | refine region_rule (fun KK hKK => ?_) | refine hKK _ _ ?_ | refine And.intro (Eq.refl true) ?_ | refine Exists.intro _ (And.intro (wI (by omega)) ?_) | refine Exists.intro _ (And.intro (wU (by omega)) ?_) | refine Exists.intro _ (And.intro ⟨rfl, by omega⟩ ?_) | refine Exists.intro _ (And.intro rfl ?_) | refine And.intro rfl ?_ | refine And.intro ⟨rfl, rfl⟩ ?_ | ((refine And.intro (fun _ => ?_) (fun _ => ?_)) <;> try (exfalso; omega))))
    exact Exists.intro [] (And.intro (rfl) (And.intro trivial rfl))
  · obtain ⟨k, rfl⟩ : ∃ k : Nat, x = k := ⟨x.toNat, by omega⟩
    have hb := s_igen n k hn (by omega)
    unfold gm gbl
    rw [if_neg h, if_neg h, Int.toNat_natCast]
    refine SpecW.of_EV hf_i_blobFactor hc_i_blobFactor rfl rfl rfl fun w0 B ρ0 _ => ?_
    (repeat' (first | refine (hb).pure rfl ?_ | refine And.intro ⟨pcl_size gen_len, leR rfl⟩ ?_ | refine Exists.intro (bcB n (gen n k) (List.replicate 16 false)) (And.intro (bcB_sd (s := 0) (m := List.replicate 16 0) (bs := List.replicate 16 false) r16n r16b) ?_) | refine And.intro ⟨bcB_len gen_len r16b, leR rfl, bcB_ones⟩ ?_ | refine Exists.intro (bcB n (gen n k) (List.replicate 16 false)) (And.intro ⟨leR rfl, spl0 (leR rfl)⟩ ?_) | refine Exists.intro (bcB n (gen n k) (List.replicate 16 false)) (And.intro ⟨bcB_len gen_len r16b, bcB_all gen_len r16b⟩ ?_) | refine And.intro (neI rfl) ?_ | refine And.intro ⟨rfl, leR rfl, onesR rfl⟩ ?_ | refine And.intro ⟨rfl, leR rfl⟩ ?_ | refine draw_rule2 hfol (fun KK hKK => ?_) | refine hKK _ _ _ (by kernel_rfl) ?_ | refine region_rule (fun KK hKK => ?_) | refine hKK _ _ ?_ | refine And.intro (Eq.refl true) ?_ | refine Exists.intro _ (And.intro (wI (by omega)) ?_) | refine Exists.intro _ (And.intro (wU (by omega)) ?_) | refine Exists.intro _ (And.intro ⟨rfl, by omega⟩ ?_) | refine Exists.intro _ (And.intro rfl ?_) | refine And.intro rfl ?_ | refine And.intro ⟨rfl, rfl⟩ ?_ | ((refine And.intro (fun _ => ?_) (fun _ => ?_)) <;> try (exfalso; omega))))
    exact Exists.intro [] (And.intro (rfl) (And.intro trivial rfl))
end Go.Proofs.Ytcibbadioijmcaa.VE
