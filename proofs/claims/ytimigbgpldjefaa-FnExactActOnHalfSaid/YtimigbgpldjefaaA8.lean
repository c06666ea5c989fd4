/- Contracts of functions of the given program, for all arguments that the contract names; see each theorem. -/
import Derived.Test.YtimigbgpldjefaaA7
set_option linter.all false
namespace Go.Proofs.Ytimigbgpldjefaa.VE
open Go
set_option maxHeartbeats 800000
set_option maxRecDepth 100000

theorem isH_elim {bs : ByteArray} (h : isH bs = true) : (1 ≤ bs.size ∧ bs.size ≤ 8) ∧ phR bs = (true, [], (phR bs).2.2) := by
  unfold isH at h
  simp only [Bool.and_eq_true, decide_eq_true_eq] at h
  obtain ⟨h1, h2, h3⟩ := h
  refine ⟨h1, ?_⟩
  generalize phR bs = p at h2 h3 ⊢
  obtain ⟨a, b, c⟩ := p
  simp only [] at h2 h3 ⊢
  rw [h2, List.length_eq_zero_iff.1 h3]
section
variable (d : List Nat) (bs : ByteArray) (h18 : 1 ≤ bs.size ∧ bs.size ≤ 8) (hp : phR bs = (true, [], (phR bs).2.2)) (hd : IsV bs.size d)
include h18 hp hd
theorem s_acted : Spec Try.prog n_i_acted [.ptr 0 0, .raw (.string bs)] [.pc (pcl bs.size d) T_i_Diagram] (.tup [.raw (.string (acS d bs)), vi (acL d bs : Nat)]) [.pc (pcl bs.size d) T_i_Diagram] := by
  have hl := hd.len
  have hV := hd_V h18.1 h18.2 (phR_ok hp)
  have hlo := (oL_inv hd hV bs.size (Nat.le_refl _)).1
  have hPV := oL_V hd hV
  have h1 := s_ofHalves bs (phR bs).2.2 h18 hp
  have h2 := s_times bs.size d (ml (hdF bs.size (tb bs) (phR bs).2.2)) hd hV
  have h3 := s_halfOf bs.size (acP d bs) hPV 0 (.inl rfl)
  have h4 := s_openP (hB bs.size (acP d bs) 0 bs.size) (by rw [hB_size]; omega)
  have h5 := s_openP bs (by omega)
  rw [hB_size] at h4
  have hlt : (opn (tb (hB bs.size (acP d bs) 0 bs.size)) bs.size).length ≤ bs.size := opn_le
  have hlt2 : (opn (tb bs) bs.size).length ≤ bs.size := opn_le
  have hfol : Try.prog.follows .mixedOrders = true := rfl
  refine SpecW.of_EV hf_i_acted hc_i_acted rfl rfl rfl fun w0 B ρ0 _ => ?_
  by_cases hc : (opn (tb (hB bs.size (acP d bs) 0 bs.size)) bs.size).length < (opn (tb bs) bs.size).length
  · have hr : acS d bs = ⟨#[]⟩ := if_pos hc
    (repeat' (first | refine (h1).pure rfl ?_ | refine (h2).pure rfl ?_ | refine (h3).read [1] rfl ⟨rfl, trivial⟩ ?_ | refine (h4).make [] rfl trivial ?_ | refine (h5).make [] rfl trivial ?_ | refine Exists.intro (pcl (bs.size : Int) d) (And.intro ⟨pcl_len hl, pcl_all hl⟩ ?_) | refine And.intro ⟨pcl_len hl, leR rfl, pcl_ones⟩ ?_ | refine Exists.intro (pcl (bs.size : Int) d) (And.intro ⟨leR rfl, spl0 (leR rfl)⟩ ?_) | refine Exists.intro (pcl (bs.size : Int) (acP d bs)) (And.intro ⟨pcl_len hlo, pcl_all hlo⟩ ?_) | refine And.intro ⟨pcl_len hlo, leR rfl, pcl_ones⟩ ?_ | refine Exists.intro (pcl (bs.size : Int) (acP d bs)) (And.intro ⟨leR rfl, spl0 (leR rfl)⟩ ?_) | refine And.intro (neI rfl) ?_ | refine And.intro ⟨rfl, leR rfl, onesR rfl⟩ ?_ | refine And.intro ⟨rfl, leR rfl⟩ ?_ | refine draw_rule2 hfol (fun KK hKK => ?_) | refine hKK _ _ _ (by kernel_rfl) ?_ | refine region_rule (fun KK hKK => ?_) | refine hKK _ _ ?_ | refine And.intro (Eq.refl true) ?_ | refine Exists.intro _ (And.intro (wI (by omega)) ?_) | refine Exists.intro _ (And.intro (wU (by omega)) ?_) | refine Exists.intro _ (And.intro ⟨rfl, by omega⟩ ?_) | refine Exists.intro _ (And.intro rfl ?_) | refine And.intro rfl ?_ | refine And.intro ⟨rfl, rfl⟩ ?_ | ((refine And.intro (fun _ => ?_) (fun _ => ?_)) <;> try (exfalso; omega))))
    exact Exists.intro [0] (And.intro (by rw [hr]; rfl) (And.intro ⟨rfl, trivial⟩ rfl))
  · have hr : acS d bs = hB bs.size (acP d bs) 0 bs.size := if_neg hc
    (repeat' (first | refine (h1).pure rfl ?_ | refine (h2).pure rfl ?_ | refine (h3).read [1] rfl ⟨rfl, trivial⟩ ?_ | refine (h4).make [] rfl trivial ?_ | refine (h5).make [] rfl trivial ?_ | refine Exists.intro (pcl (bs.size : Int) d) (And.intro ⟨pcl_len hl, pcl_all hl⟩ ?_) | refine And.intro ⟨pcl_len hl, leR rfl, pcl_ones⟩ ?_ | refine Exists.intro (pcl (bs.size : Int) d) (And.intro ⟨leR rfl, spl0 (leR rfl)⟩ ?_) | refine Exists.intro (pcl (bs.size : Int) (acP d bs)) (And.intro ⟨pcl_len hlo, pcl_all hlo⟩ ?_) | refine And.intro ⟨pcl_len hlo, leR rfl, pcl_ones⟩ ?_ | refine Exists.intro (pcl (bs.size : Int) (acP d bs)) (And.intro ⟨leR rfl, spl0 (leR rfl)⟩ ?_) | refine And.intro (neI rfl) ?_ | refine And.intro ⟨rfl, leR rfl, onesR rfl⟩ ?_ | refine And.intro ⟨rfl, leR rfl⟩ ?_ | refine draw_rule2 hfol (fun KK hKK => ?_) | refine hKK _ _ _ (by kernel_rfl) ?_ | refine region_rule (fun KK hKK => ?_) | refine hKK _ _ ?_ | refine And.intro (Eq.refl true) ?_ | refine Exists.intro _ (And.intro (wI (by omega)) ?_) | refine Exists.intro _ (And.intro (wU (by omega)) ?_) | refine Exists.intro _ (And.intro ⟨rfl, by omega⟩ ?_) | refine Exists.intro _ (And.intro rfl ?_) | refine And.intro rfl ?_ | refine And.intro ⟨rfl, rfl⟩ ?_ | ((refine And.intro (fun _ => ?_) (fun _ => ?_)) <;> try (exfalso; omega))))
    exact Exists.intro [0] (And.intro (by rw [hr]; rfl) (And.intro ⟨rfl, trivial⟩ rfl))
theorem s_l04Act : Spec Try.prog n_s_l04Act [pv bs.size d, .raw (.string bs)] [] (.tup [.raw (.string (acS d bs)), vi (acL d bs : Nat)]) [] := by
  have hl := hd.len
  have hV := hd_V h18.1 h18.2 (phR_ok hp)
  have hlo := (oL_inv hd hV bs.size (Nat.le_refl _)).1
  have hPV := oL_V hd hV
  have h1 := s_l04Diag bs (phR bs).2.2 h18 hp
  have h2 := s_stimes bs.size d (ml (hdF bs.size (tb bs) (phR bs).2.2)) hd hV
  have h3 := s_shalf bs.size (acP d bs) hPV false
  have h4 := s_l04Open (hB bs.size (acP d bs) 0 bs.size) (by rw [hB_size]; omega)
  have h5 := s_l04Open bs (by omega)
  rw [hB_size] at h4
  have hle := act_le hd (phR_ok hp)
  have hlt : (opn (tb (hB bs.size (acP d bs) 0 bs.size)) bs.size).length ≤ bs.size := opn_le
  have hlt2 : (opn (tb bs) bs.size).length ≤ bs.size := opn_le
  have hfol : Try.prog.follows .mixedOrders = true := rfl
  refine SpecW.of_EV hf_s_l04Act hc_s_l04Act rfl rfl rfl fun w0 B ρ0 _ => ?_
  by_cases hc : (opn (tb (hB bs.size (acP d bs) 0 bs.size)) bs.size).length < (opn (tb bs) bs.size).length
  · have hr : acS d bs = ⟨#[]⟩ := if_pos hc
    have hne : (((opn (tb (hB bs.size (acP d bs) 0 bs.size)) bs.size).length : Nat) : Int) ≠ (((opn (tb bs) bs.size).length : Nat) : Int) := by omega
    (repeat' (first | refine (h1).pure rfl ?_ | refine (h2).pure rfl ?_ | refine (h3).pure rfl ?_ | refine (h4).pure rfl ?_ | refine (h5).pure rfl ?_ | refine Exists.intro (pcl (bs.size : Int) d) (And.intro ⟨pcl_len hl, pcl_all hl⟩ ?_) | refine And.intro ⟨pcl_len hl, leR rfl, pcl_ones⟩ ?_ | refine Exists.intro (pcl (bs.size : Int) d) (And.intro ⟨leR rfl, spl0 (leR rfl)⟩ ?_) | refine Exists.intro (pcl (bs.size : Int) (acP d bs)) (And.intro ⟨pcl_len hlo, pcl_all hlo⟩ ?_) | refine And.intro ⟨pcl_len hlo, leR rfl, pcl_ones⟩ ?_ | refine Exists.intro (pcl (bs.size : Int) (acP d bs)) (And.intro ⟨leR rfl, spl0 (leR rfl)⟩ ?_) | refine And.intro (neI rfl) ?_ | refine And.intro ⟨rfl, leR rfl, onesR rfl⟩ ?_ | refine And.intro ⟨rfl, leR rfl⟩ ?_ | refine draw_rule2 hfol (fun KK hKK => ?_) | refine hKK _ _ _ (by kernel_rfl) ?_ | refine region_rule (fun KK hKK => ?_) | refine hKK _ _ ?_ | refine And.intro (Eq.refl true) ?_ | refine Exists.intro _ (And.intro (wI (by omega)) ?_) | refine Exists.intro _ (And.intro (wU (by omega)) ?_) | refine Exists.intro _ (And.intro ⟨rfl, by omega⟩ ?_) | refine Exists.intro _ (And.intro rfl ?_) | refine And.intro rfl ?_ | refine And.intro ⟨rfl, rfl⟩ ?_ | ((refine And.intro (fun _ => ?_) (fun _ => ?_)) <;> try (exfalso; omega))))
    exact Exists.intro [] (And.intro (by rw [hr]; rfl) (And.intro trivial rfl))
  · have hr : acS d bs = hB bs.size (acP d bs) 0 bs.size := if_neg hc
    have heq : (((opn (tb (hB bs.size (acP d bs) 0 bs.size)) bs.size).length : Nat) : Int) = (((opn (tb bs) bs.size).length : Nat) : Int) := by
      have hle' : (opn (tb (hB bs.size (acP d bs) 0 bs.size)) bs.size).length ≤ (opn (tb bs) bs.size).length := hle
      omega
    (repeat' (first | refine (h1).pure rfl ?_ | refine (h2).pure rfl ?_ | refine (h3).pure rfl ?_ | refine (h4).pure rfl ?_ | refine (h5).pure rfl ?_ | refine Exists.intro (pcl (bs.size : Int) d) (And.intro ⟨pcl_len hl, pcl_all hl⟩ ?_) | refine And.intro ⟨pcl_len hl, leR rfl, pcl_ones⟩ ?_ | refine Exists.intro (pcl (bs.size : Int) d) (And.intro ⟨leR rfl, spl0 (leR rfl)⟩ ?_) | refine Exists.intro (pcl (bs.size : Int) (acP d bs)) (And.intro ⟨pcl_len hlo, pcl_all hlo⟩ ?_) | refine And.intro ⟨pcl_len hlo, leR rfl, pcl_ones⟩ ?_ | refine Exists.intro (pcl (bs.size : Int) (acP d bs)) (And.intro ⟨leR rfl, spl0 (leR rfl)⟩ ?_) | refine And.intro (neI rfl) ?_ | refine And.intro ⟨rfl, leR rfl, onesR rfl⟩ ?_ | refine And.intro ⟨rfl, leR rfl⟩ ?_ | refine draw_rule2 hfol (fun KK hKK => ?_) | refine hKK _ _ _ (by kernel_rfl) ?_ | refine region_rule (fun KK hKK => ?_) | refine hKK _ _ ?_ | refine And.intro (Eq.refl true) ?_ | refine Exists.intro _ (And.intro (wI (by omega)) ?_) | refine Exists.intro _ (And.intro (wU (by omega)) ?_) | refine Exists.intro _ (And.intro ⟨rfl, by omega⟩ ?_) | refine Exists.intro _ (And.intro rfl ?_) | refine And.intro rfl ?_ | refine And.intro ⟨rfl, rfl⟩ ?_ | ((refine And.intro (fun _ => ?_) (fun _ => ?_)) <;> try (exfalso; omega))))
    exact Exists.intro [] (And.intro (by rw [hr]; rfl) (And.intro trivial rfl))
end
/-- The answer. -/
def ahR (s : Int) (m : List Nat) (bs : ByteArray) : ByteArray × Int × Int :=
  if isDi s m && isH bs then (if s = bs.size then (acS m bs, ((acL m bs : Nat) : Int), 0) else (⟨#[]⟩, 0, 2)) else (⟨#[]⟩, 0, 1)
abbrev ahV (r : ByteArray × Int × Int) : V := .tup [.raw (.string r.1), vi r.2.1, vi r.2.2]
theorem s_sAct (s : Int) (m : List Nat) (hm : m.length = 16) (hb : ∀ x ∈ m, x < 256) (bs : ByteArray) : Spec Try.prog n_s_ActOnHalf [pv s m, .raw (.string bs)] [] (ahV (ahR s m bs)) [] := by
  have hq := s_sIs' s m hm hb
  have hh := s_l04Is bs
  refine SpecW.of_EV hf_s_ActOnHalf hc_s_ActOnHalf rfl rfl rfl fun w0 B ρ0 _ => ?_
  cases hv : isDi s m with
  | false =>
    have hr : ahR s m bs = (⟨#[]⟩, 0, 1) := by unfold ahR; rw [hv]; rfl
    rw [hv] at hq
    (repeat' (first | refine (hq).pure rfl ?_ | refine (hh).pure rfl ?_ | refine Exists.intro (pcl s m) (And.intro ⟨pcl_len hm, pcl_all hm⟩ ?_) | refine And.intro (neI rfl) ?_ | refine And.intro ⟨rfl, leR rfl, onesR rfl⟩ ?_ | refine And.intro ⟨rfl, leR rfl⟩ ?_ | refine draw_rule2 hfol (fun KK hKK => ?_) | refine hKK _ _ _ (by kernel_rfl) ?_ | refine region_rule (fun KK hKK => ?_) | refine hKK _ _ ?_ | refine And.intro (Eq.refl true) ?_ | refine Exists.intro _ (And.intro (wI (by omega)) ?_) | refine Exists.intro _ (And.intro (wU (by omega)) ?_) | refine Exists.intro _ (And.intro ⟨rfl, by omega⟩ ?_) | refine Exists.intro _ (And.intro rfl ?_) | refine And.intro rfl ?_ | refine And.intro ⟨rfl, rfl⟩ ?_ | ((refine And.intro (fun _ => ?_) (fun _ => ?_)) <;> try (exfalso; omega))))
    exact Exists.intro [] (And.intro (by rw [hr]; rfl) (And.intro trivial rfl))
  | true =>
    rw [hv] at hq
    cases hx : isH bs with
    | false =>
      have hr : ahR s m bs = (⟨#[]⟩, 0, 1) := by unfold ahR; rw [hv, hx]; rfl
      rw [hx] at hh
      (repeat' (first | refine (hq).pure rfl ?_ | refine (hh).pure rfl ?_ | refine Exists.intro (pcl s m) (And.intro ⟨pcl_len hm, pcl_all hm⟩ ?_) | refine And.intro (neI rfl) ?_ | refine And.intro ⟨rfl, leR rfl, onesR rfl⟩ ?_ | refine And.intro ⟨rfl, leR rfl⟩ ?_ | refine draw_rule2 hfol (fun KK hKK => ?_) | refine hKK _ _ _ (by kernel_rfl) ?_ | refine region_rule (fun KK hKK => ?_) | refine hKK _ _ ?_ | refine And.intro (Eq.refl true) ?_ | refine Exists.intro _ (And.intro (wI (by omega)) ?_) | refine Exists.intro _ (And.intro (wU (by omega)) ?_) | refine Exists.intro _ (And.intro ⟨rfl, by omega⟩ ?_) | refine Exists.intro _ (And.intro rfl ?_) | refine And.intro rfl ?_ | refine And.intro ⟨rfl, rfl⟩ ?_ | ((refine And.intro (fun _ => ?_) (fun _ => ?_)) <;> try (exfalso; omega))))
      exact Exists.intro [] (And.intro (by rw [hr]; rfl) (And.intro trivial rfl))
    | true =>
      rw [hx] at hh
      obtain ⟨n, rfl, hd⟩ := isDi_elim hm hv
      obtain ⟨h18, hp⟩ := isH_elim hx
      by_cases hn : (n : Int) = bs.size
      · have hr : ahR n m bs = (acS m bs, ((acL m bs : Nat) : Int), 0) := by unfold ahR; rw [hv, hx]; rw [if_pos (show (true && true) = true from rfl), if_pos hn]
        obtain rfl : n = bs.size := by omega
        have ha := s_l04Act m bs h18 hp hd.toIsV
        (repeat' (first | refine (hq).pure rfl ?_ | refine (hh).pure rfl ?_ | refine (ha).pure rfl ?_ | refine Exists.intro (pcl (bs.size : Int) m) (And.intro ⟨pcl_len hm, pcl_all hm⟩ ?_) | refine And.intro (neI rfl) ?_ | refine And.intro ⟨rfl, leR rfl, onesR rfl⟩ ?_ | refine And.intro ⟨rfl, leR rfl⟩ ?_ | refine draw_rule2 hfol (fun KK hKK => ?_) | refine hKK _ _ _ (by kernel_rfl) ?_ | refine region_rule (fun KK hKK => ?_) | refine hKK _ _ ?_ | refine And.intro (Eq.refl true) ?_ | refine Exists.intro _ (And.intro (wI (by omega)) ?_) | refine Exists.intro _ (And.intro (wU (by omega)) ?_) | refine Exists.intro _ (And.intro ⟨rfl, by omega⟩ ?_) | refine Exists.intro _ (And.intro rfl ?_) | refine And.intro rfl ?_ | refine And.intro ⟨rfl, rfl⟩ ?_ | ((refine And.intro (fun _ => ?_) (fun _ => ?_)) <;> try (exfalso; omega))))
        exact Exists.intro [] (And.intro (by rw [hr]; rfl) (And.intro trivial rfl))
      · have hr : ahR n m bs = (⟨#[]⟩, 0, 2) := by unfold ahR; rw [hv, hx]; rw [if_pos (show (true && true) = true from rfl), if_neg hn]
        (repeat' (first | refine (hq).pure rfl ?_ | refine (hh).pure rfl ?_ | refine Exists.intro (pcl (n : Int) m) (And.intro ⟨pcl_len hm, pcl_all hm⟩ ?_) | refine And.intro (neI rfl) ?_ | refine And.intro ⟨rfl, leR rfl, onesR rfl⟩ ?_ | refine And.intro ⟨rfl, leR rfl⟩ ?_ | refine draw_rule2 hfol (fun KK hKK => ?_) | refine hKK _ _ _ (by kernel_rfl) ?_ | refine region_rule (fun KK hKK => ?_) | refine hKK _ _ ?_ | refine And.intro (Eq.refl true) ?_ | refine Exists.intro _ (And.intro (wI (by omega)) ?_) | refine Exists.intro _ (And.intro (wU (by omega)) ?_) | refine Exists.intro _ (And.intro ⟨rfl, by omega⟩ ?_) | refine Exists.intro _ (And.intro rfl ?_) | refine And.intro rfl ?_ | refine And.intro ⟨rfl, rfl⟩ ?_ | ((refine And.intro (fun _ => ?_) (fun _ => ?_)) <;> try (exfalso; omega))))
        exact Exists.intro [] (And.intro (by rw [hr]; rfl) (And.intro trivial rfl))
theorem s_iAct (s : Int) (m : List Nat) (hm : m.length = 16) (hb : ∀ x ∈ m, x < 256) (bs : ByteArray) (hN : bs.size ≤ 1048576) : Spec Try.prog n_i_ActOnHalf [pv s m, .raw (.string bs)] [] (ahV (ahR s m bs)) [] := by
  have hq := s_invalid1D s m hm hb
  have hh := s_isHalf bs hN
  refine SpecW.of_EV hf_i_ActOnHalf hc_i_ActOnHalf rfl rfl rfl fun w0 B ρ0 _ => ?_
  cases hv : isDi s m with
  | false =>
    have hr : ahR s m bs = (⟨#[]⟩, 0, 1) := by unfold ahR; rw [hv]; rfl
    rw [hv] at hq
    simp only [Bool.not_false, cond_true] at hq
    (repeat' (first | refine (hq).read [1] rfl ⟨rfl, trivial⟩ ?_ | refine (hh).pure rfl ?_ | refine Exists.intro (pcl s m) (And.intro ⟨pcl_len hm, pcl_all hm⟩ ?_) | refine And.intro ⟨pcl_len hm, mkL rfl⟩ ?_ | refine Exists.intro (rowP [(s, m)]) (And.intro (row1 (N := 17) (p := (s, m)) (mkL' rfl)) ?_) | refine And.intro (neI rfl) ?_ | refine And.intro ⟨rfl, leR rfl, onesR rfl⟩ ?_ | refine And.intro ⟨rfl, leR rfl⟩ ?_ | refine draw_rule2 hfol (fun KK hKK => ?_) | refine hKK _ _ _ (by kernel_rfl) ?_ | refine region_rule (fun KK hKK => ?_) | refine hKK _ _ ?_ | refine And.intro (Eq.refl true) ?_ | refine Exists.intro _ (And.intro (wI (by omega)) ?_) | refine Exists.intro _ (And.intro (wU (by omega)) ?_) | refine Exists.intro _ (And.intro ⟨rfl, by omega⟩ ?_) | refine Exists.intro _ (And.intro rfl ?_) | refine And.intro rfl ?_ | refine And.intro ⟨rfl, rfl⟩ ?_ | ((refine And.intro (fun _ => ?_) (fun _ => ?_)) <;> try (exfalso; omega))))
    exact Exists.intro [] (And.intro (by rw [hr]; rfl) (And.intro trivial rfl))
  | true =>
    rw [hv] at hq
    simp only [Bool.not_true, cond_false] at hq
    cases hx : isH bs with
    | false =>
      have hr : ahR s m bs = (⟨#[]⟩, 0, 1) := by unfold ahR; rw [hv, hx]; rfl
      rw [hx] at hh
      (repeat' (first | refine (hq).read [1] rfl ⟨rfl, trivial⟩ ?_ | refine (hh).pure rfl ?_ | refine Exists.intro (pcl s m) (And.intro ⟨pcl_len hm, pcl_all hm⟩ ?_) | refine And.intro ⟨pcl_len hm, mkL rfl⟩ ?_ | refine Exists.intro (rowP [(s, m)]) (And.intro (row1 (N := 17) (p := (s, m)) (mkL' rfl)) ?_) | refine And.intro (neI rfl) ?_ | refine And.intro ⟨rfl, leR rfl, onesR rfl⟩ ?_ | refine And.intro ⟨rfl, leR rfl⟩ ?_ | refine draw_rule2 hfol (fun KK hKK => ?_) | refine hKK _ _ _ (by kernel_rfl) ?_ | refine region_rule (fun KK hKK => ?_) | refine hKK _ _ ?_ | refine And.intro (Eq.refl true) ?_ | refine Exists.intro _ (And.intro (wI (by omega)) ?_) | refine Exists.intro _ (And.intro (wU (by omega)) ?_) | refine Exists.intro _ (And.intro ⟨rfl, by omega⟩ ?_) | refine Exists.intro _ (And.intro rfl ?_) | refine And.intro rfl ?_ | refine And.intro ⟨rfl, rfl⟩ ?_ | ((refine And.intro (fun _ => ?_) (fun _ => ?_)) <;> try (exfalso; omega))))
      exact Exists.intro [] (And.intro (by rw [hr]; rfl) (And.intro trivial rfl))
    | true =>
      rw [hx] at hh
      obtain ⟨n, rfl, hd⟩ := isDi_elim hm hv
      obtain ⟨h18, hp⟩ := isH_elim hx
      by_cases hn : (n : Int) = bs.size
      · have hr : ahR n m bs = (acS m bs, ((acL m bs : Nat) : Int), 0) := by unfold ahR; rw [hv, hx]; rw [if_pos (show (true && true) = true from rfl), if_pos hn]
        obtain rfl : n = bs.size := by omega
        have ha := s_acted m bs h18 hp hd.toIsV
        (repeat' (first | refine (hq).read [1] rfl ⟨rfl, trivial⟩ ?_ | refine (hh).pure rfl ?_ | refine (s_n bs.size m).read [0] rfl ⟨rfl, trivial⟩ ?_ | refine (ha).read [0] rfl ⟨rfl, trivial⟩ ?_ | refine Exists.intro (pcl (bs.size : Int) m) (And.intro ⟨pcl_len hm, pcl_all hm⟩ ?_) | refine And.intro ⟨pcl_len hm, mkL rfl⟩ ?_ | refine Exists.intro (rowP [((bs.size : Int), m)]) (And.intro (row1 (N := 17) (p := ((bs.size : Int), m)) (mkL' rfl)) ?_) | refine And.intro (neI rfl) ?_ | refine And.intro ⟨rfl, leR rfl, onesR rfl⟩ ?_ | refine And.intro ⟨rfl, leR rfl⟩ ?_ | refine draw_rule2 hfol (fun KK hKK => ?_) | refine hKK _ _ _ (by kernel_rfl) ?_ | refine region_rule (fun KK hKK => ?_) | refine hKK _ _ ?_ | refine And.intro (Eq.refl true) ?_ | refine Exists.intro _ (And.intro (wI (by omega)) ?_) | refine Exists.intro _ (And.intro (wU (by omega)) ?_) | refine Exists.intro _ (And.intro ⟨rfl, by omega⟩ ?_) | refine Exists.intro _ (And.intro rfl ?_) | refine And.intro rfl ?_ | refine And.intro ⟨rfl, rfl⟩ ?_ | ((refine And.intro (fun _ => ?_) (fun _ => ?_)) <;> try (exfalso; omega))))
        exact Exists.intro [] (And.intro (by rw [hr]; rfl) (And.intro trivial rfl))
      · have hr : ahR n m bs = (⟨#[]⟩, 0, 2) := by unfold ahR; rw [hv, hx]; rw [if_pos (show (true && true) = true from rfl), if_neg hn]
        (repeat' (first | refine (hq).read [1] rfl ⟨rfl, trivial⟩ ?_ | refine (hh).pure rfl ?_ | refine (s_n n m).read [0] rfl ⟨rfl, trivial⟩ ?_ | refine Exists.intro (pcl (n : Int) m) (And.intro ⟨pcl_len hm, pcl_all hm⟩ ?_) | refine And.intro ⟨pcl_len hm, mkL rfl⟩ ?_ | refine Exists.intro (rowP [((n : Int), m)]) (And.intro (row1 (N := 17) (p := ((n : Int), m)) (mkL' rfl)) ?_) | refine And.intro (neI rfl) ?_ | refine And.intro ⟨rfl, leR rfl, onesR rfl⟩ ?_ | refine And.intro ⟨rfl, leR rfl⟩ ?_ | refine draw_rule2 hfol (fun KK hKK => ?_) | refine hKK _ _ _ (by kernel_rfl) ?_ | refine region_rule (fun KK hKK => ?_) | refine hKK _ _ ?_ | refine And.intro (Eq.refl true) ?_ | refine Exists.intro _ (And.intro (wI (by omega)) ?_) | refine Exists.intro _ (And.intro (wU (by omega)) ?_) | refine Exists.intro _ (And.intro ⟨rfl, by omega⟩ ?_) | refine Exists.intro _ (And.intro rfl ?_) | refine And.intro rfl ?_ | refine And.intro ⟨rfl, rfl⟩ ?_ | ((refine And.intro (fun _ => ?_) (fun _ => ?_)) <;> try (exfalso; omega))))
        exact Exists.intro [] (And.intro (by rw [hr]; rfl) (And.intro trivial rfl))
theorem s_lawAct (s : Int) (m : List Nat) (hm : m.length = 16) (hb : ∀ x ∈ m, x < 256) (bs : ByteArray) : Spec Try.prog n_l_FnExactActOnHalf [pv s m, .raw (.string bs)] [] (vb true) [] := by
  by_cases hN : bs.size ≤ 1048576
  · have h1 := s_sAct s m hm hb bs
    have h2 := s_iAct s m hm hb bs hN
    generalize ahR s m bs = p at h1 h2
    refine SpecW.of_EV hf_l_FnExactActOnHalf hc_l_FnExactActOnHalf rfl rfl rfl fun w0 B ρ0 _ => ?_
    (repeat' (first | refine (s_toD s m hm).pure rfl ?_ | refine (h1).pure rfl ?_ | refine (h2).pure rfl ?_ | refine Exists.intro (pcl s m) (And.intro ⟨pcl_len hm, pcl_all hm⟩ ?_) | refine And.intro (fun _ => ?_) (fun h => absurd rfl h) | refine And.intro (neI rfl) ?_ | refine And.intro ⟨rfl, leR rfl, onesR rfl⟩ ?_ | refine And.intro ⟨rfl, leR rfl⟩ ?_ | refine draw_rule2 hfol (fun KK hKK => ?_) | refine hKK _ _ _ (by kernel_rfl) ?_ | refine region_rule (fun KK hKK => ?_) | refine hKK _ _ ?_ | refine And.intro (Eq.refl true) ?_ | refine Exists.intro _ (And.intro (wI (by omega)) ?_) | refine Exists.intro _ (And.intro (wU (by omega)) ?_) | refine Exists.intro _ (And.intro ⟨rfl, by omega⟩ ?_) | refine Exists.intro _ (And.intro rfl ?_) | refine And.intro rfl ?_ | refine And.intro ⟨rfl, rfl⟩ ?_ | ((refine And.intro (fun _ => ?_) (fun _ => ?_)) <;> try (exfalso; omega))))
    exact finP rfl
  · refine SpecW.of_EV hf_l_FnExactActOnHalf hc_l_FnExactActOnHalf rfl rfl rfl fun w0 B ρ0 _ => ?_
    (repeat' (first | refine Exists.intro (pcl s m) (And.intro ⟨pcl_len hm, pcl_all hm⟩ ?_) | refine And.intro (neI rfl) ?_ | refine And.intro ⟨rfl, leR rfl, onesR rfl⟩ ?_ | refine And.intro ⟨rfl, leR rfl⟩ ?_ | refine draw_rule2 hfol (fun KK hKK => ?_) | refine hKK _ _ _ (by kernel_rfl) ?_ | refine region_rule (fun KK hKK => ?_) | refine hKK _ _ ?_ | refine And.intro (Eq.refl true) ?_ | refine Exists.intro _ (And.intro (wI (by omega)) ?_) | refine Exists.intro _ (And.intro (wU (by omega)) ?_) | refine Exists.intro _ (And.intro ⟨rfl, by omega⟩ ?_) | refine Exists.intro _ (And.intro rfl ?_) | refine And.intro rfl ?_ | refine And.intro ⟨rfl, rfl⟩ ?_ | ((refine And.intro (fun _ => ?_) (fun _ => ?_)) <;> try (exfalso; omega))))
    exact finP rfl
end Go.Proofs.Ytimigbgpldjefaa.VE
