/- Contracts of functions of the given program, for all arguments that the contract names; see each theorem. -/
import Derived.Test.YtgpgcdofhkpeaaaNA
import Derived.Test.YtgpgcdofhkpeaaaU10a
import Derived.Test.YtgpgcdofhkpeaaaU8e
set_option linter.all false
namespace Go.Proofs.Ytgpgcdofhkpeaaa.VE
open Go
set_option maxHeartbeats 800000
set_option maxRecDepth 100000

theorem tb_eqN {bs : ByteArray} {i : Nat} (h : i < bs.size) {c : Nat} (hc : tb bs i = c) : bs[i].toNat = c := by rw [← tb_at h]; exact hc
theorem rk_step {q : Nat → Nat} {d k o : Nat} (h : ¬ k < q k) : rkF q (d + 1) k o = (if o < d + 1 then wy d (o + 1) else 0) + rkF q d (k + 1) (o - 1) := by rw [rkF, if_neg h]
theorem rk_open {q : Nat → Nat} {d k o : Nat} (h : k < q k) : rkF q (d + 1) k o = rkF q d (k + 1) (o + 1) := by rw [rkF, if_pos h]
/-- The number of a diagram. -/
def nuR (s : Int) (m : List Nat) : Int × Int := if isDi s m then (((rkF (qq s.toNat m) (2 * s.toNat) 0 0 : Nat) : Int), 0) else (0, 1)
theorem s_sNum (s : Int) (m : List Nat) (hm : m.length = 16) (hb : ∀ x ∈ m, x < 256) : Spec Try.prog n_s_NumberOfDiagram [pv s m] [] (.tup [vi (nuR s m).1, vi (nuR s m).2]) [] := by
  have hq := s_sIs' s m hm hb
  have hfol : Try.prog.follows .mixedOrders = true := rfl
  refine SpecW.of_EV hf_s_NumberOfDiagram hc_s_NumberOfDiagram rfl rfl rfl fun w0 B ρ0 _ => ?_
  cases hv : isDi s m with
  | false =>
    have hr : nuR s m = (0, 1) := by unfold nuR; rw [hv]; rfl
    rw [hv] at hq
    (repeat' (first | refine (hq).pure rfl ?_ | refine Exists.intro (pcl s m) (And.intro ⟨pcl_len hm, pcl_all hm⟩ ?_) | refine And.intro (neI rfl) ?_ | refine And.intro ⟨rfl, leR rfl, onesR rfl⟩ ?_ | refine And.intro ⟨rfl, leR rfl⟩ ?_ | refine draw_rule2 hfol (fun KK hKK => ?_) | refine hKK _ _ _ (by kernel_rfl) ?_ | refine region_rule (fun KK hKK => ?_) | refine hKK _ _ ?_ | refine And.intro (Eq.refl true) ?_ | refine Exists.intro _ (And.intro (wI (by omega)) ?_) | refine Exists.intro _ (And.intro (wU (by omega)) ?_) | refine Exists.intro _ (And.intro ⟨rfl, by omega⟩ ?_) | refine Exists.intro _ (And.intro rfl ?_) | refine And.intro rfl ?_ | refine And.intro ⟨rfl, rfl⟩ ?_ | ((refine And.intro (fun _ => ?_) (fun _ => ?_)) <;> try (exfalso; omega))))
    exact Exists.intro [] (And.intro (by rw [hr]; rfl) (And.intro trivial rfl))
  | true =>
    rw [hv] at hq
    obtain ⟨n, rfl, hd⟩ := isDi_elim hm hv
    have hn1 := hd.n1
    have hn8 := hd.n8
    have ht := s_stext n m hd
    have hr : nuR n m = (((rkF (qq n m) (2 * n) 0 0 : Nat) : Int), 0) := by unfold nuR; rw [hv]; rfl
    rw [hr]
    have hQ := hd.pl.1
    generalize qq n m = q at ht hQ
    have hRl := (List.getElem?_eq_some_iff.1 (br_at hQ (2 * n) 0 (by omega))).1
    rw [br_len] at hRl
    have hwl := wy_le (2 * n) (opc q 0)
    have hp16 : 2 ^ (2 * n) ≤ 2 ^ 16 := Nat.pow_le_pow_right (by omega) (by omega)
    have ho0 : opc q 0 = 0 := rfl
    rw [ho0] at hRl hwl
    have hsz : (brB q (2 * n)).size = 2 * n := brB_size
    generalize hR : rkF q (2 * n) 0 0 = R at hRl
    have hR16 : R ≤ 65536 := by omega
    clear hRl hwl hp16
    (repeat' (first | refine (hq).pure rfl ?_ | refine (ht).pure rfl ?_ | refine Exists.intro (pcl (n : Int) m) (And.intro ⟨pcl_len hm, pcl_all hm⟩ ?_) | refine And.intro (neI rfl) ?_ | refine And.intro ⟨rfl, leR rfl, onesR rfl⟩ ?_ | refine And.intro ⟨rfl, leR rfl⟩ ?_ | refine draw_rule2 hfol (fun KK hKK => ?_) | refine hKK _ _ _ (by kernel_rfl) ?_ | refine region_rule (fun KK hKK => ?_) | refine hKK _ _ ?_ | refine And.intro (Eq.refl true) ?_ | refine Exists.intro _ (And.intro (wI (by omega)) ?_) | refine Exists.intro _ (And.intro (wU (by omega)) ?_) | refine Exists.intro _ (And.intro ⟨rfl, by omega⟩ ?_) | refine Exists.intro _ (And.intro rfl ?_) | refine And.intro rfl ?_ | refine And.intro ⟨rfl, rfl⟩ ?_ | ((refine And.intro (fun _ => ?_) (fun _ => ?_)) <;> try (exfalso; omega))))
    refine loop_rule (α := Nat × Nat × Nat × Nat) (fun (k, o, r, c) => k ≤ 2 * n ∧ o = opc q k ∧ o + 2 * r + k = 2 * n ∧ c + rkF q (2 * n - k) k o = R)
      (fun (k, o, r, c) => [(4, .raw (.string (brB q (2 * n)))), (5, vi o), (6, vi r), (7, vi c), (8, vi k)])
      (fun _ => []) (fun (k, _, _, _) => 2 * n - k) (0, 0, n, 0) []
      ⟨by omega, ho0.symm, by omega, by rw [Nat.sub_zero, Nat.zero_add]; exact hR⟩ ⟨⟨rfl, rfl, rfl, rfl, rfl, trivial⟩, trivial, rfl⟩ ?_
    rintro ⟨k, o, r, c⟩ g ⟨hk, ho, hor, hR⟩
    by_cases h9 : k = 2 * n
    · subst h9
      rw [Nat.sub_self] at hR
      replace hR : c = R := hR
      subst hR
      have e : (2 * n : Nat) = (brB q (2 * n)).size := hsz.symm
      (repeat' (first | refine And.intro (neI rfl) ?_ | refine And.intro ⟨rfl, leR rfl, onesR rfl⟩ ?_ | refine And.intro ⟨rfl, leR rfl⟩ ?_ | refine draw_rule2 hfol (fun KK hKK => ?_) | refine hKK _ _ _ (by kernel_rfl) ?_ | refine region_rule (fun KK hKK => ?_) | refine hKK _ _ ?_ | refine And.intro (Eq.refl true) ?_ | refine Exists.intro _ (And.intro (wI (by omega)) ?_) | refine Exists.intro _ (And.intro (wU (by omega)) ?_) | refine Exists.intro _ (And.intro ⟨rfl, by omega⟩ ?_) | refine Exists.intro _ (And.intro rfl ?_) | refine And.intro rfl ?_ | refine And.intro ⟨rfl, rfl⟩ ?_ | ((refine And.intro (fun _ => ?_) (fun _ => ?_)) <;> try (exfalso; omega))))
      exact Exists.intro [] (And.intro (rfl) (And.intro trivial rfl))
    have hkl : k < 2 * n := by omega
    have hks : k < (brB q (2 * n)).size := by omega
    obtain ⟨d, hd'⟩ : ∃ d, 2 * n - k = d + 1 := ⟨2 * n - k - 1, by omega⟩
    have hd2 : 2 * n - (k + 1) = d := by omega
    have htb := tb_br (q := q) (N := 2 * n) hkl
    rw [hd'] at hR
    by_cases hop : k < q k
    · rw [if_pos hop] at htb
      have hb40 := tb_eqN hks htb
      have hup := opc_up hQ hkl hop
      have hle := opc_le hQ d (k + 1) (by omega)
      rw [rk_open hop] at hR
      have w1 : IntKind.i64.wrap ((o : Int) + 1) = ((o + 1 : Nat) : Int) := wC (by omega) (by omega)
      have w2 : IntKind.i64.wrap ((r : Int) - 1) = ((r - 1 : Nat) : Int) := wC (by omega) (by omega)
      (repeat' (first | refine Exists.intro k (Exists.intro (brB q (2 * n))[k] (And.intro ⟨rfl, bs_at hks⟩ ?_)) | refine Exists.intro _ (And.intro w1 ?_) | refine Exists.intro _ (And.intro w2 ?_) | refine And.intro (neI rfl) ?_ | refine And.intro ⟨rfl, leR rfl, onesR rfl⟩ ?_ | refine And.intro ⟨rfl, leR rfl⟩ ?_ | refine draw_rule2 hfol (fun KK hKK => ?_) | refine hKK _ _ _ (by kernel_rfl) ?_ | refine region_rule (fun KK hKK => ?_) | refine hKK _ _ ?_ | refine And.intro (Eq.refl true) ?_ | refine Exists.intro _ (And.intro (wI (by omega)) ?_) | refine Exists.intro _ (And.intro (wU (by omega)) ?_) | refine Exists.intro _ (And.intro ⟨rfl, by omega⟩ ?_) | refine Exists.intro _ (And.intro rfl ?_) | refine And.intro rfl ?_ | refine And.intro ⟨rfl, rfl⟩ ?_ | ((refine And.intro (fun _ => ?_) (fun _ => ?_)) <;> try (exfalso; omega))))
      refine Exists.intro (k + 1, o + 1, r - 1, c) (Exists.intro [] (And.intro ⟨⟨by omega, by omega, by omega, by rw [hd2]; exact hR⟩, (by show 2 * n - (k + 1) < 2 * n - k; omega)⟩ ⟨⟨rfl, rfl, rfl, rfl, rfl, trivial⟩, trivial, rfl⟩))
    · rw [if_neg hop] at htb
      have hb41 := tb_eqN hks htb
      have hdn := opc_down hQ hkl hop
      have w1 : IntKind.i64.wrap ((o : Int) + 1) = ((o + 1 : Nat) : Int) := wC (by omega) (by omega)
      have w3 : IntKind.i64.wrap ((o : Int) - 1) = ((o - 1 : Nat) : Int) := wC (by omega) (by omega)
      rw [rk_step hop] at hR
      by_cases h0 : 0 < r
      · rw [if_pos (show o < d + 1 by omega)] at hR
        have w2 : IntKind.i64.wrap ((r : Int) - 1) = ((r - 1 : Nat) : Int) := wC (by omega) (by omega)
        have hw := s_ways d (o + 1) (r - 1) (by omega) (by omega)
        generalize wy d (o + 1) = y at hw hR
        have w4 : IntKind.i64.wrap ((c : Int) + (y : Int)) = ((c + y : Nat) : Int) := wC (by omega) (by omega)
        (repeat' (first | refine Exists.intro k (Exists.intro (brB q (2 * n))[k] (And.intro ⟨rfl, bs_at hks⟩ ?_)) | refine Exists.intro _ (And.intro w1 ?_) | refine Exists.intro _ (And.intro w2 ?_) | refine Exists.intro _ (And.intro w3 ?_) | refine Exists.intro _ (And.intro w4 ?_) | refine (hw).pure rfl ?_ | refine And.intro (neI rfl) ?_ | refine And.intro ⟨rfl, leR rfl, onesR rfl⟩ ?_ | refine And.intro ⟨rfl, leR rfl⟩ ?_ | refine draw_rule2 hfol (fun KK hKK => ?_) | refine hKK _ _ _ (by kernel_rfl) ?_ | refine region_rule (fun KK hKK => ?_) | refine hKK _ _ ?_ | refine And.intro (Eq.refl true) ?_ | refine Exists.intro _ (And.intro (wI (by omega)) ?_) | refine Exists.intro _ (And.intro (wU (by omega)) ?_) | refine Exists.intro _ (And.intro ⟨rfl, by omega⟩ ?_) | refine Exists.intro _ (And.intro rfl ?_) | refine And.intro rfl ?_ | refine And.intro ⟨rfl, rfl⟩ ?_ | ((refine And.intro (fun _ => ?_) (fun _ => ?_)) <;> try (exfalso; omega))))
        refine Exists.intro (k + 1, o - 1, r, c + y) (Exists.intro [] (And.intro ⟨⟨by omega, by omega, by omega, by rw [hd2]; omega⟩, (by show 2 * n - (k + 1) < 2 * n - k; omega)⟩ ⟨⟨rfl, rfl, rfl, rfl, rfl, trivial⟩, trivial, rfl⟩))
      · rw [if_neg (show ¬ o < d + 1 by omega)] at hR
        (repeat' (first | refine Exists.intro k (Exists.intro (brB q (2 * n))[k] (And.intro ⟨rfl, bs_at hks⟩ ?_)) | refine Exists.intro _ (And.intro w3 ?_) | refine And.intro (neI rfl) ?_ | refine And.intro ⟨rfl, leR rfl, onesR rfl⟩ ?_ | refine And.intro ⟨rfl, leR rfl⟩ ?_ | refine draw_rule2 hfol (fun KK hKK => ?_) | refine hKK _ _ _ (by kernel_rfl) ?_ | refine region_rule (fun KK hKK => ?_) | refine hKK _ _ ?_ | refine And.intro (Eq.refl true) ?_ | refine Exists.intro _ (And.intro (wI (by omega)) ?_) | refine Exists.intro _ (And.intro (wU (by omega)) ?_) | refine Exists.intro _ (And.intro ⟨rfl, by omega⟩ ?_) | refine Exists.intro _ (And.intro rfl ?_) | refine And.intro rfl ?_ | refine And.intro ⟨rfl, rfl⟩ ?_ | ((refine And.intro (fun _ => ?_) (fun _ => ?_)) <;> try (exfalso; omega))))
        refine Exists.intro (k + 1, o - 1, r, c) (Exists.intro [] (And.intro ⟨⟨by omega, by omega, by omega, by rw [hd2]; omega⟩, (by show 2 * n - (k + 1) < 2 * n - k; omega)⟩ ⟨⟨rfl, rfl, rfl, rfl, rfl, trivial⟩, trivial, rfl⟩))
end Go.Proofs.Ytgpgcdofhkpeaaa.VE
namespace Go.Proofs.Ytgpgcdofhkpeaaa.VE
open Go
set_option maxHeartbeats 800000
set_option maxRecDepth 100000

theorem shr1 (u : Nat) : (u : Int).fdiv (2 ^ (min (1 : Int).toNat 64)) = ((u / 2 : Nat) : Int) := by
  rw [show (min (1 : Int).toNat 64) = 1 from rfl, Int.fdiv_eq_ediv_of_nonneg _ (by decide)]
  rw [Int.natCast_ediv]; rfl
theorem wU64 {a : Int} (h : 0 ≤ a ∧ a < 18446744073709551616) : IntKind.u64.wrap a = a := by
  have : IntKind.u64.wrap a = a % 18446744073709551616 := by simp [IntKind.wrap, IntKind.signed, IntKind.bits]
  rw [this]; omega
theorem s_bsearch (l : List ByteArray) (tg : ByteArray) (k : Nat) (hl : l.length ≤ 65536) (hs : l.Pairwise fun a b => cmpB a b = -1) (hk : l[k]? = some tg) :
    Spec Try.prog n_g_BinarySearchFunc_string [.sl 0, .raw (.string tg), .fn (.func n_strings_Compare) [] []] [.pr T_string 1 l.length (rS l)] (.tup [vi k, vb true]) [.pr T_string 1 l.length (rS l)] := by
  have hkl := (List.getElem?_eq_some_iff.1 hk).1
  refine SpecW.of_EV hf_g_BinarySearchFunc_string hc_g_BinarySearchFunc_string rfl rfl rfl fun w0 B ρ0 _ => ?_
  (repeat' (first | refine And.intro (neI rfl) ?_ | refine And.intro ⟨rfl, leR rfl, onesR rfl⟩ ?_ | refine And.intro ⟨rfl, leR rfl⟩ ?_ | refine draw_rule2 hfol (fun KK hKK => ?_) | refine hKK _ _ _ (by kernel_rfl) ?_ | refine region_rule (fun KK hKK => ?_) | refine hKK _ _ ?_ | refine And.intro (Eq.refl true) ?_ | refine Exists.intro _ (And.intro (wI (by omega)) ?_) | refine Exists.intro _ (And.intro (wU (by omega)) ?_) | refine Exists.intro _ (And.intro ⟨rfl, by omega⟩ ?_) | refine Exists.intro _ (And.intro rfl ?_) | refine And.intro rfl ?_ | refine And.intro ⟨rfl, rfl⟩ ?_ | ((refine And.intro (fun _ => ?_) (fun _ => ?_)) <;> try (exfalso; omega))))
  refine loop_rule (α := Nat × Nat) (fun (i, j) => i ≤ k ∧ k ≤ j ∧ j ≤ l.length)
    (fun (i, j) => [(0, .sl 0), (1, .raw (.string tg)), (2, .fn (.func n_strings_Compare) [] []), (8, vi l.length), (9, vi i), (10, vi j)])
    (fun _ => [.pr T_string 1 l.length (rS l)]) (fun (i, j) => j - i) (0, l.length) [0]
    ⟨by omega, by omega, Nat.le_refl _⟩ ⟨⟨rfl, rfl, rfl, rfl, rfl, rfl, trivial⟩, ⟨rfl, trivial⟩, rfl⟩ ?_
  rintro ⟨i, j⟩ g ⟨hi, hj, hjl⟩
  by_cases h9 : i = j
  · subst h9
    obtain rfl : i = k := by omega
    have hc := s_Compare tg tg
    rw [(sorted_cmp hs hk hk).2.2 rfl] at hc
    (repeat' (first | refine Exists.intro _ (And.intro (rS_at hk) ?_) | refine (hc).pure rfl ?_ | refine And.intro (neI rfl) ?_ | refine And.intro ⟨rfl, leR rfl, onesR rfl⟩ ?_ | refine And.intro ⟨rfl, leR rfl⟩ ?_ | refine draw_rule2 hfol (fun KK hKK => ?_) | refine hKK _ _ _ (by kernel_rfl) ?_ | refine region_rule (fun KK hKK => ?_) | refine hKK _ _ ?_ | refine And.intro (Eq.refl true) ?_ | refine Exists.intro _ (And.intro (wI (by omega)) ?_) | refine Exists.intro _ (And.intro (wU (by omega)) ?_) | refine Exists.intro _ (And.intro ⟨rfl, by omega⟩ ?_) | refine Exists.intro _ (And.intro rfl ?_) | refine And.intro rfl ?_ | refine And.intro ⟨rfl, rfl⟩ ?_ | ((refine And.intro (fun _ => ?_) (fun _ => ?_)) <;> try (exfalso; omega))))
    exact Exists.intro [0] (And.intro (rfl) (And.intro ⟨rfl, trivial⟩ rfl))
  have hij : i < j := by omega
  have hh1 : i ≤ (i + j) / 2 := by omega
  have hh2 : (i + j) / 2 < j := by omega
  obtain ⟨x, hx⟩ : ∃ x, l[(i + j) / 2]? = some x := ⟨_, List.getElem?_eq_getElem (by omega)⟩
  have hc := s_Compare x tg
  have hcmp := sorted_cmp hs hx hk
  have w1 : IntKind.i64.wrap ((i : Int) + (j : Int)) = ((i + j : Nat) : Int) := wC (by omega) (by omega)
  have w2 : IntKind.u64.wrap ((i + j : Nat) : Int) = ((i + j : Nat) : Int) := wU64 (by omega)
  have w3 := shr1 (i + j)
  generalize (i + j) / 2 = h at hh1 hh2 hx hcmp w3
  have w4 : IntKind.i64.wrap (h : Int) = (h : Int) := wI (by omega)
  have w5 : IntKind.i64.wrap ((h : Int) + 1) = ((h + 1 : Nat) : Int) := wC (by omega) (by omega)
  by_cases hhk : h < k
  · rw [hcmp.1 hhk] at hc
    (repeat' (first | refine Exists.intro _ (And.intro w1 ?_) | refine Exists.intro _ (And.intro w2 ?_) | refine And.intro (by omega) (Exists.intro _ (And.intro w3 ?_)) | refine Exists.intro _ (And.intro w4 ?_) | refine Exists.intro _ (And.intro w5 ?_) | refine Exists.intro _ (And.intro (rS_at hx) ?_) | refine (hc).pure rfl ?_ | refine And.intro (neI rfl) ?_ | refine And.intro ⟨rfl, leR rfl, onesR rfl⟩ ?_ | refine And.intro ⟨rfl, leR rfl⟩ ?_ | refine draw_rule2 hfol (fun KK hKK => ?_) | refine hKK _ _ _ (by kernel_rfl) ?_ | refine region_rule (fun KK hKK => ?_) | refine hKK _ _ ?_ | refine And.intro (Eq.refl true) ?_ | refine Exists.intro _ (And.intro (wI (by omega)) ?_) | refine Exists.intro _ (And.intro (wU (by omega)) ?_) | refine Exists.intro _ (And.intro ⟨rfl, by omega⟩ ?_) | refine Exists.intro _ (And.intro rfl ?_) | refine And.intro rfl ?_ | refine And.intro ⟨rfl, rfl⟩ ?_ | ((refine And.intro (fun _ => ?_) (fun _ => ?_)) <;> try (exfalso; omega))))
    refine Exists.intro (h + 1, j) (Exists.intro [0] (And.intro ⟨⟨by omega, by omega, by omega⟩, (by show j - (h + 1) < j - i; omega)⟩ ⟨⟨rfl, rfl, rfl, rfl, rfl, rfl, trivial⟩, ⟨rfl, trivial⟩, rfl⟩))
  · have hne : ∃ c : Int, 0 ≤ c ∧ cmpB x tg = c := by
      by_cases e : h = k
      · exact ⟨0, by omega, hcmp.2.2 e⟩
      · exact ⟨1, by omega, hcmp.2.1 (by omega)⟩
    obtain ⟨c, hc0, hce⟩ := hne
    rw [hce] at hc
    (repeat' (first | refine Exists.intro _ (And.intro w1 ?_) | refine Exists.intro _ (And.intro w2 ?_) | refine And.intro (by omega) (Exists.intro _ (And.intro w3 ?_)) | refine Exists.intro _ (And.intro w4 ?_) | refine Exists.intro _ (And.intro (rS_at hx) ?_) | refine (hc).pure rfl ?_ | refine And.intro (neI rfl) ?_ | refine And.intro ⟨rfl, leR rfl, onesR rfl⟩ ?_ | refine And.intro ⟨rfl, leR rfl⟩ ?_ | refine draw_rule2 hfol (fun KK hKK => ?_) | refine hKK _ _ _ (by kernel_rfl) ?_ | refine region_rule (fun KK hKK => ?_) | refine hKK _ _ ?_ | refine And.intro (Eq.refl true) ?_ | refine Exists.intro _ (And.intro (wI (by omega)) ?_) | refine Exists.intro _ (And.intro (wU (by omega)) ?_) | refine Exists.intro _ (And.intro ⟨rfl, by omega⟩ ?_) | refine Exists.intro _ (And.intro rfl ?_) | refine And.intro rfl ?_ | refine And.intro ⟨rfl, rfl⟩ ?_ | ((refine And.intro (fun _ => ?_) (fun _ => ?_)) <;> try (exfalso; omega))))
    refine Exists.intro (i, h) (Exists.intro [0] (And.intro ⟨⟨by omega, by omega, by omega⟩, (by show h - i < j - i; omega)⟩ ⟨⟨rfl, rfl, rfl, rfl, rfl, rfl, trivial⟩, ⟨rfl, trivial⟩, rfl⟩))
end Go.Proofs.Ytgpgcdofhkpeaaa.VE
namespace Go.Proofs.Ytgpgcdofhkpeaaa.VE
open Go
set_option maxHeartbeats 800000
set_option maxRecDepth 100000

theorem s_iNum (s : Int) (m : List Nat) (hm : m.length = 16) (hb : ∀ x ∈ m, x < 256) : Spec Try.prog n_i_NumberOfDiagram [pv s m] [] (.tup [vi (nuR s m).1, vi (nuR s m).2]) [] := by
  have hq := s_invalid1D s m hm hb
  refine SpecW.of_EV hf_i_NumberOfDiagram hc_i_NumberOfDiagram rfl rfl rfl fun w0 B ρ0 _ => ?_
  cases hv : isDi s m with
  | false =>
    have hr : nuR s m = (0, 1) := by unfold nuR; rw [hv]; rfl
    rw [hv] at hq
    simp only [Bool.not_false, cond_true] at hq
    (repeat' (first | refine (hq).read [1] rfl ⟨rfl, trivial⟩ ?_ | refine Exists.intro (pcl s m) (And.intro ⟨pcl_len hm, pcl_all hm⟩ ?_) | refine And.intro ⟨pcl_len hm, mkL rfl⟩ ?_ | refine Exists.intro (rowP [(s, m)]) (And.intro (row1 (N := 17) (p := (s, m)) (mkL' rfl)) ?_) | refine And.intro (neI rfl) ?_ | refine And.intro ⟨rfl, leR rfl, onesR rfl⟩ ?_ | refine And.intro ⟨rfl, leR rfl⟩ ?_ | refine draw_rule2 hfol (fun KK hKK => ?_) | refine hKK _ _ _ (by kernel_rfl) ?_ | refine region_rule (fun KK hKK => ?_) | refine hKK _ _ ?_ | refine And.intro (Eq.refl true) ?_ | refine Exists.intro _ (And.intro (wI (by omega)) ?_) | refine Exists.intro _ (And.intro (wU (by omega)) ?_) | refine Exists.intro _ (And.intro ⟨rfl, by omega⟩ ?_) | refine Exists.intro _ (And.intro rfl ?_) | refine And.intro rfl ?_ | refine And.intro ⟨rfl, rfl⟩ ?_ | ((refine And.intro (fun _ => ?_) (fun _ => ?_)) <;> try (exfalso; omega))))
    exact Exists.intro [] (And.intro (by rw [hr]; rfl) (And.intro trivial rfl))
  | true =>
    rw [hv] at hq
    simp only [Bool.not_true, cond_false] at hq
    obtain ⟨n, rfl, hd⟩ := isDi_elim hm hv
    have hn8 := hd.n8
    have hr : nuR n m = (((rkF (qq n m) (2 * n) 0 0 : Nat) : Int), 0) := by unfold nuR; rw [hv]; rfl
    rw [hr]
    have ht := s_text n m hm hd.n1 hn8 hd.lt
    have hB := s_bracketings n hn8
    have hat := br_at hd.pl.1 (2 * n) 0 (by omega)
    rw [show opc (qq n m) 0 = 0 from rfl, show brB (qq n m) 0 = ⟨#[]⟩ from rfl] at hat
    have hlen : (br (2 * n) ⟨#[]⟩ 0).length ≤ 65536 := by
      rw [br_len]
      have h1 := wy_le (2 * n) 0
      have h2 : 2 ^ (2 * n) ≤ 2 ^ 16 := Nat.pow_le_pow_right (by omega) (by omega)
      omega
    have hS := s_bsearch _ _ _ hlen (br_sorted (2 * n) ⟨#[]⟩ 0) hat
    (repeat' (first | refine (hq).read [1] rfl ⟨rfl, trivial⟩ ?_ | refine (s_n n m).read [0] rfl ⟨rfl, trivial⟩ ?_ | refine (hB).make [] rfl trivial ?_ | refine (ht).read [0] rfl ⟨rfl, trivial⟩ ?_ | refine (hS).read [2] rfl ⟨rfl, trivial⟩ ?_ | refine Exists.intro (pcl (n : Int) m) (And.intro ⟨pcl_len hm, pcl_all hm⟩ ?_) | refine And.intro ⟨pcl_len hm, mkL rfl⟩ ?_ | refine Exists.intro (rowP [((n : Int), m)]) (And.intro (row1 (N := 17) (p := ((n : Int), m)) (mkL' rfl)) ?_) | refine And.intro (neI rfl) ?_ | refine And.intro ⟨rfl, leR rfl, onesR rfl⟩ ?_ | refine And.intro ⟨rfl, leR rfl⟩ ?_ | refine draw_rule2 hfol (fun KK hKK => ?_) | refine hKK _ _ _ (by kernel_rfl) ?_ | refine region_rule (fun KK hKK => ?_) | refine hKK _ _ ?_ | refine And.intro (Eq.refl true) ?_ | refine Exists.intro _ (And.intro (wI (by omega)) ?_) | refine Exists.intro _ (And.intro (wU (by omega)) ?_) | refine Exists.intro _ (And.intro ⟨rfl, by omega⟩ ?_) | refine Exists.intro _ (And.intro rfl ?_) | refine And.intro rfl ?_ | refine And.intro ⟨rfl, rfl⟩ ?_ | ((refine And.intro (fun _ => ?_) (fun _ => ?_)) <;> try (exfalso; omega))))
    exact Exists.intro [] (And.intro (rfl) (And.intro trivial rfl))
end Go.Proofs.Ytgpgcdofhkpeaaa.VE
namespace Go.Proofs.Ytgpgcdofhkpeaaa.VE
open Go
set_option maxHeartbeats 800000
set_option maxRecDepth 100000

def dtR (s : Int) (m : List Nat) : ByteArray × Int := if isDi s m then (brB (qq s.toNat m) (2 * s.toNat), 0) else (⟨#[]⟩, 1)
theorem s_sDText (s : Int) (m : List Nat) (hm : m.length = 16) (hb : ∀ x ∈ m, x < 256) : Spec Try.prog n_s_DiagramText [pv s m] [] (stV (dtR s m)) [] := by
  have hq := s_sIs' s m hm hb
  have hr : dtR s m = if isDi s m then (brB (qq s.toNat m) (2 * s.toNat), 0) else (⟨#[]⟩, 1) := rfl
  refine SpecW.of_EV hf_s_DiagramText hc_s_DiagramText rfl rfl rfl fun w0 B ρ0 _ => ?_
  cases hv : isDi s m with
  | false =>
    rw [hv] at hq hr; try simp only [Bool.not_false, Bool.not_true, cond_true, cond_false] at hq
    (repeat' (first | refine (hq).pure rfl ?_ | refine Exists.intro (pcl s m) (And.intro ⟨pcl_len hm, pcl_all hm⟩ ?_) | refine And.intro (neI rfl) ?_ | refine And.intro ⟨rfl, leR rfl, onesR rfl⟩ ?_ | refine And.intro ⟨rfl, leR rfl⟩ ?_ | refine draw_rule2 hfol (fun KK hKK => ?_) | refine hKK _ _ _ (by kernel_rfl) ?_ | refine region_rule (fun KK hKK => ?_) | refine hKK _ _ ?_ | refine And.intro (Eq.refl true) ?_ | refine Exists.intro _ (And.intro (wI (by omega)) ?_) | refine Exists.intro _ (And.intro (wU (by omega)) ?_) | refine Exists.intro _ (And.intro ⟨rfl, by omega⟩ ?_) | refine Exists.intro _ (And.intro rfl ?_) | refine And.intro rfl ?_ | refine And.intro ⟨rfl, rfl⟩ ?_ | ((refine And.intro (fun _ => ?_) (fun _ => ?_)) <;> try (exfalso; omega))))
    exact Exists.intro [] (And.intro (by rw [hr]; rfl) (And.intro trivial rfl))
  | true =>
    rw [hv] at hq hr; try simp only [Bool.not_false, Bool.not_true, cond_true, cond_false] at hq
    obtain ⟨n, rfl, hd⟩ := isDi_elim hm hv
    have ht := s_stext n m hd
    (repeat' (first | refine (hq).pure rfl ?_ | refine (ht).pure rfl ?_ | refine Exists.intro (pcl n m) (And.intro ⟨pcl_len hm, pcl_all hm⟩ ?_) | refine And.intro (neI rfl) ?_ | refine And.intro ⟨rfl, leR rfl, onesR rfl⟩ ?_ | refine And.intro ⟨rfl, leR rfl⟩ ?_ | refine draw_rule2 hfol (fun KK hKK => ?_) | refine hKK _ _ _ (by kernel_rfl) ?_ | refine region_rule (fun KK hKK => ?_) | refine hKK _ _ ?_ | refine And.intro (Eq.refl true) ?_ | refine Exists.intro _ (And.intro (wI (by omega)) ?_) | refine Exists.intro _ (And.intro (wU (by omega)) ?_) | refine Exists.intro _ (And.intro ⟨rfl, by omega⟩ ?_) | refine Exists.intro _ (And.intro rfl ?_) | refine And.intro rfl ?_ | refine And.intro ⟨rfl, rfl⟩ ?_ | ((refine And.intro (fun _ => ?_) (fun _ => ?_)) <;> try (exfalso; omega))))
    exact Exists.intro [] (And.intro (by rw [hr]; rfl) (And.intro trivial rfl))

theorem s_iDText (s : Int) (m : List Nat) (hm : m.length = 16) (hb : ∀ x ∈ m, x < 256) : Spec Try.prog n_i_DiagramText [pv s m] [] (stV (dtR s m)) [] := by
  have hq := s_invalid1D s m hm hb
  have hr : dtR s m = if isDi s m then (brB (qq s.toNat m) (2 * s.toNat), 0) else (⟨#[]⟩, 1) := rfl
  refine SpecW.of_EV hf_i_DiagramText hc_i_DiagramText rfl rfl rfl fun w0 B ρ0 _ => ?_
  cases hv : isDi s m with
  | false =>
    rw [hv] at hq hr; try simp only [Bool.not_false, Bool.not_true, cond_true, cond_false] at hq
    (repeat' (first | refine (hq).read [1] rfl ⟨rfl, trivial⟩ ?_ | refine Exists.intro (pcl s m) (And.intro ⟨pcl_len hm, pcl_all hm⟩ ?_) | refine And.intro ⟨pcl_len hm, mkL rfl⟩ ?_ | refine Exists.intro (rowP [(s, m)]) (And.intro (row1 (N := 17) (p := (s, m)) (mkL' rfl)) ?_) | refine And.intro (neI rfl) ?_ | refine And.intro ⟨rfl, leR rfl, onesR rfl⟩ ?_ | refine And.intro ⟨rfl, leR rfl⟩ ?_ | refine draw_rule2 hfol (fun KK hKK => ?_) | refine hKK _ _ _ (by kernel_rfl) ?_ | refine region_rule (fun KK hKK => ?_) | refine hKK _ _ ?_ | refine And.intro (Eq.refl true) ?_ | refine Exists.intro _ (And.intro (wI (by omega)) ?_) | refine Exists.intro _ (And.intro (wU (by omega)) ?_) | refine Exists.intro _ (And.intro ⟨rfl, by omega⟩ ?_) | refine Exists.intro _ (And.intro rfl ?_) | refine And.intro rfl ?_ | refine And.intro ⟨rfl, rfl⟩ ?_ | ((refine And.intro (fun _ => ?_) (fun _ => ?_)) <;> try (exfalso; omega))))
    exact Exists.intro [] (And.intro (by rw [hr]; rfl) (And.intro trivial rfl))
  | true =>
    rw [hv] at hq hr; try simp only [Bool.not_false, Bool.not_true, cond_true, cond_false] at hq
    obtain ⟨n, rfl, hd⟩ := isDi_elim hm hv
    have ht := s_text n m hm hd.n1 hd.n8 hd.lt
    (repeat' (first | refine (hq).read [1] rfl ⟨rfl, trivial⟩ ?_ | refine (ht).read [0] rfl ⟨rfl, trivial⟩ ?_ | refine Exists.intro (pcl n m) (And.intro ⟨pcl_len hm, pcl_all hm⟩ ?_) | refine And.intro ⟨pcl_len hm, mkL rfl⟩ ?_ | refine Exists.intro (rowP [((n : Int), m)]) (And.intro (row1 (N := 17) (p := ((n : Int), m)) (mkL' rfl)) ?_) | refine And.intro (neI rfl) ?_ | refine And.intro ⟨rfl, leR rfl, onesR rfl⟩ ?_ | refine And.intro ⟨rfl, leR rfl⟩ ?_ | refine draw_rule2 hfol (fun KK hKK => ?_) | refine hKK _ _ _ (by kernel_rfl) ?_ | refine region_rule (fun KK hKK => ?_) | refine hKK _ _ ?_ | refine And.intro (Eq.refl true) ?_ | refine Exists.intro _ (And.intro (wI (by omega)) ?_) | refine Exists.intro _ (And.intro (wU (by omega)) ?_) | refine Exists.intro _ (And.intro ⟨rfl, by omega⟩ ?_) | refine Exists.intro _ (And.intro rfl ?_) | refine And.intro rfl ?_ | refine And.intro ⟨rfl, rfl⟩ ?_ | ((refine And.intro (fun _ => ?_) (fun _ => ?_)) <;> try (exfalso; omega))))
    exact Exists.intro [] (And.intro (by rw [hr]; rfl) (And.intro trivial rfl))

end Go.Proofs.Ytgpgcdofhkpeaaa.VE
