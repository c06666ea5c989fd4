/- Contracts of functions of the given program, for all arguments that the contract names; see each theorem. -/
import Derived.Test.YtfglgmimnpjhoaaN4
import Derived.Test.YtfglgmimnpjhoaaU10a
set_option linter.all false
namespace Go.Proofs.Ytfglgmimnpjhoaa.VE
open Go
set_option maxHeartbeats 800000
set_option maxRecDepth 100000

theorem shr1 (u : Nat) : (u : Int).fdiv (2 ^ (min (1 : Int).toNat 64)) = ((u / 2 : Nat) : Int) := by
  rw [show (min (1 : Int).toNat 64) = 1 from rfl, Int.fdiv_eq_ediv_of_nonneg _ (by decide)]
  rw [Int.natCast_ediv]; rfl
theorem wU64 {a : Int} (h : 0 ≤ a ∧ a < 18446744073709551616) : IntKind.u64.wrap a = a := by
  have : IntKind.u64.wrap a = a % 18446744073709551616 := by simp [IntKind.wrap, IntKind.signed, IntKind.bits]
  rw [this]; omega
theorem s_bsearch (l : List ByteArray) (tg : ByteArray) (k : Nat) (hl : l.length ≤ 65536) (hs : l.Pairwise fun a b => cmpB a b = -1) (hk : l[k]? = some tg) :
    Spec Try.prog n_g_BinarySearchFunc_string [.sl 0, .raw (.string tg), .fn (.func n_strings_Compare) [] []] [.pr T_string 1 l.length (rS l)] (.tup [vi k, vb true]) [.pr T_string 1 l.length (rS l)] := by
  have hkl := (List.getElem?_eq_some_iff.1 hk).1
  refine SpecW.of_EV hf_g_BinarySearchFunc_string hc_g_BinarySearchFunc_string rfl rfl rfl fun w0 B ρ0 _ => ?_
  (repeat' (first | refine And.intro (neI rfl) ?_ | refine And.intro ⟨rfl, leR rfl, onesR rfl⟩ ?_ | refine And.intro ⟨rfl, leR rfl⟩ ?_ | refine draw_rule2 hfol (fun KK hKK => ?_) | refine hKK _ _ _ (by kernel_rfl) ?_ | refine region_rule (fun KK hKK => ?_) | refine hKK _ _ ?_ | refine And.intro (Eq.refl true) ?_ | refine Exists.intro _ (And.intro (wI (by omega)) ?_) | refine Exists.intro _ (And.intro (wU (by omega)) ?_) | refine Exists.intro _ (And.intro ⟨rfl, by omega⟩ ?_) | refine Exists.intro _ (And.intro rfl ?_) | refine And.intro rfl ?_ | refine And.intro ⟨rfl, rfl⟩ ?_ | ((refine And.intro (fun _ => ?_) (fun _ => ?_)) <;> try (exfalso; omega))))
  refine loop_rule (α := Nat × Nat) (fun (i, j) => i ≤ k ∧ k ≤ j ∧ j ≤ l.length)
    (fun (i, j) => [(0, .sl 0), (1, .raw (.string tg)), (2, .fn (.func n_strings_Compare) [] []), (8, vi l.length), (9, vi i), (10, vi j)])
    (fun _ => [.pr T_string 1 l.length (rS l)]) (fun (i, j) => j - i) (0, l.length) [0]
    ⟨by omega, by omega, Nat.le_refl _⟩ ⟨⟨rfl, rfl, rfl, rfl, rfl, rfl, trivial⟩, ⟨rfl, trivial⟩, rfl⟩ ?_
  rintro ⟨i, j⟩ g ⟨hi, hj, hjl⟩
  by_cases h9 : i = j
  · subst h9
    obtain rfl : i = k := by omega
    have hc := s_Compare tg tg
    rw [(sorted_cmp hs hk hk).2.2 rfl] at hc
    (repeat' (first | refine Exists.intro _ (And.intro (rS_at hk) ?_) | refine (hc).pure rfl ?_ | refine And.intro (neI rfl) ?_ | refine And.intro ⟨rfl, leR rfl, onesR rfl⟩ ?_ | refine And.intro ⟨rfl, leR rfl⟩ ?_ | refine draw_rule2 hfol (fun KK hKK => ?_) | refine hKK _ _ _ (by kernel_rfl) ?_ | refine region_rule (fun KK hKK => ?_) | refine hKK _ _ ?_ | refine And.intro (Eq.refl true) ?_ | refine Exists.intro _ (And.intro (wI (by omega)) ?_) | refine Exists.intro _ (And.intro (wU (by omega)) ?_) | refine Exists.intro _ (And.intro ⟨rfl, by omega⟩ ?_) | refine Exists.intro _ (And.intro rfl ?_) | refine And.intro rfl ?_ | refine And.intro ⟨rfl, rfl⟩ ?_ | ((refine And.intro (fun _ => ?_) (fun _ => ?_)) <;> try (exfalso; omega))))
    exact Exists.intro [0] (And.intro (rfl) (And.intro ⟨rfl, trivial⟩ rfl))
  have hij : i < j := by omega
  have hh1 : i ≤ (i + j) / 2 := by omega
  have hh2 : (i + j) / 2 < j := by omega
  obtain ⟨x, hx⟩ : ∃ x, l[(i + j) / 2]? = some x := ⟨_, List.getElem?_eq_getElem (by omega)⟩
  have hc := s_Compare x tg
  have hcmp := sorted_cmp hs hx hk
  have w1 : IntKind.i64.wrap ((i : Int) + (j : Int)) = ((i + j : Nat) : Int) := wC (by omega) (by omega)
  have w2 : IntKind.u64.wrap ((i + j : Nat) : Int) = ((i + j : Nat) : Int) := wU64 (by omega)
  have w3 := shr1 (i + j)
  generalize (i + j) / 2 = h at hh1 hh2 hx hcmp w3
  have w4 : IntKind.i64.wrap (h : Int) = (h : Int) := wI (by omega)
  have w5 : IntKind.i64.wrap ((h : Int) + 1) = ((h + 1 : Nat) : Int) := wC (by omega) (by omega)
  by_cases hhk : h < k
  · rw [hcmp.1 hhk] at hc
    (repeat' (first | refine Exists.intro _ (And.intro w1 ?_) | refine Exists.intro _ (And.intro w2 ?_) | refine And.intro (by omega) (Exists.intro _ (And.intro w3 ?_)) | refine Exists.intro _ (And.intro w4 ?_) | refine Exists.intro _ (And.intro w5 ?_) | refine Exists.intro _ (And.intro (rS_at hx) ?_) | refine (hc).pure rfl ?_ | refine And.intro (neI rfl) ?_ | refine And.intro ⟨rfl, leR rfl, onesR rfl⟩ ?_ | refine And.intro ⟨rfl, leR rfl⟩ ?_ | refine draw_rule2 hfol (fun KK hKK => ?_) | refine hKK _ _ _ (by kernel_rfl) ?_ | refine region_rule (fun KK hKK => ?_) | refine hKK _ _ ?_ | refine And.intro (Eq.refl true) ?_ | refine Exists.intro _ (And.intro (wI (by omega)) ?_) | refine Exists.intro _ (And.intro (wU (by omega)) ?_) | refine Exists.intro _ (And.intro ⟨rfl, by omega⟩ ?_) | refine Exists.intro _ (And.intro rfl ?_) | refine And.intro rfl ?_ | refine And.intro ⟨rfl, rfl⟩ ?_ | ((refine And.intro (fun _ => ?_) (fun _ => ?_)) <;> try (exfalso; omega))))
    refine Exists.intro (h + 1, j) (Exists.intro [0] (And.intro ⟨⟨by omega, by omega, by omega⟩, (by show j - (h + 1) < j - i; omega)⟩ ⟨⟨rfl, rfl, rfl, rfl, rfl, rfl, trivial⟩, ⟨rfl, trivial⟩, rfl⟩))
  · have hne : ∃ c : Int, 0 ≤ c ∧ cmpB x tg = c := by
      by_cases e : h = k
      · exact ⟨0, by omega, hcmp.2.2 e⟩
      · exact ⟨1, by omega, hcmp.2.1 (by omega)⟩
    obtain ⟨c, hc0, hce⟩ := hne
    rw [hce] at hc
    (repeat' (first | refine Exists.intro _ (And.intro w1 ?_) | refine Exists.intro _ (And.intro w2 ?_) | refine And.intro (by omega) (Exists.intro _ (And.intro w3 ?_)) | refine Exists.intro _ (And.intro w4 ?_) | refine Exists.intro _ (And.intro (rS_at hx) ?_) | refine (hc).pure rfl ?_ | refine And.intro (neI rfl) ?_ | refine And.intro ⟨rfl, leR rfl, onesR rfl⟩ ?_ | refine And.intro ⟨rfl, leR rfl⟩ ?_ | refine draw_rule2 hfol (fun KK hKK => ?_) | refine hKK _ _ _ (by kernel_rfl) ?_ | refine region_rule (fun KK hKK => ?_) | refine hKK _ _ ?_ | refine And.intro (Eq.refl true) ?_ | refine Exists.intro _ (And.intro (wI (by omega)) ?_) | refine Exists.intro _ (And.intro (wU (by omega)) ?_) | refine Exists.intro _ (And.intro ⟨rfl, by omega⟩ ?_) | refine Exists.intro _ (And.intro rfl ?_) | refine And.intro rfl ?_ | refine And.intro ⟨rfl, rfl⟩ ?_ | ((refine And.intro (fun _ => ?_) (fun _ => ?_)) <;> try (exfalso; omega))))
    refine Exists.intro (i, h) (Exists.intro [0] (And.intro ⟨⟨by omega, by omega, by omega⟩, (by show h - i < j - i; omega)⟩ ⟨⟨rfl, rfl, rfl, rfl, rfl, rfl, trivial⟩, ⟨rfl, trivial⟩, rfl⟩))
end Go.Proofs.Ytfglgmimnpjhoaa.VE
