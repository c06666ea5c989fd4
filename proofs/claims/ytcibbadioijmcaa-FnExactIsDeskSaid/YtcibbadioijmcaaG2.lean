/- Contracts of functions of the given program, for all arguments that the contract names; see each theorem. -/
import Derived.Test.YtcibbadioijmcaaG1
import Derived.Test.YtcibbadioijmcaaW1
import Derived.Test.YtcibbadioijmcaaVE4
set_option linter.all false
namespace Go.Proofs.Ytcibbadioijmcaa.VE
open Go
set_option maxHeartbeats 800000
set_option maxRecDepth 100000

/-! terms from outside -/
def ArgT (W : World → (Nat → Prop) → Prop) (v : Value) (t : Nat → Tm) (N : Nat) : Prop :=
  (∃ a cap, v = .slice a 0 cap ∧ N = 0 ∧ W = fun _ _ => True) ∨
  ∃ b off cap cs T fr, v = .slice (some ⟨b, off, none⟩) N cap ∧ W = Old b cs T fr ∧ ∀ j, j < N → (cs.toList.drop (off + j * 18)).take 18 = tmC (t j)
theorem ArgT.pass {W : World → (Nat → Prop) → Prop} {v : Value} {t : Nat → Tm} {N : Nat} {Γ : Ctx} (h : ArgT W v t N) (hW : W Γ.w0 Γ.B) : ∀ ρ w Lr B, Rel Γ ρ Lr w → (∀ b, B b → b < Γ.w0.heap.size → Γ.B b) → W w B := by
  rcases h with ⟨_, _, _, _, rfl⟩ | ⟨b, off, cap, cs, t, fr, _, rfl, _⟩
  · exact fun _ _ _ _ _ _ => trivial
  · exact Old.pass hW
theorem ArgT.form {W : World → (Nat → Prop) → Prop} {v : Value} {t : Nat → Tm} {N : Nat} (h : ArgT W v t N) : ∃ a cap, v = .slice a N cap := by
  rcases h with ⟨a, cap, rfl, rfl, _⟩ | ⟨b, off, cap, _, _, _, rfl, _⟩
  · exact ⟨a, cap, rfl⟩
  · exact ⟨_, cap, rfl⟩
theorem mk_rowT {N : Nat} : (madeCells (Value.agg (tmC tm0).toArray).cells (N * 18)).toList = rowT (fun _ => tm0) N := by
  have hz : (Value.agg (tmC tm0).toArray).cells = (tmC tm0).toArray := rfl
  rw [hz]
  have hs : (tmC tm0).toArray.size = 18 := rfl
  simp only [madeCells, hs]
  induction N with
  | zero => simp [rowT]
  | succ N ih =>
    rw [rowT, ← ih]
    simp only [Array.toList_map, Array.toList_range]
    rw [show (N + 1) * 18 = N * 18 + 18 by omega, List.range_add, List.map_append]
    congr 1
    rw [List.map_map]
    have : ∀ x, ((fun x : Nat => (tmC tm0).toArray[x % 18]!) ∘ fun x => N * 18 + x) x = (tmC tm0).toArray[x % 18]! := fun x => by
      simp only [Function.comp_apply, Nat.mul_add_mod_self_right]
    rw [List.map_congr_left fun x _ => this x]
    rfl

theorem s_toTm (t : Tm) (hm : t.2.1.length = 16) : Spec Try.prog n_l_toTerm [tmV t] [] (tmV t) [] := by
  obtain ⟨s, m, f⟩ := t
  have hm : m.length = 16 := hm
  refine SpecW.of_EV hf_l_toTerm hc_l_toTerm rfl rfl rfl fun w0 B ρ0 _ => ?_
  have h17 := tmC_fac (t := (s, m, f)) hm
  have hdia := tmC_dia (t := (s, m, f)) hm
  have hall := tmC_all (t := (s, m, f)) hm
  have r16 : (List.replicate 16 0 : List Nat).length = 16 := rfl
  (repeat' (first | refine Exists.intro (pcl s m) (And.intro ⟨pcl_len hm, hdia⟩ ?_) | refine (s_toD s m hm).pure rfl ?_ | refine And.intro ⟨pcl_len hm, leR rfl, pcl_ones⟩ ?_ | refine Exists.intro (tmC (s, m, 0)) (And.intro ⟨leR rfl, tmC_sd (s := 0) (s' := s) (m := List.replicate 16 0) (m' := m) (a := 0) r16⟩ ?_) | refine Exists.intro _ (And.intro h17 ?_) | refine Exists.intro (tmC (s, m, f)) (And.intro ⟨by rw [tmC_len (t := (s, m, 0)) hm]; omega, tmC_fset hm⟩ ?_) | refine Exists.intro (tmC (s, m, f)) (And.intro ⟨tmC_len (t := (s, m, f)) hm, hall⟩ ?_) | refine And.intro ⟨tmC_len (t := (s, m, f)) hm, leR rfl, tmC_ones⟩ ?_ | refine Exists.intro (tmC (s, m, f)) (And.intro ⟨leR rfl, spl0 (leR rfl)⟩ ?_) | refine And.intro (neI rfl) ?_ | refine And.intro ⟨rfl, leR rfl, onesR rfl⟩ ?_ | refine And.intro ⟨rfl, leR rfl⟩ ?_ | refine draw_rule2 hfol (fun KK hKK => ?_) | refine hKK _ _ _ (by kernel_rfl) ?_ | refine region_rule (fun KK hKK => ?_) | refine hKK _ _ ?_ | refine And.intro (Eq.refl true) ?_ | refine Exists.intro _ (And.intro (wI (by omega)) ?_) | refine Exists.intro _ (And.intro (wU (by omega)) ?_) | refine Exists.intro _ (And.intro ⟨rfl, by omega⟩ ?_) | refine Exists.intro _ (And.intro rfl ?_) | refine And.intro rfl ?_ | refine And.intro ⟨rfl, rfl⟩ ?_ | ((refine And.intro (fun _ => ?_) (fun _ => ?_)) <;> try (exfalso; omega))))
  exact finP rfl

theorem s_toTs {W : World → (Nat → Prop) → Prop} {v : Value} {t : Nat → Tm} {N : Nat} (h : ArgT W v t N) (hs : okTs t N) (hN : N ≤ 1048576) : SpecW Try.prog W n_l_toTermS [.raw v] [] (.sl 0) [.pr T_i_Term 18 N (rowT t N)] := by
  rcases h with ⟨a, cap, rfl, rfl, rfl⟩ | ⟨b, off, cap, cs, T, fr, rfl, rfl, hg⟩
  · refine SpecW.of_EV hf_l_toTermS hc_l_toTermS rfl rfl rfl fun w0 B ρ0 _ => ?_
    (repeat' (first | refine Exists.intro 0 (Exists.intro (rowT (fun _ => tm0) 0) (And.intro ⟨rfl, rfl, by omega, by omega, mk_rowT⟩ ?_)) | refine And.intro (neI rfl) ?_ | refine And.intro ⟨rfl, leR rfl, onesR rfl⟩ ?_ | refine And.intro ⟨rfl, leR rfl⟩ ?_ | refine draw_rule2 hfol (fun KK hKK => ?_) | refine hKK _ _ _ (by kernel_rfl) ?_ | refine region_rule (fun KK hKK => ?_) | refine hKK _ _ ?_ | refine And.intro (Eq.refl true) ?_ | refine Exists.intro _ (And.intro (wI (by omega)) ?_) | refine Exists.intro _ (And.intro (wU (by omega)) ?_) | refine Exists.intro _ (And.intro ⟨rfl, by omega⟩ ?_) | refine Exists.intro _ (And.intro rfl ?_) | refine And.intro rfl ?_ | refine And.intro ⟨rfl, rfl⟩ ?_ | ((refine And.intro (fun _ => ?_) (fun _ => ?_)) <;> try (exfalso; omega))))
    refine loop_rule (α := Unit) (fun _ => True) (fun _ => [(0, .raw (.slice a 0 cap)), (3, .sl 0), (4, vi 0)]) (fun _ => [.pr T_i_Term 18 0 (rowT t 0)]) (fun _ => 0) () [0]
      trivial ⟨⟨rfl, rfl, rfl, trivial⟩, ⟨rfl, trivial⟩, rfl⟩ ?_
    rintro _ gg _
    (repeat' (first | refine And.intro (neI rfl) ?_ | refine And.intro ⟨rfl, leR rfl, onesR rfl⟩ ?_ | refine And.intro ⟨rfl, leR rfl⟩ ?_ | refine draw_rule2 hfol (fun KK hKK => ?_) | refine hKK _ _ _ (by kernel_rfl) ?_ | refine region_rule (fun KK hKK => ?_) | refine hKK _ _ ?_ | refine And.intro (Eq.refl true) ?_ | refine Exists.intro _ (And.intro (wI (by omega)) ?_) | refine Exists.intro _ (And.intro (wU (by omega)) ?_) | refine Exists.intro _ (And.intro ⟨rfl, by omega⟩ ?_) | refine Exists.intro _ (And.intro rfl ?_) | refine And.intro rfl ?_ | refine And.intro ⟨rfl, rfl⟩ ?_ | ((refine And.intro (fun _ => ?_) (fun _ => ?_)) <;> try (exfalso; omega))))
    exact Exists.intro [0] (And.intro (rfl) (And.intro ⟨rfl, trivial⟩ rfl))
  · refine SpecW.of_EV hf_l_toTermS hc_l_toTermS rfl rfl rfl fun w0 B ρ0 hW => ?_
    have hW : w0.heap[b]? = some (.cells cs T fr) ∧ ¬ B b := hW
    (repeat' (first | refine Exists.intro N (Exists.intro (rowT (fun _ => tm0) N) (And.intro ⟨rfl, rfl, by omega, by omega, mk_rowT⟩ ?_)) | refine And.intro (neI rfl) ?_ | refine And.intro ⟨rfl, leR rfl, onesR rfl⟩ ?_ | refine And.intro ⟨rfl, leR rfl⟩ ?_ | refine draw_rule2 hfol (fun KK hKK => ?_) | refine hKK _ _ _ (by kernel_rfl) ?_ | refine region_rule (fun KK hKK => ?_) | refine hKK _ _ ?_ | refine And.intro (Eq.refl true) ?_ | refine Exists.intro _ (And.intro (wI (by omega)) ?_) | refine Exists.intro _ (And.intro (wU (by omega)) ?_) | refine Exists.intro _ (And.intro ⟨rfl, by omega⟩ ?_) | refine Exists.intro _ (And.intro rfl ?_) | refine And.intro rfl ?_ | refine And.intro ⟨rfl, rfl⟩ ?_ | ((refine And.intro (fun _ => ?_) (fun _ => ?_)) <;> try (exfalso; omega))))
    refine loop_rule (α := Nat) (fun k => k ≤ N) (fun k => [(0, .raw (.slice (some ⟨b, off, none⟩) N cap)), (3, .sl 0), (4, vi k)]) (fun k => [.pr T_i_Term 18 N (rowT (fun j => if j < k then t j else tm0) N)]) (fun k => N - k) 0 [0]
      (by omega) ⟨⟨rfl, rfl, rfl, trivial⟩, ⟨congrArg some (congrArg (O.pr T_i_Term 18 N) (rowT_congr fun j _ => (if_neg (Nat.not_lt_zero j)).symm)), trivial⟩, rfl⟩ ?_
    rintro k gg hk
    by_cases h9 : k = N
    · subst h9
      (repeat' (first | refine And.intro (neI rfl) ?_ | refine And.intro ⟨rfl, leR rfl, onesR rfl⟩ ?_ | refine And.intro ⟨rfl, leR rfl⟩ ?_ | refine draw_rule2 hfol (fun KK hKK => ?_) | refine hKK _ _ _ (by kernel_rfl) ?_ | refine region_rule (fun KK hKK => ?_) | refine hKK _ _ ?_ | refine And.intro (Eq.refl true) ?_ | refine Exists.intro _ (And.intro (wI (by omega)) ?_) | refine Exists.intro _ (And.intro (wU (by omega)) ?_) | refine Exists.intro _ (And.intro ⟨rfl, by omega⟩ ?_) | refine Exists.intro _ (And.intro rfl ?_) | refine And.intro rfl ?_ | refine And.intro ⟨rfl, rfl⟩ ?_ | ((refine And.intro (fun _ => ?_) (fun _ => ?_)) <;> try (exfalso; omega))))
      exact Exists.intro [0] (And.intro rfl (And.intro ⟨congrArg some (congrArg (O.pr T_i_Term 18 k) (rowT_congr fun j hj => if_pos hj)), trivial⟩ rfl))
    have hkl : k < N := by omega
    have hat := hg k hkl
    have hk16 := hs k hkl
    have hsx : okTs (fun j => if j < k then t j else tm0) N := fun j hj => by
      show (if j < k then t j else tm0).2.1.length = 16
      split
      · exact hs j hj
      · rfl
    have hset : (rowT (fun j => if j < k then t j else tm0) N).take (k * 18) ++ tmC (t k) ++ (rowT (fun j => if j < k then t j else tm0) N).drop (k * 18 + 18) = rowT (fun j => if j < k + 1 then t j else tm0) N := by
      rw [rowT_splice hsx hkl]
      refine rowT_congr fun j hj => ?_
      by_cases hjk : j = k
      · subst hjk; rw [if_pos rfl, if_pos (by omega)]
      · rw [if_neg hjk]
        by_cases h2 : j < k
        · rw [if_pos h2, if_pos (by omega)]
        · rw [if_neg h2, if_neg (by omega)]
    have hlen := rowT_len hsx
    (repeat' (first | refine Exists.intro (off + k * 18) (And.intro rfl ?_) | refine Exists.intro cs (Exists.intro T (Exists.intro fr (And.intro hW ?_))) | refine Exists.intro (tmC (t k)) (And.intro ⟨tmC_len hk16, hat⟩ ?_) | refine (s_toTm (t k) hk16).pure rfl ?_ | refine And.intro ⟨tmC_len hk16, leR rfl, tmC_ones⟩ ?_ | refine Exists.intro (rowT (fun j => if j < k + 1 then t j else tm0) N) (And.intro ⟨by omega, hset⟩ ?_) | refine And.intro (neI rfl) ?_ | refine And.intro ⟨rfl, leR rfl, onesR rfl⟩ ?_ | refine And.intro ⟨rfl, leR rfl⟩ ?_ | refine draw_rule2 hfol (fun KK hKK => ?_) | refine hKK _ _ _ (by kernel_rfl) ?_ | refine region_rule (fun KK hKK => ?_) | refine hKK _ _ ?_ | refine And.intro (Eq.refl true) ?_ | refine Exists.intro _ (And.intro (wI (by omega)) ?_) | refine Exists.intro _ (And.intro (wU (by omega)) ?_) | refine Exists.intro _ (And.intro ⟨rfl, by omega⟩ ?_) | refine Exists.intro _ (And.intro rfl ?_) | refine And.intro rfl ?_ | refine And.intro ⟨rfl, rfl⟩ ?_ | ((refine And.intro (fun _ => ?_) (fun _ => ?_)) <;> try (exfalso; omega))))
    refine Exists.intro (k + 1) (Exists.intro [0] (And.intro ⟨by omega, (by show N - (k + 1) < N - k; omega)⟩ ⟨⟨rfl, rfl, rfl, trivial⟩, ⟨rfl, trivial⟩, rfl⟩))

/-! elements -/
abbrev elR (p c n : Int) (v : Value) : V := .raw (.agg #[.int .i64 p, .int .i64 c, .int .i64 n, v])
abbrev elV (p c n : Int) (k : Nat) : V := .agg [vi p, vi c, vi n, .sl k]
theorem s_szT (a : Option Addr) (N cap : Nat) (left : Int) (hN : N ≤ 9223372036854775807) (hl : 0 ≤ left ∧ left ≤ 4611686018427387904) : Spec Try.prog n_l_szTermS [.raw (.slice a N cap), vi left] [] (vi (if left - N < 0 then -1 else left - N)) [] := by
  refine SpecW.of_EV hf_l_szTermS hc_l_szTermS rfl rfl rfl fun w0 B ρ0 _ => ?_
  (repeat' (first | refine And.intro (neI rfl) ?_ | refine And.intro ⟨rfl, leR rfl, onesR rfl⟩ ?_ | refine And.intro ⟨rfl, leR rfl⟩ ?_ | refine draw_rule2 hfol (fun KK hKK => ?_) | refine hKK _ _ _ (by kernel_rfl) ?_ | refine region_rule (fun KK hKK => ?_) | refine hKK _ _ ?_ | refine And.intro (Eq.refl true) ?_ | refine Exists.intro _ (And.intro (wI (by omega)) ?_) | refine Exists.intro _ (And.intro (wU (by omega)) ?_) | refine Exists.intro _ (And.intro ⟨rfl, by omega⟩ ?_) | refine Exists.intro _ (And.intro rfl ?_) | refine And.intro rfl ?_ | refine And.intro ⟨rfl, rfl⟩ ?_ | ((refine And.intro (fun _ => ?_) (fun _ => ?_)) <;> try (exfalso; omega))))
  · exact Exists.intro [] (And.intro (by rw [if_pos (by omega)]; rfl) (And.intro trivial rfl))
  · exact Exists.intro [] (And.intro (by rw [if_neg (by omega)]; rfl) (And.intro trivial rfl))
theorem s_szE (p c n : Int) (a : Option Addr) (N cap : Nat) (left : Int) (hN : N ≤ 9223372036854775807) (hl : 0 ≤ left ∧ left ≤ 4611686018427387904) : Spec Try.prog n_l_szElement [elR p c n (.slice a N cap), vi left] [] (vi (if left - N < 0 then -1 else left - N)) [] := by
  refine SpecW.of_EV hf_l_szElement hc_l_szElement rfl rfl rfl fun w0 B ρ0 _ => ?_
  have h := s_szT a N cap left hN hl
  by_cases h0 : left - N < 0
  · rw [if_pos h0] at h ⊢
    (repeat' (first | refine (h).pure rfl ?_ | refine And.intro (neI rfl) ?_ | refine And.intro ⟨rfl, leR rfl, onesR rfl⟩ ?_ | refine And.intro ⟨rfl, leR rfl⟩ ?_ | refine draw_rule2 hfol (fun KK hKK => ?_) | refine hKK _ _ _ (by kernel_rfl) ?_ | refine region_rule (fun KK hKK => ?_) | refine hKK _ _ ?_ | refine And.intro (Eq.refl true) ?_ | refine Exists.intro _ (And.intro (wI (by omega)) ?_) | refine Exists.intro _ (And.intro (wU (by omega)) ?_) | refine Exists.intro _ (And.intro ⟨rfl, by omega⟩ ?_) | refine Exists.intro _ (And.intro rfl ?_) | refine And.intro rfl ?_ | refine And.intro ⟨rfl, rfl⟩ ?_ | ((refine And.intro (fun _ => ?_) (fun _ => ?_)) <;> try (exfalso; omega))))
    exact Exists.intro [] (And.intro (rfl) (And.intro trivial rfl))
  · rw [if_neg h0] at h ⊢
    (repeat' (first | refine (h).pure rfl ?_ | refine And.intro (neI rfl) ?_ | refine And.intro ⟨rfl, leR rfl, onesR rfl⟩ ?_ | refine And.intro ⟨rfl, leR rfl⟩ ?_ | refine draw_rule2 hfol (fun KK hKK => ?_) | refine hKK _ _ _ (by kernel_rfl) ?_ | refine region_rule (fun KK hKK => ?_) | refine hKK _ _ ?_ | refine And.intro (Eq.refl true) ?_ | refine Exists.intro _ (And.intro (wI (by omega)) ?_) | refine Exists.intro _ (And.intro (wU (by omega)) ?_) | refine Exists.intro _ (And.intro ⟨rfl, by omega⟩ ?_) | refine Exists.intro _ (And.intro rfl ?_) | refine And.intro rfl ?_ | refine And.intro ⟨rfl, rfl⟩ ?_ | ((refine And.intro (fun _ => ?_) (fun _ => ?_)) <;> try (exfalso; omega))))
    exact Exists.intro [] (And.intro (rfl) (And.intro trivial rfl))
theorem s_toE {W : World → (Nat → Prop) → Prop} {v : Value} {t : Nat → Tm} {N : Nat} (p c n : Int) (h : ArgT W v t N) (hs : okTs t N) (hN : N ≤ 1048576) : SpecW Try.prog W n_l_toElement [elR p c n v] [] (elV p c n 0) [.pr T_i_Term 18 N (rowT t N)] := by
  refine SpecW.of_EV hf_l_toElement hc_l_toElement rfl rfl rfl fun w0 B ρ0 hW => ?_
  have ht := s_toTs h hs hN
  have hp := h.pass (Γ := ⟨w0, B, 0, ρ0⟩) hW
  (repeat' (first | refine ht.makeW hp [] rfl trivial ?_ | refine Exists.intro [Value.int .i64 p, .int .i64 0, .int .i64 0, .slice none 0 0] (And.intro ⟨leR rfl, rfl⟩ ?_) | refine Exists.intro [Value.int .i64 p, .int .i64 c, .int .i64 0, .slice none 0 0] (And.intro ⟨leR rfl, rfl⟩ ?_) | refine Exists.intro [Value.int .i64 p, .int .i64 c, .int .i64 n, .slice none 0 0] (And.intro ⟨leR rfl, rfl⟩ ?_) | refine Exists.intro [vi p, vi c, vi n, .sl 3] (And.intro ⟨rfl, rfl⟩ ?_) | refine And.intro ⟨rfl, leR rfl, rfl⟩ ?_ | refine Exists.intro [vi p, vi c, vi n, .sl 3] (And.intro ⟨leR rfl, rfl⟩ ?_) | refine And.intro (neI rfl) ?_ | refine And.intro ⟨rfl, leR rfl, onesR rfl⟩ ?_ | refine And.intro ⟨rfl, leR rfl⟩ ?_ | refine draw_rule2 hfol (fun KK hKK => ?_) | refine hKK _ _ _ (by kernel_rfl) ?_ | refine region_rule (fun KK hKK => ?_) | refine hKK _ _ ?_ | refine And.intro (Eq.refl true) ?_ | refine Exists.intro _ (And.intro (wI (by omega)) ?_) | refine Exists.intro _ (And.intro (wU (by omega)) ?_) | refine Exists.intro _ (And.intro ⟨rfl, by omega⟩ ?_) | refine Exists.intro _ (And.intro rfl ?_) | refine And.intro rfl ?_ | refine And.intro ⟨rfl, rfl⟩ ?_ | ((refine And.intro (fun _ => ?_) (fun _ => ?_)) <;> try (exfalso; omega))))
  exact Exists.intro [3] (And.intro (rfl) (And.intro ⟨rfl, trivial⟩ rfl))
end Go.Proofs.Ytcibbadioijmcaa.VE
