/- Contracts of functions of the given program, for all arguments that the contract names; see each theorem. -/
import Derived.Test.YtcibbadioijmcaaW1
import Derived.Test.YtcibbadioijmcaaVE4
set_option linter.all false
namespace Go.Proofs.Ytcibbadioijmcaa.VE
open Go
set_option maxHeartbeats 800000
set_option maxRecDepth 100000

/-! rows of ints that come from outside -/
theorem s_toI {W : World → (Nat → Prop) → Prop} {v : Value} {g : Nat → Int} {N : Nat} (h : ArgI W v g N) (hN : N ≤ 1048576) : SpecW Try.prog W n_l_toInt64S [.raw v] [] (.sl 0) [.pr T_int64 1 N (il g N)] := by
  rcases h with ⟨a, cap, rfl, rfl, rfl⟩ | ⟨b, off, cap, cs, t, fr, rfl, rfl, hg⟩
  · refine SpecW.of_EV hf_l_toInt64S hc_l_toInt64S rfl rfl rfl fun w0 B ρ0 _ => ?_
    (repeat' (first | refine Exists.intro 0 (Exists.intro (il (fun _ => 0) 0) (And.intro ⟨rfl, rfl, by omega, by omega, mk_il⟩ ?_)) | refine And.intro (neI rfl) ?_ | refine And.intro ⟨rfl, leR rfl, onesR rfl⟩ ?_ | refine And.intro ⟨rfl, leR rfl⟩ ?_ | refine draw_rule2 hfol (fun KK hKK => ?_) | refine hKK _ _ _ (by kernel_rfl) ?_ | refine region_rule (fun KK hKK => ?_) | refine hKK _ _ ?_ | refine And.intro (Eq.refl true) ?_ | refine Exists.intro _ (And.intro (wI (by omega)) ?_) | refine Exists.intro _ (And.intro (wU (by omega)) ?_) | refine Exists.intro _ (And.intro ⟨rfl, by omega⟩ ?_) | refine Exists.intro _ (And.intro rfl ?_) | refine And.intro rfl ?_ | refine And.intro ⟨rfl, rfl⟩ ?_ | ((refine And.intro (fun _ => ?_) (fun _ => ?_)) <;> try (exfalso; omega))))
    refine loop_rule (α := Unit) (fun _ => True) (fun _ => [(0, .raw (.slice a 0 cap)), (3, .sl 0), (4, vi 0)]) (fun _ => [.pr T_int64 1 0 (il g 0)]) (fun _ => 0) () [0]
      trivial ⟨⟨rfl, rfl, rfl, trivial⟩, ⟨rfl, trivial⟩, rfl⟩ ?_
    rintro _ gg _
    (repeat' (first | refine And.intro (neI rfl) ?_ | refine And.intro ⟨rfl, leR rfl, onesR rfl⟩ ?_ | refine And.intro ⟨rfl, leR rfl⟩ ?_ | refine draw_rule2 hfol (fun KK hKK => ?_) | refine hKK _ _ _ (by kernel_rfl) ?_ | refine region_rule (fun KK hKK => ?_) | refine hKK _ _ ?_ | refine And.intro (Eq.refl true) ?_ | refine Exists.intro _ (And.intro (wI (by omega)) ?_) | refine Exists.intro _ (And.intro (wU (by omega)) ?_) | refine Exists.intro _ (And.intro ⟨rfl, by omega⟩ ?_) | refine Exists.intro _ (And.intro rfl ?_) | refine And.intro rfl ?_ | refine And.intro ⟨rfl, rfl⟩ ?_ | ((refine And.intro (fun _ => ?_) (fun _ => ?_)) <;> try (exfalso; omega))))
    exact Exists.intro [0] (And.intro (rfl) (And.intro ⟨rfl, trivial⟩ rfl))
  · refine SpecW.of_EV hf_l_toInt64S hc_l_toInt64S rfl rfl rfl fun w0 B ρ0 hW => ?_
    have hW : w0.heap[b]? = some (.cells cs t fr) ∧ ¬ B b := hW
    (repeat' (first | refine Exists.intro N (Exists.intro (il (fun _ => 0) N) (And.intro ⟨rfl, rfl, by omega, by omega, mk_il⟩ ?_)) | refine And.intro (neI rfl) ?_ | refine And.intro ⟨rfl, leR rfl, onesR rfl⟩ ?_ | refine And.intro ⟨rfl, leR rfl⟩ ?_ | refine draw_rule2 hfol (fun KK hKK => ?_) | refine hKK _ _ _ (by kernel_rfl) ?_ | refine region_rule (fun KK hKK => ?_) | refine hKK _ _ ?_ | refine And.intro (Eq.refl true) ?_ | refine Exists.intro _ (And.intro (wI (by omega)) ?_) | refine Exists.intro _ (And.intro (wU (by omega)) ?_) | refine Exists.intro _ (And.intro ⟨rfl, by omega⟩ ?_) | refine Exists.intro _ (And.intro rfl ?_) | refine And.intro rfl ?_ | refine And.intro ⟨rfl, rfl⟩ ?_ | ((refine And.intro (fun _ => ?_) (fun _ => ?_)) <;> try (exfalso; omega))))
    refine loop_rule (α := Nat) (fun k => k ≤ N) (fun k => [(0, .raw (.slice (some ⟨b, off, none⟩) N cap)), (3, .sl 0), (4, vi k)]) (fun k => [.pr T_int64 1 N (il (fun j => if j < k then g j else 0) N)]) (fun k => N - k) 0 [0]
      (by omega) ⟨⟨rfl, rfl, rfl, trivial⟩, ⟨rfl, trivial⟩, rfl⟩ ?_
    rintro k gg hk
    by_cases h9 : k = N
    · subst h9
      (repeat' (first | refine And.intro (neI rfl) ?_ | refine And.intro ⟨rfl, leR rfl, onesR rfl⟩ ?_ | refine And.intro ⟨rfl, leR rfl⟩ ?_ | refine draw_rule2 hfol (fun KK hKK => ?_) | refine hKK _ _ _ (by kernel_rfl) ?_ | refine region_rule (fun KK hKK => ?_) | refine hKK _ _ ?_ | refine And.intro (Eq.refl true) ?_ | refine Exists.intro _ (And.intro (wI (by omega)) ?_) | refine Exists.intro _ (And.intro (wU (by omega)) ?_) | refine Exists.intro _ (And.intro ⟨rfl, by omega⟩ ?_) | refine Exists.intro _ (And.intro rfl ?_) | refine And.intro rfl ?_ | refine And.intro ⟨rfl, rfl⟩ ?_ | ((refine And.intro (fun _ => ?_) (fun _ => ?_)) <;> try (exfalso; omega))))
      exact Exists.intro [0] (And.intro rfl (And.intro ⟨congrArg some (congrArg (O.pr T_int64 1 k) (il_congr fun j hj => if_pos hj)), trivial⟩ rfl))
    have hkl : k < N := by omega
    have hat := hg k hkl
    have hset : (il (fun j => if j < k then g j else 0) N).set k (.int .i64 (g k)) = il (fun j => if j < k + 1 then g j else 0) N := il_set fun j hj => by
      by_cases hjk : j = k
      · subst hjk; rw [if_pos (by omega), if_pos rfl]
      · rw [if_neg hjk]
        by_cases h2 : j < k
        · rw [if_pos h2, if_pos (by omega)]
        · rw [if_neg h2, if_neg (by omega)]
    (repeat' (first | refine Exists.intro (off + k) (And.intro (by omega) ?_) | refine Exists.intro cs (Exists.intro t (Exists.intro fr (And.intro hW ?_))) | refine Exists.intro _ (And.intro hat ?_) | refine Exists.intro (il (fun j => if j < k + 1 then g j else 0) N) (And.intro ⟨by rw [il_len]; omega, hset⟩ ?_) | refine And.intro (neI rfl) ?_ | refine And.intro ⟨rfl, leR rfl, onesR rfl⟩ ?_ | refine And.intro ⟨rfl, leR rfl⟩ ?_ | refine draw_rule2 hfol (fun KK hKK => ?_) | refine hKK _ _ _ (by kernel_rfl) ?_ | refine region_rule (fun KK hKK => ?_) | refine hKK _ _ ?_ | refine And.intro (Eq.refl true) ?_ | refine Exists.intro _ (And.intro (wI (by omega)) ?_) | refine Exists.intro _ (And.intro (wU (by omega)) ?_) | refine Exists.intro _ (And.intro ⟨rfl, by omega⟩ ?_) | refine Exists.intro _ (And.intro rfl ?_) | refine And.intro rfl ?_ | refine And.intro ⟨rfl, rfl⟩ ?_ | ((refine And.intro (fun _ => ?_) (fun _ => ?_)) <;> try (exfalso; omega))))
    refine Exists.intro (k + 1) (Exists.intro [0] (And.intro ⟨by omega, (by show N - (k + 1) < N - k; omega)⟩ ⟨⟨rfl, rfl, rfl, trivial⟩, ⟨rfl, trivial⟩, rfl⟩))
end Go.Proofs.Ytcibbadioijmcaa.VE
