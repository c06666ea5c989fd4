/- Contracts of functions of the given program, for all arguments that the contract names; see each theorem. -/
import Derived.Test.YtcibbadioijmcaaM9
import Derived.Test.YtcibbadioijmcaaM5
import Derived.Test.YtcibbadioijmcaaU18s
import Derived.Test.YtcibbadioijmcaaC6
set_option linter.all false
namespace Go.Proofs.Ytcibbadioijmcaa.VE
open Go
set_option maxHeartbeats 1600000
set_option maxRecDepth 100000

abbrev lV32 (L : Nat → Nat) : List Value := il (oI L) 32
theorem l32_len {L : Nat → Nat} : (lV32 L).length = 32 := il_len
theorem l32_all {L : Nat → Nat} : ((lV32 L).drop 0).take 32 = lV32 L := by
  rw [List.drop_zero, List.take_of_length_le (by rw [l32_len]; exact Nat.le_refl _)]
theorem il_ones {f : Nat → Int} {N : Nat} : ones (il f N) := by
  intro u hu
  simp only [il, List.mem_map] at hu
  obtain ⟨i, _, rfl⟩ := hu; rfl
def jS (L : Nat → Nat) (i k j x : Nat) : Nat := if x < j ∧ L x = L k then L i else L x
theorem jS_0 {L : Nat → Nat} {i k : Nat} : lV32 (jS L i k 0) = lV32 L := il_congr fun x _ => by
  show ((jS L i k 0 x : Nat) : Int) = _
  unfold jS; rw [if_neg (by omega)]; rfl
theorem jS_32 {L : Nat → Nat} {i k : Nat} : lV32 (jS L i k 32) = lV32 (jnL L i k) := il_congr fun x hx => by
  show ((jS L i k 32 x : Nat) : Int) = ((jnL L i k x : Nat) : Int)
  unfold jS jnL
  by_cases h : L x = L k
  · rw [if_pos ⟨hx, h⟩, if_pos h]
  · rw [if_neg (fun e => h e.2), if_neg h]
theorem jS_at {L : Nat → Nat} {i k j : Nat} (hj : j < 32) : (lV32 (jS L i k j))[j]? = some (.int .i64 ((L j : Nat) : Int)) := by
  rw [il_at hj]
  show some (Value.int .i64 ((jS L i k j j : Nat) : Int)) = _
  unfold jS; rw [if_neg (by omega)]
theorem jS_t {L : Nat → Nat} {i k j : Nat} (h : L j = L k) : (lV32 (jS L i k j)).set j (.int .i64 ((L i : Nat) : Int)) = lV32 (jS L i k (j + 1)) := il_set fun x _ => by
  show ((jS L i k (j + 1) x : Nat) : Int) = if x = j then ((L i : Nat) : Int) else ((jS L i k j x : Nat) : Int)
  unfold jS
  by_cases hx : x = j
  · subst hx; rw [if_pos ⟨by omega, h⟩, if_pos rfl]
  · rw [if_neg hx]
    by_cases h2 : x < j ∧ L x = L k
    · rw [if_pos h2, if_pos ⟨by omega, h2.2⟩]
    · rw [if_neg h2, if_neg (fun e => h2 ⟨by omega, e.2⟩)]
theorem jS_f {L : Nat → Nat} {i k j : Nat} (h : L j ≠ L k) : lV32 (jS L i k j) = lV32 (jS L i k (j + 1)) := il_congr fun x _ => by
  show ((jS L i k j x : Nat) : Int) = ((jS L i k (j + 1) x : Nat) : Int)
  unfold jS
  by_cases h2 : x < j ∧ L x = L k
  · rw [if_pos h2, if_pos ⟨by omega, h2.2⟩]
  · rw [if_neg h2, if_neg]
    rintro ⟨h3, h4⟩
    by_cases hx : x = j
    · subst hx; exact h h4
    · exact h2 ⟨by omega, h4⟩
theorem s_ljoin (L : Nat → Nat) (i k : Nat) (hi : i < 32) (hk : k < 32) : Spec Try.prog n_s_l09Join [.raw (.agg (lV32 L).toArray), vi i, vi k] [] (.raw (.agg (lV32 (jnL L i k)).toArray)) [] := by
  have hfol : Try.prog.follows .mixedOrders = true := rfl
  have a1 : (lV32 L)[i]? = some (.int .i64 ((L i : Nat) : Int)) := il_at hi
  have a2 : (lV32 L)[k]? = some (.int .i64 ((L k : Nat) : Int)) := il_at hk
  refine SpecW.of_EV hf_s_l09Join hc_s_l09Join rfl rfl rfl fun w0 B ρ0 _ => ?_
  (repeat' (first | refine Exists.intro _ (And.intro a1 ?_) | refine Exists.intro _ (And.intro a2 ?_) | refine And.intro (neI rfl) ?_ | refine And.intro ⟨rfl, leR rfl, onesR rfl⟩ ?_ | refine And.intro ⟨rfl, leR rfl⟩ ?_ | refine draw_rule2 hfol (fun KK hKK => ?_) | refine hKK _ _ _ (by kernel_rfl) ?_ | refine region_rule (fun KK hKK => ?_) | refine hKK _ _ ?_ | refine And.intro (Eq.refl true) ?_ | refine Exists.intro _ (And.intro (wI (by omega)) ?_) | refine Exists.intro _ (And.intro (wU (by omega)) ?_) | refine Exists.intro _ (And.intro ⟨rfl, by omega⟩ ?_) | refine Exists.intro _ (And.intro rfl ?_) | refine And.intro rfl ?_ | refine And.intro ⟨rfl, rfl⟩ ?_ | ((refine And.intro (fun _ => ?_) (fun _ => ?_)) <;> try (exfalso; omega))))
  refine loop_rule (α := Nat) (fun j => j ≤ 32)
    (fun j => [(3, .ptr 0 0), (6, .ptr 1 0), (7, vi (L i : Nat)), (8, vi (L k : Nat)), (9, vi j)])
    (fun j => [.pc (lV32 (jS L i k j)) T_a32q_int64, .pc (lV32 fun _ => 0) T_a32q_int64]) (fun j => 32 - j) 0 [0, 1]
    (by omega) ⟨⟨rfl, rfl, rfl, rfl, rfl, trivial⟩, ⟨by rw [jS_0]; rfl, rfl, trivial⟩, rfl⟩ ?_
  rintro j g hj
  by_cases h9 : j = 32
  · subst h9
    (repeat' (first | refine Exists.intro (lV32 (jS L i k 32)) (And.intro ⟨l32_len, l32_all⟩ ?_) | refine And.intro ⟨l32_len, leR rfl, il_ones⟩ ?_ | refine Exists.intro (lV32 (jS L i k 32)) (And.intro ⟨leR rfl, spl0 (leR rfl)⟩ ?_) | refine And.intro (neI rfl) ?_ | refine And.intro ⟨rfl, leR rfl, onesR rfl⟩ ?_ | refine And.intro ⟨rfl, leR rfl⟩ ?_ | refine draw_rule2 hfol (fun KK hKK => ?_) | refine hKK _ _ _ (by kernel_rfl) ?_ | refine region_rule (fun KK hKK => ?_) | refine hKK _ _ ?_ | refine And.intro (Eq.refl true) ?_ | refine Exists.intro _ (And.intro (wI (by omega)) ?_) | refine Exists.intro _ (And.intro (wU (by omega)) ?_) | refine Exists.intro _ (And.intro ⟨rfl, by omega⟩ ?_) | refine Exists.intro _ (And.intro rfl ?_) | refine And.intro rfl ?_ | refine And.intro ⟨rfl, rfl⟩ ?_ | ((refine And.intro (fun _ => ?_) (fun _ => ?_)) <;> try (exfalso; omega))))
    exact Exists.intro [] (And.intro (by rw [← jS_32]; rfl) (And.intro trivial rfl))
  have hjl : j < 32 := by omega
  by_cases h : L j = L k
  · have h2 : ((L j : Nat) : Int) = ((L k : Nat) : Int) := by omega
    (repeat' (first | refine Exists.intro _ (And.intro (jS_at hjl) ?_) | refine Exists.intro (lV32 (jS L i k (j + 1))) (And.intro ⟨by rw [l32_len]; omega, jS_t h⟩ ?_) | refine And.intro (neI rfl) ?_ | refine And.intro ⟨rfl, leR rfl, onesR rfl⟩ ?_ | refine And.intro ⟨rfl, leR rfl⟩ ?_ | refine draw_rule2 hfol (fun KK hKK => ?_) | refine hKK _ _ _ (by kernel_rfl) ?_ | refine region_rule (fun KK hKK => ?_) | refine hKK _ _ ?_ | refine And.intro (Eq.refl true) ?_ | refine Exists.intro _ (And.intro (wI (by omega)) ?_) | refine Exists.intro _ (And.intro (wU (by omega)) ?_) | refine Exists.intro _ (And.intro ⟨rfl, by omega⟩ ?_) | refine Exists.intro _ (And.intro rfl ?_) | refine And.intro rfl ?_ | refine And.intro ⟨rfl, rfl⟩ ?_ | ((refine And.intro (fun _ => ?_) (fun _ => ?_)) <;> try (exfalso; omega))))
    refine Exists.intro (j + 1) (Exists.intro [0, 1] (And.intro ⟨by omega, (by show 32 - (j + 1) < 32 - j; omega)⟩ ⟨⟨rfl, rfl, rfl, rfl, rfl, trivial⟩, ⟨rfl, rfl, trivial⟩, rfl⟩))
  · have h2 : ((L j : Nat) : Int) ≠ ((L k : Nat) : Int) := by omega
    (repeat' (first | refine Exists.intro _ (And.intro (jS_at hjl) ?_) | refine And.intro (neI rfl) ?_ | refine And.intro ⟨rfl, leR rfl, onesR rfl⟩ ?_ | refine And.intro ⟨rfl, leR rfl⟩ ?_ | refine draw_rule2 hfol (fun KK hKK => ?_) | refine hKK _ _ _ (by kernel_rfl) ?_ | refine region_rule (fun KK hKK => ?_) | refine hKK _ _ ?_ | refine And.intro (Eq.refl true) ?_ | refine Exists.intro _ (And.intro (wI (by omega)) ?_) | refine Exists.intro _ (And.intro (wU (by omega)) ?_) | refine Exists.intro _ (And.intro ⟨rfl, by omega⟩ ?_) | refine Exists.intro _ (And.intro rfl ?_) | refine And.intro rfl ?_ | refine And.intro ⟨rfl, rfl⟩ ?_ | ((refine And.intro (fun _ => ?_) (fun _ => ?_)) <;> try (exfalso; omega))))
    refine Exists.intro (j + 1) (Exists.intro [0, 1] (And.intro ⟨by omega, (by show 32 - (j + 1) < 32 - j; omega)⟩ ⟨⟨rfl, rfl, rfl, rfl, rfl, trivial⟩, ⟨by rw [← jS_f h]; rfl, rfl, trivial⟩, rfl⟩))
end Go.Proofs.Ytcibbadioijmcaa.VE
