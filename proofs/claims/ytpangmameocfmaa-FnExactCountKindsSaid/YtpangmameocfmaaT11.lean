/- Contracts of functions of the given program, for all arguments that the contract names; see each theorem. -/
import Derived.Test.YtpangmameocfmaaT10
set_option linter.all false
namespace Go.Proofs.Ytpangmameocfmaa.VE.P
open Go
set_option maxHeartbeats 400000
set_option maxRecDepth 100000

theorem s_parts (n : Nat) (m : List Nat) (hn : n ≤ 4) : Spec Try.prog n_i_Partition_parts [.ptr 0 0] [.pc (pcl n m) T_i_Partition] (.asl 0 1 (2 * n) 8) [.pc (pcl n m) T_i_Partition] := by
  refine SpecW.of_EV hf_i_Partition_parts hc_i_Partition_parts rfl rfl rfl fun w0 B ρ0 _ => ?_
  (repeat' (first | refine (s_n n m).read [0] rfl ⟨rfl, trivial⟩ ?_ | refine Exists.intro (2 * n) (And.intro ⟨by omega, by omega⟩ ?_) | refine And.intro (neI rfl) ?_ | refine And.intro ⟨rfl, leR rfl, onesR rfl⟩ ?_ | refine And.intro ⟨rfl, leR rfl⟩ ?_ | refine draw_rule2 hfol (fun KK hKK => ?_) | refine hKK _ _ _ (by kernel_rfl) ?_ | refine region_rule (fun KK hKK => ?_) | refine hKK _ _ ?_ | refine And.intro (Eq.refl true) ?_ | refine Exists.intro _ (And.intro (wI (by omega)) ?_) | refine Exists.intro _ (And.intro (wU (by omega)) ?_) | refine Exists.intro _ (And.intro ⟨rfl, by omega⟩ ?_) | refine Exists.intro _ (And.intro rfl ?_) | refine And.intro rfl ?_ | refine And.intro ⟨rfl, rfl⟩ ?_ | ((refine And.intro (fun _ => ?_) (fun _ => ?_)) <;> try (exfalso; omega))))
  exact Exists.intro [0] (And.intro rfl (And.intro ⟨rfl, trivial⟩ rfl))

/-- The digits of a partition. -/
def dg (m : List Nat) (i : Nat) : List UInt8 := (List.range i).map fun j => (48 + m.getD j 0).toUInt8
def dgB (m : List Nat) (i : Nat) : ByteArray := ⟨(dg m i).toArray⟩
theorem dg_succ {m : List Nat} {i : Nat} : dg m (i + 1) = dg m i ++ [(48 + m.getD i 0).toUInt8] := by simp [dg, List.range_succ]
theorem dgB_succ {m : List Nat} {i : Nat} : dgB m i ++ ⟨#[(48 + m.getD i 0).toUInt8]⟩ = dgB m (i + 1) := by
  unfold dgB; rw [dg_succ]; rfl

theorem row1s {c : List Value} {k : IntKind} {a : Int} (h : c.length ≤ 1) : c.take (0 * 1) ++ (Value.int k a).cells.toList ++ c.drop (0 * 1 + 1) = [.int k a] := by
  simp [Value.cells, List.drop_of_length_le h]
theorem u8_nat {x : Nat} (h : x < 256) : x.toUInt8.toNat = x := by simp; omega

theorem s_dec1 (x : Nat) (hx : x < 10) : Spec Try.prog n_s_l01Dec [vi x] [] (.raw (.string ⟨#[(48 + x).toUInt8]⟩)) [] := by
  have hb : [Value.int .u8 (48 + x)] = [(48 + x).toUInt8].map (fun b => Value.int .u8 b.toNat) := by
    simp only [List.map_cons, List.map_nil, u8_nat (show 48 + x < 256 by omega)]; rfl
  refine SpecW.of_EV hf_s_l01Dec hc_s_l01Dec rfl rfl rfl fun w0 B ρ0 _ => ?_
  (repeat' (first | refine And.intro ⟨rfl, mkL rfl⟩ ?_ | refine Exists.intro [Value.int .u8 (48 + x)] (And.intro (row1s (mkL' rfl)) ?_) | refine Exists.intro [(48 + x).toUInt8] (And.intro hb ?_) | refine And.intro (neI rfl) ?_ | refine And.intro ⟨rfl, leR rfl, onesR rfl⟩ ?_ | refine And.intro ⟨rfl, leR rfl⟩ ?_ | refine draw_rule2 hfol (fun KK hKK => ?_) | refine hKK _ _ _ (by kernel_rfl) ?_ | refine region_rule (fun KK hKK => ?_) | refine hKK _ _ ?_ | refine And.intro (Eq.refl true) ?_ | refine Exists.intro _ (And.intro (wI (by omega)) ?_) | refine Exists.intro _ (And.intro (wU (by omega)) ?_) | refine Exists.intro _ (And.intro ⟨rfl, by omega⟩ ?_) | refine Exists.intro _ (And.intro rfl ?_) | refine And.intro rfl ?_ | refine And.intro ⟨rfl, rfl⟩ ?_ | ((refine And.intro (fun _ => ?_) (fun _ => ?_)) <;> try (exfalso; omega))))
  exact finP rfl

theorem s_text (n : Nat) (m : List Nat) (hn : n ≤ 4) (hb : ∀ j, m.getD j 0 < 8) (hm : m.length = 8) : Spec Try.prog n_s_l07Text [pv n m] [] (.raw (.string (dgB m (2 * n)))) [] := by
  refine SpecW.of_EV hf_s_l07Text hc_s_l07Text rfl rfl rfl fun w0 B ρ0 _ => ?_
  (repeat' (first | refine And.intro (neI rfl) ?_ | refine And.intro ⟨rfl, leR rfl, onesR rfl⟩ ?_ | refine And.intro ⟨rfl, leR rfl⟩ ?_ | refine draw_rule2 hfol (fun KK hKK => ?_) | refine hKK _ _ _ (by kernel_rfl) ?_ | refine region_rule (fun KK hKK => ?_) | refine hKK _ _ ?_ | refine And.intro (Eq.refl true) ?_ | refine Exists.intro _ (And.intro (wI (by omega)) ?_) | refine Exists.intro _ (And.intro (wU (by omega)) ?_) | refine Exists.intro _ (And.intro ⟨rfl, by omega⟩ ?_) | refine Exists.intro _ (And.intro rfl ?_) | refine And.intro rfl ?_ | refine And.intro ⟨rfl, rfl⟩ ?_ | ((refine And.intro (fun _ => ?_) (fun _ => ?_)) <;> try (exfalso; omega))))
  refine loop_rule (α := Nat) (fun i => i ≤ 2 * n)
      (fun i => [(1, .ptr 0 0), (3, .raw (.string (dgB m i))), (4, vi i)]) (fun i => [.pc (pcl n m) T_i_Partition]) (fun i => 2 * n - i) 0 [0]
      (by omega) ⟨⟨rfl, rfl, rfl, trivial⟩, ⟨rfl, trivial⟩, rfl⟩ ?_
  rintro i g hi
  by_cases h8 : i = 2 * n
  · subst h8
    (repeat' (first | refine And.intro (neI rfl) ?_ | refine And.intro ⟨rfl, leR rfl, onesR rfl⟩ ?_ | refine And.intro ⟨rfl, leR rfl⟩ ?_ | refine draw_rule2 hfol (fun KK hKK => ?_) | refine hKK _ _ _ (by kernel_rfl) ?_ | refine region_rule (fun KK hKK => ?_) | refine hKK _ _ ?_ | refine And.intro (Eq.refl true) ?_ | refine Exists.intro _ (And.intro (wI (by omega)) ?_) | refine Exists.intro _ (And.intro (wU (by omega)) ?_) | refine Exists.intro _ (And.intro ⟨rfl, by omega⟩ ?_) | refine Exists.intro _ (And.intro rfl ?_) | refine And.intro rfl ?_ | refine And.intro ⟨rfl, rfl⟩ ?_ | ((refine And.intro (fun _ => ?_) (fun _ => ?_)) <;> try (exfalso; omega))))
    exact finP rfl
  have hs : (dgB m i).size = i := by simp [dgB, dg, ByteArray.size]
  have hbi := hb i
  (repeat' (first | refine (s_dec1 (m.getD i 0) (by have := hb i; omega)).pure rfl ?_ | refine Exists.intro _ (And.intro (pcl_at (by omega)) ?_) | refine And.intro (by rw [hs]; show i + 1 ≤ _; omega) ?_ | refine Exists.intro (dgB m (i + 1)) (And.intro dgB_succ ?_) | refine And.intro (neI rfl) ?_ | refine And.intro ⟨rfl, leR rfl, onesR rfl⟩ ?_ | refine And.intro ⟨rfl, leR rfl⟩ ?_ | refine draw_rule2 hfol (fun KK hKK => ?_) | refine hKK _ _ _ (by kernel_rfl) ?_ | refine region_rule (fun KK hKK => ?_) | refine hKK _ _ ?_ | refine And.intro (Eq.refl true) ?_ | refine Exists.intro _ (And.intro (wI (by omega)) ?_) | refine Exists.intro _ (And.intro (wU (by omega)) ?_) | refine Exists.intro _ (And.intro ⟨rfl, by omega⟩ ?_) | refine Exists.intro _ (And.intro rfl ?_) | refine And.intro rfl ?_ | refine And.intro ⟨rfl, rfl⟩ ?_ | ((refine And.intro (fun _ => ?_) (fun _ => ?_)) <;> try (exfalso; omega))))
  refine Exists.intro (i + 1) (Exists.intro [0] (And.intro ⟨by omega, (by show 2 * n - (i + 1) < 2 * n - i; omega)⟩ ⟨⟨rfl, rfl, rfl, trivial⟩, ⟨rfl, trivial⟩, rfl⟩))
end Go.Proofs.Ytpangmameocfmaa.VE.P
