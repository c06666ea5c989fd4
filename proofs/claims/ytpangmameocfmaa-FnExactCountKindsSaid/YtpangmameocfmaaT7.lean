/- Contracts of functions of the given program, for all arguments that the contract names; see each theorem. -/
import Derived.Test.YtpangmameocfmaaT6
set_option linter.all false
namespace Go.Proofs.Ytpangmameocfmaa.VE.P
open Go
set_option maxHeartbeats 400000
set_option maxRecDepth 100000

def chB (bs : ByteArray) : Nat → Nat → Bool
  | 0, _ => true
  | d + 1, i => if tb bs i < 48 ∨ 55 < tb bs i then false else chB bs d (i + 1)
def chA (bs : ByteArray) : Bool := chB bs bs.size 0
def parseS (bs : ByteArray) : Int × List Nat × Int :=
  if bs.size % 2 = 0 ∧ bs.size ≤ 8 then (if (chA bs && isP (bs.size / 2 : Nat) (pa bs bs.size)) = true then ((bs.size / 2 : Nat), pa bs bs.size, 0) else (0, List.replicate 8 0, 6)) else (0, List.replicate 8 0, 6)

theorem s_sParse (bs : ByteArray) (hsz : bs.size ≤ 1048576) : Spec Try.prog n_s_ParsePartition [.raw (.string bs)] [] (prV (parseS bs)) [] := by
  refine SpecW.of_EV hf_s_ParsePartition hc_s_ParsePartition rfl rfl rfl fun w0 B ρ0 _ => ?_
  by_cases h2 : bs.size % 2 = 0
  rotate_left
  · have e1 : Int.tmod (bs.size : Int) 2 = 1 := by rw [tm2]; omega
    have hr : parseS bs = (0, List.replicate 8 0, 6) := by simp [parseS, h2]
    (repeat' (first | refine Exists.intro 1 (And.intro e1 ?_) | refine Exists.intro (pcl 0 (List.replicate 8 0)) (And.intro ⟨leR rfl, rfl⟩ ?_) | refine Exists.intro (pcl 0 (List.replicate 8 0)) (And.intro ⟨rfl, rfl⟩ ?_) | refine And.intro (neI rfl) ?_ | refine And.intro ⟨rfl, leR rfl, onesR rfl⟩ ?_ | refine And.intro ⟨rfl, leR rfl⟩ ?_ | refine draw_rule2 hfol (fun KK hKK => ?_) | refine hKK _ _ _ (by kernel_rfl) ?_ | refine region_rule (fun KK hKK => ?_) | refine hKK _ _ ?_ | refine And.intro (Eq.refl true) ?_ | refine Exists.intro _ (And.intro (wI (by omega)) ?_) | refine Exists.intro _ (And.intro (wU (by omega)) ?_) | refine Exists.intro _ (And.intro ⟨rfl, by omega⟩ ?_) | refine Exists.intro _ (And.intro rfl ?_) | refine And.intro rfl ?_ | refine And.intro ⟨rfl, rfl⟩ ?_ | ((refine And.intro (fun _ => ?_) (fun _ => ?_)) <;> try (exfalso; omega))))
    exact Exists.intro [] (And.intro (by rw [hr]; rfl) (And.intro trivial rfl))
  have e1 : Int.tmod (bs.size : Int) 2 = 0 := by rw [tm2, h2]; rfl
  by_cases h8 : bs.size ≤ 8
  rotate_left
  · have hr : parseS bs = (0, List.replicate 8 0, 6) := by simp [parseS, h8]
    (repeat' (first | refine Exists.intro 0 (And.intro e1 ?_) | refine Exists.intro (pcl 0 (List.replicate 8 0)) (And.intro ⟨leR rfl, rfl⟩ ?_) | refine Exists.intro (pcl 0 (List.replicate 8 0)) (And.intro ⟨rfl, rfl⟩ ?_) | refine And.intro (neI rfl) ?_ | refine And.intro ⟨rfl, leR rfl, onesR rfl⟩ ?_ | refine And.intro ⟨rfl, leR rfl⟩ ?_ | refine draw_rule2 hfol (fun KK hKK => ?_) | refine hKK _ _ _ (by kernel_rfl) ?_ | refine region_rule (fun KK hKK => ?_) | refine hKK _ _ ?_ | refine And.intro (Eq.refl true) ?_ | refine Exists.intro _ (And.intro (wI (by omega)) ?_) | refine Exists.intro _ (And.intro (wU (by omega)) ?_) | refine Exists.intro _ (And.intro ⟨rfl, by omega⟩ ?_) | refine Exists.intro _ (And.intro rfl ?_) | refine And.intro rfl ?_ | refine And.intro ⟨rfl, rfl⟩ ?_ | ((refine And.intro (fun _ => ?_) (fun _ => ?_)) <;> try (exfalso; omega))))
    exact Exists.intro [] (And.intro (by rw [hr]; rfl) (And.intro trivial rfl))
  have e2 : IntKind.i64.wrap (Int.tdiv (bs.size : Int) 2) = (bs.size / 2 : Nat) := by rw [td2]; exact wI (by omega)
  (repeat' (first | refine Exists.intro 0 (And.intro e1 ?_) | refine Exists.intro _ (And.intro e2 ?_) | refine Exists.intro (pcl (bs.size / 2 : Nat) (pa bs 0)) (And.intro ⟨leR rfl, rfl⟩ ?_) | refine And.intro (neI rfl) ?_ | refine And.intro ⟨rfl, leR rfl, onesR rfl⟩ ?_ | refine And.intro ⟨rfl, leR rfl⟩ ?_ | refine draw_rule2 hfol (fun KK hKK => ?_) | refine hKK _ _ _ (by kernel_rfl) ?_ | refine region_rule (fun KK hKK => ?_) | refine hKK _ _ ?_ | refine And.intro (Eq.refl true) ?_ | refine Exists.intro _ (And.intro (wI (by omega)) ?_) | refine Exists.intro _ (And.intro (wU (by omega)) ?_) | refine Exists.intro _ (And.intro ⟨rfl, by omega⟩ ?_) | refine Exists.intro _ (And.intro rfl ?_) | refine And.intro rfl ?_ | refine And.intro ⟨rfl, rfl⟩ ?_ | ((refine And.intro (fun _ => ?_) (fun _ => ?_)) <;> try (exfalso; omega))))
  refine loop_rule (α := Nat) (fun i => i ≤ bs.size ∧ chB bs (bs.size - i) i = chA bs)
      (fun i => [(0, .raw (.string bs)), (2, .ptr 0 0), (4, .ptr 1 0), (5, vi i)]) (fun i => [.pc (pcl 0 (List.replicate 8 0)) T_i_Partition, .pc (pcl (bs.size / 2 : Nat) (pa bs i)) T_i_Partition]) (fun i => bs.size - i) 0 [0, 1]
      ⟨by omega, rfl⟩ ⟨⟨rfl, rfl, rfl, rfl, trivial⟩, ⟨rfl, rfl, trivial⟩, rfl⟩ ?_
  rintro i g ⟨hi, hR⟩
  by_cases h9 : i = bs.size
  · subst h9
    have hq := s_is (bs.size / 2 : Nat) (pa bs bs.size) pa_len pa_b
    rw [Nat.sub_self] at hR
    have hch : chA bs = true := hR.symm
    have hr : parseS bs = if isP (bs.size / 2 : Nat) (pa bs bs.size) then (((bs.size / 2 : Nat) : Int), pa bs bs.size, 0) else (0, List.replicate 8 0, 6) := by simp [parseS, h2, h8, hch]
    generalize hv : isP (bs.size / 2 : Nat) (pa bs bs.size) = q at hq hr
    cases q
    all_goals
      (repeat' (first | refine hq.pure rfl ?_ | refine Exists.intro (pcl (bs.size / 2 : Nat) (pa bs bs.size)) (And.intro ⟨pcl_len pa_len, pcl_all pa_len⟩ ?_) | refine And.intro ⟨pcl_len pa_len, leR rfl, pcl_ones⟩ ?_ | refine Exists.intro (pcl (bs.size / 2 : Nat) (pa bs bs.size)) (And.intro ⟨leR rfl, spl0 (leR rfl)⟩ ?_) | refine Exists.intro (pcl 0 (List.replicate 8 0)) (And.intro ⟨leR rfl, rfl⟩ ?_) | refine Exists.intro (pcl 0 (List.replicate 8 0)) (And.intro ⟨rfl, rfl⟩ ?_) | refine And.intro (neI rfl) ?_ | refine And.intro ⟨rfl, leR rfl, onesR rfl⟩ ?_ | refine And.intro ⟨rfl, leR rfl⟩ ?_ | refine draw_rule2 hfol (fun KK hKK => ?_) | refine hKK _ _ _ (by kernel_rfl) ?_ | refine region_rule (fun KK hKK => ?_) | refine hKK _ _ ?_ | refine And.intro (Eq.refl true) ?_ | refine Exists.intro _ (And.intro (wI (by omega)) ?_) | refine Exists.intro _ (And.intro (wU (by omega)) ?_) | refine Exists.intro _ (And.intro ⟨rfl, by omega⟩ ?_) | refine Exists.intro _ (And.intro rfl ?_) | refine And.intro rfl ?_ | refine And.intro ⟨rfl, rfl⟩ ?_ | ((refine And.intro (fun _ => ?_) (fun _ => ?_)) <;> try (exfalso; omega))))
      exact Exists.intro [] (And.intro (by rw [hr]; rfl) (And.intro trivial rfl))
  have hlt : i < bs.size := by omega
  obtain ⟨d, hd⟩ : ∃ d, bs.size - i = d + 1 := ⟨bs.size - i - 1, by omega⟩
  have hd' : bs.size - (i + 1) = d := by omega
  rw [hd] at hR
  unfold chB at hR
  have hb := (bs[i]).toNat_lt
  have ht := tb_at hlt
  have hw : IntKind.u8.wrap ((bs[i].toNat : Int) - 48) = (((tb bs i + 208) % 256 : Nat) : Int) := by rw [ht]; exact sub48 _ (by omega)
  by_cases hch : tb bs i < 48 ∨ 55 < tb bs i
  · rw [if_pos hch] at hR
    have hr : parseS bs = (0, List.replicate 8 0, 6) := by simp [parseS, h2, h8, ← hR]
    rw [ht] at hch
    (repeat' (first | refine Exists.intro i (Exists.intro bs[i] (And.intro ⟨rfl, bs_at hlt⟩ ?_)) | refine Exists.intro (pcl 0 (List.replicate 8 0)) (And.intro ⟨leR rfl, rfl⟩ ?_) | refine Exists.intro (pcl 0 (List.replicate 8 0)) (And.intro ⟨rfl, rfl⟩ ?_) | refine And.intro (neI rfl) ?_ | refine And.intro ⟨rfl, leR rfl, onesR rfl⟩ ?_ | refine And.intro ⟨rfl, leR rfl⟩ ?_ | refine draw_rule2 hfol (fun KK hKK => ?_) | refine hKK _ _ _ (by kernel_rfl) ?_ | refine region_rule (fun KK hKK => ?_) | refine hKK _ _ ?_ | refine And.intro (Eq.refl true) ?_ | refine Exists.intro _ (And.intro (wI (by omega)) ?_) | refine Exists.intro _ (And.intro (wU (by omega)) ?_) | refine Exists.intro _ (And.intro ⟨rfl, by omega⟩ ?_) | refine Exists.intro _ (And.intro rfl ?_) | refine And.intro rfl ?_ | refine And.intro ⟨rfl, rfl⟩ ?_ | ((refine And.intro (fun _ => ?_) (fun _ => ?_)) <;> try (exfalso; omega))))
    all_goals exact Exists.intro [] (And.intro (by rw [hr]; rfl) (And.intro trivial rfl))
  · rw [if_neg hch] at hR
    rw [ht] at hch
    (repeat' (first | refine Exists.intro i (Exists.intro bs[i] (And.intro ⟨rfl, bs_at hlt⟩ ?_)) | refine Exists.intro _ (And.intro hw ?_) | refine Exists.intro (pcl (bs.size / 2 : Nat) (pa bs (i + 1))) (And.intro ⟨by rw [pcl_len pa_len]; omega, by rw [← pa_set (by omega)]; exact pcl_set⟩ ?_) | refine And.intro (neI rfl) ?_ | refine And.intro ⟨rfl, leR rfl, onesR rfl⟩ ?_ | refine And.intro ⟨rfl, leR rfl⟩ ?_ | refine draw_rule2 hfol (fun KK hKK => ?_) | refine hKK _ _ _ (by kernel_rfl) ?_ | refine region_rule (fun KK hKK => ?_) | refine hKK _ _ ?_ | refine And.intro (Eq.refl true) ?_ | refine Exists.intro _ (And.intro (wI (by omega)) ?_) | refine Exists.intro _ (And.intro (wU (by omega)) ?_) | refine Exists.intro _ (And.intro ⟨rfl, by omega⟩ ?_) | refine Exists.intro _ (And.intro rfl ?_) | refine And.intro rfl ?_ | refine And.intro ⟨rfl, rfl⟩ ?_ | ((refine And.intro (fun _ => ?_) (fun _ => ?_)) <;> try (exfalso; omega))))
    all_goals refine Exists.intro (i + 1) (Exists.intro [0, 1] (And.intro ⟨⟨by omega, by rw [hd']; exact hR⟩, (by show bs.size - (i + 1) < bs.size - i; omega)⟩ ⟨⟨rfl, rfl, rfl, rfl, trivial⟩, ⟨rfl, rfl, trivial⟩, rfl⟩))

end Go.Proofs.Ytpangmameocfmaa.VE.P
