/- Contracts of functions of the given program, for all arguments that the contract names; see each theorem. -/
import Derived.Test.YtpangmameocfmaaLB
import Derived.Test.YtpangmameocfmaaTE
import Derived.Test.YtpangmameocfmaaTF
import Derived.Test.YtpangmameocfmaaTM
import Derived.Test.YtpangmameocfmaaTK
import Derived.Test.YtpangmameocfmaaTL
import Derived.Test.YtpangmameocfmaaLA
set_option linter.all false
namespace Go.Proofs.Ytpangmameocfmaa.VE.P
open Go Go.Proofs.Ytpangmameocfmaa.VE
set_option maxHeartbeats 3200000
set_option maxRecDepth 100000

/-! partitions are drawn -/
attribute [local irreducible] IntKind.wrap
def nxAi (N : Nat) : Nat → Nat → Nat
  | 0, a => a
  | i + 1, a => nxA N (nxAi N i a)
theorem nxAi_le {N a : Nat} (h : a ≤ N) : ∀ i, nxAi N i a ≤ N
  | 0 => h
  | i + 1 => nxA_le (nxAi_le h i)
def up1 (f : Nat → Int) (x : Nat) (v : Int) : Nat → Int := fun j => if j = x then v else f j
def sw1 (f : Nat → Int) (x y : Nat) : Nat → Int := up1 (up1 f x (f y)) y (f x)
/-- The labels behind t swaps. -/
def shF (g : Nat → Int) (N n a h : Nat) (f0 : Nat → Int) : Nat → Nat → Int
  | 0 => f0
  | t + 1 => sw1 (shF g N n a h f0 t) (n + (n - 1 - t)) (n + nxV g N (nxAi N t a) (lcn t h) % (n - 1 - t + 1))
def gMin (m : List Nat) (i : Nat) : Int := if ((m.getD i 0 : Nat) : Int) < (i : Int) then ((m.getD i 0 : Nat) : Int) else (i : Int)
def gRem (n : Nat) (i : Nat) : Int := ((i % n : Nat) : Int)
def gDr (g : Nat → Int) (N a h most : Nat) (i : Nat) : Int := ((nxV g N (nxAi N i a) (lcn i h) % most : Nat) : Int)
section
variable {W : World → (Nat → Prop) → Prop} {v : Value} {g : Nat → Int} {N : Nat} (hA : ArgK .u8 W v g N) (hN : N ≤ 1048576) (hg : ∀ j, j < N → 0 ≤ g j ∧ g j < 256)
include hA hN hg
theorem s_nxi (a h : Nat) (ha : a ≤ N) (i n : Nat) (hn : 1 ≤ n) : SpecW Try.prog W n_s_l01Next [.ptr 0 0, vi n] [srcO v (nxAi N i a) (lcn i h)] (vi (nxV g N (nxAi N i a) (lcn i h) % n : Nat)) [srcO v (nxAi N (i + 1) a) (lcn (i + 1) h)] := by
  rw [← lcS]
  exact s_next hA hN hg _ _ (nxAi_le ha i) n hn
theorem s_nxq (a h : Nat) (ha : a ≤ N) (n : Nat) (hn : 1 ≤ n) : ∃ q h2, q < n ∧ SpecW Try.prog W n_s_l01Next [.ptr 0 0, vi n] [srcO v a h] (vi (q : Nat)) [srcO v (nxA N a) h2] :=
  ⟨_, _, Nat.mod_lt _ (by omega), s_next hA hN hg a h ha n hn⟩
theorem s_drawP (at' h : Nat) (hat : at' ≤ N) (n : Nat) (hn1 : 1 ≤ n) (hn : n ≤ 4) :
    ∃ f a2 h2, a2 ≤ N ∧ SpecW Try.prog W n_s_l07DrawOf [.ptr 0 0, vi n] [srcO v at' h] (pv n (nm f n)) [srcO v a2 h2] := by
  obtain ⟨q, h1, hq, c1⟩ := s_nxq hA hN hg at' h hat 5 (by omega)
  have ha1 := nxA_le hat
  generalize nxA N at' = a1 at c1 ha1
  have wn : IntKind.i64.wrap (2 * (n : Int)) = ((2 * n : Nat) : Int) := wC (by omega) (by omega)
  by_cases q0 : q = 0
  · subst q0
    obtain ⟨m, a2, h2, ⟨hm, hmb⟩, ha2, c2⟩ := s_drawOfP hA hN hg a1 h1 ha1 n hn1 (by omega)
    refine ⟨gMin m, a2, h2, ha2, ?_⟩
    have ht := s_told (gMin m) n hn
    have hl : (nm (gMin m) n).length = 8 := nm_len
    generalize hP : nm (gMin m) n = P at ht hl ⊢
    refine SpecW.of_EV hf_s_l07DrawOf hc_s_l07DrawOf rfl rfl rfl fun w0 B ρ0 hW => ?_
    have hp := ArgK.pass (Γ := ⟨w0, B, ([srcO v at' h] : List O).length, ρ0⟩) hA hW
    (repeat' (first | refine c1.makeW hp [0] rfl ⟨rfl, trivial⟩ ?_ | refine c2.makeW hp [0] rfl ⟨rfl, trivial⟩ ?_ | refine Exists.intro (pcl (n : Int) m) (And.intro ⟨pcl_len hm, pcl_all hm⟩ ?_) | refine And.intro ⟨pcl_len hm, leR rfl, pcl_ones⟩ ?_ | refine Exists.intro (pcl (n : Int) m) (And.intro ⟨leR rfl, spl0 (leR rfl)⟩ ?_) | refine And.intro (neI rfl) ?_ | refine And.intro ⟨rfl, leR rfl, onesR rfl⟩ ?_ | refine And.intro ⟨rfl, leR rfl⟩ ?_ | refine draw_rule2 hfol (fun KK hKK => ?_) | refine hKK _ _ _ (by kernel_rfl) ?_ | refine region_rule (fun KK hKK => ?_) | refine hKK _ _ ?_ | refine And.intro (Eq.refl true) ?_ | refine Exists.intro _ (And.intro (wI (by omega)) ?_) | refine Exists.intro _ (And.intro (wU (by omega)) ?_) | refine Exists.intro _ (And.intro ⟨rfl, by omega⟩ ?_) | refine Exists.intro _ (And.intro rfl ?_) | refine And.intro rfl ?_ | refine And.intro ⟨rfl, rfl⟩ ?_ | ((refine And.intro (fun _ => ?_) (fun _ => ?_)) <;> try (exfalso; omega))))
    refine loop_rule (α := Nat) (fun i => i ≤ 2 * n) (fun i => [(0, .ptr 0 0), (1, vi n), (4, .ptr 1 0), (5, .sl 2), (6, .ptr 3 0), (7, vi i)])
      (fun i => [srcO v a2 h2, .pc (pcl 0 (List.replicate 8 0)) T_i_Partition, .pr T_int64 1 i (il (gMin m) i), .pc (pcl n m) T_i_Diagram]) (fun i => 2 * n - i) 0 [0, 1, 2, 3]
      (by omega) ⟨⟨rfl, rfl, rfl, rfl, rfl, rfl, trivial⟩, ⟨rfl, rfl, rfl, rfl, trivial⟩, rfl⟩ ?_
    rintro i gg hi
    by_cases h9 : i = 2 * n
    · subst h9
      (repeat' (first | refine Exists.intro _ (And.intro wn ?_) | refine (ht).read [2] rfl ⟨rfl, trivial⟩ ?_ | refine Exists.intro (pcl (n : Int) P) (And.intro ⟨pcl_len hl, pcl_all hl⟩ ?_) | refine And.intro ⟨pcl_len hl, leR rfl, pcl_ones⟩ ?_ | refine Exists.intro (pcl (n : Int) P) (And.intro ⟨leR rfl, spl0 (leR rfl)⟩ ?_) | refine And.intro (neI rfl) ?_ | refine And.intro ⟨rfl, leR rfl, onesR rfl⟩ ?_ | refine And.intro ⟨rfl, leR rfl⟩ ?_ | refine draw_rule2 hfol (fun KK hKK => ?_) | refine hKK _ _ _ (by kernel_rfl) ?_ | refine region_rule (fun KK hKK => ?_) | refine hKK _ _ ?_ | refine And.intro (Eq.refl true) ?_ | refine Exists.intro _ (And.intro (wI (by omega)) ?_) | refine Exists.intro _ (And.intro (wU (by omega)) ?_) | refine Exists.intro _ (And.intro ⟨rfl, by omega⟩ ?_) | refine Exists.intro _ (And.intro rfl ?_) | refine And.intro rfl ?_ | refine And.intro ⟨rfl, rfl⟩ ?_ | ((refine And.intro (fun _ => ?_) (fun _ => ?_)) <;> try (exfalso; omega))))
      exact Exists.intro [0] (And.intro (rfl) (And.intro ⟨rfl, trivial⟩ rfl))
    have hil : i < 2 * n := by omega
    have hbi := hmb i
    have hmn : (if ((m.getD i 0 : Nat) : Int) < (i : Int) then ((m.getD i 0 : Nat) : Int) else (i : Int)) = gMin m i := rfl
    generalize hv : gMin m i = x at hmn
    have hsu : il (gMin m) i ++ [.int .i64 x] = il (gMin m) (i + 1) := by rw [← hv]; exact il_succ
    (repeat' (first | refine Exists.intro _ (And.intro wn ?_) | refine Exists.intro _ (And.intro (pcl_at (by omega)) ?_) | refine Exists.intro _ (And.intro hmn ?_) | refine And.intro ⟨rfl, mkL rfl⟩ ?_ | refine Exists.intro [Value.int .i64 x] (And.intro (row1s (mkL' rfl)) ?_) | refine Exists.intro (il (gMin m) (i + 1)) (And.intro ⟨rfl, onesR rfl, by omega, by omega, hsu⟩ ?_) | refine And.intro (neI rfl) ?_ | refine And.intro ⟨rfl, leR rfl, onesR rfl⟩ ?_ | refine And.intro ⟨rfl, leR rfl⟩ ?_ | refine draw_rule2 hfol (fun KK hKK => ?_) | refine hKK _ _ _ (by kernel_rfl) ?_ | refine region_rule (fun KK hKK => ?_) | refine hKK _ _ ?_ | refine And.intro (Eq.refl true) ?_ | refine Exists.intro _ (And.intro (wI (by omega)) ?_) | refine Exists.intro _ (And.intro (wU (by omega)) ?_) | refine Exists.intro _ (And.intro ⟨rfl, by omega⟩ ?_) | refine Exists.intro _ (And.intro rfl ?_) | refine And.intro rfl ?_ | refine And.intro ⟨rfl, rfl⟩ ?_ | ((refine And.intro (fun _ => ?_) (fun _ => ?_)) <;> try (exfalso; omega))))
    exact Exists.intro (i + 1) (Exists.intro [0, 1, 5, 3] (And.intro ⟨by omega, (by show 2 * n - (i + 1) < 2 * n - i; omega)⟩ ⟨⟨rfl, rfl, rfl, rfl, rfl, rfl, trivial⟩, ⟨rfl, rfl, rfl, rfl, trivial⟩, rfl⟩))
  have h0 : (n : Int) ≠ 0 := by omega
  by_cases q1 : q = 1
  · subst q1
    have ha2 := nxAi_le ha1 (n - 1)
    obtain ⟨F, hF⟩ : ∃ F, shF g N n a1 h1 (gRem n) (n - 1) = F := ⟨_, rfl⟩
    have c3 := s_next hA hN hg (nxAi N (n - 1) a1) (lcn (n - 1) h1) ha2 3 (by omega)
    rw [show (if nxAi N (n - 1) a1 < N then nxAi N (n - 1) a1 + 1 else nxAi N (n - 1) a1) = nxA N (nxAi N (n - 1) a1) from rfl] at c3
    have ha3 := nxA_le ha2
    have key : ∀ (F2 : Nat → Int) (a4 h4 : Nat) (P : List Nat), P.length = 8 → Spec Try.prog n_s_l07Told [vi n, .sl 0] [.pr T_int64 1 (2 * n) (il F2 (2 * n))] (pv n P) [.pr T_int64 1 (2 * n) (il F2 (2 * n))] →
        ((nxV g N (nxAi N (n - 1) a1) (lcn (n - 1) h1) % 3 ≠ 0 ∧ F2 = F ∧ a4 = nxA N (nxAi N (n - 1) a1) ∧ h4 = lc (lcn (n - 1) h1)) ∨
         (nxV g N (nxAi N (n - 1) a1) (lcn (n - 1) h1) % 3 = 0 ∧ ∃ x, x < 2 * n ∧ F2 = up1 F x 20 ∧ SpecW Try.prog W n_s_l01Next [.ptr 0 0, vi (2 * n : Nat)] [srcO v (nxA N (nxAi N (n - 1) a1)) (lc (lcn (n - 1) h1))] (vi (x : Nat)) [srcO v a4 h4])) →
        SpecW Try.prog W n_s_l07DrawOf [.ptr 0 0, vi n] [srcO v at' h] (pv n P) [srcO v a4 h4] := by
      intro F2 a4 h4 P hl ht hcase
      refine SpecW.of_EV hf_s_l07DrawOf hc_s_l07DrawOf rfl rfl rfl fun w0 B ρ0 hW => ?_
      have hp := ArgK.pass (Γ := ⟨w0, B, ([srcO v at' h] : List O).length, ρ0⟩) hA hW
      (repeat' (first | refine c1.makeW hp [0] rfl ⟨rfl, trivial⟩ ?_ | refine And.intro (neI rfl) ?_ | refine And.intro ⟨rfl, leR rfl, onesR rfl⟩ ?_ | refine And.intro ⟨rfl, leR rfl⟩ ?_ | refine draw_rule2 hfol (fun KK hKK => ?_) | refine hKK _ _ _ (by kernel_rfl) ?_ | refine region_rule (fun KK hKK => ?_) | refine hKK _ _ ?_ | refine And.intro (Eq.refl true) ?_ | refine Exists.intro _ (And.intro (wI (by omega)) ?_) | refine Exists.intro _ (And.intro (wU (by omega)) ?_) | refine Exists.intro _ (And.intro ⟨rfl, by omega⟩ ?_) | refine Exists.intro _ (And.intro rfl ?_) | refine And.intro rfl ?_ | refine And.intro ⟨rfl, rfl⟩ ?_ | ((refine And.intro (fun _ => ?_) (fun _ => ?_)) <;> try (exfalso; omega))))
      refine loop_rule (α := Nat) (fun i => i ≤ 2 * n) (fun i => [(0, .ptr 0 0), (1, vi n), (4, .ptr 1 0), (8, .sl 2), (9, vi i)])
        (fun i => [srcO v a1 h1, .pc (pcl 0 (List.replicate 8 0)) T_i_Partition, .pr T_int64 1 i (il (gRem n) i)]) (fun i => 2 * n - i) 0 [0, 1, 2]
        (by omega) ⟨⟨rfl, rfl, rfl, rfl, rfl, trivial⟩, ⟨rfl, rfl, rfl, trivial⟩, rfl⟩ ?_
      rintro i gg hi
      by_cases h9 : i ≠ 2 * n
      · have hil : i < 2 * n := by omega
        have e1 : Int.tmod (i : Int) (n : Int) = gRem n i := tmN i n
        (repeat' (first | refine Exists.intro _ (And.intro wn ?_) | refine And.intro h0 ?_ | refine Exists.intro _ (And.intro e1 ?_) | refine And.intro ⟨rfl, mkL rfl⟩ ?_ | refine Exists.intro [Value.int .i64 (gRem n i)] (And.intro (row1s (mkL' rfl)) ?_) | refine Exists.intro (il (gRem n) (i + 1)) (And.intro ⟨rfl, onesR rfl, by omega, by omega, il_succ⟩ ?_) | refine And.intro (neI rfl) ?_ | refine And.intro ⟨rfl, leR rfl, onesR rfl⟩ ?_ | refine And.intro ⟨rfl, leR rfl⟩ ?_ | refine draw_rule2 hfol (fun KK hKK => ?_) | refine hKK _ _ _ (by kernel_rfl) ?_ | refine region_rule (fun KK hKK => ?_) | refine hKK _ _ ?_ | refine And.intro (Eq.refl true) ?_ | refine Exists.intro _ (And.intro (wI (by omega)) ?_) | refine Exists.intro _ (And.intro (wU (by omega)) ?_) | refine Exists.intro _ (And.intro ⟨rfl, by omega⟩ ?_) | refine Exists.intro _ (And.intro rfl ?_) | refine And.intro rfl ?_ | refine And.intro ⟨rfl, rfl⟩ ?_ | ((refine And.intro (fun _ => ?_) (fun _ => ?_)) <;> try (exfalso; omega))))
        exact Exists.intro (i + 1) (Exists.intro [0, 1, 4] (And.intro ⟨by omega, (by show 2 * n - (i + 1) < 2 * n - i; omega)⟩ ⟨⟨rfl, rfl, rfl, rfl, rfl, trivial⟩, ⟨rfl, rfl, rfl, trivial⟩, rfl⟩))
      obtain rfl : i = 2 * n := by omega
      have wm : IntKind.i64.wrap ((n : Int) - 1) = ((n - 1 : Nat) : Int) := wC (by omega) (by omega)
      (repeat' (first | refine Exists.intro _ (And.intro wn ?_) | refine Exists.intro _ (And.intro wm ?_) | refine And.intro (neI rfl) ?_ | refine And.intro ⟨rfl, leR rfl, onesR rfl⟩ ?_ | refine And.intro ⟨rfl, leR rfl⟩ ?_ | refine draw_rule2 hfol (fun KK hKK => ?_) | refine hKK _ _ _ (by kernel_rfl) ?_ | refine region_rule (fun KK hKK => ?_) | refine hKK _ _ ?_ | refine And.intro (Eq.refl true) ?_ | refine Exists.intro _ (And.intro (wI (by omega)) ?_) | refine Exists.intro _ (And.intro (wU (by omega)) ?_) | refine Exists.intro _ (And.intro ⟨rfl, by omega⟩ ?_) | refine Exists.intro _ (And.intro rfl ?_) | refine And.intro rfl ?_ | refine And.intro ⟨rfl, rfl⟩ ?_ | ((refine And.intro (fun _ => ?_) (fun _ => ?_)) <;> try (exfalso; omega))))
      refine loop_rule (α := Nat) (fun t => t ≤ n - 1) (fun t => [(0, .ptr 0 0), (1, vi n), (4, .ptr 1 0), (8, .sl 2), (10, vi (n - 1 - t : Nat))])
        (fun t => [srcO v (nxAi N t a1) (lcn t h1), .pc (pcl 0 (List.replicate 8 0)) T_i_Partition, .pr T_int64 1 (2 * n) (il (shF g N n a1 h1 (gRem n) t) (2 * n))]) (fun t => n - t) 0 [0, 1, 2]
        (by omega) ⟨⟨rfl, rfl, rfl, rfl, rfl, trivial⟩, ⟨rfl, rfl, rfl, trivial⟩, rfl⟩ ?_
      rintro t g2 ht2
      by_cases h8 : t ≠ n - 1
      · have htl : t < n - 1 := by omega
        have c4 := s_nxi hA hN hg a1 h1 ha1 t (n - 1 - t + 1) (by omega)
        have hk : nxV g N (nxAi N t a1) (lcn t h1) % (n - 1 - t + 1) < n - 1 - t + 1 := Nat.mod_lt _ (by omega)
        have hsF : shF g N n a1 h1 (gRem n) (t + 1) = sw1 (shF g N n a1 h1 (gRem n) t) (n + (n - 1 - t)) (n + nxV g N (nxAi N t a1) (lcn t h1) % (n - 1 - t + 1)) := rfl
        have v0 : (0 : Int) < ((n - 1 - t : Nat) : Int) := by omega
        have v1 : IntKind.i64.wrap (((n - 1 - t : Nat) : Int) + 1) = ((n - 1 - t + 1 : Nat) : Int) := wC (by omega) (by omega)
        have v2 : IntKind.i64.wrap ((n : Int) + ((n - 1 - t : Nat) : Int)) = ((n + (n - 1 - t) : Nat) : Int) := wC (by omega) (by omega)
        have v4 : IntKind.i64.wrap (((n - 1 - t : Nat) : Int) - 1) = ((n - 1 - (t + 1) : Nat) : Int) := wC (by omega) (by omega)
        have hx : n + (n - 1 - t) < 2 * n := by omega
        generalize nxV g N (nxAi N t a1) (lcn t h1) % (n - 1 - t + 1) = k at c4 hk hsF
        have v3 : IntKind.i64.wrap ((n : Int) + (k : Int)) = ((n + k : Nat) : Int) := wC (by omega) (by omega)
        have hy : n + k < 2 * n := by omega
        generalize ha5 : nxAi N (t + 1) a1 = a5 at c4
        generalize nxAi N t a1 = a6 at c4 ⊢
        generalize hh5 : lcn (t + 1) h1 = h5 at c4
        generalize lcn t h1 = h6 at c4 ⊢
        generalize shF g N n a1 h1 (gRem n) t = f at hsF ⊢
        generalize hz : n - 1 - (t + 1) = z at v4
        have hzt : n - 1 - t = z + 1 := by omega
        rw [hzt] at c4 v0 v1 v2 v4 hx hk hsF ⊢
        generalize n + (z + 1) = x at v2 hx hsF
        generalize n + k = y at v3 hy hsF
        have l1 : (il f (2 * n))[x]? = some (.int .i64 (f x)) := il_at hx
        have l2 : (il f (2 * n))[y]? = some (.int .i64 (f y)) := il_at hy
        have s1 : (il f (2 * n)).set x (.int .i64 (f y)) = il (up1 f x (f y)) (2 * n) := il_set fun j _ => rfl
        have s2 : (il (up1 f x (f y)) (2 * n)).set y (.int .i64 (f x)) = il (sw1 f x y) (2 * n) := il_set fun j _ => rfl
        (repeat' (first | refine Exists.intro _ (And.intro v1 ?_) | refine Exists.intro _ (And.intro v2 ?_) | refine Exists.intro _ (And.intro v3 ?_) | refine Exists.intro _ (And.intro v4 ?_) | refine c4.makeW hp [0] rfl ⟨rfl, trivial⟩ ?_ | refine Exists.intro _ (And.intro l1 ?_) | refine Exists.intro _ (And.intro l2 ?_) | refine Exists.intro (il (up1 f x (f y)) (2 * n)) (And.intro ⟨by rw [il_len]; omega, s1⟩ ?_) | refine Exists.intro (il (sw1 f x y) (2 * n)) (And.intro ⟨by rw [il_len]; omega, s2⟩ ?_) | refine And.intro (neI rfl) ?_ | refine And.intro ⟨rfl, leR rfl, onesR rfl⟩ ?_ | refine And.intro ⟨rfl, leR rfl⟩ ?_ | refine draw_rule2 hfol (fun KK hKK => ?_) | refine hKK _ _ _ (by kernel_rfl) ?_ | refine region_rule (fun KK hKK => ?_) | refine hKK _ _ ?_ | refine And.intro (Eq.refl true) ?_ | refine Exists.intro _ (And.intro (wI (by omega)) ?_) | refine Exists.intro _ (And.intro (wU (by omega)) ?_) | refine Exists.intro _ (And.intro ⟨rfl, by omega⟩ ?_) | refine Exists.intro _ (And.intro rfl ?_) | refine And.intro rfl ?_ | refine And.intro ⟨rfl, rfl⟩ ?_ | ((refine And.intro (fun _ => ?_) (fun _ => ?_)) <;> try (exfalso; omega))))
        exact Exists.intro (t + 1) (Exists.intro [0, 1, 2] (And.intro ⟨by omega, (by show n - (t + 1) < n - t; omega)⟩ ⟨⟨rfl, rfl, rfl, rfl, by rw [hz]; rfl, trivial⟩, ⟨by rw [ha5, hh5]; rfl, rfl, by rw [hsF]; rfl, trivial⟩, rfl⟩))
      obtain rfl : t = n - 1 := by omega
      rw [hF]
      have z0 : ((n - 1 - (n - 1) : Nat) : Int) = 0 := by omega
      rw [z0]
      rcases hcase with ⟨h3, e1, e2, e3⟩ | ⟨h3, x, hx, e1, c5⟩
      · rw [e1] at ht
        rw [e2, e3]
        have h3' : ((nxV g N (nxAi N (n - 1) a1) (lcn (n - 1) h1) % 3 : Nat) : Int) ≠ 0 := by omega
        generalize nxV g N (nxAi N (n - 1) a1) (lcn (n - 1) h1) % 3 = q3 at c3 h3'
        generalize nxA N (nxAi N (n - 1) a1) = a7 at c3 ⊢
        generalize nxAi N (n - 1) a1 = a6 at c3 ⊢
        generalize lc (lcn (n - 1) h1) = h7 at c3 ⊢
        generalize lcn (n - 1) h1 = h6 at c3 ⊢
        (repeat' (first | refine c3.makeW hp [0] rfl ⟨rfl, trivial⟩ ?_ | refine (ht).read [2] rfl ⟨rfl, trivial⟩ ?_ | refine Exists.intro (pcl (n : Int) P) (And.intro ⟨pcl_len hl, pcl_all hl⟩ ?_) | refine And.intro ⟨pcl_len hl, leR rfl, pcl_ones⟩ ?_ | refine Exists.intro (pcl (n : Int) P) (And.intro ⟨leR rfl, spl0 (leR rfl)⟩ ?_) | refine And.intro (neI rfl) ?_ | refine And.intro ⟨rfl, leR rfl, onesR rfl⟩ ?_ | refine And.intro ⟨rfl, leR rfl⟩ ?_ | refine draw_rule2 hfol (fun KK hKK => ?_) | refine hKK _ _ _ (by kernel_rfl) ?_ | refine region_rule (fun KK hKK => ?_) | refine hKK _ _ ?_ | refine And.intro (Eq.refl true) ?_ | refine Exists.intro _ (And.intro (wI (by omega)) ?_) | refine Exists.intro _ (And.intro (wU (by omega)) ?_) | refine Exists.intro _ (And.intro ⟨rfl, by omega⟩ ?_) | refine Exists.intro _ (And.intro rfl ?_) | refine And.intro rfl ?_ | refine And.intro ⟨rfl, rfl⟩ ?_ | ((refine And.intro (fun _ => ?_) (fun _ => ?_)) <;> try (exfalso; omega))))
        exact Exists.intro [0] (And.intro (rfl) (And.intro ⟨rfl, trivial⟩ rfl))
      · rw [h3] at c3
        rw [e1] at ht
        generalize nxA N (nxAi N (n - 1) a1) = a7 at c3 c5
        generalize nxAi N (n - 1) a1 = a6 at c3 ⊢
        generalize lc (lcn (n - 1) h1) = h7 at c3 c5
        generalize lcn (n - 1) h1 = h6 at c3 ⊢
        have s3 : (il F (2 * n)).set x (.int .i64 20) = il (up1 F x 20) (2 * n) := il_set fun j _ => rfl
        (repeat' (first | refine c3.makeW hp [0] rfl ⟨rfl, trivial⟩ ?_ | refine Exists.intro _ (And.intro wn ?_) | refine c5.makeW hp [0] rfl ⟨rfl, trivial⟩ ?_ | refine Exists.intro (il (up1 F x 20) (2 * n)) (And.intro ⟨by rw [il_len]; omega, s3⟩ ?_) | refine (ht).read [2] rfl ⟨rfl, trivial⟩ ?_ | refine Exists.intro (pcl (n : Int) P) (And.intro ⟨pcl_len hl, pcl_all hl⟩ ?_) | refine And.intro ⟨pcl_len hl, leR rfl, pcl_ones⟩ ?_ | refine Exists.intro (pcl (n : Int) P) (And.intro ⟨leR rfl, spl0 (leR rfl)⟩ ?_) | refine And.intro (neI rfl) ?_ | refine And.intro ⟨rfl, leR rfl, onesR rfl⟩ ?_ | refine And.intro ⟨rfl, leR rfl⟩ ?_ | refine draw_rule2 hfol (fun KK hKK => ?_) | refine hKK _ _ _ (by kernel_rfl) ?_ | refine region_rule (fun KK hKK => ?_) | refine hKK _ _ ?_ | refine And.intro (Eq.refl true) ?_ | refine Exists.intro _ (And.intro (wI (by omega)) ?_) | refine Exists.intro _ (And.intro (wU (by omega)) ?_) | refine Exists.intro _ (And.intro ⟨rfl, by omega⟩ ?_) | refine Exists.intro _ (And.intro rfl ?_) | refine And.intro rfl ?_ | refine And.intro ⟨rfl, rfl⟩ ?_ | ((refine And.intro (fun _ => ?_) (fun _ => ?_)) <;> try (exfalso; omega))))
        exact Exists.intro [0] (And.intro (rfl) (And.intro ⟨rfl, trivial⟩ rfl))
    by_cases h3 : nxV g N (nxAi N (n - 1) a1) (lcn (n - 1) h1) % 3 = 0
    · obtain ⟨x, h5, hx, c5⟩ := s_nxq hA hN hg (nxA N (nxAi N (n - 1) a1)) (lc (lcn (n - 1) h1)) ha3 (2 * n) (by omega)
      exact ⟨up1 F x 20, _, h5, nxA_le ha3, key _ _ _ _ nm_len (s_told _ n hn) (Or.inr ⟨h3, x, hx, rfl, c5⟩)⟩
    · exact ⟨F, _, _, ha3, key _ _ _ _ nm_len (s_told _ n hn) (Or.inl ⟨h3, rfl, rfl, rfl⟩)⟩
  obtain ⟨mo, h2, hmo, c2⟩ := s_nxq hA hN hg a1 h1 ha1 (2 * n) (by omega)
  have ha2 := nxA_le ha1
  generalize nxA N a1 = a2 at c2 ha2
  refine ⟨gDr g N a2 h2 (mo + 1), nxAi N (2 * n) a2, lcn (2 * n) h2, nxAi_le ha2 _, ?_⟩
  have ht := s_told (gDr g N a2 h2 (mo + 1)) n hn
  have hl : (nm (gDr g N a2 h2 (mo + 1)) n).length = 8 := nm_len
  generalize nm (gDr g N a2 h2 (mo + 1)) n = P at ht hl ⊢
  have wm : IntKind.i64.wrap (1 + (mo : Int)) = ((mo + 1 : Nat) : Int) := wC (by omega) (by omega)
  refine SpecW.of_EV hf_s_l07DrawOf hc_s_l07DrawOf rfl rfl rfl fun w0 B ρ0 hW => ?_
  have hp := ArgK.pass (Γ := ⟨w0, B, ([srcO v at' h] : List O).length, ρ0⟩) hA hW
  have hq0 : (q : Int) ≠ 0 := by omega
  have hq1 : (q : Int) ≠ 1 := by omega
  (repeat' (first | refine c1.makeW hp [0] rfl ⟨rfl, trivial⟩ ?_ | refine Exists.intro _ (And.intro wn ?_) | refine Exists.intro _ (And.intro wm ?_) | refine c2.makeW hp [0] rfl ⟨rfl, trivial⟩ ?_ | refine And.intro (neI rfl) ?_ | refine And.intro ⟨rfl, leR rfl, onesR rfl⟩ ?_ | refine And.intro ⟨rfl, leR rfl⟩ ?_ | refine draw_rule2 hfol (fun KK hKK => ?_) | refine hKK _ _ _ (by kernel_rfl) ?_ | refine region_rule (fun KK hKK => ?_) | refine hKK _ _ ?_ | refine And.intro (Eq.refl true) ?_ | refine Exists.intro _ (And.intro (wI (by omega)) ?_) | refine Exists.intro _ (And.intro (wU (by omega)) ?_) | refine Exists.intro _ (And.intro ⟨rfl, by omega⟩ ?_) | refine Exists.intro _ (And.intro rfl ?_) | refine And.intro rfl ?_ | refine And.intro ⟨rfl, rfl⟩ ?_ | ((refine And.intro (fun _ => ?_) (fun _ => ?_)) <;> try (exfalso; omega))))
  refine loop_rule (α := Nat) (fun i => i ≤ 2 * n) (fun i => [(0, .ptr 0 0), (1, vi n), (4, .ptr 1 0), (13, .sl 2), (14, vi (mo + 1 : Nat)), (15, vi i)])
    (fun i => [srcO v (nxAi N i a2) (lcn i h2), .pc (pcl 0 (List.replicate 8 0)) T_i_Partition, .pr T_int64 1 i (il (gDr g N a2 h2 (mo + 1)) i)]) (fun i => 2 * n - i) 0 [0, 1, 2]
    (by omega) ⟨⟨rfl, rfl, rfl, rfl, rfl, rfl, trivial⟩, ⟨rfl, rfl, rfl, trivial⟩, rfl⟩ ?_
  rintro i gg hi
  by_cases h9 : i = 2 * n
  · subst h9
    (repeat' (first | refine Exists.intro _ (And.intro wn ?_) | refine (ht).read [2] rfl ⟨rfl, trivial⟩ ?_ | refine Exists.intro (pcl (n : Int) P) (And.intro ⟨pcl_len hl, pcl_all hl⟩ ?_) | refine And.intro ⟨pcl_len hl, leR rfl, pcl_ones⟩ ?_ | refine Exists.intro (pcl (n : Int) P) (And.intro ⟨leR rfl, spl0 (leR rfl)⟩ ?_) | refine And.intro (neI rfl) ?_ | refine And.intro ⟨rfl, leR rfl, onesR rfl⟩ ?_ | refine And.intro ⟨rfl, leR rfl⟩ ?_ | refine draw_rule2 hfol (fun KK hKK => ?_) | refine hKK _ _ _ (by kernel_rfl) ?_ | refine region_rule (fun KK hKK => ?_) | refine hKK _ _ ?_ | refine And.intro (Eq.refl true) ?_ | refine Exists.intro _ (And.intro (wI (by omega)) ?_) | refine Exists.intro _ (And.intro (wU (by omega)) ?_) | refine Exists.intro _ (And.intro ⟨rfl, by omega⟩ ?_) | refine Exists.intro _ (And.intro rfl ?_) | refine And.intro rfl ?_ | refine And.intro ⟨rfl, rfl⟩ ?_ | ((refine And.intro (fun _ => ?_) (fun _ => ?_)) <;> try (exfalso; omega))))
    exact Exists.intro [0] (And.intro (rfl) (And.intro ⟨rfl, trivial⟩ rfl))
  have hil : i < 2 * n := by omega
  have c4 := s_nxi hA hN hg a2 h2 ha2 i (mo + 1) (by omega)
  have hgd : ((nxV g N (nxAi N i a2) (lcn i h2) % (mo + 1) : Nat) : Int) = gDr g N a2 h2 (mo + 1) i := rfl
  replace c4 : SpecW Try.prog W n_s_l01Next [.ptr 0 0, vi (mo + 1 : Nat)] [srcO v (nxAi N i a2) (lcn i h2)] (vi (gDr g N a2 h2 (mo + 1) i)) [srcO v (nxAi N (i + 1) a2) (lcn (i + 1) h2)] := c4
  generalize hv : gDr g N a2 h2 (mo + 1) i = x at c4
  have hsu : il (gDr g N a2 h2 (mo + 1)) i ++ [.int .i64 x] = il (gDr g N a2 h2 (mo + 1)) (i + 1) := by rw [← hv]; exact il_succ
  generalize ha5 : nxAi N (i + 1) a2 = a5 at c4
  generalize hh5 : lcn (i + 1) h2 = h5 at c4
  (repeat' (first | refine Exists.intro _ (And.intro wn ?_) | refine c4.makeW hp [0] rfl ⟨rfl, trivial⟩ ?_ | refine And.intro ⟨rfl, mkL rfl⟩ ?_ | refine Exists.intro [Value.int .i64 x] (And.intro (row1s (mkL' rfl)) ?_) | refine Exists.intro (il (gDr g N a2 h2 (mo + 1)) (i + 1)) (And.intro ⟨rfl, onesR rfl, by omega, by omega, hsu⟩ ?_) | refine And.intro (neI rfl) ?_ | refine And.intro ⟨rfl, leR rfl, onesR rfl⟩ ?_ | refine And.intro ⟨rfl, leR rfl⟩ ?_ | refine draw_rule2 hfol (fun KK hKK => ?_) | refine hKK _ _ _ (by kernel_rfl) ?_ | refine region_rule (fun KK hKK => ?_) | refine hKK _ _ ?_ | refine And.intro (Eq.refl true) ?_ | refine Exists.intro _ (And.intro (wI (by omega)) ?_) | refine Exists.intro _ (And.intro (wU (by omega)) ?_) | refine Exists.intro _ (And.intro ⟨rfl, by omega⟩ ?_) | refine Exists.intro _ (And.intro rfl ?_) | refine And.intro rfl ?_ | refine And.intro ⟨rfl, rfl⟩ ?_ | ((refine And.intro (fun _ => ?_) (fun _ => ?_)) <;> try (exfalso; omega))))
  exact Exists.intro (i + 1) (Exists.intro [0, 1, 4] (And.intro ⟨by omega, (by show 2 * n - (i + 1) < 2 * n - i; omega)⟩ ⟨⟨rfl, rfl, rfl, rfl, rfl, rfl, trivial⟩, ⟨by rw [ha5, hh5]; rfl, rfl, rfl, trivial⟩, rfl⟩))
end
end Go.Proofs.Ytpangmameocfmaa.VE.P
namespace Go.Proofs.Ytpangmameocfmaa.VE.P
open Go Go.Proofs.Ytpangmameocfmaa.VE
set_option maxHeartbeats 3200000
set_option maxRecDepth 100000

/-! what FnPartitionTexts draws; its comparison of lists -/
theorem s_like (g : Nat → Int) (N : Nat) (hN : N ≤ 4000000) : Spec Try.prog n_l_likeInts [.sl 0, .sl 1] [.pr T_int64 1 N (il g N), .pr T_int64 1 N (il g N)] (vb true) [.pr T_int64 1 N (il g N), .pr T_int64 1 N (il g N)] := by
  have hfol := hfolW
  refine SpecW.of_EV hf_l_likeInts hc_l_likeInts rfl rfl rfl fun w0 B ρ0 _ => ?_
  (repeat' (first | refine And.intro (neI rfl) ?_ | refine And.intro ⟨rfl, leR rfl, onesR rfl⟩ ?_ | refine And.intro ⟨rfl, leR rfl⟩ ?_ | refine draw_rule2 hfol (fun KK hKK => ?_) | refine hKK _ _ _ (by kernel_rfl) ?_ | refine region_rule (fun KK hKK => ?_) | refine hKK _ _ ?_ | refine And.intro (Eq.refl true) ?_ | refine Exists.intro _ (And.intro (wI (by omega)) ?_) | refine Exists.intro _ (And.intro (wU (by omega)) ?_) | refine Exists.intro _ (And.intro ⟨rfl, by omega⟩ ?_) | refine Exists.intro _ (And.intro rfl ?_) | refine And.intro rfl ?_ | refine And.intro ⟨rfl, rfl⟩ ?_ | ((refine And.intro (fun _ => ?_) (fun _ => ?_)) <;> try (exfalso; omega))))
  refine loop_rule (α := Nat) (fun i => i ≤ N) (fun i => [(0, .sl 0), (1, .sl 1), (5, vi i)]) (fun i => [.pr T_int64 1 N (il g N), .pr T_int64 1 N (il g N)]) (fun i => N - i) 0 [0, 1]
    (by omega) ⟨⟨rfl, rfl, rfl, trivial⟩, ⟨rfl, rfl, trivial⟩, rfl⟩ ?_
  rintro i gg hi
  by_cases h9 : i = N
  · subst h9
    (repeat' (first | refine And.intro (neI rfl) ?_ | refine And.intro ⟨rfl, leR rfl, onesR rfl⟩ ?_ | refine And.intro ⟨rfl, leR rfl⟩ ?_ | refine draw_rule2 hfol (fun KK hKK => ?_) | refine hKK _ _ _ (by kernel_rfl) ?_ | refine region_rule (fun KK hKK => ?_) | refine hKK _ _ ?_ | refine And.intro (Eq.refl true) ?_ | refine Exists.intro _ (And.intro (wI (by omega)) ?_) | refine Exists.intro _ (And.intro (wU (by omega)) ?_) | refine Exists.intro _ (And.intro ⟨rfl, by omega⟩ ?_) | refine Exists.intro _ (And.intro rfl ?_) | refine And.intro rfl ?_ | refine And.intro ⟨rfl, rfl⟩ ?_ | ((refine And.intro (fun _ => ?_) (fun _ => ?_)) <;> try (exfalso; omega))))
    exact Exists.intro [0,1] (And.intro (rfl) (And.intro ⟨rfl, rfl, trivial⟩ rfl))
  have hil : i < N := by omega
  (repeat' (first | refine Exists.intro _ (And.intro (il_at hil) ?_) | refine And.intro (neI rfl) ?_ | refine And.intro ⟨rfl, leR rfl, onesR rfl⟩ ?_ | refine And.intro ⟨rfl, leR rfl⟩ ?_ | refine draw_rule2 hfol (fun KK hKK => ?_) | refine hKK _ _ _ (by kernel_rfl) ?_ | refine region_rule (fun KK hKK => ?_) | refine hKK _ _ ?_ | refine And.intro (Eq.refl true) ?_ | refine Exists.intro _ (And.intro (wI (by omega)) ?_) | refine Exists.intro _ (And.intro (wU (by omega)) ?_) | refine Exists.intro _ (And.intro ⟨rfl, by omega⟩ ?_) | refine Exists.intro _ (And.intro rfl ?_) | refine And.intro rfl ?_ | refine And.intro ⟨rfl, rfl⟩ ?_ | ((refine And.intro (fun _ => ?_) (fun _ => ?_)) <;> try (exfalso; omega))))
  refine Exists.intro (i + 1) (Exists.intro [0, 1] (And.intro ⟨by omega, (by show N - (i + 1) < N - i; omega)⟩ ⟨⟨rfl, rfl, rfl, trivial⟩, ⟨rfl, rfl, trivial⟩, rfl⟩))
theorem s_like0 : Spec Try.prog n_l_likeInts [.raw (.slice none 0 0), .raw (.slice none 0 0)] [] (vb true) [] := by
  have hfol := hfolW
  refine SpecW.of_EV hf_l_likeInts hc_l_likeInts rfl rfl rfl fun w0 B ρ0 _ => ?_
  (repeat' (first | refine And.intro (neI rfl) ?_ | refine And.intro ⟨rfl, leR rfl, onesR rfl⟩ ?_ | refine And.intro ⟨rfl, leR rfl⟩ ?_ | refine draw_rule2 hfol (fun KK hKK => ?_) | refine hKK _ _ _ (by kernel_rfl) ?_ | refine region_rule (fun KK hKK => ?_) | refine hKK _ _ ?_ | refine And.intro (Eq.refl true) ?_ | refine Exists.intro _ (And.intro (wI (by omega)) ?_) | refine Exists.intro _ (And.intro (wU (by omega)) ?_) | refine Exists.intro _ (And.intro ⟨rfl, by omega⟩ ?_) | refine Exists.intro _ (And.intro rfl ?_) | refine And.intro rfl ?_ | refine And.intro ⟨rfl, rfl⟩ ?_ | ((refine And.intro (fun _ => ?_) (fun _ => ?_)) <;> try (exfalso; omega))))
  refine loop_rule (α := Unit) (fun _ => True) (fun _ => [(0, .raw (.slice none 0 0)), (1, .raw (.slice none 0 0)), (5, vi 0)]) (fun _ => []) (fun _ => 0) () []
    trivial ⟨⟨rfl, rfl, rfl, trivial⟩, trivial, rfl⟩ ?_
  rintro _ gg _
  (repeat' (first | refine And.intro (neI rfl) ?_ | refine And.intro ⟨rfl, leR rfl, onesR rfl⟩ ?_ | refine And.intro ⟨rfl, leR rfl⟩ ?_ | refine draw_rule2 hfol (fun KK hKK => ?_) | refine hKK _ _ _ (by kernel_rfl) ?_ | refine region_rule (fun KK hKK => ?_) | refine hKK _ _ ?_ | refine And.intro (Eq.refl true) ?_ | refine Exists.intro _ (And.intro (wI (by omega)) ?_) | refine Exists.intro _ (And.intro (wU (by omega)) ?_) | refine Exists.intro _ (And.intro ⟨rfl, by omega⟩ ?_) | refine Exists.intro _ (And.intro rfl ?_) | refine And.intro rfl ?_ | refine And.intro ⟨rfl, rfl⟩ ?_ | ((refine And.intro (fun _ => ?_) (fun _ => ?_)) <;> try (exfalso; omega))))
  exact Exists.intro [] (And.intro (rfl) (And.intro trivial rfl))
attribute [local irreducible] IntKind.wrap
theorem s_bigA {W : World → (Nat → Prop) → Prop} {v : Value} {a : Option Addr} {N cap : Nat} (hv : v = .slice a N cap) : SpecW Try.prog W n_l_big [.raw v] [] (vb (decide (4096 < N))) [] := by
  subst hv
  refine SpecW.of_EV hf_l_big hc_l_big rfl rfl rfl fun w0 B ρ0 hW => ?_
  by_cases h : 4096 < N
  · rw [decide_eq_true h]
    (repeat' (first | refine And.intro (neI rfl) ?_ | refine And.intro ⟨rfl, leR rfl, onesR rfl⟩ ?_ | refine And.intro ⟨rfl, leR rfl⟩ ?_ | refine draw_rule2 hfol (fun KK hKK => ?_) | refine hKK _ _ _ (by kernel_rfl) ?_ | refine region_rule (fun KK hKK => ?_) | refine hKK _ _ ?_ | refine And.intro (Eq.refl true) ?_ | refine Exists.intro _ (And.intro (wI (by omega)) ?_) | refine Exists.intro _ (And.intro (wU (by omega)) ?_) | refine Exists.intro _ (And.intro ⟨rfl, by omega⟩ ?_) | refine Exists.intro _ (And.intro rfl ?_) | refine And.intro rfl ?_ | refine And.intro ⟨rfl, rfl⟩ ?_ | ((refine And.intro (fun _ => ?_) (fun _ => ?_)) <;> try (exfalso; omega))))
    exact Exists.intro [] (And.intro (rfl) (And.intro trivial rfl))
  · rw [decide_eq_false h]
    (repeat' (first | refine And.intro (neI rfl) ?_ | refine And.intro ⟨rfl, leR rfl, onesR rfl⟩ ?_ | refine And.intro ⟨rfl, leR rfl⟩ ?_ | refine draw_rule2 hfol (fun KK hKK => ?_) | refine hKK _ _ _ (by kernel_rfl) ?_ | refine region_rule (fun KK hKK => ?_) | refine hKK _ _ ?_ | refine And.intro (Eq.refl true) ?_ | refine Exists.intro _ (And.intro (wI (by omega)) ?_) | refine Exists.intro _ (And.intro (wU (by omega)) ?_) | refine Exists.intro _ (And.intro ⟨rfl, by omega⟩ ?_) | refine Exists.intro _ (And.intro rfl ?_) | refine And.intro rfl ?_ | refine And.intro ⟨rfl, rfl⟩ ?_ | ((refine And.intro (fun _ => ?_) (fun _ => ?_)) <;> try (exfalso; omega))))
    exact Exists.intro [] (And.intro (rfl) (And.intro trivial rfl))
section
variable {W : World → (Nat → Prop) → Prop} {v : Value} {g : Nat → Int} {N : Nat} (hA : ArgK .u8 W v g N) (hN : N ≤ 1048576) (hg : ∀ j, j < N → 0 ≤ g j ∧ g j < 256)
include hA hN hg
theorem s_spoilP (at' h : Nat) (hat : at' ≤ N) :
    ∃ s m a2 h2, m.length = 8 ∧ (∀ x ∈ m, x < 256) ∧ a2 ≤ N ∧ SpecW Try.prog W n_s_l07Spoil [.ptr 0 0] [srcO v at' h] (pv s m) [srcO v a2 h2] := by
  have c1 := s_pick hA hN hg at' h hat (pk [1, 2, 3, 3, 4]) 5 (by omega) (by omega)
  have hq : nxV g N at' h % 5 < 5 := Nat.mod_lt _ (by omega)
  generalize nxV g N at' h % 5 = q at c1 hq
  obtain ⟨n, hn1, hn, hpk⟩ : ∃ n : Nat, 1 ≤ n ∧ n ≤ 4 ∧ pk [1, 2, 3, 3, 4] q = n := by
    match q, hq with
    | 0, _ => exact ⟨1, by omega, by omega, rfl⟩
    | 1, _ => exact ⟨2, by omega, by omega, rfl⟩
    | 2, _ => exact ⟨3, by omega, by omega, rfl⟩
    | 3, _ => exact ⟨3, by omega, by omega, rfl⟩
    | 4, _ => exact ⟨4, by omega, by omega, rfl⟩
    | k + 5, hk => omega
  rw [hpk] at c1
  have ha1 := nxA_le hat
  generalize nxA N at' = a1 at c1 ha1
  generalize lc h = h1 at c1
  obtain ⟨f, a2, h2, ha2, c2⟩ := s_drawP hA hN hg a1 h1 ha1 n hn1 hn
  have hlt : ∀ j, (nm f n).getD j 0 < 8 := nm_lt hn
  have hl : (nm f n).length = 8 := nm_len
  have hmb : ∀ x ∈ nm f n, x < 256 := fun x hx => by have := lt_mem hlt x hx; omega
  generalize nm f n = m at c2 hlt hl hmb
  obtain ⟨r, h3, hr, c3⟩ := s_nxq hA hN hg a2 h2 ha2 40 (by omega)
  have ha3 := nxA_le ha2
  generalize nxA N a2 = a3 at c3 ha3
  by_cases r0 : r = 0
  · subst r0
    have w1 : IntKind.i64.wrap ((n : Int) - 1) = ((n : Int) - 1) := wI (by omega)
    have c4 := s_pick hA hN hg a3 h3 ha3 (pk [0, 5, -1, (n : Int) - 1]) 4 (by omega) (by omega)
    refine ⟨_, m, _, _, hl, hmb, nxA_le ha3, (?_ : SpecW Try.prog W n_s_l07Spoil [.ptr 0 0] [srcO v at' h] (pv (pk [0, 5, -1, (n : Int) - 1] (nxV g N a3 h3 % 4)) m) [srcO v (nxA N a3) (lc h3)])⟩
    generalize nxV g N a3 h3 % 4 = x at c4 ⊢
    generalize hs : pk [0, 5, -1, (n : Int) - 1] x = s at c4 ⊢
    generalize nxA N a3 = a4 at c4 ⊢
    generalize lc h3 = h4 at c4 ⊢
    refine SpecW.of_EV hf_s_l07Spoil hc_s_l07Spoil rfl rfl rfl fun w0 B ρ0 hW => ?_
    have hp := ArgK.pass (Γ := ⟨w0, B, ([srcO v at' h] : List O).length, ρ0⟩) hA hW
    (repeat' (first | refine And.intro ⟨rfl, mkL rfl⟩ (And.intro ⟨rfl, row_k_le (K := 5) [1] (leR rfl) (leR rfl)⟩ (And.intro ⟨rfl, row_k_le (K := 5) [1, 2] (leR rfl) (leR rfl)⟩ (And.intro ⟨rfl, row_k_le (K := 5) [1, 2, 3] (leR rfl) (leR rfl)⟩ (And.intro ⟨rfl, row_k_le (K := 5) [1, 2, 3, 3] (leR rfl) (leR rfl)⟩ (Exists.intro (il (pk [1, 2, 3, 3, 4]) 5) (And.intro (row_k [1, 2, 3, 3, 4] rfl) ?_)))))) | refine And.intro ⟨rfl, mkL rfl⟩ (And.intro ⟨rfl, row_k_le (K := 4) [0] (leR rfl) (leR rfl)⟩ (And.intro ⟨rfl, row_k_le (K := 4) [0, 5] (leR rfl) (leR rfl)⟩ (And.intro ⟨rfl, row_k_le (K := 4) [0, 5, -1] (leR rfl) (leR rfl)⟩ (Exists.intro (il (pk [0, 5, -1, (n : Int) - 1]) 4) (And.intro (row_k [0, 5, -1, (n : Int) - 1] rfl) ?_))))) | refine Exists.intro _ (And.intro w1 ?_) | refine c1.makeW hp [0, 2] rfl ⟨rfl, rfl, trivial⟩ ?_ | refine c2.makeW hp [0] rfl ⟨rfl, trivial⟩ ?_ | refine c3.makeW hp [0] rfl ⟨rfl, trivial⟩ ?_ | refine c4.makeW hp [0, 4] rfl ⟨rfl, rfl, trivial⟩ ?_ | refine Exists.intro (pcl s m) (And.intro ⟨by rw [pcl_len hl]; omega, rfl⟩ ?_) | refine Exists.intro (pcl s m) (And.intro ⟨pcl_len hl, pcl_all hl⟩ ?_) | refine And.intro ⟨pcl_len hl, leR rfl, pcl_ones⟩ ?_ | refine Exists.intro (pcl s m) (And.intro ⟨leR rfl, spl0 (leR rfl)⟩ ?_) | refine Exists.intro (pcl (n : Int) m) (And.intro ⟨pcl_len hl, pcl_all hl⟩ ?_) | refine And.intro ⟨pcl_len hl, leR rfl, pcl_ones⟩ ?_ | refine Exists.intro (pcl (n : Int) m) (And.intro ⟨leR rfl, spl0 (leR rfl)⟩ ?_) | refine And.intro (neI rfl) ?_ | refine And.intro ⟨rfl, leR rfl, onesR rfl⟩ ?_ | refine And.intro ⟨rfl, leR rfl⟩ ?_ | refine draw_rule2 hfol (fun KK hKK => ?_) | refine hKK _ _ _ (by kernel_rfl) ?_ | refine region_rule (fun KK hKK => ?_) | refine hKK _ _ ?_ | refine And.intro (Eq.refl true) ?_ | refine Exists.intro _ (And.intro (wI (by omega)) ?_) | refine Exists.intro _ (And.intro (wU (by omega)) ?_) | refine Exists.intro _ (And.intro ⟨rfl, by omega⟩ ?_) | refine Exists.intro _ (And.intro rfl ?_) | refine And.intro rfl ?_ | refine And.intro ⟨rfl, rfl⟩ ?_ | ((refine And.intro (fun _ => ?_) (fun _ => ?_)) <;> try (exfalso; omega))))
    exact Exists.intro [0] (And.intro (rfl) (And.intro ⟨rfl, trivial⟩ rfl))
  by_cases r1 : r = 1
  · subst r1
    obtain ⟨x, h4, hx, c4⟩ := s_nxq hA hN hg a3 h3 ha3 8 (by omega)
    have ha4 := nxA_le ha3
    generalize nxA N a3 = a4 at c4 ha4
    obtain ⟨y, h5, hy, c5⟩ := s_nxq hA hN hg a4 h4 ha4 9 (by omega)
    have hb2 : ∀ z ∈ m.set x y, z < 256 := fun z hz => by
      rcases List.mem_or_eq_of_mem_set hz with h | rfl
      · exact hmb z h
      · omega
    refine ⟨n, m.set x y, _, h5, by rw [List.length_set]; exact hl, hb2, nxA_le ha4, ?_⟩
    have hl2 : (m.set x y).length = 8 := by rw [List.length_set]; exact hl
    generalize nxA N a4 = a5 at c5 ⊢
    refine SpecW.of_EV hf_s_l07Spoil hc_s_l07Spoil rfl rfl rfl fun w0 B ρ0 hW => ?_
    have hp := ArgK.pass (Γ := ⟨w0, B, ([srcO v at' h] : List O).length, ρ0⟩) hA hW
    (repeat' (first | refine And.intro ⟨rfl, mkL rfl⟩ (And.intro ⟨rfl, row_k_le (K := 5) [1] (leR rfl) (leR rfl)⟩ (And.intro ⟨rfl, row_k_le (K := 5) [1, 2] (leR rfl) (leR rfl)⟩ (And.intro ⟨rfl, row_k_le (K := 5) [1, 2, 3] (leR rfl) (leR rfl)⟩ (And.intro ⟨rfl, row_k_le (K := 5) [1, 2, 3, 3] (leR rfl) (leR rfl)⟩ (Exists.intro (il (pk [1, 2, 3, 3, 4]) 5) (And.intro (row_k [1, 2, 3, 3, 4] rfl) ?_)))))) | refine c1.makeW hp [0, 2] rfl ⟨rfl, rfl, trivial⟩ ?_ | refine c2.makeW hp [0] rfl ⟨rfl, trivial⟩ ?_ | refine c3.makeW hp [0] rfl ⟨rfl, trivial⟩ ?_ | refine c4.makeW hp [0] rfl ⟨rfl, trivial⟩ ?_ | refine c5.makeW hp [0] rfl ⟨rfl, trivial⟩ ?_ | refine Exists.intro (pcl n (m.set x y)) (And.intro ⟨by rw [pcl_len hl]; omega, pcl_set⟩ ?_) | refine Exists.intro (pcl (n : Int) m) (And.intro ⟨pcl_len hl, pcl_all hl⟩ ?_) | refine And.intro ⟨pcl_len hl, leR rfl, pcl_ones⟩ ?_ | refine Exists.intro (pcl (n : Int) m) (And.intro ⟨leR rfl, spl0 (leR rfl)⟩ ?_) | refine Exists.intro (pcl (n : Int) (m.set x y)) (And.intro ⟨pcl_len hl2, pcl_all hl2⟩ ?_) | refine And.intro ⟨pcl_len hl2, leR rfl, pcl_ones⟩ ?_ | refine Exists.intro (pcl (n : Int) (m.set x y)) (And.intro ⟨leR rfl, spl0 (leR rfl)⟩ ?_) | refine And.intro (neI rfl) ?_ | refine And.intro ⟨rfl, leR rfl, onesR rfl⟩ ?_ | refine And.intro ⟨rfl, leR rfl⟩ ?_ | refine draw_rule2 hfol (fun KK hKK => ?_) | refine hKK _ _ _ (by kernel_rfl) ?_ | refine region_rule (fun KK hKK => ?_) | refine hKK _ _ ?_ | refine And.intro (Eq.refl true) ?_ | refine Exists.intro _ (And.intro (wI (by omega)) ?_) | refine Exists.intro _ (And.intro (wU (by omega)) ?_) | refine Exists.intro _ (And.intro ⟨rfl, by omega⟩ ?_) | refine Exists.intro _ (And.intro rfl ?_) | refine And.intro rfl ?_ | refine And.intro ⟨rfl, rfl⟩ ?_ | ((refine And.intro (fun _ => ?_) (fun _ => ?_)) <;> try (exfalso; omega))))
    exact Exists.intro [0] (And.intro (rfl) (And.intro ⟨rfl, trivial⟩ rfl))
  · refine ⟨n, m, a3, h3, hl, hmb, ha3, ?_⟩
    have hr0 : (r : Int) ≠ 0 := by omega
    have hr1 : (r : Int) ≠ 1 := by omega
    refine SpecW.of_EV hf_s_l07Spoil hc_s_l07Spoil rfl rfl rfl fun w0 B ρ0 hW => ?_
    have hp := ArgK.pass (Γ := ⟨w0, B, ([srcO v at' h] : List O).length, ρ0⟩) hA hW
    (repeat' (first | refine And.intro ⟨rfl, mkL rfl⟩ (And.intro ⟨rfl, row_k_le (K := 5) [1] (leR rfl) (leR rfl)⟩ (And.intro ⟨rfl, row_k_le (K := 5) [1, 2] (leR rfl) (leR rfl)⟩ (And.intro ⟨rfl, row_k_le (K := 5) [1, 2, 3] (leR rfl) (leR rfl)⟩ (And.intro ⟨rfl, row_k_le (K := 5) [1, 2, 3, 3] (leR rfl) (leR rfl)⟩ (Exists.intro (il (pk [1, 2, 3, 3, 4]) 5) (And.intro (row_k [1, 2, 3, 3, 4] rfl) ?_)))))) | refine c1.makeW hp [0, 2] rfl ⟨rfl, rfl, trivial⟩ ?_ | refine c2.makeW hp [0] rfl ⟨rfl, trivial⟩ ?_ | refine c3.makeW hp [0] rfl ⟨rfl, trivial⟩ ?_ | refine Exists.intro (pcl (n : Int) m) (And.intro ⟨pcl_len hl, pcl_all hl⟩ ?_) | refine And.intro ⟨pcl_len hl, leR rfl, pcl_ones⟩ ?_ | refine Exists.intro (pcl (n : Int) m) (And.intro ⟨leR rfl, spl0 (leR rfl)⟩ ?_) | refine And.intro (neI rfl) ?_ | refine And.intro ⟨rfl, leR rfl, onesR rfl⟩ ?_ | refine And.intro ⟨rfl, leR rfl⟩ ?_ | refine draw_rule2 hfol (fun KK hKK => ?_) | refine hKK _ _ _ (by kernel_rfl) ?_ | refine region_rule (fun KK hKK => ?_) | refine hKK _ _ ?_ | refine And.intro (Eq.refl true) ?_ | refine Exists.intro _ (And.intro (wI (by omega)) ?_) | refine Exists.intro _ (And.intro (wU (by omega)) ?_) | refine Exists.intro _ (And.intro ⟨rfl, by omega⟩ ?_) | refine Exists.intro _ (And.intro rfl ?_) | refine And.intro rfl ?_ | refine And.intro ⟨rfl, rfl⟩ ?_ | ((refine And.intro (fun _ => ?_) (fun _ => ?_)) <;> try (exfalso; omega))))
    exact Exists.intro [0] (And.intro (rfl) (And.intro ⟨rfl, trivial⟩ rfl))
theorem s_DrawPowersOfPartition : ∃ s m, m.length = 8 ∧ (∀ x ∈ m, x < 256) ∧ SpecW Try.prog W n_s_DrawPowersOfPartition [.raw v] [] (pv s m) [] := by
  have c1 := s_from hA hN hg
  obtain ⟨s, m, a2, h2, hl, hb, _, c2⟩ := s_spoilP hA hN hg 0 (fH g N (min N 4096)) (Nat.zero_le _)
  refine ⟨s, m, hl, hb, ?_⟩
  generalize fH g N (min N 4096) = h0 at c1 c2
  obtain ⟨a, cap, hv⟩ := hA.form
  refine SpecW.of_EV hf_s_DrawPowersOfPartition hc_s_DrawPowersOfPartition rfl rfl rfl fun w0 B ρ0 hW => ?_
  have hp := ArgK.pass (Γ := ⟨w0, B, ([] : List O).length, ρ0⟩) hA hW
  (repeat' (first | refine c1.makeW hp [] rfl trivial ?_ | refine c2.makeW hp [0] rfl ⟨rfl, trivial⟩ ?_ | refine c2.makeW hp [1] rfl ⟨rfl, trivial⟩ ?_ | refine Exists.intro (pcl s m) (And.intro ⟨pcl_len hl, pcl_all hl⟩ ?_) | refine And.intro ⟨pcl_len hl, leR rfl, pcl_ones⟩ ?_ | refine Exists.intro (pcl s m) (And.intro ⟨leR rfl, spl0 (leR rfl)⟩ ?_) | refine And.intro (neI rfl) ?_ | refine And.intro ⟨rfl, leR rfl, onesR rfl⟩ ?_ | refine And.intro ⟨rfl, leR rfl⟩ ?_ | refine draw_rule2 hfol (fun KK hKK => ?_) | refine hKK _ _ _ (by kernel_rfl) ?_ | refine region_rule (fun KK hKK => ?_) | refine hKK _ _ ?_ | refine And.intro (Eq.refl true) ?_ | refine Exists.intro _ (And.intro (wI (by omega)) ?_) | refine Exists.intro _ (And.intro (wU (by omega)) ?_) | refine Exists.intro _ (And.intro ⟨rfl, by omega⟩ ?_) | refine Exists.intro _ (And.intro rfl ?_) | refine And.intro rfl ?_ | refine And.intro ⟨rfl, rfl⟩ ?_ | ((refine And.intro (fun _ => ?_) (fun _ => ?_)) <;> try (exfalso; omega))))
  exact Exists.intro [] (And.intro (rfl) (And.intro trivial rfl))
theorem s_DrawPartitionText : ∃ s m, m.length = 8 ∧ (∀ x ∈ m, x < 256) ∧ SpecW Try.prog W n_s_DrawPartitionText [.raw v] [] (pv s m) [] := by
  have c1 := s_from hA hN hg
  obtain ⟨s, m, a2, h2, hl, hb, _, c2⟩ := s_spoilP hA hN hg 0 (fH g N (min N 4096)) (Nat.zero_le _)
  refine ⟨s, m, hl, hb, ?_⟩
  generalize fH g N (min N 4096) = h0 at c1 c2
  obtain ⟨a, cap, hv⟩ := hA.form
  refine SpecW.of_EV hf_s_DrawPartitionText hc_s_DrawPartitionText rfl rfl rfl fun w0 B ρ0 hW => ?_
  have hp := ArgK.pass (Γ := ⟨w0, B, ([] : List O).length, ρ0⟩) hA hW
  (repeat' (first | refine c1.makeW hp [] rfl trivial ?_ | refine c2.makeW hp [0] rfl ⟨rfl, trivial⟩ ?_ | refine c2.makeW hp [1] rfl ⟨rfl, trivial⟩ ?_ | refine Exists.intro (pcl s m) (And.intro ⟨pcl_len hl, pcl_all hl⟩ ?_) | refine And.intro ⟨pcl_len hl, leR rfl, pcl_ones⟩ ?_ | refine Exists.intro (pcl s m) (And.intro ⟨leR rfl, spl0 (leR rfl)⟩ ?_) | refine And.intro (neI rfl) ?_ | refine And.intro ⟨rfl, leR rfl, onesR rfl⟩ ?_ | refine And.intro ⟨rfl, leR rfl⟩ ?_ | refine draw_rule2 hfol (fun KK hKK => ?_) | refine hKK _ _ _ (by kernel_rfl) ?_ | refine region_rule (fun KK hKK => ?_) | refine hKK _ _ ?_ | refine And.intro (Eq.refl true) ?_ | refine Exists.intro _ (And.intro (wI (by omega)) ?_) | refine Exists.intro _ (And.intro (wU (by omega)) ?_) | refine Exists.intro _ (And.intro ⟨rfl, by omega⟩ ?_) | refine Exists.intro _ (And.intro rfl ?_) | refine And.intro rfl ?_ | refine And.intro ⟨rfl, rfl⟩ ?_ | ((refine And.intro (fun _ => ?_) (fun _ => ?_)) <;> try (exfalso; omega))))
  exact Exists.intro [] (And.intro (rfl) (And.intro trivial rfl))
theorem s_DrawThroughParts : ∃ s m, m.length = 8 ∧ (∀ x ∈ m, x < 256) ∧ SpecW Try.prog W n_s_DrawThroughParts [.raw v] [] (pv s m) [] := by
  have c1 := s_from hA hN hg
  obtain ⟨s, m, a2, h2, hl, hb, _, c2⟩ := s_spoilP hA hN hg 0 (fH g N (min N 4096)) (Nat.zero_le _)
  refine ⟨s, m, hl, hb, ?_⟩
  generalize fH g N (min N 4096) = h0 at c1 c2
  obtain ⟨a, cap, hv⟩ := hA.form
  refine SpecW.of_EV hf_s_DrawThroughParts hc_s_DrawThroughParts rfl rfl rfl fun w0 B ρ0 hW => ?_
  have hp := ArgK.pass (Γ := ⟨w0, B, ([] : List O).length, ρ0⟩) hA hW
  (repeat' (first | refine c1.makeW hp [] rfl trivial ?_ | refine c2.makeW hp [0] rfl ⟨rfl, trivial⟩ ?_ | refine c2.makeW hp [1] rfl ⟨rfl, trivial⟩ ?_ | refine Exists.intro (pcl s m) (And.intro ⟨pcl_len hl, pcl_all hl⟩ ?_) | refine And.intro ⟨pcl_len hl, leR rfl, pcl_ones⟩ ?_ | refine Exists.intro (pcl s m) (And.intro ⟨leR rfl, spl0 (leR rfl)⟩ ?_) | refine And.intro (neI rfl) ?_ | refine And.intro ⟨rfl, leR rfl, onesR rfl⟩ ?_ | refine And.intro ⟨rfl, leR rfl⟩ ?_ | refine draw_rule2 hfol (fun KK hKK => ?_) | refine hKK _ _ _ (by kernel_rfl) ?_ | refine region_rule (fun KK hKK => ?_) | refine hKK _ _ ?_ | refine And.intro (Eq.refl true) ?_ | refine Exists.intro _ (And.intro (wI (by omega)) ?_) | refine Exists.intro _ (And.intro (wU (by omega)) ?_) | refine Exists.intro _ (And.intro ⟨rfl, by omega⟩ ?_) | refine Exists.intro _ (And.intro rfl ?_) | refine And.intro rfl ?_ | refine And.intro ⟨rfl, rfl⟩ ?_ | ((refine And.intro (fun _ => ?_) (fun _ => ?_)) <;> try (exfalso; omega))))
  exact Exists.intro [] (And.intro (rfl) (And.intro trivial rfl))
theorem s_DrawUnitPartition : ∃ r, SpecW Try.prog W n_s_DrawUnitPartition [.raw v] [] (vi r) [] := by
  have c1 := s_from hA hN hg
  obtain ⟨r, a2, h2, _, c2⟩ := s_near hA hN hg 0 (fH g N (min N 4096)) (Nat.zero_le _) 4 (by omega)
  generalize fH g N (min N 4096) = h0 at c1 c2
  refine ⟨r, ?_⟩
  refine SpecW.of_EV hf_s_DrawUnitPartition hc_s_DrawUnitPartition rfl rfl rfl fun w0 B ρ0 hW => ?_
  have hp := ArgK.pass (Γ := ⟨w0, B, ([] : List O).length, ρ0⟩) hA hW
  (repeat' (first | refine c1.makeW hp [] rfl trivial ?_ | refine c2.makeW hp [0] rfl ⟨rfl, trivial⟩ ?_ | refine And.intro (neI rfl) ?_ | refine And.intro ⟨rfl, leR rfl, onesR rfl⟩ ?_ | refine And.intro ⟨rfl, leR rfl⟩ ?_ | refine draw_rule2 hfol (fun KK hKK => ?_) | refine hKK _ _ _ (by kernel_rfl) ?_ | refine region_rule (fun KK hKK => ?_) | refine hKK _ _ ?_ | refine And.intro (Eq.refl true) ?_ | refine Exists.intro _ (And.intro (wI (by omega)) ?_) | refine Exists.intro _ (And.intro (wU (by omega)) ?_) | refine Exists.intro _ (And.intro ⟨rfl, by omega⟩ ?_) | refine Exists.intro _ (And.intro rfl ?_) | refine And.intro rfl ?_ | refine And.intro ⟨rfl, rfl⟩ ?_ | ((refine And.intro (fun _ => ?_) (fun _ => ?_)) <;> try (exfalso; omega))))
  exact Exists.intro [] (And.intro (rfl) (And.intro trivial rfl))
theorem s_DrawParsePartition : ∃ T, T.size ≤ 72057594039000000 ∧ SpecW Try.prog W n_s_DrawParsePartition [.raw v] [] (.raw (.string T)) [] := by
  have c1 := s_from hA hN hg
  generalize fH g N (min N 4096) = h0 at c1
  obtain ⟨q, h1, hq, c2⟩ := s_nxq hA hN hg 0 h0 (Nat.zero_le _) 4 (by omega)
  have ha1 := nxA_le (N := N) (Nat.zero_le N)
  generalize nxA N 0 = a1 at c2 ha1
  obtain ⟨f, a2, h2, ha2, c3⟩ := s_drawP hA hN hg a1 h1 ha1 (q + 1) (by omega) (by omega)
  have hn4 : q + 1 ≤ 4 := by omega
  have hlt : ∀ j, (nm f (q + 1)).getD j 0 < 8 := nm_lt hn4
  have hl : (nm f (q + 1)).length = 8 := nm_len
  generalize nm f (q + 1) = m at c3 hlt hl
  have c4 := s_text (q + 1) m hn4 hlt hl
  have hsz : (dgB m (2 * (q + 1))).size = 2 * (q + 1) := dgB_size
  have w1 : IntKind.i64.wrap (1 + (q : Int)) = ((q + 1 : Nat) : Int) := wC (by omega) (by omega)
  generalize hk : q + 1 = n at c3 c4 hsz w1
  generalize dgB m (2 * n) = t0 at c4 hsz
  obtain ⟨K, T, hT, hR⟩ := Rn_ex hA hN hg (N - a2) a2 h2 t0 (by omega) (by omega)
  refine ⟨T, hT, ?_⟩
  refine SpecW.of_EV hf_s_DrawParsePartition hc_s_DrawParsePartition rfl rfl rfl fun w0 B ρ0 hW => ?_
  have hp := ArgK.pass (Γ := ⟨w0, B, ([] : List O).length, ρ0⟩) hA hW
  have hfol : Try.prog.follows .mixedOrders = true := rfl
  (repeat' (first | refine c1.makeW hp [] rfl trivial ?_ | refine c2.makeW hp [0] rfl ⟨rfl, trivial⟩ ?_ | refine Exists.intro _ (And.intro w1 ?_) | refine c3.makeW hp [0] rfl ⟨rfl, trivial⟩ ?_ | refine (c4).pure rfl ?_ | refine Exists.intro (pcl (n : Int) m) (And.intro ⟨pcl_len hl, pcl_all hl⟩ ?_) | refine And.intro ⟨pcl_len hl, leR rfl, pcl_ones⟩ ?_ | refine Exists.intro (pcl (n : Int) m) (And.intro ⟨leR rfl, spl0 (leR rfl)⟩ ?_) | refine And.intro (neI rfl) ?_ | refine And.intro ⟨rfl, leR rfl, onesR rfl⟩ ?_ | refine And.intro ⟨rfl, leR rfl⟩ ?_ | refine draw_rule2 hfol (fun KK hKK => ?_) | refine hKK _ _ _ (by kernel_rfl) ?_ | refine region_rule (fun KK hKK => ?_) | refine hKK _ _ ?_ | refine And.intro (Eq.refl true) ?_ | refine Exists.intro _ (And.intro (wI (by omega)) ?_) | refine Exists.intro _ (And.intro (wU (by omega)) ?_) | refine Exists.intro _ (And.intro ⟨rfl, by omega⟩ ?_) | refine Exists.intro _ (And.intro rfl ?_) | refine And.intro rfl ?_ | refine And.intro ⟨rfl, rfl⟩ ?_ | ((refine And.intro (fun _ => ?_) (fun _ => ?_)) <;> try (exfalso; omega))))
  refine loop_rule (α := Nat × Nat × Nat × ByteArray) (fun (k, a, h, t) => Rn W v g N T k a h t)
    (fun (k, a, h, t) => [(3, .ptr 0 0), (4, .raw (.string t))])
    (fun (k, a, h, t) => [srcO v a h]) (fun (k, _) => k) (K, a2, h2, t0) [0]
    hR ⟨⟨rfl, rfl, trivial⟩, ⟨rfl, trivial⟩, rfl⟩ ?_
  rintro ⟨k, a, h, t⟩ g' hR
  dsimp only at hR ⊢
  cases k with
  | zero =>
    obtain ⟨⟨h3, rfl⟩, ha⟩ := hR
    have c4 := s_next hA hN hg a h ha 3 (by omega)
    have h3' : ((nxV g N a h % 3 : Nat) : Int) ≠ 0 := by omega
    generalize nxV g N a h % 3 = q at c4 h3'
    (repeat' (first | refine c4.makeW hp [0] rfl ⟨rfl, trivial⟩ ?_ | refine And.intro (neI rfl) ?_ | refine And.intro ⟨rfl, leR rfl, onesR rfl⟩ ?_ | refine And.intro ⟨rfl, leR rfl⟩ ?_ | refine draw_rule2 hfol (fun KK hKK => ?_) | refine hKK _ _ _ (by kernel_rfl) ?_ | refine region_rule (fun KK hKK => ?_) | refine hKK _ _ ?_ | refine And.intro (Eq.refl true) ?_ | refine Exists.intro _ (And.intro (wI (by omega)) ?_) | refine Exists.intro _ (And.intro (wU (by omega)) ?_) | refine Exists.intro _ (And.intro ⟨rfl, by omega⟩ ?_) | refine Exists.intro _ (And.intro rfl ?_) | refine And.intro rfl ?_ | refine And.intro ⟨rfl, rfl⟩ ?_ | ((refine And.intro (fun _ => ?_) (fun _ => ?_)) <;> try (exfalso; omega))))
    exact Exists.intro [] (And.intro (rfl) (And.intro trivial rfl))
  | succ k =>
    obtain ⟨h3, ha, t', a', h', c5, hR'⟩ := hR
    have c4 := s_next hA hN hg a h ha 3 (by omega)
    rw [h3] at c4
    replace c4 : SpecW Try.prog W n_s_l01Next [.ptr 0 0, vi (3 : Nat)] [srcO v a h] (vi (0 : Nat)) [srcO v (nxA N a) (lc h)] := c4
    generalize nxA N a = a2 at c4 c5
    generalize lc h = h2 at c4 c5
    (repeat' (first | refine c4.makeW hp [0] rfl ⟨rfl, trivial⟩ ?_ | refine c5.makeW hp [0] rfl ⟨rfl, trivial⟩ ?_ | refine And.intro (neI rfl) ?_ | refine And.intro ⟨rfl, leR rfl, onesR rfl⟩ ?_ | refine And.intro ⟨rfl, leR rfl⟩ ?_ | refine draw_rule2 hfol (fun KK hKK => ?_) | refine hKK _ _ _ (by kernel_rfl) ?_ | refine region_rule (fun KK hKK => ?_) | refine hKK _ _ ?_ | refine And.intro (Eq.refl true) ?_ | refine Exists.intro _ (And.intro (wI (by omega)) ?_) | refine Exists.intro _ (And.intro (wU (by omega)) ?_) | refine Exists.intro _ (And.intro ⟨rfl, by omega⟩ ?_) | refine Exists.intro _ (And.intro rfl ?_) | refine And.intro rfl ?_ | refine And.intro ⟨rfl, rfl⟩ ?_ | ((refine And.intro (fun _ => ?_) (fun _ => ?_)) <;> try (exfalso; omega))))
    exact Exists.intro (k, a', h', t') (Exists.intro [0] (And.intro ⟨hR', (by show k < k + 1; omega)⟩ ⟨⟨rfl, rfl, trivial⟩, ⟨rfl, trivial⟩, rfl⟩))
end
end Go.Proofs.Ytpangmameocfmaa.VE.P
