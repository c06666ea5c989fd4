/- Contracts of functions of the given program, for all arguments that the contract names; see each theorem. -/
import Derived.Test.YtpangmameocfmaaTJ
import Derived.Test.YtpangmameocfmaaTL
import Derived.Test.YtpangmameocfmaaTF
import Derived.Test.YtpangmameocfmaaTE
import Derived.Test.YtpangmameocfmaaTD
set_option linter.all false
namespace Go.Proofs.Ytpangmameocfmaa.VE.P
open Go
set_option maxHeartbeats 800000
set_option maxRecDepth 100000

/-! plain: powers stay partitions, and their through parts do not grow -/
theorem nmF_inj {v w : Int} {x : Nat} : ∀ {ks : List Int} {b : Nat}, nmF v ks b = some x → nmF w ks b = some x → v = w
  | [], _, h, _ => by simp [nmF] at h
  | q :: r, b, h1, h2 => by
    simp only [nmF] at h1 h2
    split at h1
    · rename_i e1
      split at h2
      · rename_i e2; rw [e1, e2]
      · injection h1 with h1
        have : ∀ {v : Int} {ks : List Int} {b x : Nat}, nmF v ks b = some x → b ≤ x := by
          intro v ks
          induction ks with
          | nil => intro b x h; simp [nmF] at h
          | cons q r ih =>
            intro b x h
            simp only [nmF] at h
            split at h
            · injection h with h; omega
            · have := ih h; omega
        have := this h2; omega
    · split at h2
      · injection h2 with h2
        have : ∀ {v : Int} {ks : List Int} {b x : Nat}, nmF v ks b = some x → b ≤ x := by
          intro v ks
          induction ks with
          | nil => intro b x h; simp [nmF] at h
          | cons q r ih =>
            intro b x h
            simp only [nmF] at h
            split at h
            · injection h with h; omega
            · have := ih h; omega
        have := this h1; omega
      · exact nmF_inj h1 h2
theorem TI_ex {g : Nat → Int} {n : Nat} (hn : n ≤ 4) : ∀ i, i ≤ 2 * n → ∃ ks out, TI g n (i, ks, out)
  | 0, _ => ⟨[], List.replicate 8 0, by omega, by simp, by simp, rfl, fun j hj => by omega, fun _ _ => rfl⟩
  | i + 1, h => by
    obtain ⟨ks, out, hI⟩ := TI_ex (g := g) hn i (by omega)
    by_cases he : ∃ k, k < i ∧ g k = g i
    · obtain ⟨k, hk, he⟩ := he
      exact ⟨_, _, (TI_old hn hI (by omega) hk he).2⟩
    · exact ⟨_, _, TI_new hn hI (by omega) fun k hk e => he ⟨k, hk, e⟩⟩
theorem nm_ker {g : Nat → Int} {n i j : Nat} (hn : n ≤ 4) (hi : i < 2 * n) (hj : j < 2 * n) : (nm g n).getD i 0 = (nm g n).getD j 0 ↔ g i = g j := by
  obtain ⟨ks, out, _, _, _, h4, h5, _⟩ := TI_ex (g := g) hn (2 * n) (Nat.le_refl _)
  rw [Nat.sub_self] at h4
  replace h4 : out = nm g n := h4
  subst h4
  have a1 := h5 i hi
  have a2 := h5 j hj
  constructor
  · intro e; rw [e] at a1; exact nmF_inj a1 a2
  · intro e; rw [e, a2] at a1; injection a1 with a1; exact a1.symm
theorem isPi_nm {g : Nat → Int} {n : Nat} (hn1 : 1 ≤ n) (hn : n ≤ 4) : isPi n (nm g n) = true := by
  unfold isPi
  rw [decide_eq_true (by omega), Bool.true_and, decide_eq_true_eq, Int.toNat_natCast]
  refine nm_congr fun i j hi hj => ?_
  rw [← nm_ker (g := g) hn hi hj]
  omega
theorem pw_is {n : Nat} {m : List Nat} (hv : isPi n m = true) (hn1 : 1 ≤ n) (hn : n ≤ 4) : ∀ k, isPi n (pw n m k) = true
  | 0 => hv
  | _ + 1 => isPi_nm hn1 hn

def thN (n : Nat) (m : List Nat) : Nat := tN (kC (key n m) (2 * n)) (mx m (2 * n))
def Th (n : Nat) (m : List Nat) (k : Nat) : Prop := (∃ t, t < n ∧ m.getD t 0 = k) ∧ ∃ u, n ≤ u ∧ u < 2 * n ∧ m.getD u 0 = k
theorem kC_pos {key : Nat → Nat} {j : Nat} : ∀ {i : Nat}, 0 < kC key i j ↔ ∃ t, t < i ∧ key t = j
  | 0 => by simp [kC]
  | i + 1 => by
    have ih := kC_pos (key := key) (j := j) (i := i)
    simp only [kC]
    constructor
    · intro h
      by_cases hk : key i = j
      · exact ⟨i, by omega, hk⟩
      · rw [if_neg hk] at h
        obtain ⟨t, ht, e⟩ := ih.1 (by omega)
        exact ⟨t, by omega, e⟩
    · rintro ⟨t, ht, e⟩
      by_cases hti : t = i
      · subst hti; rw [if_pos e]; omega
      · have := ih.2 ⟨t, by omega, e⟩; omega
theorem th_iff {n : Nat} {m : List Nat} {k : Nat} : (0 < kC (key n m) (2 * n) (2 * k) ∧ 0 < kC (key n m) (2 * n) (2 * k + 1)) ↔ Th n m k := by
  rw [kC_pos, kC_pos]
  constructor
  · rintro ⟨⟨t, ht, e1⟩, u, hu, e2⟩
    refine ⟨⟨t, ?_, ?_⟩, u, ?_, hu, ?_⟩
    · refine Classical.byContradiction fun h => ?_
      rw [key_lo h ht] at e1; omega
    · by_cases h : t < n
      · rw [key_up h] at e1; omega
      · rw [key_lo h ht] at e1; omega
    · refine Classical.byContradiction fun h => ?_
      rw [key_up (by omega)] at e2; omega
    · by_cases h : u < n
      · rw [key_up h] at e2; omega
      · rw [key_lo h hu] at e2; omega
  · rintro ⟨⟨t, ht, e1⟩, u, hu, hu2, e2⟩
    refine ⟨⟨t, by omega, ?_⟩, u, hu2, ?_⟩
    · rw [key_up ht]; omega
    · rw [key_lo (by omega) hu2]; omega
theorem tN_fil {f : Nat → Nat} : ∀ K, tN f K = ((List.range K).filter fun k => decide (0 < f (2 * k) ∧ 0 < f (2 * k + 1))).length
  | 0 => rfl
  | K + 1 => by
    rw [tN, tN_fil K, List.range_succ, List.filter_append, List.length_append]
    congr 1
    by_cases h : 0 < f (2 * K) ∧ 0 < f (2 * K + 1)
    · rw [if_pos h, List.filter_cons_of_pos (by simpa using h)]; rfl
    · rw [if_neg h, List.filter_cons_of_neg (by simpa using h)]; rfl
theorem nodup_sub : ∀ (S l : List Nat), l.Nodup → (∀ x ∈ l, x ∈ S) → l.length ≤ S.length
  | [], l, _, h => by
    cases l with
    | nil => simp
    | cons a r => exact absurd (h a (by simp)) (by simp)
  | b :: S, l, hn, h => by
    by_cases hb : b ∈ l
    · have h1 := List.length_erase_of_mem hb
      have h2 := nodup_sub S (l.erase b) (hn.erase b) fun x hx => by
        have h3 := h x (List.mem_of_mem_erase hx)
        have h4 : x ≠ b := fun e => by subst e; exact (List.Nodup.not_mem_erase hn) hx
        simpa [h4] using h3
      have := List.length_pos_of_mem hb
      simp only [List.length_cons]; omega
    · have := nodup_sub S l hn fun x hx => by
        have h3 := h x hx
        have h4 : x ≠ b := fun e => hb (e ▸ hx)
        simpa [h4] using h3
      simp only [List.length_cons]; omega
/-- Many-to-one is barred: a list without repeats whose members have partners, no two the same one. -/
theorem le_of_rel {l S : List Nat} {R : Nat → Nat → Prop} (hl : l.Nodup) (h1 : ∀ x ∈ l, ∃ y, y ∈ S ∧ R x y) (h2 : ∀ x x' y, R x y → R x' y → x = x') : l.length ≤ S.length := by
  have hc : ∀ x, ∃ y, x ∈ l → y ∈ S ∧ R x y := fun x => by
    by_cases hx : x ∈ l
    · obtain ⟨y, hy⟩ := h1 x hx; exact ⟨y, fun _ => hy⟩
    · exact ⟨0, fun h => absurd h hx⟩
  have hc' : ∀ x, ∃ y, y = (hc x).choose := fun x => ⟨_, rfl⟩
  have := nodup_sub S (l.map fun x => (hc x).choose) (by
    rw [List.Nodup, List.pairwise_map]
    refine List.Pairwise.imp_of_mem ?_ hl
    intro a b ha hb hab e
    have r1 := ((hc a).choose_spec ha).2
    have r2 := ((hc b).choose_spec hb).2
    rw [e] at r1
    exact hab (h2 _ _ _ r1 r2)) (by
    intro y hy
    obtain ⟨x, hx, rfl⟩ := List.mem_map.1 hy
    exact ((hc x).choose_spec hx).1)
  simpa using this
theorem thL_nodup {n : Nat} {m : List Nat} {K : Nat} : ((List.range K).filter fun k => decide (0 < kC (key n m) (2 * n) (2 * k) ∧ 0 < kC (key n m) (2 * n) (2 * k + 1))).Nodup := List.Pairwise.filter _ List.nodup_range
theorem thL_mem {n : Nat} {m : List Nat} {k : Nat} : k ∈ ((List.range (mx m (2 * n))).filter fun k => decide (0 < kC (key n m) (2 * n) (2 * k) ∧ 0 < kC (key n m) (2 * n) (2 * k + 1))) ↔ Th n m k := by
  rw [List.mem_filter, List.mem_range, decide_eq_true_eq, th_iff]
  constructor
  · exact fun h => h.2
  · intro h
    obtain ⟨⟨t, ht, rfl⟩, _⟩ := id h
    exact ⟨mx_gt (by omega), h⟩
theorem thN_n {n : Nat} {m : List Nat} : thN n m ≤ n := by
  unfold thN
  rw [tN_fil]
  have := le_of_rel (S := List.range n) (R := fun k t => m.getD t 0 = k) (thL_nodup (n := n) (m := m)) (fun x hx => by
    obtain ⟨⟨t, ht, e⟩, _⟩ := thL_mem.1 hx
    exact ⟨t, List.mem_range.2 ht, e⟩) (fun x x' y h h' => by rw [← h, ← h'])
  rwa [List.length_range] at this
theorem thN_le {n : Nat} {m m' : List Nat} (h1 : ∀ k', Th n m' k' → ∃ t, t < n ∧ m'.getD t 0 = k' ∧ Th n m (m.getD t 0)) (h2 : ∀ t u, t < n → u < n → m.getD t 0 = m.getD u 0 → m'.getD t 0 = m'.getD u 0) : thN n m' ≤ thN n m := by
  unfold thN
  rw [tN_fil, tN_fil]
  refine le_of_rel (R := fun k' k => ∃ t, t < n ∧ m'.getD t 0 = k' ∧ m.getD t 0 = k) thL_nodup (fun x hx => ?_) (fun x x' y h h' => ?_)
  · obtain ⟨t, ht, e, hT⟩ := h1 x (thL_mem.1 hx)
    exact ⟨_, thL_mem.2 hT, t, ht, e, rfl⟩
  · obtain ⟨t, ht, e1, e2⟩ := h
    obtain ⟨u, hu, e3, e4⟩ := h'
    rw [← e1, ← e3]
    exact h2 t u ht hu (by rw [e2, e4])
theorem gM_up {a b : Nat → Nat} {n x : Nat} (h : x < n) : gM a b n x = ((ldI a b n n (a x) : Nat) : Int) := by unfold gM sL; rw [if_pos h]
theorem gM_lo {a b : Nat → Nat} {n x : Nat} (h : ¬ x < n) : gM a b n x = ((ldI a b n n (8 + b x) : Nat) : Int) := by unfold gM sL; rw [if_neg h]
/-- A product's through parts are no more than those of its first factor. -/
theorem thN_mul {n : Nat} {ma : List Nat} {b : Nat → Nat} (hn : n ≤ 4) (ha : ∀ j, ma.getD j 0 < 8) : thN n (nm (gM (gd ma) b n) n) ≤ thN n ma := by
  have hgd : ∀ j, gd ma j = ma.getD j 0 := fun _ => rfl
  refine thN_le (fun k' hT => ?_) (fun t u ht hu e => ?_)
  · obtain ⟨⟨t, ht, e1⟩, u, hu, hu2, e2⟩ := hT
    have hk : gM (gd ma) b n t = gM (gd ma) b n u := (nm_ker hn (by omega) hu2).1 (by rw [e1, e2])
    rw [gM_up ht, gM_lo (by omega)] at hk
    have hk' : ldI (gd ma) b n n (gd ma t) = ldI (gd ma) b n n (8 + b u) := by omega
    refine Classical.byContradiction fun hno => ?_
    have hno2 : ∀ t1, t1 < n → ldI (gd ma) b n n (gd ma t1) = ldI (gd ma) b n n (gd ma t) → ∀ i, i < n → gd ma (n + i) ≠ gd ma t1 := by
      intro t1 ht1 he i hi e
      refine hno ⟨t1, ht1, ?_, ⟨t1, ht1, rfl⟩, n + i, by omega, by omega, e⟩
      rw [← e1]
      refine (nm_ker hn (by omega) (by omega)).2 ?_
      rw [gM_up ht1, gM_up ht, he]
    have hps : ∃ ψ : Nat → Nat, ∀ l, ψ l = 1 ↔ ∃ t1, t1 < n ∧ l = gd ma t1 ∧ ldI (gd ma) b n n l = ldI (gd ma) b n n (gd ma t) := by
      refine ⟨fun l => @ite Nat (∃ t1, t1 < n ∧ l = gd ma t1 ∧ ldI (gd ma) b n n l = ldI (gd ma) b n n (gd ma t)) (Classical.propDecidable _) 1 0, fun l => ?_⟩
      by_cases h : ∃ t1, t1 < n ∧ l = gd ma t1 ∧ ldI (gd ma) b n n l = ldI (gd ma) b n n (gd ma t)
      · simp only [if_pos h]; exact ⟨fun _ => h, fun _ => trivial⟩
      · simp only [if_neg h]; exact ⟨fun h0 => absurd h0 (by omega), fun h0 => absurd h0 h⟩
    obtain ⟨ψ0, hψ⟩ := hps
    obtain ⟨ψ, hψ2⟩ : ∃ ψ : Nat → Nat, ∀ l, ψ l = if ψ0 l = 1 then 1 else 0 := ⟨_, fun _ => rfl⟩
    have z1 : ∀ i, ψ (8 + b i) = 0 := by
      intro i
      rw [hψ2, if_neg]
      intro h
      obtain ⟨t1, _, e, _⟩ := (hψ _).1 h
      have := ha t1
      rw [hgd] at e; omega
    have z2 : ∀ i, i < n → ψ (gd ma (n + i)) = 0 := by
      intro i hi
      rw [hψ2, if_neg]
      intro h
      obtain ⟨t1, ht1, e, he⟩ := (hψ _).1 h
      rw [e] at he
      exact hno2 t1 ht1 he i hi e
    have hall := ldI_psi (ψ := ψ) (a := gd ma) (b := b) (n := n) n (fun i hi => by rw [z1, z2 i hi])
    have p1 := hall (gd ma t)
    have p2 := hall (8 + b u)
    rw [hk', p2, z1, hψ2, if_pos ((hψ _).2 ⟨t, ht, rfl, rfl⟩)] at p1
    omega
  · refine (nm_ker hn (by omega) (by omega)).2 ?_
    rw [gM_up ht, gM_up hu, hgd, hgd, e]
theorem thN_pw {n : Nat} {m : List Nat} (hn : n ≤ 4) (hl : ∀ j, m.getD j 0 < 8) (k : Nat) : thN n (pw n m (k + 1)) ≤ thN n (pw n m k) :=
  thN_mul hn (pw_lt hl hn k)
end Go.Proofs.Ytpangmameocfmaa.VE.P
namespace Go.Proofs.Ytpangmameocfmaa.VE.P
open Go
set_option maxHeartbeats 1600000
set_option maxRecDepth 100000

/-! the unit -/
def gOne (n : Nat) (i : Nat) : Int := ((i % n : Nat) : Int)
theorem s_one1 (n : Nat) (i : Nat) (hn1 : 1 ≤ n) (hn : n ≤ 4) (hi : i < 2 * n) :
    Spec Try.prog n_i_UnitPartition_1 [vi i, .ptr 0 0] [.pc [.int .i64 n] T_int64] (vi (gOne n i)) [.pc [.int .i64 n] T_int64] := by
  have e1 : Int.tmod (i : Int) (n : Int) = ((i % n : Nat) : Int) := tmN i n
  have h0 : (n : Int) ≠ 0 := by omega
  have hlt : i % n < n := Nat.mod_lt _ (by omega)
  refine SpecW.of_EV hf_i_UnitPartition_1 hc_i_UnitPartition_1 rfl rfl rfl fun w0 B ρ0 _ => ?_
  (repeat' (first | refine And.intro h0 ?_ | refine Exists.intro _ (And.intro e1 ?_) | refine And.intro (neI rfl) ?_ | refine And.intro ⟨rfl, leR rfl, onesR rfl⟩ ?_ | refine And.intro ⟨rfl, leR rfl⟩ ?_ | refine draw_rule2 hfol (fun KK hKK => ?_) | refine hKK _ _ _ (by kernel_rfl) ?_ | refine region_rule (fun KK hKK => ?_) | refine hKK _ _ ?_ | refine And.intro (Eq.refl true) ?_ | refine Exists.intro _ (And.intro (wI (by omega)) ?_) | refine Exists.intro _ (And.intro (wU (by omega)) ?_) | refine Exists.intro _ (And.intro ⟨rfl, by omega⟩ ?_) | refine Exists.intro _ (And.intro rfl ?_) | refine And.intro rfl ?_ | refine And.intro ⟨rfl, rfl⟩ ?_ | ((refine And.intro (fun _ => ?_) (fun _ => ?_)) <;> try (exfalso; omega))))
  exact Exists.intro [0] (And.intro (rfl) (And.intro ⟨rfl, trivial⟩ rfl))
theorem s_named_one (n : Nat) (hn1 : 1 ≤ n) (hn : n ≤ 4) :
    Spec Try.prog n_i_named [vi n, .fn (.func n_i_UnitPartition_1) [] [.ptr 0 0]] [.pc [.int .i64 n] T_int64] (pv n (nm (gOne n) n)) [.pc [.int .i64 n] T_int64] := by
  refine SpecW.of_EV hf_i_named hc_i_named rfl rfl rfl fun w0 B ρ0 _ => ?_
  (repeat' (first | refine makeMap_i rfl ?_ | refine Exists.intro (pcl n (List.replicate 8 0)) (And.intro ⟨leR rfl, rfl⟩ ?_) | refine And.intro (neI rfl) ?_ | refine And.intro ⟨rfl, leR rfl, onesR rfl⟩ ?_ | refine And.intro ⟨rfl, leR rfl⟩ ?_ | refine draw_rule2 hfol (fun KK hKK => ?_) | refine hKK _ _ _ (by kernel_rfl) ?_ | refine region_rule (fun KK hKK => ?_) | refine hKK _ _ ?_ | refine And.intro (Eq.refl true) ?_ | refine Exists.intro _ (And.intro (wI (by omega)) ?_) | refine Exists.intro _ (And.intro (wU (by omega)) ?_) | refine Exists.intro _ (And.intro ⟨rfl, by omega⟩ ?_) | refine Exists.intro _ (And.intro rfl ?_) | refine And.intro rfl ?_ | refine And.intro ⟨rfl, rfl⟩ ?_ | ((refine And.intro (fun _ => ?_) (fun _ => ?_)) <;> try (exfalso; omega))))
  refine loop_rule (α := Nat × List Int × List Nat) (fun (i, ks, out) => i ≤ 2 * n ∧ out.length = 8 ∧ ks.length ≤ i ∧ nmL (gOne n) (2 * n - i) i ks out = nm (gOne n) n)
      (fun (i, ks, out) => [(1, .fn (.func n_i_UnitPartition_1) [] [.ptr 0 0]), (4, .ptr 1 0), (5, .ptr 3 0), (6, .mp 2), (14, vi (2 * n)), (15, vi i)])
      (fun (i, ks, out) => [.pc [.int .i64 n] T_int64, .pc (pcl 0 (List.replicate 8 0)) T_i_Partition, .mo (entL 0 ks), .pc (pcl n out) T_i_Partition]) (fun (i, _, _) => 2 * n - i) (0, [], List.replicate 8 0) [0, 1, 2, 3]
      ⟨by omega, by simp, by simp, rfl⟩ ⟨⟨rfl, rfl, rfl, rfl, rfl, rfl, trivial⟩, ⟨rfl, rfl, rfl, rfl, trivial⟩, goodB_via (by simp [idsO, O.ids, entL_ids]; rfl) rfl⟩ ?_
  rintro ⟨i, ks, out⟩ g ⟨hi, hout, hks, hR⟩
  by_cases h8 : i = 2 * n
  · subst h8
    rw [Nat.sub_self] at hR
    replace hR : out = nm (gOne n) n := hR
    (repeat' (first | refine Exists.intro (pcl n out) (And.intro ⟨pcl_len hout, pcl_all hout⟩ ?_) | refine And.intro ⟨pcl_len hout, leR rfl, pcl_ones⟩ ?_ | refine Exists.intro (pcl n out) (And.intro ⟨leR rfl, spl0 (leR rfl)⟩ ?_) | refine And.intro (neI rfl) ?_ | refine And.intro ⟨rfl, leR rfl, onesR rfl⟩ ?_ | refine And.intro ⟨rfl, leR rfl⟩ ?_ | refine draw_rule2 hfol (fun KK hKK => ?_) | refine hKK _ _ _ (by kernel_rfl) ?_ | refine region_rule (fun KK hKK => ?_) | refine hKK _ _ ?_ | refine And.intro (Eq.refl true) ?_ | refine Exists.intro _ (And.intro (wI (by omega)) ?_) | refine Exists.intro _ (And.intro (wU (by omega)) ?_) | refine Exists.intro _ (And.intro ⟨rfl, by omega⟩ ?_) | refine Exists.intro _ (And.intro rfl ?_) | refine And.intro rfl ?_ | refine And.intro ⟨rfl, rfl⟩ ?_ | ((refine And.intro (fun _ => ?_) (fun _ => ?_)) <;> try (exfalso; omega))))
    exact Exists.intro [0] (And.intro (by rw [← hR]; rfl) (And.intro ⟨rfl, trivial⟩ rfl))
  obtain ⟨d, hd⟩ : ∃ d, 2 * n - i = d + 1 := ⟨2 * n - i - 1, by omega⟩
  have hd' : 2 * n - (i + 1) = d := by omega
  have hil : i < 2 * n := by omega
  have hcall := s_one1 n i hn1 hn hil
  rw [hd] at hR
  unfold nmL at hR
  try simp only [] at hR
  cases hf : nmF ((gOne n) i) ks 0 with
  | some j =>
    have hj := nmF_lt hf
    simp only [hf] at hR
    have hfi : findI ((gOne n) i) (entL 0 ks) = some (some (vu j)) := by rw [entL_find, hf]; rfl
    (repeat' (first | refine hcall.read [0] rfl ⟨rfl, trivial⟩ ?_ | refine look_i rfl rfl rfl rfl rfl rfl rfl rfl hfi ?_ | refine Exists.intro (pcl n (out.set i j)) (And.intro ⟨by rw [pcl_len hout]; omega, pcl_set⟩ ?_) | refine And.intro (neI rfl) ?_ | refine And.intro ⟨rfl, leR rfl, onesR rfl⟩ ?_ | refine And.intro ⟨rfl, leR rfl⟩ ?_ | refine draw_rule2 hfol (fun KK hKK => ?_) | refine hKK _ _ _ (by kernel_rfl) ?_ | refine region_rule (fun KK hKK => ?_) | refine hKK _ _ ?_ | refine And.intro (Eq.refl true) ?_ | refine Exists.intro _ (And.intro (wI (by omega)) ?_) | refine Exists.intro _ (And.intro (wU (by omega)) ?_) | refine Exists.intro _ (And.intro ⟨rfl, by omega⟩ ?_) | refine Exists.intro _ (And.intro rfl ?_) | refine And.intro rfl ?_ | refine And.intro ⟨rfl, rfl⟩ ?_ | ((refine And.intro (fun _ => ?_) (fun _ => ?_)) <;> try (exfalso; omega))))
    refine Exists.intro (i + 1, ks, out.set i j) (Exists.intro [0, 1, 2, 3] (And.intro ⟨⟨by omega, by simpa using hout, by omega, by rw [hd', hR]⟩, (by show 2 * n - (i + 1) < 2 * n - i; omega)⟩ ⟨⟨rfl, rfl, rfl, rfl, rfl, rfl, trivial⟩, ⟨rfl, rfl, congrArg some entL_mo, rfl, trivial⟩, goodB_via (by simp [idsO, O.ids, entL_ids]; rfl) rfl⟩))
  | none =>
    simp only [hf] at hR
    have hfi : findI ((gOne n) i) (entL 0 ks) = some none := by rw [entL_find, hf]; rfl
    have hset : setI ((gOne n) i) (vu (ks.length : Nat)) (entL 0 ks) = entL 0 (ks ++ [(gOne n) i]) := by have := entL_set (j := 0) hf; rwa [Nat.zero_add] at this
    (repeat' (first | refine hcall.read [0] rfl ⟨rfl, trivial⟩ ?_ | refine look_i rfl rfl rfl rfl rfl rfl rfl rfl hfi ?_ | refine upd_to rfl rfl rfl rfl rfl rfl rfl rfl hfi hset ?_ | refine Exists.intro (ks.length : Int) (And.intro (by rw [entL_len]; exact wU (by omega)) ?_) | refine Exists.intro (pcl n (out.set i ks.length)) (And.intro ⟨by rw [pcl_len hout]; omega, pcl_set⟩ ?_) | refine And.intro (neI rfl) ?_ | refine And.intro ⟨rfl, leR rfl, onesR rfl⟩ ?_ | refine And.intro ⟨rfl, leR rfl⟩ ?_ | refine draw_rule2 hfol (fun KK hKK => ?_) | refine hKK _ _ _ (by kernel_rfl) ?_ | refine region_rule (fun KK hKK => ?_) | refine hKK _ _ ?_ | refine And.intro (Eq.refl true) ?_ | refine Exists.intro _ (And.intro (wI (by omega)) ?_) | refine Exists.intro _ (And.intro (wU (by omega)) ?_) | refine Exists.intro _ (And.intro ⟨rfl, by omega⟩ ?_) | refine Exists.intro _ (And.intro rfl ?_) | refine And.intro rfl ?_ | refine And.intro ⟨rfl, rfl⟩ ?_ | ((refine And.intro (fun _ => ?_) (fun _ => ?_)) <;> try (exfalso; omega))))
    refine Exists.intro (i + 1, ks ++ [(gOne n) i], out.set i ks.length) (Exists.intro [0, 1, 2, 3] (And.intro ⟨⟨by omega, by simpa using hout, by simp; omega, by rw [hd', hR]⟩, (by show 2 * n - (i + 1) < 2 * n - i; omega)⟩ ⟨⟨rfl, rfl, rfl, rfl, rfl, rfl, trivial⟩, ⟨rfl, rfl, congrArg some entL_mo, rfl, trivial⟩, goodB_via (by simp [idsO, O.ids, entL_ids]; rfl) rfl⟩))

def unR (n : Int) : Int × List Nat × Int := if 1 ≤ n ∧ n ≤ 4 then (n, nm (gOne n.toNat) n.toNat, 0) else (0, List.replicate 8 0, 2)
theorem unR_len (n : Int) : (unR n).2.1.length = 8 := by
  unfold unR; split
  · exact nm_len
  · simp
theorem s_lone (n : Nat) (hn1 : 1 ≤ n) (hn : n ≤ 4) : Spec Try.prog n_s_l07One [vi n] [] (pv n (nm (gOne n) n)) [] := by
  have h0 : (n : Int) ≠ 0 := by omega
  refine SpecW.of_EV hf_s_l07One hc_s_l07One rfl rfl rfl fun w0 B ρ0 _ => ?_
  (repeat' (first | refine And.intro (neI rfl) ?_ | refine And.intro ⟨rfl, leR rfl, onesR rfl⟩ ?_ | refine And.intro ⟨rfl, leR rfl⟩ ?_ | refine draw_rule2 hfol (fun KK hKK => ?_) | refine hKK _ _ _ (by kernel_rfl) ?_ | refine region_rule (fun KK hKK => ?_) | refine hKK _ _ ?_ | refine And.intro (Eq.refl true) ?_ | refine Exists.intro _ (And.intro (wI (by omega)) ?_) | refine Exists.intro _ (And.intro (wU (by omega)) ?_) | refine Exists.intro _ (And.intro ⟨rfl, by omega⟩ ?_) | refine Exists.intro _ (And.intro rfl ?_) | refine And.intro rfl ?_ | refine And.intro ⟨rfl, rfl⟩ ?_ | ((refine And.intro (fun _ => ?_) (fun _ => ?_)) <;> try (exfalso; omega))))
  refine loop_rule (α := Nat) (fun i => i ≤ 2 * n)
    (fun i => [(0, vi n), (2, .ptr 0 0), (3, .sl 1), (4, vi i)]) (fun i => [.pc (pcl 0 (List.replicate 8 0)) T_i_Partition, .pr T_int64 1 i (il (gOne n) i)]) (fun i => 2 * n - i) 0 [0, 1]
    (by omega) ⟨⟨rfl, rfl, rfl, rfl, trivial⟩, ⟨rfl, rfl, trivial⟩, rfl⟩ ?_
  rintro i g hi
  by_cases h8 : i = 2 * n
  · subst h8
    have ht := s_told (gOne n) n hn
    (repeat' (first | refine (ht).read [1] rfl ⟨rfl, trivial⟩ ?_ | refine Exists.intro (pcl (n : Int) (nm (gOne n) n)) (And.intro ⟨pcl_len nm_len, pcl_all nm_len⟩ ?_) | refine And.intro ⟨pcl_len nm_len, leR rfl, pcl_ones⟩ ?_ | refine Exists.intro (pcl (n : Int) (nm (gOne n) n)) (And.intro ⟨leR rfl, spl0 (leR rfl)⟩ ?_) | refine And.intro (neI rfl) ?_ | refine And.intro ⟨rfl, leR rfl, onesR rfl⟩ ?_ | refine And.intro ⟨rfl, leR rfl⟩ ?_ | refine draw_rule2 hfol (fun KK hKK => ?_) | refine hKK _ _ _ (by kernel_rfl) ?_ | refine region_rule (fun KK hKK => ?_) | refine hKK _ _ ?_ | refine And.intro (Eq.refl true) ?_ | refine Exists.intro _ (And.intro (wI (by omega)) ?_) | refine Exists.intro _ (And.intro (wU (by omega)) ?_) | refine Exists.intro _ (And.intro ⟨rfl, by omega⟩ ?_) | refine Exists.intro _ (And.intro rfl ?_) | refine And.intro rfl ?_ | refine And.intro ⟨rfl, rfl⟩ ?_ | ((refine And.intro (fun _ => ?_) (fun _ => ?_)) <;> try (exfalso; omega))))
    exact Exists.intro [] (And.intro (rfl) (And.intro trivial rfl))
  have e1 : Int.tmod (i : Int) (n : Int) = gOne n i := tmN i n
  (repeat' (first | refine And.intro h0 ?_ | refine Exists.intro _ (And.intro e1 ?_) | refine And.intro ⟨rfl, mkL rfl⟩ ?_ | refine Exists.intro [Value.int .i64 (gOne n i)] (And.intro (row1s (mkL' rfl)) ?_) | refine Exists.intro (il (gOne n) (i + 1)) (And.intro ⟨rfl, onesR rfl, by omega, by omega, il_succ⟩ ?_) | refine And.intro (neI rfl) ?_ | refine And.intro ⟨rfl, leR rfl, onesR rfl⟩ ?_ | refine And.intro ⟨rfl, leR rfl⟩ ?_ | refine draw_rule2 hfol (fun KK hKK => ?_) | refine hKK _ _ _ (by kernel_rfl) ?_ | refine region_rule (fun KK hKK => ?_) | refine hKK _ _ ?_ | refine And.intro (Eq.refl true) ?_ | refine Exists.intro _ (And.intro (wI (by omega)) ?_) | refine Exists.intro _ (And.intro (wU (by omega)) ?_) | refine Exists.intro _ (And.intro ⟨rfl, by omega⟩ ?_) | refine Exists.intro _ (And.intro rfl ?_) | refine And.intro rfl ?_ | refine And.intro ⟨rfl, rfl⟩ ?_ | ((refine And.intro (fun _ => ?_) (fun _ => ?_)) <;> try (exfalso; omega))))
  exact Exists.intro (i + 1) (Exists.intro [0, 3] (And.intro ⟨by omega, (by show 2 * n - (i + 1) < 2 * n - i; omega)⟩ ⟨⟨rfl, rfl, rfl, rfl, trivial⟩, ⟨rfl, rfl, trivial⟩, rfl⟩))
theorem s_sUnit (n : Int) : Spec Try.prog n_s_UnitPartition [vi n] [] (prV (unR n)) [] := by
  have hi := s_in n 1 4
  unfold unR
  by_cases h : 1 ≤ n ∧ n ≤ 4
  · rw [decide_eq_true h] at hi
    rw [if_pos h]
    obtain ⟨k, rfl⟩ : ∃ k : Nat, n = k := ⟨n.toNat, by omega⟩
    have hu := s_lone k (by omega) (by omega)
    rw [Int.toNat_natCast]
    refine SpecW.of_EV hf_s_UnitPartition hc_s_UnitPartition rfl rfl rfl fun w0 B ρ0 _ => ?_
    (repeat' (first | refine (hi).pure rfl ?_ | refine (hu).pure rfl ?_ | refine Exists.intro (pcl (k : Int) (nm (gOne k) k)) (And.intro ⟨pcl_len nm_len, pcl_all nm_len⟩ ?_) | refine And.intro ⟨pcl_len nm_len, leR rfl, pcl_ones⟩ ?_ | refine Exists.intro (pcl (k : Int) (nm (gOne k) k)) (And.intro ⟨leR rfl, spl0 (leR rfl)⟩ ?_) | refine And.intro (neI rfl) ?_ | refine And.intro ⟨rfl, leR rfl, onesR rfl⟩ ?_ | refine And.intro ⟨rfl, leR rfl⟩ ?_ | refine draw_rule2 hfol (fun KK hKK => ?_) | refine hKK _ _ _ (by kernel_rfl) ?_ | refine region_rule (fun KK hKK => ?_) | refine hKK _ _ ?_ | refine And.intro (Eq.refl true) ?_ | refine Exists.intro _ (And.intro (wI (by omega)) ?_) | refine Exists.intro _ (And.intro (wU (by omega)) ?_) | refine Exists.intro _ (And.intro ⟨rfl, by omega⟩ ?_) | refine Exists.intro _ (And.intro rfl ?_) | refine And.intro rfl ?_ | refine And.intro ⟨rfl, rfl⟩ ?_ | ((refine And.intro (fun _ => ?_) (fun _ => ?_)) <;> try (exfalso; omega))))
    exact Exists.intro [] (And.intro (rfl) (And.intro trivial rfl))
  · rw [decide_eq_false h] at hi
    rw [if_neg h]
    refine SpecW.of_EV hf_s_UnitPartition hc_s_UnitPartition rfl rfl rfl fun w0 B ρ0 _ => ?_
    (repeat' (first | refine (hi).pure rfl ?_ | refine Exists.intro (pcl 0 (List.replicate 8 0)) (And.intro ⟨leR rfl, rfl⟩ ?_) | refine Exists.intro (pcl 0 (List.replicate 8 0)) (And.intro ⟨rfl, rfl⟩ ?_) | refine And.intro (neI rfl) ?_ | refine And.intro ⟨rfl, leR rfl, onesR rfl⟩ ?_ | refine And.intro ⟨rfl, leR rfl⟩ ?_ | refine draw_rule2 hfol (fun KK hKK => ?_) | refine hKK _ _ _ (by kernel_rfl) ?_ | refine region_rule (fun KK hKK => ?_) | refine hKK _ _ ?_ | refine And.intro (Eq.refl true) ?_ | refine Exists.intro _ (And.intro (wI (by omega)) ?_) | refine Exists.intro _ (And.intro (wU (by omega)) ?_) | refine Exists.intro _ (And.intro ⟨rfl, by omega⟩ ?_) | refine Exists.intro _ (And.intro rfl ?_) | refine And.intro rfl ?_ | refine And.intro ⟨rfl, rfl⟩ ?_ | ((refine And.intro (fun _ => ?_) (fun _ => ?_)) <;> try (exfalso; omega))))
    exact Exists.intro [] (And.intro (rfl) (And.intro trivial rfl))
theorem s_iUnit (n : Int) : Spec Try.prog n_i_UnitPartition [vi n] [] (prV (unR n)) [] := by
  have hi := s_iin n 1 4
  unfold unR
  by_cases h : 1 ≤ n ∧ n ≤ 4
  · rw [decide_eq_true h] at hi
    rw [if_pos h]
    obtain ⟨k, rfl⟩ : ∃ k : Nat, n = k := ⟨n.toNat, by omega⟩
    have hu := s_named_one k (by omega) (by omega)
    rw [Int.toNat_natCast]
    refine SpecW.of_EV hf_i_UnitPartition hc_i_UnitPartition rfl rfl rfl fun w0 B ρ0 _ => ?_
    (repeat' (first | refine (hi).pure rfl ?_ | refine (hu).read [0] rfl ⟨rfl, trivial⟩ ?_ | refine Exists.intro [Value.int .i64 (k : Int)] (And.intro ⟨leR rfl, rfl⟩ ?_) | refine Exists.intro (pcl (k : Int) (nm (gOne k) k)) (And.intro ⟨pcl_len nm_len, pcl_all nm_len⟩ ?_) | refine And.intro ⟨pcl_len nm_len, leR rfl, pcl_ones⟩ ?_ | refine Exists.intro (pcl (k : Int) (nm (gOne k) k)) (And.intro ⟨leR rfl, spl0 (leR rfl)⟩ ?_) | refine And.intro (neI rfl) ?_ | refine And.intro ⟨rfl, leR rfl, onesR rfl⟩ ?_ | refine And.intro ⟨rfl, leR rfl⟩ ?_ | refine draw_rule2 hfol (fun KK hKK => ?_) | refine hKK _ _ _ (by kernel_rfl) ?_ | refine region_rule (fun KK hKK => ?_) | refine hKK _ _ ?_ | refine And.intro (Eq.refl true) ?_ | refine Exists.intro _ (And.intro (wI (by omega)) ?_) | refine Exists.intro _ (And.intro (wU (by omega)) ?_) | refine Exists.intro _ (And.intro ⟨rfl, by omega⟩ ?_) | refine Exists.intro _ (And.intro rfl ?_) | refine And.intro rfl ?_ | refine And.intro ⟨rfl, rfl⟩ ?_ | ((refine And.intro (fun _ => ?_) (fun _ => ?_)) <;> try (exfalso; omega))))
    exact Exists.intro [] (And.intro (rfl) (And.intro trivial rfl))
  · rw [decide_eq_false h] at hi
    rw [if_neg h]
    refine SpecW.of_EV hf_i_UnitPartition hc_i_UnitPartition rfl rfl rfl fun w0 B ρ0 _ => ?_
    (repeat' (first | refine (hi).pure rfl ?_ | refine Exists.intro [Value.int .i64 n] (And.intro ⟨leR rfl, rfl⟩ ?_) | refine Exists.intro (pcl 0 (List.replicate 8 0)) (And.intro ⟨leR rfl, rfl⟩ ?_) | refine Exists.intro (pcl 0 (List.replicate 8 0)) (And.intro ⟨rfl, rfl⟩ ?_) | refine And.intro (neI rfl) ?_ | refine And.intro ⟨rfl, leR rfl, onesR rfl⟩ ?_ | refine And.intro ⟨rfl, leR rfl⟩ ?_ | refine draw_rule2 hfol (fun KK hKK => ?_) | refine hKK _ _ _ (by kernel_rfl) ?_ | refine region_rule (fun KK hKK => ?_) | refine hKK _ _ ?_ | refine And.intro (Eq.refl true) ?_ | refine Exists.intro _ (And.intro (wI (by omega)) ?_) | refine Exists.intro _ (And.intro (wU (by omega)) ?_) | refine Exists.intro _ (And.intro ⟨rfl, by omega⟩ ?_) | refine Exists.intro _ (And.intro rfl ?_) | refine And.intro rfl ?_ | refine And.intro ⟨rfl, rfl⟩ ?_ | ((refine And.intro (fun _ => ?_) (fun _ => ?_)) <;> try (exfalso; omega))))
    exact Exists.intro [] (And.intro (rfl) (And.intro trivial rfl))
end Go.Proofs.Ytpangmameocfmaa.VE.P
namespace Go.Proofs.Ytpangmameocfmaa.VE.P
open Go
set_option maxHeartbeats 800000
set_option maxRecDepth 100000

/-! plain: a partition's text is read back -/
theorem nmL_hi {g : Nat → Int} {j : Nat} : ∀ (d i : Nat) (ks : List Int) (out : List Nat), i + d ≤ j → (nmL g d i ks out).getD j 0 = out.getD j 0
  | 0, _, _, _, _ => rfl
  | d + 1, i, ks, out, h => by
    simp only [nmL]
    split
    · rw [nmL_hi d (i + 1) _ _ (by omega), List.getD_eq_getElem?_getD, List.getElem?_set_ne (by omega), List.getD_eq_getElem?_getD]
    · rw [nmL_hi d (i + 1) _ _ (by omega), List.getD_eq_getElem?_getD, List.getElem?_set_ne (by omega), List.getD_eq_getElem?_getD]
theorem isPi_hi {n : Nat} {m : List Nat} (h : isPi n m = true) {j : Nat} (hj : 2 * n ≤ j) : m.getD j 0 = 0 := by
  unfold isPi at h
  simp only [Bool.and_eq_true, decide_eq_true_eq, Int.toNat_natCast] at h
  rw [h.2]
  unfold nm
  rw [nmL_hi _ _ _ _ (by omega), List.getD_eq_getElem?_getD, List.getElem?_replicate]
  split <;> rfl
theorem dgB_size {m : List Nat} {i : Nat} : (dgB m i).size = i := by simp [dgB, dg, ByteArray.size]
theorem tb_dgB {m : List Nat} {i j : Nat} (hj : j < i) (hm : m.getD j 0 < 8) : tb (dgB m i) j = 48 + m.getD j 0 := by
  have hs : j < (dgB m i).size := by rw [dgB_size]; exact hj
  rw [tb_at hs]
  have e : (dgB m i)[j] = (dg m i)[j]'(by simp [dg]; exact hj) := by
    show (dgB m i).data[j] = _
    simp [dgB]
  rw [e]
  simp only [dg, List.getElem_map, List.getElem_range]
  exact u8_nat (by omega)
theorem parse_back {n : Nat} {m : List Nat} (hm : m.length = 8) (h : isPi n m = true) : parseG isPi (dgB m (2 * n)) = ((n : Int), m, 0) := by
  have hl := isPi_lt h
  obtain ⟨n', e, hn1, hn⟩ := isPi_size h
  obtain rfl : n = n' := by omega
  have hp : pa (dgB m (2 * n)) (2 * n) = m := by
    refine eq_of_getD pa_len hm fun j hj => ?_
    rw [List.getD_eq_getElem?_getD]
    simp only [pa, List.getElem?_map, List.getElem?_range hj, Option.map_some, Option.getD_some]
    by_cases hj2 : j < 2 * n
    · rw [if_pos hj2, tb_dgB hj2 (hl j)]
      have := hl j
      omega
    · rw [if_neg hj2, isPi_hi h (by omega)]
  unfold parseG
  rw [dgB_size, if_pos ⟨by omega, by omega⟩, show 2 * n / 2 = n by omega, hp, if_pos h]
theorem text_is {n : Nat} {m : List Nat} (h : isPi n m = true) : textR n m = (dgB m (2 * n), 0) := by
  unfold textR; rw [if_pos h, Int.toNat_natCast]
theorem thr_is {n : Nat} {m : List Nat} (h : isPi n m = true) : thrR n m = (((thN n m : Nat) : Int), 0) := by
  unfold thrR; rw [if_pos h, Int.toNat_natCast]; rfl
end Go.Proofs.Ytpangmameocfmaa.VE.P
