/- Contracts of functions of the given program, for all arguments that the contract names; see each theorem. -/
import Derived.Test.YtgpgcdofhkpeaaaU7
set_option linter.all false
namespace Go.Proofs.Ytgpgcdofhkpeaaa.VE
open Go
set_option maxHeartbeats 800000
set_option maxRecDepth 100000

/-- Points that are joined in pairs. -/
structure IsV (n : Nat) (m : List Nat) : Prop where
  n1 : 1 ≤ n
  n8 : n ≤ 8
  len : m.length = 16
  lt : ∀ j, j < 2 * n → m.getD j 0 < 2 * n
  ne : ∀ j, j < 2 * n → m.getD j 0 ≠ j
  inv : ∀ j, j < 2 * n → m.getD (m.getD j 0) 0 = j
  zero : ∀ j, 2 * n ≤ j → m.getD j 0 = 0
/-- What a diagram is. -/
structure IsD (n : Nat) (m : List Nat) : Prop extends IsV n m where
  pl : Planar (2 * n) (qq n m)
theorem isDi_elim {s : Int} {m : List Nat} (hm : m.length = 16) (h : isDi s m = true) : ∃ n : Nat, s = n ∧ IsD n m := by
  rw [← isD_eq s m hm] at h
  unfold isDs at h
  simp only [Bool.and_eq_true, decide_eq_true_eq] at h
  obtain ⟨⟨h1, h2⟩, h3, h4⟩ := h
  obtain ⟨n, rfl⟩ : ∃ n : Nat, s = n := ⟨s.toNat, by omega⟩
  rw [Int.toNat_natCast] at h3 h4
  have hcs := (ckS_true (n := n) (m := m) 16 0).1 h3
  have hb : ∀ j, j < 2 * n → m.getD j 0 < 2 * n := fun j hj => ((hcs j (by omega) (by omega)).2 hj).1
  refine ⟨n, rfl, ⟨by omega, by omega, hm, hb, fun j hj => ((hcs j (by omega) (by omega)).2 hj).2.1, fun j hj => ((hcs j (by omega) (by omega)).2 hj).2.2, fun j hj => ?_⟩, ?_⟩
  · by_cases h16 : j < 16
    · exact (hcs j (by omega) (by omega)).1 hj
    · rw [List.getD_eq_getElem?_getD, List.getElem?_eq_none (by omega)]; rfl
  · exact (planar_iff hb).1 ⟨fun j hj => ((hcs j (by omega) (by omega)).2 hj).2, crOA_true.1 h4⟩

/-- A row of structs of a size and bytes. -/
def rowP : List (Int × List Nat) → List Value
  | [] => []
  | p :: r => pcl p.1 p.2 ++ rowP r
def okPs (l : List (Int × List Nat)) : Prop := ∀ p ∈ l, p.2.length = 16 ∧ ∀ x ∈ p.2, x < 256
theorem rowP_at {N : Nat} : ∀ {l : List (Int × List Nat)} {i : Nat} {p : Int × List Nat}, (∀ p ∈ l, p.2.length = N) → l[i]? = some p → ((rowP l).drop (i * (N + 1))).take (N + 1) = pcl p.1 p.2
  | [], _, _, _, h => by simp at h
  | q :: r, 0, p, hl, h => by
    simp at h
    subst h
    have := pcl_len (s := q.1) (hl q (by simp))
    rw [Nat.zero_mul, List.drop_zero, rowP, List.take_append_of_le_length (by omega), List.take_of_length_le (by omega)]
  | q :: r, i + 1, p, hl, h => by
    have := pcl_len (s := q.1) (hl q (by simp))
    rw [rowP, show (i + 1) * (N + 1) = (pcl q.1 q.2).length + i * (N + 1) from by rw [this, Nat.add_mul]; omega, ← List.drop_drop, List.drop_append_of_le_length (Nat.le_refl _), List.drop_of_length_le (Nat.le_refl _), List.nil_append]
    exact rowP_at (fun p hp => hl p (by simp [hp])) (by simpa using h)
theorem row1 {c : List Value} {p : Int × List Nat} {N : Nat} (h : c.length ≤ N) : c.take (0 * N) ++ pcl p.1 p.2 ++ c.drop (0 * N + N) = rowP [p] := by
  simp [rowP, List.drop_of_length_le h]
theorem fill_len {c A : List Value} {N L : Nat} (h : c.length = L) (hA : A.length = N) (hL : N ≤ L) : (c.take (0 * N) ++ A ++ c.drop (0 * N + N)).length = L := by
  simp; omega
theorem row2 {c : List Value} {p q : Int × List Nat} {N : Nat} (h : c.length = 2 * N) (hp : (pcl p.1 p.2).length = N) (hq : (pcl q.1 q.2).length = N) :
    (c.take (0 * N) ++ pcl p.1 p.2 ++ c.drop (0 * N + N)).take (1 * N) ++ pcl q.1 q.2 ++ (c.take (0 * N) ++ pcl p.1 p.2 ++ c.drop (0 * N + N)).drop (1 * N + N) = rowP [p, q] := by
  have e : c.take (0 * N) ++ pcl p.1 p.2 ++ c.drop (0 * N + N) = pcl p.1 p.2 ++ c.drop N := by simp
  rw [e, Nat.one_mul, List.take_append_of_le_length (by omega), List.take_of_length_le (by omega), List.drop_of_length_le (by rw [List.length_append, List.length_drop, hp, h]; omega)]
  simp [rowP]
theorem mk_len {z : Array Value} {n : Nat} : (madeCells z n).toList.length = n := by rw [Array.length_toList, size_madeCells]

theorem s_invalid1 (s : Int) (m : List Nat) (hm : m.length = 16) (hb : ∀ x ∈ m, x < 256) : Spec Try.prog n_i_invalid_1 [pv s m] [] (vb (!isDi s m)) [] := by
  refine SpecW.of_EV hf_i_invalid_1 hc_i_invalid_1 rfl rfl rfl fun w0 B ρ0 _ => ?_
  have hq := s_iIsD s m hm hb
  generalize isDi s m = q at hq ⊢
  cases q <;>
  · (repeat' (first | refine Exists.intro (pcl s m) (And.intro ⟨pcl_len hm, pcl_all hm⟩ ?_) | refine (hq).pure rfl ?_ | refine And.intro (neI rfl) ?_ | refine And.intro ⟨rfl, leR rfl, onesR rfl⟩ ?_ | refine And.intro ⟨rfl, leR rfl⟩ ?_ | refine draw_rule2 hfol (fun KK hKK => ?_) | refine hKK _ _ _ (by kernel_rfl) ?_ | refine region_rule (fun KK hKK => ?_) | refine hKK _ _ ?_ | refine And.intro (Eq.refl true) ?_ | refine Exists.intro _ (And.intro (wI (by omega)) ?_) | refine Exists.intro _ (And.intro (wU (by omega)) ?_) | refine Exists.intro _ (And.intro ⟨rfl, by omega⟩ ?_) | refine Exists.intro _ (And.intro rfl ?_) | refine And.intro rfl ?_ | refine And.intro ⟨rfl, rfl⟩ ?_ | ((refine And.intro (fun _ => ?_) (fun _ => ?_)) <;> try (exfalso; omega))))
    exact finP rfl

/-- The first that is bad. -/
def ixB : List (Int × List Nat) → Nat → Int
  | [], _ => -1
  | p :: r, i => if isDi p.1 p.2 then ixB r (i + 1) else i
theorem ixB_ge : ∀ {l : List (Int × List Nat)} {i : Nat}, decide (ixB l i ≥ 0) = l.any fun p => !isDi p.1 p.2
  | [], i => by simp [ixB]
  | p :: r, i => by
    simp only [ixB, List.any_cons]
    split
    · rename_i h; rw [ixB_ge]; simp [h]
    · rename_i h; simp [h]

theorem s_index (l : List (Int × List Nat)) (hl : okPs l) (hn : l.length ≤ 1000) : Spec Try.prog n_g_IndexFunc_Diagram [.sl 0, .fn (.func n_i_invalid_1) [] []] [.pr T_i_Diagram 17 l.length (rowP l)] (vi (ixB l 0)) [.pr T_i_Diagram 17 l.length (rowP l)] := by
  refine SpecW.of_EV hf_g_IndexFunc_Diagram hc_g_IndexFunc_Diagram rfl rfl rfl fun w0 B ρ0 _ => ?_
  (repeat' (first | refine And.intro (neI rfl) ?_ | refine And.intro ⟨rfl, leR rfl, onesR rfl⟩ ?_ | refine And.intro ⟨rfl, leR rfl⟩ ?_ | refine draw_rule2 hfol (fun KK hKK => ?_) | refine hKK _ _ _ (by kernel_rfl) ?_ | refine region_rule (fun KK hKK => ?_) | refine hKK _ _ ?_ | refine And.intro (Eq.refl true) ?_ | refine Exists.intro _ (And.intro (wI (by omega)) ?_) | refine Exists.intro _ (And.intro (wU (by omega)) ?_) | refine Exists.intro _ (And.intro ⟨rfl, by omega⟩ ?_) | refine Exists.intro _ (And.intro rfl ?_) | refine And.intro rfl ?_ | refine And.intro ⟨rfl, rfl⟩ ?_ | ((refine And.intro (fun _ => ?_) (fun _ => ?_)) <;> try (exfalso; omega))))
  refine loop_rule (α := Nat) (fun i => i ≤ l.length ∧ ixB (l.drop i) i = ixB l 0)
      (fun i => [(0, .sl 0), (1, .fn (.func n_i_invalid_1) [] []), (7, vi l.length), (8, vi i)]) (fun _ => [.pr T_i_Diagram 17 l.length (rowP l)]) (fun i => l.length - i) 0 [0]
      ⟨by omega, rfl⟩ ⟨⟨rfl, rfl, rfl, rfl, trivial⟩, ⟨rfl, trivial⟩, rfl⟩ ?_
  rintro i g ⟨hi, hR⟩
  by_cases h8 : i = l.length
  · subst h8
    (repeat' (first | refine And.intro (neI rfl) ?_ | refine And.intro ⟨rfl, leR rfl, onesR rfl⟩ ?_ | refine And.intro ⟨rfl, leR rfl⟩ ?_ | refine draw_rule2 hfol (fun KK hKK => ?_) | refine hKK _ _ _ (by kernel_rfl) ?_ | refine region_rule (fun KK hKK => ?_) | refine hKK _ _ ?_ | refine And.intro (Eq.refl true) ?_ | refine Exists.intro _ (And.intro (wI (by omega)) ?_) | refine Exists.intro _ (And.intro (wU (by omega)) ?_) | refine Exists.intro _ (And.intro ⟨rfl, by omega⟩ ?_) | refine Exists.intro _ (And.intro rfl ?_) | refine And.intro rfl ?_ | refine And.intro ⟨rfl, rfl⟩ ?_ | ((refine And.intro (fun _ => ?_) (fun _ => ?_)) <;> try (exfalso; omega))))
    exact Exists.intro [0] (And.intro (by rw [← hR]; simp [ixB]; rfl) (And.intro ⟨rfl, trivial⟩ rfl))
  have hlt : i < l.length := by omega
  have hp := List.getElem?_eq_getElem hlt
  generalize l[i] = p at hp
  have hd : l.drop i = p :: l.drop (i + 1) := by
    rw [List.drop_eq_getElem_cons hlt]
    rw [List.getElem?_eq_getElem hlt] at hp
    injection hp with hp; rw [hp]
  obtain ⟨hpl, hpb⟩ := hl p (List.mem_of_getElem? hp)
  rw [hd] at hR
  have hds := rowP_at (fun p hp => (hl p hp).1) hp
  have hq := s_invalid1 p.1 p.2 hpl hpb
  simp only [ixB] at hR
  cases hb : isDi p.1 p.2 with
  | true =>
    rw [hb] at hq hR
    (repeat' (first | refine Exists.intro (pcl p.1 p.2) (And.intro ⟨pcl_len hpl, hds⟩ ?_) | refine (hq).pure rfl ?_ | refine And.intro (neI rfl) ?_ | refine And.intro ⟨rfl, leR rfl, onesR rfl⟩ ?_ | refine And.intro ⟨rfl, leR rfl⟩ ?_ | refine draw_rule2 hfol (fun KK hKK => ?_) | refine hKK _ _ _ (by kernel_rfl) ?_ | refine region_rule (fun KK hKK => ?_) | refine hKK _ _ ?_ | refine And.intro (Eq.refl true) ?_ | refine Exists.intro _ (And.intro (wI (by omega)) ?_) | refine Exists.intro _ (And.intro (wU (by omega)) ?_) | refine Exists.intro _ (And.intro ⟨rfl, by omega⟩ ?_) | refine Exists.intro _ (And.intro rfl ?_) | refine And.intro rfl ?_ | refine And.intro ⟨rfl, rfl⟩ ?_ | ((refine And.intro (fun _ => ?_) (fun _ => ?_)) <;> try (exfalso; omega))))
    refine Exists.intro (i + 1) (Exists.intro [0] (And.intro ⟨⟨by omega, by rw [← hR]; rfl⟩, (by show l.length - (i + 1) < l.length - i; omega)⟩ ⟨⟨rfl, rfl, rfl, rfl, trivial⟩, ⟨rfl, trivial⟩, rfl⟩))
  | false =>
    rw [hb] at hq hR
    (repeat' (first | refine Exists.intro (pcl p.1 p.2) (And.intro ⟨pcl_len hpl, hds⟩ ?_) | refine (hq).pure rfl ?_ | refine And.intro (neI rfl) ?_ | refine And.intro ⟨rfl, leR rfl, onesR rfl⟩ ?_ | refine And.intro ⟨rfl, leR rfl⟩ ?_ | refine draw_rule2 hfol (fun KK hKK => ?_) | refine hKK _ _ _ (by kernel_rfl) ?_ | refine region_rule (fun KK hKK => ?_) | refine hKK _ _ ?_ | refine And.intro (Eq.refl true) ?_ | refine Exists.intro _ (And.intro (wI (by omega)) ?_) | refine Exists.intro _ (And.intro (wU (by omega)) ?_) | refine Exists.intro _ (And.intro ⟨rfl, by omega⟩ ?_) | refine Exists.intro _ (And.intro rfl ?_) | refine And.intro rfl ?_ | refine And.intro ⟨rfl, rfl⟩ ?_ | ((refine And.intro (fun _ => ?_) (fun _ => ?_)) <;> try (exfalso; omega))))
    exact Exists.intro [0] (And.intro (by rw [← hR]; rfl) (And.intro ⟨rfl, trivial⟩ rfl))

theorem s_contains (l : List (Int × List Nat)) (hl : okPs l) (hn : l.length ≤ 1000) : Spec Try.prog n_g_ContainsFunc_Diagram [.sl 0, .fn (.func n_i_invalid_1) [] []] [.pr T_i_Diagram 17 l.length (rowP l)] (vb (l.any fun p => !isDi p.1 p.2)) [.pr T_i_Diagram 17 l.length (rowP l)] := by
  refine SpecW.of_EV hf_g_ContainsFunc_Diagram hc_g_ContainsFunc_Diagram rfl rfl rfl fun w0 B ρ0 _ => ?_
  have hge := ixB_ge (l := l) (i := 0)
  have hix := s_index l hl hn
  rw [← hge]
  generalize ixB l 0 = q at hix
  (repeat' (first | refine (hix).read [0] rfl ⟨rfl, trivial⟩ ?_ | refine And.intro (neI rfl) ?_ | refine And.intro ⟨rfl, leR rfl, onesR rfl⟩ ?_ | refine And.intro ⟨rfl, leR rfl⟩ ?_ | refine draw_rule2 hfol (fun KK hKK => ?_) | refine hKK _ _ _ (by kernel_rfl) ?_ | refine region_rule (fun KK hKK => ?_) | refine hKK _ _ ?_ | refine And.intro (Eq.refl true) ?_ | refine Exists.intro _ (And.intro (wI (by omega)) ?_) | refine Exists.intro _ (And.intro (wU (by omega)) ?_) | refine Exists.intro _ (And.intro ⟨rfl, by omega⟩ ?_) | refine Exists.intro _ (And.intro rfl ?_) | refine And.intro rfl ?_ | refine And.intro ⟨rfl, rfl⟩ ?_ | ((refine And.intro (fun _ => ?_) (fun _ => ?_)) <;> try (exfalso; omega))))
  all_goals exact Exists.intro [0] (And.intro (vbR (by first | rw [decide_eq_true (by omega)] | rw [decide_eq_false (by omega)])) (And.intro ⟨rfl, trivial⟩ rfl))

theorem s_invalid (l : List (Int × List Nat)) (hl : okPs l) (hn : l.length ≤ 1000) (b : Bool) (hb : (l.any fun p => !isDi p.1 p.2) = b) : Spec Try.prog n_i_invalid [.sl 0] [.pr T_i_Diagram 17 l.length (rowP l)] (vi (bif b then 1 else 0)) [.pr T_i_Diagram 17 l.length (rowP l)] := by
  refine SpecW.of_EV hf_i_invalid hc_i_invalid rfl rfl rfl fun w0 B ρ0 _ => ?_
  have hct := s_contains l hl hn
  rw [hb] at hct
  cases b
  · (repeat' (first | refine (hct).read [0] rfl ⟨rfl, trivial⟩ ?_ | refine And.intro (neI rfl) ?_ | refine And.intro ⟨rfl, leR rfl, onesR rfl⟩ ?_ | refine And.intro ⟨rfl, leR rfl⟩ ?_ | refine draw_rule2 hfol (fun KK hKK => ?_) | refine hKK _ _ _ (by kernel_rfl) ?_ | refine region_rule (fun KK hKK => ?_) | refine hKK _ _ ?_ | refine And.intro (Eq.refl true) ?_ | refine Exists.intro _ (And.intro (wI (by omega)) ?_) | refine Exists.intro _ (And.intro (wU (by omega)) ?_) | refine Exists.intro _ (And.intro ⟨rfl, by omega⟩ ?_) | refine Exists.intro _ (And.intro rfl ?_) | refine And.intro rfl ?_ | refine And.intro ⟨rfl, rfl⟩ ?_ | ((refine And.intro (fun _ => ?_) (fun _ => ?_)) <;> try (exfalso; omega))))
    exact Exists.intro [0] (And.intro (rfl) (And.intro ⟨rfl, trivial⟩ rfl))
  · (repeat' (first | refine (hct).read [0] rfl ⟨rfl, trivial⟩ ?_ | refine And.intro (neI rfl) ?_ | refine And.intro ⟨rfl, leR rfl, onesR rfl⟩ ?_ | refine And.intro ⟨rfl, leR rfl⟩ ?_ | refine draw_rule2 hfol (fun KK hKK => ?_) | refine hKK _ _ _ (by kernel_rfl) ?_ | refine region_rule (fun KK hKK => ?_) | refine hKK _ _ ?_ | refine And.intro (Eq.refl true) ?_ | refine Exists.intro _ (And.intro (wI (by omega)) ?_) | refine Exists.intro _ (And.intro (wU (by omega)) ?_) | refine Exists.intro _ (And.intro ⟨rfl, by omega⟩ ?_) | refine Exists.intro _ (And.intro rfl ?_) | refine And.intro rfl ?_ | refine And.intro ⟨rfl, rfl⟩ ?_ | ((refine And.intro (fun _ => ?_) (fun _ => ?_)) <;> try (exfalso; omega))))
    exact Exists.intro [0] (And.intro (rfl) (And.intro ⟨rfl, trivial⟩ rfl))
/-- Of one. -/
theorem s_invalid1D (s : Int) (m : List Nat) (hm : m.length = 16) (hb : ∀ x ∈ m, x < 256) : Spec Try.prog n_i_invalid [.sl 0] [.pr T_i_Diagram 17 1 (rowP [(s, m)])] (vi (bif !isDi s m then 1 else 0)) [.pr T_i_Diagram 17 1 (rowP [(s, m)])] :=
  s_invalid [(s, m)] (fun p hp => by simp at hp; subst hp; exact ⟨hm, hb⟩) (by simp) _ (by simp)
end Go.Proofs.Ytgpgcdofhkpeaaa.VE
