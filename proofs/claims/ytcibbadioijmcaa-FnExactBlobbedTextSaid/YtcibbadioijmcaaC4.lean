/- Contracts of functions of the given program, for all arguments that the contract names; see each theorem. -/
import Derived.Test.YtcibbadioijmcaaC3
set_option linter.all false
namespace Go.Proofs.Ytcibbadioijmcaa.VE
open Go
set_option maxHeartbeats 800000
set_option maxRecDepth 100000

/-- A row of diagrams with blobs. -/
def rowB : List (Int × List Nat × List Bool) → List Value
  | [] => []
  | p :: r => bcB p.1 p.2.1 p.2.2 ++ rowB r
def okBs (l : List (Int × List Nat × List Bool)) : Prop := ∀ p ∈ l, p.2.1.length = 16 ∧ (∀ x ∈ p.2.1, x < 256) ∧ p.2.2.length = 16
theorem rowB_at : ∀ {l : List (Int × List Nat × List Bool)} {i : Nat} {p : Int × List Nat × List Bool}, okBs l → l[i]? = some p → ((rowB l).drop (i * 33)).take 33 = bcB p.1 p.2.1 p.2.2
  | [], _, _, _, h => by simp at h
  | q :: r, 0, p, hl, h => by
    simp at h
    subst h
    have hq := hl q (by simp)
    have := bcB_len (s := q.1) hq.1 hq.2.2
    rw [Nat.zero_mul, List.drop_zero, rowB, List.take_append_of_le_length (by omega), List.take_of_length_le (by omega)]
  | q :: r, i + 1, p, hl, h => by
    have hq := hl q (by simp)
    have := bcB_len (s := q.1) hq.1 hq.2.2
    rw [rowB, show (i + 1) * 33 = (bcB q.1 q.2.1 q.2.2).length + i * 33 from by rw [this]; omega, ← List.drop_drop, List.drop_append_of_le_length (Nat.le_refl _), List.drop_of_length_le (Nat.le_refl _), List.nil_append]
    exact rowB_at (fun p hp => hl p (by simp [hp])) (by simpa using h)
theorem row1B {c : List Value} {s : Int} {m : List Nat} {bs : List Bool} (h : c.length ≤ 33) : c.take (0 * 33) ++ bcB s m bs ++ c.drop (0 * 33 + 33) = rowB [(s, m, bs)] := by
  simp [rowB, List.drop_of_length_le h]

theorem s_badB1 (s : Int) (m : List Nat) (bs : List Bool) (hm : m.length = 16) (hb : ∀ x ∈ m, x < 256) (hbs : bs.length = 16) : Spec Try.prog n_i_badBlobbed_1 [bV s m bs] [] (vb (!isBl s m bs)) [] := by
  refine SpecW.of_EV hf_i_badBlobbed_1 hc_i_badBlobbed_1 rfl rfl rfl fun w0 B ρ0 _ => ?_
  have hq := s_iIsBl s m bs hm hb hbs
  generalize isBl s m bs = q at hq ⊢
  cases q <;>
  · (repeat' (first | refine Exists.intro (bcB s m bs) (And.intro ⟨bcB_len hm hbs, bcB_all hm hbs⟩ ?_) | refine (hq).pure rfl ?_ | refine And.intro (neI rfl) ?_ | refine And.intro ⟨rfl, leR rfl, onesR rfl⟩ ?_ | refine And.intro ⟨rfl, leR rfl⟩ ?_ | refine draw_rule2 hfol (fun KK hKK => ?_) | refine hKK _ _ _ (by kernel_rfl) ?_ | refine region_rule (fun KK hKK => ?_) | refine hKK _ _ ?_ | refine And.intro (Eq.refl true) ?_ | refine Exists.intro _ (And.intro (wI (by omega)) ?_) | refine Exists.intro _ (And.intro (wU (by omega)) ?_) | refine Exists.intro _ (And.intro ⟨rfl, by omega⟩ ?_) | refine Exists.intro _ (And.intro rfl ?_) | refine And.intro rfl ?_ | refine And.intro ⟨rfl, rfl⟩ ?_ | ((refine And.intro (fun _ => ?_) (fun _ => ?_)) <;> try (exfalso; omega))))
    exact finP rfl
def ixBl : List (Int × List Nat × List Bool) → Nat → Int
  | [], _ => -1
  | p :: r, i => if isBl p.1 p.2.1 p.2.2 then ixBl r (i + 1) else i
theorem ixBl_ge : ∀ {l : List (Int × List Nat × List Bool)} {i : Nat}, decide (ixBl l i ≥ 0) = l.any fun p => !isBl p.1 p.2.1 p.2.2
  | [], i => by simp [ixBl]
  | p :: r, i => by
    simp only [ixBl, List.any_cons]
    split
    · rename_i h; rw [ixBl_ge]; simp [h]
    · rename_i h; simp [h]
theorem s_indexBl (l : List (Int × List Nat × List Bool)) (hl : okBs l) (hn : l.length ≤ 1000) : Spec Try.prog n_g_IndexFunc_Blobbed [.sl 0, .fn (.func n_i_badBlobbed_1) [] []] [.pr T_i_Blobbed 33 l.length (rowB l)] (vi (ixBl l 0)) [.pr T_i_Blobbed 33 l.length (rowB l)] := by
  refine SpecW.of_EV hf_g_IndexFunc_Blobbed hc_g_IndexFunc_Blobbed rfl rfl rfl fun w0 B ρ0 _ => ?_
  generalize hRd : ixBl l 0 = R
  (repeat' (first | refine And.intro (neI rfl) ?_ | refine And.intro ⟨rfl, leR rfl, onesR rfl⟩ ?_ | refine And.intro ⟨rfl, leR rfl⟩ ?_ | refine draw_rule2 hfol (fun KK hKK => ?_) | refine hKK _ _ _ (by kernel_rfl) ?_ | refine region_rule (fun KK hKK => ?_) | refine hKK _ _ ?_ | refine And.intro (Eq.refl true) ?_ | refine Exists.intro _ (And.intro (wI (by omega)) ?_) | refine Exists.intro _ (And.intro (wU (by omega)) ?_) | refine Exists.intro _ (And.intro ⟨rfl, by omega⟩ ?_) | refine Exists.intro _ (And.intro rfl ?_) | refine And.intro rfl ?_ | refine And.intro ⟨rfl, rfl⟩ ?_ | ((refine And.intro (fun _ => ?_) (fun _ => ?_)) <;> try (exfalso; omega))))
  refine loop_rule (α := Nat) (fun i => i ≤ l.length ∧ ixBl (l.drop i) i = R)
      (fun i => [(0, .sl 0), (1, .fn (.func n_i_badBlobbed_1) [] []), (7, vi l.length), (8, vi i)]) (fun _ => [.pr T_i_Blobbed 33 l.length (rowB l)]) (fun i => l.length - i) 0 [0]
      ⟨by omega, hRd⟩ ⟨⟨rfl, rfl, rfl, rfl, trivial⟩, ⟨rfl, trivial⟩, rfl⟩ ?_
  rintro i g ⟨hi, hR⟩
  by_cases h8 : i = l.length
  · subst h8
    (repeat' (first | refine And.intro (neI rfl) ?_ | refine And.intro ⟨rfl, leR rfl, onesR rfl⟩ ?_ | refine And.intro ⟨rfl, leR rfl⟩ ?_ | refine draw_rule2 hfol (fun KK hKK => ?_) | refine hKK _ _ _ (by kernel_rfl) ?_ | refine region_rule (fun KK hKK => ?_) | refine hKK _ _ ?_ | refine And.intro (Eq.refl true) ?_ | refine Exists.intro _ (And.intro (wI (by omega)) ?_) | refine Exists.intro _ (And.intro (wU (by omega)) ?_) | refine Exists.intro _ (And.intro ⟨rfl, by omega⟩ ?_) | refine Exists.intro _ (And.intro rfl ?_) | refine And.intro rfl ?_ | refine And.intro ⟨rfl, rfl⟩ ?_ | ((refine And.intro (fun _ => ?_) (fun _ => ?_)) <;> try (exfalso; omega))))
    exact Exists.intro [0] (And.intro (by rw [← hR]; simp [ixBl]; rfl) (And.intro ⟨rfl, trivial⟩ rfl))
  have hlt : i < l.length := by omega
  have hp := List.getElem?_eq_getElem hlt
  generalize l[i] = p at hp
  have hd : l.drop i = p :: l.drop (i + 1) := by
    rw [List.drop_eq_getElem_cons hlt]
    rw [List.getElem?_eq_getElem hlt] at hp
    injection hp with hp; rw [hp]
  obtain ⟨hpl, hpb, hpc⟩ := hl p (List.mem_of_getElem? hp)
  rw [hd] at hR
  have hds := rowB_at hl hp
  have hq := s_badB1 p.1 p.2.1 p.2.2 hpl hpb hpc
  simp only [ixBl] at hR
  cases hb : isBl p.1 p.2.1 p.2.2 with
  | true =>
    rw [hb] at hq hR
    (repeat' (first | refine Exists.intro (bcB p.1 p.2.1 p.2.2) (And.intro ⟨bcB_len hpl hpc, hds⟩ ?_) | refine (hq).pure rfl ?_ | refine And.intro (neI rfl) ?_ | refine And.intro ⟨rfl, leR rfl, onesR rfl⟩ ?_ | refine And.intro ⟨rfl, leR rfl⟩ ?_ | refine draw_rule2 hfol (fun KK hKK => ?_) | refine hKK _ _ _ (by kernel_rfl) ?_ | refine region_rule (fun KK hKK => ?_) | refine hKK _ _ ?_ | refine And.intro (Eq.refl true) ?_ | refine Exists.intro _ (And.intro (wI (by omega)) ?_) | refine Exists.intro _ (And.intro (wU (by omega)) ?_) | refine Exists.intro _ (And.intro ⟨rfl, by omega⟩ ?_) | refine Exists.intro _ (And.intro rfl ?_) | refine And.intro rfl ?_ | refine And.intro ⟨rfl, rfl⟩ ?_ | ((refine And.intro (fun _ => ?_) (fun _ => ?_)) <;> try (exfalso; omega))))
    refine Exists.intro (i + 1) (Exists.intro [0] (And.intro ⟨⟨by omega, by rw [← hR]; rfl⟩, (by show l.length - (i + 1) < l.length - i; omega)⟩ ⟨⟨rfl, rfl, rfl, rfl, trivial⟩, ⟨rfl, trivial⟩, rfl⟩))
  | false =>
    rw [hb] at hq hR
    (repeat' (first | refine Exists.intro (bcB p.1 p.2.1 p.2.2) (And.intro ⟨bcB_len hpl hpc, hds⟩ ?_) | refine (hq).pure rfl ?_ | refine And.intro (neI rfl) ?_ | refine And.intro ⟨rfl, leR rfl, onesR rfl⟩ ?_ | refine And.intro ⟨rfl, leR rfl⟩ ?_ | refine draw_rule2 hfol (fun KK hKK => ?_) | refine hKK _ _ _ (by kernel_rfl) ?_ | refine region_rule (fun KK hKK => ?_) | refine hKK _ _ ?_ | refine And.intro (Eq.refl true) ?_ | refine Exists.intro _ (And.intro (wI (by omega)) ?_) | refine Exists.intro _ (And.intro (wU (by omega)) ?_) | refine Exists.intro _ (And.intro ⟨rfl, by omega⟩ ?_) | refine Exists.intro _ (And.intro rfl ?_) | refine And.intro rfl ?_ | refine And.intro ⟨rfl, rfl⟩ ?_ | ((refine And.intro (fun _ => ?_) (fun _ => ?_)) <;> try (exfalso; omega))))
    exact Exists.intro [0] (And.intro (by rw [← hR]; rfl) (And.intro ⟨rfl, trivial⟩ rfl))
theorem s_containsBl (l : List (Int × List Nat × List Bool)) (hl : okBs l) (hn : l.length ≤ 1000) : Spec Try.prog n_g_ContainsFunc_Blobbed [.sl 0, .fn (.func n_i_badBlobbed_1) [] []] [.pr T_i_Blobbed 33 l.length (rowB l)] (vb (l.any fun p => !isBl p.1 p.2.1 p.2.2)) [.pr T_i_Blobbed 33 l.length (rowB l)] := by
  refine SpecW.of_EV hf_g_ContainsFunc_Blobbed hc_g_ContainsFunc_Blobbed rfl rfl rfl fun w0 B ρ0 _ => ?_
  have hge := ixBl_ge (l := l) (i := 0)
  have hix := s_indexBl l hl hn
  rw [← hge]
  generalize ixBl l 0 = q at hix
  (repeat' (first | refine (hix).read [0] rfl ⟨rfl, trivial⟩ ?_ | refine And.intro (neI rfl) ?_ | refine And.intro ⟨rfl, leR rfl, onesR rfl⟩ ?_ | refine And.intro ⟨rfl, leR rfl⟩ ?_ | refine draw_rule2 hfol (fun KK hKK => ?_) | refine hKK _ _ _ (by kernel_rfl) ?_ | refine region_rule (fun KK hKK => ?_) | refine hKK _ _ ?_ | refine And.intro (Eq.refl true) ?_ | refine Exists.intro _ (And.intro (wI (by omega)) ?_) | refine Exists.intro _ (And.intro (wU (by omega)) ?_) | refine Exists.intro _ (And.intro ⟨rfl, by omega⟩ ?_) | refine Exists.intro _ (And.intro rfl ?_) | refine And.intro rfl ?_ | refine And.intro ⟨rfl, rfl⟩ ?_ | ((refine And.intro (fun _ => ?_) (fun _ => ?_)) <;> try (exfalso; omega))))
  all_goals exact Exists.intro [0] (And.intro (vbR (by first | rw [decide_eq_true (by omega)] | rw [decide_eq_false (by omega)])) (And.intro ⟨rfl, trivial⟩ rfl))
theorem s_badB (l : List (Int × List Nat × List Bool)) (hl : okBs l) (hn : l.length ≤ 1000) : Spec Try.prog n_i_badBlobbed [.sl 0] [.pr T_i_Blobbed 33 l.length (rowB l)] (vb (l.any fun p => !isBl p.1 p.2.1 p.2.2)) [.pr T_i_Blobbed 33 l.length (rowB l)] := by
  have hct := s_containsBl l hl hn
  refine SpecW.of_EV hf_i_badBlobbed hc_i_badBlobbed rfl rfl rfl fun w0 B ρ0 _ => ?_
  (repeat' (first | refine (hct).read [0] rfl ⟨rfl, trivial⟩ ?_ | refine And.intro (neI rfl) ?_ | refine And.intro ⟨rfl, leR rfl, onesR rfl⟩ ?_ | refine And.intro ⟨rfl, leR rfl⟩ ?_ | refine draw_rule2 hfol (fun KK hKK => ?_) | refine hKK _ _ _ (by kernel_rfl) ?_ | refine region_rule (fun KK hKK => ?_) | refine hKK _ _ ?_ | refine And.intro (Eq.refl true) ?_ | refine Exists.intro _ (And.intro (wI (by omega)) ?_) | refine Exists.intro _ (And.intro (wU (by omega)) ?_) | refine Exists.intro _ (And.intro ⟨rfl, by omega⟩ ?_) | refine Exists.intro _ (And.intro rfl ?_) | refine And.intro rfl ?_ | refine And.intro ⟨rfl, rfl⟩ ?_ | ((refine And.intro (fun _ => ?_) (fun _ => ?_)) <;> try (exfalso; omega))))
  exact Exists.intro [0] (And.intro (rfl) (And.intro ⟨rfl, trivial⟩ rfl))
theorem s_badB1D (s : Int) (m : List Nat) (bs : List Bool) (hm : m.length = 16) (hb : ∀ x ∈ m, x < 256) (hbs : bs.length = 16) : Spec Try.prog n_i_badBlobbed [.sl 0] [.pr T_i_Blobbed 33 1 (rowB [(s, m, bs)])] (vb (!isBl s m bs)) [.pr T_i_Blobbed 33 1 (rowB [(s, m, bs)])] := by
  have := s_badB [(s, m, bs)] (fun p hp => by simp at hp; subst hp; exact ⟨hm, hb, hbs⟩) (by simp)
  simp only [List.any_cons, List.any_nil, Bool.or_false] at this
  exact this

def bareR (s : Int) (m : List Nat) (bs : List Bool) : Int × List Nat × Int := if isBl s m bs then (s, m, 0) else (0, List.replicate 16 0, 1)
theorem s_sBare (s : Int) (m : List Nat) (bs : List Bool) (hm : m.length = 16) (hb : ∀ x ∈ m, x < 256) (hbs : bs.length = 16) : Spec Try.prog n_s_BareDiagram [bV s m bs] [] (dV (bareR s m bs)) [] := by
  have hq := s_sIsBl s m bs hm hb hbs
  have hr : bareR s m bs = if isBl s m bs then (s, m, 0) else (0, List.replicate 16 0, 1) := rfl
  refine SpecW.of_EV hf_s_BareDiagram hc_s_BareDiagram rfl rfl rfl fun w0 B ρ0 _ => ?_
  cases hv : isBl s m bs with
  | false =>
    rw [hv] at hq hr
    (repeat' (first | refine (hq).pure rfl ?_ | refine Exists.intro (bcB s m bs) (And.intro ⟨bcB_len hm hbs, bcB_all hm hbs⟩ ?_) | refine Exists.intro (pcl 0 (List.replicate 16 0)) (And.intro ⟨leR rfl, rfl⟩ ?_) | refine Exists.intro (pcl 0 (List.replicate 16 0)) (And.intro ⟨rfl, rfl⟩ ?_) | refine And.intro (neI rfl) ?_ | refine And.intro ⟨rfl, leR rfl, onesR rfl⟩ ?_ | refine And.intro ⟨rfl, leR rfl⟩ ?_ | refine draw_rule2 hfol (fun KK hKK => ?_) | refine hKK _ _ _ (by kernel_rfl) ?_ | refine region_rule (fun KK hKK => ?_) | refine hKK _ _ ?_ | refine And.intro (Eq.refl true) ?_ | refine Exists.intro _ (And.intro (wI (by omega)) ?_) | refine Exists.intro _ (And.intro (wU (by omega)) ?_) | refine Exists.intro _ (And.intro ⟨rfl, by omega⟩ ?_) | refine Exists.intro _ (And.intro rfl ?_) | refine And.intro rfl ?_ | refine And.intro ⟨rfl, rfl⟩ ?_ | ((refine And.intro (fun _ => ?_) (fun _ => ?_)) <;> try (exfalso; omega))))
    exact Exists.intro [] (And.intro (by rw [hr]; rfl) (And.intro trivial rfl))
  | true =>
    rw [hv] at hq hr
    (repeat' (first | refine (hq).pure rfl ?_ | refine Exists.intro (bcB s m bs) (And.intro ⟨bcB_len hm hbs, bcB_all hm hbs⟩ ?_) | refine Exists.intro (pcl s m) (And.intro ⟨pcl_len hm, bcB_dia hm hbs⟩ ?_) | refine Exists.intro (pcl s m) (And.intro ⟨pcl_len hm, pcl_all hm⟩ ?_) | refine And.intro ⟨pcl_len hm, leR rfl, pcl_ones⟩ ?_ | refine Exists.intro (pcl s m) (And.intro ⟨leR rfl, spl0 (leR rfl)⟩ ?_) | refine And.intro (neI rfl) ?_ | refine And.intro ⟨rfl, leR rfl, onesR rfl⟩ ?_ | refine And.intro ⟨rfl, leR rfl⟩ ?_ | refine draw_rule2 hfol (fun KK hKK => ?_) | refine hKK _ _ _ (by kernel_rfl) ?_ | refine region_rule (fun KK hKK => ?_) | refine hKK _ _ ?_ | refine And.intro (Eq.refl true) ?_ | refine Exists.intro _ (And.intro (wI (by omega)) ?_) | refine Exists.intro _ (And.intro (wU (by omega)) ?_) | refine Exists.intro _ (And.intro ⟨rfl, by omega⟩ ?_) | refine Exists.intro _ (And.intro rfl ?_) | refine And.intro rfl ?_ | refine And.intro ⟨rfl, rfl⟩ ?_ | ((refine And.intro (fun _ => ?_) (fun _ => ?_)) <;> try (exfalso; omega))))
    exact Exists.intro [] (And.intro (by rw [hr]; rfl) (And.intro trivial rfl))
theorem s_iBare (s : Int) (m : List Nat) (bs : List Bool) (hm : m.length = 16) (hb : ∀ x ∈ m, x < 256) (hbs : bs.length = 16) : Spec Try.prog n_i_BareDiagram [bV s m bs] [] (dV (bareR s m bs)) [] := by
  have hq := s_badB1D s m bs hm hb hbs
  have hr : bareR s m bs = if isBl s m bs then (s, m, 0) else (0, List.replicate 16 0, 1) := rfl
  refine SpecW.of_EV hf_i_BareDiagram hc_i_BareDiagram rfl rfl rfl fun w0 B ρ0 _ => ?_
  cases hv : isBl s m bs with
  | false =>
    rw [hv] at hq hr
    (repeat' (first | refine (hq).read [2] rfl ⟨rfl, trivial⟩ ?_ | refine Exists.intro (bcB s m bs) (And.intro ⟨bcB_len hm hbs, bcB_all hm hbs⟩ ?_) | refine And.intro ⟨bcB_len hm hbs, mkL rfl⟩ ?_ | refine Exists.intro (rowB [(s, m, bs)]) (And.intro (row1B (mkL' rfl)) ?_) | refine Exists.intro (pcl 0 (List.replicate 16 0)) (And.intro ⟨leR rfl, rfl⟩ ?_) | refine Exists.intro (pcl 0 (List.replicate 16 0)) (And.intro ⟨rfl, rfl⟩ ?_) | refine And.intro (neI rfl) ?_ | refine And.intro ⟨rfl, leR rfl, onesR rfl⟩ ?_ | refine And.intro ⟨rfl, leR rfl⟩ ?_ | refine draw_rule2 hfol (fun KK hKK => ?_) | refine hKK _ _ _ (by kernel_rfl) ?_ | refine region_rule (fun KK hKK => ?_) | refine hKK _ _ ?_ | refine And.intro (Eq.refl true) ?_ | refine Exists.intro _ (And.intro (wI (by omega)) ?_) | refine Exists.intro _ (And.intro (wU (by omega)) ?_) | refine Exists.intro _ (And.intro ⟨rfl, by omega⟩ ?_) | refine Exists.intro _ (And.intro rfl ?_) | refine And.intro rfl ?_ | refine And.intro ⟨rfl, rfl⟩ ?_ | ((refine And.intro (fun _ => ?_) (fun _ => ?_)) <;> try (exfalso; omega))))
    exact Exists.intro [] (And.intro (by rw [hr]; rfl) (And.intro trivial rfl))
  | true =>
    rw [hv] at hq hr
    (repeat' (first | refine (hq).read [2] rfl ⟨rfl, trivial⟩ ?_ | refine Exists.intro (bcB s m bs) (And.intro ⟨bcB_len hm hbs, bcB_all hm hbs⟩ ?_) | refine And.intro ⟨bcB_len hm hbs, mkL rfl⟩ ?_ | refine Exists.intro (rowB [(s, m, bs)]) (And.intro (row1B (mkL' rfl)) ?_) | refine Exists.intro (pcl s m) (And.intro ⟨pcl_len hm, bcB_dia hm hbs⟩ ?_) | refine Exists.intro (pcl s m) (And.intro ⟨pcl_len hm, pcl_all hm⟩ ?_) | refine And.intro ⟨pcl_len hm, leR rfl, pcl_ones⟩ ?_ | refine Exists.intro (pcl s m) (And.intro ⟨leR rfl, spl0 (leR rfl)⟩ ?_) | refine And.intro (neI rfl) ?_ | refine And.intro ⟨rfl, leR rfl, onesR rfl⟩ ?_ | refine And.intro ⟨rfl, leR rfl⟩ ?_ | refine draw_rule2 hfol (fun KK hKK => ?_) | refine hKK _ _ _ (by kernel_rfl) ?_ | refine region_rule (fun KK hKK => ?_) | refine hKK _ _ ?_ | refine And.intro (Eq.refl true) ?_ | refine Exists.intro _ (And.intro (wI (by omega)) ?_) | refine Exists.intro _ (And.intro (wU (by omega)) ?_) | refine Exists.intro _ (And.intro ⟨rfl, by omega⟩ ?_) | refine Exists.intro _ (And.intro rfl ?_) | refine And.intro rfl ?_ | refine And.intro ⟨rfl, rfl⟩ ?_ | ((refine And.intro (fun _ => ?_) (fun _ => ?_)) <;> try (exfalso; omega))))
    exact Exists.intro [] (And.intro (by rw [hr]; rfl) (And.intro trivial rfl))
theorem bareR_len (s : Int) (m : List Nat) (bs : List Bool) (hm : m.length = 16) : (bareR s m bs).2.1.length = 16 := by
  unfold bareR; split
  · exact hm
  · simp
theorem s_lawBare (s : Int) (m : List Nat) (bs : List Bool) (hm : m.length = 16) (hb : ∀ x ∈ m, x < 256) (hbs : bs.length = 16) : Spec Try.prog n_l_FnExactBareDiagram [bV s m bs] [] (vb true) [] := by
  have h1 := s_sBare s m bs hm hb hbs
  have h2 := s_iBare s m bs hm hb hbs
  have ht := s_toBl s m bs hm hbs
  have hl := bareR_len s m bs hm
  generalize bareR s m bs = p at h1 h2 hl
  have he := s_eqD p.1 p.2.1 hl
  refine SpecW.of_EV hf_l_FnExactBareDiagram hc_l_FnExactBareDiagram rfl rfl rfl fun w0 B ρ0 _ => ?_
  (repeat' (first | refine (ht).pure rfl ?_ | refine (h1).pure rfl ?_ | refine (h2).pure rfl ?_ | refine (he).pure rfl ?_ | refine Exists.intro (pcl p.1 p.2.1) (And.intro ⟨pcl_len hl, pcl_all hl⟩ ?_) | refine And.intro ⟨pcl_len hl, leR rfl, pcl_ones⟩ ?_ | refine Exists.intro (pcl p.1 p.2.1) (And.intro ⟨leR rfl, spl0 (leR rfl)⟩ ?_) | refine Exists.intro (bcB s m bs) (And.intro ⟨bcB_len hm hbs, bcB_all hm hbs⟩ ?_) | refine And.intro (fun _ => ?_) (fun h => absurd rfl h) | refine And.intro (neI rfl) ?_ | refine And.intro ⟨rfl, leR rfl, onesR rfl⟩ ?_ | refine And.intro ⟨rfl, leR rfl⟩ ?_ | refine draw_rule2 hfol (fun KK hKK => ?_) | refine hKK _ _ _ (by kernel_rfl) ?_ | refine region_rule (fun KK hKK => ?_) | refine hKK _ _ ?_ | refine And.intro (Eq.refl true) ?_ | refine Exists.intro _ (And.intro (wI (by omega)) ?_) | refine Exists.intro _ (And.intro (wU (by omega)) ?_) | refine Exists.intro _ (And.intro ⟨rfl, by omega⟩ ?_) | refine Exists.intro _ (And.intro rfl ?_) | refine And.intro rfl ?_ | refine And.intro ⟨rfl, rfl⟩ ?_ | ((refine And.intro (fun _ => ?_) (fun _ => ?_)) <;> try (exfalso; omega))))
  exact finP rfl
end Go.Proofs.Ytcibbadioijmcaa.VE
