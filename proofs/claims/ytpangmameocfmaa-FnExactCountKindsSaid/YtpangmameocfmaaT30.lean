/- Contracts of functions of the given program, for all arguments that the contract names; see each theorem. -/
import Derived.Test.YtpangmameocfmaaT29
import Derived.Test.YtpangmameocfmaaU3a
import Derived.Test.YtpangmameocfmaaT19
set_option linter.all false
namespace Go.Proofs.Ytpangmameocfmaa.VE.P
open Go
set_option maxHeartbeats 800000
set_option maxRecDepth 100000

/-! groups: walks -/
theorem s_newG (N : Nat) (hN : N ≤ 100) : Spec Try.prog n_i_newGroups [vi N] [] (.sl 0) [.pr T_int 1 N (il (oI (fun x => x)) N)] := by
  refine SpecW.of_EV hf_i_newGroups hc_i_newGroups rfl rfl rfl fun w0 B ρ0 _ => ?_
  (repeat' (first | refine And.intro (neI rfl) ?_ | refine And.intro ⟨rfl, leR rfl, onesR rfl⟩ ?_ | refine And.intro ⟨rfl, leR rfl⟩ ?_ | refine draw_rule2 hfol (fun KK hKK => ?_) | refine hKK _ _ _ (by kernel_rfl) ?_ | refine region_rule (fun KK hKK => ?_) | refine hKK _ _ ?_ | refine And.intro (Eq.refl true) ?_ | refine Exists.intro _ (And.intro (wI (by omega)) ?_) | refine Exists.intro _ (And.intro (wU (by omega)) ?_) | refine Exists.intro _ (And.intro ⟨rfl, by omega⟩ ?_) | refine Exists.intro _ (And.intro rfl ?_) | refine And.intro rfl ?_ | refine And.intro ⟨rfl, rfl⟩ ?_ | ((refine And.intro (fun _ => ?_) (fun _ => ?_)) <;> try (exfalso; omega))))
  refine loop_rule (α := Nat) (fun k => k ≤ N) (fun k => [(3, .sl 0), (6, vi N), (7, vi k)]) (fun k => [.pr T_int 1 k (il (oI (fun x => x)) k)]) (fun k => N - k) 0 [0]
    (by omega) ⟨⟨rfl, rfl, rfl, trivial⟩, ⟨rfl, trivial⟩, rfl⟩ ?_
  rintro k g hk
  by_cases h9 : k = N
  · subst h9
    (repeat' (first | refine And.intro (neI rfl) ?_ | refine And.intro ⟨rfl, leR rfl, onesR rfl⟩ ?_ | refine And.intro ⟨rfl, leR rfl⟩ ?_ | refine draw_rule2 hfol (fun KK hKK => ?_) | refine hKK _ _ _ (by kernel_rfl) ?_ | refine region_rule (fun KK hKK => ?_) | refine hKK _ _ ?_ | refine And.intro (Eq.refl true) ?_ | refine Exists.intro _ (And.intro (wI (by omega)) ?_) | refine Exists.intro _ (And.intro (wU (by omega)) ?_) | refine Exists.intro _ (And.intro ⟨rfl, by omega⟩ ?_) | refine Exists.intro _ (And.intro rfl ?_) | refine And.intro rfl ?_ | refine And.intro ⟨rfl, rfl⟩ ?_ | ((refine And.intro (fun _ => ?_) (fun _ => ?_)) <;> try (exfalso; omega))))
    exact Exists.intro [0] (And.intro (rfl) (And.intro ⟨rfl, trivial⟩ rfl))
  have hkl : k < N := by omega
  (repeat' (first | refine And.intro ⟨rfl, mkL rfl⟩ ?_ | refine Exists.intro [Value.int .i64 (oI (fun x => x) k)] (And.intro (row1s (mkL' rfl)) ?_) | refine Exists.intro (il (oI (fun x => x)) (k + 1)) (And.intro ⟨rfl, onesR rfl, by omega, by omega, il_succ⟩ ?_) | refine And.intro (neI rfl) ?_ | refine And.intro ⟨rfl, leR rfl, onesR rfl⟩ ?_ | refine And.intro ⟨rfl, leR rfl⟩ ?_ | refine draw_rule2 hfol (fun KK hKK => ?_) | refine hKK _ _ _ (by kernel_rfl) ?_ | refine region_rule (fun KK hKK => ?_) | refine hKK _ _ ?_ | refine And.intro (Eq.refl true) ?_ | refine Exists.intro _ (And.intro (wI (by omega)) ?_) | refine Exists.intro _ (And.intro (wU (by omega)) ?_) | refine Exists.intro _ (And.intro ⟨rfl, by omega⟩ ?_) | refine Exists.intro _ (And.intro rfl ?_) | refine And.intro rfl ?_ | refine And.intro ⟨rfl, rfl⟩ ?_ | ((refine And.intro (fun _ => ?_) (fun _ => ?_)) <;> try (exfalso; omega))))
  refine Exists.intro (k + 1) (Exists.intro [2] (And.intro ⟨by omega, (by show N - (k + 1) < N - k; omega)⟩ ⟨⟨rfl, rfl, rfl, trivial⟩, ⟨rfl, trivial⟩, rfl⟩))
theorem s_of {N : Nat} {p r d : Nat → Nat} (h : UF N p r d) (hN : N ≤ 100) (x : Nat) (hx : x < N) : Spec Try.prog n_i_groups_of [.sl 0, vi x] [.pr T_int 1 N (il (oI p) N)] (vi (r x : Nat)) [.pr T_int 1 N (il (oI p) N)] := by
  refine SpecW.of_EV hf_i_groups_of hc_i_groups_of rfl rfl rfl fun w0 B ρ0 _ => ?_
  (repeat' (first | refine And.intro (neI rfl) ?_ | refine And.intro ⟨rfl, leR rfl, onesR rfl⟩ ?_ | refine And.intro ⟨rfl, leR rfl⟩ ?_ | refine draw_rule2 hfol (fun KK hKK => ?_) | refine hKK _ _ _ (by kernel_rfl) ?_ | refine region_rule (fun KK hKK => ?_) | refine hKK _ _ ?_ | refine And.intro (Eq.refl true) ?_ | refine Exists.intro _ (And.intro (wI (by omega)) ?_) | refine Exists.intro _ (And.intro (wU (by omega)) ?_) | refine Exists.intro _ (And.intro ⟨rfl, by omega⟩ ?_) | refine Exists.intro _ (And.intro rfl ?_) | refine And.intro rfl ?_ | refine And.intro ⟨rfl, rfl⟩ ?_ | ((refine And.intro (fun _ => ?_) (fun _ => ?_)) <;> try (exfalso; omega))))
  refine loop_rule (α := Nat) (fun y => y < N ∧ r y = r x) (fun y => [(0, .sl 0), (1, vi y)]) (fun _ => [.pr T_int 1 N (il (oI p) N)]) (fun y => d y) x [0]
    ⟨hx, rfl⟩ ⟨⟨rfl, rfl, trivial⟩, ⟨rfl, trivial⟩, rfl⟩ ?_
  rintro y g ⟨hy, hr⟩
  have hpl := h.pl y hy
  by_cases hp : p y = y
  · have hfy := h.fx y hy hp
    (repeat' (first | refine Exists.intro _ (And.intro (il_at (g := oI p) (i := y) hy) ?_) | refine And.intro (neI rfl) ?_ | refine And.intro ⟨rfl, leR rfl, onesR rfl⟩ ?_ | refine And.intro ⟨rfl, leR rfl⟩ ?_ | refine draw_rule2 hfol (fun KK hKK => ?_) | refine hKK _ _ _ (by kernel_rfl) ?_ | refine region_rule (fun KK hKK => ?_) | refine hKK _ _ ?_ | refine And.intro (Eq.refl true) ?_ | refine Exists.intro _ (And.intro (wI (by omega)) ?_) | refine Exists.intro _ (And.intro (wU (by omega)) ?_) | refine Exists.intro _ (And.intro ⟨rfl, by omega⟩ ?_) | refine Exists.intro _ (And.intro rfl ?_) | refine And.intro rfl ?_ | refine And.intro ⟨rfl, rfl⟩ ?_ | ((refine And.intro (fun _ => ?_) (fun _ => ?_)) <;> try (exfalso; omega))))
    all_goals first | (exact Exists.intro [0] (And.intro (viR (by rw [← hr, hfy])) (And.intro ⟨rfl, trivial⟩ rfl))) | (exfalso; simp only [oI] at *; omega)
  · have hdp := h.dp y hy hp
    have hrp := h.rp y hy
    (repeat' (first | refine Exists.intro _ (And.intro (il_at (g := oI p) (i := y) hy) ?_) | refine And.intro (neI rfl) ?_ | refine And.intro ⟨rfl, leR rfl, onesR rfl⟩ ?_ | refine And.intro ⟨rfl, leR rfl⟩ ?_ | refine draw_rule2 hfol (fun KK hKK => ?_) | refine hKK _ _ _ (by kernel_rfl) ?_ | refine region_rule (fun KK hKK => ?_) | refine hKK _ _ ?_ | refine And.intro (Eq.refl true) ?_ | refine Exists.intro _ (And.intro (wI (by omega)) ?_) | refine Exists.intro _ (And.intro (wU (by omega)) ?_) | refine Exists.intro _ (And.intro ⟨rfl, by omega⟩ ?_) | refine Exists.intro _ (And.intro rfl ?_) | refine And.intro rfl ?_ | refine And.intro ⟨rfl, rfl⟩ ?_ | ((refine And.intro (fun _ => ?_) (fun _ => ?_)) <;> try (exfalso; omega))))
    all_goals first | (exact Exists.intro (p y) (Exists.intro [0] (And.intro ⟨⟨hpl, by rw [hrp, hr]⟩, hdp⟩ ⟨⟨rfl, rfl, trivial⟩, ⟨rfl, trivial⟩, rfl⟩))) | (exfalso; simp only [oI] at *; omega)
theorem s_gjoin {N : Nat} {p r d : Nat → Nat} (h : UF N p r d) (hN : N ≤ 100) (i k : Nat) (hi : i < N) (hk : k < N) : Spec Try.prog n_i_groups_join [.sl 0, vi i, vi k] [.pr T_int 1 N (il (oI p) N)] (.tup []) [.pr T_int 1 N (il (oI (jnP p r i k)) N)] := by
  have h1 := s_of h hN i hi
  have h2 := s_of h hN k hk
  have hri := h.rl i hi
  refine SpecW.of_EV hf_i_groups_join hc_i_groups_join rfl rfl rfl fun w0 B ρ0 _ => ?_
  (repeat' (first | refine (h1).read [0] rfl ⟨rfl, trivial⟩ ?_ | refine (h2).read [0] rfl ⟨rfl, trivial⟩ ?_ | refine Exists.intro (il (oI (jnP p r i k)) N) (And.intro ⟨by rw [il_len]; omega, il_set (fun j _ => by simp only [oI, jnP]; split <;> rfl)⟩ ?_) | refine And.intro (neI rfl) ?_ | refine And.intro ⟨rfl, leR rfl, onesR rfl⟩ ?_ | refine And.intro ⟨rfl, leR rfl⟩ ?_ | refine draw_rule2 hfol (fun KK hKK => ?_) | refine hKK _ _ _ (by kernel_rfl) ?_ | refine region_rule (fun KK hKK => ?_) | refine hKK _ _ ?_ | refine And.intro (Eq.refl true) ?_ | refine Exists.intro _ (And.intro (wI (by omega)) ?_) | refine Exists.intro _ (And.intro (wU (by omega)) ?_) | refine Exists.intro _ (And.intro ⟨rfl, by omega⟩ ?_) | refine Exists.intro _ (And.intro rfl ?_) | refine And.intro rfl ?_ | refine And.intro ⟨rfl, rfl⟩ ?_ | ((refine And.intro (fun _ => ?_) (fun _ => ?_)) <;> try (exfalso; omega))))
  exact Exists.intro [0] (And.intro (rfl) (And.intro ⟨rfl, trivial⟩ rfl))

/-! the product of the reference -/
theorem ldI_lt {a b : Nat → Nat} {n : Nat} (ha : ∀ i, a i < 8) (hb : ∀ i, b i < 8) : ∀ i l, l < 16 → ldI a b n i l < 16
  | 0, _, h => h
  | i + 1, l, h => by
    simp only [ldI, ldU]; split
    · exact ldI_lt ha hb i _ (by have := ha (n + i); omega)
    · exact ldI_lt ha hb i l h
def sL (a b : Nat → Nat) (n x : Nat) : Nat := if x < n then a x else 8 + b x
def gM (a b : Nat → Nat) (n : Nat) (x : Nat) : Int := ((ldI a b n n (sL a b n x) : Nat) : Int)
def kp0 (a b : Nat → Nat) (n k : Nat) (l : Nat) : Bool := (List.range k).any fun x => decide (ldI a b n n (sL a b n x) = l)
theorem kp0_succ {a b : Nat → Nat} {n k l : Nat} : kp0 a b n (k + 1) l = if l = ldI a b n n (sL a b n k) then true else kp0 a b n k l := by
  simp only [kp0, List.range_succ, List.any_append, List.any_cons, List.any_nil, Bool.or_false]
  by_cases h : l = ldI a b n n (sL a b n k)
  · rw [if_pos h]; simp [h]
  · rw [if_neg h, decide_eq_false (fun e => h e.symm), Bool.or_false]
def ctI (a b : Nat → Nat) (n : Nat) : Nat → (Nat → Bool) × Nat
  | 0 => (kp0 a b n (2 * n), 0)
  | i + 1 => if (ctI a b n i).1 (ldI a b n n (a (n + i))) = true then ctI a b n i else ((fun l => if l = ldI a b n n (a (n + i)) then true else (ctI a b n i).1 l), (ctI a b n i).2 + 1)
theorem ctI_le {a b : Nat → Nat} {n : Nat} : ∀ i, (ctI a b n i).2 ≤ i
  | 0 => Nat.le_refl _
  | i + 1 => by have := ctI_le (a := a) (b := b) (n := n) i; simp only [ctI]; split <;> first | omega | (show (ctI a b n i).2 + 1 ≤ i + 1; omega)
def upto (k : Nat) (f g : Nat → Nat) : Nat → Nat := fun j => if j < k then f j else g j
theorem oI_upto {k : Nat} {f g : Nat → Nat} (j : Nat) : oI (upto (k + 1) f g) j = if j = k then ((f k : Nat) : Int) else oI (upto k f g) j := by
  simp only [oI, upto]
  by_cases h : j = k
  · subst h; rw [if_pos (by omega), if_pos rfl]
  · rw [if_neg h]; by_cases h2 : j < k
    · rw [if_pos (by omega), if_pos h2]
    · rw [if_neg (by omega), if_neg h2]
theorem upto_all {f g : Nat → Nat} {N : Nat} : il (oI (upto N f g)) N = il (oI f) N := il_congr fun j hj => by simp only [oI, upto]; rw [if_pos hj]
theorem upto_0 {f g : Nat → Nat} {N : Nat} : il (oI (upto 0 f g)) N = il (oI g) N := il_congr fun j hj => by simp only [oI, upto]; rw [if_neg (by omega)]

abbrev gd (m : List Nat) (j : Nat) : Nat := m.getD j 0
theorem s_times (n : Nat) (ma mb : List Nat) (hma : ma.length = 8) (hmb : mb.length = 8) (ha : ∀ j, ma.getD j 0 < 8) (hb : ∀ j, mb.getD j 0 < 8) (hn1 : 1 ≤ n) (hn : n ≤ 4) :
    Spec Try.prog n_s_l07Times [pv n ma, pv n mb] [] (.tup [pv n (nm (gM (gd ma) (gd mb) n) n), vi ((ctI (gd ma) (gd mb) n n).2 : Nat)]) [] := by
  have hld := ldI_lt (n := n) (a := gd ma) (b := gd mb) ha hb
  refine SpecW.of_EV hf_s_l07Times hc_s_l07Times rfl rfl rfl fun w0 B ρ0 _ => ?_
  (repeat' (first | refine Exists.intro (il (oI (upto 0 (fun x => x) (fun _ => 0))) 16) (And.intro ⟨leR rfl, by rw [upto_0]; rfl⟩ ?_) | refine And.intro (neI rfl) ?_ | refine And.intro ⟨rfl, leR rfl, onesR rfl⟩ ?_ | refine And.intro ⟨rfl, leR rfl⟩ ?_ | refine draw_rule2 hfol (fun KK hKK => ?_) | refine hKK _ _ _ (by kernel_rfl) ?_ | refine region_rule (fun KK hKK => ?_) | refine hKK _ _ ?_ | refine And.intro (Eq.refl true) ?_ | refine Exists.intro _ (And.intro (wI (by omega)) ?_) | refine Exists.intro _ (And.intro (wU (by omega)) ?_) | refine Exists.intro _ (And.intro ⟨rfl, by omega⟩ ?_) | refine Exists.intro _ (And.intro rfl ?_) | refine And.intro rfl ?_ | refine And.intro ⟨rfl, rfl⟩ ?_ | ((refine And.intro (fun _ => ?_) (fun _ => ?_)) <;> try (exfalso; omega))))
  refine loop_rule (α := Nat) (fun k => k ≤ 16)
    (fun k => [(2, .ptr 0 0), (3, .ptr 1 0), (4, .ptr 2 0), (6, vi n), (7, .ptr 3 0), (8, vi k)])
    (fun k => [.pc (pcl n ma) T_i_Partition, .pc (pcl n mb) T_i_Partition, .pc (pcl 0 (List.replicate 8 0)) T_i_Partition, .pc (il (oI (upto k (fun x => x) (fun _ => 0))) 16) T_a16q_int64]) (fun k => 16 - k) 0 [0, 1, 2, 3]
    (by omega) ⟨⟨rfl, rfl, rfl, rfl, rfl, rfl, trivial⟩, ⟨rfl, rfl, rfl, rfl, trivial⟩, rfl⟩ ?_
  rintro k g hk
  by_cases h9 : k ≠ 16
  · have hkl : k < 16 := by omega
    (repeat' (first | refine Exists.intro (il (oI (upto (k + 1) (fun x => x) (fun _ => 0))) 16) (And.intro ⟨by rw [il_len]; omega, il_set (fun j _ => oI_upto j)⟩ ?_) | refine And.intro (neI rfl) ?_ | refine And.intro ⟨rfl, leR rfl, onesR rfl⟩ ?_ | refine And.intro ⟨rfl, leR rfl⟩ ?_ | refine draw_rule2 hfol (fun KK hKK => ?_) | refine hKK _ _ _ (by kernel_rfl) ?_ | refine region_rule (fun KK hKK => ?_) | refine hKK _ _ ?_ | refine And.intro (Eq.refl true) ?_ | refine Exists.intro _ (And.intro (wI (by omega)) ?_) | refine Exists.intro _ (And.intro (wU (by omega)) ?_) | refine Exists.intro _ (And.intro ⟨rfl, by omega⟩ ?_) | refine Exists.intro _ (And.intro rfl ?_) | refine And.intro rfl ?_ | refine And.intro ⟨rfl, rfl⟩ ?_ | ((refine And.intro (fun _ => ?_) (fun _ => ?_)) <;> try (exfalso; omega))))
    refine Exists.intro (k + 1) (Exists.intro [0, 1, 2, 3] (And.intro ⟨by omega, (by show 16 - (k + 1) < 16 - k; omega)⟩ ⟨⟨rfl, rfl, rfl, rfl, rfl, rfl, trivial⟩, ⟨rfl, rfl, rfl, rfl, trivial⟩, rfl⟩))
  have h9 : k = 16 := by omega
  subst h9
  (repeat' (first | refine And.intro (neI rfl) ?_ | refine And.intro ⟨rfl, leR rfl, onesR rfl⟩ ?_ | refine And.intro ⟨rfl, leR rfl⟩ ?_ | refine draw_rule2 hfol (fun KK hKK => ?_) | refine hKK _ _ _ (by kernel_rfl) ?_ | refine region_rule (fun KK hKK => ?_) | refine hKK _ _ ?_ | refine And.intro (Eq.refl true) ?_ | refine Exists.intro _ (And.intro (wI (by omega)) ?_) | refine Exists.intro _ (And.intro (wU (by omega)) ?_) | refine Exists.intro _ (And.intro ⟨rfl, by omega⟩ ?_) | refine Exists.intro _ (And.intro rfl ?_) | refine And.intro rfl ?_ | refine And.intro ⟨rfl, rfl⟩ ?_ | ((refine And.intro (fun _ => ?_) (fun _ => ?_)) <;> try (exfalso; omega))))
  -- the leaders
  refine loop_rule (α := Nat) (fun i => i ≤ n)
    (fun i => [(2, .ptr 0 0), (3, .ptr 1 0), (4, .ptr 2 0), (6, vi n), (7, .ptr 3 0), (9, vi i)])
    (fun i => [.pc (pcl n ma) T_i_Partition, .pc (pcl n mb) T_i_Partition, .pc (pcl 0 (List.replicate 8 0)) T_i_Partition, .pc (il (oI (ldI (gd ma) (gd mb) n i)) 16) T_a16q_int64]) (fun i => n - i) 0 [0, 1, 2, 3]
    (by omega) ⟨⟨rfl, rfl, rfl, rfl, rfl, rfl, trivial⟩, ⟨rfl, rfl, rfl, by rw [upto_all]; rfl, trivial⟩, rfl⟩ ?_
  rintro i g2 hi
  by_cases h8 : i ≠ n
  · have hil : i < n := by omega
    have c1 : gd ma (n + i) < 8 := ha (n + i)
    have c1' := ha (n + i)
    have c2 : gd mb i < 8 := hb i
    have c2' := hb i
    have e1 : IntKind.i64.wrap ((n : Int) + (i : Int)) = ((n + i : Nat) : Int) := wC (by omega) (by omega)
    have e2 : IntKind.i64.wrap (8 + ((gd mb i : Nat) : Int)) = ((8 + gd mb i : Nat) : Int) := wC (by omega) (by omega)
    generalize hG : ldI (gd ma) (gd mb) n i = G
    have hG1 : ∀ l, l < 16 → G l < 16 := fun l hl => by rw [← hG]; exact hld i l hl
    have o1 := hG1 (gd ma (n + i)) (by omega)
    have o2 := hG1 (8 + gd mb i) (by omega)
    have hnx : ldI (gd ma) (gd mb) n (i + 1) = ldU G (G (gd ma (n + i))) (G (8 + gd mb i)) := by rw [← hG]; rfl
    have h1at : (il (oI G) 16)[gd ma (n + i)]? = some (.int .i64 ((G (gd ma (n + i)) : Nat) : Int)) := il_at (by omega)
    have h2at : (il (oI G) 16)[8 + gd mb i]? = some (.int .i64 ((G (8 + gd mb i) : Nat) : Int)) := il_at (by omega)
    (repeat' (first | refine Exists.intro _ (And.intro e1 ?_) | refine Exists.intro _ (And.intro e2 ?_) | refine Exists.intro _ (And.intro (pcl_at (m := ma) (i := n + i) (by omega)) ?_) | refine Exists.intro _ (And.intro (pcl_at (m := mb) (i := i) (by omega)) ?_) | refine Exists.intro _ (And.intro h1at ?_) | refine Exists.intro _ (And.intro h2at ?_) | refine And.intro (neI rfl) ?_ | refine And.intro ⟨rfl, leR rfl, onesR rfl⟩ ?_ | refine And.intro ⟨rfl, leR rfl⟩ ?_ | refine draw_rule2 hfol (fun KK hKK => ?_) | refine hKK _ _ _ (by kernel_rfl) ?_ | refine region_rule (fun KK hKK => ?_) | refine hKK _ _ ?_ | refine And.intro (Eq.refl true) ?_ | refine Exists.intro _ (And.intro (wI (by omega)) ?_) | refine Exists.intro _ (And.intro (wU (by omega)) ?_) | refine Exists.intro _ (And.intro ⟨rfl, by omega⟩ ?_) | refine Exists.intro _ (And.intro rfl ?_) | refine And.intro rfl ?_ | refine And.intro ⟨rfl, rfl⟩ ?_ | ((refine And.intro (fun _ => ?_) (fun _ => ?_)) <;> try (exfalso; omega))))
    generalize G (gd ma (n + i)) = one at hnx o1 ⊢
    generalize G (8 + gd mb i) = two at hnx o2 ⊢
    refine loop_rule (α := Nat) (fun k => k ≤ 16)
      (fun k => [(2, .ptr 0 0), (3, .ptr 1 0), (4, .ptr 2 0), (6, vi n), (7, .ptr 3 0), (9, vi i), (10, vi one), (11, vi two), (12, vi k)])
      (fun k => [.pc (pcl n ma) T_i_Partition, .pc (pcl n mb) T_i_Partition, .pc (pcl 0 (List.replicate 8 0)) T_i_Partition, .pc (il (oI (upto k (ldU G one two) G)) 16) T_a16q_int64]) (fun k => 16 - k) 0 [0, 1, 2, 3]
      (by omega) ⟨⟨rfl, rfl, rfl, rfl, rfl, rfl, rfl, rfl, rfl, trivial⟩, ⟨rfl, rfl, rfl, by rw [upto_0]; rfl, trivial⟩, rfl⟩ ?_
    rintro k g3 hk
    by_cases h7 : k = 16
    · subst h7
      (repeat' (first | refine And.intro (neI rfl) ?_ | refine And.intro ⟨rfl, leR rfl, onesR rfl⟩ ?_ | refine And.intro ⟨rfl, leR rfl⟩ ?_ | refine draw_rule2 hfol (fun KK hKK => ?_) | refine hKK _ _ _ (by kernel_rfl) ?_ | refine region_rule (fun KK hKK => ?_) | refine hKK _ _ ?_ | refine And.intro (Eq.refl true) ?_ | refine Exists.intro _ (And.intro (wI (by omega)) ?_) | refine Exists.intro _ (And.intro (wU (by omega)) ?_) | refine Exists.intro _ (And.intro ⟨rfl, by omega⟩ ?_) | refine Exists.intro _ (And.intro rfl ?_) | refine And.intro rfl ?_ | refine And.intro ⟨rfl, rfl⟩ ?_ | ((refine And.intro (fun _ => ?_) (fun _ => ?_)) <;> try (exfalso; omega))))
      refine Exists.intro (i + 1) (Exists.intro [0, 1, 2, 3] (And.intro ⟨by omega, (by show n - (i + 1) < n - i; omega)⟩ ⟨⟨rfl, rfl, rfl, rfl, rfl, rfl, trivial⟩, ⟨rfl, rfl, rfl, by rw [hnx, upto_all]; rfl, trivial⟩, rfl⟩))
    have hkl : k < 16 := by omega
    have hGk := hG1 k hkl
    have hat : (il (oI (upto k (ldU G one two) G)) 16)[k]? = some (.int .i64 ((G k : Nat) : Int)) := (il_at hkl).trans (by simp [oI, upto])
    by_cases he : G k = two
    · have hst : (il (oI (upto k (ldU G one two) G)) 16).set k (.int .i64 ((one : Nat) : Int)) = il (oI (upto (k + 1) (ldU G one two) G)) 16 := il_set fun j _ => by
        rw [oI_upto, show ldU G one two k = one from if_pos he]
      (repeat' (first | refine Exists.intro _ (And.intro hat ?_) | refine Exists.intro (il (oI (upto (k + 1) (ldU G one two) G)) 16) (And.intro ⟨by rw [il_len]; omega, hst⟩ ?_) | refine And.intro (neI rfl) ?_ | refine And.intro ⟨rfl, leR rfl, onesR rfl⟩ ?_ | refine And.intro ⟨rfl, leR rfl⟩ ?_ | refine draw_rule2 hfol (fun KK hKK => ?_) | refine hKK _ _ _ (by kernel_rfl) ?_ | refine region_rule (fun KK hKK => ?_) | refine hKK _ _ ?_ | refine And.intro (Eq.refl true) ?_ | refine Exists.intro _ (And.intro (wI (by omega)) ?_) | refine Exists.intro _ (And.intro (wU (by omega)) ?_) | refine Exists.intro _ (And.intro ⟨rfl, by omega⟩ ?_) | refine Exists.intro _ (And.intro rfl ?_) | refine And.intro rfl ?_ | refine And.intro ⟨rfl, rfl⟩ ?_ | ((refine And.intro (fun _ => ?_) (fun _ => ?_)) <;> try (exfalso; omega))))
      all_goals refine Exists.intro (k + 1) (Exists.intro [0, 1, 2, 3] (And.intro ⟨by omega, (by show 16 - (k + 1) < 16 - k; omega)⟩ ⟨⟨rfl, rfl, rfl, rfl, rfl, rfl, rfl, rfl, rfl, trivial⟩, ⟨rfl, rfl, rfl, rfl, trivial⟩, rfl⟩))
    · have hst : il (oI (upto (k + 1) (ldU G one two) G)) 16 = il (oI (upto k (ldU G one two) G)) 16 := il_congr fun j _ => by
        rw [oI_upto]
        split
        · rename_i h; subst h; simp only [oI, upto]; rw [if_neg (by omega), show ldU G one two j = G j from if_neg he]
        · rfl
      (repeat' (first | refine Exists.intro _ (And.intro hat ?_) | refine And.intro (neI rfl) ?_ | refine And.intro ⟨rfl, leR rfl, onesR rfl⟩ ?_ | refine And.intro ⟨rfl, leR rfl⟩ ?_ | refine draw_rule2 hfol (fun KK hKK => ?_) | refine hKK _ _ _ (by kernel_rfl) ?_ | refine region_rule (fun KK hKK => ?_) | refine hKK _ _ ?_ | refine And.intro (Eq.refl true) ?_ | refine Exists.intro _ (And.intro (wI (by omega)) ?_) | refine Exists.intro _ (And.intro (wU (by omega)) ?_) | refine Exists.intro _ (And.intro ⟨rfl, by omega⟩ ?_) | refine Exists.intro _ (And.intro rfl ?_) | refine And.intro rfl ?_ | refine And.intro ⟨rfl, rfl⟩ ?_ | ((refine And.intro (fun _ => ?_) (fun _ => ?_)) <;> try (exfalso; omega))))
      refine Exists.intro (k + 1) (Exists.intro [0, 1, 2, 3] (And.intro ⟨by omega, (by show 16 - (k + 1) < 16 - k; omega)⟩ ⟨⟨rfl, rfl, rfl, rfl, rfl, rfl, rfl, rfl, rfl, trivial⟩, ⟨rfl, rfl, rfl, by rw [hst]; rfl, trivial⟩, rfl⟩))
  have h8 : i = n := by omega
  subst h8
  generalize hL : ldI (gd ma) (gd mb) i i = L
  have hL1 : ∀ l, l < 16 → L l < 16 := fun l hl => by rw [← hL]; exact hld i l hl
  have hgu : ∀ k, k < i → gM (gd ma) (gd mb) i k = ((L (gd ma k) : Nat) : Int) := fun k hk => by unfold gM; rw [hL, show sL (gd ma) (gd mb) i k = gd ma k from if_pos hk]
  have hgl : ∀ k, ¬ k < i → gM (gd ma) (gd mb) i k = ((L (8 + gd mb k) : Nat) : Int) := fun k hk => by unfold gM; rw [hL, show sL (gd ma) (gd mb) i k = 8 + gd mb k from if_neg hk]
  (repeat' (first | refine Exists.intro (bl (fun _ => false) 16) (And.intro ⟨leR rfl, rfl⟩ ?_) | refine And.intro (neI rfl) ?_ | refine And.intro ⟨rfl, leR rfl, onesR rfl⟩ ?_ | refine And.intro ⟨rfl, leR rfl⟩ ?_ | refine draw_rule2 hfol (fun KK hKK => ?_) | refine hKK _ _ _ (by kernel_rfl) ?_ | refine region_rule (fun KK hKK => ?_) | refine hKK _ _ ?_ | refine And.intro (Eq.refl true) ?_ | refine Exists.intro _ (And.intro (wI (by omega)) ?_) | refine Exists.intro _ (And.intro (wU (by omega)) ?_) | refine Exists.intro _ (And.intro ⟨rfl, by omega⟩ ?_) | refine Exists.intro _ (And.intro rfl ?_) | refine And.intro rfl ?_ | refine And.intro ⟨rfl, rfl⟩ ?_ | ((refine And.intro (fun _ => ?_) (fun _ => ?_)) <;> try (exfalso; omega))))
  -- the labels of the upper points
  refine loop_rule (α := Nat) (fun k => k ≤ i)
    (fun k => [(2, .ptr 0 0), (3, .ptr 1 0), (4, .ptr 2 0), (6, vi i), (7, .ptr 3 0), (13, .sl 5), (14, .ptr 4 0), (15, vi k)])
    (fun k => [.pc (pcl i ma) T_i_Partition, .pc (pcl i mb) T_i_Partition, .pc (pcl 0 (List.replicate 8 0)) T_i_Partition, .pc (il (oI L) 16) T_a16q_int64, .pc (bl (fun _ => false) 16) T_a16q_bool, .pr T_int64 1 k (il (gM (gd ma) (gd mb) i) k)]) (fun k => i - k) 0 [0, 1, 2, 3, 5, 4]
    (by omega) ⟨⟨rfl, rfl, rfl, rfl, rfl, rfl, rfl, rfl, trivial⟩, ⟨rfl, rfl, rfl, rfl, rfl, rfl, trivial⟩, rfl⟩ ?_
  rintro k g3 hk
  by_cases h7 : k ≠ i
  · have hkl : k < i := by omega
    have c1 : gd ma k < 8 := ha k
    have c1' := ha k
    have hs := hgu k hkl
    have o1 := hL1 (gd ma k) (by omega)
    (repeat' (first | refine Exists.intro _ (And.intro (pcl_at (m := ma) (i := k) (by omega)) ?_) | refine Exists.intro _ (And.intro (show (il (oI L) 16)[gd ma k]? = some (.int .i64 ((L (gd ma k) : Nat) : Int)) from il_at (by omega)) ?_) | refine And.intro ⟨rfl, mkL rfl⟩ ?_ | refine Exists.intro [Value.int .i64 ((L (gd ma k) : Nat) : Int)] (And.intro (row1s (mkL' rfl)) ?_) | refine Exists.intro (il (gM (gd ma) (gd mb) i) (k + 1)) (And.intro ⟨rfl, onesR rfl, by omega, by omega, (by rw [← hs]; exact il_succ)⟩ ?_) | refine And.intro (neI rfl) ?_ | refine And.intro ⟨rfl, leR rfl, onesR rfl⟩ ?_ | refine And.intro ⟨rfl, leR rfl⟩ ?_ | refine draw_rule2 hfol (fun KK hKK => ?_) | refine hKK _ _ _ (by kernel_rfl) ?_ | refine region_rule (fun KK hKK => ?_) | refine hKK _ _ ?_ | refine And.intro (Eq.refl true) ?_ | refine Exists.intro _ (And.intro (wI (by omega)) ?_) | refine Exists.intro _ (And.intro (wU (by omega)) ?_) | refine Exists.intro _ (And.intro ⟨rfl, by omega⟩ ?_) | refine Exists.intro _ (And.intro rfl ?_) | refine And.intro rfl ?_ | refine And.intro ⟨rfl, rfl⟩ ?_ | ((refine And.intro (fun _ => ?_) (fun _ => ?_)) <;> try (exfalso; omega))))
    refine Exists.intro (k + 1) (Exists.intro [0, 1, 2, 3, 4, 7] (And.intro ⟨by omega, (by show i - (k + 1) < i - k; omega)⟩ ⟨⟨rfl, rfl, rfl, rfl, rfl, rfl, rfl, rfl, trivial⟩, ⟨rfl, rfl, rfl, rfl, rfl, rfl, trivial⟩, rfl⟩))
  have h7 : k = i := by omega
  subst h7
  (repeat' (first | refine And.intro (neI rfl) ?_ | refine And.intro ⟨rfl, leR rfl, onesR rfl⟩ ?_ | refine And.intro ⟨rfl, leR rfl⟩ ?_ | refine draw_rule2 hfol (fun KK hKK => ?_) | refine hKK _ _ _ (by kernel_rfl) ?_ | refine region_rule (fun KK hKK => ?_) | refine hKK _ _ ?_ | refine And.intro (Eq.refl true) ?_ | refine Exists.intro _ (And.intro (wI (by omega)) ?_) | refine Exists.intro _ (And.intro (wU (by omega)) ?_) | refine Exists.intro _ (And.intro ⟨rfl, by omega⟩ ?_) | refine Exists.intro _ (And.intro rfl ?_) | refine And.intro rfl ?_ | refine And.intro ⟨rfl, rfl⟩ ?_ | ((refine And.intro (fun _ => ?_) (fun _ => ?_)) <;> try (exfalso; omega))))
  -- the labels of the lower points
  refine loop_rule (α := Nat) (fun j => j ≤ k)
    (fun j => [(2, .ptr 0 0), (3, .ptr 1 0), (4, .ptr 2 0), (6, vi k), (7, .ptr 3 0), (13, .sl 5), (14, .ptr 4 0), (16, vi j)])
    (fun j => [.pc (pcl k ma) T_i_Partition, .pc (pcl k mb) T_i_Partition, .pc (pcl 0 (List.replicate 8 0)) T_i_Partition, .pc (il (oI L) 16) T_a16q_int64, .pc (bl (fun _ => false) 16) T_a16q_bool, .pr T_int64 1 (k + j) (il (gM (gd ma) (gd mb) k) (k + j))]) (fun j => k - j) 0 [0, 1, 2, 3, 4, 5]
    (by omega) ⟨⟨rfl, rfl, rfl, rfl, rfl, rfl, rfl, rfl, trivial⟩, ⟨rfl, rfl, rfl, rfl, rfl, rfl, trivial⟩, rfl⟩ ?_
  rintro j g4 hj
  by_cases h6 : j ≠ k
  · have hjl : j < k := by omega
    have c1 : gd mb (k + j) < 8 := hb (k + j)
    have c1' := hb (k + j)
    have hs := hgl (k + j) (by omega)
    have o1 := hL1 (8 + gd mb (k + j)) (by omega)
    have e1 : IntKind.i64.wrap ((k : Int) + (j : Int)) = ((k + j : Nat) : Int) := wC (by omega) (by omega)
    have e2 : IntKind.i64.wrap (8 + ((gd mb (k + j) : Nat) : Int)) = ((8 + gd mb (k + j) : Nat) : Int) := wC (by omega) (by omega)
    (repeat' (first | refine Exists.intro _ (And.intro e1 ?_) | refine Exists.intro _ (And.intro e2 ?_) | refine Exists.intro _ (And.intro (pcl_at (m := mb) (i := k + j) (by omega)) ?_) | refine Exists.intro _ (And.intro (show (il (oI L) 16)[8 + gd mb (k + j)]? = some (.int .i64 ((L (8 + gd mb (k + j)) : Nat) : Int)) from il_at (by omega)) ?_) | refine And.intro ⟨rfl, mkL rfl⟩ ?_ | refine Exists.intro [Value.int .i64 ((L (8 + gd mb (k + j)) : Nat) : Int)] (And.intro (row1s (mkL' rfl)) ?_) | refine Exists.intro (il (gM (gd ma) (gd mb) k) (k + j + 1)) (And.intro ⟨rfl, onesR rfl, by omega, by omega, (by rw [← hs]; exact il_succ)⟩ ?_) | refine And.intro (neI rfl) ?_ | refine And.intro ⟨rfl, leR rfl, onesR rfl⟩ ?_ | refine And.intro ⟨rfl, leR rfl⟩ ?_ | refine draw_rule2 hfol (fun KK hKK => ?_) | refine hKK _ _ _ (by kernel_rfl) ?_ | refine region_rule (fun KK hKK => ?_) | refine hKK _ _ ?_ | refine And.intro (Eq.refl true) ?_ | refine Exists.intro _ (And.intro (wI (by omega)) ?_) | refine Exists.intro _ (And.intro (wU (by omega)) ?_) | refine Exists.intro _ (And.intro ⟨rfl, by omega⟩ ?_) | refine Exists.intro _ (And.intro rfl ?_) | refine And.intro rfl ?_ | refine And.intro ⟨rfl, rfl⟩ ?_ | ((refine And.intro (fun _ => ?_) (fun _ => ?_)) <;> try (exfalso; omega))))
    refine Exists.intro (j + 1) (Exists.intro [0, 1, 2, 3, 4, 7] (And.intro ⟨by omega, (by show k - (j + 1) < k - j; omega)⟩ ⟨⟨rfl, rfl, rfl, rfl, rfl, rfl, rfl, rfl, trivial⟩, ⟨rfl, rfl, rfl, rfl, rfl, rfl, trivial⟩, rfl⟩))
  have h6 : j = k := by omega
  subst h6
  have hgv : ∀ x, gM (gd ma) (gd mb) j x = ((L (sL (gd ma) (gd mb) j x) : Nat) : Int) := fun x => by unfold gM; rw [hL]
  have hsl : ∀ x, sL (gd ma) (gd mb) j x < 16 := fun x => by have h1 : gd ma x < 8 := ha x; have h2 : gd mb x < 8 := hb x; unfold sL; split <;> omega
  (repeat' (first | refine And.intro (neI rfl) ?_ | refine And.intro ⟨rfl, leR rfl, onesR rfl⟩ ?_ | refine And.intro ⟨rfl, leR rfl⟩ ?_ | refine draw_rule2 hfol (fun KK hKK => ?_) | refine hKK _ _ _ (by kernel_rfl) ?_ | refine region_rule (fun KK hKK => ?_) | refine hKK _ _ ?_ | refine And.intro (Eq.refl true) ?_ | refine Exists.intro _ (And.intro (wI (by omega)) ?_) | refine Exists.intro _ (And.intro (wU (by omega)) ?_) | refine Exists.intro _ (And.intro ⟨rfl, by omega⟩ ?_) | refine Exists.intro _ (And.intro rfl ?_) | refine And.intro rfl ?_ | refine And.intro ⟨rfl, rfl⟩ ?_ | ((refine And.intro (fun _ => ?_) (fun _ => ?_)) <;> try (exfalso; omega))))
  -- what is kept
  refine loop_rule (α := Nat) (fun x => x ≤ 2 * j)
    (fun x => [(2, .ptr 0 0), (3, .ptr 1 0), (4, .ptr 2 0), (6, vi j), (7, .ptr 3 0), (13, .sl 5), (14, .ptr 4 0), (17, vi x)])
    (fun x => [.pc (pcl j ma) T_i_Partition, .pc (pcl j mb) T_i_Partition, .pc (pcl 0 (List.replicate 8 0)) T_i_Partition, .pc (il (oI L) 16) T_a16q_int64, .pc (bl (kp0 (gd ma) (gd mb) j x) 16) T_a16q_bool, .pr T_int64 1 (2 * j) (il (gM (gd ma) (gd mb) j) (2 * j))]) (fun x => 2 * j - x) 0 [0, 1, 2, 3, 4, 5]
    (by omega) ⟨⟨rfl, rfl, rfl, rfl, rfl, rfl, rfl, rfl, trivial⟩, ⟨rfl, rfl, rfl, rfl, rfl, by rw [show j + j = 2 * j from by omega]; rfl, trivial⟩, rfl⟩ ?_
  rintro x g5 hx
  by_cases h5 : x ≠ 2 * j
  · have hxl : x < 2 * j := by omega
    have o1 := hL1 _ (hsl x)
    have hat : (il (gM (gd ma) (gd mb) j) (2 * j))[x]? = some (.int .i64 ((L (sL (gd ma) (gd mb) j x) : Nat) : Int)) := (il_at hxl).trans (by rw [hgv])
    have hst : (bl (kp0 (gd ma) (gd mb) j x) 16).set (L (sL (gd ma) (gd mb) j x)) (.bool true) = bl (kp0 (gd ma) (gd mb) j (x + 1)) 16 := bl_set fun y _ => by rw [kp0_succ, hL]
    (repeat' (first | refine Exists.intro _ (And.intro hat ?_) | refine Exists.intro (bl (kp0 (gd ma) (gd mb) j (x + 1)) 16) (And.intro ⟨by rw [bl_len]; omega, hst⟩ ?_) | refine And.intro (neI rfl) ?_ | refine And.intro ⟨rfl, leR rfl, onesR rfl⟩ ?_ | refine And.intro ⟨rfl, leR rfl⟩ ?_ | refine draw_rule2 hfol (fun KK hKK => ?_) | refine hKK _ _ _ (by kernel_rfl) ?_ | refine region_rule (fun KK hKK => ?_) | refine hKK _ _ ?_ | refine And.intro (Eq.refl true) ?_ | refine Exists.intro _ (And.intro (wI (by omega)) ?_) | refine Exists.intro _ (And.intro (wU (by omega)) ?_) | refine Exists.intro _ (And.intro ⟨rfl, by omega⟩ ?_) | refine Exists.intro _ (And.intro rfl ?_) | refine And.intro rfl ?_ | refine And.intro ⟨rfl, rfl⟩ ?_ | ((refine And.intro (fun _ => ?_) (fun _ => ?_)) <;> try (exfalso; omega))))
    refine Exists.intro (x + 1) (Exists.intro [0, 1, 2, 3, 4, 5] (And.intro ⟨by omega, (by show 2 * j - (x + 1) < 2 * j - x; omega)⟩ ⟨⟨rfl, rfl, rfl, rfl, rfl, rfl, rfl, rfl, trivial⟩, ⟨rfl, rfl, rfl, rfl, rfl, rfl, trivial⟩, rfl⟩))
  have h5 : x = 2 * j := by omega
  subst h5
  (repeat' (first | refine And.intro (neI rfl) ?_ | refine And.intro ⟨rfl, leR rfl, onesR rfl⟩ ?_ | refine And.intro ⟨rfl, leR rfl⟩ ?_ | refine draw_rule2 hfol (fun KK hKK => ?_) | refine hKK _ _ _ (by kernel_rfl) ?_ | refine region_rule (fun KK hKK => ?_) | refine hKK _ _ ?_ | refine And.intro (Eq.refl true) ?_ | refine Exists.intro _ (And.intro (wI (by omega)) ?_) | refine Exists.intro _ (And.intro (wU (by omega)) ?_) | refine Exists.intro _ (And.intro ⟨rfl, by omega⟩ ?_) | refine Exists.intro _ (And.intro rfl ?_) | refine And.intro rfl ?_ | refine And.intro ⟨rfl, rfl⟩ ?_ | ((refine And.intro (fun _ => ?_) (fun _ => ?_)) <;> try (exfalso; omega))))
  -- what is left out
  refine loop_rule (α := Nat) (fun x => x ≤ j)
    (fun x => [(2, .ptr 0 0), (3, .ptr 1 0), (4, .ptr 2 0), (6, vi j), (7, .ptr 3 0), (13, .sl 5), (14, .ptr 4 0), (18, vi ((ctI (gd ma) (gd mb) j x).2 : Nat)), (19, vi x)])
    (fun x => [.pc (pcl j ma) T_i_Partition, .pc (pcl j mb) T_i_Partition, .pc (pcl 0 (List.replicate 8 0)) T_i_Partition, .pc (il (oI L) 16) T_a16q_int64, .pc (bl (ctI (gd ma) (gd mb) j x).1 16) T_a16q_bool, .pr T_int64 1 (2 * j) (il (gM (gd ma) (gd mb) j) (2 * j))]) (fun x => j - x) 0 [0, 1, 2, 3, 4, 5]
    (by omega) ⟨⟨rfl, rfl, rfl, rfl, rfl, rfl, rfl, rfl, rfl, trivial⟩, ⟨rfl, rfl, rfl, rfl, rfl, rfl, trivial⟩, rfl⟩ ?_
  rintro x g6 hx
  by_cases h4 : x = j
  · subst h4
    have ht := s_told (gM (gd ma) (gd mb) x) x hn
    (repeat' (first | refine (ht).read [5] rfl ⟨rfl, trivial⟩ ?_ | refine Exists.intro (pcl (x : Int) (nm (gM (gd ma) (gd mb) x) x)) (And.intro ⟨pcl_len nm_len, pcl_all nm_len⟩ ?_) | refine And.intro ⟨pcl_len nm_len, leR rfl, pcl_ones⟩ ?_ | refine Exists.intro (pcl (x : Int) (nm (gM (gd ma) (gd mb) x) x)) (And.intro ⟨leR rfl, spl0 (leR rfl)⟩ ?_) | refine And.intro (neI rfl) ?_ | refine And.intro ⟨rfl, leR rfl, onesR rfl⟩ ?_ | refine And.intro ⟨rfl, leR rfl⟩ ?_ | refine draw_rule2 hfol (fun KK hKK => ?_) | refine hKK _ _ _ (by kernel_rfl) ?_ | refine region_rule (fun KK hKK => ?_) | refine hKK _ _ ?_ | refine And.intro (Eq.refl true) ?_ | refine Exists.intro _ (And.intro (wI (by omega)) ?_) | refine Exists.intro _ (And.intro (wU (by omega)) ?_) | refine Exists.intro _ (And.intro ⟨rfl, by omega⟩ ?_) | refine Exists.intro _ (And.intro rfl ?_) | refine And.intro rfl ?_ | refine And.intro ⟨rfl, rfl⟩ ?_ | ((refine And.intro (fun _ => ?_) (fun _ => ?_)) <;> try (exfalso; omega))))
    exact Exists.intro [] (And.intro (rfl) (And.intro trivial rfl))
  have hxl : x < j := by omega
  have c1 : gd ma (j + x) < 8 := ha (j + x)
  have c1' := ha (j + x)
  have o1 := hL1 (gd ma (j + x)) (by omega)
  have e1 : IntKind.i64.wrap ((j : Int) + (x : Int)) = ((j + x : Nat) : Int) := wC (by omega) (by omega)
  have hle := ctI_le (a := gd ma) (b := gd mb) (n := j) x
  have hct : ctI (gd ma) (gd mb) j (x + 1) = if (ctI (gd ma) (gd mb) j x).1 (L (gd ma (j + x))) = true then ctI (gd ma) (gd mb) j x else ((fun l => if l = L (gd ma (j + x)) then true else (ctI (gd ma) (gd mb) j x).1 l), (ctI (gd ma) (gd mb) j x).2 + 1) := by rw [← hL]; rfl
  have hkat : (bl (ctI (gd ma) (gd mb) j x).1 16)[L (gd ma (j + x))]? = some (.bool ((ctI (gd ma) (gd mb) j x).1 (L (gd ma (j + x))))) := bl_at o1
  cases hkk : (ctI (gd ma) (gd mb) j x).1 (L (gd ma (j + x))) with
  | true =>
    rw [hkk, if_pos rfl] at hct
    rw [hkk] at hkat
    (repeat' (first | refine Exists.intro _ (And.intro e1 ?_) | refine Exists.intro _ (And.intro (pcl_at (m := ma) (i := j + x) (by omega)) ?_) | refine Exists.intro _ (And.intro (show (il (oI L) 16)[gd ma (j + x)]? = some (.int .i64 ((L (gd ma (j + x)) : Nat) : Int)) from il_at (by omega)) ?_) | refine Exists.intro _ (And.intro hkat ?_) | refine And.intro (neI rfl) ?_ | refine And.intro ⟨rfl, leR rfl, onesR rfl⟩ ?_ | refine And.intro ⟨rfl, leR rfl⟩ ?_ | refine draw_rule2 hfol (fun KK hKK => ?_) | refine hKK _ _ _ (by kernel_rfl) ?_ | refine region_rule (fun KK hKK => ?_) | refine hKK _ _ ?_ | refine And.intro (Eq.refl true) ?_ | refine Exists.intro _ (And.intro (wI (by omega)) ?_) | refine Exists.intro _ (And.intro (wU (by omega)) ?_) | refine Exists.intro _ (And.intro ⟨rfl, by omega⟩ ?_) | refine Exists.intro _ (And.intro rfl ?_) | refine And.intro rfl ?_ | refine And.intro ⟨rfl, rfl⟩ ?_ | ((refine And.intro (fun _ => ?_) (fun _ => ?_)) <;> try (exfalso; omega))))
    refine Exists.intro (x + 1) (Exists.intro [0, 1, 2, 3, 4, 5] (And.intro ⟨by omega, (by show j - (x + 1) < j - x; omega)⟩ ⟨⟨rfl, rfl, rfl, rfl, rfl, rfl, rfl, by rw [hct]; rfl, rfl, trivial⟩, ⟨rfl, rfl, rfl, rfl, by rw [hct]; rfl, rfl, trivial⟩, rfl⟩))
  | false =>
    rw [hkk, if_neg (by simp)] at hct
    rw [hkk] at hkat
    have hst : (bl (ctI (gd ma) (gd mb) j x).1 16).set (L (gd ma (j + x))) (.bool true) = bl (fun l => if l = L (gd ma (j + x)) then true else (ctI (gd ma) (gd mb) j x).1 l) 16 := bl_set fun y _ => rfl
    (repeat' (first | refine Exists.intro _ (And.intro e1 ?_) | refine Exists.intro _ (And.intro (pcl_at (m := ma) (i := j + x) (by omega)) ?_) | refine Exists.intro _ (And.intro (show (il (oI L) 16)[gd ma (j + x)]? = some (.int .i64 ((L (gd ma (j + x)) : Nat) : Int)) from il_at (by omega)) ?_) | refine Exists.intro _ (And.intro hkat ?_) | refine Exists.intro (bl (fun l => if l = L (gd ma (j + x)) then true else (ctI (gd ma) (gd mb) j x).1 l) 16) (And.intro ⟨by rw [bl_len]; omega, hst⟩ ?_) | refine And.intro (neI rfl) ?_ | refine And.intro ⟨rfl, leR rfl, onesR rfl⟩ ?_ | refine And.intro ⟨rfl, leR rfl⟩ ?_ | refine draw_rule2 hfol (fun KK hKK => ?_) | refine hKK _ _ _ (by kernel_rfl) ?_ | refine region_rule (fun KK hKK => ?_) | refine hKK _ _ ?_ | refine And.intro (Eq.refl true) ?_ | refine Exists.intro _ (And.intro (wI (by omega)) ?_) | refine Exists.intro _ (And.intro (wU (by omega)) ?_) | refine Exists.intro _ (And.intro ⟨rfl, by omega⟩ ?_) | refine Exists.intro _ (And.intro rfl ?_) | refine And.intro rfl ?_ | refine And.intro ⟨rfl, rfl⟩ ?_ | ((refine And.intro (fun _ => ?_) (fun _ => ?_)) <;> try (exfalso; omega))))
    refine Exists.intro (x + 1) (Exists.intro [0, 1, 2, 3, 4, 5] (And.intro ⟨by omega, (by show j - (x + 1) < j - x; omega)⟩ ⟨⟨rfl, rfl, rfl, rfl, rfl, rfl, rfl, viR (by rw [hct]; omega), rfl, trivial⟩, ⟨rfl, rfl, rfl, rfl, by rw [hct]; rfl, rfl, trivial⟩, rfl⟩))
end Go.Proofs.Ytpangmameocfmaa.VE.P
