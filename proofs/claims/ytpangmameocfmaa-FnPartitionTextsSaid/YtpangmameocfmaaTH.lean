/- Contracts of functions of the given program, for all arguments that the contract names; see each theorem. -/
import Derived.Test.YtpangmameocfmaaTB
import Derived.Test.YtpangmameocfmaaU3a
import Derived.Test.YtpangmameocfmaaTG
import Derived.Test.YtpangmameocfmaaVE3
set_option linter.all false
namespace Go.Proofs.Ytpangmameocfmaa.VE.P
open Go
set_option maxHeartbeats 800000
set_option maxRecDepth 100000

/-! what 'named' answers hangs on the kernel alone -/
theorem nmF_congr {g h : Nat → Int} {i : Nat} : ∀ {l : List Nat} {b : Nat}, (∀ j ∈ l, g i = g j ↔ h i = h j) → nmF (g i) (l.map g) b = nmF (h i) (l.map h) b
  | [], _, _ => rfl
  | q :: r, b, hk => by
    simp only [List.map_cons, nmF]
    have hq := hk q (by simp)
    by_cases e : g i = g q
    · rw [if_pos e, if_pos (hq.1 e)]
    · rw [if_neg e, if_neg (fun e2 => e (hq.2 e2))]
      exact nmF_congr fun j hj => hk j (by simp [hj])
theorem nmL_congr {g h : Nat → Int} {N : Nat} (hk : ∀ i j, i < N → j < N → (g i = g j ↔ h i = h j)) : ∀ (d i : Nat) (l : List Nat) (out : List Nat), (∀ j ∈ l, j < N) → i + d ≤ N → nmL g d i (l.map g) out = nmL h d i (l.map h) out
  | 0, _, _, _, _, _ => rfl
  | d + 1, i, l, out, hl, hd => by
    have hf := nmF_congr (g := g) (h := h) (i := i) (l := l) (b := 0) fun j hj => hk i j (by omega) (hl j hj)
    unfold nmL
    rw [hf]
    cases nmF (h i) (l.map h) 0 with
    | some j => exact nmL_congr hk d (i + 1) l _ hl (by omega)
    | none =>
      simp only [List.length_map]
      have := nmL_congr hk d (i + 1) (l ++ [i]) (out.set i l.length) (fun j hj => by
        rcases List.mem_append.1 hj with h5 | h5
        · exact hl j h5
        · have : j = i := by simpa using h5
          omega) (by omega)
      simpa using this
theorem nm_congr {g h : Nat → Int} {n : Nat} (hk : ∀ i j, i < 2 * n → j < 2 * n → (g i = g j ↔ h i = h j)) : nm g n = nm h n :=
  nmL_congr hk (2 * n) 0 [] _ (fun j hj => by simp at hj) (by omega)

/-! groups: parents, roots, depths -/
structure UF (N : Nat) (p r d : Nat → Nat) : Prop where
  pl : ∀ x, x < N → p x < N
  rl : ∀ x, x < N → r x < N
  rp : ∀ x, x < N → r (p x) = r x
  pr : ∀ x, x < N → p (r x) = r x
  dp : ∀ x, x < N → p x ≠ x → d (p x) < d x
  fx : ∀ x, x < N → p x = x → r x = x
  dr : ∀ x, x < N → d (r x) = 0
theorem UF.rr {N : Nat} {p r d : Nat → Nat} (h : UF N p r d) {x : Nat} (hx : x < N) : r (r x) = r x := h.fx (r x) (h.rl x hx) (h.pr x hx)
theorem UF.init (N : Nat) : UF N (fun x => x) (fun x => x) (fun _ => 0) :=
  ⟨fun _ h => h, fun _ h => h, fun _ _ => rfl, fun _ _ => rfl, fun _ _ h => absurd rfl h, fun _ _ h => h, fun _ _ => rfl⟩
def jnP (p r : Nat → Nat) (i k : Nat) : Nat → Nat := fun x => if x = r i then r k else p x
def jnR (r : Nat → Nat) (i k : Nat) : Nat → Nat := fun x => if r x = r i then r k else r x
def jnD (r d : Nat → Nat) (i k : Nat) : Nat → Nat := fun x => if r i = r k then d x else if r x = r i then d x + 1 else d x
theorem UF.join {N : Nat} {p r d : Nat → Nat} (h : UF N p r d) {i k : Nat} (hi : i < N) (hk : k < N) : UF N (jnP p r i k) (jnR r i k) (jnD r d i k) := by
  have hri := h.rl i hi
  have hrk := h.rl k hk
  have rri := h.rr hi
  have rrk := h.rr hk
  by_cases he : r i = r k
  · -- nothing changes
    have e1 : jnP p r i k = p := by
      funext x; simp only [jnP]; split
      · rename_i hx; rw [hx, h.pr i hi, he]
      · rfl
    have e2 : jnR r i k = r := by
      funext x; simp only [jnR]; split
      · rename_i hx; rw [hx, he]
      · rfl
    have e3 : jnD r d i k = d := by funext x; simp only [jnD, if_pos he]
    rw [e1, e2, e3]; exact h
  · refine ⟨fun x hx => ?_, fun x hx => ?_, fun x hx => ?_, fun x hx => ?_, fun x hx => ?_, fun x hx => ?_, fun x hx => ?_⟩
    · simp only [jnP]; split
      · exact hrk
      · exact h.pl x hx
    · simp only [jnR]; split
      · exact hrk
      · exact h.rl x hx
    · by_cases hx1 : x = r i
      · rw [show jnP p r i k x = r k from if_pos hx1]
        simp only [jnR]
        rw [if_neg (by rw [rrk]; exact fun e => he e.symm), rrk, if_pos (by rw [hx1]; exact rri)]
      · rw [show jnP p r i k x = p x from if_neg hx1]
        simp only [jnR]
        rw [h.rp x hx]
    · by_cases hx1 : r x = r i
      · rw [show jnR r i k x = r k from if_pos hx1]
        simp only [jnP]
        rw [if_neg (fun e => he e.symm), h.pr k hk]
      · rw [show jnR r i k x = r x from if_neg hx1]
        simp only [jnP]
        rw [if_neg hx1, h.pr x hx]
    · intro hne
      by_cases hx1 : x = r i
      · rw [show jnP p r i k x = r k from if_pos hx1]
        simp only [jnD, if_neg he]
        rw [if_neg (by rw [rrk]; exact fun e => he e.symm), h.dr k hk, if_pos (by rw [hx1]; exact rri)]; omega
      · rw [show jnP p r i k x = p x from if_neg hx1] at hne ⊢
        have := h.dp x hx hne
        simp only [jnD, if_neg he]
        rw [h.rp x hx]
        split <;> omega
    · intro hfx
      by_cases hx1 : x = r i
      · rw [show jnP p r i k x = r k from if_pos hx1] at hfx; exact absurd (hx1.symm.trans hfx.symm) he
      · rw [show jnP p r i k x = p x from if_neg hx1] at hfx
        have := h.fx x hx hfx
        simp only [jnR]
        rw [if_neg (fun e => hx1 (this.symm.trans e)), this]
    · by_cases hx1 : r x = r i
      · rw [show jnR r i k x = r k from if_pos hx1]
        simp only [jnD, if_neg he]
        rw [if_neg (by rw [rrk]; exact fun e => he e.symm), h.dr k hk]
      · rw [show jnR r i k x = r x from if_neg hx1]
        simp only [jnD, if_neg he]
        rw [if_neg (by rw [h.rr hx]; exact hx1), h.dr x hx]
theorem jnR_ik {r : Nat → Nat} {i k : Nat} : jnR r i k i = jnR r i k k := by
  simp [jnR]
theorem jnR_eq {r : Nat → Nat} {i k x y : Nat} (h : r x = r y) : jnR r i k x = jnR r i k y := by simp only [jnR]; rw [h]
theorem jnR_phi {φ : Nat → Nat} {N : Nat} {r : Nat → Nat} {i k : Nat} (hi : i < N) (hk : k < N) (h : ∀ x, x < N → φ (r x) = φ x) (he : φ i = φ k) : ∀ x, x < N → φ (jnR r i k x) = φ x := by
  intro x hx
  simp only [jnR]; split
  · rename_i h5; rw [h k hk, ← he, ← h i hi, ← h5, h x hx]
  · exact h x hx

abbrev St := (Nat → Nat) × (Nat → Nat) × (Nat → Nat)
def jn (s : St) (i k : Nat) : St := (jnP s.1 s.2.1 i k, jnR s.2.1 i k, jnD s.2.1 s.2.2 i k)
def g1 (f : Nat → Nat) (o i k : Nat) (s : St) : St := if f i = f k then jn s (o + i) (o + k) else s
def gK (a b : Nat → Nat) (n i : Nat) : Nat → St → St
  | 0, s => s
  | k + 1, s => g1 b n i k (g1 a 0 i k (gK a b n i k s))
def gI (a b : Nat → Nat) (n : Nat) : Nat → St
  | 0 => (fun x => x, fun x => x, fun _ => 0)
  | i + 1 => gK a b n i i (gI a b n i)
def UFs (N : Nat) (s : St) : Prop := UF N s.1 s.2.1 s.2.2
theorem g1_uf {f : Nat → Nat} {o i k N : Nat} {s : St} (h : UFs N s) (hi : o + i < N) (hk : o + k < N) : UFs N (g1 f o i k s) := by
  unfold g1; split
  · exact UF.join h hi hk
  · exact h
theorem gK_uf {a b : Nat → Nat} {n i : Nat} {s : St} (h : UFs (3 * n) s) (hi : i < 2 * n) : ∀ k, k ≤ i → UFs (3 * n) (gK a b n i k s)
  | 0, _ => h
  | k + 1, hk => g1_uf (g1_uf (gK_uf h hi k (by omega)) (by omega) (by omega)) (by omega) (by omega)
theorem gI_uf {a b : Nat → Nat} {n : Nat} : ∀ i, i ≤ 2 * n → UFs (3 * n) (gI a b n i)
  | 0, _ => UF.init _
  | i + 1, hi => gK_uf (gI_uf i (by omega)) (by omega) i (Nat.le_refl i)
theorem g1_eq {f : Nat → Nat} {o i k x y : Nat} {s : St} (h : s.2.1 x = s.2.1 y) : (g1 f o i k s).2.1 x = (g1 f o i k s).2.1 y := by
  unfold g1; split
  · exact jnR_eq h
  · exact h
theorem gK_eq {a b : Nat → Nat} {n i x y : Nat} {s : St} (h : s.2.1 x = s.2.1 y) : ∀ k, (gK a b n i k s).2.1 x = (gK a b n i k s).2.1 y
  | 0 => h
  | k + 1 => g1_eq (g1_eq (gK_eq h k))
theorem g1_on {f : Nat → Nat} {o i k : Nat} {s : St} (h : f i = f k) : (g1 f o i k s).2.1 (o + i) = (g1 f o i k s).2.1 (o + k) := by
  unfold g1; rw [if_pos h]; exact jnR_ik
theorem gK_on {a b : Nat → Nat} {n i : Nat} {s : St} : ∀ K k, k < K → (a i = a k → (gK a b n i K s).2.1 i = (gK a b n i K s).2.1 k) ∧ (b i = b k → (gK a b n i K s).2.1 (n + i) = (gK a b n i K s).2.1 (n + k))
  | 0, k, h => by omega
  | K + 1, k, h => by
    by_cases hk : k = K
    · subst hk
      refine ⟨fun e => ?_, fun e => g1_on e⟩
      have := g1_on (f := a) (o := 0) (i := i) (k := k) (s := gK a b n i k s) e
      rw [Nat.zero_add, Nat.zero_add] at this
      exact g1_eq this
    · have ih := gK_on (a := a) (b := b) (n := n) (i := i) (s := s) K k (by omega)
      exact ⟨fun e => g1_eq (g1_eq (ih.1 e)), fun e => g1_eq (g1_eq (ih.2 e))⟩
theorem gI_on {a b : Nat → Nat} {n : Nat} : ∀ I i k, i < I → k < i → (a i = a k → (gI a b n I).2.1 i = (gI a b n I).2.1 k) ∧ (b i = b k → (gI a b n I).2.1 (n + i) = (gI a b n I).2.1 (n + k))
  | 0, i, k, h, _ => by omega
  | I + 1, i, k, h, hk => by
    by_cases hi : i = I
    · subst hi; exact gK_on i k hk
    · have ih := gI_on (a := a) (b := b) (n := n) I i k (by omega) hk
      exact ⟨fun e => gK_eq (ih.1 e) I, fun e => gK_eq (ih.2 e) I⟩
theorem gI_a {a b : Nat → Nat} {n i k : Nat} (hi : i < 2 * n) (hk : k < 2 * n) (e : a i = a k) : (gI a b n (2 * n)).2.1 i = (gI a b n (2 * n)).2.1 k := by
  rcases Nat.lt_trichotomy i k with h | h | h
  · exact ((gI_on (2 * n) k i hk h).1 e.symm).symm
  · rw [h]
  · exact (gI_on (2 * n) i k hi h).1 e
theorem gI_b {a b : Nat → Nat} {n i k : Nat} (hi : i < 2 * n) (hk : k < 2 * n) (e : b i = b k) : (gI a b n (2 * n)).2.1 (n + i) = (gI a b n (2 * n)).2.1 (n + k) := by
  rcases Nat.lt_trichotomy i k with h | h | h
  · exact ((gI_on (2 * n) k i hk h).2 e.symm).symm
  · rw [h]
  · exact (gI_on (2 * n) i k hi h).2 e
theorem g1_phi {φ f : Nat → Nat} {o i k N : Nat} {s : St} (hi : o + i < N) (hk : o + k < N) (hφ : f i = f k → φ (o + i) = φ (o + k)) (h : ∀ x, x < N → φ (s.2.1 x) = φ x) : ∀ x, x < N → φ ((g1 f o i k s).2.1 x) = φ x := by
  unfold g1; split
  · rename_i e; exact jnR_phi hi hk h (hφ e)
  · exact h
theorem gK_phi {φ a b : Nat → Nat} {n i : Nat} {s : St} (ha : ∀ i k, i < 2 * n → k < 2 * n → a i = a k → φ i = φ k) (hb : ∀ i k, i < 2 * n → k < 2 * n → b i = b k → φ (n + i) = φ (n + k)) (hi : i < 2 * n) (h : ∀ x, x < 3 * n → φ (s.2.1 x) = φ x) : ∀ k, k ≤ i → ∀ x, x < 3 * n → φ ((gK a b n i k s).2.1 x) = φ x
  | 0, _ => h
  | k + 1, hk => g1_phi (by omega) (by omega) (hb i k hi (by omega)) (g1_phi (by omega) (by omega) (fun e => by rw [Nat.zero_add, Nat.zero_add]; exact ha i k hi (by omega) e) (gK_phi ha hb hi h k (by omega)))
theorem gI_phi {φ a b : Nat → Nat} {n : Nat} (ha : ∀ i k, i < 2 * n → k < 2 * n → a i = a k → φ i = φ k) (hb : ∀ i k, i < 2 * n → k < 2 * n → b i = b k → φ (n + i) = φ (n + k)) : ∀ i, i ≤ 2 * n → ∀ x, x < 3 * n → φ ((gI a b n i).2.1 x) = φ x
  | 0, _ => fun _ _ => rfl
  | i + 1, hi => gK_phi ha hb (by omega) (gI_phi ha hb i (by omega)) i (Nat.le_refl i)

/-! the leaders of the reference -/
def ldU (ld : Nat → Nat) (one two : Nat) : Nat → Nat := fun l => if ld l = two then one else ld l
def ldI (a b : Nat → Nat) (n : Nat) : Nat → Nat → Nat
  | 0 => fun l => l
  | i + 1 => ldU (ldI a b n i) (ldI a b n i (a (n + i))) (ldI a b n i (8 + b i))
theorem ldI_on {a b : Nat → Nat} {n : Nat} : ∀ I i, i < I → ldI a b n I (a (n + i)) = ldI a b n I (8 + b i)
  | 0, i, h => by omega
  | I + 1, i, h => by
    by_cases hi : i = I
    · subst hi
      simp only [ldI, ldU, if_true]
      split <;> rfl
    · have := ldI_on (a := a) (b := b) (n := n) I i (by omega)
      simp only [ldI, ldU]
      rw [this]
theorem ldI_psi {ψ a b : Nat → Nat} {n : Nat} : ∀ I, (∀ i, i < I → ψ (a (n + i)) = ψ (8 + b i)) → ∀ l, ψ (ldI a b n I l) = ψ l
  | 0, _, _ => rfl
  | I + 1, h, l => by
    have ih := ldI_psi (ψ := ψ) (a := a) (b := b) (n := n) I fun i hi => h i (by omega)
    simp only [ldI, ldU]
    split
    · rename_i e
      rw [ih, h I (by omega), ← ih (8 + b I), ← e, ih]
    · exact ih l
def lam (a b : Nat → Nat) (n x : Nat) : Nat := if x < 2 * n then a x else 8 + b (x - n)
theorem mul_ker {a b : Nat → Nat} {n : Nat} (ha : ∀ i, i < 2 * n → a i < 8) {x y : Nat} (hx : x < 3 * n) (hy : y < 3 * n) :
    (gI a b n (2 * n)).2.1 x = (gI a b n (2 * n)).2.1 y ↔ ldI a b n n (lam a b n x) = ldI a b n n (lam a b n y) := by
  constructor
  · intro h
    have hφ : ∀ i, i < 2 * n → ldI a b n n (lam a b n (n + i)) = ldI a b n n (8 + b i) := by
      intro i hi
      by_cases hin : i < n
      · rw [show lam a b n (n + i) = a (n + i) from if_pos (by omega)]; exact ldI_on n i hin
      · rw [show lam a b n (n + i) = 8 + b (n + i - n) from if_neg (by omega), Nat.add_sub_cancel_left]
    have hr := gI_phi (φ := fun x => ldI a b n n (lam a b n x)) (a := a) (b := b) (n := n)
      (fun i k hi hk e => by
        show ldI a b n n (lam a b n i) = ldI a b n n (lam a b n k)
        rw [show lam a b n i = a i from if_pos hi, show lam a b n k = a k from if_pos hk, e])
      (fun i k hi hk e => by
        show ldI a b n n (lam a b n (n + i)) = ldI a b n n (lam a b n (n + k))
        rw [hφ i hi, hφ k hk, e]) (2 * n) (Nat.le_refl _)
    have h1 := hr x hx
    have h2 := hr y hy
    rw [h] at h1
    exact h1.symm.trans h2
  · intro h
    let P : Nat → Nat → Prop := fun x l => (x < 2 * n ∧ a x = l) ∨ (∃ i, i < 2 * n ∧ x = n + i ∧ 8 + b i = l)
    have hP : ∀ x y l, P x l → P y l → (gI a b n (2 * n)).2.1 x = (gI a b n (2 * n)).2.1 y := by
      rintro x y l (⟨h1, h2⟩ | ⟨i, h1, h2, h3⟩) (⟨h4, h5⟩ | ⟨k, h4, h5, h6⟩)
      · exact gI_a h1 h4 (h2.trans h5.symm)
      · have := ha x h1; omega
      · have := ha y h4; omega
      · rw [h2, h5]; exact gI_b h1 h4 (by omega)
    have : ∃ ψ : Nat → Nat, ∀ x l, P x l → ψ l = (gI a b n (2 * n)).2.1 x := by
      refine ⟨fun l => @dite Nat (∃ x, P x l) (Classical.propDecidable _) (fun h => (gI a b n (2 * n)).2.1 h.choose) (fun _ => 0), fun x l hp => ?_⟩
      have he : ∃ x, P x l := ⟨x, hp⟩
      simp only [he, dite_true]
      exact hP _ _ l he.choose_spec hp
    obtain ⟨ψ, hψ⟩ := this
    have hl : ∀ x, x < 3 * n → P x (lam a b n x) := by
      intro x hx
      by_cases h1 : x < 2 * n
      · exact Or.inl ⟨h1, (if_pos h1).symm⟩
      · exact Or.inr ⟨x - n, by omega, by omega, (if_neg h1).symm⟩
    have hq := ldI_psi (ψ := ψ) (a := a) (b := b) (n := n) n (fun i hi => by
      rw [hψ (n + i) (a (n + i)) (Or.inl ⟨by omega, rfl⟩), hψ (n + i) (8 + b i) (Or.inr ⟨i, by omega, rfl, rfl⟩)])
    have h1 := hq (lam a b n x)
    have h2 := hq (lam a b n y)
    rw [h] at h1
    rw [← hψ x _ (hl x hx), ← hψ y _ (hl y hy)]
    exact h1.symm.trans h2
end Go.Proofs.Ytpangmameocfmaa.VE.P
namespace Go.Proofs.Ytpangmameocfmaa.VE.P
open Go
set_option maxHeartbeats 800000
set_option maxRecDepth 100000

/-! groups: walks -/
theorem s_newG (N : Nat) (hN : N ≤ 100) : Spec Try.prog n_i_newGroups [vi N] [] (.sl 0) [.pr T_int 1 N (il (oI (fun x => x)) N)] := by
  refine SpecW.of_EV hf_i_newGroups hc_i_newGroups rfl rfl rfl fun w0 B ρ0 _ => ?_
  (repeat' (first | refine And.intro (neI rfl) ?_ | refine And.intro ⟨rfl, leR rfl, onesR rfl⟩ ?_ | refine And.intro ⟨rfl, leR rfl⟩ ?_ | refine draw_rule2 hfol (fun KK hKK => ?_) | refine hKK _ _ _ (by kernel_rfl) ?_ | refine region_rule (fun KK hKK => ?_) | refine hKK _ _ ?_ | refine And.intro (Eq.refl true) ?_ | refine Exists.intro _ (And.intro (wI (by omega)) ?_) | refine Exists.intro _ (And.intro (wU (by omega)) ?_) | refine Exists.intro _ (And.intro ⟨rfl, by omega⟩ ?_) | refine Exists.intro _ (And.intro rfl ?_) | refine And.intro rfl ?_ | refine And.intro ⟨rfl, rfl⟩ ?_ | ((refine And.intro (fun _ => ?_) (fun _ => ?_)) <;> try (exfalso; omega))))
  refine loop_rule (α := Nat) (fun k => k ≤ N) (fun k => [(3, .sl 0), (6, vi N), (7, vi k)]) (fun k => [.pr T_int 1 k (il (oI (fun x => x)) k)]) (fun k => N - k) 0 [0]
    (by omega) ⟨⟨rfl, rfl, rfl, trivial⟩, ⟨rfl, trivial⟩, rfl⟩ ?_
  rintro k g hk
  by_cases h9 : k = N
  · subst h9
    (repeat' (first | refine And.intro (neI rfl) ?_ | refine And.intro ⟨rfl, leR rfl, onesR rfl⟩ ?_ | refine And.intro ⟨rfl, leR rfl⟩ ?_ | refine draw_rule2 hfol (fun KK hKK => ?_) | refine hKK _ _ _ (by kernel_rfl) ?_ | refine region_rule (fun KK hKK => ?_) | refine hKK _ _ ?_ | refine And.intro (Eq.refl true) ?_ | refine Exists.intro _ (And.intro (wI (by omega)) ?_) | refine Exists.intro _ (And.intro (wU (by omega)) ?_) | refine Exists.intro _ (And.intro ⟨rfl, by omega⟩ ?_) | refine Exists.intro _ (And.intro rfl ?_) | refine And.intro rfl ?_ | refine And.intro ⟨rfl, rfl⟩ ?_ | ((refine And.intro (fun _ => ?_) (fun _ => ?_)) <;> try (exfalso; omega))))
    exact Exists.intro [0] (And.intro (rfl) (And.intro ⟨rfl, trivial⟩ rfl))
  have hkl : k < N := by omega
  (repeat' (first | refine And.intro ⟨rfl, mkL rfl⟩ ?_ | refine Exists.intro [Value.int .i64 (oI (fun x => x) k)] (And.intro (row1s (mkL' rfl)) ?_) | refine Exists.intro (il (oI (fun x => x)) (k + 1)) (And.intro ⟨rfl, onesR rfl, by omega, by omega, il_succ⟩ ?_) | refine And.intro (neI rfl) ?_ | refine And.intro ⟨rfl, leR rfl, onesR rfl⟩ ?_ | refine And.intro ⟨rfl, leR rfl⟩ ?_ | refine draw_rule2 hfol (fun KK hKK => ?_) | refine hKK _ _ _ (by kernel_rfl) ?_ | refine region_rule (fun KK hKK => ?_) | refine hKK _ _ ?_ | refine And.intro (Eq.refl true) ?_ | refine Exists.intro _ (And.intro (wI (by omega)) ?_) | refine Exists.intro _ (And.intro (wU (by omega)) ?_) | refine Exists.intro _ (And.intro ⟨rfl, by omega⟩ ?_) | refine Exists.intro _ (And.intro rfl ?_) | refine And.intro rfl ?_ | refine And.intro ⟨rfl, rfl⟩ ?_ | ((refine And.intro (fun _ => ?_) (fun _ => ?_)) <;> try (exfalso; omega))))
  refine Exists.intro (k + 1) (Exists.intro [2] (And.intro ⟨by omega, (by show N - (k + 1) < N - k; omega)⟩ ⟨⟨rfl, rfl, rfl, trivial⟩, ⟨rfl, trivial⟩, rfl⟩))
theorem s_of {N : Nat} {p r d : Nat → Nat} (h : UF N p r d) (hN : N ≤ 100) (x : Nat) (hx : x < N) : Spec Try.prog n_i_groups_of [.sl 0, vi x] [.pr T_int 1 N (il (oI p) N)] (vi (r x : Nat)) [.pr T_int 1 N (il (oI p) N)] := by
  refine SpecW.of_EV hf_i_groups_of hc_i_groups_of rfl rfl rfl fun w0 B ρ0 _ => ?_
  (repeat' (first | refine And.intro (neI rfl) ?_ | refine And.intro ⟨rfl, leR rfl, onesR rfl⟩ ?_ | refine And.intro ⟨rfl, leR rfl⟩ ?_ | refine draw_rule2 hfol (fun KK hKK => ?_) | refine hKK _ _ _ (by kernel_rfl) ?_ | refine region_rule (fun KK hKK => ?_) | refine hKK _ _ ?_ | refine And.intro (Eq.refl true) ?_ | refine Exists.intro _ (And.intro (wI (by omega)) ?_) | refine Exists.intro _ (And.intro (wU (by omega)) ?_) | refine Exists.intro _ (And.intro ⟨rfl, by omega⟩ ?_) | refine Exists.intro _ (And.intro rfl ?_) | refine And.intro rfl ?_ | refine And.intro ⟨rfl, rfl⟩ ?_ | ((refine And.intro (fun _ => ?_) (fun _ => ?_)) <;> try (exfalso; omega))))
  refine loop_rule (α := Nat) (fun y => y < N ∧ r y = r x) (fun y => [(0, .sl 0), (1, vi y)]) (fun _ => [.pr T_int 1 N (il (oI p) N)]) (fun y => d y) x [0]
    ⟨hx, rfl⟩ ⟨⟨rfl, rfl, trivial⟩, ⟨rfl, trivial⟩, rfl⟩ ?_
  rintro y g ⟨hy, hr⟩
  have hpl := h.pl y hy
  by_cases hp : p y = y
  · have hfy := h.fx y hy hp
    (repeat' (first | refine Exists.intro _ (And.intro (il_at (g := oI p) (i := y) hy) ?_) | refine And.intro (neI rfl) ?_ | refine And.intro ⟨rfl, leR rfl, onesR rfl⟩ ?_ | refine And.intro ⟨rfl, leR rfl⟩ ?_ | refine draw_rule2 hfol (fun KK hKK => ?_) | refine hKK _ _ _ (by kernel_rfl) ?_ | refine region_rule (fun KK hKK => ?_) | refine hKK _ _ ?_ | refine And.intro (Eq.refl true) ?_ | refine Exists.intro _ (And.intro (wI (by omega)) ?_) | refine Exists.intro _ (And.intro (wU (by omega)) ?_) | refine Exists.intro _ (And.intro ⟨rfl, by omega⟩ ?_) | refine Exists.intro _ (And.intro rfl ?_) | refine And.intro rfl ?_ | refine And.intro ⟨rfl, rfl⟩ ?_ | ((refine And.intro (fun _ => ?_) (fun _ => ?_)) <;> try (exfalso; omega))))
    all_goals first | (exact Exists.intro [0] (And.intro (viR (by rw [← hr, hfy])) (And.intro ⟨rfl, trivial⟩ rfl))) | (exfalso; simp only [oI] at *; omega)
  · have hdp := h.dp y hy hp
    have hrp := h.rp y hy
    (repeat' (first | refine Exists.intro _ (And.intro (il_at (g := oI p) (i := y) hy) ?_) | refine And.intro (neI rfl) ?_ | refine And.intro ⟨rfl, leR rfl, onesR rfl⟩ ?_ | refine And.intro ⟨rfl, leR rfl⟩ ?_ | refine draw_rule2 hfol (fun KK hKK => ?_) | refine hKK _ _ _ (by kernel_rfl) ?_ | refine region_rule (fun KK hKK => ?_) | refine hKK _ _ ?_ | refine And.intro (Eq.refl true) ?_ | refine Exists.intro _ (And.intro (wI (by omega)) ?_) | refine Exists.intro _ (And.intro (wU (by omega)) ?_) | refine Exists.intro _ (And.intro ⟨rfl, by omega⟩ ?_) | refine Exists.intro _ (And.intro rfl ?_) | refine And.intro rfl ?_ | refine And.intro ⟨rfl, rfl⟩ ?_ | ((refine And.intro (fun _ => ?_) (fun _ => ?_)) <;> try (exfalso; omega))))
    all_goals first | (exact Exists.intro (p y) (Exists.intro [0] (And.intro ⟨⟨hpl, by rw [hrp, hr]⟩, hdp⟩ ⟨⟨rfl, rfl, trivial⟩, ⟨rfl, trivial⟩, rfl⟩))) | (exfalso; simp only [oI] at *; omega)
theorem s_gjoin {N : Nat} {p r d : Nat → Nat} (h : UF N p r d) (hN : N ≤ 100) (i k : Nat) (hi : i < N) (hk : k < N) : Spec Try.prog n_i_groups_join [.sl 0, vi i, vi k] [.pr T_int 1 N (il (oI p) N)] (.tup []) [.pr T_int 1 N (il (oI (jnP p r i k)) N)] := by
  have h1 := s_of h hN i hi
  have h2 := s_of h hN k hk
  have hri := h.rl i hi
  refine SpecW.of_EV hf_i_groups_join hc_i_groups_join rfl rfl rfl fun w0 B ρ0 _ => ?_
  (repeat' (first | refine (h1).read [0] rfl ⟨rfl, trivial⟩ ?_ | refine (h2).read [0] rfl ⟨rfl, trivial⟩ ?_ | refine Exists.intro (il (oI (jnP p r i k)) N) (And.intro ⟨by rw [il_len]; omega, il_set (fun j _ => by simp only [oI, jnP]; split <;> rfl)⟩ ?_) | refine And.intro (neI rfl) ?_ | refine And.intro ⟨rfl, leR rfl, onesR rfl⟩ ?_ | refine And.intro ⟨rfl, leR rfl⟩ ?_ | refine draw_rule2 hfol (fun KK hKK => ?_) | refine hKK _ _ _ (by kernel_rfl) ?_ | refine region_rule (fun KK hKK => ?_) | refine hKK _ _ ?_ | refine And.intro (Eq.refl true) ?_ | refine Exists.intro _ (And.intro (wI (by omega)) ?_) | refine Exists.intro _ (And.intro (wU (by omega)) ?_) | refine Exists.intro _ (And.intro ⟨rfl, by omega⟩ ?_) | refine Exists.intro _ (And.intro rfl ?_) | refine And.intro rfl ?_ | refine And.intro ⟨rfl, rfl⟩ ?_ | ((refine And.intro (fun _ => ?_) (fun _ => ?_)) <;> try (exfalso; omega))))
  exact Exists.intro [0] (And.intro (rfl) (And.intro ⟨rfl, trivial⟩ rfl))

/-! the product of the reference -/
theorem ldI_lt {a b : Nat → Nat} {n : Nat} (ha : ∀ i, a i < 8) (hb : ∀ i, b i < 8) : ∀ i l, l < 16 → ldI a b n i l < 16
  | 0, _, h => h
  | i + 1, l, h => by
    simp only [ldI, ldU]; split
    · exact ldI_lt ha hb i _ (by have := ha (n + i); omega)
    · exact ldI_lt ha hb i l h
def sL (a b : Nat → Nat) (n x : Nat) : Nat := if x < n then a x else 8 + b x
def gM (a b : Nat → Nat) (n : Nat) (x : Nat) : Int := ((ldI a b n n (sL a b n x) : Nat) : Int)
def kp0 (a b : Nat → Nat) (n k : Nat) (l : Nat) : Bool := (List.range k).any fun x => decide (ldI a b n n (sL a b n x) = l)
theorem kp0_succ {a b : Nat → Nat} {n k l : Nat} : kp0 a b n (k + 1) l = if l = ldI a b n n (sL a b n k) then true else kp0 a b n k l := by
  simp only [kp0, List.range_succ, List.any_append, List.any_cons, List.any_nil, Bool.or_false]
  by_cases h : l = ldI a b n n (sL a b n k)
  · rw [if_pos h]; simp [h]
  · rw [if_neg h, decide_eq_false (fun e => h e.symm), Bool.or_false]
def ctI (a b : Nat → Nat) (n : Nat) : Nat → (Nat → Bool) × Nat
  | 0 => (kp0 a b n (2 * n), 0)
  | i + 1 => if (ctI a b n i).1 (ldI a b n n (a (n + i))) = true then ctI a b n i else ((fun l => if l = ldI a b n n (a (n + i)) then true else (ctI a b n i).1 l), (ctI a b n i).2 + 1)
theorem ctI_le {a b : Nat → Nat} {n : Nat} : ∀ i, (ctI a b n i).2 ≤ i
  | 0 => Nat.le_refl _
  | i + 1 => by have := ctI_le (a := a) (b := b) (n := n) i; simp only [ctI]; split <;> first | omega | (show (ctI a b n i).2 + 1 ≤ i + 1; omega)
def upto (k : Nat) (f g : Nat → Nat) : Nat → Nat := fun j => if j < k then f j else g j
theorem oI_upto {k : Nat} {f g : Nat → Nat} (j : Nat) : oI (upto (k + 1) f g) j = if j = k then ((f k : Nat) : Int) else oI (upto k f g) j := by
  simp only [oI, upto]
  by_cases h : j = k
  · subst h; rw [if_pos (by omega), if_pos rfl]
  · rw [if_neg h]; by_cases h2 : j < k
    · rw [if_pos (by omega), if_pos h2]
    · rw [if_neg (by omega), if_neg h2]
theorem upto_all {f g : Nat → Nat} {N : Nat} : il (oI (upto N f g)) N = il (oI f) N := il_congr fun j hj => by simp only [oI, upto]; rw [if_pos hj]
theorem upto_0 {f g : Nat → Nat} {N : Nat} : il (oI (upto 0 f g)) N = il (oI g) N := il_congr fun j hj => by simp only [oI, upto]; rw [if_neg (by omega)]

abbrev gd (m : List Nat) (j : Nat) : Nat := m.getD j 0
theorem s_times (n : Nat) (ma mb : List Nat) (hma : ma.length = 8) (hmb : mb.length = 8) (ha : ∀ j, ma.getD j 0 < 8) (hb : ∀ j, mb.getD j 0 < 8) (hn1 : 1 ≤ n) (hn : n ≤ 4) :
    Spec Try.prog n_s_l07Times [pv n ma, pv n mb] [] (.tup [pv n (nm (gM (gd ma) (gd mb) n) n), vi ((ctI (gd ma) (gd mb) n n).2 : Nat)]) [] := by
  have hld := ldI_lt (n := n) (a := gd ma) (b := gd mb) ha hb
  refine SpecW.of_EV hf_s_l07Times hc_s_l07Times rfl rfl rfl fun w0 B ρ0 _ => ?_
  (repeat' (first | refine Exists.intro (il (oI (upto 0 (fun x => x) (fun _ => 0))) 16) (And.intro ⟨leR rfl, by rw [upto_0]; rfl⟩ ?_) | refine And.intro (neI rfl) ?_ | refine And.intro ⟨rfl, leR rfl, onesR rfl⟩ ?_ | refine And.intro ⟨rfl, leR rfl⟩ ?_ | refine draw_rule2 hfol (fun KK hKK => ?_) | refine hKK _ _ _ (by kernel_rfl) ?_ | refine region_rule (fun KK hKK => ?_) | refine hKK _ _ ?_ | refine And.intro (Eq.refl true) ?_ | refine Exists.intro _ (And.intro (wI (by omega)) ?_) | refine Exists.intro _ (And.intro (wU (by omega)) ?_) | refine Exists.intro _ (And.intro ⟨rfl, by omega⟩ ?_) | refine Exists.intro _ (And.intro rfl ?_) | refine And.intro rfl ?_ | refine And.intro ⟨rfl, rfl⟩ ?_ | ((refine And.intro (fun _ => ?_) (fun _ => ?_)) <;> try (exfalso; omega))))
  refine loop_rule (α := Nat) (fun k => k ≤ 16)
    (fun k => [(2, .ptr 0 0), (3, .ptr 1 0), (4, .ptr 2 0), (6, vi n), (7, .ptr 3 0), (8, vi k)])
    (fun k => [.pc (pcl n ma) T_i_Partition, .pc (pcl n mb) T_i_Partition, .pc (pcl 0 (List.replicate 8 0)) T_i_Partition, .pc (il (oI (upto k (fun x => x) (fun _ => 0))) 16) T_a16q_int64]) (fun k => 16 - k) 0 [0, 1, 2, 3]
    (by omega) ⟨⟨rfl, rfl, rfl, rfl, rfl, rfl, trivial⟩, ⟨rfl, rfl, rfl, rfl, trivial⟩, rfl⟩ ?_
  rintro k g hk
  by_cases h9 : k ≠ 16
  · have hkl : k < 16 := by omega
    (repeat' (first | refine Exists.intro (il (oI (upto (k + 1) (fun x => x) (fun _ => 0))) 16) (And.intro ⟨by rw [il_len]; omega, il_set (fun j _ => oI_upto j)⟩ ?_) | refine And.intro (neI rfl) ?_ | refine And.intro ⟨rfl, leR rfl, onesR rfl⟩ ?_ | refine And.intro ⟨rfl, leR rfl⟩ ?_ | refine draw_rule2 hfol (fun KK hKK => ?_) | refine hKK _ _ _ (by kernel_rfl) ?_ | refine region_rule (fun KK hKK => ?_) | refine hKK _ _ ?_ | refine And.intro (Eq.refl true) ?_ | refine Exists.intro _ (And.intro (wI (by omega)) ?_) | refine Exists.intro _ (And.intro (wU (by omega)) ?_) | refine Exists.intro _ (And.intro ⟨rfl, by omega⟩ ?_) | refine Exists.intro _ (And.intro rfl ?_) | refine And.intro rfl ?_ | refine And.intro ⟨rfl, rfl⟩ ?_ | ((refine And.intro (fun _ => ?_) (fun _ => ?_)) <;> try (exfalso; omega))))
    refine Exists.intro (k + 1) (Exists.intro [0, 1, 2, 3] (And.intro ⟨by omega, (by show 16 - (k + 1) < 16 - k; omega)⟩ ⟨⟨rfl, rfl, rfl, rfl, rfl, rfl, trivial⟩, ⟨rfl, rfl, rfl, rfl, trivial⟩, rfl⟩))
  have h9 : k = 16 := by omega
  subst h9
  (repeat' (first | refine And.intro (neI rfl) ?_ | refine And.intro ⟨rfl, leR rfl, onesR rfl⟩ ?_ | refine And.intro ⟨rfl, leR rfl⟩ ?_ | refine draw_rule2 hfol (fun KK hKK => ?_) | refine hKK _ _ _ (by kernel_rfl) ?_ | refine region_rule (fun KK hKK => ?_) | refine hKK _ _ ?_ | refine And.intro (Eq.refl true) ?_ | refine Exists.intro _ (And.intro (wI (by omega)) ?_) | refine Exists.intro _ (And.intro (wU (by omega)) ?_) | refine Exists.intro _ (And.intro ⟨rfl, by omega⟩ ?_) | refine Exists.intro _ (And.intro rfl ?_) | refine And.intro rfl ?_ | refine And.intro ⟨rfl, rfl⟩ ?_ | ((refine And.intro (fun _ => ?_) (fun _ => ?_)) <;> try (exfalso; omega))))
  -- the leaders
  refine loop_rule (α := Nat) (fun i => i ≤ n)
    (fun i => [(2, .ptr 0 0), (3, .ptr 1 0), (4, .ptr 2 0), (6, vi n), (7, .ptr 3 0), (9, vi i)])
    (fun i => [.pc (pcl n ma) T_i_Partition, .pc (pcl n mb) T_i_Partition, .pc (pcl 0 (List.replicate 8 0)) T_i_Partition, .pc (il (oI (ldI (gd ma) (gd mb) n i)) 16) T_a16q_int64]) (fun i => n - i) 0 [0, 1, 2, 3]
    (by omega) ⟨⟨rfl, rfl, rfl, rfl, rfl, rfl, trivial⟩, ⟨rfl, rfl, rfl, by rw [upto_all]; rfl, trivial⟩, rfl⟩ ?_
  rintro i g2 hi
  by_cases h8 : i ≠ n
  · have hil : i < n := by omega
    have c1 : gd ma (n + i) < 8 := ha (n + i)
    have c1' := ha (n + i)
    have c2 : gd mb i < 8 := hb i
    have c2' := hb i
    have e1 : IntKind.i64.wrap ((n : Int) + (i : Int)) = ((n + i : Nat) : Int) := wC (by omega) (by omega)
    have e2 : IntKind.i64.wrap (8 + ((gd mb i : Nat) : Int)) = ((8 + gd mb i : Nat) : Int) := wC (by omega) (by omega)
    generalize hG : ldI (gd ma) (gd mb) n i = G
    have hG1 : ∀ l, l < 16 → G l < 16 := fun l hl => by rw [← hG]; exact hld i l hl
    have o1 := hG1 (gd ma (n + i)) (by omega)
    have o2 := hG1 (8 + gd mb i) (by omega)
    have hnx : ldI (gd ma) (gd mb) n (i + 1) = ldU G (G (gd ma (n + i))) (G (8 + gd mb i)) := by rw [← hG]; rfl
    have h1at : (il (oI G) 16)[gd ma (n + i)]? = some (.int .i64 ((G (gd ma (n + i)) : Nat) : Int)) := il_at (by omega)
    have h2at : (il (oI G) 16)[8 + gd mb i]? = some (.int .i64 ((G (8 + gd mb i) : Nat) : Int)) := il_at (by omega)
    (repeat' (first | refine Exists.intro _ (And.intro e1 ?_) | refine Exists.intro _ (And.intro e2 ?_) | refine Exists.intro _ (And.intro (pcl_at (m := ma) (i := n + i) (by omega)) ?_) | refine Exists.intro _ (And.intro (pcl_at (m := mb) (i := i) (by omega)) ?_) | refine Exists.intro _ (And.intro h1at ?_) | refine Exists.intro _ (And.intro h2at ?_) | refine And.intro (neI rfl) ?_ | refine And.intro ⟨rfl, leR rfl, onesR rfl⟩ ?_ | refine And.intro ⟨rfl, leR rfl⟩ ?_ | refine draw_rule2 hfol (fun KK hKK => ?_) | refine hKK _ _ _ (by kernel_rfl) ?_ | refine region_rule (fun KK hKK => ?_) | refine hKK _ _ ?_ | refine And.intro (Eq.refl true) ?_ | refine Exists.intro _ (And.intro (wI (by omega)) ?_) | refine Exists.intro _ (And.intro (wU (by omega)) ?_) | refine Exists.intro _ (And.intro ⟨rfl, by omega⟩ ?_) | refine Exists.intro _ (And.intro rfl ?_) | refine And.intro rfl ?_ | refine And.intro ⟨rfl, rfl⟩ ?_ | ((refine And.intro (fun _ => ?_) (fun _ => ?_)) <;> try (exfalso; omega))))
    generalize G (gd ma (n + i)) = one at hnx o1 ⊢
    generalize G (8 + gd mb i) = two at hnx o2 ⊢
    refine loop_rule (α := Nat) (fun k => k ≤ 16)
      (fun k => [(2, .ptr 0 0), (3, .ptr 1 0), (4, .ptr 2 0), (6, vi n), (7, .ptr 3 0), (9, vi i), (10, vi one), (11, vi two), (12, vi k)])
      (fun k => [.pc (pcl n ma) T_i_Partition, .pc (pcl n mb) T_i_Partition, .pc (pcl 0 (List.replicate 8 0)) T_i_Partition, .pc (il (oI (upto k (ldU G one two) G)) 16) T_a16q_int64]) (fun k => 16 - k) 0 [0, 1, 2, 3]
      (by omega) ⟨⟨rfl, rfl, rfl, rfl, rfl, rfl, rfl, rfl, rfl, trivial⟩, ⟨rfl, rfl, rfl, by rw [upto_0]; rfl, trivial⟩, rfl⟩ ?_
    rintro k g3 hk
    by_cases h7 : k = 16
    · subst h7
      (repeat' (first | refine And.intro (neI rfl) ?_ | refine And.intro ⟨rfl, leR rfl, onesR rfl⟩ ?_ | refine And.intro ⟨rfl, leR rfl⟩ ?_ | refine draw_rule2 hfol (fun KK hKK => ?_) | refine hKK _ _ _ (by kernel_rfl) ?_ | refine region_rule (fun KK hKK => ?_) | refine hKK _ _ ?_ | refine And.intro (Eq.refl true) ?_ | refine Exists.intro _ (And.intro (wI (by omega)) ?_) | refine Exists.intro _ (And.intro (wU (by omega)) ?_) | refine Exists.intro _ (And.intro ⟨rfl, by omega⟩ ?_) | refine Exists.intro _ (And.intro rfl ?_) | refine And.intro rfl ?_ | refine And.intro ⟨rfl, rfl⟩ ?_ | ((refine And.intro (fun _ => ?_) (fun _ => ?_)) <;> try (exfalso; omega))))
      refine Exists.intro (i + 1) (Exists.intro [0, 1, 2, 3] (And.intro ⟨by omega, (by show n - (i + 1) < n - i; omega)⟩ ⟨⟨rfl, rfl, rfl, rfl, rfl, rfl, trivial⟩, ⟨rfl, rfl, rfl, by rw [hnx, upto_all]; rfl, trivial⟩, rfl⟩))
    have hkl : k < 16 := by omega
    have hGk := hG1 k hkl
    have hat : (il (oI (upto k (ldU G one two) G)) 16)[k]? = some (.int .i64 ((G k : Nat) : Int)) := (il_at hkl).trans (by simp [oI, upto])
    by_cases he : G k = two
    · have hst : (il (oI (upto k (ldU G one two) G)) 16).set k (.int .i64 ((one : Nat) : Int)) = il (oI (upto (k + 1) (ldU G one two) G)) 16 := il_set fun j _ => by
        rw [oI_upto, show ldU G one two k = one from if_pos he]
      (repeat' (first | refine Exists.intro _ (And.intro hat ?_) | refine Exists.intro (il (oI (upto (k + 1) (ldU G one two) G)) 16) (And.intro ⟨by rw [il_len]; omega, hst⟩ ?_) | refine And.intro (neI rfl) ?_ | refine And.intro ⟨rfl, leR rfl, onesR rfl⟩ ?_ | refine And.intro ⟨rfl, leR rfl⟩ ?_ | refine draw_rule2 hfol (fun KK hKK => ?_) | refine hKK _ _ _ (by kernel_rfl) ?_ | refine region_rule (fun KK hKK => ?_) | refine hKK _ _ ?_ | refine And.intro (Eq.refl true) ?_ | refine Exists.intro _ (And.intro (wI (by omega)) ?_) | refine Exists.intro _ (And.intro (wU (by omega)) ?_) | refine Exists.intro _ (And.intro ⟨rfl, by omega⟩ ?_) | refine Exists.intro _ (And.intro rfl ?_) | refine And.intro rfl ?_ | refine And.intro ⟨rfl, rfl⟩ ?_ | ((refine And.intro (fun _ => ?_) (fun _ => ?_)) <;> try (exfalso; omega))))
      all_goals refine Exists.intro (k + 1) (Exists.intro [0, 1, 2, 3] (And.intro ⟨by omega, (by show 16 - (k + 1) < 16 - k; omega)⟩ ⟨⟨rfl, rfl, rfl, rfl, rfl, rfl, rfl, rfl, rfl, trivial⟩, ⟨rfl, rfl, rfl, rfl, trivial⟩, rfl⟩))
    · have hst : il (oI (upto (k + 1) (ldU G one two) G)) 16 = il (oI (upto k (ldU G one two) G)) 16 := il_congr fun j _ => by
        rw [oI_upto]
        split
        · rename_i h; subst h; simp only [oI, upto]; rw [if_neg (by omega), show ldU G one two j = G j from if_neg he]
        · rfl
      (repeat' (first | refine Exists.intro _ (And.intro hat ?_) | refine And.intro (neI rfl) ?_ | refine And.intro ⟨rfl, leR rfl, onesR rfl⟩ ?_ | refine And.intro ⟨rfl, leR rfl⟩ ?_ | refine draw_rule2 hfol (fun KK hKK => ?_) | refine hKK _ _ _ (by kernel_rfl) ?_ | refine region_rule (fun KK hKK => ?_) | refine hKK _ _ ?_ | refine And.intro (Eq.refl true) ?_ | refine Exists.intro _ (And.intro (wI (by omega)) ?_) | refine Exists.intro _ (And.intro (wU (by omega)) ?_) | refine Exists.intro _ (And.intro ⟨rfl, by omega⟩ ?_) | refine Exists.intro _ (And.intro rfl ?_) | refine And.intro rfl ?_ | refine And.intro ⟨rfl, rfl⟩ ?_ | ((refine And.intro (fun _ => ?_) (fun _ => ?_)) <;> try (exfalso; omega))))
      refine Exists.intro (k + 1) (Exists.intro [0, 1, 2, 3] (And.intro ⟨by omega, (by show 16 - (k + 1) < 16 - k; omega)⟩ ⟨⟨rfl, rfl, rfl, rfl, rfl, rfl, rfl, rfl, rfl, trivial⟩, ⟨rfl, rfl, rfl, by rw [hst]; rfl, trivial⟩, rfl⟩))
  have h8 : i = n := by omega
  subst h8
  generalize hL : ldI (gd ma) (gd mb) i i = L
  have hL1 : ∀ l, l < 16 → L l < 16 := fun l hl => by rw [← hL]; exact hld i l hl
  have hgu : ∀ k, k < i → gM (gd ma) (gd mb) i k = ((L (gd ma k) : Nat) : Int) := fun k hk => by unfold gM; rw [hL, show sL (gd ma) (gd mb) i k = gd ma k from if_pos hk]
  have hgl : ∀ k, ¬ k < i → gM (gd ma) (gd mb) i k = ((L (8 + gd mb k) : Nat) : Int) := fun k hk => by unfold gM; rw [hL, show sL (gd ma) (gd mb) i k = 8 + gd mb k from if_neg hk]
  (repeat' (first | refine Exists.intro (bl (fun _ => false) 16) (And.intro ⟨leR rfl, rfl⟩ ?_) | refine And.intro (neI rfl) ?_ | refine And.intro ⟨rfl, leR rfl, onesR rfl⟩ ?_ | refine And.intro ⟨rfl, leR rfl⟩ ?_ | refine draw_rule2 hfol (fun KK hKK => ?_) | refine hKK _ _ _ (by kernel_rfl) ?_ | refine region_rule (fun KK hKK => ?_) | refine hKK _ _ ?_ | refine And.intro (Eq.refl true) ?_ | refine Exists.intro _ (And.intro (wI (by omega)) ?_) | refine Exists.intro _ (And.intro (wU (by omega)) ?_) | refine Exists.intro _ (And.intro ⟨rfl, by omega⟩ ?_) | refine Exists.intro _ (And.intro rfl ?_) | refine And.intro rfl ?_ | refine And.intro ⟨rfl, rfl⟩ ?_ | ((refine And.intro (fun _ => ?_) (fun _ => ?_)) <;> try (exfalso; omega))))
  -- the labels of the upper points
  refine loop_rule (α := Nat) (fun k => k ≤ i)
    (fun k => [(2, .ptr 0 0), (3, .ptr 1 0), (4, .ptr 2 0), (6, vi i), (7, .ptr 3 0), (13, .sl 5), (14, .ptr 4 0), (15, vi k)])
    (fun k => [.pc (pcl i ma) T_i_Partition, .pc (pcl i mb) T_i_Partition, .pc (pcl 0 (List.replicate 8 0)) T_i_Partition, .pc (il (oI L) 16) T_a16q_int64, .pc (bl (fun _ => false) 16) T_a16q_bool, .pr T_int64 1 k (il (gM (gd ma) (gd mb) i) k)]) (fun k => i - k) 0 [0, 1, 2, 3, 5, 4]
    (by omega) ⟨⟨rfl, rfl, rfl, rfl, rfl, rfl, rfl, rfl, trivial⟩, ⟨rfl, rfl, rfl, rfl, rfl, rfl, trivial⟩, rfl⟩ ?_
  rintro k g3 hk
  by_cases h7 : k ≠ i
  · have hkl : k < i := by omega
    have c1 : gd ma k < 8 := ha k
    have c1' := ha k
    have hs := hgu k hkl
    have o1 := hL1 (gd ma k) (by omega)
    (repeat' (first | refine Exists.intro _ (And.intro (pcl_at (m := ma) (i := k) (by omega)) ?_) | refine Exists.intro _ (And.intro (show (il (oI L) 16)[gd ma k]? = some (.int .i64 ((L (gd ma k) : Nat) : Int)) from il_at (by omega)) ?_) | refine And.intro ⟨rfl, mkL rfl⟩ ?_ | refine Exists.intro [Value.int .i64 ((L (gd ma k) : Nat) : Int)] (And.intro (row1s (mkL' rfl)) ?_) | refine Exists.intro (il (gM (gd ma) (gd mb) i) (k + 1)) (And.intro ⟨rfl, onesR rfl, by omega, by omega, (by rw [← hs]; exact il_succ)⟩ ?_) | refine And.intro (neI rfl) ?_ | refine And.intro ⟨rfl, leR rfl, onesR rfl⟩ ?_ | refine And.intro ⟨rfl, leR rfl⟩ ?_ | refine draw_rule2 hfol (fun KK hKK => ?_) | refine hKK _ _ _ (by kernel_rfl) ?_ | refine region_rule (fun KK hKK => ?_) | refine hKK _ _ ?_ | refine And.intro (Eq.refl true) ?_ | refine Exists.intro _ (And.intro (wI (by omega)) ?_) | refine Exists.intro _ (And.intro (wU (by omega)) ?_) | refine Exists.intro _ (And.intro ⟨rfl, by omega⟩ ?_) | refine Exists.intro _ (And.intro rfl ?_) | refine And.intro rfl ?_ | refine And.intro ⟨rfl, rfl⟩ ?_ | ((refine And.intro (fun _ => ?_) (fun _ => ?_)) <;> try (exfalso; omega))))
    refine Exists.intro (k + 1) (Exists.intro [0, 1, 2, 3, 4, 7] (And.intro ⟨by omega, (by show i - (k + 1) < i - k; omega)⟩ ⟨⟨rfl, rfl, rfl, rfl, rfl, rfl, rfl, rfl, trivial⟩, ⟨rfl, rfl, rfl, rfl, rfl, rfl, trivial⟩, rfl⟩))
  have h7 : k = i := by omega
  subst h7
  (repeat' (first | refine And.intro (neI rfl) ?_ | refine And.intro ⟨rfl, leR rfl, onesR rfl⟩ ?_ | refine And.intro ⟨rfl, leR rfl⟩ ?_ | refine draw_rule2 hfol (fun KK hKK => ?_) | refine hKK _ _ _ (by kernel_rfl) ?_ | refine region_rule (fun KK hKK => ?_) | refine hKK _ _ ?_ | refine And.intro (Eq.refl true) ?_ | refine Exists.intro _ (And.intro (wI (by omega)) ?_) | refine Exists.intro _ (And.intro (wU (by omega)) ?_) | refine Exists.intro _ (And.intro ⟨rfl, by omega⟩ ?_) | refine Exists.intro _ (And.intro rfl ?_) | refine And.intro rfl ?_ | refine And.intro ⟨rfl, rfl⟩ ?_ | ((refine And.intro (fun _ => ?_) (fun _ => ?_)) <;> try (exfalso; omega))))
  -- the labels of the lower points
  refine loop_rule (α := Nat) (fun j => j ≤ k)
    (fun j => [(2, .ptr 0 0), (3, .ptr 1 0), (4, .ptr 2 0), (6, vi k), (7, .ptr 3 0), (13, .sl 5), (14, .ptr 4 0), (16, vi j)])
    (fun j => [.pc (pcl k ma) T_i_Partition, .pc (pcl k mb) T_i_Partition, .pc (pcl 0 (List.replicate 8 0)) T_i_Partition, .pc (il (oI L) 16) T_a16q_int64, .pc (bl (fun _ => false) 16) T_a16q_bool, .pr T_int64 1 (k + j) (il (gM (gd ma) (gd mb) k) (k + j))]) (fun j => k - j) 0 [0, 1, 2, 3, 4, 5]
    (by omega) ⟨⟨rfl, rfl, rfl, rfl, rfl, rfl, rfl, rfl, trivial⟩, ⟨rfl, rfl, rfl, rfl, rfl, rfl, trivial⟩, rfl⟩ ?_
  rintro j g4 hj
  by_cases h6 : j ≠ k
  · have hjl : j < k := by omega
    have c1 : gd mb (k + j) < 8 := hb (k + j)
    have c1' := hb (k + j)
    have hs := hgl (k + j) (by omega)
    have o1 := hL1 (8 + gd mb (k + j)) (by omega)
    have e1 : IntKind.i64.wrap ((k : Int) + (j : Int)) = ((k + j : Nat) : Int) := wC (by omega) (by omega)
    have e2 : IntKind.i64.wrap (8 + ((gd mb (k + j) : Nat) : Int)) = ((8 + gd mb (k + j) : Nat) : Int) := wC (by omega) (by omega)
    (repeat' (first | refine Exists.intro _ (And.intro e1 ?_) | refine Exists.intro _ (And.intro e2 ?_) | refine Exists.intro _ (And.intro (pcl_at (m := mb) (i := k + j) (by omega)) ?_) | refine Exists.intro _ (And.intro (show (il (oI L) 16)[8 + gd mb (k + j)]? = some (.int .i64 ((L (8 + gd mb (k + j)) : Nat) : Int)) from il_at (by omega)) ?_) | refine And.intro ⟨rfl, mkL rfl⟩ ?_ | refine Exists.intro [Value.int .i64 ((L (8 + gd mb (k + j)) : Nat) : Int)] (And.intro (row1s (mkL' rfl)) ?_) | refine Exists.intro (il (gM (gd ma) (gd mb) k) (k + j + 1)) (And.intro ⟨rfl, onesR rfl, by omega, by omega, (by rw [← hs]; exact il_succ)⟩ ?_) | refine And.intro (neI rfl) ?_ | refine And.intro ⟨rfl, leR rfl, onesR rfl⟩ ?_ | refine And.intro ⟨rfl, leR rfl⟩ ?_ | refine draw_rule2 hfol (fun KK hKK => ?_) | refine hKK _ _ _ (by kernel_rfl) ?_ | refine region_rule (fun KK hKK => ?_) | refine hKK _ _ ?_ | refine And.intro (Eq.refl true) ?_ | refine Exists.intro _ (And.intro (wI (by omega)) ?_) | refine Exists.intro _ (And.intro (wU (by omega)) ?_) | refine Exists.intro _ (And.intro ⟨rfl, by omega⟩ ?_) | refine Exists.intro _ (And.intro rfl ?_) | refine And.intro rfl ?_ | refine And.intro ⟨rfl, rfl⟩ ?_ | ((refine And.intro (fun _ => ?_) (fun _ => ?_)) <;> try (exfalso; omega))))
    refine Exists.intro (j + 1) (Exists.intro [0, 1, 2, 3, 4, 7] (And.intro ⟨by omega, (by show k - (j + 1) < k - j; omega)⟩ ⟨⟨rfl, rfl, rfl, rfl, rfl, rfl, rfl, rfl, trivial⟩, ⟨rfl, rfl, rfl, rfl, rfl, rfl, trivial⟩, rfl⟩))
  have h6 : j = k := by omega
  subst h6
  have hgv : ∀ x, gM (gd ma) (gd mb) j x = ((L (sL (gd ma) (gd mb) j x) : Nat) : Int) := fun x => by unfold gM; rw [hL]
  have hsl : ∀ x, sL (gd ma) (gd mb) j x < 16 := fun x => by have h1 : gd ma x < 8 := ha x; have h2 : gd mb x < 8 := hb x; unfold sL; split <;> omega
  (repeat' (first | refine And.intro (neI rfl) ?_ | refine And.intro ⟨rfl, leR rfl, onesR rfl⟩ ?_ | refine And.intro ⟨rfl, leR rfl⟩ ?_ | refine draw_rule2 hfol (fun KK hKK => ?_) | refine hKK _ _ _ (by kernel_rfl) ?_ | refine region_rule (fun KK hKK => ?_) | refine hKK _ _ ?_ | refine And.intro (Eq.refl true) ?_ | refine Exists.intro _ (And.intro (wI (by omega)) ?_) | refine Exists.intro _ (And.intro (wU (by omega)) ?_) | refine Exists.intro _ (And.intro ⟨rfl, by omega⟩ ?_) | refine Exists.intro _ (And.intro rfl ?_) | refine And.intro rfl ?_ | refine And.intro ⟨rfl, rfl⟩ ?_ | ((refine And.intro (fun _ => ?_) (fun _ => ?_)) <;> try (exfalso; omega))))
  -- what is kept
  refine loop_rule (α := Nat) (fun x => x ≤ 2 * j)
    (fun x => [(2, .ptr 0 0), (3, .ptr 1 0), (4, .ptr 2 0), (6, vi j), (7, .ptr 3 0), (13, .sl 5), (14, .ptr 4 0), (17, vi x)])
    (fun x => [.pc (pcl j ma) T_i_Partition, .pc (pcl j mb) T_i_Partition, .pc (pcl 0 (List.replicate 8 0)) T_i_Partition, .pc (il (oI L) 16) T_a16q_int64, .pc (bl (kp0 (gd ma) (gd mb) j x) 16) T_a16q_bool, .pr T_int64 1 (2 * j) (il (gM (gd ma) (gd mb) j) (2 * j))]) (fun x => 2 * j - x) 0 [0, 1, 2, 3, 4, 5]
    (by omega) ⟨⟨rfl, rfl, rfl, rfl, rfl, rfl, rfl, rfl, trivial⟩, ⟨rfl, rfl, rfl, rfl, rfl, by rw [show j + j = 2 * j from by omega]; rfl, trivial⟩, rfl⟩ ?_
  rintro x g5 hx
  by_cases h5 : x ≠ 2 * j
  · have hxl : x < 2 * j := by omega
    have o1 := hL1 _ (hsl x)
    have hat : (il (gM (gd ma) (gd mb) j) (2 * j))[x]? = some (.int .i64 ((L (sL (gd ma) (gd mb) j x) : Nat) : Int)) := (il_at hxl).trans (by rw [hgv])
    have hst : (bl (kp0 (gd ma) (gd mb) j x) 16).set (L (sL (gd ma) (gd mb) j x)) (.bool true) = bl (kp0 (gd ma) (gd mb) j (x + 1)) 16 := bl_set fun y _ => by rw [kp0_succ, hL]
    (repeat' (first | refine Exists.intro _ (And.intro hat ?_) | refine Exists.intro (bl (kp0 (gd ma) (gd mb) j (x + 1)) 16) (And.intro ⟨by rw [bl_len]; omega, hst⟩ ?_) | refine And.intro (neI rfl) ?_ | refine And.intro ⟨rfl, leR rfl, onesR rfl⟩ ?_ | refine And.intro ⟨rfl, leR rfl⟩ ?_ | refine draw_rule2 hfol (fun KK hKK => ?_) | refine hKK _ _ _ (by kernel_rfl) ?_ | refine region_rule (fun KK hKK => ?_) | refine hKK _ _ ?_ | refine And.intro (Eq.refl true) ?_ | refine Exists.intro _ (And.intro (wI (by omega)) ?_) | refine Exists.intro _ (And.intro (wU (by omega)) ?_) | refine Exists.intro _ (And.intro ⟨rfl, by omega⟩ ?_) | refine Exists.intro _ (And.intro rfl ?_) | refine And.intro rfl ?_ | refine And.intro ⟨rfl, rfl⟩ ?_ | ((refine And.intro (fun _ => ?_) (fun _ => ?_)) <;> try (exfalso; omega))))
    refine Exists.intro (x + 1) (Exists.intro [0, 1, 2, 3, 4, 5] (And.intro ⟨by omega, (by show 2 * j - (x + 1) < 2 * j - x; omega)⟩ ⟨⟨rfl, rfl, rfl, rfl, rfl, rfl, rfl, rfl, trivial⟩, ⟨rfl, rfl, rfl, rfl, rfl, rfl, trivial⟩, rfl⟩))
  have h5 : x = 2 * j := by omega
  subst h5
  (repeat' (first | refine And.intro (neI rfl) ?_ | refine And.intro ⟨rfl, leR rfl, onesR rfl⟩ ?_ | refine And.intro ⟨rfl, leR rfl⟩ ?_ | refine draw_rule2 hfol (fun KK hKK => ?_) | refine hKK _ _ _ (by kernel_rfl) ?_ | refine region_rule (fun KK hKK => ?_) | refine hKK _ _ ?_ | refine And.intro (Eq.refl true) ?_ | refine Exists.intro _ (And.intro (wI (by omega)) ?_) | refine Exists.intro _ (And.intro (wU (by omega)) ?_) | refine Exists.intro _ (And.intro ⟨rfl, by omega⟩ ?_) | refine Exists.intro _ (And.intro rfl ?_) | refine And.intro rfl ?_ | refine And.intro ⟨rfl, rfl⟩ ?_ | ((refine And.intro (fun _ => ?_) (fun _ => ?_)) <;> try (exfalso; omega))))
  -- what is left out
  refine loop_rule (α := Nat) (fun x => x ≤ j)
    (fun x => [(2, .ptr 0 0), (3, .ptr 1 0), (4, .ptr 2 0), (6, vi j), (7, .ptr 3 0), (13, .sl 5), (14, .ptr 4 0), (18, vi ((ctI (gd ma) (gd mb) j x).2 : Nat)), (19, vi x)])
    (fun x => [.pc (pcl j ma) T_i_Partition, .pc (pcl j mb) T_i_Partition, .pc (pcl 0 (List.replicate 8 0)) T_i_Partition, .pc (il (oI L) 16) T_a16q_int64, .pc (bl (ctI (gd ma) (gd mb) j x).1 16) T_a16q_bool, .pr T_int64 1 (2 * j) (il (gM (gd ma) (gd mb) j) (2 * j))]) (fun x => j - x) 0 [0, 1, 2, 3, 4, 5]
    (by omega) ⟨⟨rfl, rfl, rfl, rfl, rfl, rfl, rfl, rfl, rfl, trivial⟩, ⟨rfl, rfl, rfl, rfl, rfl, rfl, trivial⟩, rfl⟩ ?_
  rintro x g6 hx
  by_cases h4 : x = j
  · subst h4
    have ht := s_told (gM (gd ma) (gd mb) x) x hn
    (repeat' (first | refine (ht).read [5] rfl ⟨rfl, trivial⟩ ?_ | refine Exists.intro (pcl (x : Int) (nm (gM (gd ma) (gd mb) x) x)) (And.intro ⟨pcl_len nm_len, pcl_all nm_len⟩ ?_) | refine And.intro ⟨pcl_len nm_len, leR rfl, pcl_ones⟩ ?_ | refine Exists.intro (pcl (x : Int) (nm (gM (gd ma) (gd mb) x) x)) (And.intro ⟨leR rfl, spl0 (leR rfl)⟩ ?_) | refine And.intro (neI rfl) ?_ | refine And.intro ⟨rfl, leR rfl, onesR rfl⟩ ?_ | refine And.intro ⟨rfl, leR rfl⟩ ?_ | refine draw_rule2 hfol (fun KK hKK => ?_) | refine hKK _ _ _ (by kernel_rfl) ?_ | refine region_rule (fun KK hKK => ?_) | refine hKK _ _ ?_ | refine And.intro (Eq.refl true) ?_ | refine Exists.intro _ (And.intro (wI (by omega)) ?_) | refine Exists.intro _ (And.intro (wU (by omega)) ?_) | refine Exists.intro _ (And.intro ⟨rfl, by omega⟩ ?_) | refine Exists.intro _ (And.intro rfl ?_) | refine And.intro rfl ?_ | refine And.intro ⟨rfl, rfl⟩ ?_ | ((refine And.intro (fun _ => ?_) (fun _ => ?_)) <;> try (exfalso; omega))))
    exact Exists.intro [] (And.intro (rfl) (And.intro trivial rfl))
  have hxl : x < j := by omega
  have c1 : gd ma (j + x) < 8 := ha (j + x)
  have c1' := ha (j + x)
  have o1 := hL1 (gd ma (j + x)) (by omega)
  have e1 : IntKind.i64.wrap ((j : Int) + (x : Int)) = ((j + x : Nat) : Int) := wC (by omega) (by omega)
  have hle := ctI_le (a := gd ma) (b := gd mb) (n := j) x
  have hct : ctI (gd ma) (gd mb) j (x + 1) = if (ctI (gd ma) (gd mb) j x).1 (L (gd ma (j + x))) = true then ctI (gd ma) (gd mb) j x else ((fun l => if l = L (gd ma (j + x)) then true else (ctI (gd ma) (gd mb) j x).1 l), (ctI (gd ma) (gd mb) j x).2 + 1) := by rw [← hL]; rfl
  have hkat : (bl (ctI (gd ma) (gd mb) j x).1 16)[L (gd ma (j + x))]? = some (.bool ((ctI (gd ma) (gd mb) j x).1 (L (gd ma (j + x))))) := bl_at o1
  cases hkk : (ctI (gd ma) (gd mb) j x).1 (L (gd ma (j + x))) with
  | true =>
    rw [hkk, if_pos rfl] at hct
    rw [hkk] at hkat
    (repeat' (first | refine Exists.intro _ (And.intro e1 ?_) | refine Exists.intro _ (And.intro (pcl_at (m := ma) (i := j + x) (by omega)) ?_) | refine Exists.intro _ (And.intro (show (il (oI L) 16)[gd ma (j + x)]? = some (.int .i64 ((L (gd ma (j + x)) : Nat) : Int)) from il_at (by omega)) ?_) | refine Exists.intro _ (And.intro hkat ?_) | refine And.intro (neI rfl) ?_ | refine And.intro ⟨rfl, leR rfl, onesR rfl⟩ ?_ | refine And.intro ⟨rfl, leR rfl⟩ ?_ | refine draw_rule2 hfol (fun KK hKK => ?_) | refine hKK _ _ _ (by kernel_rfl) ?_ | refine region_rule (fun KK hKK => ?_) | refine hKK _ _ ?_ | refine And.intro (Eq.refl true) ?_ | refine Exists.intro _ (And.intro (wI (by omega)) ?_) | refine Exists.intro _ (And.intro (wU (by omega)) ?_) | refine Exists.intro _ (And.intro ⟨rfl, by omega⟩ ?_) | refine Exists.intro _ (And.intro rfl ?_) | refine And.intro rfl ?_ | refine And.intro ⟨rfl, rfl⟩ ?_ | ((refine And.intro (fun _ => ?_) (fun _ => ?_)) <;> try (exfalso; omega))))
    refine Exists.intro (x + 1) (Exists.intro [0, 1, 2, 3, 4, 5] (And.intro ⟨by omega, (by show j - (x + 1) < j - x; omega)⟩ ⟨⟨rfl, rfl, rfl, rfl, rfl, rfl, rfl, by rw [hct]; rfl, rfl, trivial⟩, ⟨rfl, rfl, rfl, rfl, by rw [hct]; rfl, rfl, trivial⟩, rfl⟩))
  | false =>
    rw [hkk, if_neg (by simp)] at hct
    rw [hkk] at hkat
    have hst : (bl (ctI (gd ma) (gd mb) j x).1 16).set (L (gd ma (j + x))) (.bool true) = bl (fun l => if l = L (gd ma (j + x)) then true else (ctI (gd ma) (gd mb) j x).1 l) 16 := bl_set fun y _ => rfl
    (repeat' (first | refine Exists.intro _ (And.intro e1 ?_) | refine Exists.intro _ (And.intro (pcl_at (m := ma) (i := j + x) (by omega)) ?_) | refine Exists.intro _ (And.intro (show (il (oI L) 16)[gd ma (j + x)]? = some (.int .i64 ((L (gd ma (j + x)) : Nat) : Int)) from il_at (by omega)) ?_) | refine Exists.intro _ (And.intro hkat ?_) | refine Exists.intro (bl (fun l => if l = L (gd ma (j + x)) then true else (ctI (gd ma) (gd mb) j x).1 l) 16) (And.intro ⟨by rw [bl_len]; omega, hst⟩ ?_) | refine And.intro (neI rfl) ?_ | refine And.intro ⟨rfl, leR rfl, onesR rfl⟩ ?_ | refine And.intro ⟨rfl, leR rfl⟩ ?_ | refine draw_rule2 hfol (fun KK hKK => ?_) | refine hKK _ _ _ (by kernel_rfl) ?_ | refine region_rule (fun KK hKK => ?_) | refine hKK _ _ ?_ | refine And.intro (Eq.refl true) ?_ | refine Exists.intro _ (And.intro (wI (by omega)) ?_) | refine Exists.intro _ (And.intro (wU (by omega)) ?_) | refine Exists.intro _ (And.intro ⟨rfl, by omega⟩ ?_) | refine Exists.intro _ (And.intro rfl ?_) | refine And.intro rfl ?_ | refine And.intro ⟨rfl, rfl⟩ ?_ | ((refine And.intro (fun _ => ?_) (fun _ => ?_)) <;> try (exfalso; omega))))
    refine Exists.intro (x + 1) (Exists.intro [0, 1, 2, 3, 4, 5] (And.intro ⟨by omega, (by show j - (x + 1) < j - x; omega)⟩ ⟨⟨rfl, rfl, rfl, rfl, rfl, rfl, rfl, viR (by rw [hct]; omega), rfl, trivial⟩, ⟨rfl, rfl, rfl, rfl, by rw [hct]; rfl, rfl, trivial⟩, rfl⟩))
end Go.Proofs.Ytpangmameocfmaa.VE.P
namespace Go.Proofs.Ytpangmameocfmaa.VE.P
open Go
set_option maxHeartbeats 800000
set_option maxRecDepth 100000

/-! sets as maps from ints to true -/
def entT (ks : List Int) : List (Value × V) := ks.map fun k => (.int .i64 k, .raw (.bool true))
def addk (ks : List Int) (k : Int) : List Int := if k ∈ ks then ks else ks ++ [k]
theorem entT_find {k : Int} : ∀ {ks : List Int}, findI k (entT ks) = some (if k ∈ ks then some (.raw (.bool true)) else none)
  | [] => rfl
  | q :: r => by
    simp only [entT, List.map_cons, findI]
    by_cases h : k = q
    · rw [if_pos h, if_pos (by rw [h]; exact List.mem_cons_self)]
    · rw [if_neg h]
      have ih := entT_find (k := k) (ks := r)
      simp only [entT] at ih
      rw [ih]
      simp [h]
theorem entT_set {k : Int} : ∀ {ks : List Int}, setI k (.raw (.bool true)) (entT ks) = entT (addk ks k)
  | [] => rfl
  | q :: r => by
    simp only [entT, List.map_cons, setI]
    by_cases h : k = q
    · rw [if_pos h]; subst h; simp [addk]
    · rw [if_neg h]
      have ih := entT_set (k := k) (ks := r)
      simp only [entT] at ih
      rw [ih]
      by_cases h2 : k ∈ r
      · simp [addk, h2]
      · simp [addk, h2, h]
theorem entT_mod {ks : List Int} : ∀ {j : Nat}, ((entT ks).modify j fun p => (p.1, V.raw (.bool true))) = entT ks := by
  intro j
  apply List.ext_getElem?
  intro i
  rw [List.getElem?_modify]
  split
  · simp only [entT, List.getElem?_map]
    cases ks[i]? <;> rfl
  · simp
theorem entT_new {ks : List Int} {k : Int} : ((entT ks ++ [(Value.int .i64 k, V.raw (.bool false))]).modify (entT ks).length fun p => (p.1, V.raw (.bool true))) = entT (ks ++ [k]) := by
  apply List.ext_getElem?
  intro i
  rw [List.getElem?_modify]
  by_cases hi : (entT ks).length = i
  · subst hi; simp [entT]
  · simp only [if_neg hi]
    rw [show (fun (a : Value × V) => a) = id from rfl, id_map]
    simp only [entT, List.map_append, List.map_cons, List.map_nil, List.length_map] at hi ⊢
    by_cases h2 : i < ks.length
    · rw [List.getElem?_append_left (by simpa using h2), List.getElem?_append_left (by simpa using h2)]
    · rw [List.getElem?_eq_none (by simp; omega), List.getElem?_eq_none (by simp; omega)]
theorem entT_len {ks : List Int} : (entT ks).length = ks.length := by simp [entT]
theorem posI_lt {k : Int} : ∀ {ks : List Int}, k ∈ ks → posI k (entT ks) < (entT ks).length
  | [], h => by simp at h
  | q :: r, h => by
    simp only [entT, List.map_cons, posI, List.length_cons]
    by_cases hq : k = q
    · rw [if_pos hq]; omega
    · rw [if_neg hq]
      have := posI_lt (k := k) (ks := r) (by simpa [hq] using h)
      simp only [entT] at this
      omega
theorem mem_addk {ks : List Int} {k x : Int} : x ∈ addk ks k ↔ x ∈ ks ∨ x = k := by
  unfold addk; split
  · rename_i h
    exact ⟨fun h1 => Or.inl h1, fun h1 => by rcases h1 with h1 | h1; exact h1; rw [h1]; exact h⟩
  · simp
theorem addk_len {ks : List Int} {k : Int} : (addk ks k).length ≤ ks.length + 1 := by
  unfold addk; split <;> simp

/-! the outer classes, and those that are left -/
def rI (r : Nat → Nat) (x : Nat) : Int := ((r x : Nat) : Int)
def oK (r : Nat → Nat) (n : Nat) : Nat → List Int
  | 0 => []
  | i + 1 => addk (addk (oK r n i) (rI r i)) (rI r (2 * n + i))
def lK (r : Nat → Nat) (n : Nat) : Nat → List Int
  | 0 => []
  | i + 1 => if rI r (n + i) ∈ oK r n n then lK r n i else addk (lK r n i) (rI r (n + i))
theorem mem_oK {r : Nat → Nat} {n : Nat} {x : Int} : ∀ {i}, x ∈ oK r n i ↔ ∃ y, y < i ∧ (x = rI r y ∨ x = rI r (2 * n + y))
  | 0 => by simp [oK]
  | i + 1 => by
    simp only [oK, mem_addk, mem_oK (i := i)]
    constructor
    · rintro ((⟨y, h1, h2⟩ | h) | h)
      · exact ⟨y, by omega, h2⟩
      · exact ⟨i, by omega, Or.inl h⟩
      · exact ⟨i, by omega, Or.inr h⟩
    · rintro ⟨y, h1, h2⟩
      by_cases hy : y = i
      · subst hy
        rcases h2 with h2 | h2
        · exact Or.inl (Or.inr h2)
        · exact Or.inr h2
      · exact Or.inl (Or.inl ⟨y, by omega, h2⟩)
theorem lK_len {r : Nat → Nat} {n : Nat} : ∀ i, (lK r n i).length ≤ i
  | 0 => Nat.le_refl _
  | i + 1 => by
    have := lK_len (r := r) (n := n) i
    have h2 := addk_len (ks := lK r n i) (k := rI r (n + i))
    unfold lK; split <;> omega
theorem rI_eq {r : Nat → Nat} {x y : Nat} : rI r x = rI r y ↔ r x = r y := by unfold rI; omega
theorem lK_ct {a b : Nat → Nat} {n : Nat} (ha : ∀ i, i < 2 * n → a i < 8) : ∀ i, i ≤ n →
    (lK (gI a b n (2 * n)).2.1 n i).length = (ctI a b n i).2 ∧
    ∀ x, x < n → ((ctI a b n i).1 (ldI a b n n (a (n + x))) = true ↔ rI (gI a b n (2 * n)).2.1 (n + x) ∈ oK (gI a b n (2 * n)).2.1 n n ∨ rI (gI a b n (2 * n)).2.1 (n + x) ∈ lK (gI a b n (2 * n)).2.1 n i)
  | 0, _ => by
    refine ⟨rfl, fun x hx => ?_⟩
    have hk : ∀ y, y < 3 * n → (rI (gI a b n (2 * n)).2.1 (n + x) = rI (gI a b n (2 * n)).2.1 y ↔ ldI a b n n (a (n + x)) = ldI a b n n (lam a b n y)) := fun y hy => by
      rw [rI_eq, mul_ker ha (by omega) hy, show lam a b n (n + x) = a (n + x) from if_pos (by omega)]
    simp only [ctI, kp0, List.any_eq_true, List.mem_range, decide_eq_true_eq, lK, List.not_mem_nil, or_false, mem_oK]
    constructor
    · rintro ⟨y, h1, h2⟩
      by_cases hy : y < n
      · refine ⟨y, hy, Or.inl ((hk y (by omega)).2 ?_)⟩
        rw [← h2, show sL a b n y = a y from if_pos hy, show lam a b n y = a y from if_pos (by omega)]
      · refine ⟨y - n, by omega, Or.inr ((hk (2 * n + (y - n)) (by omega)).2 ?_)⟩
        rw [← h2, show sL a b n y = 8 + b y from if_neg hy, show lam a b n (2 * n + (y - n)) = 8 + b (2 * n + (y - n) - n) from if_neg (by omega), show 2 * n + (y - n) - n = y from by omega]
    · rintro ⟨y, h1, h2 | h2⟩
      · refine ⟨y, by omega, ?_⟩
        rw [(hk y (by omega)).1 h2, show sL a b n y = a y from if_pos h1, show lam a b n y = a y from if_pos (by omega)]
      · refine ⟨n + y, by omega, ?_⟩
        rw [(hk (2 * n + y) (by omega)).1 h2, show sL a b n (n + y) = 8 + b (n + y) from if_neg (by omega), show lam a b n (2 * n + y) = 8 + b (2 * n + y - n) from if_neg (by omega), show 2 * n + y - n = n + y from by omega]
  | i + 1, hi => by
    obtain ⟨ih1, ih2⟩ := lK_ct ha i (by omega)
    have hi2 := ih2 i (by omega)
    have hk : ∀ x, x < n → (rI (gI a b n (2 * n)).2.1 (n + x) = rI (gI a b n (2 * n)).2.1 (n + i) ↔ ldI a b n n (a (n + x)) = ldI a b n n (a (n + i))) := fun x hx => by
      rw [rI_eq, mul_ker ha (by omega) (by omega), show lam a b n (n + x) = a (n + x) from if_pos (by omega), show lam a b n (n + i) = a (n + i) from if_pos (by omega)]
    generalize (gI a b n (2 * n)).2.1 = r at *
    generalize hl : ldI a b n n = l at *
    simp only [ctI, lK, hl]
    by_cases ho : rI r (n + i) ∈ oK r n n
    · rw [if_pos (hi2.2 (Or.inl ho)), if_pos ho]
      exact ⟨ih1, ih2⟩
    · rw [if_neg ho]
      by_cases hlk : rI r (n + i) ∈ lK r n i
      · rw [if_pos (hi2.2 (Or.inr hlk)), show addk (lK r n i) (rI r (n + i)) = lK r n i from if_pos hlk]
        exact ⟨ih1, ih2⟩
      · rw [if_neg (fun h => by rcases hi2.1 h with h | h; exact ho h; exact hlk h), show addk (lK r n i) (rI r (n + i)) = lK r n i ++ [rI r (n + i)] from if_neg hlk]
        refine ⟨by simp [ih1], fun x hx => ?_⟩
        have hx2 := ih2 x hx
        have hkx := hk x hx
        simp only [List.mem_append, List.mem_singleton]
        by_cases he : l (a (n + x)) = l (a (n + i))
        · simp only [he, if_true, true_iff]
          exact Or.inr (Or.inr (hkx.2 he))
        · simp only [if_neg he]
          rw [hx2]
          constructor
          · rintro (h | h)
            · exact Or.inl h
            · exact Or.inr (Or.inl h)
          · rintro (h | h | h)
            · exact Or.inl h
            · exact Or.inr h
            · exact absurd (hkx.1 h) he
end Go.Proofs.Ytpangmameocfmaa.VE.P
