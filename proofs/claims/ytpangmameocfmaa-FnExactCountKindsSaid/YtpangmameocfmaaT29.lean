/- Contracts of functions of the given program, for all arguments that the contract names; see each theorem. -/
import Derived.Test.YtpangmameocfmaaT15a
set_option linter.all false
namespace Go.Proofs.Ytpangmameocfmaa.VE.P
open Go
set_option maxHeartbeats 800000
set_option maxRecDepth 100000

/-! what 'named' answers hangs on the kernel alone -/
theorem nmF_congr {g h : Nat → Int} {i : Nat} : ∀ {l : List Nat} {b : Nat}, (∀ j ∈ l, g i = g j ↔ h i = h j) → nmF (g i) (l.map g) b = nmF (h i) (l.map h) b
  | [], _, _ => rfl
  | q :: r, b, hk => by
    simp only [List.map_cons, nmF]
    have hq := hk q (by simp)
    by_cases e : g i = g q
    · rw [if_pos e, if_pos (hq.1 e)]
    · rw [if_neg e, if_neg (fun e2 => e (hq.2 e2))]
      exact nmF_congr fun j hj => hk j (by simp [hj])
theorem nmL_congr {g h : Nat → Int} {N : Nat} (hk : ∀ i j, i < N → j < N → (g i = g j ↔ h i = h j)) : ∀ (d i : Nat) (l : List Nat) (out : List Nat), (∀ j ∈ l, j < N) → i + d ≤ N → nmL g d i (l.map g) out = nmL h d i (l.map h) out
  | 0, _, _, _, _, _ => rfl
  | d + 1, i, l, out, hl, hd => by
    have hf := nmF_congr (g := g) (h := h) (i := i) (l := l) (b := 0) fun j hj => hk i j (by omega) (hl j hj)
    unfold nmL
    rw [hf]
    cases nmF (h i) (l.map h) 0 with
    | some j => exact nmL_congr hk d (i + 1) l _ hl (by omega)
    | none =>
      simp only [List.length_map]
      have := nmL_congr hk d (i + 1) (l ++ [i]) (out.set i l.length) (fun j hj => by
        rcases List.mem_append.1 hj with h5 | h5
        · exact hl j h5
        · have : j = i := by simpa using h5
          omega) (by omega)
      simpa using this
theorem nm_congr {g h : Nat → Int} {n : Nat} (hk : ∀ i j, i < 2 * n → j < 2 * n → (g i = g j ↔ h i = h j)) : nm g n = nm h n :=
  nmL_congr hk (2 * n) 0 [] _ (fun j hj => by simp at hj) (by omega)

/-! groups: parents, roots, depths -/
structure UF (N : Nat) (p r d : Nat → Nat) : Prop where
  pl : ∀ x, x < N → p x < N
  rl : ∀ x, x < N → r x < N
  rp : ∀ x, x < N → r (p x) = r x
  pr : ∀ x, x < N → p (r x) = r x
  dp : ∀ x, x < N → p x ≠ x → d (p x) < d x
  fx : ∀ x, x < N → p x = x → r x = x
  dr : ∀ x, x < N → d (r x) = 0
theorem UF.rr {N : Nat} {p r d : Nat → Nat} (h : UF N p r d) {x : Nat} (hx : x < N) : r (r x) = r x := h.fx (r x) (h.rl x hx) (h.pr x hx)
theorem UF.init (N : Nat) : UF N (fun x => x) (fun x => x) (fun _ => 0) :=
  ⟨fun _ h => h, fun _ h => h, fun _ _ => rfl, fun _ _ => rfl, fun _ _ h => absurd rfl h, fun _ _ h => h, fun _ _ => rfl⟩
def jnP (p r : Nat → Nat) (i k : Nat) : Nat → Nat := fun x => if x = r i then r k else p x
def jnR (r : Nat → Nat) (i k : Nat) : Nat → Nat := fun x => if r x = r i then r k else r x
def jnD (r d : Nat → Nat) (i k : Nat) : Nat → Nat := fun x => if r i = r k then d x else if r x = r i then d x + 1 else d x
theorem UF.join {N : Nat} {p r d : Nat → Nat} (h : UF N p r d) {i k : Nat} (hi : i < N) (hk : k < N) : UF N (jnP p r i k) (jnR r i k) (jnD r d i k) := by
  have hri := h.rl i hi
  have hrk := h.rl k hk
  have rri := h.rr hi
  have rrk := h.rr hk
  by_cases he : r i = r k
  · -- nothing changes
    have e1 : jnP p r i k = p := by
      funext x; simp only [jnP]; split
      · rename_i hx; rw [hx, h.pr i hi, he]
      · rfl
    have e2 : jnR r i k = r := by
      funext x; simp only [jnR]; split
      · rename_i hx; rw [hx, he]
      · rfl
    have e3 : jnD r d i k = d := by funext x; simp only [jnD, if_pos he]
    rw [e1, e2, e3]; exact h
  · refine ⟨fun x hx => ?_, fun x hx => ?_, fun x hx => ?_, fun x hx => ?_, fun x hx => ?_, fun x hx => ?_, fun x hx => ?_⟩
    · simp only [jnP]; split
      · exact hrk
      · exact h.pl x hx
    · simp only [jnR]; split
      · exact hrk
      · exact h.rl x hx
    · by_cases hx1 : x = r i
      · rw [show jnP p r i k x = r k from if_pos hx1]
        simp only [jnR]
        rw [if_neg (by rw [rrk]; exact fun e => he e.symm), rrk, if_pos (by rw [hx1]; exact rri)]
      · rw [show jnP p r i k x = p x from if_neg hx1]
        simp only [jnR]
        rw [h.rp x hx]
    · by_cases hx1 : r x = r i
      · rw [show jnR r i k x = r k from if_pos hx1]
        simp only [jnP]
        rw [if_neg (fun e => he e.symm), h.pr k hk]
      · rw [show jnR r i k x = r x from if_neg hx1]
        simp only [jnP]
        rw [if_neg hx1, h.pr x hx]
    · intro hne
      by_cases hx1 : x = r i
      · rw [show jnP p r i k x = r k from if_pos hx1]
        simp only [jnD, if_neg he]
        rw [if_neg (by rw [rrk]; exact fun e => he e.symm), h.dr k hk, if_pos (by rw [hx1]; exact rri)]; omega
      · rw [show jnP p r i k x = p x from if_neg hx1] at hne ⊢
        have := h.dp x hx hne
        simp only [jnD, if_neg he]
        rw [h.rp x hx]
        split <;> omega
    · intro hfx
      by_cases hx1 : x = r i
      · rw [show jnP p r i k x = r k from if_pos hx1] at hfx; exact absurd (hx1.symm.trans hfx.symm) he
      · rw [show jnP p r i k x = p x from if_neg hx1] at hfx
        have := h.fx x hx hfx
        simp only [jnR]
        rw [if_neg (fun e => hx1 (this.symm.trans e)), this]
    · by_cases hx1 : r x = r i
      · rw [show jnR r i k x = r k from if_pos hx1]
        simp only [jnD, if_neg he]
        rw [if_neg (by rw [rrk]; exact fun e => he e.symm), h.dr k hk]
      · rw [show jnR r i k x = r x from if_neg hx1]
        simp only [jnD, if_neg he]
        rw [if_neg (by rw [h.rr hx]; exact hx1), h.dr x hx]
theorem jnR_ik {r : Nat → Nat} {i k : Nat} : jnR r i k i = jnR r i k k := by
  simp [jnR]
theorem jnR_eq {r : Nat → Nat} {i k x y : Nat} (h : r x = r y) : jnR r i k x = jnR r i k y := by simp only [jnR]; rw [h]
theorem jnR_phi {φ : Nat → Nat} {N : Nat} {r : Nat → Nat} {i k : Nat} (hi : i < N) (hk : k < N) (h : ∀ x, x < N → φ (r x) = φ x) (he : φ i = φ k) : ∀ x, x < N → φ (jnR r i k x) = φ x := by
  intro x hx
  simp only [jnR]; split
  · rename_i h5; rw [h k hk, ← he, ← h i hi, ← h5, h x hx]
  · exact h x hx

abbrev St := (Nat → Nat) × (Nat → Nat) × (Nat → Nat)
def jn (s : St) (i k : Nat) : St := (jnP s.1 s.2.1 i k, jnR s.2.1 i k, jnD s.2.1 s.2.2 i k)
def g1 (f : Nat → Nat) (o i k : Nat) (s : St) : St := if f i = f k then jn s (o + i) (o + k) else s
def gK (a b : Nat → Nat) (n i : Nat) : Nat → St → St
  | 0, s => s
  | k + 1, s => g1 b n i k (g1 a 0 i k (gK a b n i k s))
def gI (a b : Nat → Nat) (n : Nat) : Nat → St
  | 0 => (fun x => x, fun x => x, fun _ => 0)
  | i + 1 => gK a b n i i (gI a b n i)
def UFs (N : Nat) (s : St) : Prop := UF N s.1 s.2.1 s.2.2
theorem g1_uf {f : Nat → Nat} {o i k N : Nat} {s : St} (h : UFs N s) (hi : o + i < N) (hk : o + k < N) : UFs N (g1 f o i k s) := by
  unfold g1; split
  · exact UF.join h hi hk
  · exact h
theorem gK_uf {a b : Nat → Nat} {n i : Nat} {s : St} (h : UFs (3 * n) s) (hi : i < 2 * n) : ∀ k, k ≤ i → UFs (3 * n) (gK a b n i k s)
  | 0, _ => h
  | k + 1, hk => g1_uf (g1_uf (gK_uf h hi k (by omega)) (by omega) (by omega)) (by omega) (by omega)
theorem gI_uf {a b : Nat → Nat} {n : Nat} : ∀ i, i ≤ 2 * n → UFs (3 * n) (gI a b n i)
  | 0, _ => UF.init _
  | i + 1, hi => gK_uf (gI_uf i (by omega)) (by omega) i (Nat.le_refl i)
theorem g1_eq {f : Nat → Nat} {o i k x y : Nat} {s : St} (h : s.2.1 x = s.2.1 y) : (g1 f o i k s).2.1 x = (g1 f o i k s).2.1 y := by
  unfold g1; split
  · exact jnR_eq h
  · exact h
theorem gK_eq {a b : Nat → Nat} {n i x y : Nat} {s : St} (h : s.2.1 x = s.2.1 y) : ∀ k, (gK a b n i k s).2.1 x = (gK a b n i k s).2.1 y
  | 0 => h
  | k + 1 => g1_eq (g1_eq (gK_eq h k))
theorem g1_on {f : Nat → Nat} {o i k : Nat} {s : St} (h : f i = f k) : (g1 f o i k s).2.1 (o + i) = (g1 f o i k s).2.1 (o + k) := by
  unfold g1; rw [if_pos h]; exact jnR_ik
theorem gK_on {a b : Nat → Nat} {n i : Nat} {s : St} : ∀ K k, k < K → (a i = a k → (gK a b n i K s).2.1 i = (gK a b n i K s).2.1 k) ∧ (b i = b k → (gK a b n i K s).2.1 (n + i) = (gK a b n i K s).2.1 (n + k))
  | 0, k, h => by omega
  | K + 1, k, h => by
    by_cases hk : k = K
    · subst hk
      refine ⟨fun e => ?_, fun e => g1_on e⟩
      have := g1_on (f := a) (o := 0) (i := i) (k := k) (s := gK a b n i k s) e
      rw [Nat.zero_add, Nat.zero_add] at this
      exact g1_eq this
    · have ih := gK_on (a := a) (b := b) (n := n) (i := i) (s := s) K k (by omega)
      exact ⟨fun e => g1_eq (g1_eq (ih.1 e)), fun e => g1_eq (g1_eq (ih.2 e))⟩
theorem gI_on {a b : Nat → Nat} {n : Nat} : ∀ I i k, i < I → k < i → (a i = a k → (gI a b n I).2.1 i = (gI a b n I).2.1 k) ∧ (b i = b k → (gI a b n I).2.1 (n + i) = (gI a b n I).2.1 (n + k))
  | 0, i, k, h, _ => by omega
  | I + 1, i, k, h, hk => by
    by_cases hi : i = I
    · subst hi; exact gK_on i k hk
    · have ih := gI_on (a := a) (b := b) (n := n) I i k (by omega) hk
      exact ⟨fun e => gK_eq (ih.1 e) I, fun e => gK_eq (ih.2 e) I⟩
theorem gI_a {a b : Nat → Nat} {n i k : Nat} (hi : i < 2 * n) (hk : k < 2 * n) (e : a i = a k) : (gI a b n (2 * n)).2.1 i = (gI a b n (2 * n)).2.1 k := by
  rcases Nat.lt_trichotomy i k with h | h | h
  · exact ((gI_on (2 * n) k i hk h).1 e.symm).symm
  · rw [h]
  · exact (gI_on (2 * n) i k hi h).1 e
theorem gI_b {a b : Nat → Nat} {n i k : Nat} (hi : i < 2 * n) (hk : k < 2 * n) (e : b i = b k) : (gI a b n (2 * n)).2.1 (n + i) = (gI a b n (2 * n)).2.1 (n + k) := by
  rcases Nat.lt_trichotomy i k with h | h | h
  · exact ((gI_on (2 * n) k i hk h).2 e.symm).symm
  · rw [h]
  · exact (gI_on (2 * n) i k hi h).2 e
theorem g1_phi {φ f : Nat → Nat} {o i k N : Nat} {s : St} (hi : o + i < N) (hk : o + k < N) (hφ : f i = f k → φ (o + i) = φ (o + k)) (h : ∀ x, x < N → φ (s.2.1 x) = φ x) : ∀ x, x < N → φ ((g1 f o i k s).2.1 x) = φ x := by
  unfold g1; split
  · rename_i e; exact jnR_phi hi hk h (hφ e)
  · exact h
theorem gK_phi {φ a b : Nat → Nat} {n i : Nat} {s : St} (ha : ∀ i k, i < 2 * n → k < 2 * n → a i = a k → φ i = φ k) (hb : ∀ i k, i < 2 * n → k < 2 * n → b i = b k → φ (n + i) = φ (n + k)) (hi : i < 2 * n) (h : ∀ x, x < 3 * n → φ (s.2.1 x) = φ x) : ∀ k, k ≤ i → ∀ x, x < 3 * n → φ ((gK a b n i k s).2.1 x) = φ x
  | 0, _ => h
  | k + 1, hk => g1_phi (by omega) (by omega) (hb i k hi (by omega)) (g1_phi (by omega) (by omega) (fun e => by rw [Nat.zero_add, Nat.zero_add]; exact ha i k hi (by omega) e) (gK_phi ha hb hi h k (by omega)))
theorem gI_phi {φ a b : Nat → Nat} {n : Nat} (ha : ∀ i k, i < 2 * n → k < 2 * n → a i = a k → φ i = φ k) (hb : ∀ i k, i < 2 * n → k < 2 * n → b i = b k → φ (n + i) = φ (n + k)) : ∀ i, i ≤ 2 * n → ∀ x, x < 3 * n → φ ((gI a b n i).2.1 x) = φ x
  | 0, _ => fun _ _ => rfl
  | i + 1, hi => gK_phi ha hb (by omega) (gI_phi ha hb i (by omega)) i (Nat.le_refl i)

/-! the leaders of the reference -/
def ldU (ld : Nat → Nat) (one two : Nat) : Nat → Nat := fun l => if ld l = two then one else ld l
def ldI (a b : Nat → Nat) (n : Nat) : Nat → Nat → Nat
  | 0 => fun l => l
  | i + 1 => ldU (ldI a b n i) (ldI a b n i (a (n + i))) (ldI a b n i (8 + b i))
theorem ldI_on {a b : Nat → Nat} {n : Nat} : ∀ I i, i < I → ldI a b n I (a (n + i)) = ldI a b n I (8 + b i)
  | 0, i, h => by omega
  | I + 1, i, h => by
    by_cases hi : i = I
    · subst hi
      simp only [ldI, ldU, if_true]
      split <;> rfl
    · have := ldI_on (a := a) (b := b) (n := n) I i (by omega)
      simp only [ldI, ldU]
      rw [this]
theorem ldI_psi {ψ a b : Nat → Nat} {n : Nat} : ∀ I, (∀ i, i < I → ψ (a (n + i)) = ψ (8 + b i)) → ∀ l, ψ (ldI a b n I l) = ψ l
  | 0, _, _ => rfl
  | I + 1, h, l => by
    have ih := ldI_psi (ψ := ψ) (a := a) (b := b) (n := n) I fun i hi => h i (by omega)
    simp only [ldI, ldU]
    split
    · rename_i e
      rw [ih, h I (by omega), ← ih (8 + b I), ← e, ih]
    · exact ih l
def lam (a b : Nat → Nat) (n x : Nat) : Nat := if x < 2 * n then a x else 8 + b (x - n)
theorem mul_ker {a b : Nat → Nat} {n : Nat} (ha : ∀ i, i < 2 * n → a i < 8) {x y : Nat} (hx : x < 3 * n) (hy : y < 3 * n) :
    (gI a b n (2 * n)).2.1 x = (gI a b n (2 * n)).2.1 y ↔ ldI a b n n (lam a b n x) = ldI a b n n (lam a b n y) := by
  constructor
  · intro h
    have hφ : ∀ i, i < 2 * n → ldI a b n n (lam a b n (n + i)) = ldI a b n n (8 + b i) := by
      intro i hi
      by_cases hin : i < n
      · rw [show lam a b n (n + i) = a (n + i) from if_pos (by omega)]; exact ldI_on n i hin
      · rw [show lam a b n (n + i) = 8 + b (n + i - n) from if_neg (by omega), Nat.add_sub_cancel_left]
    have hr := gI_phi (φ := fun x => ldI a b n n (lam a b n x)) (a := a) (b := b) (n := n)
      (fun i k hi hk e => by
        show ldI a b n n (lam a b n i) = ldI a b n n (lam a b n k)
        rw [show lam a b n i = a i from if_pos hi, show lam a b n k = a k from if_pos hk, e])
      (fun i k hi hk e => by
        show ldI a b n n (lam a b n (n + i)) = ldI a b n n (lam a b n (n + k))
        rw [hφ i hi, hφ k hk, e]) (2 * n) (Nat.le_refl _)
    have h1 := hr x hx
    have h2 := hr y hy
    rw [h] at h1
    exact h1.symm.trans h2
  · intro h
    let P : Nat → Nat → Prop := fun x l => (x < 2 * n ∧ a x = l) ∨ (∃ i, i < 2 * n ∧ x = n + i ∧ 8 + b i = l)
    have hP : ∀ x y l, P x l → P y l → (gI a b n (2 * n)).2.1 x = (gI a b n (2 * n)).2.1 y := by
      rintro x y l (⟨h1, h2⟩ | ⟨i, h1, h2, h3⟩) (⟨h4, h5⟩ | ⟨k, h4, h5, h6⟩)
      · exact gI_a h1 h4 (h2.trans h5.symm)
      · have := ha x h1; omega
      · have := ha y h4; omega
      · rw [h2, h5]; exact gI_b h1 h4 (by omega)
    have : ∃ ψ : Nat → Nat, ∀ x l, P x l → ψ l = (gI a b n (2 * n)).2.1 x := by
      refine ⟨fun l => @dite Nat (∃ x, P x l) (Classical.propDecidable _) (fun h => (gI a b n (2 * n)).2.1 h.choose) (fun _ => 0), fun x l hp => ?_⟩
      have he : ∃ x, P x l := ⟨x, hp⟩
      simp only [he, dite_true]
      exact hP _ _ l he.choose_spec hp
    obtain ⟨ψ, hψ⟩ := this
    have hl : ∀ x, x < 3 * n → P x (lam a b n x) := by
      intro x hx
      by_cases h1 : x < 2 * n
      · exact Or.inl ⟨h1, (if_pos h1).symm⟩
      · exact Or.inr ⟨x - n, by omega, by omega, (if_neg h1).symm⟩
    have hq := ldI_psi (ψ := ψ) (a := a) (b := b) (n := n) n (fun i hi => by
      rw [hψ (n + i) (a (n + i)) (Or.inl ⟨by omega, rfl⟩), hψ (n + i) (8 + b i) (Or.inr ⟨i, by omega, rfl, rfl⟩)])
    have h1 := hq (lam a b n x)
    have h2 := hq (lam a b n y)
    rw [h] at h1
    rw [← hψ x _ (hl x hx), ← hψ y _ (hl y hy)]
    exact h1.symm.trans h2
end Go.Proofs.Ytpangmameocfmaa.VE.P
