/- Contracts of functions of the given program, for all arguments that the contract names; see each theorem. -/
import Derived.Test.YtgpgcdofhkpeaaaFA
import Derived.Test.YtgpgcdofhkpeaaaNA
set_option linter.all false
namespace Go.Proofs.Ytgpgcdofhkpeaaa.VE
open Go
set_option maxHeartbeats 1600000
set_option maxRecDepth 100000

/-! plain: numbers of planar diagrams tell them apart -/
def nuN (n : Nat) (m : List Nat) : Nat := rkF (qq n m) (2 * n) 0 0
section
variable {n : Nat} {m : List Nat} (hd : IsD n m)
include hd
theorem V_byte : ∀ x ∈ m, x < 256 := by
  intro x hx
  obtain ⟨i, hi⟩ := List.getElem?_of_mem hx
  have hn := hd.n8
  have e : m.getD i 0 = x := by rw [List.getD_eq_getElem?_getD, hi]; rfl
  by_cases h : i < 2 * n
  · have := hd.lt i h; omega
  · have := hd.zero i (by omega); omega
theorem isDi_of : isDi n m = true := by
  rw [← isD_eq n m hd.len]
  have h1 := hd.n1; have h8 := hd.n8
  unfold isDs
  simp only [Bool.and_eq_true, decide_eq_true_eq]
  rw [Int.toNat_natCast]
  refine ⟨⟨by omega, by omega⟩, (ckS_true (n := n) (m := m) 16 0).2 fun j _ _ => ⟨fun h => hd.zero j h, fun h => ⟨hd.lt j h, hd.ne j h, hd.inv j h⟩⟩, ?_⟩
  exact crOA_true.2 ((planar_iff hd.lt).2 hd.pl).2
theorem nu_at : (br (2 * n) ⟨#[]⟩ 0)[nuN n m]? = some (brB (qq n m) (2 * n)) := by
  have := br_at (N := 2 * n) (q := qq n m) hd.pl.1 (2 * n) 0 (by omega)
  have e0 : opc (qq n m) 0 = 0 := rfl
  rwa [e0] at this
theorem nu_lt : nuN n m < wy (2 * n) 0 := by
  have := (List.getElem?_eq_some_iff.1 (nu_at hd)).1
  rwa [br_len] at this
end
theorem nu_inj {n : Nat} {a b : List Nat} (ha : IsD n a) (hb : IsD n b) (h : nuN n a = nuN n b) : a = b := by
  have e := nu_at ha
  rw [h, nu_at hb] at e
  injection e with e
  have ht : ∀ j, j < 2 * n → tb (brB (qq n b) (2 * n)) j = if j < qq n b j then 40 else 41 := fun j hj => tb_br hj
  have ht' : ∀ j, j < 2 * n → tb (brB (qq n b) (2 * n)) j = if j < qq n a j then 40 else 41 := fun j hj => by rw [e]; exact tb_br hj
  obtain ⟨o1, h1, h2⟩ := (pm_iff (fun _ => 0) ht).2 hb.pl
  obtain ⟨o2, h3, h4⟩ := (pm_iff (fun _ => 0) ht').2 ha.pl
  rw [h1] at h3
  injection h3 with h3; injection h3 with _ h3
  subst h3
  refine V_ext ha.len hb.len ha.zero hb.zero fun j hj => ?_
  have l := plc_lt hj
  have e2 : qq n a (plc n j) = qq n b (plc n j) := by rw [← h4 _ l, ← h2 _ l]
  unfold qq at e2
  rw [plc_inv hj] at e2
  rw [← plc_inv (ha.lt j hj), e2, plc_inv (hb.lt j hj)]
theorem pigeonN : ∀ (B : Nat) (l : List Nat), l.Nodup → (∀ x ∈ l, x < B) → l.length ≤ B
  | 0, l, _, h => by
    cases l with
    | nil => simp
    | cons a r => exact absurd (h a (by simp)) (by omega)
  | B + 1, l, hn, h => by
    by_cases hb : B ∈ l
    · have h1 := List.length_erase_of_mem hb
      have h2 := pigeonN B (l.erase B) (hn.erase B) fun x hx => by
        have h3 := h x (List.mem_of_mem_erase hx)
        have h4 : x ≠ B := fun e => by subst e; exact (List.Nodup.not_mem_erase hn) hx
        omega
      omega
    · have := pigeonN B l hn fun x hx => by
        have h3 := h x hx
        have h4 : x ≠ B := fun e => hb (e ▸ hx)
        omega
      omega
/-- Different planar diagrams are not many. -/
theorem few {n : Nat} {l : List (List Nat)} (hn : l.Nodup) (hd : ∀ m ∈ l, IsD n m) : l.length ≤ wy (2 * n) 0 := by
  have := pigeonN (wy (2 * n) 0) (l.map (nuN n)) (by
    rw [List.Nodup, List.pairwise_map]
    refine List.Pairwise.imp_of_mem ?_ hn
    intro a b h1 h2 hab e
    exact hab (nu_inj (hd a h1) (hd b h2) e)) (by
    intro x hx
    obtain ⟨m, hm, rfl⟩ := List.mem_map.1 hx
    exact nu_lt (hd m hm))
  rwa [List.length_map] at this

/-! rows of numbers -/
def nl (l : List Nat) : List Value := l.map fun (x : Nat) => .int .i64 (x : Int)
theorem nl_len {l : List Nat} : (nl l).length = l.length := by simp [nl]
theorem nl_at {l : List Nat} {i : Nat} (h : i < l.length) : (nl l)[i]? = some (.int .i64 ((l.getD i 0 : Nat) : Int)) := by
  simp [nl, List.getElem?_map, List.getD_eq_getElem?_getD, List.getElem?_eq_getElem h]
theorem nl_app {l : List Nat} {x : Nat} : nl l ++ [.int .i64 (x : Int)] = nl (l ++ [x]) := by simp [nl]
theorem nl_set {l : List Nat} {i x : Nat} : (nl l).set i (.int .i64 (x : Int)) = nl (l.set i x) := by simp [nl, List.map_set]
theorem nl_ones {l : List Nat} : ones (nl l) := by
  intro u hu
  simp only [nl, List.mem_map] at hu
  obtain ⟨x, _, rfl⟩ := hu; rfl
/-- Numbers that are told modulo 2^64. -/
def wl (l : List Nat) : List Value := l.map fun (x : Nat) => .int .i64 (IntKind.i64.wrap (x : Int))
theorem wl_len {l : List Nat} : (wl l).length = l.length := by simp [wl]
theorem wl_at {l : List Nat} {i : Nat} (h : i < l.length) : (wl l)[i]? = some (.int .i64 (IntKind.i64.wrap ((l.getD i 0 : Nat) : Int))) := by
  simp [wl, List.getElem?_map, List.getD_eq_getElem?_getD, List.getElem?_eq_getElem h]
theorem wl_app {l : List Nat} {x : Nat} : wl l ++ [.int .i64 (IntKind.i64.wrap (x : Int))] = wl (l ++ [x]) := by simp [wl]
theorem wl_set {l : List Nat} {i x : Nat} : (wl l).set i (.int .i64 (IntKind.i64.wrap (x : Int))) = wl (l.set i x) := by simp [wl, List.map_set]
theorem wl_ones {l : List Nat} : ones (wl l) := by
  intro u hu
  simp only [wl, List.mem_map] at hu
  obtain ⟨x, _, rfl⟩ := hu; rfl
theorem wrap_is (a : Int) : IntKind.i64.wrap a = if 9223372036854775808 ≤ a % 18446744073709551616 then a % 18446744073709551616 - 18446744073709551616 else a % 18446744073709551616 := by
  simp only [IntKind.wrap, IntKind.signed, IntKind.bits]
  by_cases h : 9223372036854775808 ≤ a % 18446744073709551616
  · rw [if_pos h]; simp [h]
  · rw [if_neg h]; simp [h]
theorem wrap_add (a b : Int) : IntKind.i64.wrap (IntKind.i64.wrap a + IntKind.i64.wrap b) = IntKind.i64.wrap (a + b) := by
  rw [wrap_is a, wrap_is b, wrap_is (a + b), wrap_is]
  split <;> split <;> split <;> split <;> omega
end Go.Proofs.Ytgpgcdofhkpeaaa.VE
