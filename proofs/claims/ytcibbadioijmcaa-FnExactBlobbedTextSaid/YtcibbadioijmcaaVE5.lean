/- Contracts of functions of the given program, for all arguments that the contract names; see each theorem. -/
import Derived.Test.YtcibbadioijmcaaEb
import Derived.Laws.IdiomStrings
set_option linter.all false
namespace Go.Proofs.Ytcibbadioijmcaa.VE
open Go

section
variable {P : Program} {Γ : Ctx} {n : Nat} {o : Oper} {f : Sl} {L : List O}
/-- A text's bytes, as a row of its own. -/
theorem conv_bytes {src dst e : TypeId} {x : Operand} {s : ByteArray} {K : LK} (m : Nat) (xs : List Value) (ho : o.op = .convert src dst x) (hs : P.underlying src = some .string) (hd : P.underlying dst = some (.slice e)) (he : P.underlying e = some (.int .u8))
    (hx : ev f x = .raw (.string s)) (hsm : s.size = m) (hxs : s.data.toList.map (fun b => Value.int .u8 (b.toNat : Int)) = xs) (hK : K [] ⟨.sl n, [], [.mr e m xs]⟩) : ∃ rd e, LocOK P Γ n o f L rd e ∧ K rd e := by
  subst hsm
  refine ⟨_, _, ?_, hK⟩
  intro ρ a w Lr hop hr _ hfree hm K Q hK
  have hn : Lr[n]? = some .free := by simpa using hfree 0 (by simp)
  have hv := (hop x (by simp [ho, Op.operands])).1
  rw [hx] at hv
  have hrun := run_bytes_of_string (P := P) w src dst e s hs hd he
  have hcap : s.size ≤ s.size + (grownCap w s.size 0 e - s.size) := by omega
  generalize hrw : bytesRow s (grownCap w s.size 0 e) = row at hrun
  have hsz : s.size ≤ row.size := by rw [← hrw]; simp [bytesRow]
  have htk : row.toList.take s.size = xs := by
    rw [← hrw, ← hxs]
    simp only [bytesRow, Array.toList_append, Array.toList_map]
    rw [List.take_append_of_le_length (by simp), List.take_of_length_le (by simp)]
  generalize hv' : Value.slice (some ⟨w.heap.size, 0, none⟩) s.size (grownCap w s.size 0 e) = v at hrun
  have hblk : (ρ.put n w.heap.size v).blk n = w.heap.size := by simp [Rho.put]
  have hval : (ρ.put n w.heap.size v).val n = v := by simp [Rho.put]
  have hxl : xs.length = s.size := by rw [← hxs]; simp
  obtain ⟨h1, h2⟩ := hr.new (w' := w.drew.alloc (.cells row e (row.size, row.size + 1))) (o := .mr e s.size xs) hn hm (v := v) (by simp) rfl rfl rfl rfl
    (fun b hb => by simp only [O.own, O.own1, hblk] at hb; injection hb with hb; exact hb.symm)
    ⟨hxl, _, row, by rw [hval, hblk, ← hv'], by rw [hblk]; exact heap_alloc_new w.drew _, hsz, htk⟩ (by simp [O.ids])
  unfold Oper.wp
  have hrun2 : (execOp a.eval o).run P w = .ok (.value v) (w.drew.alloc (.cells row e (row.size, row.size + 1))) := by
    simp only [execOp, ho, hv, V.ren, Sem.run_bind, hrun, Result.andThen_ok, Sem.run_pure]
  rw [hrun2]
  have := hK _ _ h1 h2 (fun k hk => okId_set (by simp) hk) (fun k hk => by
    simp only [V.ids, List.mem_singleton] at hk
    subst hk
    exact okId_set_new (by simp) (lt_of_get hn))
  have hslv : slv v = v := by rw [← hv']; rfl
  simpa [V.ren, hval, hslv, Oper.upon] using this
end
end Go.Proofs.Ytcibbadioijmcaa.VE
