/-
  Type assertions; cells of an array's value: of whatever program.
-/
import Derived.Test.YtlapfdcocakloaaDoorEase
namespace Go.Vc
variable {P : Program} {w : World} {β : Type}
def concT (P : Program) (t : TypeId) : Bool := match P.underlying t with | some (.interface _) => false | some _ => true | none => false
def zeroT (P : Program) (t : TypeId) : Option Value := (P.info? t).bind (·.zero)
theorem ta_yes {t x : TypeId} {v : Value} {val : β → Value} {y : β} {K : β × Bool → Prop} (ht : concT P t = true) (hv : v = val y) (hK : K (y, true)) : opRd P (Instr.typeAssert (.iface t v) x t true) (tval2 val Value.bool) K w := by
  unfold concT at ht
  subst hv
  refine ⟨(y, true), ?_, hK⟩
  split at ht
  · cases ht
  · rename_i d hd hne
    unfold Instr.typeAssert
    rw [Sem.run_bind, run_und hne, Result.andThen_ok]
    cases d <;> first | (exact absurd rfl (hd _)) | (simp [tval2])
  · cases ht
theorem ta_one {t x : TypeId} {v : Value} {val : β → Value} {y : β} {K : β → Prop} (ht : concT P t = true) (hv : v = val y) (hK : K y) : opRd P (Instr.typeAssert (.iface t v) x t false) val K w := by
  unfold concT at ht
  subst hv
  refine ⟨y, ?_, hK⟩
  split at ht
  · cases ht
  · rename_i d hd hne
    unfold Instr.typeAssert
    rw [Sem.run_bind, run_und hne, Result.andThen_ok]
    cases d <;> first | (exact absurd rfl (hd _)) | (simp)
  · cases ht
theorem ta_no {t t' x : TypeId} {v : Value} {val : β → Value} {y : β} {K : β × Bool → Prop} (ht : concT P t' = true) (hne : Nat.beq t t' = false) (hz : zeroT P t' = some (val y)) (hK : K (y, false)) : opRd P (Instr.typeAssert (.iface t v) x t' true) (tval2 val Value.bool) K w := by
  unfold concT at ht
  have hn : ¬ t = t' := fun e => by subst e; rw [Nat.beq_refl] at hne; cases hne
  refine ⟨(y, false), ?_, hK⟩
  have hzr : (zeroValue t').run P w = .ok (val y) w := by
    unfold zeroT at hz
    cases hi : P.info? t' with
    | none => rw [hi] at hz; cases hz
    | some i =>
      rw [hi] at hz
      simp only [Option.bind_some] at hz
      simp [zeroValue, typeInfo, hi, hz]
  split at ht
  · cases ht
  · rename_i d hd hne'
    unfold Instr.typeAssert
    rw [Sem.run_bind, run_und hne', Result.andThen_ok]
    cases d <;> first | (exact absurd rfl (hd _)) | (simp [tval2, hn, Sem.run_bind, hzr, Result.andThen])
  · cases ht
/-- A variable behind a pointer, written whole; and read whole. -/
theorem st_whole {t n : Nat} {a : Addr} {cs cs' : List Value} {v : Value} {K : World → Prop} (ht : sizeT P t = some n) (h : Obj w a cs) (hv : v.cells.toList = cs') (hb : (allOne cs' && Nat.beq cs'.length n) = true) (hwr : wrV cs 0 cs' = some cs')
    (hK : ∀ w', Wr a.block w w' → Obj w' a cs' → K w') : opUn P (Instr.storeAt t (.pointer (some a)) v) K w := by
  obtain ⟨h1, h2, T, hT⟩ := h
  simp only [Bool.and_eq_true] at hb
  obtain ⟨w', hr, hw, hbk⟩ := run_store_own (P := P) (t := t) (off := 0) (r := cs') hT ht (by rw [hv]; exact Nat.eq_of_beq_eq_true hb.2) (by rw [hv]; exact hb.1) (by rw [hv]; exact hwr)
  refine ⟨w', ?_, hK w' hw ⟨h1, h2, T, hbk⟩⟩
  rw [addr_eta a h1, h2]
  exact hr
theorem ld_whole_obj {t n : Nat} {a : Addr} {cs : List Value} {val : β → Value} {x : β} {K : β → Prop} (ht : agT P t = some n) (h : Obj w a cs) (hn : cs.length = n) (hv : val x = .agg ⟨cs⟩) (hK : K x) : opRd P (Instr.loadAt t (.pointer (some a))) val K w := by
  have hrow : CellsAt w a.block a.off cs := by
    obtain ⟨h1, h2, T, hT⟩ := h
    intro j v hj
    rw [h2, Nat.zero_add, cell_own hT, hj]
  exact ⟨x, by rw [hv]; exact run_ldAgg ht hn h.1 hrow, hK⟩
end Go.Vc
