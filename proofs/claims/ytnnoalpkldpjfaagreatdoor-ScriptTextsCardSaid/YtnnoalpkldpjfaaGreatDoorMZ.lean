import Derived.Test.YtnnoalpkldpjfaaGreatDoorMX
import Derived.Test.YtnnoalpkldpjfaaGreatDoorSub
import Derived.Test.YtnnoalpkldpjfaaGreatDoorEqs
import Derived.ChangeKeysEq
/-
  Short ways through own variables that are new since a call began: of whatever program.
-/
namespace Go.Vc
open Go.RowKit (Below)
variable {w0 w w' : World} {α : Type}
theorem new_x {K : Nat → World → Prop} (hx : Ext w0 w) (h : ∀ b w', w0.heap.size ≤ b → b < w'.heap.size → Ext w0 w' → New b w w' → K b w') : newV K w :=
  new_of fun b w' hn => h b w' (by have := hn.1; have := hx.size; omega) hn.lt (hx.trans' (Ext.new hn)) hn
theorem wr_x {b : Nat} {K : World → Prop} (hx : Ext w0 w) (hb : w0.heap.size ≤ b) (h : ∀ w', Ext w0 w' → Wr b w w' → K w') : wrM b K w :=
  wr_of fun w' hw => h w' (Below.wr hx hb hw) hw
/-- An own slice that lies above a variable stays when the variable is written. -/
theorem OwnSl.wrO {E : Enc α} {B b : Nat} {s : Sl} {l : List α} (ho : OwnSl E w B s l) (hw : Wr b w w') (hb : b < B) : OwnSl E w' B s l :=
  ho.grownB (grown_wr hw) fun c hc e => by have := ho.ge c hc; cases e; omega
theorem OwnSl.isExt {E : Enc α} {B : Nat} {s : Sl} {l : List α} (ho : OwnSl E w B s l) (hx : Ext w w') : IsSl E w' s l := ho.is.ext hx
theorem OwnSl.lt {E : Enc α} {B : Nat} {s : Sl} {l : List α} (h : OwnSl E w B s l) : ∀ b, s.blk = some b → b < w.heap.size := fun b hb => by
  rcases h.row with ⟨h0, _⟩ | ⟨g, cur, h1, _, h2, _⟩
  · subst h0; cases hb
  · simp [Sl.blk, h1] at hb; subst hb; exact h2.lt
/-- ..and when a variable is written that is newer than it. -/
theorem OwnSl.wrN {E : Enc α} {B b : Nat} {s : Sl} {l : List α} (ho : OwnSl E w B s l) (hw : Wr b w w') {n : Nat} (hn : ∀ c, s.blk = some c → c < n) (hb : n ≤ b) : OwnSl E w' B s l :=
  ho.grownB (grown_wr hw) fun c hc e => by have := hn c hc; cases e; omega
/-- An own slice when another one that lies above it has turned. -/
theorem OwnSl.apart {E : Enc α} {β : Type} {F : Enc β} {B C : Nat} {s t : Sl} {l : List α} {m : List β} (ho : OwnSl E w B s l) (ht : OwnSl F w C t m) (hg : w.grownBy w' t.blk) (h : ∀ b, s.blk = some b → b < C) : OwnSl E w' B s l :=
  ho.grownB hg fun c hc e => by
    have := ht.ge c e.symm
    have := h c hc
    omega
theorem kp_wrx {b c : Nat} {w w' : World} {X : Prop} (h : Wr c w w') (hb : b ≠ c) (x : X) : kp b w w' X := kp_wr h hb x
/-- Own variables when an own slice that lies above has turned. -/
theorem kp_O {E : Enc α} {B b : Nat} {s : Sl} {l : List α} {X : Prop} (ho : OwnSl E w B s l) (hb : b < B) (hg : w.grownBy w' s.blk) (x : X) : kp b w w' X :=
  kp_grown hg (fun e => by have := ho.ge b e.symm; omega) x
/-- A region that draws its order, where only calls turn the world. -/
theorem held_x {X : (World → Prop) → World → Prop} (h : ∀ w', Ext w w' → X (fun _ => True) w') : heldM X w := heldM_of (fun _ => True) fun w' hx => ⟨trivial, h w' hx⟩
/-- A whole element that is a struct, in a region that draws its order. -/
theorem stH {P : Program} {E : Enc α} {S : World → Prop} {t u : TypeId} {s : Sl} {l : List α} {i : Int} {k : Nat} {val : α → Value} {K : Addr → α → Prop} (ht : slOf P t = some E.sz) (hu : agT P u = some E.sz) (hS : ∀ w', S w' → IsSl E w' s l) (hi : i = (k : Int)) (hk : k < l.length)
    (hv : ∀ x, val x = .agg ⟨E.cs x⟩) (hK : ∀ a, K a l[k]) : opH P S (Instr.indexAt t s.val (.int .i64 i)) pav (fun a => opH P S (Instr.loadAt u (.pointer (some a))) val (K a)) :=
  ⟨s.at k E.sz, fun w' hw => (ix_eq ht (hS w' hw) hi hk).1, opH_of l[k] (fun w' hw => ld_whole hu (ix_eq (P := P) ht (hS w' hw) hi hk).2 (hv _) rfl) (hK _)⟩
end Go.Vc
/-
  Type assertions; cells of an array's value: of whatever program.
-/
namespace Go.Vc
variable {P : Program} {w : World} {β : Type}
def concT (P : Program) (t : TypeId) : Bool := match P.underlying t with | some (.interface _) => false | some _ => true | none => false
def zeroT (P : Program) (t : TypeId) : Option Value := (P.info? t).bind (·.zero)
theorem ta_yes {t x : TypeId} {v : Value} {val : β → Value} {y : β} {K : β × Bool → Prop} (ht : concT P t = true) (hv : v = val y) (hK : K (y, true)) : opRd P (Instr.typeAssert (.iface t v) x t true) (tval2 val Value.bool) K w := by
  unfold concT at ht
  subst hv
  refine ⟨(y, true), ?_, hK⟩
  split at ht
  · cases ht
  · rename_i d hd hne
    unfold Instr.typeAssert
    rw [Sem.run_bind, run_und hne, Result.andThen_ok]
    cases d <;> first | (exact absurd rfl (hd _)) | (simp [tval2])
  · cases ht
theorem ta_one {t x : TypeId} {v : Value} {val : β → Value} {y : β} {K : β → Prop} (ht : concT P t = true) (hv : v = val y) (hK : K y) : opRd P (Instr.typeAssert (.iface t v) x t false) val K w := by
  unfold concT at ht
  subst hv
  refine ⟨y, ?_, hK⟩
  split at ht
  · cases ht
  · rename_i d hd hne
    unfold Instr.typeAssert
    rw [Sem.run_bind, run_und hne, Result.andThen_ok]
    cases d <;> first | (exact absurd rfl (hd _)) | (simp)
  · cases ht
theorem ta_no {t t' x : TypeId} {v : Value} {val : β → Value} {y : β} {K : β × Bool → Prop} (ht : concT P t' = true) (hne : Nat.beq t t' = false) (hz : zeroT P t' = some (val y)) (hK : K (y, false)) : opRd P (Instr.typeAssert (.iface t v) x t' true) (tval2 val Value.bool) K w := by
  unfold concT at ht
  have hn : ¬ t = t' := fun e => by subst e; rw [Nat.beq_refl] at hne; cases hne
  refine ⟨(y, false), ?_, hK⟩
  have hzr : (zeroValue t').run P w = .ok (val y) w := by
    unfold zeroT at hz
    cases hi : P.info? t' with
    | none => rw [hi] at hz; cases hz
    | some i =>
      rw [hi] at hz
      simp only [Option.bind_some] at hz
      simp [zeroValue, typeInfo, hi, hz]
  split at ht
  · cases ht
  · rename_i d hd hne'
    unfold Instr.typeAssert
    rw [Sem.run_bind, run_und hne', Result.andThen_ok]
    cases d <;> first | (exact absurd rfl (hd _)) | (simp [tval2, hn, Sem.run_bind, hzr, Result.andThen])
  · cases ht
/-- A variable behind a pointer, written whole; and read whole. -/
theorem st_whole {t n : Nat} {a : Addr} {cs cs' : List Value} {v : Value} {K : World → Prop} (ht : sizeT P t = some n) (h : Obj w a cs) (hv : v.cells.toList = cs') (hb : (allOne cs' && Nat.beq cs'.length n) = true) (hwr : wrV cs 0 cs' = some cs')
    (hK : ∀ w', Wr a.block w w' → Obj w' a cs' → K w') : opUn P (Instr.storeAt t (.pointer (some a)) v) K w := by
  obtain ⟨h1, h2, T, hT⟩ := h
  simp only [Bool.and_eq_true] at hb
  obtain ⟨w', hr, hw, hbk⟩ := run_store_own (P := P) (t := t) (off := 0) (r := cs') hT ht (by rw [hv]; exact Nat.eq_of_beq_eq_true hb.2) (by rw [hv]; exact hb.1) (by rw [hv]; exact hwr)
  refine ⟨w', ?_, hK w' hw ⟨h1, h2, T, hbk⟩⟩
  rw [addr_eta a h1, h2]
  exact hr
theorem ld_whole_obj {t n : Nat} {a : Addr} {cs : List Value} {val : β → Value} {x : β} {K : β → Prop} (ht : agT P t = some n) (h : Obj w a cs) (hn : cs.length = n) (hv : val x = .agg ⟨cs⟩) (hK : K x) : opRd P (Instr.loadAt t (.pointer (some a))) val K w := by
  have hrow : CellsAt w a.block a.off cs := by
    obtain ⟨h1, h2, T, hT⟩ := h
    intro j v hj
    rw [h2, Nat.zero_add, cell_own hT, hj]
  exact ⟨x, by rw [hv]; exact run_ldAgg ht hn h.1 hrow, hK⟩
end Go.Vc
/-
  Comparing arrays of numbers: of whatever program.
-/
namespace Go.Vc
open Go
variable {P : Program}
theorem eqItems_int {d : Nat} {e : TypeId} {k : IntKind} {as bs : List Int} (he : intT P k e = true) (h1 : oneT P e = true) (w : World) : ∀ (is : List Nat), (∀ j ∈ is, j < as.length ∧ j < bs.length) →
    (Op.eqItems (d + 1) e 1 ⟨as.map fun n => .int k n⟩ ⟨bs.map fun n => .int k n⟩ is).run P w = .ok (is.all fun j => as[j]? == bs[j]?) w
  | [], _ => by simp [Op.eqItems]
  | j :: is, h => by
    obtain ⟨ha, hb⟩ := h j (List.mem_cons_self ..)
    have ih := eqItems_int (d := d) he h1 w is fun i hi => h i (List.mem_cons_of_mem _ hi)
    have pa : (part e ⟨as.map fun n => .int k n⟩ (j * 1)).run P w = .ok (.int k as[j]) w := part_one h1 (by simp [List.getElem?_eq_getElem ha]) w
    have pb : (part e ⟨bs.map fun n => .int k n⟩ (j * 1)).run P w = .ok (.int k bs[j]) w := part_one h1 (by simp [List.getElem?_eq_getElem hb]) w
    have pe := eqV_int (P := P) (d := d) (a := as[j]) (b := bs[j]) he w
    simp only [Op.eqItems, Sem.run_bind, pa, pb, pe, Result.andThen_ok, List.all_cons, List.getElem?_eq_getElem ha, List.getElem?_eq_getElem hb]
    cases hd : as[j] == bs[j]
    · simp at hd
      simp [hd]
    · simp at hd
      simpa [hd] using ih
def arrI (P : Program) (k : IntKind) (t e n : Nat) : Bool := match P.underlying t with | some (.array n' e') => Nat.beq n' n && Nat.beq e' e && intT P k e && oneT P e && Nat.beq (P.cellsOf e) 1 && (P.info? e).isSome | _ => false
/-- The kind of an array's elements. -/
def elemA (P : Program) (t : TypeId) : TypeId := match P.underlying t with | some (.array _ e) => e | _ => 0
theorem eqV_ints {d : Nat} {t : TypeId} (e n : Nat) {k : IntKind} {as bs : List Int} (ht : arrI P k t e n = true) (ha : as.length = n) (hb : bs.length = n) : EqV P (d + 2) t (.agg ⟨as.map fun n => .int k n⟩) (.agg ⟨bs.map fun n => .int k n⟩) (decide (as = bs)) := by
  intro w
  unfold arrI at ht
  split at ht
  case h_2 => cases ht
  case h_1 n' e' hu =>
    simp only [Bool.and_eq_true] at ht
    obtain ⟨⟨⟨⟨⟨h1, h2⟩, h3⟩, h4⟩, h5⟩, h6⟩ := ht
    have := Nat.eq_of_beq_eq_true h1
    have := Nat.eq_of_beq_eq_true h2
    subst n' e'
    obtain ⟨i, hi⟩ := Option.isSome_iff_exists.1 h6
    rw [run_equalIn_array w (d + 1) _ _ hu hi, Nat.eq_of_beq_eq_true h5, eqItems_int h3 h4 w _ fun j hj => by rw [List.mem_range] at hj; omega]
    congr 1
    rw [Bool.eq_iff_iff, List.all_eq_true, decide_eq_true_iff]
    constructor
    · intro h
      refine List.ext_getElem? fun j => ?_
      by_cases hj : j < n
      · have := h j (List.mem_range.2 hj)
        simpa using this
      · rw [List.getElem?_eq_none (by omega), List.getElem?_eq_none (by omega)]
    · rintro rfl j _
      simp
theorem eqV_arr {d : Nat} {t : TypeId} (n : Nat) {k : IntKind} {as bs : List Int} (ht : arrI P k t (elemA P t) n = true) (ha : as.length = n) (hb : bs.length = n) : EqV P (d + 2) t (.agg ⟨as.map fun n => .int k n⟩) (.agg ⟨bs.map fun n => .int k n⟩) (decide (as = bs)) := eqV_ints (elemA P t) n ht ha hb
end Go.Vc
