import Derived.Test.YthofeajlmgecmaaGreatDoorMY
import Derived.Test.YthofeajlmgecmaaGreatDoorFns
import Derived.Test.YthofeajlmgecmaaGreatDoorTyr
import Derived.Test.YthofeajlmgecmaaGreatDoorMZ
import Derived.Lib.Builder
import Derived.Lib.UnsafeStr
import Derived.Laws.Externs
import Derived.Test.YthofeajlmgecmaaGreatDoorQuo
import Derived.Test.YthofeajlmgecmaaGreatDoorMA
import Derived.Lib.MakeNoZero
import Derived.Test.YthofeajlmgecmaaGreatDoorMB
import Derived.Test.YthofeajlmgecmaaGreatDoorSpRuneK
import Derived.Test.YthofeajlmgecmaaGreatDoorEqs
/-
  strconv.Itoa of a number from 0 on; 'changeoverref08' of its digits.
-/
set_option maxRecDepth 20000
set_option linter.unusedVariables false
namespace Go.Vc
variable {P : Program} {w : World}
/-- A cell of an array, behind a slice of it. -/
theorem ix_off {t : TypeId} {s : Sl} {a : Addr} {o : Nat} {i : Int} (k : Nat) {K : Addr → Prop} (ht : slOf P t = some 1) (ha : s.a = some (a.add o)) (hs : a.spot = none) (hi : i = (k : Int)) (hk : k < s.len) (hK : K (a.add (o + k))) :
    opRd P (Instr.indexAt t s.val (.int .i64 i)) pav K w := by
  obtain ⟨e, he, hn⟩ := slOf_spec ht
  refine ⟨a.add (o + k), ?_, hK⟩
  have h1 : s.a = some ⟨a.block, a.off + o, none⟩ := by rw [ha, addr_off a hs]
  rw [run_indexAt he hn hi hk h1, pav, addr_off a hs]
  simp [Nat.add_assoc]
theorem ar_sub_lh {t n : Nat} {a : Addr} {i j : Int} (m k : Nat) (ht : arOf P t = some (n, 1)) (hi : i = (m : Int)) (hj : j = (k : Int)) (hmk : m ≤ k) (hk : k ≤ n) (hm : m < n) :
    (Instr.sliceAt t (.pointer (some a)) (some (.int .i64 i)) (some (.int .i64 j)) none).run P w = .ok (Sl.val ⟨some (a.add m), k - m, n - m⟩) w := by
  obtain ⟨e, he, hz⟩ := arOf_spec ht
  subst hi hj
  have ha : P.arrayLen t = n := by simp [Program.arrayLen, he]
  have hel : P.elem t = e := by simp [Program.elem, he]
  rw [run_sliceAt_array_lh w t a (by rw [ha, hel]; exact he) .i64 .i64 (m : Int) (k : Int) (by omega) (by omega) (by rw [ha]; omega), hel, run_size hz, ha]
  simp only [slicedAt, Sl.val, Result.andThen, Int.toNat_natCast, Nat.mul_one]
  rw [if_neg (by omega)]
/-- Bytes of an array, read as a list. -/
theorem Obj.part {a : Addr} {cs : List Value} (h : Obj w a cs) {m d c : Nat} {l : List UInt8} (hl : l.length = d) (hd : d ≤ c) (hsm : c ≤ 9223372036854775807) (hc : (cs.drop m).take d = l.flatMap eB.cs) :
    IsSl eB w ⟨some (a.add m), d, c⟩ l := by
  have hrow := h.row
  obtain ⟨h1, h2, _⟩ := h
  refine ⟨by dsimp only; omega, hd, by dsimp only; omega, .inr ⟨a.block, m, ?_, hrow.lt, ?_⟩, fun e => by cases e⟩
  · rw [addr_off a h1, h2]; simp
  · have := hrow.cells m d
    rw [hc] at this
    exact this
/-- The digits below a place are yet to be written. -/
structure DigInv (a : Addr) (d u : Nat) (w : World) (nd v : Nat) : Prop where
  le : nd ≤ d
  lt : v < 10 ^ nd
  cells : ∃ (cs : List Value) (suf : List UInt8), Obj w a cs ∧ cs.length = 24 ∧ (cs.drop (1 + nd)).take (d - nd) = suf.flatMap eB.cs ∧ suf.length = d - nd ∧ digK 10 d u = digK 10 nd v ++ suf
theorem DigInv.ext {a : Addr} {d u nd v : Nat} {w' : World} (h : DigInv a d u w nd v) (hx : Ext w w') : DigInv a d u w' nd v := by
  obtain ⟨h1, h2, cs, suf, h3, h4⟩ := h
  exact ⟨h1, h2, cs, suf, h3.ext hx, h4⟩
theorem DigInv.spot {a : Addr} {d u nd v : Nat} (h : DigInv a d u w nd v) : a.spot = none := by
  obtain ⟨_, _, cs, suf, h3, _⟩ := h
  exact h3.1
theorem dig_store {a : Addr} {d u nd v : Nat} {t5 : TypeId} {c : UInt8} {K : World → Prop} (h5 : sizeT P t5 = some 1) (h : DigInv a d u w (nd + 1) v) (hd : d ≤ 23) (hc : c = dig (v % 10))
    (hK : ∀ w', DigInv a d u w' nd (v / 10) → Wr a.block w w' → K w') : opUn P (Instr.storeAt t5 (.pointer (some (a.add (1 + nd)))) (.int .u8 (c.toNat : Int))) K w := by
  obtain ⟨h1, h2, cs, suf, h3, h4, h6, h7, h8⟩ := h
  refine st_obj h5 h3 rfl (by omega) fun w' hw ho => hK w' ⟨by omega, Nat.div_lt_of_lt_mul (by rw [Nat.mul_comm, ← Nat.pow_succ]; exact h2), _, c :: suf, ho, by simpa using h4, ?_, by rw [List.length_cons]; omega, ?_⟩ hw
  · rw [List.drop_eq_getElem_cons (by simp; omega), List.getElem_set_self, List.drop_set_of_lt (by omega), show d - nd = (d - (nd + 1)) + 1 by omega, List.take_succ_cons, show 1 + nd + 1 = 1 + (nd + 1) by omega, h6]
    rfl
  · rw [h8, digK, hc, List.append_assoc]
    rfl
theorem w32i {z : Int} (h0 : 0 ≤ z) (h : z < 4294967296) : IntKind.u32.wrap z = z := u32_id h0 h
theorem tm8 (v : Nat) : Int.tmod (v : Int) 100000000 = ((v % 100000000 : Nat) : Int) := rfl
theorem tm4 (v : Nat) : Int.tmod (v : Int) 10000 = ((v % 10000 : Nat) : Int) := rfl
theorem tm2 (v : Nat) : Int.tmod (v : Int) 100 = ((v % 100 : Nat) : Int) := rfl
theorem tm1 (v : Nat) : Int.tmod (v : Int) 10 = ((v % 10 : Nat) : Int) := rfl
theorem td8 (v : Nat) : Int.tdiv (v : Int) 100000000 = ((v / 100000000 : Nat) : Int) := rfl
theorem td4 (v : Nat) : Int.tdiv (v : Int) 10000 = ((v / 10000 : Nat) : Int) := rfl
theorem td2 (v : Nat) : Int.tdiv (v : Int) 100 = ((v / 100 : Nat) : Int) := rfl
theorem td1 (v : Nat) : Int.tdiv (v : Int) 10 = ((v / 10 : Nat) : Int) := rfl
theorem w32n {v : Nat} (h : v < 4294967296) : IntKind.u32.wrap (v : Int) = (v : Int) := u32_id (by omega) (by omega)
theorem w64n {v : Nat} (h : v < 18446744073709551616) : IntKind.u64.wrap (v : Int) = (v : Int) := u64_id (by omega) (by omega)
end Go.Vc
namespace Go.Chg
open Go.Vc

def pow10tab : List Int := [1, 10, 100, 1000, 10000, 100000, 1000000, 10000000, 100000000, 1000000000, 10000000000, 100000000000, 1000000000000, 10000000000000, 100000000000000, 1000000000000000, 10000000000000000, 100000000000000000, 1000000000000000000, 10000000000000000000]
theorem pow10_get {k : Nat} (h : k < 20) : (pow10tab.map fun n => Value.int .u64 n)[k]? = some (.int .u64 ((10 ^ k : Nat) : Int)) := by
  have key : ∀ m : Fin 20, pow10tab[m.val]? = some ((10 ^ m.val : Nat) : Int) := by decide +kernel
  rw [List.getElem?_map, key ⟨k, h⟩]
  rfl

/-! ### How many digits -/
theorem blen_up {x y m t : Nat} (h : x / 2 ^ m = y) (h1 : 1 ≤ t) (h2 : 2 ^ (t - 1) ≤ y) (h3 : y < 2 ^ t) : 2 ^ (m + t - 1) ≤ x ∧ x < 2 ^ (m + t) := by
  have hp : 0 < 2 ^ m := Nat.pow_pos (by omega)
  constructor
  · have : 2 ^ (m + t - 1) = 2 ^ (t - 1) * 2 ^ m := by rw [← Nat.pow_add]; congr 1; omega
    rw [this]
    exact (Nat.le_div_iff_mul_le hp).1 (by rw [h]; exact h2)
  · have : 2 ^ (m + t) = 2 ^ m * 2 ^ t := Nat.pow_add _ _ _
    rw [this]
    exact (Nat.div_lt_iff_lt_mul hp).1 (by rw [h]; exact h3) |> fun q => by rw [Nat.mul_comm]; exact q
theorem shR64 {x k : Nat} (hk : k ≤ 64) : shR .u64 (x : Int) (k : Int) = ((x / 2 ^ k : Nat) : Int) := by
  unfold shR
  have e : min (k : Int).toNat IntKind.u64.bits = k := by
    have : IntKind.u64.bits = 64 := rfl
    rw [this, Int.toNat_natCast]; omega
  rw [e, Int.fdiv_eq_ediv_of_nonneg _ (Int.le_of_lt (Int.pow_pos (by omega)))]
  simp
theorem log10_facts : ∀ L : Fin 65, 1 ≤ L.val → 2 ^ L.val ≤ 10 ^ (L.val * 78913 / 262144 + 1) ∧ (1 ≤ L.val * 78913 / 262144 → 10 ^ (L.val * 78913 / 262144 - 1) ≤ 2 ^ (L.val - 1)) ∧ L.val * 78913 / 262144 < 20 := by decide +kernel
/-! ### The digits -/
/-! ### Itoa -/
theorem digits_len10 : ∀ (k n : Nat), n < 10 ^ (k + 1) → (digits 10 n).length ≤ k + 1
  | 0, n, h => by rw [digits_small (by simpa using h)]; simp
  | k + 1, n, h => by
    by_cases hn : n < 10
    · rw [digits_small hn]; simp
    · rw [digits_big (by omega) hn, List.length_append, List.length_singleton]
      have := digits_len10 k (n / 10) (by
        rw [Nat.div_lt_iff_lt_mul (by omega)]
        rw [Nat.pow_succ] at h; exact h)
      omega
theorem digits_len19 {n : Nat} (h : n ≤ 9223372036854775807) : (digits 10 n).length ≤ 19 := digits_len10 18 n (by
  have : (10 : Nat) ^ (18 + 1) = 10000000000000000000 := by decide
  omega)
end Go.Chg
/-
  strings.Builder: what its methods do.
-/
set_option maxRecDepth 20000
set_option linter.unusedVariables false
namespace Go.Vc
open Go.RowKit (Below)
variable {P : Program} {w w' : World} {a : Addr} {T : TypeId} {cs : List Value}
/-- A variable behind a pointer, of a type. -/
def ObjT (w : World) (a : Addr) (T : TypeId) (cs : List Value) : Prop := a.spot = none ∧ a.off = 0 ∧ w.heap[a.block]? = some (.cells cs.toArray T (0, 0))
theorem ObjT.obj (h : ObjT w a T cs) : Obj w a cs := ⟨h.1, h.2.1, T, h.2.2⟩
theorem ObjT.ty {T' : TypeId} (h : ObjT w a T cs) (e : T = T') : ObjT w a T' cs := e ▸ h
theorem ObjT.keep (h : ObjT w a T cs) (hk : w'.heap[a.block]? = w.heap[a.block]?) : ObjT w' a T cs := ⟨h.1, h.2.1, by rw [hk]; exact h.2.2⟩
theorem ObjT.ext (h : ObjT w a T cs) (hx : Ext w w') : ObjT w' a T cs := h.keep (hx.block _ h.obj.lt)
theorem ObjT.shape (h : ObjT w a T cs) : w.shape? a.block = some (T, cs.length) := by
  unfold World.shape?
  rw [h.2.2]
  simp
theorem alloc_tyT {t : TypeId} {z : Value} {K : Addr → World → Prop} (hz : (P.info? t).bind (·.zero) = some z) (hK : ∀ a w', a.block = w.heap.size → Ext w w' → ObjT w' a t z.cells.toList → K a w') :
    opTy P (Instr.alloc t true (.tuple #[])) pav K w :=
  ⟨⟨w.heap.size, 0, none⟩, _, run_alloc hz, hK _ _ rfl (Ext.alloc _ _) ⟨rfl, rfl, by rw [heap_alloc_new]⟩⟩
theorem st_objT {t : TypeId} {off : Nat} {v : Value} {K : World → Prop} (ht : sizeT P t = some 1) (h : ObjT w a T cs) (ho : oneV v = true) (hl : off < cs.length)
    (hK : ∀ w', Wr a.block w w' → ObjT w' a T (cs.set off v) → K w') : opUn P (Instr.storeAt t (.pointer (some (a.add off))) v) K w := by
  obtain ⟨h1, h2, hT⟩ := h
  have hc : v.cells.toList = [v] := by cases v <;> simp_all [Value.cells, oneV]
  obtain ⟨w', hr, hw, hb⟩ := run_store_own (P := P) (t := t) (off := off) (r := cs.set off v) hT ht (by rw [hc]; rfl) (by rw [hc]; simp [allOne, ho]) (by
    rw [hc]
    clear hT hK
    induction cs generalizing off with
    | nil => simp at hl
    | cons c cs ih =>
      cases off with
      | zero => cases cs <;> simp [wrV]
      | succ n => simp only [wrV, ih (by simpa using hl), List.set_cons_succ])
  refine ⟨w', ?_, hK w' hw ⟨h1, h2, hb⟩⟩
  rw [addr_off a h1, h2, Nat.zero_add]
  exact hr
theorem RowT.keep {s : Sl} {e : TypeId} (h : RowT w s e) (hk : ∀ g, s.blk = some g → g < w.heap.size → w'.heap[g]? = w.heap[g]?) : RowT w' s e := fun g hg => by
  obtain ⟨cur, fr, hc⟩ := h g hg
  exact ⟨cur, fr, by rw [hk g (by simp [Sl.blk, hg]) (Array.getElem?_eq_some_iff.1 hc).1]; exact hc⟩
theorem RowT.ext {s : Sl} {e : TypeId} (h : RowT w s e) (hx : Ext w w') : RowT w' s e := h.keep fun g _ hg => hx.block g hg
theorem RowT.other {s : Sl} {e : TypeId} {row : Option Nat} (h : RowT w s e) (hg : w.grownBy w' row) (hr : ∀ g, s.blk = some g → some g ≠ row) : RowT w' s e := h.keep fun g h1 h2 => hg.block g h2 (hr g h1)
theorem RowT.nil (w : World) (e : TypeId) : RowT w Sl.nil e := fun g h => by cases h
theorem app_ty4 {α : Type} {E : Enc α} {t tx ty e : TypeId} (by_ : Nat) {B : Nat} {s x : Sl} {l ms : List α} {K : Sl → World → Prop} (he : elemT P t = e) (ht : appOk P t (elemT P t) E.sz by_ = true) (hx : isSlT P tx = true) (hown : OwnSl E w B s l) (hT : RowT w s e) (hs : IsSl E w x ms)
    (hbytes : (l.length + ms.length) * by_ ≤ 140737488355328) (hB : B ≤ w.heap.size) (hby : 0 < by_)
    (hK : ∀ s' w', OwnSl E w' B s' (l ++ ms) → RowT w' s' e → w.grownBy w' s.blk → NewOr w s s' → K s' w') : opTy P (Builtin.append_ #[t, tx] ty #[s.val, x.val]) Sl.val K w := by
  subst he
  exact app_ty3 by_ ht hx hown hT hs hbytes hB hby hK
theorem app_str4 {t tx ty e : TypeId} (by_ : Nat) {B : Nat} {s : Sl} {l ms : List UInt8} {K : Sl → World → Prop} (he : elemT P t = e) (ht : appOk P t (elemT P t) eB.sz by_ = true) (hx : (match P.underlying tx with | some .string => true | _ => false) = true) (hown : OwnSl eB w B s l) (hT : RowT w s e)
    (hbytes : (l.length + ms.length) * by_ ≤ 140737488355328) (hB : B ≤ w.heap.size) (hby : 0 < by_)
    (hK : ∀ s' w', OwnSl eB w' B s' (l ++ ms) → RowT w' s' e → w.grownBy w' s.blk → NewOr w s s' → K s' w') : opTy P (Builtin.append_ #[t, tx] ty #[s.val, sval ms]) Sl.val K w := by
  subst he
  exact app_str3 by_ ht hx hown hT hbytes hB hby hK
theorem below_gr {B : Nat} {row : Option Nat} (hB : B ≤ w.heap.size) (hg : w.grownBy w' row) (hr : ∀ r, row = some r → B ≤ r) : Below B w w' := below_grown (Below.refl _ _) hB hg hr
theorem below_ex {B : Nat} (hB : B ≤ w.heap.size) (hx : Ext w w') : Below B w w' := hx.mono hB
theorem kp_below {B b : Nat} {X : Prop} (h : Below B w w') (hb : b < B) (x : X) : kp b w w' X := ⟨fun _ => h.block b hb, x⟩
theorem freeze_block {g n k : Nat} (h : k ≠ g) : (w.freeze ⟨g, 0, none⟩ n).heap[k]? = w.heap[k]? := by
  unfold World.freeze
  split
  · rfl
  · dsimp only
    rw [Array.getElem?_modify, if_neg (Ne.symm h)]
theorem below_freeze {B g n : Nat} (h : B ≤ g) : Below B w (w.freeze ⟨g, 0, none⟩ n) := by
  have hb : ∀ k, k < B → (w.freeze ⟨g, 0, none⟩ n).heap[k]? = w.heap[k]? := fun k hk => freeze_block (by omega)
  unfold World.freeze at hb ⊢
  split
  · exact Below.refl _ _
  · rename_i hn
    rw [if_neg hn] at hb
    exact ⟨rfl, rfl, rfl, by simp, hb⟩
theorem Ext.below {w0 : World} {B : Nat} (hx : Ext w0 w) (h : Below B w w') (hB : w0.heap.size ≤ B) : Ext w0 w' := Below.trans hx (h.mono hB)
end Go.Vc
namespace Go.Chg
open Go.Vc
open Go.RowKit (Below)
variable {w : World} {a : Addr} {l : List UInt8}
noncomputable def fnParam (f j : Nat) : Nat := match Pr.funcs[f]? with | some fn => (match fn.params[j]? with | some t => t | none => 0) | none => 0
/-- What a builder's method may turn. -/
structure Up (a : Addr) (n : Nat) (w w' : World) : Prop where
  low : Below a.block w w'
  it : n ≠ a.block → n < w.heap.size → w'.heap[n]? = w.heap[n]?
  size : w.heap.size ≤ w'.heap.size
variable {n : Nat}
theorem Up.gr {w1 w2 : World} {row : Option Nat} (h : Up a n w w1) (hlt : a.block < w.heap.size) (hg : w1.grownBy w2 row) (hr : ∀ r, row = some r → a.block ≤ r ∧ (n ≠ a.block → r ≠ n)) : Up a n w w2 :=
  ⟨h.low.trans (below_gr (by have := h.size; omega) hg fun r e => (hr r e).1), fun h1 h2 => by
    rw [hg.block n (by have := h.size; omega) (fun e => (hr n e.symm).2 h1 rfl)]
    exact h.it h1 h2, Nat.le_trans h.size hg.size⟩
theorem Up.refl : Up a n w w := ⟨Below.refl _ _, fun _ _ => rfl, Nat.le_refl _⟩
end Go.Chg
/-
  Texts in quotes: quote.Quote.
-/
set_option maxRecDepth 20000
set_option linter.unusedVariables false
namespace Go.Chg
open Go.Vc
open Go.RowKit (Below)
variable {w : World} {a : Addr} {l : List UInt8}
theorem shR_4 {c : UInt8} : shR .u8 (c.toNat : Int) 4 = ((c.toNat / 16 : Nat) : Int) := by
  have key : ∀ x : Fin 256, shR .u8 (x.val : Int) 4 = ((x.val / 16 : Nat) : Int) := by decide +kernel
  exact key ⟨c.toNat, c.toNat_lt⟩
theorem wrap_up {n : Nat} (h : n < 16) : IntKind.u8.wrap ((n : Int) + 1) = ((n + 1 : Nat) : Int) := by
  have key : ∀ m : Fin 16, IntKind.u8.wrap ((m.val : Int) + 1) = ((m.val + 1 : Nat) : Int) := by decide +kernel
  exact key ⟨n, h⟩
end Go.Chg
/-
  Words as a line: strings.Join, and a builder that grows.
-/
set_option maxRecDepth 20000
set_option linter.unusedVariables false
namespace Go.Vc
theorem subH_h {P : Program} {S : World → Prop} {t z : Nat} {s : Sl} {j : Int} {n : Nat} {K : Sl → Prop} (ht : slOf P t = some z) (hj : j = (n : Int)) (hn : n ≤ s.cap) (hK : K (s.sub 0 n z)) : opH P S (Instr.sliceAt t s.val none (some (.int .i64 j)) none) Sl.val K := by
  obtain ⟨he, hz⟩ := elem_of ht
  subst hj
  refine ⟨s.sub 0 n z, fun w _ => ?_, hK⟩
  rw [run_sliceAt_slice w t _ _ _ _ he, show s.val = .slice s.a s.len s.cap from rfl, run_slice_h w t s.a s.len s.cap he _ _ (by omega) (by omega), run_size hz]
  simp [Result.andThen, sliced, Sl.sub, Sl.val]
theorem run_copy0 {P : Program} {w : World} {t tx ty n : Nat} {d : Addr} {c : Nat} (ht : slOf P t = some n) : (Builtin.copy_ #[t, tx] ty #[.slice (some d) 0 c, .slice none 0 0]).run P w = .ok (.int .i64 0) w := by
  obtain ⟨e, he, hz⟩ := slOf_spec ht
  simp [Builtin.copy_, run_und he, Builtin.lenOf, Builtin.firstCells, run_size hz, goInt, storeCells]
def joinL (m : List UInt8) : List (List UInt8) → List UInt8
  | [] => []
  | x :: r => x ++ r.flatMap (m ++ ·)
end Go.Vc
namespace Go.Chg
open Go.Vc
open Go.RowKit (Below)
variable {w : World} {a : Addr} {l : List UInt8}
theorem low_blk {α : Type} {E : Enc α} {s : Sl} {xs : List α} (h : IsSl E w s xs) (hne : xs ≠ []) : ∀ k, s.blk = some k → k < w.heap.size := fun k hk => by
  rcases h.mem with h0 | ⟨b, o, ha, hb, _⟩
  · exact absurd h0 hne
  · simp only [Sl.blk, ha] at hk
    cases hk
    exact hb
theorem low_keep {α : Type} {E : Enc α} {w' : World} {B : Nat} {s : Sl} {xs : List α} (h : IsSl E w s xs) (hB : ∀ k, s.blk = some k → k < B) (hg : Below B w w') : IsSl E w' s xs :=
  h.keep hg.size fun b o ha _ => hg.block b (hB b (by simp [Sl.blk, ha]))
theorem tdiv_big {n : Nat} (h0 : 0 < n) (h : n ≤ 1000000) : (1 : Int) < Int.tdiv 9223372036854775807 (n : Int) := by
  have e : Int.tdiv 9223372036854775807 (n : Int) = ((9223372036854775807 / n : Nat) : Int) := rfl
  rw [e]
  have := Nat.div_le_div_left (a := 9223372036854775807) h h0
  omega
theorem sum_flat {m : List UInt8} : ∀ (xs : List (List UInt8)), (xs.flatMap (m ++ ·)).length = m.length * xs.length + (xs.flatMap id).length
  | [] => by simp
  | x :: xs => by
    have := sum_flat (m := m) xs
    simp only [List.flatMap_cons, List.length_append, List.length_cons, id, Nat.mul_add, Nat.mul_one] at *
    omega
theorem take_sum {xs : List (List UInt8)} {k : Nat} (hk : k < xs.length) : ((xs.take (k + 1)).flatMap id).length = ((xs.take k).flatMap id).length + xs[k].length := by
  rw [List.take_succ_eq_append_getElem hk, List.flatMap_append, List.length_append]
  simp
theorem take_sum_le {xs : List (List UInt8)} (k : Nat) : ((xs.take k).flatMap id).length ≤ (xs.flatMap id).length := by
  conv => rhs; rw [← List.take_append_drop k xs]
  rw [List.flatMap_append, List.length_append]
  omega
end Go.Chg
/-
  Answers: check, encode, decode, text; the laws of chapter 9 about bytes.
-/
set_option maxRecDepth 20000
set_option linter.unusedVariables false
namespace Go.Chg
open Go.Vc
variable {w : World} {l : List UInt8} {v p no : Int}
theorem vers_May_eq {K : Bool → World → Prop} (hK : ∀ b, (b = true ↔ v = 1 ∨ v = 2) → K b w) : vers_May v K w := by
  unfold vers_May
  refine ifEq (fun h => hK _ (by simp [h])) (fun h => ifEq (fun h2 => hK _ (by simp [h2])) (fun h2 => hK _ (by simp [h, h2])))
def doneN (l : List UInt8) (p no : Int) : Int := if no ≠ 0 then no else if p < l.length then 3 else 0
theorem doneN_0 {p no : Int} (h : doneN l p no = 0) : no = 0 ∧ ¬ p < l.length := by
  unfold doneN at h
  split at h
  · rename_i h1; exact absurd h h1
  · rename_i h1
    split at h
    · cases h
    · rename_i h2; exact ⟨Classical.byContradiction h1, h2⟩
theorem done_eq {c : Addr} {K : Int → World → Prop} (h : Rd w c l p no) (hK : ∀ w', Ext w w' → K (doneN l p no) w') : pack_Reader_Done (some c) K w := pack_Reader_Done_spec h hK
theorem digits_len {n : Nat} (h : n ≤ 4294967296) : (digits 10 n).length ≤ 20 := Nat.le_succ_of_le (digits_len19 (by omega))
end Go.Chg
