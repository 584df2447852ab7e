/-
  Rows that list package variables: what such a variable's cells hold; how such a row is closed. Of whatever program.
-/
import Derived.Deep.DeepHandedRow
import Derived.Lib.LaidTab
import Derived.SevenTiedAt
import Derived.Test.YtnnoalpkldpjfaaGreatDoorEqs
import Derived.Test.YtnnoalpkldpjfaaGreatDoorMY
set_option linter.unusedVariables false
namespace Go.Vc
open Go.RowKit (Below)
open Go.ChangeShapes Go.WideShapes Go.ChangeAt Go.RowKit

mutual
/-- The cells of a datum that leads to no memory. -/
def flatD {H : Type} : DataW H → Option (List Value)
  | .lit l => some [l.value]
  | .agg ds => flatDs ds
  | _ => none
def flatDs {H : Type} : List (DataW H) → Option (List Value)
  | [] => some []
  | d :: ds => match flatD d, flatDs ds with
    | some a, some b => some (a ++ b)
    | _, _ => none
end
def FlatT (P : Program) (t : TypeId) : Prop := RdQ P t fun _ _ cells d => flatD d = some cells
theorem flat_int {P : Program} {t : TypeId} {k : IntKind} (ht : intT P k t = true) : FlatT P t := (rd_int ht).mono fun H w cells d ⟨x, h1, h2, _⟩ => by
  subst h1 h2
  simp [litI, flatD, Lit.value]
theorem flat_bool {P : Program} {t : TypeId} (ht : boolT P t = true) : FlatT P t := (rd_bool ht).mono fun H w cells d ⟨x, h1, h2, _⟩ => by
  subst h1 h2
  simp [litB, flatD, Lit.value]
theorem flat_text {P : Program} {t : TypeId} (ht : strT P t = true) : FlatT P t := (rd_text ht).mono fun H w cells d ⟨x, h1, h2, _⟩ => by
  subst h1 h2
  simp [litS, flatD, Lit.value, sval]
theorem cat_flat {H : Type} {w : World} : ∀ {n : Nat} {cells : List Value} {ds : List (DataW H)}, CatQ (List.replicate n fun _ _ cells d => flatD d = some cells) H w cells ds → flatDs ds = some cells
  | 0, _, _, ⟨rfl, rfl⟩ => by simp [flatDs]
  | n + 1, _, _, ⟨a, b, d, ds', rfl, rfl, h1, h2⟩ => by
    have := cat_flat h2
    simp only [flatDs]
    rw [show flatD d = some a from h1, this]
theorem flat_struct {P : Program} {t : TypeId} (l : List (Nat × Nat × Nat)) (ht : stT P t l = true) (ha : AllRd P l (List.replicate l.length fun _ _ cells d => flatD d = some cells)) : FlatT P t :=
  (rd_struct l ht ha).mono fun H w cells d ⟨ds, h1, h2⟩ => by
    subst h1
    simp only [flatD]
    exact cat_flat h2
theorem flatDs_pieces {H : Type} (c : Nat) : ∀ (ds : List (DataW H)) (cs : List Value), cs.length = ds.length * c → (∀ (i : Nat) d, ds[i]? = some d → flatD d = some ((cs.drop (i * c)).take c)) → flatDs ds = some cs
  | [], cs, hl, _ => by
    have : cs = [] := List.length_eq_zero_iff.1 (by simpa using hl)
    subst this
    simp [flatDs]
  | d :: ds, cs, hl, h => by
    have h0 := h 0 d rfl
    rw [Nat.zero_mul, List.drop_zero] at h0
    have hlen : (d :: ds).length * c = ds.length * c + c := by rw [List.length_cons, Nat.add_mul, Nat.one_mul]
    have ih := flatDs_pieces c ds (cs.drop c) (by rw [List.length_drop, hl, hlen]; omega) fun i e he => by
      have := h (i + 1) e (by simpa using he)
      rw [List.drop_drop, show c + i * c = (i + 1) * c from by rw [Nat.add_mul, Nat.one_mul, Nat.add_comm]]
      exact this
    simp only [flatDs]
    rw [h0, ih]
    simp only [List.take_append_drop]
def arcT (P : Program) (t e n c : Nat) : Bool := match P.underlying t with | some (.array n' e') => Nat.beq n' n && Nat.beq e' e && Nat.beq (P.cellsOf e) c && Nat.beq (P.cellsOf t) (n * c) | _ => false
theorem flat_array {P : Program} {t e n c : Nat} (ht : arcT P t e n c = true) (he : FlatT P e) : FlatT P t := by
  intro H enc w base sp held fuel cells d ps h
  unfold arcT at ht
  split at ht
  case h_2 => cases ht
  case h_1 n' e' hu =>
    simp only [Bool.and_eq_true] at ht
    obtain ⟨⟨⟨h1, h2⟩, h3⟩, h4⟩ := ht
    have := Nat.eq_of_beq_eq_true h1
    have := Nat.eq_of_beq_eq_true h2
    have h3 := Nat.eq_of_beq_eq_true h3
    have h4 := Nat.eq_of_beq_eq_true h4
    subst n' e'
    cases fuel with
    | zero => simp [DataW.trod] at h
    | succ fuel =>
      simp only [DataW.trod, hu, h3, h4] at h
      split at h
      · rename_i hl
        obtain ⟨xs, hm, hx⟩ := Option.map_eq_some_iff.1 h
        simp only [Prod.mk.injEq] at hx
        obtain ⟨rfl, _⟩ := hx
        have hxl : xs.length = n := by simpa using Lib.mapM_length hm
        simp only [flatD]
        refine flatDs_pieces c _ _ (by rw [List.length_map, hxl]; exact hl) fun i d hd => ?_
        rw [List.getElem?_map, Option.map_eq_some_iff] at hd
        obtain ⟨x, hx, rfl⟩ := hd
        have hi : i < n := by rw [← hxl]; exact (List.getElem?_eq_some_iff.1 hx).1
        obtain ⟨y, hy, hf⟩ := Lib.mapM_at hm i i (by simp [hi])
        rw [hx] at hy
        cases hy
        exact he H enc w base sp held fuel _ x.1 x.2 hf
      · cases h

theorem laid_vars {P : Program} {W : World} {name : String} {data : DataW Unit} {g t : Nat} {cs : List Value} (hg : P.globalNamed name = some g) (ht : (P.globals[g]?).map (·.type) = some t) (hf : FlatT P t) (hd : flatD data = some cs) :
    ∀ {l : List (String × DataW Unit)} {ps : List MemPlace}, DataW.LaidVars P W l ps → (name, data) ∈ l → GlobAt W ⟨g, 0, none⟩ cs
  | [], _, _, h => by cases h
  | (n, d) :: r, _, ⟨g', t', c', fuel, p, q, h1, h2, h3, h4, h5, _⟩, h => by
    rcases List.mem_cons.1 h with e | e
    · cases e
      obtain rfl := Option.some.inj (hg.symm.trans h1)
      obtain rfl := Option.some.inj (ht.symm.trans h2)
      have h6 : flatD data = some c'.toList := hf Unit _ W 0 _ false fuel _ _ p h4
      rw [hd] at h6
      cases h6
      unfold World.var? at h3
      rw [hg] at h3
      simp only [Option.bind_some] at h3
      split at h3
      · rename_i cs' ty fr hc
        cases h3
        refine ⟨rfl, rfl, (Array.getElem?_eq_some_iff.1 hc).1, fun j v hj => ?_⟩
        simp only [World.cell?, hc, Nat.zero_add]
        simpa using hj
      · cases h3
    · exact laid_vars hg ht hf hd h5 e
/-- What a row's list gives. -/
theorem laid_glob {P : Program} {W : World} {l : List (String × DataW Unit)} {name : String} {data : DataW Unit} {g t : Nat} {cs : List Value} (h : laidMetH P l W) (hh : (l.filter fun x => x.2.handleName?.isSome) = [])
    (hm : (name, data) ∈ l) (hg : P.globalNamed name = some g) (ht : (P.globals[g]?).map (·.type) = some t) (hf : FlatT P t) (hd : flatD data = some cs) : GlobAt W ⟨g, 0, none⟩ cs := by
  unfold laidMetH at h
  rw [hh] at h
  obtain ⟨ps, hv, _⟩ := h
  exact laid_vars hg ht hf hd hv hm

/-! ### A variable of an interface type -/
def ifT (P : Program) (t : TypeId) : Bool := match P.underlying t with | some (.interface _) => true | _ => false
theorem trod_if {H : Type} {enc : TypeId × Value → H} {P : Program} {w : World} {base : Nat} {sp : Nat → Bool} {held : Bool} {fuel : Nat} {t : TypeId} {cs : List Value} {s : String} {dd : DataW H} {ps : List MemPlace} (hu : ifT P t = true)
    (h : DataW.trod enc P w base sp held fuel t cs = some (.iface s dd, ps)) : ∃ x, cs = [ifval x] := by
  unfold ifT at hu
  split at hu
  case h_2 => cases hu
  case h_1 m hm =>
    cases fuel with
    | zero => simp [DataW.trod] at h
    | succ fuel =>
      unfold DataW.trod at h
      rw [hm] at h
      split at h
      all_goals first
        | exact ⟨(_, _), rfl⟩
        | (simp_all; done)
        | skip
theorem laid_ifv {P : Program} {W : World} {name : String} {data : DataW Unit} {g t : Nat} {s : String} {dd : DataW Unit} (hg : P.globalNamed name = some g) (ht : (P.globals[g]?).map (·.type) = some t) (hf : ifT P t = true) (hd : data = .iface s dd) :
    ∀ {l : List (String × DataW Unit)} {ps : List MemPlace}, DataW.LaidVars P W l ps → (name, data) ∈ l → ∃ x, GlobAt W ⟨g, 0, none⟩ [ifval x]
  | [], _, _, h => by cases h
  | (n, d) :: r, _, ⟨g', t', c', fuel, p, q, h1, h2, h3, h4, h5, _⟩, h => by
    rcases List.mem_cons.1 h with e | e
    · cases e
      obtain rfl := Option.some.inj (hg.symm.trans h1)
      obtain rfl := Option.some.inj (ht.symm.trans h2)
      subst hd
      obtain ⟨x, hx⟩ := trod_if hf h4
      refine ⟨x, ?_⟩
      unfold World.var? at h3
      rw [hg] at h3
      simp only [Option.bind_some] at h3
      split at h3
      · rename_i cs' ty fr hc
        cases h3
        refine ⟨rfl, rfl, (Array.getElem?_eq_some_iff.1 hc).1, fun j v hj => ?_⟩
        rw [← hx] at hj
        simp only [World.cell?, hc, Nat.zero_add]
        simpa using hj
      · cases h3
    · exact laid_ifv hg ht hf hd h5 e
theorem laid_if {P : Program} {W : World} {l : List (String × DataW Unit)} {name : String} {data : DataW Unit} {g t : Nat} {s : String} {dd : DataW Unit} (h : laidMetH P l W) (hh : (l.filter fun x => x.2.handleName?.isSome) = [])
    (hm : (name, data) ∈ l) (hg : P.globalNamed name = some g) (ht : (P.globals[g]?).map (·.type) = some t) (hf : ifT P t = true) (hd : data = .iface s dd) : ∃ x, GlobAt W ⟨g, 0, none⟩ [ifval x] := by
  unfold laidMetH at h
  rw [hh] at h
  obtain ⟨ps, hv, _⟩ := h
  exact laid_ifv hg ht hf hd hv hm

/-- What a law's own proof has to give, where its row lists variables. -/
def LawTrueL (C : Checked) (f : FuncId) (fn : Func) (s : ChangeSpec) (laid : List (String × DataW Unit)) : Prop :=
  ∀ (H : Type) (enc : TypeId × Value → H) (W : World) (base : Nat) (args : Array Value) (ds : List (DataW H)) (p : List MemPlace),
    (∀ (j : Nat) t v, fn.params[j]? = some t → args[j]? = some v → Value.okWide C.prog W .any base t v) →
    DataW.TrodAll enc C.prog W 0 (fun _ => true) true fn.params.toList args.toList ds p → (∀ x ∈ p, x.block < W.heap.size) →
    laidMetH C.prog laid W →
    callV C.prog Value.bool f args W fun b w' => b = true ∧ Ext W w'

theorem lifted_laid {C : Checked} {os : Os} {f : FuncId} {fn : Func} {s : ChangeSpec} {conds : List PathCond} {laid : List (String × DataW Unit)} {tb : TypeId} {H : Type} {enc : TypeId × Value → H} {F : Stop.Interp} (own : ownKnob C.prog.godebug = none) (started : os.Started) (noInit : C.prog.inits.idxOf? f = none) (hfn : C.prog.funcs[f]? = some fn)
    (witness : ∃ (w : World) (tape : Tape) (i : Input), w.os = os ∧ (w.forCall tape i).Shaped C.prog ∧ i.vars = [] ∧ Input.okWide C.prog (w.forCall tape i) .any w.heap.size f i ∧
      (OpenSpec.ofChange s).preRow enc C.prog fn conds false laid (w.forCall tape i).memory i.args ∧ Assume.holds {} C.prog (lone (Frame.enter C.prog f i.args .normal) [] (w.forCall tape i)))
    (hl : laidOutB C.prog = true) (hr : (fn.params.toList.all fun t => C.prog.readableRec t && Nat.blt t C.prog.types.size) = true) (hres : fn.resultTypes = #[tb]) (hb : C.prog.underlying tb = some .bool) (hv : s.vars = [])
    (hs : ∀ ds : List (DataW H), ds.length = fn.params.toList.length → s.fn H (ds ++ []) = { results := [.lit (.bool true)], args := ds })
    (law : LawTrueL C f fn s laid) :
    ReturnsInHanded {} C os f .any ((OpenSpec.ofChange s).preRow enc C.prog fn conds false laid) (((OpenSpec.ofChange s).at F).post enc C.prog fn false true false false) := by
  refine returnsInHanded_of_row (C := C) (s := OpenSpec.ofChange s) own started noInit hfn witness ?_
  intro W base args ds gs before hval hW _ _ _ hL _ _
  have hW' := hW
  obtain ⟨p, q, hA, hV, rfl, _, _⟩ := hW
  have hv' : (OpenSpec.ofChange s).vars = [] := hv
  rw [hv'] at hV
  obtain ⟨rfl, rfl⟩ := trodVars_none hV
  simp only [List.append_nil] at hW'
  have hlt := hW'.lt
  have hlen : ds.length = fn.params.toList.length := trodAll_len hA
  refine Calls.mono (law H enc W base args ds p hval hA hlt hL) fun e W' ⟨b, he, hb', hx⟩ => ?_
  subst he hb'
  refine ⟨_, rfl, ds, [], p, [], p, [], hW', ?_, ?_, ?_, hx.frame _, fun h => by cases h⟩
  · show DataW.TrodAll _ _ _ _ _ _ _ _ (s.fn H (ds ++ [])).results _
    rw [hs ds hlen, hres]
    exact trodAll_mk1 (shut_bool hb _)
  · show DataW.TrodAll _ _ _ _ _ _ _ _ (s.fn H (ds ++ [])).args _
    rw [hs ds hlen]
    exact below_trodAll hl hx hr hA hlt
  · show DataW.TrodVars _ _ _ _ s.vars (s.fn H (ds ++ [])).vars _
    rw [hs ds hlen, hv]
    rfl

/-- An array, read as a list. -/
theorem flat_pieces {α : Type} (E : Enc α) : ∀ (l : List α) (cs : List Value), cs.length = l.length * E.sz → (∀ (i : Nat) x, l[i]? = some x → (cs.drop (i * E.sz)).take E.sz = E.cs x) → cs = l.flatMap E.cs
  | [], cs, hl, _ => by
    have : cs = [] := List.length_eq_zero_iff.1 (by simpa using hl)
    subst this
    rfl
  | x :: l, cs, hl, h => by
    have hlen : (x :: l).length * E.sz = l.length * E.sz + E.sz := by rw [List.length_cons, Nat.add_mul, Nat.one_mul]
    have h0 := h 0 x rfl
    rw [Nat.zero_mul, List.drop_zero] at h0
    have ih := flat_pieces E l (cs.drop E.sz) (by rw [List.length_drop, hl, hlen]; omega) fun i y hy => by
      have := h (i + 1) y (by simpa using hy)
      rw [List.drop_drop, show E.sz + i * E.sz = (i + 1) * E.sz from by rw [Nat.add_mul, Nat.one_mul, Nat.add_comm]]
      exact this
    rw [List.flatMap_cons, ← h0, ← ih, List.take_append_drop]
theorem rd_array {α : Type} {P : Program} {E : Enc α} {t e n : Nat} {data : ∀ H : Type, α → DataW H} {ok : α → Prop} (ht : arcT P t e n E.sz = true) (he : RdQ P e (flatQ E.cs data ok)) :
    RdQ P t fun H w cells d => ∃ l : List α, l.length = n ∧ cells = l.flatMap E.cs ∧ d = .agg (l.map (data H)) := by
  intro H enc w base sp held fuel cells d ps h
  unfold arcT at ht
  split at ht
  case h_2 => cases ht
  case h_1 n' e' hu =>
    simp only [Bool.and_eq_true] at ht
    obtain ⟨⟨⟨h1, h2⟩, h3⟩, h4⟩ := ht
    have := Nat.eq_of_beq_eq_true h1
    have := Nat.eq_of_beq_eq_true h2
    have h3 := Nat.eq_of_beq_eq_true h3
    have h4 := Nat.eq_of_beq_eq_true h4
    subst n' e'
    cases fuel with
    | zero => simp [DataW.trod] at h
    | succ fuel =>
      simp only [DataW.trod, hu, h3, h4] at h
      split at h
      · rename_i hl
        obtain ⟨xs, hm, hx⟩ := Option.map_eq_some_iff.1 h
        simp only [Prod.mk.injEq] at hx
        obtain ⟨rfl, _⟩ := hx
        have hxl : xs.length = n := by simpa using Lib.mapM_length hm
        obtain ⟨l, hll, hr⟩ := pick (R := fun i (y : DataW H × List MemPlace) x => (cells.drop (i * E.sz)).take E.sz = E.cs x ∧ y.1 = data H x) xs fun i y hy => by
          have hi : i < n := by rw [← hxl]; exact (List.getElem?_eq_some_iff.1 hy).1
          obtain ⟨z, hz, hf⟩ := Lib.mapM_at hm i i (by simp [hi])
          rw [hy] at hz
          cases hz
          obtain ⟨x, h5, h6, _⟩ := he H enc w base sp held fuel _ y.1 y.2 hf
          exact ⟨x, h5, h6⟩
        refine ⟨l, by omega, flat_pieces E l cells (by rw [hll, hxl]; exact hl) fun i x hx => ?_, ?_⟩
        · have hi : i < xs.length := by rw [← hll]; exact (List.getElem?_eq_some_iff.1 hx).1
          exact (hr i _ x (List.getElem?_eq_getElem hi) hx).1
        · congr 1
          apply List.ext_getElem?
          intro i
          rw [List.getElem?_map, List.getElem?_map]
          by_cases hi : i < xs.length
          · have hi2 : i < l.length := by omega
            rw [List.getElem?_eq_getElem hi, List.getElem?_eq_getElem hi2]
            simp only [Option.map_some]
            rw [(hr i _ _ (List.getElem?_eq_getElem hi) (List.getElem?_eq_getElem hi2)).2]
          · rw [List.getElem?_eq_none (by omega), List.getElem?_eq_none (by omega)]
            rfl
      · cases h
theorem open_array {α : Type} {P : Program} {H : Type} {enc : TypeId × Value → H} {W : World} {base b0 : Nat} {sp : Nat → Bool} {held : Bool} {r : Reach} {E : Enc α} {t e n : Nat} {v : Value} {d : DataW H} {ps : List MemPlace} {data : ∀ H : Type, α → DataW H} {ok : α → Prop}
    (ht : arcT P t e n E.sz = true) (he : RdQ P e (flatQ E.cs data ok)) (hval : Value.okWide P W r b0 t v) (hd : DataW.Trod enc P W base sp held t v d ps) : ∃ l : List α, v = .agg ⟨l.flatMap E.cs⟩ ∧ l.length = n ∧ d = .agg (l.map (data H)) := by
  obtain ⟨fuel, hf⟩ := hd
  obtain ⟨l, h1, h2, h3⟩ := rd_array ht he H enc W base sp held fuel _ d ps hf
  refine ⟨l, ?_, h1, h3⟩
  have hv : ∃ a, v = .agg a := by
    unfold arcT at ht
    split at ht
    case h_2 => cases ht
    case h_1 n' e' hu =>
      simp only [Value.okWide, hu] at hval
      cases v <;> simp_all
  obtain ⟨a, rfl⟩ := hv
  simp only [Value.cells] at h2
  rw [← h2]
end Go.Vc
