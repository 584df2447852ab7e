/-
  The row of a law that wants to know how much its arguments take.
-/
import Derived.Test.YtahfcnaalleldaaDoorLaid
set_option maxRecDepth 20000
namespace Go.Vc
open Go.RowKit (Below)
open Go.ChangeShapes Go.WideShapes Go.ChangeAt Go.RowKit
theorem weights_front {P : Program} {H : Type} : ∀ {ts ts' : List TypeId} {ds ds' : List (DataW H)}, ds.length = ts.length → ∀ x ∈ DataW.weightsEach P ts ds, x ∈ DataW.weightsEach P (ts ++ ts') (ds ++ ds')
  | [], _, [], _, _, x, hx => by simp [DataW.weightsEach] at hx
  | t :: ts, ts', d :: ds, ds', h, x, hx => by
    simp only [List.cons_append, DataW.weightsEach] at hx ⊢
    rcases List.mem_append.1 hx with hx | hx
    · exact List.mem_append_left _ hx
    · exact List.mem_append_right _ (weights_front (by simpa using h) x hx)
  | [], _, _ :: _, _, h, _, _ => by simp at h
  | _ :: _, _, [], _, h, _, _ => by simp at h
theorem weights_texts {P : Program} {H : Type} {e : TypeId} : ∀ (l : List (List UInt8)), ∀ x ∈ l, x.length ∈ DataW.weightsAll P e (l.map (litS H))
  | [], x, hx => by simp at hx
  | y :: l, x, hx => by
    simp only [List.map_cons, DataW.weightsAll]
    rcases List.mem_cons.1 hx with rfl | hx
    · exact List.mem_append_left _ (by simp [litS, DataW.weights])
    · exact List.mem_append_right _ (weights_texts l x hx)
/-- The texts of a list that is the only argument. -/
theorem wide_texts {P : Program} {H : Type} {t e : TypeId} {s : Sl} {l : List (List UInt8)} {d : DataW H} (hu : P.underlying t = some (.slice e)) (hd : (s = Sl.nil ∧ l = [] ∧ d = .nil) ∨ ∃ spare, d = .slice (l.map (litS H)) spare)
    (hw : (DataW.weightsEach P [t] [d]).all (· ≤ reachBytes) = true) : ∀ x ∈ l, x.length ≤ 281474976710656 := fun x hx => by
  rcases hd with ⟨_, rfl, _⟩ | ⟨spare, rfl⟩
  · cases hx
  · rw [List.all_eq_true] at hw
    have := hw x.length (by
      simp only [DataW.weightsEach, List.append_nil, DataW.weights, hu]
      exact List.mem_cons_of_mem _ (List.mem_append_left _ (weights_texts l x hx)))
    have := of_decide_eq_true this
    unfold reachBytes at this
    omega
/-- What a law's own proof has to give, where its row lists variables. -/
def LawTrueW (C : Checked) (f : FuncId) (fn : Func) (s : ChangeSpec) (laid : List (String × DataW Unit)) : Prop :=
  ∀ (H : Type) (enc : TypeId × Value → H) (W : World) (base : Nat) (args : Array Value) (ds : List (DataW H)) (p : List MemPlace),
    (∀ (j : Nat) t v, fn.params[j]? = some t → args[j]? = some v → Value.okWide C.prog W .any base t v) →
    DataW.TrodAll enc C.prog W 0 (fun _ => true) true fn.params.toList args.toList ds p → (∀ x ∈ p, x.block < W.heap.size) →
    laidMetH C.prog laid W →
    (DataW.weightsEach C.prog fn.params.toList ds).all (· ≤ reachBytes) = true →
    callV C.prog Value.bool f args W fun b w' => b = true ∧ Ext W w'

theorem lifted_wide {C : Checked} {os : Os} {f : FuncId} {fn : Func} {s : ChangeSpec} {conds : List PathCond} {laid : List (String × DataW Unit)} {tb : TypeId} {H : Type} {enc : TypeId × Value → H} {F : Stop.Interp} (own : ownKnob C.prog.godebug = none) (started : os.Started) (noInit : C.prog.inits.idxOf? f = none) (hfn : C.prog.funcs[f]? = some fn)
    (witness : ∃ (w : World) (tape : Tape) (i : Input), w.os = os ∧ (w.forCall tape i).Shaped C.prog ∧ i.vars = [] ∧ Input.okWide C.prog (w.forCall tape i) .any w.heap.size f i ∧
      (OpenSpec.ofChange s).preRow enc C.prog fn conds false laid (w.forCall tape i).memory i.args ∧ Assume.holds {} C.prog (lone (Frame.enter C.prog f i.args .normal) [] (w.forCall tape i)))
    (hl : laidOutB C.prog = true) (hr : (fn.params.toList.all fun t => C.prog.readableRec t && Nat.blt t C.prog.types.size) = true) (hres : fn.resultTypes = #[tb]) (hb : C.prog.underlying tb = some .bool) (hv : s.vars = [])
    (hs : ∀ ds : List (DataW H), ds.length = fn.params.toList.length → s.fn H (ds ++ []) = { results := [.lit (.bool true)], args := ds })
    (law : LawTrueW C f fn s laid) :
    ReturnsInHanded {} C os f .any ((OpenSpec.ofChange s).preRow enc C.prog fn conds false laid) (((OpenSpec.ofChange s).at F).post enc C.prog fn false true false false) := by
  refine returnsInHanded_of_row (C := C) (s := OpenSpec.ofChange s) own started noInit hfn witness ?_
  intro W base args ds gs before hval hW _ _ hwt hL _ _
  have hW' := hW
  obtain ⟨p, q, hA, hV, rfl, _, _⟩ := hW
  have hv' : (OpenSpec.ofChange s).vars = [] := hv
  rw [hv'] at hV
  obtain ⟨rfl, rfl⟩ := trodVars_none hV
  simp only [List.append_nil] at hW'
  have hlt := hW'.lt
  have hlen : ds.length = fn.params.toList.length := trodAll_len hA
  have hwt' : (DataW.weightsEach C.prog fn.params.toList ds).all (· ≤ reachBytes) = true := by
    have e := weights_front (P := C.prog) (ts' := (OpenSpec.ofChange s).bare.plain.varTypes C.prog) (ds' := []) hlen
    rw [List.all_eq_true] at hwt ⊢
    exact fun x hx => hwt x (e x hx)
  refine Calls.mono (law H enc W base args ds p hval hA hlt hL hwt') fun e W' ⟨b, he, hb', hx⟩ => ?_
  subst he hb'
  refine ⟨_, rfl, ds, [], p, [], p, [], hW', ?_, ?_, ?_, hx.frame _, fun h => by cases h⟩
  · show DataW.TrodAll _ _ _ _ _ _ _ _ (s.fn H (ds ++ [])).results _
    rw [hs ds hlen, hres]
    exact trodAll_mk1 (shut_bool hb _)
  · show DataW.TrodAll _ _ _ _ _ _ _ _ (s.fn H (ds ++ [])).args _
    rw [hs ds hlen]
    exact below_trodAll hl hx hr hA hlt
  · show DataW.TrodVars _ _ _ _ s.vars (s.fn H (ds ++ [])).vars _
    rw [hs ds hlen, hv]
    rfl

end Go.Vc
