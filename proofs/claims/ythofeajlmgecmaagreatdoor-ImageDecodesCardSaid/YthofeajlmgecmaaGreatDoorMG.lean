import Derived.Test.YthofeajlmgecmaaGreatDoorMA
import Derived.Test.YthofeajlmgecmaaGreatDoorSpRef05
import Derived.Test.YthofeajlmgecmaaGreatDoorSpRuneK
/-
  What packages 'kvone' and 'changeoverref23' do with pairs.
-/
set_option maxRecDepth 20000
set_option linter.unusedVariables false
namespace Go.Chg
open Go.Vc

abbrev PUp (l : List ApiPair) : Prop := Up cmpS (·.Key) l
def pairOf (l : List ApiPair) (n : List UInt8) : Option ApiPair := getC cmpS (·.Key) l n
def noPair : ApiPair := ⟨[], [], 0⟩
def PairSmall (l : List ApiPair) : Prop := l.length ≤ 80 ∧ ∀ x ∈ l, x.Key.length ≤ 200 ∧ x.Val.length ≤ 200

/-! ### The document's answers -/
theorem strLe_neg {a b : List UInt8} : (strLt a b || strEq a b) = false ↔ cmpS b a < 0 := by
  rw [strLt_eq, strEq_eq, cmpS_neg]
  rcases str_tri a b with h | h | h
  · simp [h, str_lt_asymm h]
  · subst h; simp [str_lt_irrefl]
  · have h1 := str_lt_asymm h
    have h2 : ¬ a = b := fun e => by subst e; exact str_lt_irrefl _ h
    simp [h, h1, h2]
theorem ref23_Rise_spec {s : Sl} {l : List ApiPair} {K : Bool → World → Prop} {w : World} (hs : IsSl eApiPair w s l) (hK : ∀ b w', (b = true ↔ PUp l) → Ext w w' → K b w') : ref23_Rise s K w := by
  unfold ref23_Rise
  have hl := hs.len
  have hle := hs.le
  by_cases h0 : l.length = 0
  · have : l = [] := List.length_eq_zero_iff.1 h0
    subst this
    refine up1 (fun k w' => w = w') 1 1 rfl (by omega) (by omega) rfl ?_
    rintro k _ C _ hk rfl hC
    exact ifD (fun h => by omega) (fun _ => hK _ _ ⟨fun _ => List.Pairwise.nil, fun _ => rfl⟩ (Ext.rfl' _))
  refine up1 (fun k w' => Ext w w' ∧ ∀ (j : Nat) x y, l[j]? = some x → l[j + 1]? = some y → j + 1 < k → cmpS x.Key y.Key < 0) 1 l.length rfl (by omega) hle ⟨Ext.rfl' _, fun j x y _ _ h => by omega⟩ ?_
  rintro k w1 C hk0 hk ⟨hx, hall⟩ hC
  refine ifD (fun hlt => ?_) (fun hge => hK _ _ ⟨fun _ => up_of_steps ordS fun j x y hx hy => hall j x y hx hy ?_, fun _ => rfl⟩ hx)
  · have hk1 : k < l.length := by omega
    have hk2 : k - 1 < l.length := by omega
    refine drew_of fun w2 hx2 => ?_
    have hx3 := hx.trans' hx2
    refine fld_rd (y := l[k].Key) (by kernel_rfl) (by kernel_rfl) (hs.ext hx3) rfl hk1 rfl fun _ => ?_
    have e1 : i64 ((k : Int) - 1) = ((k - 1 : Nat) : Int) := by rw [i64_id] <;> omega
    rw [e1]
    refine fld_rd (y := l[k - 1].Key) (by kernel_rfl) (by kernel_rfl) (hs.ext hx3) rfl hk2 rfl fun _ => ?_
    have hg1 := List.getElem?_eq_getElem hk1
    have hg2 := List.getElem?_eq_getElem hk2
    refine ifB_of (fun hle => hK _ _ ⟨fun h => (by cases h), fun hu => ?_⟩ hx3) (fun hgt => hC hk1 _ _ rfl ⟨hx3, fun j x y hx hy hj => ?_⟩)
    · have := Up.steps hu hg2 (by rw [show k - 1 + 1 = k by omega]; exact hg1)
      rw [strLe_neg.2 this] at hle
      cases hle
    · by_cases hjk : j + 1 = k
      · have ej : j = k - 1 := by omega
        subst ej
        rw [hg2] at hx
        rw [hjk, hg1] at hy
        cases hx
        cases hy
        exact strLe_neg.1 hgt
      · exact hall j x y hx hy (by omega)
  · have := (List.getElem?_eq_some_iff.1 hy).1
    omega
def pairOk (schema : Int) (p : ApiPair) : Prop := keyOk p.Key = true ∧ valOk p.Val = true ∧ (schema = 1 → p.Rev = 0) ∧ (schema = 2 → 1 ≤ p.Rev ∧ p.Rev ≤ 4294967296)
def PairsOk (schema : Int) (l : List ApiPair) : Prop := (∀ p ∈ l, pairOk schema p) ∧ l.length ≤ 64 ∧ PUp l
theorem ref23_Check_spec {schema : Int} {s : Sl} {l : List ApiPair} {K : Bool → World → Prop} {w : World} (hs : IsSl eApiPair w s l) (hK : ∀ b w', (b = true ↔ PairsOk schema l) → Ext w w' → K b w') : ref23_Check schema s K w := by
  unfold ref23_Check
  have hl := hs.len
  have hle := hs.le
  refine up1 (fun k w' => w = w' ∧ ∀ x ∈ l.take k, pairOk schema x) 0 l.length rfl (by omega) hle ⟨rfl, by simp⟩ ?_
  rintro k _ C _ hk ⟨rfl, hall⟩ hC
  refine ifD (fun hlt => ?_) (fun hge => ?_)
  · have hk1 : k < l.length := by omega
    have bad : ¬ pairOk schema l[k] → K false w := fun h => hK _ _ ⟨fun h => (by cases h), fun h' => absurd (h'.1 _ (List.getElem_mem hk1)) h⟩ (Ext.rfl' _)
    have good : pairOk schema l[k] → C (i64 ((k : Int) + 1)) w := fun h => hC hk1 _ _ rfl ⟨rfl, all_up hk1 hall h⟩
    refine fld_rd (y := l[k].Key) (by kernel_rfl) (by kernel_rfl) hs rfl hk1 rfl fun _ => ?_
    refine ref05_Key_calls (ref05_Key_spec (ifNot (ifB_of (fun hkey => ?_) (fun hkey => bad fun h => by rw [h.1] at hkey; cases hkey))))
    refine fld_rd (y := l[k].Val) (by kernel_rfl) (by kernel_rfl) hs rfl hk1 rfl fun _ => ?_
    refine ref05_Val_calls (ref05_Val_spec (ifNot (ifB_of (fun hval => ?_) (fun hval => bad fun h => by rw [h.2.1] at hval; cases hval))))
    refine ifEq (fun h1 => ?_) (fun h1 => ?_)
    · refine fld_rd (y := l[k].Rev) (by kernel_rfl) (by kernel_rfl) hs rfl hk1 rfl fun _ => ?_
      refine ifNe (fun h => bad fun h' => h (h'.2.2.1 h1)) (fun h => ?_)
      exact ifEq (fun h2 => by omega) (fun h2 => good ⟨hkey, hval, fun _ => h, fun e => absurd e h2⟩)
    · refine ifEq (fun h2 => ?_) (fun h2 => good ⟨hkey, hval, fun e => absurd e h1, fun e => absurd e h2⟩)
      refine fld_rd (y := l[k].Rev) (by kernel_rfl) (by kernel_rfl) hs rfl hk1 rfl fun _ => ?_
      refine ifD (fun h => bad fun h' => by have := h'.2.2.2 h2; omega) (fun h => ?_)
      refine fld_rd (y := l[k].Rev) (by kernel_rfl) (by kernel_rfl) hs rfl hk1 rfl fun _ => ?_
      exact ifD (fun h => bad fun h' => by have := h'.2.2.2 h2; omega) (fun h' => good ⟨hkey, hval, fun e => absurd e h1, fun _ => by omega⟩)
  · have hall' := all_done (by omega) hall
    refine ifD (fun h64 => ?_) (fun h64 => hK _ _ ⟨fun h => (by cases h), fun h => by have := h.2.1; omega⟩ (Ext.rfl' _))
    refine ref23_Rise_calls (ref23_Rise_spec hs fun b w1 hb hx1 => hK _ _ ?_ hx1)
    exact hb.trans ⟨fun h => ⟨hall', by omega, h⟩, fun h => h.2.2⟩
theorem ref23_Same_spec {a b : Sl} {la lb : List ApiPair} {K : Bool → World → Prop} {w : World} (ha : IsSl eApiPair w a la) (hb : IsSl eApiPair w b lb) (hK : ∀ t w', (t = true ↔ la = lb) → Ext w w' → K t w') : ref23_Same a b K w := by
  unfold ref23_Same
  exact same_vc (E := eApiPair) (r := fun x y => (ApiPair.eqs x y).all id) (by kernel_rfl) (by kernel_rfl) (by kernel_rfl) (fun _ => rfl) (by kernel_rfl) (fun x y => ApiPair.eqv x y) (fun x y => ApiPair.eqs_iff) ha hb hK
/-! ### The program's -/
theorem clone_pair_spec {s : Sl} {l : List ApiPair} {K : Sl → World → Prop} {w : World} (h : IsSl eApiPair w s l) (hl : l.length ≤ 1000000) (hK : ∀ s' w', OwnSl eApiPair w' w.heap.size s' l → Ext w w' → K s' w') : slices_Clone_api_Pair_api_Pair s K w := by
  unfold slices_Clone_api_Pair_api_Pair
  exact clone_vc (E := eApiPair) 40 (by kernel_rfl) (by kernel_rfl) (fun w => by kernel_rfl) h (by omega) (by decide) fun s' w' h1 h2 _ => hK s' w' h1 h2
end Go.Chg
/-
  What package 'kvone' does; the law of what it keeps.
-/
set_option maxRecDepth 20000
set_option linter.unusedVariables false
namespace Go.Chg
open Go.Vc

theorem own_blk' {α : Type} {E : Enc α} {w : World} {B : Nat} {s : Sl} {l : List α} (h : OwnSl E w B s l) : ∀ b, s.blk = some b → b < w.heap.size := fun b hb => by
  rcases h.row with ⟨h0, _⟩ | ⟨g, cur, h1, _, h2, _⟩
  · subst h0; cases hb
  · simp [Sl.blk, h1] at hb; subst hb; exact h2.lt
def pairIns (l : List ApiPair) (p : ApiPair) : List ApiPair := insC (fun x => cmpS x.Key p.Key) l p
def pairDel (l : List ApiPair) (n : List UInt8) : List ApiPair := l.filter fun x => cmpS x.Key n != 0
/-- An own variable stands below what a call may turn. -/
theorem kp_own {α : Type} {E : Enc α} {w w' : World} {B b : Nat} {s : Sl} {l : List α} {X : Prop} (ho : OwnSl E w B s l) (hb : b < B) (hg : w.grownBy w' s.blk) (x : X) : kp b w w' X :=
  kp_grown hg (fun e => by have := ho.ge b e.symm; omega) x
end Go.Chg
/-
  What a command leaves: facts; that the law of package 'kvone' is awake.
-/
set_option maxRecDepth 20000
set_option linter.unusedVariables false
namespace Go.Chg
open Go.Vc

theorem pairOf_ins {l : List ApiPair} (hu : PUp l) (p : ApiPair) : pairOf (pairIns l p) p.Key = some p := get_ins ordS hu p
theorem pairOf_ins_ne {l : List ApiPair} (hu : PUp l) {p : ApiPair} {n : List UInt8} (h : n ≠ p.Key) : pairOf (pairIns l p) n = pairOf l n := get_ins_ne ordS hu h
theorem pairOf_del {l : List ApiPair} {n : List UInt8} : pairOf (pairDel l n) n = none := get_del ordS
theorem pairOf_del_ne {l : List ApiPair} (hu : PUp l) {m n : List UInt8} (h : n ≠ m) : pairOf (pairDel l m) n = pairOf l n := get_del_ne ordS hu h
theorem pairIns_up {l : List ApiPair} (hu : PUp l) (p : ApiPair) : PUp (pairIns l p) := hu.ins ordS p
theorem pairDel_up {l : List ApiPair} (hu : PUp l) (n : List UInt8) : PUp (pairDel l n) := hu.filter _
theorem three_len {α : Type} (c : α → Int) : ∀ l : List α, (l.filter fun x => decide (c x < 0)).length + (l.filter fun x => decide (0 < c x)).length + (l.filter fun x => decide (c x = 0)).length = l.length
  | [] => rfl
  | x :: l => by
    have ih := three_len c l
    simp only [List.filter_cons, List.length_cons]
    rcases Int.lt_trichotomy (c x) 0 with h | h | h
    · have h1 : ¬ 0 < c x := by omega
      have h2 : ¬ c x = 0 := by omega
      simp only [h, h1, h2, decide_true, decide_false, if_true, List.length_cons, Bool.false_eq_true, if_false]
      omega
    · simp only [h, Int.lt_irrefl, decide_true, decide_false, if_true, List.length_cons, Bool.false_eq_true, if_false]
      omega
    · have h1 : ¬ c x < 0 := by omega
      have h2 : ¬ c x = 0 := by omega
      simp only [h, h1, h2, decide_true, decide_false, if_true, List.length_cons, Bool.false_eq_true, if_false]
      omega
theorem insC_len' {α : Type} (c : α → Int) (l : List α) (s : α) : (insC c l s).length ≤ l.length + 1 := by
  have := three_len c l
  unfold insC
  rw [List.length_append, List.length_cons]
  omega
theorem insC_len_in {α : Type} {c : α → Int} {l : List α} {x : α} (hx : x ∈ l) (h0 : c x = 0) (s : α) : (insC c l s).length ≤ l.length := by
  have := three_len c l
  have h1 : 0 < (l.filter fun x => decide (c x = 0)).length := List.length_pos_of_mem (List.mem_filter.2 ⟨hx, by simpa using h0⟩)
  unfold insC
  rw [List.length_append, List.length_cons]
  omega
theorem pairIns_len {l : List ApiPair} (p : ApiPair) (h : l.length ≤ 64) (hr : (pairOf l p.Key).isSome = true ∨ l.length < 64) : (pairIns l p).length ≤ 64 := by
  rcases hr with hr | hr
  · obtain ⟨x, hx⟩ := Option.isSome_iff_exists.1 hr
    obtain ⟨h1, h2⟩ := get_some ordS hx
    exact Nat.le_trans (insC_len_in h1 ((ordS.eq _ _).2 h2) p) h
  · exact Nat.le_trans (insC_len' _ _ _) (by omega)
theorem PairsOk.ins {sch : Int} {l : List ApiPair} {p : ApiPair} (h : PairsOk sch l) (hp : pairOk sch p) (hr : (pairOf l p.Key).isSome = true ∨ l.length < 64) : PairsOk sch (pairIns l p) :=
  ⟨fun x hx => by
    rcases (mem_ins ordS).1 hx with rfl | ⟨h1, _⟩
    · exact hp
    · exact h.1 _ h1, pairIns_len p h.2.1 hr, pairIns_up h.2.2 p⟩
theorem PairsOk.del {sch : Int} {l : List ApiPair} {n : List UInt8} (h : PairsOk sch l) : PairsOk sch (pairDel l n) :=
  ⟨fun x hx => h.1 _ (List.mem_filter.1 hx).1, Nat.le_trans (List.length_filter_le _ _) h.2.1, pairDel_up h.2.2 n⟩

end Go.Chg
/-
  What package 'kvtwo' does.
-/
set_option maxRecDepth 20000
set_option linter.unusedVariables false
namespace Go.Vc
open Go
variable {P : Program} {w : World} {α β : Type}
theorem stH2 {E : Enc α} {S : World → Prop} {t u : TypeId} {s : Sl} {l : List α} {i : Int} {k : Nat} {val : α → Value} {K : Addr → α → Prop} (ht : slOf P t = some E.sz) (hu : agT P u = some E.sz) (hS : ∀ w', S w' → IsSl E w' s l) (hi : i = (k : Int)) (hk : k < l.length)
    (hv : ∀ x, val x = .agg ⟨E.cs x⟩) (hK : ∀ a, K a l[k]) : opH P S (Instr.indexAt t s.val (.int .i64 i)) pav (fun a => opH P S (Instr.loadAt u (.pointer (some a))) val (K a)) :=
  ⟨s.at k E.sz, fun w' hw => (ix_eq ht (hS w' hw) hi hk).1, opH_of l[k] (fun w' hw => ld_whole hu (ix_eq (P := P) ht (hS w' hw) hi hk).2 (hv _) rfl) (hK _)⟩
/-- slices.BinarySearchFunc behind a target that stands in a variable, told. -/
theorem search_held {E : Enc α} {t u g : Nat} {val : α → Value} {args : α → Array Value} {x : Sl} {l : List α} (c : α → Int) {K : Int × Bool → World → Prop} (ht : slOf P t = some E.sz) (hu : agT P u = some E.sz) (hv : ∀ y, val y = .agg ⟨E.cs y⟩)
    (hx : IsSl E w x l) (hle : l.length ≤ 4611686018427387903) (hr : RisesC c l)
    (hcall : ∀ y ∈ l, ∀ (w' : World) (K' : Int → World → Prop), Ext w w' → (∀ w'', Ext w' w'' → K' (c y) w'') → callV P (Value.int .i64) g (args y) w' K')
    (hK : ∀ (w' : World) (i : Nat), AtC c l i → Ext w w' → K ((i : Int), foundC c l i) w') :
    newV (fun b1 w2 =>
      loop2 (0 : Int) ((x.len : Int) : Int) (fun i3 j4 k5 w6 =>
      ifB (decide (i3 < j4))
      (heldM (fun S8 w7 =>
      opH P S8 (Instr.indexAt t x.val (.int .i64 (IntKind.i64.wrap (shR .u64 (IntKind.u64.wrap (i64 (i3 + j4))) 1)))) pav (fun t9 =>
      opH P S8 (Instr.loadAt u (.pointer (some t9))) val (fun t10 =>
      callV P (Value.int .i64) g (args t10) w7 fun t11 w12 =>
      kp b1 w7 w12 <|
      (S8 w12) ∧
      (ifB (decide (t11 < 0))
      (k5 (i64 ((IntKind.i64.wrap (shR .u64 (IntKind.u64.wrap (i64 (i3 + j4))) 1)) + 1)) j4 w12)
      (k5 i3 (IntKind.i64.wrap (shR .u64 (IntKind.u64.wrap (i64 (i3 + j4))) 1)) w12))))) w6)
      (heldM (fun S14 w13 =>
      ifB (decide (i3 < (x.len : Int)))
      (opH P S14 (Instr.indexAt t x.val (.int .i64 i3)) pav (fun t15 =>
      opH P S14 (Instr.loadAt u (.pointer (some t15))) val (fun t16 =>
      callV P (Value.int .i64) g (args t16) w13 fun t17 w18 =>
      kp b1 w13 w18 <|
      (S14 w18) ∧
      (K (i3, (t17 == 0)) w18))))
      (K (i3, false) w13)) w6)) w2) w := by
  have hl := hx.len
  refine new_of fun b1 w0 hn1 => ?_
  have hx0 := Ext.new hn1
  refine ⟨fun i j w' => Ext w w' ∧ ∃ (a b : Nat), i = a ∧ j = b ∧ a ≤ b ∧ b ≤ l.length ∧ (∀ (k : Nat) y, l[k]? = some y → k < a → c y < 0) ∧ (∀ (k : Nat) y, l[k]? = some y → b ≤ k → 0 ≤ c y), fun i j _ => (j - i).toNat,
    ⟨hx0, 0, l.length, rfl, by omega, by omega, by omega, fun k y _ hk => by omega, fun k y hy hk => by have := (List.getElem?_eq_some_iff.1 hy).1; omega⟩, ?_⟩
  rintro i j w1 ⟨hx1, a, b, rfl, rfl, hab, hb, hlo, hhi⟩
  refine ifD (fun hlt => ?_) (fun hge => ?_)
  · have hm := half (i := (a : Int)) (j := (b : Int)) (by omega) (by omega) (by omega)
    rw [hm]
    obtain ⟨m, hmm⟩ : ∃ m : Nat, ((a : Int) + b) / 2 = m := ⟨(a + b) / 2, by omega⟩
    rw [hmm]
    have hml : m < l.length := by omega
    have hget := List.getElem?_eq_getElem hml
    refine heldM_of (fun w' => IsSl E w' x l) fun w2 hx2 => ⟨hx.ext (hx1.trans' hx2), ?_⟩
    refine stH2 ht hu (fun w' h => h) rfl hml hv fun _ => ?_
    refine hcall _ (List.getElem_mem _) _ _ (hx1.trans' hx2) fun w3 hx3 => kp_ext hx3 ?_
    have hx13 := hx1.trans' (hx2.trans' hx3)
    refine ⟨hx.ext hx13, ?_⟩
    refine ifD (fun hneg => ?_) (fun hpos => ?_)
    · refine ⟨⟨hx13, m + 1, b, by rw [i64_id] <;> omega, rfl, by omega, hb, fun k y hy hk => ?_, hhi⟩, ?_⟩
      · by_cases hkm : k = m
        · subst hkm; rw [hget] at hy; cases hy; exact hneg
        · by_cases h0 : c y < 0
          · exact h0
          · have := hr k m y _ (by omega) hy hget (by omega)
            omega
      · dsimp only
        rw [i64_id] <;> omega
    · refine ⟨⟨hx13, a, m, rfl, rfl, by omega, by omega, hlo, fun k y hy hk => ?_⟩, ?_⟩
      · by_cases hkm : k = m
        · subst hkm; rw [hget] at hy; cases hy; omega
        · have := hr m k _ y (by omega) hget hy (by omega)
          omega
      · dsimp only
        omega
  · have hab' : a = b := by omega
    subst hab'
    have hp : AtC c l a := ⟨hb, hlo, hhi⟩
    refine heldM_of (fun w' => IsSl E w' x l) fun w2 hx2 => ⟨hx.ext (hx1.trans' hx2), ?_⟩
    refine ifD (fun hlt => ?_) (fun hge2 => ?_)
    · have hal : a < l.length := by omega
      have hget := List.getElem?_eq_getElem hal
      refine stH2 ht hu (fun w' h => h) rfl hal hv fun _ => ?_
      refine hcall _ (List.getElem_mem _) _ _ (hx1.trans' hx2) fun w3 hx3 => kp_ext hx3 ?_
      have hx13 := hx1.trans' (hx2.trans' hx3)
      refine ⟨hx.ext hx13, ?_⟩
      have := hK w3 a hp hx13
      rw [show foundC c l a = (c l[a] == 0) from by unfold foundC; rw [hget]] at this
      exact this
    · have := hK w2 a hp (hx1.trans' hx2)
      rw [show foundC c l a = false from by unfold foundC; rw [List.getElem?_eq_none (by omega)]] at this
      exact this
end Go.Vc
namespace Go.Chg
open Go.Vc
def nextRev (rev : Int) : Int := i64 (imin rev 4294967295 + 1)
theorem nextRev_lo {rev : Int} (h0 : 0 ≤ rev) (h : rev ≤ 4294967295) : nextRev rev = rev + 1 := by
  unfold nextRev imin
  rw [if_neg (by omega), i64_id] <;> omega
theorem nextRev_hi {rev : Int} (h : 4294967295 < rev) : nextRev rev = 4294967296 := by
  unfold nextRev imin
  rw [if_pos h, i64_id] <;> omega
theorem grown_own {w w1 w2 : World} {b : Nat} {row : Option Nat} (hg : w.grownBy w1 row) (hb : w.heap.size ≤ b) (hw : Wr b w1 w2) : w.grownBy w2 row :=
  ⟨hw.os.trans hg.os, hw.tape.trans hg.tape, hw.output.trans hg.output, Nat.le_trans hg.size (Nat.le_of_eq hw.size.symm), fun i hi hr => (hw.block i (by omega)).trans (hg.block i hi hr)⟩
end Go.Chg
/-
  What package 'kvtwo' does: a command, and pairs without revisions.
-/
set_option maxRecDepth 20000
set_option linter.unusedVariables false
namespace Go.Vc
open Go
variable {P : Program} {w : World} {α β : Type}
/-- A store into a part of a place of an own slice. -/
theorem run_fst_own {E : Enc α} {B m off : Nat} {t : TypeId} {s : Sl} {l : List α} {k : Nat} {v : Value} {x : α} (ht : sizeT P t = some m) (h : OwnSl E w B s l) (hk : k < l.length) (hm : v.cells.toList.length = m) (ho : ∀ u ∈ v.cells.toList, u.oneCell' = true) (hfit : off + m ≤ E.sz)
    (hx : ∀ i, i < E.sz → (E.cs x)[i]? = if i < off then (E.cs l[k])[i]? else if i < off + m then v.cells.toList[i - off]? else (E.cs l[k])[i]?) :
    ∃ w', (Instr.storeAt t (.pointer (some ((s.at k E.sz).add off))) v).run P w = .ok () w' ∧ w.grownBy w' s.blk ∧ OwnSl E w' B s (l.set k x) := by
  rcases h.row with ⟨_, h0⟩ | ⟨g, cur, ha, hB, hr, hl, hc, hmx, hs, htk⟩
  · subst h0; simp at hk
  generalize hvs : v.cells.toList = vs at hm ho hx
  have e1 : (s.at k E.sz).add off = ⟨g, k * E.sz + off, none⟩ := by simp [Sl.at, ha, addr_add]
  have hle : (k + 1) * E.sz ≤ s.cap * E.sz := Nat.mul_le_mul_right _ (by omega)
  have hkm : (k + 1) * E.sz = k * E.sz + E.sz := by rw [Nat.add_mul, Nat.one_mul]
  have hfit' : k * E.sz + off + 0 + vs.length ≤ cur.length := by rw [hm, hs]; omega
  obtain ⟨w', r1, r2, r3⟩ := hr.store (P := P) (o := k * E.sz + off) (i := 0) (vs := vs) hfit' ho
  refine ⟨w', ?_, ?_, ?_⟩
  · rw [e1]
    have hl' : v.cells.size = m := by rw [← Array.length_toList, hvs, hm]
    simp only [Instr.storeAt, Instr.sureAddr, pure_bind, storeVar, Sem.run_bind, run_size ht, Result.andThen_ok, hl', ne_eq, not_true_eq_false, if_false]
    rw [hvs]
    exact r1
  · rw [show s.blk = some g from by simp [Sl.blk, ha]]
    exact grown_wr r2
  · refine OwnSl.of_row ha hB r3 (by simpa using hl) hc hmx (by rw [lay_len (by simpa using hfit')]; exact hs) ?_
    rw [Nat.add_zero, List.length_set]
    apply List.ext_getElem?
    intro i
    have hll : (l.set k x).length = l.length := by simp
    by_cases hi : i < l.length * E.sz
    · rw [List.getElem?_take, if_pos hi, lay_get (by simpa using hfit'), hm]
      have hq : i / E.sz < l.length := Nat.div_lt_of_lt_mul (by rw [Nat.mul_comm]; exact hi)
      have hsplit : i = i / E.sz * E.sz + i % E.sz := by rw [Nat.mul_comm]; exact (Nat.div_add_mod i E.sz).symm
      have hmod := Nat.mod_lt i E.pos
      have rhs : ((l.set k x).flatMap E.cs)[i]? = (E.cs ((l.set k x)[i / E.sz]'(by simpa using hq)))[i % E.sz]? := by
        conv => lhs; rw [hsplit]
        exact E.flat_get _ _ _ (by simpa using hq) hmod
      have old : cur[i]? = (E.cs l[i / E.sz])[i % E.sz]? := by
        have h1 : cur[i]? = (cur.take (l.length * E.sz))[i]? := by rw [List.getElem?_take, if_pos hi]
        rw [h1, htk]
        conv => lhs; rw [hsplit]
        exact E.flat_get _ _ _ hq hmod
      rw [rhs]
      by_cases hik : i / E.sz = k
      · have e3 : (l.set k x)[i / E.sz]'(by simpa using hq) = x := by simp [hik]
        have e4 : l[i / E.sz] = l[k] := by simp [hik]
        rw [e3, hx _ hmod, old, e4]
        rw [hik] at hsplit
        have c1 : i < k * E.sz + off ↔ i % E.sz < off := by omega
        have c2 : i < k * E.sz + off + m ↔ i % E.sz < off + m := by omega
        have c3 : i - (k * E.sz + off) = i % E.sz - off := by omega
        by_cases h2 : i % E.sz < off
        · rw [if_pos (c1.2 h2), if_pos h2]
        · rw [if_neg (fun h => h2 (c1.1 h)), if_neg h2]
          by_cases h3 : i % E.sz < off + m
          · rw [if_pos (c2.2 h3), if_pos h3, c3]
          · rw [if_neg (fun h => h3 (c2.1 h)), if_neg h3]
      · have e2 : (l.set k x)[i / E.sz]'(by simpa using hq) = l[i / E.sz] := by
          rw [List.getElem_set, if_neg (Ne.symm hik)]
        rw [e2, ← old]
        by_cases h2 : i < k * E.sz + off
        · rw [if_pos h2]
        · have h3 : ¬ i < k * E.sz + off + m := by
            intro h3
            apply hik
            refine Nat.le_antisymm ?_ ?_
            · have : i / E.sz < k + 1 := Nat.div_lt_of_lt_mul (by rw [Nat.mul_comm]; omega)
              omega
            · rw [Nat.le_div_iff_mul_le E.pos]; omega
          rw [if_neg h2, if_neg h3]
    · rw [List.getElem?_take, if_neg hi, List.getElem?_eq_none]
      rw [E.length_flat, hll]; omega
theorem fst_own {E : Enc α} {B m off : Nat} {t : TypeId} {s : Sl} {l : List α} {k : Nat} {v : Value} {K : World → Prop} (x : α) (ht : sizeT P t = some m) (h : OwnSl E w B s l) (hk : k < l.length) (hm : v.cells.toList.length = m) (ho : ∀ u ∈ v.cells.toList, u.oneCell' = true) (hfit : off + m ≤ E.sz)
    (hx : ∀ i, i < E.sz → (E.cs x)[i]? = if i < off then (E.cs l[k])[i]? else if i < off + m then v.cells.toList[i - off]? else (E.cs l[k])[i]?)
    (hK : ∀ w', OwnSl E w' B s (l.set k x) → w.grownBy w' s.blk → K w') : opUn P (Instr.storeAt t (.pointer (some ((s.at k E.sz).add off))) v) K w := by
  obtain ⟨w', h1, h2, h3⟩ := run_fst_own ht h hk hm ho hfit hx
  exact ⟨w', h1, hK w' h3 h2⟩
end Go.Vc
namespace Go.Chg
open Go.Vc
def bare (p : ApiPair) : ApiPair := ⟨p.Key, p.Val, 0⟩
theorem kvtwo_Plain_spec {s : Sl} {l : List ApiPair} {K : Sl → World → Prop} {w : World} (hs : IsSl eApiPair w s l) (hle : l.length ≤ 100000)
    (hK : ∀ s' w', OwnSl eApiPair w' w.heap.size s' (l.map bare) → Ext w w' → K s' w') : kvtwo_Plain s K w := by
  unfold kvtwo_Plain
  refine slices_Clone_api_Pair_api_Pair_calls (clone_pair_spec hs (by omega) fun out w1 ho1 hx1 => ?_)
  have hl := ho1.len
  refine up1 (fun k w' => Ext w w' ∧ OwnSl eApiPair w' w.heap.size out ((l.take k).map bare ++ l.drop k)) 0 l.length rfl (by omega) (by omega) ⟨hx1, by simpa using ho1⟩ ?_
  rintro k w2 C _ hk ⟨hx2, ho2⟩ hC
  refine ifD (fun hlt => ?_) (fun hge => hK _ _ ?_ hx2)
  · have hk1 : k < l.length := by omega
    have hlen : ((l.take k).map bare ++ l.drop k).length = l.length := by simp; omega
    have htl : ((l.take k).map bare).length = k := by simp; omega
    have hget : ((l.take k).map bare ++ l.drop k)[k]'(by omega) = l[k] := by
      apply Option.some.inj
      rw [← List.getElem?_eq_getElem, ← List.getElem?_eq_getElem, List.getElem?_append_right (by omega), htl, Nat.sub_self, List.getElem?_drop, Nat.add_zero]
    refine ix_own (by kernel_rfl) ho2 rfl (by omega) ?_
    refine fst_own (m := 1) (bare l[k]) (by kernel_rfl) ho2 (by omega) rfl (fun u hu => by cases List.mem_singleton.1 hu; rfl) (by decide) ?_ fun w3 ho3 hg3 => hC hk1 _ _ rfl ⟨Ext.own hx2 ho2 (Nat.le_refl _) hg3, ?_⟩
    · intro i hi
      rw [hget]
      have hi' : i < 3 := hi
      match i, hi' with
      | 0, _ => rfl
      | 1, _ => rfl
      | 2, _ => rfl
    · rw [List.set_append_right _ _ (by omega), htl, Nat.sub_self, List.drop_eq_getElem_cons hk1] at ho3
      rw [List.take_succ_eq_append_getElem hk1, List.map_append, List.append_assoc]
      exact ho3
  · have : l.length ≤ k := by omega
    rw [List.take_of_length_le this, List.drop_of_length_le this, List.append_nil] at ho2
    exact ho2
end Go.Chg
/-
  What a command of 'kvtwo' leaves: facts; that its law is awake.
-/
set_option maxRecDepth 20000
set_option linter.unusedVariables false
namespace Go.Chg
open Go.Vc

theorem insC_insC {l : List ApiPair} {p q : ApiPair} (h : p.Key = q.Key) : pairIns (pairIns l p) q = pairIns l q := by
  unfold pairIns insC
  rw [h]
  have h0 : cmpS p.Key q.Key = 0 := cmpS_zero.2 h
  simp only [List.filter_append, List.filter_cons, List.filter_filter, h0, Int.lt_irrefl, decide_false, Bool.false_eq_true, if_false]
  have e1 : (l.filter fun a => decide (cmpS a.Key q.Key < 0) && decide (cmpS a.Key q.Key < 0)) = l.filter fun a => decide (cmpS a.Key q.Key < 0) := by simp
  have e2 : (l.filter fun a => decide (0 < cmpS a.Key q.Key) && decide (0 < cmpS a.Key q.Key)) = l.filter fun a => decide (0 < cmpS a.Key q.Key) := by simp
  have e3 : (l.filter fun a => decide (cmpS a.Key q.Key < 0) && decide (0 < cmpS a.Key q.Key)) = [] := List.filter_eq_nil_iff.2 fun a _ hh => by simp at hh; omega
  have e4 : (l.filter fun a => decide (0 < cmpS a.Key q.Key) && decide (cmpS a.Key q.Key < 0)) = [] := List.filter_eq_nil_iff.2 fun a _ hh => by simp at hh; omega
  rw [e1, e2, e3, e4]
  simp
theorem ins_bare (l : List ApiPair) (p : ApiPair) : (pairIns l p).map bare = pairIns (l.map bare) (bare p) := by
  unfold pairIns insC
  rw [List.map_append, List.map_cons, List.filter_map, List.filter_map]
  rfl
theorem del_bare (l : List ApiPair) (n : List UInt8) : (pairDel l n).map bare = pairDel (l.map bare) n := by
  unfold pairDel
  rw [List.filter_map]
  rfl
theorem pairOf_bare (l : List ApiPair) (n : List UInt8) : pairOf (l.map bare) n = (pairOf l n).map bare := by
  unfold pairOf getC
  rw [List.find?_map]
  rfl
theorem up_bare {l : List ApiPair} (h : PUp l) : PUp (l.map bare) := List.pairwise_map.2 h
theorem getD_bare (o : Option ApiPair) : ((o.map bare).getD noPair).Val = (o.getD noPair).Val := by cases o <;> rfl
theorem pairIns_at {l : List ApiPair} (hu : PUp l) {k : Nat} (hk : k < l.length) {p : ApiPair} (h : l[k].Key = p.Key) : pairIns l p = l.set k p := by
  have hget := List.getElem?_eq_getElem hk
  have hp : AtC (fun x => cmpS x.Key p.Key) l k := ⟨by omega, fun j y hj hjk => by have := hu.get hjk hj hget; rw [h] at this; exact this, fun j y hj hkj => by
    by_cases e : k = j
    · subst e
      rw [hget] at hj
      cases hj
      rw [h, ordS.refl]
      exact Int.le_refl 0
    · have := hu.get (show k < j by omega) hget hj
      rw [h] at this
      exact Int.le_of_lt ((ordS.fl _ _).2 this)⟩
  exact hp.ins_f (hu.rises ordS _) (foundC_iff.2 ⟨l[k], hget, by rw [h, ordS.refl]⟩) p
end Go.Chg
/-
  The law of what package 'kvone' checks.
-/
set_option maxRecDepth 20000
set_option linter.unusedVariables false
namespace Go.Vc
open Go
variable {P : Program} {w : World} {α β : Type}
theorem stH' {E : Enc α} {S : World → Prop} {t u : TypeId} {s : Sl} {l : List α} {i : Int} {k : Nat} {val : α → Value} {K : Addr → α → Prop} (ht : slOf P t = some E.sz) (hu : agT P u = some E.sz) (hS : ∀ w', S w' → IsSl E w' s l) (hi : i = (k : Int)) (hk : k < l.length)
    (hv : ∀ x, val x = .agg ⟨E.cs x⟩) (hK : ∀ a, K a l[k]) : opH P S (Instr.indexAt t s.val (.int .i64 i)) pav (fun a => opH P S (Instr.loadAt u (.pointer (some a))) val (K a)) :=
  ⟨s.at k E.sz, fun w' hw => (ix_eq ht (hS w' hw) hi hk).1, opH_of l[k] (fun w' hw => ld_whole hu (ix_eq (P := P) ht (hS w' hw) hi hk).2 (hv _) rfl) (hK _)⟩
end Go.Vc
namespace Go.Chg
open Go.Vc
theorem kvone_Check_spec {s : Sl} {l : List ApiPair} {K : Int → World → Prop} {w : World} (ht : Utf8T w) (hs : IsSl eApiPair w s l)
    (hK : ∀ b w', (b = 0 ∧ PairsOk 1 l ∨ b = 3 ∧ ¬ PairsOk 1 l) → Ext w w' → K b w') : kvone_Check s K w := by
  unfold kvone_Check
  have hl := hs.len
  have hle := hs.le
  refine ifD (fun h64 => hK _ _ (.inr ⟨rfl, fun h => by have := h.2.1; omega⟩) (Ext.rfl' _)) (fun h64 => ?_)
  refine up1 (fun k w' => Ext w w' ∧ (∀ x ∈ l.take k, pairOk 1 x) ∧ ∀ (j : Nat) x y, l[j]? = some x → l[j + 1]? = some y → j + 1 < k → cmpS x.Key y.Key < 0) 0 l.length rfl (by omega) hle ⟨Ext.rfl' _, by simp, fun j x y _ _ h => by omega⟩ ?_
  rintro k w1 C _ hk ⟨hx1, hall, hris⟩ hC
  refine ifD (fun hlt => ?_) (fun hge => ?_)
  · have hk1 : k < l.length := by omega
    have hg1 := List.getElem?_eq_getElem hk1
    refine st_rd (val := ApiPair.val) (by kernel_rfl) (by kernel_rfl) (hs.ext hx1) rfl hk1 (fun _ => rfl) fun _ => ?_
    refine new_of fun b6 w2 hn2 => wr_of fun w3 hw3 => ?_
    have hx13 : Ext w1 w3 := Below.wr (Ext.new hn2) (by have := hn2.1; omega) hw3
    have hx3 := hx1.trans' hx13
    refine heldM_of (fun w' => IsSl eApiPair w' s l) fun w4 hx4 => ⟨hs.ext (hx3.trans' hx4), ?_⟩
    have hx4' := hx3.trans' hx4
    have bad : ∀ {w' : World}, Ext w w' → ¬ pairOk 1 l[k] → K 3 w' := fun hx h => hK _ _ (.inr ⟨rfl, fun h' => h (h'.1 _ (List.getElem_mem hk1))⟩) hx
    have good : ∀ {w' : World}, Ext w w' → pairOk 1 l[k] → (∀ x, 0 < k → l[k - 1]? = some x → cmpS x.Key l[k].Key < 0) → C (i64 ((k : Int) + 1)) w' := fun hx h hr => hC hk1 _ _ rfl ⟨hx, all_up hk1 hall h, fun j x y hjx hjy hj => by
      by_cases hjk : j + 1 = k
      · have ej : j = k - 1 := by omega
        rw [hjk, hg1] at hjy
        cases hjy
        exact hr x (by omega) (by rw [← ej]; exact hjx)
      · exact hris j x y hjx hjy (by omega)⟩
    refine ifD (fun hpos => ?_) (fun hzero => ?_)
    · have hk0 : 0 < k := by omega
      have hk2 : k - 1 < l.length := by omega
      have hg2 := List.getElem?_eq_getElem hk2
      have e1 : i64 ((k : Int) - 1) = ((k - 1 : Nat) : Int) := by rw [i64_id] <;> omega
      rw [e1]
      refine fldH (E := eApiPair) (y := l[k - 1].Key) (by kernel_rfl) (by kernel_rfl) (fun w' h => h) rfl hk2 rfl fun _ => ?_
      refine ifB_of (fun hbad => hK _ _ (.inr ⟨rfl, fun h => ?_⟩) hx4') (fun hris1 => ?_)
      · have := Up.steps h.2.2 hg2 (by rw [show k - 1 + 1 = k by omega]; exact hg1)
        rw [strLe_neg.2 this] at hbad
        cases hbad
      · have hr : ∀ x, 0 < k → l[k - 1]? = some x → cmpS x.Key l[k].Key < 0 := fun x _ hx => by
          rw [hg2] at hx
          cases hx
          exact strLe_neg.1 hris1
        refine runes_Key_calls (runes_Key_spec (ht.ext hx4') fun w5 hx5 => kp_ext hx5 ⟨hs.ext (hx4'.trans' hx5), ?_⟩)
        have hx5' := hx4'.trans' hx5
        refine ifNot (ifB_of (fun hkey => ?_) (fun hkey => bad hx5' fun h => by rw [h.1] at hkey; cases hkey))
        refine runes_Val_calls (runes_Val_spec (ht.ext hx5') fun w6 hx6 => kp_ext hx6 ⟨hs.ext (hx5'.trans' hx6), ?_⟩)
        have hx6' := hx5'.trans' hx6
        refine ifNot (ifB_of (fun hval => ?_) (fun hval => bad hx6' fun h => by rw [h.2.1] at hval; cases hval))
        exact ifNe (fun h => bad hx6' fun h' => h (h'.2.2.1 rfl)) (fun h => good hx6' ⟨hkey, hval, fun _ => h, fun e => absurd e (by decide)⟩ hr)
    · have hr : ∀ x, 0 < k → l[k - 1]? = some x → cmpS x.Key l[k].Key < 0 := fun x h0 _ => by omega
      refine runes_Key_calls (runes_Key_spec (ht.ext hx4') fun w5 hx5 => kp_ext hx5 ⟨hs.ext (hx4'.trans' hx5), ?_⟩)
      have hx5' := hx4'.trans' hx5
      refine ifNot (ifB_of (fun hkey => ?_) (fun hkey => bad hx5' fun h => by rw [h.1] at hkey; cases hkey))
      refine runes_Val_calls (runes_Val_spec (ht.ext hx5') fun w6 hx6 => kp_ext hx6 ⟨hs.ext (hx5'.trans' hx6), ?_⟩)
      have hx6' := hx5'.trans' hx6
      refine ifNot (ifB_of (fun hval => ?_) (fun hval => bad hx6' fun h => by rw [h.2.1] at hval; cases hval))
      exact ifNe (fun h => bad hx6' fun h' => h (h'.2.2.1 rfl)) (fun h => good hx6' ⟨hkey, hval, fun _ => h, fun e => absurd e (by decide)⟩ hr)
  · refine hK _ _ (.inl ⟨rfl, all_done (by omega) hall, by omega, up_of_steps ordS fun j x y hx hy => hris j x y hx hy ?_⟩) hx1
    have := (List.getElem?_eq_some_iff.1 hy).1
    omega
end Go.Chg
/-
  The law of what package 'kvtwo' checks.
-/
set_option maxRecDepth 20000
set_option linter.unusedVariables false
namespace Go.Chg
open Go.Vc
def badRev (p : ApiPair) : Bool := decide (p.Rev < 1) || decide (p.Rev > 4294967296)
theorem kvtwo_Check_1_spec {p : ApiPair} {K : Bool → World → Prop} {w : World} (hK : ∀ w', Ext w w' → K (badRev p) w') : kvtwo_Check_1 p K w := by
  unfold kvtwo_Check_1
  refine new_of fun b1 w1 hn1 => ?_
  have := hK w1 (Ext.new hn1)
  unfold badRev at this
  refine ifD (fun h => ?_) (fun h => ?_)
  · rw [decide_eq_true h, Bool.true_or] at this; exact this
  · rw [decide_eq_false h, Bool.false_or] at this; exact this
theorem index_rev_spec {s : Sl} {l : List ApiPair} {K : Int → World → Prop} {w : World} (hs : IsSl eApiPair w s l) (hK : ∀ i w', (decide (i ≥ 0) = true ↔ ∃ x ∈ l, badRev x = true) → Ext w w' → K i w') : slices_IndexFunc_api_Pair_api_Pair_Check s K w := by
  unfold slices_IndexFunc_api_Pair_api_Pair_Check
  have hl := hs.len
  have hle := hs.le
  refine up1 (fun k w' => Ext w w' ∧ ∀ x ∈ l.take k, badRev x = false) 0 l.length rfl (by omega) hle ⟨Ext.rfl' _, by simp⟩ ?_
  rintro k w1 C _ hk ⟨hx1, hall⟩ hC
  refine ifD (fun hlt => ?_) (fun hge => hK _ _ ⟨fun h => absurd h (by decide), fun ⟨x, hx, hb⟩ => by rw [all_done (by omega) hall x hx] at hb; cases hb⟩ hx1)
  have hk1 : k < l.length := by omega
  refine st_rd (val := ApiPair.val) (by kernel_rfl) (by kernel_rfl) (hs.ext hx1) rfl hk1 (fun _ => rfl) fun _ => ?_
  refine kvtwo_Check_1_calls (p := l[k]) (kvtwo_Check_1_spec fun w2 hx2 => ?_)
  refine ifB_of (fun hb => hK _ _ ⟨fun _ => ⟨l[k], List.getElem_mem hk1, hb⟩, fun _ => by simp⟩ (hx1.trans' hx2)) (fun hb => hC hk1 _ _ rfl ⟨hx1.trans' hx2, all_up hk1 hall hb⟩)
theorem pairs_bare {l : List ApiPair} (h : ∀ x ∈ l, badRev x = false) : PairsOk 1 (l.map bare) ↔ PairsOk 2 l := by
  have key : ∀ x ∈ l, pairOk 1 (bare x) ↔ pairOk 2 x := fun x hx => by
    have hb := h x hx
    unfold badRev at hb
    simp at hb
    exact ⟨fun ⟨h1, h2, _, _⟩ => ⟨h1, h2, fun e => absurd e (by decide), fun _ => by omega⟩, fun ⟨h1, h2, _, _⟩ => ⟨h1, h2, fun _ => rfl, fun e => absurd e (by decide)⟩⟩
  constructor
  · rintro ⟨h1, h2, h3⟩
    exact ⟨fun x hx => (key x hx).1 (h1 _ (List.mem_map.2 ⟨x, hx, rfl⟩)), by rw [List.length_map] at h2; exact h2, List.pairwise_map.1 h3⟩
  · rintro ⟨h1, h2, h3⟩
    refine ⟨fun y hy => ?_, by rw [List.length_map]; exact h2, List.pairwise_map.2 h3⟩
    obtain ⟨x, hx, rfl⟩ := List.mem_map.1 hy
    exact (key x hx).2 (h1 x hx)
theorem kvtwo_Check_spec {s : Sl} {l : List ApiPair} {K : Int → World → Prop} {w : World} (ht : Utf8T w) (hs : IsSl eApiPair w s l) (hle : l.length ≤ 100000)
    (hK : ∀ b w', (b = 0 ∧ PairsOk 2 l ∨ b = 3 ∧ ¬ PairsOk 2 l) → Ext w w' → K b w') : kvtwo_Check s K w := by
  unfold kvtwo_Check
  refine slices_ContainsFunc_api_Pair_api_Pair_calls ?_
  unfold slices_ContainsFunc_api_Pair_api_Pair
  refine slices_IndexFunc_api_Pair_api_Pair_Check_calls (index_rev_spec hs fun i w1 hi hx1 => ?_)
  refine ifB_of (fun hc => hK _ _ (.inr ⟨rfl, fun h => ?_⟩) hx1) (fun hc => ?_)
  · obtain ⟨x, hx, hb⟩ := hi.1 hc
    have := (h.1 x hx).2.2.2 rfl
    unfold badRev at hb
    simp at hb
    omega
  · have hno : ∀ x ∈ l, badRev x = false := fun x hx => by
      cases hb : badRev x
      · rfl
      · rw [hi.2 ⟨x, hx, hb⟩] at hc; cases hc
    refine kvtwo_Plain_calls (kvtwo_Plain_spec (hs.ext hx1) hle fun s2 w2 ho2 hx2 => ?_)
    have hx2' := hx1.trans' hx2
    refine kvone_Check_calls (kvone_Check_spec (ht.ext hx2') ho2.is fun b w3 hb hx3 => hK _ _ ?_ (hx2'.trans' hx3))
    rw [pairs_bare hno] at hb
    exact hb
end Go.Chg
/-
  What packages 'sess' and 'changeoverref22' do.
-/
set_option maxRecDepth 20000
set_option linter.unusedVariables false
namespace Go.Chg
open Go.Vc

abbrev SUp (l : List ApiSession) : Prop := Up cmpI (·.Client) l
def sessOf (l : List ApiSession) (n : Int) : Option ApiSession := getC cmpI (·.Client) l n
def noAnswer : ApiAnswer := ⟨0, 0, 0, false, [], 0⟩
def SessSmall (l : List ApiSession) : Prop := l.length ≤ 40 ∧ ∀ x ∈ l, x.Last.Val.length ≤ 200
theorem cmpI_nonneg {x y : Int} : 0 ≤ cmpI x y ↔ y ≤ x := by
  have := @cmpI_neg x y
  omega
theorem cmpI_ne {x y : Int} : cmpI x y ≠ 0 ↔ x ≠ y := by rw [Ne, cmpI_zero]

/-! ### The document's answers -/
theorem ref22_Rise_spec {s : Sl} {l : List ApiSession} {K : Bool → World → Prop} {w : World} (hs : IsSl eApiSession w s l) (hK : ∀ b w', (b = true ↔ SUp l) → Ext w w' → K b w') : ref22_Rise s K w := by
  unfold ref22_Rise
  have hl := hs.len
  have hle := hs.le
  by_cases h0 : l.length = 0
  · have : l = [] := List.length_eq_zero_iff.1 h0
    subst this
    refine up1 (fun k w' => w = w') 1 1 rfl (by omega) (by omega) rfl ?_
    rintro k _ C _ hk rfl hC
    exact ifD (fun h => by omega) (fun _ => hK _ _ ⟨fun _ => List.Pairwise.nil, fun _ => rfl⟩ (Ext.rfl' _))
  refine up1 (fun k w' => Ext w w' ∧ ∀ (j : Nat) x y, l[j]? = some x → l[j + 1]? = some y → j + 1 < k → cmpI x.Client y.Client < 0) 1 l.length rfl (by omega) hle ⟨Ext.rfl' _, fun j x y _ _ h => by omega⟩ ?_
  rintro k w1 C hk0 hk ⟨hx, hall⟩ hC
  refine ifD (fun hlt => ?_) (fun hge => hK _ _ ⟨fun _ => up_of_steps ordI fun j x y hx hy => hall j x y hx hy ?_, fun _ => rfl⟩ hx)
  · have hk1 : k < l.length := by omega
    have hk2 : k - 1 < l.length := by omega
    refine drew_of fun w2 hx2 => ?_
    have hx3 := hx.trans' hx2
    refine fld_rd (y := l[k].Client) (by kernel_rfl) (by kernel_rfl) (hs.ext hx3) rfl hk1 rfl fun _ => ?_
    have e1 : i64 ((k : Int) - 1) = ((k - 1 : Nat) : Int) := by rw [i64_id] <;> omega
    rw [e1]
    refine fld_rd (y := l[k - 1].Client) (by kernel_rfl) (by kernel_rfl) (hs.ext hx3) rfl hk2 rfl fun _ => ?_
    have hg1 := List.getElem?_eq_getElem hk1
    have hg2 := List.getElem?_eq_getElem hk2
    refine ifD (fun hle => hK _ _ ⟨fun h => (by cases h), fun hu => ?_⟩ hx3) (fun hgt => hC hk1 _ _ rfl ⟨hx3, fun j x y hx hy hj => ?_⟩)
    · have := Up.steps hu hg2 (by rw [show k - 1 + 1 = k by omega]; exact hg1)
      rw [cmpI_neg] at this
      omega
    · by_cases hjk : j + 1 = k
      · have ej : j = k - 1 := by omega
        subst ej
        rw [hg2] at hx
        rw [hjk, hg1] at hy
        cases hx
        cases hy
        rw [cmpI_neg]
        omega
      · exact hall j x y hx hy (by omega)
  · have := (List.getElem?_eq_some_iff.1 hy).1
    omega
theorem ref22_Same_spec {a b : Sl} {la lb : List ApiSession} {K : Bool → World → Prop} {w : World} (ha : IsSl eApiSession w a la) (hb : IsSl eApiSession w b lb) (hK : ∀ t w', (t = true ↔ la = lb) → Ext w w' → K t w') : ref22_Same a b K w := by
  unfold ref22_Same
  exact same_vc (E := eApiSession) (r := fun x y => (ApiSession.eqs x y).all id) (by kernel_rfl) (by kernel_rfl) (by kernel_rfl) (fun _ => rfl) (by kernel_rfl) (fun x y => ApiSession.eqv x y) (fun x y => ApiSession.eqs_iff) ha hb hK
def asSess (a : ApiAnswer) : ApiSession := ⟨a.Client, a.Seq, a⟩
def sessWith (l : List ApiSession) (a : ApiAnswer) : List ApiSession := insC (fun x => cmpI x.Client a.Client) l (asSess a)
/-! ### The program's -/
def whichOf (l : List ApiSession) (n q : Int) : Int × ApiAnswer :=
  match sessOf l n with
  | none => (0, noAnswer)
  | some x => if x.Seq < q then (0, noAnswer) else if q = x.Seq then (1, x.Last) else (2, noAnswer)
theorem own_blk {α : Type} {E : Enc α} {w : World} {B : Nat} {s : Sl} {l : List α} (h : OwnSl E w B s l) : ∀ b, s.blk = some b → b < w.heap.size := fun b hb => by
  rcases h.row with ⟨h0, _⟩ | ⟨g, cur, h1, _, h2, _⟩
  · subst h0; cases hb
  · simp [Sl.blk, h1] at hb; subst hb; exact h2.lt
theorem sessOf_with {l : List ApiSession} (hu : SUp l) (a : ApiAnswer) : sessOf (sessWith l a) a.Client = some (asSess a) := get_ins ordI hu (asSess a)
end Go.Chg
/-
  The law of what package 'sess' checks.
-/
set_option maxRecDepth 20000
set_option linter.unusedVariables false
namespace Go.Vc
open Go
variable {P : Program} {w : World} {α β : Type}
theorem fld2H {E : Enc α} {S : World → Prop} {t u : TypeId} {s : Sl} {l : List α} {i : Int} {k o1 o2 : Nat} {val : β → Value} {y : β} {K : Addr → β → Prop} (ht : slOf P t = some E.sz) (hu : oneT P u = true) (hS : ∀ w', S w' → IsSl E w' s l) (hi : i = (k : Int)) (hk : k < l.length)
    (hv : (E.cs l[k])[o1 + o2]? = some (val y)) (hK : ∀ a, K a y) : opH P S (Instr.indexAt t s.val (.int .i64 i)) pav (fun a => opH P S (Instr.loadAt u (.pointer (some ((a.add o1).add o2)))) val (K a)) :=
  ⟨s.at k E.sz, fun w' hw => (ix_eq ht (hS w' hw) hi hk).1, y, fun w' hw => by
    have h := (ix_eq (P := P) ht (hS w' hw) hi hk).2
    exact run_ld hu (by rw [addr_add2 _ h.spot, addr_off _ h.spot]; exact h.cells (o1 + o2) _ hv), hK _⟩
end Go.Vc
namespace Go.Chg
open Go.Vc
def answerOk (a : ApiAnswer) : Prop := (1 ≤ a.Client ∧ a.Client ≤ 8) ∧ (1 ≤ a.Seq ∧ a.Seq ≤ 4294967296) ∧ (0 ≤ a.Err ∧ a.Err ≤ 17) ∧ (0 ≤ a.Rev ∧ a.Rev ≤ 4294967296) ∧ valOk a.Val = true
theorem ref09_Check_spec {a : ApiAnswer} {K : Int → World → Prop} {w : World} (hK : ∀ b w', (b = 0 ↔ answerOk a) → Ext w w' → K b w') : ref09_Check a K w := by
  unfold ref09_Check
  refine new_of fun b1 w1 hn1 => ?_
  have hx1 := Ext.new hn1
  have no : ∀ {n : Int}, n ≠ 0 → ¬ answerOk a → K n w1 := fun hn h => hK _ _ ⟨fun e => absurd e hn, fun h' => absurd h' h⟩ hx1
  refine ifD (fun h => no (by decide) fun h' => by have := h'.1.1; omega) (fun h1 => ?_)
  refine ifD (fun h => no (by decide) fun h' => by have := h'.1.2; omega) (fun h2 => ?_)
  refine ifD (fun h => no (by decide) fun h' => by have := h'.2.1.1; omega) (fun h3 => ?_)
  refine ifD (fun h => no (by decide) fun h' => by have := h'.2.1.2; omega) (fun h4 => ?_)
  refine ifD (fun h => no (by decide) fun h' => by have := h'.2.2.1.1; omega) (fun h5 => ?_)
  refine ifD (fun h => no (by decide) fun h' => by have := h'.2.2.1.2; omega) (fun h6 => ?_)
  refine ifD (fun h => no (by decide) fun h' => by have := h'.2.2.2.1.1; omega) (fun h7 => ?_)
  refine ifD (fun h => no (by decide) fun h' => by have := h'.2.2.2.1.2; omega) (fun h8 => ?_)
  refine ref05_Val_calls (ref05_Val_spec (kp_same ?_))
  refine ifNot (ifB_of (fun hv => hK _ _ ⟨fun _ => ⟨by omega, by omega, by omega, by omega, hv⟩, fun _ => rfl⟩ hx1) (fun hv => no (by decide) fun h' => by rw [h'.2.2.2.2] at hv; cases hv))
theorem answer_Check_1_spec {n a b : Int} {K : Bool → World → Prop} {w : World} (hK : K (decide (a ≤ n ∧ n ≤ b)) w) : answer_Check_1 n a b K w := by
  unfold answer_Check_1
  refine ifD (fun h => ?_) (fun h => ?_)
  · rw [show decide (a ≤ n ∧ n ≤ b) = decide (n ≤ b) from decide_eq_decide.2 ⟨fun h' => h'.2, fun h' => ⟨h, h'⟩⟩] at hK
    exact hK
  · rw [decide_eq_false (fun h' => h h'.1)] at hK
    exact hK
theorem answer_Check_spec {a : ApiAnswer} {K : Int → World → Prop} {w : World} (ht : Utf8T w) (hK : ∀ b w', (b = 0 ↔ answerOk a) → Ext w w' → K b w') : answer_Check a K w := by
  unfold answer_Check
  refine new_of fun b1 w1 hn1 => ?_
  have hx1 := Ext.new hn1
  have no : ∀ {n : Int}, n ≠ 0 → ¬ answerOk a → K n w1 := fun hn h => hK _ _ ⟨fun e => absurd e hn, fun h' => absurd h' h⟩ hx1
  refine answer_Check_1_calls (answer_Check_1_spec (kp_same ?_))
  refine ifD (fun h1 => ?_) (fun h1 => ifNot (ifB_f rfl (no (by decide) fun h' => h1 h'.1)))
  refine answer_Check_1_calls (answer_Check_1_spec (kp_same ?_))
  refine ifD (fun h2 => ?_) (fun h2 => ifNot (ifB_f rfl (no (by decide) fun h' => h2 h'.2.1)))
  refine answer_Check_1_calls (answer_Check_1_spec (kp_same ?_))
  refine ifD (fun h3 => ?_) (fun h3 => ifNot (ifB_f rfl (no (by decide) fun h' => h3 h'.2.2.1)))
  refine answer_Check_1_calls (answer_Check_1_spec (kp_same ?_))
  refine ifNot (ifD (fun h4 => ?_) (fun h4 => no (by decide) fun h' => h4 h'.2.2.2.1))
  refine runes_Val_calls (runes_Val_spec (ht.ext hx1) fun w2 hx2 => kp_ext hx2 ?_)
  have hx2' := hx1.trans' hx2
  refine ifNot (ifB_of (fun hv => hK _ _ ⟨fun _ => ⟨h1, h2, h3, h4, hv⟩, fun _ => rfl⟩ hx2') (fun hv => hK _ _ ⟨fun e => absurd e (by decide), fun h' => by rw [h'.2.2.2.2] at hv; cases hv⟩ hx2'))
def sessOk (x : ApiSession) : Prop := x.Last.Client = x.Client ∧ x.Last.Seq = x.Seq ∧ answerOk x.Last
def SessOk (l : List ApiSession) : Prop := (∀ x ∈ l, sessOk x) ∧ SUp l
theorem ref22_Check_spec {s : Sl} {l : List ApiSession} {K : Bool → World → Prop} {w : World} (hs : IsSl eApiSession w s l) (hK : ∀ b w', (b = true ↔ SessOk l) → Ext w w' → K b w') : ref22_Check s K w := by
  unfold ref22_Check
  have hl := hs.len
  have hle := hs.le
  refine up1 (fun k w' => Ext w w' ∧ ∀ x ∈ l.take k, sessOk x) 0 l.length rfl (by omega) hle ⟨Ext.rfl' _, by simp⟩ ?_
  rintro k w1 C _ hk ⟨hx1, hall⟩ hC
  refine ifD (fun hlt => ?_) (fun hge => ?_)
  · have hk1 : k < l.length := by omega
    refine heldM_of (fun w' => IsSl eApiSession w' s l) fun w2 hx2 => ⟨hs.ext (hx1.trans' hx2), ?_⟩
    have hx2' := hx1.trans' hx2
    have bad : ∀ {w' : World}, Ext w w' → ¬ sessOk l[k] → K false w' := fun hx h => hK _ _ ⟨fun e => (by cases e), fun h' => absurd (h'.1 _ (List.getElem_mem hk1)) h⟩ hx
    refine fld2H (E := eApiSession) (y := l[k].Last.Client) (by kernel_rfl) (by kernel_rfl) (fun w' h => h) rfl hk1 rfl fun _ => ?_
    refine fldH (E := eApiSession) (y := l[k].Client) (by kernel_rfl) (by kernel_rfl) (fun w' h => h) rfl hk1 rfl fun _ => ?_
    refine ifNe (fun h => bad hx2' fun h' => h h'.1) (fun h1 => ?_)
    refine fld2H (E := eApiSession) (y := l[k].Last.Seq) (by kernel_rfl) (by kernel_rfl) (fun w' h => h) rfl hk1 rfl fun _ => ?_
    refine fldH (E := eApiSession) (y := l[k].Seq) (by kernel_rfl) (by kernel_rfl) (fun w' h => h) rfl hk1 rfl fun _ => ?_
    refine ifNe (fun h => bad hx2' fun h' => h h'.2.1) (fun h2 => ?_)
    refine partH (E := eApiSession) (n := 6) (y := l[k].Last) (xs := l[k].Last.cs) (by kernel_rfl) (by kernel_rfl) (fun w' h => h) rfl hk1 rfl rfl (fun j v hv => ?_) fun _ => ?_
    · match j, hv with
      | 0, hv => exact hv
      | 1, hv => exact hv
      | 2, hv => exact hv
      | 3, hv => exact hv
      | 4, hv => exact hv
      | 5, hv => exact hv
      | (n + 6), hv => simp [ApiAnswer.cs] at hv
    refine ref09_Check_calls (a := l[k].Last) (ref09_Check_spec fun b w3 hb hx3 => ⟨hs.ext (hx2'.trans' hx3), ?_⟩)
    refine ifNe (fun h => bad (hx2'.trans' hx3) fun h' => h (hb.2 h'.2.2)) (fun h3 => hC hk1 _ _ rfl ⟨hx2'.trans' hx3, all_up hk1 hall ⟨h1, h2, hb.1 h3⟩⟩)
  · have hall' := all_done (by omega) hall
    refine ref22_Rise_calls (ref22_Rise_spec (hs.ext hx1) fun b w2 hb hx2 => hK _ _ (hb.trans ⟨fun h => ⟨hall', h⟩, fun h => h.2⟩) (hx1.trans' hx2))
theorem sess_Check_spec {s : Sl} {l : List ApiSession} {K : Int → World → Prop} {w : World} (ht : Utf8T w) (hs : IsSl eApiSession w s l) (hK : ∀ b w', (b = 0 ∧ SessOk l ∨ b = 3 ∧ ¬ SessOk l) → Ext w w' → K b w') : sess_Check s K w := by
  unfold sess_Check
  have hl := hs.len
  have hle := hs.le
  refine up1 (fun k w' => Ext w w' ∧ (∀ x ∈ l.take k, sessOk x) ∧ ∀ (j : Nat) x y, l[j]? = some x → l[j + 1]? = some y → j + 1 < k → cmpI x.Client y.Client < 0) 0 l.length rfl (by omega) hle ⟨Ext.rfl' _, by simp, fun j x y _ _ h => by omega⟩ ?_
  rintro k w1 C _ hk ⟨hx1, hall, hris⟩ hC
  refine ifD (fun hlt => ?_) (fun hge => ?_)
  · have hk1 : k < l.length := by omega
    have hg1 := List.getElem?_eq_getElem hk1
    refine st_rd (val := ApiSession.val) (by kernel_rfl) (by kernel_rfl) (hs.ext hx1) rfl hk1 (fun _ => rfl) fun _ => ?_
    refine new_of fun b6 w2 hn2 => wr_of fun w3 hw3 => ?_
    have hx13 : Ext w1 w3 := Below.wr (Ext.new hn2) (by have := hn2.1; omega) hw3
    have hx3 := hx1.trans' hx13
    have bad : ∀ {w' : World}, Ext w w' → ¬ sessOk l[k] → K 3 w' := fun hx h => hK _ _ (.inr ⟨rfl, fun h' => h (h'.1 _ (List.getElem_mem hk1))⟩) hx
    refine ⟨fun w' => Ext w3 w' ∧ ∀ x, 0 < k → l[k - 1]? = some x → cmpI x.Client l[k].Client < 0, ?_, ?_⟩
    · refine drew_of fun w4 hx4 => ifD (fun hpos => ?_) (fun hzero => ⟨hx4, fun x h0 _ => by omega⟩)
      have hk2 : k - 1 < l.length := by omega
      have hg2 := List.getElem?_eq_getElem hk2
      have e1 : i64 ((k : Int) - 1) = ((k - 1 : Nat) : Int) := by rw [i64_id] <;> omega
      rw [e1]
      refine fld_rd (E := eApiSession) (y := l[k - 1].Client) (by kernel_rfl) (by kernel_rfl) (hs.ext (hx3.trans' hx4)) rfl hk2 rfl fun _ => ?_
      refine ifD (fun hb => hK _ _ (.inr ⟨rfl, fun h => ?_⟩) (hx3.trans' hx4)) (fun hb => ⟨hx4, fun x _ hx => ?_⟩)
      · have := Up.steps h.2 hg2 (by rw [show k - 1 + 1 = k by omega]; exact hg1)
        rw [cmpI_neg] at this
        omega
      · rw [hg2] at hx
        cases hx
        rw [cmpI_neg]
        omega
    · rintro w4 ⟨hx4, hr⟩
      have hx4' := hx3.trans' hx4
      refine ifNe (fun h => bad hx4' fun h' => h h'.1) (fun h1 => ifNe (fun h => bad hx4' fun h' => h h'.2.1) (fun h2 => ?_))
      refine answer_Check_calls (a := l[k].Last) (answer_Check_spec (ht.ext hx4') fun b w5 hb hx5 => kp_ext hx5 ?_)
      have hx5' := hx4'.trans' hx5
      refine ifNe (fun h => bad hx5' fun h' => h (hb.2 h'.2.2)) (fun h3 => hC hk1 _ _ rfl ⟨hx5', all_up hk1 hall ⟨h1, h2, hb.1 h3⟩, fun j x y hjx hjy hj => ?_⟩)
      by_cases hjk : j + 1 = k
      · have ej : j = k - 1 := by omega
        rw [hjk, hg1] at hjy
        cases hjy
        exact hr x (by omega) (by rw [← ej]; exact hjx)
      · exact hris j x y hjx hjy (by omega)
  · refine hK _ _ (.inl ⟨rfl, all_done (by omega) hall, up_of_steps ordI fun j x y hx hy => hris j x y hx hy ?_⟩) hx1
    have := (List.getElem?_eq_some_iff.1 hy).1
    omega
end Go.Chg
