/-
  How what is handed in reads: as numbers, truth values, texts, structs, slices of them. Of whatever program.
-/
import Derived.Test.YtnnoalpkldpjfaaGreatDoorClose
namespace Go.Vc
open Go.ChangeShapes Go.WideShapes Go.ChangeAt Go.RowKit

/-- A relation of the cells that are read, and what they read as. -/
abbrev RQ := ∀ H : Type, World → List Value → DataW H → Prop
def RdQ (P : Program) (t : TypeId) (Q : RQ) : Prop :=
  ∀ (H : Type) (enc : TypeId × Value → H) (w : World) (base : Nat) (sp : Nat → Bool) (held : Bool) (fuel : Nat) (cells : List Value) (d : DataW H) (ps : List MemPlace),
    DataW.trod enc P w base sp held fuel t cells = some (d, ps) → Q H w cells d
theorem RdQ.mono {P : Program} {t : TypeId} {Q R : RQ} (h : RdQ P t Q) (hQ : ∀ H w cells d, Q H w cells d → R H w cells d) : RdQ P t R :=
  fun H enc w base sp held fuel cells d ps e => hQ _ _ _ _ (h H enc w base sp held fuel cells d ps e)

/-- What does not lead to memory. -/
def flatQ {α : Type} (cs : α → List Value) (data : ∀ H : Type, α → DataW H) (ok : α → Prop) : RQ := fun H _ cells d => ∃ x, cells = cs x ∧ d = data H x ∧ ok x
def litI (k : IntKind) (H : Type) (n : Int) : DataW H := .lit (.int k n)
def litB (H : Type) (b : Bool) : DataW H := .lit (.bool b)
def litS (H : Type) (s : List UInt8) : DataW H := .lit (.string s)
def wfI (k : IntKind) (n : Int) : Prop := (Lit.int k n).wf = true
def wfS (s : List UInt8) : Prop := s.length ≤ 9223372036854775807
def intT (P : Program) (k : IntKind) (t : TypeId) : Bool := match P.underlying t with | some (.int k') => decide (k' = k) | _ => false
def boolT (P : Program) (t : TypeId) : Bool := match P.underlying t with | some .bool => true | _ => false

theorem rd_int {P : Program} {t : TypeId} {k : IntKind} (ht : intT P k t = true) : RdQ P t (flatQ (fun n => [.int k n]) (litI k) (wfI k)) := by
  intro H enc w base sp held fuel cells d ps h
  unfold intT at ht
  split at ht
  case h_2 => cases ht
  case h_1 k' hk =>
    have := of_decide_eq_true ht
    subst this
    obtain ⟨n, h1, h2, h3⟩ := DataW.trod_int hk h
    simp only [Prod.mk.injEq] at h2
    exact ⟨n, h1, h2.1, h3⟩
theorem rd_bool {P : Program} {t : TypeId} (ht : boolT P t = true) : RdQ P t (flatQ (fun b => [.bool b]) litB (fun _ => True)) := by
  intro H enc w base sp held fuel cells d ps h
  unfold boolT at ht
  split at ht
  case h_2 => cases ht
  case h_1 hk =>
    obtain ⟨n, h1, h2⟩ := DataW.trod_bool hk h
    simp only [Prod.mk.injEq] at h2
    exact ⟨n, h1, h2.1, trivial⟩
theorem rd_text {P : Program} {t : TypeId} (ht : strT P t = true) : RdQ P t (flatQ (fun l => [sval l]) litS wfS) := by
  intro H enc w base sp held fuel cells d ps h
  obtain ⟨s, h1, h2, h3⟩ := DataW.trod_string (strT_spec ht) h
  simp only [Prod.mk.injEq] at h2
  refine ⟨s.data.toList, h1, h2.1, ?_⟩
  have e1 : s.data.toList.length = s.size := Array.length_toList
  simp only [maxLen] at h3
  unfold wfS
  omega

/-! ### Structs -/
def CatQ : List RQ → ∀ H : Type, World → List Value → List (DataW H) → Prop
  | [], _, _, cells, ds => cells = [] ∧ ds = []
  | Q :: Qs, H, w, cells, ds => ∃ a b d ds', cells = a ++ b ∧ ds = d :: ds' ∧ Q H w a d ∧ CatQ Qs H w b ds'
def AllRd (P : Program) : List (Nat × Nat × Nat) → List RQ → Prop
  | [], [] => True
  | q :: l, Q :: Qs => RdQ P q.1 Q ∧ AllRd P l Qs
  | _, _ => False
def consec : Nat → List (Nat × Nat × Nat) → Nat → Bool
  | o, [], e => Nat.beq o e
  | o, (_, o', n) :: l, e => Nat.beq o' o && consec (o + n) l e
def sameFs (P : Program) : List Field → List (Nat × Nat × Nat) → Bool
  | [], [] => true
  | f :: fs, (t, o, n) :: l => Nat.beq f.type t && Nat.beq f.offset o && Nat.beq (P.cellsOf f.type) n && sameFs P fs l
  | _, _ => false
def stT (P : Program) (t : TypeId) (l : List (Nat × Nat × Nat)) : Bool :=
  match P.underlying t with
  | some (.struct fs) => sameFs P fs.toList l && consec 0 l (P.cellsOf t)
  | _ => false

theorem sameFs_get {P : Program} : ∀ {fs : List Field} {l : List (Nat × Nat × Nat)}, sameFs P fs l = true → fs.length = l.length ∧ ∀ (i : Nat) q, l[i]? = some q → ∃ f, fs[i]? = some f ∧ f.type = q.1 ∧ f.offset = q.2.1 ∧ P.cellsOf f.type = q.2.2
  | [], [], _ => ⟨rfl, fun i q h => by simp at h⟩
  | f :: fs, (t, o, n) :: l, h => by
    simp only [sameFs, Bool.and_eq_true] at h
    obtain ⟨⟨⟨h1, h2⟩, h3⟩, h4⟩ := h
    obtain ⟨e, hg⟩ := sameFs_get h4
    refine ⟨by simp [e], fun i q hq => ?_⟩
    cases i with
    | zero =>
      simp only [List.getElem?_cons_zero, Option.some.injEq] at hq
      subst hq
      exact ⟨f, rfl, Nat.eq_of_beq_eq_true h1, Nat.eq_of_beq_eq_true h2, Nat.eq_of_beq_eq_true h3⟩
    | succ i => exact hg i q (by simpa using hq)
  | [], _ :: _, h => by cases h
  | _ :: _, [], h => by cases h

theorem cat_of {P : Program} {H : Type} {enc : TypeId × Value → H} {w : World} {base : Nat} {sp : Nat → Bool} {held : Bool} {n : Nat} {cells : List Value} {e : Nat} (he : cells.length = e) :
    ∀ (l : List (Nat × Nat × Nat)) (Qs : List RQ) (o : Nat) (xs : List (DataW H × List MemPlace)), consec o l e = true → xs.length = l.length →
      (∀ (i : Nat) q, l[i]? = some q → DataW.trod enc P w base sp held n q.1 ((cells.drop q.2.1).take q.2.2) = xs[i]?) → AllRd P l Qs → CatQ Qs H w (cells.drop o) (xs.map (·.1))
  | [], [], o, xs, hc, hx, _, _ => by
    have : o = e := Nat.eq_of_beq_eq_true hc
    have hxs : xs = [] := List.length_eq_zero_iff.1 hx
    subst this hxs
    exact ⟨List.drop_of_length_le (by omega), rfl⟩
  | (t, o', m) :: l, Q :: Qs, o, xs, hc, hx, hg, ha => by
    simp only [consec, Bool.and_eq_true] at hc
    have ho : o' = o := Nat.eq_of_beq_eq_true hc.1
    subst ho
    cases xs with
    | nil => simp at hx
    | cons y ys =>
      have h0 := hg 0 _ rfl
      simp only [List.getElem?_cons_zero] at h0
      refine ⟨(cells.drop o').take m, cells.drop (o' + m), y.1, ys.map (·.1), ?_, rfl, ha.1 H enc w base sp held n _ y.1 y.2 h0, ?_⟩
      · rw [← List.drop_drop, List.take_append_drop]
      · exact cat_of he l Qs (o' + m) ys hc.2 (by simpa using hx) (fun i q hq => by simpa using hg (i + 1) q (by simpa using hq)) ha.2
  | [], _ :: _, _, _, _, _, _, ha => ha.elim
  | _ :: _, [], _, _, _, _, _, ha => ha.elim

theorem rd_struct {P : Program} {t : TypeId} (l : List (Nat × Nat × Nat)) {Qs : List RQ} (ht : stT P t l = true) (ha : AllRd P l Qs) : RdQ P t fun H w cells d => ∃ ds, d = .agg ds ∧ CatQ Qs H w cells ds := by
  intro H enc w base sp held fuel cells d ps h
  unfold stT at ht
  split at ht
  case h_2 => cases ht
  case h_1 fs hfs =>
    simp only [Bool.and_eq_true] at ht
    obtain ⟨hl, hg⟩ := sameFs_get ht.1
    obtain ⟨xs, n, rfl, hx, hlen, hxl, hf⟩ := DataW.trod_struct hfs h
    simp only [Prod.mk.injEq] at hx
    refine ⟨_, hx.1, ?_⟩
    have := cat_of (enc := enc) (base := base) (sp := sp) (held := held) (n := n) (w := w) hlen l Qs 0 xs ht.2 (by rw [hxl, ← hl]; simp) (fun i q hq => by
      obtain ⟨f, h1, h2, h3, h4⟩ := hg i q hq
      rw [← h2, ← h3, ← h4]
      exact hf i f (by simpa using h1)) ha
    simpa using this

/-! ### Slices -/
def slQ {α : Type} (E : Enc α) (data : ∀ H : Type, α → DataW H) (ok : α → Prop) : RQ := fun H w cells d =>
  ∃ s l, cells = [Sl.val s] ∧ IsSl E w s l ∧ (∀ x ∈ l, ok x) ∧ ((s = Sl.nil ∧ l = [] ∧ d = .nil) ∨ ∃ spare, d = .slice (l.map (data H)) spare)
def slcT (P : Program) (t e n : Nat) : Bool := match P.underlying t with | some (.slice e') => Nat.beq e' e && Nat.beq (P.cellsOf e) n | _ => false
theorem slcT_spec {P : Program} {t e n : Nat} (h : slcT P t e n = true) : P.underlying t = some (.slice e) ∧ P.cellsOf e = n := by
  unfold slcT at h
  split at h
  case h_2 => cases h
  case h_1 e' he =>
    simp only [Bool.and_eq_true] at h
    rw [← Nat.eq_of_beq_eq_true h.1]
    exact ⟨he, by rw [Nat.eq_of_beq_eq_true h.1]; exact Nat.eq_of_beq_eq_true h.2⟩

theorem pick {α β : Type} {R : Nat → β → α → Prop} : ∀ (ys : List β), (∀ (i : Nat) y, ys[i]? = some y → ∃ x, R i y x) → ∃ l : List α, l.length = ys.length ∧ ∀ (i : Nat) y x, ys[i]? = some y → l[i]? = some x → R i y x := by
  intro ys
  induction ys generalizing R with
  | nil => intro _; exact ⟨[], rfl, fun i y x h => by simp at h⟩
  | cons y ys ih =>
    intro h
    obtain ⟨x, hx⟩ := h 0 y rfl
    obtain ⟨l, hl, hg⟩ := ih (R := fun i => R (i + 1)) fun i z hz => h (i + 1) z (by simpa using hz)
    refine ⟨x :: l, by simp [hl], fun i z u hz hu => ?_⟩
    cases i with
    | zero => simp at hz hu; subst hz hu; exact hx
    | succ i => exact hg i z u (by simpa using hz) (by simpa using hu)

theorem rd_slice {P : Program} {t e : TypeId} {α : Type} {E : Enc α} {data : ∀ H : Type, α → DataW H} {ok : α → Prop} (ht : slcT P t e E.sz = true) (he : RdQ P e (flatQ E.cs data ok)) : RdQ P t (slQ E data ok) := by
  intro H enc w base sp held fuel cells d ps h
  obtain ⟨hu, hz⟩ := slcT_spec ht
  rcases DataW.trod_slice hu h with ⟨h1, h2⟩ | ⟨a, len, cap, elems, rest, n, rfl, h1, h2, hb, hlc, hcm, hel, hg, _, _⟩
  · simp only [Prod.mk.injEq] at h2
    exact ⟨Sl.nil, [], h1, .nilSl _ _, by simp, .inl ⟨rfl, rfl, h2.1⟩⟩
  · simp only [Prod.mk.injEq] at h2
    rw [hz] at hg
    obtain ⟨l, hll, hl⟩ := pick (R := fun i (y : DataW H × List MemPlace) (x : α) => y.1 = data H x ∧ ok x ∧ w.cells? base (a.add (i * E.sz)) E.sz = some (E.cs x)) elems fun i y hy => by
      have hlt : i < len := by rw [← hel]; exact (List.getElem?_eq_some_iff.1 hy).1
      have := hg i hlt
      rw [hy] at this
      cases hc : w.cells? base (a.add (i * E.sz)) E.sz with
      | none => rw [hc] at this; cases this
      | some cs =>
        rw [hc] at this
        obtain ⟨x, hx1, hx2, hx3⟩ := he H enc w base sp held n cs y.1 y.2 this
        exact ⟨x, hx2, hx3, by rw [hx1]⟩
    have hlen : l.length = len := by omega
    have hat : ∀ (i : Nat) (hi : i < l.length), w.cells? base (a.add (i * E.sz)) E.sz = some (E.cs l[i]) ∧ ok l[i] ∧ (elems[i]'(by omega)).1 = data H l[i] := fun i hi => by
      obtain ⟨h1, h2, h3⟩ := hl i (elems[i]'(by omega)) l[i] (by simp) (by simp)
      exact ⟨h3, h2, h1⟩
    refine ⟨⟨some a, len, cap⟩, l, h1, ⟨hlen.symm, hlc, hcm, ?_, fun e => by cases e⟩, ?_, .inr ⟨rest.map (·.1), ?_⟩⟩
    · by_cases h0 : l = []
      · exact .inl h0
      · have hpos : 0 < l.length := List.length_pos_iff.2 h0
        obtain ⟨hc0, _, _⟩ := hat 0 hpos
        have hs := World.cells?_some hc0
        have hp := E.pos
        have hcell := hs.2.2 0 hp
        have hspot : a.spot = none := by
          have hl0 : 0 < (E.cs l[0]).length := by rw [E.len]; exact hp
          rw [List.getElem?_eq_getElem hl0] at hcell
          have := World.cell?_spot hcell
          simpa [Addr.add] using this
        have hblk : a.block < w.heap.size := by
          have := World.cells?_block hc0 hp
          rw [addr_off a hspot] at this
          exact this
        refine .inr ⟨a.block, a.off, by rw [← addr_eta a hspot], hblk, fun j v hj => ?_⟩
        have hjl : j < l.length * E.sz := by
          have := (List.getElem?_eq_some_iff.1 hj).1
          rwa [E.length_flat] at this
        have hi : j / E.sz < l.length := (Nat.div_lt_iff_lt_mul hp).2 hjl
        have hm : j % E.sz < E.sz := Nat.mod_lt _ hp
        have ej : j / E.sz * E.sz + j % E.sz = j := by rw [Nat.mul_comm]; exact Nat.div_add_mod _ _
        have hcs := (World.cells?_some (hat _ hi).1).2.2 _ hm
        rw [← ej, E.flat_get l _ _ hi hm] at hj
        rw [hj, addr_off a hspot, addr_add] at hcs
        rw [← ej, ← Nat.add_assoc]
        exact hcs
    · intro x hx
      obtain ⟨i, hi, rfl⟩ := List.getElem_of_mem hx
      exact (hat i hi).2.1
    · rw [h2.1]
      congr 1
      apply List.ext_getElem
      · simp; omega
      · intro i h1 h2
        simp only [List.getElem_map]
        exact (hat i (by simpa using h2)).2.2

/-! ### What is handed in -/
variable {P : Program} {H : Type} {enc : TypeId × Value → H} {W : World} {base b0 : Nat} {sp : Nat → Bool} {held : Bool} {r : Reach} {t : TypeId} {v : Value} {d : DataW H} {ps : List MemPlace}
theorem open_list {α : Type} {E : Enc α} {e : TypeId} {data : ∀ H : Type, α → DataW H} {ok : α → Prop} (ht : slcT P t e E.sz = true) (he : RdQ P e (flatQ E.cs data ok)) (hval : Value.okWide P W r b0 t v) (hd : DataW.Trod enc P W base sp held t v d ps) :
    ∃ s l, v = Sl.val s ∧ IsSl E W s l ∧ (∀ x ∈ l, ok x) ∧ ((s = Sl.nil ∧ l = [] ∧ d = .nil) ∨ ∃ spare, d = .slice (l.map (data H)) spare) := by
  obtain ⟨hu, _⟩ := slcT_spec ht
  obtain ⟨a, len, cap, rfl⟩ := okWide_slice hu hval
  obtain ⟨fuel, hf⟩ := hd
  obtain ⟨s, l, h1, h2⟩ := rd_slice ht he H enc W base sp held fuel _ d ps hf
  simp [Value.cells] at h1
  exact ⟨s, l, h1, h2⟩

theorem rd_u8 {P : Program} {t : TypeId} (ht : intT P .u8 t = true) : RdQ P t (flatQ eB.cs (fun _ b => .lit (.int .u8 (b.toNat : Int))) (fun _ => True)) :=
  (rd_int ht).mono fun H w cells d ⟨n, h1, h2, h3⟩ => by
    have hx : 0 ≤ n ∧ n ≤ 255 := by simpa [wfI, Lit.wf, IntKind.min, IntKind.max, IntKind.signed, IntKind.bits] using h3
    have e : ((UInt8.ofNat n.toNat).toNat : Int) = n := by simp [UInt8.toNat_ofNat']; omega
    refine ⟨UInt8.ofNat n.toNat, ?_, ?_, trivial⟩
    · rw [h1]; simp only [eB]; rw [e]
    · rw [h2]; simp only [litI]; rw [e]
/-- A struct that was handed in. -/
theorem open_flat {α : Type} {cs : α → List Value} {data : ∀ H : Type, α → DataW H} {ok : α → Prop} (ht : (match P.underlying t with | some (.struct _) => true | _ => false) = true) (he : RdQ P t (flatQ cs data ok)) (hval : Value.okWide P W r b0 t v) (hd : DataW.Trod enc P W base sp held t v d ps) :
    ∃ x, v = .agg ⟨cs x⟩ ∧ d = data H x ∧ ok x := by
  split at ht
  case h_2 => cases ht
  case h_1 fs hfs =>
    obtain ⟨fuel, hf⟩ := hd
    obtain ⟨x, h1, h2, h3⟩ := he H enc W base sp held fuel _ d ps hf
    refine ⟨x, ?_, h2, h3⟩
    have hv : ∃ a, v = .agg a := by
      simp only [Value.okWide, hfs] at hval
      cases v <;> simp_all
    obtain ⟨a, rfl⟩ := hv
    simp only [Value.cells] at h1
    rw [← h1]
/-- A struct that was handed in, and may lead to memory. -/
theorem open_deep {Q : RQ} (ht : (match P.underlying t with | some (.struct _) => true | _ => false) = true) (he : RdQ P t Q) (hval : Value.okWide P W r b0 t v) (hd : DataW.Trod enc P W base sp held t v d ps) :
    ∃ cells, v = .agg ⟨cells⟩ ∧ Q H W cells d := by
  split at ht
  case h_2 => cases ht
  case h_1 fs hfs =>
    obtain ⟨fuel, hf⟩ := hd
    have hq := he H enc W base sp held fuel _ d ps hf
    have hv : ∃ a, v = .agg a := by
      simp only [Value.okWide, hfs] at hval
      cases v <;> simp_all
    obtain ⟨a, rfl⟩ := hv
    exact ⟨a.toList, rfl, hq⟩
end Go.Vc
