/-
  The document's answer for lines, and the law of chapter 42 about them.
-/
import Derived.Test.YtnnoalpkldpjfaaGreatDoorSpScr3
set_option maxRecDepth 20000
set_option linter.unusedVariables false
namespace Go.Chg
open Go.Vc
open Go.RowKit (Below)
variable {w : World} {s l line : List UInt8} {e x : ApiEvent} {n : Int} {c : ApiCmd}
/-! ### Letters -/
def evLets : List (List UInt8) := [[], [110, 105], [110, 105, 109], [105], [105], [105], [110], [110], [110], [110, 99], [110, 105], [110, 97]]
def lEv (n : Int) : List UInt8 := if 1 ≤ n ∧ n ≤ 11 then evLets.getD n.toNat [] else []
theorem lEv_bits (n : Int) : (lEv n).contains 110 = kNd n ∧ (lEv n).contains 105 = kNn n ∧ (lEv n).contains 109 = kMm n ∧ (lEv n).contains 99 = kCl n ∧ (lEv n).contains 97 = kAd n ∧ (lEv n).length ≤ 3 ∧ (lEv n = [] ↔ ¬ (1 ≤ n ∧ n ≤ 11)) := by
  by_cases h : 1 ≤ n ∧ n ≤ 11
  · obtain ⟨m, rfl⟩ := Int.eq_ofNat_of_zero_le (show 0 ≤ n by omega)
    have key : ∀ m : Fin 12, 1 ≤ m.val → (evLets.getD m.val []).contains 110 = kNd (m.val : Int) ∧ (evLets.getD m.val []).contains 105 = kNn (m.val : Int) ∧ (evLets.getD m.val []).contains 109 = kMm (m.val : Int) ∧ (evLets.getD m.val []).contains 99 = kCl (m.val : Int) ∧
        (evLets.getD m.val []).contains 97 = kAd (m.val : Int) ∧ (evLets.getD m.val []).length ≤ 3 ∧ evLets.getD m.val [] ≠ [] := by decide +kernel
    obtain ⟨a, b, c, d, f, g, i⟩ := key ⟨m, by omega⟩ (by show 1 ≤ m; omega)
    unfold lEv
    rw [if_pos h, Int.toNat_natCast]
    exact ⟨a, b, c, d, f, g, fun h' => absurd h' i, fun h' => absurd h h'⟩
  · have e0 : lEv n = [] := if_neg h
    have a : kNd n = false := by unfold kNd; simp; omega
    have b : kNn n = false := by unfold kNn; simp; omega
    have c : kMm n = false := by unfold kMm; simp; omega
    have d : kCl n = false := by unfold kCl; simp; omega
    have f : kAd n = false := by unfold kAd; simp; omega
    rw [e0, a, b, c, d, f]
    exact ⟨rfl, rfl, rfl, rfl, rfl, Nat.zero_le _, fun _ => h, fun _ => rfl⟩
/-! ### The line, part by part -/
theorem join_sp (x : List UInt8) : ∀ ys : List (List UInt8), joinL [32] (x :: ys) = x ++ ys.flatMap sp
  | [] => by simp [joinL]
  | y :: ys => by rw [joinL_cons, join_sp y ys]; simp [sp]
def spIf (b : Bool) (x : List UInt8) : List UInt8 := if b = true then sp x else []
theorem spIf_num (b : Bool) (n : Int) : (numW b n).flatMap sp = spIf b (digits 10 n.toNat) := by
  unfold numW spIf
  cases b <;> simp
def callT (c : ApiCmd) : List UInt8 := sp (kname c.Kind) ++ sp (digits 10 c.Client.toNat) ++ sp (quote c.Key) ++ spIf (kOld c.Kind) (quote c.Old) ++ spIf (kVal c.Kind) (quote c.Val)
theorem calW_sp (h : kOwn c.Kind = true) : (calW c).flatMap sp = callT c := by
  have hn : kNode c.Kind = false := by
    unfold kOwn at h
    unfold kNode
    simp at h ⊢
    omega
  unfold calW callT spIf
  simp only [wordsT, need, seq1, wordI, numI, txtI, h, hn]
  cases kOld c.Kind <;> cases kVal c.Kind <;> simp
theorem lineE_parts (h : EvOk e) : lineE e = (kEv e.Kind).name ++ spIf (kNd e.Kind) (digits 10 e.Node.toNat) ++ spIf (kNn e.Kind) (digits 10 e.N.toNat) ++ spIf (kMm e.Kind) (digits 10 e.M.toNat) ++ spIf (kAd e.Kind) (textC e.Cmd) ++
    (if kCl e.Kind = true then callT e.Cmd else []) := by
  obtain ⟨hin, g1, g2, g3, g4⟩ := h
  have dis : kCl e.Kind = true → kAd e.Kind = false := fun h => by
    unfold kCl at h
    unfold kAd
    simp at h ⊢
    omega
  unfold cOk at g4
  unfold lineE wordsE numsW cmdW
  rw [join_sp]
  simp only [List.flatMap_append, spIf_num]
  by_cases hc : kCl e.Kind = true
  · rw [if_pos hc] at g4
    rw [if_pos hc, if_pos hc, calW_sp g4.2.1, dis hc]
    simp [spIf]
  · rw [if_neg hc, if_neg hc]
    by_cases ha : kAd e.Kind = true
    · rw [if_pos ha, ha]
      have : (wordsT e.Cmd 6).flatMap sp = sp (textC e.Cmd) := by
        obtain ⟨t, ht⟩ := wordsT_pre e.Cmd 0 6
        rw [Nat.zero_add, wordsT] at ht
        unfold textC
        rw [ht, List.singleton_append, join_sp]
        simp [sp]
      rw [this]
      simp [spIf]
    · have ha : kAd e.Kind = false := by simpa using ha
      rw [ha]
      simp [spIf]
theorem spIf_len (b : Bool) (x : List UInt8) : (spIf b x).length ≤ x.length + 1 := by
  unfold spIf sp
  cases b <;> simp
theorem kEv_len (n : Int) : (kEv n).name.length ≤ 10 := by
  by_cases h : 1 ≤ n ∧ n ≤ 11
  · obtain ⟨m, rfl⟩ := Int.eq_ofNat_of_zero_le (show 0 ≤ n by omega)
    have key : ∀ m : Fin 12, (evAt m.val).name.length ≤ 10 := by decide +kernel
    rw [kEv_in (by omega) (by omega)]
    exact key ⟨m, by omega⟩
  · rw [kEv_out h]
    exact Nat.zero_le _
theorem nOk_b {b : Bool} {m lo hi : Int} (h : nOk b m lo hi) (h1 : 0 ≤ lo) (h2 : hi ≤ 4294967296) : 0 ≤ m ∧ m ≤ 4294967296 := by
  unfold nOk at h
  split at h <;> omega
def verbs6 : List (List UInt8) := [[], [], [112, 117, 116], [103, 101, 116], [100, 101, 108], [99, 97, 115]]
/-! ### The law -/
def exEv : ApiEvent := ⟨2, 3, 0, 7, zCmd⟩
theorem exEv_ok : EvOk exEv := ⟨by decide, by unfold nOk; decide, by unfold nOk; decide, by unfold nOk; decide, by unfold cOk; rw [if_neg (by decide), if_neg (by decide)]; rfl⟩
theorem exEv_line : lineE exEv = [99, 114, 97, 115, 104, 32, 51, 32, 48, 32, 55] := by
  have d1 : digits 10 3 = [51] := by decide +kernel
  have d2 : digits 10 0 = [48] := by decide +kernel
  have d3 : digits 10 7 = [55] := by decide +kernel
  rw [lineE_parts exEv_ok]
  show [99, 114, 97, 115, 104] ++ sp (digits 10 3) ++ sp (digits 10 0) ++ sp (digits 10 7) ++ [] ++ [] = _
  rw [d1, d2, d3]
  rfl
theorem law42_awake_spec {K : Bool → World → Prop} (hU : Utf8T w) (hc : ConvT w) (hE : ErrT w) (hK : ∀ w', Ext w w' → K true w') : law42_awake K w := by
  unfold law42_awake
  refine script_Parse_calls (script_Parse_spec hU hc hE (by decide) fun r w2 hr hx => ?_)
  have hr : r.1 = exEv ∧ r.2 = 0 := by
    rcases hr with ⟨_, _, h⟩ | ⟨h0, _, _, h⟩
    · exact absurd exEv_line (h _ exEv_ok)
    · exact ⟨h _ exEv_ok exEv_line, h0⟩
  rw [hr.1]
  refine new_x hx fun b3 w4 hb3 _ hx _ => wr_x hx hb3 fun w5 hx _ => ?_
  refine ifEq (fun _ => ?_) (fun h => absurd hr.2 h)
  refine ifEq (fun _ => ?_) (fun h => absurd rfl h)
  refine ifEq (fun _ => ?_) (fun h => absurd rfl h)
  refine script_Print_calls (e := exEv) (script_Print_spec (hU.ext hx) (hc.ext hx) fun t w7 ht hx' => kp_ext hx' ?_)
  rcases ht with ⟨_, rfl⟩ | ⟨h, _⟩
  · rw [exEv_line, strEq_eq]
    exact hK _ (hx.trans' hx')
  · exact absurd exEv_ok h
theorem lineE_len (h : EvOk e) : (lineE e).length ≤ 3000 := by
  rw [lineE_parts h]
  obtain ⟨hin, g1, g2, g3, g4⟩ := h
  have dl : ∀ {m lo hi : Int} {b : Bool}, nOk b m lo hi → 0 ≤ lo → hi ≤ 4294967296 → (spIf b (digits 10 m.toNat)).length ≤ 101 := fun {m lo hi b} h h1 h2 => by
    have := spIf_len b (digits 10 m.toNat)
    have h3 := nOk_b h h1 h2
    have := digits_len (n := m.toNat) (by omega)
    omega
  have l1 := dl g1 (by decide) (by decide)
  have l2 := dl g2 (by decide) (by decide)
  have l3 := dl g3 (by decide) (by decide)
  have l0 := kEv_len e.Kind
  have la : (spIf (kAd e.Kind) (textC e.Cmd)).length + (if kCl e.Kind = true then callT e.Cmd else []).length ≤ 2002 := by
    unfold cOk at g4
    by_cases hc : kCl e.Kind = true
    · have ha : kAd e.Kind = false := by
        unfold kCl at hc
        unfold kAd
        simp at hc ⊢
        omega
      rw [if_pos hc] at g4 ⊢
      obtain ⟨_, ho, okc⟩ := g4
      obtain ⟨⟨a1, a2⟩, _, _, d, f, g⟩ := cmdOk_num okc
      have q : ∀ {x : List UInt8}, x.length ≤ 48 → (quote x).length ≤ 200 := fun {x} h => by
        have := quoteL_len x
        have := quote_len x
        omega
      have qk := q (x := e.Cmd.Key) (by show (seq1 e.Cmd).Key.length ≤ 48; omega)
      have qo := q (x := e.Cmd.Old) g
      have qv := q (x := e.Cmd.Val) f
      have dc := digits_len (n := e.Cmd.Client.toNat) (by have : (seq1 e.Cmd).Client = e.Cmd.Client := rfl; omega)
      have kn := kname_len e.Cmd.Kind
      have s1 := spIf_len (kOld e.Cmd.Kind) (quote e.Cmd.Old)
      have s2 := spIf_len (kVal e.Cmd.Kind) (quote e.Cmd.Val)
      have s3 : (spIf (kAd e.Kind) (textC e.Cmd)).length = 0 := by rw [ha]; rfl
      rw [s3]
      unfold callT sp
      simp only [List.length_append, List.length_cons]
      omega
    · rw [if_neg hc] at g4 ⊢
      by_cases ha : kAd e.Kind = true
      · rw [if_pos ha] at g4
        have := textC_len g4.2
        have := spIf_len (kAd e.Kind) (textC e.Cmd)
        simp only [List.length_nil]
        omega
      · have ha : kAd e.Kind = false := by simpa using ha
        rw [ha]
        simp [spIf]
  simp only [List.length_append]
  omega
end Go.Chg
