import Derived.Test.YthofeajlmgecmaaGreatDoorMZ
import Derived.Test.YthofeajlmgecmaaGreatDoorMA
import Derived.Test.YthofeajlmgecmaaGreatDoorSpCmdL
import Derived.Test.YthofeajlmgecmaaGreatDoorSpRef08B
/-
  What package 'ballot' and 'changeoverref10' do with ballots, but for their texts.
-/
set_option maxRecDepth 20000
set_option linter.unusedVariables false
namespace Go.Chg
open Go.Vc
def zBallot : ApiBallot := ⟨0, 0⟩
def NodeOk (n : Int) : Prop := 1 ≤ n ∧ n ≤ 9
def BMay (b : ApiBallot) : Prop := b = zBallot ∨ (1 ≤ b.Round ∧ b.Round ≤ 4294967296 ∧ NodeOk b.Node)
def BLess (a b : ApiBallot) : Prop := a.Round < b.Round ∨ a.Round = b.Round ∧ a.Node < b.Node
instance (a b : ApiBallot) : Decidable (BLess a b) := inferInstanceAs (Decidable (a.Round < b.Round ∨ a.Round = b.Round ∧ a.Node < b.Node))
theorem bal_eq {a b : ApiBallot} : a = b ↔ a.Round = b.Round ∧ a.Node = b.Node := by cases a; cases b; simp
theorem BMay.num {b : ApiBallot} (h : BMay b) : (0 ≤ b.Round ∧ b.Round ≤ 4294967296) ∧ (0 ≤ b.Node ∧ b.Node ≤ 9) := by
  rcases h with h | ⟨h1, h2, h3, h4⟩
  · subst h; exact ⟨by decide, by decide⟩
  · exact ⟨by omega, by omega⟩
variable {w : World}
theorem ballot_node_spec {n : Int} {K : Bool → World → Prop} (hK : ∀ t, (t = true ↔ NodeOk n) → K t w) : ballot_node n K w := by
  unfold ballot_node
  refine ifD (fun h => hK _ ?_) (fun h => hK _ ⟨fun h => (by cases h), fun h' => by have := h'.1; omega⟩)
  rw [decide_eq_true_iff]
  exact ⟨fun h' => ⟨h, h'⟩, fun h' => h'.2⟩
theorem ref10_May_spec {b : ApiBallot} {K : Bool → World → Prop} (hK : ∀ t w', (t = true ↔ BMay b) → Ext w w' → K t w') : ref10_May b K w := by
  unfold ref10_May
  refine new_x (Ext.rfl' w) fun b1 w2 _ _ hx _ => ?_
  refine ⟨fun w' => w' = w2 ∧ b ≠ zBallot, ?_, ?_⟩
  · refine ifEq (fun h1 => ifEq (fun h2 => hK _ _ ⟨fun _ => .inl (bal_eq.2 ⟨h1, h2⟩), fun _ => rfl⟩ hx) (fun h2 => ⟨rfl, fun h => h2 (by rw [h]; rfl)⟩)) (fun h1 => ⟨rfl, fun h => h1 (by rw [h]; rfl)⟩)
  rintro _ ⟨rfl, hne⟩
  have no : ∀ {p : Prop}, ¬ p → (BMay b → p) → (false = true ↔ BMay b) := fun h1 h2 => ⟨fun h => (by cases h), fun h => absurd (h2 h) h1⟩
  have of : BMay b → 1 ≤ b.Round ∧ b.Round ≤ 4294967296 ∧ NodeOk b.Node := fun h => by rcases h with h | h; exact absurd h hne; exact h
  refine ifD (fun h1 => ?_) (fun h1 => hK _ _ (no h1 fun h => by have := of h; omega) hx)
  refine ifD (fun h2 => ?_) (fun h2 => hK _ _ (no h2 fun h => (of h).2.1) hx)
  refine ifD (fun h3 => ?_) (fun h3 => hK _ _ (no h3 fun h => (of h).2.2.1) hx)
  refine hK _ _ ?_ hx
  rw [decide_eq_true_iff]
  exact ⟨fun h4 => .inr ⟨h1, h2, h3, h4⟩, fun h => (of h).2.2.2⟩
theorem ballot_May_spec {b : ApiBallot} {K : Bool → World → Prop} (hK : ∀ t w', (t = true ↔ BMay b) → Ext w w' → K t w') : ballot_May b K w := by
  unfold ballot_May
  refine new_x (Ext.rfl' w) fun b1 w2 _ _ hx _ => ?_
  refine eqSt (by kernel_rfl) (ApiBallot.eqv b zBallot) ?_
  refine ifB_of (fun h => hK _ _ ⟨fun _ => .inl (ApiBallot.eqs_iff.1 h), fun _ => rfl⟩ hx) (fun h => ?_)
  have hne : b ≠ zBallot := fun e => by rw [ApiBallot.eqs_iff.2 e] at h; cases h
  have no : ∀ {p : Prop}, ¬ p → (BMay b → p) → (false = true ↔ BMay b) := fun h1 h2 => ⟨fun h => (by cases h), fun h => absurd (h2 h) h1⟩
  have of : BMay b → 1 ≤ b.Round ∧ b.Round ≤ 4294967296 ∧ NodeOk b.Node := fun h => by rcases h with h | h; exact absurd h hne; exact h
  refine ifD (fun h1 => ?_) (fun h1 => hK _ _ (no h1 fun h => by have := of h; omega) hx)
  refine ifD (fun h2 => ?_) (fun h2 => hK _ _ (no h2 fun h => (of h).2.1) hx)
  refine ballot_node_calls (ballot_node_spec fun t ht => kp_same (hK _ _ ?_ hx))
  exact ht.trans ⟨fun h => .inr ⟨h1, h2, h⟩, fun h => (of h).2.2⟩
/-! ### The next one -/
def nextR (b : ApiBallot) (n : Int) : Int := if b.Round = 0 then 1 else if n ≤ b.Node then b.Round + 1 else b.Round
/-- What is told of the next ballot. -/
def NextOf (b : ApiBallot) (n : Int) : ApiBallot → Int → Prop := fun x e =>
  e = 0 ∧ x = ⟨nextR b n, n⟩ ∧ BMay b ∧ NodeOk n ∧ nextR b n ≤ 4294967296 ∨ e = 6 ∧ x = zBallot ∧ ¬ (BMay b ∧ NodeOk n ∧ nextR b n ≤ 4294967296)
/-! ### The greatest -/
def MaxOf (l : List ApiBallot) (m : ApiBallot) : Prop := (l = [] → m = zBallot) ∧ (l ≠ [] → m ∈ l) ∧ ∀ x ∈ l, ¬ BLess m x
end Go.Chg
/-
  Entries as bytes, both ways; what is wrong with entries: plain Lean.
-/
set_option maxRecDepth 20000
set_option linter.unusedVariables false
namespace Go.Chg
open Go.Vc
variable {l : List UInt8} {v p q no : Int}
def entB (v : Int) (x : ApiEntry) : List UInt8 := enc x.Index.toNat ++ enc x.Ballot.Round.toNat ++ enc x.Ballot.Node.toNat ++ cmdB v x.Cmd
def entsB (v : Int) (xs : List ApiEntry) : List UInt8 := enc xs.length ++ xs.flatMap (entB v)
def rdN (l : List UInt8) (p no : Int) : Int × Int × Int := rdNumber l 9223372036854775807 p no
def rdEnt (l : List UInt8) (v p no : Int) : ApiEntry × Int × Int :=
  let a := rdN l p no
  let b := rdN l a.2.1 a.2.2
  let c := rdN l b.2.1 b.2.2
  let d := rdCmd l v c.2.1 c.2.2
  (⟨a.1, ⟨b.1, c.1⟩, d.1⟩, d.2)
def rdEnts (l : List UInt8) (v p no : Int) : List ApiEntry × Int × Int :=
  let n := rdCount l 256 p no
  rdList (rdEnt l v) n.2.1 n.2.2 n.1.toNat
theorem rdN_inv (h : (rdN l p no).2.2 = 0) : no = 0 ∧ 0 ≤ (rdN l p no).1 ∧ Took l p (rdN l p no).2.1 (enc (rdN l p no).1.toNat) := by
  obtain ⟨h0, m, h1, _, _, h2⟩ := rdNumber_inv h
  refine ⟨h0, by unfold rdN; omega, ?_⟩
  unfold rdN
  rw [h1, Int.toNat_natCast]
  exact h2
theorem rdN_took {n : Int} (h : Took l p q (enc n.toNat)) (h0 : 0 ≤ n) (hm : n ≤ 9223372036854775807) : rdN l p 0 = (n, q, 0) := by
  have := rdNumber_took (most := 9223372036854775807) h (by omega) (by omega)
  rw [Int.toNat_of_nonneg h0] at this
  exact this
/-- What a version's bytes of a command have not, is none. -/
def CmdZ (v : Int) (c : ApiCmd) : Prop := 0 ≤ c.Kind ∧ ∀ i, i < 6 → wantI v c.Kind i = false → isZ c i
theorem rdEnt_inv (h : (rdEnt l v p no).2.2 = 0) : no = 0 ∧ Took l p (rdEnt l v p no).2.1 (entB v (rdEnt l v p no).1) ∧ CmdZ v (rdEnt l v p no).1.Cmd := by
  unfold rdEnt at h ⊢
  dsimp only at h ⊢
  generalize ha : rdN l p no = a at h ⊢
  generalize hb : rdN l a.2.1 a.2.2 = b at h ⊢
  generalize hc : rdN l b.2.1 b.2.2 = c at h ⊢
  obtain ⟨d0, d1, d2, d3⟩ := rdCmd_inv h
  subst hc
  obtain ⟨c0, _, c1⟩ := rdN_inv d0
  subst hb
  obtain ⟨b0, _, b1⟩ := rdN_inv c0
  subst ha
  obtain ⟨a0, _, a1⟩ := rdN_inv b0
  exact ⟨a0, ((a1.trans b1).trans c1).trans d1, d2, d3⟩
/-- Numbers that bytes can have. -/
def NumFit (n : Int) : Prop := 0 ≤ n ∧ n ≤ 9223372036854775807
def EntFit (v : Int) (x : ApiEntry) : Prop := NumFit x.Index ∧ NumFit x.Ballot.Round ∧ NumFit x.Ballot.Node ∧ CmdFit v x.Cmd ∧ ∀ i, i < 6 → wantI v x.Cmd.Kind i = false → isZ x.Cmd i
theorem rdEnt_took {x : ApiEntry} (h : Took l p q (entB v x)) (hf : EntFit v x) : rdEnt l v p 0 = (x, q, 0) := by
  obtain ⟨⟨f1, f1'⟩, ⟨f2, f2'⟩, ⟨f3, f3'⟩, f4, f5⟩ := hf
  unfold entB at h
  obtain ⟨h, h4⟩ := h.split
  obtain ⟨h, h3⟩ := h.split
  obtain ⟨h1, h2⟩ := h.split
  unfold rdEnt
  dsimp only
  rw [rdN_took h1 f1 f1']
  dsimp only
  rw [rdN_took h2 f2 f2']
  dsimp only
  rw [rdN_took h3 f3 f3']
  dsimp only
  rw [rdCmd_took f4 f5 h4]
theorem rdEnts_inv (h : (rdEnts l v p no).2.2 = 0) : no = 0 ∧ Took l p (rdEnts l v p no).2.1 (entsB v (rdEnts l v p no).1) ∧ (rdEnts l v p no).1.length ≤ 256 ∧ ∀ x ∈ (rdEnts l v p no).1, CmdZ v x.Cmd := by
  unfold rdEnts at h ⊢
  dsimp only at h ⊢
  generalize hn : rdCount l 256 p no = n at h ⊢
  have n0 : n.2.2 = 0 := Classical.byContradiction fun hb => rdList_bad (fun p no hno h => hno (rdEnt_inv h).1) hb n.1.toNat h
  subst hn
  obtain ⟨no0, j, j1, j2, j3, j4, j5⟩ := rdCount_inv n0
  have hj := j4.nonneg
  have hj1 := j4.len
  obtain ⟨_, t1, t2⟩ := rdList_inv (B := entB v) (Q := fun x => CmdZ v x.Cmd) (fun p no h => rdEnt_inv h) (by omega) j4.le _ h
  refine ⟨no0, ?_, ?_, t2⟩
  · unfold entsB
    rw [rdList_len, j1, Int.toNat_natCast]
    rw [j1, Int.toNat_natCast] at t1
    exact j4.trans t1
  · rw [rdList_len, j1, Int.toNat_natCast]; omega
theorem entB_pos (x : ApiEntry) : 1 ≤ (entB v x).length := by
  unfold entB
  have := enc_pos x.Index.toNat
  simp only [List.length_append]
  omega
theorem flat_len1 {α : Type} {B : α → List UInt8} (h : ∀ x, 1 ≤ (B x).length) : ∀ (xs : List α), xs.length ≤ (xs.flatMap B).length
  | [] => Nat.le_refl _
  | x :: xs => by
    have := flat_len1 h xs
    have := h x
    simp only [List.flatMap_cons, List.length_append, List.length_cons]
    omega
theorem rdEnts_took {xs : List ApiEntry} (h : Took l p q (entsB v xs)) (hf : ∀ x ∈ xs, EntFit v x) (hm : xs.length ≤ 256) : rdEnts l v p 0 = (xs, q, 0) := by
  unfold entsB at h
  obtain ⟨t1, t2⟩ := h.split
  have f2 := flat_len1 (entB_pos (v := v)) xs
  have z2 := t2.len
  have y2 := t2.le
  unfold rdEnts
  dsimp only
  rw [rdCount_took (most := 256) t1 (by omega) (by omega) (by omega)]
  dsimp only
  rw [Int.toNat_natCast]
  have e2 := rdList_took (l := l) (one := rdEnt l v) (B := entB v) (xs := xs) (fun x hx p q h => rdEnt_took h (hf x hx)) xs.length _ (Nat.le_refl _) (by rw [List.take_length]; exact t2)
  rw [List.take_length] at e2
  rw [e2]
theorem entB_len {x : ApiEntry} (hf : NumFit x.Index ∧ NumFit x.Ballot.Round ∧ NumFit x.Ballot.Node) (hn : CmdNum x.Cmd) (hs : CmdShort x.Cmd) : (entB v x).length ≤ 10000027 := by
  obtain ⟨⟨f1, f1'⟩, ⟨f2, f2'⟩, ⟨f3, f3'⟩⟩ := hf
  unfold entB
  have := cmdT_len (v := v) hn hs 6
  have e1 := enc_len9 f1'
  have e2 := enc_len9 f2'
  have e3 := enc_len9 f3'
  simp only [List.length_append]
  unfold cmdB
  omega

/-! ### What is wrong with entries -/
noncomputable def cmdE (c : ApiCmd) : Int := open Classical in if ¬ kOk c.Kind then 5 else if ¬ cRng c then 6 else if ¬ cTxt c then 7 else if ¬ cFrm c then 3 else 0
theorem cmdE_err (c : ApiCmd) : CmdErr c (cmdE c) := by
  unfold cmdE CmdErr
  by_cases h1 : kOk c.Kind
  · by_cases h2 : cRng c
    · by_cases h3 : cTxt c
      · by_cases h4 : cFrm c
        · rw [if_neg (not_not_intro h1), if_neg (not_not_intro h2), if_neg (not_not_intro h3), if_neg (not_not_intro h4)]
          exact .inr (.inr (.inr (.inr ⟨rfl, h1, h2, h3, h4⟩)))
        · rw [if_neg (not_not_intro h1), if_neg (not_not_intro h2), if_neg (not_not_intro h3), if_pos h4]
          exact .inr (.inr (.inr (.inl ⟨rfl, h1, h2, h3, h4⟩)))
      · rw [if_neg (not_not_intro h1), if_neg (not_not_intro h2), if_pos h3]
        exact .inr (.inr (.inl ⟨rfl, h1, h2, h3⟩))
    · rw [if_neg (not_not_intro h1), if_pos h2]
      exact .inr (.inl ⟨rfl, h1, h2⟩)
  · rw [if_pos h1]
    exact .inl ⟨rfl, h1⟩
theorem CmdErr.eq {c : ApiCmd} {e : Int} (h : CmdErr c e) : e = cmdE c := h.uniq (cmdE_err c)
theorem cmdE_ok {c : ApiCmd} : cmdE c = 0 ↔ CmdOk c := (cmdE_err c).ok
def EIdx (x : ApiEntry) : Prop := (1 ≤ x.Index ∧ x.Index ≤ 4294967296) ∧ BMay x.Ballot
noncomputable def oneE (x : ApiEntry) : Int := open Classical in if EIdx x then cmdE x.Cmd else 6
theorem oneE_no {x : ApiEntry} (h : ¬ EIdx x) : oneE x = 6 := by unfold oneE; rw [if_neg h]
theorem oneE_yes {x : ApiEntry} (h : EIdx x) : oneE x = cmdE x.Cmd := by unfold oneE; rw [if_pos h]
theorem oneE_ok {x : ApiEntry} : oneE x = 0 ↔ EIdx x ∧ CmdOk x.Cmd := by
  by_cases h : EIdx x
  · rw [oneE_yes h, cmdE_ok]; exact ⟨fun k => ⟨h, k⟩, fun k => k.2⟩
  · rw [oneE_no h]; exact ⟨fun k => absurd k (by decide), fun k => absurd k.1 h⟩
noncomputable def entsEF : List ApiEntry → Int → Int
  | [], _ => 0
  | x :: r, prev => if oneE x ≠ 0 then oneE x else if x.Index ≤ prev then 12 else entsEF r x.Index
noncomputable def entsE (xs : List ApiEntry) : Int := entsEF xs 0
def prevOf (xs : List ApiEntry) : Nat → Int
  | 0 => 0
  | k + 1 => match xs[k]? with | some x => x.Index | none => 0
theorem entsEF_drop {xs : List ApiEntry} {k : Nat} (hk : k < xs.length) (prev : Int) : entsEF (xs.drop k) prev = if oneE xs[k] ≠ 0 then oneE xs[k] else if xs[k].Index ≤ prev then 12 else entsEF (xs.drop (k + 1)) (prevOf xs (k + 1)) := by
  rw [List.drop_eq_getElem_cons hk]
  simp only [entsEF, prevOf, List.getElem?_eq_getElem hk]
theorem entsEF_ok : ∀ {xs : List ApiEntry} {prev : Int}, entsEF xs prev = 0 → (∀ x ∈ xs, EIdx x ∧ CmdOk x.Cmd) ∧ xs.Pairwise (fun a b => a.Index < b.Index) ∧ ∀ x ∈ xs, prev < x.Index
  | [], _, _ => ⟨by simp, .nil, by simp⟩
  | x :: r, prev, h => by
    simp only [entsEF] at h
    by_cases h1 : oneE x = 0
    · rw [if_neg (by omega)] at h
      by_cases h2 : x.Index ≤ prev
      · rw [if_pos h2] at h; cases h
      rw [if_neg h2] at h
      obtain ⟨i1, i2, i3⟩ := entsEF_ok h
      refine ⟨fun y hy => ?_, List.pairwise_cons.2 ⟨fun y hy => i3 y hy, i2⟩, fun y hy => ?_⟩
      · rcases List.mem_cons.1 hy with rfl | hy
        · exact oneE_ok.1 h1
        · exact i1 y hy
      · rcases List.mem_cons.1 hy with rfl | hy
        · omega
        · have := i3 y hy; omega
    · rw [if_pos h1] at h; exact absurd h h1
theorem entsE_ok {xs : List ApiEntry} (h : entsE xs = 0) : ∀ x ∈ xs, EIdx x ∧ CmdOk x.Cmd := (entsEF_ok h).1
theorem entOk_fit {x : ApiEntry} (h : EIdx x ∧ CmdOk x.Cmd) {v : Int} (hv : v = 1 → x.Cmd.Kind ≠ 5) : EntFit v x := by
  obtain ⟨⟨h1, h2⟩, h3⟩ := h
  have := h2.num
  exact ⟨⟨by omega, by omega⟩, ⟨by omega, by omega⟩, ⟨by omega, by omega⟩, cmdOk_fit h3 v, fun i hi hw => cmdOk_z h3 hv i hi hw⟩
end Go.Chg
/-
  Packages 'entry' and 'changeoverref12': what is wrong with entries, and their bytes.
-/
set_option maxRecDepth 20000
set_option linter.unusedVariables false
namespace Go.Chg
open Go.Vc
variable {w : World} {l : List UInt8} {v p q no : Int} {s : Sl} {xs ys : List ApiEntry}
theorem ent_bal (x : ApiEntry) : ∀ (j : Nat) v, x.Ballot.cs[j]? = some v → (eApiEntry.cs x)[1 + j]? = some v := fun j v hv => by
  match j, hv with
  | 0, hv => exact hv
  | 1, hv => exact hv
  | n + 2, hv => cases hv
theorem ent_cmd (x : ApiEntry) : ∀ (j : Nat) v, x.Cmd.cs[j]? = some v → (eApiEntry.cs x)[3 + j]? = some v := fun j v hv => by rw [Nat.add_comm]; exact hv

/-! ### Questions -/
theorem ref12_Same_spec {a b : Sl} {K : Bool → World → Prop} (ha : IsSl eApiEntry w a xs) (hb : IsSl eApiEntry w b ys) (hK : ∀ t w', (t = true ↔ xs = ys) → Ext w w' → K t w') : ref12_Same a b K w := by
  unfold ref12_Same
  have la := ha.len
  have lb := hb.len
  refine ifNe (fun h => hK _ _ ⟨fun e => (by cases e), fun e => absurd (by rw [la, lb, e]) h⟩ (Ext.rfl' _)) (fun h => ?_)
  have hle : xs.length = ys.length := by omega
  refine up1 (fun k w' => Ext w w' ∧ xs.take k = ys.take k) 0 xs.length rfl (by omega) (by have := ha.le; omega) ⟨Ext.rfl' _, rfl⟩ ?_
  rintro k w3 C _ hk ⟨hx, hq⟩ hC
  refine ifD (fun hlt => ?_) (fun hge => ?_)
  · have hk1 : k < xs.length := by omega
    have hk2 : k < ys.length := by omega
    refine drew_of fun w4 hx' => ?_
    have hx := hx.trans' hx'
    refine st_rd (E := eApiEntry) (val := ApiEntry.val) (by kernel_rfl) (by kernel_rfl) (ha.ext hx) rfl hk1 (fun _ => rfl) fun _ => ?_
    refine st_rd (E := eApiEntry) (val := ApiEntry.val) (by kernel_rfl) (by kernel_rfl) (hb.ext hx) rfl hk2 (fun _ => rfl) fun _ => ?_
    refine neSt (by kernel_rfl) (ApiEntry.eqv xs[k] ys[k]) (ifNot (ifB_of (fun h => hC hk1 _ _ rfl ⟨hx, ?_⟩) (fun h => hK _ _ ⟨fun e => (by cases e), fun e => ?_⟩ hx)))
    · rw [take_up hk1, take_up hk2, hq, ApiEntry.eqs_iff.1 h]
    · subst e
      rw [ApiEntry.eqs_iff.2 rfl] at h
      cases h
  · rw [take_done (by omega), take_done (by omega)] at hq
    exact hK _ _ ⟨fun _ => hq, fun _ => rfl⟩ hx
def EntSmall (x : ApiEntry) : Prop := x.Cmd.Key.length ≤ 200 ∧ x.Cmd.Val.length ≤ 200 ∧ x.Cmd.Old.length ≤ 200
theorem ref12_Large_spec {K : Bool → World → Prop} (h : IsSl eApiEntry w s xs) (hK : ∀ t, (t = false → xs.length ≤ 40 ∧ ∀ x ∈ xs, EntSmall x) → K t w) : ref12_Large s K w := by
  unfold ref12_Large
  have hl := h.len
  refine up1 (fun k w' => w = w' ∧ ∀ x ∈ xs.take k, EntSmall x) 0 xs.length rfl (by omega) (by have := h.le; omega) ⟨rfl, by simp⟩ ?_
  rintro k _ C _ hk ⟨rfl, hq⟩ hC
  refine ifD (fun hlt => ?_) (fun hge => ?_)
  · have hk1 : k < xs.length := by omega
    refine ifD (fun h40 => ?_) (fun h40 => hK _ fun e => ?_)
    · have yes : ∀ {p : Prop}, p → K true w := fun _ => hK _ fun e => by cases e
      refine fld2_rd (y := xs[k].Cmd.Key) (o1 := 3) (o2 := 3) (by kernel_rfl) (by kernel_rfl) h rfl hk1 rfl fun _ => ?_
      refine ifD yes (fun h1 => ?_)
      refine fld2_rd (y := xs[k].Cmd.Val) (o1 := 3) (o2 := 4) (by kernel_rfl) (by kernel_rfl) h rfl hk1 rfl fun _ => ?_
      refine ifD yes (fun h2 => ?_)
      refine fld2_rd (y := xs[k].Cmd.Old) (o1 := 3) (o2 := 5) (by kernel_rfl) (by kernel_rfl) h rfl hk1 rfl fun _ => ?_
      refine ifD yes (fun h3 => hC hk1 _ _ rfl ⟨rfl, all_up hk1 hq ⟨by omega, by omega, by omega⟩⟩)
    · rw [decide_eq_false_iff_not] at e
      omega
  · refine hK _ fun e => ⟨?_, all_done (by omega) hq⟩
    rw [decide_eq_false_iff_not] at e
    omega
theorem ref12_Check_spec {K : Int → World → Prop} (h : IsSl eApiEntry w s xs) (hK : ∀ w', Ext w w' → K (entsE xs) w') : ref12_Check s K w := by
  unfold ref12_Check
  have hl := h.len
  refine up1 (fun k w' => Ext w w' ∧ entsE xs = entsEF (xs.drop k) (prevOf xs k)) 0 xs.length rfl (by omega) (by have := h.le; omega) ⟨Ext.rfl' _, rfl⟩ ?_
  rintro k w3 C _ hk ⟨hx, hq⟩ hC
  refine ifD (fun hlt => ?_) (fun hge => ?_)
  · have hk1 : k < xs.length := by omega
    rw [entsEF_drop hk1] at hq
    have b6 : ¬ EIdx xs[k] → ∀ {u : World}, Ext w u → K 6 u := fun hn u hx => by
      have := hK u hx
      rwa [hq, oneE_no hn, if_pos (by decide)] at this
    have h := h.ext hx
    refine fld_rd (y := xs[k].Index) (by kernel_rfl) (by kernel_rfl) h rfl hk1 rfl fun _ => ?_
    refine ifD (fun h1 => b6 (fun h' => by have := h'.1; omega) hx) (fun h1 => ?_)
    refine fld_rd (y := xs[k].Index) (by kernel_rfl) (by kernel_rfl) h rfl hk1 rfl fun _ => ?_
    refine ifD (fun h2 => b6 (fun h' => by have := h'.1; omega) hx) (fun h2 => ?_)
    refine part_rd (E := eApiEntry) (n := 2) (off := 1) (y := xs[k].Ballot) (val := ApiBallot.val) (xs := xs[k].Ballot.cs) (by kernel_rfl) (by kernel_rfl) h rfl hk1 rfl rfl (ent_bal _) fun _ => ?_
    refine ref10_May_calls (b := xs[k].Ballot) (ref10_May_spec fun t w11 ht hx' => ?_)
    have hx := hx.trans' hx'
    have h := h.ext hx'
    refine ifNot (ifB_of (fun hb => ?_) (fun hb => b6 (fun h' => by rw [ht.2 h'.2] at hb; cases hb) hx))
    have hidx : EIdx xs[k] := ⟨⟨by omega, by omega⟩, ht.1 hb⟩
    rw [oneE_yes hidx] at hq
    refine part_rd (E := eApiEntry) (n := 7) (off := 3) (y := xs[k].Cmd) (val := ApiCmd.val) (xs := xs[k].Cmd.cs) (by kernel_rfl) (by kernel_rfl) h rfl hk1 rfl rfl (ent_cmd _) fun _ => ?_
    refine ref08_Check_calls (c := xs[k].Cmd) (ref08_Check_spec fun e w15 he hx' => ?_)
    have hx := hx.trans' hx'
    have h := h.ext hx'
    have he := he.eq
    refine ifNe (fun h0 => ?_) (fun h0 => ?_)
    · have := hK _ hx
      rw [hq, if_pos (by rw [← he]; exact h0)] at this
      rw [he]; exact this
    rw [if_neg (by rw [← he]; omega)] at hq
    refine drew_of fun w16 hx' => ?_
    have hx := hx.trans' hx'
    have h := h.ext hx'
    refine ifD (fun hpos => ?_) (fun hpos => ?_)
    · have hk2 : k - 1 < xs.length := by omega
      have hp : prevOf xs k = xs[k - 1].Index := by
        obtain ⟨m, rfl⟩ : ∃ m, k = m + 1 := ⟨k - 1, by omega⟩
        simp only [prevOf, Nat.add_sub_cancel, List.getElem?_eq_getElem (show m < xs.length by omega)]
      rw [hp] at hq
      have e1 : i64 ((k : Int) - 1) = ((k - 1 : Nat) : Int) := by rw [i64_id] <;> have := h.le <;> omega
      refine fld_rd (y := xs[k].Index) (by kernel_rfl) (by kernel_rfl) h rfl hk1 rfl fun _ => ?_
      refine fld_rd (y := xs[k - 1].Index) (by kernel_rfl) (by kernel_rfl) h e1 hk2 rfl fun _ => ?_
      refine ifD (fun ho => ?_) (fun ho => hC hk1 _ _ rfl ⟨hx, by rw [hq, if_neg ho]⟩)
      have := hK _ hx
      rwa [hq, if_pos ho] at this
    · obtain rfl : k = 0 := by omega
      refine hC hk1 _ _ rfl ⟨hx, ?_⟩
      rw [hq]
      exact if_neg (show ¬ xs[0].Index ≤ 0 by have := hidx.1; omega)
  · rw [List.drop_of_length_le (by omega)] at hq
    have := hK _ hx
    rwa [hq] at this
theorem entry_one_spec {x : ApiEntry} {K : Int → World → Prop} (ht : Utf8T w) (hK : ∀ w', Ext w w' → K (oneE x) w') : entry_one x K w := by
  unfold entry_one
  refine new_x (Ext.rfl' w) fun b1 w2 _ _ hx _ => ?_
  have b6 : ¬ EIdx x → ∀ {u : World}, Ext w u → K 6 u := fun hn u hx => by
    have := hK u hx
    rwa [oneE_no hn] at this
  refine ifD (fun h1 => b6 (fun h' => by have := h'.1; omega) hx) (fun h1 => ?_)
  refine ifD (fun h2 => b6 (fun h' => by have := h'.1; omega) hx) (fun h2 => ?_)
  refine ballot_May_calls (b := x.Ballot) (ballot_May_spec fun t w4 hb hx' => kp_ext hx' ?_)
  have hx := hx.trans' hx'
  refine ifNot (ifB_of (fun h => ?_) (fun h => b6 (fun h' => by rw [hb.2 h'.2] at h; cases h) hx))
  have hidx : EIdx x := ⟨⟨by omega, by omega⟩, hb.1 h⟩
  refine cmd_Check_calls (c := x.Cmd) (cmd_Check_spec (ht.ext hx) fun e w6 he hx' => kp_ext hx' ?_)
  have := hK _ (hx.trans' hx')
  rw [oneE_yes hidx] at this
  rw [he.eq]
  exact this
theorem entry_Check_spec {K : Int → World → Prop} (ht : Utf8T w) (h : IsSl eApiEntry w s xs) (hK : ∀ w', Ext w w' → K (entsE xs) w') : entry_Check s K w := by
  unfold entry_Check
  have hl := h.len
  refine up1 (fun k w' => Ext w w' ∧ entsE xs = entsEF (xs.drop k) (prevOf xs k)) 0 xs.length rfl (by omega) (by have := h.le; omega) ⟨Ext.rfl' _, rfl⟩ ?_
  rintro k w3 C _ hk ⟨hx, hq⟩ hC
  refine ifD (fun hlt => ?_) (fun hge => ?_)
  · have hk1 : k < xs.length := by omega
    rw [entsEF_drop hk1] at hq
    refine st_rd (E := eApiEntry) (val := ApiEntry.val) (by kernel_rfl) (by kernel_rfl) (h.ext hx) rfl hk1 (fun _ => rfl) fun _ => ?_
    refine new_x hx fun b6 w7 hb6 _ hx _ => wr_x hx hb6 fun w8 hx _ => ?_
    refine entry_one_calls (e := xs[k]) (entry_one_spec (ht.ext hx) fun w10 hx' => kp_ext hx' ?_)
    have hx := hx.trans' hx'
    refine ifNe (fun h0 => ?_) (fun h0 => ?_)
    · have := hK _ hx
      rwa [hq, if_pos h0] at this
    rw [if_neg (by omega)] at hq
    refine drew_of fun w11 hx' => ?_
    have hx := hx.trans' hx'
    have h := h.ext hx
    refine ifD (fun hpos => ?_) (fun hpos => ?_)
    · have hk2 : k - 1 < xs.length := by omega
      have hp : prevOf xs k = xs[k - 1].Index := by
        obtain ⟨m, rfl⟩ : ∃ m, k = m + 1 := ⟨k - 1, by omega⟩
        simp only [prevOf, Nat.add_sub_cancel, List.getElem?_eq_getElem (show m < xs.length by omega)]
      rw [hp] at hq
      have e1 : i64 ((k : Int) - 1) = ((k - 1 : Nat) : Int) := by rw [i64_id] <;> have := h.le <;> omega
      refine fld_rd (y := xs[k - 1].Index) (by kernel_rfl) (by kernel_rfl) h e1 hk2 rfl fun _ => ?_
      refine ifD (fun ho => ?_) (fun ho => hC hk1 _ _ rfl ⟨hx, by rw [hq, if_neg ho]⟩)
      have := hK _ hx
      rwa [hq, if_pos ho] at this
    · obtain rfl : k = 0 := by omega
      refine hC hk1 _ _ rfl ⟨hx, ?_⟩
      rw [hq]
      exact if_neg (show ¬ xs[0].Index ≤ 0 by have := (oneE_ok.1 h0).1.1; omega)
  · rw [List.drop_of_length_le (by omega)] at hq
    have := hK _ hx
    rwa [hq] at this

/-! ### Bytes -/
/-- A slice that lay there reads as before when a new block has turned. -/
theorem keep_sl {α : Type} {E : Enc α} {w0 u u' : World} {t : Sl} {ys : List α} {g : Nat} (h : IsSl E w0 t ys) (hx : Ext w0 u) (hg : u.grownBy u' (some g)) (hge : w0.heap.size ≤ g) : IsSl E u' t ys :=
  h.keep (Nat.le_trans hx.size hg.size) fun b _ _ hb => by rw [hg.block b (Nat.lt_of_lt_of_le hb hx.size) (fun e => by have := Option.some.inj e; omega), hx.block b hb]
def EntNum (x : ApiEntry) : Prop := x.Index ≤ 9223372036854775807 ∧ x.Ballot.Round ≤ 9223372036854775807 ∧ x.Ballot.Node ≤ 9223372036854775807 ∧ CmdNum x.Cmd ∧ CmdShort x.Cmd
theorem entB_le {x : ApiEntry} (h : EntNum x) : (entB v x).length ≤ 10000000 := by
  obtain ⟨h1, h2, h3, h4, h5⟩ := h
  have := cmdT_len (v := v) h4 h5 6
  have e1 := enc_len9 h1
  have e2 := enc_len9 h2
  have e3 := enc_len9 h3
  unfold entB cmdB
  simp only [List.length_append]
  omega
theorem flat_le {α : Type} {B : α → List UInt8} {m : Nat} : ∀ {xs : List α}, (∀ x ∈ xs, (B x).length ≤ m) → (xs.flatMap B).length ≤ xs.length * m
  | [], _ => by simp
  | x :: xs, h => by
    have h1 := flat_le (xs := xs) fun y hy => h y (List.mem_cons_of_mem _ hy)
    have h2 := h x (List.mem_cons_self ..)
    simp only [List.flatMap_cons, List.length_append, List.length_cons, Nat.succ_mul]
    omega
theorem take_flat_le {α : Type} {B : α → List UInt8} {m : Nat} {xs : List α} (h : ∀ x ∈ xs, (B x).length ≤ m) (k : Nat) : ((xs.take k).flatMap B).length ≤ xs.length * m := by
  have := flat_le (xs := xs.take k) (B := B) (m := m) fun x hx => h x (List.mem_of_mem_take hx)
  have h2 : (xs.take k).length ≤ xs.length := by rw [List.length_take]; omega
  exact Nat.le_trans this (Nat.mul_le_mul_right _ h2)
theorem entry_Put_spec {wa : Addr} {K : Unit → World → Prop} (hw : Wt w wa l) (h : ∀ u, w.grownBy u (some wa.block) → IsSl eApiEntry u s xs) (hxs : ∀ x ∈ xs, EntNum x) (hn : xs.length ≤ 1000) (hl : l.length ≤ 100000000000)
    (hK : ∀ w', Wt w' wa (l ++ entsB v xs) → w.grownBy w' (some wa.block) → K () w') : entry_Put (some wa) v s K w := by
  unfold entry_Put
  have hsl := (h _ (grown_refl _ _)).len
  have hall : ∀ x ∈ xs, (entB v x).length ≤ 10000000 := fun x hx => entB_le (hxs x hx)
  have e0 := enc_len9 (n := (xs.length : Int)) (by omega)
  rw [Int.toNat_natCast] at e0
  refine pack_Writer_Number_calls (pack_Writer_Number_spec hw (by omega) (by omega) fun w2 hw2 hg2 => ?_)
  rw [hsl, Int.toNat_natCast] at hw2
  refine up1 (fun k w' => Wt w' wa (l ++ enc xs.length ++ (xs.take k).flatMap (entB v)) ∧ w.grownBy w' (some wa.block)) 0 xs.length rfl (by omega) (by omega) ⟨by simpa using hw2, hg2⟩ ?_
  rintro k w5 C _ hk ⟨hw, hg⟩ hC
  have hk2 := take_flat_le hall k
  have hb : xs.length * 10000000 ≤ 10000000000 := Nat.le_trans (Nat.mul_le_mul_right _ hn) (by decide)
  refine ifD (fun hlt => ?_) (fun hge => ?_)
  · have hk1 : k < xs.length := by omega
    obtain ⟨n1, n2, n3, n4, n5⟩ := hxs _ (List.getElem_mem hk1)
    have e1 := enc_len9 n1
    have e2 := enc_len9 n2
    have e3 := enc_len9 n3
    have lw := hw.lt
    refine st_rd (E := eApiEntry) (val := ApiEntry.val) (by kernel_rfl) (by kernel_rfl) (h _ hg) rfl hk1 (fun _ => rfl) fun _ => ?_
    refine new_x (Ext.rfl' w5) fun b8 w9 hb8 _ hx _ => wr_x hx hb8 fun w10 hx _ => ?_
    have hne8 : some b8 ≠ some wa.block := fun e => by have := Option.some.inj e; omega
    refine pack_Writer_Number_calls (pack_Writer_Number_spec (hw.ext hx) n1 (by simp only [List.length_append]; omega) fun w12 hw12 hg12 => kp_grown hg12 hne8 ?_)
    refine pack_Writer_Number_calls (pack_Writer_Number_spec hw12 n2 (by simp only [List.length_append]; omega) fun w14 hw14 hg14 => kp_grown hg14 hne8 ?_)
    refine pack_Writer_Number_calls (pack_Writer_Number_spec hw14 n3 (by simp only [List.length_append]; omega) fun w16 hw16 hg16 => kp_grown hg16 hne8 ?_)
    refine cmd_Put_calls (c := xs[k].Cmd) (cmd_Put_spec hw16 n4 n5 (by simp only [List.length_append]; omega) fun w18 hw18 hg18 => kp_grown hg18 hne8 ?_)
    have hgk := grown_trans (grown_ext hx (some wa.block)) (grown_trans hg12 (grown_trans hg14 (grown_trans hg16 hg18)))
    refine hC hk1 _ _ rfl ⟨?_, grown_trans hg hgk⟩
    rw [flatMap_up hk1, show entB v xs[k] = enc xs[k].Index.toNat ++ enc xs[k].Ballot.Round.toNat ++ enc xs[k].Ballot.Node.toNat ++ cmdB v xs[k].Cmd from rfl]
    simpa only [List.append_assoc] using hw18
  · rw [take_done (by omega)] at hw
    refine hK _ ?_ hg
    unfold entsB
    rw [← List.append_assoc]
    exact hw
theorem entry_Get_spec {r : Addr} {K : Sl → World → Prop} (hr : Rd w r l p no) (hl : l.length ≤ 140737488355328)
    (hK : ∀ out w', OwnSl eApiEntry w' w.heap.size out (rdEnts l v p no).1 → Rd w' r l (rdEnts l v p no).2.1 (rdEnts l v p no).2.2 → w.grownBy w' (some r.block) → K out w') : entry_Get (some r) v K w := by
  unfold entry_Get
  have hlt := hr.lt
  refine pack_Reader_Count_calls (pack_Reader_Count_spec hr fun w2 hr2 hg2 => ?_)
  unfold rdEnts at hK
  dsimp only at hK
  generalize hn : rdCount l 256 p no = n at hr2 hK ⊢
  have hn0 : 0 ≤ n.1 ∧ n.1 ≤ 256 := by
    subst hn
    by_cases h0 : (rdCount l 256 p no).2.2 = 0
    · obtain ⟨_, m, h1, h2, _⟩ := rdCount_inv h0
      omega
    · rw [rdCount_zero h0]; omega
  obtain ⟨m, hm⟩ := Int.eq_ofNat_of_zero_le hn0.1
  rw [hm, Int.toNat_natCast] at hK
  rw [hm]
  have hm256 : m ≤ 256 := by omega
  refine up2b (fun k out w' => OwnSl eApiEntry w' w.heap.size out (rdList (rdEnt l v) n.2.1 n.2.2 k).1 ∧ Rd w' r l (rdList (rdEnt l v) n.2.1 n.2.2 k).2.1 (rdList (rdEnt l v) n.2.1 n.2.2 k).2.2 ∧ w.grownBy w' (some r.block)) 0 m rfl (by omega) (by omega) ⟨.nil _ _ _, hr2, hg2⟩ ?_
  rintro k out w6 C _ hk ⟨ho, hr, hg⟩ hC
  refine ifD (fun hlt' => ?_) (fun hge => ?_)
  · have hk1 : k < m := by omega
    have hz := hg.size
    have hge := ho.ge
    have hor : ∀ b, out.blk = some b → some b ≠ some r.block := fun b hb e => by have := hge b hb; cases e; omega
    refine pack_Reader_Number_calls (pack_Reader_Number_spec hr fun w8 hr8 hg8 => ?_)
    have hz8 := hg8.size
    refine new_x (Ext.rfl' w8) fun b9 w10 hb9 hl10 hx hn10 => wr_x hx hb9 fun w11 hx hw11 => ?_
    have hne9 : some b9 ≠ some r.block := fun e => by have := Option.some.inj e; omega
    have s11 := hw11.size
    have lo6 := ho.lt
    have ho := (ho.grownB hg8 hor).ext hx
    have g1 := grown_trans hg8 (grown_ext hx (some r.block))
    refine pack_Reader_Number_calls (pack_Reader_Number_spec (hr8.ext hx) fun w13 hr13 hg13 => kp_grown hg13 hne9 (wr_of fun w14 hw14 => ?_))
    have hr14 := hr13.wr hw14 (by omega)
    have ho := (ho.grownB hg13 hor).wrN hw14 (n := b9) (fun c hc => by have := lo6 c hc; omega) (Nat.le_refl _)
    have g2 := grown_trans g1 hg13
    have z13 := hg13.size
    have s14 := hw14.size
    have g2 : w6.grownBy w14 (some r.block) := Two.one (y := b9) g2 (by omega) (Two.wr hw14)
    refine pack_Reader_Number_calls (pack_Reader_Number_spec hr14 fun w16 hr16 hg16 => kp_grown hg16 hne9 (wr_of fun w17 hw17 => ?_))
    have hr17 := hr16.wr hw17 (by omega)
    have ho := (ho.grownB hg16 hor).wrN hw17 (n := b9) (fun c hc => by have := lo6 c hc; omega) (Nat.le_refl _)
    have g3 : w6.grownBy w17 (some r.block) := Two.one (y := b9) (grown_trans g2 hg16) (by omega) (Two.wr hw17)
    have z16 := hg16.size
    have s17 := hw17.size
    refine cmd_Get_calls (cmd_Get_spec hr17 hl fun w19 hr19 hg19 => kp_grown hg19 hne9 (wr_of fun w20 hw20 => ?_))
    have hr20 := hr19.wr hw20 (by omega)
    have ho := (ho.grownB hg19 hor).wrN hw20 (n := b9) (fun c hc => by have := lo6 c hc; omega) (Nat.le_refl _)
    have g4 : w6.grownBy w20 (some r.block) := Two.one (y := b9) (grown_trans g3 hg19) (by omega) (Two.wr hw20)
    have z20 := g4.size
    refine lit1_ty (E := eApiEntry) 104 (x := (rdEnt l v (rdList (rdEnt l v) n.2.1 n.2.2 k).2.1 (rdList (rdEnt l v) n.2.1 n.2.2 k).2.2).1) w20.heap.size (by kernel_rfl) (by decide) (fun w => by kernel_rfl) (Nat.le_refl _) fun t21 w22 _ h21 hx22 => kp_ext hx22 ?_
    refine app_ty 104 (by kernel_rfl) (by kernel_rfl) (ho.ext hx22) h21.is (by rw [rdList_len]; simp only [List.length_singleton]; omega) (by have := hx22.size; omega) (by decide) fun t23 w24 h23 hg24 => ?_
    have hob : ∀ c, out.blk = some c → c < w6.heap.size := lo6
    refine kp_grown hg24 (fun e => by have := hob b9 e.symm; omega) ?_
    refine hC hk1 _ _ _ rfl ⟨by simp only [rdList]; exact h23, ?_, ?_⟩
    · simp only [rdList]
      have hr22 := hr20.ext hx22
      obtain ⟨sr, r1, r2, r3, r4⟩ := hr22
      exact ⟨sr, r1.grownB hg24 fun b hb e => by have := r3 b hb; have := hge b e.symm; omega, r2.keep (hg24.block _ r2.lt fun e => by have := hge _ e.symm; omega), r3, r4⟩
    · refine ⟨by rw [hg24.os, hx22.os, g4.os, hg.os], by rw [hg24.tape, hx22.tape, g4.tape, hg.tape], by rw [hg24.output, hx22.output, g4.output, hg.output], by have := hg24.size; have := hx22.size; omega, fun b hb hbr => ?_⟩
      rw [hg24.block b (by have := hx22.size; omega) fun e => by have := hge b e.symm; omega, hx22.block b (by omega), g4.block b (by omega) hbr, hg.block b hb hbr]
  · obtain rfl : k = m := by omega
    exact hK _ _ ho hr hg
theorem ref12_Bytes_spec {K : Sl → World → Prop} (h : IsSl eApiEntry w s xs) (hxs : ∀ x ∈ xs, EntNum x) (hn : xs.length ≤ 1000) (hK : ∀ o w', OwnSl eB w' w.heap.size o (entsB v xs) → Ext w w' → K o w') : ref12_Bytes v s K w := by
  unfold ref12_Bytes
  have hsl := h.len
  have hall : ∀ x ∈ xs, (entB v x).length ≤ 10000000 := fun x hx => entB_le (hxs x hx)
  have hb : xs.length * 10000000 ≤ 10000000000 := Nat.le_trans (Nat.mul_le_mul_right _ hn) (by decide)
  have e0 := enc_len9 (n := (xs.length : Int)) (by omega)
  rw [Int.toNat_natCast] at e0
  refine ref01_Bytes_calls (ref01_Bytes_spec (by omega) fun o1 w2 ho hx => ?_)
  rw [hsl, Int.toNat_natCast] at ho
  have put : ∀ {t tx ty : TypeId} {B : Nat} {u : World} {out y : Sl} {l m : List UInt8} {X : Sl → World → Prop}, appOk Pr t (elemT Pr t) 1 1 = true → isSlT Pr tx = true → OwnSl eB u B out l → IsSl eB u y m → Ext w u → w.heap.size ≤ B → B ≤ u.heap.size → l.length + m.length ≤ 140737488355328 →
      (∀ s u', OwnSl eB u' B s (l ++ m) → Ext w u' → B ≤ u'.heap.size → X s u') → opTy Pr (Builtin.append_ #[t, tx] ty #[out.val, y.val]) Sl.val X u := fun h1 h2 ho hy hx hB0 hB hlen hX =>
    app_ty 1 h1 h2 ho hy (by omega) hB (by decide) fun s u' hs hg => hX _ _ hs (Ext.own hx ho hB0 hg) (Nat.le_trans hB hg.size)
  refine up2b (fun k out w' => Ext w w' ∧ w.heap.size ≤ w'.heap.size ∧ OwnSl eB w' w.heap.size out (enc xs.length ++ (xs.take k).flatMap (entB v))) 0 xs.length rfl (by omega) (by omega) ⟨hx, hx.size, by simpa using ho⟩ ?_
  rintro k out w6 C _ hk ⟨hx, hz, ho⟩ hC
  have hk2 := take_flat_le hall k
  refine ifD (fun hlt => ?_) (fun hge => ?_)
  · have hk1 : k < xs.length := by omega
    obtain ⟨n1, n2, n3, n4, n5⟩ := hxs _ (List.getElem_mem hk1)
    have e1 := enc_len9 n1
    have e2 := enc_len9 n2
    have e3 := enc_len9 n3
    refine fld_rd (y := xs[k].Index) (by kernel_rfl) (by kernel_rfl) (h.ext hx) rfl hk1 rfl fun _ => ?_
    refine ref01_Bytes_calls (ref01_Bytes_spec n1 fun o w' h1 hx' => ?_)
    refine put (by kernel_rfl) (by kernel_rfl) (ho.ext hx') h1.is (hx.trans' hx') (Nat.le_refl _) (Nat.le_trans hz hx'.size) (by simp only [List.length_append]; omega) fun out12 w12 ho hx hz => ?_
    refine fld2_rd (y := xs[k].Ballot.Round) (o1 := 1) (o2 := 0) (by kernel_rfl) (by kernel_rfl) (h.ext hx) rfl hk1 rfl fun _ => ?_
    refine ref01_Bytes_calls (ref01_Bytes_spec n2 fun o w' h1 hx' => ?_)
    refine put (by kernel_rfl) (by kernel_rfl) (ho.ext hx') h1.is (hx.trans' hx') (Nat.le_refl _) (Nat.le_trans hz hx'.size) (by simp only [List.length_append]; omega) fun out18 w18 ho hx hz => ?_
    refine fld2_rd (y := xs[k].Ballot.Node) (o1 := 1) (o2 := 1) (by kernel_rfl) (by kernel_rfl) (h.ext hx) rfl hk1 rfl fun _ => ?_
    refine ref01_Bytes_calls (ref01_Bytes_spec n3 fun o w' h1 hx' => ?_)
    refine put (by kernel_rfl) (by kernel_rfl) (ho.ext hx') h1.is (hx.trans' hx') (Nat.le_refl _) (Nat.le_trans hz hx'.size) (by simp only [List.length_append]; omega) fun out24 w24 ho hx hz => ?_
    refine part_rd (E := eApiEntry) (n := 7) (off := 3) (y := xs[k].Cmd) (val := ApiCmd.val) (xs := xs[k].Cmd.cs) (by kernel_rfl) (by kernel_rfl) (h.ext hx) rfl hk1 rfl rfl (ent_cmd _) fun _ => ?_
    have ec : (cmdB v xs[k].Cmd).length ≤ 10000000 := by
      have := cmdT_len (v := v) n4 n5 6
      unfold cmdB
      omega
    refine ref08_Bytes_calls (c := xs[k].Cmd) (ref08_Bytes_spec n4 n5 fun o w' h1 hx' => ?_)
    refine put (by kernel_rfl) (by kernel_rfl) (ho.ext hx') h1.is (hx.trans' hx') (Nat.le_refl _) (Nat.le_trans hz hx'.size) (by simp only [List.length_append]; omega) fun out30 w30 ho hx hz => ?_
    refine hC hk1 _ _ _ rfl ⟨hx, hz, ?_⟩
    rw [flatMap_up hk1, show entB v xs[k] = enc xs[k].Index.toNat ++ enc xs[k].Ballot.Round.toNat ++ enc xs[k].Ballot.Node.toNat ++ cmdB v xs[k].Cmd from rfl]
    simpa only [List.append_assoc] using ho
  · rw [take_done (by omega)] at ho
    exact hK _ _ ho hx
end Go.Chg
/-
  Messages: what is wrong with them, and their bytes; plain Lean.
-/
set_option maxRecDepth 20000
set_option linter.unusedVariables false
namespace Go.Chg
open Go.Vc
variable {l : List UInt8} {v p q no : Int}
def mB (k : Int) : Bool := decide (3 ≤ k) && decide (k ≤ 8)
def mI (k : Int) : Bool := decide (k = 3) || decide (k = 4) || decide (k = 6) || decide (k = 9)
def mC (k : Int) : Bool := decide (k = 4) || decide (k = 8) || decide (k = 10)
def mV (k : Int) : Bool := decide (k = 1) || decide (k = 2)
def mE (k : Int) : Bool := decide (k = 4) || decide (k = 5) || decide (k = 10)
def mM (k : Int) : Bool := decide (k = 11)
/-- What a message's numbers may be. -/
def mRng1 (m : ApiMsg) : Prop := NodeOk m.From ∧ NodeOk m.To ∧ m.From ≠ m.To
def mRng2 (m : ApiMsg) : Prop := (mB m.Kind = true → BMay m.Ballot ∧ m.Ballot ≠ zBallot) ∧ (mI m.Kind = true → 1 ≤ m.Index ∧ m.Index ≤ 4294967296) ∧ (mC m.Kind = true → 0 ≤ m.Commit ∧ m.Commit ≤ 4294967296) ∧ (mV m.Kind = true → m.Version = 1 ∨ m.Version = 2)
def mLong (m : ApiMsg) (n il : Nat) : Prop := (mE m.Kind = true ∧ 256 < n) ∨ (mM m.Kind = true ∧ 32768 < il)
def mFrm (m : ApiMsg) (xs : List ApiEntry) (il : Nat) : Prop := (mB m.Kind = false → m.Ballot = zBallot) ∧ (mI m.Kind = false → m.Index = 0) ∧ (mC m.Kind = false → m.Commit = 0) ∧ (mV m.Kind = false → m.Version = 0) ∧ (mE m.Kind = false → xs = []) ∧ (mM m.Kind = true ↔ 0 < il) ∧
  (m.Kind = 5 → ∃ x, xs = [x] ∧ x.Ballot = m.Ballot)
noncomputable def msgE (m : ApiMsg) (xs : List ApiEntry) (il : Nat) : Int := open Classical in
  if ¬ (1 ≤ m.Kind ∧ m.Kind ≤ 11) then 5 else if ¬ (mRng1 m ∧ mRng2 m) then 6 else if mLong m xs.length il then 2 else
  if mE m.Kind = true ∧ entsE xs ≠ 0 then entsE xs else if ¬ mFrm m xs il then 3 else 0
section
variable {m : ApiMsg} {xs : List ApiEntry} {il : Nat}
theorem msgE_5 (h : ¬ (1 ≤ m.Kind ∧ m.Kind ≤ 11)) : msgE m xs il = 5 := by unfold msgE; rw [if_pos h]
theorem msgE_6 (h : 1 ≤ m.Kind ∧ m.Kind ≤ 11) (h2 : ¬ (mRng1 m ∧ mRng2 m)) : msgE m xs il = 6 := by unfold msgE; rw [if_neg (not_not_intro h), if_pos h2]
theorem msgE_2 (h : 1 ≤ m.Kind ∧ m.Kind ≤ 11) (h2 : mRng1 m ∧ mRng2 m) (h3 : mLong m xs.length il) : msgE m xs il = 2 := by unfold msgE; rw [if_neg (not_not_intro h), if_neg (not_not_intro h2), if_pos h3]
theorem msgE_e (h : 1 ≤ m.Kind ∧ m.Kind ≤ 11) (h2 : mRng1 m ∧ mRng2 m) (h3 : ¬ mLong m xs.length il) (h4 : mE m.Kind = true) (h5 : entsE xs ≠ 0) : msgE m xs il = entsE xs := by unfold msgE; rw [if_neg (not_not_intro h), if_neg (not_not_intro h2), if_neg h3, if_pos ⟨h4, h5⟩]
theorem msgE_3 (h : 1 ≤ m.Kind ∧ m.Kind ≤ 11) (h2 : mRng1 m ∧ mRng2 m) (h3 : ¬ mLong m xs.length il) (h4 : mE m.Kind = true → entsE xs = 0) (h5 : ¬ mFrm m xs il) : msgE m xs il = 3 := by
  unfold msgE; rw [if_neg (not_not_intro h), if_neg (not_not_intro h2), if_neg h3, if_neg (fun h => h.2 (h4 h.1)), if_pos h5]
theorem msgE_0 (h : 1 ≤ m.Kind ∧ m.Kind ≤ 11) (h2 : mRng1 m ∧ mRng2 m) (h3 : ¬ mLong m xs.length il) (h4 : mE m.Kind = true → entsE xs = 0) (h5 : mFrm m xs il) : msgE m xs il = 0 := by
  unfold msgE; rw [if_neg (not_not_intro h), if_neg (not_not_intro h2), if_neg h3, if_neg (fun h => h.2 (h4 h.1)), if_neg (not_not_intro h5)]
structure MsgOk (m : ApiMsg) (xs : List ApiEntry) (il : Nat) : Prop where
  kind : 1 ≤ m.Kind ∧ m.Kind ≤ 11
  rng : mRng1 m ∧ mRng2 m
  long : ¬ mLong m xs.length il
  ents : mE m.Kind = true → entsE xs = 0
  form : mFrm m xs il
theorem msgE_ok : msgE m xs il = 0 ↔ MsgOk m xs il := by
  constructor
  · intro h
    by_cases h1 : 1 ≤ m.Kind ∧ m.Kind ≤ 11
    rotate_left
    · rw [msgE_5 h1] at h; cases h
    by_cases h2 : mRng1 m ∧ mRng2 m
    rotate_left
    · rw [msgE_6 h1 h2] at h; cases h
    by_cases h3 : mLong m xs.length il
    · rw [msgE_2 h1 h2 h3] at h; cases h
    have h4 : mE m.Kind = true → entsE xs = 0 := fun h4 => Classical.byContradiction fun h5 => by
      rw [msgE_e h1 h2 h3 h4 h5] at h; exact h5 h
    by_cases h5 : mFrm m xs il
    rotate_left
    · rw [msgE_3 h1 h2 h3 h4 h5] at h; cases h
    exact ⟨h1, h2, h3, h4, h5⟩
  · rintro ⟨h1, h2, h3, h4, h5⟩
    exact msgE_0 h1 h2 h3 h4 h5
/-- The entries of a message that may be. -/
theorem MsgOk.each (h : MsgOk m xs il) : ∀ x ∈ xs, EIdx x ∧ CmdOk x.Cmd := fun x hx => by
  cases he : mE m.Kind
  · rw [h.form.2.2.2.2.1 he] at hx; cases hx
  · exact entsE_ok (h.ents he) x hx
theorem MsgOk.few (h : MsgOk m xs il) : xs.length ≤ 256 := by
  cases he : mE m.Kind
  · rw [h.form.2.2.2.2.1 he]; exact Nat.zero_le _
  · exact Classical.byContradiction fun hc => h.long (.inl ⟨he, by omega⟩)
theorem MsgOk.img (h : MsgOk m xs il) : il ≤ 32768 := by
  cases he : mM m.Kind
  · have := h.form.2.2.2.2.2.1
    rw [he] at this
    exact Nat.le_of_not_lt fun hc => by have := this.2 (by omega); cases this
  · exact Classical.byContradiction fun hc => h.long (.inr ⟨he, by omega⟩)
theorem MsgOk.nums (h : MsgOk m xs il) : (1 ≤ m.From ∧ m.From ≤ 9) ∧ (1 ≤ m.To ∧ m.To ≤ 9) ∧ ((0 ≤ m.Ballot.Round ∧ m.Ballot.Round ≤ 4294967296) ∧ (0 ≤ m.Ballot.Node ∧ m.Ballot.Node ≤ 9)) ∧ (0 ≤ m.Index ∧ m.Index ≤ 4294967296) ∧ (0 ≤ m.Commit ∧ m.Commit ≤ 4294967296) ∧ (0 ≤ m.Version ∧ m.Version ≤ 2) := by
  obtain ⟨⟨⟨a1, a2⟩, ⟨b1, b2⟩, _⟩, r1, r2, r3, r4⟩ := h.rng
  obtain ⟨f1, f2, f3, f4, _⟩ := h.form
  refine ⟨⟨a1, a2⟩, ⟨b1, b2⟩, ?_, ?_, ?_, ?_⟩
  · cases hb : mB m.Kind
    · rw [f1 hb]; exact ⟨by decide, by decide⟩
    · exact (r1 hb).1.num
  · cases hb : mI m.Kind
    · rw [f2 hb]; decide
    · have := r2 hb; omega
  · cases hb : mC m.Kind
    · rw [f3 hb]; decide
    · have := r3 hb; omega
  · cases hb : mV m.Kind
    · rw [f4 hb]; decide
    · have := r4 hb; omega

/-! ### The bytes of V1 -/
def numsL (m : ApiMsg) : List Int := [m.Kind, m.From, m.To, m.Ballot.Round, m.Ballot.Node, m.Index, m.Commit]
def encI (n : Int) : List UInt8 := enc n.toNat
def msg1B (m : ApiMsg) (xs : List ApiEntry) (img : List UInt8) : List UInt8 := (numsL m).flatMap encI ++ entsB 1 xs ++ (enc img.length ++ img)
/-- What bytes are read as in V1: the numbers, the entries, the image. -/
def rdM1 (l : List UInt8) (p no : Int) : (List Int × List ApiEntry × List UInt8) × Int × Int :=
  let a := rdList (rdN l) p no 7
  let b := rdEnts l 1 a.2.1 a.2.2
  let c := rdText l 32768 b.2.1 b.2.2
  ((a.1, b.1, c.1), c.2)
def mkM (ns : List Int) (ver : Int) (es im : Sl) : ApiMsg := ⟨ns.getD 0 0, ns.getD 1 0, ns.getD 2 0, ⟨ns.getD 3 0, ns.getD 4 0⟩, ns.getD 5 0, ns.getD 6 0, ver, es, im⟩
def verOf (ns : List Int) : Int := if mV (ns.getD 0 0) = true then 1 else 0
theorem numsL_mk {ns : List Int} (h : ns.length = 7) (ver : Int) (es im : Sl) : numsL (mkM ns ver es im) = ns := by
  match ns, h with
  | [a, b, c, d, e, f, g], _ => rfl
end
theorem rdM1_inv (h : (rdM1 l p no).2.2 = 0) : no = 0 ∧ Took l p (rdM1 l p no).2.1 ((rdM1 l p no).1.1.flatMap encI ++ entsB 1 (rdM1 l p no).1.2.1 ++ (enc (rdM1 l p no).1.2.2.length ++ (rdM1 l p no).1.2.2)) ∧ (rdM1 l p no).1.1.length = 7 ∧ (rdM1 l p no).1.2.1.length ≤ 256 := by
  unfold rdM1 at h ⊢
  dsimp only at h ⊢
  generalize ha : rdList (rdN l) p no 7 = a at h ⊢
  generalize hb : rdEnts l 1 a.2.1 a.2.2 = b at h ⊢
  obtain ⟨h0, _, _, h1⟩ := rdText_inv h
  subst hb
  obtain ⟨b0, b1, b2, _⟩ := rdEnts_inv h0
  subst ha
  have hp : ∀ p no, (rdN l p no).2.2 = 0 → no = 0 ∧ Took l p (rdN l p no).2.1 (encI (rdN l p no).1) ∧ True := fun p no h => by
    obtain ⟨x, _, y⟩ := rdN_inv h
    exact ⟨x, y, trivial⟩
  have nn := b1.nonneg
  -- the place ahead
  have step : ∀ n, (rdList (rdN l) p no n).2.2 = 0 → no = 0 ∧ (0 < n → 0 ≤ p ∧ p ≤ l.length) := fun n => by
    induction n with
    | zero => intro h; exact ⟨h, fun h => absurd h (Nat.lt_irrefl _)⟩
    | succ n ih =>
      intro h
      simp only [rdList] at h
      obtain ⟨x, _, y⟩ := rdN_inv h
      obtain ⟨z, z'⟩ := ih x
      refine ⟨z, fun _ => ?_⟩
      cases n with
      | zero =>
        have := y.nonneg
        have := y.le
        have := y.len
        simp only [rdList] at *
        omega
      | succ n => exact z' (Nat.succ_pos _)
  obtain ⟨n0, hpl⟩ := step 7 b0
  obtain ⟨p0, p1⟩ := hpl (by decide)
  obtain ⟨_, t, _⟩ := rdList_inv (B := encI) (Q := fun _ => True) hp p0 p1 7 b0
  exact ⟨n0, (t.trans b1).trans h1, rdList_len 7, b2⟩
theorem rdM1_took {ns : List Int} {xs : List ApiEntry} {img : List UInt8} (h : Took l p q (ns.flatMap encI ++ entsB 1 xs ++ (enc img.length ++ img))) (h7 : ns.length = 7) (hn : ∀ n ∈ ns, 0 ≤ n ∧ n ≤ 9223372036854775807) (hx : ∀ x ∈ xs, EntFit 1 x) (hm : xs.length ≤ 256) (hi : img.length ≤ 32768) :
    rdM1 l p 0 = ((ns, xs, img), q, 0) := by
  obtain ⟨h, h3⟩ := h.split
  obtain ⟨h1, h2⟩ := h.split
  unfold rdM1
  dsimp only
  have e1 := rdList_took (l := l) (one := rdN l) (B := encI) (xs := ns) (fun n hmem p q h => rdN_took h (hn n hmem).1 (hn n hmem).2) 7 _ (by omega) (by rw [List.take_of_length_le (by omega)]; exact h1)
  rw [List.take_of_length_le (by omega)] at e1
  rw [e1]
  dsimp only
  rw [rdEnts_took h2 hx hm]
  dsimp only
  rw [rdText_took h3 (by omega) (by omega)]
end Go.Chg
