/-
  Short ways through own variables that are new since a call began: of whatever program.
-/
import Derived.Test.YtnnoalpkldpjfaaStd2
import Derived.Test.YtnnoalpkldpjfaaSub
namespace Go.Vc
open Go.RowKit (Below)
variable {w0 w w' : World} {α : Type}
theorem new_x {K : Nat → World → Prop} (hx : Ext w0 w) (h : ∀ b w', w0.heap.size ≤ b → b < w'.heap.size → Ext w0 w' → New b w w' → K b w') : newV K w :=
  new_of fun b w' hn => h b w' (by have := hn.1; have := hx.size; omega) hn.lt (hx.trans' (Ext.new hn)) hn
theorem wr_x {b : Nat} {K : World → Prop} (hx : Ext w0 w) (hb : w0.heap.size ≤ b) (h : ∀ w', Ext w0 w' → Wr b w w' → K w') : wrM b K w :=
  wr_of fun w' hw => h w' (Below.wr hx hb hw) hw
/-- An own slice that lies above a variable stays when the variable is written. -/
theorem OwnSl.wrO {E : Enc α} {B b : Nat} {s : Sl} {l : List α} (ho : OwnSl E w B s l) (hw : Wr b w w') (hb : b < B) : OwnSl E w' B s l :=
  ho.grownB (grown_wr hw) fun c hc e => by have := ho.ge c hc; cases e; omega
theorem OwnSl.isExt {E : Enc α} {B : Nat} {s : Sl} {l : List α} (ho : OwnSl E w B s l) (hx : Ext w w') : IsSl E w' s l := ho.is.ext hx
theorem OwnSl.lt {E : Enc α} {B : Nat} {s : Sl} {l : List α} (h : OwnSl E w B s l) : ∀ b, s.blk = some b → b < w.heap.size := fun b hb => by
  rcases h.row with ⟨h0, _⟩ | ⟨g, cur, h1, _, h2, _⟩
  · subst h0; cases hb
  · simp [Sl.blk, h1] at hb; subst hb; exact h2.lt
/-- ..and when a variable is written that is newer than it. -/
theorem OwnSl.wrN {E : Enc α} {B b : Nat} {s : Sl} {l : List α} (ho : OwnSl E w B s l) (hw : Wr b w w') {n : Nat} (hn : ∀ c, s.blk = some c → c < n) (hb : n ≤ b) : OwnSl E w' B s l :=
  ho.grownB (grown_wr hw) fun c hc e => by have := hn c hc; cases e; omega
/-- An own slice when another one that lies above it has turned. -/
theorem OwnSl.apart {E : Enc α} {β : Type} {F : Enc β} {B C : Nat} {s t : Sl} {l : List α} {m : List β} (ho : OwnSl E w B s l) (ht : OwnSl F w C t m) (hg : w.grownBy w' t.blk) (h : ∀ b, s.blk = some b → b < C) : OwnSl E w' B s l :=
  ho.grownB hg fun c hc e => by
    have := ht.ge c e.symm
    have := h c hc
    omega
theorem kp_wrx {b c : Nat} {w w' : World} {X : Prop} (h : Wr c w w') (hb : b ≠ c) (x : X) : kp b w w' X := kp_wr h hb x
/-- Own variables when an own slice that lies above has turned. -/
theorem kp_O {E : Enc α} {B b : Nat} {s : Sl} {l : List α} {X : Prop} (ho : OwnSl E w B s l) (hb : b < B) (hg : w.grownBy w' s.blk) (x : X) : kp b w w' X :=
  kp_grown hg (fun e => by have := ho.ge b e.symm; omega) x
/-- A region that draws its order, where only calls turn the world. -/
theorem held_x {X : (World → Prop) → World → Prop} (h : ∀ w', Ext w w' → X (fun _ => True) w') : heldM X w := heldM_of (fun _ => True) fun w' hx => ⟨trivial, h w' hx⟩
/-- A whole element that is a struct, in a region that draws its order. -/
theorem stH {P : Program} {E : Enc α} {S : World → Prop} {t u : TypeId} {s : Sl} {l : List α} {i : Int} {k : Nat} {val : α → Value} {K : Addr → α → Prop} (ht : slOf P t = some E.sz) (hu : agT P u = some E.sz) (hS : ∀ w', S w' → IsSl E w' s l) (hi : i = (k : Int)) (hk : k < l.length)
    (hv : ∀ x, val x = .agg ⟨E.cs x⟩) (hK : ∀ a, K a l[k]) : opH P S (Instr.indexAt t s.val (.int .i64 i)) pav (fun a => opH P S (Instr.loadAt u (.pointer (some a))) val (K a)) :=
  ⟨s.at k E.sz, fun w' hw => (ix_eq ht (hS w' hw) hi hk).1, opH_of l[k] (fun w' hw => ld_whole hu (ix_eq (P := P) ht (hS w' hw) hi hk).2 (hv _) rfl) (hK _)⟩
end Go.Vc
