/-
  Comparing structs: of whatever program.
-/
import Derived.Laws.StructEq
import Derived.Test.YtnnoalpkldpjfaaGreatDoorRead
namespace Go.Vc
open Go

variable {P : Program}
/-- What an element of a struct, or the like, is compared as. -/
def EqV (P : Program) (d : Nat) (t : TypeId) (a b : Value) (r : Bool) : Prop := ∀ w : World, (Op.equalIn d t a b).run P w = .ok r w
theorem eqV_int {d : Nat} {t : TypeId} {k : IntKind} {a b : Int} (ht : intT P k t = true) : EqV P (d + 1) t (.int k a) (.int k b) (a == b) := by
  intro w
  unfold intT at ht
  split at ht
  case h_2 => cases ht
  case h_1 k' hk => exact run_equalIn_int w d t k k' a b hk
theorem eqV_bool {d : Nat} {t : TypeId} {a b : Bool} (ht : boolT P t = true) : EqV P (d + 1) t (.bool a) (.bool b) (a == b) := by
  intro w
  unfold boolT at ht
  split at ht
  case h_2 => cases ht
  case h_1 hk => exact run_equalIn_bool w d t a b hk
theorem eqV_text {d : Nat} {t : TypeId} {a b : List UInt8} (ht : strT P t = true) : EqV P (d + 1) t (sval a) (sval b) (strEq a b) :=
  fun w => run_equalIn_string w d t _ _ (strT_spec ht)

def named (fs : List Field) : Bool := fs.all fun f => !(f.name == "_")
/-- The elements of two structs, and what each pair is compared as. -/
def EqL (P : Program) (d : Nat) (xs ys : List Value) : List (Nat × Nat × Nat) → List Bool → Prop
  | [], [] => True
  | q :: l, r :: rs => (∃ a b, (∀ w : World, (part q.1 ⟨xs⟩ q.2.1).run P w = .ok a w) ∧ (∀ w : World, (part q.1 ⟨ys⟩ q.2.1).run P w = .ok b w) ∧ EqV P d q.1 a b r) ∧ EqL P d xs ys l rs
  | _, _ => False

theorem part_one {t o : Nat} {xs : List Value} {v : Value} (ht : oneT P t = true) (h : xs[o]? = some v) (w : World) : (part t ⟨xs⟩ o).run P w = .ok v w := by
  obtain ⟨d, hd, ha⟩ := oneT_spec ht
  unfold part
  have : (⟨xs⟩ : Array Value)[o]? = some v := by simpa using h
  rw [Sem.run_bind, run_isAgg hd, Result.andThen_ok, ha]
  simp [this]
theorem part_agg {t o n : Nat} {xs ys : List Value} (ht : agT P t = some n) (h : (xs.drop o).take n = ys) (w : World) : (part t ⟨xs⟩ o).run P w = .ok (.agg ⟨ys⟩) w := by
  obtain ⟨d, hd, ha, hz⟩ := agT_spec ht
  unfold part
  rw [Sem.run_bind, run_isAgg hd, Result.andThen_ok, ha, if_pos rfl, Sem.run_bind, run_size hz, Result.andThen_ok, Sem.run_pure]
  congr 2
  subst h
  apply Array.ext'
  simp

theorem eqFields_of {d : Nat} {xs ys : List Value} (w : World) : ∀ (fs : List Field) (l : List (Nat × Nat × Nat)) (rs : List Bool), sameFs P fs l = true → named fs = true → EqL P d xs ys l rs →
    (Op.eqFields d ⟨xs⟩ ⟨ys⟩ fs).run P w = .ok (rs.all id) w
  | [], [], [], _, _, _ => by simp [Op.eqFields]
  | f :: fs, (t, o, n) :: l, r :: rs, hs, hn, he => by
    simp only [sameFs, Bool.and_eq_true] at hs
    obtain ⟨⟨⟨h1, h2⟩, h3⟩, h4⟩ := hs
    have e1 : f.type = t := Nat.eq_of_beq_eq_true h1
    have e2 : f.offset = o := Nat.eq_of_beq_eq_true h2
    simp only [named, List.all_cons, Bool.and_eq_true] at hn
    have hname : f.name ≠ "_" := by
      have := hn.1
      intro e
      rw [e] at this
      simp at this
    obtain ⟨⟨a, b, ha, hb, hr⟩, hl⟩ := he
    simp only [Op.eqFields]
    rw [if_pos hname, e1, e2, Sem.run_bind, ha w, Result.andThen_ok, Sem.run_bind, hb w, Result.andThen_ok, Sem.run_bind, hr w, Result.andThen_ok]
    cases r with
    | false => simp
    | true => simpa using eqFields_of w fs l rs h4 hn.2 hl
  | [], [], _ :: _, _, _, he => he.elim
  | [], _ :: _, _, hs, _, _ => by cases hs
  | _ :: _, [], _, hs, _, _ => by cases hs
  | _ :: _, _ :: _, [], _, _, he => he.elim

def eqT (P : Program) (t : TypeId) (l : List (Nat × Nat × Nat)) : Bool :=
  match P.underlying t with
  | some (.struct fs) => sameFs P fs.toList l && named fs.toList && !P.stoodInHeld t
  | _ => false
theorem eqV_struct {d : Nat} {t : TypeId} (l : List (Nat × Nat × Nat)) {rs : List Bool} {xs ys : List Value} (ht : eqT P t l = true) (h : EqL P d xs ys l rs) : EqV P (d + 1) t (.agg ⟨xs⟩) (.agg ⟨ys⟩) (rs.all id) := by
  intro w
  unfold eqT at ht
  split at ht
  case h_2 => cases ht
  case h_1 fs hfs =>
    simp only [Bool.and_eq_true] at ht
    have hf : P.fieldsOf t = fs := by simp [Program.fieldsOf, hfs]
    rw [run_equalIn_struct w d t _ _ (by rw [hf]; exact hfs) (by simpa using ht.2), hf]
    exact eqFields_of w _ l rs ht.1.1 ht.1.2 h

def noIface (P : Program) (t : TypeId) : Bool := !P.eqGuardType P.depth t
theorem eqSt {t : TypeId} {x y : Operand} {xs ys : List Value} {r : Bool} {w : World} {K : Bool → Prop} (hg : noIface P t = true) (h : EqV P 10000 t (.agg ⟨xs⟩) (.agg ⟨ys⟩) r) (hK : K r) : opRd P (binSem .eql t x y (.agg ⟨xs⟩) (.agg ⟨ys⟩)) Value.bool K w := by
  refine ⟨r, ?_, hK⟩
  unfold binSem
  rw [Sem.run_bind, run_eqGuard_agg w .eql t x y _ _ (by simpa [noIface] using hg), Result.andThen_ok, run_eql_struct, h w, Result.andThen_ok]
theorem neSt {t : TypeId} {x y : Operand} {xs ys : List Value} {r : Bool} {w : World} {K : Bool → Prop} (hg : noIface P t = true) (h : EqV P 10000 t (.agg ⟨xs⟩) (.agg ⟨ys⟩) r) (hK : K (!r)) : opRd P (binSem .neq t x y (.agg ⟨xs⟩) (.agg ⟨ys⟩)) Value.bool K w := by
  refine ⟨!r, ?_, hK⟩
  unfold binSem
  rw [Sem.run_bind, run_eqGuard_agg w .neq t x y _ _ (by simpa [noIface] using hg), Result.andThen_ok, run_neq_struct, h w, Result.andThen_ok]
theorem eqSt_S {t : TypeId} {x y : Operand} {S : World → Prop} {xs ys : List Value} {r : Bool} {K : Bool → Prop} (hg : noIface P t = true) (h : EqV P 10000 t (.agg ⟨xs⟩) (.agg ⟨ys⟩) r) (hK : K r) : opH P S (binSem .eql t x y (.agg ⟨xs⟩) (.agg ⟨ys⟩)) Value.bool K :=
  opH_of r (fun _ _ => eqSt hg h rfl) hK
theorem neSt_S {t : TypeId} {x y : Operand} {S : World → Prop} {xs ys : List Value} {r : Bool} {K : Bool → Prop} (hg : noIface P t = true) (h : EqV P 10000 t (.agg ⟨xs⟩) (.agg ⟨ys⟩) r) (hK : K (!r)) : opH P S (binSem .neq t x y (.agg ⟨xs⟩) (.agg ⟨ys⟩)) Value.bool K :=
  opH_of (!r) (fun _ _ => neSt hg h rfl) hK
end Go.Vc
