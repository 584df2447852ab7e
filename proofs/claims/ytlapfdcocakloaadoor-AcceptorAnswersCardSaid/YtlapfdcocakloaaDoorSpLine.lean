/-
  Words as a line: strings.Join, and a builder that grows.
-/
import Derived.Test.YtlapfdcocakloaaDoorSpQuo
import Derived.Lib.MakeNoZero
set_option maxRecDepth 20000
set_option linter.unusedVariables false
namespace Go.Vc
theorem subH_h {P : Program} {S : World → Prop} {t z : Nat} {s : Sl} {j : Int} {n : Nat} {K : Sl → Prop} (ht : slOf P t = some z) (hj : j = (n : Int)) (hn : n ≤ s.cap) (hK : K (s.sub 0 n z)) : opH P S (Instr.sliceAt t s.val none (some (.int .i64 j)) none) Sl.val K := by
  obtain ⟨he, hz⟩ := elem_of ht
  subst hj
  refine ⟨s.sub 0 n z, fun w _ => ?_, hK⟩
  rw [run_sliceAt_slice w t _ _ _ _ he, show s.val = .slice s.a s.len s.cap from rfl, run_slice_h w t s.a s.len s.cap he _ _ (by omega) (by omega), run_size hz]
  simp [Result.andThen, sliced, Sl.sub, Sl.val]
theorem run_copy0 {P : Program} {w : World} {t tx ty n : Nat} {d : Addr} {c : Nat} (ht : slOf P t = some n) : (Builtin.copy_ #[t, tx] ty #[.slice (some d) 0 c, .slice none 0 0]).run P w = .ok (.int .i64 0) w := by
  obtain ⟨e, he, hz⟩ := slOf_spec ht
  simp [Builtin.copy_, run_und he, Builtin.lenOf, Builtin.firstCells, run_size hz, goInt, storeCells]
def joinL (m : List UInt8) : List (List UInt8) → List UInt8
  | [] => []
  | x :: r => x ++ r.flatMap (m ++ ·)
end Go.Vc
namespace Go.Chg
open Go.Vc
open Go.RowKit (Below)
variable {w : World} {a : Addr} {l : List UInt8}
theorem low_blk {α : Type} {E : Enc α} {s : Sl} {xs : List α} (h : IsSl E w s xs) (hne : xs ≠ []) : ∀ k, s.blk = some k → k < w.heap.size := fun k hk => by
  rcases h.mem with h0 | ⟨b, o, ha, hb, _⟩
  · exact absurd h0 hne
  · simp only [Sl.blk, ha] at hk
    cases hk
    exact hb
theorem low_keep {α : Type} {E : Enc α} {w' : World} {B : Nat} {s : Sl} {xs : List α} (h : IsSl E w s xs) (hB : ∀ k, s.blk = some k → k < B) (hg : Below B w w') : IsSl E w' s xs :=
  h.keep hg.size fun b o ha _ => hg.block b (hB b (by simp [Sl.blk, ha]))
noncomputable def tid_mk : Nat := match Pr.funcs[fid_internal_bytealg_MakeNoZero]? with | some fn => (match fn.resultTypes[0]? with | some t => t | none => 0) | none => 0
theorem tdiv_big {n : Nat} (h0 : 0 < n) (h : n ≤ 1000000) : (1 : Int) < Int.tdiv 9223372036854775807 (n : Int) := by
  have e : Int.tdiv 9223372036854775807 (n : Int) = ((9223372036854775807 / n : Nat) : Int) := rfl
  rw [e]
  have := Nat.div_le_div_left (a := 9223372036854775807) h h0
  omega
theorem sum_flat {m : List UInt8} : ∀ (xs : List (List UInt8)), (xs.flatMap (m ++ ·)).length = m.length * xs.length + (xs.flatMap id).length
  | [] => by simp
  | x :: xs => by
    have := sum_flat (m := m) xs
    simp only [List.flatMap_cons, List.length_append, List.length_cons, id, Nat.mul_add, Nat.mul_one] at *
    omega
theorem take_sum {xs : List (List UInt8)} {k : Nat} (hk : k < xs.length) : ((xs.take (k + 1)).flatMap id).length = ((xs.take k).flatMap id).length + xs[k].length := by
  rw [List.take_succ_eq_append_getElem hk, List.flatMap_append, List.length_append]
  simp
theorem take_sum_le {xs : List (List UInt8)} (k : Nat) : ((xs.take k).flatMap id).length ≤ (xs.flatMap id).length := by
  conv => rhs; rw [← List.take_append_drop k xs]
  rw [List.flatMap_append, List.length_append]
  omega
end Go.Chg
