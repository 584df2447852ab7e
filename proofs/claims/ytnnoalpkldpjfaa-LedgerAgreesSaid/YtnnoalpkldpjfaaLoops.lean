/-
  Loops that count up, and one element put behind a slice. Of whatever program.
-/
import Derived.Test.YtnnoalpkldpjfaaRaw
namespace Go.Vc
open Go.RowKit (Below)
variable {α β γ δ : Type} {P : Program} {w : World}

theorem i64_up {k n : Nat} (h : k < n) (hn : n ≤ 9223372036854775807) : i64 ((k : Int) + 1) = ((k + 1 : Nat) : Int) := by rw [i64_id] <;> omega

theorem up1 {a : Int} {body : Int → (Int → World → Prop) → World → Prop} (J : Nat → World → Prop) (s n : Nat) (ha : a = (s : Int)) (hs : s ≤ n) (hn : n ≤ 9223372036854775807) (h0 : J s w)
    (step : ∀ (k : Nat) (w' : World) (C : Int → World → Prop), s ≤ k → k ≤ n → J k w' → (k < n → ∀ y w'', y = i64 ((k : Int) + 1) → J (k + 1) w'' → C y w'') → body (k : Int) C w') : loop1 a body w := by
  refine ⟨fun x w' => ∃ k : Nat, x = k ∧ s ≤ k ∧ k ≤ n ∧ J k w', fun x _ => (n - x).toNat, ⟨s, ha, Nat.le_refl _, hs, h0⟩, ?_⟩
  rintro x w' ⟨k, rfl, h1, h2, h3⟩
  refine step k w' _ h1 h2 h3 fun hk y w'' hy hJ => ?_
  subst hy
  rw [i64_up hk hn]
  exact ⟨⟨k + 1, rfl, by omega, by omega, hJ⟩, by dsimp only; omega⟩
theorem up2a {a : Int} {b : β} {body : Int → β → (Int → β → World → Prop) → World → Prop} (J : Nat → β → World → Prop) (s n : Nat) (ha : a = (s : Int)) (hs : s ≤ n) (hn : n ≤ 9223372036854775807) (h0 : J s b w)
    (step : ∀ (k : Nat) (b' : β) (w' : World) (C : Int → β → World → Prop), s ≤ k → k ≤ n → J k b' w' → (k < n → ∀ y b'' w'', y = i64 ((k : Int) + 1) → J (k + 1) b'' w'' → C y b'' w'') → body (k : Int) b' C w') : loop2 a b body w := by
  refine ⟨fun x b' w' => ∃ k : Nat, x = k ∧ s ≤ k ∧ k ≤ n ∧ J k b' w', fun x _ _ => (n - x).toNat, ⟨s, ha, Nat.le_refl _, hs, h0⟩, ?_⟩
  rintro x b' w' ⟨k, rfl, h1, h2, h3⟩
  refine step k b' w' _ h1 h2 h3 fun hk y b'' w'' hy hJ => ?_
  subst hy
  rw [i64_up hk hn]
  exact ⟨⟨k + 1, rfl, by omega, by omega, hJ⟩, by dsimp only; omega⟩
theorem up2b {a : Int} {b : β} {body : β → Int → (β → Int → World → Prop) → World → Prop} (J : Nat → β → World → Prop) (s n : Nat) (ha : a = (s : Int)) (hs : s ≤ n) (hn : n ≤ 9223372036854775807) (h0 : J s b w)
    (step : ∀ (k : Nat) (b' : β) (w' : World) (C : β → Int → World → Prop), s ≤ k → k ≤ n → J k b' w' → (k < n → ∀ y b'' w'', y = i64 ((k : Int) + 1) → J (k + 1) b'' w'' → C b'' y w'') → body b' (k : Int) C w') : loop2 b a body w := by
  refine ⟨fun b' x w' => ∃ k : Nat, x = k ∧ s ≤ k ∧ k ≤ n ∧ J k b' w', fun _ x _ => (n - x).toNat, ⟨s, ha, Nat.le_refl _, hs, h0⟩, ?_⟩
  rintro b' x w' ⟨k, rfl, h1, h2, h3⟩
  refine step k b' w' _ h1 h2 h3 fun hk y b'' w'' hy hJ => ?_
  subst hy
  rw [i64_up hk hn]
  exact ⟨⟨k + 1, rfl, by omega, by omega, hJ⟩, by dsimp only; omega⟩
theorem up3a {a : Int} {b : β} {c : γ} {body : Int → β → γ → (Int → β → γ → World → Prop) → World → Prop} (J : Nat → β → γ → World → Prop) (s n : Nat) (ha : a = (s : Int)) (hs : s ≤ n) (hn : n ≤ 9223372036854775807) (h0 : J s b c w)
    (step : ∀ (k : Nat) (b' : β) (c' : γ) (w' : World) (C : Int → β → γ → World → Prop), s ≤ k → k ≤ n → J k b' c' w' → (k < n → ∀ y b'' c'' w'', y = i64 ((k : Int) + 1) → J (k + 1) b'' c'' w'' → C y b'' c'' w'') → body (k : Int) b' c' C w') : loop3 a b c body w := by
  refine ⟨fun x b' c' w' => ∃ k : Nat, x = k ∧ s ≤ k ∧ k ≤ n ∧ J k b' c' w', fun x _ _ _ => (n - x).toNat, ⟨s, ha, Nat.le_refl _, hs, h0⟩, ?_⟩
  rintro x b' c' w' ⟨k, rfl, h1, h2, h3⟩
  refine step k b' c' w' _ h1 h2 h3 fun hk y b'' c'' w'' hy hJ => ?_
  subst hy
  rw [i64_up hk hn]
  exact ⟨⟨k + 1, rfl, by omega, by omega, hJ⟩, by dsimp only; omega⟩
theorem up3b {a : Int} {b : β} {c : γ} {body : β → Int → γ → (β → Int → γ → World → Prop) → World → Prop} (J : Nat → β → γ → World → Prop) (s n : Nat) (ha : a = (s : Int)) (hs : s ≤ n) (hn : n ≤ 9223372036854775807) (h0 : J s b c w)
    (step : ∀ (k : Nat) (b' : β) (c' : γ) (w' : World) (C : β → Int → γ → World → Prop), s ≤ k → k ≤ n → J k b' c' w' → (k < n → ∀ y b'' c'' w'', y = i64 ((k : Int) + 1) → J (k + 1) b'' c'' w'' → C b'' y c'' w'') → body b' (k : Int) c' C w') : loop3 b a c body w := by
  refine ⟨fun b' x c' w' => ∃ k : Nat, x = k ∧ s ≤ k ∧ k ≤ n ∧ J k b' c' w', fun _ x _ _ => (n - x).toNat, ⟨s, ha, Nat.le_refl _, hs, h0⟩, ?_⟩
  rintro b' x c' w' ⟨k, rfl, h1, h2, h3⟩
  refine step k b' c' w' _ h1 h2 h3 fun hk y b'' c'' w'' hy hJ => ?_
  subst hy
  rw [i64_up hk hn]
  exact ⟨⟨k + 1, rfl, by omega, by omega, hJ⟩, by dsimp only; omega⟩
theorem up3c {a : Int} {b : β} {c : γ} {body : β → γ → Int → (β → γ → Int → World → Prop) → World → Prop} (J : Nat → β → γ → World → Prop) (s n : Nat) (ha : a = (s : Int)) (hs : s ≤ n) (hn : n ≤ 9223372036854775807) (h0 : J s b c w)
    (step : ∀ (k : Nat) (b' : β) (c' : γ) (w' : World) (C : β → γ → Int → World → Prop), s ≤ k → k ≤ n → J k b' c' w' → (k < n → ∀ y b'' c'' w'', y = i64 ((k : Int) + 1) → J (k + 1) b'' c'' w'' → C b'' c'' y w'') → body b' c' (k : Int) C w') : loop3 b c a body w := by
  refine ⟨fun b' c' x w' => ∃ k : Nat, x = k ∧ s ≤ k ∧ k ≤ n ∧ J k b' c' w', fun _ _ x _ => (n - x).toNat, ⟨s, ha, Nat.le_refl _, hs, h0⟩, ?_⟩
  rintro b' c' x w' ⟨k, rfl, h1, h2, h3⟩
  refine step k b' c' w' _ h1 h2 h3 fun hk y b'' c'' w'' hy hJ => ?_
  subst hy
  rw [i64_up hk hn]
  exact ⟨⟨k + 1, rfl, by omega, by omega, hJ⟩, by dsimp only; omega⟩

/-! ### Lists, one element further -/
theorem take_up {l : List α} {k : Nat} (hk : k < l.length) : l.take (k + 1) = l.take k ++ [l[k]] := List.take_succ_eq_append_getElem hk
theorem all_up {l : List α} {k : Nat} {p : α → Prop} (hk : k < l.length) (h : ∀ x ∈ l.take k, p x) (hx : p l[k]) : ∀ x ∈ l.take (k + 1), p x := by
  intro x hx'
  rw [take_up hk, List.mem_append] at hx'
  rcases hx' with h1 | h1
  · exact h x h1
  · simp only [List.mem_singleton] at h1
    subst h1
    exact hx
theorem all_done {l : List α} {k : Nat} {p : α → Prop} (hk : ¬ k < l.length) (h : ∀ x ∈ l.take k, p x) : ∀ x ∈ l, p x := by
  rwa [List.take_of_length_le (by omega)] at h
theorem foldl_up {l : List α} {k : Nat} {f : β → α → β} {b : β} (hk : k < l.length) : (l.take (k + 1)).foldl f b = f ((l.take k).foldl f b) l[k] := by rw [take_up hk, List.foldl_append]; rfl
theorem flatMap_up {l : List α} {k : Nat} {f : α → List β} (hk : k < l.length) : (l.take (k + 1)).flatMap f = (l.take k).flatMap f ++ f l[k] := by rw [take_up hk, List.flatMap_append]; simp
theorem map_up {l : List α} {k : Nat} {f : α → β} (hk : k < l.length) : (l.take (k + 1)).map f = (l.take k).map f ++ [f l[k]] := by rw [take_up hk, List.map_append]; rfl
theorem filter_up {l : List α} {k : Nat} {f : α → Bool} (hk : k < l.length) : (l.take (k + 1)).filter f = (l.take k).filter f ++ (if f l[k] then [l[k]] else []) := by
  rw [take_up hk, List.filter_append, List.filter_cons, List.filter_nil]
theorem take_done {l : List α} {k : Nat} (hk : ¬ k < l.length) : l.take k = l := List.take_of_length_le (by omega)

/-! ### What an own slice's growth leaves alone -/
theorem Ext.own {E : Enc α} {w0 w w' : World} {B : Nat} {s : Sl} {l : List α} (hx : Ext w0 w) (ho : OwnSl E w B s l) (hB : w0.heap.size ≤ B) (hg : w.grownBy w' s.blk) : Ext w0 w' :=
  below_grown hx hx.size hg fun r hr => Nat.le_trans hB (ho.ge r hr)

theorem Ext.grown' {w0 w w' : World} {g : Nat} (hx : Ext w0 w) (hg : w.grownBy w' (some g)) (h : w0.heap.size ≤ g) : Ext w0 w' :=
  below_grown hx hx.size hg fun r hr => by cases hr; exact h
/-- A literal of one element. -/
theorem lit1_ty {E : Enc α} {t : TypeId} (by_ : Nat) {v : Value} {x : α} {K : Sl → World → Prop} (B : Nat) (ht : appOk P t (elemT P t) E.sz by_ = true) (hle : E.sz ≤ 1024)
    (hr : ∀ w : World, (Instr.buildSlice t 1 #[(0, v)]).run P w = .ok (.slice (some ⟨w.heap.size, 0, none⟩) 1 1) (w.alloc (.cells ⟨[x].flatMap E.cs⟩ (elemT P t)))) (hB : B ≤ w.heap.size)
    (hK : ∀ s w', s.a = some ⟨w.heap.size, 0, none⟩ → OwnSl E w' B s [x] → Ext w w' → K s w') : opTy P (Instr.buildSlice t 1 #[(0, v)]) Sl.val K w :=
  lit_ty by_ B ht rfl (by omega) hr hB hK
/-- append(out, x). -/
theorem push_ty {E : Enc α} {t : TypeId} (by_ : Nat) {v : Value} (x : α) {B : Nat} {out : Sl} {l : List α} {K : Sl → World → Prop} (ht : appOk P t (elemT P t) E.sz by_ = true) (hs : isSlT P t = true) (hle : E.sz ≤ 1024)
    (hr : ∀ w : World, (Instr.buildSlice t 1 #[(0, v)]).run P w = .ok (.slice (some ⟨w.heap.size, 0, none⟩) 1 1) (w.alloc (.cells ⟨[x].flatMap E.cs⟩ (elemT P t))))
    (ho : OwnSl E w B out l) (hB : B ≤ w.heap.size) (hby : 0 < by_) (hbytes : (l.length + 1) * by_ ≤ 140737488355328)
    (hK : ∀ s' w', OwnSl E w' B s' (l ++ [x]) → w.grownBy w' out.blk → K s' w') :
    opTy P (Instr.buildSlice t 1 #[(0, v)]) Sl.val (fun t6 w7 => opTy P (Builtin.append_ #[t, t] t #[out.val, t6.val]) Sl.val K w7) w := by
  refine lit1_ty by_ B ht hle hr hB fun s1 w1 _ ho1 hx1 => ?_
  refine app_ty by_ ht hs (ho.ext hx1) ho1.is (by simpa using hbytes) (Nat.le_trans hB hx1.size) hby fun s2 w2 ho2 hg2 => ?_
  exact hK _ _ ho2 (grown_trans (grown_ext hx1 _) hg2)
end Go.Vc
