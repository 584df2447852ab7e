/-
  Texts in quotes: plain Lean over the words of 'Rune'.
-/
import Derived.Test.YtnnoalpkldpjfaaGreatDoorMY
import Derived.Test.YtnnoalpkldpjfaaGreatDoorMY
set_option maxRecDepth 20000
namespace Go.Vc
/-- What a text's first rune is in quotes. -/
def qItem (l : List UInt8) : List UInt8 :=
  if (dec l).1 = 0 ∨ (dec l).2 < 32 ∨ (dec l).2 = 127 then [92, 120, dig ((l.headD 0).toNat / 16), dig ((l.headD 0).toNat % 16)]
  else if (dec l).2 = 34 ∨ (dec l).2 = 92 then 92 :: l.take 1
  else l.take (dec l).1
def quoteL (l : List UInt8) : List UInt8 :=
  if h : l = [] then [] else qItem l ++ quoteL (l.drop (uStep l).2)
termination_by l.length
decreasing_by
  have := uStep_pos l
  have := List.length_pos_iff.2 h
  rw [List.length_drop]; omega
theorem quoteL_nil : quoteL [] = [] := by rw [quoteL]; simp
theorem quoteL_on {l : List UInt8} (h : l ≠ []) : quoteL l = qItem l ++ quoteL (l.drop (uStep l).2) := by rw [quoteL, dif_neg h]
def quote (s : List UInt8) : List UInt8 := 34 :: quoteL s ++ [34]

/-- A hexadecimal digit's number. -/
def hexV (c : UInt8) : Option Nat := if 48 ≤ c.toNat ∧ c.toNat ≤ 57 then some (c.toNat - 48) else if 97 ≤ c.toNat ∧ c.toNat ≤ 102 then some (c.toNat - 87) else none
theorem hexV_lt {c : UInt8} {v : Nat} (h : hexV c = some v) : v < 16 := by
  unfold hexV at h
  split at h
  · cases h; omega
  · split at h
    · cases h; omega
    · cases h
theorem hexV_dig {n : Nat} (h : n < 16) : hexV (dig n) = some n := by
  have key : ∀ m : Fin 16, hexV (dig m.val) = some m.val := by decide +kernel
  exact key ⟨n, h⟩
/-- What stands in quotes, without them. -/
def unqL : List UInt8 → Option (List UInt8)
  | [] => some []
  | c :: t =>
    if c ≠ 92 then (unqL t).map (c :: ·)
    else match t with
      | [] => none
      | d :: t1 =>
        if d = 34 ∨ d = 92 then (unqL t1).map (d :: ·)
        else match t1 with
          | h1 :: h2 :: t2 =>
            if d = 120 then
              match hexV h1, hexV h2 with
              | some a, some b => (unqL t2).map (b8 (16 * a + b) :: ·)
              | _, _ => none
            else none
          | _ => none
theorem unqL_raw : ∀ {xs : List UInt8} (_ : ∀ x ∈ xs, x ≠ 92) (r : List UInt8), unqL (xs ++ r) = (unqL r).map (xs ++ ·)
  | [], _, r => by simp
  | x :: xs, h, r => by
    have e : unqL (x :: (xs ++ r)) = (unqL (xs ++ r)).map (x :: ·) := by
      rw [unqL.eq_def]
      exact if_pos (h x (by simp))
    rw [List.cons_append, e, unqL_raw (fun y hy => h y (by simp [hy]))]
    cases unqL r <;> simp
theorem unqL_esc {d : UInt8} {r : List UInt8} (h : d = 34 ∨ d = 92) : unqL (92 :: d :: r) = (unqL r).map (d :: ·) := by
  rw [unqL.eq_def]
  dsimp only
  rw [if_neg (by simp), if_pos h]
theorem unqL_hex {a b : Nat} {r : List UInt8} (ha : a < 16) (hb : b < 16) : unqL (92 :: 120 :: dig a :: dig b :: r) = (unqL r).map (b8 (16 * a + b) :: ·) := by
  rw [unqL.eq_def]
  dsimp only
  rw [if_neg (by simp), if_neg (by decide), if_pos rfl, hexV_dig ha, hexV_dig hb]
/-- What the first rune is. -/
theorem rune_cases {l : List UInt8} (h : l ≠ []) : ∃ c r, l = c :: r ∧ ((dec l).1 = 0 ∧ (uStep l).2 = 1 ∧ 128 ≤ c.toNat ∨ (dec l).1 = 1 ∧ (uStep l).2 = 1 ∧ (dec l).2 = c.toNat ∧ c.toNat < 128 ∨
    2 ≤ (dec l).1 ∧ (uStep l).2 = (dec l).1 ∧ 128 ≤ (dec l).2 ∧ ∀ b ∈ l.take (dec l).1, 128 ≤ b.toNat) := by
  match l, h with
  | c :: r, _ =>
    refine ⟨c, r, rfl, ?_⟩
    by_cases h0 : (dec (c :: r)).1 = 0
    · exact .inl ⟨h0, by rw [uStep_bad h0], dec_none h0⟩
    · by_cases h1 : (dec (c :: r)).1 = 1
      · obtain ⟨a, t, e, k1, k2⟩ := dec_one h1
        cases e
        exact .inr (.inl ⟨h1, by rw [uStep_good h0]; exact h1, k2, k1⟩)
      · obtain ⟨k1, k2⟩ := dec_great (l := c :: r) (by omega)
        exact .inr (.inr ⟨by omega, by rw [uStep_good h0], k2, k1⟩)
/-- An item of quotes: raw bytes, an escaped byte, or a byte's number. -/
theorem qItem_cases {l : List UInt8} (h : l ≠ []) : (qItem l = l.take (uStep l).2 ∧ ∀ x ∈ l.take (uStep l).2, x ≠ 92 ∧ x ≠ 34 ∧ 32 ≤ x.toNat) ∨
    (∃ c r, l = c :: r ∧ (uStep l).2 = 1 ∧ ((c = 34 ∨ c = 92) ∧ qItem l = [92, c] ∨ qItem l = [92, 120, dig (c.toNat / 16), dig (c.toNat % 16)])) := by
  obtain ⟨c, r, rfl, hc⟩ := rune_cases h
  have n92 : ∀ {x : UInt8}, x.toNat ≠ 92 → x ≠ 92 := fun h e => h (by rw [e]; rfl)
  have n34 : ∀ {x : UInt8}, x.toNat ≠ 34 → x ≠ 34 := fun h e => h (by rw [e]; rfl)
  rcases hc with ⟨h0, h1, h2⟩ | ⟨h0, h1, h2, h3⟩ | ⟨h0, h1, h2, h3⟩
  · exact .inr ⟨c, r, rfl, h1, .inr (by unfold qItem; rw [if_pos (.inl h0)]; rfl)⟩
  · by_cases hx : (dec (c :: r)).2 < 32 ∨ (dec (c :: r)).2 = 127
    · exact .inr ⟨c, r, rfl, h1, .inr (by unfold qItem; rw [if_pos (.inr hx)]; rfl)⟩
    · by_cases hq : (dec (c :: r)).2 = 34 ∨ (dec (c :: r)).2 = 92
      · refine .inr ⟨c, r, rfl, h1, .inl ⟨?_, by unfold qItem; rw [if_neg (by omega), if_pos hq]; rfl⟩⟩
        rw [h2] at hq
        rcases hq with hq | hq
        · exact .inl (UInt8.toNat_inj.1 hq)
        · exact .inr (UInt8.toNat_inj.1 hq)
      · refine .inl ⟨by unfold qItem; rw [if_neg (by omega), if_neg hq, h0, h1], fun x hx' => ?_⟩
        rw [h1] at hx'
        simp at hx'
        subst hx'
        exact ⟨n92 (by omega), n34 (by omega), by omega⟩
  · refine .inl ⟨by unfold qItem; rw [if_neg (by omega), if_neg (by omega), h1], fun x hx => ?_⟩
    rw [h1] at hx
    have := h3 x hx
    exact ⟨n92 (by omega), n34 (by omega), by omega⟩
theorem unqL_quoteL (l : List UInt8) (r : List UInt8) : unqL (quoteL l ++ r) = (unqL r).map (l ++ ·) := by
  by_cases h : l = []
  · subst h; rw [quoteL_nil]; simp
  · have hs := uStep_pos l
    have hl := List.length_pos_iff.2 h
    have ih := unqL_quoteL (l.drop (uStep l).2) r
    rw [quoteL_on h, List.append_assoc]
    rcases qItem_cases h with ⟨h1, h2⟩ | ⟨c, t, rfl, h1, h2⟩
    · rw [h1, unqL_raw (fun x hx => (h2 x hx).1), ih]
      cases unqL r with
      | none => rfl
      | some o =>
        simp only [Option.map_some]
        rw [← List.append_assoc, List.take_append_drop]
    · rw [h1] at ih ⊢
      rcases h2 with ⟨h2, h3⟩ | h3
      · rw [h3]
        show unqL (92 :: c :: (quoteL (List.drop 1 (c :: t)) ++ r)) = _
        rw [unqL_esc h2, ih]
        cases unqL r <;> rfl
      · rw [h3]
        show unqL (92 :: 120 :: dig (c.toNat / 16) :: dig (c.toNat % 16) :: (quoteL (List.drop 1 (c :: t)) ++ r)) = _
        have hlt := c.toNat_lt
        rw [unqL_hex (by omega) (by omega), ih, show 16 * (c.toNat / 16) + c.toNat % 16 = c.toNat by omega]
        cases unqL r
        · rfl
        · simp [b8]
termination_by l.length
decreasing_by
  rw [List.length_drop]; omega
/-- The text of one in quotes. -/
def unquote (s : List UInt8) : Option (List UInt8) :=
  if s.length < 2 then none else
    match unqL ((s.drop 1).take (s.length - 2)) with
    | none => none
    | some o => if quote o = s then some o else none
theorem quote_len (s : List UInt8) : (quote s).length = (quoteL s).length + 2 := by simp [quote]
theorem quote_inner (s : List UInt8) : ((quote s).drop 1).take ((quote s).length - 2) = quoteL s := by
  rw [quote_len]
  simp [quote]
theorem unquote_quote (s : List UInt8) : unquote (quote s) = some s := by
  unfold unquote
  rw [if_neg (by rw [quote_len]; omega), quote_inner]
  have := unqL_quoteL s []
  rw [List.append_nil] at this
  rw [this]
  simp [unqL]
theorem unquote_some {s o : List UInt8} (h : unquote s = some o) : quote o = s := by
  unfold unquote at h
  split at h
  · cases h
  · split at h
    · cases h
    · split at h
      · cases h; assumption
      · cases h
theorem quote_inj {s t : List UInt8} (h : quote s = quote t) : s = t := by
  have := unquote_quote s
  rw [h, unquote_quote] at this
  exact (Option.some.inj this).symm
theorem qItem_len {l : List UInt8} (h : l ≠ []) : (qItem l).length ≤ 4 * (uStep l).2 := by
  have hs := uStep_pos l
  rcases qItem_cases h with ⟨h1, _⟩ | ⟨c, t, _, h1, h2⟩
  · rw [h1, List.length_take]; omega
  · rcases h2 with ⟨_, h2⟩ | h2
    · rw [h2, h1]; simp
    · rw [h2, h1]; simp
theorem quoteL_len (l : List UInt8) : (quoteL l).length ≤ 4 * l.length := by
  by_cases h : l = []
  · subst h; rw [quoteL_nil]; simp
  · have hs := uStep_pos l
    have hl := List.length_pos_iff.2 h
    have ih := quoteL_len (l.drop (uStep l).2)
    have h4 := qItem_len h
    have hle := uStep_le h
    rw [quoteL_on h, List.length_append]
    rw [List.length_drop] at ih
    omega
termination_by l.length
decreasing_by
  rw [List.length_drop]; omega

/-! ### Words of a line -/
/-- Where the quotes end with which a text goes on (behind its first sign): how many signs, or none. -/
def quotedL : List UInt8 → Option Nat
  | [] => none
  | c :: t =>
    if c = 92 then
      match t with
      | [] => none
      | _ :: t1 => (quotedL t1).map (· + 2)
    else if c = 34 then some 1 else (quotedL t).map (· + 1)
theorem quotedL_34 (t : List UInt8) : quotedL (34 :: t) = some 1 := by
  rw [quotedL.eq_def]
  rfl
theorem quotedL_92 (d : UInt8) (t : List UInt8) : quotedL (92 :: d :: t) = (quotedL t).map (· + 2) := by
  rw [quotedL.eq_def]
  rfl
theorem quotedL_x {c : UInt8} (h : c ≠ 92) (h2 : c ≠ 34) (t : List UInt8) : quotedL (c :: t) = (quotedL t).map (· + 1) := by
  rw [quotedL.eq_def]
  dsimp only
  rw [if_neg h, if_neg h2]
theorem quotedL_raw : ∀ {xs : List UInt8} (_ : ∀ x ∈ xs, x ≠ 92 ∧ x ≠ 34) (r : List UInt8), quotedL (xs ++ r) = (quotedL r).map (· + xs.length)
  | [], _, r => by simp
  | x :: xs, h, r => by
    rw [List.cons_append, quotedL_x (h x (by simp)).1 (h x (by simp)).2, quotedL_raw (fun y hy => h y (by simp [hy]))]
    cases quotedL r
    · rfl
    · simp; omega
theorem dig_ne {n : Nat} (h : n < 16) : dig n ≠ 92 ∧ dig n ≠ 34 := by
  have key : ∀ m : Fin 16, dig m.val ≠ 92 ∧ dig m.val ≠ 34 := by decide +kernel
  exact key ⟨n, h⟩
/-- The quotes of a text end where they end. -/
theorem quotedL_quoteL (l : List UInt8) (r : List UInt8) : quotedL (quoteL l ++ r) = (quotedL r).map (· + (quoteL l).length) := by
  by_cases h : l = []
  · subst h; rw [quoteL_nil]; simp
  · have hs := uStep_pos l
    have hl := List.length_pos_iff.2 h
    have ih := quotedL_quoteL (l.drop (uStep l).2) r
    rw [quoteL_on h, List.append_assoc]
    rcases qItem_cases h with ⟨h1, h2⟩ | ⟨c, t, rfl, h1, h2⟩
    · rw [h1, quotedL_raw (fun x hx => ⟨(h2 x hx).1, (h2 x hx).2.1⟩), ih]
      cases quotedL r
      · rfl
      · simp only [Option.map_some, List.length_append]
        congr 1
        omega
    · rcases h2 with ⟨h2, h3⟩ | h3
      · rw [h3]
        show quotedL (92 :: c :: (quoteL (List.drop (uStep (c :: t)).2 (c :: t)) ++ r)) = _
        rw [quotedL_92, ih]
        cases quotedL r
        · rfl
        · simp only [Option.map_some, List.length_append, List.length_cons, List.length_nil]
          congr 1
          omega
      · have hlt := c.toNat_lt
        rw [h3]
        show quotedL (92 :: 120 :: dig (c.toNat / 16) :: dig (c.toNat % 16) :: (quoteL (List.drop (uStep (c :: t)).2 (c :: t)) ++ r)) = _
        obtain ⟨a1, a2⟩ := dig_ne (n := c.toNat / 16) (by omega)
        obtain ⟨b1, b2⟩ := dig_ne (n := c.toNat % 16) (by omega)
        rw [quotedL_92, quotedL_x a1 a2, quotedL_x b1 b2, ih]
        cases quotedL r
        · rfl
        · simp only [Option.map_some, List.length_append, List.length_cons, List.length_nil]
          congr 1
          omega
termination_by l.length
decreasing_by
  rw [List.length_drop]; omega
theorem quotedL_le : ∀ {l : List UInt8} {n : Nat}, quotedL l = some n → n ≤ l.length ∧ 0 < n
  | [], n, h => by simp [quotedL] at h
  | c :: t, n, h => by
    rw [quotedL.eq_def] at h
    dsimp only at h
    split at h
    · match t, h with
      | d :: t1, h =>
        simp only [Option.map_eq_some_iff] at h
        obtain ⟨m, h1, rfl⟩ := h
        have := quotedL_le h1
        simp only [List.length_cons]
        omega
    · split at h
      · cases h; simp
      · simp only [Option.map_eq_some_iff] at h
        obtain ⟨m, h1, rfl⟩ := h
        have := quotedL_le h1
        simp only [List.length_cons]
        omega
end Go.Vc
