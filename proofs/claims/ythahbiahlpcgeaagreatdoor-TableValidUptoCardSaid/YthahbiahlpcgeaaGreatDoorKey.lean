/-
  Plain laws on the key of a word: the digits at base 36, and that no two words have the same key. No program in sight.
-/
namespace Go.Proofs.YthahbiahlpcgeaaGreatDoor

/-- The digit of a number below 36. -/
def dig36 (d : Nat) : UInt8 := if d < 10 then UInt8.ofNat (48 + d) else UInt8.ofNat (87 + d)

/-- The digits of a number at base 36, at most so many. -/
def digsF : Nat → Nat → List UInt8
  | 0, u => [dig36 u]
  | f + 1, u => if u < 36 then [dig36 u] else digsF f (u / 36) ++ [dig36 (u % 36)]

theorem digsF_more : ∀ (f g u : Nat), u ≤ f → u ≤ g → digsF f u = digsF g u
  | 0, 0, _, _, _ => rfl
  | 0, g + 1, u, h, _ => by
    have h0 : u = 0 := by omega
    subst h0
    rfl
  | f + 1, 0, u, _, h => by
    have h0 : u = 0 := by omega
    subst h0
    rfl
  | f + 1, g + 1, u, h1, h2 => by
    unfold digsF
    by_cases h : u < 36
    · rw [if_pos h, if_pos h]
    · rw [if_neg h, if_neg h, digsF_more f g (u / 36) (by omega) (by omega)]

/-- The digits of a number at base 36. -/
def digs (u : Nat) : List UInt8 := digsF u u

theorem digs_small {u : Nat} (h : u < 36) : digs u = [dig36 u] := by
  unfold digs
  cases u with
  | zero => rfl
  | succ u => unfold digsF; rw [if_pos h]
theorem digs_big {u : Nat} (h : 36 ≤ u) : digs u = digs (u / 36) ++ [dig36 (u % 36)] := by
  obtain ⟨v, rfl⟩ : ∃ v, u = v + 1 := ⟨u - 1, by omega⟩
  show digsF (v + 1) (v + 1) = digsF ((v + 1) / 36) ((v + 1) / 36) ++ [dig36 ((v + 1) % 36)]
  rw [digsF, if_neg (by omega), digsF_more v ((v + 1) / 36) ((v + 1) / 36) (by omega) (Nat.le_refl _)]

theorem digs_len : ∀ (k u : Nat), u < 36 ^ (k + 1) → (digs u).length ≤ k + 1
  | 0, u, h => by rw [digs_small (by simpa using h)]; simp
  | k + 1, u, h => by
    by_cases h1 : u < 36
    · rw [digs_small h1]; simp
    · rw [digs_big (by omega), List.length_append]
      have := digs_len k (u / 36) (by rw [Nat.div_lt_iff_lt_mul (by omega), ← Nat.pow_succ]; exact h)
      simp; omega

theorem digs_len13 {u : Nat} (h : u < 18446744073709551616) : (digs u).length ≤ 13 :=
  digs_len 12 u (Nat.lt_of_lt_of_le h (by decide))

theorem digs_pos (u : Nat) : 0 < (digs u).length := by
  by_cases h1 : u < 36
  · rw [digs_small h1]; simp
  · rw [digs_big (by omega)]; simp

/-- The number of a digit. -/
def undig (c : UInt8) : Nat := if c.toNat < 58 then c.toNat - 48 else c.toNat - 87

theorem undig_dig {d : Nat} (h : d < 36) : undig (dig36 d) = d := by
  have : ∀ d : Fin 36, undig (dig36 d.1) = d.1 := by decide
  exact this ⟨d, h⟩

theorem dig_char {d : Nat} (h : d < 36) : 48 ≤ (dig36 d).toNat := by
  have : ∀ d : Fin 36, 48 ≤ (dig36 d.1).toNat := by decide
  exact this ⟨d, h⟩

def undigs (l : List UInt8) : Nat := l.foldl (fun n c => n * 36 + undig c) 0

theorem undigs_digs (u : Nat) : undigs (digs u) = u := by
  induction u using Nat.strongRecOn with
  | _ u ih =>
    by_cases h1 : u < 36
    · rw [digs_small h1]; simp [undigs, undig_dig h1]
    · rw [digs_big (by omega), undigs, List.foldl_append]
      have := ih (u / 36) (by omega)
      rw [undigs] at this
      simp only [List.foldl_cons, List.foldl_nil, this, undig_dig (Nat.mod_lt u (by omega))]
      omega

theorem digs_inj {u v : Nat} (h : digs u = digs v) : u = v := by rw [← undigs_digs u, h, undigs_digs]

theorem digs_char (u : Nat) : ∀ c ∈ digs u, 48 ≤ c.toNat := by
  induction u using Nat.strongRecOn with
  | _ u ih =>
    by_cases h1 : u < 36
    · rw [digs_small h1]
      intro c hc
      simp at hc
      rw [hc]; exact dig_char h1
    · rw [digs_big (by omega)]
      intro c hc
      rw [List.mem_append] at hc
      rcases hc with hc | hc
      · exact ih (u / 36) (by omega) c hc
      · simp at hc
        rw [hc]; exact dig_char (Nat.mod_lt u (by omega))

/-- The text of a number at base 36. -/
def enc36 (a : Int) : List UInt8 := if a < 0 then 45 :: digs a.natAbs else digs a.natAbs

theorem enc36_char (a : Int) : ∀ c ∈ enc36 a, c ≠ 32 := by
  intro c hc e
  subst e
  unfold enc36 at hc
  split at hc
  · simp only [List.mem_cons] at hc
    rcases hc with hc | hc
    · exact absurd hc (by decide)
    · have := digs_char _ _ hc
      exact absurd this (by decide)
  · have := digs_char _ _ hc
    exact absurd this (by decide)

theorem enc36_inj {a b : Int} (h : enc36 a = enc36 b) : a = b := by
  have hne : ∀ u v : Nat, 45 :: digs u ≠ digs v := fun u v e => by
    have := digs_char v 45 (by rw [← e]; simp)
    exact absurd this (by decide)
  unfold enc36 at h
  split at h <;> split at h
  · injection h with _ h
    have := digs_inj h
    omega
  · exact absurd h (hne _ _)
  · exact absurd h.symm (hne _ _)
  · have := digs_inj h
    omega

theorem enc36_len {a : Int} (h1 : -9223372036854775808 ≤ a) (h2 : a ≤ 9223372036854775807) : (enc36 a).length ≤ 14 := by
  have := digs_len13 (u := a.natAbs) (by omega)
  unfold enc36
  split <;> simp <;> omega

/-- The key of a word. -/
def keyL : List Int → List UInt8
  | [] => []
  | a :: xs => enc36 a ++ 32 :: keyL xs

theorem keyL_append : ∀ xs ys : List Int, keyL (xs ++ ys) = keyL xs ++ keyL ys
  | [], _ => rfl
  | a :: xs, ys => by simp [keyL, keyL_append xs ys]

theorem split_at {c : UInt8} : ∀ {xs ys rs ss : List UInt8}, (∀ d ∈ xs, d ≠ c) → (∀ d ∈ ys, d ≠ c) → xs ++ c :: rs = ys ++ c :: ss → xs = ys ∧ rs = ss
  | [], [], rs, ss, _, _, h => by simpa using h
  | [], y :: ys, rs, ss, _, h2, h => by
    simp at h
    exact absurd h.1.symm (h2 y (by simp))
  | x :: xs, [], rs, ss, h1, _, h => by
    simp at h
    exact absurd h.1 (h1 x (by simp))
  | x :: xs, y :: ys, rs, ss, h1, h2, h => by
    simp only [List.cons_append, List.cons.injEq] at h
    obtain ⟨e1, e2⟩ := split_at (fun d hd => h1 d (by simp [hd])) (fun d hd => h2 d (by simp [hd])) h.2
    exact ⟨by rw [h.1, e1], e2⟩

theorem keyL_inj : ∀ {xs ys : List Int}, keyL xs = keyL ys → xs = ys
  | [], [], _ => rfl
  | [], a :: ys, h => by simp [keyL] at h
  | a :: xs, [], h => by simp [keyL] at h
  | a :: xs, b :: ys, h => by
    simp only [keyL] at h
    obtain ⟨e1, e2⟩ := split_at (enc36_char a) (enc36_char b) h
    rw [enc36_inj e1, keyL_inj e2]

theorem keyL_len : ∀ {xs : List Int}, (∀ x ∈ xs, -9223372036854775808 ≤ x ∧ x ≤ 9223372036854775807) → (keyL xs).length ≤ 15 * xs.length
  | [], _ => by simp [keyL]
  | a :: xs, h => by
    have h1 := keyL_len (xs := xs) fun x hx => h x (by simp [hx])
    have h2 := h a (by simp)
    have h3 := enc36_len h2.1 h2.2
    simp only [keyL, List.length_append, List.length_cons]
    omega

end Go.Proofs.YthahbiahlpcgeaaGreatDoor
