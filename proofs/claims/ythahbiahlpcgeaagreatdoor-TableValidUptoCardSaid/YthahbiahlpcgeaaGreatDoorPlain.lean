/-
  Plain functions on words (lists of integers) and lists of words, and their laws: no program in sight.
-/
namespace Go.Proofs.YthahbiahlpcgeaaGreatDoor

/-- The length of the longest common prefix. -/
def common : List Int → List Int → Nat
  | x :: xs, y :: ys => if x = y then common xs ys + 1 else 0
  | _, _ => 0

theorem common_le : ∀ xs ys : List Int, common xs ys ≤ xs.length ∧ common xs ys ≤ ys.length
  | [], _ => by simp [common]
  | _ :: _, [] => by simp [common]
  | x :: xs, y :: ys => by
    have h := common_le xs ys
    simp only [common]
    split <;> simp <;> omega

theorem common_same (xs ys : List Int) : common xs ys = common (xs.drop 0) (ys.drop 0) + 0 := by simp

theorem common_step {xs ys : List Int} {k : Nat} (h1 : k < xs.length) (h2 : k < ys.length) (he : xs.getD k 0 = ys.getD k 0) :
    common (xs.drop k) (ys.drop k) = common (xs.drop (k + 1)) (ys.drop (k + 1)) + 1 := by
  rw [List.drop_eq_getElem_cons h1, List.drop_eq_getElem_cons h2]
  simp only [common]
  rw [if_pos (by simpa [List.getD_eq_getElem?_getD, h1, h2] using he)]

theorem common_stop {xs ys : List Int} {k : Nat} (h1 : k < xs.length) (h2 : k < ys.length) (he : xs.getD k 0 ≠ ys.getD k 0) :
    common (xs.drop k) (ys.drop k) = 0 := by
  rw [List.drop_eq_getElem_cons h1, List.drop_eq_getElem_cons h2]
  simp only [common]
  rw [if_neg (by simpa [List.getD_eq_getElem?_getD, h1, h2] using he)]

theorem common_end {xs ys : List Int} {k : Nat} (h : xs.length ≤ k ∨ ys.length ≤ k) : common (xs.drop k) (ys.drop k) = 0 := by
  rcases h with h | h
  · rw [List.drop_eq_nil_of_le h]; simp [common]
  · rw [List.drop_eq_nil_of_le h]; cases xs.drop k <;> simp [common]

theorem common_self : ∀ xs : List Int, common xs xs = xs.length
  | [] => rfl
  | x :: xs => by simp [common, common_self xs]

theorem common_full : ∀ xs ys : List Int, common xs ys = xs.length → common xs ys = ys.length → xs = ys
  | [], [], _, _ => rfl
  | [], y :: ys, _, h => by simp [common] at h
  | x :: xs, [], h, _ => by simp [common] at h
  | x :: xs, y :: ys, h1, h2 => by
    simp only [common] at h1 h2
    split at h1
    · rename_i he
      subst he
      simp at h1 h2
      rw [common_full xs ys h1 h2]
    · simp at h1

/-- 'Same' of the reference. -/
theorem same_iff (xs ys : List Int) : (xs.length = ys.length ∧ common xs ys = xs.length) ↔ xs = ys := by
  constructor
  · rintro ⟨h1, h2⟩
    exact common_full xs ys h2 (by omega)
  · rintro rfl
    exact ⟨rfl, common_self xs⟩

/-- 'HasPrefix': the second is a prefix of the first. -/
theorem prefix_iff : ∀ w p : List Int, common w p = p.length ↔ p <+: w
  | [], [] => by simp [common]
  | [], y :: ys => by simp [common]
  | x :: xs, [] => by simp [common]
  | x :: xs, y :: ys => by
    simp only [common, List.length_cons, List.cons_prefix_cons]
    by_cases h : x = y
    · subst h
      simp [prefix_iff xs ys]
    · rw [if_neg h]
      constructor
      · intro h'; omega
      · rintro ⟨rfl, _⟩; exact absurd rfl h

/-- Dictionary order: -1, 0 or 1. -/
def lexI : List Int → List Int → Int
  | [], [] => 0
  | [], _ :: _ => -1
  | _ :: _, [] => 1
  | x :: xs, y :: ys => if x < y then -1 else if y < x then 1 else lexI xs ys

/-- Shortlex order: -1, 0 or 1. -/
def cmpW (a b : List Int) : Int := if a.length < b.length then -1 else if b.length < a.length then 1 else lexI a b

theorem lexI_range : ∀ a b : List Int, lexI a b = -1 ∨ lexI a b = 0 ∨ lexI a b = 1
  | [], [] => by simp [lexI]
  | [], _ :: _ => by simp [lexI]
  | _ :: _, [] => by simp [lexI]
  | x :: xs, y :: ys => by
    simp only [lexI]
    split
    · simp
    · split
      · simp
      · exact lexI_range xs ys

theorem lexI_zero : ∀ a b : List Int, lexI a b = 0 ↔ a = b
  | [], [] => by simp [lexI]
  | [], _ :: _ => by simp [lexI]
  | _ :: _, [] => by simp [lexI]
  | x :: xs, y :: ys => by
    simp only [lexI, List.cons.injEq]
    by_cases h1 : x < y
    · rw [if_pos h1]; constructor
      · intro h; omega
      · rintro ⟨rfl, _⟩; omega
    · rw [if_neg h1]
      by_cases h2 : y < x
      · rw [if_pos h2]; constructor
        · intro h; omega
        · rintro ⟨rfl, _⟩; omega
      · rw [if_neg h2, lexI_zero xs ys]
        constructor
        · intro h; exact ⟨by omega, h⟩
        · rintro ⟨_, h⟩; exact h

theorem lexI_refl (a : List Int) : lexI a a = 0 := (lexI_zero a a).2 rfl

theorem lexI_swap : ∀ a b : List Int, lexI b a = - lexI a b
  | [], [] => by simp [lexI]
  | [], _ :: _ => by simp [lexI]
  | _ :: _, [] => by simp [lexI]
  | x :: xs, y :: ys => by
    simp only [lexI]
    by_cases h1 : x < y
    · rw [if_neg (show ¬ y < x by omega), if_pos h1, if_pos h1]; simp
    · by_cases h2 : y < x
      · rw [if_pos h2, if_neg h1, if_pos h2]
      · rw [if_neg h2, if_neg h1, if_neg h1, if_neg h2]; exact lexI_swap xs ys

theorem lexI_trans : ∀ a b c : List Int, lexI a b = -1 → lexI b c = -1 → lexI a c = -1
  | [], [], _, h, _ => by simp [lexI] at h
  | [], _ :: _, [], _, h => by simp [lexI] at h
  | [], _ :: _, _ :: _, _, _ => by simp [lexI]
  | _ :: _, [], _, h, _ => by simp [lexI] at h
  | _ :: _, _ :: _, [], _, h => by simp [lexI] at h
  | x :: xs, y :: ys, z :: zs, h1, h2 => by
    simp only [lexI] at h1 h2 ⊢
    by_cases p : x < y
    · by_cases q : y < z
      · rw [if_pos (by omega)]
      · rw [if_neg q] at h2
        by_cases r : z < y
        · rw [if_pos r] at h2; omega
        · rw [if_pos (by omega)]
    · rw [if_neg p] at h1
      by_cases p' : y < x
      · rw [if_pos p'] at h1; omega
      · rw [if_neg p'] at h1
        by_cases q : y < z
        · rw [if_pos (by omega)]
        · rw [if_neg q] at h2
          by_cases r : z < y
          · rw [if_pos r] at h2; omega
          · rw [if_neg r] at h2
            rw [if_neg (by omega), if_neg (by omega)]
            exact lexI_trans xs ys zs h1 h2

/-- 'Lex' of the reference, by the common prefix. -/
theorem lexI_common : ∀ a b : List Int, lexI a b =
    if common a b = a.length ∧ common a b = b.length then 0 else
    if common a b = a.length ∨ (common a b < b.length ∧ a.getD (common a b) 0 < b.getD (common a b) 0) then -1 else 1
  | [], [] => by simp [lexI, common]
  | [], _ :: _ => by simp [lexI, common]
  | _ :: _, [] => by simp [lexI, common]
  | x :: xs, y :: ys => by
    have ih := lexI_common xs ys
    simp only [lexI, common]
    by_cases h : x = y
    · subst h
      rw [if_neg (by omega), if_neg (by omega), ih]
      simp
    · by_cases h1 : x < y
      · simp [h, h1]
      · have h2 : y < x := by omega
        simp [h, h1, h2]

theorem cmpW_range (a b : List Int) : cmpW a b = -1 ∨ cmpW a b = 0 ∨ cmpW a b = 1 := by
  unfold cmpW
  split
  · simp
  · split
    · simp
    · exact lexI_range a b

theorem cmpW_zero (a b : List Int) : cmpW a b = 0 ↔ a = b := by
  unfold cmpW
  by_cases h1 : a.length < b.length
  · rw [if_pos h1]; constructor
    · intro h; omega
    · rintro rfl; omega
  · rw [if_neg h1]
    by_cases h2 : b.length < a.length
    · rw [if_pos h2]; constructor
      · intro h; omega
      · rintro rfl; omega
    · rw [if_neg h2, lexI_zero]

theorem cmpW_refl (a : List Int) : cmpW a a = 0 := (cmpW_zero a a).2 rfl

theorem cmpW_swap (a b : List Int) : cmpW b a = - cmpW a b := by
  unfold cmpW
  by_cases h1 : a.length < b.length
  · rw [if_neg (by omega), if_pos h1, if_pos h1]; simp
  · by_cases h2 : b.length < a.length
    · rw [if_pos h2, if_neg h1, if_pos h2]
    · rw [if_neg h2, if_neg h1, if_neg h1, if_neg h2]; exact lexI_swap a b

theorem cmpW_trans (a b c : List Int) (h1 : cmpW a b = -1) (h2 : cmpW b c = -1) : cmpW a c = -1 := by
  unfold cmpW at *
  by_cases p : a.length < b.length
  · by_cases q : b.length < c.length
    · rw [if_pos (by omega)]
    · rw [if_neg q] at h2
      by_cases r : c.length < b.length
      · rw [if_pos r] at h2; omega
      · rw [if_pos (by omega)]
  · rw [if_neg p] at h1
    by_cases p' : b.length < a.length
    · rw [if_pos p'] at h1; omega
    · rw [if_neg p'] at h1
      by_cases q : b.length < c.length
      · rw [if_pos (by omega)]
      · rw [if_neg q] at h2
        by_cases r : c.length < b.length
        · rw [if_pos r] at h2; omega
        · rw [if_neg r] at h2
          rw [if_neg (by omega), if_neg (by omega)]
          exact lexI_trans a b c h1 h2

/-- Strictly ascending in shortlex order. -/
def Asc (l : List (List Int)) : Prop := l.Pairwise fun a b => cmpW a b = -1

/-- The length of the longest word. -/
def longestL (l : List (List Int)) : Nat := l.foldl (fun n w => max n w.length) 0

theorem longestL_snoc (l : List (List Int)) (x : List Int) : longestL (l ++ [x]) = max (longestL l) x.length := by simp [longestL]

theorem foldl_max_le (l : List (List Int)) : ∀ n b : Nat, (l.foldl (fun n w => max n w.length) n ≤ b ↔ n ≤ b ∧ ∀ x ∈ l, x.length ≤ b) := by
  induction l with
  | nil => intro n b; simp
  | cons y l ih =>
    intro n b
    rw [List.foldl_cons, ih]
    simp only [List.forall_mem_cons]
    constructor
    · rintro ⟨h1, h2⟩; exact ⟨by omega, by omega, h2⟩
    · rintro ⟨h1, h2, h3⟩; exact ⟨by omega, h3⟩

theorem longestL_le (l : List (List Int)) (b : Nat) : longestL l ≤ b ↔ ∀ x ∈ l, x.length ≤ b := by
  rw [longestL, foldl_max_le]; simp

/-- 'Great' of the reference. -/
def greatL (l : List (List Int)) (words symbols : Int) : Bool :=
  decide (words < l.length) || (l.take (words + 1).toNat).any fun x => decide (symbols < x.length)

theorem greatL_false {l : List (List Int)} {words symbols : Int} (h : greatL l words symbols = false) :
    (l.length : Int) ≤ words ∧ ∀ x ∈ l, (x.length : Int) ≤ symbols := by
  simp only [greatL, Bool.or_eq_false_iff, decide_eq_false_iff_not, List.any_eq_false] at h
  refine ⟨by omega, fun x hx => ?_⟩
  have h2 := h.2 x
  rw [List.take_of_length_le (by omega)] at h2
  have := h2 hx
  simp at this
  omega

/-- How many words of a sorted list are before a word. -/
def placeL (l : List (List Int)) (w : List Int) : Nat := (l.takeWhile fun x => cmpW x w == -1).length

theorem placeL_of : ∀ {l : List (List Int)} {w : List Int} {k : Nat}, k ≤ l.length → (∀ i x, i < k → l[i]? = some x → cmpW x w = -1) →
    (∀ x, l[k]? = some x → cmpW x w ≠ -1) → placeL l w = k
  | [], w, k, h, _, _ => by simp at h; subst h; rfl
  | y :: l, w, 0, _, _, h2 => by
    have := h2 y (by simp)
    simp [placeL, this]
  | y :: l, w, k + 1, h, h1, h2 => by
    have hy := h1 0 y (by omega) (by simp)
    have ih := placeL_of (l := l) (w := w) (k := k) (by simpa using h) (fun i x hi hx => h1 (i + 1) x (by omega) (by simpa using hx)) (fun x hx => h2 x (by simpa using hx))
    simp [placeL, hy] at ih ⊢
    exact ih

theorem placeL_le (l : List (List Int)) (w : List Int) : placeL l w ≤ l.length := by
  unfold placeL
  exact (List.takeWhile_sublist _).length_le

/-- 'Check' of the reference and of the program. -/
def checkI (xs : List Int) (inputs : Int) : Int :=
  if 1 ≤ inputs ∧ inputs ≤ 1024 then if 1024 < xs.length then 3 else if xs.all fun a => decide (0 ≤ a ∧ a < inputs) then 0 else 1 else 2

/-- Sorted and strictly ascending: what stands earlier is before. -/
theorem Asc.get {l : List (List Int)} (h : Asc l) {i j : Nat} {x y : List Int} (hij : i < j) (hx : l[i]? = some x) (hy : l[j]? = some y) : cmpW x y = -1 := by
  have hj : j < l.length := (List.getElem?_eq_some_iff.1 hy).1
  have h1 := List.pairwise_iff_getElem.1 h i j (by omega) hj hij
  rw [List.getElem?_eq_getElem (by omega)] at hx
  rw [List.getElem?_eq_getElem hj] at hy
  injection hx with hx
  injection hy with hy
  rw [← hx, ← hy]
  exact h1

/-- A word put into its place of a sorted list. -/
def insW (l : List (List Int)) (x : List Int) : List (List Int) := if x ∈ l then l else l.take (placeL l x) ++ x :: l.drop (placeL l x)

theorem placeL_spec : ∀ (l : List (List Int)) (w : List Int), (∀ i x, i < placeL l w → l[i]? = some x → cmpW x w = -1) ∧ (∀ x, l[placeL l w]? = some x → cmpW x w ≠ -1)
  | [], w => by simp [placeL]
  | y :: l, w => by
    have ih := placeL_spec l w
    by_cases hy : cmpW y w = -1
    · have e : placeL (y :: l) w = placeL l w + 1 := by simp [placeL, hy]
      rw [e]
      refine ⟨fun i x hi hx => ?_, fun x hx => ih.2 x (by simpa using hx)⟩
      cases i with
      | zero => simp at hx; rw [← hx]; exact hy
      | succ i => exact ih.1 i x (by omega) (by simpa using hx)
    · have e : placeL (y :: l) w = 0 := by simp [placeL, hy]
      rw [e]
      refine ⟨fun i x hi => absurd hi (by omega), fun x hx => ?_⟩
      simp at hx
      rw [← hx]
      exact hy

theorem Asc.mem_place {l : List (List Int)} (h : Asc l) (w : List Int) : w ∈ l ↔ l[placeL l w]? = some w := by
  constructor
  · intro hm
    obtain ⟨i, hi⟩ := List.getElem?_of_mem hm
    have hs := placeL_spec l w
    have h1 : ¬ i < placeL l w := fun hlt => by
      have := hs.1 i w hlt hi
      rw [cmpW_refl] at this
      omega
    by_cases h2 : i = placeL l w
    · rw [← h2]; exact hi
    · have hlen : i < l.length := (List.getElem?_eq_some_iff.1 hi).1
      have hg : l[placeL l w]? = some l[placeL l w] := List.getElem?_eq_getElem (by omega)
      have := h.get (by omega) hg hi
      exact absurd this (hs.2 _ hg)
  · intro h2
    exact List.mem_of_getElem? h2

theorem mem_insW (l : List (List Int)) (x y : List Int) : y ∈ insW l x ↔ y ∈ l ∨ y = x := by
  unfold insW
  split
  · rename_i h
    constructor
    · exact Or.inl
    · rintro (h' | rfl)
      · exact h'
      · exact h
  · have e : y ∈ l ↔ y ∈ l.take (placeL l x) ∨ y ∈ l.drop (placeL l x) := by
      rw [← List.mem_append, List.take_append_drop]
    rw [List.mem_append, List.mem_cons, e]
    constructor
    · rintro (h | h | h)
      · exact Or.inl (Or.inl h)
      · exact Or.inr h
      · exact Or.inl (Or.inr h)
    · rintro ((h | h) | h)
      · exact Or.inl h
      · exact Or.inr (Or.inr h)
      · exact Or.inr (Or.inl h)

theorem Asc.insW {l : List (List Int)} (h : Asc l) (x : List Int) : Asc (insW l x) := by
  unfold Go.Proofs.YthahbiahlpcgeaaGreatDoor.insW
  split
  · exact h
  · rename_i hm
    have hs := placeL_spec l x
    have hlo : ∀ a ∈ l.take (placeL l x), cmpW a x = -1 := fun a ha => by
      obtain ⟨i, hi⟩ := List.getElem?_of_mem ha
      rw [List.getElem?_take] at hi
      split at hi
      · rename_i hlt; exact hs.1 i a hlt hi
      · cases hi
    have hhi : ∀ b ∈ l.drop (placeL l x), cmpW x b = -1 := fun b hb => by
      obtain ⟨i, hi⟩ := List.getElem?_of_mem hb
      rw [List.getElem?_drop] at hi
      have hlen : placeL l x + i < l.length := (List.getElem?_eq_some_iff.1 hi).1
      have hg : l[placeL l x]? = some l[placeL l x] := List.getElem?_eq_getElem (by omega)
      have h0 := hs.2 _ hg
      have hne : cmpW l[placeL l x] x ≠ 0 := fun e => hm (by rw [← (cmpW_zero _ _).1 e]; exact List.getElem_mem _)
      have hr := cmpW_range l[placeL l x] x
      have h1 : cmpW x l[placeL l x] = -1 := by rw [cmpW_swap]; omega
      by_cases hi0 : i = 0
      · subst hi0
        rw [Nat.add_zero, hg] at hi
        injection hi with hi
        rw [← hi]; exact h1
      · exact cmpW_trans _ _ _ h1 (h.get (by omega) hg hi)
    unfold Asc
    rw [List.pairwise_append, List.pairwise_cons]
    refine ⟨List.Pairwise.sublist (List.take_sublist _ _) h, ⟨hhi, List.Pairwise.sublist (List.drop_sublist _ _) h⟩, fun a ha b hb => ?_⟩
    rcases List.mem_cons.1 hb with rfl | hb
    · exact hlo a ha
    · exact cmpW_trans _ _ _ (hlo a ha) (hhi b hb)

theorem insW_length (l : List (List Int)) (x : List Int) : (insW l x).length ≤ l.length + 1 := by
  unfold insW
  split
  · omega
  · simp; omega

theorem asc_nil : Asc [] := List.Pairwise.nil

/-- A sorted list is known by its members. -/
theorem asc_ext : ∀ {l m : List (List Int)}, Asc l → Asc m → (∀ x, x ∈ l ↔ x ∈ m) → l = m
  | [], [], _, _, _ => rfl
  | [], y :: m, _, _, h => absurd ((h y).2 (by simp)) (by simp)
  | x :: l, [], _, _, h => absurd ((h x).1 (by simp)) (by simp)
  | x :: l, y :: m, hl, hm, h => by
    have h1 := List.pairwise_cons.1 hl
    have h2 := List.pairwise_cons.1 hm
    have hxy : x = y := by
      rcases List.mem_cons.1 ((h x).1 (by simp)) with e | hx
      · exact e
      · rcases List.mem_cons.1 ((h y).2 (by simp)) with e | hy
        · exact e.symm
        · have a := h2.1 x hx
          have b := h1.1 y hy
          rw [cmpW_swap] at a
          omega
    subst hxy
    have hirr : ∀ {k : List (List Int)}, (∀ b ∈ k, cmpW x b = -1) → x ∉ k := fun hk hx => by
      have := hk x hx
      rw [cmpW_refl] at this
      omega
    rw [asc_ext h1.2 h2.2 fun z => ?_]
    have := h z
    simp only [List.mem_cons] at this
    constructor
    · intro hz
      rcases this.1 (Or.inr hz) with rfl | h'
      · exact absurd hz (hirr h1.1)
      · exact h'
    · intro hz
      rcases this.2 (Or.inr hz) with rfl | h'
      · exact absurd hz (hirr h2.1)
      · exact h'

/-- The different words of a list in shortlex order: 'Sorted' of the reference. -/
def sortW (l : List (List Int)) : List (List Int) := l.foldl insW []

theorem sortW_snoc (l : List (List Int)) (x : List Int) : sortW (l ++ [x]) = insW (sortW l) x := by simp [sortW]

theorem foldl_insW : ∀ (l a : List (List Int)), Asc a → Asc (l.foldl insW a) ∧ (∀ x, x ∈ l.foldl insW a ↔ x ∈ a ∨ x ∈ l) ∧ (l.foldl insW a).length ≤ a.length + l.length
  | [], a, h => ⟨h, fun x => by simp, by simp⟩
  | y :: l, a, h => by
    obtain ⟨h1, h2, h3⟩ := foldl_insW l (insW a y) (h.insW y)
    refine ⟨h1, fun x => ?_, ?_⟩
    · rw [List.foldl_cons, h2, mem_insW, List.mem_cons, or_assoc]
    · have := insW_length a y
      rw [List.foldl_cons, List.length_cons]
      omega

theorem sortW_asc (l : List (List Int)) : Asc (sortW l) := (foldl_insW l [] asc_nil).1
theorem mem_sortW (l : List (List Int)) (x : List Int) : x ∈ sortW l ↔ x ∈ l := by
  rw [sortW, (foldl_insW l [] asc_nil).2.1 x]; simp
theorem sortW_length (l : List (List Int)) : (sortW l).length ≤ l.length := by
  have := (foldl_insW l [] asc_nil).2.2
  simpa [sortW] using this

/-- The cells of a list while an element is put in at its end and moved down to place i. -/
def stage {α : Type} (us : List α) (z : α) (i : Nat) : List α := us.take i ++ z :: us.drop i

theorem stage_length {α : Type} (us : List α) (z : α) (i : Nat) : (stage us z i).length = us.length + 1 := by
  simp [stage]; omega
theorem stage_end {α : Type} (us : List α) (z : α) : stage us z us.length = us ++ [z] := by simp [stage]
theorem stage_at {α : Type} {us : List α} {z : α} {i : Nat} (h : i ≤ us.length) : (stage us z i)[i]? = some z := by
  simp [stage, List.getElem?_append, Nat.min_eq_left h]
theorem stage_before {α : Type} {us : List α} {z : α} {i j : Nat} (h : j < i) (h2 : i ≤ us.length) : (stage us z i)[j]? = us[j]? := by
  rw [stage, List.getElem?_append, if_pos (by simp; omega), List.getElem?_take, if_pos h]
theorem stage_set {α : Type} {us : List α} {z u : α} {i : Nat} (h : i ≤ us.length) : (stage us z i).set i u = stage us u i := by
  rw [stage, List.set_append, if_neg (by simp; omega)]
  have : i - (us.take i).length = 0 := by simp; omega
  rw [this]
  rfl
theorem stage_down {α : Type} {us : List α} {u : α} {j : Nat} (h : us[j]? = some u) : stage us u (j + 1) = stage us u j := by
  obtain ⟨hj, e⟩ := List.getElem?_eq_some_iff.1 h
  unfold stage
  rw [List.take_add_one, h, List.drop_eq_getElem_cons hj, e]
  simp

end Go.Proofs.YthahbiahlpcgeaaGreatDoor
