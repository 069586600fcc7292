/-
  Laws of rounds: what a loop comes to, in plain words. No program in sight.
-/
import Derived.Test.YthahbiahlpcgeaaGreatDoorSym15
namespace Go.Proofs.YthahbiahlpcgeaaGreatDoor.Sym

section
variable {S R A B α β : Type}

/-- A loop by an invariant and a measure: it ends, and what it hands back is as said. -/
theorem iter_post {step : S → Option (S ⊕ R)} (I : S → Prop) (m : S → Nat) (Q : R → Prop) (h : ∀ s, I s → (∃ s', step s = some (.inl s') ∧ I s' ∧ m s' < m s) ∨ ∃ r, step s = some (.inr r) ∧ Q r) :
    ∀ (n : Nat) (s : S), I s → m s < n → ∃ r, iter step n s = some r ∧ Q r
  | 0, _, _, hm => absurd hm (Nat.not_lt_zero _)
  | n + 1, s, hi, hm => by
    unfold iter
    rcases h s hi with ⟨s', e, hi', hm'⟩ | ⟨r, e, hq⟩
    · rw [e]
      exact iter_post I m Q h n s' hi' (by omega)
    · rw [e]
      exact ⟨r, rfl, hq⟩

/-- The same with the result known ahead. -/
theorem iter_eq {step : S → Option (S ⊕ R)} {r : R} (I : S → Prop) (m : S → Nat) (h : ∀ s, I s → (∃ s', step s = some (.inl s') ∧ I s' ∧ m s' < m s) ∨ step s = some (.inr r)) {n : Nat} {s : S} (hi : I s) (hm : m s < n) : iter step n s = some r := by
  obtain ⟨r', e, rfl⟩ := iter_post I m (fun r' => r' = r) (fun s hs => (h s hs).imp id fun e => ⟨r, e, rfl⟩) n s hi hm
  exact e

/-- A walk along a list: an accumulator, the place, the element; a round goes on or ends all. -/
def walk (g : A → Nat → α → Option (A ⊕ R)) (fin : A → Option R) : A → Nat → List α → Option R
  | a, _, [] => fin a
  | a, i, x :: l => (g a i x).bind (Sum.elim (fun a' => walk g fin a' (i + 1) l) some)

theorem iter_walk {st : A → Nat → S} {step : S → Option (S ⊕ R)} {g : A → Nat → α → Option (A ⊕ R)} {fin : A → Option R} {l : List α} (h1 : ∀ a i x, l[i]? = some x → step (st a i) = (g a i x).map (Sum.map (fun a' => st a' (i + 1)) id)) (h2 : ∀ a, step (st a l.length) = (fin a).map .inr) :
    ∀ (n : Nat) (i : Nat) (a : A), i ≤ l.length → l.length - i < n → iter step n (st a i) = walk g fin a i (l.drop i)
  | 0, _, _, _, h => absurd h (Nat.not_lt_zero _)
  | n + 1, i, a, hi, hn => by
    rcases Nat.lt_or_ge i l.length with h | h
    · rw [List.drop_eq_getElem_cons h]
      unfold iter walk
      rw [h1 a i _ (List.getElem?_eq_getElem h)]
      cases g a i l[i] with
      | none => rfl
      | some o =>
        cases o with
        | inl a' => exact iter_walk h1 h2 n (i + 1) a' h (by omega)
        | inr r => rfl
    · have e : i = l.length := by omega
      subst e
      rw [List.drop_length]
      unfold iter walk
      rw [h2 a]
      cases fin a with
      | none => rfl
      | some r => rfl

/-- A walk along the numbers below a bound. -/
theorem iter_count {st : A → Nat → S} {step : S → Option (S ⊕ R)} {g : A → Nat → Option (A ⊕ R)} {fin : A → Option R} {N : Nat} (h1 : ∀ a i, i < N → step (st a i) = (g a i).map (Sum.map (fun a' => st a' (i + 1)) id)) (h2 : ∀ a, step (st a N) = (fin a).map .inr)
    {n : Nat} (a : A) (hn : N < n) : iter step n (st a 0) = walk (fun a i (_ : Unit) => g a i) fin a 0 (List.replicate N ()) := by
  refine iter_walk (l := List.replicate N ()) (g := fun a i _ => g a i) (fun a i x hx => h1 a i ?_) (fun a => ?_) n 0 a (Nat.zero_le _) ?_
  · have := (List.getElem?_eq_some_iff.1 hx).1
    simpa using this
  · simpa using h2 a
  · simpa using hn

theorem walk_nil (g : A → Nat → α → Option (A ⊕ R)) (fin : A → Option R) (a : A) (i : Nat) : walk g fin a i [] = fin a := rfl
theorem walk_cons (g : A → Nat → α → Option (A ⊕ R)) (fin : A → Option R) (a : A) (i : Nat) (x : α) (l : List α) : walk g fin a i (x :: l) = (g a i x).bind (Sum.elim (fun a' => walk g fin a' (i + 1) l) some) := rfl

theorem idxn_at {l : List α} {i : Nat} {x : α} {k : α → Option β} (h : l[i]? = some x) : idxn l i k = k x := by unfold idxn; rw [h]
theorem idx_at {l : List α} {n : Int} {i : Nat} {x : α} {k : α → Option β} (hn : n = (i : Int)) (h : l[i]? = some x) : idx l n k = k x := by
  subst hn
  unfold idx
  rw [if_pos (by omega), Int.toNat_natCast, h]
theorem chk_pos {c : Prop} [Decidable c] {k : Option α} (h : c) : chk c k = k := by unfold chk; rw [if_pos h]
theorem fuel_big : 100000000000000 < fuel := by unfold fuel; omega
theorem dec_lt {l : List α} {i : Nat} {x : α} (h : l[i]? = some x) : decide ((↑i : Int) < (↑l.length : Int)) = true := by
  have := (List.getElem?_eq_some_iff.1 h).1
  simpa using this
theorem dec_end (l : List α) : decide ((↑l.length : Int) < (↑l.length : Int)) = false := by simp

/-- The first place along a list at which there is a result. -/
def scan (g : Nat → α → Option R) : Nat → List α → Option R
  | _, [] => none
  | i, x :: l => match g i x with | some r => some r | none => scan g (i + 1) l
theorem scan_congr {g g' : Nat → α → Option R} : ∀ {l : List α} {j : Nat}, (∀ i x, l[i]? = some x → g (j + i) x = g' (j + i) x) → scan g j l = scan g' j l
  | [], _, _ => rfl
  | x :: l, j, h => by
    unfold scan
    have h0 := h 0 x rfl
    rw [Nat.add_zero] at h0
    rw [h0]
    have ih : scan g (j + 1) l = scan g' (j + 1) l := scan_congr fun i y hy => by
      have := h (i + 1) y (by simpa using hy)
      rwa [show j + (i + 1) = j + 1 + i by omega] at this
    rw [ih]
theorem scan_none {g : Nat → α → Option R} : ∀ {l : List α} {j : Nat}, scan g j l = none ↔ ∀ i x, l[i]? = some x → g (j + i) x = none
  | [], j => by simp [scan]
  | y :: l, j => by
    constructor
    · intro h i x hx
      unfold scan at h
      cases e : g j y with
      | some r => rw [e] at h; cases h
      | none =>
        rw [e] at h
        match i, hx with
        | 0, hx =>
          simp at hx
          subst hx
          exact e
        | i + 1, hx =>
          have := (scan_none (g := g) (l := l) (j := j + 1)).1 h i x (by simpa using hx)
          rwa [show j + 1 + i = j + (i + 1) by omega] at this
    · intro h
      unfold scan
      have h0 := h 0 y rfl
      rw [Nat.add_zero] at h0
      rw [h0]
      exact (scan_none (g := g) (l := l) (j := j + 1)).2 fun i x hx => by
        have := h (i + 1) x (by simpa using hx)
        rwa [show j + (i + 1) = j + 1 + i by omega] at this
/-- A loop that looks for the first result. -/
theorem iter_scan {step : Nat → Option (Nat ⊕ (Unit ⊕ R))} {l : List α} (g : Nat → α → Option R) (h1 : ∀ i x, l[i]? = some x → step i = some (match g i x with | some r => .inr (.inr r) | none => .inl (i + 1))) (h2 : step l.length = some (.inr (.inl ()))) (hl : l.length ≤ 100000000000000) :
    iter step fuel 0 = some (match scan g 0 l with | some r => .inr r | none => .inl ()) := by
  have key : ∀ (n i : Nat), i ≤ l.length → l.length - i < n → iter step n i = some (match scan g i (l.drop i) with | some r => .inr r | none => .inl ()) := by
    intro n
    induction n with
    | zero => intro i _ h; omega
    | succ n ih =>
      intro i hi hn
      rcases Nat.lt_or_ge i l.length with h | h
      · rw [List.drop_eq_getElem_cons h]
        unfold iter scan
        rw [h1 i _ (List.getElem?_eq_getElem h)]
        cases g i l[i] with
        | some r => rfl
        | none => exact ih (i + 1) h (by omega)
      · have e : i = l.length := by omega
        subst e
        rw [List.drop_length]
        unfold iter scan
        rw [h2]
  exact key fuel 0 (Nat.zero_le _) (by have := fuel_big; omega)

/-- A loop that goes along a list with an accumulator, under an invariant. -/
def foldi (f : A → Nat → α → A) : A → Nat → List α → A
  | a, _, [] => a
  | a, i, x :: l => foldi f (f a i x) (i + 1) l
theorem iter_fold {step : A × Nat → Option ((A × Nat) ⊕ R)} {l : List α} (f : A → Nat → α → A) (fin : A → R) (Inv : A → Nat → Prop) (h1 : ∀ a i x, Inv a i → l[i]? = some x → step (a, i) = some (.inl (f a i x, i + 1)) ∧ Inv (f a i x) (i + 1))
    (h2 : ∀ a, Inv a l.length → step (a, l.length) = some (.inr (fin a))) (hl : l.length ≤ 100000000000000) {a0 : A} (h0 : Inv a0 0) : iter step fuel (a0, 0) = some (fin (foldi f a0 0 l)) ∧ Inv (foldi f a0 0 l) l.length := by
  have key : ∀ (n i : Nat) (a : A), Inv a i → i ≤ l.length → l.length - i < n → iter step n (a, i) = some (fin (foldi f a i (l.drop i))) ∧ Inv (foldi f a i (l.drop i)) l.length := by
    intro n
    induction n with
    | zero => intro i _ _ _ h; omega
    | succ n ih =>
      intro i a hv hi hn
      rcases Nat.lt_or_ge i l.length with h | h
      · rw [List.drop_eq_getElem_cons h]
        unfold iter foldi
        obtain ⟨e, hv'⟩ := h1 a i _ hv (List.getElem?_eq_getElem h)
        rw [e]
        exact ih (i + 1) _ hv' h (by omega)
      · have e : i = l.length := by omega
        subst e
        rw [List.drop_length]
        unfold iter foldi
        rw [h2 a hv]
        exact ⟨rfl, hv⟩
  exact key fuel 0 a0 h0 (Nat.zero_le _) (by have := fuel_big; omega)
theorem foldi_eq {f : A → α → A} : ∀ (l : List α) (a : A) (i : Nat), foldi (fun a _ x => f a x) a i l = l.foldl f a
  | [], _, _ => rfl
  | x :: l, a, i => by unfold foldi; exact foldi_eq l (f a x) (i + 1)
end
end Go.Proofs.YthahbiahlpcgeaaGreatDoor.Sym
