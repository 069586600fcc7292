/-
  What the basic functions on words come to: plain laws.
-/
import Derived.Test.YthahbiahlpcgeaaGreatDoorCmp
namespace Go.Proofs.YthahbiahlpcgeaaGreatDoor.Sym
set_option maxRecDepth 100000

section
variable {α β R : Type}
theorem get_at {l : List α} {i : Nat} (h : i < l.length) : l[i]? = some l[i] := List.getElem?_eq_getElem h

/-- Two lists of one length compared element by element. -/
theorem iter_all2 [DecidableEq α] {a b : List α} {step : Nat → Option (Nat ⊕ (Unit ⊕ Bool))} (hlen : a.length = b.length) (h1 : ∀ i x y, a[i]? = some x → b[i]? = some y → step i = some (if x = y then .inl (i + 1) else .inr (.inr false)))
    (h2 : step a.length = some (.inr (.inl ()))) (hl : a.length ≤ 100000000000000) : (iter step fuel 0).bind (Sum.elim (fun _ => some true) some) = some (decide (a = b)) := by
  rw [iter_scan (l := a) (fun i x => if b[i]? = some x then none else some false) (fun i x hx => ?_) h2 hl]
  · cases e : scan (fun i x => if b[i]? = some x then none else some false) 0 a with
    | none =>
      have := scan_none.1 e
      have hab : a = b := by
        apply List.ext_getElem?
        intro i
        rcases Nat.lt_or_ge i a.length with h | h
        · have h3 := this i _ (get_at h)
          rw [Nat.zero_add] at h3
          split at h3
          · rename_i h4
            rw [get_at h, h4]
          · cases h3
        · rw [List.getElem?_eq_none h, List.getElem?_eq_none (by omega)]
      simp [hab]
    | some r =>
      have hne : a ≠ b := fun hab => by
        subst hab
        have : scan (fun i x => if a[i]? = some x then none else some false) 0 a = none := scan_none.2 fun i x hx => by rw [Nat.zero_add, if_pos hx]
        rw [this] at e
        cases e
      have hr : r = false := by
        have key : ∀ (l : List α) (j : Nat), scan (fun i x => if b[i]? = some x then none else some false) j l = some r → r = false := by
          intro l
          induction l with
          | nil => intro j h; cases h
          | cons x l ih =>
            intro j h
            unfold scan at h
            split at h
            · rename_i r' h3
              injection h with h
              subst h
              split at h3
              · cases h3
              · injection h3 with h3
                exact h3.symm
            · exact ih _ h
        exact key a 0 e
      subst hr
      simp [hne]
  · have hi := (List.getElem?_eq_some_iff.1 hx).1
    have hy := get_at (l := b) (i := i) (by omega)
    rw [h1 i x _ hx hy]
    by_cases h : x = b[i]'(by omega)
    · rw [if_pos h, hy, if_pos (by rw [h])]
    · rw [if_neg h, hy, if_neg (fun h3 => h (by injection h3 with h3; exact h3.symm))]
end

theorem R06_Ints_eq (a b : List Int) (hl : a.length ≤ 100000000000000) : R06_Ints a b = some (decide (a = b)) := by
  unfold R06_Ints
  by_cases hlen : a.length = b.length
  · rw [show decide ((↑(List.length a) : Int) ≠ (↑(List.length b) : Int)) = false by simp [hlen], cond_false]
    refine iter_all2 hlen (fun i x y hx hy => ?_) ?_ hl
    · simp only [R06_Ints.s2]
      rw [dec_lt hx, cond_true, idxn_at hx, idxn_at hy]
      by_cases h : x = y <;> simp [h]
    · simp only [R06_Ints.s2]
      rw [dec_end]
      rfl
  · rw [show decide ((↑(List.length a) : Int) ≠ (↑(List.length b) : Int)) = true by simp; omega, cond_true]
    have : a ≠ b := fun h => hlen (by rw [h])
    simp [this]

theorem R06_Lists_eq (a b : List (List Int)) (hl : a.length ≤ 100000000000000) (hw : ∀ x ∈ a, x.length ≤ 100000000000000) : R06_Lists a b = some (decide (a = b)) := by
  unfold R06_Lists
  by_cases hlen : a.length = b.length
  · rw [show decide ((↑(List.length a) : Int) ≠ (↑(List.length b) : Int)) = false by simp [hlen], cond_false]
    refine iter_all2 hlen (fun i x y hx hy => ?_) ?_ hl
    · simp only [R06_Lists.s2]
      rw [dec_lt hx, cond_true, idxn_at hx, idxn_at hy, R06_Ints_eq x y (hw x (List.mem_of_getElem? hx))]
      by_cases h : x = y <;> simp [h]
    · simp only [R06_Lists.s2]
      rw [dec_end]
      rfl
  · rw [show decide ((↑(List.length a) : Int) ≠ (↑(List.length b) : Int)) = true by simp; omega, cond_true]
    have : a ≠ b := fun h => hlen (by rw [h])
    simp [this]

/-- Words of a size that fits. -/
def SmW (x : List Int) : Prop := x.length ≤ 2000000
def SmL (l : List (List Int)) : Prop := l.length ≤ 2000000 ∧ ∀ x ∈ l, SmW x

theorem R23_Same_eq (a b : T_api_Table) (h1 : SmL a.Prefixes) (h2 : SmL a.Suffixes) : R23_Same a b = some (decide (a = b)) := by
  unfold R23_Same
  rw [R06_Lists_eq _ _ (by have := h1.1; omega) (fun x hx => by have : x.length ≤ 2000000 := h1.2 x hx; omega), R06_Lists_eq _ _ (by have := h2.1; omega) (fun x hx => by have : x.length ≤ 2000000 := h2.2 x hx; omega)]
  obtain ⟨a1, a2, a3⟩ := a
  obtain ⟨b1, b2, b3⟩ := b
  simp only [T_api_Table.mk.injEq]
  by_cases e1 : a1 = b1 <;> by_cases e2 : a2 = b2 <;> by_cases e3 : a3 = b3 <;> simp [e1, e2, e3]

/-- Checks of words. -/
theorem R01_Size_eq (n : Int) : R01_Size n = some (decide (1 ≤ n ∧ n ≤ 1024)) := by
  unfold R01_Size
  by_cases h1 : 1 ≤ n <;> by_cases h2 : n ≤ 1024 <;> simp [h1, h2]
theorem word_permitted_eq (n : Int) : word_permitted n = some (decide (1 ≤ n ∧ n ≤ 1024)) := by
  unfold word_permitted
  by_cases h1 : 1 ≤ n <;> by_cases h2 : n ≤ 1024 <;> simp [h1, h2]

theorem scan_all {α R : Type} {p : α → Bool} {r : R} : ∀ (l : List α) (j : Nat), scan (fun _ x => if p x = true then none else some r) j l = if l.all p = true then none else some r
  | [], _ => rfl
  | x :: l, j => by
    unfold scan
    by_cases h : p x = true
    · simp only [h, if_true, List.all_cons, Bool.true_and]
      exact scan_all l (j + 1)
    · simp [h]

theorem R01_Check_eq (w : List Int) (n : Int) (hl : SmW w) : R01_Check w n = some (checkI w n) := by
  unfold R01_Check checkI
  rw [R01_Size_eq]
  by_cases h1 : 1 ≤ n ∧ n ≤ 1024
  · rw [if_pos h1]
    simp only [Option.bind_some, h1, and_self, decide_true, Bool.not_true, cond_false]
    by_cases h2 : 1024 < w.length
    · rw [if_pos h2, show decide ((1024 : Int) < (↑(List.length w) : Int)) = true from decide_eq_true (by omega), cond_true]
    · rw [if_neg h2, show decide ((1024 : Int) < (↑(List.length w) : Int)) = false from decide_eq_false (by omega), cond_false]
      have key := iter_scan (step := fun s => R01_Check.s2 w n s) (l := w) (fun _ x => if decide (0 ≤ x ∧ x < n) = true then none else some (1 : Int)) (fun i x hx => by
        simp only [R01_Check.s2]
        rw [dec_lt hx, cond_true, idxn_at hx, idxn_at hx]
        by_cases a1 : x < 0
        · simp [a1, show ¬ (0 ≤ x) by omega]
        · by_cases a2 : n ≤ x
          · simp [a1, a2, show ¬ (x < n) by omega]
          · simp [a1, a2, show 0 ≤ x by omega, show x < n by omega]) (by
        simp only [R01_Check.s2]
        rw [dec_end]
        rfl) (by unfold SmW at hl; omega)
      rw [key, scan_all (p := fun x => decide (0 ≤ x ∧ x < n))]
      by_cases h : (w.all fun x => decide (0 ≤ x ∧ x < n)) = true
      · rw [if_pos h, if_pos h]; rfl
      · rw [if_neg h, if_neg h]; rfl
  · rw [if_neg h1]
    simp [h1]

theorem word_Check_eq (w : List Int) (n : Int) (hl : SmW w) : word_Check w n = some (checkI w n) := by
  unfold word_Check checkI slices_ContainsFunc_Sint_int_n1 slices_IndexFunc_Sint_int_n1
  rw [word_permitted_eq]
  by_cases h1 : 1 ≤ n ∧ n ≤ 1024
  · rw [if_pos h1]
    simp only [Option.bind_some, h1, and_self, decide_true, Bool.not_true, cond_false]
    by_cases h2 : 1024 < w.length
    · rw [if_pos h2, show decide ((1024 : Int) < (↑(List.length w) : Int)) = true from decide_eq_true (by omega), cond_true]
    · rw [if_neg h2, show decide ((1024 : Int) < (↑(List.length w) : Int)) = false from decide_eq_false (by omega), cond_false]
      have key := iter_scan (step := fun s => slices_IndexFunc_Sint_int_n1.s2 w (fun u0 => word_Check_1 u0 n) s) (l := w) (fun i x => if decide (0 ≤ x ∧ x < n) = true then none else some (i : Int)) (fun i x hx => by
        simp only [slices_IndexFunc_Sint_int_n1.s2, word_Check_1]
        rw [dec_lt hx, cond_true, idxn_at hx]
        by_cases a1 : x < 0
        · simp [a1, show ¬ (0 ≤ x) by omega]
        · by_cases a2 : n ≤ x
          · simp [a1, a2, show ¬ (x < n) by omega]
          · simp [a1, a2, show 0 ≤ x by omega, show x < n by omega]) (by
        simp only [slices_IndexFunc_Sint_int_n1.s2]
        rw [dec_end]
        rfl) (by unfold SmW at hl; omega)
      rw [key]
      cases e : scan (fun i x => if decide (0 ≤ x ∧ x < n) = true then none else some (i : Int)) 0 w with
      | none =>
        have h3 := scan_none.1 e
        have h : (w.all fun x => decide (0 ≤ x ∧ x < n)) = true := List.all_eq_true.2 fun x hx => by
          obtain ⟨i, hi, rfl⟩ := List.mem_iff_getElem.1 hx
          have := h3 i _ (get_at hi)
          split at this
          · assumption
          · cases this
        rw [if_pos h]
        simp
      | some r =>
        have h : ¬ (w.all fun x => decide (0 ≤ x ∧ x < n)) = true := fun h => by
          have : scan (fun i x => if decide (0 ≤ x ∧ x < n) = true then none else some (i : Int)) 0 w = none := scan_none.2 fun i x hx => if_pos (List.all_eq_true.1 h x (List.mem_of_getElem? hx))
          rw [this] at e
          cases e
        have hr : 0 ≤ r := by
          have key : ∀ (l : List Int) (j : Nat), scan (fun i x => if decide (0 ≤ x ∧ x < n) = true then none else some (i : Int)) j l = some r → 0 ≤ r := by
            intro l
            induction l with
            | nil => intro j h; cases h
            | cons x l ih =>
              intro j h
              unfold scan at h
              split at h
              · rename_i r' h3
                injection h with h
                subst h
                split at h3
                · cases h3
                · injection h3 with h3
                  omega
              · exact ih _ h
          exact key w 0 e
        rw [if_neg h]
        simp [hr]
  · rw [if_neg h1]
    simp [h1]

/-- Common prefixes, orders. -/
theorem R01_Common_eq (a b : List Int) (ha : SmW a) : R01_Common a b = some (common a b : Int) := by
  unfold R01_Common
  rw [iter_eq (r := common a b) (fun k => k ≤ a.length ∧ common a b = common (a.drop k) (b.drop k) + k) (fun k => a.length - k) (fun k ⟨h1, h2⟩ => ?_) ⟨Nat.zero_le _, by simp⟩ (by have := fuel_big; unfold SmW at ha; omega)]
  · rfl
  · simp only [R01_Common.s2]
    rcases Nat.lt_or_ge k a.length with h | h
    · have hx := get_at h
      rcases Nat.lt_or_ge k b.length with h' | h'
      · have hy := get_at h'
        rw [dec_lt hx, dec_lt hy, cond_true, cond_true, idxn_at hx, idxn_at hy]
        rw [List.drop_eq_getElem_cons h, List.drop_eq_getElem_cons h'] at h2
        by_cases e : a[k] = b[k]
        · left
          unfold SmW at ha
          refine ⟨k + 1, ?_, ⟨h, ?_⟩, by omega⟩
          · rw [chk_pos (by unfold inR; omega)]
            simp [e]
          · rw [h2, e]
            simp [common]
            omega
        · right
          simp only [common, e, if_false, Nat.zero_add] at h2
          simp [e, h2]
      · right
        rw [dec_lt hx, cond_true, show decide ((↑k : Int) < (↑(List.length b) : Int)) = false by simp; omega]
        rw [common_end (Or.inr h'), Nat.zero_add] at h2
        simp [h2]
    · right
      rw [show decide ((↑k : Int) < (↑(List.length a) : Int)) = false by simp; omega]
      rw [common_end (Or.inl h), Nat.zero_add] at h2
      simp [h2]

theorem R01_Same_eq (a b : List Int) (ha : SmW a) : R01_Same a b = some (decide (a = b)) := by
  unfold R01_Same
  rw [R01_Common_eq a b ha]
  have h := same_iff a b
  by_cases h1 : a.length = b.length
  · rw [show decide ((↑(List.length a) : Int) = (↑(List.length b) : Int)) = true from decide_eq_true (by omega), cond_true]
    by_cases h2 : common a b = a.length
    · have : a = b := h.1 ⟨h1, h2⟩
      subst this
      simp [common_self]
    · have : a ≠ b := fun e => h2 (h.2 e).2
      simp only [Option.bind_some, this, decide_false]
      rw [decide_eq_false (by omega)]
  · have : a ≠ b := fun e => h1 (by rw [e])
    rw [show decide ((↑(List.length a) : Int) = (↑(List.length b) : Int)) = false from decide_eq_false (by omega), cond_false]
    simp [this]

theorem R01_Lex_eq (a b : List Int) (ha : SmW a) : R01_Lex a b = some (lexI a b) := by
  unfold R01_Lex
  rw [R01_Common_eq a b ha]
  have hle := common_le a b
  have hlc := lexI_common a b
  rw [hlc]
  simp only [Option.bind_some]
  by_cases h1 : common a b = a.length
  · rw [show decide ((↑(common a b) : Int) = ↑a.length) = true from decide_eq_true (by omega), cond_true, cond_true]
    by_cases h2 : common a b = b.length
    · rw [show decide ((↑(common a b) : Int) = ↑b.length) = true from decide_eq_true (by omega), if_pos ⟨h1, h2⟩]
      rfl
    · rw [show decide ((↑(common a b) : Int) = ↑b.length) = false from decide_eq_false (by omega), if_neg (fun h => h2 h.2), if_pos (Or.inl h1)]
      rfl
  · rw [show decide ((↑(common a b) : Int) = ↑a.length) = false from decide_eq_false (by omega), cond_false, cond_false, if_neg (fun h => h1 h.1)]
    by_cases h2 : common a b = b.length
    · rw [show decide ((↑(common a b) : Int) < (↑(List.length b) : Int)) = false from decide_eq_false (by omega), if_neg (fun h => by omega)]
      rfl
    · have hx := get_at (l := a) (i := common a b) (by omega)
      have hy := get_at (l := b) (i := common a b) (by omega)
      rw [show decide ((↑(common a b) : Int) < (↑(List.length b) : Int)) = true from decide_eq_true (by omega), cond_true, idx_at rfl hx, idx_at rfl hy]
      rw [List.getD_eq_getElem?_getD, List.getD_eq_getElem?_getD, hx, hy]
      by_cases h3 : a[common a b]'(by omega) < b[common a b]'(by omega)
      · rw [if_pos (Or.inr ⟨by omega, h3⟩)]
        simp [h3]
      · rw [if_neg (fun h => by
          rcases h with h | ⟨_, h⟩
          · omega
          · exact h3 h)]
        simp [h3]

theorem R01_Compare_eq (a b : List Int) (ha : SmW a) : R01_Compare a b = some (cmpW a b) := by
  unfold R01_Compare cmpW
  rw [R01_Lex_eq a b ha]
  by_cases h1 : a.length < b.length
  · rw [show decide ((↑(List.length a) : Int) < (↑(List.length b) : Int)) = true from decide_eq_true (by omega), if_pos h1]
    rfl
  · rw [show decide ((↑(List.length a) : Int) < (↑(List.length b) : Int)) = false from decide_eq_false (by omega), if_neg h1, cond_false]
    by_cases h2 : b.length < a.length
    · rw [show decide ((↑(List.length b) : Int) < (↑(List.length a) : Int)) = true from decide_eq_true (by omega), if_pos h2]
      rfl
    · rw [show decide ((↑(List.length b) : Int) < (↑(List.length a) : Int)) = false from decide_eq_false (by omega), if_neg h2]
      rfl

theorem R02_Has_eq (l : List (List Int)) (w : List Int) (hl : SmL l) : R02_Has l w = some (decide (w ∈ l)) := by
  unfold R02_Has
  have key := iter_scan (step := fun s => R02_Has.s2 l w s) (l := l) (fun _ x => if decide (x ≠ w) = true then none else some true) (fun i x hx => by
    simp only [R02_Has.s2]
    rw [dec_lt hx, cond_true, idxn_at hx, R01_Same_eq x w (hl.2 x (List.mem_of_getElem? hx))]
    by_cases h : x = w <;> simp [h]) (by
    simp only [R02_Has.s2]
    rw [dec_end]
    rfl) (by have := hl.1; omega)
  rw [key, scan_all (p := fun x => decide (x ≠ w))]
  by_cases h : w ∈ l
  · have : ¬ (l.all fun x => decide (x ≠ w)) = true := fun h2 => by
      have := List.all_eq_true.1 h2 w h
      simp at this
    rw [if_neg this]
    simp [h]
  · have : (l.all fun x => decide (x ≠ w)) = true := List.all_eq_true.2 fun x hx => by
      have : x ≠ w := fun e => h (e ▸ hx)
      simpa using this
    rw [if_pos this]
    simp [h]
end Go.Proofs.YthahbiahlpcgeaaGreatDoor.Sym
