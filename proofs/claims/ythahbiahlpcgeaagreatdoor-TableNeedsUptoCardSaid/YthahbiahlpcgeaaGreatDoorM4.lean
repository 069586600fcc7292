/-
  The comparisons of words are what they say; they may be handed to a sort.
-/
import Derived.Test.YthahbiahlpcgeaaGreatDoorM3
namespace Go.Proofs.YthahbiahlpcgeaaGreatDoor.Sym
open Go.RowKit
set_option maxRecDepth 100000

theorem cmp_Compare_int_eq (x y : Int) : cmp_Compare_int x y = some (cmpI x y) := by
  unfold cmp_Compare_int cmp_isNaN_int cmpI
  by_cases h1 : x < y
  · simp [h1]
  · by_cases h2 : y < x <;> simp [h1, h2]

theorem slices_Compare_eq (s t : List Int) (hs : s.length ≤ 100000000000000) : slices_Compare_Sint_int s t = some (lexI s t) := by
  have key := iter_post (step := fun k => slices_Compare_Sint_int.s2 s t k) (fun k => k ≤ s.length ∧ k ≤ t.length ∧ lexI s t = lexI (s.drop k) (t.drop k)) (fun k => s.length - k)
    (fun r => Sum.elim (fun (_ : Unit) => cond (decide ((↑(List.length s) : Int) < (↑(List.length t) : Int))) (some (-1 : Int)) (some 0)) some r = some (lexI s t)) (fun k ⟨h1, h2, h3⟩ => by
      unfold slices_Compare_Sint_int.s2
      rcases Nat.lt_or_ge k s.length with h | h
      · have hx := List.getElem?_eq_getElem h
        rw [dec_lt hx, cond_true, idxn_at hx]
        by_cases h4 : t.length ≤ k
        · right
          refine ⟨.inr 1, by simp [h4], ?_⟩
          rw [h3, lexI_long h h4]
          rfl
        · have hy := List.getElem?_eq_getElem (show k < t.length by omega)
          have hst := lexI_step hx hy
          have d4 : decide ((↑(List.length t) : Int) ≤ (↑k : Int)) = false := by simp; omega
          rw [d4, cond_false, idxn_at hy, cmp_Compare_int_eq]
          by_cases h5 : cmpI s[k] t[k] = 0
          · left
            rw [if_pos h5] at hst
            exact ⟨k + 1, by simp [h5], ⟨by omega, by omega, by rw [h3, hst]⟩, by omega⟩
          · right
            rw [if_neg h5] at hst
            exact ⟨.inr (cmpI s[k] t[k]), by simp [h5], by rw [h3, hst]; rfl⟩
      · right
        have e : k = s.length := by omega
        subst e
        rw [dec_end, cond_false]
        refine ⟨.inl (), rfl, ?_⟩
        rw [h3, lexI_end (Nat.le_refl _)]
        by_cases h4 : s.length < t.length <;> simp [h4]) fuel 0 ⟨Nat.zero_le _, Nat.zero_le _, rfl⟩ (by have := fuel_big; simp only [Nat.sub_zero]; omega)
  obtain ⟨r, e, hq⟩ := key
  unfold slices_Compare_Sint_int
  rw [e]
  exact hq

theorem cmp_Or_two (x y : Int) : cmp_Or_int [x, y] = some (if x ≠ 0 then x else y) := by
  unfold cmp_Or_int
  have e : fuel = (fuel - 3) + 1 + 1 + 1 := by unfold fuel; omega
  rw [e]
  by_cases h1 : x = 0
  · by_cases h2 : y = 0
    · simp [iter, cmp_Or_int.s2, idxn, h1, h2]
    · simp [iter, cmp_Or_int.s2, idxn, h1, h2]
  · simp [iter, cmp_Or_int.s2, idxn, h1]

theorem word_Lex_eq (s t : List Int) (hs : s.length ≤ 100000000000000) : word_Lex s t = some (lexI s t) := by
  unfold word_Lex
  rw [slices_Compare_eq s t hs]
  rfl
theorem word_Compare_eq (s t : List Int) (hs : s.length ≤ 100000000000000) : word_Compare s t = some (cmpW s t) := by
  unfold word_Compare
  rw [slices_Compare_eq s t hs, cmp_Compare_int_eq]
  show (cmp_Or_int [cmpI s.length t.length, lexI s t]).bind some = _
  rw [cmp_Or_two]
  show some _ = some _
  congr 1
  unfold cmpI cmpW
  by_cases h1 : s.length < t.length
  · simp [h1]
  · by_cases h2 : t.length < s.length
    · simp [h1, h2]
    · simp [h1, h2]

theorem cmpE_word_Lex : CmpE Tryz.prog 107 (fun x => nL cI x) (fun x y => word_Lex x y) :=
  ⟨fun args w => run_enter rfl rfl rfl args w, cmpG_lex fun x y r hx h => by rw [word_Lex_eq x y (by omega)] at h; injection h with h; exact h.symm⟩
theorem cmpE_word_Compare : CmpE Tryz.prog 99 (fun x => nL cI x) (fun x y => word_Compare x y) :=
  ⟨fun args w => run_enter rfl rfl rfl args w, cmpG_compare fun x y r hx h => by rw [word_Compare_eq x y (by omega)] at h; injection h with h; exact h.symm⟩
theorem cmpE_table_find_1 : CmpE Tryz.prog 106 (fun x => .agg (c_api_Trace x)) (fun x y => table_find_1 x y) :=
  ⟨fun args w => run_enter rfl rfl rfl args w, cmpG_find1 (T := T_api_Trace) (i := fun x => x.In) (o := fun x => x.Out) (f := fun x y => table_find_1 x y) (fun _ => rfl) fun x y r hx h => by
    simp only [table_find_1] at h
    rw [word_Lex_eq _ _ (by omega)] at h
    injection h with h
    exact h.symm⟩
end Go.Proofs.YthahbiahlpcgeaaGreatDoor.Sym

/-
  What the basic functions on words come to: plain laws.
-/
namespace Go.Proofs.YthahbiahlpcgeaaGreatDoor.Sym
set_option maxRecDepth 100000

section
variable {α β R : Type}
theorem get_at {l : List α} {i : Nat} (h : i < l.length) : l[i]? = some l[i] := List.getElem?_eq_getElem h

/-- Two lists of one length compared element by element. -/
theorem iter_all2 [DecidableEq α] {a b : List α} {step : Nat → Option (Nat ⊕ (Unit ⊕ Bool))} (hlen : a.length = b.length) (h1 : ∀ i x y, a[i]? = some x → b[i]? = some y → step i = some (if x = y then .inl (i + 1) else .inr (.inr false)))
    (h2 : step a.length = some (.inr (.inl ()))) (hl : a.length ≤ 100000000000000) : (iter step fuel 0).bind (Sum.elim (fun _ => some true) some) = some (decide (a = b)) := by
  rw [iter_scan (l := a) (fun i x => if b[i]? = some x then none else some false) (fun i x hx => ?_) h2 hl]
  · cases e : scan (fun i x => if b[i]? = some x then none else some false) 0 a with
    | none =>
      have := scan_none.1 e
      have hab : a = b := by
        apply List.ext_getElem?
        intro i
        rcases Nat.lt_or_ge i a.length with h | h
        · have h3 := this i _ (get_at h)
          rw [Nat.zero_add] at h3
          split at h3
          · rename_i h4
            rw [get_at h, h4]
          · cases h3
        · rw [List.getElem?_eq_none h, List.getElem?_eq_none (by omega)]
      simp [hab]
    | some r =>
      have hne : a ≠ b := fun hab => by
        subst hab
        have : scan (fun i x => if a[i]? = some x then none else some false) 0 a = none := scan_none.2 fun i x hx => by rw [Nat.zero_add, if_pos hx]
        rw [this] at e
        cases e
      have hr : r = false := by
        have key : ∀ (l : List α) (j : Nat), scan (fun i x => if b[i]? = some x then none else some false) j l = some r → r = false := by
          intro l
          induction l with
          | nil => intro j h; cases h
          | cons x l ih =>
            intro j h
            unfold scan at h
            split at h
            · rename_i r' h3
              injection h with h
              subst h
              split at h3
              · cases h3
              · injection h3 with h3
                exact h3.symm
            · exact ih _ h
        exact key a 0 e
      subst hr
      simp [hne]
  · have hi := (List.getElem?_eq_some_iff.1 hx).1
    have hy := get_at (l := b) (i := i) (by omega)
    rw [h1 i x _ hx hy]
    by_cases h : x = b[i]'(by omega)
    · rw [if_pos h, hy, if_pos (by rw [h])]
    · rw [if_neg h, hy, if_neg (fun h3 => h (by injection h3 with h3; exact h3.symm))]
end

theorem R06_Ints_eq (a b : List Int) (hl : a.length ≤ 100000000000000) : R06_Ints a b = some (decide (a = b)) := by
  unfold R06_Ints
  by_cases hlen : a.length = b.length
  · rw [show decide ((↑(List.length a) : Int) ≠ (↑(List.length b) : Int)) = false by simp [hlen], cond_false]
    refine iter_all2 hlen (fun i x y hx hy => ?_) ?_ hl
    · simp only [R06_Ints.s2]
      rw [dec_lt hx, cond_true, idxn_at hx, idxn_at hy]
      by_cases h : x = y <;> simp [h]
    · simp only [R06_Ints.s2]
      rw [dec_end]
      rfl
  · rw [show decide ((↑(List.length a) : Int) ≠ (↑(List.length b) : Int)) = true by simp; omega, cond_true]
    have : a ≠ b := fun h => hlen (by rw [h])
    simp [this]

theorem R06_Lists_eq (a b : List (List Int)) (hl : a.length ≤ 100000000000000) (hw : ∀ x ∈ a, x.length ≤ 100000000000000) : R06_Lists a b = some (decide (a = b)) := by
  unfold R06_Lists
  by_cases hlen : a.length = b.length
  · rw [show decide ((↑(List.length a) : Int) ≠ (↑(List.length b) : Int)) = false by simp [hlen], cond_false]
    refine iter_all2 hlen (fun i x y hx hy => ?_) ?_ hl
    · simp only [R06_Lists.s2]
      rw [dec_lt hx, cond_true, idxn_at hx, idxn_at hy, R06_Ints_eq x y (hw x (List.mem_of_getElem? hx))]
      by_cases h : x = y <;> simp [h]
    · simp only [R06_Lists.s2]
      rw [dec_end]
      rfl
  · rw [show decide ((↑(List.length a) : Int) ≠ (↑(List.length b) : Int)) = true by simp; omega, cond_true]
    have : a ≠ b := fun h => hlen (by rw [h])
    simp [this]

/-- Words of a size that fits. -/
def SmW (x : List Int) : Prop := x.length ≤ 2000000
def SmL (l : List (List Int)) : Prop := l.length ≤ 2000000 ∧ ∀ x ∈ l, SmW x

theorem R23_Same_eq (a b : T_api_Table) (h1 : SmL a.Prefixes) (h2 : SmL a.Suffixes) : R23_Same a b = some (decide (a = b)) := by
  unfold R23_Same
  rw [R06_Lists_eq _ _ (by have := h1.1; omega) (fun x hx => by have : x.length ≤ 2000000 := h1.2 x hx; omega), R06_Lists_eq _ _ (by have := h2.1; omega) (fun x hx => by have : x.length ≤ 2000000 := h2.2 x hx; omega)]
  obtain ⟨a1, a2, a3⟩ := a
  obtain ⟨b1, b2, b3⟩ := b
  simp only [T_api_Table.mk.injEq]
  by_cases e1 : a1 = b1 <;> by_cases e2 : a2 = b2 <;> by_cases e3 : a3 = b3 <;> simp [e1, e2, e3]

/-- Checks of words. -/
theorem R01_Size_eq (n : Int) : R01_Size n = some (decide (1 ≤ n ∧ n ≤ 1024)) := by
  unfold R01_Size
  by_cases h1 : 1 ≤ n <;> by_cases h2 : n ≤ 1024 <;> simp [h1, h2]
theorem word_permitted_eq (n : Int) : word_permitted n = some (decide (1 ≤ n ∧ n ≤ 1024)) := by
  unfold word_permitted
  by_cases h1 : 1 ≤ n <;> by_cases h2 : n ≤ 1024 <;> simp [h1, h2]

theorem scan_all {α R : Type} {p : α → Bool} {r : R} : ∀ (l : List α) (j : Nat), scan (fun _ x => if p x = true then none else some r) j l = if l.all p = true then none else some r
  | [], _ => rfl
  | x :: l, j => by
    unfold scan
    by_cases h : p x = true
    · simp only [h, if_true, List.all_cons, Bool.true_and]
      exact scan_all l (j + 1)
    · simp [h]

theorem R01_Check_eq (w : List Int) (n : Int) (hl : SmW w) : R01_Check w n = some (checkI w n) := by
  unfold R01_Check checkI
  rw [R01_Size_eq]
  by_cases h1 : 1 ≤ n ∧ n ≤ 1024
  · rw [if_pos h1]
    simp only [Option.bind_some, h1, and_self, decide_true, Bool.not_true, cond_false]
    by_cases h2 : 1024 < w.length
    · rw [if_pos h2, show decide ((1024 : Int) < (↑(List.length w) : Int)) = true from decide_eq_true (by omega), cond_true]
    · rw [if_neg h2, show decide ((1024 : Int) < (↑(List.length w) : Int)) = false from decide_eq_false (by omega), cond_false]
      have key := iter_scan (step := fun s => R01_Check.s2 w n s) (l := w) (fun _ x => if decide (0 ≤ x ∧ x < n) = true then none else some (1 : Int)) (fun i x hx => by
        simp only [R01_Check.s2]
        rw [dec_lt hx, cond_true, idxn_at hx, idxn_at hx]
        by_cases a1 : x < 0
        · simp [a1, show ¬ (0 ≤ x) by omega]
        · by_cases a2 : n ≤ x
          · simp [a1, a2, show ¬ (x < n) by omega]
          · simp [a1, a2, show 0 ≤ x by omega, show x < n by omega]) (by
        simp only [R01_Check.s2]
        rw [dec_end]
        rfl) (by unfold SmW at hl; omega)
      rw [key, scan_all (p := fun x => decide (0 ≤ x ∧ x < n))]
      by_cases h : (w.all fun x => decide (0 ≤ x ∧ x < n)) = true
      · rw [if_pos h, if_pos h]; rfl
      · rw [if_neg h, if_neg h]; rfl
  · rw [if_neg h1]
    simp [h1]

theorem word_Check_eq (w : List Int) (n : Int) (hl : SmW w) : word_Check w n = some (checkI w n) := by
  unfold word_Check checkI slices_ContainsFunc_Sint_int_n1 slices_IndexFunc_Sint_int_n1
  rw [word_permitted_eq]
  by_cases h1 : 1 ≤ n ∧ n ≤ 1024
  · rw [if_pos h1]
    simp only [Option.bind_some, h1, and_self, decide_true, Bool.not_true, cond_false]
    by_cases h2 : 1024 < w.length
    · rw [if_pos h2, show decide ((1024 : Int) < (↑(List.length w) : Int)) = true from decide_eq_true (by omega), cond_true]
    · rw [if_neg h2, show decide ((1024 : Int) < (↑(List.length w) : Int)) = false from decide_eq_false (by omega), cond_false]
      have key := iter_scan (step := fun s => slices_IndexFunc_Sint_int_n1.s2 w (fun u0 => word_Check_1 u0 n) s) (l := w) (fun i x => if decide (0 ≤ x ∧ x < n) = true then none else some (i : Int)) (fun i x hx => by
        simp only [slices_IndexFunc_Sint_int_n1.s2, word_Check_1]
        rw [dec_lt hx, cond_true, idxn_at hx]
        by_cases a1 : x < 0
        · simp [a1, show ¬ (0 ≤ x) by omega]
        · by_cases a2 : n ≤ x
          · simp [a1, a2, show ¬ (x < n) by omega]
          · simp [a1, a2, show 0 ≤ x by omega, show x < n by omega]) (by
        simp only [slices_IndexFunc_Sint_int_n1.s2]
        rw [dec_end]
        rfl) (by unfold SmW at hl; omega)
      rw [key]
      cases e : scan (fun i x => if decide (0 ≤ x ∧ x < n) = true then none else some (i : Int)) 0 w with
      | none =>
        have h3 := scan_none.1 e
        have h : (w.all fun x => decide (0 ≤ x ∧ x < n)) = true := List.all_eq_true.2 fun x hx => by
          obtain ⟨i, hi, rfl⟩ := List.mem_iff_getElem.1 hx
          have := h3 i _ (get_at hi)
          split at this
          · assumption
          · cases this
        rw [if_pos h]
        simp
      | some r =>
        have h : ¬ (w.all fun x => decide (0 ≤ x ∧ x < n)) = true := fun h => by
          have : scan (fun i x => if decide (0 ≤ x ∧ x < n) = true then none else some (i : Int)) 0 w = none := scan_none.2 fun i x hx => if_pos (List.all_eq_true.1 h x (List.mem_of_getElem? hx))
          rw [this] at e
          cases e
        have hr : 0 ≤ r := by
          have key : ∀ (l : List Int) (j : Nat), scan (fun i x => if decide (0 ≤ x ∧ x < n) = true then none else some (i : Int)) j l = some r → 0 ≤ r := by
            intro l
            induction l with
            | nil => intro j h; cases h
            | cons x l ih =>
              intro j h
              unfold scan at h
              split at h
              · rename_i r' h3
                injection h with h
                subst h
                split at h3
                · cases h3
                · injection h3 with h3
                  omega
              · exact ih _ h
          exact key w 0 e
        rw [if_neg h]
        simp [hr]
  · rw [if_neg h1]
    simp [h1]

/-- Common prefixes, orders. -/
theorem R01_Common_eq (a b : List Int) (ha : SmW a) : R01_Common a b = some (common a b : Int) := by
  unfold R01_Common
  rw [iter_eq (r := common a b) (fun k => k ≤ a.length ∧ common a b = common (a.drop k) (b.drop k) + k) (fun k => a.length - k) (fun k ⟨h1, h2⟩ => ?_) ⟨Nat.zero_le _, by simp⟩ (by have := fuel_big; unfold SmW at ha; omega)]
  · rfl
  · simp only [R01_Common.s2]
    rcases Nat.lt_or_ge k a.length with h | h
    · have hx := get_at h
      rcases Nat.lt_or_ge k b.length with h' | h'
      · have hy := get_at h'
        rw [dec_lt hx, dec_lt hy, cond_true, cond_true, idxn_at hx, idxn_at hy]
        rw [List.drop_eq_getElem_cons h, List.drop_eq_getElem_cons h'] at h2
        by_cases e : a[k] = b[k]
        · left
          unfold SmW at ha
          refine ⟨k + 1, ?_, ⟨h, ?_⟩, by omega⟩
          · rw [chk_pos (by unfold inR; omega)]
            simp [e]
          · rw [h2, e]
            simp [common]
            omega
        · right
          simp only [common, e, if_false, Nat.zero_add] at h2
          simp [e, h2]
      · right
        rw [dec_lt hx, cond_true, show decide ((↑k : Int) < (↑(List.length b) : Int)) = false by simp; omega]
        rw [common_end (Or.inr h'), Nat.zero_add] at h2
        simp [h2]
    · right
      rw [show decide ((↑k : Int) < (↑(List.length a) : Int)) = false by simp; omega]
      rw [common_end (Or.inl h), Nat.zero_add] at h2
      simp [h2]

theorem R01_Same_eq (a b : List Int) (ha : SmW a) : R01_Same a b = some (decide (a = b)) := by
  unfold R01_Same
  rw [R01_Common_eq a b ha]
  have h := same_iff a b
  by_cases h1 : a.length = b.length
  · rw [show decide ((↑(List.length a) : Int) = (↑(List.length b) : Int)) = true from decide_eq_true (by omega), cond_true]
    by_cases h2 : common a b = a.length
    · have : a = b := h.1 ⟨h1, h2⟩
      subst this
      simp [common_self]
    · have : a ≠ b := fun e => h2 (h.2 e).2
      simp only [Option.bind_some, this, decide_false]
      rw [decide_eq_false (by omega)]
  · have : a ≠ b := fun e => h1 (by rw [e])
    rw [show decide ((↑(List.length a) : Int) = (↑(List.length b) : Int)) = false from decide_eq_false (by omega), cond_false]
    simp [this]

theorem R01_Lex_eq (a b : List Int) (ha : SmW a) : R01_Lex a b = some (lexI a b) := by
  unfold R01_Lex
  rw [R01_Common_eq a b ha]
  have hle := common_le a b
  have hlc := lexI_common a b
  rw [hlc]
  simp only [Option.bind_some]
  by_cases h1 : common a b = a.length
  · rw [show decide ((↑(common a b) : Int) = ↑a.length) = true from decide_eq_true (by omega), cond_true, cond_true]
    by_cases h2 : common a b = b.length
    · rw [show decide ((↑(common a b) : Int) = ↑b.length) = true from decide_eq_true (by omega), if_pos ⟨h1, h2⟩]
      rfl
    · rw [show decide ((↑(common a b) : Int) = ↑b.length) = false from decide_eq_false (by omega), if_neg (fun h => h2 h.2), if_pos (Or.inl h1)]
      rfl
  · rw [show decide ((↑(common a b) : Int) = ↑a.length) = false from decide_eq_false (by omega), cond_false, cond_false, if_neg (fun h => h1 h.1)]
    by_cases h2 : common a b = b.length
    · rw [show decide ((↑(common a b) : Int) < (↑(List.length b) : Int)) = false from decide_eq_false (by omega), if_neg (fun h => by omega)]
      rfl
    · have hx := get_at (l := a) (i := common a b) (by omega)
      have hy := get_at (l := b) (i := common a b) (by omega)
      rw [show decide ((↑(common a b) : Int) < (↑(List.length b) : Int)) = true from decide_eq_true (by omega), cond_true, idx_at rfl hx, idx_at rfl hy]
      rw [List.getD_eq_getElem?_getD, List.getD_eq_getElem?_getD, hx, hy]
      by_cases h3 : a[common a b]'(by omega) < b[common a b]'(by omega)
      · rw [if_pos (Or.inr ⟨by omega, h3⟩)]
        simp [h3]
      · rw [if_neg (fun h => by
          rcases h with h | ⟨_, h⟩
          · omega
          · exact h3 h)]
        simp [h3]

theorem R01_Compare_eq (a b : List Int) (ha : SmW a) : R01_Compare a b = some (cmpW a b) := by
  unfold R01_Compare cmpW
  rw [R01_Lex_eq a b ha]
  by_cases h1 : a.length < b.length
  · rw [show decide ((↑(List.length a) : Int) < (↑(List.length b) : Int)) = true from decide_eq_true (by omega), if_pos h1]
    rfl
  · rw [show decide ((↑(List.length a) : Int) < (↑(List.length b) : Int)) = false from decide_eq_false (by omega), if_neg h1, cond_false]
    by_cases h2 : b.length < a.length
    · rw [show decide ((↑(List.length b) : Int) < (↑(List.length a) : Int)) = true from decide_eq_true (by omega), if_pos h2]
      rfl
    · rw [show decide ((↑(List.length b) : Int) < (↑(List.length a) : Int)) = false from decide_eq_false (by omega), if_neg h2]
      rfl

theorem R02_Has_eq (l : List (List Int)) (w : List Int) (hl : SmL l) : R02_Has l w = some (decide (w ∈ l)) := by
  unfold R02_Has
  have key := iter_scan (step := fun s => R02_Has.s2 l w s) (l := l) (fun _ x => if decide (x ≠ w) = true then none else some true) (fun i x hx => by
    simp only [R02_Has.s2]
    rw [dec_lt hx, cond_true, idxn_at hx, R01_Same_eq x w (hl.2 x (List.mem_of_getElem? hx))]
    by_cases h : x = w <;> simp [h]) (by
    simp only [R02_Has.s2]
    rw [dec_end]
    rfl) (by have := hl.1; omega)
  rw [key, scan_all (p := fun x => decide (x ≠ w))]
  by_cases h : w ∈ l
  · have : ¬ (l.all fun x => decide (x ≠ w)) = true := fun h2 => by
      have := List.all_eq_true.1 h2 w h
      simp at this
    rw [if_neg this]
    simp [h]
  · have : (l.all fun x => decide (x ≠ w)) = true := List.all_eq_true.2 fun x hx => by
      have : x ≠ w := fun e => h (e ▸ hx)
      simpa using this
    rw [if_pos this]
    simp [h]
end Go.Proofs.YthahbiahlpcgeaaGreatDoor.Sym

/-
  Tables: the first one, and what makes a table valid: the program's answer and the document's are one plain number.
-/
namespace Go.Proofs.YthahbiahlpcgeaaGreatDoor.Sym
set_option maxRecDepth 100000

section
variable {κ ν : Type} [BEq κ]
theorem mget_mset_same {k : κ} {v : ν} (hb : ∀ a b : κ, (a == b) = true ↔ a = b) : ∀ m : List (κ × ν), mget k (mset k v m) = some v
  | [] => by
    unfold mset mget
    rw [(hb k k).2 rfl]
  | p :: m => by
    unfold mset
    cases h : k == p.1 with
    | true =>
      show mget k ((k, v) :: m) = _
      unfold mget
      rw [(hb k k).2 rfl]
    | false =>
      show mget k (p :: mset k v m) = _
      unfold mget
      rw [h]
      exact mget_mset_same hb m
theorem mget_mset_ne {k k' : κ} {v : ν} (hb : ∀ a b : κ, (a == b) = true ↔ a = b) (hne : ¬ k' = k) : ∀ m : List (κ × ν), mget k' (mset k v m) = mget k' m
  | [] => by
    have e : (k' == k) = false := by
      cases e : k' == k with
      | true => exact absurd ((hb _ _).1 e) hne
      | false => rfl
    unfold mset mget
    simp only [e]
    rfl
  | p :: m => by
    unfold mset
    cases h : k == p.1 with
    | true =>
      have e1 : k = p.1 := (hb _ _).1 h
      show mget k' ((k, v) :: m) = mget k' (p :: m)
      have e : (k' == k) = false := by
        cases e : k' == k with
        | true => exact absurd ((hb _ _).1 e) hne
        | false => rfl
      unfold mget
      rw [← e1]
      simp only [e]
    | false =>
      show mget k' (p :: mset k v m) = mget k' (p :: m)
      unfold mget
      rw [mget_mset_ne hb hne m]
end
theorem ba_beq (a b : ByteArray) : (a == b) = true ↔ a = b := by
  cases a
  cases b
  show ByteArray.beq _ _ = true ↔ _
  unfold ByteArray.beq
  simp

/-- A word is before the one that stands at a place. -/
def prevLt (l : List (List Int)) (i : Nat) (w : List Int) : Bool := match i with
  | 0 => true
  | i + 1 => match l[i]? with | some p => decide (cmpW p w < 0) | none => true

theorem Asc_of_prev {l : List (List Int)} (h : ∀ i w, l[i]? = some w → prevLt l i w = true) : Asc l := by
  have one : ∀ i p w, l[i]? = some p → l[i + 1]? = some w → cmpW p w = -1 := fun i p w hp hw => by
    have h1 := h (i + 1) w hw
    unfold prevLt at h1
    simp only [hp] at h1
    have h1 := of_decide_eq_true h1
    have := cmpW_range p w
    omega
  have key : ∀ (d i : Nat) p w, l[i]? = some p → l[i + d + 1]? = some w → cmpW p w = -1 := by
    intro d
    induction d with
    | zero => exact one
    | succ d ih =>
      intro i p w hp hw
      have hj := (List.getElem?_eq_some_iff.1 hw).1
      have hm := get_at (l := l) (i := i + d + 1) (by omega)
      exact cmpW_trans _ _ _ (ih i p _ hp hm) (one _ _ _ hm (by rw [show i + d + 1 + 1 = i + (d + 1) + 1 by omega]; exact hw))
  rw [Asc, List.pairwise_iff_getElem]
  intro i j hi hj hij
  exact key (j - i - 1) i _ _ (get_at hi) (by rw [show i + (j - i - 1) + 1 = j by omega]; exact get_at hj)

theorem table_ascends_eq (l : List (List Int)) (hl : SmL l) {i : Nat} {w : List Int} (h : l[i]? = some w) : table_ascends l (↑i : Int) = some (prevLt l i w) := by
  have hi := (List.getElem?_eq_some_iff.1 h).1
  have hl1 : l.length ≤ 2000000 := hl.1
  unfold table_ascends prevLt
  cases i with
  | zero => rfl
  | succ i =>
    have hp := get_at (show i < l.length by omega)
    rw [show decide ((↑(i + 1) : Int) = 0) = false from decide_eq_false (by omega), cond_false, chk_pos (by unfold inR; omega), idx_at (i := i) (by omega) hp, idx_at rfl h,
      word_Compare_eq _ _ (by have : SmW (l[i]'(by omega)) := hl.2 _ (List.mem_of_getElem? hp); unfold SmW at this; omega)]
    simp only [hp]
    rfl

def preG (t : T_api_Table) (known : List Int → Bool) (i : Nat) (w : List Int) : Option Int :=
  if checkI w t.Inputs ≠ 0 then some (checkI w t.Inputs) else if (i = 0 ∧ 0 < w.length) ∨ prevLt t.Prefixes i w = false then some 10 else if 0 < w.length ∧ known (w.take (w.length - 1)) = false then some 1 else none
def sufG (t : T_api_Table) (i : Nat) (w : List Int) : Option Int :=
  if checkI w t.Inputs ≠ 0 then some (checkI w t.Inputs) else if w.length = 0 then some 19 else if prevLt t.Suffixes i w = false then some 10 else none
/-- The error of a table. -/
def validT (t : T_api_Table) : Int :=
  if t.Inputs < 1 ∨ 64 < t.Inputs then 2 else if t.Prefixes.length = 0 then 19 else if 10000 < t.Prefixes.length ∨ 10000 < t.Suffixes.length ∨ 160000 < (↑t.Prefixes.length : Int) * (t.Inputs + 1) * ↑t.Suffixes.length then 11 else
  match scan (preG t fun w => decide (w ∈ t.Prefixes)) 0 t.Prefixes with
  | some e => e
  | none => match scan (sufG t) 0 t.Suffixes with
    | some e => e
    | none => if ∀ a ∈ List.range t.Inputs.toNat, [(↑a : Int)] ∈ t.Suffixes then (if 1023 < longestL t.Prefixes + longestL t.Suffixes then 3 else 0) else 1

/-- The keys of the prefixes. -/
theorem keys_mget (l : List (List Int)) (w : List Int) : ∀ (m : List (ByteArray × Bool)), ((mget (⟨(keyL w).toArray⟩ : ByteArray) (l.foldl (fun m x => mset ⟨(keyL x).toArray⟩ true m) m)).getD false) = (decide (w ∈ l) || (mget (⟨(keyL w).toArray⟩ : ByteArray) m).getD false) := by
  induction l with
  | nil => intro m; simp
  | cons x l ih =>
    intro m
    rw [List.foldl_cons, ih]
    by_cases h : w = x
    · subst h
      rw [mget_mset_same ba_beq]
      simp
    · have : ¬ ((⟨(keyL w).toArray⟩ : ByteArray) = ⟨(keyL x).toArray⟩) := fun e => h (keyL_inj (by
        injection e with e
        injection e))
      rw [mget_mset_ne ba_beq this]
      simp [h]

theorem longest_fold (l : List (List Int)) : ∀ n : Nat, l.foldl (fun (n : Int) w => max n (↑w.length : Int)) (↑n : Int) = ↑(l.foldl (fun n w => max n w.length) n) := by
  induction l with
  | nil => intro n; rfl
  | cons x l ih =>
    intro n
    rw [List.foldl_cons, List.foldl_cons, show max (↑n : Int) (↑x.length : Int) = ((max n x.length : Nat) : Int) by omega, ih]

theorem table_longest_eq (l : List (List Int)) (hl : SmL l) : table_longest l = some (↑(longestL l) : Int) := by
  unfold table_longest
  have h := iter_fold (step := fun (s : Int × Nat) => table_longest.s2 l s.1 s.2) (l := l) (fun a _ x => max a (↑x.length : Int)) (fun a => a) (fun _ _ => True) (fun a i x _ hx => by
    refine ⟨?_, trivial⟩
    simp only [table_longest.s2]
    rw [dec_lt hx, cond_true, idxn_at hx]) (fun a _ => by
    simp only [table_longest.s2]
    rw [dec_end]
    rfl) (by have := hl.1; omega) (a0 := 0) trivial
  rw [h.1, foldi_eq]
  have := longest_fold l 0
  simp only [Int.natCast_zero] at this
  show some _ = some _
  rw [this]
  rfl
theorem R23_longest_eq (l : List (List Int)) (hl : SmL l) : R23_longest l = some (↑(longestL l) : Int) := by
  unfold R23_longest
  have h := iter_fold (step := fun (s : Int × Nat) => R23_longest.s2 l s.1 s.2) (l := l) (fun a _ x => max a (↑x.length : Int)) (fun a => a) (fun _ _ => True) (fun a i x _ hx => by
    refine ⟨?_, trivial⟩
    simp only [R23_longest.s2]
    rw [dec_lt hx, cond_true, idxn_at hx]) (fun a _ => by
    simp only [R23_longest.s2]
    rw [dec_end]
    rfl) (by have := hl.1; omega) (a0 := 0) trivial
  rw [h.1, foldi_eq]
  have := longest_fold l 0
  simp only [Int.natCast_zero] at this
  show some _ = some _
  rw [this]
  rfl
theorem longestL_sm {l : List (List Int)} (hl : SmL l) : longestL l ≤ 2000000 := (longestL_le l _).2 fun x hx => hl.2 x hx

/-- A table of a size that fits. -/
def SmT (t : T_api_Table) : Prop := inR t.Inputs ∧ SmL t.Prefixes ∧ SmL t.Suffixes ∧ ∀ x ∈ t.Prefixes, ∀ a ∈ x, inR a

theorem table_key_eq {w : List Int} (h : SmW w) (h2 : ∀ a ∈ w, inR a) : table_key w = some ⟨(keyL w).toArray⟩ := by
  unfold table_key
  rw [chk_pos h2, chk_pos (show w.length ≤ 2000000 from h)]

theorem prod_fit {p s : Nat} {n : Int} (hp : ¬ 10000 < p) (hs : ¬ 10000 < s) (hn1 : ¬ n < 1) (hn2 : ¬ 64 < n) : inR (n + 1) ∧ inR ((↑p : Int) * (n + 1)) ∧ inR ((↑p : Int) * (n + 1) * ↑s) := by
  have h1 : 0 ≤ (↑p : Int) * (n + 1) := Int.mul_nonneg (by omega) (by omega)
  have h2 : (↑p : Int) * (n + 1) ≤ 10000 * 65 := Int.mul_le_mul (by omega) (by omega) (by omega) (by omega)
  have h3 : 0 ≤ (↑p : Int) * (n + 1) * ↑s := Int.mul_nonneg h1 (by omega)
  have h4 : (↑p : Int) * (n + 1) * ↑s ≤ 10000 * 65 * 10000 := Int.mul_le_mul h2 (by omega) (by omega) (by omega)
  unfold inR
  omega

theorem R23_prefixes_eq (t : T_api_Table) (ht : SmT t) : R23_prefixes t = some (match scan (preG t fun w => decide (w ∈ t.Prefixes)) 0 t.Prefixes with | some e => e | none => 0) := by
  obtain ⟨_, hp, _, _⟩ := ht
  have hp1 : t.Prefixes.length ≤ 2000000 := hp.1
  unfold R23_prefixes
  have key := iter_scan (step := fun s => R23_prefixes.s2 t s) (l := t.Prefixes) (preG t fun w => decide (w ∈ t.Prefixes)) (fun i w hw => by
    have hwm := List.mem_of_getElem? hw
    have hws : SmW w := hp.2 w hwm
    have hwl : w.length ≤ 2000000 := hws
    simp only [R23_prefixes.s2]
    rw [dec_lt hw, cond_true, idxn_at hw, R01_Check_eq w _ hws]
    simp only [Option.bind_some, preG]
    by_cases h1 : checkI w t.Inputs = 0
    · rw [show decide (checkI w t.Inputs ≠ 0) = false from decide_eq_false (by simpa using h1), cond_false, if_neg (by simpa using h1)]
      have hc : (cond (decide ((↑i : Int) = 0)) (cond (decide (0 < (↑(List.length w) : Int))) (some true) (cond (decide (0 < (↑i : Int))) (idx t.Prefixes ((↑i : Int) - 1) fun e249 => (R01_Compare e249 w).bind fun c250 => some (decide (0 ≤ c250))) (some false))) (cond (decide (0 < (↑i : Int))) (idx t.Prefixes ((↑i : Int) - 1) fun e252 => (R01_Compare e252 w).bind fun c253 => some (decide (0 ≤ c253))) (some false)) : Option Bool) = some (decide ((i = 0 ∧ 0 < w.length) ∨ prevLt t.Prefixes i w = false)) := by
        cases i with
        | zero =>
          by_cases h2 : 0 < w.length
          · simp [h2]
          · simp [h2, prevLt]
        | succ i =>
          have hi := (List.getElem?_eq_some_iff.1 hw).1
          have hpv := get_at (show i < t.Prefixes.length by omega)
          rw [show decide ((↑(i + 1) : Int) = 0) = false from decide_eq_false (by omega), cond_false, show decide (0 < (↑(i + 1) : Int)) = true from decide_eq_true (by omega), cond_true, idx_at (i := i) (by omega) hpv,
            R01_Compare_eq _ _ (hp.2 _ (List.mem_of_getElem? hpv))]
          simp only [prevLt, hpv, Option.bind_some]
          congr 1
          by_cases h2 : cmpW (t.Prefixes[i]'(by omega)) w < 0
          · rw [decide_eq_true h2, decide_eq_false (by omega)]
            simp
          · rw [decide_eq_false h2, decide_eq_true (by omega)]
            simp
      rw [hc]
      simp only [Option.bind_some]
      by_cases h2 : (i = 0 ∧ 0 < w.length) ∨ prevLt t.Prefixes i w = false
      · rw [decide_eq_true h2, cond_true, if_pos h2]
      · rw [decide_eq_false h2, cond_false, if_neg h2]
        by_cases h3 : 0 < w.length
        · rw [show decide (0 < (↑(List.length w) : Int)) = true from decide_eq_true (by omega), cond_true, chk_pos (by omega), R02_Has_eq _ _ hp, show Int.toNat ((↑(List.length w) : Int) - 1) = w.length - 1 by omega]
          by_cases h4 : w.take (w.length - 1) ∈ t.Prefixes <;> simp [h3, h4]
        · rw [show decide (0 < (↑(List.length w) : Int)) = false from decide_eq_false (by omega), cond_false]
          simp [h3]
    · rw [show decide (checkI w t.Inputs ≠ 0) = true from decide_eq_true h1, cond_true, if_pos h1]) (by
    simp only [R23_prefixes.s2]
    rw [dec_end]
    rfl) (by omega)
  rw [key]
  cases scan (preG t fun w => decide (w ∈ t.Prefixes)) 0 t.Prefixes <;> rfl

theorem R23_suffixes_eq (t : T_api_Table) (ht : SmT t) (hn : 1 ≤ t.Inputs ∧ t.Inputs ≤ 64) : R23_suffixes t = some (match scan (sufG t) 0 t.Suffixes with | some e => e | none => if ∀ a ∈ List.range t.Inputs.toNat, [(↑a : Int)] ∈ t.Suffixes then 0 else 1) := by
  obtain ⟨_, _, hp, _⟩ := ht
  have hp1 : t.Suffixes.length ≤ 2000000 := hp.1
  unfold R23_suffixes
  have key := iter_scan (step := fun s => R23_suffixes.s2 t s) (l := t.Suffixes) (sufG t) (fun i w hw => by
    have hwm := List.mem_of_getElem? hw
    have hws : SmW w := hp.2 w hwm
    simp only [R23_suffixes.s2]
    rw [dec_lt hw, cond_true, idxn_at hw, R01_Check_eq w _ hws]
    simp only [Option.bind_some, sufG]
    by_cases h1 : checkI w t.Inputs = 0
    · rw [show decide (checkI w t.Inputs ≠ 0) = false from decide_eq_false (by simpa using h1), cond_false, if_neg (by simpa using h1)]
      by_cases h2 : w.length = 0
      · rw [show decide ((↑(List.length w) : Int) = 0) = true from decide_eq_true (by omega), cond_true, if_pos h2]
      · rw [show decide ((↑(List.length w) : Int) = 0) = false from decide_eq_false (by omega), cond_false, if_neg h2]
        cases i with
        | zero => simp [prevLt]
        | succ i =>
          have hi := (List.getElem?_eq_some_iff.1 hw).1
          have hpv := get_at (show i < t.Suffixes.length by omega)
          rw [show decide (0 < (↑(i + 1) : Int)) = true from decide_eq_true (by omega), cond_true, idx_at (i := i) (by omega) hpv, R01_Compare_eq _ _ (hp.2 _ (List.mem_of_getElem? hpv))]
          simp only [prevLt, hpv, Option.bind_some]
          by_cases h3 : cmpW (t.Suffixes[i]'(by omega)) w < 0
          · rw [decide_eq_false (show ¬ 0 ≤ cmpW (t.Suffixes[i]'(by omega)) w by omega), decide_eq_true h3]
            rfl
          · rw [decide_eq_true (show 0 ≤ cmpW (t.Suffixes[i]'(by omega)) w by omega), decide_eq_false h3]
            rfl
    · rw [show decide (checkI w t.Inputs ≠ 0) = true from decide_eq_true h1, cond_true, if_pos h1]) (by
    simp only [R23_suffixes.s2]
    rw [dec_end]
    rfl) (by omega)
  rw [key]
  cases scan (sufG t) 0 t.Suffixes with
  | some e => rfl
  | none =>
    show (iter (fun (s : Nat) => R23_suffixes.s4 t s) fuel 0 : Option (Unit ⊕ Int)).bind (Sum.elim (fun (_ : Unit) => some 0) some) = _
    have key2 := iter_scan (step := fun s => R23_suffixes.s4 t s) (l := List.range t.Inputs.toNat) (fun _ (a : Nat) => if decide ([(↑a : Int)] ∈ t.Suffixes) = true then none else some (1 : Int)) (fun i a ha => by
      have hi : i < t.Inputs.toNat := by
        have := (List.getElem?_eq_some_iff.1 ha).1
        simpa using this
      rw [List.getElem?_range hi] at ha
      injection ha with ha
      subst ha
      simp only [R23_suffixes.s4]
      rw [show decide ((↑i : Int) < t.Inputs) = true from decide_eq_true (by omega), cond_true, R02_Has_eq _ _ hp, chk_pos (by unfold inR; omega)]
      by_cases h : [(↑i : Int)] ∈ t.Suffixes <;> simp [h]) (by
      simp only [R23_suffixes.s4]
      rw [List.length_range, show decide ((↑t.Inputs.toNat : Int) < t.Inputs) = false from decide_eq_false (by omega)]
      rfl) (by simp; omega)
    rw [key2, scan_all (p := fun (a : Nat) => decide ([(↑a : Int)] ∈ t.Suffixes))]
    by_cases h : ∀ a ∈ List.range t.Inputs.toNat, [(↑a : Int)] ∈ t.Suffixes
    · rw [if_pos h, if_pos (List.all_eq_true.2 fun a ha => decide_eq_true (h a ha))]
      rfl
    · rw [if_neg h, if_neg (fun h2 => h fun a ha => of_decide_eq_true (List.all_eq_true.1 h2 a ha))]
      rfl

theorem R23_Valid_eq (t : T_api_Table) (ht : SmT t) : R23_Valid t = some (validT t) := by
  unfold R23_Valid validT
  by_cases h1 : t.Inputs < 1
  · simp [h1]
  by_cases h2 : 64 < t.Inputs
  · simp [h1, h2]
  rw [if_neg (by omega), decide_eq_false h1, cond_false, decide_eq_false h2]
  simp only [Option.bind_some, cond_false]
  by_cases h3 : t.Prefixes.length = 0
  · rw [show decide ((↑(List.length t.Prefixes) : Int) = 0) = true from decide_eq_true (by omega), cond_true, if_pos h3]
  rw [show decide ((↑(List.length t.Prefixes) : Int) = 0) = false from decide_eq_false (by omega), cond_false, if_neg h3]
  by_cases h4 : 10000 < t.Prefixes.length
  · rw [show decide (10000 < (↑(List.length t.Prefixes) : Int)) = true from decide_eq_true (by omega), if_pos (Or.inl h4)]
    rfl
  rw [show decide (10000 < (↑(List.length t.Prefixes) : Int)) = false from decide_eq_false (by omega), cond_false]
  by_cases h5 : 10000 < t.Suffixes.length
  · rw [show decide (10000 < (↑(List.length t.Suffixes) : Int)) = true from decide_eq_true (by omega), if_pos (Or.inr (Or.inl h5))]
    rfl
  rw [show decide (10000 < (↑(List.length t.Suffixes) : Int)) = false from decide_eq_false (by omega)]
  obtain ⟨f1, f2, f3⟩ := prod_fit h4 h5 h1 h2
  simp only [Option.bind_some, cond_false]
  rw [chk_pos f1, chk_pos f2, chk_pos f3]
  by_cases h6 : 160000 < (↑t.Prefixes.length : Int) * (t.Inputs + 1) * ↑t.Suffixes.length
  · rw [decide_eq_true h6, cond_true, if_pos (Or.inr (Or.inr h6))]
  rw [decide_eq_false h6, cond_false, if_neg (fun h => by rcases h with h | h | h <;> contradiction), R23_prefixes_eq t ht, R23_suffixes_eq t ht (by omega)]
  have hcheck : ∀ {w : List Int}, checkI w t.Inputs ≠ 0 → checkI w t.Inputs ≠ 0 := fun h => h
  cases e1 : scan (preG t fun w => decide (w ∈ t.Prefixes)) 0 t.Prefixes with
  | some e =>
    have hne : e ≠ 0 := by
      have key : ∀ (l : List (List Int)) (j : Nat), scan (preG t fun w => decide (w ∈ t.Prefixes)) j l = some e → e ≠ 0 := by
        intro l
        induction l with
        | nil => intro j h; cases h
        | cons x l ih =>
          intro j h
          unfold scan at h
          split at h
          · rename_i r' h3
            injection h with h
            subst h
            unfold preG at h3
            repeat' split at h3
            all_goals first | (injection h3 with h3; subst h3; first | assumption | decide) | cases h3
          · exact ih _ h
      exact key _ 0 e1
    simp [hne]
  | none =>
    simp only [Option.bind_some]
    rw [show decide ((0 : Int) ≠ 0) = false from rfl, cond_false]
    cases e2 : scan (sufG t) 0 t.Suffixes with
    | some e =>
      have hne : e ≠ 0 := by
        have key : ∀ (l : List (List Int)) (j : Nat), scan (sufG t) j l = some e → e ≠ 0 := by
          intro l
          induction l with
          | nil => intro j h; cases h
          | cons x l ih =>
            intro j h
            unfold scan at h
            split at h
            · rename_i r' h3
              injection h with h
              subst h
              unfold sufG at h3
              repeat' split at h3
              all_goals first | (injection h3 with h3; subst h3; first | assumption | decide) | cases h3
            · exact ih _ h
        exact key _ 0 e2
      simp [hne]
    | none =>
      have l1 := longestL_sm ht.2.1
      have l2 := longestL_sm ht.2.2.1
      by_cases h7 : ∀ a ∈ List.range t.Inputs.toNat, [(↑a : Int)] ∈ t.Suffixes
      · rw [if_pos h7, if_pos h7]
        simp only [Option.bind_some]
        rw [show decide ((0 : Int) ≠ 0) = false from rfl, cond_false, R23_longest_eq _ ht.2.1, R23_longest_eq _ ht.2.2.1]
        simp only [Option.bind_some]
        rw [chk_pos (by unfold inR; omega)]
        by_cases h8 : 1023 < longestL t.Prefixes + longestL t.Suffixes
        · rw [if_pos h8, decide_eq_true (by omega)]
          rfl
        · rw [if_neg h8, decide_eq_false (by omega)]
          rfl
      · rw [if_neg h7, if_neg h7]
        rfl
end Go.Proofs.YthahbiahlpcgeaaGreatDoor.Sym

/-
  The examples of the chapter, reckoned.
-/
namespace Go.Proofs.YthahbiahlpcgeaaGreatDoor.Sym
set_option maxRecDepth 100000
theorem awake_true : L23_awake = some true := by decide +kernel
end Go.Proofs.YthahbiahlpcgeaaGreatDoor.Sym

/-
  Tables: the program's own checks, the first table, and the law of both.
-/
namespace Go.Proofs.YthahbiahlpcgeaaGreatDoor.Sym
set_option maxRecDepth 100000

theorem cmp_single {x y : Int} : cmpW [x] [y] = -1 ↔ x < y := by
  simp only [cmpW, lexI, List.length_cons, List.length_nil]
  by_cases h : x < y
  · simp [h]
  · by_cases h2 : y < x <;> simp [h, h2]
theorem cmp_len {x y : List Int} (h : cmpW x y = -1) : x.length ≤ y.length := by
  unfold cmpW at h
  split at h
  · omega
  · split at h
    · cases h
    · omega
theorem check_mem {w : List Int} {n : Int} (h : checkI w n = 0) : ∀ a ∈ w, 0 ≤ a ∧ a < n := by
  unfold checkI at h
  split at h
  · split at h
    · cases h
    · split at h
      · rename_i h3
        intro a ha
        exact of_decide_eq_true (List.all_eq_true.1 h3 a ha)
      · cases h
  · cases h

theorem one_of {w : List Int} (h0 : w.length ≠ 0) (h1 : w.length ≤ 1) : ∃ a, w = [a] := by
  match w, h0, h1 with
  | [a], _, _ => exact ⟨a, rfl⟩

/-- All words of one symbol are there just if so many stand in front. -/
theorem singles_iff {l : List (List Int)} {n : Int} (hA : Asc l) (hc : ∀ w ∈ l, checkI w n = 0 ∧ w.length ≠ 0) (hn : 1 ≤ n) : (∀ a ∈ List.range n.toNat, [(↑a : Int)] ∈ l) ↔ ∃ w, l[n.toNat - 1]? = some w ∧ w.length ≤ 1 := by
  constructor
  · intro h
    have key : ∀ a, a < n.toNat → l[a]? = some [(↑a : Int)] := by
      intro a
      induction a using Nat.strongRecOn with
      | _ a ih =>
        intro ha
        obtain ⟨j, hj, e⟩ := List.mem_iff_getElem.1 (h a (List.mem_range.2 ha))
        have ej : l[j]? = some [(↑a : Int)] := by rw [get_at hj, e]
        rcases Nat.lt_trichotomy j a with hlt | heq | hgt
        · have := ih j hlt (by omega)
          rw [ej] at this
          injection this with this
          injection this with this
          omega
        · rw [← heq, ej]
          rw [heq]
        · have hx := get_at (l := l) (i := a) (by omega)
          have hcmp := hA.get hgt hx ej
          have hxm := List.mem_of_getElem? hx
          obtain ⟨b, hb⟩ := one_of (hc _ hxm).2 (cmp_len hcmp)
          rw [hb] at hcmp hx
          have hlt := cmp_single.1 hcmp
          have hr := check_mem (hc _ hxm).1 b (by rw [hb]; simp)
          have hbb := ih b.toNat (by omega) (by omega)
          rw [show ((b.toNat : Nat) : Int) = b by omega] at hbb
          have := hA.get (show b.toNat < a by omega) hbb hx
          rw [cmpW_refl] at this
          cases this
    exact ⟨_, key (n.toNat - 1) (by omega), by simp⟩
  · rintro ⟨w, hw, hw1⟩
    have one : ∀ i, i < n.toNat → ∃ b : Int, l[i]? = some [b] ∧ 0 ≤ b ∧ b < n := fun i hi => by
      have hlen := (List.getElem?_eq_some_iff.1 hw).1
      have hx := get_at (l := l) (i := i) (by omega)
      have hl1 : (l[i]'(by omega)).length ≤ 1 := by
        rcases Nat.lt_or_ge i (n.toNat - 1) with h | h
        · have := cmp_len (hA.get h hx hw)
          omega
        · have e : i = n.toNat - 1 := by omega
          subst e
          rw [hx] at hw
          injection hw with hw
          rw [hw]
          exact hw1
      have hxm := List.mem_of_getElem? hx
      obtain ⟨b, hb⟩ := one_of (hc _ hxm).2 hl1
      rw [hb] at hx
      exact ⟨b, hx, check_mem (hc _ hxm).1 b (by rw [hb]; simp)⟩
    have lo : ∀ i (b : Int), i < n.toNat → l[i]? = some [b] → (↑i : Int) ≤ b := by
      intro i
      induction i with
      | zero =>
        intro b hi hb
        obtain ⟨b', e, h1, _⟩ := one 0 hi
        rw [hb] at e
        injection e with e
        injection e with e
        omega
      | succ i ih =>
        intro b hi hb
        obtain ⟨b', e, h1, _⟩ := one i (by omega)
        have := ih b' (by omega) e
        have := cmp_single.1 (hA.get (Nat.lt_succ_self i) e hb)
        omega
    have hi' : ∀ d i (b : Int), i + d + 1 = n.toNat → l[i]? = some [b] → b + ↑d < n := by
      intro d
      induction d with
      | zero =>
        intro i b hi hb
        obtain ⟨b', e, _, h2⟩ := one i (by omega)
        rw [hb] at e
        injection e with e
        injection e with e
        omega
      | succ d ih =>
        intro i b hi hb
        obtain ⟨b', e, _, _⟩ := one (i + 1) (by omega)
        have := ih (i + 1) b' (by omega) e
        have := cmp_single.1 (hA.get (Nat.lt_succ_self i) hb e)
        omega
    intro a ha
    have ha := List.mem_range.1 ha
    obtain ⟨b, e, _, _⟩ := one a ha
    have h1 := lo a b ha e
    have h2 := hi' (n.toNat - 1 - a) a b (by omega) e
    have : b = (↑a : Int) := by omega
    subst this
    exact List.mem_of_getElem? e

theorem sufG_none {t : T_api_Table} (h : scan (sufG t) 0 t.Suffixes = none) : Asc t.Suffixes ∧ ∀ w ∈ t.Suffixes, checkI w t.Inputs = 0 ∧ w.length ≠ 0 := by
  have h0 := scan_none.1 h
  have key : ∀ i w, t.Suffixes[i]? = some w → checkI w t.Inputs = 0 ∧ w.length ≠ 0 ∧ prevLt t.Suffixes i w = true := fun i w hw => by
    have := h0 i w hw
    rw [Nat.zero_add] at this
    unfold sufG at this
    split at this
    · cases this
    · rename_i h1
      split at this
      · cases this
      · rename_i h2
        split at this
        · cases this
        · rename_i h3
          refine ⟨by simpa using h1, h2, ?_⟩
          cases hp : prevLt t.Suffixes i w with
          | true => rfl
          | false => exact absurd hp h3
  refine ⟨Asc_of_prev fun i w hw => (key i w hw).2.2, fun w hw => ?_⟩
  obtain ⟨i, hi, rfl⟩ := List.mem_iff_getElem.1 hw
  exact ⟨(key i _ (get_at hi)).1, (key i _ (get_at hi)).2.1⟩

theorem table_Valid_eq (t : T_api_Table) (ht : SmT t) : table_Valid t = some (validT t) := by
  unfold table_Valid validT
  by_cases h1 : t.Inputs < 1
  · simp [h1]
  by_cases h2 : 64 < t.Inputs
  · simp [h1, h2]
  rw [if_neg (by omega), decide_eq_false h1, cond_false, decide_eq_false h2]
  simp only [Option.bind_some, cond_false]
  by_cases h3 : t.Prefixes.length = 0
  · rw [show decide ((↑(List.length t.Prefixes) : Int) = 0) = true from decide_eq_true (by omega), cond_true, if_pos h3]
  rw [show decide ((↑(List.length t.Prefixes) : Int) = 0) = false from decide_eq_false (by omega), cond_false, if_neg h3]
  by_cases h4 : 10000 < t.Prefixes.length
  · rw [show decide (10000 < (↑(List.length t.Prefixes) : Int)) = true from decide_eq_true (by omega), if_pos (Or.inl h4)]
    rfl
  rw [show decide (10000 < (↑(List.length t.Prefixes) : Int)) = false from decide_eq_false (by omega), cond_false]
  by_cases h5 : 10000 < t.Suffixes.length
  · rw [show decide (10000 < (↑(List.length t.Suffixes) : Int)) = true from decide_eq_true (by omega), if_pos (Or.inr (Or.inl h5))]
    rfl
  rw [show decide (10000 < (↑(List.length t.Suffixes) : Int)) = false from decide_eq_false (by omega), cond_false]
  obtain ⟨f1, f2, f3⟩ := prod_fit h4 h5 h1 h2
  rw [chk_pos f1, chk_pos f2, chk_pos f3]
  simp only [Option.bind_some]
  by_cases h6 : 160000 < (↑t.Prefixes.length : Int) * (t.Inputs + 1) * ↑t.Suffixes.length
  · rw [decide_eq_true h6, cond_true, if_pos (Or.inr (Or.inr h6))]
  rw [decide_eq_false h6, cond_false, if_neg (fun h => by rcases h with h | h | h <;> contradiction)]
  obtain ⟨_, hp, hs, hr⟩ := ht
  have hk := iter_fold (step := fun (s : (List (ByteArray × Bool)) × Nat) => table_Valid.s2 t s.1 s.2) (l := t.Prefixes) (fun m _ x => mset ⟨(keyL x).toArray⟩ true m) (fun m => m) (fun _ _ => True) (fun m i x _ hx => by
    have hxm := List.mem_of_getElem? hx
    refine ⟨?_, trivial⟩
    simp only [table_Valid.s2]
    rw [dec_lt hx, cond_true, idxn_at hx, table_key_eq (hp.2 x hxm) (hr x hxm)]
    rfl) (fun m _ => by
    simp only [table_Valid.s2]
    rw [dec_end]
    rfl) (by omega) (a0 := []) trivial
  rw [hk.1, foldi_eq]
  simp only [Option.bind_some]
  have key := iter_scan (step := fun s => table_Valid.s4 t (t.Prefixes.foldl (fun m x => mset ⟨(keyL x).toArray⟩ true m) []) s) (l := t.Prefixes) (preG t fun w => decide (w ∈ t.Prefixes)) (fun i w hw => by
    have hwm := List.mem_of_getElem? hw
    have hws : SmW w := hp.2 w hwm
    have hwl : w.length ≤ 2000000 := hws
    simp only [table_Valid.s4]
    rw [dec_lt hw, cond_true, idxn_at hw, word_Check_eq w _ hws, table_ascends_eq _ hp hw]
    simp only [Option.bind_some, preG]
    by_cases g1 : checkI w t.Inputs = 0
    · rw [show decide (checkI w t.Inputs ≠ 0) = false from decide_eq_false (by simpa using g1), cond_false, if_neg (by simpa using g1)]
      have hc : (cond (decide ((↑i : Int) = 0)) (cond (decide (0 < (↑(List.length w) : Int))) (some true) (some (!prevLt t.Prefixes i w))) (some (!prevLt t.Prefixes i w)) : Option Bool) = some (decide ((i = 0 ∧ 0 < w.length) ∨ prevLt t.Prefixes i w = false)) := by
        by_cases g2 : i = 0
        · rw [show decide ((↑i : Int) = 0) = true from decide_eq_true (by omega), cond_true]
          by_cases g3 : 0 < w.length
          · rw [show decide (0 < (↑(List.length w) : Int)) = true from decide_eq_true (by omega), cond_true, decide_eq_true (Or.inl ⟨g2, g3⟩)]
          · rw [show decide (0 < (↑(List.length w) : Int)) = false from decide_eq_false (by omega), cond_false]
            cases prevLt t.Prefixes i w <;> simp [g3]
        · rw [show decide ((↑i : Int) = 0) = false from decide_eq_false (by omega), cond_false]
          cases prevLt t.Prefixes i w <;> simp [g2]
      rw [hc]
      simp only [Option.bind_some]
      by_cases g2 : (i = 0 ∧ 0 < w.length) ∨ prevLt t.Prefixes i w = false
      · rw [decide_eq_true g2, cond_true, if_pos g2]
      · rw [decide_eq_false g2, cond_false, if_neg g2]
        by_cases g3 : 0 < w.length
        · have hts : SmW (w.take (w.length - 1)) := by
            show (w.take (w.length - 1)).length ≤ 2000000
            rw [List.length_take]
            omega
          rw [show decide (0 < (↑(List.length w) : Int)) = true from decide_eq_true (by omega), cond_true, chk_pos (by omega), show Int.toNat ((↑(List.length w) : Int) - 1) = w.length - 1 by omega, table_key_eq hts (fun a ha => hr w hwm a (List.mem_of_mem_take ha))]
          simp only [Option.bind_some]
          rw [keys_mget]
          by_cases g4 : w.take (w.length - 1) ∈ t.Prefixes <;> simp [g3, g4, mget]
        · rw [show decide (0 < (↑(List.length w) : Int)) = false from decide_eq_false (by omega), cond_false]
          simp [g3]
    · rw [show decide (checkI w t.Inputs ≠ 0) = true from decide_eq_true g1, cond_true, if_pos g1]) (by
    simp only [table_Valid.s4]
    rw [dec_end]
    rfl) (by omega)
  rw [key]
  cases e1 : scan (preG t fun w => decide (w ∈ t.Prefixes)) 0 t.Prefixes with
  | some e => rfl
  | none =>
    show (iter (fun (s : Nat) => table_Valid.s6 t s) fuel 0 : Option (Unit ⊕ Int)).bind _ = _
    have key2 := iter_scan (step := fun s => table_Valid.s6 t s) (l := t.Suffixes) (sufG t) (fun i w hw => by
      have hwm := List.mem_of_getElem? hw
      have hws : SmW w := hs.2 w hwm
      simp only [table_Valid.s6]
      rw [dec_lt hw, cond_true, idxn_at hw, word_Check_eq w _ hws, table_ascends_eq _ hs hw]
      simp only [Option.bind_some, sufG]
      by_cases g1 : checkI w t.Inputs = 0
      · rw [show decide (checkI w t.Inputs ≠ 0) = false from decide_eq_false (by simpa using g1), cond_false, if_neg (by simpa using g1)]
        by_cases g2 : w.length = 0
        · rw [show decide ((↑(List.length w) : Int) = 0) = true from decide_eq_true (by omega), cond_true, if_pos g2]
        · rw [show decide ((↑(List.length w) : Int) = 0) = false from decide_eq_false (by omega), cond_false, if_neg g2]
          cases prevLt t.Suffixes i w <;> rfl
      · rw [show decide (checkI w t.Inputs ≠ 0) = true from decide_eq_true g1, cond_true, if_pos g1]) (by
      simp only [table_Valid.s6]
      rw [dec_end]
      rfl) (by omega)
    rw [key2]
    cases e2 : scan (sufG t) 0 t.Suffixes with
    | some e => rfl
    | none =>
      obtain ⟨hA, hcs⟩ := sufG_none e2
      have hiff := singles_iff hA hcs (show 1 ≤ t.Inputs by omega)
      have l1 := longestL_sm hp
      have l2 := longestL_sm hs
      simp only [Option.bind_some, Sum.elim_inl]
      rw [table_longest_eq _ hp, table_longest_eq _ hs]
      simp only [Option.bind_some]
      rw [chk_pos (show inR ((↑(longestL t.Prefixes) : Int) + ↑(longestL t.Suffixes)) by unfold inR; omega)]
      by_cases g1 : (↑t.Suffixes.length : Int) < t.Inputs
      · have hno : ¬ ∀ a ∈ List.range t.Inputs.toNat, [(↑a : Int)] ∈ t.Suffixes := fun h => by
          obtain ⟨w, hw, _⟩ := hiff.1 h
          have := (List.getElem?_eq_some_iff.1 hw).1
          omega
        rw [decide_eq_true g1, cond_true, if_neg hno]
        rfl
      · have hx := get_at (l := t.Suffixes) (i := t.Inputs.toNat - 1) (by omega)
        rw [decide_eq_false g1, cond_false, chk_pos (by unfold inR; omega), idx_at (i := t.Inputs.toNat - 1) (by omega) hx]
        by_cases g2 : 1 < (t.Suffixes[t.Inputs.toNat - 1]'(by omega)).length
        · have hno : ¬ ∀ a ∈ List.range t.Inputs.toNat, [(↑a : Int)] ∈ t.Suffixes := fun h => by
            obtain ⟨w, hw, hw1⟩ := hiff.1 h
            rw [hx] at hw
            injection hw with hw
            rw [hw] at g2
            omega
          rw [if_neg hno, decide_eq_true (by omega)]
          rfl
        · have hyes : ∀ a ∈ List.range t.Inputs.toNat, [(↑a : Int)] ∈ t.Suffixes := hiff.2 ⟨_, hx, by omega⟩
          rw [if_pos hyes, decide_eq_false (by omega)]
          simp only [Option.bind_some, cond_false]
          by_cases h8 : 1023 < longestL t.Prefixes + longestL t.Suffixes
          · rw [if_pos h8, decide_eq_true (by omega)]
            rfl
          · rw [if_neg h8, decide_eq_false (by omega)]
            rfl

/-- The first table. -/
def singles (n : Nat) : List (List Int) := (List.range n).map fun (a : Nat) => [(↑a : Int)]
def newT (n : Int) : T_api_Table × Int := if n < 1 ∨ 64 < n then (⟨0, [], []⟩, 2) else (⟨n, [[]], singles n.toNat⟩, 0)
theorem singles_step (n : Nat) : singles (n + 1) = singles n ++ [[(↑n : Int)]] := by simp [singles, List.range_succ]
theorem singles_length (n : Nat) : (singles n).length = n := by simp [singles]

theorem R23_Singles_eq (n : Int) (h : 1 ≤ n ∧ n ≤ 64) : R23_Singles n = some (singles n.toNat) := by
  unfold R23_Singles
  rw [iter_eq (r := singles n.toNat) (fun s => s.2 ≤ n.toNat ∧ s.1 = singles s.2) (fun s => n.toNat - s.2) (fun s ⟨h1, h2⟩ => by
    simp only [R23_Singles.s2]
    by_cases h3 : s.2 < n.toNat
    · left
      refine ⟨(singles (s.2 + 1), s.2 + 1), ?_, ⟨by omega, rfl⟩, by simp only; omega⟩
      rw [decide_eq_true (by omega), cond_true, h2, singles_step, chk_pos (by rw [singles_length]; unfold capOk; omega), chk_pos (by unfold inR; omega)]
    · right
      rw [decide_eq_false (by omega), cond_false, h2, show s.2 = n.toNat by omega]) (s := ([], 0)) ⟨Nat.zero_le _, rfl⟩ (by have := fuel_big; simp only; omega)]
  rfl
theorem R23_New_eq (n : Int) : R23_New n = some (newT n) := by
  unfold R23_New newT
  by_cases h1 : n < 1
  · simp [h1]
  · by_cases h2 : 64 < n
    · simp [h1, h2]
    · rw [R23_Singles_eq n (by omega)]
      simp [h1, h2]
theorem table_New_eq (n : Int) : table_New n = some (newT n) := by
  unfold table_New newT
  by_cases h1 : n < 1
  · simp [h1]
  · by_cases h2 : 64 < n
    · simp [h1, h2]
    · rw [iter_eq (r := singles n.toNat) (fun s => s.2 ≤ n.toNat ∧ s.1 = singles s.2) (fun s => n.toNat - s.2) (fun s ⟨h1, h2⟩ => by
        simp only [table_New.s2]
        by_cases h3 : s.2 < n.toNat
        · left
          refine ⟨(singles (s.2 + 1), s.2 + 1), ?_, ⟨by omega, rfl⟩, by simp only; omega⟩
          rw [decide_eq_true (by omega), cond_true, h2, singles_step, chk_pos (by rw [singles_length]; unfold capOk; omega), chk_pos (by unfold inR; omega)]
        · right
          rw [decide_eq_false (by omega), cond_false, h2, show s.2 = n.toNat by omega]) (s := ([], 0)) ⟨Nat.zero_le _, rfl⟩ (by have := fuel_big; simp only; omega)]
      simp [h1, h2]

theorem plain_TableValid (t : T_api_Table) (n : Int) (ht : SmT t) : L23_TableValid t n = some true := by
  unfold L23_TableValid
  rw [table_New_eq, R23_New_eq, table_Valid_eq t ht, R23_Valid_eq t ht, awake_true]
  have hS : R23_Same (newT n).1 (newT n).1 = some true := by
    rw [R23_Same_eq]
    · simp
    · unfold newT
      split
      · exact ⟨by simp, fun x hx => by cases hx⟩
      · exact ⟨by simp, fun x hx => by
          rcases List.mem_singleton.1 hx with rfl
          simp [SmW]⟩
    · unfold newT
      split
      · exact ⟨by simp, fun x hx => by cases hx⟩
      · refine ⟨by rw [singles_length]; omega, fun x hx => ?_⟩
        obtain ⟨a, _, rfl⟩ := List.mem_map.1 hx
        simp [SmW]
  simp only [Option.bind_some]
  rw [hS]
  simp
end Go.Proofs.YthahbiahlpcgeaaGreatDoor.Sym

/-
  The law of TableValid, for tables within the bound.
-/
namespace Go.Proofs.YthahbiahlpcgeaaGreatDoor.Sym

theorem sum_mem {α : Type} {f : α → Nat} : ∀ {l : List α} {x : α}, x ∈ l → f x ≤ (l.map f).sum
  | y :: l, x, h => by
    rw [List.map_cons, List.sum_cons]
    rcases List.mem_cons.1 h with rfl | h
    · omega
    · have := sum_mem (f := f) h
      omega
theorem sum_len {α : Type} {f : α → Nat} (hf : ∀ x, 1 ≤ f x) : ∀ l : List α, l.length ≤ (l.map f).sum
  | [] => by simp
  | y :: l => by
    have := sum_len hf l
    have := hf y
    rw [List.map_cons, List.sum_cons, List.length_cons]
    omega
theorem sz_word {x : List Int} : x.length + 1 = szL sz1 x := by
  unfold szL sz1
  induction x with
  | nil => rfl
  | cons y l ih => simp at ih ⊢; omega
theorem sml_of {l : List (List Int)} {N : Nat} (h : szL (szL sz1) l ≤ N) (hN : N ≤ 2000000) : SmL l := by
  unfold szL at h
  refine ⟨?_, fun x hx => ?_⟩
  · have := sum_len (f := szL sz1) (fun x => by rw [← sz_word]; omega) l
    unfold szL at this
    omega
  · have := sum_mem (f := szL sz1) hx
    rw [← sz_word] at this
    unfold szL at this
    unfold SmW
    omega
theorem smt_of {t : T_api_Table} (k : ok_api_Table t) (s : sz_api_Table t ≤ 1048576) : SmT t := by
  unfold sz_api_Table at s
  obtain ⟨k1, k2, k3⟩ := k
  exact ⟨k1, sml_of (N := 1048576) (by omega) (by omega), sml_of (N := 1048576) (by omega) (by omega), k2⟩

theorem law_L23_TableValid (x0 : T_api_Table) (x1 : Int) (k0 : ok_api_Table x0) (s0 : sz_api_Table x0 ≤ 1048576) (k1 : inR x1) : L23_TableValid x0 x1 = some true := plain_TableValid x0 x1 (smt_of k0 s0)
end Go.Proofs.YthahbiahlpcgeaaGreatDoor.Sym

/-
  Sorted lists of words, duplicates struck: plain laws.
-/
namespace Go.Proofs.YthahbiahlpcgeaaGreatDoor

/-- A comparison of words that is a total order. -/
structure TotalCmp (cf : List Int → List Int → Int) : Prop where
  range : ∀ a b, cf a b = -1 ∨ cf a b = 0 ∨ cf a b = 1
  zero : ∀ a b, cf a b = 0 ↔ a = b
  swap : ∀ a b, cf b a = - cf a b
  trans : ∀ a b c, cf a b = -1 → cf b c = -1 → cf a c = -1

theorem cmpW_total : TotalCmp cmpW := ⟨cmpW_range, cmpW_zero, cmpW_swap, cmpW_trans⟩
theorem lexI_total : TotalCmp lexI := ⟨lexI_range, lexI_zero, lexI_swap, lexI_trans⟩

/-- Of equal neighbours one stays. -/
def dedupA (l : List (List Int)) : List (List Int) := l.foldl (fun acc x => if acc.getLast? = some x then acc else acc ++ [x]) []

theorem dedupA_snoc (l : List (List Int)) (x : List Int) : dedupA (l ++ [x]) = if (dedupA l).getLast? = some x then dedupA l else dedupA l ++ [x] := by
  unfold dedupA
  rw [List.foldl_append]
  rfl

theorem dedup_foldl : ∀ (l acc : List (List Int)), (l.foldl (fun acc x => if acc.getLast? = some x then acc else acc ++ [x]) acc).getLast? = if l = [] then acc.getLast? else l.getLast?
  | [], acc => by rw [if_pos rfl]; rfl
  | x :: l, acc => by
    have hx : (if acc.getLast? = some x then acc else acc ++ [x]).getLast? = some x := by
      split
      · assumption
      · simp
    rw [List.foldl_cons, dedup_foldl l, if_neg (show ¬ x :: l = [] by simp)]
    cases l with
    | nil => rw [if_pos rfl, hx]; rfl
    | cons y l =>
      rw [if_neg (show ¬ y :: l = [] by simp), List.getLast?_cons_cons]
theorem dedupA_last (l : List (List Int)) : (dedupA l).getLast? = l.getLast? := by
  unfold dedupA
  rw [dedup_foldl]
  split
  · rename_i h; rw [h]
  · rfl

theorem dedupA_step {l : List (List Int)} {k : Nat} {x y : List Int} (hy : l[k]? = some y) (hx : l[k + 1]? = some x) :
    dedupA (l.take (k + 1 + 1)) = if x = y then dedupA (l.take (k + 1)) else dedupA (l.take (k + 1)) ++ [x] := by
  rw [take_step hx, dedupA_snoc, dedupA_last, take_step hy]
  simp only [List.getLast?_append, List.getLast?_singleton, Option.some_or]
  by_cases h : y = x
  · subst h; simp
  · have h' : ¬ x = y := fun e => h e.symm
    simp [h, h']

theorem dedupA_short {l : List (List Int)} (h : l.length ≤ 1) : dedupA l = l := by
  match l, h with
  | [], _ => rfl
  | [x], _ => rfl

theorem dedup_asc {cf : List Int → List Int → Int} (T : TotalCmp cf) : ∀ {l : List (List Int)}, l.Pairwise (fun a b => 0 ≤ cf b a) → (dedupA l).Pairwise (fun a b => cf a b = -1) ∧ ∀ x, x ∈ dedupA l ↔ x ∈ l := by
  intro l
  -- from the end of the list
  suffices H : ∀ n (l : List (List Int)), l.length = n → l.Pairwise (fun a b => 0 ≤ cf b a) → (dedupA l).Pairwise (fun a b => cf a b = -1) ∧ ∀ x, x ∈ dedupA l ↔ x ∈ l from H _ l rfl
  intro n
  induction n with
  | zero =>
    intro l hl _
    have : l = [] := List.eq_nil_of_length_eq_zero hl
    subst this
    exact ⟨List.Pairwise.nil, fun x => Iff.rfl⟩
  | succ n ih =>
    intro l hl hp
    obtain ⟨m, x, rfl⟩ : ∃ m x, l = m ++ [x] := by
      have hne : l ≠ [] := by intro e; rw [e] at hl; simp at hl
      exact ⟨l.dropLast, l.getLast hne, (List.dropLast_concat_getLast hne).symm⟩
    have hml : m.length = n := by simpa using hl
    rw [List.pairwise_append] at hp
    obtain ⟨hp1, _, hp3⟩ := hp
    obtain ⟨h1, h2⟩ := ih m hml hp1
    rw [dedupA_snoc]
    by_cases h : (dedupA m).getLast? = some x
    · rw [if_pos h]
      refine ⟨h1, fun y => ?_⟩
      have hx : x ∈ m := (h2 x).1 (List.mem_of_getLast? h)
      rw [h2, List.mem_append, List.mem_singleton]
      constructor
      · exact Or.inl
      · rintro (h' | rfl)
        · exact h'
        · exact hx
    · rw [if_neg h]
      refine ⟨?_, fun y => by rw [List.mem_append, List.mem_append, h2]⟩
      rw [List.pairwise_append]
      refine ⟨h1, by simp, fun a ha b hb => ?_⟩
      rw [List.mem_singleton] at hb
      subst hb
      have ha' : a ∈ m := (h2 a).1 ha
      have hle : 0 ≤ cf b a := hp3 a ha' b (by simp)
      have hr := T.range b a
      have hsw := T.swap b a
      by_cases e : cf b a = 0
      · -- a would be the last one
        exfalso
        have hab : b = a := (T.zero _ _).1 e
        subst hab
        -- the last of m is the greatest, and b is in m and not less than it
        have hne : dedupA m ≠ [] := fun e => by rw [e] at ha; cases ha
        have hl2 := List.getLast?_eq_some_getLast hne
        have hlast : (dedupA m).getLast hne ∈ m := (h2 _).1 (List.getLast_mem hne)
        have h3 : 0 ≤ cf b ((dedupA m).getLast hne) := hp3 _ hlast b (by simp)
        have hsplit : dedupA m = (dedupA m).dropLast ++ [(dedupA m).getLast hne] := (List.dropLast_concat_getLast hne).symm
        have h4 : b = (dedupA m).getLast hne ∨ cf b ((dedupA m).getLast hne) = -1 := by
          rw [hsplit] at ha h1
          rw [List.pairwise_append] at h1
          rcases List.mem_append.1 ha with h5 | h5
          · exact Or.inr (h1.2.2 b h5 _ (by simp))
          · exact Or.inl (List.mem_singleton.1 h5)
        rcases h4 with h4 | h4
        · exact h (by rw [hl2, ← h4])
        · omega
      · omega

theorem dedupA_length (l : List (List Int)) : (dedupA l).length ≤ l.length := by
  suffices H : ∀ (l acc : List (List Int)), (l.foldl (fun acc x => if acc.getLast? = some x then acc else acc ++ [x]) acc).length ≤ acc.length + l.length by
    simpa [dedupA] using H l []
  intro l
  induction l with
  | nil => intro acc; simp
  | cons x l ih =>
    intro acc
    rw [List.foldl_cons]
    refine Nat.le_trans (ih _) ?_
    split
    · simp
    · simp; omega

end Go.Proofs.YthahbiahlpcgeaaGreatDoor

/-
  Prefixes, suffixes and maximal words: plain laws.
-/
namespace Go.Proofs.YthahbiahlpcgeaaGreatDoor

def prefixes (x : List Int) : List (List Int) := (List.range (x.length + 1)).map x.take
def suffixes (x : List Int) : List (List Int) := (List.range (x.length + 1)).map x.drop
def preL (l : List (List Int)) : List (List Int) := l.flatMap prefixes
def sufL (l : List (List Int)) : List (List Int) := l.flatMap suffixes

theorem prefixes_take (x : List Int) {j : Nat} (hj : j ≤ x.length) : (prefixes x).take (j + 1) = (prefixes x).take j ++ [x.take j] := by
  have : (prefixes x)[j]? = some (x.take j) := by simp [prefixes, List.getElem?_range (show j < x.length + 1 by omega)]
  exact take_step this
theorem suffixes_take (x : List Int) {j : Nat} (hj : j ≤ x.length) : (suffixes x).take (j + 1) = (suffixes x).take j ++ [x.drop j] := by
  have : (suffixes x)[j]? = some (x.drop j) := by simp [suffixes, List.getElem?_range (show j < x.length + 1 by omega)]
  exact take_step this
theorem prefixes_length (x : List Int) : (prefixes x).length = x.length + 1 := by simp [prefixes]
theorem suffixes_length (x : List Int) : (suffixes x).length = x.length + 1 := by simp [suffixes]
theorem preL_step {l : List (List Int)} {k : Nat} {x : List Int} (h : l[k]? = some x) : preL (l.take (k + 1)) = preL (l.take k) ++ prefixes x := by rw [take_step h]; simp [preL]
theorem sufL_step {l : List (List Int)} {k : Nat} {x : List Int} (h : l[k]? = some x) : sufL (l.take (k + 1)) = sufL (l.take k) ++ suffixes x := by rw [take_step h]; simp [sufL]
theorem flatMap_take_le {f : List Int → List (List Int)} (l : List (List Int)) (k : Nat) : ((l.take k).flatMap f).length ≤ (l.flatMap f).length := by
  have h := congrArg (List.flatMap f) (List.take_append_drop k l)
  rw [List.flatMap_append] at h
  rw [← h, List.length_append]
  omega

def topB (all : List (List Int)) (x : List Int) : Bool := all.all fun y => decide (y = x ∨ ¬ x <+: y)
/-- 'Maximal'. -/
def maxR (l : List (List Int)) : List (List Int) := (sortW l).filter (topB (sortW l))
def tailB (x : List Int) (l : List (List Int)) : Bool := l.all fun y => decide (y.length = x.length ∨ ¬ x <+: y)

theorem top_eq {all : List (List Int)} (hs : Asc all) {k : Nat} {x : List Int} (hx : all[k]? = some x) : tailB x (all.drop (k + 1)) = topB all x := by
  rw [Bool.eq_iff_iff, tailB, topB, List.all_eq_true, List.all_eq_true]
  simp only [decide_eq_true_eq]
  constructor
  · intro h y hy
    obtain ⟨i, hi⟩ := List.getElem?_of_mem hy
    rcases Nat.lt_trichotomy i k with hik | hik | hik
    · right
      intro hp
      have hc := hs.get hik hi hx
      have hl := hp.length_le
      have : x = y := hp.eq_of_length_le (by
        unfold cmpW at hc
        split at hc
        · omega
        · split at hc
          · omega
          · omega)
      rw [this, cmpW_refl] at hc
      omega
    · left
      rw [hik, hx] at hi
      injection hi with hi
      exact hi.symm
    · have hmem : y ∈ all.drop (k + 1) := by
        have : (all.drop (k + 1))[i - (k + 1)]? = some y := by rw [List.getElem?_drop, show k + 1 + (i - (k + 1)) = i by omega]; exact hi
        exact List.mem_of_getElem? this
      rcases h y hmem with h1 | h1
      · by_cases hp : x <+: y
        · left
          exact (hp.eq_of_length h1.symm).symm
        · exact Or.inr hp
      · exact Or.inr h1
  · intro h y hy
    obtain ⟨i, hi⟩ := List.getElem?_of_mem hy
    rw [List.getElem?_drop] at hi
    rcases h y (List.mem_of_getElem? hi) with h1 | h1
    · have hc := hs.get (show k < k + 1 + i by omega) hx hi
      rw [h1, cmpW_refl] at hc
      omega
    · exact Or.inr h1

theorem tailB_step {x y : List Int} {all : List (List Int)} {k j : Nat} (hk : k + 1 ≤ j) (hy : all[j]? = some y) :
    tailB x ((all.take (j + 1)).drop (k + 1)) = (tailB x ((all.take j).drop (k + 1)) && decide (y.length = x.length ∨ ¬ x <+: y)) := by
  have hj : j < all.length := (List.getElem?_eq_some_iff.1 hy).1
  rw [take_step hy, List.drop_append_of_le_length (by rw [List.length_take]; omega)]
  simp [tailB, List.all_append]

theorem filter_step {p : List Int → Bool} {all : List (List Int)} {k : Nat} {x : List Int} (h : all[k]? = some x) : (all.take (k + 1)).filter p = (all.take k).filter p ++ (if p x = true then [x] else []) := by
  rw [take_step h, List.filter_append]
  by_cases hp : p x = true <;> simp [hp]

theorem mem_maxR {l : List (List Int)} {x : List Int} (h : x ∈ maxR l) : x ∈ l := by
  unfold maxR at h
  exact (mem_sortW l x).1 (List.mem_filter.1 h).1
theorem maxR_length (l : List (List Int)) : (maxR l).length ≤ l.length := Nat.le_trans (List.length_filter_le _ _) (sortW_length l)



/-- Of words in dictionary order those that are no prefix of the next one. -/
def keepM : List (List Int) → List (List Int)
  | [] => []
  | [x] => [x]
  | x :: y :: l => if x <+: y then keepM (y :: l) else x :: keepM (y :: l)

theorem keepM_end {L : List (List Int)} {k : Nat} {x : List Int} (hx : L[k]? = some x) (hl : k + 1 = L.length) : keepM (L.drop k) = x :: keepM (L.drop (k + 1)) := by
  obtain ⟨h1, h2⟩ := List.getElem?_eq_some_iff.1 hx
  rw [List.drop_eq_getElem_cons h1, h2, List.drop_eq_nil_of_le (by omega)]
  rfl
theorem keepM_step {L : List (List Int)} {k : Nat} {x y : List Int} (hx : L[k]? = some x) (hy : L[k + 1]? = some y) : keepM (L.drop k) = if x <+: y then keepM (L.drop (k + 1)) else x :: keepM (L.drop (k + 1)) := by
  obtain ⟨h1, h2⟩ := List.getElem?_eq_some_iff.1 hx
  obtain ⟨h3, h4⟩ := List.getElem?_eq_some_iff.1 hy
  rw [List.drop_eq_getElem_cons h1, h2, List.drop_eq_getElem_cons h3, h4]
  rfl
theorem keepM_sub : ∀ L : List (List Int), (keepM L).Sublist L
  | [] => List.Sublist.refl _
  | [x] => List.Sublist.refl _
  | x :: y :: l => by
    rw [keepM]
    split
    · exact (keepM_sub (y :: l)).cons x
    · exact (keepM_sub (y :: l)).cons_cons x

theorem lex_between : ∀ (x z y : List Int), lexI x z = -1 → (z = y ∨ lexI z y = -1) → x <+: y → x <+: z
  | [], z, _, _, _, _ => List.nil_prefix
  | a :: x, [], _, h, _, _ => by simp [lexI] at h
  | a :: x, b :: z, [], _, _, h => by simp at h
  | a :: x, b :: z, c :: y, h1, h2, h3 => by
    rw [List.cons_prefix_cons] at h3
    obtain ⟨rfl, h3⟩ := h3
    simp only [lexI] at h1
    have hle : b ≤ a := by
      rcases h2 with h2 | h2
      · injection h2 with e1 e2; omega
      · simp only [lexI] at h2
        split at h2
        · omega
        · split at h2
          · omega
          · omega
    have hab : a = b := by
      split at h1
      · omega
      · split at h1
        · omega
        · omega
    subst hab
    rw [if_neg (by omega), if_neg (by omega)] at h1
    rw [List.cons_prefix_cons]
    refine ⟨rfl, lex_between x z y h1 ?_ h3⟩
    rcases h2 with h2 | h2
    · injection h2 with e1 e2; exact Or.inl e2
    · simp only [lexI] at h2
      rw [if_neg (by omega), if_neg (by omega)] at h2
      exact Or.inr h2

theorem prefix_lex : ∀ (x y : List Int), x <+: y → x ≠ y → lexI x y = -1
  | [], [], _, h => absurd rfl h
  | [], _ :: _, _, _ => rfl
  | a :: x, [], h, _ => by simp at h
  | a :: x, b :: y, h, hne => by
    rw [List.cons_prefix_cons] at h
    obtain ⟨rfl, h⟩ := h
    simp only [lexI]
    rw [if_neg (by omega), if_neg (by omega)]
    exact prefix_lex x y h (fun e => hne (by rw [e]))

/-- In dictionary order a word is a proper prefix of some word of the list just if it is one of the next. -/
theorem mem_keepM : ∀ {L : List (List Int)}, L.Pairwise (fun a b => lexI a b = -1) → ∀ x, x ∈ keepM L ↔ x ∈ L ∧ ∀ y ∈ L, y = x ∨ ¬ x <+: y
  | [], _, x => by simp [keepM]
  | [z], _, x => by
    simp only [keepM, List.mem_singleton]
    constructor
    · rintro rfl; exact ⟨rfl, fun y hy => Or.inl hy⟩
    · exact fun h => h.1
  | z :: y :: l, h, x => by
    obtain ⟨h1, h2⟩ := List.pairwise_cons.1 h
    have ih := mem_keepM (L := y :: l) h2
    have hzl : ∀ t ∈ y :: l, z ≠ t := fun t ht e => by
      have := h1 t ht
      rw [e, lexI_refl] at this
      omega
    have hlow : ∀ t ∈ y :: l, ¬ t <+: z := fun t ht hp => by
      have h3 := h1 t ht
      have h4 := prefix_lex t z hp (fun e => hzl t ht e.symm)
      rw [lexI_swap] at h4
      omega
    have hyl : ∀ t ∈ y :: l, y = t ∨ lexI y t = -1 := fun t ht => by
      rcases List.mem_cons.1 ht with e | e
      · exact Or.inl e.symm
      · exact Or.inr ((List.pairwise_cons.1 h2).1 t e)
    rw [keepM]
    by_cases hp : z <+: y
    · rw [if_pos hp, ih]
      constructor
      · rintro ⟨ha, hb⟩
        refine ⟨List.mem_cons_of_mem _ ha, fun t ht => ?_⟩
        rcases List.mem_cons.1 ht with rfl | ht
        · exact Or.inr (hlow x ha)
        · exact hb t ht
      · rintro ⟨ha, hb⟩
        rcases List.mem_cons.1 ha with rfl | ha
        · rcases hb y (by simp) with e | e
          · exact absurd e.symm (hzl y (by simp))
          · exact absurd hp e
        · exact ⟨ha, fun t ht => hb t (List.mem_cons_of_mem _ ht)⟩
    · rw [if_neg hp, List.mem_cons, ih]
      constructor
      · rintro (rfl | ⟨ha, hb⟩)
        · refine ⟨by simp, fun t ht => ?_⟩
          rcases List.mem_cons.1 ht with rfl | ht
          · exact Or.inl rfl
          · exact Or.inr fun hpt => hp (lex_between x y t (h1 y (by simp)) (hyl t ht) hpt)
        · refine ⟨List.mem_cons_of_mem _ ha, fun t ht => ?_⟩
          rcases List.mem_cons.1 ht with rfl | ht
          · exact Or.inr (hlow x ha)
          · exact hb t ht
      · rintro ⟨ha, hb⟩
        rcases List.mem_cons.1 ha with rfl | ha
        · exact Or.inl rfl
        · exact Or.inr ⟨ha, fun t ht => hb t (List.mem_cons_of_mem _ ht)⟩

theorem mem_maxR_iff (l : List (List Int)) (x : List Int) : x ∈ maxR l ↔ x ∈ l ∧ ∀ y ∈ l, y = x ∨ ¬ x <+: y := by
  unfold maxR
  rw [List.mem_filter, mem_sortW, topB, List.all_eq_true]
  simp only [mem_sortW, decide_eq_true_eq]

theorem maxR_asc (l : List (List Int)) : Asc (maxR l) := List.Pairwise.sublist List.filter_sublist (sortW_asc l)

/-- 'Maximal' of the program finds the same words. -/
theorem sortW_keepM {L l : List (List Int)} (h : L.Pairwise fun a b => lexI a b = -1) (hm : ∀ x, x ∈ L ↔ x ∈ l) : sortW (keepM L) = maxR l :=
  asc_ext (sortW_asc _) (maxR_asc l) fun x => by
    rw [mem_sortW, mem_keepM h, mem_maxR_iff]
    simp only [hm]


end Go.Proofs.YthahbiahlpcgeaaGreatDoor

/-
  What the functions on lists of words come to: plain laws.
-/
namespace Go.Proofs.YthahbiahlpcgeaaGreatDoor.Sym
set_option maxRecDepth 100000

/-- Lists joined. -/
theorem flat_take_succ {α : Type} {l : List (List α)} {i : Nat} {x : List α} (h : l[i]? = some x) : (l.take (i + 1)).flatten = (l.take i).flatten ++ x := by
  rw [take_step h]
  simp
theorem flat_take_len {α : Type} {l : List (List α)} (i : Nat) : (l.take i).flatten.length ≤ l.flatten.length := by
  have h : l.flatten = (l.take i).flatten ++ (l.drop i).flatten := by rw [← List.flatten_append, List.take_append_drop]
  rw [h, List.length_append]
  omega

theorem concat_ints (l : List (List Int)) (hl : l.length ≤ 100000000) (hf : l.flatten.length ≤ 1000000000) : slices_Concat_Sint_int l = some l.flatten := by
  unfold slices_Concat_Sint_int
  rw [iter_eq (r := l.flatten.length) (fun s => s.2 ≤ l.length ∧ s.1 = (l.take s.2).flatten.length) (fun s => l.length - s.2) (fun s ⟨h1, h2⟩ => by
    simp only [slices_Concat_Sint_int.s2]
    by_cases h3 : s.2 < l.length
    · left
      have hx := get_at h3
      have h4 := flat_take_succ hx
      have h5 := flat_take_len (l := l) (s.2 + 1)
      rw [h4, List.length_append] at h5
      refine ⟨((l.take (s.2 + 1)).flatten.length, s.2 + 1), ?_, ⟨by omega, rfl⟩, by simp only; omega⟩
      rw [dec_lt hx, cond_true, idxn_at hx, chk_pos (by unfold inR; omega), decide_eq_false (by omega), cond_false, h4, List.length_append, h2]
    · right
      have e : s.2 = l.length := by omega
      rw [decide_eq_false (by omega), cond_false, h2, e, List.take_length]) (s := (0, 0)) ⟨Nat.zero_le _, by simp⟩ (by have := fuel_big; simp only; omega)]
  simp only [Option.bind_some]
  unfold lib_Grow_int
  rw [chk_pos (by omega)]
  simp only [Option.bind_some]
  rw [iter_eq (r := l.flatten) (fun s => s.2 ≤ l.length ∧ s.1 = (l.take s.2).flatten) (fun s => l.length - s.2) (fun s ⟨h1, h2⟩ => by
    simp only [slices_Concat_Sint_int.s4]
    by_cases h3 : s.2 < l.length
    · left
      have hx := get_at h3
      have h4 := flat_take_succ hx
      have h5 := flat_take_len (l := l) (s.2 + 1)
      rw [h4, List.length_append] at h5
      refine ⟨((l.take (s.2 + 1)).flatten, s.2 + 1), ?_, ⟨by omega, rfl⟩, by simp only; omega⟩
      rw [dec_lt hx, cond_true, idxn_at hx, chk_pos (by rw [h2]; unfold capOk; omega), h4, h2]
    · right
      have e : s.2 = l.length := by omega
      rw [decide_eq_false (by omega), cond_false, h2, e, List.take_length]) (s := ([], 0)) ⟨Nat.zero_le _, by simp⟩ (by have := fuel_big; simp only; omega)]
  rfl
theorem concat_words (l : List (List (List Int))) (hl : l.length ≤ 100000000) (hf : l.flatten.length ≤ 1000000000) : slices_Concat_SSint_Sint l = some l.flatten := by
  unfold slices_Concat_SSint_Sint
  rw [iter_eq (r := l.flatten.length) (fun s => s.2 ≤ l.length ∧ s.1 = (l.take s.2).flatten.length) (fun s => l.length - s.2) (fun s ⟨h1, h2⟩ => by
    simp only [slices_Concat_SSint_Sint.s2]
    by_cases h3 : s.2 < l.length
    · left
      have hx := get_at h3
      have h4 := flat_take_succ hx
      have h5 := flat_take_len (l := l) (s.2 + 1)
      rw [h4, List.length_append] at h5
      refine ⟨((l.take (s.2 + 1)).flatten.length, s.2 + 1), ?_, ⟨by omega, rfl⟩, by simp only; omega⟩
      rw [dec_lt hx, cond_true, idxn_at hx, chk_pos (by unfold inR; omega), decide_eq_false (by omega), cond_false, h4, List.length_append, h2]
    · right
      have e : s.2 = l.length := by omega
      rw [decide_eq_false (by omega), cond_false, h2, e, List.take_length]) (s := (0, 0)) ⟨Nat.zero_le _, by simp⟩ (by have := fuel_big; simp only; omega)]
  simp only [Option.bind_some]
  unfold lib_Grow_words
  rw [chk_pos (by omega)]
  simp only [Option.bind_some]
  rw [iter_eq (r := l.flatten) (fun s => s.2 ≤ l.length ∧ s.1 = (l.take s.2).flatten) (fun s => l.length - s.2) (fun s ⟨h1, h2⟩ => by
    simp only [slices_Concat_SSint_Sint.s4]
    by_cases h3 : s.2 < l.length
    · left
      have hx := get_at h3
      have h4 := flat_take_succ hx
      have h5 := flat_take_len (l := l) (s.2 + 1)
      rw [h4, List.length_append] at h5
      refine ⟨((l.take (s.2 + 1)).flatten, s.2 + 1), ?_, ⟨by omega, rfl⟩, by simp only; omega⟩
      rw [dec_lt hx, cond_true, idxn_at hx, chk_pos (by rw [h2]; unfold capOk; omega), h4, h2]
    · right
      have e : s.2 = l.length := by omega
      rw [decide_eq_false (by omega), cond_false, h2, e, List.take_length]) (s := ([], 0)) ⟨Nat.zero_le _, by simp⟩ (by have := fuel_big; simp only; omega)]
  rfl
theorem word_Join_eq (l : List (List Int)) (hl : l.length ≤ 100000000) (hf : l.flatten.length ≤ 1000000000) : word_Join l = some l.flatten := by
  unfold word_Join
  rw [concat_ints l hl hf]
  rfl

/-- The sort. -/
theorem totB_of {cf : List Int → List Int → Int} (T : TotalCmp cf) {f : List Int → List Int → Option Int} {l : List (List Int)} (hf : ∀ a ∈ l, ∀ b ∈ l, f a b = some (cf a b)) : totB f l = true := by
  refine List.all_eq_true.2 fun a ha => List.all_eq_true.2 fun b hb => ?_
  rw [hf a ha b hb, hf b hb a ha]
  simp only [Bool.and_eq_true]
  refine ⟨⟨⟨?_, ?_⟩, ?_⟩, List.all_eq_true.2 fun c hc => ?_⟩
  · rw [beq_iff_eq]
    have := T.zero a b
    by_cases h : a = b
    · simp [h, this.2 h]
      rw [← h]
      exact (T.zero a a).2 rfl
    · have h2 : ¬ cf a b = 0 := fun e => h (this.1 e)
      simp [h, h2]
  · rw [beq_iff_eq]
    have := T.swap a b
    by_cases h : cf a b < 0
    · simp [h]; omega
    · simp [h]; omega
  · have := T.range a b
    exact decide_eq_true (by omega)
  · rw [hf b hb c hc, hf a ha c hc]
    have r1 := T.range a b
    have r2 := T.range b c
    by_cases h1 : cf a b < 0
    · by_cases h2 : cf b c < 0
      · have := T.trans a b c (by omega) (by omega)
        simp [h1, h2, this]
      · simp [h1, h2]
    · simp [h1]

theorem libSort_eq {cf : List Int → List Int → Int} (T : TotalCmp cf) {f : List Int → List Int → Option Int} {l : List (List Int)} (hl : l.length ≤ 1000000000) (hf : ∀ a ∈ l, ∀ b ∈ l, f a b = some (cf a b)) :
    ∃ S, libSort l f = some S ∧ S.Perm l ∧ S.Pairwise (fun a b => 0 ≤ cf b a) := by
  refine ⟨isortF f l, ?_, isortF_perm f l, ?_⟩
  · unfold libSort
    rw [chk_pos hl, totB_of T hf]
    rfl
  · have h := isortF_sorted (totB_iff (totB_of T hf))
    rw [List.pairwise_iff_getElem] at h ⊢
    intro i j hi hj hij
    have := h i j hi hj hij
    have m1 := (isortF_perm f l).mem_iff.1 (List.getElem_mem hi)
    have m2 := (isortF_perm f l).mem_iff.1 (List.getElem_mem hj)
    unfold NGt cfv at this
    rw [hf _ m2 _ m1] at this
    simp only [Option.getD_some] at this
    omega

/-- Duplicates struck. -/
theorem compact_eq {q : List Int → List Int → Option Bool} {l : List (List Int)} (hl : l.length ≤ 1000000000) (hq : ∀ a ∈ l, ∀ b ∈ l, q a b = some (decide (a = b))) : slices_CompactFunc_SSint_Sint_n1 l q = some (dedupA l) := by
  unfold slices_CompactFunc_SSint_Sint_n1
  by_cases h2 : l.length < 2
  · rw [decide_eq_true (by omega), cond_true, dedupA_short (by omega)]
  rw [decide_eq_false (by omega), cond_false]
  have key := iter_post (step := fun k => slices_CompactFunc_SSint_Sint_n1.s20 l q k) (fun k => 1 ≤ k ∧ k ≤ l.length ∧ dedupA (l.take k) = l.take k) (fun k => l.length - k) (fun r => Sum.elim (fun (_ : Unit) => some l) some r = some (dedupA l)) (fun k ⟨h1, h3, h4⟩ => by
    simp only [slices_CompactFunc_SSint_Sint_n1.s20]
    by_cases h5 : k < l.length
    · have hx := get_at h5
      have hp := get_at (l := l) (i := k - 1) (by omega)
      have hst := dedupA_step (l := l) (k := k - 1) (x := l[k]) hp (by rw [show k - 1 + 1 = k by omega]; exact hx)
      rw [show k - 1 + 1 = k by omega] at hst
      rw [dec_lt hx, cond_true, idxn_at hx, idx_at (i := k - 1) (by omega) hp, hq _ (List.getElem_mem _) _ (List.getElem_mem _)]
      simp only [Option.bind_some]
      by_cases h6 : l[k] = l[k - 1]'(by omega)
      · right
        rw [if_pos h6] at hst
        rw [decide_eq_true h6, cond_true, chk_pos (by omega)]
        have inner := iter_post (step := fun (s : List (List Int) × Nat × Nat) => slices_CompactFunc_SSint_Sint_n1.s18 q k s.1 s.2.1 s.2.2) (fun s => 1 ≤ s.2.2 ∧ k + s.2.2 ≤ l.length ∧ s.1.length = l.length ∧ s.2.1 = (dedupA (l.take (k + s.2.2))).length ∧ s.2.1 < k + s.2.2 ∧ s.1.take s.2.1 = dedupA (l.take (k + s.2.2)) ∧ ∀ j, s.2.1 ≤ j → s.1[j]? = l[j]?) (fun s => l.length - (k + s.2.2))
          (fun r => r.2 ≤ l.length ∧ r.1.length = l.length ∧ r.1.take r.2 = dedupA l) (fun s ⟨g1, g2, g3, g4, g5, g6, g7⟩ => by
            obtain ⟨y, kk, t⟩ := s
            simp only at g1 g2 g3 g4 g5 g6 g7
            simp only [slices_CompactFunc_SSint_Sint_n1.s18]
            by_cases g8 : k + t < l.length
            · left
              have gx := get_at (l := l) (i := k + t) g8
              have gp := get_at (l := l) (i := k + (t - 1)) (by omega)
              have yx : y[k + t]? = some l[k + t] := by rw [g7 _ (by omega)]; exact gx
              have yp : y[k + (t - 1)]? = some (l[k + (t - 1)]'(by omega)) := by rw [g7 _ (by omega)]; exact gp
              have hst2 := dedupA_step (l := l) (k := k + (t - 1)) (x := l[k + t]) gp (by rw [show k + (t - 1) + 1 = k + t by omega]; exact gx)
              rw [show k + (t - 1) + 1 = k + t by omega] at hst2
              rw [decide_eq_true (show (↑t : Int) < (↑(List.length y - k) : Int) by omega), cond_true, idxn_at yx, chk_pos (by omega), show Int.toNat ((↑t : Int) - 1) = t - 1 by omega, idxn_at yp, hq _ (List.getElem_mem _) _ (List.getElem_mem _)]
              simp only [Option.bind_some]
              by_cases g9 : l[k + t] = l[k + (t - 1)]'(by omega)
              · rw [if_pos g9] at hst2
                refine ⟨(y, kk, t + 1), by rw [decide_eq_true g9]; rfl, ⟨by simp only; omega, by simp only; omega, g3, ?_, by simp only; omega, ?_, g7⟩, by simp only; omega⟩
                · simp only
                  rw [show k + (t + 1) = k + t + 1 by omega, hst2]
                  exact g4
                · simp only
                  rw [show k + (t + 1) = k + t + 1 by omega, hst2]
                  exact g6
              · rw [if_neg g9] at hst2
                have yk := get_at (l := y) (i := kk) (by omega)
                refine ⟨(y.set kk l[k + t], kk + 1, t + 1), ?_, ⟨by simp only; omega, by simp only; omega, by simp only [List.length_set]; exact g3, ?_, by simp only; omega, ?_, fun j hj => ?_⟩, by simp only; omega⟩
                · rw [decide_eq_false g9]
                  simp only [Bool.not_false, cond_true]
                  rw [idxn_at yx, idxn_at yk, chk_pos (by unfold inR; omega)]
                · simp only
                  rw [show k + (t + 1) = k + t + 1 by omega, hst2, List.length_append, ← g4]
                  rfl
                · simp only
                  have e1 : (y.set kk l[k + t])[kk]? = some l[k + t] := by rw [List.getElem?_set]; simp; omega
                  rw [show k + (t + 1) = k + t + 1 by omega, hst2, take_step e1, List.take_set_of_le (Nat.le_refl _), g6]
                · simp only at hj
                  rw [List.getElem?_set_ne (by omega)]
                  exact g7 j (by omega)
            · right
              have e : k + t = l.length := by omega
              refine ⟨(y, kk), ?_, by simp only; omega, g3, ?_⟩
              · rw [decide_eq_false (by omega), cond_false]
              · simp only
                rw [e, List.take_length] at g6
                exact g6) fuel (l, k, 1) ⟨Nat.le_refl _, by simp only; omega, rfl, by simp only; rw [hst, h4, List.length_take]; omega, by simp only; omega, by simp only; rw [hst, h4], fun j _ => rfl⟩ (by have := fuel_big; simp only; omega)
        obtain ⟨⟨y, kk⟩, e, g1, g2, g3⟩ := inner
        simp only at g1 g2 g3
        refine ⟨.inr (dedupA l), ?_, rfl⟩
        rw [e]
        simp only [Option.bind_some, slices_CompactFunc_SSint_Sint_n1.k19]
        have e2 : (List.take kk y ++ List.replicate (List.length y - kk) ([] : List Int)).length = l.length := by
          rw [List.length_append, List.length_take, List.length_replicate]
          omega
        rw [chk_pos (by omega), chk_pos (by omega), chk_pos (by rw [e2]; omega), List.take_append_of_le_length (by rw [List.length_take]; omega), List.take_take, Nat.min_self, g3]
      · left
        rw [if_neg h6] at hst
        refine ⟨k + 1, by rw [decide_eq_false h6]; rfl, ⟨by omega, by omega, ?_⟩, by omega⟩
        rw [hst, h4, take_step hx]
    · right
      have e : k = l.length := by omega
      subst e
      refine ⟨.inl (), ?_, ?_⟩
      · rw [dec_end]; rfl
      · rw [List.take_length] at h4
        rw [h4]
        rfl) fuel 1 ⟨Nat.le_refl _, by omega, dedupA_short (by rw [List.length_take]; omega)⟩ (by have := fuel_big; omega)
  obtain ⟨r, e, hr⟩ := key
  rw [e]
  exact hr

theorem libclone_word {w : List Int} (h : SmW w) : lib_Clone_int w = some w := by
  unfold lib_Clone_int libClone
  exact chk_pos (by unfold SmW at h; unfold capOk; omega)
theorem libclone_words {l : List (List Int)} (h : l.length ≤ 2000000) : lib_Clone_words l = some l := by
  unfold lib_Clone_words libClone
  exact chk_pos (by unfold capOk; omega)

theorem ordered_eq {cf : List Int → List Int → Int} (T : TotalCmp cf) {f : List Int → List Int → Option Int} {l : List (List Int)} (hl : SmL l) (hf : ∀ a ∈ l, ∀ b ∈ l, f a b = some (cf a b)) :
    ∃ S, wordset_ordered l f = some S ∧ S.Pairwise (fun a b => cf a b = -1) ∧ (∀ x, x ∈ S ↔ x ∈ l) ∧ S.length ≤ l.length := by
  have hl1 : l.length ≤ 2000000 := hl.1
  obtain ⟨S, e1, hp, hs⟩ := libSort_eq T (by omega : l.length ≤ 1000000000) hf
  obtain ⟨d1, d2⟩ := dedup_asc T hs
  have hm : ∀ x, x ∈ dedupA S ↔ x ∈ l := fun x => by rw [d2, hp.mem_iff]
  have hlen : (dedupA S).length ≤ l.length := by
    have := dedupA_length S
    rw [hp.length_eq] at this
    exact this
  refine ⟨dedupA S, ?_, d1, hm, hlen⟩
  unfold wordset_ordered lib_SortFunc_words
  rw [libclone_words hl1]
  simp only [Option.bind_some]
  rw [e1]
  simp only [Option.bind_some]
  rw [compact_eq (by rw [hp.length_eq]; omega) (fun a ha b hb => by
    unfold wordset_ordered_1
    rw [hf a (hp.mem_iff.1 ha) b (hp.mem_iff.1 hb)]
    simp only [Option.bind_some]
    congr 1
    exact decide_eq_decide.2 (T.zero a b))]
  simp only [Option.bind_some]
  rw [iter_eq (r := dedupA S) (fun s => s.1 = dedupA S) (fun s => (dedupA S).length - s.2) (fun s h1 => by
    simp only [wordset_ordered.s2]
    by_cases h3 : s.2 < (dedupA S).length
    · left
      have hx := get_at h3
      have hxs : SmW ((dedupA S)[s.2]) := hl.2 _ ((hm _).1 (List.getElem_mem _))
      refine ⟨(dedupA S, s.2 + 1), ?_, rfl, by simp only; omega⟩
      rw [dec_lt hx, cond_true, h1, idxn_at hx, libclone_word hxs]
      simp only [Option.bind_some]
      rw [idxn_at hx, chk_pos (by unfold inR; omega), List.set_getElem_self]
    · right
      rw [decide_eq_false (by omega), cond_false, h1]) (s := (dedupA S, 0)) rfl (by have := fuel_big; simp only; omega)]
  rfl

theorem wordset_Sorted_eq {l : List (List Int)} (hl : SmL l) : wordset_Sorted l = some (sortW l) := by
  obtain ⟨S, e, h1, h2, _⟩ := ordered_eq cmpW_total (f := fun u0 u1 => word_Compare u0 u1) hl fun a ha b hb => word_Compare_eq a b (by have : SmW a := hl.2 a ha; unfold SmW at this; omega)
  unfold wordset_Sorted
  rw [e]
  show some S = _
  congr 1
  exact asc_ext h1 (sortW_asc l) fun x => by rw [h2, mem_sortW]

theorem sml_sort {l : List (List Int)} (h : SmL l) : SmL (sortW l) := ⟨Nat.le_trans (sortW_length l) h.1, fun x hx => h.2 x ((mem_sortW l x).1 hx)⟩
theorem wordset_Union_eq {ls : List (List (List Int))} (h0 : ls.length ≤ 100000000) (hl : SmL ls.flatten) : wordset_Union ls = some (sortW ls.flatten) := by
  unfold wordset_Union
  rw [concat_words ls h0 (by have := hl.1; omega)]
  simp only [Option.bind_some]
  rw [wordset_Sorted_eq hl]
  rfl

/-- The reference's place, by halving. -/
theorem R02_place_eq {l : List (List Int)} {w : List Int} (hA : Asc l) (hl : SmL l) : R02_place l w = some (↑(placeL l w) : Int) := by
  have hl1 : l.length ≤ 2000000 := hl.1
  have hsp := placeL_spec l w
  have hle := placeL_le l w
  unfold R02_place
  rw [iter_eq (r := placeL l w) (fun s => s.1 ≤ placeL l w ∧ placeL l w ≤ s.2 ∧ s.2 ≤ l.length) (fun s => s.2 - s.1) (fun s ⟨h1, h2, h3⟩ => by
    obtain ⟨lo, hi⟩ := s
    simp only at h1 h2 h3
    simp only [R02_place.s2]
    by_cases h4 : lo < hi
    · left
      have hx := get_at (l := l) (i := (lo + hi) / 2) (by omega)
      rw [decide_eq_true (by omega), cond_true, chk_pos (by unfold inR; omega), chk_pos (by unfold inR; omega), idxn_at hx, R01_Compare_eq _ _ (hl.2 _ (List.getElem_mem _))]
      simp only [Option.bind_some]
      by_cases h5 : cmpW (l[(lo + hi) / 2]'(by omega)) w < 0
      · refine ⟨((lo + hi) / 2 + 1, hi), by rw [decide_eq_true h5, cond_true, chk_pos (by unfold inR; omega)], ⟨?_, h2, h3⟩, by simp only; omega⟩
        simp only
        rcases Nat.lt_or_ge ((lo + hi) / 2) (placeL l w) with h | h
        · exact h
        · exfalso
          have hp := get_at (l := l) (i := placeL l w) (by omega)
          have hne := hsp.2 _ hp
          have r1 := cmpW_range (l[(lo + hi) / 2]'(by omega)) w
          rcases Nat.lt_or_ge (placeL l w) ((lo + hi) / 2) with h' | h'
          · have := hA.get h' hp hx
            exact hne (cmpW_trans _ _ _ this (by omega))
          · have e : placeL l w = (lo + hi) / 2 := by omega
            simp only [e] at hne
            omega
      · refine ⟨(lo, (lo + hi) / 2), by rw [decide_eq_false h5, cond_false], ⟨h1, ?_, by simp only; omega⟩, by simp only; omega⟩
        simp only
        rcases Nat.lt_or_ge ((lo + hi) / 2) (placeL l w) with h | h
        · exfalso
          have := hsp.1 _ _ h hx
          omega
        · exact h
    · right
      rw [decide_eq_false (by omega), cond_false, show lo = placeL l w by omega]) (s := (0, l.length)) ⟨Nat.zero_le _, hle, Nat.le_refl _⟩ (by have := fuel_big; simp only; omega)]
  rfl

theorem R02_with_eq {l : List (List Int)} {w : List Int} (hA : Asc l) (hl : SmL l) (hw : SmW w) : R02_with l w = some (insW l w) := by
  have hl1 : l.length ≤ 2000000 := hl.1
  have hw1 : w.length ≤ 2000000 := hw
  have hle := placeL_le l w
  have hmp := hA.mem_place w
  unfold R02_with
  rw [R02_place_eq hA hl]
  simp only [Option.bind_some]
  by_cases hm : w ∈ l
  · have hx := hmp.1 hm
    have hlt := (List.getElem?_eq_some_iff.1 hx).1
    rw [decide_eq_true (show (↑(placeL l w) : Int) < (↑(List.length l) : Int) by omega), cond_true, idx_at rfl hx, R01_Same_eq _ _ hw]
    unfold insW
    rw [if_pos hm]
    simp
  · have hc : (cond (decide ((↑(placeL l w) : Int) < (↑(List.length l) : Int))) (idx l (↑(placeL l w) : Int) fun e59 => (R01_Same e59 w).bind fun c60 => some c60) (some false) : Option Bool) = some false := by
      by_cases hlt : placeL l w < l.length
      · have hx := get_at hlt
        rw [decide_eq_true (by omega), cond_true, idx_at rfl hx, R01_Same_eq _ _ (hl.2 _ (List.getElem_mem _))]
        have : ¬ l[placeL l w] = w := fun e => hm (hmp.2 (by rw [hx, e]))
        simp [this]
      · rw [decide_eq_false (by omega), cond_false]
    rw [hc]
    simp only [Option.bind_some, cond_false]
    have hlen : (l ++ [([] : List Int)]).length = l.length + 1 := by simp
    rw [chk_pos (by unfold capOk; omega), chk_pos (by rw [hlen]; unfold inR; omega)]
    have key := iter_post (step := fun (s : List (List Int) × Int) => R02_with.s2 (↑(placeL l w) : Int) s.1 s.2) (fun s => ∃ i : Nat, s.2 = (i : Int) ∧ placeL l w ≤ i ∧ i ≤ l.length ∧ ∃ z, s.1 = stage l z i) (fun s => s.2.toNat - placeL l w) (fun r => ∃ z, r = stage l z (placeL l w)) (fun s ⟨i, h1, h2, h3, z, h4⟩ => by
      obtain ⟨y, i'⟩ := s
      simp only at h1 h4
      subst h1 h4
      simp only [R02_with.s2]
      by_cases h5 : placeL l w < i
      · left
        have hx := get_at (l := l) (i := i - 1) (by omega)
        have e1 : (stage l z i)[i - 1]? = some (l[i - 1]'(by omega)) := by rw [stage_before (by omega) h3]; exact hx
        have e2 : (stage l z i)[i]? = some z := stage_at h3
        refine ⟨(stage l (l[i - 1]'(by omega)) (i - 1), ↑(i - 1 : Nat)), ?_, ⟨i - 1, rfl, by omega, by omega, _, rfl⟩, by simp only; omega⟩
        rw [decide_eq_true (by omega), cond_true, chk_pos (by unfold inR; omega), idx_at (i := i - 1) (by omega) e1, idx_at rfl e2, chk_pos (by unfold inR; omega), Int.toNat_natCast, stage_set h3]
        have h6 := stage_down (us := l) (j := i - 1) hx
        rw [show i - 1 + 1 = i by omega] at h6
        rw [h6, show (↑i : Int) - 1 = ((i - 1 : Nat) : Int) by omega]
      · right
        have e : i = placeL l w := by omega
        subst e
        refine ⟨_, by rw [decide_eq_false (by omega), cond_false], z, rfl⟩) fuel (l ++ [[]], (↑(l ++ [([] : List Int)]).length : Int) - 1) ⟨l.length, by simp only [hlen]; omega, hle, Nat.le_refl _, [], (stage_end l []).symm⟩ (by have := fuel_big; simp only [hlen]; omega)
    obtain ⟨r, e, z, hz⟩ := key
    subst hz
    rw [e]
    simp only [Option.bind_some]
    have e2 : (stage l z (placeL l w))[placeL l w]? = some z := stage_at hle
    rw [chk_pos (by unfold capOk; simp; omega), idx_at rfl e2, Int.toNat_natCast, stage_set hle, List.nil_append]
    unfold insW
    rw [if_neg hm]
    rfl

theorem sml_ins {l : List (List Int)} {w : List Int} (hl : l.length ≤ 1999999 ∧ ∀ x ∈ l, SmW x) (hw : SmW w) : SmL (insW l w) := by
  refine ⟨by have := insW_length l w; omega, fun x hx => ?_⟩
  rcases (mem_insW l w x).1 hx with h | h
  · exact hl.2 x h
  · rw [h]; exact hw

theorem R02_Sorted_eq {l : List (List Int)} (hl : SmL l) : R02_Sorted l = some (sortW l) := by
  have hl1 : l.length ≤ 2000000 := hl.1
  unfold R02_Sorted
  rw [iter_eq (r := sortW l) (fun s => s.2 ≤ l.length ∧ s.1 = sortW (l.take s.2)) (fun s => l.length - s.2) (fun s ⟨h1, h2⟩ => by
    obtain ⟨y, i⟩ := s
    simp only at h1 h2
    subst h2
    simp only [R02_Sorted.s2]
    by_cases h3 : i < l.length
    · left
      have hx := get_at h3
      have hsm : SmL (sortW (l.take i)) := sml_sort ⟨by rw [List.length_take]; omega, fun x hx => hl.2 x (List.mem_of_mem_take hx)⟩
      refine ⟨(sortW (l.take (i + 1)), i + 1), ?_, ⟨h3, rfl⟩, by simp only; omega⟩
      rw [dec_lt hx, cond_true, idxn_at hx, R02_with_eq (sortW_asc _) hsm (hl.2 _ (List.getElem_mem _)), take_step hx, sortW_snoc]
      rfl
    · right
      have e : i = l.length := by omega
      subst e
      rw [decide_eq_false (by omega), cond_false, List.take_length]) (s := ([], 0)) ⟨Nat.zero_le _, by simp [sortW]⟩ (by have := fuel_big; simp only; omega)]
  rfl
theorem R02_Union_eq {ls : List (List (List Int))} (h0 : ls.length ≤ 100000000) (hl : SmL ls.flatten) : R02_Union ls = some (sortW ls.flatten) := by
  have hl1 : ls.flatten.length ≤ 2000000 := hl.1
  unfold R02_Union
  rw [iter_eq (r := ls.flatten) (fun s => s.2 ≤ ls.length ∧ s.1 = (ls.take s.2).flatten) (fun s => ls.length - s.2) (fun s ⟨h1, h2⟩ => by
    simp only [R02_Union.s2]
    by_cases h3 : s.2 < ls.length
    · left
      have hx := get_at h3
      have h4 := flat_take_succ hx
      have h5 := flat_take_len (l := ls) (s.2 + 1)
      rw [h4, List.length_append] at h5
      refine ⟨((ls.take (s.2 + 1)).flatten, s.2 + 1), ?_, ⟨by omega, rfl⟩, by simp only; omega⟩
      rw [dec_lt hx, cond_true, idxn_at hx, chk_pos (by rw [h2]; unfold capOk; omega), h4, h2]
    · right
      have e : s.2 = ls.length := by omega
      rw [decide_eq_false (by omega), cond_false, h2, e, List.take_length]) (s := ([], 0)) ⟨Nat.zero_le _, by simp⟩ (by have := fuel_big; simp only; omega)]
  simp only [Option.bind_some]
  rw [R02_Sorted_eq hl]
  rfl
end Go.Proofs.YthahbiahlpcgeaaGreatDoor.Sym

/-
  Tables that grow: the program's Prefix and Suffix are the document's. Plain laws.
-/
namespace Go.Proofs.YthahbiahlpcgeaaGreatDoor.Sym
set_option maxRecDepth 100000

theorem preL_take_len {l : List (List Int)} (i : Nat) : (preL (l.take i)).length ≤ (preL l).length := by
  unfold preL
  rw [List.flatMap_def, List.flatMap_def, List.map_take]
  exact flat_take_len i

/-- The prefixes of words, as the program lists them. -/
theorem wordset_Prefixes_eq {l : List (List Int)} (hl : SmL l) (hp : SmL (preL l)) : wordset_Prefixes l = some (sortW (preL l)) := by
  have hl1 : l.length ≤ 2000000 := hl.1
  have hp1 : (preL l).length ≤ 2000000 := hp.1
  unfold wordset_Prefixes wordset_parts
  rw [iter_eq (r := preL l) (fun s => s.2 ≤ l.length ∧ s.1 = preL (l.take s.2)) (fun s => l.length - s.2) (fun s ⟨h1, h2⟩ => by
    obtain ⟨y, i⟩ := s
    simp only at h1 h2
    subst h2
    simp only [wordset_parts.s14]
    by_cases h3 : i < l.length
    · left
      have hx := get_at h3
      have hxs : SmW l[i] := hl.2 _ (List.getElem_mem _)
      have hx1 : l[i].length ≤ 2000000 := hxs
      have hst := preL_step hx
      have hle := preL_take_len (l := l) (i + 1)
      rw [hst, List.length_append, prefixes_length] at hle
      refine ⟨(preL (l.take (i + 1)), i + 1), ?_, ⟨h3, rfl⟩, by simp only; omega⟩
      rw [dec_lt hx, cond_true, idxn_at hx, chk_pos (by unfold inR; omega)]
      rw [iter_eq (r := preL (l.take i) ++ prefixes l[i]) (fun s => s.2 ≤ l[i].length + 1 ∧ s.1 = preL (l.take i) ++ (prefixes l[i]).take s.2) (fun s => l[i].length + 1 - s.2) (fun s ⟨g1, g2⟩ => by
        obtain ⟨y, k⟩ := s
        simp only at g1 g2
        subst g2
        simp only [wordset_parts.s13, wordset_Prefixes_1]
        by_cases g3 : k < l[i].length + 1
        · left
          refine ⟨(preL (l.take i) ++ (prefixes l[i]).take (k + 1), k + 1), ?_, ⟨g3, rfl⟩, by simp only; omega⟩
          rw [decide_eq_true (by omega), cond_true, chk_pos (by omega), Int.toNat_natCast]
          simp only [obind]
          rw [chk_pos (by
            rw [List.length_append, List.length_take, prefixes_length]
            unfold capOk
            omega), chk_pos (by unfold inR; omega), prefixes_take _ (by omega), List.append_assoc]
        · right
          have e : k = l[i].length + 1 := by omega
          subst e
          rw [decide_eq_false (by omega), cond_false, ← prefixes_length, List.take_length]) (s := (preL (l.take i), 0)) ⟨Nat.zero_le _, by simp⟩ (by have := fuel_big; simp only; omega)]
      rw [hst]
      rfl
    · right
      have e : i = l.length := by omega
      subst e
      rw [decide_eq_false (by omega), cond_false, List.take_length]) (s := ([], 0)) ⟨Nat.zero_le _, by simp [preL]⟩ (by have := fuel_big; simp only; omega)]
  simp only [obind]
  rw [wordset_Sorted_eq hp]
  rfl

theorem sortW_append (a b : List (List Int)) : sortW (a ++ b) = b.foldl insW (sortW a) := by simp [sortW]

theorem R02_Prefixes_in {l : List (List Int)} {i : Nat} {x : List Int} {y : List (List Int)} (hx : l[i]? = some x) (hx1 : x.length ≤ 1000000) (hy : SmL y) (hlen : y.length + x.length + 1 ≤ 2000000) :
    iter (fun (s : List (List Int) × Nat) => R02_Prefixes.s13 l i s.1 s.2) fuel (sortW y, 0) = some (sortW (y ++ prefixes x)) := by
  refine iter_eq (fun s => s.2 ≤ x.length + 1 ∧ s.1 = sortW (y ++ (prefixes x).take s.2)) (fun s => x.length + 1 - s.2) (fun s ⟨g1, g2⟩ => ?_) ⟨Nat.zero_le _, by simp⟩ (by have := fuel_big; simp only; omega)
  obtain ⟨z, k⟩ := s
  simp only at g1 g2
  subst g2
  simp only [R02_Prefixes.s13]
  rw [idxn_at hx]
  by_cases g3 : k < x.length + 1
  · left
    have e1 : SmL (y ++ (prefixes x).take k) := by
      refine ⟨by rw [List.length_append, List.length_take, prefixes_length]; omega, fun u hu => ?_⟩
      rcases List.mem_append.1 hu with h | h
      · exact hy.2 u h
      · have h2 := List.mem_of_mem_take h
        unfold prefixes at h2
        obtain ⟨j, _, rfl⟩ := List.mem_map.1 h2
        unfold SmW
        rw [List.length_take]
        omega
    have e2 : SmW (x.take k) := by
      unfold SmW
      rw [List.length_take]
      omega
    have e3 := R02_with_eq (sortW_asc (y ++ (prefixes x).take k)) (sml_sort e1) e2
    refine ⟨(sortW (y ++ (prefixes x).take (k + 1)), k + 1), ?_, ⟨g3, rfl⟩, by simp only; omega⟩
    rw [decide_eq_true (by omega), cond_true, idxn_at hx, chk_pos (by omega), e3]
    simp only [obind]
    rw [chk_pos (by unfold inR; omega), prefixes_take _ (by omega), ← List.append_assoc, sortW_snoc]
  · right
    have e : k = x.length + 1 := by omega
    subst e
    rw [decide_eq_false (by omega), cond_false, ← prefixes_length, List.take_length]
theorem R02_Prefixes_eq {l : List (List Int)} (hl : SmL l) (hw : ∀ x ∈ l, x.length ≤ 1000000) (hp : SmL (preL l)) : R02_Prefixes l = some (sortW (preL l)) := by
  have hl1 : l.length ≤ 2000000 := hl.1
  have hp1 : (preL l).length ≤ 2000000 := hp.1
  unfold R02_Prefixes
  have key := iter_eq (step := fun (s : List (List Int) × Nat) => R02_Prefixes.s14 l s.1 s.2) (r := sortW (preL l)) (fun s => s.2 ≤ l.length ∧ s.1 = sortW (preL (l.take s.2))) (fun s => l.length - s.2) (fun s ⟨h1, h2⟩ => by
    obtain ⟨y, i⟩ := s
    simp only at h1 h2
    subst h2
    simp only [R02_Prefixes.s14]
    by_cases h3 : i < l.length
    · left
      have hx := get_at h3
      have hst := preL_step hx
      have hle := preL_take_len (l := l) (i + 1)
      rw [hst, List.length_append, prefixes_length] at hle
      have hin := R02_Prefixes_in (y := preL (l.take i)) hx (hw _ (List.getElem_mem _)) ⟨by omega, fun u hu => hp.2 u (by
        unfold preL at hu ⊢
        obtain ⟨z, hz, hz2⟩ := List.mem_flatMap.1 hu
        exact List.mem_flatMap.2 ⟨z, List.mem_of_mem_take hz, hz2⟩)⟩ (by omega)
      refine ⟨(sortW (preL (l.take i) ++ prefixes l[i]), i + 1), ?_, ⟨h3, by simp only; rw [hst]⟩, by simp only; omega⟩
      rw [dec_lt hx, cond_true, hin]
      simp only [obind]
    · right
      have e : i = l.length := by omega
      subst e
      rw [decide_eq_false (by omega), cond_false, List.take_length]) (n := fuel) (s := ([], 0)) ⟨Nat.zero_le _, by simp [preL, sortW]⟩ (by have := fuel_big; simp only; omega)
  rw [key]
  simp only [obind]

theorem R01_Join_eq (l : List (List Int)) (hl : l.length ≤ 100000000) (hf : l.flatten.length ≤ 1000000000) : R01_Join l = some l.flatten := by
  unfold R01_Join
  rw [iter_eq (r := l.flatten) (fun s => s.2 ≤ l.length ∧ s.1 = (l.take s.2).flatten) (fun s => l.length - s.2) (fun s ⟨h1, h2⟩ => by
    simp only [R01_Join.s2]
    by_cases h3 : s.2 < l.length
    · left
      have hx := get_at h3
      have h4 := flat_take_succ hx
      have h5 := flat_take_len (l := l) (s.2 + 1)
      rw [h4, List.length_append] at h5
      refine ⟨((l.take (s.2 + 1)).flatten, s.2 + 1), ?_, ⟨by omega, rfl⟩, by simp only; omega⟩
      rw [dec_lt hx, cond_true, idxn_at hx, chk_pos (by rw [h2]; unfold capOk; omega), h4, h2]
    · right
      have e : s.2 = l.length := by omega
      rw [decide_eq_false (by omega), cond_false, h2, e, List.take_length]) (s := ([], 0)) ⟨Nat.zero_le _, by simp⟩ (by have := fuel_big; simp only; omega)]
  rfl
theorem R23_Joined_eq {u v : List Int} (hu : SmW u) (hv : SmW v) : R23_Joined u v = some (u ++ v) := by
  unfold R23_Joined
  unfold SmW at hu hv
  rw [R01_Join_eq [u, v] (by simp) (by simp; omega)]
  simp

theorem R23_copied_eq {l : List (List Int)} (hl : SmL l) : R23_copied l = some l := by
  have hl1 : l.length ≤ 2000000 := hl.1
  unfold R23_copied
  rw [iter_eq (r := l) (fun s => s.2 ≤ l.length ∧ s.1 = l.take s.2) (fun s => l.length - s.2) (fun s ⟨h1, h2⟩ => by
    simp only [R23_copied.s2]
    by_cases h3 : s.2 < l.length
    · left
      have hx := get_at h3
      refine ⟨(l.take (s.2 + 1), s.2 + 1), ?_, ⟨by omega, rfl⟩, by simp only; omega⟩
      rw [dec_lt hx, cond_true, idxn_at hx, R23_Joined_eq (hl.2 _ (List.getElem_mem _)) (by simp [SmW])]
      simp only [obind]
      rw [chk_pos (by rw [h2, List.length_take]; unfold capOk; omega), take_step hx, h2, List.append_nil]
    · right
      have e : s.2 = l.length := by omega
      rw [decide_eq_false (by omega), cond_false, h2, e, List.take_length]) (s := ([], 0)) ⟨Nat.zero_le _, by simp⟩ (by have := fuel_big; simp only; omega)]
  rfl

theorem two_flat (a b : List (List Int)) : [a, b].flatten = a ++ b := by simp
theorem sml_append {a b : List (List Int)} (h : a.length + b.length ≤ 2000000) (ha : SmL a) (hb : SmL b) : SmL (a ++ b) :=
  ⟨by rw [List.length_append]; exact h, fun x hx => (List.mem_append.1 hx).elim (ha.2 x) (hb.2 x)⟩
theorem sml_nil : SmL [] := ⟨by simp, fun x hx => by cases hx⟩

theorem R23_With_eq {t : T_api_Table} {p s : List (List Int)} (h1 : SmL t.Prefixes) (h2 : SmL t.Suffixes) (hp : SmL p) (hs : SmL s) (h3 : t.Prefixes.length + p.length ≤ 2000000) (h4 : t.Suffixes.length + s.length ≤ 2000000) :
    R23_With t p s = some ⟨t.Inputs, sortW (t.Prefixes ++ p), sortW (t.Suffixes ++ s)⟩ := by
  unfold R23_With
  rw [R23_copied_eq h1, R23_copied_eq h2, R23_copied_eq hp, R23_copied_eq hs]
  simp only [obind]
  rw [R02_Union_eq (by simp) (by rw [two_flat]; exact sml_append h3 h1 hp), R02_Union_eq (by simp) (by rw [two_flat]; exact sml_append h4 h2 hs), two_flat, two_flat]
  rfl

/-- The table with more, if it is valid. -/
def growT (t : T_api_Table) (p s : List (List Int)) : T_api_Table × Int :=
  if validT ⟨t.Inputs, sortW (t.Prefixes ++ p), sortW (t.Suffixes ++ s)⟩ ≠ 0 then (t, validT ⟨t.Inputs, sortW (t.Prefixes ++ p), sortW (t.Suffixes ++ s)⟩) else (⟨t.Inputs, sortW (t.Prefixes ++ p), sortW (t.Suffixes ++ s)⟩, 0)
def prefixT (t : T_api_Table) (w : List Int) : T_api_Table × Int :=
  if validT t ≠ 0 then (t, validT t) else if checkI w t.Inputs ≠ 0 then (t, checkI w t.Inputs) else growT t (sortW (preL [w])) []
def suffixT (t : T_api_Table) (w : List Int) : T_api_Table × Int :=
  if validT t ≠ 0 then (t, validT t) else if w.length = 0 then (t, 19) else if checkI w t.Inputs ≠ 0 then (t, checkI w t.Inputs) else growT t [] [w]

theorem smt_grow {t : T_api_Table} {p s : List (List Int)} (ht : SmT t) (hp : SmL p) (hs : SmL s) (h3 : t.Prefixes.length + p.length ≤ 2000000) (h4 : t.Suffixes.length + s.length ≤ 2000000) (hr : ∀ x ∈ p, ∀ a ∈ x, inR a) :
    SmT ⟨t.Inputs, sortW (t.Prefixes ++ p), sortW (t.Suffixes ++ s)⟩ :=
  ⟨ht.1, sml_sort (sml_append h3 ht.2.1 hp), sml_sort (sml_append h4 ht.2.2.1 hs), fun x hx => by
    rcases List.mem_append.1 ((mem_sortW _ _).1 hx) with h | h
    · exact ht.2.2.2 x h
    · exact hr x h⟩

theorem table_checked_eq {t u : T_api_Table} (hu : SmT u) : table_checked t u = some (if validT u ≠ 0 then (t, validT u) else (u, 0)) := by
  unfold table_checked
  rw [table_Valid_eq u hu]
  by_cases h : validT u = 0 <;> simp [h]

theorem preL_one (w : List Int) : preL [w] = prefixes w := by simp [preL]
theorem sml_pre {w : List Int} (hw : w.length ≤ 100000) : SmL (preL [w]) := by
  rw [preL_one]
  refine ⟨by rw [prefixes_length]; omega, fun x hx => ?_⟩
  unfold prefixes at hx
  obtain ⟨k, _, rfl⟩ := List.mem_map.1 hx
  show (w.take k).length ≤ 2000000
  rw [List.length_take]
  omega
theorem sml_one {w : List Int} (hw : w.length ≤ 100000) : SmL [w] := ⟨by simp, fun x hx => by rcases List.mem_singleton.1 hx with rfl; show x.length ≤ 2000000; omega⟩

theorem table_Prefix_eq {t : T_api_Table} {w : List Int} (ht : SmT t) (hw : w.length ≤ 100000) (hr : ∀ a ∈ w, inR a) (h3 : t.Prefixes.length + 200000 ≤ 2000000) : table_Prefix t w = some (prefixT t w) := by
  unfold table_Prefix prefixT
  have hpl : (sortW (preL [w])).length ≤ 100001 := by
    have := sortW_length (preL [w])
    rw [preL_one, prefixes_length] at this
    rw [preL_one]
    omega
  have hsp := sml_sort (sml_pre hw)
  rw [table_Valid_eq t ht, word_Check_eq w _ (by unfold SmW; omega), wordset_Prefixes_eq (sml_one hw) (sml_pre hw)]
  simp only [obind]
  by_cases h1 : validT t = 0
  · by_cases h2 : checkI w t.Inputs = 0
    · rw [decide_eq_false (by simpa using h1), decide_eq_false (by simpa using h2), if_neg (by simpa using h1), if_neg (by simpa using h2), cond_false, cond_false]
      rw [wordset_Union_eq (by simp) (by rw [two_flat]; exact sml_append (by omega) ht.2.1 hsp), wordset_Sorted_eq ht.2.2.1, two_flat]
      simp only [obind]
      have hg := smt_grow (s := []) ht hsp sml_nil (by omega) (by have := ht.2.2.1.1; simp; omega) (fun x hx a ha => by
        have hx := (mem_sortW _ _).1 hx
        rw [preL_one] at hx
        unfold prefixes at hx
        obtain ⟨k, _, rfl⟩ := List.mem_map.1 hx
        exact hr a (List.mem_of_mem_take ha))
      rw [List.append_nil] at hg
      rw [table_checked_eq hg]
      unfold growT
      rw [List.append_nil]
      rfl
    · rw [decide_eq_false (by simpa using h1), decide_eq_true h2, if_neg (by simpa using h1), if_pos h2, cond_false, cond_true]
  · rw [decide_eq_true h1, if_pos h1, cond_true]

theorem R23_Prefix_eq {t : T_api_Table} {w : List Int} (ht : SmT t) (hw : w.length ≤ 100000) (hr : ∀ a ∈ w, inR a) (h3 : t.Prefixes.length + 200000 ≤ 2000000) : R23_Prefix t w = some (prefixT t w) := by
  unfold R23_Prefix prefixT
  have hpl : (sortW (preL [w])).length ≤ 100001 := by
    have := sortW_length (preL [w])
    rw [preL_one, prefixes_length] at this
    rw [preL_one]
    omega
  have hsp := sml_sort (sml_pre hw)
  rw [R23_Valid_eq t ht, R01_Check_eq w _ (by unfold SmW; omega), R02_Prefixes_eq (sml_one hw) (fun x hx => by rcases List.mem_singleton.1 hx with rfl; omega) (sml_pre hw)]
  simp only [obind]
  by_cases h1 : validT t = 0
  · by_cases h2 : checkI w t.Inputs = 0
    · rw [decide_eq_false (by simpa using h1), decide_eq_false (by simpa using h2), if_neg (by simpa using h1), if_neg (by simpa using h2), cond_false, cond_false]
      rw [R23_With_eq ht.2.1 ht.2.2.1 hsp sml_nil (by omega) (by have := ht.2.2.1.1; simp; omega)]
      simp only [obind]
      have hg := smt_grow (s := []) ht hsp sml_nil (by omega) (by have := ht.2.2.1.1; simp; omega) (fun x hx a ha => by
        have hx := (mem_sortW _ _).1 hx
        rw [preL_one] at hx
        unfold prefixes at hx
        obtain ⟨k, _, rfl⟩ := List.mem_map.1 hx
        exact hr a (List.mem_of_mem_take ha))
      rw [R23_Valid_eq _ hg]
      unfold growT
      simp only [obind]
      by_cases h5 : validT ⟨t.Inputs, sortW (t.Prefixes ++ sortW (preL [w])), sortW (t.Suffixes ++ [])⟩ = 0
      · rw [decide_eq_false (by simpa using h5), cond_false, if_neg (by simpa using h5)]
      · rw [decide_eq_true h5, cond_true, if_pos h5]
    · rw [decide_eq_false (by simpa using h1), decide_eq_true h2, if_neg (by simpa using h1), if_pos h2, cond_false, cond_true]
  · rw [decide_eq_true h1, if_pos h1, cond_true]

theorem table_Suffix_eq {t : T_api_Table} {w : List Int} (ht : SmT t) (hw : w.length ≤ 100000) (h3 : t.Suffixes.length + 200000 ≤ 2000000) : table_Suffix t w = some (suffixT t w) := by
  unfold table_Suffix suffixT
  rw [table_Valid_eq t ht, word_Check_eq w _ (by unfold SmW; omega)]
  simp only [obind]
  by_cases h1 : validT t = 0
  · rw [decide_eq_false (by simpa using h1), if_neg (by simpa using h1), cond_false]
    by_cases h0 : w.length = 0
    · rw [decide_eq_true (by omega), cond_true, if_pos h0]
    · rw [decide_eq_false (by omega), cond_false, if_neg h0]
      by_cases h2 : checkI w t.Inputs = 0
      · rw [decide_eq_false (by simpa using h2), if_neg (by simpa using h2), cond_false]
        rw [wordset_Union_eq (by simp) (by rw [two_flat]; exact sml_append (by simp; omega) ht.2.2.1 (sml_one hw)), wordset_Sorted_eq ht.2.1, two_flat]
        simp only [obind]
        have hg := smt_grow (p := []) (s := [w]) ht sml_nil (sml_one hw) (by have := ht.2.1.1; simp; omega) (by simp; omega) (fun x hx => by cases hx)
        rw [List.append_nil] at hg
        rw [table_checked_eq hg]
        unfold growT
        rw [List.append_nil]
        rfl
      · rw [decide_eq_true h2, if_pos h2, cond_true]
  · rw [decide_eq_true h1, if_pos h1, cond_true]

theorem R23_Suffix_eq {t : T_api_Table} {w : List Int} (ht : SmT t) (hw : w.length ≤ 100000) (h3 : t.Suffixes.length + 200000 ≤ 2000000) : R23_Suffix t w = some (suffixT t w) := by
  unfold R23_Suffix suffixT
  rw [R23_Valid_eq t ht, R01_Check_eq w _ (by unfold SmW; omega)]
  simp only [obind]
  by_cases h1 : validT t = 0
  · rw [decide_eq_false (by simpa using h1), if_neg (by simpa using h1), cond_false]
    by_cases h0 : w.length = 0
    · rw [decide_eq_true (by omega), cond_true, if_pos h0]
    · rw [decide_eq_false (by omega), cond_false, if_neg h0]
      by_cases h2 : checkI w t.Inputs = 0
      · rw [decide_eq_false (by simpa using h2), if_neg (by simpa using h2), cond_false]
        rw [R23_With_eq ht.2.1 ht.2.2.1 sml_nil (sml_one hw) (by have := ht.2.1.1; simp; omega) (by simp; omega)]
        simp only [obind]
        have hg := smt_grow (p := []) (s := [w]) ht sml_nil (sml_one hw) (by have := ht.2.1.1; simp; omega) (by simp; omega) (fun x hx => by cases hx)
        rw [R23_Valid_eq _ hg]
        unfold growT
        simp only [obind]
        by_cases h5 : validT ⟨t.Inputs, sortW (t.Prefixes ++ []), sortW (t.Suffixes ++ [w])⟩ = 0
        · rw [decide_eq_false (by simpa using h5), cond_false, if_neg (by simpa using h5)]
        · rw [decide_eq_true h5, cond_true, if_pos h5]
      · rw [decide_eq_true h2, if_pos h2, cond_true]
  · rw [decide_eq_true h1, if_pos h1, cond_true]

/-- What is larger than what is examined. -/
theorem L23_Long_eq (l : List (List Int)) (m : Int) (hl : l.length ≤ 2000000) : L23_Long l m = some (decide (m < ↑l.length) || !l.all fun x => decide (x.length ≤ 30)) := by
  unfold L23_Long
  by_cases h : m < ↑l.length
  · rw [decide_eq_true h, cond_true]; rfl
  · have key := iter_scan (step := fun s => L23_Long.s2 l s) (l := l) (fun _ x => if decide (x.length ≤ 30) = true then none else some true) (fun i x hx => by
      simp only [L23_Long.s2]
      rw [dec_lt hx, cond_true, idxn_at hx]
      by_cases h1 : x.length ≤ 30
      · rw [decide_eq_false (by omega), cond_false, decide_eq_true h1]; rfl
      · rw [decide_eq_true (by omega), cond_true, decide_eq_false h1]; rfl) (by
      simp only [L23_Long.s2]
      rw [dec_end]
      rfl) (by omega)
    rw [decide_eq_false h, cond_false, key, scan_all (p := fun (x : List Int) => decide (x.length ≤ 30))]
    cases (l.all fun x => decide (x.length ≤ 30)) <;> rfl
def greatT (t : T_api_Table) (o : T_api_Obs) : Bool :=
  decide (4 < t.Inputs) || (decide (30 < t.Prefixes.length) || !t.Prefixes.all fun x => decide (x.length ≤ 30)) || (decide (12 < t.Suffixes.length) || !t.Suffixes.all fun x => decide (x.length ≤ 30)) || decide (400 < o.Traces.length) || !o.Traces.all fun x => decide (x.In.length ≤ 90)
theorem L23_Great_eq (t : T_api_Table) (o : T_api_Obs) (h1 : t.Prefixes.length ≤ 2000000) (h2 : t.Suffixes.length ≤ 2000000) (h3 : o.Traces.length ≤ 2000000) : L23_Great t o = some (greatT t o) := by
  unfold L23_Great greatT
  rw [L23_Long_eq _ _ h1, L23_Long_eq _ _ h2]
  have e1 : ((30 : Int) < ↑t.Prefixes.length) ↔ 30 < t.Prefixes.length := by omega
  have e2 : ((12 : Int) < ↑t.Suffixes.length) ↔ 12 < t.Suffixes.length := by omega
  have e3 : ((400 : Int) < ↑o.Traces.length) ↔ 400 < o.Traces.length := by omega
  simp only [e1, e2, e3, obind]
  have key := iter_scan (step := fun s => L23_Great.s2 o s) (l := o.Traces) (fun _ x => if decide (x.In.length ≤ 90) = true then none else some true) (fun i x hx => by
    simp only [L23_Great.s2]
    rw [dec_lt hx, cond_true, idxn_at hx]
    by_cases h1 : x.In.length ≤ 90
    · rw [decide_eq_false (by omega), cond_false, decide_eq_true h1]; rfl
    · rw [decide_eq_true (by omega), cond_true, decide_eq_false h1]; rfl) (by
    simp only [L23_Great.s2]
    rw [dec_end]
    rfl) (by omega)
  rw [key, scan_all (p := fun (x : T_api_Trace) => decide (x.In.length ≤ 90))]
  cases decide (4 < t.Inputs) <;> cases (decide (30 < t.Prefixes.length) || !t.Prefixes.all fun x => decide (x.length ≤ 30)) <;> cases (decide (12 < t.Suffixes.length) || !t.Suffixes.all fun x => decide (x.length ≤ 30)) <;> cases decide (400 < o.Traces.length) <;> cases (o.Traces.all fun x => decide (x.In.length ≤ 90)) <;> rfl

theorem growT_sml {t : T_api_Table} {p s : List (List Int)} (ht : SmT t) (hp : SmL p) (hs : SmL s) (h3 : t.Prefixes.length + p.length ≤ 2000000) (h4 : t.Suffixes.length + s.length ≤ 2000000) : SmL (growT t p s).1.Prefixes ∧ SmL (growT t p s).1.Suffixes := by
  unfold growT
  split
  · exact ⟨ht.2.1, ht.2.2.1⟩
  · exact ⟨sml_sort (sml_append h3 ht.2.1 hp), sml_sort (sml_append h4 ht.2.2.1 hs)⟩

theorem plain_TableGrows (t : T_api_Table) (w : List Int) (ht : SmT t) (h1 : t.Prefixes.length ≤ 1048576) (h2 : t.Suffixes.length ≤ 1048576) (hw : w.length ≤ 1048576) (hr : ∀ a ∈ w, inR a) : L23_TableGrows t w = some true := by
  unfold L23_TableGrows
  rw [L23_Great_eq _ _ (by omega) (by omega) (by simp), awake_true]
  simp only [obind]
  cases greatT t ⟨0, []⟩ with
  | true => rfl
  | false =>
    simp only [cond_false]
    by_cases h3 : 1100 < w.length
    · rw [decide_eq_true (by omega)]
      rfl
    · have hw1 : w.length ≤ 100000 := by omega
      have hpl : (sortW (preL [w])).length ≤ 100001 := by
        have := sortW_length (preL [w])
        rw [preL_one, prefixes_length] at this
        rw [preL_one]
        omega
      rw [decide_eq_false (by omega), table_Prefix_eq ht hw1 hr (by omega), R23_Prefix_eq ht hw1 hr (by omega), table_Suffix_eq ht hw1 (by omega), R23_Suffix_eq ht hw1 (by omega)]
      simp only [obind, cond_false]
      have s1 : R23_Same (prefixT t w).1 (prefixT t w).1 = some true := by
        have hS : SmL (prefixT t w).1.Prefixes ∧ SmL (prefixT t w).1.Suffixes := by
          unfold prefixT
          split
          · exact ⟨ht.2.1, ht.2.2.1⟩
          · split
            · exact ⟨ht.2.1, ht.2.2.1⟩
            · exact growT_sml ht (sml_sort (sml_pre hw1)) sml_nil (by omega) (by simp; omega)
        rw [R23_Same_eq _ _ hS.1 hS.2]
        simp
      have s2 : R23_Same (suffixT t w).1 (suffixT t w).1 = some true := by
        have hS : SmL (suffixT t w).1.Prefixes ∧ SmL (suffixT t w).1.Suffixes := by
          unfold suffixT
          split
          · exact ⟨ht.2.1, ht.2.2.1⟩
          · split
            · exact ⟨ht.2.1, ht.2.2.1⟩
            · split
              · exact ⟨ht.2.1, ht.2.2.1⟩
              · exact growT_sml ht sml_nil (sml_one hw1) (by simp; omega) (by simp; omega)
        rw [R23_Same_eq _ _ hS.1 hS.2]
        simp
      rw [s1, s2]
      simp
end Go.Proofs.YthahbiahlpcgeaaGreatDoor.Sym

/-
  The law of TableGrows, for arguments within the bound.
-/
namespace Go.Proofs.YthahbiahlpcgeaaGreatDoor.Sym
theorem word_len {x : List Int} {N : Nat} (h : szL sz1 x ≤ N) : x.length ≤ N := by rw [← sz_word] at h; omega
theorem list_len {l : List (List Int)} {N : Nat} (h : szL (szL sz1) l ≤ N) : l.length ≤ N := by
  have := sum_len (f := szL sz1) (fun x => by rw [← sz_word]; omega) l
  unfold szL at h this
  omega
theorem law_L23_TableGrows (x0 : T_api_Table) (x1 : List Int) (k0 : ok_api_Table x0) (s0 : sz_api_Table x0 ≤ 1048576) (k1 : okL inR x1) (s1 : szL sz1 x1 ≤ 1048576) : L23_TableGrows x0 x1 = some true := by
  have s0' := s0
  unfold sz_api_Table at s0'
  exact plain_TableGrows x0 x1 (smt_of k0 s0) (list_len (by omega)) (list_len (by omega)) (word_len s1) k1
end Go.Proofs.YthahbiahlpcgeaaGreatDoor.Sym

/-
  Observations: what makes them valid, and their answers. Plain laws.
-/
namespace Go.Proofs.YthahbiahlpcgeaaGreatDoor.Sym
set_option maxRecDepth 100000

/-- Observations of a size that fits. -/
def SmO (o : T_api_Obs) : Prop := o.Traces.length ≤ 1100000 ∧ ∀ t ∈ o.Traces, t.In.length ≤ 1100000 ∧ t.Out.length ≤ 2000000

theorem R01_HasPrefix_eq (w p : List Int) (hw : SmW w) : R01_HasPrefix w p = some (decide (p <+: w)) := by
  unfold R01_HasPrefix
  rw [R01_Common_eq w p hw, obind]
  congr 1
  exact decide_eq_decide.2 (by rw [← prefix_iff w p]; omega)

theorem word_Common_eq (a b : List Int) (ha : SmW a) : word_Common a b = some (common a b : Int) := by
  have ha' : a.length ≤ 2000000 := ha
  have hle := common_le a b
  unfold word_Common
  have key := iter_post (step := fun k => word_Common.s2 a b k) (fun k => k ≤ a.length ∧ k ≤ b.length ∧ common a b = common (a.drop k) (b.drop k) + k) (fun k => a.length - k) (fun r => Sum.elim (fun (_ : Unit) => some (min (↑(List.length a) : Int) (↑(List.length b) : Int))) some r = some (common a b : Int)) (fun k ⟨h1, h2, h3⟩ => by
    simp only [word_Common.s2]
    by_cases h4 : k < a.length ∧ k < b.length
    · have hx := get_at h4.1
      have hy := get_at h4.2
      rw [decide_eq_true (show (↑k : Int) < min (↑(List.length a) : Int) (↑(List.length b) : Int) by omega), cond_true, idxn_at hx, idxn_at hy]
      rw [List.drop_eq_getElem_cons h4.1, List.drop_eq_getElem_cons h4.2] at h3
      by_cases e : a[k] = b[k]
      · left
        refine ⟨k + 1, by simp [e], ⟨h4.1, h4.2, ?_⟩, by omega⟩
        rw [h3, e]
        simp [common]
        omega
      · right
        simp only [common, e, if_false, Nat.zero_add] at h3
        exact ⟨.inr (k : Int), by simp [e], by rw [h3]; rfl⟩
    · right
      rw [decide_eq_false (by omega), cond_false]
      refine ⟨.inl (), rfl, ?_⟩
      rw [common_end (by omega), Nat.zero_add] at h3
      simp only [Sum.elim_inl]
      congr 1
      omega) fuel 0 ⟨Nat.zero_le _, Nat.zero_le _, by simp⟩ (by have := fuel_big; omega)
  obtain ⟨r, e, hq⟩ := key
  rw [e]
  exact hq
theorem word_HasPrefix_eq (w p : List Int) (hw : SmW w) : word_HasPrefix w p = some (decide (p <+: w)) := by
  unfold word_HasPrefix
  rw [word_Common_eq w p hw, obind]
  congr 1
  exact decide_eq_decide.2 (by rw [← prefix_iff w p]; omega)

/-- A trace of proper form. -/
def PropT (n : Int) (t : T_api_Trace) : Prop := checkI t.In n = 0 ∧ t.Out.length = t.In.length ∧ ∀ y ∈ t.Out, 0 ≤ y ∧ y ≤ 1048576

theorem R16_Proper_tot (t : T_api_Trace) (n : Int) (h1 : SmW t.In) (h2 : SmW t.Out) : ∃ e, R16_Proper t n = some e ∧ (e = 0 → PropT n t) := by
  unfold R16_Proper
  rw [R01_Check_eq _ _ h1, obind]
  by_cases g1 : checkI t.In n = 0
  · rw [decide_eq_false (by simpa using g1), cond_false]
    by_cases g2 : t.Out.length = t.In.length
    · rw [decide_eq_false (by omega), cond_false]
      have key := iter_scan (step := fun s => R16_Proper.s2 t s) (l := t.Out) (fun _ y => if decide (0 ≤ y ∧ y ≤ 1048576) = true then none else some (2 : Int)) (fun i y hy => by
        simp only [R16_Proper.s2]
        rw [dec_lt hy, cond_true, idxn_at hy, idxn_at hy]
        by_cases a1 : y < 0
        · rw [decide_eq_true a1, cond_true, obind, cond_true, decide_eq_false (show ¬ (0 ≤ y ∧ y ≤ 1048576) by omega)]; rfl
        · by_cases a2 : 1048576 < y
          · rw [decide_eq_false a1, cond_false, decide_eq_true a2, obind, cond_true, decide_eq_false (show ¬ (0 ≤ y ∧ y ≤ 1048576) by omega)]; rfl
          · rw [decide_eq_false a1, cond_false, decide_eq_false a2, obind, cond_false, decide_eq_true (show (0 ≤ y ∧ y ≤ 1048576) by omega)]; rfl) (by
        simp only [R16_Proper.s2]
        rw [dec_end]
        rfl) (by unfold SmW at h2; omega)
      rw [key, scan_all (p := fun y => decide (0 ≤ y ∧ y ≤ 1048576))]
      by_cases h : (t.Out.all fun y => decide (0 ≤ y ∧ y ≤ 1048576)) = true
      · rw [if_pos h]
        exact ⟨0, rfl, fun _ => ⟨g1, g2, fun y hy => of_decide_eq_true (List.all_eq_true.1 h y hy)⟩⟩
      · rw [if_neg h]
        exact ⟨2, rfl, fun e => by cases e⟩
    · rw [decide_eq_true (by omega), cond_true]
      exact ⟨1, rfl, fun e => by cases e⟩
  · rw [decide_eq_true g1, cond_true]
    exact ⟨_, rfl, fun e => absurd e g1⟩

/-- Where two traces go together they have one output. -/
def Agree (a b : T_api_Trace) : Prop := a.Out.take (common a.In b.In) = b.Out.take (common a.In b.In)

theorem R16_Differ_tot (a b : T_api_Trace) {n : Int} (ha : PropT n a) (hb : PropT n b) (h1 : SmW a.In) : ∃ d, R16_Differ a b = some d ∧ (¬ 0 ≤ d → Agree a b) := by
  have h1' : a.In.length ≤ 2000000 := h1
  have hc := common_le a.In b.In
  have la := ha.2.1
  have lb := hb.2.1
  unfold R16_Differ
  rw [R01_Common_eq _ _ h1, obind]
  have key := iter_post (step := fun k => R16_Differ.s2 a b (↑(common a.In b.In) : Int) k) (fun k => k ≤ common a.In b.In ∧ a.Out.take k = b.Out.take k) (fun k => common a.In b.In - k) (fun r => match r with | .inl () => Agree a b | .inr d => 0 ≤ d) (fun k ⟨g1, g2⟩ => by
    simp only [R16_Differ.s2]
    by_cases g3 : k < common a.In b.In
    · have hx := get_at (l := a.Out) (i := k) (by omega)
      have hy := get_at (l := b.Out) (i := k) (by omega)
      rw [decide_eq_true (by omega), cond_true, idxn_at hx, idxn_at hy]
      by_cases e : a.Out[k]'(by omega) = b.Out[k]'(by omega)
      · left
        refine ⟨k + 1, by rw [decide_eq_false (by simpa using e), cond_false, chk_pos (by unfold inR; omega)], ⟨g3, ?_⟩, by omega⟩
        rw [take_step hx, take_step hy, g2, e]
      · right
        exact ⟨.inr (k : Int), by rw [decide_eq_true e, cond_true], by simp⟩
    · right
      have e : k = common a.In b.In := by omega
      subst e
      exact ⟨.inl (), by rw [decide_eq_false (by omega), cond_false], g2⟩) fuel 0 ⟨Nat.zero_le _, by simp⟩ (by have := fuel_big; omega)
  obtain ⟨r, e, hq⟩ := key
  rw [e]
  cases r with
  | inl u => exact ⟨-1, rfl, fun _ => hq⟩
  | inr d => exact ⟨d, rfl, fun h => absurd hq h⟩

/-- Valid observations. -/
structure ObsOk (o : T_api_Obs) : Prop where
  inp : 1 ≤ o.Inputs ∧ o.Inputs ≤ 64
  num : o.Traces.length ≤ 10000
  prop : ∀ t ∈ o.Traces, PropT o.Inputs t ∧ t.In ≠ []
  asc : ∀ (i j : Nat) a b, i < j → o.Traces[i]? = some a → o.Traces[j]? = some b → cmpW a.In b.In = -1
  apart : ∀ (i j : Nat) a b, i < j → o.Traces[i]? = some a → o.Traces[j]? = some b → ¬ a.In <+: b.In ∧ Agree a b

theorem R16_apart_tot (o : T_api_Obs) (ho : SmO o) (hp : ∀ t ∈ o.Traces, PropT o.Inputs t) : ∃ e, R16_apart o = some e ∧ (e = 0 → ∀ (i j : Nat) a b, i < j → o.Traces[i]? = some a → o.Traces[j]? = some b → ¬ a.In <+: b.In ∧ Agree a b) := by
  obtain ⟨hl, hs⟩ := ho
  unfold R16_apart
  have inner : ∀ (i : Nat) (a : T_api_Trace), o.Traces[i]? = some a → ∃ p c, iter (fun (s : Bool × Bool × Nat) => R16_apart.s30 o i s.1 s.2.1 s.2.2) fuel (false, false, i + 1) = some (p, c) ∧ (p = false → c = false → ∀ j b, i < j → o.Traces[j]? = some b → ¬ a.In <+: b.In ∧ Agree a b) := by
    intro i a ha
    have hi := (List.getElem?_eq_some_iff.1 ha).1
    have ham := List.mem_of_getElem? ha
    have key := iter_post (step := fun (s : Bool × Bool × Nat) => R16_apart.s30 o i s.1 s.2.1 s.2.2) (fun s => i < s.2.2 ∧ s.2.2 ≤ o.Traces.length ∧ (s.1 = false → s.2.1 = false → ∀ j b, i < j → j < s.2.2 → o.Traces[j]? = some b → ¬ a.In <+: b.In ∧ Agree a b)) (fun s => o.Traces.length - s.2.2) (fun r => r.1 = false → r.2 = false → ∀ j b, i < j → o.Traces[j]? = some b → ¬ a.In <+: b.In ∧ Agree a b) (fun s ⟨g1, g2, g3⟩ => by
      obtain ⟨p, c, k⟩ := s
      simp only at g1 g2 g3
      simp only [R16_apart.s30]
      by_cases g4 : k < o.Traces.length
      · left
        have hx := get_at g4
        have hxm := List.getElem_mem g4
        have sx : SmW o.Traces[k].In := by have := (hs _ hxm).1; unfold SmW; omega
        have sa : SmW a.In := by have := (hs _ ham).1; unfold SmW; omega
        obtain ⟨d, hd, hd2⟩ := R16_Differ_tot a o.Traces[k] (hp a ham) (hp _ hxm) sa
        have hc1 : (cond p (some true) (idxn o.Traces k fun e743 => idxn o.Traces i fun e744 => (R01_HasPrefix e743.In e744.In).bind fun c745 => some c745) : Option Bool) = some (p || decide (a.In <+: o.Traces[k].In)) := by
          cases p with
          | true => rfl
          | false =>
            rw [cond_false, idxn_at hx, idxn_at ha, R01_HasPrefix_eq _ _ sx, obind]
            rfl
        rw [dec_lt hx, cond_true, hc1, obind]
        cases c with
        | true =>
          refine ⟨(p || decide (a.In <+: o.Traces[k].In), true, k + 1), rfl, ⟨by simp only; omega, by simp only; omega, fun _ h => by cases h⟩, by simp only; omega⟩
        | false =>
          rw [cond_false, idxn_at ha, idxn_at hx, hd, obind]
          refine ⟨(p || decide (a.In <+: o.Traces[k].In), decide (0 ≤ d), k + 1), rfl, ⟨by simp only; omega, by simp only; omega, fun h1 h2 j b hj1 hj2 hb => ?_⟩, by simp only; omega⟩
          simp only [Bool.or_eq_false_iff] at h1
          rcases Nat.lt_or_ge j k with h | h
          · exact g3 h1.1 rfl j b hj1 h hb
          · simp only at hj2
            have e : j = k := by omega
            subst e
            rw [hx] at hb
            injection hb with hb
            subst hb
            exact ⟨of_decide_eq_false h1.2, hd2 (of_decide_eq_false h2)⟩
      · right
        have e : k = o.Traces.length := by omega
        refine ⟨(p, c), by rw [decide_eq_false (by omega), cond_false], fun h1 h2 j b hj hb => g3 h1 h2 j b hj ?_ hb⟩
        have := (List.getElem?_eq_some_iff.1 hb).1
        omega) fuel (false, false, i + 1) ⟨by simp only; omega, by simp only; omega, fun _ _ j b h1 h2 => by simp only at h2; omega⟩ (by have := fuel_big; simp only; omega)
    obtain ⟨⟨p, c⟩, e, hq⟩ := key
    exact ⟨p, c, e, hq⟩
  have key := iter_post (step := fun i => R16_apart.s32 o i) (fun i => i ≤ o.Traces.length ∧ ∀ i' j a b, i' < i → i' < j → o.Traces[i']? = some a → o.Traces[j]? = some b → ¬ a.In <+: b.In ∧ Agree a b) (fun i => o.Traces.length - i) (fun r => match r with | .inl () => ∀ (i j : Nat) a b, i < j → o.Traces[i]? = some a → o.Traces[j]? = some b → ¬ a.In <+: b.In ∧ Agree a b | .inr e => e ≠ 0) (fun i ⟨g1, g2⟩ => by
    simp only [R16_apart.s32]
    by_cases g3 : i < o.Traces.length
    · have hx := get_at g3
      obtain ⟨p, c, e, hq⟩ := inner i _ hx
      rw [dec_lt hx, cond_true, e, obind]
      simp only [R16_apart.k31]
      cases p with
      | true => exact .inr ⟨.inr 7, rfl, (show (7 : Int) ≠ 0 by decide)⟩
      | false =>
        cases c with
        | true => exact .inr ⟨.inr 13, rfl, (show (13 : Int) ≠ 0 by decide)⟩
        | false =>
          left
          refine ⟨i + 1, rfl, ⟨g3, fun i' j a b h1 h2 ha hb => ?_⟩, by omega⟩
          rcases Nat.lt_or_ge i' i with h | h
          · exact g2 i' j a b h h2 ha hb
          · have e : i' = i := by omega
            subst e
            rw [hx] at ha
            injection ha with ha
            subst ha
            exact hq rfl rfl j b h2 hb
    · right
      refine ⟨.inl (), by rw [decide_eq_false (by omega), cond_false], fun i' j a b h ha hb => g2 i' j a b ?_ h ha hb⟩
      have := (List.getElem?_eq_some_iff.1 ha).1
      omega) fuel 0 ⟨Nat.zero_le _, fun i' j a b h => by omega⟩ (by have := fuel_big; omega)
  obtain ⟨r, e, hq⟩ := key
  rw [e]
  cases r with
  | inl u => exact ⟨0, rfl, fun _ => hq⟩
  | inr e' => exact ⟨e', rfl, fun h => absurd h hq⟩

theorem R16_Valid_tot (o : T_api_Obs) (ho : SmO o) : ∃ e, R16_Valid o = some e ∧ (e = 0 → ObsOk o) := by
  obtain ⟨hl, hs⟩ := ho
  unfold R16_Valid
  by_cases h1 : o.Inputs < 1
  · rw [decide_eq_true h1, cond_true, obind, cond_true]
    exact ⟨2, rfl, fun e => by cases e⟩
  by_cases h2 : 64 < o.Inputs
  · rw [decide_eq_false h1, cond_false, decide_eq_true h2, obind, cond_true]
    exact ⟨2, rfl, fun e => by cases e⟩
  rw [decide_eq_false h1, cond_false, decide_eq_false h2, obind, cond_false]
  by_cases h3 : 10000 < o.Traces.length
  · rw [decide_eq_true (by omega), cond_true]
    exact ⟨11, rfl, fun e => by cases e⟩
  rw [decide_eq_false (by omega), cond_false]
  have key := iter_post (step := fun i => R16_Valid.s2 o i) (fun i => i ≤ o.Traces.length ∧ (∀ j t, j < i → o.Traces[j]? = some t → PropT o.Inputs t ∧ t.In ≠ []) ∧ ∀ j a b, j + 1 < i → o.Traces[j]? = some a → o.Traces[j + 1]? = some b → cmpW a.In b.In = -1) (fun i => o.Traces.length - i)
    (fun r => match r with | .inl () => (∀ t ∈ o.Traces, PropT o.Inputs t ∧ t.In ≠ []) ∧ ∀ (j : Nat) a b, o.Traces[j]? = some a → o.Traces[j + 1]? = some b → cmpW a.In b.In = -1 | .inr e => e ≠ 0) (fun i ⟨g1, g2, g3⟩ => by
    simp only [R16_Valid.s2]
    by_cases g4 : i < o.Traces.length
    · have hx := get_at g4
      have hxm := List.getElem_mem g4
      have sx : SmW o.Traces[i].In := by have := (hs _ hxm).1; unfold SmW; omega
      obtain ⟨e, he, he2⟩ := R16_Proper_tot o.Traces[i] o.Inputs sx (hs _ hxm).2
      rw [dec_lt hx, cond_true, idxn_at hx, R01_Check_eq _ _ sx, obind]
      by_cases g5 : checkI o.Traces[i].In o.Inputs = 0
      · rw [decide_eq_false (by simpa using g5), cond_false]
        by_cases g6 : o.Traces[i].In.length = 0
        · rw [decide_eq_true (by omega), cond_true]
          exact .inr ⟨.inr 19, rfl, (show (19 : Int) ≠ 0 by decide)⟩
        · rw [decide_eq_false (by omega), cond_false, he, obind]
          by_cases g7 : e = 0
          · rw [decide_eq_false (by simpa using g7), cond_false]
            have hP := he2 g7
            have fin : ∀ b : Bool, (b = false → 0 < i → ∀ a, o.Traces[i - 1]? = some a → cmpW a.In o.Traces[i].In = -1) → (∃ s', (some b).bind (fun (y160 : Bool) => cond y160 (some (.inr (.inr 10))) (some (.inl (i + 1)))) = some (.inl s' : Nat ⊕ (Unit ⊕ Int)) ∧ (s' ≤ o.Traces.length ∧ (∀ j t, j < s' → o.Traces[j]? = some t → PropT o.Inputs t ∧ t.In ≠ []) ∧ ∀ j a b, j + 1 < s' → o.Traces[j]? = some a → o.Traces[j + 1]? = some b → cmpW a.In b.In = -1) ∧ o.Traces.length - s' < o.Traces.length - i) ∨ ∃ r, (some b).bind (fun (y160 : Bool) => cond y160 (some (.inr (.inr 10))) (some (.inl (i + 1)))) = some (.inr r : Nat ⊕ (Unit ⊕ Int)) ∧ (match r with | .inl () => (∀ t ∈ o.Traces, PropT o.Inputs t ∧ t.In ≠ []) ∧ ∀ (j : Nat) a b, o.Traces[j]? = some a → o.Traces[j + 1]? = some b → cmpW a.In b.In = -1 | .inr e => e ≠ 0) := by
              intro b hb
              cases b with
              | true => exact .inr ⟨.inr 10, rfl, (show (10 : Int) ≠ 0 by decide)⟩
              | false =>
                left
                refine ⟨i + 1, rfl, ⟨g4, fun j t hj ht => ?_, fun j a b hj ha hb' => ?_⟩, by omega⟩
                · rcases Nat.lt_or_ge j i with h | h
                  · exact g2 j t h ht
                  · have ej : j = i := by omega
                    subst ej
                    rw [hx] at ht
                    injection ht with ht
                    subst ht
                    exact ⟨hP, fun e => g6 (by rw [e]; rfl)⟩
                · rcases Nat.lt_or_ge (j + 1) i with h | h
                  · exact g3 j a b h ha hb'
                  · have ej : j + 1 = i := by omega
                    subst ej
                    rw [hx] at hb'
                    injection hb' with hb'
                    subst hb'
                    exact hb rfl (by omega) a (by simpa using ha)
            by_cases g8 : 0 < i
            · have hpv := get_at (l := o.Traces) (i := i - 1) (by omega)
              have sp : SmW (o.Traces[i - 1]'(by omega)).In := by have := (hs _ (List.getElem_mem (show i - 1 < o.Traces.length by omega))).1; unfold SmW; omega
              rw [decide_eq_true (by omega), cond_true, idx_at (i := i - 1) (by omega) hpv, R01_Compare_eq _ _ sp, obind]
              refine fin _ fun hb _ a ha => ?_
              rw [hpv] at ha
              injection ha with ha
              subst ha
              have h5 := of_decide_eq_false hb
              have := cmpW_range (o.Traces[i - 1]'(by omega)).In o.Traces[i].In
              omega
            · rw [decide_eq_false (by omega), cond_false]
              exact fin false fun _ h => absurd h g8
          · rw [decide_eq_true g7, cond_true]
            exact .inr ⟨.inr e, rfl, g7⟩
      · rw [decide_eq_true g5, cond_true]
        exact .inr ⟨.inr _, rfl, g5⟩
    · right
      refine ⟨.inl (), by rw [decide_eq_false (by omega), cond_false], fun t ht => ?_, fun j a b ha hb => g3 j a b ?_ ha hb⟩
      · obtain ⟨j, hj, rfl⟩ := List.mem_iff_getElem.1 ht
        exact g2 j _ (by omega) (get_at hj)
      · have := (List.getElem?_eq_some_iff.1 hb).1
        omega) fuel 0 ⟨Nat.zero_le _, fun j t h => by omega, fun j a b h => by omega⟩ (by have := fuel_big; omega)
  obtain ⟨r, e, hq⟩ := key
  rw [e, obind]
  cases r with
  | inr e' => exact ⟨e', rfl, fun h => absurd h hq⟩
  | inl u =>
    obtain ⟨hp, hone⟩ := hq
    obtain ⟨e', he, he2⟩ := R16_apart_tot o ⟨hl, hs⟩ fun t ht => (hp t ht).1
    simp only [Sum.elim_inl]
    rw [he, obind]
    refine ⟨e', rfl, fun h => ⟨by omega, by omega, hp, ?_, he2 h⟩⟩
    have key : ∀ (d i : Nat) a b, o.Traces[i]? = some a → o.Traces[i + d + 1]? = some b → cmpW a.In b.In = -1 := by
      intro d
      induction d with
      | zero => exact fun i a b => hone i a b
      | succ d ih =>
        intro i a b ha hb
        have hj := (List.getElem?_eq_some_iff.1 hb).1
        have hm := get_at (l := o.Traces) (i := i + d + 1) (by omega)
        exact cmpW_trans _ _ _ (ih i a _ ha hm) (hone _ _ _ hm (by rw [show i + d + 1 + 1 = i + (d + 1) + 1 by omega]; exact hb))
    intro i j a b hij ha hb
    exact key (j - i - 1) i a b ha (by rw [show i + (j - i - 1) + 1 = j by omega]; exact hb)
end Go.Proofs.YthahbiahlpcgeaaGreatDoor.Sym

/-
  Answers and rows: the program's finder answers as the document's observations do. Plain laws.
-/
namespace Go.Proofs.YthahbiahlpcgeaaGreatDoor.Sym
set_option maxRecDepth 100000

/-- The answer of a word. -/
def ansO (o : T_api_Obs) (w : List Int) : Option (List Int) :=
  if w = [] then some [] else (o.Traces.find? fun t => decide (w <+: t.In)).map fun t => t.Out.take w.length
abbrev tw {α : Type} (x : Option (List α)) : List α × Bool := match x with | some r => (r, true) | none => ([], false)

theorem smo_in {o : T_api_Obs} (ho : SmO o) {t : T_api_Trace} (h : t ∈ o.Traces) : SmW t.In := by
  have := (ho.2 t h).1
  unfold SmW
  omega
theorem pre_len {p w : List Int} (h : p <+: w) : p.length ≤ w.length := h.length_le

theorem R16_Answer_eq {o : T_api_Obs} {w : List Int} (ho : SmO o) (hv : ObsOk o) : R16_Answer o w = some (tw (ansO o w)) := by
  have hl := ho.1
  unfold R16_Answer ansO
  by_cases h0 : w = []
  · subst h0
    rfl
  · rw [if_neg h0, decide_eq_false (by
      intro h
      exact h0 (List.eq_nil_of_length_eq_zero (by omega))), cond_false]
    have key := iter_scan (step := fun i => R16_Answer.s2 o w i) (l := o.Traces) (fun _ t => if w <+: t.In then some (t.Out.take w.length, true) else none) (fun i t ht => by
      have htm := List.mem_of_getElem? ht
      have hP := (hv.prop t htm).1
      simp only [R16_Answer.s2]
      rw [dec_lt ht, cond_true, idxn_at ht, R01_HasPrefix_eq _ _ (smo_in ho htm), obind]
      by_cases h : w <+: t.In
      · have hlen := pre_len h
        have := hP.2.1
        have h2 := (ho.2 t htm).1
        rw [decide_eq_true h, cond_true, idxn_at ht, chk_pos (by omega), R01_Join_eq _ (by simp) (by simp; omega), obind, if_pos h]
        simp
      · rw [decide_eq_false h, cond_false, if_neg h]) (by
      simp only [R16_Answer.s2]
      rw [dec_end]
      rfl) (by omega)
    rw [key, obind]
    have key2 : ∀ (l : List T_api_Trace) (j : Nat), scan (fun _ t => if w <+: t.In then some (t.Out.take w.length, true) else none) j l = ((l.find? fun t => decide (w <+: t.In)).map fun t => t.Out.take w.length).map fun r => (r, true) := by
      intro l
      induction l with
      | nil => intro j; rfl
      | cons t l ih =>
        intro j
        unfold scan
        by_cases h : w <+: t.In
        · rw [if_pos h, List.find?_cons_of_pos (by simpa using h)]
          rfl
        · rw [if_neg h, List.find?_cons_of_neg (by simpa using h)]
          exact ih _
    rw [key2]
    cases (o.Traces.find? fun t => decide (w <+: t.In)).map fun t => t.Out.take w.length <;> rfl

/-- The traces in the order of the dictionary. -/
def FindOk (o : T_api_Obs) (F : List T_api_Trace) : Prop := F.Perm o.Traces ∧ F.Pairwise fun a b => lexI a.In b.In = -1

theorem in_inj {o : T_api_Obs} (hv : ObsOk o) {a b : T_api_Trace} (ha : a ∈ o.Traces) (hb : b ∈ o.Traces) (h : a.In = b.In) : a = b := by
  obtain ⟨i, hi, rfl⟩ := List.mem_iff_getElem.1 ha
  obtain ⟨j, hj, rfl⟩ := List.mem_iff_getElem.1 hb
  rcases Nat.lt_trichotomy i j with hlt | heq | hgt
  · have := hv.asc i j _ _ hlt (get_at hi) (get_at hj)
    rw [h, cmpW_refl] at this
    cases this
  · subst heq; rfl
  · have := hv.asc j i _ _ hgt (get_at hj) (get_at hi)
    rw [h, cmpW_refl] at this
    cases this

theorem table_find_eq {o : T_api_Obs} (ho : SmO o) (hv : ObsOk o) : ∃ F, table_find o = some F ∧ FindOk o F := by
  have hl := ho.1
  have hf : ∀ a ∈ o.Traces, ∀ b ∈ o.Traces, table_find_1 a b = some (lexI a.In b.In) := fun a ha b hb => by
    unfold table_find_1
    rw [word_Lex_eq _ _ (by have := smo_in ho ha; unfold SmW at this; omega), obind]
  have htot : totB (fun u0 u1 => table_find_1 u0 u1) o.Traces = true := by
    refine List.all_eq_true.2 fun a ha => List.all_eq_true.2 fun b hb => ?_
    simp only [hf a ha b hb, hf b hb a ha, Bool.and_eq_true]
    refine ⟨⟨⟨?_, ?_⟩, ?_⟩, List.all_eq_true.2 fun c hc => ?_⟩
    · rw [beq_iff_eq]
      have := lexI_zero a.In b.In
      exact decide_eq_decide.2 ⟨fun h => in_inj hv ha hb (this.1 h), fun h => this.2 (by rw [h])⟩
    · rw [beq_iff_eq]
      have := lexI_swap a.In b.In
      exact decide_eq_decide.2 (by omega)
    · have := lexI_range a.In b.In
      exact decide_eq_true (by omega)
    · rw [hf b hb c hc, hf a ha c hc]
      have r1 := lexI_range a.In b.In
      have r2 := lexI_range b.In c.In
      by_cases h1 : lexI a.In b.In < 0
      · by_cases h2 : lexI b.In c.In < 0
        · have := lexI_trans a.In b.In c.In (by omega) (by omega)
          simp [h1, h2, this]
        · simp [h1, h2]
      · simp [h1]
  refine ⟨isortF (fun u0 u1 => table_find_1 u0 u1) o.Traces, ?_, isortF_perm _ _, ?_⟩
  · unfold table_find lib_Clone_traces libClone lib_SortFunc_finder libSort
    rw [chk_pos (by unfold capOk; omega), obind, chk_pos (by omega), htot]
    rfl
  · have T := totB_iff htot
    have h := isortF_sorted T
    have hperm := isortF_perm (fun u0 u1 => table_find_1 u0 u1) o.Traces
    have hnd : (isortF (fun u0 u1 => table_find_1 u0 u1) o.Traces).Nodup := by
      refine hperm.nodup_iff.2 ?_
      rw [List.Nodup, List.pairwise_iff_getElem]
      intro i j hi hj hij e
      have := hv.asc i j _ _ hij (get_at hi) (get_at hj)
      rw [e, cmpW_refl] at this
      cases this
    rw [List.pairwise_iff_getElem] at h ⊢
    rw [List.Nodup, List.pairwise_iff_getElem] at hnd
    intro i j hi hj hij
    have h1 := h i j hi hj hij
    have hne := hnd i j hi hj hij
    have m1 := hperm.mem_iff.1 (List.getElem_mem hi)
    have m2 := hperm.mem_iff.1 (List.getElem_mem hj)
    unfold NGt cfv at h1
    simp only [hf _ m2 _ m1, Option.getD_some] at h1
    have r := lexI_range (isortF (fun u0 u1 => table_find_1 u0 u1) o.Traces)[j].In (isortF (fun u0 u1 => table_find_1 u0 u1) o.Traces)[i].In
    have s := lexI_swap (isortF (fun u0 u1 => table_find_1 u0 u1) o.Traces)[j].In (isortF (fun u0 u1 => table_find_1 u0 u1) o.Traces)[i].In
    have z := lexI_zero (isortF (fun u0 u1 => table_find_1 u0 u1) o.Traces)[j].In (isortF (fun u0 u1 => table_find_1 u0 u1) o.Traces)[i].In
    have hz : ¬ lexI (isortF (fun u0 u1 => table_find_1 u0 u1) o.Traces)[j].In (isortF (fun u0 u1 => table_find_1 u0 u1) o.Traces)[i].In = 0 := fun e => hne (in_inj hv m1 m2 (z.1 e).symm)
    omega

/-- The first trace that is not before a word. -/
theorem search_eq {F : List T_api_Trace} {w : List Int} (hs : F.Pairwise fun a b => lexI a.In b.In = -1) (hl : F.length ≤ 2000000) (hw : ∀ t ∈ F, SmW t.In) :
    ∃ k : Nat, ∃ b, slices_BinarySearchFunc_table_finder_api_Trace_Sint F w (fun u0 u1 => table_finder_answer_1 u0 u1) = some ((↑k : Int), b) ∧ k ≤ F.length ∧ (∀ j t, j < k → F[j]? = some t → lexI t.In w = -1) ∧ ∀ t, F[k]? = some t → lexI t.In w ≠ -1 := by
  have hc : ∀ t ∈ F, table_finder_answer_1 t w = some (lexI t.In w) := fun t ht => by
    unfold table_finder_answer_1
    rw [word_Lex_eq _ _ (by have := hw t ht; unfold SmW at this; omega), obind]
  have hlt : ∀ {i j : Nat} {a b : T_api_Trace}, i < j → F[i]? = some a → F[j]? = some b → lexI a.In b.In = -1 := fun {i j a b} hij ha hb => by
    obtain ⟨hi, rfl⟩ := List.getElem?_eq_some_iff.1 ha
    obtain ⟨hj, rfl⟩ := List.getElem?_eq_some_iff.1 hb
    exact List.pairwise_iff_getElem.1 hs i j hi hj hij
  have key := iter_post (step := fun (s : Int × Int) => slices_BinarySearchFunc_table_finder_api_Trace_Sint.s2 F w (fun u0 u1 => table_finder_answer_1 u0 u1) s.1 s.2)
    (fun s => ∃ i j : Nat, s.1 = (i : Int) ∧ s.2 = (j : Int) ∧ i ≤ j ∧ j ≤ F.length ∧ (∀ k t, k < i → F[k]? = some t → lexI t.In w = -1) ∧ ∀ k t, j ≤ k → F[k]? = some t → lexI t.In w ≠ -1) (fun s => (s.2 - s.1).toNat)
    (fun r => ∃ k : Nat, r = (k : Int) ∧ k ≤ F.length ∧ (∀ j t, j < k → F[j]? = some t → lexI t.In w = -1) ∧ ∀ t, F[k]? = some t → lexI t.In w ≠ -1) (fun s ⟨i, j, g1, g2, g3, g4, g5, g6⟩ => by
      obtain ⟨si, sj⟩ := s
      simp only at g1 g2
      subst g1 g2
      simp only [slices_BinarySearchFunc_table_finder_api_Trace_Sint.s2]
      by_cases g7 : i < j
      · left
        have hmid : ((↑i : Int) + ↑j) / 2 ^ 1 = ((i + j) / 2 : Nat) := by omega
        have hx := get_at (l := F) (i := (i + j) / 2) (by omega)
        rw [decide_eq_true (by omega), cond_true, chk_pos (by unfold inR; omega), chk_pos (by omega), chk_pos (by omega), chk_pos (by unfold inR; omega), idx_at hmid hx, hc _ (List.getElem_mem _), obind]
        have r := lexI_range (F[(i + j) / 2]'(by omega)).In w
        by_cases g8 : lexI (F[(i + j) / 2]'(by omega)).In w < 0
        · refine ⟨(((i + j) / 2 + 1 : Nat), (j : Int)), ?_, ⟨(i + j) / 2 + 1, j, rfl, rfl, by omega, g4, fun k t hk ht => ?_, g6⟩, by simp only; omega⟩
          · rw [decide_eq_true g8, cond_true, chk_pos (by unfold inR; omega), hmid]
            simp
          · rcases Nat.lt_or_ge k ((i + j) / 2) with h | h
            · exact lexI_trans _ _ _ (hlt h ht hx) (by omega)
            · have e : k = (i + j) / 2 := by omega
              subst e
              rw [hx] at ht
              injection ht with ht
              subst ht
              omega
        · refine ⟨((i : Int), (((i + j) / 2 : Nat) : Int)), ?_, ⟨i, (i + j) / 2, rfl, rfl, by omega, by omega, g5, fun k t hk ht => ?_⟩, by simp only; omega⟩
          · rw [decide_eq_false g8, cond_false, hmid]
          · intro h9
            rcases Nat.lt_or_ge ((i + j) / 2) k with h | h
            · have := lexI_trans _ _ _ (hlt h hx ht) h9
              omega
            · have e : k = (i + j) / 2 := by omega
              subst e
              rw [hx] at ht
              injection ht with ht
              subst ht
              omega
      · right
        have e : i = j := by omega
        subst e
        refine ⟨(i : Int), by rw [decide_eq_false (by omega), cond_false], i, rfl, g4, g5, fun t ht => g6 i t (Nat.le_refl _) ht⟩) fuel (0, (↑(List.length F) : Int)) ⟨0, F.length, rfl, rfl, Nat.zero_le _, Nat.le_refl _, fun k t h => by omega, fun k t h ht => by
        have := (List.getElem?_eq_some_iff.1 ht).1
        omega⟩ (by have := fuel_big; simp only; omega)
  obtain ⟨r, e, k, hk, h1, h2, h3⟩ := key
  subst hk
  unfold slices_BinarySearchFunc_table_finder_api_Trace_Sint
  rw [e, obind]
  by_cases h4 : k < F.length
  · have hx := get_at h4
    rw [decide_eq_true (by omega), cond_true, idx_at rfl hx, show (fun (u0 : T_api_Trace) (u1 : List Int) => table_finder_answer_1 u0 u1) F[k] w = some (lexI F[k].In w) from hc _ (List.getElem_mem _), obind, obind]
    exact ⟨k, _, rfl, h1, h2, h3⟩
  · rw [decide_eq_false (by omega), cond_false, obind]
    exact ⟨k, _, rfl, h1, h2, h3⟩

theorem finder_answer_eq {o : T_api_Obs} {F : List T_api_Trace} {w : List Int} (ho : SmO o) (hv : ObsOk o) (hF : FindOk o F) : table_finder_answer F w = some (tw (ansO o w)) := by
  obtain ⟨hp, hs⟩ := hF
  have hFl : F.length ≤ 1100000 := by rw [hp.length_eq]; exact ho.1
  have hFm : ∀ t ∈ F, t ∈ o.Traces := fun t ht => hp.mem_iff.1 ht
  obtain ⟨k, b, e, h1, h2, h3⟩ := search_eq (w := w) hs (by omega) fun t ht => smo_in ho (hFm t ht)
  unfold table_finder_answer ansO
  by_cases h0 : w = []
  · subst h0
    rfl
  · have hwl : w.length ≠ 0 := fun h => h0 (List.eq_nil_of_length_eq_zero h)
    rw [if_neg h0, decide_eq_false (by omega), cond_false, e, obind]
    simp only
    -- whatever trace begins with the word, the first one that is not before it does
    have hfirst : ∀ t ∈ o.Traces, w <+: t.In → ∃ u, F[k]? = some u ∧ w <+: u.In := fun t ht hpre => by
      have htF : t ∈ F := hp.mem_iff.2 ht
      obtain ⟨j, hj, rfl⟩ := List.mem_iff_getElem.1 htF
      have hge : lexI F[j].In w ≠ -1 := by
        by_cases hew : w = F[j].In
        · rw [← hew, lexI_refl]; decide
        · have := prefix_lex w F[j].In hpre hew
          have := lexI_swap w F[j].In
          omega
      have hkj : k ≤ j := by
        rcases Nat.lt_or_ge j k with h | h
        · exact absurd (h2 j _ h (get_at hj)) hge
        · exact h
      have hx := get_at (l := F) (i := k) (by omega)
      refine ⟨_, hx, ?_⟩
      have hk1 := h3 _ hx
      rcases Nat.lt_or_ge k j with h | h
      · have hlt : lexI (F[k]'(by omega)).In F[j].In = -1 := List.pairwise_iff_getElem.1 hs k j (by omega) hj h
        have r := lexI_range (F[k]'(by omega)).In w
        have s := lexI_swap (F[k]'(by omega)).In w
        by_cases hz : lexI (F[k]'(by omega)).In w = 0
        · rw [(lexI_zero _ _).1 hz]
          exact List.prefix_refl _
        · exact lex_between w _ _ (by omega) (Or.inr hlt) hpre
      · have ej : j = k := by omega
        subst ej
        exact hpre
    cases hfd : o.Traces.find? fun t => decide (w <+: t.In) with
    | none =>
      have hno : ∀ t ∈ o.Traces, ¬ w <+: t.In := fun t ht => by simpa using List.find?_eq_none.1 hfd t ht
      by_cases h4 : k = F.length
      · rw [decide_eq_true (by omega), cond_true, obind, cond_true]
        rfl
      · have hx := get_at (l := F) (i := k) (by omega)
        have hxm := hFm _ (List.getElem_mem (show k < F.length by omega))
        rw [decide_eq_false (by omega), cond_false, idx_at rfl hx, word_HasPrefix_eq _ _ (smo_in ho hxm), obind, decide_eq_false (hno _ hxm)]
        rfl
    | some t =>
      have htm := List.mem_of_find?_eq_some hfd
      have hpre : w <+: t.In := by simpa using List.find?_some hfd
      obtain ⟨u, hu, hpu⟩ := hfirst t htm hpre
      have hum := hFm u (List.mem_of_getElem? hu)
      have hku := (List.getElem?_eq_some_iff.1 hu).1
      have lt := (hv.prop t htm).1.2.1
      have lu := (hv.prop u hum).1.2.1
      have p1 := pre_len hpre
      have p2 := pre_len hpu
      -- both answer alike
      have hsame : u.Out.take w.length = t.Out.take w.length := by
        by_cases hut : u = t
        · rw [hut]
        · have hag : ∀ a ∈ o.Traces, ∀ b ∈ o.Traces, a ≠ b → w <+: a.In → w <+: b.In → a.Out.take w.length = b.Out.take w.length := by
            intro a ha b hb hab hwa hwb
            have hcm : w.length ≤ common a.In b.In := by
              obtain ⟨x, hx⟩ := hwa
              obtain ⟨y, hy⟩ := hwb
              rw [← hx, ← hy]
              have : ∀ (w x y : List Int), w.length ≤ common (w ++ x) (w ++ y) := by
                intro w
                induction w with
                | nil => intro x y; exact Nat.zero_le _
                | cons z w ih =>
                  intro x y
                  have := ih x y
                  simp only [List.cons_append, common, if_true, List.length_cons]
                  omega
              exact this w x y
            have hred : ∀ (a b : T_api_Trace), Agree a b → w.length ≤ common a.In b.In → a.Out.take w.length = b.Out.take w.length := fun a b hA hle => by
              have h5 := congrArg (List.take w.length) hA
              rw [List.take_take, List.take_take, Nat.min_eq_left hle] at h5
              exact h5
            obtain ⟨i, hi, rfl⟩ := List.mem_iff_getElem.1 ha
            obtain ⟨j, hj, rfl⟩ := List.mem_iff_getElem.1 hb
            rcases Nat.lt_trichotomy i j with hlt | heq | hgt
            · exact hred _ _ (hv.apart i j _ _ hlt (get_at hi) (get_at hj)).2 hcm
            · subst heq; rfl
            · have hcs : w.length ≤ common o.Traces[j].In o.Traces[i].In := by
                have : ∀ a b : List Int, common a b = common b a := by
                  intro a
                  induction a with
                  | nil => intro b; cases b <;> rfl
                  | cons x a ih =>
                    intro b
                    cases b with
                    | nil => rfl
                    | cons y b =>
                      simp only [common]
                      by_cases h : x = y
                      · subst h; simp [ih b]
                      · have h' : ¬ y = x := fun e => h e.symm
                        simp [h, h']
                rw [this]
                exact hcm
              exact (hred _ _ (hv.apart j i _ _ hgt (get_at hj) (get_at hi)).2 hcs).symm
          exact hag u hum t htm hut hpu hpre
      have hc : (cond (decide ((↑k : Int) = (↑(List.length F) : Int))) (some true) (idx F (↑k : Int) fun e62 => (word_HasPrefix e62.In w).bind fun c63 => cond ((!c63)) (some true) (idx F (↑k : Int) fun e65 => some (decide ((↑(List.length e65.Out) : Int) < (↑(List.length w) : Int))))) : Option Bool) = some false := by
        rw [decide_eq_false (by omega), cond_false, idx_at rfl hu, word_HasPrefix_eq _ _ (smo_in ho hum), obind, decide_eq_true hpu, Bool.not_true, cond_false, idx_at rfl hu, decide_eq_false (by omega)]
      rw [hc, obind, cond_false, idx_at rfl hu, chk_pos (by omega), hsame]
      rfl
end Go.Proofs.YthahbiahlpcgeaaGreatDoor.Sym

/-
  Rows, missing queries and maximal words: the program's are the document's. Plain laws.
-/
namespace Go.Proofs.YthahbiahlpcgeaaGreatDoor.Sym
set_option maxRecDepth 100000

theorem ansO_len {o : T_api_Obs} (hv : ObsOk o) {w r : List Int} (h : ansO o w = some r) : r.length = w.length := by
  unfold ansO at h
  split at h
  · rename_i h0
    injection h with h
    rw [← h, h0]
  · obtain ⟨t, ht, rfl⟩ := Option.map_eq_some_iff.1 h
    have hm := List.mem_of_find?_eq_some ht
    have hp : w <+: t.In := by simpa using List.find?_some ht
    have := (hv.prop t hm).1.2.1
    have := pre_len hp
    rw [List.length_take]
    omega

/-- The row of a word. -/
def rowO (o : T_api_Obs) (w : List Int) : List (List Int) → Option (List (List Int))
  | [] => some []
  | e :: S => match ansO o (w ++ e) with
    | none => none
    | some r => (rowO o w S).map fun l => r.drop w.length :: l

theorem rowO_drop {o : T_api_Obs} {w : List Int} {S : List (List Int)} {k : Nat} {e : List Int} (h : S[k]? = some e) : rowO o w (S.drop k) = match ansO o (w ++ e) with | none => none | some r => (rowO o w (S.drop (k + 1))).map fun l => r.drop w.length :: l := by
  obtain ⟨hk, rfl⟩ := List.getElem?_eq_some_iff.1 h
  rw [List.drop_eq_getElem_cons hk]
  rfl

theorem finder_row_eq {o : T_api_Obs} {F : List T_api_Trace} {t : T_api_Table} {w : List Int} (ho : SmO o) (hv : ObsOk o) (hF : FindOk o F) (hS : SmL t.Suffixes) (hw : SmW w) : table_finder_row F t w = some (tw (rowO o w t.Suffixes)) := by
  have hS1 : t.Suffixes.length ≤ 2000000 := hS.1
  have hw1 : w.length ≤ 2000000 := hw
  unfold table_finder_row
  have key := iter_post (step := fun (s : List (List Int) × Nat) => table_finder_row.s2 F t w s.1 s.2) (fun s => s.2 ≤ t.Suffixes.length ∧ s.1.length = s.2 ∧ rowO o w t.Suffixes = (rowO o w (t.Suffixes.drop s.2)).map (s.1 ++ ·)) (fun s => t.Suffixes.length - s.2)
    (fun r => Sum.elim (fun (y84 : List (List Int)) => some (y84, true)) some r = some (tw (rowO o w t.Suffixes))) (fun s ⟨g1, g2, g3⟩ => by
      obtain ⟨y, k⟩ := s
      simp only at g1 g2 g3
      simp only [table_finder_row.s2]
      by_cases g4 : k < t.Suffixes.length
      · have hx := get_at g4
        have hxs : SmW t.Suffixes[k] := hS.2 _ (List.getElem_mem _)
        have hx1 : t.Suffixes[k].length ≤ 2000000 := hxs
        rw [dec_lt hx, cond_true, idxn_at hx, word_Join_eq _ (by simp) (by simp; omega), obind]
        simp only [List.flatten_cons, List.flatten_nil, List.append_nil]
        rw [finder_answer_eq ho hv hF, obind]
        rw [rowO_drop hx] at g3
        cases ha : ansO o (w ++ t.Suffixes[k]) with
        | none =>
          right
          rw [ha] at g3
          refine ⟨.inr ([], false), rfl, ?_⟩
          rw [g3]
          rfl
        | some r =>
          left
          rw [ha] at g3
          have hrl := ansO_len hv ha
          rw [List.length_append] at hrl
          have hd : SmW (r.drop w.length) := by unfold SmW; rw [List.length_drop]; omega
          refine ⟨(y ++ [r.drop w.length], k + 1), ?_, ⟨g4, by simp [g2], ?_⟩, by simp only; omega⟩
          · simp only [tw, Bool.not_true, cond_false]
            rw [chk_pos (by omega), libclone_word hd, obind, chk_pos (by unfold capOk; omega)]
          · rw [g3, Option.map_map]
            simp only
            congr 1
            funext l
            simp
      · right
        have e : k = t.Suffixes.length := by omega
        subst e
        refine ⟨.inl y, by rw [decide_eq_false (by omega), cond_false], ?_⟩
        rw [g3, List.drop_length]
        simp [rowO, tw]) fuel ([], 0) ⟨Nat.zero_le _, rfl, by simp⟩ (by have := fuel_big; simp only; omega)
  obtain ⟨r, e, hq⟩ := key
  rw [chk_pos (by unfold capOk; omega), e]
  exact hq

theorem R23_After_eq {o : T_api_Obs} {w e : List Int} (ho : SmO o) (hv : ObsOk o) (hw : SmW w) (he : SmW e) : R23_After o w e = some (match ansO o (w ++ e) with | none => ([], false) | some r => (r.drop w.length, true)) := by
  unfold R23_After
  rw [R23_Joined_eq hw he, obind, R16_Answer_eq ho hv, obind]
  cases ha : ansO o (w ++ e) with
  | none => rfl
  | some r =>
    have hrl := ansO_len hv ha
    rw [List.length_append] at hrl
    simp only [tw, Bool.not_true, cond_false]
    rw [chk_pos (by omega)]

theorem R23_row_eq {o : T_api_Obs} {S : List (List Int)} {w : List Int} (ho : SmO o) (hv : ObsOk o) (hS : SmL S) (hw : SmW w) : R23_row o S w = some (tw (rowO o w S)) := by
  have hS1 : S.length ≤ 2000000 := hS.1
  unfold R23_row
  have key := iter_post (step := fun (s : List (List Int) × Nat) => R23_row.s2 o S w s.1 s.2) (fun s => s.2 ≤ S.length ∧ s.1.length = s.2 ∧ rowO o w S = (rowO o w (S.drop s.2)).map (s.1 ++ ·)) (fun s => S.length - s.2)
    (fun r => Sum.elim (fun (y72 : List (List Int)) => some (y72, true)) some r = some (tw (rowO o w S))) (fun s ⟨g1, g2, g3⟩ => by
      obtain ⟨y, k⟩ := s
      simp only at g1 g2 g3
      simp only [R23_row.s2]
      by_cases g4 : k < S.length
      · have hx := get_at g4
        have hxs : SmW S[k] := hS.2 _ (List.getElem_mem _)
        rw [dec_lt hx, cond_true, idxn_at hx, R23_After_eq ho hv hw hxs, obind]
        rw [rowO_drop hx] at g3
        cases ha : ansO o (w ++ S[k]) with
        | none =>
          right
          rw [ha] at g3
          refine ⟨.inr ([], false), rfl, ?_⟩
          rw [g3]
          rfl
        | some r =>
          left
          rw [ha] at g3
          refine ⟨(y ++ [r.drop w.length], k + 1), ?_, ⟨g4, by simp [g2], ?_⟩, by simp only; omega⟩
          · simp only [Bool.not_true, cond_false]
            rw [chk_pos (by unfold capOk; omega)]
          · rw [g3, Option.map_map]
            simp only
            congr 1
            funext l
            simp
      · right
        have e : k = S.length := by omega
        subst e
        refine ⟨.inl y, by rw [decide_eq_false (by omega), cond_false], ?_⟩
        rw [g3, List.drop_length]
        simp [rowO, tw]) fuel ([], 0) ⟨Nat.zero_le _, rfl, by simp⟩ (by have := fuel_big; simp only; omega)
  obtain ⟨r, e, hq⟩ := key
  rw [e]
  exact hq

/-- The error of a table with observations. -/
def chkT (t : T_api_Table) (o : T_api_Obs) : Int := if validT t ≠ 0 then validT t else if t.Inputs ≠ o.Inputs then 15 else 0
theorem table_check_eq {t : T_api_Table} {o : T_api_Obs} (ht : SmT t) : table_check t o = some (chkT t o) := by
  unfold table_check chkT
  rw [table_Valid_eq t ht, obind]
  by_cases h : validT t = 0
  · rw [decide_eq_false (by simpa using h), cond_false, if_neg (by simpa using h)]
    by_cases h2 : t.Inputs = o.Inputs <;> simp [h2]
  · rw [decide_eq_true h, cond_true, if_pos h]
theorem R23_Check_eq {t : T_api_Table} {o : T_api_Obs} (ht : SmT t) : R23_Check t o = some (chkT t o) := by
  unfold R23_Check chkT
  rw [R23_Valid_eq t ht, obind]
  by_cases h : validT t = 0
  · rw [decide_eq_false (by simpa using h), cond_false, if_neg (by simpa using h)]
    by_cases h2 : t.Inputs = o.Inputs <;> simp [h2]
  · rw [decide_eq_true h, cond_true, if_pos h]

def rowT (t : T_api_Table) (o : T_api_Obs) (w : List Int) : List (List Int) × Bool := if chkT t o ≠ 0 then ([], false) else tw (rowO o w t.Suffixes)
theorem table_Row_eq {t : T_api_Table} {o : T_api_Obs} {w : List Int} (ht : SmT t) (ho : SmO o) (hv : ObsOk o) (hw : SmW w) : table_Row t o w = some (rowT t o w) := by
  obtain ⟨F, hF1, hF⟩ := table_find_eq ho hv
  unfold table_Row rowT
  rw [table_check_eq ht, obind]
  by_cases h : chkT t o = 0
  · rw [decide_eq_false (by simpa using h), cond_false, if_neg (by simpa using h), hF1, obind, finder_row_eq ho hv hF ht.2.2.1 hw, obind]
  · rw [decide_eq_true h, cond_true, if_pos h]
theorem R23_Row_eq {t : T_api_Table} {o : T_api_Obs} {w : List Int} (ht : SmT t) (ho : SmO o) (hv : ObsOk o) (hw : SmW w) : R23_Row t o w = some (rowT t o w) := by
  unfold R23_Row rowT
  rw [R23_Check_eq ht, obind]
  by_cases h : chkT t o = 0
  · rw [decide_eq_false (by simpa using h), cond_false, if_neg (by simpa using h), R23_row_eq ho hv ht.2.2.1 hw, obind]
  · rw [decide_eq_true h, cond_true, if_pos h]

/-- Maximal words. -/
theorem sortW_ext {l m : List (List Int)} (h : ∀ x, x ∈ l ↔ x ∈ m) : sortW l = sortW m := asc_ext (sortW_asc l) (sortW_asc m) fun x => by rw [mem_sortW, mem_sortW, h]
theorem maxR_ext {l m : List (List Int)} (h : ∀ x, x ∈ l ↔ x ∈ m) : maxR l = maxR m := by unfold maxR; rw [sortW_ext h]

theorem R02_Maximal_eq {l : List (List Int)} (hl : SmL l) : R02_Maximal l = some (maxR l) := by
  have hA := sortW_asc l
  have hs := sml_sort hl
  have hs1 : (sortW l).length ≤ 2000000 := hs.1
  unfold R02_Maximal maxR
  rw [R02_Sorted_eq hl, obind]
  have inner : ∀ (i : Nat) (x : List Int), (sortW l)[i]? = some x → iter (fun (s : Bool × Nat) => R02_Maximal.s13 (sortW l) i s.1 s.2) fuel (true, i + 1) = some (topB (sortW l) x) := by
    intro i x hx
    have hi := (List.getElem?_eq_some_iff.1 hx).1
    refine iter_eq (fun s => i + 1 ≤ s.2 ∧ s.2 ≤ (sortW l).length ∧ s.1 = tailB x (((sortW l).take s.2).drop (i + 1))) (fun s => (sortW l).length - s.2) (fun s ⟨g1, g2, g3⟩ => ?_) ⟨Nat.le_refl _, by simp only; omega, by simp [tailB]⟩ (by have := fuel_big; simp only; omega)
    obtain ⟨b, k⟩ := s
    simp only at g1 g2 g3
    simp only [R02_Maximal.s13]
    by_cases g4 : k < (sortW l).length
    · left
      have hy := get_at g4
      have hst := tailB_step (x := x) g1 hy
      rw [← g3] at hst
      refine ⟨(tailB x (((sortW l).take (k + 1)).drop (i + 1)), k + 1), ?_, ⟨by simp only; omega, by simp only; omega, rfl⟩, by simp only; omega⟩
      rw [dec_lt hy, cond_true, hst]
      cases b with
      | false => rfl
      | true =>
        rw [cond_true, idxn_at hy, idxn_at hx, Bool.true_and]
        by_cases g5 : (sortW l)[k].length = x.length
        · rw [decide_eq_true (by omega), cond_true, decide_eq_true (Or.inl g5)]
        · rw [decide_eq_false (by omega), cond_false, idxn_at hy, idxn_at hx, R01_HasPrefix_eq _ _ (hs.2 _ (List.getElem_mem _)), obind]
          by_cases g6 : x <+: (sortW l)[k]
          · rw [decide_eq_true g6, decide_eq_false (fun h => h.elim g5 fun h => h g6)]; rfl
          · rw [decide_eq_false g6, decide_eq_true (Or.inr g6)]; rfl
    · right
      have e : k = (sortW l).length := by omega
      subst e
      rw [decide_eq_false (by omega), cond_false, g3, List.take_length, top_eq hA hx]
  have key := iter_eq (step := fun (s : List (List Int) × Nat) => R02_Maximal.s14 (sortW l) s.1 s.2) (r := (sortW l).filter (topB (sortW l))) (fun s => s.2 ≤ (sortW l).length ∧ s.1 = ((sortW l).take s.2).filter (topB (sortW l))) (fun s => (sortW l).length - s.2) (fun s ⟨g1, g2⟩ => by
    obtain ⟨y, i⟩ := s
    simp only at g1 g2
    subst g2
    simp only [R02_Maximal.s14]
    by_cases g4 : i < (sortW l).length
    · left
      have hx := get_at g4
      have hst := filter_step (p := topB (sortW l)) hx
      have hfl := List.length_filter_le (topB (sortW l)) ((sortW l).take i)
      rw [List.length_take] at hfl
      refine ⟨(((sortW l).take (i + 1)).filter (topB (sortW l)), i + 1), ?_, ⟨by simp only; omega, rfl⟩, by simp only; omega⟩
      rw [dec_lt hx, cond_true, inner i _ hx, obind, hst]
      cases topB (sortW l) (sortW l)[i] with
      | true =>
        rw [cond_true, idxn_at hx, chk_pos (by unfold capOk; omega)]
        rfl
      | false => simp
    · right
      have e : i = (sortW l).length := by omega
      subst e
      rw [decide_eq_false (by omega), cond_false, List.take_length]) (n := fuel) (s := ([], 0)) ⟨Nat.zero_le _, by simp⟩ (by have := fuel_big; simp only; omega)
  rw [key, obind]

theorem wordset_Maximal_eq {l : List (List Int)} (hl : SmL l) : wordset_Maximal l = some (maxR l) := by
  have hl1 : l.length ≤ 2000000 := hl.1
  obtain ⟨L, e1, h1, h2, h3⟩ := ordered_eq lexI_total (f := fun u0 u1 => word_Lex u0 u1) hl fun a ha b hb => word_Lex_eq a b (by have : SmW a := hl.2 a ha; unfold SmW at this; omega)
  have hLs : ∀ x ∈ L, SmW x := fun x hx => hl.2 x ((h2 x).1 hx)
  unfold wordset_Maximal
  rw [e1, obind]
  have key := iter_eq (step := fun (s : List (List Int) × Nat) => wordset_Maximal.s2 L s.1 s.2) (r := keepM L) (fun s => s.2 ≤ L.length ∧ s.1.length ≤ s.2 ∧ keepM L = s.1 ++ keepM (L.drop s.2)) (fun s => L.length - s.2) (fun s ⟨g1, g2, g3⟩ => by
    obtain ⟨y, i⟩ := s
    simp only at g1 g2 g3
    simp only [wordset_Maximal.s2]
    by_cases g4 : i < L.length
    · left
      have hx := get_at g4
      rw [dec_lt hx, cond_true, idxn_at hx]
      by_cases g5 : i + 1 = L.length
      · rw [keepM_end hx g5] at g3
        refine ⟨(y ++ [L[i]], i + 1), ?_, ⟨by simp only; omega, by simp; omega, by simp only; rw [g3]; simp⟩, by simp only; omega⟩
        rw [decide_eq_true (by omega), cond_true, obind, cond_true, chk_pos (by unfold capOk; omega)]
      · have hy := get_at (l := L) (i := i + 1) (by omega)
        rw [keepM_step hx hy] at g3
        rw [decide_eq_false (by omega), cond_false, idxn_at hy, word_HasPrefix_eq _ _ (hLs _ (List.getElem_mem _)), obind, obind]
        by_cases g6 : L[i] <+: (L[i + 1]'(by omega))
        · rw [if_pos g6] at g3
          refine ⟨(y, i + 1), ?_, ⟨by simp only; omega, by simp only; omega, g3⟩, by simp only; omega⟩
          rw [decide_eq_true g6]
          rfl
        · rw [if_neg g6] at g3
          refine ⟨(y ++ [L[i]], i + 1), ?_, ⟨by simp only; omega, by simp; omega, by simp only; rw [g3]; simp⟩, by simp only; omega⟩
          rw [decide_eq_false g6, Bool.not_false, cond_true, chk_pos (by unfold capOk; omega)]
    · right
      have e : i = L.length := by omega
      subst e
      rw [List.drop_length] at g3
      rw [decide_eq_false (by omega), cond_false, g3]
      simp [keepM]) (n := fuel) (s := ([], 0)) ⟨Nat.zero_le _, by simp, by simp⟩ (by have := fuel_big; simp only; omega)
  have hk := keepM_sub L
  have hkl : SmL (keepM L) := ⟨by have := hk.length_le; omega, fun x hx => hLs x (hk.mem hx)⟩
  rw [key, obind, wordset_Sorted_eq hkl, obind, sortW_keepM h1 h2]
end Go.Proofs.YthahbiahlpcgeaaGreatDoor.Sym

/-
  The missing queries of a table: the program's are the document's. Plain laws, and the law of TableNeeds.
-/
namespace Go.Proofs.YthahbiahlpcgeaaGreatDoor.Sym
set_option maxRecDepth 100000

/-- The words with some ends that are not answered. -/
def missO (o : T_api_Obs) (w : List Int) (S : List (List Int)) : List (List Int) := (S.map fun e => w ++ e).filter fun v => (ansO o v).isNone
theorem missO_step {o : T_api_Obs} {w e : List Int} {S : List (List Int)} {k : Nat} (h : S[k]? = some e) : missO o w (S.take (k + 1)) = missO o w (S.take k) ++ (if (ansO o (w ++ e)).isNone = true then [w ++ e] else []) := by
  unfold missO
  rw [take_step h, List.map_append, List.filter_append]
  simp only [List.map_cons, List.map_nil, List.filter_cons, List.filter_nil]
theorem missO_len (o : T_api_Obs) (w : List Int) (S : List (List Int)) : (missO o w S).length ≤ S.length := by
  unfold missO
  have := List.length_filter_le (fun v => (ansO o v).isNone) (S.map fun e => w ++ e)
  rw [List.length_map] at this
  exact this
theorem mem_missO {o : T_api_Obs} {w v : List Int} {S : List (List Int)} : v ∈ missO o w S ↔ (∃ e ∈ S, v = w ++ e) ∧ ansO o v = none := by
  unfold missO
  rw [List.mem_filter, List.mem_map, Option.isNone_iff_eq_none]
  constructor
  · rintro ⟨⟨e, he, rfl⟩, h⟩; exact ⟨⟨e, he, rfl⟩, h⟩
  · rintro ⟨⟨e, he, rfl⟩, h⟩; exact ⟨⟨e, he, rfl⟩, h⟩

theorem finder_knows_eq {o : T_api_Obs} {F : List T_api_Trace} {w : List Int} (ho : SmO o) (hv : ObsOk o) (hF : FindOk o F) : table_finder_knows F w = some (ansO o w).isSome := by
  unfold table_finder_knows
  rw [finder_answer_eq ho hv hF, obind]
  cases ansO o w <;> rfl

theorem Needed_1_eq {o : T_api_Obs} {F : List T_api_Trace} {t : T_api_Table} {w : List Int} {y : List (List Int)} (ho : SmO o) (hv : ObsOk o) (hF : FindOk o F) (hS : SmL t.Suffixes) (hw : SmW w) (hy : y.length + t.Suffixes.length ≤ 3000000) : table_Needed_1 w t F y = some (y ++ missO o w t.Suffixes) := by
  have hS1 : t.Suffixes.length ≤ 2000000 := hS.1
  have hw1 : w.length ≤ 2000000 := hw
  unfold table_Needed_1
  have key := iter_eq (step := fun (s : List (List Int) × Nat) => table_Needed_1.s2 w t F s.1 s.2) (r := y ++ missO o w t.Suffixes) (fun s => s.2 ≤ t.Suffixes.length ∧ s.1 = y ++ missO o w (t.Suffixes.take s.2)) (fun s => t.Suffixes.length - s.2) (fun s ⟨g1, g2⟩ => by
    obtain ⟨z, k⟩ := s
    simp only at g1 g2
    subst g2
    simp only [table_Needed_1.s2]
    by_cases g4 : k < t.Suffixes.length
    · left
      have hx := get_at g4
      have hx1 : t.Suffixes[k].length ≤ 2000000 := hS.2 _ (List.getElem_mem _)
      have hst := missO_step (o := o) (w := w) hx
      have hml := missO_len o w (t.Suffixes.take k)
      rw [List.length_take] at hml
      refine ⟨(y ++ missO o w (t.Suffixes.take (k + 1)), k + 1), ?_, ⟨by simp only; omega, rfl⟩, by simp only; omega⟩
      rw [dec_lt hx, cond_true, idxn_at hx, word_Join_eq _ (by simp) (by simp; omega), obind, hst]
      simp only [List.flatten_cons, List.flatten_nil, List.append_nil]
      rw [finder_knows_eq ho hv hF, obind]
      cases ha : ansO o (w ++ t.Suffixes[k]) with
      | none =>
        simp only [Option.isSome_none, Bool.not_false, cond_true, Option.isNone_none, if_true]
        rw [chk_pos (by rw [List.length_append]; unfold capOk; omega), List.append_assoc]
      | some r => simp
    · right
      have e : k = t.Suffixes.length := by omega
      subst e
      rw [decide_eq_false (by omega), cond_false, List.take_length]) (n := fuel) (s := (y, 0)) ⟨Nat.zero_le _, by simp [missO]⟩ (by have := fuel_big; simp only; omega)
  rw [key, obind]

theorem table_extended_eq {w : List Int} {a : Int} (hw : SmW w) : table_extended w a = some (w ++ [a]) := by
  have hw1 : w.length ≤ 2000000 := hw
  unfold table_extended
  rw [word_Join_eq _ (by simp) (by simp; omega), obind]
  simp

/-- Tables of the sizes that are examined. -/
structure TabOk (t : T_api_Table) : Prop where
  sm : SmT t
  n : t.Inputs ≤ 4
  p : t.Prefixes.length ≤ 30
  s : t.Suffixes.length ≤ 12
  pw : ∀ x ∈ t.Prefixes, x.length ≤ 30
  sw : ∀ x ∈ t.Suffixes, x.length ≤ 30

/-- A prefix and its extensions. -/
def withX (n : Nat) (p : List Int) : List (List Int) := p :: (List.range n).map fun (a : Nat) => p ++ [(↑a : Int)]
def needL (o : T_api_Obs) (t : T_api_Table) (P : List (List Int)) : List (List Int) := P.flatMap fun p => (withX t.Inputs.toNat p).flatMap fun w => missO o w t.Suffixes

theorem table_Needed_eq {t : T_api_Table} {o : T_api_Obs} (ht : TabOk t) (ho : SmO o) (hv : ObsOk o) : table_Needed t o = some (if chkT t o ≠ 0 then ([], chkT t o) else (maxR (needL o t t.Prefixes), 0)) := by
  obtain ⟨F, hF1, hF⟩ := table_find_eq ho hv
  have hn := ht.n
  have hp := ht.p
  have hs := ht.s
  have hS := ht.sm.2.2.1
  unfold table_Needed
  rw [table_check_eq ht.sm, obind]
  by_cases h : chkT t o = 0
  · rw [decide_eq_false (by simpa using h), cond_false, if_neg (by simpa using h), hF1, obind]
    have inner : ∀ (p : List Int) (y : List (List Int)), SmW p → p.length ≤ 1000000 → y.length ≤ 10000 → iter (fun (s : List (List Int) × Nat) => table_Needed.s13 t F p s.1 s.2) fuel (y, 0) = some (y ++ ((List.range t.Inputs.toNat).map fun (a : Nat) => p ++ [(↑a : Int)]).flatMap fun w => missO o w t.Suffixes) ∧
        (((List.range t.Inputs.toNat).map fun (a : Nat) => p ++ [(↑a : Int)]).flatMap fun w => missO o w t.Suffixes).length ≤ 48 := by
      intro p y hpw hpl hy
      have hlen : ∀ k, k ≤ t.Inputs.toNat → (((List.range k).map fun (a : Nat) => p ++ [(↑a : Int)]).flatMap fun w => missO o w t.Suffixes).length ≤ 12 * k := by
        intro k
        induction k with
        | zero => intro _; simp
        | succ k ih =>
          intro hk
          rw [List.range_succ, List.map_append, List.flatMap_append, List.length_append]
          have := ih (by omega)
          have := missO_len o (p ++ [(↑k : Int)]) t.Suffixes
          simp only [List.map_cons, List.map_nil, List.flatMap_cons, List.flatMap_nil, List.append_nil]
          omega
      refine ⟨iter_eq (fun s => s.2 ≤ t.Inputs.toNat ∧ s.1 = y ++ ((List.range s.2).map fun (a : Nat) => p ++ [(↑a : Int)]).flatMap fun w => missO o w t.Suffixes) (fun s => t.Inputs.toNat - s.2) (fun s ⟨g1, g2⟩ => ?_) ⟨Nat.zero_le _, by simp⟩ (by have := fuel_big; simp only; omega), by have := hlen t.Inputs.toNat (Nat.le_refl _); omega⟩
      obtain ⟨z, k⟩ := s
      simp only at g1 g2
      subst g2
      simp only [table_Needed.s13]
      by_cases g4 : k < t.Inputs.toNat
      · left
        have hl := hlen k (by omega)
        refine ⟨(y ++ ((List.range (k + 1)).map fun (a : Nat) => p ++ [(↑a : Int)]).flatMap fun w => missO o w t.Suffixes, k + 1), ?_, ⟨g4, rfl⟩, by simp only; omega⟩
        rw [decide_eq_true (by omega), cond_true, table_extended_eq hpw, obind, Needed_1_eq ho hv hF hS (by show (p ++ [(↑k : Int)]).length ≤ 2000000; simp; omega) (by rw [List.length_append]; omega), obind, chk_pos (by unfold inR; omega)]
        rw [List.range_succ, List.map_append, List.flatMap_append]
        simp
      · right
        have e : k = t.Inputs.toNat := by omega
        subst e
        rw [decide_eq_false (by omega), cond_false]
    have key := iter_eq (step := fun (s : List (List Int) × Nat) => table_Needed.s14 t F s.1 s.2) (r := needL o t t.Prefixes) (fun s => s.2 ≤ t.Prefixes.length ∧ s.1.length ≤ 60 * s.2 ∧ s.1 = needL o t (t.Prefixes.take s.2)) (fun s => t.Prefixes.length - s.2) (fun s ⟨g1, g0, g2⟩ => by
      obtain ⟨z, k⟩ := s
      simp only at g1 g0 g2
      subst g2
      simp only [table_Needed.s14]
      by_cases g4 : k < t.Prefixes.length
      · left
        have hx := get_at g4
        have hxm : SmW t.Prefixes[k] := ht.sm.2.1.2 _ (List.getElem_mem _)
        have hxl := ht.pw _ (List.getElem_mem g4)
        have hml := missO_len o t.Prefixes[k] t.Suffixes
        obtain ⟨i1, i2⟩ := inner t.Prefixes[k] (needL o t (t.Prefixes.take k) ++ missO o t.Prefixes[k] t.Suffixes) hxm (by omega) (by rw [List.length_append]; omega)
        have hst : needL o t (t.Prefixes.take (k + 1)) = needL o t (t.Prefixes.take k) ++ missO o t.Prefixes[k] t.Suffixes ++ ((List.range t.Inputs.toNat).map fun (a : Nat) => t.Prefixes[k] ++ [(↑a : Int)]).flatMap fun w => missO o w t.Suffixes := by
          unfold needL withX
          rw [take_step hx, List.flatMap_append]
          simp [List.append_assoc]
        refine ⟨(needL o t (t.Prefixes.take (k + 1)), k + 1), ?_, ⟨g4, ?_, rfl⟩, by simp only; omega⟩
        · rw [dec_lt hx, cond_true, idxn_at hx, Needed_1_eq ho hv hF hS hxm (by omega), obind, i1, obind, hst]
        · simp only
          rw [hst, List.length_append, List.length_append]
          omega
      · right
        have e : k = t.Prefixes.length := by omega
        subst e
        rw [decide_eq_false (by omega), cond_false, List.take_length]) (n := fuel) (s := ([], 0)) ⟨Nat.zero_le _, by simp, by simp [needL]⟩ (by have := fuel_big; simp only; omega)
    have hN : SmL (needL o t t.Prefixes) := by
      refine ⟨?_, fun v hv' => ?_⟩
      · have hb : ∀ P : List (List Int), (needL o t P).length ≤ 60 * P.length := by
          intro P
          induction P with
          | nil => simp [needL]
          | cons p P ih =>
            unfold needL at ih ⊢
            rw [List.flatMap_cons, List.length_append, List.length_cons]
            have hw : ((withX t.Inputs.toNat p).flatMap fun w => missO o w t.Suffixes).length ≤ 12 * (withX t.Inputs.toNat p).length := by
              generalize withX t.Inputs.toNat p = X
              induction X with
              | nil => simp
              | cons w X ih2 =>
                have := missO_len o w t.Suffixes
                rw [List.flatMap_cons, List.length_append, List.length_cons]
                omega
            have hwl : (withX t.Inputs.toNat p).length = t.Inputs.toNat + 1 := by simp [withX]
            rw [hwl] at hw
            omega
        have := hb t.Prefixes
        omega
      · unfold needL at hv'
        obtain ⟨p, hpm, h2⟩ := List.mem_flatMap.1 hv'
        obtain ⟨w, hw, h3⟩ := List.mem_flatMap.1 h2
        obtain ⟨⟨e, he, rfl⟩, _⟩ := mem_missO.1 h3
        have h4 := ht.pw p hpm
        have h5 := ht.sw e he
        have h6 : w.length ≤ 31 := by
          unfold withX at hw
          rcases List.mem_cons.1 hw with rfl | hw
          · omega
          · obtain ⟨a, _, rfl⟩ := List.mem_map.1 hw
            simp
            omega
        unfold SmW
        rw [List.length_append]
        omega
    rw [key, obind, wordset_Maximal_eq hN, obind]
  · rw [decide_eq_true h, cond_true, if_pos h]

/-- The extensions of a table. -/
def extL (t : T_api_Table) : List (List Int) := t.Prefixes.flatMap fun p => (List.range t.Inputs.toNat).map fun (a : Nat) => p ++ [(↑a : Int)]

theorem R23_Extensions_eq {t : T_api_Table} (ht : TabOk t) : R23_Extensions t = some (sortW (extL t)) ∧ SmL (extL t) := by
  have hn := ht.n
  have hp := ht.p
  have hlen : ∀ P : List (List Int), (P.flatMap fun p => (List.range t.Inputs.toNat).map fun (a : Nat) => p ++ [(↑a : Int)]).length ≤ 4 * P.length := by
    intro P
    induction P with
    | nil => simp
    | cons p P ih =>
      rw [List.flatMap_cons, List.length_append, List.length_cons, List.length_map, List.length_range]
      omega
  have hE : SmL (extL t) := by
    refine ⟨by have := hlen t.Prefixes; unfold extL; omega, fun v hv => ?_⟩
    obtain ⟨p, hpm, h2⟩ := List.mem_flatMap.1 hv
    obtain ⟨a, _, rfl⟩ := List.mem_map.1 h2
    have := ht.pw p hpm
    unfold SmW
    simp
    omega
  refine ⟨?_, hE⟩
  unfold R23_Extensions
  have key := iter_eq (step := fun (s : List (List Int) × Nat) => R23_Extensions.s14 t s.1 s.2) (r := extL t) (fun s => s.2 ≤ t.Prefixes.length ∧ s.1 = (t.Prefixes.take s.2).flatMap fun p => (List.range t.Inputs.toNat).map fun (a : Nat) => p ++ [(↑a : Int)]) (fun s => t.Prefixes.length - s.2) (fun s ⟨g1, g2⟩ => by
    obtain ⟨z, k⟩ := s
    simp only at g1 g2
    subst g2
    simp only [R23_Extensions.s14]
    by_cases g4 : k < t.Prefixes.length
    · left
      have hx := get_at g4
      have hxm : SmW t.Prefixes[k] := ht.sm.2.1.2 _ (List.getElem_mem _)
      have hl := hlen (t.Prefixes.take k)
      rw [List.length_take] at hl
      generalize hz : ((t.Prefixes.take k).flatMap fun p => (List.range t.Inputs.toNat).map fun (a : Nat) => p ++ [(↑a : Int)]) = z at hl
      have inner := iter_eq (step := fun (s : List (List Int) × Nat) => R23_Extensions.s13 t k s.1 s.2) (r := z ++ (List.range t.Inputs.toNat).map fun (a : Nat) => t.Prefixes[k] ++ [(↑a : Int)]) (fun s => s.2 ≤ t.Inputs.toNat ∧ s.1 = z ++ (List.range s.2).map fun (a : Nat) => t.Prefixes[k] ++ [(↑a : Int)]) (fun s => t.Inputs.toNat - s.2) (fun s ⟨q1, q2⟩ => by
        obtain ⟨u, j⟩ := s
        simp only at q1 q2
        subst q2
        simp only [R23_Extensions.s13]
        by_cases q4 : j < t.Inputs.toNat
        · left
          refine ⟨(z ++ (List.range (j + 1)).map fun (a : Nat) => t.Prefixes[k] ++ [(↑a : Int)], j + 1), ?_, ⟨q4, rfl⟩, by simp only; omega⟩
          rw [decide_eq_true (by omega), cond_true, idxn_at hx, R23_Joined_eq hxm (by simp [SmW]), obind, chk_pos (by rw [List.length_append, List.length_map, List.length_range]; unfold capOk; omega), chk_pos (by unfold inR; omega), List.range_succ, List.map_append]
          simp
        · right
          have e : j = t.Inputs.toNat := by omega
          subst e
          rw [decide_eq_false (by omega), cond_false]) (n := fuel) (s := (z, 0)) ⟨Nat.zero_le _, by simp⟩ (by have := fuel_big; simp only; omega)
      refine ⟨(z ++ (List.range t.Inputs.toNat).map fun (a : Nat) => t.Prefixes[k] ++ [(↑a : Int)], k + 1), ?_, ⟨g4, ?_⟩, by simp only; omega⟩
      · rw [dec_lt hx, cond_true, inner, obind]
      · simp only
        rw [take_step hx, List.flatMap_append, hz]
        simp
    · right
      have e : k = t.Prefixes.length := by omega
      subst e
      rw [decide_eq_false (by omega), cond_false, List.take_length]
      rfl) (n := fuel) (s := ([], 0)) ⟨Nat.zero_le _, by simp⟩ (by have := fuel_big; simp only; omega)
  rw [key, obind, R02_Sorted_eq hE, obind]

theorem R23_Needed_eq {t : T_api_Table} {o : T_api_Obs} (ht : TabOk t) (ho : SmO o) (hv : ObsOk o) : R23_Needed t o = some (if chkT t o ≠ 0 then ([], chkT t o) else (maxR (needL o t t.Prefixes), 0)) := by
  have hn := ht.n
  have hp := ht.p
  have hs := ht.s
  have hS := ht.sm.2.2.1
  obtain ⟨hE1, hE2⟩ := R23_Extensions_eq ht
  unfold R23_Needed
  rw [R23_Check_eq ht.sm, obind]
  by_cases h : chkT t o = 0
  · rw [decide_eq_false (by simpa using h), cond_false, if_neg (by simpa using h), hE1, obind]
    have hEs := sml_sort hE2
    have hEl : (sortW (extL t)).length ≤ 120 := by
      have h1 := sortW_length (extL t)
      have : (extL t).length ≤ 4 * t.Prefixes.length := by
        unfold extL
        generalize t.Prefixes = P
        induction P with
        | nil => simp
        | cons p P ih =>
          rw [List.flatMap_cons, List.length_append, List.length_cons, List.length_map, List.length_range]
          omega
      omega
    rw [R02_Union_eq (by simp) (by rw [two_flat]; exact sml_append (by omega) ht.sm.2.1 hEs), two_flat, obind]
    have hWm : ∀ x, x ∈ sortW (t.Prefixes ++ sortW (extL t)) ↔ ∃ p ∈ t.Prefixes, x ∈ withX t.Inputs.toNat p := fun x => by
      rw [mem_sortW, List.mem_append, mem_sortW]
      unfold extL withX
      constructor
      · rintro (h | h)
        · exact ⟨x, h, by simp⟩
        · obtain ⟨p, hp, h2⟩ := List.mem_flatMap.1 h
          exact ⟨p, hp, List.mem_cons_of_mem _ h2⟩
      · rintro ⟨p, hp, h⟩
        rcases List.mem_cons.1 h with rfl | h
        · exact Or.inl hp
        · exact Or.inr (List.mem_flatMap.2 ⟨p, hp, h⟩)
    have hWl : (sortW (t.Prefixes ++ sortW (extL t))).length ≤ 150 := by
      have := sortW_length (t.Prefixes ++ sortW (extL t))
      rw [List.length_append] at this
      omega
    have hWw : ∀ x ∈ sortW (t.Prefixes ++ sortW (extL t)), x.length ≤ 31 := fun x hx => by
      obtain ⟨p, hpm, h2⟩ := (hWm x).1 hx
      have := ht.pw p hpm
      unfold withX at h2
      rcases List.mem_cons.1 h2 with rfl | h2
      · omega
      · obtain ⟨a, _, rfl⟩ := List.mem_map.1 h2
        simp
        omega
    generalize sortW (t.Prefixes ++ sortW (extL t)) = U at hWm hWl hWw
    have hb : ∀ k, ((U.take k).flatMap fun w => missO o w t.Suffixes).length ≤ 12 * k := by
      intro k
      induction k with
      | zero => simp
      | succ k ih =>
        by_cases hk : k < U.length
        · have hx := get_at hk
          have := missO_len o U[k] t.Suffixes
          rw [take_step hx, List.flatMap_append, List.length_append]
          simp only [List.flatMap_cons, List.flatMap_nil, List.append_nil]
          omega
        · rw [List.take_of_length_le (by omega)]
          rw [List.take_of_length_le (by omega)] at ih
          omega
    have key := iter_eq (step := fun (s : List (List Int) × Nat) => R23_Needed.s14 t o U s.1 s.2) (r := U.flatMap fun w => missO o w t.Suffixes) (fun s => s.2 ≤ U.length ∧ s.1 = (U.take s.2).flatMap fun w => missO o w t.Suffixes) (fun s => U.length - s.2) (fun s ⟨g1, g2⟩ => by
      obtain ⟨z, i⟩ := s
      simp only at g1 g2
      subst g2
      simp only [R23_Needed.s14]
      by_cases g4 : i < U.length
      · left
        have hx := get_at g4
        have hxl := hWw _ (List.getElem_mem g4)
        have hl := hb i
        generalize hz : ((U.take i).flatMap fun w => missO o w t.Suffixes) = z at hl
        have inner := iter_eq (step := fun (s : List (List Int) × Nat) => R23_Needed.s13 t o U i s.1 s.2) (r := z ++ missO o U[i] t.Suffixes) (fun s => s.2 ≤ t.Suffixes.length ∧ s.1 = z ++ missO o U[i] (t.Suffixes.take s.2)) (fun s => t.Suffixes.length - s.2) (fun s ⟨q1, q2⟩ => by
          obtain ⟨u, k⟩ := s
          simp only at q1 q2
          subst q2
          simp only [R23_Needed.s13]
          by_cases q4 : k < t.Suffixes.length
          · left
            have hy := get_at q4
            have hys : SmW t.Suffixes[k] := hS.2 _ (List.getElem_mem _)
            have hst := missO_step (o := o) (w := U[i]) hy
            have hml := missO_len o U[i] (t.Suffixes.take k)
            rw [List.length_take] at hml
            refine ⟨(z ++ missO o U[i] (t.Suffixes.take (k + 1)), k + 1), ?_, ⟨q4, rfl⟩, by simp only; omega⟩
            rw [dec_lt hy, cond_true, idxn_at hx, idxn_at hy, R23_Joined_eq (by unfold SmW; omega) hys, obind, R16_Answer_eq ho hv, obind, hst]
            cases ha : ansO o (U[i] ++ t.Suffixes[k]) with
            | none =>
              simp only [tw, Bool.not_false, cond_true, Option.isNone_none, if_true]
              rw [chk_pos (by rw [List.length_append]; unfold capOk; omega), List.append_assoc]
            | some r => simp [tw]
          · right
            have e : k = t.Suffixes.length := by omega
            subst e
            rw [decide_eq_false (by omega), cond_false, List.take_length]) (n := fuel) (s := (z, 0)) ⟨Nat.zero_le _, by simp [missO]⟩ (by have := fuel_big; simp only; omega)
        refine ⟨(z ++ missO o U[i] t.Suffixes, i + 1), ?_, ⟨g4, ?_⟩, by simp only; omega⟩
        · rw [dec_lt hx, cond_true, inner, obind]
        · simp only
          rw [take_step hx, List.flatMap_append, hz]
          simp
      · right
        have e : i = U.length := by omega
        subst e
        rw [decide_eq_false (by omega), cond_false, List.take_length]) (n := fuel) (s := ([], 0)) ⟨Nat.zero_le _, by simp⟩ (by have := fuel_big; simp only; omega)
    have hUl := hb U.length
    rw [List.take_length] at hUl
    rw [key, obind, R02_Maximal_eq ⟨by omega, fun v hv' => by
      obtain ⟨w, hw, h3⟩ := List.mem_flatMap.1 hv'
      obtain ⟨⟨e, he, rfl⟩, _⟩ := mem_missO.1 h3
      have h5 := ht.sw e he
      have h6 := hWw w hw
      unfold SmW
      rw [List.length_append]
      omega⟩, obind]
    congr 2
    refine maxR_ext fun v => ?_
    unfold needL
    rw [List.mem_flatMap, List.mem_flatMap]
    constructor
    · rintro ⟨w, hw, hm⟩
      obtain ⟨p, hp, h2⟩ := (hWm w).1 hw
      exact ⟨p, hp, List.mem_flatMap.2 ⟨w, h2, hm⟩⟩
    · rintro ⟨p, hp, h2⟩
      obtain ⟨w, hw, hm⟩ := List.mem_flatMap.1 h2
      exact ⟨w, (hWm w).2 ⟨p, hp, hw⟩, hm⟩
  · rw [decide_eq_true h, cond_true, if_pos h]

theorem R01_SameWords_eq (a b : List (List Int)) (ha : SmL a) : R01_SameWords a b = some (decide (a = b)) := by
  have ha1 : a.length ≤ 2000000 := ha.1
  unfold R01_SameWords
  by_cases hlen : a.length = b.length
  · rw [decide_eq_false (by omega), cond_false]
    refine iter_all2 hlen (fun i x y hx hy => ?_) ?_ (by omega)
    · simp only [R01_SameWords.s2]
      rw [dec_lt hx, cond_true, idxn_at hx, idxn_at hy, R01_Same_eq x y (ha.2 x (List.mem_of_getElem? hx)), obind]
      by_cases h : x = y <;> simp [h]
    · simp only [R01_SameWords.s2]
      rw [dec_end]
      rfl
  · rw [decide_eq_true (by omega), cond_true]
    have : a ≠ b := fun h => hlen (by rw [h])
    simp [this]

theorem tabOk_of {t : T_api_Table} {o : T_api_Obs} (ht : SmT t) (h : greatT t o = false) : TabOk t ∧ o.Traces.length ≤ 400 ∧ ∀ x ∈ o.Traces, x.In.length ≤ 90 := by
  unfold greatT at h
  simp only [Bool.or_eq_false_iff, decide_eq_false_iff_not, Bool.not_eq_false'] at h
  obtain ⟨⟨⟨⟨h1, h2, h3⟩, h4, h5⟩, h6⟩, h7⟩ := h
  exact ⟨⟨ht, by omega, by omega, by omega, fun x hx => of_decide_eq_true (List.all_eq_true.1 h3 x hx), fun x hx => of_decide_eq_true (List.all_eq_true.1 h5 x hx)⟩, by omega, fun x hx => of_decide_eq_true (List.all_eq_true.1 h7 x hx)⟩

theorem rowO_sml {o : T_api_Obs} (hv : ObsOk o) {w : List Int} : ∀ {S : List (List Int)} {l : List (List Int)}, rowO o w S = some l → l.length = S.length ∧ ∀ x ∈ l, ∃ e ∈ S, x.length = e.length
  | [], l, h => by
    injection h with h
    subst h
    exact ⟨rfl, fun x hx => by cases hx⟩
  | e :: S, l, h => by
    unfold rowO at h
    cases ha : ansO o (w ++ e) with
    | none => rw [ha] at h; cases h
    | some r =>
      rw [ha] at h
      obtain ⟨l', h1, rfl⟩ := Option.map_eq_some_iff.1 h
      obtain ⟨h2, h3⟩ := rowO_sml hv h1
      have hrl := ansO_len hv ha
      rw [List.length_append] at hrl
      refine ⟨by simp [h2], fun x hx => ?_⟩
      rcases List.mem_cons.1 hx with rfl | hx
      · exact ⟨e, by simp, by rw [List.length_drop]; omega⟩
      · obtain ⟨e', he', hl'⟩ := h3 x hx
        exact ⟨e', List.mem_cons_of_mem _ he', hl'⟩
theorem rowT_sml {t : T_api_Table} {o : T_api_Obs} (hv : ObsOk o) (ht : SmT t) (w : List Int) : SmL (rowT t o w).1 := by
  unfold rowT
  split
  · exact sml_nil
  · cases h : rowO o w t.Suffixes with
    | none => exact sml_nil
    | some l =>
      obtain ⟨h1, h2⟩ := rowO_sml hv h
      refine ⟨by show l.length ≤ 2000000; rw [h1]; exact ht.2.2.1.1, fun x hx => ?_⟩
      obtain ⟨e, he, hl⟩ := h2 x hx
      have : SmW e := ht.2.2.1.2 e he
      unfold SmW at this ⊢
      omega

theorem plain_TableNeeds (t : T_api_Table) (o : T_api_Obs) (w : List Int) (ht : SmT t) (ho : SmO o) (hw : SmW w) : L23_TableNeeds t o w = some true := by
  have hl := ho.1
  obtain ⟨ev, hev, hv⟩ := R16_Valid_tot o ho
  unfold L23_TableNeeds
  rw [L23_Great_eq _ _ ht.2.1.1 ht.2.2.1.1 (by omega), awake_true, obind]
  cases hg : greatT t o with
  | true => rfl
  | false =>
    simp only [cond_false]
    obtain ⟨hT, _, _⟩ := tabOk_of ht hg
    by_cases h2 : 60 < w.length
    · rw [decide_eq_true (by omega)]
      rfl
    · rw [decide_eq_false (by omega), cond_false, hev, obind, obind]
      by_cases h3 : ev = 0
      · have hv := hv h3
        rw [decide_eq_false (by simpa using h3), cond_false, table_Needed_eq hT ho hv, R23_Needed_eq hT ho hv, table_Row_eq ht ho hv hw, R23_Row_eq ht ho hv hw]
        simp only [obind]
        have hN : SmL (if chkT t o ≠ 0 then (([] : List (List Int)), chkT t o) else (maxR (needL o t t.Prefixes), 0)).1 := by
          split
          · exact sml_nil
          · have hE : R02_Maximal (needL o t t.Prefixes) = R02_Maximal (needL o t t.Prefixes) := rfl
            refine ⟨?_, fun x hx => ?_⟩
            · have h4 := maxR_length (needL o t t.Prefixes)
              have hb : ∀ P : List (List Int), (needL o t P).length ≤ 60 * P.length := by
                intro P
                induction P with
                | nil => simp [needL]
                | cons p P ih =>
                  unfold needL at ih ⊢
                  rw [List.flatMap_cons, List.length_append, List.length_cons]
                  have hw : ((withX t.Inputs.toNat p).flatMap fun w => missO o w t.Suffixes).length ≤ 12 * (withX t.Inputs.toNat p).length := by
                    generalize withX t.Inputs.toNat p = X
                    induction X with
                    | nil => simp
                    | cons w X ih2 =>
                      have := missO_len o w t.Suffixes
                      have := hT.s
                      rw [List.flatMap_cons, List.length_append, List.length_cons]
                      omega
                  have hwl : (withX t.Inputs.toNat p).length = t.Inputs.toNat + 1 := by simp [withX]
                  have := hT.n
                  rw [hwl] at hw
                  omega
              have := hb t.Prefixes
              have := hT.p
              simp only
              omega
            · have hx := mem_maxR hx
              unfold needL at hx
              obtain ⟨p, hpm, h2⟩ := List.mem_flatMap.1 hx
              obtain ⟨u, hu, h3⟩ := List.mem_flatMap.1 h2
              obtain ⟨⟨e, he, rfl⟩, _⟩ := mem_missO.1 h3
              have h4 := hT.pw p hpm
              have h5 := hT.sw e he
              have h6 : u.length ≤ 31 := by
                unfold withX at hu
                rcases List.mem_cons.1 hu with rfl | hu
                · omega
                · obtain ⟨a, _, rfl⟩ := List.mem_map.1 hu
                  simp
                  omega
              unfold SmW
              rw [List.length_append]
              omega
        have hR := rowT_sml hv ht w
        rw [R01_SameWords_eq _ _ hN, R06_Lists_eq _ _ (by have := hR.1; omega) (fun x hx => by have : SmW x := hR.2 x hx; unfold SmW at this; omega)]
        simp
      · rw [decide_eq_true h3]
        rfl
end Go.Proofs.YthahbiahlpcgeaaGreatDoor.Sym

/-
  The law of TableNeeds, for arguments within the bound.
-/
namespace Go.Proofs.YthahbiahlpcgeaaGreatDoor.Sym
theorem trace_pos (t : T_api_Trace) : 1 ≤ sz_api_Trace t := by unfold sz_api_Trace; omega
theorem smo_of {o : T_api_Obs} (s : sz_api_Obs o ≤ 1048576) : SmO o := by
  unfold sz_api_Obs at s
  have s1 : szL sz_api_Trace o.Traces ≤ 1048576 := by omega
  refine ⟨?_, fun t ht => ?_⟩
  · have := sum_len (f := sz_api_Trace) trace_pos o.Traces
    unfold szL at s1
    omega
  · have h1 := sum_mem (f := sz_api_Trace) ht
    have h2 := sz_word (x := t.In)
    have h3 := sz_word (x := t.Out)
    have h4 : (o.Traces.map sz_api_Trace).sum + 1 ≤ 1048576 := s1
    have h5 : sz_api_Trace t = (szL sz1 t.In + (szL sz1 t.Out + 0)) + 1 := rfl
    omega
theorem law_L23_TableNeeds (x0 : T_api_Table) (x1 : T_api_Obs) (x2 : List Int) (k0 : ok_api_Table x0) (s0 : sz_api_Table x0 ≤ 1048576) (k1 : ok_api_Obs x1) (s1 : sz_api_Obs x1 ≤ 1048576) (k2 : okL inR x2) (s2 : szL sz1 x2 ≤ 1048576) : L23_TableNeeds x0 x1 x2 = some true := by
  have hw := word_len s2
  exact plain_TableNeeds x0 x1 x2 (smt_of k0 s0) (smo_of s1) (by unfold SmW; omega)
end Go.Proofs.YthahbiahlpcgeaaGreatDoor.Sym
