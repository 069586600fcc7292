/-
  The comparisons of words are what they say; they may be handed to a sort.
-/
import Derived.Test.YthahbiahlpcgeaaGreatDoorGD1
import Derived.Test.YthahbiahlpcgeaaGreatDoorIter
namespace Go.Proofs.YthahbiahlpcgeaaGreatDoor.Sym
open Go.RowKit
set_option maxRecDepth 100000

theorem cmp_Compare_int_eq (x y : Int) : cmp_Compare_int x y = some (cmpI x y) := by
  unfold cmp_Compare_int cmp_isNaN_int cmpI
  by_cases h1 : x < y
  · simp [h1]
  · by_cases h2 : y < x <;> simp [h1, h2]

theorem slices_Compare_eq (s t : List Int) (hs : s.length ≤ 100000000000000) : slices_Compare_Sint_int s t = some (lexI s t) := by
  have key := iter_post (step := fun k => slices_Compare_Sint_int.s2 s t k) (fun k => k ≤ s.length ∧ k ≤ t.length ∧ lexI s t = lexI (s.drop k) (t.drop k)) (fun k => s.length - k)
    (fun r => Sum.elim (fun (_ : Unit) => cond (decide ((↑(List.length s) : Int) < (↑(List.length t) : Int))) (some (-1 : Int)) (some 0)) some r = some (lexI s t)) (fun k ⟨h1, h2, h3⟩ => by
      unfold slices_Compare_Sint_int.s2
      rcases Nat.lt_or_ge k s.length with h | h
      · have hx := List.getElem?_eq_getElem h
        rw [dec_lt hx, cond_true, idxn_at hx]
        by_cases h4 : t.length ≤ k
        · right
          refine ⟨.inr 1, by simp [h4], ?_⟩
          rw [h3, lexI_long h h4]
          rfl
        · have hy := List.getElem?_eq_getElem (show k < t.length by omega)
          have hst := lexI_step hx hy
          have d4 : decide ((↑(List.length t) : Int) ≤ (↑k : Int)) = false := by simp; omega
          rw [d4, cond_false, idxn_at hy, cmp_Compare_int_eq]
          by_cases h5 : cmpI s[k] t[k] = 0
          · left
            rw [if_pos h5] at hst
            exact ⟨k + 1, by simp [h5], ⟨by omega, by omega, by rw [h3, hst]⟩, by omega⟩
          · right
            rw [if_neg h5] at hst
            exact ⟨.inr (cmpI s[k] t[k]), by simp [h5], by rw [h3, hst]; rfl⟩
      · right
        have e : k = s.length := by omega
        subst e
        rw [dec_end, cond_false]
        refine ⟨.inl (), rfl, ?_⟩
        rw [h3, lexI_end (Nat.le_refl _)]
        by_cases h4 : s.length < t.length <;> simp [h4]) fuel 0 ⟨Nat.zero_le _, Nat.zero_le _, rfl⟩ (by have := fuel_big; simp only [Nat.sub_zero]; omega)
  obtain ⟨r, e, hq⟩ := key
  unfold slices_Compare_Sint_int
  rw [e]
  exact hq

theorem cmp_Or_two (x y : Int) : cmp_Or_int [x, y] = some (if x ≠ 0 then x else y) := by
  unfold cmp_Or_int
  have e : fuel = (fuel - 3) + 1 + 1 + 1 := by unfold fuel; omega
  rw [e]
  by_cases h1 : x = 0
  · by_cases h2 : y = 0
    · simp [iter, cmp_Or_int.s2, idxn, h1, h2]
    · simp [iter, cmp_Or_int.s2, idxn, h1, h2]
  · simp [iter, cmp_Or_int.s2, idxn, h1]

theorem word_Lex_eq (s t : List Int) (hs : s.length ≤ 100000000000000) : word_Lex s t = some (lexI s t) := by
  unfold word_Lex
  rw [slices_Compare_eq s t hs]
  rfl
theorem word_Compare_eq (s t : List Int) (hs : s.length ≤ 100000000000000) : word_Compare s t = some (cmpW s t) := by
  unfold word_Compare
  rw [slices_Compare_eq s t hs, cmp_Compare_int_eq]
  show (cmp_Or_int [cmpI s.length t.length, lexI s t]).bind some = _
  rw [cmp_Or_two]
  show some _ = some _
  congr 1
  unfold cmpI cmpW
  by_cases h1 : s.length < t.length
  · simp [h1]
  · by_cases h2 : t.length < s.length
    · simp [h1, h2]
    · simp [h1, h2]

theorem cmpE_word_Lex : CmpE Tryz.prog 107 (fun x => nL cI x) (fun x y => word_Lex x y) :=
  ⟨fun args w => run_enter rfl rfl rfl args w, cmpG_lex fun x y r hx h => by rw [word_Lex_eq x y (by omega)] at h; injection h with h; exact h.symm⟩
theorem cmpE_word_Compare : CmpE Tryz.prog 99 (fun x => nL cI x) (fun x y => word_Compare x y) :=
  ⟨fun args w => run_enter rfl rfl rfl args w, cmpG_compare fun x y r hx h => by rw [word_Compare_eq x y (by omega)] at h; injection h with h; exact h.symm⟩
theorem cmpE_table_find_1 : CmpE Tryz.prog 106 (fun x => .agg (c_api_Trace x)) (fun x y => table_find_1 x y) :=
  ⟨fun args w => run_enter rfl rfl rfl args w, cmpG_find1 (T := T_api_Trace) (i := fun x => x.In) (o := fun x => x.Out) (f := fun x y => table_find_1 x y) (fun _ => rfl) fun x y r hx h => by
    simp only [table_find_1] at h
    rw [word_Lex_eq _ _ (by omega)] at h
    injection h with h
    exact h.symm⟩
end Go.Proofs.YthahbiahlpcgeaaGreatDoor.Sym
