/-
 Answers and rows: the program's finder answers as the document's observations do. Plain laws.
-/
import Derived.Test.YtpmebphhbgpapaaGreatDoorM3
set_option linter.all false
namespace Go.Proofs.YtpmebphhbgpapaaGreatDoor.Sym
set_option maxRecDepth 100000
def ansO (o : T_api_Obs) (w : List Int) : Option (List Int) :=
 if w = [] then some [] else (o.Traces.find? fun t => decide (w <+: t.In)).map fun t => t.Out.take w.length
abbrev tw {α : Type} (x : Option (List α)) : List α × Bool := match x with | some r => (r, true) | none => ([], false)
theorem smo_in {o : T_api_Obs} (ho : SmO o) {t : T_api_Trace} (h : t ∈ o.Traces) : SmW t.In := by
 have := (ho.2 t h).1
 unfold SmW
 omega
theorem pre_len {p w : List Int} (h : p <+: w) : p.length ≤ w.length := h.length_le
theorem R16_Answer_eq {o : T_api_Obs} {w : List Int} (ho : SmO o) (hv : ObsOk o) : R16_Answer o w = some (tw (ansO o w)) := by
 have hl := ho.1
 unfold R16_Answer ansO
 by_cases h0 : w = []
 ·subst h0
  rfl
 ·rw [if_neg h0, decide_eq_false (by
   intro h
   exact h0 (List.eq_nil_of_length_eq_zero (by omega))), cond_false]
  have key := iter_scan (step := fun i => R16_Answer.s2 o w i) (l := o.Traces) (fun _ t => if w <+: t.In then some (t.Out.take w.length, true) else none) (fun i t ht => by
   have htm := List.mem_of_getElem? ht
   have hP := (hv.prop t htm).1
   simp only [R16_Answer.s2]
   rw [dec_lt ht, cond_true, idxn_at ht, R01_HasPrefix_eq _ _ (smo_in ho htm), obind]
   by_cases h : w <+: t.In
   ·have hlen := pre_len h
    have := hP.2.1
    have h2 := (ho.2 t htm).1
    rw [decide_eq_true h, cond_true, idxn_at ht, chk_pos (by omega), R01_Join_eq _ (by simp) (by simp; omega), obind, if_pos h]
    simp
   ·rw [decide_eq_false h, cond_false, if_neg h]) (by
   simp only [R16_Answer.s2]
   rw [dec_end]
   rfl) (by omega)
  rw [key, obind]
  have key2 : ∀ (l : List T_api_Trace) (j : Nat), scan (fun _ t => if w <+: t.In then some (t.Out.take w.length, true) else none) j l = ((l.find? fun t => decide (w <+: t.In)).map fun t => t.Out.take w.length).map fun r => (r, true) := by
   intro l
   induction l with
   | nil => intro j; rfl
   | cons t l ih =>
    intro j
    unfold scan
    by_cases h : w <+: t.In
    ·rw [if_pos h, List.find?_cons_of_pos (by simpa using h)]
     rfl
    ·rw [if_neg h, List.find?_cons_of_neg (by simpa using h)]
     exact ih _
  rw [key2]
  cases (o.Traces.find? fun t => decide (w <+: t.In)).map fun t => t.Out.take w.length <;> rfl
def FindOk (o : T_api_Obs) (F : List T_api_Trace) : Prop := F.Perm o.Traces ∧ F.Pairwise fun a b => lexI a.In b.In = -1
theorem in_inj {o : T_api_Obs} (hv : ObsOk o) {a b : T_api_Trace} (ha : a ∈ o.Traces) (hb : b ∈ o.Traces) (h : a.In = b.In) : a = b := by
 obtain ⟨i, hi, rfl⟩ := List.mem_iff_getElem.1 ha
 obtain ⟨j, hj, rfl⟩ := List.mem_iff_getElem.1 hb
 rcases Nat.lt_trichotomy i j with hlt | heq | hgt
 ·have := hv.asc i j _ _ hlt (get_at hi) (get_at hj)
  rw [h, cmpW_refl] at this
  cases this
 ·subst heq; rfl
 ·have := hv.asc j i _ _ hgt (get_at hj) (get_at hi)
  rw [h, cmpW_refl] at this
  cases this
theorem table_find_eq {o : T_api_Obs} (ho : SmO o) (hv : ObsOk o) : ∃ F, table_find o = some F ∧ FindOk o F := by
 have hl := ho.1
 have hf : ∀ a ∈ o.Traces, ∀ b ∈ o.Traces, table_find_1 a b = some (lexI a.In b.In) := fun a ha b hb => by
  unfold table_find_1
  rw [word_Lex_eq _ _ (by have := smo_in ho ha; unfold SmW at this; omega), obind]
 have htot : totB (fun u0 u1 => table_find_1 u0 u1) o.Traces = true := by
  refine List.all_eq_true.2 fun a ha => List.all_eq_true.2 fun b hb => ?_
  simp only [hf a ha b hb, hf b hb a ha, Bool.and_eq_true]
  refine ⟨⟨⟨?_, ?_⟩, ?_⟩, List.all_eq_true.2 fun c hc => ?_⟩
  ·rw [beq_iff_eq]
   have := lexI_zero a.In b.In
   exact decide_eq_decide.2 ⟨fun h => in_inj hv ha hb (this.1 h), fun h => this.2 (by rw [h])⟩
  ·rw [beq_iff_eq]
   have := lexI_swap a.In b.In
   exact decide_eq_decide.2 (by omega)
  ·have := lexI_range a.In b.In
   exact decide_eq_true (by omega)
  ·rw [hf b hb c hc, hf a ha c hc]
   have r1 := lexI_range a.In b.In
   have r2 := lexI_range b.In c.In
   by_cases h1 : lexI a.In b.In < 0
   ·by_cases h2 : lexI b.In c.In < 0
    ·have := lexI_trans a.In b.In c.In (by omega) (by omega)
     simp [h1, h2, this]
    ·simp [h1, h2]
   ·simp [h1]
 refine ⟨isortF (fun u0 u1 => table_find_1 u0 u1) o.Traces, ?_, isortF_perm _ _, ?_⟩
 ·unfold table_find lib_Clone_traces libClone lib_SortFunc_finder libSort
  rw [chk_pos (by unfold capOk; omega), obind, chk_pos (by omega), htot]
  rfl
 ·have T := totB_iff htot
  have h := isortF_sorted T
  have hperm := isortF_perm (fun u0 u1 => table_find_1 u0 u1) o.Traces
  have hnd : (isortF (fun u0 u1 => table_find_1 u0 u1) o.Traces).Nodup := by
   refine hperm.nodup_iff.2 ?_
   rw [List.Nodup, List.pairwise_iff_getElem]
   intro i j hi hj hij e
   have := hv.asc i j _ _ hij (get_at hi) (get_at hj)
   rw [e, cmpW_refl] at this
   cases this
  rw [List.pairwise_iff_getElem] at h ⊢
  rw [List.Nodup, List.pairwise_iff_getElem] at hnd
  intro i j hi hj hij
  have h1 := h i j hi hj hij
  have hne := hnd i j hi hj hij
  have m1 := hperm.mem_iff.1 (List.getElem_mem hi)
  have m2 := hperm.mem_iff.1 (List.getElem_mem hj)
  unfold NGt cfv at h1
  simp only [hf _ m2 _ m1, Option.getD_some] at h1
  have r := lexI_range (isortF (fun u0 u1 => table_find_1 u0 u1) o.Traces)[j].In (isortF (fun u0 u1 => table_find_1 u0 u1) o.Traces)[i].In
  have s := lexI_swap (isortF (fun u0 u1 => table_find_1 u0 u1) o.Traces)[j].In (isortF (fun u0 u1 => table_find_1 u0 u1) o.Traces)[i].In
  have z := lexI_zero (isortF (fun u0 u1 => table_find_1 u0 u1) o.Traces)[j].In (isortF (fun u0 u1 => table_find_1 u0 u1) o.Traces)[i].In
  have hz : ¬ lexI (isortF (fun u0 u1 => table_find_1 u0 u1) o.Traces)[j].In (isortF (fun u0 u1 => table_find_1 u0 u1) o.Traces)[i].In = 0 := fun e => hne (in_inj hv m1 m2 (z.1 e).symm)
  omega
theorem search_eq {F : List T_api_Trace} {w : List Int} (hs : F.Pairwise fun a b => lexI a.In b.In = -1) (hl : F.length ≤ 2000000) (hw : ∀ t ∈ F, SmW t.In) :
  ∃ k : Nat, ∃ b, slices_BinarySearchFunc_table_finder_api_Trace_Sint F w (fun u0 u1 => table_finder_answer_1 u0 u1) = some ((↑k : Int), b) ∧ k ≤ F.length ∧ (∀ j t, j < k → F[j]? = some t → lexI t.In w = -1) ∧ ∀ t, F[k]? = some t → lexI t.In w ≠ -1 := by
 have hc : ∀ t ∈ F, table_finder_answer_1 t w = some (lexI t.In w) := fun t ht => by
  unfold table_finder_answer_1
  rw [word_Lex_eq _ _ (by have := hw t ht; unfold SmW at this; omega), obind]
 have hlt : ∀ {i j : Nat} {a b : T_api_Trace}, i < j → F[i]? = some a → F[j]? = some b → lexI a.In b.In = -1 := fun {i j a b} hij ha hb => by
  obtain ⟨hi, rfl⟩ := List.getElem?_eq_some_iff.1 ha
  obtain ⟨hj, rfl⟩ := List.getElem?_eq_some_iff.1 hb
  exact List.pairwise_iff_getElem.1 hs i j hi hj hij
 have key := iter_post (step := fun (s : Int × Int) => slices_BinarySearchFunc_table_finder_api_Trace_Sint.s2 F w (fun u0 u1 => table_finder_answer_1 u0 u1) s.1 s.2)
  (fun s => ∃ i j : Nat, s.1 = (i : Int) ∧ s.2 = (j : Int) ∧ i ≤ j ∧ j ≤ F.length ∧ (∀ k t, k < i → F[k]? = some t → lexI t.In w = -1) ∧ ∀ k t, j ≤ k → F[k]? = some t → lexI t.In w ≠ -1) (fun s => (s.2 - s.1).toNat)
  (fun r => ∃ k : Nat, r = (k : Int) ∧ k ≤ F.length ∧ (∀ j t, j < k → F[j]? = some t → lexI t.In w = -1) ∧ ∀ t, F[k]? = some t → lexI t.In w ≠ -1) (fun s ⟨i, j, g1, g2, g3, g4, g5, g6⟩ => by
   obtain ⟨si, sj⟩ := s
   simp only at g1 g2
   subst g1 g2
   simp only [slices_BinarySearchFunc_table_finder_api_Trace_Sint.s2]
   by_cases g7 : i < j
   ·left
    have hmid : ((↑i : Int) + ↑j) / 2 ^ 1 = ((i + j) / 2 : Nat) := by omega
    have hx := get_at (l := F) (i := (i + j) / 2) (by omega)
    rw [decide_eq_true (by omega), cond_true, chk_pos (by unfold inR; omega), chk_pos (by omega), chk_pos (by omega), chk_pos (by unfold inR; omega), idx_at hmid hx, hc _ (List.getElem_mem _), obind]
    have r := lexI_range (F[(i + j) / 2]'(by omega)).In w
    by_cases g8 : lexI (F[(i + j) / 2]'(by omega)).In w < 0
    ·refine ⟨(((i + j) / 2 + 1 : Nat), (j : Int)), ?_, ⟨(i + j) / 2 + 1, j, rfl, rfl, by omega, g4, fun k t hk ht => ?_, g6⟩, by simp only; omega⟩
     ·rw [decide_eq_true g8, cond_true, chk_pos (by unfold inR; omega), hmid]
      simp
     ·rcases Nat.lt_or_ge k ((i + j) / 2) with h | h
      ·exact lexI_trans _ _ _ (hlt h ht hx) (by omega)
      ·have e : k = (i + j) / 2 := by omega
       subst e
       rw [hx] at ht
       injection ht with ht
       subst ht
       omega
    ·refine ⟨((i : Int), (((i + j) / 2 : Nat) : Int)), ?_, ⟨i, (i + j) / 2, rfl, rfl, by omega, by omega, g5, fun k t hk ht => ?_⟩, by simp only; omega⟩
     ·rw [decide_eq_false g8, cond_false, hmid]
     ·intro h9
      rcases Nat.lt_or_ge ((i + j) / 2) k with h | h
      ·have := lexI_trans _ _ _ (hlt h hx ht) h9
       omega
      ·have e : k = (i + j) / 2 := by omega
       subst e
       rw [hx] at ht
       injection ht with ht
       subst ht
       omega
   ·right
    have e : i = j := by omega
    subst e
    refine ⟨(i : Int), by rw [decide_eq_false (by omega), cond_false], i, rfl, g4, g5, fun t ht => g6 i t (Nat.le_refl _) ht⟩) fuel (0, (↑(List.length F) : Int)) ⟨0, F.length, rfl, rfl, Nat.zero_le _, Nat.le_refl _, fun k t h => by omega, fun k t h ht => by
    have := (List.getElem?_eq_some_iff.1 ht).1
    omega⟩ (by have := fuel_big; simp only; omega)
 obtain ⟨r, e, k, hk, h1, h2, h3⟩ := key
 subst hk
 unfold slices_BinarySearchFunc_table_finder_api_Trace_Sint
 rw [e, obind]
 by_cases h4 : k < F.length
 ·have hx := get_at h4
  rw [decide_eq_true (by omega), cond_true, idx_at rfl hx, show (fun (u0 : T_api_Trace) (u1 : List Int) => table_finder_answer_1 u0 u1) F[k] w = some (lexI F[k].In w) from hc _ (List.getElem_mem _), obind, obind]
  exact ⟨k, _, rfl, h1, h2, h3⟩
 ·rw [decide_eq_false (by omega), cond_false, obind]
  exact ⟨k, _, rfl, h1, h2, h3⟩
theorem finder_answer_eq {o : T_api_Obs} {F : List T_api_Trace} {w : List Int} (ho : SmO o) (hv : ObsOk o) (hF : FindOk o F) : table_finder_answer F w = some (tw (ansO o w)) := by
 obtain ⟨hp, hs⟩ := hF
 have hFl : F.length ≤ 1100000 := by rw [hp.length_eq]; exact ho.1
 have hFm : ∀ t ∈ F, t ∈ o.Traces := fun t ht => hp.mem_iff.1 ht
 obtain ⟨k, b, e, h1, h2, h3⟩ := search_eq (w := w) hs (by omega) fun t ht => smo_in ho (hFm t ht)
 unfold table_finder_answer ansO
 by_cases h0 : w = []
 ·subst h0
  rfl
 ·have hwl : w.length ≠ 0 := fun h => h0 (List.eq_nil_of_length_eq_zero h)
  rw [if_neg h0, decide_eq_false (by omega), cond_false, e, obind]
  simp only
  -- whatever trace begins with the word, the first one that is not before it does
  have hfirst : ∀ t ∈ o.Traces, w <+: t.In → ∃ u, F[k]? = some u ∧ w <+: u.In := fun t ht hpre => by
   have htF : t ∈ F := hp.mem_iff.2 ht
   obtain ⟨j, hj, rfl⟩ := List.mem_iff_getElem.1 htF
   have hge : lexI F[j].In w ≠ -1 := by
    by_cases hew : w = F[j].In
    ·rw [← hew, lexI_refl]; decide
    ·have := prefix_lex w F[j].In hpre hew
     have := lexI_swap w F[j].In
     omega
   have hkj : k ≤ j := by
    rcases Nat.lt_or_ge j k with h | h
    ·exact absurd (h2 j _ h (get_at hj)) hge
    ·exact h
   have hx := get_at (l := F) (i := k) (by omega)
   refine ⟨_, hx, ?_⟩
   have hk1 := h3 _ hx
   rcases Nat.lt_or_ge k j with h | h
   ·have hlt : lexI (F[k]'(by omega)).In F[j].In = -1 := List.pairwise_iff_getElem.1 hs k j (by omega) hj h
    have r := lexI_range (F[k]'(by omega)).In w
    have s := lexI_swap (F[k]'(by omega)).In w
    by_cases hz : lexI (F[k]'(by omega)).In w = 0
    ·rw [(lexI_zero _ _).1 hz]
     exact List.prefix_refl _
    ·exact lex_between w _ _ (by omega) (Or.inr hlt) hpre
   ·have ej : j = k := by omega
    subst ej
    exact hpre
  cases hfd : o.Traces.find? fun t => decide (w <+: t.In) with
  | none =>
   have hno : ∀ t ∈ o.Traces, ¬ w <+: t.In := fun t ht => by simpa using List.find?_eq_none.1 hfd t ht
   by_cases h4 : k = F.length
   ·rw [decide_eq_true (by omega), cond_true, obind, cond_true]
    rfl
   ·have hx := get_at (l := F) (i := k) (by omega)
    have hxm := hFm _ (List.getElem_mem (show k < F.length by omega))
    rw [decide_eq_false (by omega), cond_false, idx_at rfl hx, word_HasPrefix_eq _ _ (smo_in ho hxm), obind, decide_eq_false (hno _ hxm)]
    rfl
  | some t =>
   have htm := List.mem_of_find?_eq_some hfd
   have hpre : w <+: t.In := by simpa using List.find?_some hfd
   obtain ⟨u, hu, hpu⟩ := hfirst t htm hpre
   have hum := hFm u (List.mem_of_getElem? hu)
   have hku := (List.getElem?_eq_some_iff.1 hu).1
   have lt := (hv.prop t htm).1.2.1
   have lu := (hv.prop u hum).1.2.1
   have p1 := pre_len hpre
   have p2 := pre_len hpu
   -- both answer alike
   have hsame : u.Out.take w.length = t.Out.take w.length := by
    by_cases hut : u = t
    ·rw [hut]
    ·have hag : ∀ a ∈ o.Traces, ∀ b ∈ o.Traces, a ≠ b → w <+: a.In → w <+: b.In → a.Out.take w.length = b.Out.take w.length := by
      intro a ha b hb hab hwa hwb
      have hcm : w.length ≤ common a.In b.In := by
       obtain ⟨x, hx⟩ := hwa
       obtain ⟨y, hy⟩ := hwb
       rw [← hx, ← hy]
       have : ∀ (w x y : List Int), w.length ≤ common (w ++ x) (w ++ y) := by
        intro w
        induction w with
        | nil => intro x y; exact Nat.zero_le _
        | cons z w ih =>
         intro x y
         have := ih x y
         simp only [List.cons_append, common, if_true, List.length_cons]
         omega
       exact this w x y
      have hred : ∀ (a b : T_api_Trace), Agree a b → w.length ≤ common a.In b.In → a.Out.take w.length = b.Out.take w.length := fun a b hA hle => by
       have h5 := congrArg (List.take w.length) hA
       rw [List.take_take, List.take_take, Nat.min_eq_left hle] at h5
       exact h5
      obtain ⟨i, hi, rfl⟩ := List.mem_iff_getElem.1 ha
      obtain ⟨j, hj, rfl⟩ := List.mem_iff_getElem.1 hb
      rcases Nat.lt_trichotomy i j with hlt | heq | hgt
      ·exact hred _ _ (hv.apart i j _ _ hlt (get_at hi) (get_at hj)).2 hcm
      ·subst heq; rfl
      ·have hcs : w.length ≤ common o.Traces[j].In o.Traces[i].In := by
        have : ∀ a b : List Int, common a b = common b a := by
         intro a
         induction a with
         | nil => intro b; cases b <;> rfl
         | cons x a ih =>
          intro b
          cases b with
          | nil => rfl
          | cons y b =>
           simp only [common]
           by_cases h : x = y
           ·subst h; simp [ih b]
           ·have h' : ¬ y = x := fun e => h e.symm
            simp [h, h']
        rw [this]
        exact hcm
       exact (hred _ _ (hv.apart j i _ _ hgt (get_at hj) (get_at hi)).2 hcs).symm
     exact hag u hum t htm hut hpu hpre
   have hc : (cond (decide ((↑k : Int) = (↑(List.length F) : Int))) (some true) (idx F (↑k : Int) fun e62 => (word_HasPrefix e62.In w).bind fun c63 => cond ((!c63)) (some true) (idx F (↑k : Int) fun e65 => some (decide ((↑(List.length e65.Out) : Int) < (↑(List.length w) : Int))))) : Option Bool) = some false := by
    rw [decide_eq_false (by omega), cond_false, idx_at rfl hu, word_HasPrefix_eq _ _ (smo_in ho hum), obind, decide_eq_true hpu, Bool.not_true, cond_false, idx_at rfl hu, decide_eq_false (by omega)]
   rw [hc, obind, cond_false, idx_at rfl hu, chk_pos (by omega), hsame]
   rfl
end Go.Proofs.YtpmebphhbgpapaaGreatDoor.Sym

/-
 Rows, missing queries and maximal words: the program's are the document's. Plain laws.
-/
namespace Go.Proofs.YtpmebphhbgpapaaGreatDoor.Sym
set_option maxRecDepth 100000
theorem ansO_len {o : T_api_Obs} (hv : ObsOk o) {w r : List Int} (h : ansO o w = some r) : r.length = w.length := by
 unfold ansO at h
 split at h
 ·rename_i h0
  injection h with h
  rw [← h, h0]
 ·obtain ⟨t, ht, rfl⟩ := Option.map_eq_some_iff.1 h
  have hm := List.mem_of_find?_eq_some ht
  have hp : w <+: t.In := by simpa using List.find?_some ht
  have := (hv.prop t hm).1.2.1
  have := pre_len hp
  rw [List.length_take]
  omega
def rowO (o : T_api_Obs) (w : List Int) : List (List Int) → Option (List (List Int))
 | [] => some []
 | e :: S => match ansO o (w ++ e) with
  | none => none
  | some r => (rowO o w S).map fun l => r.drop w.length :: l
theorem rowO_drop {o : T_api_Obs} {w : List Int} {S : List (List Int)} {k : Nat} {e : List Int} (h : S[k]? = some e) : rowO o w (S.drop k) = match ansO o (w ++ e) with | none => none | some r => (rowO o w (S.drop (k + 1))).map fun l => r.drop w.length :: l := by
 obtain ⟨hk, rfl⟩ := List.getElem?_eq_some_iff.1 h
 rw [List.drop_eq_getElem_cons hk]
 rfl
theorem finder_row_eq {o : T_api_Obs} {F : List T_api_Trace} {t : T_api_Table} {w : List Int} (ho : SmO o) (hv : ObsOk o) (hF : FindOk o F) (hS : SmL t.Suffixes) (hw : SmW w) : table_finder_row F t w = some (tw (rowO o w t.Suffixes)) := by
 have hS1 : t.Suffixes.length ≤ 2000000 := hS.1
 have hw1 : w.length ≤ 2000000 := hw
 unfold table_finder_row
 have key := iter_post (step := fun (s : List (List Int) × Nat) => table_finder_row.s2 F t w s.1 s.2) (fun s => s.2 ≤ t.Suffixes.length ∧ s.1.length = s.2 ∧ rowO o w t.Suffixes = (rowO o w (t.Suffixes.drop s.2)).map (s.1 ++ ·)) (fun s => t.Suffixes.length - s.2)
  (fun r => Sum.elim (fun (y84 : List (List Int)) => some (y84, true)) some r = some (tw (rowO o w t.Suffixes))) (fun s ⟨g1, g2, g3⟩ => by
   obtain ⟨y, k⟩ := s
   simp only at g1 g2 g3
   simp only [table_finder_row.s2]
   by_cases g4 : k < t.Suffixes.length
   ·have hx := get_at g4
    have hxs : SmW t.Suffixes[k] := hS.2 _ (List.getElem_mem _)
    have hx1 : t.Suffixes[k].length ≤ 2000000 := hxs
    rw [dec_lt hx, cond_true, idxn_at hx, word_Join_eq _ (by simp) (by simp; omega), obind]
    simp only [List.flatten_cons, List.flatten_nil, List.append_nil]
    rw [finder_answer_eq ho hv hF, obind]
    rw [rowO_drop hx] at g3
    cases ha : ansO o (w ++ t.Suffixes[k]) with
    | none =>
     right
     rw [ha] at g3
     refine ⟨.inr ([], false), rfl, ?_⟩
     rw [g3]
     rfl
    | some r =>
     left
     rw [ha] at g3
     have hrl := ansO_len hv ha
     rw [List.length_append] at hrl
     have hd : SmW (r.drop w.length) := by unfold SmW; rw [List.length_drop]; omega
     refine ⟨(y ++ [r.drop w.length], k + 1), ?_, ⟨g4, by simp [g2], ?_⟩, by simp only; omega⟩
     ·simp only [tw, Bool.not_true, cond_false]
      rw [chk_pos (by omega), libclone_word hd, obind, chk_pos (by unfold capOk; omega)]
     ·rw [g3, Option.map_map]
      simp only
      congr 1
      funext l
      simp
   ·right
    have e : k = t.Suffixes.length := by omega
    subst e
    refine ⟨.inl y, by rw [decide_eq_false (by omega), cond_false], ?_⟩
    rw [g3, List.drop_length]
    simp [rowO, tw]) fuel ([], 0) ⟨Nat.zero_le _, rfl, by simp⟩ (by have := fuel_big; simp only; omega)
 obtain ⟨r, e, hq⟩ := key
 rw [chk_pos (by unfold capOk; omega), e]
 exact hq
theorem R23_After_eq {o : T_api_Obs} {w e : List Int} (ho : SmO o) (hv : ObsOk o) (hw : SmW w) (he : SmW e) : R23_After o w e = some (match ansO o (w ++ e) with | none => ([], false) | some r => (r.drop w.length, true)) := by
 unfold R23_After
 rw [R23_Joined_eq hw he, obind, R16_Answer_eq ho hv, obind]
 cases ha : ansO o (w ++ e) with
 | none => rfl
 | some r =>
  have hrl := ansO_len hv ha
  rw [List.length_append] at hrl
  simp only [tw, Bool.not_true, cond_false]
  rw [chk_pos (by omega)]
theorem R23_row_eq {o : T_api_Obs} {S : List (List Int)} {w : List Int} (ho : SmO o) (hv : ObsOk o) (hS : SmL S) (hw : SmW w) : R23_row o S w = some (tw (rowO o w S)) := by
 have hS1 : S.length ≤ 2000000 := hS.1
 unfold R23_row
 have key := iter_post (step := fun (s : List (List Int) × Nat) => R23_row.s2 o S w s.1 s.2) (fun s => s.2 ≤ S.length ∧ s.1.length = s.2 ∧ rowO o w S = (rowO o w (S.drop s.2)).map (s.1 ++ ·)) (fun s => S.length - s.2)
  (fun r => Sum.elim (fun (y72 : List (List Int)) => some (y72, true)) some r = some (tw (rowO o w S))) (fun s ⟨g1, g2, g3⟩ => by
   obtain ⟨y, k⟩ := s
   simp only at g1 g2 g3
   simp only [R23_row.s2]
   by_cases g4 : k < S.length
   ·have hx := get_at g4
    have hxs : SmW S[k] := hS.2 _ (List.getElem_mem _)
    rw [dec_lt hx, cond_true, idxn_at hx, R23_After_eq ho hv hw hxs, obind]
    rw [rowO_drop hx] at g3
    cases ha : ansO o (w ++ S[k]) with
    | none =>
     right
     rw [ha] at g3
     refine ⟨.inr ([], false), rfl, ?_⟩
     rw [g3]
     rfl
    | some r =>
     left
     rw [ha] at g3
     refine ⟨(y ++ [r.drop w.length], k + 1), ?_, ⟨g4, by simp [g2], ?_⟩, by simp only; omega⟩
     ·simp only [Bool.not_true, cond_false]
      rw [chk_pos (by unfold capOk; omega)]
     ·rw [g3, Option.map_map]
      simp only
      congr 1
      funext l
      simp
   ·right
    have e : k = S.length := by omega
    subst e
    refine ⟨.inl y, by rw [decide_eq_false (by omega), cond_false], ?_⟩
    rw [g3, List.drop_length]
    simp [rowO, tw]) fuel ([], 0) ⟨Nat.zero_le _, rfl, by simp⟩ (by have := fuel_big; simp only; omega)
 obtain ⟨r, e, hq⟩ := key
 rw [e]
 exact hq
def chkT (t : T_api_Table) (o : T_api_Obs) : Int := if validT t ≠ 0 then validT t else if t.Inputs ≠ o.Inputs then 15 else 0
theorem table_check_eq {t : T_api_Table} {o : T_api_Obs} (ht : SmT t) : table_check t o = some (chkT t o) := by
 unfold table_check chkT
 rw [table_Valid_eq t ht, obind]
 by_cases h : validT t = 0
 ·rw [decide_eq_false (by simpa using h), cond_false, if_neg (by simpa using h)]
  by_cases h2 : t.Inputs = o.Inputs <;> simp [h2]
 ·rw [decide_eq_true h, cond_true, if_pos h]
theorem R23_Check_eq {t : T_api_Table} {o : T_api_Obs} (ht : SmT t) : R23_Check t o = some (chkT t o) := by
 unfold R23_Check chkT
 rw [R23_Valid_eq t ht, obind]
 by_cases h : validT t = 0
 ·rw [decide_eq_false (by simpa using h), cond_false, if_neg (by simpa using h)]
  by_cases h2 : t.Inputs = o.Inputs <;> simp [h2]
 ·rw [decide_eq_true h, cond_true, if_pos h]
theorem sortW_ext {l m : List (List Int)} (h : ∀ x, x ∈ l ↔ x ∈ m) : sortW l = sortW m := asc_ext (sortW_asc l) (sortW_asc m) fun x => by rw [mem_sortW, mem_sortW, h]
theorem maxR_ext {l m : List (List Int)} (h : ∀ x, x ∈ l ↔ x ∈ m) : maxR l = maxR m := by unfold maxR; rw [sortW_ext h]
theorem R02_Maximal_eq {l : List (List Int)} (hl : SmL l) : R02_Maximal l = some (maxR l) := by
 have hA := sortW_asc l
 have hs := sml_sort hl
 have hs1 : (sortW l).length ≤ 2000000 := hs.1
 unfold R02_Maximal maxR
 rw [R02_Sorted_eq hl, obind]
 have inner : ∀ (i : Nat) (x : List Int), (sortW l)[i]? = some x → iter (fun (s : Bool × Nat) => R02_Maximal.s13 (sortW l) i s.1 s.2) fuel (true, i + 1) = some (topB (sortW l) x) := by
  intro i x hx
  have hi := (List.getElem?_eq_some_iff.1 hx).1
  refine iter_eq (fun s => i + 1 ≤ s.2 ∧ s.2 ≤ (sortW l).length ∧ s.1 = tailB x (((sortW l).take s.2).drop (i + 1))) (fun s => (sortW l).length - s.2) (fun s ⟨g1, g2, g3⟩ => ?_) ⟨Nat.le_refl _, by simp only; omega, by simp [tailB]⟩ (by have := fuel_big; simp only; omega)
  obtain ⟨b, k⟩ := s
  simp only at g1 g2 g3
  simp only [R02_Maximal.s13]
  by_cases g4 : k < (sortW l).length
  ·left
   have hy := get_at g4
   have hst := tailB_step (x := x) g1 hy
   rw [← g3] at hst
   refine ⟨(tailB x (((sortW l).take (k + 1)).drop (i + 1)), k + 1), ?_, ⟨by simp only; omega, by simp only; omega, rfl⟩, by simp only; omega⟩
   rw [dec_lt hy, cond_true, hst]
   cases b with
   | false => rfl
   | true =>
    rw [cond_true, idxn_at hy, idxn_at hx, Bool.true_and]
    by_cases g5 : (sortW l)[k].length = x.length
    ·rw [decide_eq_true (by omega), cond_true, decide_eq_true (Or.inl g5)]
    ·rw [decide_eq_false (by omega), cond_false, idxn_at hy, idxn_at hx, R01_HasPrefix_eq _ _ (hs.2 _ (List.getElem_mem _)), obind]
     by_cases g6 : x <+: (sortW l)[k]
     ·rw [decide_eq_true g6, decide_eq_false (fun h => h.elim g5 fun h => h g6)]; rfl
     ·rw [decide_eq_false g6, decide_eq_true (Or.inr g6)]; rfl
  ·right
   have e : k = (sortW l).length := by omega
   subst e
   rw [decide_eq_false (by omega), cond_false, g3, List.take_length, top_eq hA hx]
 have key := iter_eq (step := fun (s : List (List Int) × Nat) => R02_Maximal.s14 (sortW l) s.1 s.2) (r := (sortW l).filter (topB (sortW l))) (fun s => s.2 ≤ (sortW l).length ∧ s.1 = ((sortW l).take s.2).filter (topB (sortW l))) (fun s => (sortW l).length - s.2) (fun s ⟨g1, g2⟩ => by
  obtain ⟨y, i⟩ := s
  simp only at g1 g2
  subst g2
  simp only [R02_Maximal.s14]
  by_cases g4 : i < (sortW l).length
  ·left
   have hx := get_at g4
   have hst := filter_step (p := topB (sortW l)) hx
   have hfl := List.length_filter_le (topB (sortW l)) ((sortW l).take i)
   rw [List.length_take] at hfl
   refine ⟨(((sortW l).take (i + 1)).filter (topB (sortW l)), i + 1), ?_, ⟨by simp only; omega, rfl⟩, by simp only; omega⟩
   rw [dec_lt hx, cond_true, inner i _ hx, obind, hst]
   cases topB (sortW l) (sortW l)[i] with
   | true =>
    rw [cond_true, idxn_at hx, chk_pos (by unfold capOk; omega)]
    rfl
   | false => simp
  ·right
   have e : i = (sortW l).length := by omega
   subst e
   rw [decide_eq_false (by omega), cond_false, List.take_length]) (n := fuel) (s := ([], 0)) ⟨Nat.zero_le _, by simp⟩ (by have := fuel_big; simp only; omega)
 rw [key, obind]
end Go.Proofs.YtpmebphhbgpapaaGreatDoor.Sym

/-
 The missing queries of a table: the program's are the document's. Plain laws, and the law of TableNeeds.
-/
namespace Go.Proofs.YtpmebphhbgpapaaGreatDoor.Sym
set_option maxRecDepth 100000
def missO (o : T_api_Obs) (w : List Int) (S : List (List Int)) : List (List Int) := (S.map fun e => w ++ e).filter fun v => (ansO o v).isNone
theorem missO_step {o : T_api_Obs} {w e : List Int} {S : List (List Int)} {k : Nat} (h : S[k]? = some e) : missO o w (S.take (k + 1)) = missO o w (S.take k) ++ (if (ansO o (w ++ e)).isNone = true then [w ++ e] else []) := by
 unfold missO
 rw [take_step h, List.map_append, List.filter_append]
 simp only [List.map_cons, List.map_nil, List.filter_cons, List.filter_nil]
theorem missO_len (o : T_api_Obs) (w : List Int) (S : List (List Int)) : (missO o w S).length ≤ S.length := by
 unfold missO
 have := List.length_filter_le (fun v => (ansO o v).isNone) (S.map fun e => w ++ e)
 rw [List.length_map] at this
 exact this
theorem mem_missO {o : T_api_Obs} {w v : List Int} {S : List (List Int)} : v ∈ missO o w S ↔ (∃ e ∈ S, v = w ++ e) ∧ ansO o v = none := by
 unfold missO
 rw [List.mem_filter, List.mem_map, Option.isNone_iff_eq_none]
 constructor
 ·rintro ⟨⟨e, he, rfl⟩, h⟩; exact ⟨⟨e, he, rfl⟩, h⟩
 ·rintro ⟨⟨e, he, rfl⟩, h⟩; exact ⟨⟨e, he, rfl⟩, h⟩
theorem table_extended_eq {w : List Int} {a : Int} (hw : SmW w) : table_extended w a = some (w ++ [a]) := by
 have hw1 : w.length ≤ 2000000 := hw
 unfold table_extended
 rw [word_Join_eq _ (by simp) (by simp; omega), obind]
 simp
structure TabOk (t : T_api_Table) : Prop where
 sm : SmT t
 n : t.Inputs ≤ 4
 p : t.Prefixes.length ≤ 30
 s : t.Suffixes.length ≤ 12
 pw : ∀ x ∈ t.Prefixes, x.length ≤ 30
 sw : ∀ x ∈ t.Suffixes, x.length ≤ 30
def withX (n : Nat) (p : List Int) : List (List Int) := p :: (List.range n).map fun (a : Nat) => p ++ [(↑a : Int)]
def needL (o : T_api_Obs) (t : T_api_Table) (P : List (List Int)) : List (List Int) := P.flatMap fun p => (withX t.Inputs.toNat p).flatMap fun w => missO o w t.Suffixes
def extL (t : T_api_Table) : List (List Int) := t.Prefixes.flatMap fun p => (List.range t.Inputs.toNat).map fun (a : Nat) => p ++ [(↑a : Int)]
theorem R23_Extensions_eq {t : T_api_Table} (ht : TabOk t) : R23_Extensions t = some (sortW (extL t)) ∧ SmL (extL t) := by
 have hn := ht.n
 have hp := ht.p
 have hlen : ∀ P : List (List Int), (P.flatMap fun p => (List.range t.Inputs.toNat).map fun (a : Nat) => p ++ [(↑a : Int)]).length ≤ 4 * P.length := by
  intro P
  induction P with
  | nil => simp
  | cons p P ih =>
   rw [List.flatMap_cons, List.length_append, List.length_cons, List.length_map, List.length_range]
   omega
 have hE : SmL (extL t) := by
  refine ⟨by have := hlen t.Prefixes; unfold extL; omega, fun v hv => ?_⟩
  obtain ⟨p, hpm, h2⟩ := List.mem_flatMap.1 hv
  obtain ⟨a, _, rfl⟩ := List.mem_map.1 h2
  have := ht.pw p hpm
  unfold SmW
  simp
  omega
 refine ⟨?_, hE⟩
 unfold R23_Extensions
 have key := iter_eq (step := fun (s : List (List Int) × Nat) => R23_Extensions.s14 t s.1 s.2) (r := extL t) (fun s => s.2 ≤ t.Prefixes.length ∧ s.1 = (t.Prefixes.take s.2).flatMap fun p => (List.range t.Inputs.toNat).map fun (a : Nat) => p ++ [(↑a : Int)]) (fun s => t.Prefixes.length - s.2) (fun s ⟨g1, g2⟩ => by
  obtain ⟨z, k⟩ := s
  simp only at g1 g2
  subst g2
  simp only [R23_Extensions.s14]
  by_cases g4 : k < t.Prefixes.length
  ·left
   have hx := get_at g4
   have hxm : SmW t.Prefixes[k] := ht.sm.2.1.2 _ (List.getElem_mem _)
   have hl := hlen (t.Prefixes.take k)
   rw [List.length_take] at hl
   generalize hz : ((t.Prefixes.take k).flatMap fun p => (List.range t.Inputs.toNat).map fun (a : Nat) => p ++ [(↑a : Int)]) = z at hl
   have inner := iter_eq (step := fun (s : List (List Int) × Nat) => R23_Extensions.s13 t k s.1 s.2) (r := z ++ (List.range t.Inputs.toNat).map fun (a : Nat) => t.Prefixes[k] ++ [(↑a : Int)]) (fun s => s.2 ≤ t.Inputs.toNat ∧ s.1 = z ++ (List.range s.2).map fun (a : Nat) => t.Prefixes[k] ++ [(↑a : Int)]) (fun s => t.Inputs.toNat - s.2) (fun s ⟨q1, q2⟩ => by
    obtain ⟨u, j⟩ := s
    simp only at q1 q2
    subst q2
    simp only [R23_Extensions.s13]
    by_cases q4 : j < t.Inputs.toNat
    ·left
     refine ⟨(z ++ (List.range (j + 1)).map fun (a : Nat) => t.Prefixes[k] ++ [(↑a : Int)], j + 1), ?_, ⟨q4, rfl⟩, by simp only; omega⟩
     rw [decide_eq_true (by omega), cond_true, idxn_at hx, R23_Joined_eq hxm (by simp [SmW]), obind, chk_pos (by rw [List.length_append, List.length_map, List.length_range]; unfold capOk; omega), chk_pos (by unfold inR; omega), List.range_succ, List.map_append]
     simp
    ·right
     have e : j = t.Inputs.toNat := by omega
     subst e
     rw [decide_eq_false (by omega), cond_false]) (n := fuel) (s := (z, 0)) ⟨Nat.zero_le _, by simp⟩ (by have := fuel_big; simp only; omega)
   refine ⟨(z ++ (List.range t.Inputs.toNat).map fun (a : Nat) => t.Prefixes[k] ++ [(↑a : Int)], k + 1), ?_, ⟨g4, ?_⟩, by simp only; omega⟩
   ·rw [dec_lt hx, cond_true, inner, obind]
   ·simp only
    rw [take_step hx, List.flatMap_append, hz]
    simp
  ·right
   have e : k = t.Prefixes.length := by omega
   subst e
   rw [decide_eq_false (by omega), cond_false, List.take_length]
   rfl) (n := fuel) (s := ([], 0)) ⟨Nat.zero_le _, by simp⟩ (by have := fuel_big; simp only; omega)
 rw [key, obind, R02_Sorted_eq hE, obind]
theorem R23_Needed_eq {t : T_api_Table} {o : T_api_Obs} (ht : TabOk t) (ho : SmO o) (hv : ObsOk o) : R23_Needed t o = some (if chkT t o ≠ 0 then ([], chkT t o) else (maxR (needL o t t.Prefixes), 0)) := by
 have hn := ht.n
 have hp := ht.p
 have hs := ht.s
 have hS := ht.sm.2.2.1
 obtain ⟨hE1, hE2⟩ := R23_Extensions_eq ht
 unfold R23_Needed
 rw [R23_Check_eq ht.sm, obind]
 by_cases h : chkT t o = 0
 ·rw [decide_eq_false (by simpa using h), cond_false, if_neg (by simpa using h), hE1, obind]
  have hEs := sml_sort hE2
  have hEl : (sortW (extL t)).length ≤ 120 := by
   have h1 := sortW_length (extL t)
   have : (extL t).length ≤ 4 * t.Prefixes.length := by
    unfold extL
    generalize t.Prefixes = P
    induction P with
    | nil => simp
    | cons p P ih =>
     rw [List.flatMap_cons, List.length_append, List.length_cons, List.length_map, List.length_range]
     omega
   omega
  rw [R02_Union_eq (by simp) (by rw [two_flat]; exact sml_append (by omega) ht.sm.2.1 hEs), two_flat, obind]
  have hWm : ∀ x, x ∈ sortW (t.Prefixes ++ sortW (extL t)) ↔ ∃ p ∈ t.Prefixes, x ∈ withX t.Inputs.toNat p := fun x => by
   rw [mem_sortW, List.mem_append, mem_sortW]
   unfold extL withX
   constructor
   ·rintro (h | h)
    ·exact ⟨x, h, by simp⟩
    ·obtain ⟨p, hp, h2⟩ := List.mem_flatMap.1 h
     exact ⟨p, hp, List.mem_cons_of_mem _ h2⟩
   ·rintro ⟨p, hp, h⟩
    rcases List.mem_cons.1 h with rfl | h
    ·exact Or.inl hp
    ·exact Or.inr (List.mem_flatMap.2 ⟨p, hp, h⟩)
  have hWl : (sortW (t.Prefixes ++ sortW (extL t))).length ≤ 150 := by
   have := sortW_length (t.Prefixes ++ sortW (extL t))
   rw [List.length_append] at this
   omega
  have hWw : ∀ x ∈ sortW (t.Prefixes ++ sortW (extL t)), x.length ≤ 31 := fun x hx => by
   obtain ⟨p, hpm, h2⟩ := (hWm x).1 hx
   have := ht.pw p hpm
   unfold withX at h2
   rcases List.mem_cons.1 h2 with rfl | h2
   ·omega
   ·obtain ⟨a, _, rfl⟩ := List.mem_map.1 h2
    simp
    omega
  generalize sortW (t.Prefixes ++ sortW (extL t)) = U at hWm hWl hWw
  have hb : ∀ k, ((U.take k).flatMap fun w => missO o w t.Suffixes).length ≤ 12 * k := by
   intro k
   induction k with
   | zero => simp
   | succ k ih =>
    by_cases hk : k < U.length
    ·have hx := get_at hk
     have := missO_len o U[k] t.Suffixes
     rw [take_step hx, List.flatMap_append, List.length_append]
     simp only [List.flatMap_cons, List.flatMap_nil, List.append_nil]
     omega
    ·rw [List.take_of_length_le (by omega)]
     rw [List.take_of_length_le (by omega)] at ih
     omega
  have key := iter_eq (step := fun (s : List (List Int) × Nat) => R23_Needed.s14 t o U s.1 s.2) (r := U.flatMap fun w => missO o w t.Suffixes) (fun s => s.2 ≤ U.length ∧ s.1 = (U.take s.2).flatMap fun w => missO o w t.Suffixes) (fun s => U.length - s.2) (fun s ⟨g1, g2⟩ => by
   obtain ⟨z, i⟩ := s
   simp only at g1 g2
   subst g2
   simp only [R23_Needed.s14]
   by_cases g4 : i < U.length
   ·left
    have hx := get_at g4
    have hxl := hWw _ (List.getElem_mem g4)
    have hl := hb i
    generalize hz : ((U.take i).flatMap fun w => missO o w t.Suffixes) = z at hl
    have inner := iter_eq (step := fun (s : List (List Int) × Nat) => R23_Needed.s13 t o U i s.1 s.2) (r := z ++ missO o U[i] t.Suffixes) (fun s => s.2 ≤ t.Suffixes.length ∧ s.1 = z ++ missO o U[i] (t.Suffixes.take s.2)) (fun s => t.Suffixes.length - s.2) (fun s ⟨q1, q2⟩ => by
     obtain ⟨u, k⟩ := s
     simp only at q1 q2
     subst q2
     simp only [R23_Needed.s13]
     by_cases q4 : k < t.Suffixes.length
     ·left
      have hy := get_at q4
      have hys : SmW t.Suffixes[k] := hS.2 _ (List.getElem_mem _)
      have hst := missO_step (o := o) (w := U[i]) hy
      have hml := missO_len o U[i] (t.Suffixes.take k)
      rw [List.length_take] at hml
      refine ⟨(z ++ missO o U[i] (t.Suffixes.take (k + 1)), k + 1), ?_, ⟨q4, rfl⟩, by simp only; omega⟩
      rw [dec_lt hy, cond_true, idxn_at hx, idxn_at hy, R23_Joined_eq (by unfold SmW; omega) hys, obind, R16_Answer_eq ho hv, obind, hst]
      cases ha : ansO o (U[i] ++ t.Suffixes[k]) with
      | none =>
       simp only [tw, Bool.not_false, cond_true, Option.isNone_none, if_true]
       rw [chk_pos (by rw [List.length_append]; unfold capOk; omega), List.append_assoc]
      | some r => simp [tw]
     ·right
      have e : k = t.Suffixes.length := by omega
      subst e
      rw [decide_eq_false (by omega), cond_false, List.take_length]) (n := fuel) (s := (z, 0)) ⟨Nat.zero_le _, by simp [missO]⟩ (by have := fuel_big; simp only; omega)
    refine ⟨(z ++ missO o U[i] t.Suffixes, i + 1), ?_, ⟨g4, ?_⟩, by simp only; omega⟩
    ·rw [dec_lt hx, cond_true, inner, obind]
    ·simp only
     rw [take_step hx, List.flatMap_append, hz]
     simp
   ·right
    have e : i = U.length := by omega
    subst e
    rw [decide_eq_false (by omega), cond_false, List.take_length]) (n := fuel) (s := ([], 0)) ⟨Nat.zero_le _, by simp⟩ (by have := fuel_big; simp only; omega)
  have hUl := hb U.length
  rw [List.take_length] at hUl
  rw [key, obind, R02_Maximal_eq ⟨by omega, fun v hv' => by
   obtain ⟨w, hw, h3⟩ := List.mem_flatMap.1 hv'
   obtain ⟨⟨e, he, rfl⟩, _⟩ := mem_missO.1 h3
   have h5 := ht.sw e he
   have h6 := hWw w hw
   unfold SmW
   rw [List.length_append]
   omega⟩, obind]
  congr 2
  refine maxR_ext fun v => ?_
  unfold needL
  rw [List.mem_flatMap, List.mem_flatMap]
  constructor
  ·rintro ⟨w, hw, hm⟩
   obtain ⟨p, hp, h2⟩ := (hWm w).1 hw
   exact ⟨p, hp, List.mem_flatMap.2 ⟨w, h2, hm⟩⟩
  ·rintro ⟨p, hp, h2⟩
   obtain ⟨w, hw, hm⟩ := List.mem_flatMap.1 h2
   exact ⟨w, (hWm w).2 ⟨p, hp, hw⟩, hm⟩
 ·rw [decide_eq_true h, cond_true, if_pos h]
theorem tabOk_of {t : T_api_Table} {o : T_api_Obs} (ht : SmT t) (h : greatT t o = false) : TabOk t ∧ o.Traces.length ≤ 400 ∧ ∀ x ∈ o.Traces, x.In.length ≤ 90 := by
 unfold greatT at h
 simp only [Bool.or_eq_false_iff, decide_eq_false_iff_not, Bool.not_eq_false'] at h
 obtain ⟨⟨⟨⟨h1, h2, h3⟩, h4, h5⟩, h6⟩, h7⟩ := h
 exact ⟨⟨ht, by omega, by omega, by omega, fun x hx => of_decide_eq_true (List.all_eq_true.1 h3 x hx), fun x hx => of_decide_eq_true (List.all_eq_true.1 h5 x hx)⟩, by omega, fun x hx => of_decide_eq_true (List.all_eq_true.1 h7 x hx)⟩
theorem rowO_sml {o : T_api_Obs} (hv : ObsOk o) {w : List Int} : ∀ {S : List (List Int)} {l : List (List Int)}, rowO o w S = some l → l.length = S.length ∧ ∀ x ∈ l, ∃ e ∈ S, x.length = e.length
 | [], l, h => by
  injection h with h
  subst h
  exact ⟨rfl, fun x hx => by cases hx⟩
 | e :: S, l, h => by
  unfold rowO at h
  cases ha : ansO o (w ++ e) with
  | none => rw [ha] at h; cases h
  | some r =>
   rw [ha] at h
   obtain ⟨l', h1, rfl⟩ := Option.map_eq_some_iff.1 h
   obtain ⟨h2, h3⟩ := rowO_sml hv h1
   have hrl := ansO_len hv ha
   rw [List.length_append] at hrl
   refine ⟨by simp [h2], fun x hx => ?_⟩
   rcases List.mem_cons.1 hx with rfl | hx
   ·exact ⟨e, by simp, by rw [List.length_drop]; omega⟩
   ·obtain ⟨e', he', hl'⟩ := h3 x hx
    exact ⟨e', List.mem_cons_of_mem _ he', hl'⟩
end Go.Proofs.YtpmebphhbgpapaaGreatDoor.Sym

/-
 The law of TableNeeds, for arguments within the bound.
-/
namespace Go.Proofs.YtpmebphhbgpapaaGreatDoor.Sym
theorem trace_pos (t : T_api_Trace) : 1 ≤ sz_api_Trace t := by unfold sz_api_Trace; omega
theorem smo_of {o : T_api_Obs} (s : sz_api_Obs o ≤ 1048576) : SmO o := by
 unfold sz_api_Obs at s
 have s1 : szL sz_api_Trace o.Traces ≤ 1048576 := by omega
 refine ⟨?_, fun t ht => ?_⟩
 ·have := sum_len (f := sz_api_Trace) trace_pos o.Traces
  unfold szL at s1
  omega
 ·have h1 := sum_mem (f := sz_api_Trace) ht
  have h2 := sz_word (x := t.In)
  have h3 := sz_word (x := t.Out)
  have h4 : (o.Traces.map sz_api_Trace).sum + 1 ≤ 1048576 := s1
  have h5 : sz_api_Trace t = (szL sz1 t.In + (szL sz1 t.Out + 0)) + 1 := rfl
  omega
end Go.Proofs.YtpmebphhbgpapaaGreatDoor.Sym

/-
 The view of a complete table: rows with numbers. Plain laws.
-/
namespace Go.Proofs.YtpmebphhbgpapaaGreatDoor.Sym
set_option maxRecDepth 100000
section
variable {α : Type} [DecidableEq α]
def pos (r : α) : List α → Nat
 | [] => 0
 | x :: l => if x = r then 0 else pos r l + 1
theorem pos_get {r : α} : ∀ {l : List α}, r ∈ l → l[pos r l]? = some r
 | x :: l, h => by
  unfold pos
  by_cases e : x = r
  ·simp [e]
  ·rw [if_neg e]
   rcases List.mem_cons.1 h with h | h
   ·exact absurd h.symm e
   ·simpa using pos_get h
theorem pos_lt {r : α} {l : List α} (h : r ∈ l) : pos r l < l.length := (List.getElem?_eq_some_iff.1 (pos_get h)).1
theorem pos_append {r : α} : ∀ {l m : List α}, r ∈ l → pos r (l ++ m) = pos r l
 | x :: l, m, h => by
  rw [List.cons_append]
  unfold pos
  by_cases e : x = r
  ·simp [e]
  ·rw [if_neg e, if_neg e]
   rcases List.mem_cons.1 h with h | h
   ·exact absurd h.symm e
   ·rw [pos_append h]
theorem pos_new {r : α} : ∀ {l : List α}, r ∉ l → pos r (l ++ [r]) = l.length
 | [], _ => by simp [pos]
 | x :: l, h => by
  rw [List.cons_append]
  unfold pos
  have h1 : ¬ x = r := fun e => h (by simp [e])
  have h2 : r ∉ l := fun e => h (by simp [e])
  rw [if_neg h1, pos_new h2]
  rfl
theorem pos_inj {r s : α} {l : List α} (hr : r ∈ l) (hs : s ∈ l) (h : pos r l = pos s l) : r = s := by
 have h1 := pos_get hr
 rw [h, pos_get hs] at h1
 injection h1 with h1
 exact h1.symm
def addR (R : List α) (r : α) : List α := if r ∈ R then R else R ++ [r]
theorem mem_addR {R : List α} {r x : α} : x ∈ addR R r ↔ x ∈ R ∨ x = r := by
 unfold addR
 split
 ·constructor
  ·exact Or.inl
  ·rintro (h | rfl)
   ·exact h
   ·assumption
 ·simp
theorem pos_addR {R : List α} {r x : α} (h : x ∈ R) : pos x (addR R r) = pos x R := by
 unfold addR
 split
 ·rfl
 ·exact pos_append h
theorem addR_len (R : List α) (r : α) : (addR R r).length ≤ R.length + 1 := by
 unfold addR
 split
 ·omega
 ·simp
end
def rkeyL : List (List Int) → List UInt8
 | [] => []
 | o :: r => keyL o ++ 47 :: rkeyL r
theorem rkeyL_append (a b : List (List Int)) : rkeyL (a ++ b) = rkeyL a ++ rkeyL b := by
 induction a with
 | nil => rfl
 | cons o a ih => simp [rkeyL, ih]
theorem keyL_char : ∀ (w : List Int), ∀ c ∈ keyL w, c ≠ 47
 | [], c, h => by cases h
 | a :: w, c, h => by
  simp only [keyL] at h
  rcases List.mem_append.1 h with h | h
  ·intro e
   subst e
   unfold enc36 at h
   split at h
   ·rcases List.mem_cons.1 h with h | h
    ·cases h
    ·have := digs_char _ _ h
     revert this
     decide
   ·have := digs_char _ _ h
    revert this
    decide
  ·rcases List.mem_cons.1 h with h | h
   ·subst h; decide
   ·exact keyL_char w c h
theorem rkeyL_inj : ∀ {a b : List (List Int)}, rkeyL a = rkeyL b → a = b
 | [], [], _ => rfl
 | [], o :: b, h => by
  simp only [rkeyL] at h
  have := congrArg List.length h
  simp at this
 | o :: a, [], h => by
  simp only [rkeyL] at h
  have := congrArg List.length h
  simp at this
 | o :: a, u :: b, h => by
  simp only [rkeyL] at h
  obtain ⟨h1, h2⟩ := split_at (keyL_char o) (keyL_char u) h
  rw [keyL_inj h1, rkeyL_inj h2]
def rkey (r : List (List Int)) : ByteArray := ⟨(rkeyL r).toArray⟩
theorem rkey_inj {a b : List (List Int)} (h : rkey a = rkey b) : a = b := rkeyL_inj (by
 unfold rkey at h
 injection h with h
 injection h)
def RowSm (r : List (List Int)) : Prop := r.length ≤ 100 ∧ ∀ x ∈ r, x.length ≤ 1000 ∧ ∀ a ∈ x, inR a
theorem rkeyL_len {r : List (List Int)} (h : ∀ x ∈ r, x.length ≤ 1000 ∧ ∀ a ∈ x, inR a) : (rkeyL r).length ≤ 15001 * r.length := by
 induction r with
 | nil => simp [rkeyL]
 | cons o r ih =>
  have h1 := h o (by simp)
  have h2 := keyL_len (xs := o) h1.2
  have h3 := ih fun x hx => h x (by simp [hx])
  simp only [rkeyL, List.length_append, List.length_cons]
  omega
theorem bytes_append (a b : List UInt8) : ((⟨a.toArray⟩ : ByteArray) ++ ⟨b.toArray⟩) = ⟨(a ++ b).toArray⟩ := by
 apply ByteArray.ext
 simp
theorem bytes_size (a : List UInt8) : (⟨a.toArray⟩ : ByteArray).size = a.length := by simp [ByteArray.size]
theorem row_key_eq {r : List (List Int)} (h : RowSm r) : iter (fun (s : ByteArray × Nat) => table_view_add.s2 r s.1 s.2) fuel ((⟨#[]⟩ : ByteArray), 0) = some (rkey r) := by
 obtain ⟨hl, hr⟩ := h
 refine iter_eq (fun s => s.2 ≤ r.length ∧ s.1 = rkey (r.take s.2)) (fun s => r.length - s.2) (fun s ⟨g1, g2⟩ => ?_) ⟨Nat.zero_le _, rfl⟩ (by have := fuel_big; simp only; omega)
 obtain ⟨z, k⟩ := s
 simp only at g1 g2
 subst g2
 simp only [table_view_add.s2]
 by_cases g4 : k < r.length
 ·left
  have hx := get_at g4
  have hxr := hr _ (List.getElem_mem g4)
  have hkl := keyL_len (xs := r[k]) hxr.2
  have hrl := rkeyL_len (r := r.take k) fun x hx => hr x (List.mem_of_mem_take hx)
  rw [List.length_take] at hrl
  have e1 : ((⟨(keyL r[k]).toArray⟩ : ByteArray) ++ ⟨#[47]⟩) = ⟨(keyL r[k] ++ [47]).toArray⟩ := bytes_append (keyL r[k]) [47]
  refine ⟨(rkey (r.take (k + 1)), k + 1), ?_, ⟨by simp only; omega, rfl⟩, by simp only; omega⟩
  rw [dec_lt hx, cond_true, idxn_at hx, table_key_eq (by unfold SmW; omega) hxr.2, obind, e1]
  have e2 : (⟨#[47]⟩ : ByteArray).size = 1 := rfl
  rw [chk_pos (by rw [bytes_size, e2]; omega), chk_pos (by
   unfold rkey
   rw [bytes_size, bytes_size, List.length_append, List.length_singleton]
   omega)]
  unfold rkey
  rw [bytes_append, take_step hx, rkeyL_append]
  simp [rkeyL]
 ·right
  have e : k = r.length := by omega
  subst e
  rw [decide_eq_false (by omega), cond_false, List.take_length]
def NumOk (R : List (List (List Int))) (m : List (ByteArray × Int)) : Prop := ∀ r, mget (rkey r) m = if r ∈ R then some (↑(pos r R) : Int) else none
theorem view_add_eq {v : T_table_view} {r : List (List Int)} (h : RowSm r) (hn : NumOk v.rows v.number) (hl : v.rows.length ≤ 100000) :
  ∃ m, table_view_add v r = some ((↑(pos r (addR v.rows r)) : Int), ⟨addR v.rows r, v.prefixes, v.next, m⟩) ∧ NumOk (addR v.rows r) m := by
 unfold table_view_add
 rw [row_key_eq h, obind]
 have hr := hn r
 by_cases hm : r ∈ v.rows
 ·rw [if_pos hm] at hr
  refine ⟨v.number, ?_, ?_⟩
  ·rw [hr]
   simp only [Option.isSome_some, Bool.not_true, cond_false, Option.getD_some]
   unfold addR
   rw [if_pos hm]
   rfl
  ·unfold addR
   rw [if_pos hm]
   exact hn
 ·rw [if_neg hm] at hr
  refine ⟨mset (rkey r) (↑v.rows.length : Int) v.number, ?_, fun x => ?_⟩
  ·rw [hr]
   simp only [Option.isSome_none, Bool.not_false, cond_true]
   rw [chk_pos (by unfold capOk; omega), obind]
   unfold addR
   rw [if_neg hm, pos_new hm]
   rfl
  ·unfold addR
   rw [if_neg hm]
   by_cases hx : x = r
   ·subst hx
    rw [mget_mset_same ba_beq, if_pos (by simp), pos_new hm]
   ·rw [mget_mset_ne ba_beq (fun e => hx (rkey_inj e)), hn x]
    by_cases hxm : x ∈ v.rows
    ·rw [if_pos hxm, if_pos (by simp [hxm]), pos_append hxm]
    ·rw [if_neg hxm, if_neg (by simp [hxm, hx])]
end Go.Proofs.YtpmebphhbgpapaaGreatDoor.Sym

/-
 The view of a table, whole. Plain laws.
-/
namespace Go.Proofs.YtpmebphhbgpapaaGreatDoor.Sym
set_option maxRecDepth 100000
def rowsO (o : T_api_Obs) (S : List (List Int)) : List (List Int) → Option (List (List (List Int)))
 | [] => some []
 | w :: ws => match rowO o w S with
  | none => none
  | some r => (rowsO o S ws).map fun l => r :: l
theorem rowsO_all {o : T_api_Obs} {S : List (List Int)} : ∀ {ws : List (List Int)} {rs : List (List (List Int))}, rowsO o S ws = some rs → rs.length = ws.length ∧ ∀ (i : Nat) w, ws[i]? = some w → ∃ r, rs[i]? = some r ∧ rowO o w S = some r
 | [], rs, h => by
  injection h with h
  subst h
  exact ⟨rfl, fun i w hw => by simp at hw⟩
 | w :: ws, rs, h => by
  unfold rowsO at h
  cases hr : rowO o w S with
  | none => rw [hr] at h; cases h
  | some r =>
   rw [hr] at h
   obtain ⟨rs', h1, rfl⟩ := Option.map_eq_some_iff.1 h
   obtain ⟨h2, h3⟩ := rowsO_all h1
   refine ⟨by simp [h2], fun i u hu => ?_⟩
   cases i with
   | zero =>
    simp at hu
    subst hu
    exact ⟨r, rfl, hr⟩
   | succ i => simpa using h3 i u (by simpa using hu)
theorem rowsO_none {o : T_api_Obs} {S : List (List Int)} {ws : List (List Int)} {w : List Int} (hw : w ∈ ws) (h : rowO o w S = none) : rowsO o S ws = none := by
 cases hr : rowsO o S ws with
 | none => rfl
 | some rs =>
  obtain ⟨i, hi, rfl⟩ := List.mem_iff_getElem.1 hw
  obtain ⟨r, _, h2⟩ := (rowsO_all hr).2 i _ (get_at hi)
  rw [h] at h2
  cases h2
theorem rowsO_snoc {o : T_api_Obs} {S : List (List Int)} {w : List Int} {r : List (List Int)} (h : rowO o w S = some r) : ∀ {ws : List (List Int)} {rs : List (List (List Int))}, rowsO o S ws = some rs → rowsO o S (ws ++ [w]) = some (rs ++ [r])
 | [], rs, h1 => by
  injection h1 with h1
  subst h1
  simp [rowsO, h]
 | u :: ws, rs, h1 => by
  rw [List.cons_append]
  unfold rowsO at h1 ⊢
  cases hr : rowO o u S with
  | none => rw [hr] at h1; cases h1
  | some r' =>
   rw [hr] at h1
   obtain ⟨rs', h2, rfl⟩ := Option.map_eq_some_iff.1 h1
   simp only [rowsO_snoc h h2]
   rfl
theorem ansO_rng {o : T_api_Obs} (hv : ObsOk o) {w r : List Int} (h : ansO o w = some r) : ∀ a ∈ r, inR a := by
 unfold ansO at h
 split at h
 ·injection h with h
  subst h
  intro a ha
  cases ha
 ·obtain ⟨t, ht, rfl⟩ := Option.map_eq_some_iff.1 h
  intro a ha
  have hm := List.mem_of_find?_eq_some ht
  have := (hv.prop t hm).1.2.2 a (List.mem_of_mem_take ha)
  unfold inR
  omega
theorem rowO_rng {o : T_api_Obs} (hv : ObsOk o) {w : List Int} : ∀ {S : List (List Int)} {l : List (List Int)}, rowO o w S = some l → ∀ x ∈ l, ∀ a ∈ x, inR a
 | [], l, h => by
  injection h with h
  subst h
  intro x hx
  cases hx
 | e :: S, l, h => by
  unfold rowO at h
  cases ha : ansO o (w ++ e) with
  | none => rw [ha] at h; cases h
  | some r =>
   rw [ha] at h
   obtain ⟨l', h1, rfl⟩ := Option.map_eq_some_iff.1 h
   intro x hx a hax
   rcases List.mem_cons.1 hx with rfl | hx
   ·exact ansO_rng hv ha a (List.mem_of_mem_drop hax)
   ·exact rowO_rng hv h1 x hx a hax
theorem rowO_rsm {o : T_api_Obs} {t : T_api_Table} (hv : ObsOk o) (ht : TabOk t) {w : List Int} {r : List (List Int)} (h : rowO o w t.Suffixes = some r) : RowSm r := by
 obtain ⟨h1, h2⟩ := rowO_sml hv h
 refine ⟨by have := ht.s; omega, fun x hx => ⟨?_, rowO_rng hv h x hx⟩⟩
 obtain ⟨e, he, hl⟩ := h2 x hx
 have := ht.sw e he
 omega
abbrev v0 : T_table_view := ⟨[], [], [], []⟩
abbrev Row : Type := List (List Int)
def addAll (R : List Row) (rs : List Row) : List Row := rs.foldl addR R
theorem addAll_snoc (R : List Row) (rs : List Row) (r : Row) : addAll R (rs ++ [r]) = addR (addAll R rs) r := by simp [addAll]
theorem addAll_append (R : List Row) (a b : List Row) : addAll R (a ++ b) = addAll (addAll R a) b := by simp [addAll]
theorem mem_addAll {R : List Row} {x : Row} : ∀ {rs : List Row}, x ∈ addAll R rs ↔ x ∈ R ∨ x ∈ rs := by
 intro rs
 induction rs generalizing R with
 | nil => simp [addAll]
 | cons r rs ih =>
  show x ∈ addAll (addR R r) rs ↔ _
  rw [ih, mem_addR, List.mem_cons]
  constructor
  ·rintro ((h | h) | h)
   ·exact Or.inl h
   ·exact Or.inr (Or.inl h)
   ·exact Or.inr (Or.inr h)
  ·rintro (h | h | h)
   ·exact Or.inl (Or.inl h)
   ·exact Or.inl (Or.inr h)
   ·exact Or.inr h
theorem pos_addAll {R : List Row} {x : Row} (h : x ∈ R) : ∀ rs : List Row, pos x (addAll R rs) = pos x R := by
 intro rs
 induction rs generalizing R with
 | nil => rfl
 | cons r rs ih =>
  show pos x (addAll (addR R r) rs) = _
  rw [ih (mem_addR.2 (Or.inl h)), pos_addR h]
theorem addAll_len (R : List Row) (rs : List Row) : (addAll R rs).length ≤ R.length + rs.length := by
 induction rs generalizing R with
 | nil => simp [addAll]
 | cons r rs ih =>
  have h1 := ih (R := addR R r)
  have h2 := addR_len R r
  show (addAll (addR R r) rs).length ≤ _
  rw [List.length_cons]
  omega
def nums (R : List Row) (rs : List Row) : List Int := rs.map fun r => (↑(pos r R) : Int)
theorem nums_add {R : List Row} {rs : List Row} (h : ∀ x ∈ rs, x ∈ R) (X : List Row) : nums (addAll R X) rs = nums R rs := by
 unfold nums
 refine List.map_congr_left fun x hx => ?_
 rw [pos_addAll (h x hx)]
theorem look_first {o : T_api_Obs} {t : T_api_Table} {F : List T_api_Trace} (ht : TabOk t) (ho : SmO o) (hv : ObsOk o) (hF : FindOk o F) :
  ∃ res, iter (fun (s : List (List (List Int)) × List Int × (List (ByteArray × Int)) × Nat) => table_look.s2 t F s.1 s.2.1 s.2.2.1 s.2.2.2) fuel ([], [], ([] : List (ByteArray × Int)), 0) = some res ∧
   match rowsO o t.Suffixes t.Prefixes with
   | none => res = .inr (v0, 12)
   | some rs => ∃ m, res = .inl (addAll [] rs, nums (addAll [] rs) rs, m) ∧ NumOk (addAll [] rs) m := by
 have hp := ht.p
 have hS := ht.sm.2.2.1
 refine iter_post (step := fun (s : List (List (List Int)) × List Int × (List (ByteArray × Int)) × Nat) => table_look.s2 t F s.1 s.2.1 s.2.2.1 s.2.2.2)
  (fun s => s.2.2.2 ≤ t.Prefixes.length ∧ ∃ rs, rowsO o t.Suffixes (t.Prefixes.take s.2.2.2) = some rs ∧ s.1 = addAll [] rs ∧ s.2.1 = nums (addAll [] rs) rs ∧ NumOk (addAll [] rs) s.2.2.1) (fun s => t.Prefixes.length - s.2.2.2) _ (fun s ⟨g1, rs, g2, g3, g4, g5⟩ => ?_) fuel _ ⟨Nat.zero_le _, [], rfl, rfl, rfl, fun r => by simp [addAll, mget]⟩ (by have := fuel_big; simp only; omega)
 obtain ⟨R, N, m, k⟩ := s
 simp only at g1 g2 g3 g4 g5
 subst g3 g4
 have hrl : rs.length = k := by
  have := (rowsO_all g2).1
  rw [List.length_take] at this
  omega
 have hRl := addAll_len [] rs
 simp only [List.length_nil] at hRl
 simp only [table_look.s2]
 by_cases h : k < t.Prefixes.length
 ·have hx := get_at h
  have hxs : SmW t.Prefixes[k] := ht.sm.2.1.2 _ (List.getElem_mem _)
  rw [dec_lt hx, cond_true, idxn_at hx, finder_row_eq ho hv hF hS hxs, obind]
  cases hr : rowO o t.Prefixes[k] t.Suffixes with
  | none =>
   right
   refine ⟨.inr (v0, 12), rfl, ?_⟩
   rw [rowsO_none (List.getElem_mem h) hr]
  | some r =>
   left
   have hsm := rowO_rsm hv ht hr
   obtain ⟨m', e, hm'⟩ := view_add_eq (v := ⟨addAll [] rs, nums (addAll [] rs) rs, [], m⟩) hsm g5 (by simp only; omega)
   simp only at e hm'
   refine ⟨(addAll [] (rs ++ [r]), nums (addAll [] (rs ++ [r])) (rs ++ [r]), m', k + 1), ?_, ⟨h, rs ++ [r], ?_, rfl, rfl, ?_⟩, by simp only; omega⟩
   ·simp only [tw, Bool.not_true, cond_false]
    rw [e, obind, chk_pos (by unfold nums capOk; rw [List.length_map]; omega), addAll_snoc]
    have h1 : nums (addR (addAll [] rs) r) (rs ++ [r]) = nums (addAll [] rs) rs ++ [(↑(pos r (addR (addAll [] rs) r)) : Int)] := by
     have h2 := nums_add (R := addAll [] rs) (rs := rs) (fun x hx => mem_addAll.2 (Or.inr hx)) [r]
     have h3 : addAll (addAll [] rs) [r] = addR (addAll [] rs) r := rfl
     rw [h3] at h2
     rw [← h2]
     simp [nums]
    rw [h1]
   ·simp only
    rw [take_step hx]
    exact rowsO_snoc hr g2
   ·simp only
    rw [addAll_snoc]
    exact hm'
 ·right
  have e : k = t.Prefixes.length := by omega
  subst e
  rw [List.take_length] at g2
  refine ⟨.inl (addAll [] rs, nums (addAll [] rs) rs, m), by rw [decide_eq_false (by omega), cond_false], ?_⟩
  rw [g2]
  exact ⟨m, rfl, g5⟩
def exts (n : Nat) (p : List Int) : List (List Int) := (List.range n).map fun (a : Nat) => p ++ [(↑a : Int)]
theorem look_inner {o : T_api_Obs} {t : T_api_Table} {F : List T_api_Trace} (ht : TabOk t) (ho : SmO o) (hv : ObsOk o) (hF : FindOk o F) (P : List Int) (Q : List (List Int)) {p : List Int} (hp : SmW p) (hp1 : p.length ≤ 1000000) {R : List Row} {m : List (ByteArray × Int)} (hm : NumOk R m) (hR : R.length ≤ 10000) :
  ∃ res, iter (fun (s : List (List (List Int)) × (List (ByteArray × Int)) × List Int × Nat) => table_look.s20 t F P Q p s.1 s.2.1 s.2.2.1 s.2.2.2) fuel (R, m, [], 0) = some res ∧
   match rowsO o t.Suffixes (exts t.Inputs.toNat p) with
   | none => res = .inr (.inr (.inr (v0, 12)))
   | some rs => ∃ m', res = .inl (addAll R rs, m', nums (addAll R rs) rs) ∧ NumOk (addAll R rs) m' := by
 have hn := ht.n
 have hS := ht.sm.2.2.1
 refine iter_post (step := fun (s : List (List (List Int)) × (List (ByteArray × Int)) × List Int × Nat) => table_look.s20 t F P Q p s.1 s.2.1 s.2.2.1 s.2.2.2)
  (fun s => s.2.2.2 ≤ t.Inputs.toNat ∧ ∃ rs, rowsO o t.Suffixes (exts s.2.2.2 p) = some rs ∧ s.1 = addAll R rs ∧ s.2.2.1 = nums (addAll R rs) rs ∧ NumOk (addAll R rs) s.2.1) (fun s => t.Inputs.toNat - s.2.2.2) _ (fun s ⟨g1, rs, g2, g3, g4, g5⟩ => ?_) fuel _ ⟨Nat.zero_le _, [], rfl, rfl, rfl, hm⟩ (by have := fuel_big; simp only; omega)
 obtain ⟨R', m1, N, k⟩ := s
 simp only at g1 g2 g3 g4 g5
 subst g3 g4
 have hrl : rs.length = k := by
  have := (rowsO_all g2).1
  unfold exts at this
  simpa using this
 have hRl := addAll_len R rs
 simp only [table_look.s20]
 by_cases h : k < t.Inputs.toNat
 ·have hxs : SmW (p ++ [(↑k : Int)]) := by
   show (p ++ [(↑k : Int)]).length ≤ 2000000
   simp
   omega
  have hst : exts (k + 1) p = exts k p ++ [p ++ [(↑k : Int)]] := by simp [exts, List.range_succ]
  rw [decide_eq_true (by omega), cond_true, table_extended_eq hp, obind, finder_row_eq ho hv hF hS hxs, obind]
  cases hr : rowO o (p ++ [(↑k : Int)]) t.Suffixes with
  | none =>
   right
   refine ⟨.inr (.inr (.inr (v0, 12))), rfl, ?_⟩
   rw [rowsO_none (ws := exts t.Inputs.toNat p) (w := p ++ [(↑k : Int)]) (List.mem_map.2 ⟨k, List.mem_range.2 h, rfl⟩) hr]
  | some r =>
   left
   have hsm := rowO_rsm hv ht hr
   obtain ⟨m', e, hm'⟩ := view_add_eq (v := ⟨addAll R rs, P, Q, m1⟩) hsm g5 (by simp only; omega)
   simp only at e hm'
   refine ⟨(addAll R (rs ++ [r]), m', nums (addAll R (rs ++ [r])) (rs ++ [r]), k + 1), ?_, ⟨h, rs ++ [r], ?_, rfl, rfl, ?_⟩, by simp only; omega⟩
   ·simp only [tw, Bool.not_true, cond_false]
    rw [e, obind, chk_pos (by unfold nums capOk; rw [List.length_map]; omega), chk_pos (by unfold inR; omega), addAll_snoc]
    have h1 : nums (addR (addAll R rs) r) (rs ++ [r]) = nums (addAll R rs) rs ++ [(↑(pos r (addR (addAll R rs) r)) : Int)] := by
     have h2 := nums_add (R := addAll R rs) (rs := rs) (fun x hx => mem_addAll.2 (Or.inr hx)) [r]
     have h3 : addAll (addAll R rs) [r] = addR (addAll R rs) r := rfl
     rw [h3] at h2
     rw [← h2]
     simp [nums]
    rw [h1]
   ·simp only
    rw [hst]
    exact rowsO_snoc hr g2
   ·simp only
    rw [addAll_snoc]
    exact hm'
 ·right
  have e : k = t.Inputs.toNat := by omega
  subst e
  refine ⟨.inl (addAll R rs, m1, nums (addAll R rs) rs), by rw [decide_eq_false (by omega), cond_false], ?_⟩
  rw [g2]
  exact ⟨m1, rfl, g5⟩
def extRows (o : T_api_Obs) (S : List (List Int)) (n : Nat) : List (List Int) → Option (List (List Row))
 | [] => some []
 | p :: ps => match rowsO o S (exts n p) with
  | none => none
  | some rs => (extRows o S n ps).map fun l => rs :: l
theorem extRows_all {o : T_api_Obs} {S : List (List Int)} {n : Nat} : ∀ {ps : List (List Int)} {rss : List (List Row)}, extRows o S n ps = some rss → rss.length = ps.length ∧ ∀ (i : Nat) p, ps[i]? = some p → ∃ rs, rss[i]? = some rs ∧ rowsO o S (exts n p) = some rs
 | [], rss, h => by
  injection h with h
  subst h
  exact ⟨rfl, fun i w hw => by simp at hw⟩
 | p :: ps, rss, h => by
  unfold extRows at h
  cases hr : rowsO o S (exts n p) with
  | none => rw [hr] at h; cases h
  | some r =>
   rw [hr] at h
   obtain ⟨rs', h1, rfl⟩ := Option.map_eq_some_iff.1 h
   obtain ⟨h2, h3⟩ := extRows_all h1
   refine ⟨by simp [h2], fun i u hu => ?_⟩
   cases i with
   | zero =>
    simp at hu
    subst hu
    exact ⟨r, rfl, hr⟩
   | succ i => simpa using h3 i u (by simpa using hu)
theorem extRows_none {o : T_api_Obs} {S : List (List Int)} {n : Nat} {ps : List (List Int)} {p : List Int} (hw : p ∈ ps) (h : rowsO o S (exts n p) = none) : extRows o S n ps = none := by
 cases hr : extRows o S n ps with
 | none => rfl
 | some rs =>
  obtain ⟨i, hi, rfl⟩ := List.mem_iff_getElem.1 hw
  obtain ⟨r, _, h2⟩ := (extRows_all hr).2 i _ (get_at hi)
  rw [h] at h2
  cases h2
theorem extRows_snoc {o : T_api_Obs} {S : List (List Int)} {n : Nat} {p : List Int} {r : List Row} (h : rowsO o S (exts n p) = some r) : ∀ {ps : List (List Int)} {rs : List (List Row)}, extRows o S n ps = some rs → extRows o S n (ps ++ [p]) = some (rs ++ [r])
 | [], rs, h1 => by
  injection h1 with h1
  subst h1
  simp [extRows, h]
 | u :: ps, rs, h1 => by
  rw [List.cons_append]
  unfold extRows at h1 ⊢
  cases hr : rowsO o S (exts n u) with
  | none => rw [hr] at h1; cases h1
  | some r' =>
   rw [hr] at h1
   obtain ⟨rs', h2, rfl⟩ := Option.map_eq_some_iff.1 h1
   simp only [extRows_snoc h h2]
   rfl
theorem look_second {o : T_api_Obs} {t : T_api_Table} {F : List T_api_Trace} (ht : TabOk t) (ho : SmO o) (hv : ObsOk o) (hF : FindOk o F) (P : List Int) {R : List Row} {m : List (ByteArray × Int)} (hm : NumOk R m) (hR : R.length ≤ 1000) :
  ∃ res, iter (fun (s : List (List (List Int)) × List (List Int) × (List (ByteArray × Int)) × Nat) => table_look.s22 t F P s.1 s.2.1 s.2.2.1 s.2.2.2) fuel (R, [], m, 0) = some res ∧
   match extRows o t.Suffixes t.Inputs.toNat t.Prefixes with
   | none => res = .inr (v0, 12)
   | some rss => ∃ m', res = .inl (addAll R rss.flatten, rss.map (nums (addAll R rss.flatten)), m') := by
 have hn := ht.n
 have hp := ht.p
 refine iter_post (step := fun (s : List (List (List Int)) × List (List Int) × (List (ByteArray × Int)) × Nat) => table_look.s22 t F P s.1 s.2.1 s.2.2.1 s.2.2.2)
  (fun s => s.2.2.2 ≤ t.Prefixes.length ∧ ∃ rss, extRows o t.Suffixes t.Inputs.toNat (t.Prefixes.take s.2.2.2) = some rss ∧ rss.flatten.length ≤ 4 * s.2.2.2 ∧ s.1 = addAll R rss.flatten ∧ s.2.1 = rss.map (nums (addAll R rss.flatten)) ∧ NumOk (addAll R rss.flatten) s.2.2.1) (fun s => t.Prefixes.length - s.2.2.2) _ (fun s ⟨g1, rss, g2, g6, g3, g4, g5⟩ => ?_) fuel _ ⟨Nat.zero_le _, [], rfl, by simp, rfl, rfl, hm⟩ (by have := fuel_big; simp only; omega)
 obtain ⟨R', N, m1, k⟩ := s
 simp only at g1 g2 g3 g4 g5 g6
 subst g3 g4
 have hrl : rss.length = k := by
  have := (extRows_all g2).1
  rw [List.length_take] at this
  omega
 have hRl := addAll_len R rss.flatten
 simp only [table_look.s22]
 by_cases h : k < t.Prefixes.length
 ·have hx := get_at h
  have hxs : SmW t.Prefixes[k] := ht.sm.2.1.2 _ (List.getElem_mem _)
  have hxl := ht.pw _ (List.getElem_mem h)
  obtain ⟨res, e, hres⟩ := look_inner ht ho hv hF P (rss.map (nums (addAll R rss.flatten))) hxs (by omega) g5 (by omega)
  rw [dec_lt hx, cond_true, idxn_at hx, e, obind]
  cases hr : rowsO o t.Suffixes (exts t.Inputs.toNat t.Prefixes[k]) with
  | none =>
   rw [hr] at hres
   right
   refine ⟨.inr (v0, 12), by rw [hres]; rfl, ?_⟩
   rw [extRows_none (List.getElem_mem h) hr]
  | some rs =>
   rw [hr] at hres
   obtain ⟨m', h1, h2⟩ := hres
   left
   have hsl : rs.length = t.Inputs.toNat := by
    have := (rowsO_all hr).1
    unfold exts at this
    simpa using this
   have hfl : (rss ++ [rs]).flatten = rss.flatten ++ rs := by simp
   refine ⟨(addAll R (rss ++ [rs]).flatten, (rss ++ [rs]).map (nums (addAll R (rss ++ [rs]).flatten)), m', k + 1), ?_, ⟨h, rss ++ [rs], ?_, ?_, rfl, rfl, ?_⟩, by simp only; omega⟩
   ·rw [h1]
    simp only [Sum.elim_inl, table_look.k21]
    rw [chk_pos (by rw [List.length_map]; unfold capOk; omega), hfl, addAll_append]
    have h3 : rss.map (nums (addAll (addAll R rss.flatten) rs)) = rss.map (nums (addAll R rss.flatten)) := by
     refine List.map_congr_left fun x hx => ?_
     exact nums_add (fun y hy => mem_addAll.2 (Or.inr (List.mem_flatten.2 ⟨x, hx, hy⟩))) rs
    rw [List.map_append, h3]
    rfl
   ·simp only
    rw [take_step hx]
    exact extRows_snoc hr g2
   ·simp only
    rw [hfl, List.length_append]
    omega
   ·simp only
    rw [hfl, addAll_append]
    exact h2
 ·right
  have e : k = t.Prefixes.length := by omega
  subst e
  rw [List.take_length] at g2
  refine ⟨.inl (addAll R rss.flatten, rss.map (nums (addAll R rss.flatten)), m1), by rw [decide_eq_false (by omega), cond_false], ?_⟩
  rw [g2]
  exact ⟨m1, rfl⟩
def LookSpec (t : T_api_Table) (o : T_api_Obs) (v : T_table_view) (e : Int) : Prop :=
 (chkT t o ≠ 0 ∧ e = chkT t o) ∨
 (chkT t o = 0 ∧ e = 12 ∧ (rowsO o t.Suffixes t.Prefixes = none ∨ extRows o t.Suffixes t.Inputs.toNat t.Prefixes = none)) ∨
 (chkT t o = 0 ∧ e = 0 ∧ ∃ rs rss, rowsO o t.Suffixes t.Prefixes = some rs ∧ extRows o t.Suffixes t.Inputs.toNat t.Prefixes = some rss ∧
  v.rows = addAll (addAll [] rs) rss.flatten ∧ v.prefixes = nums v.rows rs ∧ v.next = rss.map (nums v.rows))
theorem table_look_eq {t : T_api_Table} {o : T_api_Obs} (ht : TabOk t) (ho : SmO o) (hv : ObsOk o) : ∃ v e, table_look t o = some (v, e) ∧ LookSpec t o v e := by
 obtain ⟨F, hF1, hF⟩ := table_find_eq ho hv
 have hp := ht.p
 unfold table_look
 rw [table_check_eq ht.sm, obind]
 by_cases h : chkT t o = 0
 ·rw [decide_eq_false (by simpa using h), cond_false, hF1, obind]
  obtain ⟨res, e, hres⟩ := look_first ht ho hv hF
  rw [e, obind]
  cases hr : rowsO o t.Suffixes t.Prefixes with
  | none =>
   rw [hr] at hres
   subst hres
   exact ⟨v0, 12, rfl, .inr (.inl ⟨h, rfl, .inl hr⟩)⟩
  | some rs =>
   rw [hr] at hres
   obtain ⟨m, h1, h2⟩ := hres
   subst h1
   have hrl := (rowsO_all hr).1
   have hRl := addAll_len [] rs
   simp only [List.length_nil] at hRl
   simp only [Sum.elim_inl, table_look.k24]
   obtain ⟨res2, e2, hres2⟩ := look_second ht ho hv hF (nums (addAll [] rs) rs) h2 (by omega)
   rw [e2, obind]
   cases hr2 : extRows o t.Suffixes t.Inputs.toNat t.Prefixes with
   | none =>
    rw [hr2] at hres2
    subst hres2
    exact ⟨v0, 12, rfl, .inr (.inl ⟨h, rfl, .inr hr2⟩)⟩
   | some rss =>
    rw [hr2] at hres2
    obtain ⟨m', h3⟩ := hres2
    subst h3
    refine ⟨_, 0, rfl, .inr (.inr ⟨h, rfl, rs, rss, hr, hr2, rfl, ?_, rfl⟩)⟩
    exact (nums_add (fun x hx => mem_addAll.2 (Or.inr hx)) rss.flatten).symm
 ·rw [decide_eq_true h, cond_true]
  exact ⟨_, _, rfl, .inl ⟨h, rfl⟩⟩
end Go.Proofs.YtpmebphhbgpapaaGreatDoor.Sym

/-
 Complete tables, and the word that shows that a table is not closed. Plain laws.
-/
namespace Go.Proofs.YtpmebphhbgpapaaGreatDoor.Sym
set_option maxRecDepth 100000
theorem rowO_some {o : T_api_Obs} {w : List Int} : ∀ {S : List (List Int)}, (∀ e ∈ S, ansO o (w ++ e) ≠ none) → ∃ r, rowO o w S = some r
 | [], _ => ⟨[], rfl⟩
 | e :: S, h => by
  obtain ⟨l, hl⟩ := rowO_some (S := S) fun e he => h e (List.mem_cons_of_mem _ he)
  unfold rowO
  cases ha : ansO o (w ++ e) with
  | none => exact absurd ha (h e (by simp))
  | some r =>
   rw [hl]
   exact ⟨_, rfl⟩
theorem rowO_ans {o : T_api_Obs} {w : List Int} : ∀ {S : List (List Int)} {r : Row}, rowO o w S = some r → ∀ e ∈ S, ansO o (w ++ e) ≠ none
 | [], _, _, e, he => by cases he
 | u :: S, r, h, e, he => by
  unfold rowO at h
  cases ha : ansO o (w ++ u) with
  | none => rw [ha] at h; cases h
  | some x =>
   rw [ha] at h
   obtain ⟨l, h1, _⟩ := Option.map_eq_some_iff.1 h
   rcases List.mem_cons.1 he with rfl | he
   ·rw [ha]; simp
   ·exact rowO_ans h1 e he
def AllRows (t : T_api_Table) (o : T_api_Obs) : Prop := ∀ p ∈ t.Prefixes, ∀ w ∈ withX t.Inputs.toNat p, ∃ r, rowO o w t.Suffixes = some r
theorem need_nil {t : T_api_Table} {o : T_api_Obs} : needL o t t.Prefixes = [] ↔ AllRows t o := by
 constructor
 ·intro h p hp w hw
  refine rowO_some fun e he hn => ?_
  have : w ++ e ∈ needL o t t.Prefixes := List.mem_flatMap.2 ⟨p, hp, List.mem_flatMap.2 ⟨w, hw, mem_missO.2 ⟨⟨e, he, rfl⟩, hn⟩⟩⟩
  rw [h] at this
  cases this
 ·intro h
  refine List.eq_nil_iff_forall_not_mem.2 fun v hv => ?_
  obtain ⟨p, hp, h2⟩ := List.mem_flatMap.1 hv
  obtain ⟨w, hw, h3⟩ := List.mem_flatMap.1 h2
  obtain ⟨⟨e, he, rfl⟩, hn⟩ := mem_missO.1 h3
  obtain ⟨r, hr⟩ := h p hp w hw
  exact rowO_ans hr e he hn
theorem longest_word : ∀ {l : List (List Int)}, l ≠ [] → ∃ y ∈ l, ∀ z ∈ l, z.length ≤ y.length
 | [x], _ => ⟨x, by simp, fun z hz => by rw [List.mem_singleton.1 hz]; exact Nat.le_refl _⟩
 | x :: u :: l, _ => by
  obtain ⟨y, hy, h⟩ := longest_word (l := u :: l) (by simp)
  by_cases h1 : y.length ≤ x.length
  ·refine ⟨x, by simp, fun z hz => ?_⟩
   rcases List.mem_cons.1 hz with rfl | hz
   ·exact Nat.le_refl _
   ·exact Nat.le_trans (h z hz) h1
  ·refine ⟨y, List.mem_cons_of_mem _ hy, fun z hz => ?_⟩
   rcases List.mem_cons.1 hz with rfl | hz
   ·omega
   ·exact h z hz
theorem maxR_nil {l : List (List Int)} : maxR l = [] ↔ l = [] := by
 constructor
 ·intro h
  refine Classical.byContradiction fun hne => ?_
  obtain ⟨y, hy, hmax⟩ := longest_word hne
  have : y ∈ maxR l := (mem_maxR_iff l y).2 ⟨hy, fun z hz => by
   by_cases hp : y <+: z
   ·left
    have h1 := hmax z hz
    have h2 := hp.length_le
    exact (hp.eq_of_length (by omega)).symm
   ·exact Or.inr hp⟩
  rw [h] at this
  cases this
 ·rintro rfl
  rfl
def compT (t : T_api_Table) (o : T_api_Obs) : Int := if chkT t o ≠ 0 then chkT t o else if needL o t t.Prefixes = [] then 0 else 12
theorem R23_complete_eq {t : T_api_Table} {o : T_api_Obs} (ht : TabOk t) (ho : SmO o) (hv : ObsOk o) : R23_complete t o = some (compT t o) := by
 unfold R23_complete compT
 rw [R23_Needed_eq ht ho hv, obind]
 by_cases h : chkT t o = 0
 ·rw [if_neg (by simpa using h), if_neg (by simpa using h)]
  by_cases hn : needL o t t.Prefixes = []
  ·rw [if_pos hn, hn]
   rfl
  ·rw [if_neg hn]
   have : maxR (needL o t t.Prefixes) ≠ [] := fun e => hn (maxR_nil.1 e)
   have hl : 0 < (maxR (needL o t t.Prefixes)).length := List.length_pos_iff.2 this
   rw [decide_eq_false (by simp), cond_false, decide_eq_true (by simp only; omega), cond_true]
 ·rw [if_pos h, if_pos h, decide_eq_true h, cond_true]
structure ViewOk (t : T_api_Table) (o : T_api_Obs) (v : T_table_view) : Prop where
 pl : v.prefixes.length = t.Prefixes.length
 nl : v.next.length = t.Prefixes.length
 pre : ∀ (i : Nat) p, t.Prefixes[i]? = some p → ∃ r, rowO o p t.Suffixes = some r ∧ r ∈ v.rows ∧ v.prefixes[i]? = some (↑(pos r v.rows) : Int)
 nxt : ∀ (i : Nat) p, t.Prefixes[i]? = some p → ∃ l, v.next[i]? = some l ∧ l.length = t.Inputs.toNat ∧ ∀ a, a < t.Inputs.toNat → ∃ r, rowO o (p ++ [(↑a : Int)]) t.Suffixes = some r ∧ r ∈ v.rows ∧ l[a]? = some (↑(pos r v.rows) : Int)
theorem look_view {t : T_api_Table} {o : T_api_Obs} {v : T_table_view} {e : Int} (h : LookSpec t o v e) : e = compT t o ∧ (e = 0 → ViewOk t o v ∧ AllRows t o ∧ chkT t o = 0) := by
 unfold compT
 rcases h with ⟨h1, rfl⟩ | ⟨h1, rfl, h2⟩ | ⟨h1, rfl, rs, rss, h2, h3, h4, h5, h6⟩
 ·exact ⟨by rw [if_pos h1], fun h => absurd h h1⟩
 ·have hn : needL o t t.Prefixes ≠ [] := fun hn => by
   have hA := need_nil.1 hn
   rcases h2 with h2 | h2
   ·have : ∀ (ps : List (List Int)), (∀ p ∈ ps, ∃ r, rowO o p t.Suffixes = some r) → rowsO o t.Suffixes ps ≠ none := by
     intro ps
     induction ps with
     | nil => intro _ h; cases h
     | cons p ps ih =>
      intro hp h
      obtain ⟨r, hr⟩ := hp p (by simp)
      unfold rowsO at h
      rw [hr] at h
      exact ih (fun q hq => hp q (List.mem_cons_of_mem _ hq)) (by simpa using h)
    exact this _ (fun p hp => hA p hp p (by simp [withX])) h2
   ·have hone : ∀ p ∈ t.Prefixes, rowsO o t.Suffixes (exts t.Inputs.toNat p) ≠ none := fun p hp => by
     have : ∀ (ps : List (List Int)), (∀ p ∈ ps, ∃ r, rowO o p t.Suffixes = some r) → rowsO o t.Suffixes ps ≠ none := by
      intro ps
      induction ps with
      | nil => intro _ h; cases h
      | cons p ps ih =>
       intro hp h
       obtain ⟨r, hr⟩ := hp p (by simp)
       unfold rowsO at h
       rw [hr] at h
       exact ih (fun q hq => hp q (List.mem_cons_of_mem _ hq)) (by simpa using h)
     exact this _ fun w hw => hA p hp w (List.mem_cons_of_mem _ hw)
    have : ∀ (ps : List (List Int)), (∀ p ∈ ps, rowsO o t.Suffixes (exts t.Inputs.toNat p) ≠ none) → extRows o t.Suffixes t.Inputs.toNat ps ≠ none := by
     intro ps
     induction ps with
     | nil => intro _ h; cases h
     | cons p ps ih =>
      intro hp h
      unfold extRows at h
      cases hr : rowsO o t.Suffixes (exts t.Inputs.toNat p) with
      | none => exact hp p (by simp) hr
      | some r =>
       rw [hr] at h
       exact ih (fun q hq => hp q (List.mem_cons_of_mem _ hq)) (by simpa using h)
    exact this _ hone h2
  exact ⟨by rw [if_neg (by simpa using h1), if_neg hn], fun h => by cases h⟩
 ·have hP := rowsO_all h2
  have hE := extRows_all h3
  have hmem1 : ∀ r ∈ rs, r ∈ v.rows := fun r hr => by rw [h4]; exact mem_addAll.2 (Or.inl (mem_addAll.2 (Or.inr hr)))
  have hmem2 : ∀ l ∈ rss, ∀ r ∈ l, r ∈ v.rows := fun l hl r hr => by rw [h4]; exact mem_addAll.2 (Or.inr (List.mem_flatten.2 ⟨l, hl, hr⟩))
  have hV : ViewOk t o v := by
   refine ⟨by rw [h5]; unfold nums; rw [List.length_map, hP.1], by rw [h6, List.length_map, hE.1], fun i p hp => ?_, fun i p hp => ?_⟩
   ·obtain ⟨r, hr1, hr2⟩ := hP.2 i p hp
    refine ⟨r, hr2, hmem1 r (List.mem_of_getElem? hr1), ?_⟩
    rw [h5]
    unfold nums
    rw [List.getElem?_map, hr1]
    rfl
   ·obtain ⟨l, hl1, hl2⟩ := hE.2 i p hp
    have hL := rowsO_all hl2
    refine ⟨nums v.rows l, by rw [h6, List.getElem?_map, hl1]; rfl, by unfold nums; rw [List.length_map, hL.1]; simp [exts], fun a ha => ?_⟩
    have hx : (exts t.Inputs.toNat p)[a]? = some (p ++ [(↑a : Int)]) := by
     unfold exts
     rw [List.getElem?_map, List.getElem?_range ha]
     rfl
    obtain ⟨r, hr1, hr2⟩ := hL.2 a _ hx
    refine ⟨r, hr2, hmem2 l (List.mem_of_getElem? hl1) r (List.mem_of_getElem? hr1), ?_⟩
    unfold nums
    rw [List.getElem?_map, hr1]
    rfl
  have hA : AllRows t o := fun p hp w hw => by
   obtain ⟨i, hi, rfl⟩ := List.mem_iff_getElem.1 hp
   unfold withX at hw
   rcases List.mem_cons.1 hw with rfl | hw
   ·obtain ⟨r, hr, _⟩ := hV.pre i _ (get_at hi)
    exact ⟨r, hr⟩
   ·obtain ⟨a, ha, rfl⟩ := List.mem_map.1 hw
    obtain ⟨l, _, _, h7⟩ := hV.nxt i _ (get_at hi)
    obtain ⟨r, hr, _⟩ := h7 a (List.mem_range.1 ha)
    exact ⟨r, hr⟩
  exact ⟨by rw [if_neg (by simpa using h1), if_pos (need_nil.2 hA)], fun _ => ⟨hV, hA, h1⟩⟩
theorem valid_asc {t : T_api_Table} (h : validT t = 0) : 1 ≤ t.Inputs ∧ t.Inputs ≤ 64 ∧ Asc t.Prefixes ∧ Asc t.Suffixes ∧ (∀ a ∈ List.range t.Inputs.toNat, [(↑a : Int)] ∈ t.Suffixes) ∧ scan (preG t fun w => decide (w ∈ t.Prefixes)) 0 t.Prefixes = none ∧ scan (sufG t) 0 t.Suffixes = none ∧ t.Prefixes ≠ [] := by
 unfold validT at h
 split at h
 ·cases h
 ·rename_i h1
  split at h
  ·cases h
  ·rename_i h2
   split at h
   ·cases h
   ·cases e1 : scan (preG t fun w => decide (w ∈ t.Prefixes)) 0 t.Prefixes with
    | some e =>
     exfalso
     rw [e1] at h
     simp only at h
     subst h
     have key : ∀ (l : List (List Int)) (j : Nat), scan (preG t fun w => decide (w ∈ t.Prefixes)) j l ≠ some 0 := by
      intro l
      induction l with
      | nil => intro j h; cases h
      | cons x l ih =>
       intro j h
       unfold scan at h
       split at h
       ·rename_i r' h3
        injection h with h
        subst h
        unfold preG at h3
        split at h3
        ·rename_i h4
         injection h3 with h3
         exact h4 h3
        ·split at h3
         ·cases h3
         ·split at h3
          ·cases h3
          ·cases h3
       ·exact ih _ h
     exact key _ _ e1
    | none =>
     rw [e1] at h
     cases e2 : scan (sufG t) 0 t.Suffixes with
     | some e =>
      exfalso
      rw [e2] at h
      simp only at h
      subst h
      have key : ∀ (l : List (List Int)) (j : Nat), scan (sufG t) j l ≠ some 0 := by
       intro l
       induction l with
       | nil => intro j h; cases h
       | cons x l ih =>
        intro j h
        unfold scan at h
        split at h
        ·rename_i r' h3
         injection h with h
         subst h
         unfold sufG at h3
         split at h3
         ·rename_i h4
          injection h3 with h3
          exact h4 h3
         ·split at h3
          ·cases h3
          ·split at h3
           ·cases h3
           ·cases h3
        ·exact ih _ h
      exact key _ _ e2
     | none =>
      rw [e2] at h
      simp only at h
      split at h
      ·rename_i h5
       refine ⟨by omega, by omega, Asc_of_prev fun i w hw => ?_, (sufG_none e2).1, h5, rfl, rfl, fun e => h2 (by rw [e]; rfl)⟩
       have := scan_none.1 e1 i w hw
       rw [Nat.zero_add] at this
       unfold preG at this
       split at this
       ·cases this
       ·split at this
        ·cases this
        ·rename_i h6
         cases hpv : prevLt t.Prefixes i w with
         | true => rfl
         | false => exact absurd (Or.inr hpv) h6
      ·cases h
theorem lex_snoc {a b : Int} : ∀ {p q : List Int}, p.length = q.length → lexI p q = -1 → lexI (p ++ [a]) (q ++ [b]) = -1
 | [], [], _, h => by simp [lexI] at h
 | [], _ :: _, h, _ => by simp at h
 | _ :: _, [], h, _ => by simp at h
 | x :: p, y :: q, hl, h => by
  simp only [lexI, List.cons_append] at h ⊢
  by_cases h1 : x < y
  ·rw [if_pos h1]
  ·rw [if_neg h1] at h ⊢
   by_cases h2 : y < x
   ·rw [if_pos h2] at h
    cases h
   ·rw [if_neg h2] at h ⊢
    exact lex_snoc (by simpa using hl) h
theorem cmp_snoc {p q : List Int} {a b : Int} (h : cmpW p q = -1) : cmpW (p ++ [a]) (q ++ [b]) = -1 := by
 unfold cmpW at h ⊢
 rw [List.length_append, List.length_append]
 simp only [List.length_singleton]
 by_cases h1 : p.length < q.length
 ·rw [if_pos (by omega)]
 ·rw [if_neg h1] at h
  by_cases h2 : q.length < p.length
  ·rw [if_pos h2] at h
   cases h
  ·rw [if_neg h2] at h
   rw [if_neg (by omega), if_neg (by omega)]
   exact lex_snoc (by omega) h
theorem cmp_same {p : List Int} {a b : Int} (h : a < b) : cmpW (p ++ [a]) (p ++ [b]) = -1 := by
 unfold cmpW
 rw [List.length_append, List.length_append]
 simp only [List.length_singleton, Nat.lt_irrefl, if_false]
 induction p with
 | nil => simp [lexI, h]
 | cons x p ih =>
  simp only [List.cons_append, lexI, Int.lt_irrefl, if_false]
  exact ih
theorem extL_asc {t : T_api_Table} (h : Asc t.Prefixes) : Asc (extL t) := by
 unfold extL Asc at *
 rw [List.pairwise_flatMap]
 refine ⟨fun p _ => ?_, h.imp fun {p q} hpq x hx y hy => ?_⟩
 ·rw [List.pairwise_map]
  exact (List.pairwise_lt_range (n := t.Inputs.toNat)).imp fun {a b} hab => cmp_same (by omega)
 ·obtain ⟨a, _, rfl⟩ := List.mem_map.1 hx
  obtain ⟨b, _, rfl⟩ := List.mem_map.1 hy
  exact cmp_snoc hpq
theorem sortW_of_asc {l : List (List Int)} (h : Asc l) : sortW l = l := asc_ext (sortW_asc l) h fun x => mem_sortW l x
def newRow (t : T_api_Table) (o : T_api_Obs) (w : List Int) : Bool := decide (rowO o w t.Suffixes ∉ t.Prefixes.map fun p => rowO o p t.Suffixes)
def unclT (t : T_api_Table) (o : T_api_Obs) : List Int × Bool × Int := if compT t o ≠ 0 then ([], false, compT t o) else match (extL t).find? (newRow t o) with | none => ([], false, 0) | some w => (w, true, 0)
theorem contains_eq {l : List Int} {x : Int} (hl : l.length ≤ 2000000) : slices_Contains_Sint_int l x = some (decide (x ∈ l)) := by
 unfold slices_Contains_Sint_int slices_Index_Sint_int
 have key := iter_post (step := fun s => slices_Index_Sint_int.s2 l x s) (fun k => k ≤ l.length ∧ x ∉ l.take k) (fun k => l.length - k) (fun r => match r with | .inl () => x ∉ l | .inr n => 0 ≤ n ∧ x ∈ l) (fun k ⟨g1, g2⟩ => by
  simp only [slices_Index_Sint_int.s2]
  by_cases g3 : k < l.length
  ·have hx := get_at g3
   rw [dec_lt hx, cond_true, idxn_at hx]
   by_cases e : x = l[k]
   ·right
    exact ⟨.inr (k : Int), by rw [decide_eq_true e, cond_true], by omega, by rw [e]; exact List.getElem_mem _⟩
   ·left
    refine ⟨k + 1, by rw [decide_eq_false e, cond_false], ⟨g3, ?_⟩, by omega⟩
    rw [take_step hx]
    exact fun h => (List.mem_append.1 h).elim g2 fun h => e (List.mem_singleton.1 h)
  ·right
   rw [List.take_of_length_le (by omega)] at g2
   exact ⟨.inl (), by rw [decide_eq_false (by omega), cond_false], g2⟩) fuel 0 ⟨Nat.zero_le _, by simp⟩ (by have := fuel_big; omega)
 obtain ⟨r, e, hq⟩ := key
 rw [e, obind]
 cases r with
 | inl u =>
  have hq : x ∉ l := hq
  simp only [Sum.elim_inl]
  rw [obind, decide_eq_false hq]
  rfl
 | inr n =>
  have hq : 0 ≤ n ∧ x ∈ l := hq
  simp only [Sum.elim_inr]
  rw [obind, decide_eq_true hq.1, decide_eq_true hq.2]
theorem view_has {t : T_api_Table} {o : T_api_Obs} {v : T_table_view} (hV : ViewOk t o v) {r : Row} {w : List Int} (hr : rowO o w t.Suffixes = some r) (hm : r ∈ v.rows) : ((↑(pos r v.rows) : Int) ∈ v.prefixes) ↔ newRow t o w = false := by
 unfold newRow
 rw [decide_eq_false_iff_not, Classical.not_not, hr, List.mem_map]
 constructor
 ·intro h
  obtain ⟨i, hi, e⟩ := List.mem_iff_getElem.1 h
  have hp := get_at (l := t.Prefixes) (i := i) (by rw [← hV.pl]; exact hi)
  obtain ⟨r', h1, h2, h3⟩ := hV.pre i _ hp
  rw [get_at hi, e] at h3
  injection h3 with h3
  have h4 := pos_inj hm h2 (by omega)
  exact ⟨_, List.getElem_mem _, by rw [h1, h4]⟩
 ·rintro ⟨p, hp, h⟩
  obtain ⟨i, hi, rfl⟩ := List.mem_iff_getElem.1 hp
  obtain ⟨r', h1, h2, h3⟩ := hV.pre i _ (get_at hi)
  rw [h1] at h
  injection h with h
  subst h
  exact List.mem_of_getElem? h3
theorem view_unclosed_eq {t : T_api_Table} {o : T_api_Obs} {v : T_table_view} (ht : TabOk t) (hV : ViewOk t o v) : ∃ i a b, table_view_unclosed v = some (i, a, b) ∧
  match (extL t).find? (newRow t o) with
  | none => b = false
  | some w => b = true ∧ ∃ (k : Nat) (p : List Int), i = (k : Int) ∧ t.Prefixes[k]? = some p ∧ w = p ++ [a] := by
 have hn := ht.n
 have hp := ht.p
 unfold table_view_unclosed
 have key := iter_post (step := fun s => table_view_unclosed.s14 v s) (fun k => k ≤ t.Prefixes.length ∧ ((t.Prefixes.take k).flatMap (exts t.Inputs.toNat)).find? (newRow t o) = none) (fun k => t.Prefixes.length - k)
  (fun r => match r with | .inl () => (extL t).find? (newRow t o) = none | .inr x => x.2.2 = true ∧ ∃ w, (extL t).find? (newRow t o) = some w ∧ ∃ (k : Nat) (p : List Int), x.1 = (k : Int) ∧ t.Prefixes[k]? = some p ∧ w = p ++ [x.2.1]) (fun k ⟨g1, g2⟩ => by
   simp only [table_view_unclosed.s14]
   rw [hV.nl]
   by_cases g3 : k < t.Prefixes.length
   ·have hx := get_at g3
    obtain ⟨l, hl1, hl2, hl3⟩ := hV.nxt k _ hx
    rw [decide_eq_true (by omega), cond_true, idxn_at hl1]
    have hsplit : extL t = (t.Prefixes.take k).flatMap (exts t.Inputs.toNat) ++ (exts t.Inputs.toNat t.Prefixes[k] ++ (t.Prefixes.drop (k + 1)).flatMap (exts t.Inputs.toNat)) := by
     have h1 : t.Prefixes = t.Prefixes.take k ++ t.Prefixes[k] :: t.Prefixes.drop (k + 1) := by
      rw [← List.drop_eq_getElem_cons g3, List.take_append_drop]
     have h2 : extL t = t.Prefixes.flatMap (exts t.Inputs.toNat) := rfl
     rw [h2]
     conv => lhs; rw [h1]
     rw [List.flatMap_append, List.flatMap_cons]
    have inner := iter_post (step := fun s => table_view_unclosed.s13 v k l s) (fun a => a ≤ t.Inputs.toNat ∧ (exts a t.Prefixes[k]).find? (newRow t o) = none) (fun a => t.Inputs.toNat - a)
     (fun r => match r with | .inl () => (exts t.Inputs.toNat t.Prefixes[k]).find? (newRow t o) = none | .inr x => ∃ a : Nat, x = .inr (.inr ((k : Int), (a : Int), true)) ∧ (exts t.Inputs.toNat t.Prefixes[k]).find? (newRow t o) = some (t.Prefixes[k] ++ [(↑a : Int)])) (fun a ⟨q1, q2⟩ => by
      simp only [table_view_unclosed.s13]
      rw [hl2]
      by_cases q3 : a < t.Inputs.toNat
      ·obtain ⟨r, hr1, hr2, hr3⟩ := hl3 a q3
       have hst : exts (a + 1) t.Prefixes[k] = exts a t.Prefixes[k] ++ [t.Prefixes[k] ++ [(↑a : Int)]] := by simp [exts, List.range_succ]
       have hiff := view_has hV hr1 hr2
       rw [decide_eq_true (by omega), cond_true, idxn_at hr3, contains_eq (by rw [hV.pl]; omega), obind]
       cases hnw : newRow t o (t.Prefixes[k] ++ [(↑a : Int)]) with
       | true =>
        right
        have hno : ¬ (↑(pos r v.rows) : Int) ∈ v.prefixes := fun h => by
         have := hiff.1 h
         rw [hnw] at this
         cases this
        refine ⟨.inr (.inr (.inr ((k : Int), (a : Int), true))), by rw [decide_eq_false hno]; rfl, a, rfl, ?_⟩
        have hfull : exts t.Inputs.toNat t.Prefixes[k] = exts a t.Prefixes[k] ++ ((t.Prefixes[k] ++ [(↑a : Int)]) :: ((List.range' (a + 1) (t.Inputs.toNat - (a + 1))).map fun (b : Nat) => t.Prefixes[k] ++ [(↑b : Int)])) := by
         have h1 : List.range t.Inputs.toNat = List.range a ++ a :: List.range' (a + 1) (t.Inputs.toNat - (a + 1)) := by
          rw [List.range_eq_range', List.range_eq_range', ← List.range'_succ, show t.Inputs.toNat - (a + 1) + 1 = t.Inputs.toNat - a by omega]
          have := List.range'_append_1 (s := 0) (m := a) (n := t.Inputs.toNat - a)
          rw [Nat.zero_add, show a + (t.Inputs.toNat - a) = t.Inputs.toNat by omega] at this
          exact this.symm
         unfold exts
         rw [h1, List.map_append, List.map_cons]
        rw [hfull, List.find?_append, q2, List.find?_cons_of_pos (by rw [hnw])]
        rfl
       | false =>
        left
        refine ⟨a + 1, by rw [decide_eq_true (hiff.2 hnw)]; rfl, ⟨q3, ?_⟩, by omega⟩
        rw [hst, List.find?_append, q2, List.find?_cons_of_neg (by rw [hnw]; simp)]
        rfl
      ·right
       have e : a = t.Inputs.toNat := by omega
       subst e
       exact ⟨.inl (), by rw [decide_eq_false (by omega), cond_false], q2⟩) fuel 0 ⟨Nat.zero_le _, rfl⟩ (by have := fuel_big; omega)
    obtain ⟨r, e, hq⟩ := inner
    rw [e, obind]
    cases r with
    | inl u =>
     have hq : (exts t.Inputs.toNat t.Prefixes[k]).find? (newRow t o) = none := hq
     left
     refine ⟨k + 1, rfl, ⟨g3, ?_⟩, by omega⟩
     rw [take_step hx, List.flatMap_append, List.find?_append, g2]
     simp [hq]
    | inr x =>
     right
     obtain ⟨a, rfl, h2⟩ := hq
     refine ⟨.inr ((k : Int), (a : Int), true), rfl, rfl, t.Prefixes[k] ++ [(↑a : Int)], ?_, k, _, rfl, hx, rfl⟩
     rw [hsplit, List.find?_append, g2, List.find?_append, h2]
     rfl
   ·right
    have e : k = t.Prefixes.length := by omega
    subst e
    rw [List.take_length] at g2
    exact ⟨.inl (), by rw [decide_eq_false (by omega), cond_false], g2⟩) fuel 0 ⟨Nat.zero_le _, rfl⟩ (by have := fuel_big; omega)
 obtain ⟨r, e, hq⟩ := key
 rw [e, obind]
 cases r with
 | inl u =>
  have hq : (extL t).find? (newRow t o) = none := hq
  refine ⟨0, 0, false, rfl, ?_⟩
  rw [hq]
 | inr x =>
  obtain ⟨h1, w, h2, h3⟩ := hq
  obtain ⟨i, a, b⟩ := x
  refine ⟨i, a, b, rfl, ?_⟩
  rw [h2]
  exact ⟨h1, h3⟩
theorem R23_find_eq {t : T_api_Table} {o : T_api_Obs} {w : List Int} (ht : TabOk t) (ho : SmO o) (hv : ObsOk o) (hA : AllRows t o) {r : Row} (hw : SmW w) (hr : rowO o w t.Suffixes = some r) :
  ∃ n, R23_find t o w = some n ∧ ((n < 0 ↔ newRow t o w = true) ∧ ∀ k : Nat, n = (k : Int) → (∃ p, t.Prefixes[k]? = some p ∧ rowO o p t.Suffixes = some r) ∧ ∀ j p, j < k → t.Prefixes[j]? = some p → rowO o p t.Suffixes ≠ some r) := by
 have hS := ht.sm.2.2.1
 have hp := ht.p
 unfold R23_find
 rw [R23_row_eq ho hv hS hw, obind, hr]
 have key := iter_post (step := fun s => R23_find.s2 t o (tw (some r)) s) (fun k => k ≤ t.Prefixes.length ∧ ∀ j p, j < k → t.Prefixes[j]? = some p → rowO o p t.Suffixes ≠ some r) (fun k => t.Prefixes.length - k)
  (fun x => match x with | .inl () => ∀ p ∈ t.Prefixes, rowO o p t.Suffixes ≠ some r | .inr n => ∃ k : Nat, n = (k : Int) ∧ (∃ p, t.Prefixes[k]? = some p ∧ rowO o p t.Suffixes = some r) ∧ ∀ j p, j < k → t.Prefixes[j]? = some p → rowO o p t.Suffixes ≠ some r) (fun k ⟨g1, g2⟩ => by
   simp only [R23_find.s2]
   by_cases g3 : k < t.Prefixes.length
   ·have hx := get_at g3
    have hxm : SmW t.Prefixes[k] := ht.sm.2.1.2 _ (List.getElem_mem _)
    obtain ⟨q, hq⟩ := hA _ (List.getElem_mem g3) _ (by simp [withX] : t.Prefixes[k] ∈ withX t.Inputs.toNat t.Prefixes[k])
    have hqs := rowO_rsm hv ht hq
    rw [dec_lt hx, cond_true, idxn_at hx, R23_row_eq ho hv hS hxm, obind, hq]
    simp only [tw]
    rw [R06_Lists_eq q r (by have := hqs.1; omega) (fun x hx => by have := (hqs.2 x hx).1; omega), obind]
    by_cases e : q = r
    ·right
     subst e
     refine ⟨.inr (k : Int), by rw [decide_eq_true rfl, cond_true], k, rfl, ⟨_, hx, hq⟩, g2⟩
    ·left
     refine ⟨k + 1, by rw [decide_eq_false e, cond_false], ⟨g3, fun j p hj hpj => ?_⟩, by omega⟩
     rcases Nat.lt_or_ge j k with h | h
     ·exact g2 j p h hpj
     ·have ej : j = k := by omega
      subst ej
      rw [hx] at hpj
      injection hpj with hpj
      subst hpj
      rw [hq]
      simpa using e
   ·right
    refine ⟨.inl (), by rw [decide_eq_false (by omega), cond_false], fun p hpm => ?_⟩
    obtain ⟨j, hj, rfl⟩ := List.mem_iff_getElem.1 hpm
    exact g2 j _ (by omega) (get_at hj)) fuel 0 ⟨Nat.zero_le _, fun j p h => by omega⟩ (by have := fuel_big; omega)
 obtain ⟨x, e, hq⟩ := key
 rw [e, obind]
 cases x with
 | inl u =>
  have hq : ∀ p ∈ t.Prefixes, rowO o p t.Suffixes ≠ some r := hq
  refine ⟨-1, rfl, ⟨fun _ => ?_, fun _ => by decide⟩, fun k hk => by omega⟩
  unfold newRow
  rw [hr]
  exact decide_eq_true fun h => by
   obtain ⟨p, hp, h2⟩ := List.mem_map.1 h
   exact hq p hp h2
 | inr n =>
  obtain ⟨k, rfl, ⟨p, hp1, hp2⟩, h3⟩ := hq
  refine ⟨k, rfl, ⟨fun h => by omega, fun h => ?_⟩, fun k' hk => ?_⟩
  ·unfold newRow at h
   rw [hr] at h
   exact absurd (List.mem_map.2 ⟨p, List.mem_of_getElem? hp1, hp2⟩) (of_decide_eq_true h)
  ·have : k' = k := by omega
   subst this
   exact ⟨⟨p, hp1, hp2⟩, h3⟩
theorem R23_Unclosed_eq {t : T_api_Table} {o : T_api_Obs} (ht : TabOk t) (ho : SmO o) (hv : ObsOk o) : R23_Unclosed t o = some (unclT t o) := by
 unfold R23_Unclosed unclT
 rw [R23_complete_eq ht ho hv, obind]
 by_cases h : compT t o = 0
 ·rw [decide_eq_false (by simpa using h), cond_false, if_neg (by simpa using h)]
  have hc : chkT t o = 0 ∧ AllRows t o := by
   unfold compT at h
   split at h
   ·rename_i h1; exact absurd h h1
   ·rename_i h1
    split at h
    ·rename_i h2; exact ⟨by simpa using h1, need_nil.1 h2⟩
    ·cases h
  have hval : validT t = 0 := by
   have := hc.1
   unfold chkT at this
   split at this
   ·rename_i h1; exact absurd this h1
   ·rename_i h1; simpa using h1
  obtain ⟨_, _, hAp, _⟩ := valid_asc hval
  obtain ⟨hE1, hE2⟩ := R23_Extensions_eq ht
  have hE3 : (extL t).length ≤ 2000000 := hE2.1
  rw [hE1, obind, sortW_of_asc (extL_asc hAp)]
  have key := iter_scan (step := fun s => R23_Unclosed.s2 t o (extL t) s) (l := extL t) (fun _ w => if newRow t o w = true then some (w, true, (0 : Int)) else none) (fun i w hw => by
   have hwm := List.mem_of_getElem? hw
   obtain ⟨p, hpm, h2⟩ := List.mem_flatMap.1 hwm
   obtain ⟨r, hr⟩ := hc.2 p hpm w (List.mem_cons_of_mem _ h2)
   obtain ⟨n, h3, h4, _⟩ := R23_find_eq ht ho hv hc.2 (hE2.2 w hwm) hr
   simp only [R23_Unclosed.s2]
   rw [dec_lt hw, cond_true, idxn_at hw, h3, obind]
   by_cases hn : n < 0
   ·rw [decide_eq_true hn, cond_true, idxn_at hw, if_pos (h4.1 hn)]
   ·rw [decide_eq_false hn, cond_false, if_neg (fun h => hn (h4.2 h))]) (by
   simp only [R23_Unclosed.s2]
   rw [dec_end]
   rfl) (by omega)
  rw [key, obind]
  have key2 : ∀ (l : List (List Int)) (j : Nat), scan (fun _ w => if newRow t o w = true then some (w, true, (0 : Int)) else none) j l = (l.find? (newRow t o)).map fun w => (w, true, (0 : Int)) := by
   intro l
   induction l with
   | nil => intro j; rfl
   | cons w l ih =>
    intro j
    unfold scan
    by_cases h : newRow t o w = true
    ·rw [if_pos h, List.find?_cons_of_pos h]
     rfl
    ·rw [if_neg h, List.find?_cons_of_neg h]
     exact ih _
  rw [key2]
  cases (extL t).find? (newRow t o) <;> rfl
 ·rw [decide_eq_true h, cond_true, if_pos h]
end Go.Proofs.YtpmebphhbgpapaaGreatDoor.Sym

/-
 The suffix that shows that a table is not consistent, and the law of TableRepairs. Plain laws.
-/
namespace Go.Proofs.YtpmebphhbgpapaaGreatDoor.Sym
set_option maxRecDepth 100000
section
variable {α R T : Type}
theorem scan_map {g : Nat → α → Option R} {f : R → T} : ∀ (l : List α) (j : Nat), scan (fun i x => (g i x).map f) j l = (scan g j l).map f
 | [], _ => rfl
 | x :: l, j => by
  unfold scan
  cases g j x with
  | some r => rfl
  | none => exact scan_map l (j + 1)
theorem elim_l {α β γ : Type} {f : α → γ} {g : β → γ} {a : α} : Sum.elim f g (Sum.inl a) = f a := (Sum.elim_inl f g a).trans (Eq.trans rfl rfl)
theorem iter_scan_at {step : Nat → Option (Nat ⊕ (Unit ⊕ R))} {l : List α} (g : Nat → α → Option R) (j : Nat) (hj : j ≤ l.length) (h1 : ∀ i x, j ≤ i → l[i]? = some x → step i = some (match g i x with | some r => .inr (.inr r) | none => .inl (i + 1))) (h2 : step l.length = some (.inr (.inl ()))) (hl : l.length ≤ 100000000000000) :
  iter step fuel j = some (match scan g j (l.drop j) with | some r => .inr r | none => .inl ()) := by
 have key : ∀ (n i : Nat), j ≤ i → i ≤ l.length → l.length - i < n → iter step n i = some (match scan g i (l.drop i) with | some r => .inr r | none => .inl ()) := by
  intro n
  induction n with
  | zero => intro i _ _ h; omega
  | succ n ih =>
   intro i hji hi hn
   rcases Nat.lt_or_ge i l.length with h | h
   ·rw [List.drop_eq_getElem_cons h]
    unfold iter scan
    rw [h1 i _ hji (List.getElem?_eq_getElem h)]
    cases g i l[i] with
    | some r => rfl
    | none => exact ih (i + 1) (by omega) h (by omega)
   ·have e : i = l.length := by omega
    subst e
    rw [List.drop_length]
    unfold iter scan
    rw [h2]
 exact key fuel j (Nat.le_refl _) hj (by have := fuel_big; omega)
end
def rowG (t : T_api_Table) (o : T_api_Obs) (w : List Int) : Row := (rowO o w t.Suffixes).getD []
def dP (a : Nat) (x y : Row) : Option (Int × Int × Bool) := scan (fun e u => if y[e]? = some u then none else some ((↑a : Int), (↑e : Int), true)) 0 x
def pP (t : T_api_Table) (o : T_api_Obs) (p q : List Int) : Option (Int × Int × Bool) := scan (fun _ (a : Nat) => dP a (rowG t o (p ++ [(↑a : Int)])) (rowG t o (q ++ [(↑a : Int)]))) 0 (List.range t.Inputs.toNat)
def iP (t : T_api_Table) (o : T_api_Obs) : Option (Int × Int × Bool) := scan (fun i p => scan (fun _ q => if rowO o p t.Suffixes = rowO o q t.Suffixes then pP t o p q else none) (i + 1) (t.Prefixes.drop (i + 1))) 0 t.Prefixes
def toW (t : T_api_Table) (x : Int × Int × Bool) : List Int := x.1 :: (t.Suffixes[x.2.1.toNat]?).getD []
def incT (t : T_api_Table) (o : T_api_Obs) : List Int × Bool × Int := if compT t o ≠ 0 then ([], false, compT t o) else match iP t o with | none => ([], false, 0) | some x => (toW t x, true, 0)
theorem slices_Equal_eq (a b : List Int) (hl : a.length ≤ 100000000000000) : slices_Equal_Sint_int a b = some (decide (a = b)) := by
 unfold slices_Equal_Sint_int
 by_cases hlen : a.length = b.length
 ·rw [decide_eq_false (by omega), cond_false]
  refine iter_all2 hlen (fun i x y hx hy => ?_) ?_ hl
  ·simp only [slices_Equal_Sint_int.s2]
   rw [dec_lt hx, cond_true, idxn_at hx, idxn_at hy]
   by_cases h : x = y <;> simp [h]
  ·simp only [slices_Equal_Sint_int.s2]
   rw [dec_end]
   rfl
 ·rw [decide_eq_true (by omega), cond_true]
  have : a ≠ b := fun h => hlen (by rw [h])
  simp [this]
theorem scan_inv2 {α R : Type} {g : Nat → α → Option R} {Q : R → Prop} : ∀ {l : List α} {j : Nat} {r : R}, scan g j l = some r → (∀ i x r, l[i]? = some x → g (j + i) x = some r → Q r) → Q r
 | [], _, _, h, _ => by cases h
 | x :: l, j, r, h, hQ => by
  unfold scan at h
  cases e : g j x with
  | some r' =>
   rw [e] at h
   injection h with h
   subst h
   exact hQ 0 x _ rfl (by simpa using e)
  | none =>
   rw [e] at h
   exact scan_inv2 h fun i y r hy hg => hQ (i + 1) y r (by simpa using hy) (by rw [show j + (i + 1) = j + 1 + i by omega]; exact hg)
def RowsAlike (x y : Row) : Prop := x.length = y.length ∧ RowSm x ∧ RowSm y
theorem dP_prog {a : Nat} {x y : Row} (h : RowsAlike x y) : iter (fun s => table_view_inconsistent.s1019 a x y s) fuel 0 = some (match (dP a x y).map fun r => (.inr (.inr (.inr (.inr (.inr (.inr (.inr r)))))) : Nat ⊕ (Unit ⊕ (Unit ⊕ (Nat ⊕ (Unit ⊕ (Nat ⊕ (Unit ⊕ (Int × Int × Bool)))))))) with | some r => .inr r | none => .inl ()) := by
 obtain ⟨h1, h2, h3⟩ := h
 have hx0 := h2.1
 have key := iter_scan (step := fun s => table_view_inconsistent.s1019 a x y s) (l := x) (fun e u => (if y[e]? = some u then none else some ((↑a : Int), (↑e : Int), true)).map fun r => (.inr (.inr (.inr (.inr (.inr (.inr (.inr r)))))) : Nat ⊕ (Unit ⊕ (Unit ⊕ (Nat ⊕ (Unit ⊕ (Nat ⊕ (Unit ⊕ (Int × Int × Bool))))))))) (fun e u hu => by
  have he := (List.getElem?_eq_some_iff.1 hu).1
  have hw := get_at (l := y) (i := e) (by omega)
  have hus := (h2.2 u (List.mem_of_getElem? hu)).1
  simp only [table_view_inconsistent.s1019]
  rw [dec_lt hu, cond_true, idxn_at hu, idxn_at hw, slices_Equal_eq _ _ (by omega), obind]
  by_cases h4 : u = y[e]'(by omega)
  ·rw [decide_eq_true h4, if_pos (by rw [hw, h4])]
   rfl
  ·rw [decide_eq_false h4, if_neg (fun h => h4 (by rw [hw] at h; injection h with h; exact h.symm))]
   rfl) (by
  simp only [table_view_inconsistent.s1019]
  rw [dec_end]
  rfl) (by omega)
 rw [key, scan_map]
 unfold dP
 cases scan (fun e u => if y[e]? = some u then none else some ((↑a : Int), (↑e : Int), true)) 0 x <;> rfl
theorem rowG_some {t : T_api_Table} {o : T_api_Obs} {w : List Int} {r : Row} (h : rowO o w t.Suffixes = some r) : rowG t o w = r := by unfold rowG; rw [h]; rfl
theorem rows_alike {t : T_api_Table} {o : T_api_Obs} (ht : TabOk t) (hv : ObsOk o) {u w : List Int} {x y : Row} (hx : rowO o u t.Suffixes = some x) (hy : rowO o w t.Suffixes = some y) : RowsAlike x y :=
 ⟨by rw [(rowO_sml hv hx).1, (rowO_sml hv hy).1], rowO_rsm hv ht hx, rowO_rsm hv ht hy⟩
theorem pP_prog {t : T_api_Table} {o : T_api_Obs} {v : T_table_view} (ht : TabOk t) (hv : ObsOk o) (hV : ViewOk t o v) {i k : Nat} {p q : List Int} (hp : t.Prefixes[i]? = some p) (hq : t.Prefixes[k]? = some q) {l : List Int} (hl : v.next[i]? = some l) :
  iter (fun s => table_view_inconsistent.s1020 v i k l s) fuel 0 = some (match (pP t o p q).map fun r => (.inr (.inr (.inr (.inr (.inr r)))) : Unit ⊕ (Nat ⊕ (Unit ⊕ (Nat ⊕ (Unit ⊕ (Int × Int × Bool)))))) with | some r => .inr r | none => .inl ()) := by
 have hn := ht.n
 obtain ⟨l1, g1, g2, g3⟩ := hV.nxt i p hp
 rw [hl] at g1
 injection g1 with g1
 subst g1
 obtain ⟨l2, f1, f2, f3⟩ := hV.nxt k q hq
 have key := iter_scan (step := fun s => table_view_inconsistent.s1020 v i k l s) (l := List.range t.Inputs.toNat) (fun _ (a : Nat) => (dP a (rowG t o (p ++ [(↑a : Int)])) (rowG t o (q ++ [(↑a : Int)]))).map fun r => (.inr (.inr (.inr (.inr (.inr r)))) : Unit ⊕ (Nat ⊕ (Unit ⊕ (Nat ⊕ (Unit ⊕ (Int × Int × Bool))))))) (fun a a' ha => by
  have han : a < t.Inputs.toNat := by
   have := (List.getElem?_eq_some_iff.1 ha).1
   simpa using this
  rw [List.getElem?_range han] at ha
  injection ha with ha
  subst ha
  obtain ⟨x, x1, x2, x3⟩ := g3 a han
  obtain ⟨y, y1, y2, y3⟩ := f3 a han
  simp only [table_view_inconsistent.s1020]
  rw [g2, decide_eq_true (by omega), cond_true, idxn_at hl, idxn_at x3, idx_at rfl (pos_get x2), idxn_at f1, idxn_at y3, idx_at rfl (pos_get y2), dP_prog (rows_alike ht hv x1 y1), obind, rowG_some x1, rowG_some y1]
  cases dP a x y with
  | some r => rfl
  | none =>
   show Sum.elim _ _ (Sum.inl ()) = _
   rw [elim_l, chk_pos (by unfold inR; omega)]
   rfl) (by
  simp only [table_view_inconsistent.s1020]
  rw [g2, List.length_range, decide_eq_false (by omega)]
  rfl) (by simp; omega)
 rw [key, scan_map]
 unfold pP
 cases scan (fun _ (a : Nat) => dP a (rowG t o (p ++ [(↑a : Int)])) (rowG t o (q ++ [(↑a : Int)]))) 0 (List.range t.Inputs.toNat) <;> rfl
theorem iP_prog {t : T_api_Table} {o : T_api_Obs} {v : T_table_view} (ht : TabOk t) (hv : ObsOk o) (hV : ViewOk t o v) : table_view_inconsistent v = some (match iP t o with | some r => r | none => (0, 0, false)) := by
 have hpl := ht.p
 unfold table_view_inconsistent
 have outer := iter_scan (step := fun s => table_view_inconsistent.s1022 v s) (l := t.Prefixes) (fun i p => scan (fun _ q => if rowO o p t.Suffixes = rowO o q t.Suffixes then pP t o p q else none) (i + 1) (t.Prefixes.drop (i + 1))) (fun i p hp => by
  have hi := (List.getElem?_eq_some_iff.1 hp).1
  obtain ⟨r, r1, r2, r3⟩ := hV.pre i p hp
  obtain ⟨l, l1, l2, l3⟩ := hV.nxt i p hp
  have inner := iter_scan_at (step := fun s => table_view_inconsistent.s1021 v i (↑(pos r v.rows) : Int) s) (l := t.Prefixes) (fun _ q => (if rowO o p t.Suffixes = rowO o q t.Suffixes then pP t o p q else none).map fun r => (.inr (.inr r) : Nat ⊕ (Unit ⊕ (Int × Int × Bool)))) (i + 1) (by omega) (fun k q _ hq => by
   have hk := (List.getElem?_eq_some_iff.1 hq).1
   obtain ⟨s, s1, s2, s3⟩ := hV.pre k q hq
   simp only [table_view_inconsistent.s1021]
   rw [hV.pl, decide_eq_true (by omega), cond_true, idxn_at s3]
   by_cases h : r = s
   ·subst h
    rw [decide_eq_false (by simp), cond_false, idxn_at l1, pP_prog ht hv hV hp hq l1, obind, if_pos (by rw [r1, s1])]
    cases pP t o p q <;> rfl
   ·have h2 : ¬ (↑(pos s v.rows) : Int) = ↑(pos r v.rows) := fun e => h (pos_inj r2 s2 (by omega))
    rw [decide_eq_true h2, cond_true, if_neg (by rw [r1, s1]; simpa using h)]
    rfl) (by
   simp only [table_view_inconsistent.s1021]
   rw [hV.pl, decide_eq_false (by omega), cond_false]) (by omega)
  simp only [table_view_inconsistent.s1022]
  rw [hV.pl, decide_eq_true (by omega), cond_true, idxn_at r3, inner, obind, scan_map]
  cases scan (fun _ q => if rowO o p t.Suffixes = rowO o q t.Suffixes then pP t o p q else none) (i + 1) (t.Prefixes.drop (i + 1)) <;> rfl) (by
  simp only [table_view_inconsistent.s1022]
  rw [hV.pl, decide_eq_false (by omega), cond_false]) (by omega)
 rw [outer, obind]
 unfold iP
 cases scan (fun i p => scan (fun _ q => if rowO o p t.Suffixes = rowO o q t.Suffixes then pP t o p q else none) (i + 1) (t.Prefixes.drop (i + 1))) 0 t.Prefixes <;> rfl
theorem iP_range {t : T_api_Table} {o : T_api_Obs} (hv : ObsOk o) (hA : AllRows t o) {x : Int × Int × Bool} (h : iP t o = some x) : x.2.2 = true ∧ ∃ a e : Nat, x.1 = (a : Int) ∧ x.2.1 = (e : Int) ∧ a < t.Inputs.toNat ∧ e < t.Suffixes.length := by
 refine scan_inv2 (Q := fun x => x.2.2 = true ∧ ∃ a e : Nat, x.1 = (a : Int) ∧ x.2.1 = (e : Int) ∧ a < t.Inputs.toNat ∧ e < t.Suffixes.length) h fun i p r hp hr => ?_
 refine scan_inv2 (Q := fun x => x.2.2 = true ∧ ∃ a e : Nat, x.1 = (a : Int) ∧ x.2.1 = (e : Int) ∧ a < t.Inputs.toNat ∧ e < t.Suffixes.length) hr fun k q r hq hr => ?_
 split at hr
 ·refine scan_inv2 (Q := fun x => x.2.2 = true ∧ ∃ a e : Nat, x.1 = (a : Int) ∧ x.2.1 = (e : Int) ∧ a < t.Inputs.toNat ∧ e < t.Suffixes.length) hr fun a a' r ha hr => ?_
  have han : a < t.Inputs.toNat := by
   have := (List.getElem?_eq_some_iff.1 ha).1
   simpa using this
  rw [List.getElem?_range han] at ha
  injection ha with ha
  subst ha
  refine scan_inv2 (Q := fun x => x.2.2 = true ∧ ∃ a e : Nat, x.1 = (a : Int) ∧ x.2.1 = (e : Int) ∧ a < t.Inputs.toNat ∧ e < t.Suffixes.length) hr fun e u r hu hr => ?_
  split at hr
  ·cases hr
  ·injection hr with hr
   subst hr
   refine ⟨rfl, a, 0 + e, rfl, rfl, han, ?_⟩
   obtain ⟨z, hz⟩ := hA p (List.mem_of_getElem? hp) (p ++ [(↑a : Int)]) (List.mem_cons_of_mem _ (List.mem_map.2 ⟨a, List.mem_range.2 han, rfl⟩))
   rw [rowG_some hz] at hu
   have h1 := (List.getElem?_eq_some_iff.1 hu).1
   have h2 := (rowO_sml hv hz).1
   omega
 ·cases hr
theorem dP_ref {t : T_api_Table} {a : Nat} {x y : Row} (ht : TabOk t) (h : RowsAlike x y) (hx : x.length = t.Suffixes.length) : iter (fun s => R23_parting.s13 t a (x, true) (y, true) s) fuel 0 = some (match (dP a x y).map fun r => (.inr (.inr (toW t r, true)) : Nat ⊕ (Unit ⊕ (List Int × Bool))) with | some r => .inr r | none => .inl ()) := by
 obtain ⟨h1, h2, h3⟩ := h
 have hx0 := h2.1
 have key := iter_scan (step := fun s => R23_parting.s13 t a (x, true) (y, true) s) (l := x) (fun e u => (if y[e]? = some u then none else some ((↑a : Int), (↑e : Int), true)).map fun r => (.inr (.inr (toW t r, true)) : Nat ⊕ (Unit ⊕ (List Int × Bool)))) (fun e u hu => by
  have he := (List.getElem?_eq_some_iff.1 hu).1
  have hw := get_at (l := y) (i := e) (by omega)
  have hse := get_at (l := t.Suffixes) (i := e) (by omega)
  have hus := (h2.2 u (List.mem_of_getElem? hu)).1
  simp only [R23_parting.s13]
  rw [dec_lt hu, cond_true, idxn_at hu, idxn_at hw, R06_Ints_eq _ _ (by omega), obind]
  by_cases h4 : u = y[e]'(by omega)
  ·rw [decide_eq_true h4, if_pos (by rw [hw, h4])]
   rfl
  ·rw [decide_eq_false h4, if_neg (fun h => h4 (by rw [hw] at h; injection h with h; exact h.symm))]
   simp only [Bool.not_false, cond_true]
   rw [idxn_at hse, R23_Joined_eq (by simp [SmW]) (ht.sm.2.2.1.2 _ (List.getElem_mem _)), obind]
   simp [toW, hse]) (by
  simp only [R23_parting.s13]
  rw [dec_end]
  rfl) (by omega)
 rw [key, scan_map]
 unfold dP
 cases scan (fun e u => if y[e]? = some u then none else some ((↑a : Int), (↑e : Int), true)) 0 x <;> rfl
theorem pP_ref {t : T_api_Table} {o : T_api_Obs} (ht : TabOk t) (ho : SmO o) (hv : ObsOk o) (hA : AllRows t o) {p q : List Int} (hp : p ∈ t.Prefixes) (hq : q ∈ t.Prefixes) : R23_parting t o p q = some (match pP t o p q with | some r => (toW t r, true) | none => ([], false)) := by
 have hn := ht.n
 have hS := ht.sm.2.2.1
 have hpl := ht.pw p hp
 have hql := ht.pw q hq
 unfold R23_parting
 have key := iter_scan (step := fun s => R23_parting.s14 t o p q s) (l := List.range t.Inputs.toNat) (fun _ (a : Nat) => (dP a (rowG t o (p ++ [(↑a : Int)])) (rowG t o (q ++ [(↑a : Int)]))).map fun r => (toW t r, true)) (fun a a' ha => by
  have han : a < t.Inputs.toNat := by
   have := (List.getElem?_eq_some_iff.1 ha).1
   simpa using this
  rw [List.getElem?_range han] at ha
  injection ha with ha
  subst ha
  obtain ⟨x, hx⟩ := hA p hp (p ++ [(↑a : Int)]) (List.mem_cons_of_mem _ (List.mem_map.2 ⟨a, List.mem_range.2 han, rfl⟩))
  obtain ⟨y, hy⟩ := hA q hq (q ++ [(↑a : Int)]) (List.mem_cons_of_mem _ (List.mem_map.2 ⟨a, List.mem_range.2 han, rfl⟩))
  have hpw : SmW (p ++ [(↑a : Int)]) := by unfold SmW; simp; omega
  have hqw : SmW (q ++ [(↑a : Int)]) := by unfold SmW; simp; omega
  simp only [R23_parting.s14]
  rw [decide_eq_true (by omega), cond_true, R23_Joined_eq (by unfold SmW; omega) (by simp [SmW]), obind, R23_row_eq ho hv hS hpw, obind, R23_Joined_eq (by unfold SmW; omega) (by simp [SmW]), obind, R23_row_eq ho hv hS hqw, obind, hx, hy, dP_ref ht (rows_alike ht hv hx hy) (rowO_sml hv hx).1, obind, rowG_some hx, rowG_some hy]
  cases dP a x y with
  | some r => rfl
  | none =>
   show Sum.elim _ _ (Sum.inl ()) = _
   rw [elim_l, chk_pos (by unfold inR; omega)]
   rfl) (by
  simp only [R23_parting.s14]
  rw [List.length_range, decide_eq_false (by omega)]
  rfl) (by simp; omega)
 rw [key, obind, scan_map]
 unfold pP
 cases scan (fun _ (a : Nat) => dP a (rowG t o (p ++ [(↑a : Int)])) (rowG t o (q ++ [(↑a : Int)]))) 0 (List.range t.Inputs.toNat) <;> rfl
theorem R23_Inconsistent_eq {t : T_api_Table} {o : T_api_Obs} (ht : TabOk t) (ho : SmO o) (hv : ObsOk o) : R23_Inconsistent t o = some (incT t o) := by
 have hpl := ht.p
 have hS := ht.sm.2.2.1
 unfold R23_Inconsistent incT
 rw [R23_complete_eq ht ho hv, obind]
 by_cases h : compT t o = 0
 ·rw [decide_eq_false (by simpa using h), cond_false, if_neg (by simpa using h)]
  have hA : AllRows t o := by
   unfold compT at h
   split at h
   ·rename_i h1; exact absurd h h1
   ·split at h
    ·rename_i h2; exact need_nil.1 h2
    ·cases h
  have hrow : ∀ p ∈ t.Prefixes, ∃ r, rowO o p t.Suffixes = some r := fun p hp => hA p hp p (by simp [withX])
  have outer := iter_scan (step := fun s => R23_Inconsistent.s14 t o s) (l := t.Prefixes) (fun i p => (scan (fun _ q => if rowO o p t.Suffixes = rowO o q t.Suffixes then pP t o p q else none) (i + 1) (t.Prefixes.drop (i + 1))).map fun r => (toW t r, true, (0 : Int))) (fun i p hp => by
   have hi := (List.getElem?_eq_some_iff.1 hp).1
   have hpm := List.mem_of_getElem? hp
   obtain ⟨r, hr⟩ := hrow p hpm
   have inner := iter_scan_at (step := fun s => R23_Inconsistent.s13 t o i s) (l := t.Prefixes) (fun _ q => (if rowO o p t.Suffixes = rowO o q t.Suffixes then pP t o p q else none).map fun r => (.inr (.inr (toW t r, true, (0 : Int))) : Nat ⊕ (Unit ⊕ (List Int × Bool × Int)))) (i + 1) (by omega) (fun k q _ hq => by
    have hqm := List.mem_of_getElem? hq
    obtain ⟨s, hs⟩ := hrow q hqm
    have hrs := rowO_rsm hv ht hr
    simp only [R23_Inconsistent.s13]
    rw [dec_lt hq, cond_true, idxn_at hp, R23_row_eq ho hv hS (ht.sm.2.1.2 p hpm), obind, idxn_at hq, R23_row_eq ho hv hS (ht.sm.2.1.2 q hqm), obind, hr, hs]
    simp only [tw]
    rw [R06_Lists_eq r s (by have := hrs.1; omega) (fun x hx => by have := (hrs.2 x hx).1; omega), obind]
    by_cases h : r = s
    ·subst h
     rw [decide_eq_true rfl, if_pos rfl]
     simp only [Bool.not_true, cond_false]
     rw [idxn_at hp, idxn_at hq, pP_ref ht ho hv hA hpm hqm, obind]
     cases pP t o p q <;> rfl
    ·rw [decide_eq_false h, if_neg (by simpa using h)]
     rfl) (by
    simp only [R23_Inconsistent.s13]
    rw [dec_end]
    rfl) (by omega)
   simp only [R23_Inconsistent.s14]
   rw [dec_lt hp, cond_true, inner, obind, scan_map]
   cases scan (fun _ q => if rowO o p t.Suffixes = rowO o q t.Suffixes then pP t o p q else none) (i + 1) (t.Prefixes.drop (i + 1)) <;> rfl) (by
   simp only [R23_Inconsistent.s14]
   rw [dec_end]
   rfl) (by omega)
  rw [outer, obind, scan_map]
  unfold iP
  cases scan (fun i p => scan (fun _ q => if rowO o p t.Suffixes = rowO o q t.Suffixes then pP t o p q else none) (i + 1) (t.Prefixes.drop (i + 1))) 0 t.Prefixes <;> rfl
 ·rw [decide_eq_true h, cond_true, if_pos h]
end Go.Proofs.YtpmebphhbgpapaaGreatDoor.Sym

/-
 Every repair adds one word: plain law of TableProgress.
-/
namespace Go.Proofs.YtpmebphhbgpapaaGreatDoor.Sym
set_option maxRecDepth 100000
theorem compT_zero {t : T_api_Table} {o : T_api_Obs} (h : compT t o = 0) : validT t = 0 ∧ t.Inputs = o.Inputs ∧ AllRows t o := by
 unfold compT at h
 split at h
 ·rename_i h1; exact absurd h h1
 ·rename_i h1
  split at h
  ·rename_i h2
   have h1 : chkT t o = 0 := by simpa using h1
   unfold chkT at h1
   split at h1
   ·rename_i h3; exact absurd h1 h3
   ·rename_i h3
    split at h1
    ·cases h1
    ·rename_i h4
     exact ⟨by simpa using h3, by simpa using h4, need_nil.1 h2⟩
  ·cases h
theorem valid_has {t : T_api_Table} (h : validT t = 0) : (∀ w ∈ t.Prefixes, checkI w t.Inputs = 0) ∧ (∀ w ∈ t.Prefixes, 0 < w.length → w.take (w.length - 1) ∈ t.Prefixes) ∧ [] ∈ t.Prefixes ∧ ∀ w ∈ t.Suffixes, checkI w t.Inputs = 0 ∧ w.length ≠ 0 := by
 obtain ⟨_, _, _, _, _, e1, e2, hne⟩ := valid_asc h
 have key : ∀ (i : Nat) w, t.Prefixes[i]? = some w → checkI w t.Inputs = 0 ∧ ¬ (i = 0 ∧ 0 < w.length) ∧ (0 < w.length → w.take (w.length - 1) ∈ t.Prefixes) := fun i w hw => by
  have := scan_none.1 e1 i w hw
  rw [Nat.zero_add] at this
  unfold preG at this
  split at this
  ·cases this
  ·rename_i h1
   split at this
   ·cases this
   ·rename_i h2
    split at this
    ·cases this
    ·rename_i h3
     refine ⟨by simpa using h1, fun h4 => h2 (Or.inl h4), fun h4 => ?_⟩
     refine Classical.byContradiction fun h5 => h3 ⟨h4, decide_eq_false h5⟩
 refine ⟨fun w hw => ?_, fun w hw => ?_, ?_, (sufG_none e2).2⟩
 ·obtain ⟨i, hi, rfl⟩ := List.mem_iff_getElem.1 hw
  exact (key i _ (get_at hi)).1
 ·obtain ⟨i, hi, rfl⟩ := List.mem_iff_getElem.1 hw
  exact (key i _ (get_at hi)).2.2
 ·have hl : 0 < t.Prefixes.length := List.length_pos_iff.2 hne
  have := (key 0 _ (get_at hl)).2.1
  have he : t.Prefixes[0].length = 0 := by
   rcases Nat.eq_zero_or_pos t.Prefixes[0].length with h | h
   ·exact h
   ·exact absurd ⟨rfl, h⟩ this
  have := List.eq_nil_of_length_eq_zero he
  rw [← this]
  exact List.getElem_mem _
theorem rowO_get {o : T_api_Obs} {w : List Int} : ∀ {S : List (List Int)} {r : Row}, rowO o w S = some r → ∀ (i : Nat) e, S[i]? = some e → ∃ x, ansO o (w ++ e) = some x ∧ r[i]? = some (x.drop w.length)
 | [], _, _, i, e, he => by simp at he
 | u :: S, r, h, i, e, he => by
  unfold rowO at h
  cases ha : ansO o (w ++ u) with
  | none => rw [ha] at h; cases h
  | some x =>
   rw [ha] at h
   obtain ⟨l, h1, rfl⟩ := Option.map_eq_some_iff.1 h
   cases i with
   | zero =>
    simp at he
    subst he
    exact ⟨x, ha, rfl⟩
   | succ i =>
    obtain ⟨y, h2, h3⟩ := rowO_get h1 i e (by simpa using he)
    exact ⟨y, h2, by simpa using h3⟩
end Go.Proofs.YtpmebphhbgpapaaGreatDoor.Sym

/-
 The hypothesis of a table: the program's is the document's. Plain laws.
-/
namespace Go.Proofs.YtpmebphhbgpapaaGreatDoor.Sym
set_option maxRecDepth 100000
theorem singles_at {l : List (List Int)} {n : Int} (hA : Asc l) (hc : ∀ w ∈ l, checkI w n = 0 ∧ w.length ≠ 0) (h : ∀ a ∈ List.range n.toNat, [(↑a : Int)] ∈ l) : ∀ a, a < n.toNat → l[a]? = some [(↑a : Int)] := by
 intro a
 induction a using Nat.strongRecOn with
 | _ a ih =>
  intro ha
  obtain ⟨j, hj, e⟩ := List.mem_iff_getElem.1 (h a (List.mem_range.2 ha))
  have ej : l[j]? = some [(↑a : Int)] := by rw [get_at hj, e]
  rcases Nat.lt_trichotomy j a with hlt | heq | hgt
  ·have := ih j hlt (by omega)
   rw [ej] at this
   injection this with this
   injection this with this
   omega
  ·rw [← heq, ej, heq]
  ·have hx := get_at (l := l) (i := a) (by omega)
   have hcmp := hA.get hgt hx ej
   have hxm := List.mem_of_getElem? hx
   obtain ⟨b, hb⟩ := one_of (hc _ hxm).2 (cmp_len hcmp)
   rw [hb] at hcmp hx
   have hlt := cmp_single.1 hcmp
   have hr := check_mem (hc _ hxm).1 b (by rw [hb]; simp)
   have hbb := ih b.toNat (by omega) (by omega)
   rw [show ((b.toNat : Nat) : Int) = b by omega] at hbb
   have := hA.get (show b.toNat < a by omega) hbb hx
   rw [cmpW_refl] at this
   cases this
def newAt (rs : List Row) (i : Nat) : Bool := match rs[i]? with | some r => decide (r ∉ rs.take i) | none => false
def fstI (rs : List Row) (k : Nat) : List Nat := (List.range k).filter (newAt rs)
theorem fstI_succ (rs : List Row) (k : Nat) : fstI rs (k + 1) = fstI rs k ++ if newAt rs k = true then [k] else [] := by
 unfold fstI
 rw [List.range_succ, List.filter_append]
 simp only [List.filter_cons, List.filter_nil]
theorem addAll_fst (rs : List Row) : ∀ k, k ≤ rs.length → addAll [] (rs.take k) = (fstI rs k).map fun i => (rs[i]?).getD [] := by
 intro k
 induction k with
 | zero => intro _; rfl
 | succ k ih =>
  intro hk
  have hx := get_at (l := rs) (i := k) (by omega)
  rw [take_step hx, addAll_snoc, ih (by omega), fstI_succ, List.map_append]
  have hiff : newAt rs k = true ↔ rs[k] ∉ addAll [] (rs.take k) := by
   unfold newAt
   rw [hx]
   simp only
   rw [decide_eq_true_iff, mem_addAll]
   simp
  rw [ih (by omega)] at hiff
  unfold addR
  by_cases h : newAt rs k = true
  ·rw [if_neg (hiff.1 h), if_pos h]
   simp [hx]
  ·rw [if_pos (Classical.byContradiction fun h2 => h (hiff.2 h2)), if_neg h]
   simp
theorem fstI_len (rs : List Row) (k : Nat) : (fstI rs k).length ≤ k := by
 unfold fstI
 have := List.length_filter_le (newAt rs) (List.range k)
 rw [List.length_range] at this
 exact this
theorem mem_fstI {rs : List Row} {k i : Nat} : i ∈ fstI rs k ↔ i < k ∧ newAt rs i = true := by
 unfold fstI
 rw [List.mem_filter, List.mem_range]
theorem pos_map {α β : Type} [DecidableEq α] [DecidableEq β] {f : α → β} {x : α} : ∀ {l : List α}, x ∈ l → (∀ y ∈ l, f y = f x → y = x) → pos (f x) (l.map f) = pos x l
 | y :: l, h, hi => by
  rw [List.map_cons]
  unfold pos
  by_cases e : y = x
  ·subst e; simp
  ·have h2 : ¬ f y = f x := fun e2 => e (hi y (by simp) e2)
   rw [if_neg e, if_neg h2]
   rcases List.mem_cons.1 h with h | h
   ·exact absurd h.symm e
   ·rw [pos_map h fun z hz => hi z (List.mem_cons_of_mem _ hz)]
def rowsT (t : T_api_Table) (o : T_api_Obs) : List Row := t.Prefixes.map (rowG t o)
def rowsA (t : T_api_Table) (o : T_api_Obs) : List Row := addAll [] (rowsT t o)
def nextT (t : T_api_Table) (o : T_api_Obs) (p : List Int) : List Int := (List.range t.Inputs.toNat).map fun (a : Nat) => (↑(pos (rowG t o (p ++ [(↑a : Int)])) (rowsA t o)) : Int)
def outT (t : T_api_Table) (o : T_api_Obs) (p : List Int) : List Int := (List.range t.Inputs.toNat).map fun (a : Nat) => (((rowG t o p)[a]?).getD []).headD 0
def preAt (t : T_api_Table) (i : Nat) : List Int := (t.Prefixes[i]?).getD []
def hypT (t : T_api_Table) (o : T_api_Obs) : T_api_Hyp :=
 ⟨⟨t.Inputs, 0, (fstI (rowsT t o) t.Prefixes.length).map fun i => nextT t o (preAt t i), (fstI (rowsT t o) t.Prefixes.length).map fun i => outT t o (preAt t i)⟩, (fstI (rowsT t o) t.Prefixes.length).map (preAt t)⟩
abbrev h0 : T_api_Hyp := ⟨⟨0, 0, [], []⟩, []⟩
def hypR (t : T_api_Table) (o : T_api_Obs) : T_api_Hyp × Int :=
 if compT t o ≠ 0 then (h0, compT t o) else if (extL t).find? (newRow t o) ≠ none ∨ iP t o ≠ none then (h0, 10) else (hypT t o, 0)
theorem rowsO_eq {t : T_api_Table} {o : T_api_Obs} : ∀ {ps : List (List Int)} {rs : List Row}, rowsO o t.Suffixes ps = some rs → rs = ps.map (rowG t o)
 | [], rs, h => by
  injection h with h
  exact h.symm
 | w :: ws, rs, h => by
  unfold rowsO at h
  cases hr : rowO o w t.Suffixes with
  | none => rw [hr] at h; cases h
  | some r =>
   rw [hr] at h
   obtain ⟨rs', h1, rfl⟩ := Option.map_eq_some_iff.1 h
   rw [rowsO_eq h1, List.map_cons, rowG_some hr]
theorem row_out {t : T_api_Table} {o : T_api_Obs} (hv : ObsOk o) {p : List Int} {r : Row} (hr : rowO o p t.Suffixes = some r) {a : Nat} (hs : t.Suffixes[a]? = some [(↑a : Int)]) : ∃ y z, r[a]? = some [y] ∧ ansO o (p ++ [(↑a : Int)]) = some z ∧ z.drop p.length = [y] := by
 obtain ⟨z, h1, h2⟩ := rowO_get hr a _ hs
 have hl := ansO_len hv h1
 rw [List.length_append, List.length_singleton] at hl
 have hd : (z.drop p.length).length = 1 := by rw [List.length_drop]; omega
 match hq : z.drop p.length, hd with
 | [y], _ => exact ⟨y, z, by rw [h2, hq], h1, hq⟩
theorem table_Hypothesis_eq {t : T_api_Table} {o : T_api_Obs} (ht : TabOk t) (ho : SmO o) (hv : ObsOk o) : table_Hypothesis t o = some (hypR t o) := by
 have hn := ht.n
 have hpl := ht.p
 obtain ⟨v, e, h1, h2⟩ := table_look_eq ht ho hv
 obtain ⟨h3, h4⟩ := look_view h2
 unfold table_Hypothesis hypR
 rw [h1, obind]
 simp only
 rw [h3] at h4 ⊢
 by_cases hz : compT t o = 0
 ·obtain ⟨hV, hA, hck⟩ := h4 hz
  obtain ⟨hval, _, _⟩ := compT_zero hz
  obtain ⟨hn1, _, hAp, hAs, hsing, _, _, hne⟩ := valid_asc hval
  obtain ⟨_, _, _, hsc⟩ := valid_has hval
  have hsat := singles_at hAs hsc hsing
  obtain ⟨i, a, b, h5, h6⟩ := view_unclosed_eq ht hV
  rw [decide_eq_false (by simpa using hz), cond_false, if_neg (by simpa using hz), h5, obind, iP_prog ht hv hV, obind]
  simp only
  cases hf : (extL t).find? (newRow t o) with
  | some w =>
   rw [hf] at h6
   obtain ⟨rfl, _⟩ := h6
   rw [if_pos (Or.inl (by simp))]
   rfl
  | none =>
   rw [hf] at h6
   subst h6
   cases hi : iP t o with
   | some x =>
    obtain ⟨hb, _⟩ := iP_range hv hA hi
    rw [if_pos (Or.inr (by simp))]
    simp only [cond_false, hb]
    rfl
   | none =>
    rw [if_neg (by simp)]
    -- closed: there are no other rows than the prefixes'
    have hspec : ∃ rs rss, rowsO o t.Suffixes t.Prefixes = some rs ∧ extRows o t.Suffixes t.Inputs.toNat t.Prefixes = some rss ∧ v.rows = addAll (addAll [] rs) rss.flatten ∧ v.prefixes = nums v.rows rs ∧ v.next = rss.map (nums v.rows) := by
     rcases h2 with ⟨q1, q2⟩ | ⟨_, q2, _⟩ | ⟨_, _, q⟩
     ·exact absurd hck q1
     ·rw [h3, hz] at q2; cases q2
     ·exact q
    obtain ⟨rs, rss, q1, q2, q3, q4, q5⟩ := hspec
    have hrs : rs = rowsT t o := rowsO_eq q1
    have hrl : rs.length = t.Prefixes.length := (rowsO_all q1).1
    have hE := extRows_all q2
    have hclosed : ∀ x ∈ rss.flatten, x ∈ rs := fun x hx => by
     obtain ⟨l, hl, hx⟩ := List.mem_flatten.1 hx
     obtain ⟨k, hk, rfl⟩ := List.mem_iff_getElem.1 hl
     have hkp := get_at (l := t.Prefixes) (i := k) (by rw [← hE.1]; exact hk)
     obtain ⟨l', hl1, hl2⟩ := hE.2 k _ hkp
     rw [get_at hk] at hl1
     injection hl1 with hl1
     subst hl1
     obtain ⟨j, hj, rfl⟩ := List.mem_iff_getElem.1 hx
     have hL := rowsO_all hl2
     have hj' : j < t.Inputs.toNat := by
      have := hL.1
      simp [exts] at this
      omega
     have hw : (exts t.Inputs.toNat t.Prefixes[k])[j]? = some (t.Prefixes[k] ++ [(↑j : Int)]) := by
      unfold exts
      rw [List.getElem?_map, List.getElem?_range hj']
      rfl
     obtain ⟨r, hr1, hr2⟩ := hL.2 j _ hw
     rw [get_at hj] at hr1
     injection hr1 with hr1
     subst hr1
     have hnr : newRow t o (t.Prefixes[k] ++ [(↑j : Int)]) = false := by
      have := List.find?_eq_none.1 hf (t.Prefixes[k] ++ [(↑j : Int)]) (List.mem_flatMap.2 ⟨_, List.getElem_mem _, List.mem_map.2 ⟨j, List.mem_range.2 hj', rfl⟩⟩)
      simpa using this
     unfold newRow at hnr
     have hnr := Classical.not_not.1 (of_decide_eq_false hnr)
     obtain ⟨p, hp, hp2⟩ := List.mem_map.1 hnr
     rw [hrs]
     refine List.mem_map.2 ⟨p, hp, ?_⟩
     rw [hr2] at hp2
     exact rowG_some hp2
    have hR : v.rows = rowsA t o := by
     rw [q3]
     unfold rowsA
     rw [← hrs]
     have : ∀ (xs R : List Row), (∀ x ∈ xs, x ∈ R) → addAll R xs = R := by
      intro xs
      induction xs with
      | nil => intro R _; rfl
      | cons x xs ih =>
       intro R h
       show addAll (addR R x) xs = R
       have e1 : addR R x = R := by
        unfold addR
        rw [if_pos (h x (by simp))]
       rw [e1]
       exact ih R fun y hy => h y (List.mem_cons_of_mem _ hy)
     exact this _ _ fun x hx => mem_addAll.2 (Or.inr (hclosed x hx))
    have hRl := addAll_len [] rs
    simp only [List.length_nil] at hRl
    have hRlen : v.rows.length ≤ 30 := by
     rw [hR]
     unfold rowsA
     rw [← hrs]
     omega
    simp only [cond_false, obind]
    rw [decide_eq_false (by omega), cond_false]
    have key := iter_eq (step := fun (s : List (List Int) × List (List Int) × List (List Int) × Nat) => table_Hypothesis.s32 t (v, compT t o) s.1 s.2.1 s.2.2.1 s.2.2.2) (r := ((fstI rs t.Prefixes.length).map fun i => nextT t o (preAt t i), (fstI rs t.Prefixes.length).map fun i => outT t o (preAt t i), (fstI rs t.Prefixes.length).map (preAt t)))
     (fun s => s.2.2.2 ≤ t.Prefixes.length ∧ s.1 = (fstI rs s.2.2.2).map (fun i => nextT t o (preAt t i)) ∧ s.2.1 = (fstI rs s.2.2.2).map (fun i => outT t o (preAt t i)) ∧ s.2.2.1 = (fstI rs s.2.2.2).map (preAt t)) (fun s => t.Prefixes.length - s.2.2.2) (fun s ⟨g1, g2, g3, g4⟩ => by
      obtain ⟨N, O, A, k⟩ := s
      simp only at g1 g2 g3 g4
      subst g2 g3 g4
      have hfl := fstI_len rs k
      simp only [table_Hypothesis.s32]
      rw [hV.pl]
      by_cases g5 : k < t.Prefixes.length
      ·left
       have hp := get_at g5
       have hpm := List.getElem_mem g5
       have hpw := ht.pw _ hpm
       obtain ⟨r, r1, r2, r3⟩ := hV.pre k _ hp
       obtain ⟨l, l1, l2, l3⟩ := hV.nxt k _ hp
       have hrk : rs[k]? = some r := by
        rw [hrs]
        unfold rowsT
        rw [List.getElem?_map, hp]
        show some (rowG t o t.Prefixes[k]) = _
        rw [rowG_some r1]
       have hpa : preAt t k = t.Prefixes[k] := by unfold preAt; rw [hp]; rfl
       have hnew : newAt rs k = true ↔ r ∉ rs.take k := by
        unfold newAt
        rw [hrk]
        simp
       have hlenA : ((fstI rs k).map (preAt t)).length = (addAll [] (rs.take k)).length := by
        rw [addAll_fst rs k (by omega), List.length_map, List.length_map]
       have hvr : v.rows = addAll (addAll [] (rs.take k)) (rs.drop k) := by
        rw [hR]
        unfold rowsA
        rw [← hrs, ← addAll_append, List.take_append_drop]
       rw [decide_eq_true (by omega), cond_true, idxn_at r3, hlenA]
       by_cases g6 : newAt rs k = true
       ·have hnotin := hnew.1 g6
        have hnotR : r ∉ addAll [] (rs.take k) := fun h => by
         rcases mem_addAll.1 h with h | h
         ·cases h
         ·exact hnotin h
        have hpos : pos r v.rows = (addAll [] (rs.take k)).length := by
         rw [hvr, List.drop_eq_getElem_cons (by omega)]
         have e1 : rs[k]'(by omega) = r := by
          have := get_at (l := rs) (i := k) (by omega)
          rw [hrk] at this
          injection this with this
          exact this.symm
         rw [e1]
         show pos r (addAll (addR (addAll [] (rs.take k)) r) _) = _
         rw [pos_addAll (mem_addR.2 (Or.inr rfl))]
         unfold addR
         rw [if_neg hnotR, pos_new hnotR]
        rw [hpos, decide_eq_false (by omega), cond_false]
        have outs := iter_eq (step := fun (s : List Int × Nat) => table_Hypothesis.s30 t (v, compT t o) (↑(addAll [] (rs.take k)).length : Int) s.1 s.2) (r := outT t o t.Prefixes[k]) (fun s => s.2 ≤ t.Inputs.toNat ∧ s.1 = (List.range s.2).map fun (a : Nat) => (((rowG t o t.Prefixes[k])[a]?).getD []).headD 0) (fun s => t.Inputs.toNat - s.2) (fun s ⟨m1, m2⟩ => by
         obtain ⟨y, a⟩ := s
         simp only at m1 m2
         subst m2
         simp only [table_Hypothesis.s30]
         by_cases m3 : a < t.Inputs.toNat
         ·left
          obtain ⟨y, z, y1, _, _⟩ := row_out hv r1 (hsat a m3)
          have hget : v.rows[(addAll [] (rs.take k)).length]? = some r := by rw [← hpos]; exact pos_get r2
          refine ⟨((List.range (a + 1)).map fun (a : Nat) => (((rowG t o t.Prefixes[k])[a]?).getD []).headD 0, a + 1), ?_, ⟨m3, rfl⟩, by simp only; omega⟩
          rw [decide_eq_true (by omega), cond_true, idx_at rfl hget, idxn_at y1, idxn_at (x := y) rfl, chk_pos (by rw [List.length_map, List.length_range]; unfold capOk; omega), chk_pos (by unfold inR; omega), List.range_succ, List.map_append]
          simp [rowG_some r1, y1]
         ·right
          have e : a = t.Inputs.toNat := by omega
          subst e
          rw [decide_eq_false (by omega), cond_false]
          rfl) (n := fuel) (s := ([], 0)) ⟨Nat.zero_le _, rfl⟩ (by have := fuel_big; simp only; omega)
        have hln : l = nextT t o t.Prefixes[k] := by
         unfold nextT
         apply List.ext_getElem?
         intro a
         by_cases ha : a < t.Inputs.toNat
         ·obtain ⟨x, x1, x2, x3⟩ := l3 a ha
          rw [x3, List.getElem?_map, List.getElem?_range ha, ← hR]
          show some (↑(pos x v.rows) : Int) = some (↑(pos (rowG t o (t.Prefixes[k] ++ [(↑a : Int)])) v.rows) : Int)
          rw [rowG_some x1]
         ·rw [List.getElem?_eq_none (by omega), List.getElem?_eq_none (by simp; omega)]
        refine ⟨((fstI rs (k + 1)).map (fun i => nextT t o (preAt t i)), (fstI rs (k + 1)).map (fun i => outT t o (preAt t i)), (fstI rs (k + 1)).map (preAt t), k + 1), ?_, ⟨g5, rfl, rfl, rfl⟩, by simp only; omega⟩
        rw [outs, obind, idxn_at l1, libclone_word (by unfold SmW; omega), obind, chk_pos (by rw [List.length_map]; unfold capOk; omega), chk_pos (by rw [List.length_map]; unfold capOk; omega), idxn_at hp, libclone_word (by unfold SmW; omega), obind, chk_pos (by
         have h9 := addAll_len [] (rs.take k)
         rw [List.length_take] at h9
         simp only [List.length_nil] at h9
         unfold capOk
         omega), obind]
        rw [fstI_succ, if_pos g6]
        simp only [List.map_append, List.map_cons, List.map_nil, hpa, ← hln]
        rfl
       ·have hin : r ∈ rs.take k := Classical.byContradiction fun h => g6 (hnew.2 h)
        have hpos : pos r v.rows < (addAll [] (rs.take k)).length := by
         rw [hvr, pos_addAll (mem_addAll.2 (Or.inr hin))]
         exact pos_lt (mem_addAll.2 (Or.inr hin))
        refine ⟨((fstI rs (k + 1)).map (fun i => nextT t o (preAt t i)), (fstI rs (k + 1)).map (fun i => outT t o (preAt t i)), (fstI rs (k + 1)).map (preAt t), k + 1), ?_, ⟨g5, rfl, rfl, rfl⟩, by simp only; omega⟩
        rw [decide_eq_true (by omega), cond_true, obind, fstI_succ, if_neg g6, List.append_nil]
        rfl
      ·right
       have e : k = t.Prefixes.length := by omega
       subst e
       rw [decide_eq_false (by omega), cond_false]) (n := fuel) (s := ([], [], [], 0)) ⟨Nat.zero_le _, rfl, rfl, rfl⟩ (by have := fuel_big; simp only; omega)
    rw [key, obind]
    unfold hypT
    rw [← hrs]
    rfl
 ·rw [decide_eq_true hz, cond_true, if_pos hz]
end Go.Proofs.YtpmebphhbgpapaaGreatDoor.Sym

/-
 The reference's hypothesis, and the law of TableHypothesis. Plain laws.
-/
namespace Go.Proofs.YtpmebphhbgpapaaGreatDoor.Sym
set_option maxRecDepth 100000
theorem rowG_eq {t : T_api_Table} {o : T_api_Obs} {p : List Int} (h : ∃ r, rowO o p t.Suffixes = some r) : rowO o p t.Suffixes = some (rowG t o p) := by
 obtain ⟨r, hr⟩ := h
 rw [hr, rowG_some hr]
theorem R23_firsts_eq {t : T_api_Table} {o : T_api_Obs} (ht : TabOk t) (ho : SmO o) (hv : ObsOk o) (hA : AllRows t o) : R23_firsts t o = some ((fstI (rowsT t o) t.Prefixes.length).map fun (i : Nat) => (↑i : Int)) := by
 have hpl := ht.p
 unfold R23_firsts
 have key := iter_eq (step := fun (s : List Int × Nat) => R23_firsts.s2 t o s.1 s.2) (r := (fstI (rowsT t o) t.Prefixes.length).map fun (i : Nat) => (↑i : Int)) (fun s => s.2 ≤ t.Prefixes.length ∧ s.1 = (fstI (rowsT t o) s.2).map fun (i : Nat) => (↑i : Int)) (fun s => t.Prefixes.length - s.2) (fun s ⟨g1, g2⟩ => by
  obtain ⟨y, k⟩ := s
  simp only at g1 g2
  subst g2
  have hfl := fstI_len (rowsT t o) k
  simp only [R23_firsts.s2]
  by_cases g3 : k < t.Prefixes.length
  ·left
   have hp := get_at g3
   have hpm := List.getElem_mem g3
   have hr := rowG_eq (hA _ hpm _ (by simp [withX] : t.Prefixes[k] ∈ withX t.Inputs.toNat t.Prefixes[k]))
   obtain ⟨n, h1, h2, h3⟩ := R23_find_eq ht ho hv hA (ht.sm.2.1.2 _ hpm) hr
   have hge : ¬ n < 0 := fun h => by
    have := h2.1 h
    unfold newRow at this
    exact of_decide_eq_true this (List.mem_map.2 ⟨_, hpm, rfl⟩)
   obtain ⟨⟨p, hp1, hp2⟩, h4⟩ := h3 n.toNat (by omega)
   have hrk : (rowsT t o)[k]? = some (rowG t o t.Prefixes[k]) := by
    unfold rowsT
    rw [List.getElem?_map, hp]
    rfl
   have hnew : newAt (rowsT t o) k = true ↔ n = (↑k : Int) := by
    unfold newAt
    rw [hrk]
    simp only
    rw [decide_eq_true_iff]
    constructor
    ·intro hno
     rcases Nat.lt_trichotomy n.toNat k with hlt | heq | hgt
     ·exfalso
      apply hno
      rw [List.mem_iff_getElem?]
      refine ⟨n.toNat, ?_⟩
      rw [List.getElem?_take, if_pos hlt]
      unfold rowsT
      rw [List.getElem?_map, hp1]
      show some (rowG t o p) = _
      rw [rowG_some hp2]
     ·omega
     ·exact absurd hr (h4 k _ hgt hp)
    ·intro hn hin
     obtain ⟨j, hj⟩ := List.mem_iff_getElem?.1 hin
     rw [List.getElem?_take] at hj
     split at hj
     ·rename_i hjk
      unfold rowsT at hj
      have hpj := get_at (l := t.Prefixes) (i := j) (by omega)
      rw [List.getElem?_map, hpj] at hj
      have hj : some (rowG t o t.Prefixes[j]) = some (rowG t o t.Prefixes[k]) := hj
      have hrj := rowG_eq (hA _ (List.getElem_mem (show j < t.Prefixes.length by omega)) _ (by simp [withX] : t.Prefixes[j] ∈ withX t.Inputs.toNat t.Prefixes[j]))
      rw [hj] at hrj
      exact h4 j _ (by omega) hpj hrj
     ·cases hj
   refine ⟨((fstI (rowsT t o) (k + 1)).map fun (i : Nat) => (↑i : Int), k + 1), ?_, ⟨g3, rfl⟩, by simp only; omega⟩
   rw [dec_lt hp, cond_true, idxn_at hp, h1, obind, fstI_succ]
   by_cases hn : n = (↑k : Int)
   ·rw [decide_eq_true hn, cond_true, chk_pos (by rw [List.length_map]; unfold capOk; omega), if_pos (hnew.2 hn), List.map_append]
    rfl
   ·rw [decide_eq_false hn, cond_false, if_neg (fun h => hn (hnew.1 h)), List.append_nil]
  ·right
   have e : k = t.Prefixes.length := by omega
   subst e
   rw [decide_eq_false (by omega), cond_false]) (n := fuel) (s := ([], 0)) ⟨Nat.zero_le _, rfl⟩ (by have := fuel_big; simp only; omega)
 rw [key, obind]
theorem R23_place_eq {l : List Int} {n : Int} (hl : l.length ≤ 1000) (hm : n ∈ l) : R23_place l n = some (↑(pos n l) : Int) := by
 unfold R23_place
 have key := iter_eq (step := fun s => R23_place.s2 l n s) (r := .inr (↑(pos n l) : Int)) (fun k => k ≤ pos n l) (fun k => l.length - k) (fun k g1 => by
  have hpl := pos_lt hm
  have hg := pos_get hm
  simp only [R23_place.s2]
  have hx := get_at (l := l) (i := k) (by omega)
  rw [dec_lt hx, cond_true, idxn_at hx]
  have hfirst : ∀ (l : List Int) (k : Nat), k < pos n l → ∀ x, l[k]? = some x → x ≠ n := by
   intro l
   induction l with
   | nil => intro k h; simp [pos] at h
   | cons y l ih =>
    intro k h x hx
    unfold pos at h
    split at h
    ·omega
    ·rename_i hy
     cases k with
     | zero =>
      simp at hx
      rw [← hx]
      exact hy
     | succ k => exact ih k (by omega) x (by simpa using hx)
  by_cases e : k = pos n l
  ·right
   have h2 : l[k]? = some n := by
    rw [e]
    exact hg
   rw [hx] at h2
   injection h2 with this
   rw [decide_eq_true this, cond_true, e]
  ·left
   have hne := hfirst l k (by omega) _ hx
   exact ⟨k + 1, by rw [decide_eq_false hne, cond_false], by omega, by omega⟩) (n := fuel) (s := 0) (Nat.zero_le _) (by have := fuel_big; omega)
 rw [key, obind]
 rfl
theorem R23_built_eq {t : T_api_Table} {o : T_api_Obs} (ht : TabOk t) (ho : SmO o) (hv : ObsOk o) (hz : compT t o = 0) (hf : (extL t).find? (newRow t o) = none) :
  R23_built t o ((fstI (rowsT t o) t.Prefixes.length).map fun (i : Nat) => (↑i : Int)) = some (hypT t o) := by
 have hn := ht.n
 have hpl := ht.p
 obtain ⟨hval, _, hA⟩ := compT_zero hz
 obtain ⟨hn1, _, hAp, hAs, hsing, _, _, hne⟩ := valid_asc hval
 obtain ⟨_, _, _, hsc⟩ := valid_has hval
 have hsat := singles_at hAs hsc hsing
 have hfl := fstI_len (rowsT t o) t.Prefixes.length
 have hrows : rowsA t o = (fstI (rowsT t o) t.Prefixes.length).map fun i => ((rowsT t o)[i]?).getD [] := by
  have := addAll_fst (rowsT t o) t.Prefixes.length (by simp [rowsT])
  rw [List.take_of_length_le (by simp [rowsT])] at this
  exact this
 have hrk : ∀ (k : Nat) (hk : k < t.Prefixes.length), (rowsT t o)[k]? = some (rowG t o t.Prefixes[k]) := fun k hk => by
  unfold rowsT
  rw [List.getElem?_map, get_at hk]
  rfl
 -- the place of a row's first prefix is the row's number
 have hplace : ∀ p ∈ t.Prefixes, ∀ a : Nat, a < t.Inputs.toNat → ∃ n, R23_find t o (p ++ [(↑a : Int)]) = some n ∧ R23_place ((fstI (rowsT t o) t.Prefixes.length).map fun (i : Nat) => (↑i : Int)) n = some (↑(pos (rowG t o (p ++ [(↑a : Int)])) (rowsA t o)) : Int) := by
  intro p hp a ha
  have hpw := ht.pw p hp
  have hr := rowG_eq (hA p hp (p ++ [(↑a : Int)]) (List.mem_cons_of_mem _ (List.mem_map.2 ⟨a, List.mem_range.2 ha, rfl⟩)))
  obtain ⟨n, h1, h2, h3⟩ := R23_find_eq ht ho hv hA (by unfold SmW; simp; omega) hr
  have hold : newRow t o (p ++ [(↑a : Int)]) = false := by
   have := List.find?_eq_none.1 hf (p ++ [(↑a : Int)]) (List.mem_flatMap.2 ⟨p, hp, List.mem_map.2 ⟨a, List.mem_range.2 ha, rfl⟩⟩)
   simpa using this
  have hge : ¬ n < 0 := fun h => by
   have := h2.1 h
   rw [hold] at this
   cases this
  obtain ⟨⟨q, hq1, hq2⟩, h4⟩ := h3 n.toNat (by omega)
  have hqk := (List.getElem?_eq_some_iff.1 hq1).1
  have hqr : (rowsT t o)[n.toNat]? = some (rowG t o (p ++ [(↑a : Int)])) := by
   rw [hrk _ hqk]
   have e1 : t.Prefixes[n.toNat] = q := by
    rw [get_at hqk] at hq1
    injection hq1
   rw [e1, rowG_some hq2]
  have hmem : n.toNat ∈ fstI (rowsT t o) t.Prefixes.length := by
   refine mem_fstI.2 ⟨hqk, ?_⟩
   unfold newAt
   rw [hqr]
   simp only
   refine decide_eq_true fun hin => ?_
   obtain ⟨j, hj⟩ := List.mem_iff_getElem?.1 hin
   rw [List.getElem?_take] at hj
   split at hj
   ·rename_i hjk
    have hpj := get_at (l := t.Prefixes) (i := j) (by omega)
    rw [hrk j (by omega)] at hj
    have hrj := rowG_eq (hA _ (List.getElem_mem (show j < t.Prefixes.length by omega)) _ (by simp [withX] : t.Prefixes[j] ∈ withX t.Inputs.toNat t.Prefixes[j]))
    rw [hj] at hrj
    exact h4 j _ hjk hpj hrj
   ·cases hj
  have hnn : n = ((n.toNat : Nat) : Int) := by omega
  refine ⟨n, h1, ?_⟩
  rw [R23_place_eq (by rw [List.length_map]; omega) (List.mem_map.2 ⟨n.toNat, hmem, hnn.symm⟩)]
  congr 2
  have e1 : pos n ((fstI (rowsT t o) t.Prefixes.length).map fun (i : Nat) => (↑i : Int)) = pos n.toNat (fstI (rowsT t o) t.Prefixes.length) := by
   have this : pos ((n.toNat : Nat) : Int) ((fstI (rowsT t o) t.Prefixes.length).map fun (i : Nat) => (↑i : Int)) = pos n.toNat (fstI (rowsT t o) t.Prefixes.length) := pos_map (f := fun (i : Nat) => (↑i : Int)) (x := n.toNat) hmem fun y _ h => by
    have h : (↑y : Int) = ↑n.toNat := h
    omega
   rw [← hnn] at this
   exact this
  rw [e1, hrows]
  have e3 : rowG t o (p ++ [(↑a : Int)]) = (fun i => ((rowsT t o)[i]?).getD []) n.toNat := by
   show _ = ((rowsT t o)[n.toNat]?).getD []
   rw [hqr]
   rfl
  rw [e3]
  refine (pos_map (f := fun i => ((rowsT t o)[i]?).getD []) hmem fun y hy h => ?_).symm
  -- two places of first rows with one row are one
  have hy1 := mem_fstI.1 hy
  have hx1 := mem_fstI.1 hmem
  have hyr := hrk y hy1.1
  have hxr := hrk n.toNat hx1.1
  have h : ((rowsT t o)[y]?).getD [] = ((rowsT t o)[n.toNat]?).getD [] := h
  rw [hyr, hxr] at h
  have h : rowG t o t.Prefixes[y] = rowG t o t.Prefixes[n.toNat] := h
  rcases Nat.lt_trichotomy y n.toNat with hlt | heq | hgt
  ·exfalso
   have := hx1.2
   unfold newAt at this
   rw [hxr] at this
   simp only at this
   refine of_decide_eq_true this (List.mem_iff_getElem?.2 ⟨y, ?_⟩)
   rw [List.getElem?_take, if_pos hlt, hyr, h]
  ·exact heq
  ·exfalso
   have := hy1.2
   unfold newAt at this
   rw [hyr] at this
   simp only at this
   refine of_decide_eq_true this (List.mem_iff_getElem?.2 ⟨n.toNat, ?_⟩)
   rw [List.getElem?_take, if_pos hgt, hxr, h]
 unfold R23_built
 generalize hL : (fstI (rowsT t o) t.Prefixes.length) = L at hfl hplace
 have hLm : ∀ i ∈ L, i < t.Prefixes.length := fun i hi => by
  rw [← hL] at hi
  exact (mem_fstI.1 hi).1
 have key := iter_eq (step := fun (s : List (List Int) × List (List Int) × List (List Int) × Nat) => R23_built.s20 t o (L.map fun (i : Nat) => (↑i : Int)) s.1 s.2.1 s.2.2.1 s.2.2.2) (r := (L.map fun i => nextT t o (preAt t i), L.map fun i => outT t o (preAt t i), L.map (preAt t)))
  (fun s => s.2.2.2 ≤ L.length ∧ s.1 = (L.take s.2.2.2).map (fun i => nextT t o (preAt t i)) ∧ s.2.1 = (L.take s.2.2.2).map (fun i => outT t o (preAt t i)) ∧ s.2.2.1 = (L.take s.2.2.2).map (preAt t)) (fun s => L.length - s.2.2.2) (fun s ⟨g1, g2, g3, g4⟩ => by
   obtain ⟨N, O, A, k⟩ := s
   simp only at g1 g2 g3 g4
   subst g2 g3 g4
   simp only [R23_built.s20]
   by_cases g5 : k < L.length
   ·left
    have hx := get_at g5
    have hxk := hLm _ (List.getElem_mem g5)
    have hxm : (L.map fun (i : Nat) => (↑i : Int))[k]? = some (↑L[k] : Int) := by rw [List.getElem?_map, hx]; rfl
    have hp := get_at hxk
    have hpm := List.getElem_mem hxk
    have hpw := ht.pw _ hpm
    have hps : SmW t.Prefixes[L[k]] := by unfold SmW; omega
    have hpa : preAt t L[k] = t.Prefixes[L[k]] := by unfold preAt; rw [hp]; rfl
    have hr := rowG_eq (hA _ hpm _ (by simp [withX] : t.Prefixes[L[k]] ∈ withX t.Inputs.toNat t.Prefixes[L[k]]))
    have inner := iter_eq (step := fun (s : List Int × List Int × Nat) => R23_built.s18 t o (L.map fun (i : Nat) => (↑i : Int)) t.Prefixes[L[k]] s.1 s.2.1 s.2.2) (r := (nextT t o t.Prefixes[L[k]], outT t o t.Prefixes[L[k]])) (fun s => s.2.2 ≤ t.Inputs.toNat ∧ s.1 = ((List.range s.2.2).map fun (a : Nat) => (↑(pos (rowG t o (t.Prefixes[L[k]] ++ [(↑a : Int)])) (rowsA t o)) : Int)) ∧ s.2.1 = (List.range s.2.2).map fun (a : Nat) => (((rowG t o t.Prefixes[L[k]])[a]?).getD []).headD 0) (fun s => t.Inputs.toNat - s.2.2) (fun s ⟨m1, m2, m3⟩ => by
     obtain ⟨y, z, a⟩ := s
     simp only at m1 m2 m3
     subst m2 m3
     simp only [R23_built.s18]
     by_cases m4 : a < t.Inputs.toNat
     ·left
      obtain ⟨n, n1, n2⟩ := hplace _ hpm a m4
      obtain ⟨b, w, b1, b2, b3⟩ := row_out hv hr (hsat a m4)
      refine ⟨((List.range (a + 1)).map fun (a : Nat) => (↑(pos (rowG t o (t.Prefixes[L[k]] ++ [(↑a : Int)])) (rowsA t o)) : Int), (List.range (a + 1)).map fun (a : Nat) => (((rowG t o t.Prefixes[L[k]])[a]?).getD []).headD 0, a + 1), ?_, ⟨m4, rfl, rfl⟩, by simp only; omega⟩
      rw [decide_eq_true (by omega), cond_true, R23_After_eq ho hv hps (by simp [SmW]), obind, b2, R23_Joined_eq hps (by simp [SmW]), obind, n1, obind, n2, obind, chk_pos (by rw [List.length_map, List.length_range]; unfold capOk; omega)]
      simp only
      rw [b3, idxn_at (x := b) rfl, chk_pos (by rw [List.length_map, List.length_range]; unfold capOk; omega), chk_pos (by unfold inR; omega), List.range_succ, List.map_append, List.map_append]
      simp [b1]
     ·right
      have e : a = t.Inputs.toNat := by omega
      subst e
      rw [decide_eq_false (by omega), cond_false]
      rfl) (n := fuel) (s := ([], [], 0)) ⟨Nat.zero_le _, rfl, rfl⟩ (by have := fuel_big; simp only; omega)
    refine ⟨((L.take (k + 1)).map (fun i => nextT t o (preAt t i)), (L.take (k + 1)).map (fun i => outT t o (preAt t i)), (L.take (k + 1)).map (preAt t), k + 1), ?_, ⟨g5, rfl, rfl, rfl⟩, by simp only; omega⟩
    rw [List.length_map, decide_eq_true (by omega), cond_true, idxn_at hxm, idx_at rfl hp, inner, obind]
    simp only [R23_built.k19]
    rw [chk_pos (by rw [List.length_map, List.length_take]; unfold capOk; omega), chk_pos (by rw [List.length_map, List.length_take]; unfold capOk; omega), R23_Joined_eq hps (by simp [SmW]), obind, chk_pos (by rw [List.length_map, List.length_take]; unfold capOk; omega), take_step hx]
    simp only [List.map_append, List.map_cons, List.map_nil, hpa, List.append_nil]
   ·right
    have e : k = L.length := by omega
    subst e
    rw [List.length_map, decide_eq_false (by omega), cond_false, List.take_length]) (n := fuel) (s := ([], [], [], 0)) ⟨Nat.zero_le _, rfl, rfl, rfl⟩ (by have := fuel_big; simp only; omega)
 rw [key, obind]
 unfold hypT
 rw [hL]
 rfl
theorem R23_Hypothesis_eq {t : T_api_Table} {o : T_api_Obs} (ht : TabOk t) (ho : SmO o) (hv : ObsOk o) : R23_Hypothesis t o = some (hypR t o) := by
 have hpl := ht.p
 unfold R23_Hypothesis hypR
 rw [R23_Unclosed_eq ht ho hv, obind]
 unfold unclT
 by_cases hz : compT t o = 0
 ·obtain ⟨_, _, hA⟩ := compT_zero hz
  rw [if_neg (by simpa using hz), if_neg (by simpa using hz), R23_Inconsistent_eq ht ho hv]
  unfold incT
  rw [if_neg (by simpa using hz)]
  cases hf : (extL t).find? (newRow t o) with
  | some w =>
   rw [if_pos (Or.inl (by simp))]
   rfl
  | none =>
   cases hi : iP t o with
   | some x =>
    rw [if_pos (Or.inr (by simp))]
    rfl
   | none =>
    rw [if_neg (by simp)]
    have hfl := fstI_len (rowsT t o) t.Prefixes.length
    simp only [ne_eq, not_true_eq_false, decide_false, cond_false, obind]
    rw [R23_firsts_eq ht ho hv hA, obind, List.length_map, decide_eq_false (by omega), cond_false, R23_built_eq ht ho hv hz hf, obind]
 ·rw [if_pos hz, if_pos hz, decide_eq_true hz, cond_true]
theorem R06_Same_eq (a b : T_api_Mealy) (h1 : SmL a.Next) (h2 : SmL a.Out) : R06_Same a b = some (decide (a = b)) := by
 unfold R06_Same
 rw [R06_Lists_eq _ _ (by have := h1.1; omega) (fun x hx => by have : x.length ≤ 2000000 := h1.2 x hx; omega), R06_Lists_eq _ _ (by have := h2.1; omega) (fun x hx => by have : x.length ≤ 2000000 := h2.2 x hx; omega)]
 obtain ⟨a1, a2, a3, a4⟩ := a
 obtain ⟨b1, b2, b3, b4⟩ := b
 simp only [T_api_Mealy.mk.injEq]
 by_cases e1 : a1 = b1 <;> by_cases e2 : a2 = b2 <;> by_cases e3 : a3 = b3 <;> by_cases e4 : a4 = b4 <;> simp [e1, e2, e3, e4]
theorem R22_Same_self (a : T_api_Hyp) (h1 : SmL a.M.Next) (h2 : SmL a.M.Out) (h3 : SmL a.Access) : R22_Same a a = some true := by
 unfold R22_Same
 rw [R06_Same_eq _ _ h1 h2, R06_Lists_eq _ _ (by have := h3.1; omega) (fun x hx => by have : x.length ≤ 2000000 := h3.2 x hx; omega)]
 simp
theorem hypR_sml {t : T_api_Table} {o : T_api_Obs} (ht : TabOk t) : SmL (hypR t o).1.M.Next ∧ SmL (hypR t o).1.M.Out ∧ SmL (hypR t o).1.Access := by
 have hn := ht.n
 have hpl := ht.p
 unfold hypR
 split
 ·exact ⟨sml_nil, sml_nil, sml_nil⟩
 ·split
  ·exact ⟨sml_nil, sml_nil, sml_nil⟩
  ·have hfl := fstI_len (rowsT t o) t.Prefixes.length
   unfold hypT
   refine ⟨⟨by show (List.map _ _).length ≤ _; rw [List.length_map]; omega, fun x hx => ?_⟩, ⟨by show (List.map _ _).length ≤ _; rw [List.length_map]; omega, fun x hx => ?_⟩, ⟨by show (List.map _ _).length ≤ _; rw [List.length_map]; omega, fun x hx => ?_⟩⟩
   ·obtain ⟨i, _, rfl⟩ := List.mem_map.1 hx
    unfold SmW nextT
    simp
    omega
   ·obtain ⟨i, _, rfl⟩ := List.mem_map.1 hx
    unfold SmW outT
    simp
    omega
   ·obtain ⟨i, _, rfl⟩ := List.mem_map.1 hx
    unfold SmW preAt
    cases h : t.Prefixes[i]? with
    | none => simp
    | some p =>
     have := ht.pw p (List.mem_of_getElem? h)
     simp
     omega
theorem plain_TableHypothesis (t : T_api_Table) (o : T_api_Obs) (ht : SmT t) (ho : SmO o) : L23_TableHypothesis t o = some true := by
 have hl := ho.1
 obtain ⟨ev, hev, hv⟩ := R16_Valid_tot o ho
 unfold L23_TableHypothesis
 rw [L23_Great_eq _ _ ht.2.1.1 ht.2.2.1.1 (by omega), awake_true, obind]
 cases hg : greatT t o with
 | true => rfl
 | false =>
  simp only [cond_false]
  obtain ⟨hT, _, _⟩ := tabOk_of ht hg
  rw [hev, obind, obind]
  by_cases h3 : ev = 0
  ·have hv := hv h3
   obtain ⟨s1, s2, s3⟩ := hypR_sml (o := o) hT
   rw [decide_eq_false (by simpa using h3), cond_false, table_Hypothesis_eq hT ho hv, R23_Hypothesis_eq hT ho hv]
   simp only [obind]
   rw [R22_Same_self _ s1 s2 s3]
   simp
  ·rw [decide_eq_true h3]
   rfl
end Go.Proofs.YtpmebphhbgpapaaGreatDoor.Sym

/-
 The law of TableHypothesis, for arguments within the bound.
-/
namespace Go.Proofs.YtpmebphhbgpapaaGreatDoor.Sym
theorem law_L23_TableHypothesis (x0 : T_api_Table) (x1 : T_api_Obs) (k0 : ok_api_Table x0) (s0 : sz_api_Table x0 ≤ 1048576) (k1 : ok_api_Obs x1) (s1 : sz_api_Obs x1 ≤ 1048576) : L23_TableHypothesis x0 x1 = some true :=
 plain_TableHypothesis x0 x1 (smt_of k0 s0) (smo_of s1)
end Go.Proofs.YtpmebphhbgpapaaGreatDoor.Sym
