/-
 Tables that grow: the program's Prefix and Suffix are the document's. Plain laws.
-/
import Derived.Test.YtpmebphhbgpapaaGreatDoorM3
set_option linter.all false
namespace Go.Proofs.YtpmebphhbgpapaaGreatDoor.Sym
set_option maxRecDepth 100000
theorem preL_take_len {l : List (List Int)} (i : Nat) : (preL (l.take i)).length ≤ (preL l).length := by
 unfold preL
 rw [List.flatMap_def, List.flatMap_def, List.map_take]
 exact flat_take_len i
theorem wordset_Prefixes_eq {l : List (List Int)} (hl : SmL l) (hp : SmL (preL l)) : wordset_Prefixes l = some (sortW (preL l)) := by
 have hl1 : l.length ≤ 2000000 := hl.1
 have hp1 : (preL l).length ≤ 2000000 := hp.1
 unfold wordset_Prefixes wordset_parts
 rw [iter_eq (r := preL l) (fun s => s.2 ≤ l.length ∧ s.1 = preL (l.take s.2)) (fun s => l.length - s.2) (fun s ⟨h1, h2⟩ => by
  obtain ⟨y, i⟩ := s
  simp only at h1 h2
  subst h2
  simp only [wordset_parts.s14]
  by_cases h3 : i < l.length
  ·left
   have hx := get_at h3
   have hxs : SmW l[i] := hl.2 _ (List.getElem_mem _)
   have hx1 : l[i].length ≤ 2000000 := hxs
   have hst := preL_step hx
   have hle := preL_take_len (l := l) (i + 1)
   rw [hst, List.length_append, prefixes_length] at hle
   refine ⟨(preL (l.take (i + 1)), i + 1), ?_, ⟨h3, rfl⟩, by simp only; omega⟩
   rw [dec_lt hx, cond_true, idxn_at hx, chk_pos (by unfold inR; omega)]
   rw [iter_eq (r := preL (l.take i) ++ prefixes l[i]) (fun s => s.2 ≤ l[i].length + 1 ∧ s.1 = preL (l.take i) ++ (prefixes l[i]).take s.2) (fun s => l[i].length + 1 - s.2) (fun s ⟨g1, g2⟩ => by
    obtain ⟨y, k⟩ := s
    simp only at g1 g2
    subst g2
    simp only [wordset_parts.s13, wordset_Prefixes_1]
    by_cases g3 : k < l[i].length + 1
    ·left
     refine ⟨(preL (l.take i) ++ (prefixes l[i]).take (k + 1), k + 1), ?_, ⟨g3, rfl⟩, by simp only; omega⟩
     rw [decide_eq_true (by omega), cond_true, chk_pos (by omega), Int.toNat_natCast]
     simp only [obind]
     rw [chk_pos (by
      rw [List.length_append, List.length_take, prefixes_length]
      unfold capOk
      omega), chk_pos (by unfold inR; omega), prefixes_take _ (by omega), List.append_assoc]
    ·right
     have e : k = l[i].length + 1 := by omega
     subst e
     rw [decide_eq_false (by omega), cond_false, ← prefixes_length, List.take_length]) (s := (preL (l.take i), 0)) ⟨Nat.zero_le _, by simp⟩ (by have := fuel_big; simp only; omega)]
   rw [hst]
   rfl
  ·right
   have e : i = l.length := by omega
   subst e
   rw [decide_eq_false (by omega), cond_false, List.take_length]) (s := ([], 0)) ⟨Nat.zero_le _, by simp [preL]⟩ (by have := fuel_big; simp only; omega)]
 simp only [obind]
 rw [wordset_Sorted_eq hp]
 rfl
theorem R02_Prefixes_in {l : List (List Int)} {i : Nat} {x : List Int} {y : List (List Int)} (hx : l[i]? = some x) (hx1 : x.length ≤ 1000000) (hy : SmL y) (hlen : y.length + x.length + 1 ≤ 2000000) :
  iter (fun (s : List (List Int) × Nat) => R02_Prefixes.s13 l i s.1 s.2) fuel (sortW y, 0) = some (sortW (y ++ prefixes x)) := by
 refine iter_eq (fun s => s.2 ≤ x.length + 1 ∧ s.1 = sortW (y ++ (prefixes x).take s.2)) (fun s => x.length + 1 - s.2) (fun s ⟨g1, g2⟩ => ?_) ⟨Nat.zero_le _, by simp⟩ (by have := fuel_big; simp only; omega)
 obtain ⟨z, k⟩ := s
 simp only at g1 g2
 subst g2
 simp only [R02_Prefixes.s13]
 rw [idxn_at hx]
 by_cases g3 : k < x.length + 1
 ·left
  have e1 : SmL (y ++ (prefixes x).take k) := by
   refine ⟨by rw [List.length_append, List.length_take, prefixes_length]; omega, fun u hu => ?_⟩
   rcases List.mem_append.1 hu with h | h
   ·exact hy.2 u h
   ·have h2 := List.mem_of_mem_take h
    unfold prefixes at h2
    obtain ⟨j, _, rfl⟩ := List.mem_map.1 h2
    unfold SmW
    rw [List.length_take]
    omega
  have e2 : SmW (x.take k) := by
   unfold SmW
   rw [List.length_take]
   omega
  have e3 := R02_with_eq (sortW_asc (y ++ (prefixes x).take k)) (sml_sort e1) e2
  refine ⟨(sortW (y ++ (prefixes x).take (k + 1)), k + 1), ?_, ⟨g3, rfl⟩, by simp only; omega⟩
  rw [decide_eq_true (by omega), cond_true, idxn_at hx, chk_pos (by omega), e3]
  simp only [obind]
  rw [chk_pos (by unfold inR; omega), prefixes_take _ (by omega), ← List.append_assoc, sortW_snoc]
 ·right
  have e : k = x.length + 1 := by omega
  subst e
  rw [decide_eq_false (by omega), cond_false, ← prefixes_length, List.take_length]
theorem R02_Prefixes_eq {l : List (List Int)} (hl : SmL l) (hw : ∀ x ∈ l, x.length ≤ 1000000) (hp : SmL (preL l)) : R02_Prefixes l = some (sortW (preL l)) := by
 have hl1 : l.length ≤ 2000000 := hl.1
 have hp1 : (preL l).length ≤ 2000000 := hp.1
 unfold R02_Prefixes
 have key := iter_eq (step := fun (s : List (List Int) × Nat) => R02_Prefixes.s14 l s.1 s.2) (r := sortW (preL l)) (fun s => s.2 ≤ l.length ∧ s.1 = sortW (preL (l.take s.2))) (fun s => l.length - s.2) (fun s ⟨h1, h2⟩ => by
  obtain ⟨y, i⟩ := s
  simp only at h1 h2
  subst h2
  simp only [R02_Prefixes.s14]
  by_cases h3 : i < l.length
  ·left
   have hx := get_at h3
   have hst := preL_step hx
   have hle := preL_take_len (l := l) (i + 1)
   rw [hst, List.length_append, prefixes_length] at hle
   have hin := R02_Prefixes_in (y := preL (l.take i)) hx (hw _ (List.getElem_mem _)) ⟨by omega, fun u hu => hp.2 u (by
    unfold preL at hu ⊢
    obtain ⟨z, hz, hz2⟩ := List.mem_flatMap.1 hu
    exact List.mem_flatMap.2 ⟨z, List.mem_of_mem_take hz, hz2⟩)⟩ (by omega)
   refine ⟨(sortW (preL (l.take i) ++ prefixes l[i]), i + 1), ?_, ⟨h3, by simp only; rw [hst]⟩, by simp only; omega⟩
   rw [dec_lt hx, cond_true, hin]
   simp only [obind]
  ·right
   have e : i = l.length := by omega
   subst e
   rw [decide_eq_false (by omega), cond_false, List.take_length]) (n := fuel) (s := ([], 0)) ⟨Nat.zero_le _, by simp [preL, sortW]⟩ (by have := fuel_big; simp only; omega)
 rw [key]
 simp only [obind]
theorem R01_Join_eq (l : List (List Int)) (hl : l.length ≤ 100000000) (hf : l.flatten.length ≤ 1000000000) : R01_Join l = some l.flatten := by
 unfold R01_Join
 rw [iter_eq (r := l.flatten) (fun s => s.2 ≤ l.length ∧ s.1 = (l.take s.2).flatten) (fun s => l.length - s.2) (fun s ⟨h1, h2⟩ => by
  simp only [R01_Join.s2]
  by_cases h3 : s.2 < l.length
  ·left
   have hx := get_at h3
   have h4 := flat_take_succ hx
   have h5 := flat_take_len (l := l) (s.2 + 1)
   rw [h4, List.length_append] at h5
   refine ⟨((l.take (s.2 + 1)).flatten, s.2 + 1), ?_, ⟨by omega, rfl⟩, by simp only; omega⟩
   rw [dec_lt hx, cond_true, idxn_at hx, chk_pos (by rw [h2]; unfold capOk; omega), h4, h2]
  ·right
   have e : s.2 = l.length := by omega
   rw [decide_eq_false (by omega), cond_false, h2, e, List.take_length]) (s := ([], 0)) ⟨Nat.zero_le _, by simp⟩ (by have := fuel_big; simp only; omega)]
 rfl
theorem R23_Joined_eq {u v : List Int} (hu : SmW u) (hv : SmW v) : R23_Joined u v = some (u ++ v) := by
 unfold R23_Joined
 unfold SmW at hu hv
 rw [R01_Join_eq [u, v] (by simp) (by simp; omega)]
 simp
theorem R23_copied_eq {l : List (List Int)} (hl : SmL l) : R23_copied l = some l := by
 have hl1 : l.length ≤ 2000000 := hl.1
 unfold R23_copied
 rw [iter_eq (r := l) (fun s => s.2 ≤ l.length ∧ s.1 = l.take s.2) (fun s => l.length - s.2) (fun s ⟨h1, h2⟩ => by
  simp only [R23_copied.s2]
  by_cases h3 : s.2 < l.length
  ·left
   have hx := get_at h3
   refine ⟨(l.take (s.2 + 1), s.2 + 1), ?_, ⟨by omega, rfl⟩, by simp only; omega⟩
   rw [dec_lt hx, cond_true, idxn_at hx, R23_Joined_eq (hl.2 _ (List.getElem_mem _)) (by simp [SmW])]
   simp only [obind]
   rw [chk_pos (by rw [h2, List.length_take]; unfold capOk; omega), take_step hx, h2, List.append_nil]
  ·right
   have e : s.2 = l.length := by omega
   rw [decide_eq_false (by omega), cond_false, h2, e, List.take_length]) (s := ([], 0)) ⟨Nat.zero_le _, by simp⟩ (by have := fuel_big; simp only; omega)]
 rfl
theorem two_flat (a b : List (List Int)) : [a, b].flatten = a ++ b := by simp
theorem sml_append {a b : List (List Int)} (h : a.length + b.length ≤ 2000000) (ha : SmL a) (hb : SmL b) : SmL (a ++ b) :=
 ⟨by rw [List.length_append]; exact h, fun x hx => (List.mem_append.1 hx).elim (ha.2 x) (hb.2 x)⟩
theorem sml_nil : SmL [] := ⟨by simp, fun x hx => by cases hx⟩
theorem R23_With_eq {t : T_api_Table} {p s : List (List Int)} (h1 : SmL t.Prefixes) (h2 : SmL t.Suffixes) (hp : SmL p) (hs : SmL s) (h3 : t.Prefixes.length + p.length ≤ 2000000) (h4 : t.Suffixes.length + s.length ≤ 2000000) :
  R23_With t p s = some ⟨t.Inputs, sortW (t.Prefixes ++ p), sortW (t.Suffixes ++ s)⟩ := by
 unfold R23_With
 rw [R23_copied_eq h1, R23_copied_eq h2, R23_copied_eq hp, R23_copied_eq hs]
 simp only [obind]
 rw [R02_Union_eq (by simp) (by rw [two_flat]; exact sml_append h3 h1 hp), R02_Union_eq (by simp) (by rw [two_flat]; exact sml_append h4 h2 hs), two_flat, two_flat]
 rfl
def growT (t : T_api_Table) (p s : List (List Int)) : T_api_Table × Int :=
 if validT ⟨t.Inputs, sortW (t.Prefixes ++ p), sortW (t.Suffixes ++ s)⟩ ≠ 0 then (t, validT ⟨t.Inputs, sortW (t.Prefixes ++ p), sortW (t.Suffixes ++ s)⟩) else (⟨t.Inputs, sortW (t.Prefixes ++ p), sortW (t.Suffixes ++ s)⟩, 0)
def prefixT (t : T_api_Table) (w : List Int) : T_api_Table × Int :=
 if validT t ≠ 0 then (t, validT t) else if checkI w t.Inputs ≠ 0 then (t, checkI w t.Inputs) else growT t (sortW (preL [w])) []
theorem smt_grow {t : T_api_Table} {p s : List (List Int)} (ht : SmT t) (hp : SmL p) (hs : SmL s) (h3 : t.Prefixes.length + p.length ≤ 2000000) (h4 : t.Suffixes.length + s.length ≤ 2000000) (hr : ∀ x ∈ p, ∀ a ∈ x, inR a) :
  SmT ⟨t.Inputs, sortW (t.Prefixes ++ p), sortW (t.Suffixes ++ s)⟩ :=
 ⟨ht.1, sml_sort (sml_append h3 ht.2.1 hp), sml_sort (sml_append h4 ht.2.2.1 hs), fun x hx => by
  rcases List.mem_append.1 ((mem_sortW _ _).1 hx) with h | h
  ·exact ht.2.2.2 x h
  ·exact hr x h⟩
theorem table_checked_eq {t u : T_api_Table} (hu : SmT u) : table_checked t u = some (if validT u ≠ 0 then (t, validT u) else (u, 0)) := by
 unfold table_checked
 rw [table_Valid_eq u hu]
 by_cases h : validT u = 0 <;> simp [h]
theorem preL_one (w : List Int) : preL [w] = prefixes w := by simp [preL]
theorem sml_pre {w : List Int} (hw : w.length ≤ 100000) : SmL (preL [w]) := by
 rw [preL_one]
 refine ⟨by rw [prefixes_length]; omega, fun x hx => ?_⟩
 unfold prefixes at hx
 obtain ⟨k, _, rfl⟩ := List.mem_map.1 hx
 show (w.take k).length ≤ 2000000
 rw [List.length_take]
 omega
theorem sml_one {w : List Int} (hw : w.length ≤ 100000) : SmL [w] := ⟨by simp, fun x hx => by rcases List.mem_singleton.1 hx with rfl; show x.length ≤ 2000000; omega⟩
theorem table_Prefix_eq {t : T_api_Table} {w : List Int} (ht : SmT t) (hw : w.length ≤ 100000) (hr : ∀ a ∈ w, inR a) (h3 : t.Prefixes.length + 200000 ≤ 2000000) : table_Prefix t w = some (prefixT t w) := by
 unfold table_Prefix prefixT
 have hpl : (sortW (preL [w])).length ≤ 100001 := by
  have := sortW_length (preL [w])
  rw [preL_one, prefixes_length] at this
  rw [preL_one]
  omega
 have hsp := sml_sort (sml_pre hw)
 rw [table_Valid_eq t ht, word_Check_eq w _ (by unfold SmW; omega), wordset_Prefixes_eq (sml_one hw) (sml_pre hw)]
 simp only [obind]
 by_cases h1 : validT t = 0
 ·by_cases h2 : checkI w t.Inputs = 0
  ·rw [decide_eq_false (by simpa using h1), decide_eq_false (by simpa using h2), if_neg (by simpa using h1), if_neg (by simpa using h2), cond_false, cond_false]
   rw [wordset_Union_eq (by simp) (by rw [two_flat]; exact sml_append (by omega) ht.2.1 hsp), wordset_Sorted_eq ht.2.2.1, two_flat]
   simp only [obind]
   have hg := smt_grow (s := []) ht hsp sml_nil (by omega) (by have := ht.2.2.1.1; simp; omega) (fun x hx a ha => by
    have hx := (mem_sortW _ _).1 hx
    rw [preL_one] at hx
    unfold prefixes at hx
    obtain ⟨k, _, rfl⟩ := List.mem_map.1 hx
    exact hr a (List.mem_of_mem_take ha))
   rw [List.append_nil] at hg
   rw [table_checked_eq hg]
   unfold growT
   rw [List.append_nil]
   rfl
  ·rw [decide_eq_false (by simpa using h1), decide_eq_true h2, if_neg (by simpa using h1), if_pos h2, cond_false, cond_true]
 ·rw [decide_eq_true h1, if_pos h1, cond_true]
theorem L23_Long_eq (l : List (List Int)) (m : Int) (hl : l.length ≤ 2000000) : L23_Long l m = some (decide (m < ↑l.length) || !l.all fun x => decide (x.length ≤ 30)) := by
 unfold L23_Long
 by_cases h : m < ↑l.length
 ·rw [decide_eq_true h, cond_true]; rfl
 ·have key := iter_scan (step := fun s => L23_Long.s2 l s) (l := l) (fun _ x => if decide (x.length ≤ 30) = true then none else some true) (fun i x hx => by
   simp only [L23_Long.s2]
   rw [dec_lt hx, cond_true, idxn_at hx]
   by_cases h1 : x.length ≤ 30
   ·rw [decide_eq_false (by omega), cond_false, decide_eq_true h1]; rfl
   ·rw [decide_eq_true (by omega), cond_true, decide_eq_false h1]; rfl) (by
   simp only [L23_Long.s2]
   rw [dec_end]
   rfl) (by omega)
  rw [decide_eq_false h, cond_false, key, scan_all (p := fun (x : List Int) => decide (x.length ≤ 30))]
  cases (l.all fun x => decide (x.length ≤ 30)) <;> rfl
def greatT (t : T_api_Table) (o : T_api_Obs) : Bool :=
 decide (4 < t.Inputs) || (decide (30 < t.Prefixes.length) || !t.Prefixes.all fun x => decide (x.length ≤ 30)) || (decide (12 < t.Suffixes.length) || !t.Suffixes.all fun x => decide (x.length ≤ 30)) || decide (400 < o.Traces.length) || !o.Traces.all fun x => decide (x.In.length ≤ 90)
theorem L23_Great_eq (t : T_api_Table) (o : T_api_Obs) (h1 : t.Prefixes.length ≤ 2000000) (h2 : t.Suffixes.length ≤ 2000000) (h3 : o.Traces.length ≤ 2000000) : L23_Great t o = some (greatT t o) := by
 unfold L23_Great greatT
 rw [L23_Long_eq _ _ h1, L23_Long_eq _ _ h2]
 have e1 : ((30 : Int) < ↑t.Prefixes.length) ↔ 30 < t.Prefixes.length := by omega
 have e2 : ((12 : Int) < ↑t.Suffixes.length) ↔ 12 < t.Suffixes.length := by omega
 have e3 : ((400 : Int) < ↑o.Traces.length) ↔ 400 < o.Traces.length := by omega
 simp only [e1, e2, e3, obind]
 have key := iter_scan (step := fun s => L23_Great.s2 o s) (l := o.Traces) (fun _ x => if decide (x.In.length ≤ 90) = true then none else some true) (fun i x hx => by
  simp only [L23_Great.s2]
  rw [dec_lt hx, cond_true, idxn_at hx]
  by_cases h1 : x.In.length ≤ 90
  ·rw [decide_eq_false (by omega), cond_false, decide_eq_true h1]; rfl
  ·rw [decide_eq_true (by omega), cond_true, decide_eq_false h1]; rfl) (by
  simp only [L23_Great.s2]
  rw [dec_end]
  rfl) (by omega)
 rw [key, scan_all (p := fun (x : T_api_Trace) => decide (x.In.length ≤ 90))]
 cases decide (4 < t.Inputs) <;> cases (decide (30 < t.Prefixes.length) || !t.Prefixes.all fun x => decide (x.length ≤ 30)) <;> cases (decide (12 < t.Suffixes.length) || !t.Suffixes.all fun x => decide (x.length ≤ 30)) <;> cases decide (400 < o.Traces.length) <;> cases (o.Traces.all fun x => decide (x.In.length ≤ 90)) <;> rfl
theorem growT_sml {t : T_api_Table} {p s : List (List Int)} (ht : SmT t) (hp : SmL p) (hs : SmL s) (h3 : t.Prefixes.length + p.length ≤ 2000000) (h4 : t.Suffixes.length + s.length ≤ 2000000) : SmL (growT t p s).1.Prefixes ∧ SmL (growT t p s).1.Suffixes := by
 unfold growT
 split
 ·exact ⟨ht.2.1, ht.2.2.1⟩
 ·exact ⟨sml_sort (sml_append h3 ht.2.1 hp), sml_sort (sml_append h4 ht.2.2.1 hs)⟩
end Go.Proofs.YtpmebphhbgpapaaGreatDoor.Sym

/-
 The law of TableGrows, for arguments within the bound.
-/
namespace Go.Proofs.YtpmebphhbgpapaaGreatDoor.Sym
theorem word_len {x : List Int} {N : Nat} (h : szL sz1 x ≤ N) : x.length ≤ N := by rw [← sz_word] at h; omega
theorem list_len {l : List (List Int)} {N : Nat} (h : szL (szL sz1) l ≤ N) : l.length ≤ N := by
 have := sum_len (f := szL sz1) (fun x => by rw [← sz_word]; omega) l
 unfold szL at h this
 omega
end Go.Proofs.YtpmebphhbgpapaaGreatDoor.Sym

/-
 Observations: what makes them valid, and their answers. Plain laws.
-/
namespace Go.Proofs.YtpmebphhbgpapaaGreatDoor.Sym
set_option maxRecDepth 100000
def SmO (o : T_api_Obs) : Prop := o.Traces.length ≤ 1100000 ∧ ∀ t ∈ o.Traces, t.In.length ≤ 1100000 ∧ t.Out.length ≤ 2000000
def PropT (n : Int) (t : T_api_Trace) : Prop := checkI t.In n = 0 ∧ t.Out.length = t.In.length ∧ ∀ y ∈ t.Out, 0 ≤ y ∧ y ≤ 1048576
def Agree (a b : T_api_Trace) : Prop := a.Out.take (common a.In b.In) = b.Out.take (common a.In b.In)
structure ObsOk (o : T_api_Obs) : Prop where
 inp : 1 ≤ o.Inputs ∧ o.Inputs ≤ 64
 num : o.Traces.length ≤ 10000
 prop : ∀ t ∈ o.Traces, PropT o.Inputs t ∧ t.In ≠ []
 asc : ∀ (i j : Nat) a b, i < j → o.Traces[i]? = some a → o.Traces[j]? = some b → cmpW a.In b.In = -1
 apart : ∀ (i j : Nat) a b, i < j → o.Traces[i]? = some a → o.Traces[j]? = some b → ¬ a.In <+: b.In ∧ Agree a b
end Go.Proofs.YtpmebphhbgpapaaGreatDoor.Sym

/-
 Answers and rows: the program's finder answers as the document's observations do. Plain laws.
-/
namespace Go.Proofs.YtpmebphhbgpapaaGreatDoor.Sym
set_option maxRecDepth 100000
def ansO (o : T_api_Obs) (w : List Int) : Option (List Int) :=
 if w = [] then some [] else (o.Traces.find? fun t => decide (w <+: t.In)).map fun t => t.Out.take w.length
theorem pre_len {p w : List Int} (h : p <+: w) : p.length ≤ w.length := h.length_le
end Go.Proofs.YtpmebphhbgpapaaGreatDoor.Sym

/-
 Rows, missing queries and maximal words: the program's are the document's. Plain laws.
-/
namespace Go.Proofs.YtpmebphhbgpapaaGreatDoor.Sym
set_option maxRecDepth 100000
theorem ansO_len {o : T_api_Obs} (hv : ObsOk o) {w r : List Int} (h : ansO o w = some r) : r.length = w.length := by
 unfold ansO at h
 split at h
 ·rename_i h0
  injection h with h
  rw [← h, h0]
 ·obtain ⟨t, ht, rfl⟩ := Option.map_eq_some_iff.1 h
  have hm := List.mem_of_find?_eq_some ht
  have hp : w <+: t.In := by simpa using List.find?_some ht
  have := (hv.prop t hm).1.2.1
  have := pre_len hp
  rw [List.length_take]
  omega
def rowO (o : T_api_Obs) (w : List Int) : List (List Int) → Option (List (List Int))
 | [] => some []
 | e :: S => match ansO o (w ++ e) with
  | none => none
  | some r => (rowO o w S).map fun l => r.drop w.length :: l
def chkT (t : T_api_Table) (o : T_api_Obs) : Int := if validT t ≠ 0 then validT t else if t.Inputs ≠ o.Inputs then 15 else 0
theorem sortW_ext {l m : List (List Int)} (h : ∀ x, x ∈ l ↔ x ∈ m) : sortW l = sortW m := asc_ext (sortW_asc l) (sortW_asc m) fun x => by rw [mem_sortW, mem_sortW, h]
end Go.Proofs.YtpmebphhbgpapaaGreatDoor.Sym

/-
 The missing queries of a table: the program's are the document's. Plain laws, and the law of TableNeeds.
-/
namespace Go.Proofs.YtpmebphhbgpapaaGreatDoor.Sym
set_option maxRecDepth 100000
def missO (o : T_api_Obs) (w : List Int) (S : List (List Int)) : List (List Int) := (S.map fun e => w ++ e).filter fun v => (ansO o v).isNone
theorem mem_missO {o : T_api_Obs} {w v : List Int} {S : List (List Int)} : v ∈ missO o w S ↔ (∃ e ∈ S, v = w ++ e) ∧ ansO o v = none := by
 unfold missO
 rw [List.mem_filter, List.mem_map, Option.isNone_iff_eq_none]
 constructor
 ·rintro ⟨⟨e, he, rfl⟩, h⟩; exact ⟨⟨e, he, rfl⟩, h⟩
 ·rintro ⟨⟨e, he, rfl⟩, h⟩; exact ⟨⟨e, he, rfl⟩, h⟩
structure TabOk (t : T_api_Table) : Prop where
 sm : SmT t
 n : t.Inputs ≤ 4
 p : t.Prefixes.length ≤ 30
 s : t.Suffixes.length ≤ 12
 pw : ∀ x ∈ t.Prefixes, x.length ≤ 30
 sw : ∀ x ∈ t.Suffixes, x.length ≤ 30
def withX (n : Nat) (p : List Int) : List (List Int) := p :: (List.range n).map fun (a : Nat) => p ++ [(↑a : Int)]
def needL (o : T_api_Obs) (t : T_api_Table) (P : List (List Int)) : List (List Int) := P.flatMap fun p => (withX t.Inputs.toNat p).flatMap fun w => missO o w t.Suffixes
def extL (t : T_api_Table) : List (List Int) := t.Prefixes.flatMap fun p => (List.range t.Inputs.toNat).map fun (a : Nat) => p ++ [(↑a : Int)]
theorem rowO_sml {o : T_api_Obs} (hv : ObsOk o) {w : List Int} : ∀ {S : List (List Int)} {l : List (List Int)}, rowO o w S = some l → l.length = S.length ∧ ∀ x ∈ l, ∃ e ∈ S, x.length = e.length
 | [], l, h => by
  injection h with h
  subst h
  exact ⟨rfl, fun x hx => by cases hx⟩
 | e :: S, l, h => by
  unfold rowO at h
  cases ha : ansO o (w ++ e) with
  | none => rw [ha] at h; cases h
  | some r =>
   rw [ha] at h
   obtain ⟨l', h1, rfl⟩ := Option.map_eq_some_iff.1 h
   obtain ⟨h2, h3⟩ := rowO_sml hv h1
   have hrl := ansO_len hv ha
   rw [List.length_append] at hrl
   refine ⟨by simp [h2], fun x hx => ?_⟩
   rcases List.mem_cons.1 hx with rfl | hx
   ·exact ⟨e, by simp, by rw [List.length_drop]; omega⟩
   ·obtain ⟨e', he', hl'⟩ := h3 x hx
    exact ⟨e', List.mem_cons_of_mem _ he', hl'⟩
end Go.Proofs.YtpmebphhbgpapaaGreatDoor.Sym

/-
 The law of TableNeeds, for arguments within the bound.
-/
namespace Go.Proofs.YtpmebphhbgpapaaGreatDoor.Sym
end Go.Proofs.YtpmebphhbgpapaaGreatDoor.Sym

/-
 The view of a complete table: rows with numbers. Plain laws.
-/
namespace Go.Proofs.YtpmebphhbgpapaaGreatDoor.Sym
set_option maxRecDepth 100000
section
variable {α : Type} [DecidableEq α]
def pos (r : α) : List α → Nat
 | [] => 0
 | x :: l => if x = r then 0 else pos r l + 1
theorem pos_get {r : α} : ∀ {l : List α}, r ∈ l → l[pos r l]? = some r
 | x :: l, h => by
  unfold pos
  by_cases e : x = r
  ·simp [e]
  ·rw [if_neg e]
   rcases List.mem_cons.1 h with h | h
   ·exact absurd h.symm e
   ·simpa using pos_get h
theorem pos_lt {r : α} {l : List α} (h : r ∈ l) : pos r l < l.length := (List.getElem?_eq_some_iff.1 (pos_get h)).1
theorem pos_append {r : α} : ∀ {l m : List α}, r ∈ l → pos r (l ++ m) = pos r l
 | x :: l, m, h => by
  rw [List.cons_append]
  unfold pos
  by_cases e : x = r
  ·simp [e]
  ·rw [if_neg e, if_neg e]
   rcases List.mem_cons.1 h with h | h
   ·exact absurd h.symm e
   ·rw [pos_append h]
def addR (R : List α) (r : α) : List α := if r ∈ R then R else R ++ [r]
theorem mem_addR {R : List α} {r x : α} : x ∈ addR R r ↔ x ∈ R ∨ x = r := by
 unfold addR
 split
 ·constructor
  ·exact Or.inl
  ·rintro (h | rfl)
   ·exact h
   ·assumption
 ·simp
theorem pos_addR {R : List α} {r x : α} (h : x ∈ R) : pos x (addR R r) = pos x R := by
 unfold addR
 split
 ·rfl
 ·exact pos_append h
end
end Go.Proofs.YtpmebphhbgpapaaGreatDoor.Sym

/-
 The view of a table, whole. Plain laws.
-/
namespace Go.Proofs.YtpmebphhbgpapaaGreatDoor.Sym
set_option maxRecDepth 100000
abbrev v0 : T_table_view := ⟨[], [], [], []⟩
abbrev Row : Type := List (List Int)
def addAll (R : List Row) (rs : List Row) : List Row := rs.foldl addR R
theorem addAll_snoc (R : List Row) (rs : List Row) (r : Row) : addAll R (rs ++ [r]) = addR (addAll R rs) r := by simp [addAll]
theorem mem_addAll {R : List Row} {x : Row} : ∀ {rs : List Row}, x ∈ addAll R rs ↔ x ∈ R ∨ x ∈ rs := by
 intro rs
 induction rs generalizing R with
 | nil => simp [addAll]
 | cons r rs ih =>
  show x ∈ addAll (addR R r) rs ↔ _
  rw [ih, mem_addR, List.mem_cons]
  constructor
  ·rintro ((h | h) | h)
   ·exact Or.inl h
   ·exact Or.inr (Or.inl h)
   ·exact Or.inr (Or.inr h)
  ·rintro (h | h | h)
   ·exact Or.inl (Or.inl h)
   ·exact Or.inl (Or.inr h)
   ·exact Or.inr h
theorem pos_addAll {R : List Row} {x : Row} (h : x ∈ R) : ∀ rs : List Row, pos x (addAll R rs) = pos x R := by
 intro rs
 induction rs generalizing R with
 | nil => rfl
 | cons r rs ih =>
  show pos x (addAll (addR R r) rs) = _
  rw [ih (mem_addR.2 (Or.inl h)), pos_addR h]
end Go.Proofs.YtpmebphhbgpapaaGreatDoor.Sym

/-
 Complete tables, and the word that shows that a table is not closed. Plain laws.
-/
namespace Go.Proofs.YtpmebphhbgpapaaGreatDoor.Sym
set_option maxRecDepth 100000
theorem rowO_some {o : T_api_Obs} {w : List Int} : ∀ {S : List (List Int)}, (∀ e ∈ S, ansO o (w ++ e) ≠ none) → ∃ r, rowO o w S = some r
 | [], _ => ⟨[], rfl⟩
 | e :: S, h => by
  obtain ⟨l, hl⟩ := rowO_some (S := S) fun e he => h e (List.mem_cons_of_mem _ he)
  unfold rowO
  cases ha : ansO o (w ++ e) with
  | none => exact absurd ha (h e (by simp))
  | some r =>
   rw [hl]
   exact ⟨_, rfl⟩
theorem rowO_ans {o : T_api_Obs} {w : List Int} : ∀ {S : List (List Int)} {r : Row}, rowO o w S = some r → ∀ e ∈ S, ansO o (w ++ e) ≠ none
 | [], _, _, e, he => by cases he
 | u :: S, r, h, e, he => by
  unfold rowO at h
  cases ha : ansO o (w ++ u) with
  | none => rw [ha] at h; cases h
  | some x =>
   rw [ha] at h
   obtain ⟨l, h1, _⟩ := Option.map_eq_some_iff.1 h
   rcases List.mem_cons.1 he with rfl | he
   ·rw [ha]; simp
   ·exact rowO_ans h1 e he
def AllRows (t : T_api_Table) (o : T_api_Obs) : Prop := ∀ p ∈ t.Prefixes, ∀ w ∈ withX t.Inputs.toNat p, ∃ r, rowO o w t.Suffixes = some r
theorem need_nil {t : T_api_Table} {o : T_api_Obs} : needL o t t.Prefixes = [] ↔ AllRows t o := by
 constructor
 ·intro h p hp w hw
  refine rowO_some fun e he hn => ?_
  have : w ++ e ∈ needL o t t.Prefixes := List.mem_flatMap.2 ⟨p, hp, List.mem_flatMap.2 ⟨w, hw, mem_missO.2 ⟨⟨e, he, rfl⟩, hn⟩⟩⟩
  rw [h] at this
  cases this
 ·intro h
  refine List.eq_nil_iff_forall_not_mem.2 fun v hv => ?_
  obtain ⟨p, hp, h2⟩ := List.mem_flatMap.1 hv
  obtain ⟨w, hw, h3⟩ := List.mem_flatMap.1 h2
  obtain ⟨⟨e, he, rfl⟩, hn⟩ := mem_missO.1 h3
  obtain ⟨r, hr⟩ := h p hp w hw
  exact rowO_ans hr e he hn
def compT (t : T_api_Table) (o : T_api_Obs) : Int := if chkT t o ≠ 0 then chkT t o else if needL o t t.Prefixes = [] then 0 else 12
structure ViewOk (t : T_api_Table) (o : T_api_Obs) (v : T_table_view) : Prop where
 pl : v.prefixes.length = t.Prefixes.length
 nl : v.next.length = t.Prefixes.length
 pre : ∀ (i : Nat) p, t.Prefixes[i]? = some p → ∃ r, rowO o p t.Suffixes = some r ∧ r ∈ v.rows ∧ v.prefixes[i]? = some (↑(pos r v.rows) : Int)
 nxt : ∀ (i : Nat) p, t.Prefixes[i]? = some p → ∃ l, v.next[i]? = some l ∧ l.length = t.Inputs.toNat ∧ ∀ a, a < t.Inputs.toNat → ∃ r, rowO o (p ++ [(↑a : Int)]) t.Suffixes = some r ∧ r ∈ v.rows ∧ l[a]? = some (↑(pos r v.rows) : Int)
theorem valid_asc {t : T_api_Table} (h : validT t = 0) : 1 ≤ t.Inputs ∧ t.Inputs ≤ 64 ∧ Asc t.Prefixes ∧ Asc t.Suffixes ∧ (∀ a ∈ List.range t.Inputs.toNat, [(↑a : Int)] ∈ t.Suffixes) ∧ scan (preG t fun w => decide (w ∈ t.Prefixes)) 0 t.Prefixes = none ∧ scan (sufG t) 0 t.Suffixes = none ∧ t.Prefixes ≠ [] := by
 unfold validT at h
 split at h
 ·cases h
 ·rename_i h1
  split at h
  ·cases h
  ·rename_i h2
   split at h
   ·cases h
   ·cases e1 : scan (preG t fun w => decide (w ∈ t.Prefixes)) 0 t.Prefixes with
    | some e =>
     exfalso
     rw [e1] at h
     simp only at h
     subst h
     have key : ∀ (l : List (List Int)) (j : Nat), scan (preG t fun w => decide (w ∈ t.Prefixes)) j l ≠ some 0 := by
      intro l
      induction l with
      | nil => intro j h; cases h
      | cons x l ih =>
       intro j h
       unfold scan at h
       split at h
       ·rename_i r' h3
        injection h with h
        subst h
        unfold preG at h3
        split at h3
        ·rename_i h4
         injection h3 with h3
         exact h4 h3
        ·split at h3
         ·cases h3
         ·split at h3
          ·cases h3
          ·cases h3
       ·exact ih _ h
     exact key _ _ e1
    | none =>
     rw [e1] at h
     cases e2 : scan (sufG t) 0 t.Suffixes with
     | some e =>
      exfalso
      rw [e2] at h
      simp only at h
      subst h
      have key : ∀ (l : List (List Int)) (j : Nat), scan (sufG t) j l ≠ some 0 := by
       intro l
       induction l with
       | nil => intro j h; cases h
       | cons x l ih =>
        intro j h
        unfold scan at h
        split at h
        ·rename_i r' h3
         injection h with h
         subst h
         unfold sufG at h3
         split at h3
         ·rename_i h4
          injection h3 with h3
          exact h4 h3
         ·split at h3
          ·cases h3
          ·split at h3
           ·cases h3
           ·cases h3
        ·exact ih _ h
      exact key _ _ e2
     | none =>
      rw [e2] at h
      simp only at h
      split at h
      ·rename_i h5
       refine ⟨by omega, by omega, Asc_of_prev fun i w hw => ?_, (sufG_none e2).1, h5, rfl, rfl, fun e => h2 (by rw [e]; rfl)⟩
       have := scan_none.1 e1 i w hw
       rw [Nat.zero_add] at this
       unfold preG at this
       split at this
       ·cases this
       ·split at this
        ·cases this
        ·rename_i h6
         cases hpv : prevLt t.Prefixes i w with
         | true => rfl
         | false => exact absurd (Or.inr hpv) h6
      ·cases h
def newRow (t : T_api_Table) (o : T_api_Obs) (w : List Int) : Bool := decide (rowO o w t.Suffixes ∉ t.Prefixes.map fun p => rowO o p t.Suffixes)
end Go.Proofs.YtpmebphhbgpapaaGreatDoor.Sym

/-
 The suffix that shows that a table is not consistent, and the law of TableRepairs. Plain laws.
-/
namespace Go.Proofs.YtpmebphhbgpapaaGreatDoor.Sym
set_option maxRecDepth 100000
section
variable {α R T : Type}
end
def rowG (t : T_api_Table) (o : T_api_Obs) (w : List Int) : Row := (rowO o w t.Suffixes).getD []
def dP (a : Nat) (x y : Row) : Option (Int × Int × Bool) := scan (fun e u => if y[e]? = some u then none else some ((↑a : Int), (↑e : Int), true)) 0 x
def pP (t : T_api_Table) (o : T_api_Obs) (p q : List Int) : Option (Int × Int × Bool) := scan (fun _ (a : Nat) => dP a (rowG t o (p ++ [(↑a : Int)])) (rowG t o (q ++ [(↑a : Int)]))) 0 (List.range t.Inputs.toNat)
def iP (t : T_api_Table) (o : T_api_Obs) : Option (Int × Int × Bool) := scan (fun i p => scan (fun _ q => if rowO o p t.Suffixes = rowO o q t.Suffixes then pP t o p q else none) (i + 1) (t.Prefixes.drop (i + 1))) 0 t.Prefixes
theorem rowG_some {t : T_api_Table} {o : T_api_Obs} {w : List Int} {r : Row} (h : rowO o w t.Suffixes = some r) : rowG t o w = r := by unfold rowG; rw [h]; rfl
end Go.Proofs.YtpmebphhbgpapaaGreatDoor.Sym

/-
 Every repair adds one word: plain law of TableProgress.
-/
namespace Go.Proofs.YtpmebphhbgpapaaGreatDoor.Sym
set_option maxRecDepth 100000
theorem compT_zero {t : T_api_Table} {o : T_api_Obs} (h : compT t o = 0) : validT t = 0 ∧ t.Inputs = o.Inputs ∧ AllRows t o := by
 unfold compT at h
 split at h
 ·rename_i h1; exact absurd h h1
 ·rename_i h1
  split at h
  ·rename_i h2
   have h1 : chkT t o = 0 := by simpa using h1
   unfold chkT at h1
   split at h1
   ·rename_i h3; exact absurd h1 h3
   ·rename_i h3
    split at h1
    ·cases h1
    ·rename_i h4
     exact ⟨by simpa using h3, by simpa using h4, need_nil.1 h2⟩
  ·cases h
theorem valid_has {t : T_api_Table} (h : validT t = 0) : (∀ w ∈ t.Prefixes, checkI w t.Inputs = 0) ∧ (∀ w ∈ t.Prefixes, 0 < w.length → w.take (w.length - 1) ∈ t.Prefixes) ∧ [] ∈ t.Prefixes ∧ ∀ w ∈ t.Suffixes, checkI w t.Inputs = 0 ∧ w.length ≠ 0 := by
 obtain ⟨_, _, _, _, _, e1, e2, hne⟩ := valid_asc h
 have key : ∀ (i : Nat) w, t.Prefixes[i]? = some w → checkI w t.Inputs = 0 ∧ ¬ (i = 0 ∧ 0 < w.length) ∧ (0 < w.length → w.take (w.length - 1) ∈ t.Prefixes) := fun i w hw => by
  have := scan_none.1 e1 i w hw
  rw [Nat.zero_add] at this
  unfold preG at this
  split at this
  ·cases this
  ·rename_i h1
   split at this
   ·cases this
   ·rename_i h2
    split at this
    ·cases this
    ·rename_i h3
     refine ⟨by simpa using h1, fun h4 => h2 (Or.inl h4), fun h4 => ?_⟩
     refine Classical.byContradiction fun h5 => h3 ⟨h4, decide_eq_false h5⟩
 refine ⟨fun w hw => ?_, fun w hw => ?_, ?_, (sufG_none e2).2⟩
 ·obtain ⟨i, hi, rfl⟩ := List.mem_iff_getElem.1 hw
  exact (key i _ (get_at hi)).1
 ·obtain ⟨i, hi, rfl⟩ := List.mem_iff_getElem.1 hw
  exact (key i _ (get_at hi)).2.2
 ·have hl : 0 < t.Prefixes.length := List.length_pos_iff.2 hne
  have := (key 0 _ (get_at hl)).2.1
  have he : t.Prefixes[0].length = 0 := by
   rcases Nat.eq_zero_or_pos t.Prefixes[0].length with h | h
   ·exact h
   ·exact absurd ⟨rfl, h⟩ this
  have := List.eq_nil_of_length_eq_zero he
  rw [← this]
  exact List.getElem_mem _
theorem pre_closed {t : T_api_Table} (h : validT t = 0) : ∀ (n : Nat) (p : List Int), p ∈ t.Prefixes → ∀ k, p.length - k = n → k ≤ p.length → p.take k ∈ t.Prefixes := by
 obtain ⟨_, hc, _, _⟩ := valid_has h
 intro n
 induction n with
 | zero => intro p hp k hk hkl; rw [List.take_of_length_le (by omega)]; exact hp
 | succ n ih =>
  intro p hp k hk hkl
  have h1 := hc p hp (by omega)
  have h2 := ih _ h1 k (by rw [List.length_take]; omega) (by rw [List.length_take]; omega)
  rw [List.take_take, Nat.min_eq_left (by omega)] at h2
  exact h2
theorem rowO_get {o : T_api_Obs} {w : List Int} : ∀ {S : List (List Int)} {r : Row}, rowO o w S = some r → ∀ (i : Nat) e, S[i]? = some e → ∃ x, ansO o (w ++ e) = some x ∧ r[i]? = some (x.drop w.length)
 | [], _, _, i, e, he => by simp at he
 | u :: S, r, h, i, e, he => by
  unfold rowO at h
  cases ha : ansO o (w ++ u) with
  | none => rw [ha] at h; cases h
  | some x =>
   rw [ha] at h
   obtain ⟨l, h1, rfl⟩ := Option.map_eq_some_iff.1 h
   cases i with
   | zero =>
    simp at he
    subst he
    exact ⟨x, ha, rfl⟩
   | succ i =>
    obtain ⟨y, h2, h3⟩ := rowO_get h1 i e (by simpa using he)
    exact ⟨y, h2, by simpa using h3⟩
end Go.Proofs.YtpmebphhbgpapaaGreatDoor.Sym

/-
 The hypothesis of a table: the program's is the document's. Plain laws.
-/
namespace Go.Proofs.YtpmebphhbgpapaaGreatDoor.Sym
set_option maxRecDepth 100000
theorem singles_at {l : List (List Int)} {n : Int} (hA : Asc l) (hc : ∀ w ∈ l, checkI w n = 0 ∧ w.length ≠ 0) (h : ∀ a ∈ List.range n.toNat, [(↑a : Int)] ∈ l) : ∀ a, a < n.toNat → l[a]? = some [(↑a : Int)] := by
 intro a
 induction a using Nat.strongRecOn with
 | _ a ih =>
  intro ha
  obtain ⟨j, hj, e⟩ := List.mem_iff_getElem.1 (h a (List.mem_range.2 ha))
  have ej : l[j]? = some [(↑a : Int)] := by rw [get_at hj, e]
  rcases Nat.lt_trichotomy j a with hlt | heq | hgt
  ·have := ih j hlt (by omega)
   rw [ej] at this
   injection this with this
   injection this with this
   omega
  ·rw [← heq, ej, heq]
  ·have hx := get_at (l := l) (i := a) (by omega)
   have hcmp := hA.get hgt hx ej
   have hxm := List.mem_of_getElem? hx
   obtain ⟨b, hb⟩ := one_of (hc _ hxm).2 (cmp_len hcmp)
   rw [hb] at hcmp hx
   have hlt := cmp_single.1 hcmp
   have hr := check_mem (hc _ hxm).1 b (by rw [hb]; simp)
   have hbb := ih b.toNat (by omega) (by omega)
   rw [show ((b.toNat : Nat) : Int) = b by omega] at hbb
   have := hA.get (show b.toNat < a by omega) hbb hx
   rw [cmpW_refl] at this
   cases this
def newAt (rs : List Row) (i : Nat) : Bool := match rs[i]? with | some r => decide (r ∉ rs.take i) | none => false
def fstI (rs : List Row) (k : Nat) : List Nat := (List.range k).filter (newAt rs)
theorem fstI_succ (rs : List Row) (k : Nat) : fstI rs (k + 1) = fstI rs k ++ if newAt rs k = true then [k] else [] := by
 unfold fstI
 rw [List.range_succ, List.filter_append]
 simp only [List.filter_cons, List.filter_nil]
theorem addAll_fst (rs : List Row) : ∀ k, k ≤ rs.length → addAll [] (rs.take k) = (fstI rs k).map fun i => (rs[i]?).getD [] := by
 intro k
 induction k with
 | zero => intro _; rfl
 | succ k ih =>
  intro hk
  have hx := get_at (l := rs) (i := k) (by omega)
  rw [take_step hx, addAll_snoc, ih (by omega), fstI_succ, List.map_append]
  have hiff : newAt rs k = true ↔ rs[k] ∉ addAll [] (rs.take k) := by
   unfold newAt
   rw [hx]
   simp only
   rw [decide_eq_true_iff, mem_addAll]
   simp
  rw [ih (by omega)] at hiff
  unfold addR
  by_cases h : newAt rs k = true
  ·rw [if_neg (hiff.1 h), if_pos h]
   simp [hx]
  ·rw [if_pos (Classical.byContradiction fun h2 => h (hiff.2 h2)), if_neg h]
   simp
theorem fstI_len (rs : List Row) (k : Nat) : (fstI rs k).length ≤ k := by
 unfold fstI
 have := List.length_filter_le (newAt rs) (List.range k)
 rw [List.length_range] at this
 exact this
theorem mem_fstI {rs : List Row} {k i : Nat} : i ∈ fstI rs k ↔ i < k ∧ newAt rs i = true := by
 unfold fstI
 rw [List.mem_filter, List.mem_range]
def rowsT (t : T_api_Table) (o : T_api_Obs) : List Row := t.Prefixes.map (rowG t o)
def rowsA (t : T_api_Table) (o : T_api_Obs) : List Row := addAll [] (rowsT t o)
def nextT (t : T_api_Table) (o : T_api_Obs) (p : List Int) : List Int := (List.range t.Inputs.toNat).map fun (a : Nat) => (↑(pos (rowG t o (p ++ [(↑a : Int)])) (rowsA t o)) : Int)
def outT (t : T_api_Table) (o : T_api_Obs) (p : List Int) : List Int := (List.range t.Inputs.toNat).map fun (a : Nat) => (((rowG t o p)[a]?).getD []).headD 0
def preAt (t : T_api_Table) (i : Nat) : List Int := (t.Prefixes[i]?).getD []
def hypT (t : T_api_Table) (o : T_api_Obs) : T_api_Hyp :=
 ⟨⟨t.Inputs, 0, (fstI (rowsT t o) t.Prefixes.length).map fun i => nextT t o (preAt t i), (fstI (rowsT t o) t.Prefixes.length).map fun i => outT t o (preAt t i)⟩, (fstI (rowsT t o) t.Prefixes.length).map (preAt t)⟩
abbrev h0 : T_api_Hyp := ⟨⟨0, 0, [], []⟩, []⟩
def hypR (t : T_api_Table) (o : T_api_Obs) : T_api_Hyp × Int :=
 if compT t o ≠ 0 then (h0, compT t o) else if (extL t).find? (newRow t o) ≠ none ∨ iP t o ≠ none then (h0, 10) else (hypT t o, 0)
theorem row_out {t : T_api_Table} {o : T_api_Obs} (hv : ObsOk o) {p : List Int} {r : Row} (hr : rowO o p t.Suffixes = some r) {a : Nat} (hs : t.Suffixes[a]? = some [(↑a : Int)]) : ∃ y z, r[a]? = some [y] ∧ ansO o (p ++ [(↑a : Int)]) = some z ∧ z.drop p.length = [y] := by
 obtain ⟨z, h1, h2⟩ := rowO_get hr a _ hs
 have hl := ansO_len hv h1
 rw [List.length_append, List.length_singleton] at hl
 have hd : (z.drop p.length).length = 1 := by rw [List.length_drop]; omega
 match hq : z.drop p.length, hd with
 | [y], _ => exact ⟨y, z, by rw [h2, hq], h1, hq⟩
end Go.Proofs.YtpmebphhbgpapaaGreatDoor.Sym

/-
 The reference's hypothesis, and the law of TableHypothesis. Plain laws.
-/
namespace Go.Proofs.YtpmebphhbgpapaaGreatDoor.Sym
set_option maxRecDepth 100000
theorem rowG_eq {t : T_api_Table} {o : T_api_Obs} {p : List Int} (h : ∃ r, rowO o p t.Suffixes = some r) : rowO o p t.Suffixes = some (rowG t o p) := by
 obtain ⟨r, hr⟩ := h
 rw [hr, rowG_some hr]
end Go.Proofs.YtpmebphhbgpapaaGreatDoor.Sym

/-
 The prefixes reach their rows: plain law of TableReaches.
-/
namespace Go.Proofs.YtpmebphhbgpapaaGreatDoor.Sym
set_option maxRecDepth 100000
structure HypOk (t : T_api_Table) (o : T_api_Obs) : Prop where
 ht : TabOk t
 ho : SmO o
 hv : ObsOk o
 hz : compT t o = 0
 hf : (extL t).find? (newRow t o) = none
 hi : iP t o = none
section
variable {t : T_api_Table} {o : T_api_Obs}
theorem HypOk.all (H : HypOk t o) : AllRows t o := (compT_zero H.hz).2.2
theorem HypOk.row (H : HypOk t o) {p : List Int} (hp : p ∈ t.Prefixes) : rowO o p t.Suffixes = some (rowG t o p) := rowG_eq (H.all p hp p (by simp [withX]))
theorem HypOk.ext (H : HypOk t o) {p : List Int} (hp : p ∈ t.Prefixes) {a : Nat} (ha : a < t.Inputs.toNat) : rowO o (p ++ [(↑a : Int)]) t.Suffixes = some (rowG t o (p ++ [(↑a : Int)])) :=
 rowG_eq (H.all p hp _ (List.mem_cons_of_mem _ (List.mem_map.2 ⟨a, List.mem_range.2 ha, rfl⟩)))
theorem HypOk.closed (H : HypOk t o) {p : List Int} (hp : p ∈ t.Prefixes) {a : Nat} (ha : a < t.Inputs.toNat) : rowG t o (p ++ [(↑a : Int)]) ∈ rowsA t o := by
 have h1 := List.find?_eq_none.1 H.hf (p ++ [(↑a : Int)]) (List.mem_flatMap.2 ⟨p, hp, List.mem_map.2 ⟨a, List.mem_range.2 ha, rfl⟩⟩)
 have h2 : newRow t o (p ++ [(↑a : Int)]) = false := by simpa using h1
 unfold newRow at h2
 obtain ⟨q, hq, h3⟩ := List.mem_map.1 (Classical.not_not.1 (of_decide_eq_false h2))
 rw [H.ext hp ha] at h3
 unfold rowsA
 exact mem_addAll.2 (Or.inr (List.mem_map.2 ⟨q, hq, rowG_some h3⟩))
theorem HypOk.mem (H : HypOk t o) {p : List Int} (hp : p ∈ t.Prefixes) : rowG t o p ∈ rowsA t o := by
 unfold rowsA
 exact mem_addAll.2 (Or.inr (List.mem_map.2 ⟨p, hp, rfl⟩))
theorem dP_none {a : Nat} {x y : Row} (hl : x.length = y.length) (h : dP a x y = none) : x = y := by
 have h1 := scan_none.1 h
 apply List.ext_getElem?
 intro e
 rcases Nat.lt_or_ge e x.length with he | he
 ·have hx := get_at he
  have := h1 e _ hx
  rw [Nat.zero_add] at this
  split at this
  ·rename_i h2
   rw [hx, h2]
  ·cases this
 ·rw [List.getElem?_eq_none he, List.getElem?_eq_none (by omega)]
theorem HypOk.cons (H : HypOk t o) {p q : List Int} (hp : p ∈ t.Prefixes) (hq : q ∈ t.Prefixes) (h : rowG t o p = rowG t o q) {a : Nat} (ha : a < t.Inputs.toNat) : rowG t o (p ++ [(↑a : Int)]) = rowG t o (q ++ [(↑a : Int)]) := by
 have key : ∀ (i k : Nat) p q, i < k → t.Prefixes[i]? = some p → t.Prefixes[k]? = some q → rowG t o p = rowG t o q → rowG t o (p ++ [(↑a : Int)]) = rowG t o (q ++ [(↑a : Int)]) := by
  intro i k p q hik hp hq h
  have hpm := List.mem_of_getElem? hp
  have hqm := List.mem_of_getElem? hq
  have h1 := scan_none.1 H.hi i p hp
  rw [Nat.zero_add] at h1
  have hq2 : (t.Prefixes.drop (i + 1))[k - (i + 1)]? = some q := by
   rw [List.getElem?_drop, show i + 1 + (k - (i + 1)) = k by omega]
   exact hq
  have h2 := scan_none.1 h1 _ q hq2
  rw [if_pos (by rw [H.row hpm, H.row hqm, h])] at h2
  have h3 := scan_none.1 h2 a a (List.getElem?_range ha)
  refine dP_none ?_ h3
  rw [(rowO_sml H.hv (H.ext hpm ha)).1, (rowO_sml H.hv (H.ext hqm ha)).1]
 obtain ⟨i, hi, rfl⟩ := List.mem_iff_getElem.1 hp
 obtain ⟨k, hk, rfl⟩ := List.mem_iff_getElem.1 hq
 rcases Nat.lt_trichotomy i k with hlt | heq | hgt
 ·exact key i k _ _ hlt (get_at hi) (get_at hk) h
 ·subst heq; rfl
 ·exact (key k i _ _ hgt (get_at hk) (get_at hi) h.symm).symm
def stt (t : T_api_Table) (o : T_api_Obs) (w : List Int) : Nat := pos (rowG t o w) (rowsA t o)
theorem rowsA_map : rowsA t o = (fstI (rowsT t o) t.Prefixes.length).map fun i => ((rowsT t o)[i]?).getD [] := by
 have := addAll_fst (rowsT t o) t.Prefixes.length (by simp [rowsT])
 rw [List.take_of_length_le (by simp [rowsT])] at this
 exact this
theorem rep_of {r : Row} (h : r ∈ rowsA t o) : ∃ i, (fstI (rowsT t o) t.Prefixes.length)[pos r (rowsA t o)]? = some i ∧ i < t.Prefixes.length ∧ preAt t i ∈ t.Prefixes ∧ rowG t o (preAt t i) = r := by
 have h1 := pos_get h
 have h2 := @rowsA_map t o
 rw [h2, List.getElem?_map] at h1
 rw [← h2] at h1
 obtain ⟨i, hi, h3⟩ := Option.map_eq_some_iff.1 h1
 have hm := mem_fstI.1 (List.mem_of_getElem? hi)
 have hp := get_at hm.1
 have hpa : preAt t i = t.Prefixes[i] := by unfold preAt; rw [hp]; rfl
 refine ⟨i, hi, hm.1, by rw [hpa]; exact List.getElem_mem _, ?_⟩
 rw [hpa, ← h3]
 unfold rowsT
 rw [List.getElem?_map, hp]
 rfl
theorem HypOk.at (H : HypOk t o) {r : Row} (h : r ∈ rowsA t o) : ∃ q ∈ t.Prefixes, rowG t o q = r ∧ (hypT t o).M.Next[pos r (rowsA t o)]? = some (nextT t o q) ∧ (hypT t o).M.Out[pos r (rowsA t o)]? = some (outT t o q) ∧ (hypT t o).Access[pos r (rowsA t o)]? = some q := by
 obtain ⟨i, hi, _, h2, h3⟩ := rep_of h
 refine ⟨preAt t i, h2, h3, ?_, ?_, ?_⟩
 ·show ((fstI (rowsT t o) t.Prefixes.length).map fun i => nextT t o (preAt t i))[_]? = _
  rw [List.getElem?_map, hi]
  rfl
 ·show ((fstI (rowsT t o) t.Prefixes.length).map fun i => outT t o (preAt t i))[_]? = _
  rw [List.getElem?_map, hi]
  rfl
 ·show ((fstI (rowsT t o) t.Prefixes.length).map (preAt t))[_]? = _
  rw [List.getElem?_map, hi]
  rfl
theorem nextT_at {q : List Int} {a : Nat} (ha : a < t.Inputs.toNat) : (nextT t o q)[a]? = some (↑(stt t o (q ++ [(↑a : Int)])) : Int) := by
 unfold nextT stt
 rw [List.getElem?_map, List.getElem?_range ha]
 rfl
theorem outT_at {q : List Int} {a : Nat} (ha : a < t.Inputs.toNat) : (outT t o q)[a]? = some ((((rowG t o q)[a]?).getD []).headD 0) := by
 unfold outT
 rw [List.getElem?_map, List.getElem?_range ha]
 rfl
theorem HypOk.sym (H : HypOk t o) {p : List Int} (hp : p ∈ t.Prefixes) {k : Nat} {x : Int} (hx : p[k]? = some x) : 0 ≤ x ∧ x < t.Inputs :=
 check_mem ((valid_has (compT_zero H.hz).1).1 p hp) x (List.mem_of_getElem? hx)
theorem HypOk.nil (H : HypOk t o) : t.Prefixes[0]? = some [] := by
 obtain ⟨hval, _, _⟩ := compT_zero H.hz
 obtain ⟨_, _, hA, _, _, _, _, hne⟩ := valid_asc hval
 obtain ⟨_, _, h0, _⟩ := valid_has hval
 have hl : 0 < t.Prefixes.length := List.length_pos_iff.2 hne
 obtain ⟨j, hj, e⟩ := List.mem_iff_getElem.1 h0
 rcases Nat.eq_zero_or_pos j with rfl | hj0
 ·rw [get_at hj, e]
 ·have := cmp_len (hA.get hj0 (get_at hl) (get_at hj))
  rw [e] at this
  have h2 := List.eq_nil_of_length_eq_zero (Nat.le_zero.1 this)
  rw [get_at hl, h2]
theorem HypOk.start (H : HypOk t o) : stt t o [] = 0 := by
 have h0 := H.nil
 unfold stt rowsA
 have hp : rowsT t o = rowG t o [] :: (rowsT t o).drop 1 := by
  unfold rowsT
  cases hP : t.Prefixes with
  | nil => rw [hP] at h0; cases h0
  | cons p ps =>
   rw [hP] at h0
   injection h0 with h0
   subst h0
   rfl
 rw [hp]
 show pos (rowG t o []) (addAll (addR [] (rowG t o [])) _) = 0
 rw [pos_addAll (mem_addR.2 (Or.inr rfl))]
 simp [addR, pos]
theorem HypOk.outs (H : HypOk t o) {p : List Int} (hp : p ∈ t.Prefixes) : ∃ ys, R06_Outs (hypT t o).M 0 p = some (ys, (↑(stt t o p) : Int)) := by
 have hpw := H.ht.pw p hp
 have hval := (compT_zero H.hz).1
 unfold R06_Outs
 have key := iter_post (step := fun (s : Int × List Int × Nat) => R06_Outs.s2 (hypT t o).M p s.1 s.2.1 s.2.2) (fun s => s.2.2 ≤ p.length ∧ s.1 = (↑(stt t o (p.take s.2.2)) : Int) ∧ s.2.1.length = s.2.2) (fun s => p.length - s.2.2) (fun r => r.1 = (↑(stt t o p) : Int)) (fun s ⟨g1, g2, g3⟩ => by
  obtain ⟨st, y, k⟩ := s
  simp only at g1 g2 g3
  subst g2
  simp only [R06_Outs.s2]
  by_cases g4 : k < p.length
  ·left
   have hx := get_at g4
   obtain ⟨hx0, hx1⟩ := H.sym hp hx
   have hpre := pre_closed hval _ p hp k rfl (by omega)
   have hpre1 := pre_closed hval _ p hp (k + 1) rfl (by omega)
   have hxa : p[k] = ((p[k].toNat : Nat) : Int) := by omega
   have han : p[k].toNat < t.Inputs.toNat := by omega
   obtain ⟨q, hq, q1, q2, q3, _⟩ := H.at (H.mem hpre)
   have q2 : (hypT t o).M.Next[stt t o (p.take k)]? = some (nextT t o q) := q2
   have q3 : (hypT t o).M.Out[stt t o (p.take k)]? = some (outT t o q) := q3
   have hcons := H.cons hq hpre q1 han
   have hst : stt t o (q ++ [((p[k].toNat : Nat) : Int)]) = stt t o (p.take (k + 1)) := by
    unfold stt
    rw [hcons, take_step hx, ← hxa]
   refine ⟨((↑(stt t o (p.take (k + 1))) : Int), y ++ [(((rowG t o q)[p[k].toNat]?).getD []).headD 0], k + 1), ?_, ⟨g4, rfl, by simp [g3]⟩, by simp only; omega⟩
   rw [dec_lt hx, cond_true, idx_at rfl q3, idxn_at hx, idx_at hxa (outT_at han), chk_pos (by unfold capOk; omega), idx_at rfl q2, idxn_at hx, idx_at hxa (nextT_at han), hst]
  ·right
   have e : k = p.length := by omega
   subst e
   rw [List.take_length]
   exact ⟨_, by rw [decide_eq_false (by omega), cond_false], rfl⟩) fuel ((0 : Int), [], 0) ⟨Nat.zero_le _, by simp [H.start], rfl⟩ (by have := fuel_big; simp only; omega)
 obtain ⟨⟨st, ys⟩, e, hq⟩ := key
 rw [e, obind]
 simp only at hq
 subst hq
 exact ⟨ys, rfl⟩
theorem HypOk.num (H : HypOk t o) : (rowsA t o).length = (fstI (rowsT t o) t.Prefixes.length).length ∧ 0 < (rowsA t o).length ∧ (rowsA t o).length ≤ 30 := by
 have h1 := @rowsA_map t o
 have h2 := fstI_len (rowsT t o) t.Prefixes.length
 have h3 := H.ht.p
 have h4 : (rowsA t o).length = (fstI (rowsT t o) t.Prefixes.length).length := by rw [h1, List.length_map]
 have h5 : rowG t o [] ∈ rowsA t o := H.mem (List.mem_of_getElem? H.nil)
 have h6 := List.length_pos_of_mem h5
 omega
theorem HypOk.nlen (H : HypOk t o) : (hypT t o).M.Next.length = (rowsA t o).length ∧ (hypT t o).M.Out.length = (rowsA t o).length ∧ (hypT t o).Access.length = (rowsA t o).length := by
 have := H.num.1
 unfold hypT
 simp only [List.length_map]
 omega
theorem HypOk.state (H : HypOk t o) {s : Nat} (hs : s < (rowsA t o).length) : ∃ q ∈ t.Prefixes, stt t o q = s ∧ (hypT t o).M.Next[s]? = some (nextT t o q) ∧ (hypT t o).M.Out[s]? = some (outT t o q) ∧ (hypT t o).Access[s]? = some q := by
 have hm := List.getElem_mem hs
 have hpos : pos (rowsA t o)[s] (rowsA t o) = s := by
  -- the rows are all different
  have hnd : ∀ (rs R : List Row), R.Nodup → (addAll R rs).Nodup := by
   intro rs
   induction rs with
   | nil => intro R h; exact h
   | cons r rs ih =>
    intro R h
    show (addAll (addR R r) rs).Nodup
    refine ih _ ?_
    unfold addR
    split
    ·exact h
    ·rename_i hn
     rw [List.nodup_append]
     exact ⟨h, by simp, fun x hx y hy => by
      rw [List.mem_singleton.1 hy]
      exact fun e => hn (e ▸ hx)⟩
  have hN : (rowsA t o).Nodup := hnd _ _ List.nodup_nil
  have h1 := pos_get hm
  have h2 := pos_lt hm
  have h3 := get_at h2
  rw [h1] at h3
  injection h3 with h3
  rcases Nat.lt_trichotomy (pos (rowsA t o)[s] (rowsA t o)) s with hlt | heq | hgt
  ·exact absurd h3.symm (List.pairwise_iff_getElem.1 hN _ _ h2 hs hlt)
  ·exact heq
  ·exact absurd h3 (List.pairwise_iff_getElem.1 hN _ _ hs h2 hgt)
 obtain ⟨q, hq, q1, q2, q3, q4⟩ := H.at hm
 rw [hpos] at q2 q3 q4
 exact ⟨q, hq, by unfold stt; rw [q1, hpos], q2, q3, q4⟩
theorem HypOk.out_rng (H : HypOk t o) {q : List Int} (hq : q ∈ t.Prefixes) {a : Nat} (ha : a < t.Inputs.toNat) : 0 ≤ ((((rowG t o q)[a]?).getD []).headD 0) ∧ ((((rowG t o q)[a]?).getD []).headD 0) ≤ 1048576 := by
 obtain ⟨hval, _, _⟩ := compT_zero H.hz
 obtain ⟨_, _, _, hAs, hsing, _⟩ := valid_asc hval
 obtain ⟨_, _, _, hsc⟩ := valid_has hval
 obtain ⟨y, z, y1, y2, y3⟩ := row_out H.hv (H.row hq) (singles_at hAs hsc hsing a ha)
 rw [y1]
 show 0 ≤ y ∧ y ≤ 1048576
 have hy : y ∈ z := List.mem_of_mem_drop (by rw [y3]; simp)
 unfold ansO at y2
 split at y2
 ·injection y2 with y2
  subst y2
  cases hy
 ·obtain ⟨tr, htr, rfl⟩ := Option.map_eq_some_iff.1 y2
  exact (H.hv.prop tr (List.mem_of_find?_eq_some htr)).1.2.2 y (List.mem_of_mem_take hy)
theorem HypOk.row_valid (H : HypOk t o) {s : Nat} (hs : s < (rowsA t o).length) : R06_row (hypT t o).M (↑s : Int) = some 0 := by
 have hn := H.ht.n
 have hn1 : 1 ≤ t.Inputs := (valid_asc (compT_zero H.hz).1).1
 obtain ⟨q, hq, _, q2, q3, _⟩ := H.state hs
 have hl1 : (nextT t o q).length = t.Inputs.toNat := by simp [nextT]
 have hl2 : (outT t o q).length = t.Inputs.toNat := by simp [outT]
 have hI : (hypT t o).M.Inputs = t.Inputs := rfl
 have hnum := H.num
 unfold R06_row
 rw [hI, idx_at rfl q2, decide_eq_false (by omega), cond_false, idx_at rfl q3, decide_eq_false (by omega), obind, cond_false]
 have key := iter_eq (step := fun a => R06_row.s2 (hypT t o).M (↑s : Int) a) (r := .inl ()) (fun a => a ≤ t.Inputs.toNat) (fun a => t.Inputs.toNat - a) (fun a g1 => by
  simp only [R06_row.s2]
  rw [hI]
  by_cases g2 : a < t.Inputs.toNat
  ·left
   have hlt : stt t o (q ++ [(↑a : Int)]) < (rowsA t o).length := pos_lt (H.closed hq g2)
   obtain ⟨o1, o2⟩ := H.out_rng hq g2
   refine ⟨a + 1, ?_, by omega, by omega⟩
   rw [decide_eq_true (by omega), cond_true, idx_at rfl q2, idxn_at (nextT_at g2), decide_eq_false (by omega), cond_false, idx_at rfl q2, idxn_at (nextT_at g2), H.nlen.1, decide_eq_false (by omega), cond_false, idx_at rfl q3, idxn_at (outT_at g2), decide_eq_false (by omega), cond_false, idx_at rfl q3, idxn_at (outT_at g2), decide_eq_false (by omega), obind, cond_false, chk_pos (by unfold inR; omega)]
  ·right
   have e : a = t.Inputs.toNat := by omega
   subst e
   rw [decide_eq_false (by omega), cond_false]) (n := fuel) (s := 0) (Nat.zero_le _) (by have := fuel_big; omega)
 rw [key, obind]
 rfl
theorem HypOk.valid6 (H : HypOk t o) : R06_Valid (hypT t o).M = some 0 := by
 have hn := H.ht.n
 have hn1 : 1 ≤ t.Inputs := (valid_asc (compT_zero H.hz).1).1
 have hI : (hypT t o).M.Inputs = t.Inputs := rfl
 have hS : (hypT t o).M.Start = 0 := rfl
 obtain ⟨l1, l2, l3⟩ := H.nlen
 obtain ⟨_, n1, n2⟩ := H.num
 unfold R06_Valid
 rw [hI, hS, l1, l2, decide_eq_false (by omega), cond_false, decide_eq_false (by omega), obind, cond_false, decide_eq_false (by omega), cond_false, decide_eq_false (by omega), cond_false, decide_eq_false (by omega), cond_false, decide_eq_false (by omega), obind, cond_false, decide_eq_false (by omega), cond_false]
 have key := iter_scan (step := fun s => R06_Valid.s2 (hypT t o).M s) (l := (hypT t o).M.Next) (fun _ _ => (none : Option Int)) (fun i x hx => by
  have hi := (List.getElem?_eq_some_iff.1 hx).1
  simp only [R06_Valid.s2]
  rw [dec_lt hx, cond_true, H.row_valid (by omega), obind]
  rfl) (by
  simp only [R06_Valid.s2]
  rw [dec_end]
  rfl) (by omega)
 rw [key, obind, scan_none.2 fun i x _ => rfl]
 rfl
end
end Go.Proofs.YtpmebphhbgpapaaGreatDoor.Sym

/-
 Machines: validity and runs. Plain laws.
-/
namespace Go.Proofs.YtpmebphhbgpapaaGreatDoor.Sym
set_option maxRecDepth 100000
structure MacOk (m : T_api_Mealy) : Prop where
 i1 : 1 ≤ m.Inputs
 i2 : m.Inputs ≤ 64
 n1 : 0 < m.Next.length
 n2 : m.Next.length ≤ 128
 st : 0 ≤ m.Start ∧ m.Start < (↑m.Next.length : Int)
 ol : m.Out.length = m.Next.length
 row : ∀ s, s < m.Next.length → ∃ x y, m.Next[s]? = some x ∧ m.Out[s]? = some y ∧ (↑x.length : Int) = m.Inputs ∧ (↑y.length : Int) = m.Inputs ∧ (∀ u ∈ x, 0 ≤ u ∧ u < (↑m.Next.length : Int)) ∧ ∀ v ∈ y, 0 ≤ v ∧ v ≤ 1048576
def nx (m : T_api_Mealy) (s a : Nat) : Nat := ((((m.Next[s]?).getD [])[a]?).getD 0).toNat
def ot (m : T_api_Mealy) (s a : Nat) : Int := (((m.Out[s]?).getD [])[a]?).getD 0
section
variable {m : T_api_Mealy}
theorem MacOk.at (H : MacOk m) {s a : Nat} (hs : s < m.Next.length) (ha : a < m.Inputs.toNat) : nx m s a < m.Next.length ∧ 0 ≤ ot m s a ∧ ot m s a ≤ 1048576 ∧ ∃ x y, m.Next[s]? = some x ∧ m.Out[s]? = some y ∧ x[a]? = some (↑(nx m s a) : Int) ∧ y[a]? = some (ot m s a) := by
 obtain ⟨x, y, h1, h2, h3, h4, h5, h6⟩ := H.row s hs
 have hx := get_at (l := x) (i := a) (by omega)
 have hy := get_at (l := y) (i := a) (by omega)
 have e1 : nx m s a = (x[a]'(by omega)).toNat := by
  unfold nx
  rw [h1, Option.getD_some, hx, Option.getD_some]
 have e2 : ot m s a = y[a]'(by omega) := by
  unfold ot
  rw [h2, Option.getD_some, hy, Option.getD_some]
 have g1 := h5 _ (List.getElem_mem (by omega : a < x.length))
 have g2 := h6 _ (List.getElem_mem (by omega : a < y.length))
 refine ⟨by rw [e1]; omega, by rw [e2]; exact g2.1, by rw [e2]; exact g2.2, x, y, h1, h2, ?_, by rw [e2]; exact hy⟩
 rw [hx, e1]
 congr 1
 omega
def outs (m : T_api_Mealy) : Nat → List Int → List Int
 | _, [] => []
 | s, a :: w => ot m s a.toNat :: outs m (nx m s a.toNat) w
def dest (m : T_api_Mealy) : Nat → List Int → Nat
 | s, [] => s
 | s, a :: w => dest m (nx m s a.toNat) w
def WOk (n : Int) (w : List Int) : Prop := ∀ a ∈ w, 0 ≤ a ∧ a < n
theorem outs_append : ∀ (w v : List Int) (s : Nat), outs m s (w ++ v) = outs m s w ++ outs m (dest m s w) v
 | [], _, _ => rfl
 | a :: w, v, s => by
  show ot m s a.toNat :: outs m (nx m s a.toNat) (w ++ v) = _
  rw [outs_append w v]
  rfl
theorem dest_append : ∀ (w v : List Int) (s : Nat), dest m s (w ++ v) = dest m (dest m s w) v
 | [], _, _ => rfl
 | _ :: w, v, _ => dest_append w v _
theorem WOk.tail {n : Int} {a : Int} {w : List Int} (h : WOk n (a :: w)) : WOk n w := fun x hx => h x (List.mem_cons_of_mem _ hx)
theorem WOk.head {n : Int} {a : Int} {w : List Int} (h : WOk n (a :: w)) : 0 ≤ a ∧ a < n := h a (by simp)
theorem WOk.take {n : Int} {w : List Int} (h : WOk n w) (k : Nat) : WOk n (w.take k) := fun x hx => h x (List.mem_of_mem_take hx)
theorem WOk.append {n : Int} {w v : List Int} (h : WOk n w) (g : WOk n v) : WOk n (w ++ v) := fun x hx => (List.mem_append.1 hx).elim (h x) (g x)
theorem MacOk.dest (H : MacOk m) : ∀ {w : List Int} {s : Nat}, WOk m.Inputs w → s < m.Next.length → dest m s w < m.Next.length
 | [], _, _, hs => hs
 | a :: w, s, hw, hs => by
  have := hw.head
  exact H.dest (w := w) hw.tail (H.at hs (a := a.toNat) (by omega)).1
def RowRng (n : Nat) (u v : Int) : Prop := (0 ≤ u ∧ u < (↑n : Int)) ∧ 0 ≤ v ∧ v ≤ 1048576
theorem R06_row_tot (h1 : m.Inputs ≤ 64) {s : Nat} (hs : s < m.Next.length) (ho : m.Out.length = m.Next.length) : ∃ e, R06_row m (↑s : Int) = some e ∧ (e = 0 → ∃ x y, m.Next[s]? = some x ∧ m.Out[s]? = some y ∧ (↑x.length : Int) = m.Inputs ∧ (↑y.length : Int) = m.Inputs ∧ (∀ u ∈ x, 0 ≤ u ∧ u < (↑m.Next.length : Int)) ∧ ∀ v ∈ y, 0 ≤ v ∧ v ≤ 1048576) := by
 obtain ⟨x, hx⟩ : ∃ x, m.Next[s]? = some x := ⟨_, get_at hs⟩
 obtain ⟨y, hy⟩ : ∃ y, m.Out[s]? = some y := ⟨_, get_at (l := m.Out) (i := s) (by omega)⟩
 unfold R06_row
 rw [idx_at rfl hx]
 by_cases g1 : (↑x.length : Int) = m.Inputs
 ·by_cases g2 : (↑y.length : Int) = m.Inputs
  ·rw [decide_eq_false (fun h => h g1), cond_false, idx_at rfl hy, decide_eq_false (fun h => h g2), obind, cond_false]
   obtain ⟨r, hr, hq⟩ := iter_post (step := fun a => R06_row.s2 m (↑s : Int) a) (fun a => a ≤ x.length ∧ ∀ b u v, b < a → x[b]? = some u → y[b]? = some v → RowRng m.Next.length u v) (fun a => x.length - a) (fun r => r = .inr 2 ∨ (r = .inl () ∧ ∀ b u v, b < x.length → x[b]? = some u → y[b]? = some v → RowRng m.Next.length u v)) (fun a ⟨q1, q2⟩ => by
    simp only [R06_row.s2]
    by_cases q3 : a < x.length
    ·obtain ⟨u, ha⟩ : ∃ u, x[a]? = some u := ⟨_, get_at q3⟩
     obtain ⟨v, hb⟩ : ∃ v, y[a]? = some v := ⟨_, get_at (l := y) (i := a) (by omega)⟩
     rw [decide_eq_true (by omega), cond_true, idx_at rfl hx, idxn_at ha]
     by_cases z1 : u < 0
     ·right
      exact ⟨.inr 2, by rw [decide_eq_true z1]; rfl, Or.inl rfl⟩
     rw [decide_eq_false z1, cond_false, idx_at rfl hx, idxn_at ha]
     by_cases z2 : (↑m.Next.length : Int) ≤ u
     ·right
      exact ⟨.inr 2, by rw [decide_eq_true z2]; rfl, Or.inl rfl⟩
     rw [decide_eq_false z2, cond_false, idx_at rfl hy, idxn_at hb]
     by_cases z3 : v < 0
     ·right
      exact ⟨.inr 2, by rw [decide_eq_true z3]; rfl, Or.inl rfl⟩
     rw [decide_eq_false z3, cond_false, idx_at rfl hy, idxn_at hb]
     by_cases z4 : 1048576 < v
     ·right
      exact ⟨.inr 2, by rw [decide_eq_true z4]; rfl, Or.inl rfl⟩
     left
     refine ⟨a + 1, by rw [decide_eq_false z4, obind, cond_false, chk_pos (by unfold inR; omega)], ⟨q3, fun b u' v' hb' hu hv => ?_⟩, by omega⟩
     rcases Nat.lt_or_ge b a with h | h
     ·exact q2 b u' v' h hu hv
     ·have e : b = a := by omega
      subst e
      rw [ha] at hu
      rw [hb] at hv
      injection hu with hu
      injection hv with hv
      subst hu
      subst hv
      exact ⟨⟨by omega, by omega⟩, by omega, by omega⟩
    ·right
     have e : a = x.length := by omega
     subst e
     exact ⟨.inl (), by rw [decide_eq_false (by omega), cond_false], Or.inr ⟨rfl, q2⟩⟩) fuel 0 ⟨Nat.zero_le _, fun b _ _ h => absurd h (Nat.not_lt_zero _)⟩ (by have := fuel_big; omega)
   rw [hr, obind]
   rcases hq with rfl | ⟨rfl, hq⟩
   ·exact ⟨2, rfl, fun h => by cases h⟩
   ·refine ⟨0, rfl, fun _ => ⟨x, y, hx, hy, g1, g2, fun u hu => ?_, fun v hv => ?_⟩⟩
    ·obtain ⟨b, hb, rfl⟩ := List.mem_iff_getElem.1 hu
     exact (hq b _ _ hb (get_at hb) (get_at (l := y) (by omega))).1
    ·obtain ⟨b, hb, rfl⟩ := List.mem_iff_getElem.1 hv
     exact (hq b _ _ (by omega) (get_at (l := x) (by omega)) (get_at hb)).2
  ·exact ⟨1, by rw [decide_eq_false (fun h => h g1), cond_false, idx_at rfl hy, decide_eq_true g2]; rfl, fun h => by cases h⟩
 ·exact ⟨1, by rw [decide_eq_true g1]; rfl, fun h => by cases h⟩
theorem R06_Valid_tot (m : T_api_Mealy) : ∃ e, R06_Valid m = some e ∧ (e = 0 → MacOk m) := by
 unfold R06_Valid
 by_cases c1 : m.Inputs < 1
 ·exact ⟨2, by rw [decide_eq_true c1]; rfl, fun h => by cases h⟩
 rw [decide_eq_false c1, cond_false]
 by_cases c2 : 64 < m.Inputs
 ·exact ⟨2, by rw [decide_eq_true c2]; rfl, fun h => by cases h⟩
 rw [decide_eq_false c2, obind, cond_false]
 by_cases c3 : (↑m.Next.length : Int) = 0
 ·exact ⟨19, by rw [decide_eq_true c3]; rfl, fun h => by cases h⟩
 rw [decide_eq_false c3, cond_false]
 by_cases c4 : 128 < (↑m.Next.length : Int)
 ·exact ⟨11, by rw [decide_eq_true c4]; rfl, fun h => by cases h⟩
 rw [decide_eq_false c4, cond_false]
 by_cases c5 : m.Start < 0
 ·exact ⟨2, by rw [decide_eq_true c5]; rfl, fun h => by cases h⟩
 rw [decide_eq_false c5, cond_false]
 by_cases c6 : (↑m.Next.length : Int) ≤ m.Start
 ·exact ⟨2, by rw [decide_eq_true c6]; rfl, fun h => by cases h⟩
 rw [decide_eq_false c6, obind, cond_false]
 by_cases c7 : (↑m.Out.length : Int) = (↑m.Next.length : Int)
 ·rw [decide_eq_false (fun h => h c7), cond_false]
  have ho : m.Out.length = m.Next.length := by omega
  obtain ⟨r, hr, hq⟩ := iter_post (step := fun s => R06_Valid.s2 m s) (fun a => a ≤ m.Next.length ∧ ∀ s, s < a → ∃ x y, m.Next[s]? = some x ∧ m.Out[s]? = some y ∧ (↑x.length : Int) = m.Inputs ∧ (↑y.length : Int) = m.Inputs ∧ (∀ u ∈ x, 0 ≤ u ∧ u < (↑m.Next.length : Int)) ∧ ∀ v ∈ y, 0 ≤ v ∧ v ≤ 1048576) (fun a => m.Next.length - a) (fun r => (∃ e, r = .inr e ∧ e ≠ 0) ∨ (r = .inl () ∧ ∀ s, s < m.Next.length → ∃ x y, m.Next[s]? = some x ∧ m.Out[s]? = some y ∧ (↑x.length : Int) = m.Inputs ∧ (↑y.length : Int) = m.Inputs ∧ (∀ u ∈ x, 0 ≤ u ∧ u < (↑m.Next.length : Int)) ∧ ∀ v ∈ y, 0 ≤ v ∧ v ≤ 1048576)) (fun a ⟨q1, q2⟩ => by
   simp only [R06_Valid.s2]
   by_cases q3 : a < m.Next.length
   ·obtain ⟨e, he, hz⟩ := R06_row_tot (m := m) (by omega) q3 ho
    rw [decide_eq_true (by omega), cond_true, he, obind]
    by_cases z : e = 0
    ·left
     refine ⟨a + 1, by rw [decide_eq_false (fun h => h z), cond_false], ⟨q3, fun s hs => ?_⟩, by omega⟩
     rcases Nat.lt_or_ge s a with h | h
     ·exact q2 s h
     ·have e2 : s = a := by omega
      subst e2
      exact hz z
    ·right
     exact ⟨.inr e, by rw [decide_eq_true z, cond_true], Or.inl ⟨e, rfl, z⟩⟩
   ·right
    have e : a = m.Next.length := by omega
    subst e
    exact ⟨.inl (), by rw [decide_eq_false (by omega), cond_false], Or.inr ⟨rfl, q2⟩⟩) fuel 0 ⟨Nat.zero_le _, fun s h => absurd h (Nat.not_lt_zero _)⟩ (by have := fuel_big; omega)
  rw [hr, obind]
  rcases hq with ⟨e, rfl, hz⟩ | ⟨rfl, hq⟩
  ·exact ⟨e, rfl, fun h => absurd h hz⟩
  ·exact ⟨0, rfl, fun _ => ⟨by omega, by omega, by omega, by omega, ⟨by omega, by omega⟩, ho, hq⟩⟩
 ·exact ⟨1, by rw [decide_eq_true c7]; rfl, fun h => by cases h⟩
theorem macOk_of (h : R06_Valid m = some 0) : MacOk m := by
 obtain ⟨e, he, hz⟩ := R06_Valid_tot m
 rw [h] at he
 injection he with he
 exact hz he.symm
end
end Go.Proofs.YtpmebphhbgpapaaGreatDoor.Sym

/-
 Machines: equivalence of states, and its classes. Plain laws.
-/
namespace Go.Proofs.YtpmebphhbgpapaaGreatDoor.Sym
set_option maxRecDepth 100000
def E (m : T_api_Mealy) : Nat → Nat → Nat → Prop
 | 0, _, _ => True
 | k + 1, s, t => E m k s t ∧ ∀ a, a < m.Inputs.toNat → ot m s a = ot m t a ∧ E m k (nx m s a) (nx m t a)
section
variable {m : T_api_Mealy}
theorem E_refl : ∀ (k s : Nat), E m k s s
 | 0, _ => trivial
 | k + 1, s => ⟨E_refl k s, fun _ _ => ⟨rfl, E_refl k _⟩⟩
theorem E_symm : ∀ {k s t : Nat}, E m k s t → E m k t s
 | 0, _, _, _ => trivial
 | _ + 1, _, _, h => ⟨E_symm h.1, fun a ha => ⟨(h.2 a ha).1.symm, E_symm (h.2 a ha).2⟩⟩
theorem E_trans : ∀ {k s t u : Nat}, E m k s t → E m k t u → E m k s u
 | 0, _, _, _, _, _ => trivial
 | _ + 1, _, _, _, h, g => ⟨E_trans h.1 g.1, fun a ha => ⟨(h.2 a ha).1.trans (g.2 a ha).1, E_trans (h.2 a ha).2 (g.2 a ha).2⟩⟩
theorem E_mono {k j s t : Nat} (hk : k ≤ j) (h : E m j s t) : E m k s t := by
 induction j with
 | zero =>
  have e : k = 0 := by omega
  subst e
  exact h
 | succ j ih =>
  rcases Nat.lt_or_ge k (j + 1) with h1 | h1
  ·exact ih (by omega) h.1
  ·have e : k = j + 1 := by omega
   subst e
   exact h
theorem E_outs : ∀ {w : List Int} {s t : Nat}, E m w.length s t → WOk m.Inputs w → outs m s w = outs m t w
 | [], _, _, _, _ => rfl
 | a :: w, s, t, h, hw => by
  have ha := hw.head
  obtain ⟨h1, h2⟩ := h.2 a.toNat (by omega)
  show ot m s a.toNat :: outs m _ w = ot m t a.toNat :: outs m _ w
  rw [h1, E_outs (w := w) h2 hw.tail]
structure ClsOk (m : T_api_Mealy) (k : Nat) (c : List Int) : Prop where
 len : c.length = m.Next.length
 rng : ∀ s, s < m.Next.length → ∃ x : Nat, c[s]? = some (↑x : Int) ∧ x < m.Next.length
 cls : ∀ s t, s < m.Next.length → t < m.Next.length → (c[s]? = c[t]? ↔ E m k s t)
def Alike (m : T_api_Mealy) (c : List Int) (s t a : Nat) : Prop := c[s]? = c[t]? ∧ ∀ b, b < a → ot m s b = ot m t b ∧ c[nx m s b]? = c[nx m t b]?
theorem alike_iff (H : MacOk m) {k : Nat} {c : List Int} (C : ClsOk m k c) {s t : Nat} (hs : s < m.Next.length) (ht : t < m.Next.length) : Alike m c s t m.Inputs.toNat ↔ E m (k + 1) s t := by
 constructor
 ·rintro ⟨h1, h2⟩
  exact ⟨(C.cls s t hs ht).1 h1, fun a ha => ⟨(h2 a ha).1, (C.cls _ _ (H.at hs ha).1 (H.at ht ha).1).1 (h2 a ha).2⟩⟩
 ·rintro ⟨h1, h2⟩
  exact ⟨(C.cls s t hs ht).2 h1, fun a ha => ⟨(h2 a ha).1, (C.cls _ _ (H.at hs ha).1 (H.at ht ha).1).2 (h2 a ha).2⟩⟩
theorem finer_same (H : MacOk m) {k : Nat} {c : List Int} (C : ClsOk m k c) {s t : Nat} (hs : s < m.Next.length) (ht : t < m.Next.length) {b0 : Bool} (hb : b0 = true ↔ c[s]? = c[t]?) :
  ∃ r : Bool, iter (fun (q : Bool × Nat) => R08_finer.s89 m c s (↑t : Int) q.1 q.2) fuel (b0, 0) = some r ∧ (r = true ↔ E m (k + 1) s t) := by
 have hI := H.i2
 obtain ⟨r, hr, hq⟩ := iter_post (step := fun (q : Bool × Nat) => R08_finer.s89 m c s (↑t : Int) q.1 q.2) (fun q => q.2 ≤ m.Inputs.toNat ∧ (q.1 = true ↔ Alike m c s t q.2)) (fun q => m.Inputs.toNat - q.2) (fun r => r = true ↔ Alike m c s t m.Inputs.toNat) (fun q ⟨g1, g2⟩ => by
  obtain ⟨b, a⟩ := q
  simp only at g1 g2
  simp only [R08_finer.s89]
  by_cases g3 : a < m.Inputs.toNat
  ·rw [decide_eq_true (by omega), cond_true, obind]
   cases b with
   | false =>
    right
    rw [cond_false]
    exact ⟨false, rfl, ⟨fun h => (by cases h), fun h => absurd (g2.2 ⟨h.1, fun b hb => h.2 b (by omega)⟩) (by simp)⟩⟩
   | true =>
    left
    obtain ⟨s1, _, _, x, y, e1, e2, e3, e4⟩ := H.at hs g3
    obtain ⟨t1, _, _, x', y', f1, f2, f3, f4⟩ := H.at ht g3
    obtain ⟨u, u1, u2⟩ := C.rng _ s1
    obtain ⟨v, v1, v2⟩ := C.rng _ t1
    have g2 := g2.1 rfl
    rw [cond_true, idxn_at e2, idxn_at e4, idx_at rfl f2, idxn_at f4]
    by_cases g4 : ot m s a = ot m t a
    ·refine ⟨(decide ((↑u : Int) = (↑v : Int)), a + 1), ?_, ⟨g3, ?_⟩, by simp only; omega⟩
     ·rw [decide_eq_true g4, cond_true, idxn_at e1, idxn_at e3, idx_at rfl u1, idx_at rfl f1, idxn_at f3, idx_at rfl v1, chk_pos (by unfold inR; omega)]
     ·simp only [decide_eq_true_eq]
      constructor
      ·intro h
       refine ⟨g2.1, fun b hb => ?_⟩
       rcases Nat.lt_or_ge b a with h1 | h1
       ·exact g2.2 b h1
       ·have e : b = a := by omega
        subst e
        exact ⟨g4, by rw [u1, v1, h]⟩
      ·intro h
       have h1 := (h.2 a (by omega)).2
       rw [u1, v1] at h1
       injection h1
    ·refine ⟨(false, a + 1), ?_, ⟨g3, ?_⟩, by simp only; omega⟩
     ·rw [decide_eq_false g4, cond_false, chk_pos (by unfold inR; omega)]
     ·exact ⟨fun h => (by cases h), fun h => absurd (h.2 a (by omega)).1 g4⟩
  ·right
   have e : a = m.Inputs.toNat := by omega
   subst e
   exact ⟨b, by rw [decide_eq_false (by omega), cond_false, obind, cond_false], g2⟩) fuel (b0, 0) ⟨Nat.zero_le _, by rw [hb]; exact ⟨fun h => ⟨h, fun b hb => absurd hb (Nat.not_lt_zero _)⟩, fun h => h.1⟩⟩ (by have := fuel_big; simp only; omega)
 exact ⟨r, hr, hq.trans (alike_iff H C hs ht)⟩
theorem finer_found (H : MacOk m) {k : Nat} {c : List Int} (C : ClsOk m k c) {s : Nat} (hs : s < m.Next.length) {y : List Int} (hy : y.length = s) :
  ∃ r : Int, iter (fun (q : Int × Int) => R08_finer.s90 m c y s q.1 q.2) fuel ((-1 : Int), (↑s : Int) - 1) = some r ∧ ((r = -1 ∧ ∀ t, t < s → ¬ E m (k + 1) s t) ∨ ∃ t, t < s ∧ E m (k + 1) s t ∧ y[t]? = some r) := by
 have hn := H.n2
 obtain ⟨r, hr, hq⟩ := iter_post (step := fun (q : Int × Int) => R08_finer.s90 m c y s q.1 q.2) (fun q => -1 ≤ q.2 ∧ q.2 < (↑s : Int) ∧ ((q.1 = -1 ∧ ∀ t : Nat, q.2 < (↑t : Int) → t < s → ¬ E m (k + 1) s t) ∨ ∃ t, t < s ∧ E m (k + 1) s t ∧ y[t]? = some q.1)) (fun q => (q.2 + 1).toNat) (fun r => (r = -1 ∧ ∀ t, t < s → ¬ E m (k + 1) s t) ∨ ∃ t, t < s ∧ E m (k + 1) s t ∧ y[t]? = some r) (fun q ⟨g1, g2, g3⟩ => by
  obtain ⟨f, t⟩ := q
  simp only at g1 g2 g3
  simp only [R08_finer.s90]
  by_cases g4 : 0 ≤ t
  ·left
   obtain ⟨t, rfl⟩ : ∃ t' : Nat, t = (↑t' : Int) := ⟨t.toNat, by omega⟩
   have hts : t < s := by omega
   have ht : t < m.Next.length := by omega
   obtain ⟨u, u1, u2⟩ := C.rng s hs
   obtain ⟨v, v1, v2⟩ := C.rng t ht
   obtain ⟨b, b1, b2⟩ := finer_same H C hs ht (b0 := decide ((↑u : Int) = (↑v : Int))) (by
    rw [u1, v1, decide_eq_true_eq]
    exact ⟨fun h => by rw [h], fun h => by injection h⟩)
   have hyt := get_at (l := y) (i := t) (by omega)
   rw [decide_eq_true g4, cond_true, idxn_at u1, idx_at rfl v1, b1, obind]
   cases b with
   | true =>
    refine ⟨(y[t]'(by omega), (↑t : Int) - 1), by rw [cond_true, idx_at rfl hyt, chk_pos (by unfold inR; omega)], ⟨by simp only; omega, by simp only; omega, Or.inr ⟨t, hts, b2.1 rfl, hyt⟩⟩, by simp only; omega⟩
   | false =>
    refine ⟨(f, (↑t : Int) - 1), by rw [cond_false, chk_pos (by unfold inR; omega)], ⟨by simp only; omega, by simp only; omega, ?_⟩, by simp only; omega⟩
    rcases g3 with ⟨h1, h2⟩ | h
    ·refine Or.inl ⟨h1, fun t' h3 h4 => ?_⟩
     simp only at h3
     by_cases e : t' = t
     ·subst e
      exact fun h => absurd (b2.2 h) (by simp)
     ·exact h2 t' (by omega) h4
    ·exact Or.inr h
  ·right
   have e : t = -1 := by omega
   subst e
   refine ⟨f, by rw [decide_eq_false (by omega), cond_false], ?_⟩
   rcases g3 with ⟨h1, h2⟩ | h
   ·exact Or.inl ⟨h1, fun t' h4 => h2 t' (by omega) h4⟩
   ·exact Or.inr h) fuel ((-1 : Int), (↑s : Int) - 1) ⟨by simp only; omega, by simp only; omega, Or.inl ⟨rfl, fun t h1 h2 => by simp only at h1; omega⟩⟩ (by have := fuel_big; simp only; omega)
 exact ⟨r, hr, hq⟩
structure FinOk (m : T_api_Mealy) (k : Nat) (y : List Int) (n s : Nat) : Prop where
 ls : s ≤ m.Next.length
 len : y.length = s
 cnt : n ≤ s
 rng : ∀ i, i < s → ∃ x : Nat, y[i]? = some (↑x : Int) ∧ x < n
 cls : ∀ i j, i < s → j < s → (y[i]? = y[j]? ↔ E m k i j)
theorem R08_finer_eq (H : MacOk m) {k : Nat} {c : List Int} (C : ClsOk m k c) : ∃ c', R08_finer m c = some c' ∧ ClsOk m (k + 1) c' := by
 have hn := H.n2
 unfold R08_finer
 obtain ⟨r, hr, n, hq⟩ := iter_post (step := fun (q : List Int × Nat × Nat) => R08_finer.s92 m c q.1 q.2.1 q.2.2) (fun q => FinOk m (k + 1) q.1 q.2.1 q.2.2) (fun q => m.Next.length - q.2.2) (fun r => ∃ n, FinOk m (k + 1) r n m.Next.length) (fun q Q => by
  obtain ⟨y, n, s⟩ := q
  simp only at Q
  have hc := Q.cnt
  have hl := Q.len
  have hls := Q.ls
  simp only [R08_finer.s92]
  rw [C.len]
  by_cases g1 : s < m.Next.length
  ·left
   obtain ⟨f, f1, f2⟩ := finer_found H C g1 Q.len
   rw [decide_eq_true (by omega), cond_true, f1, obind]
   rcases f2 with ⟨rfl, f2⟩ | ⟨t, ht, hE, f2⟩
   ·-- a class of its own
    rw [decide_eq_true (by omega), cond_true, chk_pos (by unfold inR; omega), obind]
    refine ⟨(y ++ [(↑n : Int)], n + 1, s + 1), by simp only [R08_finer.k91]; rw [chk_pos (by unfold capOk; omega)], (show FinOk m (k + 1) (y ++ [(↑n : Int)]) (n + 1) (s + 1) from ⟨g1, by simp [Q.len], by omega, fun i hi => ?_, fun i j hi hj => ?_⟩), by simp only; omega⟩
    ·rcases Nat.lt_or_ge i s with h | h
     ·obtain ⟨x, x1, x2⟩ := Q.rng i h
      exact ⟨x, by rw [List.getElem?_append_left (by omega), x1], by omega⟩
     ·have e : i = y.length := by omega
      subst e
      exact ⟨n, by simp, by omega⟩
    ·have old : ∀ i, i < s → (y ++ [(↑n : Int)])[i]? = y[i]? := fun i hi => List.getElem?_append_left (by omega)
     have new : (y ++ [(↑n : Int)])[s]? = some (↑n : Int) := by rw [List.getElem?_append_right (by omega), hl, Nat.sub_self]; rfl
     have ne : ∀ i, i < s → y[i]? ≠ some (↑n : Int) := fun i hi h => by
      obtain ⟨x, x1, x2⟩ := Q.rng i hi
      rw [x1] at h
      injection h with h
      omega
     rcases Nat.lt_or_ge i s with h | h <;> rcases Nat.lt_or_ge j s with h' | h'
     ·rw [old i h, old j h']
      exact Q.cls i j h h'
     ·have e : j = s := by omega
      subst e
      rw [old i h, new]
      exact ⟨fun h2 => absurd h2 (ne i h), fun h2 => absurd (E_symm h2) (f2 i h)⟩
     ·have e : i = s := by omega
      subst e
      rw [old j h', new]
      exact ⟨fun h2 => absurd h2.symm (ne j h'), fun h2 => absurd h2 (f2 j h')⟩
     ·have e : i = s := by omega
      have e' : j = s := by omega
      subst e
      subst e'
      exact ⟨fun _ => E_refl _ _, fun _ => rfl⟩
   ·obtain ⟨x, x1, x2⟩ := Q.rng t ht
    rw [f2] at x1
    injection x1 with x1
    subst x1
    rw [decide_eq_false (by omega), cond_false, obind]
    refine ⟨(y ++ [(↑x : Int)], n, s + 1), by simp only [R08_finer.k91]; rw [chk_pos (by unfold capOk; omega)], (show FinOk m (k + 1) (y ++ [(↑x : Int)]) n (s + 1) from ⟨g1, by simp [Q.len], by omega, fun i hi => ?_, fun i j hi hj => ?_⟩), by simp only; omega⟩
    ·rcases Nat.lt_or_ge i s with h | h
     ·obtain ⟨z, z1, z2⟩ := Q.rng i h
      exact ⟨z, by rw [List.getElem?_append_left (by omega), z1], z2⟩
     ·have e : i = y.length := by omega
      subst e
      exact ⟨x, by simp, x2⟩
    ·have old : ∀ i, i < s → (y ++ [(↑x : Int)])[i]? = y[i]? := fun i hi => List.getElem?_append_left (by omega)
     have new : (y ++ [(↑x : Int)])[s]? = y[t]? := by rw [List.getElem?_append_right (by omega), hl, Nat.sub_self, f2]; rfl
     rcases Nat.lt_or_ge i s with h | h <;> rcases Nat.lt_or_ge j s with h' | h'
     ·rw [old i h, old j h']
      exact Q.cls i j h h'
     ·have e : j = s := by omega
      subst e
      rw [old i h, new, Q.cls i t h ht]
      exact ⟨fun h2 => E_trans h2 (E_symm hE), fun h2 => E_trans h2 hE⟩
     ·have e : i = s := by omega
      subst e
      rw [old j h', new, Q.cls t j ht h']
      exact ⟨fun h2 => E_trans hE h2, fun h2 => E_trans (E_symm hE) h2⟩
     ·have e : i = s := by omega
      have e' : j = s := by omega
      subst e
      subst e'
      exact ⟨fun _ => E_refl _ _, fun _ => rfl⟩
  ·right
   have e : s = m.Next.length := by omega
   subst e
   exact ⟨y, by rw [decide_eq_false (by omega), cond_false], n, Q⟩) fuel ([], 0, 0) ⟨Nat.zero_le _, rfl, Nat.le_refl _, fun i h => absurd h (Nat.not_lt_zero _), fun i j h => absurd h (Nat.not_lt_zero _)⟩ (by have := fuel_big; simp only; omega)
 refine ⟨r, by rw [hr, obind], hq.len, fun s hs => ?_, fun s t hs ht => hq.cls s t hs ht⟩
 obtain ⟨x, x1, x2⟩ := hq.rng s hs
 have := hq.cnt
 exact ⟨x, x1, by omega⟩
theorem R08_Partition_eq (hv : R06_Valid m = some 0) (k : Nat) : ∃ c, R08_Partition m (↑k : Int) = some (c, 0) ∧ ClsOk m (min k m.Next.length) c := by
 have H := macOk_of hv
 have hn := H.n2
 unfold R08_Partition
 rw [hv, obind, decide_eq_false (by simp), cond_false, chk_pos ⟨by omega, by omega, by unfold capOk; omega⟩]
 obtain ⟨r, hr, hq⟩ := iter_post (step := fun (q : List Int × Nat) => R08_Partition.s2 m (↑k : Int) q.1 q.2) (fun q => q.2 ≤ min k m.Next.length ∧ ClsOk m q.2 q.1) (fun q => min k m.Next.length - q.2) (fun r => ClsOk m (min k m.Next.length) r) (fun q ⟨g1, g2⟩ => by
  obtain ⟨y, i⟩ := q
  simp only at g1 g2
  simp only [R08_Partition.s2]
  by_cases g3 : i < min k m.Next.length
  ·left
   obtain ⟨c', e1, e2⟩ := R08_finer_eq H g2
   refine ⟨(c', i + 1), ?_, ⟨g3, e2⟩, by simp only; omega⟩
   rw [decide_eq_true (by omega), cond_true, obind, decide_eq_true (by omega), cond_true, e1, obind, chk_pos (by unfold inR; omega)]
  ·right
   have e : i = min k m.Next.length := by omega
   refine ⟨y, ?_, e ▸ g2⟩
   by_cases h : i < k
   ·rw [decide_eq_true (by omega), cond_true, obind, decide_eq_false (by omega), cond_false]
   ·rw [decide_eq_false (by omega), cond_false, obind, cond_false]) fuel ((List.replicate m.Next.length 0), 0) ⟨Nat.zero_le _, ⟨by simp, fun s hs => ⟨0, by simp [hs], H.n1⟩, fun s t hs ht => ⟨fun _ => trivial, fun _ => by simp [hs, ht]⟩⟩⟩ (by have := fuel_big; simp only; omega)
 exact ⟨r, by rw [hr, obind], hq⟩
/-! Words of as many symbols as there are states separate all that can be separated. -/
theorem countP_le_eq {α : Type} {p q : α → Bool} : ∀ {l : List α}, (∀ x ∈ l, p x = true → q x = true) → l.countP q ≤ l.countP p → ∀ x ∈ l, q x = true → p x = true
 | [], _, _, x, hx, _ => by cases hx
 | y :: l, h, hc, x, hx, hq => by
  have h1 : l.countP p ≤ l.countP q := List.countP_mono_left fun x hx => h x (List.mem_cons_of_mem _ hx)
  rw [List.countP_cons, List.countP_cons] at hc
  have h2 := h y (List.mem_cons_self ..)
  have h3 : l.countP q ≤ l.countP p ∧ (q y = true → p y = true) := by
   cases e1 : q y <;> cases e2 : p y <;> simp [e1, e2] at hc h2 ⊢ <;> omega
  rcases List.mem_cons.1 hx with rfl | hx
  ·exact h3.2 hq
  ·exact countP_le_eq (fun x hx => h x (List.mem_cons_of_mem _ hx)) h3.1 x hx hq
def Rep (m : T_api_Mealy) (k s : Nat) : Prop := ∀ t, t < s → ¬ E m k s t
open Classical in
noncomputable def nreps (m : T_api_Mealy) (k : Nat) : Nat := (List.range m.Next.length).countP fun s => decide (Rep m k s)
theorem rep_exists (k : Nat) : ∀ (s : Nat), ∃ r, r ≤ s ∧ Rep m k r ∧ E m k s r := by
 intro s
 induction s using Nat.strongRecOn with
 | ind s ih =>
  by_cases h : Rep m k s
  ·exact ⟨s, Nat.le_refl _, h, E_refl _ _⟩
  ·have ⟨t, h1⟩ := Classical.not_forall.1 h
   obtain ⟨h2, h3⟩ := Classical.not_imp.1 h1
   have h3 := Classical.not_not.1 h3
   obtain ⟨r, r1, r2, r3⟩ := ih t h2
   exact ⟨r, by omega, r2, E_trans h3 r3⟩
def Stab (m : T_api_Mealy) (k : Nat) : Prop := ∀ s t, s < m.Next.length → t < m.Next.length → E m k s t → E m (k + 1) s t
theorem rep_succ {k s : Nat} (h : Rep m k s) : Rep m (k + 1) s := fun t ht hE => h t ht hE.1
open Classical in
open Classical in
theorem stab_of {k : Nat} (h : nreps m (k + 1) ≤ nreps m k) : Stab m k := by
 intro s t hs ht hE
 unfold nreps at h
 have key := countP_le_eq (l := List.range m.Next.length) (fun s _ h => decide_eq_true (rep_succ (of_decide_eq_true h))) h
 obtain ⟨r, r1, r2, r3⟩ := rep_exists (m := m) (k + 1) s
 obtain ⟨u, u1, u2, u3⟩ := rep_exists (m := m) (k + 1) t
 have r4 : Rep m k r := of_decide_eq_true (key r (List.mem_range.2 (by omega)) (decide_eq_true r2))
 have u4 : Rep m k u := of_decide_eq_true (key u (List.mem_range.2 (by omega)) (decide_eq_true u2))
 have hru : E m k r u := E_trans (E_symm r3.1) (E_trans hE u3.1)
 have e : r = u := by
  rcases Nat.lt_trichotomy r u with h1 | h1 | h1
  ·exact absurd (E_symm hru) (u4 r h1)
  ·exact h1
  ·exact absurd hru (r4 u h1)
 subst e
 exact E_trans r3 (E_symm u3)
theorem stab_succ (H : MacOk m) {k : Nat} (h : Stab m k) : Stab m (k + 1) := fun s t hs ht hE =>
 ⟨hE, fun a ha => ⟨(hE.2 a ha).1, h _ _ (H.at hs ha).1 (H.at ht ha).1 (hE.2 a ha).2⟩⟩
theorem stab_add (H : MacOk m) {k : Nat} (h : Stab m k) : ∀ j, Stab m (k + j)
 | 0 => h
 | j + 1 => stab_succ H (stab_add H h j)
open Classical in
theorem stab_exists (H : MacOk m) : ∃ k, k < m.Next.length ∧ Stab m k := by
 refine Classical.byContradiction fun hno => ?_
 have hall : ∀ k, k ≤ m.Next.length → k + 1 ≤ nreps m k := by
  intro k
  induction k with
  | zero =>
   intro _
   unfold nreps
   have : 0 < (List.range m.Next.length).countP fun s => @decide (Rep m 0 s) (Classical.propDecidable _) := List.countP_pos_iff.2 ⟨0, List.mem_range.2 H.n1, decide_eq_true fun t ht => absurd ht (Nat.not_lt_zero _)⟩
   exact this
  | succ k ih =>
   intro hk
   have h1 := ih (by omega)
   rcases Nat.lt_or_ge (nreps m k) (nreps m (k + 1)) with h2 | h2
   ·omega
   ·exact absurd ⟨k, by omega, stab_of h2⟩ hno
 have h1 := hall _ (Nat.le_refl _)
 have h2 : nreps m m.Next.length ≤ (List.range m.Next.length).length := List.countP_le_length
 rw [List.length_range] at h2
 omega
theorem E_all (H : MacOk m) {s t : Nat} (hs : s < m.Next.length) (ht : t < m.Next.length) (h : E m m.Next.length s t) (j : Nat) : E m j s t := by
 obtain ⟨k, hk, hS⟩ := stab_exists H
 have key : ∀ i, E m (k + i) s t := by
  intro i
  induction i with
  | zero => exact E_mono (by omega) h
  | succ i ih => exact stab_add H hS i s t hs ht ih
 exact E_mono (by omega) (key j)
end
end Go.Proofs.YtpmebphhbgpapaaGreatDoor.Sym

/-
 Machines: the minimal machine, each class by its first state. Plain laws.
-/
namespace Go.Proofs.YtpmebphhbgpapaaGreatDoor.Sym
set_option maxRecDepth 100000
theorem nodup_le {α : Type} [DecidableEq α] : ∀ {l l' : List α}, l.Nodup → (∀ x ∈ l, x ∈ l') → l.length ≤ l'.length
 | [], _, _, _ => Nat.zero_le _
 | x :: l, l', h, hs => by
  have h1 := List.nodup_cons.1 h
  have hx := hs x (by simp)
  have ih := nodup_le (l := l) (l' := l'.erase x) h1.2 (fun y hy => (List.mem_erase_of_ne (fun e => h1.1 (by rw [← e]; exact hy))).2 (hs y (List.mem_cons_of_mem _ hy)))
  rw [List.length_erase_of_mem hx] at ih
  have := List.length_pos_of_mem hx
  simp only [List.length_cons]
  omega
def natI (l : List Nat) : List Int := l.map fun (x : Nat) => (↑x : Int)
theorem natI_at {l : List Nat} {i u : Nat} (h : l[i]? = some u) : (natI l)[i]? = some (↑u : Int) := by
 unfold natI
 rw [List.getElem?_map, h]
 rfl
theorem natI_push (l : List Nat) (t : Nat) : natI l ++ [(↑t : Int)] = natI (l ++ [t]) := by simp [natI]
theorem natI_len (l : List Nat) : (natI l).length = l.length := by simp [natI]
def Ext (l l' : List Nat) : Prop := ∀ j u : Nat, l[j]? = some u → l'[j]? = some u
theorem Ext.rfl' {l : List Nat} : Ext l l := fun _ _ h => h
theorem Ext.trans {l l' l'' : List Nat} (h : Ext l l') (g : Ext l' l'') : Ext l l'' := fun j u e => g j u (h j u e)
theorem Ext.push (l : List Nat) (t : Nat) : Ext l (l ++ [t]) := fun j u h => by
 have := (List.getElem?_eq_some_iff.1 h).1
 rw [List.getElem?_append_left this, h]
structure Num (m : T_api_Mealy) (c : List Int) (ord : List Nat) (num : List Int) : Prop where
 rng : ∀ u ∈ ord, u < m.Next.length
 start : ord[0]? = some m.Start.toNat
 len : num.length = m.Next.length
 n1 : ∀ j u x : Nat, ord[j]? = some u → c[u]? = some (↑x : Int) → num[x]? = some (↑j : Int)
 n2 : ∀ x : Nat, x < m.Next.length → num[x]? = some (-1 : Int) ∨ ∃ j u : Nat, num[x]? = some (↑j : Int) ∧ ord[j]? = some u ∧ c[u]? = some (↑x : Int)
 reach : ∀ j u : Nat, ord[j]? = some u → j = 0 ∨ ∃ i v a : Nat, i < j ∧ ord[i]? = some v ∧ a < m.Inputs.toNat ∧ u = nx m v a
section
variable {m : T_api_Mealy} {c num : List Int} {ord : List Nat} {k : Nat}
theorem Num.inj (N : Num m c ord num) (C : ClsOk m k c) {i j u v : Nat} (hi : ord[i]? = some u) (hj : ord[j]? = some v) (h : c[u]? = c[v]?) : i = j := by
 obtain ⟨x, x1, _⟩ := C.rng u (N.rng u (List.mem_of_getElem? hi))
 have h1 := N.n1 i u x hi x1
 have h2 := N.n1 j v x hj (by rw [← h, x1])
 rw [h1] at h2
 injection h2 with h2
 omega
theorem Num.nodup (N : Num m c ord num) (C : ClsOk m k c) : ord.Nodup := by
 refine List.pairwise_iff_getElem.2 fun i j hi hj hij h => ?_
 have := N.inj C (get_at hi) (get_at hj) (by rw [h])
 omega
theorem Num.le (N : Num m c ord num) (C : ClsOk m k c) : ord.length ≤ m.Next.length := by
 have := nodup_le (N.nodup C) (l' := List.range m.Next.length) fun x hx => List.mem_range.2 (N.rng x hx)
 rwa [List.length_range] at this
theorem Num.push (N : Num m c ord num) {i v a t x : Nat} (hi : ord[i]? = some v) (ha : a < m.Inputs.toNat) (ht : t = nx m v a) (htn : t < m.Next.length) (hx : c[t]? = some (↑x : Int)) (hxn : x < m.Next.length) (hn : num[x]? = some (-1 : Int)) : Num m c (ord ++ [t]) (num.set x (↑ord.length : Int)) where
 rng := fun u hu => by
  rcases List.mem_append.1 hu with h | h
  ·exact N.rng u h
  ·rw [List.mem_singleton.1 h]
   exact htn
 start := Ext.push ord t 0 _ N.start
 len := by rw [List.length_set, N.len]
 n1 := fun j u y hj hc => by
  rcases Nat.lt_or_ge j ord.length with h | h
  ·rw [List.getElem?_append_left h] at hj
   have h1 := N.n1 j u y hj hc
   have hne : x ≠ y := fun e => by
    subst e
    rw [hn] at h1
    injection h1 with h1
    omega
   rw [List.getElem?_set_ne hne]
   exact h1
  ·have h2 := (List.getElem?_eq_some_iff.1 hj).1
   rw [List.length_append, List.length_singleton] at h2
   have e : j = ord.length := by omega
   subst e
   rw [List.getElem?_append_right (Nat.le_refl _), Nat.sub_self] at hj
   injection hj with hj
   subst hj
   rw [hx] at hc
   injection hc with hc
   have e : x = y := by omega
   subst e
   rw [List.getElem?_set_self (by rw [N.len]; exact hxn)]
 n2 := fun y hy => by
  by_cases e : x = y
  ·subst e
   exact Or.inr ⟨ord.length, t, by rw [List.getElem?_set_self (by rw [N.len]; exact hxn)], by simp, hx⟩
  ·rw [List.getElem?_set_ne e]
   rcases N.n2 y hy with h | ⟨j, u, h1, h2, h3⟩
   ·exact Or.inl h
   ·exact Or.inr ⟨j, u, h1, Ext.push ord t j u h2, h3⟩
 reach := fun j u hj => by
  rcases Nat.lt_or_ge j ord.length with h | h
  ·rw [List.getElem?_append_left h] at hj
   rcases N.reach j u hj with h1 | ⟨i', v', a', h1, h2, h3, h4⟩
   ·exact Or.inl h1
   ·exact Or.inr ⟨i', v', a', h1, Ext.push ord t i' v' h2, h3, h4⟩
  ·have h2 := (List.getElem?_eq_some_iff.1 hj).1
   rw [List.length_append, List.length_singleton] at h2
   have e : j = ord.length := by omega
   subst e
   rw [List.getElem?_append_right (Nat.le_refl _), Nat.sub_self] at hj
   injection hj with hj
   exact Or.inr ⟨i, v, a, (List.getElem?_eq_some_iff.1 hi).1, Ext.push ord t i v hi, ha, by rw [← hj, ht]⟩
structure RowAt (m : T_api_Mealy) (c : List Int) (ord : List Nat) (v : Nat) (row out : List Int) (a : Nat) : Prop where
 l1 : row.length = a
 l2 : out.length = a
 cell : ∀ b, b < a → ∃ j u : Nat, row[b]? = some (↑j : Int) ∧ ord[j]? = some u ∧ c[u]? = c[nx m v b]? ∧ out[b]? = some (ot m v b)
theorem RowAt.mono {v : Nat} {row out : List Int} {a : Nat} {ord' : List Nat} (h : Ext ord ord') (R : RowAt m c ord v row out a) : RowAt m c ord' v row out a :=
 ⟨R.l1, R.l2, fun b hb => by
  obtain ⟨j, u, h1, h2, h3⟩ := R.cell b hb
  exact ⟨j, u, h1, h j u h2, h3⟩⟩
theorem min_number (H : MacOk m) (C : ClsOk m k c) (N : Num m c ord num) {i v a : Nat} (hi : ord[i]? = some v) (ha : a < m.Inputs.toNat) {e : Int} :
  ∃ (ord' : List Nat) (num' : List Int) (x j u : Nat), (idx (c, e).1 (↑(nx m v a) : Int) fun e1474 => idx num e1474 fun e1475 => cond (decide (e1475 < 0)) (idx (c, e).1 (↑(nx m v a) : Int) fun e1477 => idx num e1477 fun e1478 => chk (capOk (List.length (natI ord) + 1) 8) (some ((natI ord ++ [(↑(nx m v a) : Int)]), (List.set num e1477.toNat (↑(List.length (natI ord)) : Int))))) (some (natI ord, num)) : Option (List Int × List Int)) = some (natI ord', num') ∧ Num m c ord' num' ∧ Ext ord ord' ∧ c[nx m v a]? = some (↑x : Int) ∧ num'[x]? = some (↑j : Int) ∧ ord'[j]? = some u ∧ c[u]? = some (↑x : Int) := by
 have hn := H.n2
 have hv := N.rng v (List.mem_of_getElem? hi)
 have htn := (H.at hv ha).1
 obtain ⟨x, x1, x2⟩ := C.rng _ htn
 have hle := N.le C
 rcases N.n2 x x2 with h | ⟨j, u, h1, h2, h3⟩
 ·refine ⟨ord ++ [nx m v a], num.set x (↑ord.length : Int), x, ord.length, nx m v a, ?_, N.push hi ha rfl htn x1 x2 h, Ext.push _ _, x1, by rw [List.getElem?_set_self (by rw [N.len]; exact x2)], by simp, x1⟩
  rw [idx_at rfl x1, idx_at rfl h, decide_eq_true (by omega), cond_true, idx_at rfl x1, idx_at rfl h, natI_len, chk_pos (by unfold capOk; omega), natI_push, Int.toNat_natCast]
 ·exact ⟨ord, num, x, j, u, by rw [idx_at rfl x1, idx_at rfl h1, decide_eq_false (by omega), cond_false], N, Ext.rfl', x1, h1, h2, h3⟩
theorem min_row (H : MacOk m) (C : ClsOk m k c) (N : Num m c ord num) {i v : Nat} (hi : ord[i]? = some v) {e : Int} :
  ∃ (ord' : List Nat) (num' row out : List Int), iter (fun (s : List Int × List Int × List Int × List Int × Nat) => R08_Min.s56 m (c, e) i s.1 s.2.1 s.2.2.1 s.2.2.2.1 s.2.2.2.2) fuel (natI ord, num, [], [], 0) = some (natI ord', num', row, out) ∧ Num m c ord' num' ∧ Ext ord ord' ∧ RowAt m c ord' v row out m.Inputs.toNat := by
 have hI := H.i2
 have hv := N.rng v (List.mem_of_getElem? hi)
 obtain ⟨r, hr, ord', num', row, out, rfl, h1, h2, h3⟩ := iter_post (step := fun (s : List Int × List Int × List Int × List Int × Nat) => R08_Min.s56 m (c, e) i s.1 s.2.1 s.2.2.1 s.2.2.2.1 s.2.2.2.2) (fun s => ∃ ord' : List Nat, s.1 = natI ord' ∧ Num m c ord' s.2.1 ∧ Ext ord ord' ∧ s.2.2.2.2 ≤ m.Inputs.toNat ∧ RowAt m c ord' v s.2.2.1 s.2.2.2.1 s.2.2.2.2) (fun s => m.Inputs.toNat - s.2.2.2.2) (fun r => ∃ (ord' : List Nat) (num' row out : List Int), r = (natI ord', num', row, out) ∧ Num m c ord' num' ∧ Ext ord ord' ∧ RowAt m c ord' v row out m.Inputs.toNat) (fun s ⟨ord', q1, q2, q3, q4, q5⟩ => by
  obtain ⟨o, num', row, out, a⟩ := s
  simp only at q1 q2 q4 q5
  subst q1
  simp only [R08_Min.s56]
  by_cases g : a < m.Inputs.toNat
  ·left
   have hi' := q3 i v hi
   obtain ⟨_, _, _, x, y, e1, e2, e3, e4⟩ := H.at hv g
   obtain ⟨ord2, num2, z, j, u, f1, f2, f3, f4, f5, f6, f7⟩ := min_number H C q2 hi' g (e := e)
   have l1 := q5.l1
   have l2 := q5.l2
   refine ⟨(natI ord2, num2, row ++ [(↑j : Int)], out ++ [ot m v a], a + 1), ?_, ⟨ord2, rfl, f2, q3.trans f3, g, (show RowAt m c ord2 v (row ++ [(↑j : Int)]) (out ++ [ot m v a]) (a + 1) from ⟨by simp [l1], by simp [l2], fun b hb => ?_⟩)⟩, by simp only; omega⟩
   ·rw [decide_eq_true (by omega), cond_true, idxn_at (natI_at hi'), idx_at rfl e1, idxn_at e3, f1, obind]
    simp only [R08_Min.k55]
    rw [idx_at rfl f4, idx_at rfl f5, chk_pos (by unfold capOk; omega), idxn_at (natI_at (f3 i v hi')), idx_at rfl e2, idxn_at e4, chk_pos (by unfold capOk; omega), chk_pos (by unfold inR; omega)]
   ·rcases Nat.lt_or_ge b a with h | h
    ·obtain ⟨j', u', c1, c2, c3, c4⟩ := q5.cell b h
     exact ⟨j', u', by rw [List.getElem?_append_left (by omega), c1], f3 _ _ c2, c3, by rw [List.getElem?_append_left (by omega), c4]⟩
    ·have e' : b = a := by omega
     subst e'
     exact ⟨j, u, by rw [List.getElem?_append_right (by omega), l1, Nat.sub_self]; rfl, f6, by rw [f7, f4], by rw [List.getElem?_append_right (by omega), l2, Nat.sub_self]; rfl⟩
  ·right
   have e' : a = m.Inputs.toNat := by omega
   subst e'
   exact ⟨_, by rw [decide_eq_false (by omega), cond_false], ord', num', row, out, rfl, q2, q3, q5⟩) fuel (natI ord, num, [], [], 0) ⟨ord, rfl, N, Ext.rfl', Nat.zero_le _, rfl, rfl, fun b hb => absurd hb (Nat.not_lt_zero _)⟩ (by have := fuel_big; simp only; omega)
 exact ⟨ord', num', row, out, hr, h1, h2, h3⟩
structure MinOk (m M : T_api_Mealy) (c : List Int) (ord : List Nat) (num : List Int) : Prop where
 cls : ClsOk m m.Next.length c
 num : Num m c ord num
 inp : M.Inputs = m.Inputs
 start : M.Start = 0
 l1 : M.Next.length = ord.length
 l2 : M.Out.length = ord.length
 row : ∀ i v : Nat, ord[i]? = some v → ∃ row out, M.Next[i]? = some row ∧ M.Out[i]? = some out ∧ RowAt m c ord v row out m.Inputs.toNat
theorem R08_Min_eq (hv : R06_Valid m = some 0) : ∃ M c ord num, R08_Min m = some (M, 0) ∧ MinOk m M c ord num := by
 have H := macOk_of hv
 have hn := H.n2
 have hst := H.st
 obtain ⟨c, c1, C⟩ := R08_Partition_eq hv m.Next.length
 rw [Nat.min_self] at C
 have hcl : R08_Classes m = some (c, 0) := by
  unfold R08_Classes
  rw [c1, obind]
 unfold R08_Min
 rw [hcl, obind, decide_eq_false (by simp), cond_false, chk_pos ⟨by omega, by omega, by unfold capOk; omega⟩]
 obtain ⟨y, hy, y1, y2⟩ := iter_post (step := fun (s : List Int × Nat) => R08_Min.s2 s.1 s.2) (fun s => s.1.length = m.Next.length ∧ s.2 ≤ m.Next.length ∧ ∀ x, x < s.2 → s.1[x]? = some (-1 : Int)) (fun s => m.Next.length - s.2) (fun r => r.length = m.Next.length ∧ ∀ x, x < m.Next.length → r[x]? = some (-1 : Int)) (fun s ⟨g1, g2, g3⟩ => by
  obtain ⟨y, i⟩ := s
  simp only at g1 g2 g3
  simp only [R08_Min.s2]
  by_cases g : i < y.length
  ·left
   have hx := get_at g
   refine ⟨(y.set i (-1), i + 1), by rw [dec_lt hx, cond_true, idxn_at hx], ⟨by simp [g1], by simp only; omega, fun x hx' => ?_⟩, by simp only; omega⟩
   simp only
   by_cases e : i = x
   ·subst e
    rw [List.getElem?_set_self g]
   ·rw [List.getElem?_set_ne e]
    exact g3 x (by simp only at hx'; omega)
  ·right
   exact ⟨y, by rw [decide_eq_false (by omega), cond_false], g1, fun x hx => g3 x (by omega)⟩) fuel ((List.replicate m.Next.length 0), 0) ⟨by simp, Nat.zero_le _, fun x h => absurd h (Nat.not_lt_zero _)⟩ (by have := fuel_big; simp only; omega)
 have hs : m.Start.toNat < m.Next.length := by omega
 obtain ⟨x0, x1, x2⟩ := C.rng _ hs
 rw [hy, obind, idx_at (i := m.Start.toNat) (by omega) x1, idx_at rfl (y2 x0 x2)]
 have N0 : Num m c [m.Start.toNat] (y.set x0 0) := ⟨fun u hu => by rw [List.mem_singleton.1 hu]; exact hs, rfl, by rw [List.length_set, y1], fun j u x hj hc => by
  have hj0 := (List.getElem?_eq_some_iff.1 hj).1
  rw [List.length_singleton] at hj0
  have e : j = 0 := by omega
  subst e
  injection hj with hj
  subst hj
  rw [x1] at hc
  injection hc with hc
  have e : x0 = x := by omega
  subst e
  rw [List.getElem?_set_self (by omega)]
  rfl, fun x hx => by
  by_cases e : x0 = x
  ·subst e
   exact Or.inr ⟨0, _, by rw [List.getElem?_set_self (by omega)]; rfl, rfl, x1⟩
  ·rw [List.getElem?_set_ne e]
   exact Or.inl (y2 x hx), fun j u hj => by
  have hj0 := (List.getElem?_eq_some_iff.1 hj).1
  rw [List.length_singleton] at hj0
  exact Or.inl (by omega)⟩
 obtain ⟨r, hr, ord, num, q1, q2, q3, q4⟩ := iter_post (step := fun (s : List Int × List Int × List (List Int) × List (List Int) × Nat) => R08_Min.s58 m (c, 0) s.1 s.2.1 s.2.2.1 s.2.2.2.1 s.2.2.2.2) (fun s => ∃ ord : List Nat, s.1 = natI ord ∧ Num m c ord s.2.1 ∧ s.2.2.2.2 ≤ ord.length ∧ s.2.2.1.length = s.2.2.2.2 ∧ s.2.2.2.1.length = s.2.2.2.2 ∧ ∀ i v : Nat, i < s.2.2.2.2 → ord[i]? = some v → ∃ row out, s.2.2.1[i]? = some row ∧ s.2.2.2.1[i]? = some out ∧ RowAt m c ord v row out m.Inputs.toNat) (fun s => m.Next.length - s.2.2.2.2) (fun r => ∃ (ord : List Nat) (num : List Int), Num m c ord num ∧ r.1.length = ord.length ∧ r.2.length = ord.length ∧ ∀ i v : Nat, ord[i]? = some v → ∃ row out, r.1[i]? = some row ∧ r.2[i]? = some out ∧ RowAt m c ord v row out m.Inputs.toNat) (fun s ⟨ord, g1, g2, g3, g4, g5, g6⟩ => by
  obtain ⟨o, num, next, os, i⟩ := s
  simp only at g1 g2 g3 g4 g5 g6
  subst g1
  have hle := g2.le C
  simp only [R08_Min.s58]
  by_cases g : i < ord.length
  ·left
   have hi := get_at g
   obtain ⟨ord', num', row, out, f1, f2, f3, f4⟩ := min_row H C g2 hi (e := 0)
   have hi' := f3 _ _ hi
   have hl' := (List.getElem?_eq_some_iff.1 hi').1
   refine ⟨(natI ord', num', next ++ [row], os ++ [out], i + 1), ?_, ⟨ord', rfl, f2, hl', by simp [g4], by simp [g5], fun i' v' hi2 hv2 => ?_⟩, by simp only; omega⟩
   ·rw [natI_len, decide_eq_true (by omega), cond_true, f1, obind]
    simp only [R08_Min.k57]
    rw [chk_pos (by unfold capOk; omega), chk_pos (by unfold capOk; omega)]
   ·simp only at hi2 ⊢
    rcases Nat.lt_or_ge i' i with h | h
    ·obtain ⟨w, hw⟩ : ∃ w, ord[i']? = some w := ⟨_, get_at (l := ord) (i := i') (by omega)⟩
     have hw' := f3 _ _ hw
     rw [hv2] at hw'
     injection hw' with hw'
     subst hw'
     obtain ⟨row', out', z1, z2, z3⟩ := g6 i' v' h hw
     exact ⟨row', out', by rw [List.getElem?_append_left (by omega), z1], by rw [List.getElem?_append_left (by omega), z2], z3.mono f3⟩
    ·have e : i' = i := by omega
     subst e
     rw [hi'] at hv2
     injection hv2 with hv2
     subst hv2
     exact ⟨row, out, by rw [List.getElem?_append_right (by omega), g4, Nat.sub_self]; rfl, by rw [List.getElem?_append_right (by omega), g5, Nat.sub_self]; rfl, f4⟩
  ·right
   have e : i = ord.length := by omega
   subst e
   exact ⟨(next, os), by rw [natI_len, decide_eq_false (by omega), cond_false], ord, num, g2, g4, g5, fun i' v' hv' => g6 i' v' (List.getElem?_eq_some_iff.1 hv').1 hv'⟩) fuel ([m.Start], (y.set x0 0), [], [], 0) ⟨[m.Start.toNat], by simp only [natI, List.map_cons, List.map_nil]; rw [Int.toNat_of_nonneg hst.1], N0, Nat.zero_le _, rfl, rfl, fun i v h => absurd h (Nat.not_lt_zero _)⟩ (by have := fuel_big; simp only; omega)
 refine ⟨⟨m.Inputs, 0, r.1, r.2⟩, c, ord, num, ?_, C, q1, rfl, rfl, q2, q3, q4⟩
 rw [Int.toNat_natCast, hr, obind]
 rfl
theorem R08_Minimal_eq (hv : R06_Valid m = some 0) : ∃ M c ord num, R08_Min m = some (M, 0) ∧ MinOk m M c ord num ∧ R08_Minimal m = some (decide (ord.length = m.Next.length)) := by
 obtain ⟨M, c, ord, num, h1, h2⟩ := R08_Min_eq hv
 refine ⟨M, c, ord, num, h1, h2, ?_⟩
 unfold R08_Minimal
 rw [h1, obind, decide_eq_true rfl, cond_true, obind, h2.l1]
 congr 1
 by_cases h : ord.length = m.Next.length
 ·rw [decide_eq_true h, decide_eq_true (by omega)]
 ·rw [decide_eq_false h, decide_eq_false (by omega)]
theorem R08_Minimal_of (hv : R06_Valid m = some 0) (h1 : ∀ s, s < m.Next.length → ∃ w, WOk m.Inputs w ∧ dest m m.Start.toNat w = s) (h2 : ∀ s t, s < m.Next.length → t < m.Next.length → E m m.Next.length s t → s = t) : R08_Minimal m = some true := by
 have H := macOk_of hv
 obtain ⟨M, c, ord, num, _, K, hk⟩ := R08_Minimal_eq hv
 rw [hk, decide_eq_true]
 have hle := K.num.le K.cls
 have hst := H.st
 -- every state that is reached has a number
 have key : ∀ (w : List Int) (v i : Nat), ord[i]? = some v → WOk m.Inputs w → dest m v w ∈ ord := by
  intro w
  induction w with
  | nil => intro v i hi _; exact List.mem_of_getElem? hi
  | cons a w ih =>
   intro v i hi hw
   have ha := hw.head
   obtain ⟨row, out, r1, r2, R⟩ := K.row i v hi
   obtain ⟨j, u, j1, j2, j3, j4⟩ := R.cell a.toNat (by omega)
   have hvn := K.num.rng v (List.mem_of_getElem? hi)
   have hun := K.num.rng u (List.mem_of_getElem? j2)
   have hnn := (H.at hvn (a := a.toNat) (by omega)).1
   have e : u = nx m v a.toNat := h2 _ _ hun hnn ((K.cls.cls _ _ hun hnn).1 j3)
   subst e
   exact ih _ j j2 hw.tail
 have hall : ∀ s ∈ List.range m.Next.length, s ∈ ord := fun s hs => by
  obtain ⟨w, w1, w2⟩ := h1 s (List.mem_range.1 hs)
  rw [← w2]
  exact key w _ 0 K.num.start w1
 have := nodup_le (List.nodup_range (n := m.Next.length)) hall
 rw [List.length_range] at this
 omega
end
end Go.Proofs.YtpmebphhbgpapaaGreatDoor.Sym

/-
 The hypothesis explains the table and is minimal: plain law of TableExplains.
-/
namespace Go.Proofs.YtpmebphhbgpapaaGreatDoor.Sym
set_option maxRecDepth 100000
theorem sufL_take_len {l : List (List Int)} (i : Nat) : (sufL (l.take i)).length ≤ (sufL l).length := by
 have h : sufL l = sufL (l.take i) ++ sufL (l.drop i) := by
  unfold sufL
  rw [← List.flatMap_append, List.take_append_drop]
 rw [h, List.length_append]
 omega
theorem common_pre : ∀ {u a b : List Int}, u <+: a → u <+: b → u.length ≤ common a b
 | [], _, _, _, _ => Nat.zero_le _
 | x :: u, a, b, ⟨v, hv⟩, ⟨w, hw⟩ => by
  subst hv
  subst hw
  have := common_pre (u := u) (a := u ++ v) (b := u ++ w) ⟨v, rfl⟩ ⟨w, rfl⟩
  show u.length + 1 ≤ common (x :: (u ++ v)) (x :: (u ++ w))
  simp only [common, if_true]
  omega
theorem take_take_le {α : Type} {l : List α} {i j : Nat} (h : i ≤ j) : (l.take j).take i = l.take i := by
 rw [List.take_take, Nat.min_eq_left h]
theorem agree_all {o : T_api_Obs} (hv : ObsOk o) {a b : T_api_Trace} (ha : a ∈ o.Traces) (hb : b ∈ o.Traces) : Agree a b ∨ Agree b a := by
 obtain ⟨i, hi, rfl⟩ := List.mem_iff_getElem.1 ha
 obtain ⟨j, hj, rfl⟩ := List.mem_iff_getElem.1 hb
 rcases Nat.lt_trichotomy i j with h | h | h
 ·exact Or.inl (hv.apart i j _ _ h (get_at hi) (get_at hj)).2
 ·subst h
  exact Or.inl rfl
 ·exact Or.inr (hv.apart j i _ _ h (get_at hj) (get_at hi)).2
theorem ansO_pre {o : T_api_Obs} (hv : ObsOk o) {u v r : List Int} (h : ansO o (u ++ v) = some r) : ansO o u = some (r.take u.length) := by
 unfold ansO at h ⊢
 by_cases h0 : u = []
 ·subst h0
  simp
 ·rw [if_neg (by simp [h0])] at h
  rw [if_neg h0]
  obtain ⟨a, ha, rfl⟩ := Option.map_eq_some_iff.1 h
  have hma := List.mem_of_find?_eq_some ha
  have hpa : u ++ v <+: a.In := by simpa using List.find?_some ha
  have hua : u <+: a.In := (List.prefix_append u v).trans hpa
  cases hb : o.Traces.find? fun t => decide (u <+: t.In) with
  | none =>
   have := List.find?_eq_none.1 hb a hma
   simp [hua] at this
  | some b =>
   have hmb := List.mem_of_find?_eq_some hb
   have hub : u <+: b.In := by simpa using List.find?_some hb
   show some (b.Out.take u.length) = some ((a.Out.take (u ++ v).length).take u.length)
   rw [take_take_le (by rw [List.length_append]; omega)]
   congr 1
   rcases agree_all hv hma hmb with h1 | h1
   ·have h2 := common_pre hua hub
    unfold Agree at h1
    rw [← take_take_le h2, ← h1, take_take_le h2]
   ·have h2 := common_pre hub hua
    unfold Agree at h1
    rw [← take_take_le h2, h1, take_take_le h2]
def tailA (o : T_api_Obs) (w e : List Int) : List Int := ((ansO o (w ++ e)).getD []).drop w.length
theorem tailA_nil {o : T_api_Obs} (hv : ObsOk o) (w : List Int) : tailA o w [] = [] := by
 unfold tailA
 rw [List.append_nil]
 cases h : ansO o w with
 | none => simp
 | some r =>
  rw [Option.getD_some, List.drop_eq_nil_of_le (by rw [ansO_len hv h]; exact Nat.le_refl _)]
theorem rowO_at {o : T_api_Obs} {w : List Int} {S : List (List Int)} {r : Row} (h : rowO o w S = some r) {i : Nat} {e : List Int} (he : S[i]? = some e) : r[i]? = some (tailA o w e) := by
 obtain ⟨x, x1, x2⟩ := rowO_get h i e he
 rw [x2]
 unfold tailA
 rw [x1]
 rfl
theorem tailA_cons {o : T_api_Obs} (hv : ObsOk o) {w e : List Int} {a y : Int} (h : ansO o (w ++ a :: e) ≠ none) (hy : tailA o w [a] = [y]) : tailA o w (a :: e) = y :: tailA o (w ++ [a]) e := by
 cases hr : ansO o (w ++ a :: e) with
 | none => exact absurd hr h
 | some r =>
  have hl := ansO_len hv hr
  have h1 : w ++ a :: e = (w ++ [a]) ++ e := by simp
  have h2 := hr
  rw [h1] at h2
  have h3 := ansO_pre hv h2
  unfold tailA at hy ⊢
  rw [h3] at hy
  rw [hr, h2]
  simp only [Option.getD_some] at hy ⊢
  rw [List.length_append, List.length_singleton] at hy ⊢
  rw [List.length_append, List.length_cons] at hl
  have h4 : r.drop w.length = r[w.length]'(by omega) :: r.drop (w.length + 1) := List.drop_eq_getElem_cons (by omega)
  rw [h4]
  congr 1
  have h5 : (List.drop w.length (List.take (w.length + 1) r))[0]? = some (r[w.length]'(by omega)) := by
   rw [List.getElem?_drop, List.getElem?_take_of_lt (by omega), get_at (by omega)]
   rfl
  rw [hy] at h5
  injection h5 with h5
  exact h5.symm
theorem ans_split {o : T_api_Obs} (hv : ObsOk o) {w e r : List Int} (hw : ansO o w = some r) (h : ansO o (w ++ e) ≠ none) : ansO o (w ++ e) = some (r ++ tailA o w e) := by
 cases hr : ansO o (w ++ e) with
 | none => exact absurd hr h
 | some z =>
  have h1 := ansO_pre hv hr
  rw [hw] at h1
  injection h1 with h1
  unfold tailA
  rw [hr, h1, Option.getD_some, List.take_append_drop]
section
variable {t : T_api_Table} {o : T_api_Obs}
theorem HypOk.mac (H : HypOk t o) : MacOk (hypT t o).M := macOk_of H.valid6
theorem HypOk.sing (H : HypOk t o) {a : Nat} (ha : a < t.Inputs.toNat) : t.Suffixes[a]? = some [(↑a : Int)] := by
 have hval := (compT_zero H.hz).1
 obtain ⟨_, _, _, hAs, hsing, _⟩ := valid_asc hval
 obtain ⟨_, _, _, hsc⟩ := valid_has hval
 exact singles_at hAs hsc hsing a ha
theorem HypOk.lt (H : HypOk t o) {p : List Int} (hp : p ∈ t.Prefixes) : stt t o p < (hypT t o).M.Next.length := by
 rw [H.nlen.1]
 exact pos_lt (H.mem hp)
theorem HypOk.nx_ot (H : HypOk t o) {p : List Int} (hp : p ∈ t.Prefixes) {a : Nat} (ha : a < t.Inputs.toNat) : nx (hypT t o).M (stt t o p) a = stt t o (p ++ [(↑a : Int)]) ∧ tailA o p [(↑a : Int)] = [ot (hypT t o).M (stt t o p) a] := by
 obtain ⟨q, hq, q1, q2, q3, _⟩ := H.at (H.mem hp)
 have q2 : (hypT t o).M.Next[stt t o p]? = some (nextT t o q) := q2
 have q3 : (hypT t o).M.Out[stt t o p]? = some (outT t o q) := q3
 constructor
 ·unfold nx
  rw [q2, Option.getD_some, nextT_at ha, Option.getD_some, Int.toNat_natCast]
  unfold stt
  rw [H.cons hq hp q1 ha]
 ·obtain ⟨y, z, y1, y2, y3⟩ := row_out H.hv (H.row hp) (H.sing ha)
  unfold ot
  rw [q3, Option.getD_some, outT_at ha, Option.getD_some, q1, y1]
  unfold tailA
  rw [y2, Option.getD_some, y3]
  rfl
theorem HypOk.rep (H : HypOk t o) {p : List Int} (hp : p ∈ t.Prefixes) {a : Nat} (ha : a < t.Inputs.toNat) : ∃ q ∈ t.Prefixes, rowG t o q = rowG t o (p ++ [(↑a : Int)]) ∧ stt t o q = stt t o (p ++ [(↑a : Int)]) := by
 obtain ⟨q, hq, q1, _⟩ := H.at (H.closed hp ha)
 exact ⟨q, hq, q1, by unfold stt; rw [q1]⟩
theorem HypOk.sufs (H : HypOk t o) {e : List Int} (he : e ∈ t.Suffixes) : WOk t.Inputs e := check_mem ((valid_has (compT_zero H.hz).1).2.2.2 e he).1
theorem same_tail {p q : List Int} {r : Row} (hp : rowO o p t.Suffixes = some r) (hq : rowO o q t.Suffixes = some r) {e : List Int} (he : e ∈ t.Suffixes) : tailA o p e = tailA o q e := by
 obtain ⟨i, hi, rfl⟩ := List.mem_iff_getElem.1 he
 have h1 := rowO_at hp (get_at hi)
 rw [rowO_at hq (get_at hi)] at h1
 injection h1 with h1
 exact h1.symm
theorem HypOk.along (H : HypOk t o) (hc : ∀ e ∈ t.Suffixes, e.drop 1 ∈ t.Suffixes ∨ e.drop 1 = []) : ∀ (e : List Int), e ∈ t.Suffixes ∨ e = [] → ∀ p ∈ t.Prefixes, Sym.outs (hypT t o).M (stt t o p) e = tailA o p e
 | [], _, p, _ => (tailA_nil H.hv p).symm
 | a :: e, he, p, hp => by
  have he := he.resolve_right (by simp)
  have ha := (H.sufs he).head
  have han : a.toNat < t.Inputs.toNat := by omega
  have haa : a = ((a.toNat : Nat) : Int) := by omega
  obtain ⟨n1, n2⟩ := H.nx_ot hp han
  rw [← haa] at n1 n2
  obtain ⟨q, hq, q1, q2⟩ := H.rep hp han
  rw [← haa] at q1 q2
  have hans := rowO_ans (H.row hp) _ he
  rw [tailA_cons H.hv hans n2]
  show ot (hypT t o).M (stt t o p) a.toNat :: Sym.outs (hypT t o).M (nx (hypT t o).M (stt t o p) a.toNat) e = _
  rw [n1, ← q2, H.along hc e (hc _ he) q hq]
  congr 1
  rcases hc _ he with h | h
  ·have hx := H.ext hp han
   rw [← haa] at hx
   exact same_tail (t := t) (by rw [H.row hq, q1]) hx h
  ·have h : e = [] := h
   subst h
   rw [tailA_nil H.hv, tailA_nil H.hv]
theorem HypOk.walk (H : HypOk t o) : ∀ (k : Nat) (p : List Int), p.length = k → p ∈ t.Prefixes → ansO o p = some (Sym.outs (hypT t o).M 0 p) ∧ dest (hypT t o).M 0 p = stt t o p := by
 intro k
 induction k with
 | zero =>
  intro p hl _
  have e := List.eq_nil_of_length_eq_zero hl
  subst e
  exact ⟨rfl, H.start.symm⟩
 | succ k ih =>
  intro p hl hp
  have hval := (compT_zero H.hz).1
  have hpre := pre_closed hval _ p hp k rfl (by omega)
  have hx := get_at (l := p) (i := k) (by omega)
  obtain ⟨x0, x1⟩ := H.sym hp hx
  have hpe : p = p.take k ++ [p[k]'(by omega)] := by
   rw [← take_step hx, ← hl, List.take_length]
  have han : (p[k]'(by omega)).toNat < t.Inputs.toNat := by omega
  have haa : (p[k]'(by omega)) = (((p[k]'(by omega)).toNat : Nat) : Int) := by omega
  obtain ⟨i1, i2⟩ := ih (p.take k) (by rw [List.length_take]; omega) hpre
  obtain ⟨n1, n2⟩ := H.nx_ot hpre han
  rw [← haa, ← hpe] at n1
  rw [← haa] at n2
  have hmem := List.mem_of_getElem? (H.sing han)
  rw [← haa] at hmem
  have hs := ans_split H.hv i1 (rowO_ans (H.row hpre) _ hmem)
  rw [n2, ← hpe] at hs
  constructor
  ·rw [hs]
   conv => rhs; rw [hpe, outs_append, i2]
   rfl
  ·conv => lhs; rw [hpe, dest_append, i2]
   show nx (hypT t o).M (stt t o (p.take k)) _ = _
   rw [n1]
theorem HypOk.word (H : HypOk t o) {w : List Int} (hw : w ∈ t.Prefixes ∨ w ∈ extL t) : WOk t.Inputs w ∧ w.length ≤ 31 ∧ ansO o w = some (Sym.outs (hypT t o).M 0 w) ∧ ∃ q ∈ t.Prefixes, dest (hypT t o).M 0 w = stt t o q ∧ ∃ r, rowO o w t.Suffixes = some r ∧ rowO o q t.Suffixes = some r := by
 rcases hw with hp | hx
 ·obtain ⟨w1, w2⟩ := H.walk _ w rfl hp
  have := H.ht.pw w hp
  exact ⟨check_mem ((valid_has (compT_zero H.hz).1).1 w hp), by omega, w1, w, hp, w2, _, H.row hp, H.row hp⟩
 ·obtain ⟨p, hp, h2⟩ := List.mem_flatMap.1 hx
  obtain ⟨a, ha, rfl⟩ := List.mem_map.1 h2
  have ha := List.mem_range.1 ha
  obtain ⟨w1, w2⟩ := H.walk _ p rfl hp
  obtain ⟨n1, n2⟩ := H.nx_ot hp ha
  obtain ⟨q, hq, q1, q2⟩ := H.rep hp ha
  have hl := H.ht.pw p hp
  have hc : WOk t.Inputs p := check_mem ((valid_has (compT_zero H.hz).1).1 p hp)
  have hs := ans_split H.hv w1 (rowO_ans (H.row hp) _ (List.mem_of_getElem? (H.sing ha)))
  refine ⟨hc.append fun x hx => by rw [List.mem_singleton.1 hx]; omega, by rw [List.length_append, List.length_singleton]; omega, ?_, q, hq, ?_, _, H.ext hp ha, by rw [H.row hq, q1]⟩
  ·rw [hs, n2, outs_append, w2]
   rfl
  ·rw [dest_append, w2, q2, ← n1]
   rfl
theorem HypOk.cell (H : HypOk t o) (hc : ∀ e ∈ t.Suffixes, e.drop 1 ∈ t.Suffixes ∨ e.drop 1 = []) {w e : List Int} (hw : w ∈ t.Prefixes ∨ w ∈ extL t) (he : e ∈ t.Suffixes) : ansO o (w ++ e) = some (Sym.outs (hypT t o).M 0 (w ++ e)) := by
 obtain ⟨_, _, w1, q, hq, w2, r, r1, r2⟩ := H.word hw
 rw [ans_split H.hv w1 (rowO_ans r1 _ he), outs_append, w2, H.along hc e (Or.inl he) q hq, same_tail (t := t) r1 r2 he]
theorem HypOk.minimal (H : HypOk t o) (hc : ∀ e ∈ t.Suffixes, e.drop 1 ∈ t.Suffixes ∨ e.drop 1 = []) : R08_Minimal (hypT t o).M = some true := by
 have hI : (hypT t o).M.Inputs = t.Inputs := rfl
 refine R08_Minimal_of H.valid6 (fun s hs => ?_) fun s u hs hu hE => ?_
 ·rw [H.nlen.1] at hs
  obtain ⟨q, hq, q1, _⟩ := H.state hs
  exact ⟨q, check_mem ((valid_has (compT_zero H.hz).1).1 q hq), by
   show dest (hypT t o).M 0 q = s
   rw [(H.walk _ q rfl hq).2, q1]⟩
 ·rw [H.nlen.1] at hs hu
  obtain ⟨p, hp, p1, _⟩ := H.state hs
  obtain ⟨q, hq, q1, _⟩ := H.state hu
  subst p1
  subst q1
  have hrow : rowG t o p = rowG t o q := by
   have l1 := (rowO_sml H.hv (H.row hp)).1
   have l2 := (rowO_sml H.hv (H.row hq)).1
   apply List.ext_getElem?
   intro i
   rcases Nat.lt_or_ge i t.Suffixes.length with hi | hi
   ·have hg := get_at hi
    have he := List.getElem_mem hi
    rw [rowO_at (H.row hp) hg, rowO_at (H.row hq) hg, ← H.along hc _ (Or.inl he) p hp, ← H.along hc _ (Or.inl he) q hq]
    rw [E_outs (E_all H.mac (H.lt hp) (H.lt hq) hE _) (H.sufs he)]
   ·rw [List.getElem?_eq_none (by omega), List.getElem?_eq_none (by omega)]
  unfold stt
  rw [hrow]
end
end Go.Proofs.YtpmebphhbgpapaaGreatDoor.Sym

/-
 The examples of the chapter on learning with a table, reckoned.
-/
namespace Go.Proofs.YtpmebphhbgpapaaGreatDoor.Sym
set_option maxRecDepth 100000
theorem awake24_true : L24_awake = some true := by decide +kernel
end Go.Proofs.YtpmebphhbgpapaaGreatDoor.Sym

/-
 Learning with a table: steps and refinements are the document's. Plain laws of LstarSteps, LstarRefines and LstarGrows.
-/
namespace Go.Proofs.YtpmebphhbgpapaaGreatDoor.Sym
set_option maxRecDepth 100000
section
variable {t : T_api_Table} {o : T_api_Obs}
structure Kept (t u : T_api_Table) : Prop where
 p : ∀ x ∈ t.Prefixes, x ∈ u.Prefixes
 s : ∀ x ∈ t.Suffixes, x ∈ u.Suffixes
 i : t.Inputs = u.Inputs
theorem Kept.self : Kept t t := ⟨fun _ h => h, fun _ h => h, rfl⟩
theorem growT_kept (p s : List (List Int)) : Kept t (growT t p s).1 := by
 unfold growT
 split
 ·exact Kept.self
 ·exact ⟨fun x h => (mem_sortW _ _).2 (List.mem_append_left _ h), fun x h => (mem_sortW _ _).2 (List.mem_append_left _ h), rfl⟩
structure StepOk (t : T_api_Table) (o : T_api_Obs) (r : T_api_Table × List (List Int) × Bool × Int) : Prop where
 p : SmL r.1.Prefixes
 s : SmL r.1.Suffixes
 w : SmL r.2.1
 k : Kept t r.1
 n : t.Prefixes.length + t.Suffixes.length ≤ r.1.Prefixes.length + r.1.Suffixes.length
 d : r.2.2.1 = true → r.2.2.2 = 0 ∧ (hypR t o).2 = 0
def restL (w : List Int) : List (List Int) := (List.range w.length).map w.drop
def refineT (t : T_api_Table) (w : List Int) (mode : Int) : T_api_Table × Int :=
 if validT t ≠ 0 then (t, validT t) else if checkI w t.Inputs ≠ 0 then (t, checkI w t.Inputs)
 else if mode = 0 then growT t (sortW (preL [w])) [] else if mode = 1 then growT t [] (restL w) else (t, 2)
theorem wordset_Suffixes_eq {l : List (List Int)} (hl : SmL l) (hp : SmL (sufL l)) : wordset_Suffixes l = some (sortW (sufL l)) := by
 have hl1 : l.length ≤ 2000000 := hl.1
 have hp1 : (sufL l).length ≤ 2000000 := hp.1
 unfold wordset_Suffixes wordset_parts
 rw [iter_eq (r := sufL l) (fun s => s.2 ≤ l.length ∧ s.1 = sufL (l.take s.2)) (fun s => l.length - s.2) (fun s ⟨h1, h2⟩ => by
  obtain ⟨y, i⟩ := s
  simp only at h1 h2
  subst h2
  simp only [wordset_parts.s14]
  by_cases h3 : i < l.length
  ·left
   have hx := get_at h3
   have hxs : SmW l[i] := hl.2 _ (List.getElem_mem _)
   have hx1 : l[i].length ≤ 2000000 := hxs
   have hst := sufL_step hx
   have hle := sufL_take_len (l := l) (i + 1)
   rw [hst, List.length_append, suffixes_length] at hle
   refine ⟨(sufL (l.take (i + 1)), i + 1), ?_, ⟨h3, rfl⟩, by simp only; omega⟩
   rw [dec_lt hx, cond_true, idxn_at hx, chk_pos (by unfold inR; omega)]
   rw [iter_eq (r := sufL (l.take i) ++ suffixes l[i]) (fun s => s.2 ≤ l[i].length + 1 ∧ s.1 = sufL (l.take i) ++ (suffixes l[i]).take s.2) (fun s => l[i].length + 1 - s.2) (fun s ⟨g1, g2⟩ => by
    obtain ⟨y, k⟩ := s
    simp only at g1 g2
    subst g2
    simp only [wordset_parts.s13, wordset_Suffixes_1]
    by_cases g3 : k < l[i].length + 1
    ·left
     refine ⟨(sufL (l.take i) ++ (suffixes l[i]).take (k + 1), k + 1), ?_, ⟨g3, rfl⟩, by simp only; omega⟩
     rw [decide_eq_true (by omega), cond_true, chk_pos (by omega), Int.toNat_natCast]
     simp only [obind]
     rw [chk_pos (by
      rw [List.length_append, List.length_take, suffixes_length]
      unfold capOk
      omega), chk_pos (by unfold inR; omega), suffixes_take _ (by omega), List.append_assoc]
    ·right
     have e : k = l[i].length + 1 := by omega
     subst e
     rw [decide_eq_false (by omega), cond_false, ← suffixes_length, List.take_length]) (s := (sufL (l.take i), 0)) ⟨Nat.zero_le _, by simp⟩ (by have := fuel_big; simp only; omega)]
   rw [hst]
   rfl
  ·right
   have e : i = l.length := by omega
   subst e
   rw [decide_eq_false (by omega), cond_false, List.take_length]) (s := ([], 0)) ⟨Nat.zero_le _, by simp [sufL]⟩ (by have := fuel_big; simp only; omega)]
 simp only [obind]
 rw [wordset_Sorted_eq hp]
 rfl
theorem restL_sml {w : List Int} (hw : w.length ≤ 100000) : SmL (restL w) := by
 refine ⟨by simp [restL]; omega, fun x hx => ?_⟩
 obtain ⟨k, _, rfl⟩ := List.mem_map.1 hx
 unfold SmW
 rw [List.length_drop]
 omega
theorem sufL_one (w : List Int) : sufL [w] = suffixes w := by simp [sufL]
theorem suf_one_sml {w : List Int} (hw : w.length ≤ 100000) : SmL (sufL [w]) := by
 rw [sufL_one]
 refine ⟨by rw [suffixes_length]; omega, fun x hx => ?_⟩
 obtain ⟨k, _, rfl⟩ := List.mem_map.1 hx
 unfold SmW
 rw [List.length_drop]
 omega
theorem mem_restL {w x : List Int} : x ∈ restL w ↔ x ∈ sortW (sufL [w]) ∧ 0 < x.length := by
 rw [mem_sortW, sufL_one]
 constructor
 ·intro h
  obtain ⟨k, hk, rfl⟩ := List.mem_map.1 h
  have hk := List.mem_range.1 hk
  exact ⟨List.mem_map.2 ⟨k, List.mem_range.2 (by omega), rfl⟩, by rw [List.length_drop]; omega⟩
 ·rintro ⟨h, h2⟩
  obtain ⟨k, hk, rfl⟩ := List.mem_map.1 h
  rw [List.length_drop] at h2
  exact List.mem_map.2 ⟨k, List.mem_range.2 (by omega), rfl⟩
theorem lstar_Refine_eq (ht : SmT t) {w : List Int} {mode : Int} (h1 : t.Prefixes.length ≤ 1100000) (h2 : t.Suffixes.length ≤ 1100000) (hw : w.length ≤ 100000) (hr : ∀ a ∈ w, inR a) : lstar_Refine t w mode = some (refineT t w mode) := by
 unfold lstar_Refine refineT
 rw [table_Valid_eq t ht, obind]
 by_cases c1 : validT t = 0
 ·rw [decide_eq_false (by simpa using c1), cond_false, if_neg (by simpa using c1), word_Check_eq w _ (by unfold SmW; omega), obind]
  by_cases c2 : checkI w t.Inputs = 0
  ·rw [decide_eq_false (by simpa using c2), cond_false, if_neg (by simpa using c2)]
   by_cases c3 : mode = 0
   ·rw [decide_eq_true c3, cond_true, if_pos c3, table_Prefix_eq ht hw hr (by omega), obind]
    unfold prefixT
    rw [if_neg (by simpa using c1), if_neg (by simpa using c2)]
   ·rw [decide_eq_false c3, cond_false, if_neg c3]
    by_cases c4 : mode = 1
    ·rw [decide_eq_true c4, cond_true, if_pos c4, wordset_Sorted_eq ht.2.1, obind, wordset_Sorted_eq ht.2.2.1, obind, wordset_Suffixes_eq (sml_one hw) (suf_one_sml hw), obind]
     have hsl := sortW_length (sufL [w])
     rw [sufL_one, suffixes_length, ← sufL_one] at hsl
     have htl := sortW_length t.Suffixes
     have key := iter_eq (step := fun (s : List (List Int) × Nat) => lstar_Refine.s2 (sortW (sufL [w])) s.1 s.2) (r := sortW t.Suffixes ++ (sortW (sufL [w])).filter fun x => decide (0 < x.length)) (fun s => s.2 ≤ (sortW (sufL [w])).length ∧ s.1 = sortW t.Suffixes ++ ((sortW (sufL [w])).take s.2).filter fun x => decide (0 < x.length)) (fun s => (sortW (sufL [w])).length - s.2) (fun s ⟨g1, g2⟩ => by
      obtain ⟨y, i⟩ := s
      simp only at g1 g2
      subst g2
      simp only [lstar_Refine.s2]
      by_cases g3 : i < (sortW (sufL [w])).length
      ·left
       have hx := get_at g3
       have hfl := List.length_filter_le (fun (x : List Int) => decide (0 < x.length)) ((sortW (sufL [w])).take i)
       rw [List.length_take] at hfl
       refine ⟨(sortW t.Suffixes ++ ((sortW (sufL [w])).take (i + 1)).filter fun x => decide (0 < x.length), i + 1), ?_, ⟨g3, rfl⟩, by simp only; omega⟩
       rw [dec_lt hx, cond_true, idxn_at hx, take_step hx, List.filter_append]
       by_cases g4 : 0 < ((sortW (sufL [w]))[i]).length
       ·rw [decide_eq_true (by omega), cond_true, chk_pos (by rw [List.length_append]; unfold capOk; omega), List.filter_cons_of_pos (by simpa using g4), List.append_assoc]
        rfl
       ·rw [decide_eq_false (by omega), cond_false, List.filter_cons_of_neg (by simpa using g4)]
        simp
      ·right
       have e : i = (sortW (sufL [w])).length := by omega
       subst e
       rw [decide_eq_false (by omega), cond_false, List.take_length]) (n := fuel) (s := (sortW t.Suffixes, 0)) ⟨Nat.zero_le _, by simp⟩ (by have := fuel_big; simp only; omega)
     have hmem : ∀ x, x ∈ sortW t.Suffixes ++ (sortW (sufL [w])).filter (fun x => decide (0 < x.length)) ↔ x ∈ t.Suffixes ++ restL w := fun x => by
      rw [List.mem_append, List.mem_append, mem_sortW, List.mem_filter, decide_eq_true_eq, mem_restL]
     have hfl := List.length_filter_le (fun (x : List Int) => decide (0 < x.length)) (sortW (sufL [w]))
     have hS : SmL (sortW t.Suffixes ++ (sortW (sufL [w])).filter fun x => decide (0 < x.length)) := sml_append (by omega) (sml_sort ht.2.2.1) ⟨by have := (sml_sort (suf_one_sml hw)).1; omega, fun x hx => (sml_sort (suf_one_sml hw)).2 x (List.mem_filter.1 hx).1⟩
     have hg := smt_grow (p := []) (s := restL w) ht sml_nil (restL_sml hw) (by have := ht.2.1.1; simp; omega) (by simp [restL]; omega) (fun x hx => by cases hx)
     rw [key, obind, wordset_Sorted_eq hS, obind, sortW_ext hmem]
     rw [List.append_nil] at hg
     rw [table_Valid_eq _ hg, obind]
     unfold growT
     rw [List.append_nil]
     by_cases c5 : validT ⟨t.Inputs, sortW t.Prefixes, sortW (t.Suffixes ++ restL w)⟩ = 0
     ·rw [decide_eq_false (by simpa using c5), cond_false, if_neg (by simpa using c5)]
     ·rw [decide_eq_true c5, cond_true, if_pos c5]
    ·rw [decide_eq_false c4, cond_false, if_neg c4]
  ·rw [decide_eq_true c2, cond_true, if_pos c2]
 ·rw [decide_eq_true c1, cond_true, if_pos c1]
theorem R24_rests_eq {w : List Int} (hw : w.length ≤ 100000) : R24_rests w = some (restL w) := by
 unfold R24_rests
 have key := iter_eq (step := fun (s : List (List Int) × Nat) => R24_rests.s2 w s.1 s.2) (r := restL w) (fun s => s.2 ≤ w.length ∧ s.1 = (List.range s.2).map w.drop) (fun s => w.length - s.2) (fun s ⟨g1, g2⟩ => by
  obtain ⟨y, i⟩ := s
  simp only at g1 g2
  subst g2
  simp only [R24_rests.s2]
  by_cases g3 : i < w.length
  ·left
   refine ⟨((List.range (i + 1)).map w.drop, i + 1), ?_, ⟨g3, rfl⟩, by simp only; omega⟩
   rw [decide_eq_true (by omega), cond_true, chk_pos (by omega), chk_pos (by simp; unfold capOk; omega), List.range_succ, List.map_append]
   rfl
  ·right
   have e : i = w.length := by omega
   subst e
   rw [decide_eq_false (by omega), cond_false]
   rfl) (n := fuel) (s := ([], 0)) ⟨Nat.zero_le _, rfl⟩ (by have := fuel_big; simp only; omega)
 rw [key, obind]
theorem R24_Refine_eq (ht : SmT t) {w : List Int} {mode : Int} (h1 : t.Prefixes.length ≤ 1100000) (h2 : t.Suffixes.length ≤ 1100000) (hw : w.length ≤ 100000) (hr : ∀ a ∈ w, inR a) : R24_Refine t w mode = some (refineT t w mode) := by
 have hpl : (sortW (preL [w])).length ≤ 100001 := by
  have := sortW_length (preL [w])
  rw [preL_one, prefixes_length] at this
  rw [preL_one]
  omega
 have hsp := sml_sort (sml_pre hw)
 unfold R24_Refine refineT
 rw [R23_Valid_eq t ht, obind]
 by_cases c1 : validT t = 0
 ·rw [decide_eq_false (by simpa using c1), cond_false, if_neg (by simpa using c1), R01_Check_eq w _ (by unfold SmW; omega), obind]
  by_cases c2 : checkI w t.Inputs = 0
  ·rw [decide_eq_false (by simpa using c2), cond_false, if_neg (by simpa using c2)]
   have fin : ∀ (p s : List (List Int)), SmT ⟨t.Inputs, sortW (t.Prefixes ++ p), sortW (t.Suffixes ++ s)⟩ → R24_Refine.k1 t t.Inputs (sortW (t.Prefixes ++ p)) (sortW (t.Suffixes ++ s)) = some (growT t p s) := fun p s hg => by
    simp only [R24_Refine.k1]
    rw [R23_Valid_eq _ hg, obind]
    unfold growT
    by_cases c5 : validT ⟨t.Inputs, sortW (t.Prefixes ++ p), sortW (t.Suffixes ++ s)⟩ = 0
    ·rw [decide_eq_false (by simpa using c5), cond_false, if_neg (by simpa using c5)]
    ·rw [decide_eq_true c5, cond_true, if_pos c5]
   have hg1 := smt_grow (s := []) ht hsp sml_nil (by omega) (by have := ht.2.2.1.1; simp; omega) (fun x hx a ha => by
    have hx := (mem_sortW _ _).1 hx
    rw [preL_one] at hx
    unfold prefixes at hx
    obtain ⟨k, _, rfl⟩ := List.mem_map.1 hx
    exact hr a (List.mem_of_mem_take ha))
   have hg2 := smt_grow (p := []) (s := restL w) ht sml_nil (restL_sml hw) (by have := ht.2.1.1; simp; omega) (by simp [restL]; omega) (fun x hx => by cases hx)
   by_cases c3 : mode = 0
   ·rw [decide_eq_false (fun h => h c3), cond_false, obind, cond_false, R02_Prefixes_eq (sml_one hw) (fun x hx => by rcases List.mem_singleton.1 hx with rfl; omega) (sml_pre hw), obind]
    rw [R23_With_eq ht.2.1 ht.2.2.1 hsp sml_nil (by omega) (by have := ht.2.2.1.1; simp; omega), obind, decide_eq_false (by omega), cond_false, obind, if_pos c3, fin _ _ hg1]
   ·rw [decide_eq_true c3, cond_true, obind, if_neg c3]
    by_cases c4 : mode = 1
    ·rw [decide_eq_false (fun h => h c4), cond_false, if_pos c4, R02_Prefixes_eq (sml_one hw) (fun x hx => by rcases List.mem_singleton.1 hx with rfl; omega) (sml_pre hw), obind]
     rw [R23_With_eq ht.2.1 ht.2.2.1 hsp sml_nil (by omega) (by have := ht.2.2.1.1; simp; omega), obind, decide_eq_true c4, cond_true, R24_rests_eq hw, obind, R23_With_eq ht.2.1 ht.2.2.1 sml_nil (restL_sml hw) (by have := ht.2.1.1; simp; omega) (by simp [restL]; omega), obind, obind, fin _ _ hg2]
    ·rw [decide_eq_true c4, cond_true, if_neg c4]
  ·rw [decide_eq_true c2, cond_true, if_pos c2]
 ·rw [decide_eq_true c1, cond_true, if_pos c1]
theorem refineT_ok (ht : SmT t) {w : List Int} {mode : Int} (h1 : t.Prefixes.length ≤ 1100000) (h2 : t.Suffixes.length ≤ 1100000) (hw : w.length ≤ 100000) : SmL (refineT t w mode).1.Prefixes ∧ SmL (refineT t w mode).1.Suffixes ∧ Kept t (refineT t w mode).1 := by
 have hpl : (sortW (preL [w])).length ≤ 100001 := by
  have := sortW_length (preL [w])
  rw [preL_one, prefixes_length] at this
  rw [preL_one]
  omega
 have h0 : SmL t.Prefixes ∧ SmL t.Suffixes ∧ Kept t t := ⟨ht.2.1, ht.2.2.1, Kept.self⟩
 unfold refineT
 split
 ·exact h0
 ·split
  ·exact h0
  ·split
   ·obtain ⟨s1, s2⟩ := growT_sml ht (sml_sort (sml_pre hw)) sml_nil (by omega) (by have := ht.2.2.1.1; simp; omega)
    exact ⟨s1, s2, growT_kept _ _⟩
   ·split
    ·obtain ⟨s1, s2⟩ := growT_sml ht sml_nil (restL_sml hw) (by have := ht.2.1.1; simp; omega) (by simp [restL]; omega)
     exact ⟨s1, s2, growT_kept _ _⟩
    ·exact h0
end
theorem plain_LstarRefines (t : T_api_Table) (w : List Int) (mode : Int) (ht : SmT t) (h1 : t.Prefixes.length ≤ 1048576) (h2 : t.Suffixes.length ≤ 1048576) (hw : w.length ≤ 1048576) (hr : ∀ a ∈ w, inR a) : L24_LstarRefines t w mode = some true := by
 unfold L24_LstarRefines
 rw [L23_Great_eq _ _ (by omega) (by omega) (by simp), awake24_true, obind]
 cases greatT t ⟨0, []⟩ with
 | true => rfl
 | false =>
  simp only [cond_false]
  by_cases h3 : 1100 < w.length
  ·rw [decide_eq_true (by omega)]
   rfl
  ·obtain ⟨s1, s2, _⟩ := refineT_ok (t := t) (w := w) (mode := mode) ht (by omega) (by omega) (by omega)
   rw [decide_eq_false (by omega), obind, cond_false, lstar_Refine_eq ht (by omega) (by omega) (by omega) hr, R24_Refine_eq ht (by omega) (by omega) (by omega) hr, obind, obind, R23_Same_eq _ _ s1 s2]
   simp
end Go.Proofs.YtpmebphhbgpapaaGreatDoor.Sym

/-
 The law of LstarRefines, for arguments within the bound.
-/
namespace Go.Proofs.YtpmebphhbgpapaaGreatDoor.Sym
theorem law_L24_LstarRefines (x0 : T_api_Table) (x1 : List Int) (x2 : Int) (k0 : ok_api_Table x0) (s0 : sz_api_Table x0 ≤ 1048576) (k1 : okL inR x1) (s1 : szL sz1 x1 ≤ 1048576) (k2 : inR x2) : L24_LstarRefines x0 x1 x2 = some true := by
 have s0' := s0
 unfold sz_api_Table at s0'
 exact plain_LstarRefines x0 x1 x2 (smt_of k0 s0) (list_len (by omega)) (list_len (by omega)) (word_len s1) k1
end Go.Proofs.YtpmebphhbgpapaaGreatDoor.Sym
