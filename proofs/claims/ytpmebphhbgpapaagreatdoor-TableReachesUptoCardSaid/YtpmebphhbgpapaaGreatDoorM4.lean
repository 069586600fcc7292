/-
 The view of a table, whole. Plain laws.
-/
import Derived.Test.YtpmebphhbgpapaaGreatDoorM3
set_option linter.all false
namespace Go.Proofs.YtpmebphhbgpapaaGreatDoor.Sym
set_option maxRecDepth 100000
def rowsO (o : T_api_Obs) (S : List (List Int)) : List (List Int) → Option (List (List (List Int)))
 | [] => some []
 | w :: ws => match rowO o w S with
  | none => none
  | some r => (rowsO o S ws).map fun l => r :: l
theorem rowsO_all {o : T_api_Obs} {S : List (List Int)} : ∀ {ws : List (List Int)} {rs : List (List (List Int))}, rowsO o S ws = some rs → rs.length = ws.length ∧ ∀ (i : Nat) w, ws[i]? = some w → ∃ r, rs[i]? = some r ∧ rowO o w S = some r
 | [], rs, h => by
  injection h with h
  subst h
  exact ⟨rfl, fun i w hw => by simp at hw⟩
 | w :: ws, rs, h => by
  unfold rowsO at h
  cases hr : rowO o w S with
  | none => rw [hr] at h; cases h
  | some r =>
   rw [hr] at h
   obtain ⟨rs', h1, rfl⟩ := Option.map_eq_some_iff.1 h
   obtain ⟨h2, h3⟩ := rowsO_all h1
   refine ⟨by simp [h2], fun i u hu => ?_⟩
   cases i with
   | zero =>
    simp at hu
    subst hu
    exact ⟨r, rfl, hr⟩
   | succ i => simpa using h3 i u (by simpa using hu)
theorem rowsO_none {o : T_api_Obs} {S : List (List Int)} {ws : List (List Int)} {w : List Int} (hw : w ∈ ws) (h : rowO o w S = none) : rowsO o S ws = none := by
 cases hr : rowsO o S ws with
 | none => rfl
 | some rs =>
  obtain ⟨i, hi, rfl⟩ := List.mem_iff_getElem.1 hw
  obtain ⟨r, _, h2⟩ := (rowsO_all hr).2 i _ (get_at hi)
  rw [h] at h2
  cases h2
theorem rowsO_snoc {o : T_api_Obs} {S : List (List Int)} {w : List Int} {r : List (List Int)} (h : rowO o w S = some r) : ∀ {ws : List (List Int)} {rs : List (List (List Int))}, rowsO o S ws = some rs → rowsO o S (ws ++ [w]) = some (rs ++ [r])
 | [], rs, h1 => by
  injection h1 with h1
  subst h1
  simp [rowsO, h]
 | u :: ws, rs, h1 => by
  rw [List.cons_append]
  unfold rowsO at h1 ⊢
  cases hr : rowO o u S with
  | none => rw [hr] at h1; cases h1
  | some r' =>
   rw [hr] at h1
   obtain ⟨rs', h2, rfl⟩ := Option.map_eq_some_iff.1 h1
   simp only [rowsO_snoc h h2]
   rfl
theorem ansO_rng {o : T_api_Obs} (hv : ObsOk o) {w r : List Int} (h : ansO o w = some r) : ∀ a ∈ r, inR a := by
 unfold ansO at h
 split at h
 ·injection h with h
  subst h
  intro a ha
  cases ha
 ·obtain ⟨t, ht, rfl⟩ := Option.map_eq_some_iff.1 h
  intro a ha
  have hm := List.mem_of_find?_eq_some ht
  have := (hv.prop t hm).1.2.2 a (List.mem_of_mem_take ha)
  unfold inR
  omega
theorem rowO_rng {o : T_api_Obs} (hv : ObsOk o) {w : List Int} : ∀ {S : List (List Int)} {l : List (List Int)}, rowO o w S = some l → ∀ x ∈ l, ∀ a ∈ x, inR a
 | [], l, h => by
  injection h with h
  subst h
  intro x hx
  cases hx
 | e :: S, l, h => by
  unfold rowO at h
  cases ha : ansO o (w ++ e) with
  | none => rw [ha] at h; cases h
  | some r =>
   rw [ha] at h
   obtain ⟨l', h1, rfl⟩ := Option.map_eq_some_iff.1 h
   intro x hx a hax
   rcases List.mem_cons.1 hx with rfl | hx
   ·exact ansO_rng hv ha a (List.mem_of_mem_drop hax)
   ·exact rowO_rng hv h1 x hx a hax
theorem rowO_rsm {o : T_api_Obs} {t : T_api_Table} (hv : ObsOk o) (ht : TabOk t) {w : List Int} {r : List (List Int)} (h : rowO o w t.Suffixes = some r) : RowSm r := by
 obtain ⟨h1, h2⟩ := rowO_sml hv h
 refine ⟨by have := ht.s; omega, fun x hx => ⟨?_, rowO_rng hv h x hx⟩⟩
 obtain ⟨e, he, hl⟩ := h2 x hx
 have := ht.sw e he
 omega
abbrev v0 : T_table_view := ⟨[], [], [], []⟩
abbrev Row : Type := List (List Int)
def addAll (R : List Row) (rs : List Row) : List Row := rs.foldl addR R
theorem addAll_snoc (R : List Row) (rs : List Row) (r : Row) : addAll R (rs ++ [r]) = addR (addAll R rs) r := by simp [addAll]
theorem addAll_append (R : List Row) (a b : List Row) : addAll R (a ++ b) = addAll (addAll R a) b := by simp [addAll]
theorem mem_addAll {R : List Row} {x : Row} : ∀ {rs : List Row}, x ∈ addAll R rs ↔ x ∈ R ∨ x ∈ rs := by
 intro rs
 induction rs generalizing R with
 | nil => simp [addAll]
 | cons r rs ih =>
  show x ∈ addAll (addR R r) rs ↔ _
  rw [ih, mem_addR, List.mem_cons]
  constructor
  ·rintro ((h | h) | h)
   ·exact Or.inl h
   ·exact Or.inr (Or.inl h)
   ·exact Or.inr (Or.inr h)
  ·rintro (h | h | h)
   ·exact Or.inl (Or.inl h)
   ·exact Or.inl (Or.inr h)
   ·exact Or.inr h
theorem pos_addAll {R : List Row} {x : Row} (h : x ∈ R) : ∀ rs : List Row, pos x (addAll R rs) = pos x R := by
 intro rs
 induction rs generalizing R with
 | nil => rfl
 | cons r rs ih =>
  show pos x (addAll (addR R r) rs) = _
  rw [ih (mem_addR.2 (Or.inl h)), pos_addR h]
theorem addAll_len (R : List Row) (rs : List Row) : (addAll R rs).length ≤ R.length + rs.length := by
 induction rs generalizing R with
 | nil => simp [addAll]
 | cons r rs ih =>
  have h1 := ih (R := addR R r)
  have h2 := addR_len R r
  show (addAll (addR R r) rs).length ≤ _
  rw [List.length_cons]
  omega
def nums (R : List Row) (rs : List Row) : List Int := rs.map fun r => (↑(pos r R) : Int)
theorem nums_add {R : List Row} {rs : List Row} (h : ∀ x ∈ rs, x ∈ R) (X : List Row) : nums (addAll R X) rs = nums R rs := by
 unfold nums
 refine List.map_congr_left fun x hx => ?_
 rw [pos_addAll (h x hx)]
theorem look_first {o : T_api_Obs} {t : T_api_Table} {F : List T_api_Trace} (ht : TabOk t) (ho : SmO o) (hv : ObsOk o) (hF : FindOk o F) :
  ∃ res, iter (fun (s : List (List (List Int)) × List Int × (List (ByteArray × Int)) × Nat) => table_look.s2 t F s.1 s.2.1 s.2.2.1 s.2.2.2) fuel ([], [], ([] : List (ByteArray × Int)), 0) = some res ∧
   match rowsO o t.Suffixes t.Prefixes with
   | none => res = .inr (v0, 12)
   | some rs => ∃ m, res = .inl (addAll [] rs, nums (addAll [] rs) rs, m) ∧ NumOk (addAll [] rs) m := by
 have hp := ht.p
 have hS := ht.sm.2.2.1
 refine iter_post (step := fun (s : List (List (List Int)) × List Int × (List (ByteArray × Int)) × Nat) => table_look.s2 t F s.1 s.2.1 s.2.2.1 s.2.2.2)
  (fun s => s.2.2.2 ≤ t.Prefixes.length ∧ ∃ rs, rowsO o t.Suffixes (t.Prefixes.take s.2.2.2) = some rs ∧ s.1 = addAll [] rs ∧ s.2.1 = nums (addAll [] rs) rs ∧ NumOk (addAll [] rs) s.2.2.1) (fun s => t.Prefixes.length - s.2.2.2) _ (fun s ⟨g1, rs, g2, g3, g4, g5⟩ => ?_) fuel _ ⟨Nat.zero_le _, [], rfl, rfl, rfl, fun r => by simp [addAll, mget]⟩ (by have := fuel_big; simp only; omega)
 obtain ⟨R, N, m, k⟩ := s
 simp only at g1 g2 g3 g4 g5
 subst g3 g4
 have hrl : rs.length = k := by
  have := (rowsO_all g2).1
  rw [List.length_take] at this
  omega
 have hRl := addAll_len [] rs
 simp only [List.length_nil] at hRl
 simp only [table_look.s2]
 by_cases h : k < t.Prefixes.length
 ·have hx := get_at h
  have hxs : SmW t.Prefixes[k] := ht.sm.2.1.2 _ (List.getElem_mem _)
  rw [dec_lt hx, cond_true, idxn_at hx, finder_row_eq ho hv hF hS hxs, obind]
  cases hr : rowO o t.Prefixes[k] t.Suffixes with
  | none =>
   right
   refine ⟨.inr (v0, 12), rfl, ?_⟩
   rw [rowsO_none (List.getElem_mem h) hr]
  | some r =>
   left
   have hsm := rowO_rsm hv ht hr
   obtain ⟨m', e, hm'⟩ := view_add_eq (v := ⟨addAll [] rs, nums (addAll [] rs) rs, [], m⟩) hsm g5 (by simp only; omega)
   simp only at e hm'
   refine ⟨(addAll [] (rs ++ [r]), nums (addAll [] (rs ++ [r])) (rs ++ [r]), m', k + 1), ?_, ⟨h, rs ++ [r], ?_, rfl, rfl, ?_⟩, by simp only; omega⟩
   ·simp only [tw, Bool.not_true, cond_false]
    rw [e, obind, chk_pos (by unfold nums capOk; rw [List.length_map]; omega), addAll_snoc]
    have h1 : nums (addR (addAll [] rs) r) (rs ++ [r]) = nums (addAll [] rs) rs ++ [(↑(pos r (addR (addAll [] rs) r)) : Int)] := by
     have h2 := nums_add (R := addAll [] rs) (rs := rs) (fun x hx => mem_addAll.2 (Or.inr hx)) [r]
     have h3 : addAll (addAll [] rs) [r] = addR (addAll [] rs) r := rfl
     rw [h3] at h2
     rw [← h2]
     simp [nums]
    rw [h1]
   ·simp only
    rw [take_step hx]
    exact rowsO_snoc hr g2
   ·simp only
    rw [addAll_snoc]
    exact hm'
 ·right
  have e : k = t.Prefixes.length := by omega
  subst e
  rw [List.take_length] at g2
  refine ⟨.inl (addAll [] rs, nums (addAll [] rs) rs, m), by rw [decide_eq_false (by omega), cond_false], ?_⟩
  rw [g2]
  exact ⟨m, rfl, g5⟩
def exts (n : Nat) (p : List Int) : List (List Int) := (List.range n).map fun (a : Nat) => p ++ [(↑a : Int)]
theorem look_inner {o : T_api_Obs} {t : T_api_Table} {F : List T_api_Trace} (ht : TabOk t) (ho : SmO o) (hv : ObsOk o) (hF : FindOk o F) (P : List Int) (Q : List (List Int)) {p : List Int} (hp : SmW p) (hp1 : p.length ≤ 1000000) {R : List Row} {m : List (ByteArray × Int)} (hm : NumOk R m) (hR : R.length ≤ 10000) :
  ∃ res, iter (fun (s : List (List (List Int)) × (List (ByteArray × Int)) × List Int × Nat) => table_look.s20 t F P Q p s.1 s.2.1 s.2.2.1 s.2.2.2) fuel (R, m, [], 0) = some res ∧
   match rowsO o t.Suffixes (exts t.Inputs.toNat p) with
   | none => res = .inr (.inr (.inr (v0, 12)))
   | some rs => ∃ m', res = .inl (addAll R rs, m', nums (addAll R rs) rs) ∧ NumOk (addAll R rs) m' := by
 have hn := ht.n
 have hS := ht.sm.2.2.1
 refine iter_post (step := fun (s : List (List (List Int)) × (List (ByteArray × Int)) × List Int × Nat) => table_look.s20 t F P Q p s.1 s.2.1 s.2.2.1 s.2.2.2)
  (fun s => s.2.2.2 ≤ t.Inputs.toNat ∧ ∃ rs, rowsO o t.Suffixes (exts s.2.2.2 p) = some rs ∧ s.1 = addAll R rs ∧ s.2.2.1 = nums (addAll R rs) rs ∧ NumOk (addAll R rs) s.2.1) (fun s => t.Inputs.toNat - s.2.2.2) _ (fun s ⟨g1, rs, g2, g3, g4, g5⟩ => ?_) fuel _ ⟨Nat.zero_le _, [], rfl, rfl, rfl, hm⟩ (by have := fuel_big; simp only; omega)
 obtain ⟨R', m1, N, k⟩ := s
 simp only at g1 g2 g3 g4 g5
 subst g3 g4
 have hrl : rs.length = k := by
  have := (rowsO_all g2).1
  unfold exts at this
  simpa using this
 have hRl := addAll_len R rs
 simp only [table_look.s20]
 by_cases h : k < t.Inputs.toNat
 ·have hxs : SmW (p ++ [(↑k : Int)]) := by
   show (p ++ [(↑k : Int)]).length ≤ 2000000
   simp
   omega
  have hst : exts (k + 1) p = exts k p ++ [p ++ [(↑k : Int)]] := by simp [exts, List.range_succ]
  rw [decide_eq_true (by omega), cond_true, table_extended_eq hp, obind, finder_row_eq ho hv hF hS hxs, obind]
  cases hr : rowO o (p ++ [(↑k : Int)]) t.Suffixes with
  | none =>
   right
   refine ⟨.inr (.inr (.inr (v0, 12))), rfl, ?_⟩
   rw [rowsO_none (ws := exts t.Inputs.toNat p) (w := p ++ [(↑k : Int)]) (List.mem_map.2 ⟨k, List.mem_range.2 h, rfl⟩) hr]
  | some r =>
   left
   have hsm := rowO_rsm hv ht hr
   obtain ⟨m', e, hm'⟩ := view_add_eq (v := ⟨addAll R rs, P, Q, m1⟩) hsm g5 (by simp only; omega)
   simp only at e hm'
   refine ⟨(addAll R (rs ++ [r]), m', nums (addAll R (rs ++ [r])) (rs ++ [r]), k + 1), ?_, ⟨h, rs ++ [r], ?_, rfl, rfl, ?_⟩, by simp only; omega⟩
   ·simp only [tw, Bool.not_true, cond_false]
    rw [e, obind, chk_pos (by unfold nums capOk; rw [List.length_map]; omega), chk_pos (by unfold inR; omega), addAll_snoc]
    have h1 : nums (addR (addAll R rs) r) (rs ++ [r]) = nums (addAll R rs) rs ++ [(↑(pos r (addR (addAll R rs) r)) : Int)] := by
     have h2 := nums_add (R := addAll R rs) (rs := rs) (fun x hx => mem_addAll.2 (Or.inr hx)) [r]
     have h3 : addAll (addAll R rs) [r] = addR (addAll R rs) r := rfl
     rw [h3] at h2
     rw [← h2]
     simp [nums]
    rw [h1]
   ·simp only
    rw [hst]
    exact rowsO_snoc hr g2
   ·simp only
    rw [addAll_snoc]
    exact hm'
 ·right
  have e : k = t.Inputs.toNat := by omega
  subst e
  refine ⟨.inl (addAll R rs, m1, nums (addAll R rs) rs), by rw [decide_eq_false (by omega), cond_false], ?_⟩
  rw [g2]
  exact ⟨m1, rfl, g5⟩
def extRows (o : T_api_Obs) (S : List (List Int)) (n : Nat) : List (List Int) → Option (List (List Row))
 | [] => some []
 | p :: ps => match rowsO o S (exts n p) with
  | none => none
  | some rs => (extRows o S n ps).map fun l => rs :: l
theorem extRows_all {o : T_api_Obs} {S : List (List Int)} {n : Nat} : ∀ {ps : List (List Int)} {rss : List (List Row)}, extRows o S n ps = some rss → rss.length = ps.length ∧ ∀ (i : Nat) p, ps[i]? = some p → ∃ rs, rss[i]? = some rs ∧ rowsO o S (exts n p) = some rs
 | [], rss, h => by
  injection h with h
  subst h
  exact ⟨rfl, fun i w hw => by simp at hw⟩
 | p :: ps, rss, h => by
  unfold extRows at h
  cases hr : rowsO o S (exts n p) with
  | none => rw [hr] at h; cases h
  | some r =>
   rw [hr] at h
   obtain ⟨rs', h1, rfl⟩ := Option.map_eq_some_iff.1 h
   obtain ⟨h2, h3⟩ := extRows_all h1
   refine ⟨by simp [h2], fun i u hu => ?_⟩
   cases i with
   | zero =>
    simp at hu
    subst hu
    exact ⟨r, rfl, hr⟩
   | succ i => simpa using h3 i u (by simpa using hu)
theorem extRows_none {o : T_api_Obs} {S : List (List Int)} {n : Nat} {ps : List (List Int)} {p : List Int} (hw : p ∈ ps) (h : rowsO o S (exts n p) = none) : extRows o S n ps = none := by
 cases hr : extRows o S n ps with
 | none => rfl
 | some rs =>
  obtain ⟨i, hi, rfl⟩ := List.mem_iff_getElem.1 hw
  obtain ⟨r, _, h2⟩ := (extRows_all hr).2 i _ (get_at hi)
  rw [h] at h2
  cases h2
theorem extRows_snoc {o : T_api_Obs} {S : List (List Int)} {n : Nat} {p : List Int} {r : List Row} (h : rowsO o S (exts n p) = some r) : ∀ {ps : List (List Int)} {rs : List (List Row)}, extRows o S n ps = some rs → extRows o S n (ps ++ [p]) = some (rs ++ [r])
 | [], rs, h1 => by
  injection h1 with h1
  subst h1
  simp [extRows, h]
 | u :: ps, rs, h1 => by
  rw [List.cons_append]
  unfold extRows at h1 ⊢
  cases hr : rowsO o S (exts n u) with
  | none => rw [hr] at h1; cases h1
  | some r' =>
   rw [hr] at h1
   obtain ⟨rs', h2, rfl⟩ := Option.map_eq_some_iff.1 h1
   simp only [extRows_snoc h h2]
   rfl
theorem look_second {o : T_api_Obs} {t : T_api_Table} {F : List T_api_Trace} (ht : TabOk t) (ho : SmO o) (hv : ObsOk o) (hF : FindOk o F) (P : List Int) {R : List Row} {m : List (ByteArray × Int)} (hm : NumOk R m) (hR : R.length ≤ 1000) :
  ∃ res, iter (fun (s : List (List (List Int)) × List (List Int) × (List (ByteArray × Int)) × Nat) => table_look.s22 t F P s.1 s.2.1 s.2.2.1 s.2.2.2) fuel (R, [], m, 0) = some res ∧
   match extRows o t.Suffixes t.Inputs.toNat t.Prefixes with
   | none => res = .inr (v0, 12)
   | some rss => ∃ m', res = .inl (addAll R rss.flatten, rss.map (nums (addAll R rss.flatten)), m') := by
 have hn := ht.n
 have hp := ht.p
 refine iter_post (step := fun (s : List (List (List Int)) × List (List Int) × (List (ByteArray × Int)) × Nat) => table_look.s22 t F P s.1 s.2.1 s.2.2.1 s.2.2.2)
  (fun s => s.2.2.2 ≤ t.Prefixes.length ∧ ∃ rss, extRows o t.Suffixes t.Inputs.toNat (t.Prefixes.take s.2.2.2) = some rss ∧ rss.flatten.length ≤ 4 * s.2.2.2 ∧ s.1 = addAll R rss.flatten ∧ s.2.1 = rss.map (nums (addAll R rss.flatten)) ∧ NumOk (addAll R rss.flatten) s.2.2.1) (fun s => t.Prefixes.length - s.2.2.2) _ (fun s ⟨g1, rss, g2, g6, g3, g4, g5⟩ => ?_) fuel _ ⟨Nat.zero_le _, [], rfl, by simp, rfl, rfl, hm⟩ (by have := fuel_big; simp only; omega)
 obtain ⟨R', N, m1, k⟩ := s
 simp only at g1 g2 g3 g4 g5 g6
 subst g3 g4
 have hrl : rss.length = k := by
  have := (extRows_all g2).1
  rw [List.length_take] at this
  omega
 have hRl := addAll_len R rss.flatten
 simp only [table_look.s22]
 by_cases h : k < t.Prefixes.length
 ·have hx := get_at h
  have hxs : SmW t.Prefixes[k] := ht.sm.2.1.2 _ (List.getElem_mem _)
  have hxl := ht.pw _ (List.getElem_mem h)
  obtain ⟨res, e, hres⟩ := look_inner ht ho hv hF P (rss.map (nums (addAll R rss.flatten))) hxs (by omega) g5 (by omega)
  rw [dec_lt hx, cond_true, idxn_at hx, e, obind]
  cases hr : rowsO o t.Suffixes (exts t.Inputs.toNat t.Prefixes[k]) with
  | none =>
   rw [hr] at hres
   right
   refine ⟨.inr (v0, 12), by rw [hres]; rfl, ?_⟩
   rw [extRows_none (List.getElem_mem h) hr]
  | some rs =>
   rw [hr] at hres
   obtain ⟨m', h1, h2⟩ := hres
   left
   have hsl : rs.length = t.Inputs.toNat := by
    have := (rowsO_all hr).1
    unfold exts at this
    simpa using this
   have hfl : (rss ++ [rs]).flatten = rss.flatten ++ rs := by simp
   refine ⟨(addAll R (rss ++ [rs]).flatten, (rss ++ [rs]).map (nums (addAll R (rss ++ [rs]).flatten)), m', k + 1), ?_, ⟨h, rss ++ [rs], ?_, ?_, rfl, rfl, ?_⟩, by simp only; omega⟩
   ·rw [h1]
    simp only [Sum.elim_inl, table_look.k21]
    rw [chk_pos (by rw [List.length_map]; unfold capOk; omega), hfl, addAll_append]
    have h3 : rss.map (nums (addAll (addAll R rss.flatten) rs)) = rss.map (nums (addAll R rss.flatten)) := by
     refine List.map_congr_left fun x hx => ?_
     exact nums_add (fun y hy => mem_addAll.2 (Or.inr (List.mem_flatten.2 ⟨x, hx, hy⟩))) rs
    rw [List.map_append, h3]
    rfl
   ·simp only
    rw [take_step hx]
    exact extRows_snoc hr g2
   ·simp only
    rw [hfl, List.length_append]
    omega
   ·simp only
    rw [hfl, addAll_append]
    exact h2
 ·right
  have e : k = t.Prefixes.length := by omega
  subst e
  rw [List.take_length] at g2
  refine ⟨.inl (addAll R rss.flatten, rss.map (nums (addAll R rss.flatten)), m1), by rw [decide_eq_false (by omega), cond_false], ?_⟩
  rw [g2]
  exact ⟨m1, rfl⟩
def LookSpec (t : T_api_Table) (o : T_api_Obs) (v : T_table_view) (e : Int) : Prop :=
 (chkT t o ≠ 0 ∧ e = chkT t o) ∨
 (chkT t o = 0 ∧ e = 12 ∧ (rowsO o t.Suffixes t.Prefixes = none ∨ extRows o t.Suffixes t.Inputs.toNat t.Prefixes = none)) ∨
 (chkT t o = 0 ∧ e = 0 ∧ ∃ rs rss, rowsO o t.Suffixes t.Prefixes = some rs ∧ extRows o t.Suffixes t.Inputs.toNat t.Prefixes = some rss ∧
  v.rows = addAll (addAll [] rs) rss.flatten ∧ v.prefixes = nums v.rows rs ∧ v.next = rss.map (nums v.rows))
theorem table_look_eq {t : T_api_Table} {o : T_api_Obs} (ht : TabOk t) (ho : SmO o) (hv : ObsOk o) : ∃ v e, table_look t o = some (v, e) ∧ LookSpec t o v e := by
 obtain ⟨F, hF1, hF⟩ := table_find_eq ho hv
 have hp := ht.p
 unfold table_look
 rw [table_check_eq ht.sm, obind]
 by_cases h : chkT t o = 0
 ·rw [decide_eq_false (by simpa using h), cond_false, hF1, obind]
  obtain ⟨res, e, hres⟩ := look_first ht ho hv hF
  rw [e, obind]
  cases hr : rowsO o t.Suffixes t.Prefixes with
  | none =>
   rw [hr] at hres
   subst hres
   exact ⟨v0, 12, rfl, .inr (.inl ⟨h, rfl, .inl hr⟩)⟩
  | some rs =>
   rw [hr] at hres
   obtain ⟨m, h1, h2⟩ := hres
   subst h1
   have hrl := (rowsO_all hr).1
   have hRl := addAll_len [] rs
   simp only [List.length_nil] at hRl
   simp only [Sum.elim_inl, table_look.k24]
   obtain ⟨res2, e2, hres2⟩ := look_second ht ho hv hF (nums (addAll [] rs) rs) h2 (by omega)
   rw [e2, obind]
   cases hr2 : extRows o t.Suffixes t.Inputs.toNat t.Prefixes with
   | none =>
    rw [hr2] at hres2
    subst hres2
    exact ⟨v0, 12, rfl, .inr (.inl ⟨h, rfl, .inr hr2⟩)⟩
   | some rss =>
    rw [hr2] at hres2
    obtain ⟨m', h3⟩ := hres2
    subst h3
    refine ⟨_, 0, rfl, .inr (.inr ⟨h, rfl, rs, rss, hr, hr2, rfl, ?_, rfl⟩)⟩
    exact (nums_add (fun x hx => mem_addAll.2 (Or.inr hx)) rss.flatten).symm
 ·rw [decide_eq_true h, cond_true]
  exact ⟨_, _, rfl, .inl ⟨h, rfl⟩⟩
end Go.Proofs.YtpmebphhbgpapaaGreatDoor.Sym

/-
 Complete tables, and the word that shows that a table is not closed. Plain laws.
-/
namespace Go.Proofs.YtpmebphhbgpapaaGreatDoor.Sym
set_option maxRecDepth 100000
theorem rowO_some {o : T_api_Obs} {w : List Int} : ∀ {S : List (List Int)}, (∀ e ∈ S, ansO o (w ++ e) ≠ none) → ∃ r, rowO o w S = some r
 | [], _ => ⟨[], rfl⟩
 | e :: S, h => by
  obtain ⟨l, hl⟩ := rowO_some (S := S) fun e he => h e (List.mem_cons_of_mem _ he)
  unfold rowO
  cases ha : ansO o (w ++ e) with
  | none => exact absurd ha (h e (by simp))
  | some r =>
   rw [hl]
   exact ⟨_, rfl⟩
theorem rowO_ans {o : T_api_Obs} {w : List Int} : ∀ {S : List (List Int)} {r : Row}, rowO o w S = some r → ∀ e ∈ S, ansO o (w ++ e) ≠ none
 | [], _, _, e, he => by cases he
 | u :: S, r, h, e, he => by
  unfold rowO at h
  cases ha : ansO o (w ++ u) with
  | none => rw [ha] at h; cases h
  | some x =>
   rw [ha] at h
   obtain ⟨l, h1, _⟩ := Option.map_eq_some_iff.1 h
   rcases List.mem_cons.1 he with rfl | he
   ·rw [ha]; simp
   ·exact rowO_ans h1 e he
def AllRows (t : T_api_Table) (o : T_api_Obs) : Prop := ∀ p ∈ t.Prefixes, ∀ w ∈ withX t.Inputs.toNat p, ∃ r, rowO o w t.Suffixes = some r
theorem need_nil {t : T_api_Table} {o : T_api_Obs} : needL o t t.Prefixes = [] ↔ AllRows t o := by
 constructor
 ·intro h p hp w hw
  refine rowO_some fun e he hn => ?_
  have : w ++ e ∈ needL o t t.Prefixes := List.mem_flatMap.2 ⟨p, hp, List.mem_flatMap.2 ⟨w, hw, mem_missO.2 ⟨⟨e, he, rfl⟩, hn⟩⟩⟩
  rw [h] at this
  cases this
 ·intro h
  refine List.eq_nil_iff_forall_not_mem.2 fun v hv => ?_
  obtain ⟨p, hp, h2⟩ := List.mem_flatMap.1 hv
  obtain ⟨w, hw, h3⟩ := List.mem_flatMap.1 h2
  obtain ⟨⟨e, he, rfl⟩, hn⟩ := mem_missO.1 h3
  obtain ⟨r, hr⟩ := h p hp w hw
  exact rowO_ans hr e he hn
def compT (t : T_api_Table) (o : T_api_Obs) : Int := if chkT t o ≠ 0 then chkT t o else if needL o t t.Prefixes = [] then 0 else 12
structure ViewOk (t : T_api_Table) (o : T_api_Obs) (v : T_table_view) : Prop where
 pl : v.prefixes.length = t.Prefixes.length
 nl : v.next.length = t.Prefixes.length
 pre : ∀ (i : Nat) p, t.Prefixes[i]? = some p → ∃ r, rowO o p t.Suffixes = some r ∧ r ∈ v.rows ∧ v.prefixes[i]? = some (↑(pos r v.rows) : Int)
 nxt : ∀ (i : Nat) p, t.Prefixes[i]? = some p → ∃ l, v.next[i]? = some l ∧ l.length = t.Inputs.toNat ∧ ∀ a, a < t.Inputs.toNat → ∃ r, rowO o (p ++ [(↑a : Int)]) t.Suffixes = some r ∧ r ∈ v.rows ∧ l[a]? = some (↑(pos r v.rows) : Int)
theorem look_view {t : T_api_Table} {o : T_api_Obs} {v : T_table_view} {e : Int} (h : LookSpec t o v e) : e = compT t o ∧ (e = 0 → ViewOk t o v ∧ AllRows t o ∧ chkT t o = 0) := by
 unfold compT
 rcases h with ⟨h1, rfl⟩ | ⟨h1, rfl, h2⟩ | ⟨h1, rfl, rs, rss, h2, h3, h4, h5, h6⟩
 ·exact ⟨by rw [if_pos h1], fun h => absurd h h1⟩
 ·have hn : needL o t t.Prefixes ≠ [] := fun hn => by
   have hA := need_nil.1 hn
   rcases h2 with h2 | h2
   ·have : ∀ (ps : List (List Int)), (∀ p ∈ ps, ∃ r, rowO o p t.Suffixes = some r) → rowsO o t.Suffixes ps ≠ none := by
     intro ps
     induction ps with
     | nil => intro _ h; cases h
     | cons p ps ih =>
      intro hp h
      obtain ⟨r, hr⟩ := hp p (by simp)
      unfold rowsO at h
      rw [hr] at h
      exact ih (fun q hq => hp q (List.mem_cons_of_mem _ hq)) (by simpa using h)
    exact this _ (fun p hp => hA p hp p (by simp [withX])) h2
   ·have hone : ∀ p ∈ t.Prefixes, rowsO o t.Suffixes (exts t.Inputs.toNat p) ≠ none := fun p hp => by
     have : ∀ (ps : List (List Int)), (∀ p ∈ ps, ∃ r, rowO o p t.Suffixes = some r) → rowsO o t.Suffixes ps ≠ none := by
      intro ps
      induction ps with
      | nil => intro _ h; cases h
      | cons p ps ih =>
       intro hp h
       obtain ⟨r, hr⟩ := hp p (by simp)
       unfold rowsO at h
       rw [hr] at h
       exact ih (fun q hq => hp q (List.mem_cons_of_mem _ hq)) (by simpa using h)
     exact this _ fun w hw => hA p hp w (List.mem_cons_of_mem _ hw)
    have : ∀ (ps : List (List Int)), (∀ p ∈ ps, rowsO o t.Suffixes (exts t.Inputs.toNat p) ≠ none) → extRows o t.Suffixes t.Inputs.toNat ps ≠ none := by
     intro ps
     induction ps with
     | nil => intro _ h; cases h
     | cons p ps ih =>
      intro hp h
      unfold extRows at h
      cases hr : rowsO o t.Suffixes (exts t.Inputs.toNat p) with
      | none => exact hp p (by simp) hr
      | some r =>
       rw [hr] at h
       exact ih (fun q hq => hp q (List.mem_cons_of_mem _ hq)) (by simpa using h)
    exact this _ hone h2
  exact ⟨by rw [if_neg (by simpa using h1), if_neg hn], fun h => by cases h⟩
 ·have hP := rowsO_all h2
  have hE := extRows_all h3
  have hmem1 : ∀ r ∈ rs, r ∈ v.rows := fun r hr => by rw [h4]; exact mem_addAll.2 (Or.inl (mem_addAll.2 (Or.inr hr)))
  have hmem2 : ∀ l ∈ rss, ∀ r ∈ l, r ∈ v.rows := fun l hl r hr => by rw [h4]; exact mem_addAll.2 (Or.inr (List.mem_flatten.2 ⟨l, hl, hr⟩))
  have hV : ViewOk t o v := by
   refine ⟨by rw [h5]; unfold nums; rw [List.length_map, hP.1], by rw [h6, List.length_map, hE.1], fun i p hp => ?_, fun i p hp => ?_⟩
   ·obtain ⟨r, hr1, hr2⟩ := hP.2 i p hp
    refine ⟨r, hr2, hmem1 r (List.mem_of_getElem? hr1), ?_⟩
    rw [h5]
    unfold nums
    rw [List.getElem?_map, hr1]
    rfl
   ·obtain ⟨l, hl1, hl2⟩ := hE.2 i p hp
    have hL := rowsO_all hl2
    refine ⟨nums v.rows l, by rw [h6, List.getElem?_map, hl1]; rfl, by unfold nums; rw [List.length_map, hL.1]; simp [exts], fun a ha => ?_⟩
    have hx : (exts t.Inputs.toNat p)[a]? = some (p ++ [(↑a : Int)]) := by
     unfold exts
     rw [List.getElem?_map, List.getElem?_range ha]
     rfl
    obtain ⟨r, hr1, hr2⟩ := hL.2 a _ hx
    refine ⟨r, hr2, hmem2 l (List.mem_of_getElem? hl1) r (List.mem_of_getElem? hr1), ?_⟩
    unfold nums
    rw [List.getElem?_map, hr1]
    rfl
  have hA : AllRows t o := fun p hp w hw => by
   obtain ⟨i, hi, rfl⟩ := List.mem_iff_getElem.1 hp
   unfold withX at hw
   rcases List.mem_cons.1 hw with rfl | hw
   ·obtain ⟨r, hr, _⟩ := hV.pre i _ (get_at hi)
    exact ⟨r, hr⟩
   ·obtain ⟨a, ha, rfl⟩ := List.mem_map.1 hw
    obtain ⟨l, _, _, h7⟩ := hV.nxt i _ (get_at hi)
    obtain ⟨r, hr, _⟩ := h7 a (List.mem_range.1 ha)
    exact ⟨r, hr⟩
  exact ⟨by rw [if_neg (by simpa using h1), if_pos (need_nil.2 hA)], fun _ => ⟨hV, hA, h1⟩⟩
theorem valid_asc {t : T_api_Table} (h : validT t = 0) : 1 ≤ t.Inputs ∧ t.Inputs ≤ 64 ∧ Asc t.Prefixes ∧ Asc t.Suffixes ∧ (∀ a ∈ List.range t.Inputs.toNat, [(↑a : Int)] ∈ t.Suffixes) ∧ scan (preG t fun w => decide (w ∈ t.Prefixes)) 0 t.Prefixes = none ∧ scan (sufG t) 0 t.Suffixes = none ∧ t.Prefixes ≠ [] := by
 unfold validT at h
 split at h
 ·cases h
 ·rename_i h1
  split at h
  ·cases h
  ·rename_i h2
   split at h
   ·cases h
   ·cases e1 : scan (preG t fun w => decide (w ∈ t.Prefixes)) 0 t.Prefixes with
    | some e =>
     exfalso
     rw [e1] at h
     simp only at h
     subst h
     have key : ∀ (l : List (List Int)) (j : Nat), scan (preG t fun w => decide (w ∈ t.Prefixes)) j l ≠ some 0 := by
      intro l
      induction l with
      | nil => intro j h; cases h
      | cons x l ih =>
       intro j h
       unfold scan at h
       split at h
       ·rename_i r' h3
        injection h with h
        subst h
        unfold preG at h3
        split at h3
        ·rename_i h4
         injection h3 with h3
         exact h4 h3
        ·split at h3
         ·cases h3
         ·split at h3
          ·cases h3
          ·cases h3
       ·exact ih _ h
     exact key _ _ e1
    | none =>
     rw [e1] at h
     cases e2 : scan (sufG t) 0 t.Suffixes with
     | some e =>
      exfalso
      rw [e2] at h
      simp only at h
      subst h
      have key : ∀ (l : List (List Int)) (j : Nat), scan (sufG t) j l ≠ some 0 := by
       intro l
       induction l with
       | nil => intro j h; cases h
       | cons x l ih =>
        intro j h
        unfold scan at h
        split at h
        ·rename_i r' h3
         injection h with h
         subst h
         unfold sufG at h3
         split at h3
         ·rename_i h4
          injection h3 with h3
          exact h4 h3
         ·split at h3
          ·cases h3
          ·split at h3
           ·cases h3
           ·cases h3
        ·exact ih _ h
      exact key _ _ e2
     | none =>
      rw [e2] at h
      simp only at h
      split at h
      ·rename_i h5
       refine ⟨by omega, by omega, Asc_of_prev fun i w hw => ?_, (sufG_none e2).1, h5, rfl, rfl, fun e => h2 (by rw [e]; rfl)⟩
       have := scan_none.1 e1 i w hw
       rw [Nat.zero_add] at this
       unfold preG at this
       split at this
       ·cases this
       ·split at this
        ·cases this
        ·rename_i h6
         cases hpv : prevLt t.Prefixes i w with
         | true => rfl
         | false => exact absurd (Or.inr hpv) h6
      ·cases h
def newRow (t : T_api_Table) (o : T_api_Obs) (w : List Int) : Bool := decide (rowO o w t.Suffixes ∉ t.Prefixes.map fun p => rowO o p t.Suffixes)
theorem contains_eq {l : List Int} {x : Int} (hl : l.length ≤ 2000000) : slices_Contains_Sint_int l x = some (decide (x ∈ l)) := by
 unfold slices_Contains_Sint_int slices_Index_Sint_int
 have key := iter_post (step := fun s => slices_Index_Sint_int.s2 l x s) (fun k => k ≤ l.length ∧ x ∉ l.take k) (fun k => l.length - k) (fun r => match r with | .inl () => x ∉ l | .inr n => 0 ≤ n ∧ x ∈ l) (fun k ⟨g1, g2⟩ => by
  simp only [slices_Index_Sint_int.s2]
  by_cases g3 : k < l.length
  ·have hx := get_at g3
   rw [dec_lt hx, cond_true, idxn_at hx]
   by_cases e : x = l[k]
   ·right
    exact ⟨.inr (k : Int), by rw [decide_eq_true e, cond_true], by omega, by rw [e]; exact List.getElem_mem _⟩
   ·left
    refine ⟨k + 1, by rw [decide_eq_false e, cond_false], ⟨g3, ?_⟩, by omega⟩
    rw [take_step hx]
    exact fun h => (List.mem_append.1 h).elim g2 fun h => e (List.mem_singleton.1 h)
  ·right
   rw [List.take_of_length_le (by omega)] at g2
   exact ⟨.inl (), by rw [decide_eq_false (by omega), cond_false], g2⟩) fuel 0 ⟨Nat.zero_le _, by simp⟩ (by have := fuel_big; omega)
 obtain ⟨r, e, hq⟩ := key
 rw [e, obind]
 cases r with
 | inl u =>
  have hq : x ∉ l := hq
  simp only [Sum.elim_inl]
  rw [obind, decide_eq_false hq]
  rfl
 | inr n =>
  have hq : 0 ≤ n ∧ x ∈ l := hq
  simp only [Sum.elim_inr]
  rw [obind, decide_eq_true hq.1, decide_eq_true hq.2]
theorem view_has {t : T_api_Table} {o : T_api_Obs} {v : T_table_view} (hV : ViewOk t o v) {r : Row} {w : List Int} (hr : rowO o w t.Suffixes = some r) (hm : r ∈ v.rows) : ((↑(pos r v.rows) : Int) ∈ v.prefixes) ↔ newRow t o w = false := by
 unfold newRow
 rw [decide_eq_false_iff_not, Classical.not_not, hr, List.mem_map]
 constructor
 ·intro h
  obtain ⟨i, hi, e⟩ := List.mem_iff_getElem.1 h
  have hp := get_at (l := t.Prefixes) (i := i) (by rw [← hV.pl]; exact hi)
  obtain ⟨r', h1, h2, h3⟩ := hV.pre i _ hp
  rw [get_at hi, e] at h3
  injection h3 with h3
  have h4 := pos_inj hm h2 (by omega)
  exact ⟨_, List.getElem_mem _, by rw [h1, h4]⟩
 ·rintro ⟨p, hp, h⟩
  obtain ⟨i, hi, rfl⟩ := List.mem_iff_getElem.1 hp
  obtain ⟨r', h1, h2, h3⟩ := hV.pre i _ (get_at hi)
  rw [h1] at h
  injection h with h
  subst h
  exact List.mem_of_getElem? h3
theorem view_unclosed_eq {t : T_api_Table} {o : T_api_Obs} {v : T_table_view} (ht : TabOk t) (hV : ViewOk t o v) : ∃ i a b, table_view_unclosed v = some (i, a, b) ∧
  match (extL t).find? (newRow t o) with
  | none => b = false
  | some w => b = true ∧ ∃ (k : Nat) (p : List Int), i = (k : Int) ∧ t.Prefixes[k]? = some p ∧ w = p ++ [a] := by
 have hn := ht.n
 have hp := ht.p
 unfold table_view_unclosed
 have key := iter_post (step := fun s => table_view_unclosed.s14 v s) (fun k => k ≤ t.Prefixes.length ∧ ((t.Prefixes.take k).flatMap (exts t.Inputs.toNat)).find? (newRow t o) = none) (fun k => t.Prefixes.length - k)
  (fun r => match r with | .inl () => (extL t).find? (newRow t o) = none | .inr x => x.2.2 = true ∧ ∃ w, (extL t).find? (newRow t o) = some w ∧ ∃ (k : Nat) (p : List Int), x.1 = (k : Int) ∧ t.Prefixes[k]? = some p ∧ w = p ++ [x.2.1]) (fun k ⟨g1, g2⟩ => by
   simp only [table_view_unclosed.s14]
   rw [hV.nl]
   by_cases g3 : k < t.Prefixes.length
   ·have hx := get_at g3
    obtain ⟨l, hl1, hl2, hl3⟩ := hV.nxt k _ hx
    rw [decide_eq_true (by omega), cond_true, idxn_at hl1]
    have hsplit : extL t = (t.Prefixes.take k).flatMap (exts t.Inputs.toNat) ++ (exts t.Inputs.toNat t.Prefixes[k] ++ (t.Prefixes.drop (k + 1)).flatMap (exts t.Inputs.toNat)) := by
     have h1 : t.Prefixes = t.Prefixes.take k ++ t.Prefixes[k] :: t.Prefixes.drop (k + 1) := by
      rw [← List.drop_eq_getElem_cons g3, List.take_append_drop]
     have h2 : extL t = t.Prefixes.flatMap (exts t.Inputs.toNat) := rfl
     rw [h2]
     conv => lhs; rw [h1]
     rw [List.flatMap_append, List.flatMap_cons]
    have inner := iter_post (step := fun s => table_view_unclosed.s13 v k l s) (fun a => a ≤ t.Inputs.toNat ∧ (exts a t.Prefixes[k]).find? (newRow t o) = none) (fun a => t.Inputs.toNat - a)
     (fun r => match r with | .inl () => (exts t.Inputs.toNat t.Prefixes[k]).find? (newRow t o) = none | .inr x => ∃ a : Nat, x = .inr (.inr ((k : Int), (a : Int), true)) ∧ (exts t.Inputs.toNat t.Prefixes[k]).find? (newRow t o) = some (t.Prefixes[k] ++ [(↑a : Int)])) (fun a ⟨q1, q2⟩ => by
      simp only [table_view_unclosed.s13]
      rw [hl2]
      by_cases q3 : a < t.Inputs.toNat
      ·obtain ⟨r, hr1, hr2, hr3⟩ := hl3 a q3
       have hst : exts (a + 1) t.Prefixes[k] = exts a t.Prefixes[k] ++ [t.Prefixes[k] ++ [(↑a : Int)]] := by simp [exts, List.range_succ]
       have hiff := view_has hV hr1 hr2
       rw [decide_eq_true (by omega), cond_true, idxn_at hr3, contains_eq (by rw [hV.pl]; omega), obind]
       cases hnw : newRow t o (t.Prefixes[k] ++ [(↑a : Int)]) with
       | true =>
        right
        have hno : ¬ (↑(pos r v.rows) : Int) ∈ v.prefixes := fun h => by
         have := hiff.1 h
         rw [hnw] at this
         cases this
        refine ⟨.inr (.inr (.inr ((k : Int), (a : Int), true))), by rw [decide_eq_false hno]; rfl, a, rfl, ?_⟩
        have hfull : exts t.Inputs.toNat t.Prefixes[k] = exts a t.Prefixes[k] ++ ((t.Prefixes[k] ++ [(↑a : Int)]) :: ((List.range' (a + 1) (t.Inputs.toNat - (a + 1))).map fun (b : Nat) => t.Prefixes[k] ++ [(↑b : Int)])) := by
         have h1 : List.range t.Inputs.toNat = List.range a ++ a :: List.range' (a + 1) (t.Inputs.toNat - (a + 1)) := by
          rw [List.range_eq_range', List.range_eq_range', ← List.range'_succ, show t.Inputs.toNat - (a + 1) + 1 = t.Inputs.toNat - a by omega]
          have := List.range'_append_1 (s := 0) (m := a) (n := t.Inputs.toNat - a)
          rw [Nat.zero_add, show a + (t.Inputs.toNat - a) = t.Inputs.toNat by omega] at this
          exact this.symm
         unfold exts
         rw [h1, List.map_append, List.map_cons]
        rw [hfull, List.find?_append, q2, List.find?_cons_of_pos (by rw [hnw])]
        rfl
       | false =>
        left
        refine ⟨a + 1, by rw [decide_eq_true (hiff.2 hnw)]; rfl, ⟨q3, ?_⟩, by omega⟩
        rw [hst, List.find?_append, q2, List.find?_cons_of_neg (by rw [hnw]; simp)]
        rfl
      ·right
       have e : a = t.Inputs.toNat := by omega
       subst e
       exact ⟨.inl (), by rw [decide_eq_false (by omega), cond_false], q2⟩) fuel 0 ⟨Nat.zero_le _, rfl⟩ (by have := fuel_big; omega)
    obtain ⟨r, e, hq⟩ := inner
    rw [e, obind]
    cases r with
    | inl u =>
     have hq : (exts t.Inputs.toNat t.Prefixes[k]).find? (newRow t o) = none := hq
     left
     refine ⟨k + 1, rfl, ⟨g3, ?_⟩, by omega⟩
     rw [take_step hx, List.flatMap_append, List.find?_append, g2]
     simp [hq]
    | inr x =>
     right
     obtain ⟨a, rfl, h2⟩ := hq
     refine ⟨.inr ((k : Int), (a : Int), true), rfl, rfl, t.Prefixes[k] ++ [(↑a : Int)], ?_, k, _, rfl, hx, rfl⟩
     rw [hsplit, List.find?_append, g2, List.find?_append, h2]
     rfl
   ·right
    have e : k = t.Prefixes.length := by omega
    subst e
    rw [List.take_length] at g2
    exact ⟨.inl (), by rw [decide_eq_false (by omega), cond_false], g2⟩) fuel 0 ⟨Nat.zero_le _, rfl⟩ (by have := fuel_big; omega)
 obtain ⟨r, e, hq⟩ := key
 rw [e, obind]
 cases r with
 | inl u =>
  have hq : (extL t).find? (newRow t o) = none := hq
  refine ⟨0, 0, false, rfl, ?_⟩
  rw [hq]
 | inr x =>
  obtain ⟨h1, w, h2, h3⟩ := hq
  obtain ⟨i, a, b⟩ := x
  refine ⟨i, a, b, rfl, ?_⟩
  rw [h2]
  exact ⟨h1, h3⟩
end Go.Proofs.YtpmebphhbgpapaaGreatDoor.Sym

/-
 The suffix that shows that a table is not consistent, and the law of TableRepairs. Plain laws.
-/
namespace Go.Proofs.YtpmebphhbgpapaaGreatDoor.Sym
set_option maxRecDepth 100000
section
variable {α R T : Type}
theorem scan_map {g : Nat → α → Option R} {f : R → T} : ∀ (l : List α) (j : Nat), scan (fun i x => (g i x).map f) j l = (scan g j l).map f
 | [], _ => rfl
 | x :: l, j => by
  unfold scan
  cases g j x with
  | some r => rfl
  | none => exact scan_map l (j + 1)
theorem elim_l {α β γ : Type} {f : α → γ} {g : β → γ} {a : α} : Sum.elim f g (Sum.inl a) = f a := (Sum.elim_inl f g a).trans (Eq.trans rfl rfl)
theorem iter_scan_at {step : Nat → Option (Nat ⊕ (Unit ⊕ R))} {l : List α} (g : Nat → α → Option R) (j : Nat) (hj : j ≤ l.length) (h1 : ∀ i x, j ≤ i → l[i]? = some x → step i = some (match g i x with | some r => .inr (.inr r) | none => .inl (i + 1))) (h2 : step l.length = some (.inr (.inl ()))) (hl : l.length ≤ 100000000000000) :
  iter step fuel j = some (match scan g j (l.drop j) with | some r => .inr r | none => .inl ()) := by
 have key : ∀ (n i : Nat), j ≤ i → i ≤ l.length → l.length - i < n → iter step n i = some (match scan g i (l.drop i) with | some r => .inr r | none => .inl ()) := by
  intro n
  induction n with
  | zero => intro i _ _ h; omega
  | succ n ih =>
   intro i hji hi hn
   rcases Nat.lt_or_ge i l.length with h | h
   ·rw [List.drop_eq_getElem_cons h]
    unfold iter scan
    rw [h1 i _ hji (List.getElem?_eq_getElem h)]
    cases g i l[i] with
    | some r => rfl
    | none => exact ih (i + 1) (by omega) h (by omega)
   ·have e : i = l.length := by omega
    subst e
    rw [List.drop_length]
    unfold iter scan
    rw [h2]
 exact key fuel j (Nat.le_refl _) hj (by have := fuel_big; omega)
end
def rowG (t : T_api_Table) (o : T_api_Obs) (w : List Int) : Row := (rowO o w t.Suffixes).getD []
def dP (a : Nat) (x y : Row) : Option (Int × Int × Bool) := scan (fun e u => if y[e]? = some u then none else some ((↑a : Int), (↑e : Int), true)) 0 x
def pP (t : T_api_Table) (o : T_api_Obs) (p q : List Int) : Option (Int × Int × Bool) := scan (fun _ (a : Nat) => dP a (rowG t o (p ++ [(↑a : Int)])) (rowG t o (q ++ [(↑a : Int)]))) 0 (List.range t.Inputs.toNat)
def iP (t : T_api_Table) (o : T_api_Obs) : Option (Int × Int × Bool) := scan (fun i p => scan (fun _ q => if rowO o p t.Suffixes = rowO o q t.Suffixes then pP t o p q else none) (i + 1) (t.Prefixes.drop (i + 1))) 0 t.Prefixes
theorem slices_Equal_eq (a b : List Int) (hl : a.length ≤ 100000000000000) : slices_Equal_Sint_int a b = some (decide (a = b)) := by
 unfold slices_Equal_Sint_int
 by_cases hlen : a.length = b.length
 ·rw [decide_eq_false (by omega), cond_false]
  refine iter_all2 hlen (fun i x y hx hy => ?_) ?_ hl
  ·simp only [slices_Equal_Sint_int.s2]
   rw [dec_lt hx, cond_true, idxn_at hx, idxn_at hy]
   by_cases h : x = y <;> simp [h]
  ·simp only [slices_Equal_Sint_int.s2]
   rw [dec_end]
   rfl
 ·rw [decide_eq_true (by omega), cond_true]
  have : a ≠ b := fun h => hlen (by rw [h])
  simp [this]
theorem scan_inv2 {α R : Type} {g : Nat → α → Option R} {Q : R → Prop} : ∀ {l : List α} {j : Nat} {r : R}, scan g j l = some r → (∀ i x r, l[i]? = some x → g (j + i) x = some r → Q r) → Q r
 | [], _, _, h, _ => by cases h
 | x :: l, j, r, h, hQ => by
  unfold scan at h
  cases e : g j x with
  | some r' =>
   rw [e] at h
   injection h with h
   subst h
   exact hQ 0 x _ rfl (by simpa using e)
  | none =>
   rw [e] at h
   exact scan_inv2 h fun i y r hy hg => hQ (i + 1) y r (by simpa using hy) (by rw [show j + (i + 1) = j + 1 + i by omega]; exact hg)
def RowsAlike (x y : Row) : Prop := x.length = y.length ∧ RowSm x ∧ RowSm y
theorem dP_prog {a : Nat} {x y : Row} (h : RowsAlike x y) : iter (fun s => table_view_inconsistent.s1019 a x y s) fuel 0 = some (match (dP a x y).map fun r => (.inr (.inr (.inr (.inr (.inr (.inr (.inr r)))))) : Nat ⊕ (Unit ⊕ (Unit ⊕ (Nat ⊕ (Unit ⊕ (Nat ⊕ (Unit ⊕ (Int × Int × Bool)))))))) with | some r => .inr r | none => .inl ()) := by
 obtain ⟨h1, h2, h3⟩ := h
 have hx0 := h2.1
 have key := iter_scan (step := fun s => table_view_inconsistent.s1019 a x y s) (l := x) (fun e u => (if y[e]? = some u then none else some ((↑a : Int), (↑e : Int), true)).map fun r => (.inr (.inr (.inr (.inr (.inr (.inr (.inr r)))))) : Nat ⊕ (Unit ⊕ (Unit ⊕ (Nat ⊕ (Unit ⊕ (Nat ⊕ (Unit ⊕ (Int × Int × Bool))))))))) (fun e u hu => by
  have he := (List.getElem?_eq_some_iff.1 hu).1
  have hw := get_at (l := y) (i := e) (by omega)
  have hus := (h2.2 u (List.mem_of_getElem? hu)).1
  simp only [table_view_inconsistent.s1019]
  rw [dec_lt hu, cond_true, idxn_at hu, idxn_at hw, slices_Equal_eq _ _ (by omega), obind]
  by_cases h4 : u = y[e]'(by omega)
  ·rw [decide_eq_true h4, if_pos (by rw [hw, h4])]
   rfl
  ·rw [decide_eq_false h4, if_neg (fun h => h4 (by rw [hw] at h; injection h with h; exact h.symm))]
   rfl) (by
  simp only [table_view_inconsistent.s1019]
  rw [dec_end]
  rfl) (by omega)
 rw [key, scan_map]
 unfold dP
 cases scan (fun e u => if y[e]? = some u then none else some ((↑a : Int), (↑e : Int), true)) 0 x <;> rfl
theorem rowG_some {t : T_api_Table} {o : T_api_Obs} {w : List Int} {r : Row} (h : rowO o w t.Suffixes = some r) : rowG t o w = r := by unfold rowG; rw [h]; rfl
theorem rows_alike {t : T_api_Table} {o : T_api_Obs} (ht : TabOk t) (hv : ObsOk o) {u w : List Int} {x y : Row} (hx : rowO o u t.Suffixes = some x) (hy : rowO o w t.Suffixes = some y) : RowsAlike x y :=
 ⟨by rw [(rowO_sml hv hx).1, (rowO_sml hv hy).1], rowO_rsm hv ht hx, rowO_rsm hv ht hy⟩
theorem pP_prog {t : T_api_Table} {o : T_api_Obs} {v : T_table_view} (ht : TabOk t) (hv : ObsOk o) (hV : ViewOk t o v) {i k : Nat} {p q : List Int} (hp : t.Prefixes[i]? = some p) (hq : t.Prefixes[k]? = some q) {l : List Int} (hl : v.next[i]? = some l) :
  iter (fun s => table_view_inconsistent.s1020 v i k l s) fuel 0 = some (match (pP t o p q).map fun r => (.inr (.inr (.inr (.inr (.inr r)))) : Unit ⊕ (Nat ⊕ (Unit ⊕ (Nat ⊕ (Unit ⊕ (Int × Int × Bool)))))) with | some r => .inr r | none => .inl ()) := by
 have hn := ht.n
 obtain ⟨l1, g1, g2, g3⟩ := hV.nxt i p hp
 rw [hl] at g1
 injection g1 with g1
 subst g1
 obtain ⟨l2, f1, f2, f3⟩ := hV.nxt k q hq
 have key := iter_scan (step := fun s => table_view_inconsistent.s1020 v i k l s) (l := List.range t.Inputs.toNat) (fun _ (a : Nat) => (dP a (rowG t o (p ++ [(↑a : Int)])) (rowG t o (q ++ [(↑a : Int)]))).map fun r => (.inr (.inr (.inr (.inr (.inr r)))) : Unit ⊕ (Nat ⊕ (Unit ⊕ (Nat ⊕ (Unit ⊕ (Int × Int × Bool))))))) (fun a a' ha => by
  have han : a < t.Inputs.toNat := by
   have := (List.getElem?_eq_some_iff.1 ha).1
   simpa using this
  rw [List.getElem?_range han] at ha
  injection ha with ha
  subst ha
  obtain ⟨x, x1, x2, x3⟩ := g3 a han
  obtain ⟨y, y1, y2, y3⟩ := f3 a han
  simp only [table_view_inconsistent.s1020]
  rw [g2, decide_eq_true (by omega), cond_true, idxn_at hl, idxn_at x3, idx_at rfl (pos_get x2), idxn_at f1, idxn_at y3, idx_at rfl (pos_get y2), dP_prog (rows_alike ht hv x1 y1), obind, rowG_some x1, rowG_some y1]
  cases dP a x y with
  | some r => rfl
  | none =>
   show Sum.elim _ _ (Sum.inl ()) = _
   rw [elim_l, chk_pos (by unfold inR; omega)]
   rfl) (by
  simp only [table_view_inconsistent.s1020]
  rw [g2, List.length_range, decide_eq_false (by omega)]
  rfl) (by simp; omega)
 rw [key, scan_map]
 unfold pP
 cases scan (fun _ (a : Nat) => dP a (rowG t o (p ++ [(↑a : Int)])) (rowG t o (q ++ [(↑a : Int)]))) 0 (List.range t.Inputs.toNat) <;> rfl
theorem iP_prog {t : T_api_Table} {o : T_api_Obs} {v : T_table_view} (ht : TabOk t) (hv : ObsOk o) (hV : ViewOk t o v) : table_view_inconsistent v = some (match iP t o with | some r => r | none => (0, 0, false)) := by
 have hpl := ht.p
 unfold table_view_inconsistent
 have outer := iter_scan (step := fun s => table_view_inconsistent.s1022 v s) (l := t.Prefixes) (fun i p => scan (fun _ q => if rowO o p t.Suffixes = rowO o q t.Suffixes then pP t o p q else none) (i + 1) (t.Prefixes.drop (i + 1))) (fun i p hp => by
  have hi := (List.getElem?_eq_some_iff.1 hp).1
  obtain ⟨r, r1, r2, r3⟩ := hV.pre i p hp
  obtain ⟨l, l1, l2, l3⟩ := hV.nxt i p hp
  have inner := iter_scan_at (step := fun s => table_view_inconsistent.s1021 v i (↑(pos r v.rows) : Int) s) (l := t.Prefixes) (fun _ q => (if rowO o p t.Suffixes = rowO o q t.Suffixes then pP t o p q else none).map fun r => (.inr (.inr r) : Nat ⊕ (Unit ⊕ (Int × Int × Bool)))) (i + 1) (by omega) (fun k q _ hq => by
   have hk := (List.getElem?_eq_some_iff.1 hq).1
   obtain ⟨s, s1, s2, s3⟩ := hV.pre k q hq
   simp only [table_view_inconsistent.s1021]
   rw [hV.pl, decide_eq_true (by omega), cond_true, idxn_at s3]
   by_cases h : r = s
   ·subst h
    rw [decide_eq_false (by simp), cond_false, idxn_at l1, pP_prog ht hv hV hp hq l1, obind, if_pos (by rw [r1, s1])]
    cases pP t o p q <;> rfl
   ·have h2 : ¬ (↑(pos s v.rows) : Int) = ↑(pos r v.rows) := fun e => h (pos_inj r2 s2 (by omega))
    rw [decide_eq_true h2, cond_true, if_neg (by rw [r1, s1]; simpa using h)]
    rfl) (by
   simp only [table_view_inconsistent.s1021]
   rw [hV.pl, decide_eq_false (by omega), cond_false]) (by omega)
  simp only [table_view_inconsistent.s1022]
  rw [hV.pl, decide_eq_true (by omega), cond_true, idxn_at r3, inner, obind, scan_map]
  cases scan (fun _ q => if rowO o p t.Suffixes = rowO o q t.Suffixes then pP t o p q else none) (i + 1) (t.Prefixes.drop (i + 1)) <;> rfl) (by
  simp only [table_view_inconsistent.s1022]
  rw [hV.pl, decide_eq_false (by omega), cond_false]) (by omega)
 rw [outer, obind]
 unfold iP
 cases scan (fun i p => scan (fun _ q => if rowO o p t.Suffixes = rowO o q t.Suffixes then pP t o p q else none) (i + 1) (t.Prefixes.drop (i + 1))) 0 t.Prefixes <;> rfl
theorem iP_range {t : T_api_Table} {o : T_api_Obs} (hv : ObsOk o) (hA : AllRows t o) {x : Int × Int × Bool} (h : iP t o = some x) : x.2.2 = true ∧ ∃ a e : Nat, x.1 = (a : Int) ∧ x.2.1 = (e : Int) ∧ a < t.Inputs.toNat ∧ e < t.Suffixes.length := by
 refine scan_inv2 (Q := fun x => x.2.2 = true ∧ ∃ a e : Nat, x.1 = (a : Int) ∧ x.2.1 = (e : Int) ∧ a < t.Inputs.toNat ∧ e < t.Suffixes.length) h fun i p r hp hr => ?_
 refine scan_inv2 (Q := fun x => x.2.2 = true ∧ ∃ a e : Nat, x.1 = (a : Int) ∧ x.2.1 = (e : Int) ∧ a < t.Inputs.toNat ∧ e < t.Suffixes.length) hr fun k q r hq hr => ?_
 split at hr
 ·refine scan_inv2 (Q := fun x => x.2.2 = true ∧ ∃ a e : Nat, x.1 = (a : Int) ∧ x.2.1 = (e : Int) ∧ a < t.Inputs.toNat ∧ e < t.Suffixes.length) hr fun a a' r ha hr => ?_
  have han : a < t.Inputs.toNat := by
   have := (List.getElem?_eq_some_iff.1 ha).1
   simpa using this
  rw [List.getElem?_range han] at ha
  injection ha with ha
  subst ha
  refine scan_inv2 (Q := fun x => x.2.2 = true ∧ ∃ a e : Nat, x.1 = (a : Int) ∧ x.2.1 = (e : Int) ∧ a < t.Inputs.toNat ∧ e < t.Suffixes.length) hr fun e u r hu hr => ?_
  split at hr
  ·cases hr
  ·injection hr with hr
   subst hr
   refine ⟨rfl, a, 0 + e, rfl, rfl, han, ?_⟩
   obtain ⟨z, hz⟩ := hA p (List.mem_of_getElem? hp) (p ++ [(↑a : Int)]) (List.mem_cons_of_mem _ (List.mem_map.2 ⟨a, List.mem_range.2 han, rfl⟩))
   rw [rowG_some hz] at hu
   have h1 := (List.getElem?_eq_some_iff.1 hu).1
   have h2 := (rowO_sml hv hz).1
   omega
 ·cases hr
end Go.Proofs.YtpmebphhbgpapaaGreatDoor.Sym

/-
 Every repair adds one word: plain law of TableProgress.
-/
namespace Go.Proofs.YtpmebphhbgpapaaGreatDoor.Sym
set_option maxRecDepth 100000
theorem compT_zero {t : T_api_Table} {o : T_api_Obs} (h : compT t o = 0) : validT t = 0 ∧ t.Inputs = o.Inputs ∧ AllRows t o := by
 unfold compT at h
 split at h
 ·rename_i h1; exact absurd h h1
 ·rename_i h1
  split at h
  ·rename_i h2
   have h1 : chkT t o = 0 := by simpa using h1
   unfold chkT at h1
   split at h1
   ·rename_i h3; exact absurd h1 h3
   ·rename_i h3
    split at h1
    ·cases h1
    ·rename_i h4
     exact ⟨by simpa using h3, by simpa using h4, need_nil.1 h2⟩
  ·cases h
theorem valid_has {t : T_api_Table} (h : validT t = 0) : (∀ w ∈ t.Prefixes, checkI w t.Inputs = 0) ∧ (∀ w ∈ t.Prefixes, 0 < w.length → w.take (w.length - 1) ∈ t.Prefixes) ∧ [] ∈ t.Prefixes ∧ ∀ w ∈ t.Suffixes, checkI w t.Inputs = 0 ∧ w.length ≠ 0 := by
 obtain ⟨_, _, _, _, _, e1, e2, hne⟩ := valid_asc h
 have key : ∀ (i : Nat) w, t.Prefixes[i]? = some w → checkI w t.Inputs = 0 ∧ ¬ (i = 0 ∧ 0 < w.length) ∧ (0 < w.length → w.take (w.length - 1) ∈ t.Prefixes) := fun i w hw => by
  have := scan_none.1 e1 i w hw
  rw [Nat.zero_add] at this
  unfold preG at this
  split at this
  ·cases this
  ·rename_i h1
   split at this
   ·cases this
   ·rename_i h2
    split at this
    ·cases this
    ·rename_i h3
     refine ⟨by simpa using h1, fun h4 => h2 (Or.inl h4), fun h4 => ?_⟩
     refine Classical.byContradiction fun h5 => h3 ⟨h4, decide_eq_false h5⟩
 refine ⟨fun w hw => ?_, fun w hw => ?_, ?_, (sufG_none e2).2⟩
 ·obtain ⟨i, hi, rfl⟩ := List.mem_iff_getElem.1 hw
  exact (key i _ (get_at hi)).1
 ·obtain ⟨i, hi, rfl⟩ := List.mem_iff_getElem.1 hw
  exact (key i _ (get_at hi)).2.2
 ·have hl : 0 < t.Prefixes.length := List.length_pos_iff.2 hne
  have := (key 0 _ (get_at hl)).2.1
  have he : t.Prefixes[0].length = 0 := by
   rcases Nat.eq_zero_or_pos t.Prefixes[0].length with h | h
   ·exact h
   ·exact absurd ⟨rfl, h⟩ this
  have := List.eq_nil_of_length_eq_zero he
  rw [← this]
  exact List.getElem_mem _
theorem pre_closed {t : T_api_Table} (h : validT t = 0) : ∀ (n : Nat) (p : List Int), p ∈ t.Prefixes → ∀ k, p.length - k = n → k ≤ p.length → p.take k ∈ t.Prefixes := by
 obtain ⟨_, hc, _, _⟩ := valid_has h
 intro n
 induction n with
 | zero => intro p hp k hk hkl; rw [List.take_of_length_le (by omega)]; exact hp
 | succ n ih =>
  intro p hp k hk hkl
  have h1 := hc p hp (by omega)
  have h2 := ih _ h1 k (by rw [List.length_take]; omega) (by rw [List.length_take]; omega)
  rw [List.take_take, Nat.min_eq_left (by omega)] at h2
  exact h2
theorem rowO_get {o : T_api_Obs} {w : List Int} : ∀ {S : List (List Int)} {r : Row}, rowO o w S = some r → ∀ (i : Nat) e, S[i]? = some e → ∃ x, ansO o (w ++ e) = some x ∧ r[i]? = some (x.drop w.length)
 | [], _, _, i, e, he => by simp at he
 | u :: S, r, h, i, e, he => by
  unfold rowO at h
  cases ha : ansO o (w ++ u) with
  | none => rw [ha] at h; cases h
  | some x =>
   rw [ha] at h
   obtain ⟨l, h1, rfl⟩ := Option.map_eq_some_iff.1 h
   cases i with
   | zero =>
    simp at he
    subst he
    exact ⟨x, ha, rfl⟩
   | succ i =>
    obtain ⟨y, h2, h3⟩ := rowO_get h1 i e (by simpa using he)
    exact ⟨y, h2, by simpa using h3⟩
end Go.Proofs.YtpmebphhbgpapaaGreatDoor.Sym

/-
 The hypothesis of a table: the program's is the document's. Plain laws.
-/
namespace Go.Proofs.YtpmebphhbgpapaaGreatDoor.Sym
set_option maxRecDepth 100000
theorem singles_at {l : List (List Int)} {n : Int} (hA : Asc l) (hc : ∀ w ∈ l, checkI w n = 0 ∧ w.length ≠ 0) (h : ∀ a ∈ List.range n.toNat, [(↑a : Int)] ∈ l) : ∀ a, a < n.toNat → l[a]? = some [(↑a : Int)] := by
 intro a
 induction a using Nat.strongRecOn with
 | _ a ih =>
  intro ha
  obtain ⟨j, hj, e⟩ := List.mem_iff_getElem.1 (h a (List.mem_range.2 ha))
  have ej : l[j]? = some [(↑a : Int)] := by rw [get_at hj, e]
  rcases Nat.lt_trichotomy j a with hlt | heq | hgt
  ·have := ih j hlt (by omega)
   rw [ej] at this
   injection this with this
   injection this with this
   omega
  ·rw [← heq, ej, heq]
  ·have hx := get_at (l := l) (i := a) (by omega)
   have hcmp := hA.get hgt hx ej
   have hxm := List.mem_of_getElem? hx
   obtain ⟨b, hb⟩ := one_of (hc _ hxm).2 (cmp_len hcmp)
   rw [hb] at hcmp hx
   have hlt := cmp_single.1 hcmp
   have hr := check_mem (hc _ hxm).1 b (by rw [hb]; simp)
   have hbb := ih b.toNat (by omega) (by omega)
   rw [show ((b.toNat : Nat) : Int) = b by omega] at hbb
   have := hA.get (show b.toNat < a by omega) hbb hx
   rw [cmpW_refl] at this
   cases this
def newAt (rs : List Row) (i : Nat) : Bool := match rs[i]? with | some r => decide (r ∉ rs.take i) | none => false
def fstI (rs : List Row) (k : Nat) : List Nat := (List.range k).filter (newAt rs)
theorem fstI_succ (rs : List Row) (k : Nat) : fstI rs (k + 1) = fstI rs k ++ if newAt rs k = true then [k] else [] := by
 unfold fstI
 rw [List.range_succ, List.filter_append]
 simp only [List.filter_cons, List.filter_nil]
theorem addAll_fst (rs : List Row) : ∀ k, k ≤ rs.length → addAll [] (rs.take k) = (fstI rs k).map fun i => (rs[i]?).getD [] := by
 intro k
 induction k with
 | zero => intro _; rfl
 | succ k ih =>
  intro hk
  have hx := get_at (l := rs) (i := k) (by omega)
  rw [take_step hx, addAll_snoc, ih (by omega), fstI_succ, List.map_append]
  have hiff : newAt rs k = true ↔ rs[k] ∉ addAll [] (rs.take k) := by
   unfold newAt
   rw [hx]
   simp only
   rw [decide_eq_true_iff, mem_addAll]
   simp
  rw [ih (by omega)] at hiff
  unfold addR
  by_cases h : newAt rs k = true
  ·rw [if_neg (hiff.1 h), if_pos h]
   simp [hx]
  ·rw [if_pos (Classical.byContradiction fun h2 => h (hiff.2 h2)), if_neg h]
   simp
theorem fstI_len (rs : List Row) (k : Nat) : (fstI rs k).length ≤ k := by
 unfold fstI
 have := List.length_filter_le (newAt rs) (List.range k)
 rw [List.length_range] at this
 exact this
theorem mem_fstI {rs : List Row} {k i : Nat} : i ∈ fstI rs k ↔ i < k ∧ newAt rs i = true := by
 unfold fstI
 rw [List.mem_filter, List.mem_range]
def rowsT (t : T_api_Table) (o : T_api_Obs) : List Row := t.Prefixes.map (rowG t o)
def rowsA (t : T_api_Table) (o : T_api_Obs) : List Row := addAll [] (rowsT t o)
def nextT (t : T_api_Table) (o : T_api_Obs) (p : List Int) : List Int := (List.range t.Inputs.toNat).map fun (a : Nat) => (↑(pos (rowG t o (p ++ [(↑a : Int)])) (rowsA t o)) : Int)
def outT (t : T_api_Table) (o : T_api_Obs) (p : List Int) : List Int := (List.range t.Inputs.toNat).map fun (a : Nat) => (((rowG t o p)[a]?).getD []).headD 0
def preAt (t : T_api_Table) (i : Nat) : List Int := (t.Prefixes[i]?).getD []
def hypT (t : T_api_Table) (o : T_api_Obs) : T_api_Hyp :=
 ⟨⟨t.Inputs, 0, (fstI (rowsT t o) t.Prefixes.length).map fun i => nextT t o (preAt t i), (fstI (rowsT t o) t.Prefixes.length).map fun i => outT t o (preAt t i)⟩, (fstI (rowsT t o) t.Prefixes.length).map (preAt t)⟩
abbrev h0 : T_api_Hyp := ⟨⟨0, 0, [], []⟩, []⟩
def hypR (t : T_api_Table) (o : T_api_Obs) : T_api_Hyp × Int :=
 if compT t o ≠ 0 then (h0, compT t o) else if (extL t).find? (newRow t o) ≠ none ∨ iP t o ≠ none then (h0, 10) else (hypT t o, 0)
theorem rowsO_eq {t : T_api_Table} {o : T_api_Obs} : ∀ {ps : List (List Int)} {rs : List Row}, rowsO o t.Suffixes ps = some rs → rs = ps.map (rowG t o)
 | [], rs, h => by
  injection h with h
  exact h.symm
 | w :: ws, rs, h => by
  unfold rowsO at h
  cases hr : rowO o w t.Suffixes with
  | none => rw [hr] at h; cases h
  | some r =>
   rw [hr] at h
   obtain ⟨rs', h1, rfl⟩ := Option.map_eq_some_iff.1 h
   rw [rowsO_eq h1, List.map_cons, rowG_some hr]
theorem row_out {t : T_api_Table} {o : T_api_Obs} (hv : ObsOk o) {p : List Int} {r : Row} (hr : rowO o p t.Suffixes = some r) {a : Nat} (hs : t.Suffixes[a]? = some [(↑a : Int)]) : ∃ y z, r[a]? = some [y] ∧ ansO o (p ++ [(↑a : Int)]) = some z ∧ z.drop p.length = [y] := by
 obtain ⟨z, h1, h2⟩ := rowO_get hr a _ hs
 have hl := ansO_len hv h1
 rw [List.length_append, List.length_singleton] at hl
 have hd : (z.drop p.length).length = 1 := by rw [List.length_drop]; omega
 match hq : z.drop p.length, hd with
 | [y], _ => exact ⟨y, z, by rw [h2, hq], h1, hq⟩
theorem table_Hypothesis_eq {t : T_api_Table} {o : T_api_Obs} (ht : TabOk t) (ho : SmO o) (hv : ObsOk o) : table_Hypothesis t o = some (hypR t o) := by
 have hn := ht.n
 have hpl := ht.p
 obtain ⟨v, e, h1, h2⟩ := table_look_eq ht ho hv
 obtain ⟨h3, h4⟩ := look_view h2
 unfold table_Hypothesis hypR
 rw [h1, obind]
 simp only
 rw [h3] at h4 ⊢
 by_cases hz : compT t o = 0
 ·obtain ⟨hV, hA, hck⟩ := h4 hz
  obtain ⟨hval, _, _⟩ := compT_zero hz
  obtain ⟨hn1, _, hAp, hAs, hsing, _, _, hne⟩ := valid_asc hval
  obtain ⟨_, _, _, hsc⟩ := valid_has hval
  have hsat := singles_at hAs hsc hsing
  obtain ⟨i, a, b, h5, h6⟩ := view_unclosed_eq ht hV
  rw [decide_eq_false (by simpa using hz), cond_false, if_neg (by simpa using hz), h5, obind, iP_prog ht hv hV, obind]
  simp only
  cases hf : (extL t).find? (newRow t o) with
  | some w =>
   rw [hf] at h6
   obtain ⟨rfl, _⟩ := h6
   rw [if_pos (Or.inl (by simp))]
   rfl
  | none =>
   rw [hf] at h6
   subst h6
   cases hi : iP t o with
   | some x =>
    obtain ⟨hb, _⟩ := iP_range hv hA hi
    rw [if_pos (Or.inr (by simp))]
    simp only [cond_false, hb]
    rfl
   | none =>
    rw [if_neg (by simp)]
    -- closed: there are no other rows than the prefixes'
    have hspec : ∃ rs rss, rowsO o t.Suffixes t.Prefixes = some rs ∧ extRows o t.Suffixes t.Inputs.toNat t.Prefixes = some rss ∧ v.rows = addAll (addAll [] rs) rss.flatten ∧ v.prefixes = nums v.rows rs ∧ v.next = rss.map (nums v.rows) := by
     rcases h2 with ⟨q1, q2⟩ | ⟨_, q2, _⟩ | ⟨_, _, q⟩
     ·exact absurd hck q1
     ·rw [h3, hz] at q2; cases q2
     ·exact q
    obtain ⟨rs, rss, q1, q2, q3, q4, q5⟩ := hspec
    have hrs : rs = rowsT t o := rowsO_eq q1
    have hrl : rs.length = t.Prefixes.length := (rowsO_all q1).1
    have hE := extRows_all q2
    have hclosed : ∀ x ∈ rss.flatten, x ∈ rs := fun x hx => by
     obtain ⟨l, hl, hx⟩ := List.mem_flatten.1 hx
     obtain ⟨k, hk, rfl⟩ := List.mem_iff_getElem.1 hl
     have hkp := get_at (l := t.Prefixes) (i := k) (by rw [← hE.1]; exact hk)
     obtain ⟨l', hl1, hl2⟩ := hE.2 k _ hkp
     rw [get_at hk] at hl1
     injection hl1 with hl1
     subst hl1
     obtain ⟨j, hj, rfl⟩ := List.mem_iff_getElem.1 hx
     have hL := rowsO_all hl2
     have hj' : j < t.Inputs.toNat := by
      have := hL.1
      simp [exts] at this
      omega
     have hw : (exts t.Inputs.toNat t.Prefixes[k])[j]? = some (t.Prefixes[k] ++ [(↑j : Int)]) := by
      unfold exts
      rw [List.getElem?_map, List.getElem?_range hj']
      rfl
     obtain ⟨r, hr1, hr2⟩ := hL.2 j _ hw
     rw [get_at hj] at hr1
     injection hr1 with hr1
     subst hr1
     have hnr : newRow t o (t.Prefixes[k] ++ [(↑j : Int)]) = false := by
      have := List.find?_eq_none.1 hf (t.Prefixes[k] ++ [(↑j : Int)]) (List.mem_flatMap.2 ⟨_, List.getElem_mem _, List.mem_map.2 ⟨j, List.mem_range.2 hj', rfl⟩⟩)
      simpa using this
     unfold newRow at hnr
     have hnr := Classical.not_not.1 (of_decide_eq_false hnr)
     obtain ⟨p, hp, hp2⟩ := List.mem_map.1 hnr
     rw [hrs]
     refine List.mem_map.2 ⟨p, hp, ?_⟩
     rw [hr2] at hp2
     exact rowG_some hp2
    have hR : v.rows = rowsA t o := by
     rw [q3]
     unfold rowsA
     rw [← hrs]
     have : ∀ (xs R : List Row), (∀ x ∈ xs, x ∈ R) → addAll R xs = R := by
      intro xs
      induction xs with
      | nil => intro R _; rfl
      | cons x xs ih =>
       intro R h
       show addAll (addR R x) xs = R
       have e1 : addR R x = R := by
        unfold addR
        rw [if_pos (h x (by simp))]
       rw [e1]
       exact ih R fun y hy => h y (List.mem_cons_of_mem _ hy)
     exact this _ _ fun x hx => mem_addAll.2 (Or.inr (hclosed x hx))
    have hRl := addAll_len [] rs
    simp only [List.length_nil] at hRl
    have hRlen : v.rows.length ≤ 30 := by
     rw [hR]
     unfold rowsA
     rw [← hrs]
     omega
    simp only [cond_false, obind]
    rw [decide_eq_false (by omega), cond_false]
    have key := iter_eq (step := fun (s : List (List Int) × List (List Int) × List (List Int) × Nat) => table_Hypothesis.s32 t (v, compT t o) s.1 s.2.1 s.2.2.1 s.2.2.2) (r := ((fstI rs t.Prefixes.length).map fun i => nextT t o (preAt t i), (fstI rs t.Prefixes.length).map fun i => outT t o (preAt t i), (fstI rs t.Prefixes.length).map (preAt t)))
     (fun s => s.2.2.2 ≤ t.Prefixes.length ∧ s.1 = (fstI rs s.2.2.2).map (fun i => nextT t o (preAt t i)) ∧ s.2.1 = (fstI rs s.2.2.2).map (fun i => outT t o (preAt t i)) ∧ s.2.2.1 = (fstI rs s.2.2.2).map (preAt t)) (fun s => t.Prefixes.length - s.2.2.2) (fun s ⟨g1, g2, g3, g4⟩ => by
      obtain ⟨N, O, A, k⟩ := s
      simp only at g1 g2 g3 g4
      subst g2 g3 g4
      have hfl := fstI_len rs k
      simp only [table_Hypothesis.s32]
      rw [hV.pl]
      by_cases g5 : k < t.Prefixes.length
      ·left
       have hp := get_at g5
       have hpm := List.getElem_mem g5
       have hpw := ht.pw _ hpm
       obtain ⟨r, r1, r2, r3⟩ := hV.pre k _ hp
       obtain ⟨l, l1, l2, l3⟩ := hV.nxt k _ hp
       have hrk : rs[k]? = some r := by
        rw [hrs]
        unfold rowsT
        rw [List.getElem?_map, hp]
        show some (rowG t o t.Prefixes[k]) = _
        rw [rowG_some r1]
       have hpa : preAt t k = t.Prefixes[k] := by unfold preAt; rw [hp]; rfl
       have hnew : newAt rs k = true ↔ r ∉ rs.take k := by
        unfold newAt
        rw [hrk]
        simp
       have hlenA : ((fstI rs k).map (preAt t)).length = (addAll [] (rs.take k)).length := by
        rw [addAll_fst rs k (by omega), List.length_map, List.length_map]
       have hvr : v.rows = addAll (addAll [] (rs.take k)) (rs.drop k) := by
        rw [hR]
        unfold rowsA
        rw [← hrs, ← addAll_append, List.take_append_drop]
       rw [decide_eq_true (by omega), cond_true, idxn_at r3, hlenA]
       by_cases g6 : newAt rs k = true
       ·have hnotin := hnew.1 g6
        have hnotR : r ∉ addAll [] (rs.take k) := fun h => by
         rcases mem_addAll.1 h with h | h
         ·cases h
         ·exact hnotin h
        have hpos : pos r v.rows = (addAll [] (rs.take k)).length := by
         rw [hvr, List.drop_eq_getElem_cons (by omega)]
         have e1 : rs[k]'(by omega) = r := by
          have := get_at (l := rs) (i := k) (by omega)
          rw [hrk] at this
          injection this with this
          exact this.symm
         rw [e1]
         show pos r (addAll (addR (addAll [] (rs.take k)) r) _) = _
         rw [pos_addAll (mem_addR.2 (Or.inr rfl))]
         unfold addR
         rw [if_neg hnotR, pos_new hnotR]
        rw [hpos, decide_eq_false (by omega), cond_false]
        have outs := iter_eq (step := fun (s : List Int × Nat) => table_Hypothesis.s30 t (v, compT t o) (↑(addAll [] (rs.take k)).length : Int) s.1 s.2) (r := outT t o t.Prefixes[k]) (fun s => s.2 ≤ t.Inputs.toNat ∧ s.1 = (List.range s.2).map fun (a : Nat) => (((rowG t o t.Prefixes[k])[a]?).getD []).headD 0) (fun s => t.Inputs.toNat - s.2) (fun s ⟨m1, m2⟩ => by
         obtain ⟨y, a⟩ := s
         simp only at m1 m2
         subst m2
         simp only [table_Hypothesis.s30]
         by_cases m3 : a < t.Inputs.toNat
         ·left
          obtain ⟨y, z, y1, _, _⟩ := row_out hv r1 (hsat a m3)
          have hget : v.rows[(addAll [] (rs.take k)).length]? = some r := by rw [← hpos]; exact pos_get r2
          refine ⟨((List.range (a + 1)).map fun (a : Nat) => (((rowG t o t.Prefixes[k])[a]?).getD []).headD 0, a + 1), ?_, ⟨m3, rfl⟩, by simp only; omega⟩
          rw [decide_eq_true (by omega), cond_true, idx_at rfl hget, idxn_at y1, idxn_at (x := y) rfl, chk_pos (by rw [List.length_map, List.length_range]; unfold capOk; omega), chk_pos (by unfold inR; omega), List.range_succ, List.map_append]
          simp [rowG_some r1, y1]
         ·right
          have e : a = t.Inputs.toNat := by omega
          subst e
          rw [decide_eq_false (by omega), cond_false]
          rfl) (n := fuel) (s := ([], 0)) ⟨Nat.zero_le _, rfl⟩ (by have := fuel_big; simp only; omega)
        have hln : l = nextT t o t.Prefixes[k] := by
         unfold nextT
         apply List.ext_getElem?
         intro a
         by_cases ha : a < t.Inputs.toNat
         ·obtain ⟨x, x1, x2, x3⟩ := l3 a ha
          rw [x3, List.getElem?_map, List.getElem?_range ha, ← hR]
          show some (↑(pos x v.rows) : Int) = some (↑(pos (rowG t o (t.Prefixes[k] ++ [(↑a : Int)])) v.rows) : Int)
          rw [rowG_some x1]
         ·rw [List.getElem?_eq_none (by omega), List.getElem?_eq_none (by simp; omega)]
        refine ⟨((fstI rs (k + 1)).map (fun i => nextT t o (preAt t i)), (fstI rs (k + 1)).map (fun i => outT t o (preAt t i)), (fstI rs (k + 1)).map (preAt t), k + 1), ?_, ⟨g5, rfl, rfl, rfl⟩, by simp only; omega⟩
        rw [outs, obind, idxn_at l1, libclone_word (by unfold SmW; omega), obind, chk_pos (by rw [List.length_map]; unfold capOk; omega), chk_pos (by rw [List.length_map]; unfold capOk; omega), idxn_at hp, libclone_word (by unfold SmW; omega), obind, chk_pos (by
         have h9 := addAll_len [] (rs.take k)
         rw [List.length_take] at h9
         simp only [List.length_nil] at h9
         unfold capOk
         omega), obind]
        rw [fstI_succ, if_pos g6]
        simp only [List.map_append, List.map_cons, List.map_nil, hpa, ← hln]
        rfl
       ·have hin : r ∈ rs.take k := Classical.byContradiction fun h => g6 (hnew.2 h)
        have hpos : pos r v.rows < (addAll [] (rs.take k)).length := by
         rw [hvr, pos_addAll (mem_addAll.2 (Or.inr hin))]
         exact pos_lt (mem_addAll.2 (Or.inr hin))
        refine ⟨((fstI rs (k + 1)).map (fun i => nextT t o (preAt t i)), (fstI rs (k + 1)).map (fun i => outT t o (preAt t i)), (fstI rs (k + 1)).map (preAt t), k + 1), ?_, ⟨g5, rfl, rfl, rfl⟩, by simp only; omega⟩
        rw [decide_eq_true (by omega), cond_true, obind, fstI_succ, if_neg g6, List.append_nil]
        rfl
      ·right
       have e : k = t.Prefixes.length := by omega
       subst e
       rw [decide_eq_false (by omega), cond_false]) (n := fuel) (s := ([], [], [], 0)) ⟨Nat.zero_le _, rfl, rfl, rfl⟩ (by have := fuel_big; simp only; omega)
    rw [key, obind]
    unfold hypT
    rw [← hrs]
    rfl
 ·rw [decide_eq_true hz, cond_true, if_pos hz]
end Go.Proofs.YtpmebphhbgpapaaGreatDoor.Sym

/-
 The reference's hypothesis, and the law of TableHypothesis. Plain laws.
-/
namespace Go.Proofs.YtpmebphhbgpapaaGreatDoor.Sym
set_option maxRecDepth 100000
theorem rowG_eq {t : T_api_Table} {o : T_api_Obs} {p : List Int} (h : ∃ r, rowO o p t.Suffixes = some r) : rowO o p t.Suffixes = some (rowG t o p) := by
 obtain ⟨r, hr⟩ := h
 rw [hr, rowG_some hr]
end Go.Proofs.YtpmebphhbgpapaaGreatDoor.Sym

/-
 The prefixes reach their rows: plain law of TableReaches.
-/
namespace Go.Proofs.YtpmebphhbgpapaaGreatDoor.Sym
set_option maxRecDepth 100000
structure HypOk (t : T_api_Table) (o : T_api_Obs) : Prop where
 ht : TabOk t
 ho : SmO o
 hv : ObsOk o
 hz : compT t o = 0
 hf : (extL t).find? (newRow t o) = none
 hi : iP t o = none
section
variable {t : T_api_Table} {o : T_api_Obs}
theorem HypOk.all (H : HypOk t o) : AllRows t o := (compT_zero H.hz).2.2
theorem HypOk.row (H : HypOk t o) {p : List Int} (hp : p ∈ t.Prefixes) : rowO o p t.Suffixes = some (rowG t o p) := rowG_eq (H.all p hp p (by simp [withX]))
theorem HypOk.ext (H : HypOk t o) {p : List Int} (hp : p ∈ t.Prefixes) {a : Nat} (ha : a < t.Inputs.toNat) : rowO o (p ++ [(↑a : Int)]) t.Suffixes = some (rowG t o (p ++ [(↑a : Int)])) :=
 rowG_eq (H.all p hp _ (List.mem_cons_of_mem _ (List.mem_map.2 ⟨a, List.mem_range.2 ha, rfl⟩)))
theorem HypOk.closed (H : HypOk t o) {p : List Int} (hp : p ∈ t.Prefixes) {a : Nat} (ha : a < t.Inputs.toNat) : rowG t o (p ++ [(↑a : Int)]) ∈ rowsA t o := by
 have h1 := List.find?_eq_none.1 H.hf (p ++ [(↑a : Int)]) (List.mem_flatMap.2 ⟨p, hp, List.mem_map.2 ⟨a, List.mem_range.2 ha, rfl⟩⟩)
 have h2 : newRow t o (p ++ [(↑a : Int)]) = false := by simpa using h1
 unfold newRow at h2
 obtain ⟨q, hq, h3⟩ := List.mem_map.1 (Classical.not_not.1 (of_decide_eq_false h2))
 rw [H.ext hp ha] at h3
 unfold rowsA
 exact mem_addAll.2 (Or.inr (List.mem_map.2 ⟨q, hq, rowG_some h3⟩))
theorem HypOk.mem (H : HypOk t o) {p : List Int} (hp : p ∈ t.Prefixes) : rowG t o p ∈ rowsA t o := by
 unfold rowsA
 exact mem_addAll.2 (Or.inr (List.mem_map.2 ⟨p, hp, rfl⟩))
theorem dP_none {a : Nat} {x y : Row} (hl : x.length = y.length) (h : dP a x y = none) : x = y := by
 have h1 := scan_none.1 h
 apply List.ext_getElem?
 intro e
 rcases Nat.lt_or_ge e x.length with he | he
 ·have hx := get_at he
  have := h1 e _ hx
  rw [Nat.zero_add] at this
  split at this
  ·rename_i h2
   rw [hx, h2]
  ·cases this
 ·rw [List.getElem?_eq_none he, List.getElem?_eq_none (by omega)]
theorem HypOk.cons (H : HypOk t o) {p q : List Int} (hp : p ∈ t.Prefixes) (hq : q ∈ t.Prefixes) (h : rowG t o p = rowG t o q) {a : Nat} (ha : a < t.Inputs.toNat) : rowG t o (p ++ [(↑a : Int)]) = rowG t o (q ++ [(↑a : Int)]) := by
 have key : ∀ (i k : Nat) p q, i < k → t.Prefixes[i]? = some p → t.Prefixes[k]? = some q → rowG t o p = rowG t o q → rowG t o (p ++ [(↑a : Int)]) = rowG t o (q ++ [(↑a : Int)]) := by
  intro i k p q hik hp hq h
  have hpm := List.mem_of_getElem? hp
  have hqm := List.mem_of_getElem? hq
  have h1 := scan_none.1 H.hi i p hp
  rw [Nat.zero_add] at h1
  have hq2 : (t.Prefixes.drop (i + 1))[k - (i + 1)]? = some q := by
   rw [List.getElem?_drop, show i + 1 + (k - (i + 1)) = k by omega]
   exact hq
  have h2 := scan_none.1 h1 _ q hq2
  rw [if_pos (by rw [H.row hpm, H.row hqm, h])] at h2
  have h3 := scan_none.1 h2 a a (List.getElem?_range ha)
  refine dP_none ?_ h3
  rw [(rowO_sml H.hv (H.ext hpm ha)).1, (rowO_sml H.hv (H.ext hqm ha)).1]
 obtain ⟨i, hi, rfl⟩ := List.mem_iff_getElem.1 hp
 obtain ⟨k, hk, rfl⟩ := List.mem_iff_getElem.1 hq
 rcases Nat.lt_trichotomy i k with hlt | heq | hgt
 ·exact key i k _ _ hlt (get_at hi) (get_at hk) h
 ·subst heq; rfl
 ·exact (key k i _ _ hgt (get_at hk) (get_at hi) h.symm).symm
def stt (t : T_api_Table) (o : T_api_Obs) (w : List Int) : Nat := pos (rowG t o w) (rowsA t o)
theorem rowsA_map : rowsA t o = (fstI (rowsT t o) t.Prefixes.length).map fun i => ((rowsT t o)[i]?).getD [] := by
 have := addAll_fst (rowsT t o) t.Prefixes.length (by simp [rowsT])
 rw [List.take_of_length_le (by simp [rowsT])] at this
 exact this
theorem rep_of {r : Row} (h : r ∈ rowsA t o) : ∃ i, (fstI (rowsT t o) t.Prefixes.length)[pos r (rowsA t o)]? = some i ∧ i < t.Prefixes.length ∧ preAt t i ∈ t.Prefixes ∧ rowG t o (preAt t i) = r := by
 have h1 := pos_get h
 have h2 := @rowsA_map t o
 rw [h2, List.getElem?_map] at h1
 rw [← h2] at h1
 obtain ⟨i, hi, h3⟩ := Option.map_eq_some_iff.1 h1
 have hm := mem_fstI.1 (List.mem_of_getElem? hi)
 have hp := get_at hm.1
 have hpa : preAt t i = t.Prefixes[i] := by unfold preAt; rw [hp]; rfl
 refine ⟨i, hi, hm.1, by rw [hpa]; exact List.getElem_mem _, ?_⟩
 rw [hpa, ← h3]
 unfold rowsT
 rw [List.getElem?_map, hp]
 rfl
theorem HypOk.at (H : HypOk t o) {r : Row} (h : r ∈ rowsA t o) : ∃ q ∈ t.Prefixes, rowG t o q = r ∧ (hypT t o).M.Next[pos r (rowsA t o)]? = some (nextT t o q) ∧ (hypT t o).M.Out[pos r (rowsA t o)]? = some (outT t o q) ∧ (hypT t o).Access[pos r (rowsA t o)]? = some q := by
 obtain ⟨i, hi, _, h2, h3⟩ := rep_of h
 refine ⟨preAt t i, h2, h3, ?_, ?_, ?_⟩
 ·show ((fstI (rowsT t o) t.Prefixes.length).map fun i => nextT t o (preAt t i))[_]? = _
  rw [List.getElem?_map, hi]
  rfl
 ·show ((fstI (rowsT t o) t.Prefixes.length).map fun i => outT t o (preAt t i))[_]? = _
  rw [List.getElem?_map, hi]
  rfl
 ·show ((fstI (rowsT t o) t.Prefixes.length).map (preAt t))[_]? = _
  rw [List.getElem?_map, hi]
  rfl
theorem nextT_at {q : List Int} {a : Nat} (ha : a < t.Inputs.toNat) : (nextT t o q)[a]? = some (↑(stt t o (q ++ [(↑a : Int)])) : Int) := by
 unfold nextT stt
 rw [List.getElem?_map, List.getElem?_range ha]
 rfl
theorem outT_at {q : List Int} {a : Nat} (ha : a < t.Inputs.toNat) : (outT t o q)[a]? = some ((((rowG t o q)[a]?).getD []).headD 0) := by
 unfold outT
 rw [List.getElem?_map, List.getElem?_range ha]
 rfl
theorem HypOk.sym (H : HypOk t o) {p : List Int} (hp : p ∈ t.Prefixes) {k : Nat} {x : Int} (hx : p[k]? = some x) : 0 ≤ x ∧ x < t.Inputs :=
 check_mem ((valid_has (compT_zero H.hz).1).1 p hp) x (List.mem_of_getElem? hx)
theorem HypOk.nil (H : HypOk t o) : t.Prefixes[0]? = some [] := by
 obtain ⟨hval, _, _⟩ := compT_zero H.hz
 obtain ⟨_, _, hA, _, _, _, _, hne⟩ := valid_asc hval
 obtain ⟨_, _, h0, _⟩ := valid_has hval
 have hl : 0 < t.Prefixes.length := List.length_pos_iff.2 hne
 obtain ⟨j, hj, e⟩ := List.mem_iff_getElem.1 h0
 rcases Nat.eq_zero_or_pos j with rfl | hj0
 ·rw [get_at hj, e]
 ·have := cmp_len (hA.get hj0 (get_at hl) (get_at hj))
  rw [e] at this
  have h2 := List.eq_nil_of_length_eq_zero (Nat.le_zero.1 this)
  rw [get_at hl, h2]
theorem HypOk.start (H : HypOk t o) : stt t o [] = 0 := by
 have h0 := H.nil
 unfold stt rowsA
 have hp : rowsT t o = rowG t o [] :: (rowsT t o).drop 1 := by
  unfold rowsT
  cases hP : t.Prefixes with
  | nil => rw [hP] at h0; cases h0
  | cons p ps =>
   rw [hP] at h0
   injection h0 with h0
   subst h0
   rfl
 rw [hp]
 show pos (rowG t o []) (addAll (addR [] (rowG t o [])) _) = 0
 rw [pos_addAll (mem_addR.2 (Or.inr rfl))]
 simp [addR, pos]
theorem HypOk.outs (H : HypOk t o) {p : List Int} (hp : p ∈ t.Prefixes) : ∃ ys, R06_Outs (hypT t o).M 0 p = some (ys, (↑(stt t o p) : Int)) := by
 have hpw := H.ht.pw p hp
 have hval := (compT_zero H.hz).1
 unfold R06_Outs
 have key := iter_post (step := fun (s : Int × List Int × Nat) => R06_Outs.s2 (hypT t o).M p s.1 s.2.1 s.2.2) (fun s => s.2.2 ≤ p.length ∧ s.1 = (↑(stt t o (p.take s.2.2)) : Int) ∧ s.2.1.length = s.2.2) (fun s => p.length - s.2.2) (fun r => r.1 = (↑(stt t o p) : Int)) (fun s ⟨g1, g2, g3⟩ => by
  obtain ⟨st, y, k⟩ := s
  simp only at g1 g2 g3
  subst g2
  simp only [R06_Outs.s2]
  by_cases g4 : k < p.length
  ·left
   have hx := get_at g4
   obtain ⟨hx0, hx1⟩ := H.sym hp hx
   have hpre := pre_closed hval _ p hp k rfl (by omega)
   have hpre1 := pre_closed hval _ p hp (k + 1) rfl (by omega)
   have hxa : p[k] = ((p[k].toNat : Nat) : Int) := by omega
   have han : p[k].toNat < t.Inputs.toNat := by omega
   obtain ⟨q, hq, q1, q2, q3, _⟩ := H.at (H.mem hpre)
   have q2 : (hypT t o).M.Next[stt t o (p.take k)]? = some (nextT t o q) := q2
   have q3 : (hypT t o).M.Out[stt t o (p.take k)]? = some (outT t o q) := q3
   have hcons := H.cons hq hpre q1 han
   have hst : stt t o (q ++ [((p[k].toNat : Nat) : Int)]) = stt t o (p.take (k + 1)) := by
    unfold stt
    rw [hcons, take_step hx, ← hxa]
   refine ⟨((↑(stt t o (p.take (k + 1))) : Int), y ++ [(((rowG t o q)[p[k].toNat]?).getD []).headD 0], k + 1), ?_, ⟨g4, rfl, by simp [g3]⟩, by simp only; omega⟩
   rw [dec_lt hx, cond_true, idx_at rfl q3, idxn_at hx, idx_at hxa (outT_at han), chk_pos (by unfold capOk; omega), idx_at rfl q2, idxn_at hx, idx_at hxa (nextT_at han), hst]
  ·right
   have e : k = p.length := by omega
   subst e
   rw [List.take_length]
   exact ⟨_, by rw [decide_eq_false (by omega), cond_false], rfl⟩) fuel ((0 : Int), [], 0) ⟨Nat.zero_le _, by simp [H.start], rfl⟩ (by have := fuel_big; simp only; omega)
 obtain ⟨⟨st, ys⟩, e, hq⟩ := key
 rw [e, obind]
 simp only at hq
 subst hq
 exact ⟨ys, rfl⟩
theorem HypOk.num (H : HypOk t o) : (rowsA t o).length = (fstI (rowsT t o) t.Prefixes.length).length ∧ 0 < (rowsA t o).length ∧ (rowsA t o).length ≤ 30 := by
 have h1 := @rowsA_map t o
 have h2 := fstI_len (rowsT t o) t.Prefixes.length
 have h3 := H.ht.p
 have h4 : (rowsA t o).length = (fstI (rowsT t o) t.Prefixes.length).length := by rw [h1, List.length_map]
 have h5 : rowG t o [] ∈ rowsA t o := H.mem (List.mem_of_getElem? H.nil)
 have h6 := List.length_pos_of_mem h5
 omega
theorem HypOk.nlen (H : HypOk t o) : (hypT t o).M.Next.length = (rowsA t o).length ∧ (hypT t o).M.Out.length = (rowsA t o).length ∧ (hypT t o).Access.length = (rowsA t o).length := by
 have := H.num.1
 unfold hypT
 simp only [List.length_map]
 omega
theorem HypOk.state (H : HypOk t o) {s : Nat} (hs : s < (rowsA t o).length) : ∃ q ∈ t.Prefixes, stt t o q = s ∧ (hypT t o).M.Next[s]? = some (nextT t o q) ∧ (hypT t o).M.Out[s]? = some (outT t o q) ∧ (hypT t o).Access[s]? = some q := by
 have hm := List.getElem_mem hs
 have hpos : pos (rowsA t o)[s] (rowsA t o) = s := by
  -- the rows are all different
  have hnd : ∀ (rs R : List Row), R.Nodup → (addAll R rs).Nodup := by
   intro rs
   induction rs with
   | nil => intro R h; exact h
   | cons r rs ih =>
    intro R h
    show (addAll (addR R r) rs).Nodup
    refine ih _ ?_
    unfold addR
    split
    ·exact h
    ·rename_i hn
     rw [List.nodup_append]
     exact ⟨h, by simp, fun x hx y hy => by
      rw [List.mem_singleton.1 hy]
      exact fun e => hn (e ▸ hx)⟩
  have hN : (rowsA t o).Nodup := hnd _ _ List.nodup_nil
  have h1 := pos_get hm
  have h2 := pos_lt hm
  have h3 := get_at h2
  rw [h1] at h3
  injection h3 with h3
  rcases Nat.lt_trichotomy (pos (rowsA t o)[s] (rowsA t o)) s with hlt | heq | hgt
  ·exact absurd h3.symm (List.pairwise_iff_getElem.1 hN _ _ h2 hs hlt)
  ·exact heq
  ·exact absurd h3 (List.pairwise_iff_getElem.1 hN _ _ hs h2 hgt)
 obtain ⟨q, hq, q1, q2, q3, q4⟩ := H.at hm
 rw [hpos] at q2 q3 q4
 exact ⟨q, hq, by unfold stt; rw [q1, hpos], q2, q3, q4⟩
theorem HypOk.out_rng (H : HypOk t o) {q : List Int} (hq : q ∈ t.Prefixes) {a : Nat} (ha : a < t.Inputs.toNat) : 0 ≤ ((((rowG t o q)[a]?).getD []).headD 0) ∧ ((((rowG t o q)[a]?).getD []).headD 0) ≤ 1048576 := by
 obtain ⟨hval, _, _⟩ := compT_zero H.hz
 obtain ⟨_, _, _, hAs, hsing, _⟩ := valid_asc hval
 obtain ⟨_, _, _, hsc⟩ := valid_has hval
 obtain ⟨y, z, y1, y2, y3⟩ := row_out H.hv (H.row hq) (singles_at hAs hsc hsing a ha)
 rw [y1]
 show 0 ≤ y ∧ y ≤ 1048576
 have hy : y ∈ z := List.mem_of_mem_drop (by rw [y3]; simp)
 unfold ansO at y2
 split at y2
 ·injection y2 with y2
  subst y2
  cases hy
 ·obtain ⟨tr, htr, rfl⟩ := Option.map_eq_some_iff.1 y2
  exact (H.hv.prop tr (List.mem_of_find?_eq_some htr)).1.2.2 y (List.mem_of_mem_take hy)
theorem HypOk.row_valid (H : HypOk t o) {s : Nat} (hs : s < (rowsA t o).length) : R06_row (hypT t o).M (↑s : Int) = some 0 := by
 have hn := H.ht.n
 have hn1 : 1 ≤ t.Inputs := (valid_asc (compT_zero H.hz).1).1
 obtain ⟨q, hq, _, q2, q3, _⟩ := H.state hs
 have hl1 : (nextT t o q).length = t.Inputs.toNat := by simp [nextT]
 have hl2 : (outT t o q).length = t.Inputs.toNat := by simp [outT]
 have hI : (hypT t o).M.Inputs = t.Inputs := rfl
 have hnum := H.num
 unfold R06_row
 rw [hI, idx_at rfl q2, decide_eq_false (by omega), cond_false, idx_at rfl q3, decide_eq_false (by omega), obind, cond_false]
 have key := iter_eq (step := fun a => R06_row.s2 (hypT t o).M (↑s : Int) a) (r := .inl ()) (fun a => a ≤ t.Inputs.toNat) (fun a => t.Inputs.toNat - a) (fun a g1 => by
  simp only [R06_row.s2]
  rw [hI]
  by_cases g2 : a < t.Inputs.toNat
  ·left
   have hlt : stt t o (q ++ [(↑a : Int)]) < (rowsA t o).length := pos_lt (H.closed hq g2)
   obtain ⟨o1, o2⟩ := H.out_rng hq g2
   refine ⟨a + 1, ?_, by omega, by omega⟩
   rw [decide_eq_true (by omega), cond_true, idx_at rfl q2, idxn_at (nextT_at g2), decide_eq_false (by omega), cond_false, idx_at rfl q2, idxn_at (nextT_at g2), H.nlen.1, decide_eq_false (by omega), cond_false, idx_at rfl q3, idxn_at (outT_at g2), decide_eq_false (by omega), cond_false, idx_at rfl q3, idxn_at (outT_at g2), decide_eq_false (by omega), obind, cond_false, chk_pos (by unfold inR; omega)]
  ·right
   have e : a = t.Inputs.toNat := by omega
   subst e
   rw [decide_eq_false (by omega), cond_false]) (n := fuel) (s := 0) (Nat.zero_le _) (by have := fuel_big; omega)
 rw [key, obind]
 rfl
theorem HypOk.valid6 (H : HypOk t o) : R06_Valid (hypT t o).M = some 0 := by
 have hn := H.ht.n
 have hn1 : 1 ≤ t.Inputs := (valid_asc (compT_zero H.hz).1).1
 have hI : (hypT t o).M.Inputs = t.Inputs := rfl
 have hS : (hypT t o).M.Start = 0 := rfl
 obtain ⟨l1, l2, l3⟩ := H.nlen
 obtain ⟨_, n1, n2⟩ := H.num
 unfold R06_Valid
 rw [hI, hS, l1, l2, decide_eq_false (by omega), cond_false, decide_eq_false (by omega), obind, cond_false, decide_eq_false (by omega), cond_false, decide_eq_false (by omega), cond_false, decide_eq_false (by omega), cond_false, decide_eq_false (by omega), obind, cond_false, decide_eq_false (by omega), cond_false]
 have key := iter_scan (step := fun s => R06_Valid.s2 (hypT t o).M s) (l := (hypT t o).M.Next) (fun _ _ => (none : Option Int)) (fun i x hx => by
  have hi := (List.getElem?_eq_some_iff.1 hx).1
  simp only [R06_Valid.s2]
  rw [dec_lt hx, cond_true, H.row_valid (by omega), obind]
  rfl) (by
  simp only [R06_Valid.s2]
  rw [dec_end]
  rfl) (by omega)
 rw [key, obind, scan_none.2 fun i x _ => rfl]
 rfl
theorem HypOk.valid22 (H : HypOk t o) : R22_Valid (hypT t o) = some 0 := by
 have hn := H.ht.n
 have hI : (hypT t o).M.Inputs = t.Inputs := rfl
 have hS : (hypT t o).M.Start = 0 := rfl
 obtain ⟨l1, l2, l3⟩ := H.nlen
 obtain ⟨_, n1, n2⟩ := H.num
 have hval := (compT_zero H.hz).1
 unfold R22_Valid
 rw [H.valid6, obind, decide_eq_false (by simp), cond_false, l1, l3, decide_eq_false (by omega), cond_false]
 have key := iter_scan (step := fun s => R22_Valid.s2 (hypT t o) s) (l := (hypT t o).Access) (fun _ _ => (none : Option Int)) (fun i x hx => by
  have hi := (List.getElem?_eq_some_iff.1 hx).1
  obtain ⟨q, hq, q1, _, _, q4⟩ := H.state (s := i) (by omega)
  rw [hx] at q4
  injection q4 with q4
  subst q4
  have hqw := H.ht.pw x hq
  obtain ⟨ys, hys⟩ := H.outs hq
  simp only [R22_Valid.s2]
  rw [dec_lt hx, cond_true, idxn_at hx, R01_Check_eq _ _ (by unfold SmW; omega), hI, (valid_has hval).1 x hq, obind, hS, hys]
  simp [q1]) (by
  simp only [R22_Valid.s2]
  rw [dec_end]
  rfl) (by omega)
 obtain ⟨q, hq, q1, _, _, q4⟩ := H.state (s := 0) n1
 have hq0 : (hypT t o).Access[0]? = some [] := by
  have h5 : rowG t o [] ∈ rowsA t o := H.mem (List.mem_of_getElem? H.nil)
  -- the first state's prefix is the first prefix
  have hf0 : (fstI (rowsT t o) t.Prefixes.length)[0]? = some 0 := by
   have hl : 0 < t.Prefixes.length := (List.getElem?_eq_some_iff.1 H.nil).1
   have h1 : newAt (rowsT t o) 0 = true := by
    unfold newAt rowsT
    rw [List.getElem?_map, H.nil]
    simp
   unfold fstI
   obtain ⟨k, hk⟩ : ∃ k, t.Prefixes.length = k + 1 := ⟨t.Prefixes.length - 1, by omega⟩
   rw [hk, List.range_succ_eq_map, List.filter_cons_of_pos h1]
   rfl
  show ((fstI (rowsT t o) t.Prefixes.length).map (preAt t))[0]? = _
  rw [List.getElem?_map, hf0]
  show some (preAt t 0) = _
  unfold preAt
  rw [H.nil]
  rfl
 rw [key, obind, scan_none.2 fun i x _ => rfl]
 simp only [Sum.elim_inl]
 rw [hS, idx_at (n := 0) (i := 0) rfl hq0]
 rfl
end
theorem plain_TableReaches (t : T_api_Table) (o : T_api_Obs) (ht : SmT t) (ho : SmO o) : L23_TableReaches t o = some true := by
 have hl := ho.1
 obtain ⟨ev, hev, hv⟩ := R16_Valid_tot o ho
 unfold L23_TableReaches
 rw [L23_Great_eq _ _ ht.2.1.1 ht.2.2.1.1 (by omega), awake_true, obind]
 cases hg : greatT t o with
 | true => rfl
 | false =>
  simp only [cond_false]
  obtain ⟨hT, _, _⟩ := tabOk_of ht hg
  have hpl := hT.p
  rw [hev, obind, obind]
  by_cases h3 : ev = 0
  ·have hv := hv h3
   rw [decide_eq_false (by simpa using h3), cond_false, table_Hypothesis_eq hT ho hv, obind]
   by_cases hz : compT t o = 0
   ·by_cases hfi : (extL t).find? (newRow t o) ≠ none ∨ iP t o ≠ none
    ·have e : hypR t o = (h0, 10) := by
      unfold hypR
      rw [if_neg (by simpa using hz), if_pos hfi]
     rw [e]
     rfl
    ·have H : HypOk t o := ⟨hT, ho, hv, hz, Classical.byContradiction fun h => hfi (Or.inl h), Classical.byContradiction fun h => hfi (Or.inr h)⟩
     have e : hypR t o = (hypT t o, 0) := by
      unfold hypR
      rw [if_neg (by simpa using hz), if_neg hfi]
     rw [e]
     simp only [ne_eq, not_true_eq_false, decide_false, cond_false]
     rw [H.valid22, obind, decide_eq_false (by simp), cond_false]
     have hS : (hypT t o).M.Start = 0 := rfl
     have hrowT : ∀ p ∈ t.Prefixes, table_Row t o p = some (rowG t o p, true) := fun p hp => by
      rw [table_Row_eq ht ho hv (ht.2.1.2 p hp)]
      unfold rowT
      have hck : chkT t o = 0 := by
       unfold compT at hz
       split at hz
       ·rename_i h1; exact absurd hz h1
       ·rename_i h1; simpa using h1
      rw [if_neg (by simpa using hck), H.row hp]
     have outer := iter_scan (step := fun s => L23_TableReaches.s14 t o (hypT t o, 0) s) (l := t.Prefixes) (fun _ _ => (none : Option Bool)) (fun i p hp => by
      have hpm := List.mem_of_getElem? hp
      obtain ⟨ys, hys⟩ := H.outs hpm
      have inner := iter_scan (step := fun s => L23_TableReaches.s13 t o (hypT t o, 0) (ys, (↑(stt t o p) : Int)) (rowG t o p, true) s) (l := t.Prefixes) (fun _ _ => (none : Option (Nat ⊕ (Unit ⊕ Bool)))) (fun k q hq => by
       have hqm := List.mem_of_getElem? hq
       obtain ⟨zs, hzs⟩ := H.outs hqm
       have hrs := rowO_rsm hv hT (H.row hpm)
       simp only [L23_TableReaches.s13]
       rw [dec_lt hq, cond_true, idxn_at hq, hS, hzs, obind, idxn_at hq, hrowT q hqm, obind]
       simp only [Bool.not_true, cond_false]
       rw [R06_Lists_eq _ _ (by have := hrs.1; omega) (fun x hx => by have := (hrs.2 x hx).1; omega), obind, obind]
       have hiff : (rowG t o p = rowG t o q) ↔ ((↑(stt t o p) : Int) = ↑(stt t o q)) := by
        constructor
        ·intro h
         unfold stt
         rw [h]
        ·intro h
         unfold stt at h
         exact pos_inj (H.mem hpm) (H.mem hqm) (by omega)
       have hbb : (decide (rowG t o p = rowG t o q) == decide ((↑(stt t o p) : Int) = ↑(stt t o q))) = true := by
        rw [beq_iff_eq]
        exact decide_eq_decide.2 hiff
       rw [hbb]
       rfl) (by
       simp only [L23_TableReaches.s13]
       rw [dec_end]
       rfl) (by omega)
      simp only [L23_TableReaches.s14]
      rw [dec_lt hp, cond_true, idxn_at hp, hS, hys, obind, idxn_at hp, hrowT p hpm, obind, inner, obind, scan_none.2 fun i x _ => rfl]
      rfl) (by
      simp only [L23_TableReaches.s14]
      rw [dec_end]
      rfl) (by omega)
     rw [outer, obind, scan_none.2 fun i x _ => rfl]
     rfl
   ·have e : hypR t o = (h0, compT t o) := by
     unfold hypR
     rw [if_pos hz]
    rw [e]
    simp only
    rw [decide_eq_true hz]
    rfl
  ·rw [decide_eq_true h3]
   rfl
end Go.Proofs.YtpmebphhbgpapaaGreatDoor.Sym

/-
 The law of TableReaches, for arguments within the bound.
-/
namespace Go.Proofs.YtpmebphhbgpapaaGreatDoor.Sym
theorem law_L23_TableReaches (x0 : T_api_Table) (x1 : T_api_Obs) (k0 : ok_api_Table x0) (s0 : sz_api_Table x0 ≤ 1048576) (k1 : ok_api_Obs x1) (s1 : sz_api_Obs x1 ≤ 1048576) : L23_TableReaches x0 x1 = some true :=
 plain_TableReaches x0 x1 (smt_of k0 s0) (smo_of s1)
end Go.Proofs.YtpmebphhbgpapaaGreatDoor.Sym
