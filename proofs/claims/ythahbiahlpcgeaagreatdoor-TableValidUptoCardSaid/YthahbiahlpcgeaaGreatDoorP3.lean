/-
  Tables: the program's own checks, the first table, and the law of both.
-/
import Derived.Test.YthahbiahlpcgeaaGreatDoorP2
import Derived.Test.YthahbiahlpcgeaaGreatDoorAwake
namespace Go.Proofs.YthahbiahlpcgeaaGreatDoor.Sym
set_option maxRecDepth 100000

theorem cmp_single {x y : Int} : cmpW [x] [y] = -1 ↔ x < y := by
  simp only [cmpW, lexI, List.length_cons, List.length_nil]
  by_cases h : x < y
  · simp [h]
  · by_cases h2 : y < x <;> simp [h, h2]
theorem cmp_len {x y : List Int} (h : cmpW x y = -1) : x.length ≤ y.length := by
  unfold cmpW at h
  split at h
  · omega
  · split at h
    · cases h
    · omega
theorem check_mem {w : List Int} {n : Int} (h : checkI w n = 0) : ∀ a ∈ w, 0 ≤ a ∧ a < n := by
  unfold checkI at h
  split at h
  · split at h
    · cases h
    · split at h
      · rename_i h3
        intro a ha
        exact of_decide_eq_true (List.all_eq_true.1 h3 a ha)
      · cases h
  · cases h

theorem one_of {w : List Int} (h0 : w.length ≠ 0) (h1 : w.length ≤ 1) : ∃ a, w = [a] := by
  match w, h0, h1 with
  | [a], _, _ => exact ⟨a, rfl⟩

/-- All words of one symbol are there just if so many stand in front. -/
theorem singles_iff {l : List (List Int)} {n : Int} (hA : Asc l) (hc : ∀ w ∈ l, checkI w n = 0 ∧ w.length ≠ 0) (hn : 1 ≤ n) : (∀ a ∈ List.range n.toNat, [(↑a : Int)] ∈ l) ↔ ∃ w, l[n.toNat - 1]? = some w ∧ w.length ≤ 1 := by
  constructor
  · intro h
    have key : ∀ a, a < n.toNat → l[a]? = some [(↑a : Int)] := by
      intro a
      induction a using Nat.strongRecOn with
      | _ a ih =>
        intro ha
        obtain ⟨j, hj, e⟩ := List.mem_iff_getElem.1 (h a (List.mem_range.2 ha))
        have ej : l[j]? = some [(↑a : Int)] := by rw [get_at hj, e]
        rcases Nat.lt_trichotomy j a with hlt | heq | hgt
        · have := ih j hlt (by omega)
          rw [ej] at this
          injection this with this
          injection this with this
          omega
        · rw [← heq, ej]
          rw [heq]
        · have hx := get_at (l := l) (i := a) (by omega)
          have hcmp := hA.get hgt hx ej
          have hxm := List.mem_of_getElem? hx
          obtain ⟨b, hb⟩ := one_of (hc _ hxm).2 (cmp_len hcmp)
          rw [hb] at hcmp hx
          have hlt := cmp_single.1 hcmp
          have hr := check_mem (hc _ hxm).1 b (by rw [hb]; simp)
          have hbb := ih b.toNat (by omega) (by omega)
          rw [show ((b.toNat : Nat) : Int) = b by omega] at hbb
          have := hA.get (show b.toNat < a by omega) hbb hx
          rw [cmpW_refl] at this
          cases this
    exact ⟨_, key (n.toNat - 1) (by omega), by simp⟩
  · rintro ⟨w, hw, hw1⟩
    have one : ∀ i, i < n.toNat → ∃ b : Int, l[i]? = some [b] ∧ 0 ≤ b ∧ b < n := fun i hi => by
      have hlen := (List.getElem?_eq_some_iff.1 hw).1
      have hx := get_at (l := l) (i := i) (by omega)
      have hl1 : (l[i]'(by omega)).length ≤ 1 := by
        rcases Nat.lt_or_ge i (n.toNat - 1) with h | h
        · have := cmp_len (hA.get h hx hw)
          omega
        · have e : i = n.toNat - 1 := by omega
          subst e
          rw [hx] at hw
          injection hw with hw
          rw [hw]
          exact hw1
      have hxm := List.mem_of_getElem? hx
      obtain ⟨b, hb⟩ := one_of (hc _ hxm).2 hl1
      rw [hb] at hx
      exact ⟨b, hx, check_mem (hc _ hxm).1 b (by rw [hb]; simp)⟩
    have lo : ∀ i (b : Int), i < n.toNat → l[i]? = some [b] → (↑i : Int) ≤ b := by
      intro i
      induction i with
      | zero =>
        intro b hi hb
        obtain ⟨b', e, h1, _⟩ := one 0 hi
        rw [hb] at e
        injection e with e
        injection e with e
        omega
      | succ i ih =>
        intro b hi hb
        obtain ⟨b', e, h1, _⟩ := one i (by omega)
        have := ih b' (by omega) e
        have := cmp_single.1 (hA.get (Nat.lt_succ_self i) e hb)
        omega
    have hi' : ∀ d i (b : Int), i + d + 1 = n.toNat → l[i]? = some [b] → b + ↑d < n := by
      intro d
      induction d with
      | zero =>
        intro i b hi hb
        obtain ⟨b', e, _, h2⟩ := one i (by omega)
        rw [hb] at e
        injection e with e
        injection e with e
        omega
      | succ d ih =>
        intro i b hi hb
        obtain ⟨b', e, _, _⟩ := one (i + 1) (by omega)
        have := ih (i + 1) b' (by omega) e
        have := cmp_single.1 (hA.get (Nat.lt_succ_self i) hb e)
        omega
    intro a ha
    have ha := List.mem_range.1 ha
    obtain ⟨b, e, _, _⟩ := one a ha
    have h1 := lo a b ha e
    have h2 := hi' (n.toNat - 1 - a) a b (by omega) e
    have : b = (↑a : Int) := by omega
    subst this
    exact List.mem_of_getElem? e

theorem sufG_none {t : T_api_Table} (h : scan (sufG t) 0 t.Suffixes = none) : Asc t.Suffixes ∧ ∀ w ∈ t.Suffixes, checkI w t.Inputs = 0 ∧ w.length ≠ 0 := by
  have h0 := scan_none.1 h
  have key : ∀ i w, t.Suffixes[i]? = some w → checkI w t.Inputs = 0 ∧ w.length ≠ 0 ∧ prevLt t.Suffixes i w = true := fun i w hw => by
    have := h0 i w hw
    rw [Nat.zero_add] at this
    unfold sufG at this
    split at this
    · cases this
    · rename_i h1
      split at this
      · cases this
      · rename_i h2
        split at this
        · cases this
        · rename_i h3
          refine ⟨by simpa using h1, h2, ?_⟩
          cases hp : prevLt t.Suffixes i w with
          | true => rfl
          | false => exact absurd hp h3
  refine ⟨Asc_of_prev fun i w hw => (key i w hw).2.2, fun w hw => ?_⟩
  obtain ⟨i, hi, rfl⟩ := List.mem_iff_getElem.1 hw
  exact ⟨(key i _ (get_at hi)).1, (key i _ (get_at hi)).2.1⟩

theorem table_Valid_eq (t : T_api_Table) (ht : SmT t) : table_Valid t = some (validT t) := by
  unfold table_Valid validT
  by_cases h1 : t.Inputs < 1
  · simp [h1]
  by_cases h2 : 64 < t.Inputs
  · simp [h1, h2]
  rw [if_neg (by omega), decide_eq_false h1, cond_false, decide_eq_false h2]
  simp only [Option.bind_some, cond_false]
  by_cases h3 : t.Prefixes.length = 0
  · rw [show decide ((↑(List.length t.Prefixes) : Int) = 0) = true from decide_eq_true (by omega), cond_true, if_pos h3]
  rw [show decide ((↑(List.length t.Prefixes) : Int) = 0) = false from decide_eq_false (by omega), cond_false, if_neg h3]
  by_cases h4 : 10000 < t.Prefixes.length
  · rw [show decide (10000 < (↑(List.length t.Prefixes) : Int)) = true from decide_eq_true (by omega), if_pos (Or.inl h4)]
    rfl
  rw [show decide (10000 < (↑(List.length t.Prefixes) : Int)) = false from decide_eq_false (by omega), cond_false]
  by_cases h5 : 10000 < t.Suffixes.length
  · rw [show decide (10000 < (↑(List.length t.Suffixes) : Int)) = true from decide_eq_true (by omega), if_pos (Or.inr (Or.inl h5))]
    rfl
  rw [show decide (10000 < (↑(List.length t.Suffixes) : Int)) = false from decide_eq_false (by omega), cond_false]
  obtain ⟨f1, f2, f3⟩ := prod_fit h4 h5 h1 h2
  rw [chk_pos f1, chk_pos f2, chk_pos f3]
  simp only [Option.bind_some]
  by_cases h6 : 160000 < (↑t.Prefixes.length : Int) * (t.Inputs + 1) * ↑t.Suffixes.length
  · rw [decide_eq_true h6, cond_true, if_pos (Or.inr (Or.inr h6))]
  rw [decide_eq_false h6, cond_false, if_neg (fun h => by rcases h with h | h | h <;> contradiction)]
  obtain ⟨_, hp, hs, hr⟩ := ht
  have hk := iter_fold (step := fun (s : (List (ByteArray × Bool)) × Nat) => table_Valid.s2 t s.1 s.2) (l := t.Prefixes) (fun m _ x => mset ⟨(keyL x).toArray⟩ true m) (fun m => m) (fun _ _ => True) (fun m i x _ hx => by
    have hxm := List.mem_of_getElem? hx
    refine ⟨?_, trivial⟩
    simp only [table_Valid.s2]
    rw [dec_lt hx, cond_true, idxn_at hx, table_key_eq (hp.2 x hxm) (hr x hxm)]
    rfl) (fun m _ => by
    simp only [table_Valid.s2]
    rw [dec_end]
    rfl) (by omega) (a0 := []) trivial
  rw [hk.1, foldi_eq]
  simp only [Option.bind_some]
  have key := iter_scan (step := fun s => table_Valid.s4 t (t.Prefixes.foldl (fun m x => mset ⟨(keyL x).toArray⟩ true m) []) s) (l := t.Prefixes) (preG t fun w => decide (w ∈ t.Prefixes)) (fun i w hw => by
    have hwm := List.mem_of_getElem? hw
    have hws : SmW w := hp.2 w hwm
    have hwl : w.length ≤ 2000000 := hws
    simp only [table_Valid.s4]
    rw [dec_lt hw, cond_true, idxn_at hw, word_Check_eq w _ hws, table_ascends_eq _ hp hw]
    simp only [Option.bind_some, preG]
    by_cases g1 : checkI w t.Inputs = 0
    · rw [show decide (checkI w t.Inputs ≠ 0) = false from decide_eq_false (by simpa using g1), cond_false, if_neg (by simpa using g1)]
      have hc : (cond (decide ((↑i : Int) = 0)) (cond (decide (0 < (↑(List.length w) : Int))) (some true) (some (!prevLt t.Prefixes i w))) (some (!prevLt t.Prefixes i w)) : Option Bool) = some (decide ((i = 0 ∧ 0 < w.length) ∨ prevLt t.Prefixes i w = false)) := by
        by_cases g2 : i = 0
        · rw [show decide ((↑i : Int) = 0) = true from decide_eq_true (by omega), cond_true]
          by_cases g3 : 0 < w.length
          · rw [show decide (0 < (↑(List.length w) : Int)) = true from decide_eq_true (by omega), cond_true, decide_eq_true (Or.inl ⟨g2, g3⟩)]
          · rw [show decide (0 < (↑(List.length w) : Int)) = false from decide_eq_false (by omega), cond_false]
            cases prevLt t.Prefixes i w <;> simp [g3]
        · rw [show decide ((↑i : Int) = 0) = false from decide_eq_false (by omega), cond_false]
          cases prevLt t.Prefixes i w <;> simp [g2]
      rw [hc]
      simp only [Option.bind_some]
      by_cases g2 : (i = 0 ∧ 0 < w.length) ∨ prevLt t.Prefixes i w = false
      · rw [decide_eq_true g2, cond_true, if_pos g2]
      · rw [decide_eq_false g2, cond_false, if_neg g2]
        by_cases g3 : 0 < w.length
        · have hts : SmW (w.take (w.length - 1)) := by
            show (w.take (w.length - 1)).length ≤ 2000000
            rw [List.length_take]
            omega
          rw [show decide (0 < (↑(List.length w) : Int)) = true from decide_eq_true (by omega), cond_true, chk_pos (by omega), show Int.toNat ((↑(List.length w) : Int) - 1) = w.length - 1 by omega, table_key_eq hts (fun a ha => hr w hwm a (List.mem_of_mem_take ha))]
          simp only [Option.bind_some]
          rw [keys_mget]
          by_cases g4 : w.take (w.length - 1) ∈ t.Prefixes <;> simp [g3, g4, mget]
        · rw [show decide (0 < (↑(List.length w) : Int)) = false from decide_eq_false (by omega), cond_false]
          simp [g3]
    · rw [show decide (checkI w t.Inputs ≠ 0) = true from decide_eq_true g1, cond_true, if_pos g1]) (by
    simp only [table_Valid.s4]
    rw [dec_end]
    rfl) (by omega)
  rw [key]
  cases e1 : scan (preG t fun w => decide (w ∈ t.Prefixes)) 0 t.Prefixes with
  | some e => rfl
  | none =>
    show (iter (fun (s : Nat) => table_Valid.s6 t s) fuel 0 : Option (Unit ⊕ Int)).bind _ = _
    have key2 := iter_scan (step := fun s => table_Valid.s6 t s) (l := t.Suffixes) (sufG t) (fun i w hw => by
      have hwm := List.mem_of_getElem? hw
      have hws : SmW w := hs.2 w hwm
      simp only [table_Valid.s6]
      rw [dec_lt hw, cond_true, idxn_at hw, word_Check_eq w _ hws, table_ascends_eq _ hs hw]
      simp only [Option.bind_some, sufG]
      by_cases g1 : checkI w t.Inputs = 0
      · rw [show decide (checkI w t.Inputs ≠ 0) = false from decide_eq_false (by simpa using g1), cond_false, if_neg (by simpa using g1)]
        by_cases g2 : w.length = 0
        · rw [show decide ((↑(List.length w) : Int) = 0) = true from decide_eq_true (by omega), cond_true, if_pos g2]
        · rw [show decide ((↑(List.length w) : Int) = 0) = false from decide_eq_false (by omega), cond_false, if_neg g2]
          cases prevLt t.Suffixes i w <;> rfl
      · rw [show decide (checkI w t.Inputs ≠ 0) = true from decide_eq_true g1, cond_true, if_pos g1]) (by
      simp only [table_Valid.s6]
      rw [dec_end]
      rfl) (by omega)
    rw [key2]
    cases e2 : scan (sufG t) 0 t.Suffixes with
    | some e => rfl
    | none =>
      obtain ⟨hA, hcs⟩ := sufG_none e2
      have hiff := singles_iff hA hcs (show 1 ≤ t.Inputs by omega)
      have l1 := longestL_sm hp
      have l2 := longestL_sm hs
      simp only [Option.bind_some, Sum.elim_inl]
      rw [table_longest_eq _ hp, table_longest_eq _ hs]
      simp only [Option.bind_some]
      rw [chk_pos (show inR ((↑(longestL t.Prefixes) : Int) + ↑(longestL t.Suffixes)) by unfold inR; omega)]
      by_cases g1 : (↑t.Suffixes.length : Int) < t.Inputs
      · have hno : ¬ ∀ a ∈ List.range t.Inputs.toNat, [(↑a : Int)] ∈ t.Suffixes := fun h => by
          obtain ⟨w, hw, _⟩ := hiff.1 h
          have := (List.getElem?_eq_some_iff.1 hw).1
          omega
        rw [decide_eq_true g1, cond_true, if_neg hno]
        rfl
      · have hx := get_at (l := t.Suffixes) (i := t.Inputs.toNat - 1) (by omega)
        rw [decide_eq_false g1, cond_false, chk_pos (by unfold inR; omega), idx_at (i := t.Inputs.toNat - 1) (by omega) hx]
        by_cases g2 : 1 < (t.Suffixes[t.Inputs.toNat - 1]'(by omega)).length
        · have hno : ¬ ∀ a ∈ List.range t.Inputs.toNat, [(↑a : Int)] ∈ t.Suffixes := fun h => by
            obtain ⟨w, hw, hw1⟩ := hiff.1 h
            rw [hx] at hw
            injection hw with hw
            rw [hw] at g2
            omega
          rw [if_neg hno, decide_eq_true (by omega)]
          rfl
        · have hyes : ∀ a ∈ List.range t.Inputs.toNat, [(↑a : Int)] ∈ t.Suffixes := hiff.2 ⟨_, hx, by omega⟩
          rw [if_pos hyes, decide_eq_false (by omega)]
          simp only [Option.bind_some, cond_false]
          by_cases h8 : 1023 < longestL t.Prefixes + longestL t.Suffixes
          · rw [if_pos h8, decide_eq_true (by omega)]
            rfl
          · rw [if_neg h8, decide_eq_false (by omega)]
            rfl

/-- The first table. -/
def singles (n : Nat) : List (List Int) := (List.range n).map fun (a : Nat) => [(↑a : Int)]
def newT (n : Int) : T_api_Table × Int := if n < 1 ∨ 64 < n then (⟨0, [], []⟩, 2) else (⟨n, [[]], singles n.toNat⟩, 0)
theorem singles_step (n : Nat) : singles (n + 1) = singles n ++ [[(↑n : Int)]] := by simp [singles, List.range_succ]
theorem singles_length (n : Nat) : (singles n).length = n := by simp [singles]

theorem R23_Singles_eq (n : Int) (h : 1 ≤ n ∧ n ≤ 64) : R23_Singles n = some (singles n.toNat) := by
  unfold R23_Singles
  rw [iter_eq (r := singles n.toNat) (fun s => s.2 ≤ n.toNat ∧ s.1 = singles s.2) (fun s => n.toNat - s.2) (fun s ⟨h1, h2⟩ => by
    simp only [R23_Singles.s2]
    by_cases h3 : s.2 < n.toNat
    · left
      refine ⟨(singles (s.2 + 1), s.2 + 1), ?_, ⟨by omega, rfl⟩, by simp only; omega⟩
      rw [decide_eq_true (by omega), cond_true, h2, singles_step, chk_pos (by rw [singles_length]; unfold capOk; omega), chk_pos (by unfold inR; omega)]
    · right
      rw [decide_eq_false (by omega), cond_false, h2, show s.2 = n.toNat by omega]) (s := ([], 0)) ⟨Nat.zero_le _, rfl⟩ (by have := fuel_big; simp only; omega)]
  rfl
theorem R23_New_eq (n : Int) : R23_New n = some (newT n) := by
  unfold R23_New newT
  by_cases h1 : n < 1
  · simp [h1]
  · by_cases h2 : 64 < n
    · simp [h1, h2]
    · rw [R23_Singles_eq n (by omega)]
      simp [h1, h2]
theorem table_New_eq (n : Int) : table_New n = some (newT n) := by
  unfold table_New newT
  by_cases h1 : n < 1
  · simp [h1]
  · by_cases h2 : 64 < n
    · simp [h1, h2]
    · rw [iter_eq (r := singles n.toNat) (fun s => s.2 ≤ n.toNat ∧ s.1 = singles s.2) (fun s => n.toNat - s.2) (fun s ⟨h1, h2⟩ => by
        simp only [table_New.s2]
        by_cases h3 : s.2 < n.toNat
        · left
          refine ⟨(singles (s.2 + 1), s.2 + 1), ?_, ⟨by omega, rfl⟩, by simp only; omega⟩
          rw [decide_eq_true (by omega), cond_true, h2, singles_step, chk_pos (by rw [singles_length]; unfold capOk; omega), chk_pos (by unfold inR; omega)]
        · right
          rw [decide_eq_false (by omega), cond_false, h2, show s.2 = n.toNat by omega]) (s := ([], 0)) ⟨Nat.zero_le _, rfl⟩ (by have := fuel_big; simp only; omega)]
      simp [h1, h2]

theorem plain_TableValid (t : T_api_Table) (n : Int) (ht : SmT t) : L23_TableValid t n = some true := by
  unfold L23_TableValid
  rw [table_New_eq, R23_New_eq, table_Valid_eq t ht, R23_Valid_eq t ht, awake_true]
  have hS : R23_Same (newT n).1 (newT n).1 = some true := by
    rw [R23_Same_eq]
    · simp
    · unfold newT
      split
      · exact ⟨by simp, fun x hx => by cases hx⟩
      · exact ⟨by simp, fun x hx => by
          rcases List.mem_singleton.1 hx with rfl
          simp [SmW]⟩
    · unfold newT
      split
      · exact ⟨by simp, fun x hx => by cases hx⟩
      · refine ⟨by rw [singles_length]; omega, fun x hx => ?_⟩
        obtain ⟨a, _, rfl⟩ := List.mem_map.1 hx
        simp [SmW]
  simp only [Option.bind_some]
  rw [hS]
  simp
end Go.Proofs.YthahbiahlpcgeaaGreatDoor.Sym
