/-
  Tables: the first one, and what makes a table valid: the program's answer and the document's are one plain number.
-/
import Derived.Test.YthahbiahlpcgeaaGreatDoorP1
namespace Go.Proofs.YthahbiahlpcgeaaGreatDoor.Sym
set_option maxRecDepth 100000

section
variable {κ ν : Type} [BEq κ]
theorem mget_mset_same {k : κ} {v : ν} (hb : ∀ a b : κ, (a == b) = true ↔ a = b) : ∀ m : List (κ × ν), mget k (mset k v m) = some v
  | [] => by
    unfold mset mget
    rw [(hb k k).2 rfl]
  | p :: m => by
    unfold mset
    cases h : k == p.1 with
    | true =>
      show mget k ((k, v) :: m) = _
      unfold mget
      rw [(hb k k).2 rfl]
    | false =>
      show mget k (p :: mset k v m) = _
      unfold mget
      rw [h]
      exact mget_mset_same hb m
theorem mget_mset_ne {k k' : κ} {v : ν} (hb : ∀ a b : κ, (a == b) = true ↔ a = b) (hne : ¬ k' = k) : ∀ m : List (κ × ν), mget k' (mset k v m) = mget k' m
  | [] => by
    have e : (k' == k) = false := by
      cases e : k' == k with
      | true => exact absurd ((hb _ _).1 e) hne
      | false => rfl
    unfold mset mget
    simp only [e]
    rfl
  | p :: m => by
    unfold mset
    cases h : k == p.1 with
    | true =>
      have e1 : k = p.1 := (hb _ _).1 h
      show mget k' ((k, v) :: m) = mget k' (p :: m)
      have e : (k' == k) = false := by
        cases e : k' == k with
        | true => exact absurd ((hb _ _).1 e) hne
        | false => rfl
      unfold mget
      rw [← e1]
      simp only [e]
    | false =>
      show mget k' (p :: mset k v m) = mget k' (p :: m)
      unfold mget
      rw [mget_mset_ne hb hne m]
end
theorem ba_beq (a b : ByteArray) : (a == b) = true ↔ a = b := by
  cases a
  cases b
  show ByteArray.beq _ _ = true ↔ _
  unfold ByteArray.beq
  simp

/-- A word is before the one that stands at a place. -/
def prevLt (l : List (List Int)) (i : Nat) (w : List Int) : Bool := match i with
  | 0 => true
  | i + 1 => match l[i]? with | some p => decide (cmpW p w < 0) | none => true

theorem Asc_of_prev {l : List (List Int)} (h : ∀ i w, l[i]? = some w → prevLt l i w = true) : Asc l := by
  have one : ∀ i p w, l[i]? = some p → l[i + 1]? = some w → cmpW p w = -1 := fun i p w hp hw => by
    have h1 := h (i + 1) w hw
    unfold prevLt at h1
    simp only [hp] at h1
    have h1 := of_decide_eq_true h1
    have := cmpW_range p w
    omega
  have key : ∀ (d i : Nat) p w, l[i]? = some p → l[i + d + 1]? = some w → cmpW p w = -1 := by
    intro d
    induction d with
    | zero => exact one
    | succ d ih =>
      intro i p w hp hw
      have hj := (List.getElem?_eq_some_iff.1 hw).1
      have hm := get_at (l := l) (i := i + d + 1) (by omega)
      exact cmpW_trans _ _ _ (ih i p _ hp hm) (one _ _ _ hm (by rw [show i + d + 1 + 1 = i + (d + 1) + 1 by omega]; exact hw))
  rw [Asc, List.pairwise_iff_getElem]
  intro i j hi hj hij
  exact key (j - i - 1) i _ _ (get_at hi) (by rw [show i + (j - i - 1) + 1 = j by omega]; exact get_at hj)

theorem table_ascends_eq (l : List (List Int)) (hl : SmL l) {i : Nat} {w : List Int} (h : l[i]? = some w) : table_ascends l (↑i : Int) = some (prevLt l i w) := by
  have hi := (List.getElem?_eq_some_iff.1 h).1
  have hl1 : l.length ≤ 2000000 := hl.1
  unfold table_ascends prevLt
  cases i with
  | zero => rfl
  | succ i =>
    have hp := get_at (show i < l.length by omega)
    rw [show decide ((↑(i + 1) : Int) = 0) = false from decide_eq_false (by omega), cond_false, chk_pos (by unfold inR; omega), idx_at (i := i) (by omega) hp, idx_at rfl h,
      word_Compare_eq _ _ (by have : SmW (l[i]'(by omega)) := hl.2 _ (List.mem_of_getElem? hp); unfold SmW at this; omega)]
    simp only [hp]
    rfl

def preG (t : T_api_Table) (known : List Int → Bool) (i : Nat) (w : List Int) : Option Int :=
  if checkI w t.Inputs ≠ 0 then some (checkI w t.Inputs) else if (i = 0 ∧ 0 < w.length) ∨ prevLt t.Prefixes i w = false then some 10 else if 0 < w.length ∧ known (w.take (w.length - 1)) = false then some 1 else none
def sufG (t : T_api_Table) (i : Nat) (w : List Int) : Option Int :=
  if checkI w t.Inputs ≠ 0 then some (checkI w t.Inputs) else if w.length = 0 then some 19 else if prevLt t.Suffixes i w = false then some 10 else none
/-- The error of a table. -/
def validT (t : T_api_Table) : Int :=
  if t.Inputs < 1 ∨ 64 < t.Inputs then 2 else if t.Prefixes.length = 0 then 19 else if 10000 < t.Prefixes.length ∨ 10000 < t.Suffixes.length ∨ 160000 < (↑t.Prefixes.length : Int) * (t.Inputs + 1) * ↑t.Suffixes.length then 11 else
  match scan (preG t fun w => decide (w ∈ t.Prefixes)) 0 t.Prefixes with
  | some e => e
  | none => match scan (sufG t) 0 t.Suffixes with
    | some e => e
    | none => if ∀ a ∈ List.range t.Inputs.toNat, [(↑a : Int)] ∈ t.Suffixes then (if 1023 < longestL t.Prefixes + longestL t.Suffixes then 3 else 0) else 1

/-- The keys of the prefixes. -/
theorem keys_mget (l : List (List Int)) (w : List Int) : ∀ (m : List (ByteArray × Bool)), ((mget (⟨(keyL w).toArray⟩ : ByteArray) (l.foldl (fun m x => mset ⟨(keyL x).toArray⟩ true m) m)).getD false) = (decide (w ∈ l) || (mget (⟨(keyL w).toArray⟩ : ByteArray) m).getD false) := by
  induction l with
  | nil => intro m; simp
  | cons x l ih =>
    intro m
    rw [List.foldl_cons, ih]
    by_cases h : w = x
    · subst h
      rw [mget_mset_same ba_beq]
      simp
    · have : ¬ ((⟨(keyL w).toArray⟩ : ByteArray) = ⟨(keyL x).toArray⟩) := fun e => h (keyL_inj (by
        injection e with e
        injection e))
      rw [mget_mset_ne ba_beq this]
      simp [h]

theorem longest_fold (l : List (List Int)) : ∀ n : Nat, l.foldl (fun (n : Int) w => max n (↑w.length : Int)) (↑n : Int) = ↑(l.foldl (fun n w => max n w.length) n) := by
  induction l with
  | nil => intro n; rfl
  | cons x l ih =>
    intro n
    rw [List.foldl_cons, List.foldl_cons, show max (↑n : Int) (↑x.length : Int) = ((max n x.length : Nat) : Int) by omega, ih]

theorem table_longest_eq (l : List (List Int)) (hl : SmL l) : table_longest l = some (↑(longestL l) : Int) := by
  unfold table_longest
  have h := iter_fold (step := fun (s : Int × Nat) => table_longest.s2 l s.1 s.2) (l := l) (fun a _ x => max a (↑x.length : Int)) (fun a => a) (fun _ _ => True) (fun a i x _ hx => by
    refine ⟨?_, trivial⟩
    simp only [table_longest.s2]
    rw [dec_lt hx, cond_true, idxn_at hx]) (fun a _ => by
    simp only [table_longest.s2]
    rw [dec_end]
    rfl) (by have := hl.1; omega) (a0 := 0) trivial
  rw [h.1, foldi_eq]
  have := longest_fold l 0
  simp only [Int.natCast_zero] at this
  show some _ = some _
  rw [this]
  rfl
theorem R23_longest_eq (l : List (List Int)) (hl : SmL l) : R23_longest l = some (↑(longestL l) : Int) := by
  unfold R23_longest
  have h := iter_fold (step := fun (s : Int × Nat) => R23_longest.s2 l s.1 s.2) (l := l) (fun a _ x => max a (↑x.length : Int)) (fun a => a) (fun _ _ => True) (fun a i x _ hx => by
    refine ⟨?_, trivial⟩
    simp only [R23_longest.s2]
    rw [dec_lt hx, cond_true, idxn_at hx]) (fun a _ => by
    simp only [R23_longest.s2]
    rw [dec_end]
    rfl) (by have := hl.1; omega) (a0 := 0) trivial
  rw [h.1, foldi_eq]
  have := longest_fold l 0
  simp only [Int.natCast_zero] at this
  show some _ = some _
  rw [this]
  rfl
theorem longestL_sm {l : List (List Int)} (hl : SmL l) : longestL l ≤ 2000000 := (longestL_le l _).2 fun x hx => hl.2 x hx

/-- A table of a size that fits. -/
def SmT (t : T_api_Table) : Prop := inR t.Inputs ∧ SmL t.Prefixes ∧ SmL t.Suffixes ∧ ∀ x ∈ t.Prefixes, ∀ a ∈ x, inR a

theorem table_key_eq {w : List Int} (h : SmW w) (h2 : ∀ a ∈ w, inR a) : table_key w = some ⟨(keyL w).toArray⟩ := by
  unfold table_key
  rw [chk_pos h2, chk_pos (show w.length ≤ 2000000 from h)]

theorem prod_fit {p s : Nat} {n : Int} (hp : ¬ 10000 < p) (hs : ¬ 10000 < s) (hn1 : ¬ n < 1) (hn2 : ¬ 64 < n) : inR (n + 1) ∧ inR ((↑p : Int) * (n + 1)) ∧ inR ((↑p : Int) * (n + 1) * ↑s) := by
  have h1 : 0 ≤ (↑p : Int) * (n + 1) := Int.mul_nonneg (by omega) (by omega)
  have h2 : (↑p : Int) * (n + 1) ≤ 10000 * 65 := Int.mul_le_mul (by omega) (by omega) (by omega) (by omega)
  have h3 : 0 ≤ (↑p : Int) * (n + 1) * ↑s := Int.mul_nonneg h1 (by omega)
  have h4 : (↑p : Int) * (n + 1) * ↑s ≤ 10000 * 65 * 10000 := Int.mul_le_mul h2 (by omega) (by omega) (by omega)
  unfold inR
  omega

theorem R23_prefixes_eq (t : T_api_Table) (ht : SmT t) : R23_prefixes t = some (match scan (preG t fun w => decide (w ∈ t.Prefixes)) 0 t.Prefixes with | some e => e | none => 0) := by
  obtain ⟨_, hp, _, _⟩ := ht
  have hp1 : t.Prefixes.length ≤ 2000000 := hp.1
  unfold R23_prefixes
  have key := iter_scan (step := fun s => R23_prefixes.s2 t s) (l := t.Prefixes) (preG t fun w => decide (w ∈ t.Prefixes)) (fun i w hw => by
    have hwm := List.mem_of_getElem? hw
    have hws : SmW w := hp.2 w hwm
    have hwl : w.length ≤ 2000000 := hws
    simp only [R23_prefixes.s2]
    rw [dec_lt hw, cond_true, idxn_at hw, R01_Check_eq w _ hws]
    simp only [Option.bind_some, preG]
    by_cases h1 : checkI w t.Inputs = 0
    · rw [show decide (checkI w t.Inputs ≠ 0) = false from decide_eq_false (by simpa using h1), cond_false, if_neg (by simpa using h1)]
      have hc : (cond (decide ((↑i : Int) = 0)) (cond (decide (0 < (↑(List.length w) : Int))) (some true) (cond (decide (0 < (↑i : Int))) (idx t.Prefixes ((↑i : Int) - 1) fun e249 => (R01_Compare e249 w).bind fun c250 => some (decide (0 ≤ c250))) (some false))) (cond (decide (0 < (↑i : Int))) (idx t.Prefixes ((↑i : Int) - 1) fun e252 => (R01_Compare e252 w).bind fun c253 => some (decide (0 ≤ c253))) (some false)) : Option Bool) = some (decide ((i = 0 ∧ 0 < w.length) ∨ prevLt t.Prefixes i w = false)) := by
        cases i with
        | zero =>
          by_cases h2 : 0 < w.length
          · simp [h2]
          · simp [h2, prevLt]
        | succ i =>
          have hi := (List.getElem?_eq_some_iff.1 hw).1
          have hpv := get_at (show i < t.Prefixes.length by omega)
          rw [show decide ((↑(i + 1) : Int) = 0) = false from decide_eq_false (by omega), cond_false, show decide (0 < (↑(i + 1) : Int)) = true from decide_eq_true (by omega), cond_true, idx_at (i := i) (by omega) hpv,
            R01_Compare_eq _ _ (hp.2 _ (List.mem_of_getElem? hpv))]
          simp only [prevLt, hpv, Option.bind_some]
          congr 1
          by_cases h2 : cmpW (t.Prefixes[i]'(by omega)) w < 0
          · rw [decide_eq_true h2, decide_eq_false (by omega)]
            simp
          · rw [decide_eq_false h2, decide_eq_true (by omega)]
            simp
      rw [hc]
      simp only [Option.bind_some]
      by_cases h2 : (i = 0 ∧ 0 < w.length) ∨ prevLt t.Prefixes i w = false
      · rw [decide_eq_true h2, cond_true, if_pos h2]
      · rw [decide_eq_false h2, cond_false, if_neg h2]
        by_cases h3 : 0 < w.length
        · rw [show decide (0 < (↑(List.length w) : Int)) = true from decide_eq_true (by omega), cond_true, chk_pos (by omega), R02_Has_eq _ _ hp, show Int.toNat ((↑(List.length w) : Int) - 1) = w.length - 1 by omega]
          by_cases h4 : w.take (w.length - 1) ∈ t.Prefixes <;> simp [h3, h4]
        · rw [show decide (0 < (↑(List.length w) : Int)) = false from decide_eq_false (by omega), cond_false]
          simp [h3]
    · rw [show decide (checkI w t.Inputs ≠ 0) = true from decide_eq_true h1, cond_true, if_pos h1]) (by
    simp only [R23_prefixes.s2]
    rw [dec_end]
    rfl) (by omega)
  rw [key]
  cases scan (preG t fun w => decide (w ∈ t.Prefixes)) 0 t.Prefixes <;> rfl

theorem R23_suffixes_eq (t : T_api_Table) (ht : SmT t) (hn : 1 ≤ t.Inputs ∧ t.Inputs ≤ 64) : R23_suffixes t = some (match scan (sufG t) 0 t.Suffixes with | some e => e | none => if ∀ a ∈ List.range t.Inputs.toNat, [(↑a : Int)] ∈ t.Suffixes then 0 else 1) := by
  obtain ⟨_, _, hp, _⟩ := ht
  have hp1 : t.Suffixes.length ≤ 2000000 := hp.1
  unfold R23_suffixes
  have key := iter_scan (step := fun s => R23_suffixes.s2 t s) (l := t.Suffixes) (sufG t) (fun i w hw => by
    have hwm := List.mem_of_getElem? hw
    have hws : SmW w := hp.2 w hwm
    simp only [R23_suffixes.s2]
    rw [dec_lt hw, cond_true, idxn_at hw, R01_Check_eq w _ hws]
    simp only [Option.bind_some, sufG]
    by_cases h1 : checkI w t.Inputs = 0
    · rw [show decide (checkI w t.Inputs ≠ 0) = false from decide_eq_false (by simpa using h1), cond_false, if_neg (by simpa using h1)]
      by_cases h2 : w.length = 0
      · rw [show decide ((↑(List.length w) : Int) = 0) = true from decide_eq_true (by omega), cond_true, if_pos h2]
      · rw [show decide ((↑(List.length w) : Int) = 0) = false from decide_eq_false (by omega), cond_false, if_neg h2]
        cases i with
        | zero => simp [prevLt]
        | succ i =>
          have hi := (List.getElem?_eq_some_iff.1 hw).1
          have hpv := get_at (show i < t.Suffixes.length by omega)
          rw [show decide (0 < (↑(i + 1) : Int)) = true from decide_eq_true (by omega), cond_true, idx_at (i := i) (by omega) hpv, R01_Compare_eq _ _ (hp.2 _ (List.mem_of_getElem? hpv))]
          simp only [prevLt, hpv, Option.bind_some]
          by_cases h3 : cmpW (t.Suffixes[i]'(by omega)) w < 0
          · rw [decide_eq_false (show ¬ 0 ≤ cmpW (t.Suffixes[i]'(by omega)) w by omega), decide_eq_true h3]
            rfl
          · rw [decide_eq_true (show 0 ≤ cmpW (t.Suffixes[i]'(by omega)) w by omega), decide_eq_false h3]
            rfl
    · rw [show decide (checkI w t.Inputs ≠ 0) = true from decide_eq_true h1, cond_true, if_pos h1]) (by
    simp only [R23_suffixes.s2]
    rw [dec_end]
    rfl) (by omega)
  rw [key]
  cases scan (sufG t) 0 t.Suffixes with
  | some e => rfl
  | none =>
    show (iter (fun (s : Nat) => R23_suffixes.s4 t s) fuel 0 : Option (Unit ⊕ Int)).bind (Sum.elim (fun (_ : Unit) => some 0) some) = _
    have key2 := iter_scan (step := fun s => R23_suffixes.s4 t s) (l := List.range t.Inputs.toNat) (fun _ (a : Nat) => if decide ([(↑a : Int)] ∈ t.Suffixes) = true then none else some (1 : Int)) (fun i a ha => by
      have hi : i < t.Inputs.toNat := by
        have := (List.getElem?_eq_some_iff.1 ha).1
        simpa using this
      rw [List.getElem?_range hi] at ha
      injection ha with ha
      subst ha
      simp only [R23_suffixes.s4]
      rw [show decide ((↑i : Int) < t.Inputs) = true from decide_eq_true (by omega), cond_true, R02_Has_eq _ _ hp, chk_pos (by unfold inR; omega)]
      by_cases h : [(↑i : Int)] ∈ t.Suffixes <;> simp [h]) (by
      simp only [R23_suffixes.s4]
      rw [List.length_range, show decide ((↑t.Inputs.toNat : Int) < t.Inputs) = false from decide_eq_false (by omega)]
      rfl) (by simp; omega)
    rw [key2, scan_all (p := fun (a : Nat) => decide ([(↑a : Int)] ∈ t.Suffixes))]
    by_cases h : ∀ a ∈ List.range t.Inputs.toNat, [(↑a : Int)] ∈ t.Suffixes
    · rw [if_pos h, if_pos (List.all_eq_true.2 fun a ha => decide_eq_true (h a ha))]
      rfl
    · rw [if_neg h, if_neg (fun h2 => h fun a ha => of_decide_eq_true (List.all_eq_true.1 h2 a ha))]
      rfl

theorem R23_Valid_eq (t : T_api_Table) (ht : SmT t) : R23_Valid t = some (validT t) := by
  unfold R23_Valid validT
  by_cases h1 : t.Inputs < 1
  · simp [h1]
  by_cases h2 : 64 < t.Inputs
  · simp [h1, h2]
  rw [if_neg (by omega), decide_eq_false h1, cond_false, decide_eq_false h2]
  simp only [Option.bind_some, cond_false]
  by_cases h3 : t.Prefixes.length = 0
  · rw [show decide ((↑(List.length t.Prefixes) : Int) = 0) = true from decide_eq_true (by omega), cond_true, if_pos h3]
  rw [show decide ((↑(List.length t.Prefixes) : Int) = 0) = false from decide_eq_false (by omega), cond_false, if_neg h3]
  by_cases h4 : 10000 < t.Prefixes.length
  · rw [show decide (10000 < (↑(List.length t.Prefixes) : Int)) = true from decide_eq_true (by omega), if_pos (Or.inl h4)]
    rfl
  rw [show decide (10000 < (↑(List.length t.Prefixes) : Int)) = false from decide_eq_false (by omega), cond_false]
  by_cases h5 : 10000 < t.Suffixes.length
  · rw [show decide (10000 < (↑(List.length t.Suffixes) : Int)) = true from decide_eq_true (by omega), if_pos (Or.inr (Or.inl h5))]
    rfl
  rw [show decide (10000 < (↑(List.length t.Suffixes) : Int)) = false from decide_eq_false (by omega)]
  obtain ⟨f1, f2, f3⟩ := prod_fit h4 h5 h1 h2
  simp only [Option.bind_some, cond_false]
  rw [chk_pos f1, chk_pos f2, chk_pos f3]
  by_cases h6 : 160000 < (↑t.Prefixes.length : Int) * (t.Inputs + 1) * ↑t.Suffixes.length
  · rw [decide_eq_true h6, cond_true, if_pos (Or.inr (Or.inr h6))]
  rw [decide_eq_false h6, cond_false, if_neg (fun h => by rcases h with h | h | h <;> contradiction), R23_prefixes_eq t ht, R23_suffixes_eq t ht (by omega)]
  have hcheck : ∀ {w : List Int}, checkI w t.Inputs ≠ 0 → checkI w t.Inputs ≠ 0 := fun h => h
  cases e1 : scan (preG t fun w => decide (w ∈ t.Prefixes)) 0 t.Prefixes with
  | some e =>
    have hne : e ≠ 0 := by
      have key : ∀ (l : List (List Int)) (j : Nat), scan (preG t fun w => decide (w ∈ t.Prefixes)) j l = some e → e ≠ 0 := by
        intro l
        induction l with
        | nil => intro j h; cases h
        | cons x l ih =>
          intro j h
          unfold scan at h
          split at h
          · rename_i r' h3
            injection h with h
            subst h
            unfold preG at h3
            repeat' split at h3
            all_goals first | (injection h3 with h3; subst h3; first | assumption | decide) | cases h3
          · exact ih _ h
      exact key _ 0 e1
    simp [hne]
  | none =>
    simp only [Option.bind_some]
    rw [show decide ((0 : Int) ≠ 0) = false from rfl, cond_false]
    cases e2 : scan (sufG t) 0 t.Suffixes with
    | some e =>
      have hne : e ≠ 0 := by
        have key : ∀ (l : List (List Int)) (j : Nat), scan (sufG t) j l = some e → e ≠ 0 := by
          intro l
          induction l with
          | nil => intro j h; cases h
          | cons x l ih =>
            intro j h
            unfold scan at h
            split at h
            · rename_i r' h3
              injection h with h
              subst h
              unfold sufG at h3
              repeat' split at h3
              all_goals first | (injection h3 with h3; subst h3; first | assumption | decide) | cases h3
            · exact ih _ h
        exact key _ 0 e2
      simp [hne]
    | none =>
      have l1 := longestL_sm ht.2.1
      have l2 := longestL_sm ht.2.2.1
      by_cases h7 : ∀ a ∈ List.range t.Inputs.toNat, [(↑a : Int)] ∈ t.Suffixes
      · rw [if_pos h7, if_pos h7]
        simp only [Option.bind_some]
        rw [show decide ((0 : Int) ≠ 0) = false from rfl, cond_false, R23_longest_eq _ ht.2.1, R23_longest_eq _ ht.2.2.1]
        simp only [Option.bind_some]
        rw [chk_pos (by unfold inR; omega)]
        by_cases h8 : 1023 < longestL t.Prefixes + longestL t.Suffixes
        · rw [if_pos h8, decide_eq_true (by omega)]
          rfl
        · rw [if_neg h8, decide_eq_false (by omega)]
          rfl
      · rw [if_neg h7, if_neg h7]
        rfl
end Go.Proofs.YthahbiahlpcgeaaGreatDoor.Sym
