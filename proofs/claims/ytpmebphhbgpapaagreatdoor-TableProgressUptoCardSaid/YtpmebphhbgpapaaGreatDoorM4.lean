/-
  What the basic functions on words come to: plain laws.
-/
import Derived.Test.YtpmebphhbgpapaaGreatDoorM3
namespace Go.Proofs.YtpmebphhbgpapaaGreatDoor.Sym
set_option maxRecDepth 100000

section
variable {α β R : Type}
theorem get_at {l : List α} {i : Nat} (h : i < l.length) : l[i]? = some l[i] := List.getElem?_eq_getElem h

/-- Two lists of one length compared element by element. -/
theorem iter_all2 [DecidableEq α] {a b : List α} {step : Nat → Option (Nat ⊕ (Unit ⊕ Bool))} (hlen : a.length = b.length) (h1 : ∀ i x y, a[i]? = some x → b[i]? = some y → step i = some (if x = y then .inl (i + 1) else .inr (.inr false)))
    (h2 : step a.length = some (.inr (.inl ()))) (hl : a.length ≤ 100000000000000) : (iter step fuel 0).bind (Sum.elim (fun _ => some true) some) = some (decide (a = b)) := by
  rw [iter_scan (l := a) (fun i x => if b[i]? = some x then none else some false) (fun i x hx => ?_) h2 hl]
  · cases e : scan (fun i x => if b[i]? = some x then none else some false) 0 a with
    | none =>
      have := scan_none.1 e
      have hab : a = b := by
        apply List.ext_getElem?
        intro i
        rcases Nat.lt_or_ge i a.length with h | h
        · have h3 := this i _ (get_at h)
          rw [Nat.zero_add] at h3
          split at h3
          · rename_i h4
            rw [get_at h, h4]
          · cases h3
        · rw [List.getElem?_eq_none h, List.getElem?_eq_none (by omega)]
      simp [hab]
    | some r =>
      have hne : a ≠ b := fun hab => by
        subst hab
        have : scan (fun i x => if a[i]? = some x then none else some false) 0 a = none := scan_none.2 fun i x hx => by rw [Nat.zero_add, if_pos hx]
        rw [this] at e
        cases e
      have hr : r = false := by
        have key : ∀ (l : List α) (j : Nat), scan (fun i x => if b[i]? = some x then none else some false) j l = some r → r = false := by
          intro l
          induction l with
          | nil => intro j h; cases h
          | cons x l ih =>
            intro j h
            unfold scan at h
            split at h
            · rename_i r' h3
              injection h with h
              subst h
              split at h3
              · cases h3
              · injection h3 with h3
                exact h3.symm
            · exact ih _ h
        exact key a 0 e
      subst hr
      simp [hne]
  · have hi := (List.getElem?_eq_some_iff.1 hx).1
    have hy := get_at (l := b) (i := i) (by omega)
    rw [h1 i x _ hx hy]
    by_cases h : x = b[i]'(by omega)
    · rw [if_pos h, hy, if_pos (by rw [h])]
    · rw [if_neg h, hy, if_neg (fun h3 => h (by injection h3 with h3; exact h3.symm))]
end

/-- Words of a size that fits. -/
def SmW (x : List Int) : Prop := x.length ≤ 2000000
def SmL (l : List (List Int)) : Prop := l.length ≤ 2000000 ∧ ∀ x ∈ l, SmW x

/-- Checks of words. -/
theorem R01_Size_eq (n : Int) : R01_Size n = some (decide (1 ≤ n ∧ n ≤ 1024)) := by
  unfold R01_Size
  by_cases h1 : 1 ≤ n <;> by_cases h2 : n ≤ 1024 <;> simp [h1, h2]
theorem word_permitted_eq (n : Int) : word_permitted n = some (decide (1 ≤ n ∧ n ≤ 1024)) := by
  unfold word_permitted
  by_cases h1 : 1 ≤ n <;> by_cases h2 : n ≤ 1024 <;> simp [h1, h2]

theorem scan_all {α R : Type} {p : α → Bool} {r : R} : ∀ (l : List α) (j : Nat), scan (fun _ x => if p x = true then none else some r) j l = if l.all p = true then none else some r
  | [], _ => rfl
  | x :: l, j => by
    unfold scan
    by_cases h : p x = true
    · simp only [h, if_true, List.all_cons, Bool.true_and]
      exact scan_all l (j + 1)
    · simp [h]

theorem R01_Check_eq (w : List Int) (n : Int) (hl : SmW w) : R01_Check w n = some (checkI w n) := by
  unfold R01_Check checkI
  rw [R01_Size_eq]
  by_cases h1 : 1 ≤ n ∧ n ≤ 1024
  · rw [if_pos h1]
    simp only [Option.bind_some, h1, and_self, decide_true, Bool.not_true, cond_false]
    by_cases h2 : 1024 < w.length
    · rw [if_pos h2, show decide ((1024 : Int) < (↑(List.length w) : Int)) = true from decide_eq_true (by omega), cond_true]
    · rw [if_neg h2, show decide ((1024 : Int) < (↑(List.length w) : Int)) = false from decide_eq_false (by omega), cond_false]
      have key := iter_scan (step := fun s => R01_Check.s2 w n s) (l := w) (fun _ x => if decide (0 ≤ x ∧ x < n) = true then none else some (1 : Int)) (fun i x hx => by
        simp only [R01_Check.s2]
        rw [dec_lt hx, cond_true, idxn_at hx, idxn_at hx]
        by_cases a1 : x < 0
        · simp [a1, show ¬ (0 ≤ x) by omega]
        · by_cases a2 : n ≤ x
          · simp [a1, a2, show ¬ (x < n) by omega]
          · simp [a1, a2, show 0 ≤ x by omega, show x < n by omega]) (by
        simp only [R01_Check.s2]
        rw [dec_end]
        rfl) (by unfold SmW at hl; omega)
      rw [key, scan_all (p := fun x => decide (0 ≤ x ∧ x < n))]
      by_cases h : (w.all fun x => decide (0 ≤ x ∧ x < n)) = true
      · rw [if_pos h, if_pos h]; rfl
      · rw [if_neg h, if_neg h]; rfl
  · rw [if_neg h1]
    simp [h1]

theorem word_Check_eq (w : List Int) (n : Int) (hl : SmW w) : word_Check w n = some (checkI w n) := by
  unfold word_Check checkI slices_ContainsFunc_Sint_int_n1 slices_IndexFunc_Sint_int_n1
  rw [word_permitted_eq]
  by_cases h1 : 1 ≤ n ∧ n ≤ 1024
  · rw [if_pos h1]
    simp only [Option.bind_some, h1, and_self, decide_true, Bool.not_true, cond_false]
    by_cases h2 : 1024 < w.length
    · rw [if_pos h2, show decide ((1024 : Int) < (↑(List.length w) : Int)) = true from decide_eq_true (by omega), cond_true]
    · rw [if_neg h2, show decide ((1024 : Int) < (↑(List.length w) : Int)) = false from decide_eq_false (by omega), cond_false]
      have key := iter_scan (step := fun s => slices_IndexFunc_Sint_int_n1.s2 w (fun u0 => word_Check_1 u0 n) s) (l := w) (fun i x => if decide (0 ≤ x ∧ x < n) = true then none else some (i : Int)) (fun i x hx => by
        simp only [slices_IndexFunc_Sint_int_n1.s2, word_Check_1]
        rw [dec_lt hx, cond_true, idxn_at hx]
        by_cases a1 : x < 0
        · simp [a1, show ¬ (0 ≤ x) by omega]
        · by_cases a2 : n ≤ x
          · simp [a1, a2, show ¬ (x < n) by omega]
          · simp [a1, a2, show 0 ≤ x by omega, show x < n by omega]) (by
        simp only [slices_IndexFunc_Sint_int_n1.s2]
        rw [dec_end]
        rfl) (by unfold SmW at hl; omega)
      rw [key]
      cases e : scan (fun i x => if decide (0 ≤ x ∧ x < n) = true then none else some (i : Int)) 0 w with
      | none =>
        have h3 := scan_none.1 e
        have h : (w.all fun x => decide (0 ≤ x ∧ x < n)) = true := List.all_eq_true.2 fun x hx => by
          obtain ⟨i, hi, rfl⟩ := List.mem_iff_getElem.1 hx
          have := h3 i _ (get_at hi)
          split at this
          · assumption
          · cases this
        rw [if_pos h]
        simp
      | some r =>
        have h : ¬ (w.all fun x => decide (0 ≤ x ∧ x < n)) = true := fun h => by
          have : scan (fun i x => if decide (0 ≤ x ∧ x < n) = true then none else some (i : Int)) 0 w = none := scan_none.2 fun i x hx => if_pos (List.all_eq_true.1 h x (List.mem_of_getElem? hx))
          rw [this] at e
          cases e
        have hr : 0 ≤ r := by
          have key : ∀ (l : List Int) (j : Nat), scan (fun i x => if decide (0 ≤ x ∧ x < n) = true then none else some (i : Int)) j l = some r → 0 ≤ r := by
            intro l
            induction l with
            | nil => intro j h; cases h
            | cons x l ih =>
              intro j h
              unfold scan at h
              split at h
              · rename_i r' h3
                injection h with h
                subst h
                split at h3
                · cases h3
                · injection h3 with h3
                  omega
              · exact ih _ h
          exact key w 0 e
        rw [if_neg h]
        simp [hr]
  · rw [if_neg h1]
    simp [h1]

/-- Common prefixes, orders. -/
theorem R01_Common_eq (a b : List Int) (ha : SmW a) : R01_Common a b = some (common a b : Int) := by
  unfold R01_Common
  rw [iter_eq (r := common a b) (fun k => k ≤ a.length ∧ common a b = common (a.drop k) (b.drop k) + k) (fun k => a.length - k) (fun k ⟨h1, h2⟩ => ?_) ⟨Nat.zero_le _, by simp⟩ (by have := fuel_big; unfold SmW at ha; omega)]
  · rfl
  · simp only [R01_Common.s2]
    rcases Nat.lt_or_ge k a.length with h | h
    · have hx := get_at h
      rcases Nat.lt_or_ge k b.length with h' | h'
      · have hy := get_at h'
        rw [dec_lt hx, dec_lt hy, cond_true, cond_true, idxn_at hx, idxn_at hy]
        rw [List.drop_eq_getElem_cons h, List.drop_eq_getElem_cons h'] at h2
        by_cases e : a[k] = b[k]
        · left
          unfold SmW at ha
          refine ⟨k + 1, ?_, ⟨h, ?_⟩, by omega⟩
          · rw [chk_pos (by unfold inR; omega)]
            simp [e]
          · rw [h2, e]
            simp [common]
            omega
        · right
          simp only [common, e, if_false, Nat.zero_add] at h2
          simp [e, h2]
      · right
        rw [dec_lt hx, cond_true, show decide ((↑k : Int) < (↑(List.length b) : Int)) = false by simp; omega]
        rw [common_end (Or.inr h'), Nat.zero_add] at h2
        simp [h2]
    · right
      rw [show decide ((↑k : Int) < (↑(List.length a) : Int)) = false by simp; omega]
      rw [common_end (Or.inl h), Nat.zero_add] at h2
      simp [h2]

theorem R01_Same_eq (a b : List Int) (ha : SmW a) : R01_Same a b = some (decide (a = b)) := by
  unfold R01_Same
  rw [R01_Common_eq a b ha]
  have h := same_iff a b
  by_cases h1 : a.length = b.length
  · rw [show decide ((↑(List.length a) : Int) = (↑(List.length b) : Int)) = true from decide_eq_true (by omega), cond_true]
    by_cases h2 : common a b = a.length
    · have : a = b := h.1 ⟨h1, h2⟩
      subst this
      simp [common_self]
    · have : a ≠ b := fun e => h2 (h.2 e).2
      simp only [Option.bind_some, this, decide_false]
      rw [decide_eq_false (by omega)]
  · have : a ≠ b := fun e => h1 (by rw [e])
    rw [show decide ((↑(List.length a) : Int) = (↑(List.length b) : Int)) = false from decide_eq_false (by omega), cond_false]
    simp [this]

theorem R01_Lex_eq (a b : List Int) (ha : SmW a) : R01_Lex a b = some (lexI a b) := by
  unfold R01_Lex
  rw [R01_Common_eq a b ha]
  have hle := common_le a b
  have hlc := lexI_common a b
  rw [hlc]
  simp only [Option.bind_some]
  by_cases h1 : common a b = a.length
  · rw [show decide ((↑(common a b) : Int) = ↑a.length) = true from decide_eq_true (by omega), cond_true, cond_true]
    by_cases h2 : common a b = b.length
    · rw [show decide ((↑(common a b) : Int) = ↑b.length) = true from decide_eq_true (by omega), if_pos ⟨h1, h2⟩]
      rfl
    · rw [show decide ((↑(common a b) : Int) = ↑b.length) = false from decide_eq_false (by omega), if_neg (fun h => h2 h.2), if_pos (Or.inl h1)]
      rfl
  · rw [show decide ((↑(common a b) : Int) = ↑a.length) = false from decide_eq_false (by omega), cond_false, cond_false, if_neg (fun h => h1 h.1)]
    by_cases h2 : common a b = b.length
    · rw [show decide ((↑(common a b) : Int) < (↑(List.length b) : Int)) = false from decide_eq_false (by omega), if_neg (fun h => by omega)]
      rfl
    · have hx := get_at (l := a) (i := common a b) (by omega)
      have hy := get_at (l := b) (i := common a b) (by omega)
      rw [show decide ((↑(common a b) : Int) < (↑(List.length b) : Int)) = true from decide_eq_true (by omega), cond_true, idx_at rfl hx, idx_at rfl hy]
      rw [List.getD_eq_getElem?_getD, List.getD_eq_getElem?_getD, hx, hy]
      by_cases h3 : a[common a b]'(by omega) < b[common a b]'(by omega)
      · rw [if_pos (Or.inr ⟨by omega, h3⟩)]
        simp [h3]
      · rw [if_neg (fun h => by
          rcases h with h | ⟨_, h⟩
          · omega
          · exact h3 h)]
        simp [h3]

theorem R01_Compare_eq (a b : List Int) (ha : SmW a) : R01_Compare a b = some (cmpW a b) := by
  unfold R01_Compare cmpW
  rw [R01_Lex_eq a b ha]
  by_cases h1 : a.length < b.length
  · rw [show decide ((↑(List.length a) : Int) < (↑(List.length b) : Int)) = true from decide_eq_true (by omega), if_pos h1]
    rfl
  · rw [show decide ((↑(List.length a) : Int) < (↑(List.length b) : Int)) = false from decide_eq_false (by omega), if_neg h1, cond_false]
    by_cases h2 : b.length < a.length
    · rw [show decide ((↑(List.length b) : Int) < (↑(List.length a) : Int)) = true from decide_eq_true (by omega), if_pos h2]
      rfl
    · rw [show decide ((↑(List.length b) : Int) < (↑(List.length a) : Int)) = false from decide_eq_false (by omega), if_neg h2]
      rfl

theorem R02_Has_eq (l : List (List Int)) (w : List Int) (hl : SmL l) : R02_Has l w = some (decide (w ∈ l)) := by
  unfold R02_Has
  have key := iter_scan (step := fun s => R02_Has.s2 l w s) (l := l) (fun _ x => if decide (x ≠ w) = true then none else some true) (fun i x hx => by
    simp only [R02_Has.s2]
    rw [dec_lt hx, cond_true, idxn_at hx, R01_Same_eq x w (hl.2 x (List.mem_of_getElem? hx))]
    by_cases h : x = w <;> simp [h]) (by
    simp only [R02_Has.s2]
    rw [dec_end]
    rfl) (by have := hl.1; omega)
  rw [key, scan_all (p := fun x => decide (x ≠ w))]
  by_cases h : w ∈ l
  · have : ¬ (l.all fun x => decide (x ≠ w)) = true := fun h2 => by
      have := List.all_eq_true.1 h2 w h
      simp at this
    rw [if_neg this]
    simp [h]
  · have : (l.all fun x => decide (x ≠ w)) = true := List.all_eq_true.2 fun x hx => by
      have : x ≠ w := fun e => h (e ▸ hx)
      simpa using this
    rw [if_pos this]
    simp [h]
end Go.Proofs.YtpmebphhbgpapaaGreatDoor.Sym

/-
  Tables: the first one, and what makes a table valid: the program's answer and the document's are one plain number.
-/
namespace Go.Proofs.YtpmebphhbgpapaaGreatDoor.Sym
set_option maxRecDepth 100000

section
variable {κ ν : Type} [BEq κ]
theorem mget_mset_same {k : κ} {v : ν} (hb : ∀ a b : κ, (a == b) = true ↔ a = b) : ∀ m : List (κ × ν), mget k (mset k v m) = some v
  | [] => by
    unfold mset mget
    rw [(hb k k).2 rfl]
  | p :: m => by
    unfold mset
    cases h : k == p.1 with
    | true =>
      show mget k ((k, v) :: m) = _
      unfold mget
      rw [(hb k k).2 rfl]
    | false =>
      show mget k (p :: mset k v m) = _
      unfold mget
      rw [h]
      exact mget_mset_same hb m
theorem mget_mset_ne {k k' : κ} {v : ν} (hb : ∀ a b : κ, (a == b) = true ↔ a = b) (hne : ¬ k' = k) : ∀ m : List (κ × ν), mget k' (mset k v m) = mget k' m
  | [] => by
    have e : (k' == k) = false := by
      cases e : k' == k with
      | true => exact absurd ((hb _ _).1 e) hne
      | false => rfl
    unfold mset mget
    simp only [e]
    rfl
  | p :: m => by
    unfold mset
    cases h : k == p.1 with
    | true =>
      have e1 : k = p.1 := (hb _ _).1 h
      show mget k' ((k, v) :: m) = mget k' (p :: m)
      have e : (k' == k) = false := by
        cases e : k' == k with
        | true => exact absurd ((hb _ _).1 e) hne
        | false => rfl
      unfold mget
      rw [← e1]
      simp only [e]
    | false =>
      show mget k' (p :: mset k v m) = mget k' (p :: m)
      unfold mget
      rw [mget_mset_ne hb hne m]
end
theorem ba_beq (a b : ByteArray) : (a == b) = true ↔ a = b := by
  cases a
  cases b
  show ByteArray.beq _ _ = true ↔ _
  unfold ByteArray.beq
  simp

/-- A word is before the one that stands at a place. -/
def prevLt (l : List (List Int)) (i : Nat) (w : List Int) : Bool := match i with
  | 0 => true
  | i + 1 => match l[i]? with | some p => decide (cmpW p w < 0) | none => true

theorem Asc_of_prev {l : List (List Int)} (h : ∀ i w, l[i]? = some w → prevLt l i w = true) : Asc l := by
  have one : ∀ i p w, l[i]? = some p → l[i + 1]? = some w → cmpW p w = -1 := fun i p w hp hw => by
    have h1 := h (i + 1) w hw
    unfold prevLt at h1
    simp only [hp] at h1
    have h1 := of_decide_eq_true h1
    have := cmpW_range p w
    omega
  have key : ∀ (d i : Nat) p w, l[i]? = some p → l[i + d + 1]? = some w → cmpW p w = -1 := by
    intro d
    induction d with
    | zero => exact one
    | succ d ih =>
      intro i p w hp hw
      have hj := (List.getElem?_eq_some_iff.1 hw).1
      have hm := get_at (l := l) (i := i + d + 1) (by omega)
      exact cmpW_trans _ _ _ (ih i p _ hp hm) (one _ _ _ hm (by rw [show i + d + 1 + 1 = i + (d + 1) + 1 by omega]; exact hw))
  rw [Asc, List.pairwise_iff_getElem]
  intro i j hi hj hij
  exact key (j - i - 1) i _ _ (get_at hi) (by rw [show i + (j - i - 1) + 1 = j by omega]; exact get_at hj)

theorem table_ascends_eq (l : List (List Int)) (hl : SmL l) {i : Nat} {w : List Int} (h : l[i]? = some w) : table_ascends l (↑i : Int) = some (prevLt l i w) := by
  have hi := (List.getElem?_eq_some_iff.1 h).1
  have hl1 : l.length ≤ 2000000 := hl.1
  unfold table_ascends prevLt
  cases i with
  | zero => rfl
  | succ i =>
    have hp := get_at (show i < l.length by omega)
    rw [show decide ((↑(i + 1) : Int) = 0) = false from decide_eq_false (by omega), cond_false, chk_pos (by unfold inR; omega), idx_at (i := i) (by omega) hp, idx_at rfl h,
      word_Compare_eq _ _ (by have : SmW (l[i]'(by omega)) := hl.2 _ (List.mem_of_getElem? hp); unfold SmW at this; omega)]
    simp only [hp]
    rfl

def preG (t : T_api_Table) (known : List Int → Bool) (i : Nat) (w : List Int) : Option Int :=
  if checkI w t.Inputs ≠ 0 then some (checkI w t.Inputs) else if (i = 0 ∧ 0 < w.length) ∨ prevLt t.Prefixes i w = false then some 10 else if 0 < w.length ∧ known (w.take (w.length - 1)) = false then some 1 else none
def sufG (t : T_api_Table) (i : Nat) (w : List Int) : Option Int :=
  if checkI w t.Inputs ≠ 0 then some (checkI w t.Inputs) else if w.length = 0 then some 19 else if prevLt t.Suffixes i w = false then some 10 else none
/-- The error of a table. -/
def validT (t : T_api_Table) : Int :=
  if t.Inputs < 1 ∨ 64 < t.Inputs then 2 else if t.Prefixes.length = 0 then 19 else if 10000 < t.Prefixes.length ∨ 10000 < t.Suffixes.length ∨ 160000 < (↑t.Prefixes.length : Int) * (t.Inputs + 1) * ↑t.Suffixes.length then 11 else
  match scan (preG t fun w => decide (w ∈ t.Prefixes)) 0 t.Prefixes with
  | some e => e
  | none => match scan (sufG t) 0 t.Suffixes with
    | some e => e
    | none => if ∀ a ∈ List.range t.Inputs.toNat, [(↑a : Int)] ∈ t.Suffixes then (if 1023 < longestL t.Prefixes + longestL t.Suffixes then 3 else 0) else 1

/-- The keys of the prefixes. -/
theorem keys_mget (l : List (List Int)) (w : List Int) : ∀ (m : List (ByteArray × Bool)), ((mget (⟨(keyL w).toArray⟩ : ByteArray) (l.foldl (fun m x => mset ⟨(keyL x).toArray⟩ true m) m)).getD false) = (decide (w ∈ l) || (mget (⟨(keyL w).toArray⟩ : ByteArray) m).getD false) := by
  induction l with
  | nil => intro m; simp
  | cons x l ih =>
    intro m
    rw [List.foldl_cons, ih]
    by_cases h : w = x
    · subst h
      rw [mget_mset_same ba_beq]
      simp
    · have : ¬ ((⟨(keyL w).toArray⟩ : ByteArray) = ⟨(keyL x).toArray⟩) := fun e => h (keyL_inj (by
        injection e with e
        injection e))
      rw [mget_mset_ne ba_beq this]
      simp [h]

theorem longest_fold (l : List (List Int)) : ∀ n : Nat, l.foldl (fun (n : Int) w => max n (↑w.length : Int)) (↑n : Int) = ↑(l.foldl (fun n w => max n w.length) n) := by
  induction l with
  | nil => intro n; rfl
  | cons x l ih =>
    intro n
    rw [List.foldl_cons, List.foldl_cons, show max (↑n : Int) (↑x.length : Int) = ((max n x.length : Nat) : Int) by omega, ih]

theorem table_longest_eq (l : List (List Int)) (hl : SmL l) : table_longest l = some (↑(longestL l) : Int) := by
  unfold table_longest
  have h := iter_fold (step := fun (s : Int × Nat) => table_longest.s2 l s.1 s.2) (l := l) (fun a _ x => max a (↑x.length : Int)) (fun a => a) (fun _ _ => True) (fun a i x _ hx => by
    refine ⟨?_, trivial⟩
    simp only [table_longest.s2]
    rw [dec_lt hx, cond_true, idxn_at hx]) (fun a _ => by
    simp only [table_longest.s2]
    rw [dec_end]
    rfl) (by have := hl.1; omega) (a0 := 0) trivial
  rw [h.1, foldi_eq]
  have := longest_fold l 0
  simp only [Int.natCast_zero] at this
  show some _ = some _
  rw [this]
  rfl
theorem longestL_sm {l : List (List Int)} (hl : SmL l) : longestL l ≤ 2000000 := (longestL_le l _).2 fun x hx => hl.2 x hx

/-- A table of a size that fits. -/
def SmT (t : T_api_Table) : Prop := inR t.Inputs ∧ SmL t.Prefixes ∧ SmL t.Suffixes ∧ ∀ x ∈ t.Prefixes, ∀ a ∈ x, inR a

theorem table_key_eq {w : List Int} (h : SmW w) (h2 : ∀ a ∈ w, inR a) : table_key w = some ⟨(keyL w).toArray⟩ := by
  unfold table_key
  rw [chk_pos h2, chk_pos (show w.length ≤ 2000000 from h)]

theorem prod_fit {p s : Nat} {n : Int} (hp : ¬ 10000 < p) (hs : ¬ 10000 < s) (hn1 : ¬ n < 1) (hn2 : ¬ 64 < n) : inR (n + 1) ∧ inR ((↑p : Int) * (n + 1)) ∧ inR ((↑p : Int) * (n + 1) * ↑s) := by
  have h1 : 0 ≤ (↑p : Int) * (n + 1) := Int.mul_nonneg (by omega) (by omega)
  have h2 : (↑p : Int) * (n + 1) ≤ 10000 * 65 := Int.mul_le_mul (by omega) (by omega) (by omega) (by omega)
  have h3 : 0 ≤ (↑p : Int) * (n + 1) * ↑s := Int.mul_nonneg h1 (by omega)
  have h4 : (↑p : Int) * (n + 1) * ↑s ≤ 10000 * 65 * 10000 := Int.mul_le_mul h2 (by omega) (by omega) (by omega)
  unfold inR
  omega

end Go.Proofs.YtpmebphhbgpapaaGreatDoor.Sym

/-
  The examples of the chapter, reckoned.
-/
namespace Go.Proofs.YtpmebphhbgpapaaGreatDoor.Sym
set_option maxRecDepth 100000
theorem awake_true : L23_awake = some true := by decide +kernel
end Go.Proofs.YtpmebphhbgpapaaGreatDoor.Sym

/-
  Tables: the program's own checks, the first table, and the law of both.
-/
namespace Go.Proofs.YtpmebphhbgpapaaGreatDoor.Sym
set_option maxRecDepth 100000

theorem cmp_single {x y : Int} : cmpW [x] [y] = -1 ↔ x < y := by
  simp only [cmpW, lexI, List.length_cons, List.length_nil]
  by_cases h : x < y
  · simp [h]
  · by_cases h2 : y < x <;> simp [h, h2]
theorem cmp_len {x y : List Int} (h : cmpW x y = -1) : x.length ≤ y.length := by
  unfold cmpW at h
  split at h
  · omega
  · split at h
    · cases h
    · omega
theorem check_mem {w : List Int} {n : Int} (h : checkI w n = 0) : ∀ a ∈ w, 0 ≤ a ∧ a < n := by
  unfold checkI at h
  split at h
  · split at h
    · cases h
    · split at h
      · rename_i h3
        intro a ha
        exact of_decide_eq_true (List.all_eq_true.1 h3 a ha)
      · cases h
  · cases h

theorem one_of {w : List Int} (h0 : w.length ≠ 0) (h1 : w.length ≤ 1) : ∃ a, w = [a] := by
  match w, h0, h1 with
  | [a], _, _ => exact ⟨a, rfl⟩

/-- All words of one symbol are there just if so many stand in front. -/
theorem singles_iff {l : List (List Int)} {n : Int} (hA : Asc l) (hc : ∀ w ∈ l, checkI w n = 0 ∧ w.length ≠ 0) (hn : 1 ≤ n) : (∀ a ∈ List.range n.toNat, [(↑a : Int)] ∈ l) ↔ ∃ w, l[n.toNat - 1]? = some w ∧ w.length ≤ 1 := by
  constructor
  · intro h
    have key : ∀ a, a < n.toNat → l[a]? = some [(↑a : Int)] := by
      intro a
      induction a using Nat.strongRecOn with
      | _ a ih =>
        intro ha
        obtain ⟨j, hj, e⟩ := List.mem_iff_getElem.1 (h a (List.mem_range.2 ha))
        have ej : l[j]? = some [(↑a : Int)] := by rw [get_at hj, e]
        rcases Nat.lt_trichotomy j a with hlt | heq | hgt
        · have := ih j hlt (by omega)
          rw [ej] at this
          injection this with this
          injection this with this
          omega
        · rw [← heq, ej]
          rw [heq]
        · have hx := get_at (l := l) (i := a) (by omega)
          have hcmp := hA.get hgt hx ej
          have hxm := List.mem_of_getElem? hx
          obtain ⟨b, hb⟩ := one_of (hc _ hxm).2 (cmp_len hcmp)
          rw [hb] at hcmp hx
          have hlt := cmp_single.1 hcmp
          have hr := check_mem (hc _ hxm).1 b (by rw [hb]; simp)
          have hbb := ih b.toNat (by omega) (by omega)
          rw [show ((b.toNat : Nat) : Int) = b by omega] at hbb
          have := hA.get (show b.toNat < a by omega) hbb hx
          rw [cmpW_refl] at this
          cases this
    exact ⟨_, key (n.toNat - 1) (by omega), by simp⟩
  · rintro ⟨w, hw, hw1⟩
    have one : ∀ i, i < n.toNat → ∃ b : Int, l[i]? = some [b] ∧ 0 ≤ b ∧ b < n := fun i hi => by
      have hlen := (List.getElem?_eq_some_iff.1 hw).1
      have hx := get_at (l := l) (i := i) (by omega)
      have hl1 : (l[i]'(by omega)).length ≤ 1 := by
        rcases Nat.lt_or_ge i (n.toNat - 1) with h | h
        · have := cmp_len (hA.get h hx hw)
          omega
        · have e : i = n.toNat - 1 := by omega
          subst e
          rw [hx] at hw
          injection hw with hw
          rw [hw]
          exact hw1
      have hxm := List.mem_of_getElem? hx
      obtain ⟨b, hb⟩ := one_of (hc _ hxm).2 hl1
      rw [hb] at hx
      exact ⟨b, hx, check_mem (hc _ hxm).1 b (by rw [hb]; simp)⟩
    have lo : ∀ i (b : Int), i < n.toNat → l[i]? = some [b] → (↑i : Int) ≤ b := by
      intro i
      induction i with
      | zero =>
        intro b hi hb
        obtain ⟨b', e, h1, _⟩ := one 0 hi
        rw [hb] at e
        injection e with e
        injection e with e
        omega
      | succ i ih =>
        intro b hi hb
        obtain ⟨b', e, h1, _⟩ := one i (by omega)
        have := ih b' (by omega) e
        have := cmp_single.1 (hA.get (Nat.lt_succ_self i) e hb)
        omega
    have hi' : ∀ d i (b : Int), i + d + 1 = n.toNat → l[i]? = some [b] → b + ↑d < n := by
      intro d
      induction d with
      | zero =>
        intro i b hi hb
        obtain ⟨b', e, _, h2⟩ := one i (by omega)
        rw [hb] at e
        injection e with e
        injection e with e
        omega
      | succ d ih =>
        intro i b hi hb
        obtain ⟨b', e, _, _⟩ := one (i + 1) (by omega)
        have := ih (i + 1) b' (by omega) e
        have := cmp_single.1 (hA.get (Nat.lt_succ_self i) hb e)
        omega
    intro a ha
    have ha := List.mem_range.1 ha
    obtain ⟨b, e, _, _⟩ := one a ha
    have h1 := lo a b ha e
    have h2 := hi' (n.toNat - 1 - a) a b (by omega) e
    have : b = (↑a : Int) := by omega
    subst this
    exact List.mem_of_getElem? e

theorem sufG_none {t : T_api_Table} (h : scan (sufG t) 0 t.Suffixes = none) : Asc t.Suffixes ∧ ∀ w ∈ t.Suffixes, checkI w t.Inputs = 0 ∧ w.length ≠ 0 := by
  have h0 := scan_none.1 h
  have key : ∀ i w, t.Suffixes[i]? = some w → checkI w t.Inputs = 0 ∧ w.length ≠ 0 ∧ prevLt t.Suffixes i w = true := fun i w hw => by
    have := h0 i w hw
    rw [Nat.zero_add] at this
    unfold sufG at this
    split at this
    · cases this
    · rename_i h1
      split at this
      · cases this
      · rename_i h2
        split at this
        · cases this
        · rename_i h3
          refine ⟨by simpa using h1, h2, ?_⟩
          cases hp : prevLt t.Suffixes i w with
          | true => rfl
          | false => exact absurd hp h3
  refine ⟨Asc_of_prev fun i w hw => (key i w hw).2.2, fun w hw => ?_⟩
  obtain ⟨i, hi, rfl⟩ := List.mem_iff_getElem.1 hw
  exact ⟨(key i _ (get_at hi)).1, (key i _ (get_at hi)).2.1⟩

theorem table_Valid_eq (t : T_api_Table) (ht : SmT t) : table_Valid t = some (validT t) := by
  unfold table_Valid validT
  by_cases h1 : t.Inputs < 1
  · simp [h1]
  by_cases h2 : 64 < t.Inputs
  · simp [h1, h2]
  rw [if_neg (by omega), decide_eq_false h1, cond_false, decide_eq_false h2]
  simp only [Option.bind_some, cond_false]
  by_cases h3 : t.Prefixes.length = 0
  · rw [show decide ((↑(List.length t.Prefixes) : Int) = 0) = true from decide_eq_true (by omega), cond_true, if_pos h3]
  rw [show decide ((↑(List.length t.Prefixes) : Int) = 0) = false from decide_eq_false (by omega), cond_false, if_neg h3]
  by_cases h4 : 10000 < t.Prefixes.length
  · rw [show decide (10000 < (↑(List.length t.Prefixes) : Int)) = true from decide_eq_true (by omega), if_pos (Or.inl h4)]
    rfl
  rw [show decide (10000 < (↑(List.length t.Prefixes) : Int)) = false from decide_eq_false (by omega), cond_false]
  by_cases h5 : 10000 < t.Suffixes.length
  · rw [show decide (10000 < (↑(List.length t.Suffixes) : Int)) = true from decide_eq_true (by omega), if_pos (Or.inr (Or.inl h5))]
    rfl
  rw [show decide (10000 < (↑(List.length t.Suffixes) : Int)) = false from decide_eq_false (by omega), cond_false]
  obtain ⟨f1, f2, f3⟩ := prod_fit h4 h5 h1 h2
  rw [chk_pos f1, chk_pos f2, chk_pos f3]
  simp only [Option.bind_some]
  by_cases h6 : 160000 < (↑t.Prefixes.length : Int) * (t.Inputs + 1) * ↑t.Suffixes.length
  · rw [decide_eq_true h6, cond_true, if_pos (Or.inr (Or.inr h6))]
  rw [decide_eq_false h6, cond_false, if_neg (fun h => by rcases h with h | h | h <;> contradiction)]
  obtain ⟨_, hp, hs, hr⟩ := ht
  have hk := iter_fold (step := fun (s : (List (ByteArray × Bool)) × Nat) => table_Valid.s2 t s.1 s.2) (l := t.Prefixes) (fun m _ x => mset ⟨(keyL x).toArray⟩ true m) (fun m => m) (fun _ _ => True) (fun m i x _ hx => by
    have hxm := List.mem_of_getElem? hx
    refine ⟨?_, trivial⟩
    simp only [table_Valid.s2]
    rw [dec_lt hx, cond_true, idxn_at hx, table_key_eq (hp.2 x hxm) (hr x hxm)]
    rfl) (fun m _ => by
    simp only [table_Valid.s2]
    rw [dec_end]
    rfl) (by omega) (a0 := []) trivial
  rw [hk.1, foldi_eq]
  simp only [Option.bind_some]
  have key := iter_scan (step := fun s => table_Valid.s4 t (t.Prefixes.foldl (fun m x => mset ⟨(keyL x).toArray⟩ true m) []) s) (l := t.Prefixes) (preG t fun w => decide (w ∈ t.Prefixes)) (fun i w hw => by
    have hwm := List.mem_of_getElem? hw
    have hws : SmW w := hp.2 w hwm
    have hwl : w.length ≤ 2000000 := hws
    simp only [table_Valid.s4]
    rw [dec_lt hw, cond_true, idxn_at hw, word_Check_eq w _ hws, table_ascends_eq _ hp hw]
    simp only [Option.bind_some, preG]
    by_cases g1 : checkI w t.Inputs = 0
    · rw [show decide (checkI w t.Inputs ≠ 0) = false from decide_eq_false (by simpa using g1), cond_false, if_neg (by simpa using g1)]
      have hc : (cond (decide ((↑i : Int) = 0)) (cond (decide (0 < (↑(List.length w) : Int))) (some true) (some (!prevLt t.Prefixes i w))) (some (!prevLt t.Prefixes i w)) : Option Bool) = some (decide ((i = 0 ∧ 0 < w.length) ∨ prevLt t.Prefixes i w = false)) := by
        by_cases g2 : i = 0
        · rw [show decide ((↑i : Int) = 0) = true from decide_eq_true (by omega), cond_true]
          by_cases g3 : 0 < w.length
          · rw [show decide (0 < (↑(List.length w) : Int)) = true from decide_eq_true (by omega), cond_true, decide_eq_true (Or.inl ⟨g2, g3⟩)]
          · rw [show decide (0 < (↑(List.length w) : Int)) = false from decide_eq_false (by omega), cond_false]
            cases prevLt t.Prefixes i w <;> simp [g3]
        · rw [show decide ((↑i : Int) = 0) = false from decide_eq_false (by omega), cond_false]
          cases prevLt t.Prefixes i w <;> simp [g2]
      rw [hc]
      simp only [Option.bind_some]
      by_cases g2 : (i = 0 ∧ 0 < w.length) ∨ prevLt t.Prefixes i w = false
      · rw [decide_eq_true g2, cond_true, if_pos g2]
      · rw [decide_eq_false g2, cond_false, if_neg g2]
        by_cases g3 : 0 < w.length
        · have hts : SmW (w.take (w.length - 1)) := by
            show (w.take (w.length - 1)).length ≤ 2000000
            rw [List.length_take]
            omega
          rw [show decide (0 < (↑(List.length w) : Int)) = true from decide_eq_true (by omega), cond_true, chk_pos (by omega), show Int.toNat ((↑(List.length w) : Int) - 1) = w.length - 1 by omega, table_key_eq hts (fun a ha => hr w hwm a (List.mem_of_mem_take ha))]
          simp only [Option.bind_some]
          rw [keys_mget]
          by_cases g4 : w.take (w.length - 1) ∈ t.Prefixes <;> simp [g3, g4, mget]
        · rw [show decide (0 < (↑(List.length w) : Int)) = false from decide_eq_false (by omega), cond_false]
          simp [g3]
    · rw [show decide (checkI w t.Inputs ≠ 0) = true from decide_eq_true g1, cond_true, if_pos g1]) (by
    simp only [table_Valid.s4]
    rw [dec_end]
    rfl) (by omega)
  rw [key]
  cases e1 : scan (preG t fun w => decide (w ∈ t.Prefixes)) 0 t.Prefixes with
  | some e => rfl
  | none =>
    show (iter (fun (s : Nat) => table_Valid.s6 t s) fuel 0 : Option (Unit ⊕ Int)).bind _ = _
    have key2 := iter_scan (step := fun s => table_Valid.s6 t s) (l := t.Suffixes) (sufG t) (fun i w hw => by
      have hwm := List.mem_of_getElem? hw
      have hws : SmW w := hs.2 w hwm
      simp only [table_Valid.s6]
      rw [dec_lt hw, cond_true, idxn_at hw, word_Check_eq w _ hws, table_ascends_eq _ hs hw]
      simp only [Option.bind_some, sufG]
      by_cases g1 : checkI w t.Inputs = 0
      · rw [show decide (checkI w t.Inputs ≠ 0) = false from decide_eq_false (by simpa using g1), cond_false, if_neg (by simpa using g1)]
        by_cases g2 : w.length = 0
        · rw [show decide ((↑(List.length w) : Int) = 0) = true from decide_eq_true (by omega), cond_true, if_pos g2]
        · rw [show decide ((↑(List.length w) : Int) = 0) = false from decide_eq_false (by omega), cond_false, if_neg g2]
          cases prevLt t.Suffixes i w <;> rfl
      · rw [show decide (checkI w t.Inputs ≠ 0) = true from decide_eq_true g1, cond_true, if_pos g1]) (by
      simp only [table_Valid.s6]
      rw [dec_end]
      rfl) (by omega)
    rw [key2]
    cases e2 : scan (sufG t) 0 t.Suffixes with
    | some e => rfl
    | none =>
      obtain ⟨hA, hcs⟩ := sufG_none e2
      have hiff := singles_iff hA hcs (show 1 ≤ t.Inputs by omega)
      have l1 := longestL_sm hp
      have l2 := longestL_sm hs
      simp only [Option.bind_some, Sum.elim_inl]
      rw [table_longest_eq _ hp, table_longest_eq _ hs]
      simp only [Option.bind_some]
      rw [chk_pos (show inR ((↑(longestL t.Prefixes) : Int) + ↑(longestL t.Suffixes)) by unfold inR; omega)]
      by_cases g1 : (↑t.Suffixes.length : Int) < t.Inputs
      · have hno : ¬ ∀ a ∈ List.range t.Inputs.toNat, [(↑a : Int)] ∈ t.Suffixes := fun h => by
          obtain ⟨w, hw, _⟩ := hiff.1 h
          have := (List.getElem?_eq_some_iff.1 hw).1
          omega
        rw [decide_eq_true g1, cond_true, if_neg hno]
        rfl
      · have hx := get_at (l := t.Suffixes) (i := t.Inputs.toNat - 1) (by omega)
        rw [decide_eq_false g1, cond_false, chk_pos (by unfold inR; omega), idx_at (i := t.Inputs.toNat - 1) (by omega) hx]
        by_cases g2 : 1 < (t.Suffixes[t.Inputs.toNat - 1]'(by omega)).length
        · have hno : ¬ ∀ a ∈ List.range t.Inputs.toNat, [(↑a : Int)] ∈ t.Suffixes := fun h => by
            obtain ⟨w, hw, hw1⟩ := hiff.1 h
            rw [hx] at hw
            injection hw with hw
            rw [hw] at g2
            omega
          rw [if_neg hno, decide_eq_true (by omega)]
          rfl
        · have hyes : ∀ a ∈ List.range t.Inputs.toNat, [(↑a : Int)] ∈ t.Suffixes := hiff.2 ⟨_, hx, by omega⟩
          rw [if_pos hyes, decide_eq_false (by omega)]
          simp only [Option.bind_some, cond_false]
          by_cases h8 : 1023 < longestL t.Prefixes + longestL t.Suffixes
          · rw [if_pos h8, decide_eq_true (by omega)]
            rfl
          · rw [if_neg h8, decide_eq_false (by omega)]
            rfl

end Go.Proofs.YtpmebphhbgpapaaGreatDoor.Sym

/-
  The law of TableValid, for tables within the bound.
-/
namespace Go.Proofs.YtpmebphhbgpapaaGreatDoor.Sym

theorem sum_mem {α : Type} {f : α → Nat} : ∀ {l : List α} {x : α}, x ∈ l → f x ≤ (l.map f).sum
  | y :: l, x, h => by
    rw [List.map_cons, List.sum_cons]
    rcases List.mem_cons.1 h with rfl | h
    · omega
    · have := sum_mem (f := f) h
      omega
theorem sum_len {α : Type} {f : α → Nat} (hf : ∀ x, 1 ≤ f x) : ∀ l : List α, l.length ≤ (l.map f).sum
  | [] => by simp
  | y :: l => by
    have := sum_len hf l
    have := hf y
    rw [List.map_cons, List.sum_cons, List.length_cons]
    omega
theorem sz_word {x : List Int} : x.length + 1 = szL sz1 x := by
  unfold szL sz1
  induction x with
  | nil => rfl
  | cons y l ih => simp at ih ⊢; omega
theorem sml_of {l : List (List Int)} {N : Nat} (h : szL (szL sz1) l ≤ N) (hN : N ≤ 2000000) : SmL l := by
  unfold szL at h
  refine ⟨?_, fun x hx => ?_⟩
  · have := sum_len (f := szL sz1) (fun x => by rw [← sz_word]; omega) l
    unfold szL at this
    omega
  · have := sum_mem (f := szL sz1) hx
    rw [← sz_word] at this
    unfold szL at this
    unfold SmW
    omega
theorem smt_of {t : T_api_Table} (k : ok_api_Table t) (s : sz_api_Table t ≤ 1048576) : SmT t := by
  unfold sz_api_Table at s
  obtain ⟨k1, k2, k3⟩ := k
  exact ⟨k1, sml_of (N := 1048576) (by omega) (by omega), sml_of (N := 1048576) (by omega) (by omega), k2⟩

end Go.Proofs.YtpmebphhbgpapaaGreatDoor.Sym

/-
  Sorted lists of words, duplicates struck: plain laws.
-/
namespace Go.Proofs.YtpmebphhbgpapaaGreatDoor

/-- A comparison of words that is a total order. -/
structure TotalCmp (cf : List Int → List Int → Int) : Prop where
  range : ∀ a b, cf a b = -1 ∨ cf a b = 0 ∨ cf a b = 1
  zero : ∀ a b, cf a b = 0 ↔ a = b
  swap : ∀ a b, cf b a = - cf a b
  trans : ∀ a b c, cf a b = -1 → cf b c = -1 → cf a c = -1

theorem cmpW_total : TotalCmp cmpW := ⟨cmpW_range, cmpW_zero, cmpW_swap, cmpW_trans⟩
/-- Of equal neighbours one stays. -/
def dedupA (l : List (List Int)) : List (List Int) := l.foldl (fun acc x => if acc.getLast? = some x then acc else acc ++ [x]) []

theorem dedupA_snoc (l : List (List Int)) (x : List Int) : dedupA (l ++ [x]) = if (dedupA l).getLast? = some x then dedupA l else dedupA l ++ [x] := by
  unfold dedupA
  rw [List.foldl_append]
  rfl

theorem dedup_foldl : ∀ (l acc : List (List Int)), (l.foldl (fun acc x => if acc.getLast? = some x then acc else acc ++ [x]) acc).getLast? = if l = [] then acc.getLast? else l.getLast?
  | [], acc => by rw [if_pos rfl]; rfl
  | x :: l, acc => by
    have hx : (if acc.getLast? = some x then acc else acc ++ [x]).getLast? = some x := by
      split
      · assumption
      · simp
    rw [List.foldl_cons, dedup_foldl l, if_neg (show ¬ x :: l = [] by simp)]
    cases l with
    | nil => rw [if_pos rfl, hx]; rfl
    | cons y l =>
      rw [if_neg (show ¬ y :: l = [] by simp), List.getLast?_cons_cons]
theorem dedupA_last (l : List (List Int)) : (dedupA l).getLast? = l.getLast? := by
  unfold dedupA
  rw [dedup_foldl]
  split
  · rename_i h; rw [h]
  · rfl

theorem dedupA_step {l : List (List Int)} {k : Nat} {x y : List Int} (hy : l[k]? = some y) (hx : l[k + 1]? = some x) :
    dedupA (l.take (k + 1 + 1)) = if x = y then dedupA (l.take (k + 1)) else dedupA (l.take (k + 1)) ++ [x] := by
  rw [take_step hx, dedupA_snoc, dedupA_last, take_step hy]
  simp only [List.getLast?_append, List.getLast?_singleton, Option.some_or]
  by_cases h : y = x
  · subst h; simp
  · have h' : ¬ x = y := fun e => h e.symm
    simp [h, h']

theorem dedupA_short {l : List (List Int)} (h : l.length ≤ 1) : dedupA l = l := by
  match l, h with
  | [], _ => rfl
  | [x], _ => rfl

theorem dedup_asc {cf : List Int → List Int → Int} (T : TotalCmp cf) : ∀ {l : List (List Int)}, l.Pairwise (fun a b => 0 ≤ cf b a) → (dedupA l).Pairwise (fun a b => cf a b = -1) ∧ ∀ x, x ∈ dedupA l ↔ x ∈ l := by
  intro l
  -- from the end of the list
  suffices H : ∀ n (l : List (List Int)), l.length = n → l.Pairwise (fun a b => 0 ≤ cf b a) → (dedupA l).Pairwise (fun a b => cf a b = -1) ∧ ∀ x, x ∈ dedupA l ↔ x ∈ l from H _ l rfl
  intro n
  induction n with
  | zero =>
    intro l hl _
    have : l = [] := List.eq_nil_of_length_eq_zero hl
    subst this
    exact ⟨List.Pairwise.nil, fun x => Iff.rfl⟩
  | succ n ih =>
    intro l hl hp
    obtain ⟨m, x, rfl⟩ : ∃ m x, l = m ++ [x] := by
      have hne : l ≠ [] := by intro e; rw [e] at hl; simp at hl
      exact ⟨l.dropLast, l.getLast hne, (List.dropLast_concat_getLast hne).symm⟩
    have hml : m.length = n := by simpa using hl
    rw [List.pairwise_append] at hp
    obtain ⟨hp1, _, hp3⟩ := hp
    obtain ⟨h1, h2⟩ := ih m hml hp1
    rw [dedupA_snoc]
    by_cases h : (dedupA m).getLast? = some x
    · rw [if_pos h]
      refine ⟨h1, fun y => ?_⟩
      have hx : x ∈ m := (h2 x).1 (List.mem_of_getLast? h)
      rw [h2, List.mem_append, List.mem_singleton]
      constructor
      · exact Or.inl
      · rintro (h' | rfl)
        · exact h'
        · exact hx
    · rw [if_neg h]
      refine ⟨?_, fun y => by rw [List.mem_append, List.mem_append, h2]⟩
      rw [List.pairwise_append]
      refine ⟨h1, by simp, fun a ha b hb => ?_⟩
      rw [List.mem_singleton] at hb
      subst hb
      have ha' : a ∈ m := (h2 a).1 ha
      have hle : 0 ≤ cf b a := hp3 a ha' b (by simp)
      have hr := T.range b a
      have hsw := T.swap b a
      by_cases e : cf b a = 0
      · -- a would be the last one
        exfalso
        have hab : b = a := (T.zero _ _).1 e
        subst hab
        -- the last of m is the greatest, and b is in m and not less than it
        have hne : dedupA m ≠ [] := fun e => by rw [e] at ha; cases ha
        have hl2 := List.getLast?_eq_some_getLast hne
        have hlast : (dedupA m).getLast hne ∈ m := (h2 _).1 (List.getLast_mem hne)
        have h3 : 0 ≤ cf b ((dedupA m).getLast hne) := hp3 _ hlast b (by simp)
        have hsplit : dedupA m = (dedupA m).dropLast ++ [(dedupA m).getLast hne] := (List.dropLast_concat_getLast hne).symm
        have h4 : b = (dedupA m).getLast hne ∨ cf b ((dedupA m).getLast hne) = -1 := by
          rw [hsplit] at ha h1
          rw [List.pairwise_append] at h1
          rcases List.mem_append.1 ha with h5 | h5
          · exact Or.inr (h1.2.2 b h5 _ (by simp))
          · exact Or.inl (List.mem_singleton.1 h5)
        rcases h4 with h4 | h4
        · exact h (by rw [hl2, ← h4])
        · omega
      · omega

theorem dedupA_length (l : List (List Int)) : (dedupA l).length ≤ l.length := by
  suffices H : ∀ (l acc : List (List Int)), (l.foldl (fun acc x => if acc.getLast? = some x then acc else acc ++ [x]) acc).length ≤ acc.length + l.length by
    simpa [dedupA] using H l []
  intro l
  induction l with
  | nil => intro acc; simp
  | cons x l ih =>
    intro acc
    rw [List.foldl_cons]
    refine Nat.le_trans (ih _) ?_
    split
    · simp
    · simp; omega

end Go.Proofs.YtpmebphhbgpapaaGreatDoor

/-
  Prefixes, suffixes and maximal words: plain laws.
-/
namespace Go.Proofs.YtpmebphhbgpapaaGreatDoor

def prefixes (x : List Int) : List (List Int) := (List.range (x.length + 1)).map x.take
def suffixes (x : List Int) : List (List Int) := (List.range (x.length + 1)).map x.drop
def preL (l : List (List Int)) : List (List Int) := l.flatMap prefixes
theorem prefixes_take (x : List Int) {j : Nat} (hj : j ≤ x.length) : (prefixes x).take (j + 1) = (prefixes x).take j ++ [x.take j] := by
  have : (prefixes x)[j]? = some (x.take j) := by simp [prefixes, List.getElem?_range (show j < x.length + 1 by omega)]
  exact take_step this
theorem prefixes_length (x : List Int) : (prefixes x).length = x.length + 1 := by simp [prefixes]
theorem preL_step {l : List (List Int)} {k : Nat} {x : List Int} (h : l[k]? = some x) : preL (l.take (k + 1)) = preL (l.take k) ++ prefixes x := by rw [take_step h]; simp [preL]
theorem lex_between : ∀ (x z y : List Int), lexI x z = -1 → (z = y ∨ lexI z y = -1) → x <+: y → x <+: z
  | [], z, _, _, _, _ => List.nil_prefix
  | a :: x, [], _, h, _, _ => by simp [lexI] at h
  | a :: x, b :: z, [], _, _, h => by simp at h
  | a :: x, b :: z, c :: y, h1, h2, h3 => by
    rw [List.cons_prefix_cons] at h3
    obtain ⟨rfl, h3⟩ := h3
    simp only [lexI] at h1
    have hle : b ≤ a := by
      rcases h2 with h2 | h2
      · injection h2 with e1 e2; omega
      · simp only [lexI] at h2
        split at h2
        · omega
        · split at h2
          · omega
          · omega
    have hab : a = b := by
      split at h1
      · omega
      · split at h1
        · omega
        · omega
    subst hab
    rw [if_neg (by omega), if_neg (by omega)] at h1
    rw [List.cons_prefix_cons]
    refine ⟨rfl, lex_between x z y h1 ?_ h3⟩
    rcases h2 with h2 | h2
    · injection h2 with e1 e2; exact Or.inl e2
    · simp only [lexI] at h2
      rw [if_neg (by omega), if_neg (by omega)] at h2
      exact Or.inr h2

theorem prefix_lex : ∀ (x y : List Int), x <+: y → x ≠ y → lexI x y = -1
  | [], [], _, h => absurd rfl h
  | [], _ :: _, _, _ => rfl
  | a :: x, [], h, _ => by simp at h
  | a :: x, b :: y, h, hne => by
    rw [List.cons_prefix_cons] at h
    obtain ⟨rfl, h⟩ := h
    simp only [lexI]
    rw [if_neg (by omega), if_neg (by omega)]
    exact prefix_lex x y h (fun e => hne (by rw [e]))

end Go.Proofs.YtpmebphhbgpapaaGreatDoor

/-
  What the functions on lists of words come to: plain laws.
-/
namespace Go.Proofs.YtpmebphhbgpapaaGreatDoor.Sym
set_option maxRecDepth 100000

/-- Lists joined. -/
theorem flat_take_succ {α : Type} {l : List (List α)} {i : Nat} {x : List α} (h : l[i]? = some x) : (l.take (i + 1)).flatten = (l.take i).flatten ++ x := by
  rw [take_step h]
  simp
theorem flat_take_len {α : Type} {l : List (List α)} (i : Nat) : (l.take i).flatten.length ≤ l.flatten.length := by
  have h : l.flatten = (l.take i).flatten ++ (l.drop i).flatten := by rw [← List.flatten_append, List.take_append_drop]
  rw [h, List.length_append]
  omega

theorem concat_ints (l : List (List Int)) (hl : l.length ≤ 100000000) (hf : l.flatten.length ≤ 1000000000) : slices_Concat_Sint_int l = some l.flatten := by
  unfold slices_Concat_Sint_int
  rw [iter_eq (r := l.flatten.length) (fun s => s.2 ≤ l.length ∧ s.1 = (l.take s.2).flatten.length) (fun s => l.length - s.2) (fun s ⟨h1, h2⟩ => by
    simp only [slices_Concat_Sint_int.s2]
    by_cases h3 : s.2 < l.length
    · left
      have hx := get_at h3
      have h4 := flat_take_succ hx
      have h5 := flat_take_len (l := l) (s.2 + 1)
      rw [h4, List.length_append] at h5
      refine ⟨((l.take (s.2 + 1)).flatten.length, s.2 + 1), ?_, ⟨by omega, rfl⟩, by simp only; omega⟩
      rw [dec_lt hx, cond_true, idxn_at hx, chk_pos (by unfold inR; omega), decide_eq_false (by omega), cond_false, h4, List.length_append, h2]
    · right
      have e : s.2 = l.length := by omega
      rw [decide_eq_false (by omega), cond_false, h2, e, List.take_length]) (s := (0, 0)) ⟨Nat.zero_le _, by simp⟩ (by have := fuel_big; simp only; omega)]
  simp only [Option.bind_some]
  unfold lib_Grow_int
  rw [chk_pos (by omega)]
  simp only [Option.bind_some]
  rw [iter_eq (r := l.flatten) (fun s => s.2 ≤ l.length ∧ s.1 = (l.take s.2).flatten) (fun s => l.length - s.2) (fun s ⟨h1, h2⟩ => by
    simp only [slices_Concat_Sint_int.s4]
    by_cases h3 : s.2 < l.length
    · left
      have hx := get_at h3
      have h4 := flat_take_succ hx
      have h5 := flat_take_len (l := l) (s.2 + 1)
      rw [h4, List.length_append] at h5
      refine ⟨((l.take (s.2 + 1)).flatten, s.2 + 1), ?_, ⟨by omega, rfl⟩, by simp only; omega⟩
      rw [dec_lt hx, cond_true, idxn_at hx, chk_pos (by rw [h2]; unfold capOk; omega), h4, h2]
    · right
      have e : s.2 = l.length := by omega
      rw [decide_eq_false (by omega), cond_false, h2, e, List.take_length]) (s := ([], 0)) ⟨Nat.zero_le _, by simp⟩ (by have := fuel_big; simp only; omega)]
  rfl
theorem concat_words (l : List (List (List Int))) (hl : l.length ≤ 100000000) (hf : l.flatten.length ≤ 1000000000) : slices_Concat_SSint_Sint l = some l.flatten := by
  unfold slices_Concat_SSint_Sint
  rw [iter_eq (r := l.flatten.length) (fun s => s.2 ≤ l.length ∧ s.1 = (l.take s.2).flatten.length) (fun s => l.length - s.2) (fun s ⟨h1, h2⟩ => by
    simp only [slices_Concat_SSint_Sint.s2]
    by_cases h3 : s.2 < l.length
    · left
      have hx := get_at h3
      have h4 := flat_take_succ hx
      have h5 := flat_take_len (l := l) (s.2 + 1)
      rw [h4, List.length_append] at h5
      refine ⟨((l.take (s.2 + 1)).flatten.length, s.2 + 1), ?_, ⟨by omega, rfl⟩, by simp only; omega⟩
      rw [dec_lt hx, cond_true, idxn_at hx, chk_pos (by unfold inR; omega), decide_eq_false (by omega), cond_false, h4, List.length_append, h2]
    · right
      have e : s.2 = l.length := by omega
      rw [decide_eq_false (by omega), cond_false, h2, e, List.take_length]) (s := (0, 0)) ⟨Nat.zero_le _, by simp⟩ (by have := fuel_big; simp only; omega)]
  simp only [Option.bind_some]
  unfold lib_Grow_words
  rw [chk_pos (by omega)]
  simp only [Option.bind_some]
  rw [iter_eq (r := l.flatten) (fun s => s.2 ≤ l.length ∧ s.1 = (l.take s.2).flatten) (fun s => l.length - s.2) (fun s ⟨h1, h2⟩ => by
    simp only [slices_Concat_SSint_Sint.s4]
    by_cases h3 : s.2 < l.length
    · left
      have hx := get_at h3
      have h4 := flat_take_succ hx
      have h5 := flat_take_len (l := l) (s.2 + 1)
      rw [h4, List.length_append] at h5
      refine ⟨((l.take (s.2 + 1)).flatten, s.2 + 1), ?_, ⟨by omega, rfl⟩, by simp only; omega⟩
      rw [dec_lt hx, cond_true, idxn_at hx, chk_pos (by rw [h2]; unfold capOk; omega), h4, h2]
    · right
      have e : s.2 = l.length := by omega
      rw [decide_eq_false (by omega), cond_false, h2, e, List.take_length]) (s := ([], 0)) ⟨Nat.zero_le _, by simp⟩ (by have := fuel_big; simp only; omega)]
  rfl
theorem word_Join_eq (l : List (List Int)) (hl : l.length ≤ 100000000) (hf : l.flatten.length ≤ 1000000000) : word_Join l = some l.flatten := by
  unfold word_Join
  rw [concat_ints l hl hf]
  rfl

/-- The sort. -/
theorem totB_of {cf : List Int → List Int → Int} (T : TotalCmp cf) {f : List Int → List Int → Option Int} {l : List (List Int)} (hf : ∀ a ∈ l, ∀ b ∈ l, f a b = some (cf a b)) : totB f l = true := by
  refine List.all_eq_true.2 fun a ha => List.all_eq_true.2 fun b hb => ?_
  rw [hf a ha b hb, hf b hb a ha]
  simp only [Bool.and_eq_true]
  refine ⟨⟨⟨?_, ?_⟩, ?_⟩, List.all_eq_true.2 fun c hc => ?_⟩
  · rw [beq_iff_eq]
    have := T.zero a b
    by_cases h : a = b
    · simp [h, this.2 h]
      rw [← h]
      exact (T.zero a a).2 rfl
    · have h2 : ¬ cf a b = 0 := fun e => h (this.1 e)
      simp [h, h2]
  · rw [beq_iff_eq]
    have := T.swap a b
    by_cases h : cf a b < 0
    · simp [h]; omega
    · simp [h]; omega
  · have := T.range a b
    exact decide_eq_true (by omega)
  · rw [hf b hb c hc, hf a ha c hc]
    have r1 := T.range a b
    have r2 := T.range b c
    by_cases h1 : cf a b < 0
    · by_cases h2 : cf b c < 0
      · have := T.trans a b c (by omega) (by omega)
        simp [h1, h2, this]
      · simp [h1, h2]
    · simp [h1]

theorem libSort_eq {cf : List Int → List Int → Int} (T : TotalCmp cf) {f : List Int → List Int → Option Int} {l : List (List Int)} (hl : l.length ≤ 1000000000) (hf : ∀ a ∈ l, ∀ b ∈ l, f a b = some (cf a b)) :
    ∃ S, libSort l f = some S ∧ S.Perm l ∧ S.Pairwise (fun a b => 0 ≤ cf b a) := by
  refine ⟨isortF f l, ?_, isortF_perm f l, ?_⟩
  · unfold libSort
    rw [chk_pos hl, totB_of T hf]
    rfl
  · have h := isortF_sorted (totB_iff (totB_of T hf))
    rw [List.pairwise_iff_getElem] at h ⊢
    intro i j hi hj hij
    have := h i j hi hj hij
    have m1 := (isortF_perm f l).mem_iff.1 (List.getElem_mem hi)
    have m2 := (isortF_perm f l).mem_iff.1 (List.getElem_mem hj)
    unfold NGt cfv at this
    rw [hf _ m2 _ m1] at this
    simp only [Option.getD_some] at this
    omega

/-- Duplicates struck. -/
theorem compact_eq {q : List Int → List Int → Option Bool} {l : List (List Int)} (hl : l.length ≤ 1000000000) (hq : ∀ a ∈ l, ∀ b ∈ l, q a b = some (decide (a = b))) : slices_CompactFunc_SSint_Sint_n1 l q = some (dedupA l) := by
  unfold slices_CompactFunc_SSint_Sint_n1
  by_cases h2 : l.length < 2
  · rw [decide_eq_true (by omega), cond_true, dedupA_short (by omega)]
  rw [decide_eq_false (by omega), cond_false]
  have key := iter_post (step := fun k => slices_CompactFunc_SSint_Sint_n1.s20 l q k) (fun k => 1 ≤ k ∧ k ≤ l.length ∧ dedupA (l.take k) = l.take k) (fun k => l.length - k) (fun r => Sum.elim (fun (_ : Unit) => some l) some r = some (dedupA l)) (fun k ⟨h1, h3, h4⟩ => by
    simp only [slices_CompactFunc_SSint_Sint_n1.s20]
    by_cases h5 : k < l.length
    · have hx := get_at h5
      have hp := get_at (l := l) (i := k - 1) (by omega)
      have hst := dedupA_step (l := l) (k := k - 1) (x := l[k]) hp (by rw [show k - 1 + 1 = k by omega]; exact hx)
      rw [show k - 1 + 1 = k by omega] at hst
      rw [dec_lt hx, cond_true, idxn_at hx, idx_at (i := k - 1) (by omega) hp, hq _ (List.getElem_mem _) _ (List.getElem_mem _)]
      simp only [Option.bind_some]
      by_cases h6 : l[k] = l[k - 1]'(by omega)
      · right
        rw [if_pos h6] at hst
        rw [decide_eq_true h6, cond_true, chk_pos (by omega)]
        have inner := iter_post (step := fun (s : List (List Int) × Nat × Nat) => slices_CompactFunc_SSint_Sint_n1.s18 q k s.1 s.2.1 s.2.2) (fun s => 1 ≤ s.2.2 ∧ k + s.2.2 ≤ l.length ∧ s.1.length = l.length ∧ s.2.1 = (dedupA (l.take (k + s.2.2))).length ∧ s.2.1 < k + s.2.2 ∧ s.1.take s.2.1 = dedupA (l.take (k + s.2.2)) ∧ ∀ j, s.2.1 ≤ j → s.1[j]? = l[j]?) (fun s => l.length - (k + s.2.2))
          (fun r => r.2 ≤ l.length ∧ r.1.length = l.length ∧ r.1.take r.2 = dedupA l) (fun s ⟨g1, g2, g3, g4, g5, g6, g7⟩ => by
            obtain ⟨y, kk, t⟩ := s
            simp only at g1 g2 g3 g4 g5 g6 g7
            simp only [slices_CompactFunc_SSint_Sint_n1.s18]
            by_cases g8 : k + t < l.length
            · left
              have gx := get_at (l := l) (i := k + t) g8
              have gp := get_at (l := l) (i := k + (t - 1)) (by omega)
              have yx : y[k + t]? = some l[k + t] := by rw [g7 _ (by omega)]; exact gx
              have yp : y[k + (t - 1)]? = some (l[k + (t - 1)]'(by omega)) := by rw [g7 _ (by omega)]; exact gp
              have hst2 := dedupA_step (l := l) (k := k + (t - 1)) (x := l[k + t]) gp (by rw [show k + (t - 1) + 1 = k + t by omega]; exact gx)
              rw [show k + (t - 1) + 1 = k + t by omega] at hst2
              rw [decide_eq_true (show (↑t : Int) < (↑(List.length y - k) : Int) by omega), cond_true, idxn_at yx, chk_pos (by omega), show Int.toNat ((↑t : Int) - 1) = t - 1 by omega, idxn_at yp, hq _ (List.getElem_mem _) _ (List.getElem_mem _)]
              simp only [Option.bind_some]
              by_cases g9 : l[k + t] = l[k + (t - 1)]'(by omega)
              · rw [if_pos g9] at hst2
                refine ⟨(y, kk, t + 1), by rw [decide_eq_true g9]; rfl, ⟨by simp only; omega, by simp only; omega, g3, ?_, by simp only; omega, ?_, g7⟩, by simp only; omega⟩
                · simp only
                  rw [show k + (t + 1) = k + t + 1 by omega, hst2]
                  exact g4
                · simp only
                  rw [show k + (t + 1) = k + t + 1 by omega, hst2]
                  exact g6
              · rw [if_neg g9] at hst2
                have yk := get_at (l := y) (i := kk) (by omega)
                refine ⟨(y.set kk l[k + t], kk + 1, t + 1), ?_, ⟨by simp only; omega, by simp only; omega, by simp only [List.length_set]; exact g3, ?_, by simp only; omega, ?_, fun j hj => ?_⟩, by simp only; omega⟩
                · rw [decide_eq_false g9]
                  simp only [Bool.not_false, cond_true]
                  rw [idxn_at yx, idxn_at yk, chk_pos (by unfold inR; omega)]
                · simp only
                  rw [show k + (t + 1) = k + t + 1 by omega, hst2, List.length_append, ← g4]
                  rfl
                · simp only
                  have e1 : (y.set kk l[k + t])[kk]? = some l[k + t] := by rw [List.getElem?_set]; simp; omega
                  rw [show k + (t + 1) = k + t + 1 by omega, hst2, take_step e1, List.take_set_of_le (Nat.le_refl _), g6]
                · simp only at hj
                  rw [List.getElem?_set_ne (by omega)]
                  exact g7 j (by omega)
            · right
              have e : k + t = l.length := by omega
              refine ⟨(y, kk), ?_, by simp only; omega, g3, ?_⟩
              · rw [decide_eq_false (by omega), cond_false]
              · simp only
                rw [e, List.take_length] at g6
                exact g6) fuel (l, k, 1) ⟨Nat.le_refl _, by simp only; omega, rfl, by simp only; rw [hst, h4, List.length_take]; omega, by simp only; omega, by simp only; rw [hst, h4], fun j _ => rfl⟩ (by have := fuel_big; simp only; omega)
        obtain ⟨⟨y, kk⟩, e, g1, g2, g3⟩ := inner
        simp only at g1 g2 g3
        refine ⟨.inr (dedupA l), ?_, rfl⟩
        rw [e]
        simp only [Option.bind_some, slices_CompactFunc_SSint_Sint_n1.k19]
        have e2 : (List.take kk y ++ List.replicate (List.length y - kk) ([] : List Int)).length = l.length := by
          rw [List.length_append, List.length_take, List.length_replicate]
          omega
        rw [chk_pos (by omega), chk_pos (by omega), chk_pos (by rw [e2]; omega), List.take_append_of_le_length (by rw [List.length_take]; omega), List.take_take, Nat.min_self, g3]
      · left
        rw [if_neg h6] at hst
        refine ⟨k + 1, by rw [decide_eq_false h6]; rfl, ⟨by omega, by omega, ?_⟩, by omega⟩
        rw [hst, h4, take_step hx]
    · right
      have e : k = l.length := by omega
      subst e
      refine ⟨.inl (), ?_, ?_⟩
      · rw [dec_end]; rfl
      · rw [List.take_length] at h4
        rw [h4]
        rfl) fuel 1 ⟨Nat.le_refl _, by omega, dedupA_short (by rw [List.length_take]; omega)⟩ (by have := fuel_big; omega)
  obtain ⟨r, e, hr⟩ := key
  rw [e]
  exact hr

theorem libclone_word {w : List Int} (h : SmW w) : lib_Clone_int w = some w := by
  unfold lib_Clone_int libClone
  exact chk_pos (by unfold SmW at h; unfold capOk; omega)
theorem libclone_words {l : List (List Int)} (h : l.length ≤ 2000000) : lib_Clone_words l = some l := by
  unfold lib_Clone_words libClone
  exact chk_pos (by unfold capOk; omega)

theorem ordered_eq {cf : List Int → List Int → Int} (T : TotalCmp cf) {f : List Int → List Int → Option Int} {l : List (List Int)} (hl : SmL l) (hf : ∀ a ∈ l, ∀ b ∈ l, f a b = some (cf a b)) :
    ∃ S, wordset_ordered l f = some S ∧ S.Pairwise (fun a b => cf a b = -1) ∧ (∀ x, x ∈ S ↔ x ∈ l) ∧ S.length ≤ l.length := by
  have hl1 : l.length ≤ 2000000 := hl.1
  obtain ⟨S, e1, hp, hs⟩ := libSort_eq T (by omega : l.length ≤ 1000000000) hf
  obtain ⟨d1, d2⟩ := dedup_asc T hs
  have hm : ∀ x, x ∈ dedupA S ↔ x ∈ l := fun x => by rw [d2, hp.mem_iff]
  have hlen : (dedupA S).length ≤ l.length := by
    have := dedupA_length S
    rw [hp.length_eq] at this
    exact this
  refine ⟨dedupA S, ?_, d1, hm, hlen⟩
  unfold wordset_ordered lib_SortFunc_words
  rw [libclone_words hl1]
  simp only [Option.bind_some]
  rw [e1]
  simp only [Option.bind_some]
  rw [compact_eq (by rw [hp.length_eq]; omega) (fun a ha b hb => by
    unfold wordset_ordered_1
    rw [hf a (hp.mem_iff.1 ha) b (hp.mem_iff.1 hb)]
    simp only [Option.bind_some]
    congr 1
    exact decide_eq_decide.2 (T.zero a b))]
  simp only [Option.bind_some]
  rw [iter_eq (r := dedupA S) (fun s => s.1 = dedupA S) (fun s => (dedupA S).length - s.2) (fun s h1 => by
    simp only [wordset_ordered.s2]
    by_cases h3 : s.2 < (dedupA S).length
    · left
      have hx := get_at h3
      have hxs : SmW ((dedupA S)[s.2]) := hl.2 _ ((hm _).1 (List.getElem_mem _))
      refine ⟨(dedupA S, s.2 + 1), ?_, rfl, by simp only; omega⟩
      rw [dec_lt hx, cond_true, h1, idxn_at hx, libclone_word hxs]
      simp only [Option.bind_some]
      rw [idxn_at hx, chk_pos (by unfold inR; omega), List.set_getElem_self]
    · right
      rw [decide_eq_false (by omega), cond_false, h1]) (s := (dedupA S, 0)) rfl (by have := fuel_big; simp only; omega)]
  rfl

theorem wordset_Sorted_eq {l : List (List Int)} (hl : SmL l) : wordset_Sorted l = some (sortW l) := by
  obtain ⟨S, e, h1, h2, _⟩ := ordered_eq cmpW_total (f := fun u0 u1 => word_Compare u0 u1) hl fun a ha b hb => word_Compare_eq a b (by have : SmW a := hl.2 a ha; unfold SmW at this; omega)
  unfold wordset_Sorted
  rw [e]
  show some S = _
  congr 1
  exact asc_ext h1 (sortW_asc l) fun x => by rw [h2, mem_sortW]

theorem sml_sort {l : List (List Int)} (h : SmL l) : SmL (sortW l) := ⟨Nat.le_trans (sortW_length l) h.1, fun x hx => h.2 x ((mem_sortW l x).1 hx)⟩
theorem wordset_Union_eq {ls : List (List (List Int))} (h0 : ls.length ≤ 100000000) (hl : SmL ls.flatten) : wordset_Union ls = some (sortW ls.flatten) := by
  unfold wordset_Union
  rw [concat_words ls h0 (by have := hl.1; omega)]
  simp only [Option.bind_some]
  rw [wordset_Sorted_eq hl]
  rfl

end Go.Proofs.YtpmebphhbgpapaaGreatDoor.Sym

/-
  Tables that grow: the program's Prefix and Suffix are the document's. Plain laws.
-/
namespace Go.Proofs.YtpmebphhbgpapaaGreatDoor.Sym
set_option maxRecDepth 100000

theorem preL_take_len {l : List (List Int)} (i : Nat) : (preL (l.take i)).length ≤ (preL l).length := by
  unfold preL
  rw [List.flatMap_def, List.flatMap_def, List.map_take]
  exact flat_take_len i

/-- The prefixes of words, as the program lists them. -/
theorem wordset_Prefixes_eq {l : List (List Int)} (hl : SmL l) (hp : SmL (preL l)) : wordset_Prefixes l = some (sortW (preL l)) := by
  have hl1 : l.length ≤ 2000000 := hl.1
  have hp1 : (preL l).length ≤ 2000000 := hp.1
  unfold wordset_Prefixes wordset_parts
  rw [iter_eq (r := preL l) (fun s => s.2 ≤ l.length ∧ s.1 = preL (l.take s.2)) (fun s => l.length - s.2) (fun s ⟨h1, h2⟩ => by
    obtain ⟨y, i⟩ := s
    simp only at h1 h2
    subst h2
    simp only [wordset_parts.s14]
    by_cases h3 : i < l.length
    · left
      have hx := get_at h3
      have hxs : SmW l[i] := hl.2 _ (List.getElem_mem _)
      have hx1 : l[i].length ≤ 2000000 := hxs
      have hst := preL_step hx
      have hle := preL_take_len (l := l) (i + 1)
      rw [hst, List.length_append, prefixes_length] at hle
      refine ⟨(preL (l.take (i + 1)), i + 1), ?_, ⟨h3, rfl⟩, by simp only; omega⟩
      rw [dec_lt hx, cond_true, idxn_at hx, chk_pos (by unfold inR; omega)]
      rw [iter_eq (r := preL (l.take i) ++ prefixes l[i]) (fun s => s.2 ≤ l[i].length + 1 ∧ s.1 = preL (l.take i) ++ (prefixes l[i]).take s.2) (fun s => l[i].length + 1 - s.2) (fun s ⟨g1, g2⟩ => by
        obtain ⟨y, k⟩ := s
        simp only at g1 g2
        subst g2
        simp only [wordset_parts.s13, wordset_Prefixes_1]
        by_cases g3 : k < l[i].length + 1
        · left
          refine ⟨(preL (l.take i) ++ (prefixes l[i]).take (k + 1), k + 1), ?_, ⟨g3, rfl⟩, by simp only; omega⟩
          rw [decide_eq_true (by omega), cond_true, chk_pos (by omega), Int.toNat_natCast]
          simp only [obind]
          rw [chk_pos (by
            rw [List.length_append, List.length_take, prefixes_length]
            unfold capOk
            omega), chk_pos (by unfold inR; omega), prefixes_take _ (by omega), List.append_assoc]
        · right
          have e : k = l[i].length + 1 := by omega
          subst e
          rw [decide_eq_false (by omega), cond_false, ← prefixes_length, List.take_length]) (s := (preL (l.take i), 0)) ⟨Nat.zero_le _, by simp⟩ (by have := fuel_big; simp only; omega)]
      rw [hst]
      rfl
    · right
      have e : i = l.length := by omega
      subst e
      rw [decide_eq_false (by omega), cond_false, List.take_length]) (s := ([], 0)) ⟨Nat.zero_le _, by simp [preL]⟩ (by have := fuel_big; simp only; omega)]
  simp only [obind]
  rw [wordset_Sorted_eq hp]
  rfl

theorem two_flat (a b : List (List Int)) : [a, b].flatten = a ++ b := by simp
theorem sml_append {a b : List (List Int)} (h : a.length + b.length ≤ 2000000) (ha : SmL a) (hb : SmL b) : SmL (a ++ b) :=
  ⟨by rw [List.length_append]; exact h, fun x hx => (List.mem_append.1 hx).elim (ha.2 x) (hb.2 x)⟩
theorem sml_nil : SmL [] := ⟨by simp, fun x hx => by cases hx⟩

/-- The table with more, if it is valid. -/
def growT (t : T_api_Table) (p s : List (List Int)) : T_api_Table × Int :=
  if validT ⟨t.Inputs, sortW (t.Prefixes ++ p), sortW (t.Suffixes ++ s)⟩ ≠ 0 then (t, validT ⟨t.Inputs, sortW (t.Prefixes ++ p), sortW (t.Suffixes ++ s)⟩) else (⟨t.Inputs, sortW (t.Prefixes ++ p), sortW (t.Suffixes ++ s)⟩, 0)
def prefixT (t : T_api_Table) (w : List Int) : T_api_Table × Int :=
  if validT t ≠ 0 then (t, validT t) else if checkI w t.Inputs ≠ 0 then (t, checkI w t.Inputs) else growT t (sortW (preL [w])) []
def suffixT (t : T_api_Table) (w : List Int) : T_api_Table × Int :=
  if validT t ≠ 0 then (t, validT t) else if w.length = 0 then (t, 19) else if checkI w t.Inputs ≠ 0 then (t, checkI w t.Inputs) else growT t [] [w]

theorem smt_grow {t : T_api_Table} {p s : List (List Int)} (ht : SmT t) (hp : SmL p) (hs : SmL s) (h3 : t.Prefixes.length + p.length ≤ 2000000) (h4 : t.Suffixes.length + s.length ≤ 2000000) (hr : ∀ x ∈ p, ∀ a ∈ x, inR a) :
    SmT ⟨t.Inputs, sortW (t.Prefixes ++ p), sortW (t.Suffixes ++ s)⟩ :=
  ⟨ht.1, sml_sort (sml_append h3 ht.2.1 hp), sml_sort (sml_append h4 ht.2.2.1 hs), fun x hx => by
    rcases List.mem_append.1 ((mem_sortW _ _).1 hx) with h | h
    · exact ht.2.2.2 x h
    · exact hr x h⟩

theorem table_checked_eq {t u : T_api_Table} (hu : SmT u) : table_checked t u = some (if validT u ≠ 0 then (t, validT u) else (u, 0)) := by
  unfold table_checked
  rw [table_Valid_eq u hu]
  by_cases h : validT u = 0 <;> simp [h]

theorem preL_one (w : List Int) : preL [w] = prefixes w := by simp [preL]
theorem sml_pre {w : List Int} (hw : w.length ≤ 100000) : SmL (preL [w]) := by
  rw [preL_one]
  refine ⟨by rw [prefixes_length]; omega, fun x hx => ?_⟩
  unfold prefixes at hx
  obtain ⟨k, _, rfl⟩ := List.mem_map.1 hx
  show (w.take k).length ≤ 2000000
  rw [List.length_take]
  omega
theorem sml_one {w : List Int} (hw : w.length ≤ 100000) : SmL [w] := ⟨by simp, fun x hx => by rcases List.mem_singleton.1 hx with rfl; show x.length ≤ 2000000; omega⟩

theorem table_Prefix_eq {t : T_api_Table} {w : List Int} (ht : SmT t) (hw : w.length ≤ 100000) (hr : ∀ a ∈ w, inR a) (h3 : t.Prefixes.length + 200000 ≤ 2000000) : table_Prefix t w = some (prefixT t w) := by
  unfold table_Prefix prefixT
  have hpl : (sortW (preL [w])).length ≤ 100001 := by
    have := sortW_length (preL [w])
    rw [preL_one, prefixes_length] at this
    rw [preL_one]
    omega
  have hsp := sml_sort (sml_pre hw)
  rw [table_Valid_eq t ht, word_Check_eq w _ (by unfold SmW; omega), wordset_Prefixes_eq (sml_one hw) (sml_pre hw)]
  simp only [obind]
  by_cases h1 : validT t = 0
  · by_cases h2 : checkI w t.Inputs = 0
    · rw [decide_eq_false (by simpa using h1), decide_eq_false (by simpa using h2), if_neg (by simpa using h1), if_neg (by simpa using h2), cond_false, cond_false]
      rw [wordset_Union_eq (by simp) (by rw [two_flat]; exact sml_append (by omega) ht.2.1 hsp), wordset_Sorted_eq ht.2.2.1, two_flat]
      simp only [obind]
      have hg := smt_grow (s := []) ht hsp sml_nil (by omega) (by have := ht.2.2.1.1; simp; omega) (fun x hx a ha => by
        have hx := (mem_sortW _ _).1 hx
        rw [preL_one] at hx
        unfold prefixes at hx
        obtain ⟨k, _, rfl⟩ := List.mem_map.1 hx
        exact hr a (List.mem_of_mem_take ha))
      rw [List.append_nil] at hg
      rw [table_checked_eq hg]
      unfold growT
      rw [List.append_nil]
      rfl
    · rw [decide_eq_false (by simpa using h1), decide_eq_true h2, if_neg (by simpa using h1), if_pos h2, cond_false, cond_true]
  · rw [decide_eq_true h1, if_pos h1, cond_true]

theorem table_Suffix_eq {t : T_api_Table} {w : List Int} (ht : SmT t) (hw : w.length ≤ 100000) (h3 : t.Suffixes.length + 200000 ≤ 2000000) : table_Suffix t w = some (suffixT t w) := by
  unfold table_Suffix suffixT
  rw [table_Valid_eq t ht, word_Check_eq w _ (by unfold SmW; omega)]
  simp only [obind]
  by_cases h1 : validT t = 0
  · rw [decide_eq_false (by simpa using h1), if_neg (by simpa using h1), cond_false]
    by_cases h0 : w.length = 0
    · rw [decide_eq_true (by omega), cond_true, if_pos h0]
    · rw [decide_eq_false (by omega), cond_false, if_neg h0]
      by_cases h2 : checkI w t.Inputs = 0
      · rw [decide_eq_false (by simpa using h2), if_neg (by simpa using h2), cond_false]
        rw [wordset_Union_eq (by simp) (by rw [two_flat]; exact sml_append (by simp; omega) ht.2.2.1 (sml_one hw)), wordset_Sorted_eq ht.2.1, two_flat]
        simp only [obind]
        have hg := smt_grow (p := []) (s := [w]) ht sml_nil (sml_one hw) (by have := ht.2.1.1; simp; omega) (by simp; omega) (fun x hx => by cases hx)
        rw [List.append_nil] at hg
        rw [table_checked_eq hg]
        unfold growT
        rw [List.append_nil]
        rfl
      · rw [decide_eq_true h2, if_pos h2, cond_true]
  · rw [decide_eq_true h1, if_pos h1, cond_true]

/-- What is larger than what is examined. -/
theorem L23_Long_eq (l : List (List Int)) (m : Int) (hl : l.length ≤ 2000000) : L23_Long l m = some (decide (m < ↑l.length) || !l.all fun x => decide (x.length ≤ 30)) := by
  unfold L23_Long
  by_cases h : m < ↑l.length
  · rw [decide_eq_true h, cond_true]; rfl
  · have key := iter_scan (step := fun s => L23_Long.s2 l s) (l := l) (fun _ x => if decide (x.length ≤ 30) = true then none else some true) (fun i x hx => by
      simp only [L23_Long.s2]
      rw [dec_lt hx, cond_true, idxn_at hx]
      by_cases h1 : x.length ≤ 30
      · rw [decide_eq_false (by omega), cond_false, decide_eq_true h1]; rfl
      · rw [decide_eq_true (by omega), cond_true, decide_eq_false h1]; rfl) (by
      simp only [L23_Long.s2]
      rw [dec_end]
      rfl) (by omega)
    rw [decide_eq_false h, cond_false, key, scan_all (p := fun (x : List Int) => decide (x.length ≤ 30))]
    cases (l.all fun x => decide (x.length ≤ 30)) <;> rfl
def greatT (t : T_api_Table) (o : T_api_Obs) : Bool :=
  decide (4 < t.Inputs) || (decide (30 < t.Prefixes.length) || !t.Prefixes.all fun x => decide (x.length ≤ 30)) || (decide (12 < t.Suffixes.length) || !t.Suffixes.all fun x => decide (x.length ≤ 30)) || decide (400 < o.Traces.length) || !o.Traces.all fun x => decide (x.In.length ≤ 90)
theorem L23_Great_eq (t : T_api_Table) (o : T_api_Obs) (h1 : t.Prefixes.length ≤ 2000000) (h2 : t.Suffixes.length ≤ 2000000) (h3 : o.Traces.length ≤ 2000000) : L23_Great t o = some (greatT t o) := by
  unfold L23_Great greatT
  rw [L23_Long_eq _ _ h1, L23_Long_eq _ _ h2]
  have e1 : ((30 : Int) < ↑t.Prefixes.length) ↔ 30 < t.Prefixes.length := by omega
  have e2 : ((12 : Int) < ↑t.Suffixes.length) ↔ 12 < t.Suffixes.length := by omega
  have e3 : ((400 : Int) < ↑o.Traces.length) ↔ 400 < o.Traces.length := by omega
  simp only [e1, e2, e3, obind]
  have key := iter_scan (step := fun s => L23_Great.s2 o s) (l := o.Traces) (fun _ x => if decide (x.In.length ≤ 90) = true then none else some true) (fun i x hx => by
    simp only [L23_Great.s2]
    rw [dec_lt hx, cond_true, idxn_at hx]
    by_cases h1 : x.In.length ≤ 90
    · rw [decide_eq_false (by omega), cond_false, decide_eq_true h1]; rfl
    · rw [decide_eq_true (by omega), cond_true, decide_eq_false h1]; rfl) (by
    simp only [L23_Great.s2]
    rw [dec_end]
    rfl) (by omega)
  rw [key, scan_all (p := fun (x : T_api_Trace) => decide (x.In.length ≤ 90))]
  cases decide (4 < t.Inputs) <;> cases (decide (30 < t.Prefixes.length) || !t.Prefixes.all fun x => decide (x.length ≤ 30)) <;> cases (decide (12 < t.Suffixes.length) || !t.Suffixes.all fun x => decide (x.length ≤ 30)) <;> cases decide (400 < o.Traces.length) <;> cases (o.Traces.all fun x => decide (x.In.length ≤ 90)) <;> rfl

theorem growT_sml {t : T_api_Table} {p s : List (List Int)} (ht : SmT t) (hp : SmL p) (hs : SmL s) (h3 : t.Prefixes.length + p.length ≤ 2000000) (h4 : t.Suffixes.length + s.length ≤ 2000000) : SmL (growT t p s).1.Prefixes ∧ SmL (growT t p s).1.Suffixes := by
  unfold growT
  split
  · exact ⟨ht.2.1, ht.2.2.1⟩
  · exact ⟨sml_sort (sml_append h3 ht.2.1 hp), sml_sort (sml_append h4 ht.2.2.1 hs)⟩

end Go.Proofs.YtpmebphhbgpapaaGreatDoor.Sym

/-
  The law of TableGrows, for arguments within the bound.
-/
namespace Go.Proofs.YtpmebphhbgpapaaGreatDoor.Sym
end Go.Proofs.YtpmebphhbgpapaaGreatDoor.Sym

/-
  Observations: what makes them valid, and their answers. Plain laws.
-/
namespace Go.Proofs.YtpmebphhbgpapaaGreatDoor.Sym
set_option maxRecDepth 100000

/-- Observations of a size that fits. -/
def SmO (o : T_api_Obs) : Prop := o.Traces.length ≤ 1100000 ∧ ∀ t ∈ o.Traces, t.In.length ≤ 1100000 ∧ t.Out.length ≤ 2000000

theorem R01_HasPrefix_eq (w p : List Int) (hw : SmW w) : R01_HasPrefix w p = some (decide (p <+: w)) := by
  unfold R01_HasPrefix
  rw [R01_Common_eq w p hw, obind]
  congr 1
  exact decide_eq_decide.2 (by rw [← prefix_iff w p]; omega)

theorem word_Common_eq (a b : List Int) (ha : SmW a) : word_Common a b = some (common a b : Int) := by
  have ha' : a.length ≤ 2000000 := ha
  have hle := common_le a b
  unfold word_Common
  have key := iter_post (step := fun k => word_Common.s2 a b k) (fun k => k ≤ a.length ∧ k ≤ b.length ∧ common a b = common (a.drop k) (b.drop k) + k) (fun k => a.length - k) (fun r => Sum.elim (fun (_ : Unit) => some (min (↑(List.length a) : Int) (↑(List.length b) : Int))) some r = some (common a b : Int)) (fun k ⟨h1, h2, h3⟩ => by
    simp only [word_Common.s2]
    by_cases h4 : k < a.length ∧ k < b.length
    · have hx := get_at h4.1
      have hy := get_at h4.2
      rw [decide_eq_true (show (↑k : Int) < min (↑(List.length a) : Int) (↑(List.length b) : Int) by omega), cond_true, idxn_at hx, idxn_at hy]
      rw [List.drop_eq_getElem_cons h4.1, List.drop_eq_getElem_cons h4.2] at h3
      by_cases e : a[k] = b[k]
      · left
        refine ⟨k + 1, by simp [e], ⟨h4.1, h4.2, ?_⟩, by omega⟩
        rw [h3, e]
        simp [common]
        omega
      · right
        simp only [common, e, if_false, Nat.zero_add] at h3
        exact ⟨.inr (k : Int), by simp [e], by rw [h3]; rfl⟩
    · right
      rw [decide_eq_false (by omega), cond_false]
      refine ⟨.inl (), rfl, ?_⟩
      rw [common_end (by omega), Nat.zero_add] at h3
      simp only [Sum.elim_inl]
      congr 1
      omega) fuel 0 ⟨Nat.zero_le _, Nat.zero_le _, by simp⟩ (by have := fuel_big; omega)
  obtain ⟨r, e, hq⟩ := key
  rw [e]
  exact hq
theorem word_HasPrefix_eq (w p : List Int) (hw : SmW w) : word_HasPrefix w p = some (decide (p <+: w)) := by
  unfold word_HasPrefix
  rw [word_Common_eq w p hw, obind]
  congr 1
  exact decide_eq_decide.2 (by rw [← prefix_iff w p]; omega)

/-- A trace of proper form. -/
def PropT (n : Int) (t : T_api_Trace) : Prop := checkI t.In n = 0 ∧ t.Out.length = t.In.length ∧ ∀ y ∈ t.Out, 0 ≤ y ∧ y ≤ 1048576

theorem R16_Proper_tot (t : T_api_Trace) (n : Int) (h1 : SmW t.In) (h2 : SmW t.Out) : ∃ e, R16_Proper t n = some e ∧ (e = 0 → PropT n t) := by
  unfold R16_Proper
  rw [R01_Check_eq _ _ h1, obind]
  by_cases g1 : checkI t.In n = 0
  · rw [decide_eq_false (by simpa using g1), cond_false]
    by_cases g2 : t.Out.length = t.In.length
    · rw [decide_eq_false (by omega), cond_false]
      have key := iter_scan (step := fun s => R16_Proper.s2 t s) (l := t.Out) (fun _ y => if decide (0 ≤ y ∧ y ≤ 1048576) = true then none else some (2 : Int)) (fun i y hy => by
        simp only [R16_Proper.s2]
        rw [dec_lt hy, cond_true, idxn_at hy, idxn_at hy]
        by_cases a1 : y < 0
        · rw [decide_eq_true a1, cond_true, obind, cond_true, decide_eq_false (show ¬ (0 ≤ y ∧ y ≤ 1048576) by omega)]; rfl
        · by_cases a2 : 1048576 < y
          · rw [decide_eq_false a1, cond_false, decide_eq_true a2, obind, cond_true, decide_eq_false (show ¬ (0 ≤ y ∧ y ≤ 1048576) by omega)]; rfl
          · rw [decide_eq_false a1, cond_false, decide_eq_false a2, obind, cond_false, decide_eq_true (show (0 ≤ y ∧ y ≤ 1048576) by omega)]; rfl) (by
        simp only [R16_Proper.s2]
        rw [dec_end]
        rfl) (by unfold SmW at h2; omega)
      rw [key, scan_all (p := fun y => decide (0 ≤ y ∧ y ≤ 1048576))]
      by_cases h : (t.Out.all fun y => decide (0 ≤ y ∧ y ≤ 1048576)) = true
      · rw [if_pos h]
        exact ⟨0, rfl, fun _ => ⟨g1, g2, fun y hy => of_decide_eq_true (List.all_eq_true.1 h y hy)⟩⟩
      · rw [if_neg h]
        exact ⟨2, rfl, fun e => by cases e⟩
    · rw [decide_eq_true (by omega), cond_true]
      exact ⟨1, rfl, fun e => by cases e⟩
  · rw [decide_eq_true g1, cond_true]
    exact ⟨_, rfl, fun e => absurd e g1⟩

/-- Where two traces go together they have one output. -/
def Agree (a b : T_api_Trace) : Prop := a.Out.take (common a.In b.In) = b.Out.take (common a.In b.In)

theorem R16_Differ_tot (a b : T_api_Trace) {n : Int} (ha : PropT n a) (hb : PropT n b) (h1 : SmW a.In) : ∃ d, R16_Differ a b = some d ∧ (¬ 0 ≤ d → Agree a b) := by
  have h1' : a.In.length ≤ 2000000 := h1
  have hc := common_le a.In b.In
  have la := ha.2.1
  have lb := hb.2.1
  unfold R16_Differ
  rw [R01_Common_eq _ _ h1, obind]
  have key := iter_post (step := fun k => R16_Differ.s2 a b (↑(common a.In b.In) : Int) k) (fun k => k ≤ common a.In b.In ∧ a.Out.take k = b.Out.take k) (fun k => common a.In b.In - k) (fun r => match r with | .inl () => Agree a b | .inr d => 0 ≤ d) (fun k ⟨g1, g2⟩ => by
    simp only [R16_Differ.s2]
    by_cases g3 : k < common a.In b.In
    · have hx := get_at (l := a.Out) (i := k) (by omega)
      have hy := get_at (l := b.Out) (i := k) (by omega)
      rw [decide_eq_true (by omega), cond_true, idxn_at hx, idxn_at hy]
      by_cases e : a.Out[k]'(by omega) = b.Out[k]'(by omega)
      · left
        refine ⟨k + 1, by rw [decide_eq_false (by simpa using e), cond_false, chk_pos (by unfold inR; omega)], ⟨g3, ?_⟩, by omega⟩
        rw [take_step hx, take_step hy, g2, e]
      · right
        exact ⟨.inr (k : Int), by rw [decide_eq_true e, cond_true], by simp⟩
    · right
      have e : k = common a.In b.In := by omega
      subst e
      exact ⟨.inl (), by rw [decide_eq_false (by omega), cond_false], g2⟩) fuel 0 ⟨Nat.zero_le _, by simp⟩ (by have := fuel_big; omega)
  obtain ⟨r, e, hq⟩ := key
  rw [e]
  cases r with
  | inl u => exact ⟨-1, rfl, fun _ => hq⟩
  | inr d => exact ⟨d, rfl, fun h => absurd hq h⟩

/-- Valid observations. -/
structure ObsOk (o : T_api_Obs) : Prop where
  inp : 1 ≤ o.Inputs ∧ o.Inputs ≤ 64
  num : o.Traces.length ≤ 10000
  prop : ∀ t ∈ o.Traces, PropT o.Inputs t ∧ t.In ≠ []
  asc : ∀ (i j : Nat) a b, i < j → o.Traces[i]? = some a → o.Traces[j]? = some b → cmpW a.In b.In = -1
  apart : ∀ (i j : Nat) a b, i < j → o.Traces[i]? = some a → o.Traces[j]? = some b → ¬ a.In <+: b.In ∧ Agree a b

theorem R16_apart_tot (o : T_api_Obs) (ho : SmO o) (hp : ∀ t ∈ o.Traces, PropT o.Inputs t) : ∃ e, R16_apart o = some e ∧ (e = 0 → ∀ (i j : Nat) a b, i < j → o.Traces[i]? = some a → o.Traces[j]? = some b → ¬ a.In <+: b.In ∧ Agree a b) := by
  obtain ⟨hl, hs⟩ := ho
  unfold R16_apart
  have inner : ∀ (i : Nat) (a : T_api_Trace), o.Traces[i]? = some a → ∃ p c, iter (fun (s : Bool × Bool × Nat) => R16_apart.s30 o i s.1 s.2.1 s.2.2) fuel (false, false, i + 1) = some (p, c) ∧ (p = false → c = false → ∀ j b, i < j → o.Traces[j]? = some b → ¬ a.In <+: b.In ∧ Agree a b) := by
    intro i a ha
    have hi := (List.getElem?_eq_some_iff.1 ha).1
    have ham := List.mem_of_getElem? ha
    have key := iter_post (step := fun (s : Bool × Bool × Nat) => R16_apart.s30 o i s.1 s.2.1 s.2.2) (fun s => i < s.2.2 ∧ s.2.2 ≤ o.Traces.length ∧ (s.1 = false → s.2.1 = false → ∀ j b, i < j → j < s.2.2 → o.Traces[j]? = some b → ¬ a.In <+: b.In ∧ Agree a b)) (fun s => o.Traces.length - s.2.2) (fun r => r.1 = false → r.2 = false → ∀ j b, i < j → o.Traces[j]? = some b → ¬ a.In <+: b.In ∧ Agree a b) (fun s ⟨g1, g2, g3⟩ => by
      obtain ⟨p, c, k⟩ := s
      simp only at g1 g2 g3
      simp only [R16_apart.s30]
      by_cases g4 : k < o.Traces.length
      · left
        have hx := get_at g4
        have hxm := List.getElem_mem g4
        have sx : SmW o.Traces[k].In := by have := (hs _ hxm).1; unfold SmW; omega
        have sa : SmW a.In := by have := (hs _ ham).1; unfold SmW; omega
        obtain ⟨d, hd, hd2⟩ := R16_Differ_tot a o.Traces[k] (hp a ham) (hp _ hxm) sa
        have hc1 : (cond p (some true) (idxn o.Traces k fun e743 => idxn o.Traces i fun e744 => (R01_HasPrefix e743.In e744.In).bind fun c745 => some c745) : Option Bool) = some (p || decide (a.In <+: o.Traces[k].In)) := by
          cases p with
          | true => rfl
          | false =>
            rw [cond_false, idxn_at hx, idxn_at ha, R01_HasPrefix_eq _ _ sx, obind]
            rfl
        rw [dec_lt hx, cond_true, hc1, obind]
        cases c with
        | true =>
          refine ⟨(p || decide (a.In <+: o.Traces[k].In), true, k + 1), rfl, ⟨by simp only; omega, by simp only; omega, fun _ h => by cases h⟩, by simp only; omega⟩
        | false =>
          rw [cond_false, idxn_at ha, idxn_at hx, hd, obind]
          refine ⟨(p || decide (a.In <+: o.Traces[k].In), decide (0 ≤ d), k + 1), rfl, ⟨by simp only; omega, by simp only; omega, fun h1 h2 j b hj1 hj2 hb => ?_⟩, by simp only; omega⟩
          simp only [Bool.or_eq_false_iff] at h1
          rcases Nat.lt_or_ge j k with h | h
          · exact g3 h1.1 rfl j b hj1 h hb
          · simp only at hj2
            have e : j = k := by omega
            subst e
            rw [hx] at hb
            injection hb with hb
            subst hb
            exact ⟨of_decide_eq_false h1.2, hd2 (of_decide_eq_false h2)⟩
      · right
        have e : k = o.Traces.length := by omega
        refine ⟨(p, c), by rw [decide_eq_false (by omega), cond_false], fun h1 h2 j b hj hb => g3 h1 h2 j b hj ?_ hb⟩
        have := (List.getElem?_eq_some_iff.1 hb).1
        omega) fuel (false, false, i + 1) ⟨by simp only; omega, by simp only; omega, fun _ _ j b h1 h2 => by simp only at h2; omega⟩ (by have := fuel_big; simp only; omega)
    obtain ⟨⟨p, c⟩, e, hq⟩ := key
    exact ⟨p, c, e, hq⟩
  have key := iter_post (step := fun i => R16_apart.s32 o i) (fun i => i ≤ o.Traces.length ∧ ∀ i' j a b, i' < i → i' < j → o.Traces[i']? = some a → o.Traces[j]? = some b → ¬ a.In <+: b.In ∧ Agree a b) (fun i => o.Traces.length - i) (fun r => match r with | .inl () => ∀ (i j : Nat) a b, i < j → o.Traces[i]? = some a → o.Traces[j]? = some b → ¬ a.In <+: b.In ∧ Agree a b | .inr e => e ≠ 0) (fun i ⟨g1, g2⟩ => by
    simp only [R16_apart.s32]
    by_cases g3 : i < o.Traces.length
    · have hx := get_at g3
      obtain ⟨p, c, e, hq⟩ := inner i _ hx
      rw [dec_lt hx, cond_true, e, obind]
      simp only [R16_apart.k31]
      cases p with
      | true => exact .inr ⟨.inr 7, rfl, (show (7 : Int) ≠ 0 by decide)⟩
      | false =>
        cases c with
        | true => exact .inr ⟨.inr 13, rfl, (show (13 : Int) ≠ 0 by decide)⟩
        | false =>
          left
          refine ⟨i + 1, rfl, ⟨g3, fun i' j a b h1 h2 ha hb => ?_⟩, by omega⟩
          rcases Nat.lt_or_ge i' i with h | h
          · exact g2 i' j a b h h2 ha hb
          · have e : i' = i := by omega
            subst e
            rw [hx] at ha
            injection ha with ha
            subst ha
            exact hq rfl rfl j b h2 hb
    · right
      refine ⟨.inl (), by rw [decide_eq_false (by omega), cond_false], fun i' j a b h ha hb => g2 i' j a b ?_ h ha hb⟩
      have := (List.getElem?_eq_some_iff.1 ha).1
      omega) fuel 0 ⟨Nat.zero_le _, fun i' j a b h => by omega⟩ (by have := fuel_big; omega)
  obtain ⟨r, e, hq⟩ := key
  rw [e]
  cases r with
  | inl u => exact ⟨0, rfl, fun _ => hq⟩
  | inr e' => exact ⟨e', rfl, fun h => absurd h hq⟩

theorem R16_Valid_tot (o : T_api_Obs) (ho : SmO o) : ∃ e, R16_Valid o = some e ∧ (e = 0 → ObsOk o) := by
  obtain ⟨hl, hs⟩ := ho
  unfold R16_Valid
  by_cases h1 : o.Inputs < 1
  · rw [decide_eq_true h1, cond_true, obind, cond_true]
    exact ⟨2, rfl, fun e => by cases e⟩
  by_cases h2 : 64 < o.Inputs
  · rw [decide_eq_false h1, cond_false, decide_eq_true h2, obind, cond_true]
    exact ⟨2, rfl, fun e => by cases e⟩
  rw [decide_eq_false h1, cond_false, decide_eq_false h2, obind, cond_false]
  by_cases h3 : 10000 < o.Traces.length
  · rw [decide_eq_true (by omega), cond_true]
    exact ⟨11, rfl, fun e => by cases e⟩
  rw [decide_eq_false (by omega), cond_false]
  have key := iter_post (step := fun i => R16_Valid.s2 o i) (fun i => i ≤ o.Traces.length ∧ (∀ j t, j < i → o.Traces[j]? = some t → PropT o.Inputs t ∧ t.In ≠ []) ∧ ∀ j a b, j + 1 < i → o.Traces[j]? = some a → o.Traces[j + 1]? = some b → cmpW a.In b.In = -1) (fun i => o.Traces.length - i)
    (fun r => match r with | .inl () => (∀ t ∈ o.Traces, PropT o.Inputs t ∧ t.In ≠ []) ∧ ∀ (j : Nat) a b, o.Traces[j]? = some a → o.Traces[j + 1]? = some b → cmpW a.In b.In = -1 | .inr e => e ≠ 0) (fun i ⟨g1, g2, g3⟩ => by
    simp only [R16_Valid.s2]
    by_cases g4 : i < o.Traces.length
    · have hx := get_at g4
      have hxm := List.getElem_mem g4
      have sx : SmW o.Traces[i].In := by have := (hs _ hxm).1; unfold SmW; omega
      obtain ⟨e, he, he2⟩ := R16_Proper_tot o.Traces[i] o.Inputs sx (hs _ hxm).2
      rw [dec_lt hx, cond_true, idxn_at hx, R01_Check_eq _ _ sx, obind]
      by_cases g5 : checkI o.Traces[i].In o.Inputs = 0
      · rw [decide_eq_false (by simpa using g5), cond_false]
        by_cases g6 : o.Traces[i].In.length = 0
        · rw [decide_eq_true (by omega), cond_true]
          exact .inr ⟨.inr 19, rfl, (show (19 : Int) ≠ 0 by decide)⟩
        · rw [decide_eq_false (by omega), cond_false, he, obind]
          by_cases g7 : e = 0
          · rw [decide_eq_false (by simpa using g7), cond_false]
            have hP := he2 g7
            have fin : ∀ b : Bool, (b = false → 0 < i → ∀ a, o.Traces[i - 1]? = some a → cmpW a.In o.Traces[i].In = -1) → (∃ s', (some b).bind (fun (y160 : Bool) => cond y160 (some (.inr (.inr 10))) (some (.inl (i + 1)))) = some (.inl s' : Nat ⊕ (Unit ⊕ Int)) ∧ (s' ≤ o.Traces.length ∧ (∀ j t, j < s' → o.Traces[j]? = some t → PropT o.Inputs t ∧ t.In ≠ []) ∧ ∀ j a b, j + 1 < s' → o.Traces[j]? = some a → o.Traces[j + 1]? = some b → cmpW a.In b.In = -1) ∧ o.Traces.length - s' < o.Traces.length - i) ∨ ∃ r, (some b).bind (fun (y160 : Bool) => cond y160 (some (.inr (.inr 10))) (some (.inl (i + 1)))) = some (.inr r : Nat ⊕ (Unit ⊕ Int)) ∧ (match r with | .inl () => (∀ t ∈ o.Traces, PropT o.Inputs t ∧ t.In ≠ []) ∧ ∀ (j : Nat) a b, o.Traces[j]? = some a → o.Traces[j + 1]? = some b → cmpW a.In b.In = -1 | .inr e => e ≠ 0) := by
              intro b hb
              cases b with
              | true => exact .inr ⟨.inr 10, rfl, (show (10 : Int) ≠ 0 by decide)⟩
              | false =>
                left
                refine ⟨i + 1, rfl, ⟨g4, fun j t hj ht => ?_, fun j a b hj ha hb' => ?_⟩, by omega⟩
                · rcases Nat.lt_or_ge j i with h | h
                  · exact g2 j t h ht
                  · have ej : j = i := by omega
                    subst ej
                    rw [hx] at ht
                    injection ht with ht
                    subst ht
                    exact ⟨hP, fun e => g6 (by rw [e]; rfl)⟩
                · rcases Nat.lt_or_ge (j + 1) i with h | h
                  · exact g3 j a b h ha hb'
                  · have ej : j + 1 = i := by omega
                    subst ej
                    rw [hx] at hb'
                    injection hb' with hb'
                    subst hb'
                    exact hb rfl (by omega) a (by simpa using ha)
            by_cases g8 : 0 < i
            · have hpv := get_at (l := o.Traces) (i := i - 1) (by omega)
              have sp : SmW (o.Traces[i - 1]'(by omega)).In := by have := (hs _ (List.getElem_mem (show i - 1 < o.Traces.length by omega))).1; unfold SmW; omega
              rw [decide_eq_true (by omega), cond_true, idx_at (i := i - 1) (by omega) hpv, R01_Compare_eq _ _ sp, obind]
              refine fin _ fun hb _ a ha => ?_
              rw [hpv] at ha
              injection ha with ha
              subst ha
              have h5 := of_decide_eq_false hb
              have := cmpW_range (o.Traces[i - 1]'(by omega)).In o.Traces[i].In
              omega
            · rw [decide_eq_false (by omega), cond_false]
              exact fin false fun _ h => absurd h g8
          · rw [decide_eq_true g7, cond_true]
            exact .inr ⟨.inr e, rfl, g7⟩
      · rw [decide_eq_true g5, cond_true]
        exact .inr ⟨.inr _, rfl, g5⟩
    · right
      refine ⟨.inl (), by rw [decide_eq_false (by omega), cond_false], fun t ht => ?_, fun j a b ha hb => g3 j a b ?_ ha hb⟩
      · obtain ⟨j, hj, rfl⟩ := List.mem_iff_getElem.1 ht
        exact g2 j _ (by omega) (get_at hj)
      · have := (List.getElem?_eq_some_iff.1 hb).1
        omega) fuel 0 ⟨Nat.zero_le _, fun j t h => by omega, fun j a b h => by omega⟩ (by have := fuel_big; omega)
  obtain ⟨r, e, hq⟩ := key
  rw [e, obind]
  cases r with
  | inr e' => exact ⟨e', rfl, fun h => absurd h hq⟩
  | inl u =>
    obtain ⟨hp, hone⟩ := hq
    obtain ⟨e', he, he2⟩ := R16_apart_tot o ⟨hl, hs⟩ fun t ht => (hp t ht).1
    simp only [Sum.elim_inl]
    rw [he, obind]
    refine ⟨e', rfl, fun h => ⟨by omega, by omega, hp, ?_, he2 h⟩⟩
    have key : ∀ (d i : Nat) a b, o.Traces[i]? = some a → o.Traces[i + d + 1]? = some b → cmpW a.In b.In = -1 := by
      intro d
      induction d with
      | zero => exact fun i a b => hone i a b
      | succ d ih =>
        intro i a b ha hb
        have hj := (List.getElem?_eq_some_iff.1 hb).1
        have hm := get_at (l := o.Traces) (i := i + d + 1) (by omega)
        exact cmpW_trans _ _ _ (ih i a _ ha hm) (hone _ _ _ hm (by rw [show i + d + 1 + 1 = i + (d + 1) + 1 by omega]; exact hb))
    intro i j a b hij ha hb
    exact key (j - i - 1) i a b ha (by rw [show i + (j - i - 1) + 1 = j by omega]; exact hb)
end Go.Proofs.YtpmebphhbgpapaaGreatDoor.Sym

/-
  Answers and rows: the program's finder answers as the document's observations do. Plain laws.
-/
namespace Go.Proofs.YtpmebphhbgpapaaGreatDoor.Sym
set_option maxRecDepth 100000

/-- The answer of a word. -/
def ansO (o : T_api_Obs) (w : List Int) : Option (List Int) :=
  if w = [] then some [] else (o.Traces.find? fun t => decide (w <+: t.In)).map fun t => t.Out.take w.length
abbrev tw {α : Type} (x : Option (List α)) : List α × Bool := match x with | some r => (r, true) | none => ([], false)

theorem smo_in {o : T_api_Obs} (ho : SmO o) {t : T_api_Trace} (h : t ∈ o.Traces) : SmW t.In := by
  have := (ho.2 t h).1
  unfold SmW
  omega
theorem pre_len {p w : List Int} (h : p <+: w) : p.length ≤ w.length := h.length_le

/-- The traces in the order of the dictionary. -/
def FindOk (o : T_api_Obs) (F : List T_api_Trace) : Prop := F.Perm o.Traces ∧ F.Pairwise fun a b => lexI a.In b.In = -1

theorem in_inj {o : T_api_Obs} (hv : ObsOk o) {a b : T_api_Trace} (ha : a ∈ o.Traces) (hb : b ∈ o.Traces) (h : a.In = b.In) : a = b := by
  obtain ⟨i, hi, rfl⟩ := List.mem_iff_getElem.1 ha
  obtain ⟨j, hj, rfl⟩ := List.mem_iff_getElem.1 hb
  rcases Nat.lt_trichotomy i j with hlt | heq | hgt
  · have := hv.asc i j _ _ hlt (get_at hi) (get_at hj)
    rw [h, cmpW_refl] at this
    cases this
  · subst heq; rfl
  · have := hv.asc j i _ _ hgt (get_at hj) (get_at hi)
    rw [h, cmpW_refl] at this
    cases this

theorem table_find_eq {o : T_api_Obs} (ho : SmO o) (hv : ObsOk o) : ∃ F, table_find o = some F ∧ FindOk o F := by
  have hl := ho.1
  have hf : ∀ a ∈ o.Traces, ∀ b ∈ o.Traces, table_find_1 a b = some (lexI a.In b.In) := fun a ha b hb => by
    unfold table_find_1
    rw [word_Lex_eq _ _ (by have := smo_in ho ha; unfold SmW at this; omega), obind]
  have htot : totB (fun u0 u1 => table_find_1 u0 u1) o.Traces = true := by
    refine List.all_eq_true.2 fun a ha => List.all_eq_true.2 fun b hb => ?_
    simp only [hf a ha b hb, hf b hb a ha, Bool.and_eq_true]
    refine ⟨⟨⟨?_, ?_⟩, ?_⟩, List.all_eq_true.2 fun c hc => ?_⟩
    · rw [beq_iff_eq]
      have := lexI_zero a.In b.In
      exact decide_eq_decide.2 ⟨fun h => in_inj hv ha hb (this.1 h), fun h => this.2 (by rw [h])⟩
    · rw [beq_iff_eq]
      have := lexI_swap a.In b.In
      exact decide_eq_decide.2 (by omega)
    · have := lexI_range a.In b.In
      exact decide_eq_true (by omega)
    · rw [hf b hb c hc, hf a ha c hc]
      have r1 := lexI_range a.In b.In
      have r2 := lexI_range b.In c.In
      by_cases h1 : lexI a.In b.In < 0
      · by_cases h2 : lexI b.In c.In < 0
        · have := lexI_trans a.In b.In c.In (by omega) (by omega)
          simp [h1, h2, this]
        · simp [h1, h2]
      · simp [h1]
  refine ⟨isortF (fun u0 u1 => table_find_1 u0 u1) o.Traces, ?_, isortF_perm _ _, ?_⟩
  · unfold table_find lib_Clone_traces libClone lib_SortFunc_finder libSort
    rw [chk_pos (by unfold capOk; omega), obind, chk_pos (by omega), htot]
    rfl
  · have T := totB_iff htot
    have h := isortF_sorted T
    have hperm := isortF_perm (fun u0 u1 => table_find_1 u0 u1) o.Traces
    have hnd : (isortF (fun u0 u1 => table_find_1 u0 u1) o.Traces).Nodup := by
      refine hperm.nodup_iff.2 ?_
      rw [List.Nodup, List.pairwise_iff_getElem]
      intro i j hi hj hij e
      have := hv.asc i j _ _ hij (get_at hi) (get_at hj)
      rw [e, cmpW_refl] at this
      cases this
    rw [List.pairwise_iff_getElem] at h ⊢
    rw [List.Nodup, List.pairwise_iff_getElem] at hnd
    intro i j hi hj hij
    have h1 := h i j hi hj hij
    have hne := hnd i j hi hj hij
    have m1 := hperm.mem_iff.1 (List.getElem_mem hi)
    have m2 := hperm.mem_iff.1 (List.getElem_mem hj)
    unfold NGt cfv at h1
    simp only [hf _ m2 _ m1, Option.getD_some] at h1
    have r := lexI_range (isortF (fun u0 u1 => table_find_1 u0 u1) o.Traces)[j].In (isortF (fun u0 u1 => table_find_1 u0 u1) o.Traces)[i].In
    have s := lexI_swap (isortF (fun u0 u1 => table_find_1 u0 u1) o.Traces)[j].In (isortF (fun u0 u1 => table_find_1 u0 u1) o.Traces)[i].In
    have z := lexI_zero (isortF (fun u0 u1 => table_find_1 u0 u1) o.Traces)[j].In (isortF (fun u0 u1 => table_find_1 u0 u1) o.Traces)[i].In
    have hz : ¬ lexI (isortF (fun u0 u1 => table_find_1 u0 u1) o.Traces)[j].In (isortF (fun u0 u1 => table_find_1 u0 u1) o.Traces)[i].In = 0 := fun e => hne (in_inj hv m1 m2 (z.1 e).symm)
    omega

/-- The first trace that is not before a word. -/
theorem search_eq {F : List T_api_Trace} {w : List Int} (hs : F.Pairwise fun a b => lexI a.In b.In = -1) (hl : F.length ≤ 2000000) (hw : ∀ t ∈ F, SmW t.In) :
    ∃ k : Nat, ∃ b, slices_BinarySearchFunc_table_finder_api_Trace_Sint F w (fun u0 u1 => table_finder_answer_1 u0 u1) = some ((↑k : Int), b) ∧ k ≤ F.length ∧ (∀ j t, j < k → F[j]? = some t → lexI t.In w = -1) ∧ ∀ t, F[k]? = some t → lexI t.In w ≠ -1 := by
  have hc : ∀ t ∈ F, table_finder_answer_1 t w = some (lexI t.In w) := fun t ht => by
    unfold table_finder_answer_1
    rw [word_Lex_eq _ _ (by have := hw t ht; unfold SmW at this; omega), obind]
  have hlt : ∀ {i j : Nat} {a b : T_api_Trace}, i < j → F[i]? = some a → F[j]? = some b → lexI a.In b.In = -1 := fun {i j a b} hij ha hb => by
    obtain ⟨hi, rfl⟩ := List.getElem?_eq_some_iff.1 ha
    obtain ⟨hj, rfl⟩ := List.getElem?_eq_some_iff.1 hb
    exact List.pairwise_iff_getElem.1 hs i j hi hj hij
  have key := iter_post (step := fun (s : Int × Int) => slices_BinarySearchFunc_table_finder_api_Trace_Sint.s2 F w (fun u0 u1 => table_finder_answer_1 u0 u1) s.1 s.2)
    (fun s => ∃ i j : Nat, s.1 = (i : Int) ∧ s.2 = (j : Int) ∧ i ≤ j ∧ j ≤ F.length ∧ (∀ k t, k < i → F[k]? = some t → lexI t.In w = -1) ∧ ∀ k t, j ≤ k → F[k]? = some t → lexI t.In w ≠ -1) (fun s => (s.2 - s.1).toNat)
    (fun r => ∃ k : Nat, r = (k : Int) ∧ k ≤ F.length ∧ (∀ j t, j < k → F[j]? = some t → lexI t.In w = -1) ∧ ∀ t, F[k]? = some t → lexI t.In w ≠ -1) (fun s ⟨i, j, g1, g2, g3, g4, g5, g6⟩ => by
      obtain ⟨si, sj⟩ := s
      simp only at g1 g2
      subst g1 g2
      simp only [slices_BinarySearchFunc_table_finder_api_Trace_Sint.s2]
      by_cases g7 : i < j
      · left
        have hmid : ((↑i : Int) + ↑j) / 2 ^ 1 = ((i + j) / 2 : Nat) := by omega
        have hx := get_at (l := F) (i := (i + j) / 2) (by omega)
        rw [decide_eq_true (by omega), cond_true, chk_pos (by unfold inR; omega), chk_pos (by omega), chk_pos (by omega), chk_pos (by unfold inR; omega), idx_at hmid hx, hc _ (List.getElem_mem _), obind]
        have r := lexI_range (F[(i + j) / 2]'(by omega)).In w
        by_cases g8 : lexI (F[(i + j) / 2]'(by omega)).In w < 0
        · refine ⟨(((i + j) / 2 + 1 : Nat), (j : Int)), ?_, ⟨(i + j) / 2 + 1, j, rfl, rfl, by omega, g4, fun k t hk ht => ?_, g6⟩, by simp only; omega⟩
          · rw [decide_eq_true g8, cond_true, chk_pos (by unfold inR; omega), hmid]
            simp
          · rcases Nat.lt_or_ge k ((i + j) / 2) with h | h
            · exact lexI_trans _ _ _ (hlt h ht hx) (by omega)
            · have e : k = (i + j) / 2 := by omega
              subst e
              rw [hx] at ht
              injection ht with ht
              subst ht
              omega
        · refine ⟨((i : Int), (((i + j) / 2 : Nat) : Int)), ?_, ⟨i, (i + j) / 2, rfl, rfl, by omega, by omega, g5, fun k t hk ht => ?_⟩, by simp only; omega⟩
          · rw [decide_eq_false g8, cond_false, hmid]
          · intro h9
            rcases Nat.lt_or_ge ((i + j) / 2) k with h | h
            · have := lexI_trans _ _ _ (hlt h hx ht) h9
              omega
            · have e : k = (i + j) / 2 := by omega
              subst e
              rw [hx] at ht
              injection ht with ht
              subst ht
              omega
      · right
        have e : i = j := by omega
        subst e
        refine ⟨(i : Int), by rw [decide_eq_false (by omega), cond_false], i, rfl, g4, g5, fun t ht => g6 i t (Nat.le_refl _) ht⟩) fuel (0, (↑(List.length F) : Int)) ⟨0, F.length, rfl, rfl, Nat.zero_le _, Nat.le_refl _, fun k t h => by omega, fun k t h ht => by
        have := (List.getElem?_eq_some_iff.1 ht).1
        omega⟩ (by have := fuel_big; simp only; omega)
  obtain ⟨r, e, k, hk, h1, h2, h3⟩ := key
  subst hk
  unfold slices_BinarySearchFunc_table_finder_api_Trace_Sint
  rw [e, obind]
  by_cases h4 : k < F.length
  · have hx := get_at h4
    rw [decide_eq_true (by omega), cond_true, idx_at rfl hx, show (fun (u0 : T_api_Trace) (u1 : List Int) => table_finder_answer_1 u0 u1) F[k] w = some (lexI F[k].In w) from hc _ (List.getElem_mem _), obind, obind]
    exact ⟨k, _, rfl, h1, h2, h3⟩
  · rw [decide_eq_false (by omega), cond_false, obind]
    exact ⟨k, _, rfl, h1, h2, h3⟩

theorem finder_answer_eq {o : T_api_Obs} {F : List T_api_Trace} {w : List Int} (ho : SmO o) (hv : ObsOk o) (hF : FindOk o F) : table_finder_answer F w = some (tw (ansO o w)) := by
  obtain ⟨hp, hs⟩ := hF
  have hFl : F.length ≤ 1100000 := by rw [hp.length_eq]; exact ho.1
  have hFm : ∀ t ∈ F, t ∈ o.Traces := fun t ht => hp.mem_iff.1 ht
  obtain ⟨k, b, e, h1, h2, h3⟩ := search_eq (w := w) hs (by omega) fun t ht => smo_in ho (hFm t ht)
  unfold table_finder_answer ansO
  by_cases h0 : w = []
  · subst h0
    rfl
  · have hwl : w.length ≠ 0 := fun h => h0 (List.eq_nil_of_length_eq_zero h)
    rw [if_neg h0, decide_eq_false (by omega), cond_false, e, obind]
    simp only
    -- whatever trace begins with the word, the first one that is not before it does
    have hfirst : ∀ t ∈ o.Traces, w <+: t.In → ∃ u, F[k]? = some u ∧ w <+: u.In := fun t ht hpre => by
      have htF : t ∈ F := hp.mem_iff.2 ht
      obtain ⟨j, hj, rfl⟩ := List.mem_iff_getElem.1 htF
      have hge : lexI F[j].In w ≠ -1 := by
        by_cases hew : w = F[j].In
        · rw [← hew, lexI_refl]; decide
        · have := prefix_lex w F[j].In hpre hew
          have := lexI_swap w F[j].In
          omega
      have hkj : k ≤ j := by
        rcases Nat.lt_or_ge j k with h | h
        · exact absurd (h2 j _ h (get_at hj)) hge
        · exact h
      have hx := get_at (l := F) (i := k) (by omega)
      refine ⟨_, hx, ?_⟩
      have hk1 := h3 _ hx
      rcases Nat.lt_or_ge k j with h | h
      · have hlt : lexI (F[k]'(by omega)).In F[j].In = -1 := List.pairwise_iff_getElem.1 hs k j (by omega) hj h
        have r := lexI_range (F[k]'(by omega)).In w
        have s := lexI_swap (F[k]'(by omega)).In w
        by_cases hz : lexI (F[k]'(by omega)).In w = 0
        · rw [(lexI_zero _ _).1 hz]
          exact List.prefix_refl _
        · exact lex_between w _ _ (by omega) (Or.inr hlt) hpre
      · have ej : j = k := by omega
        subst ej
        exact hpre
    cases hfd : o.Traces.find? fun t => decide (w <+: t.In) with
    | none =>
      have hno : ∀ t ∈ o.Traces, ¬ w <+: t.In := fun t ht => by simpa using List.find?_eq_none.1 hfd t ht
      by_cases h4 : k = F.length
      · rw [decide_eq_true (by omega), cond_true, obind, cond_true]
        rfl
      · have hx := get_at (l := F) (i := k) (by omega)
        have hxm := hFm _ (List.getElem_mem (show k < F.length by omega))
        rw [decide_eq_false (by omega), cond_false, idx_at rfl hx, word_HasPrefix_eq _ _ (smo_in ho hxm), obind, decide_eq_false (hno _ hxm)]
        rfl
    | some t =>
      have htm := List.mem_of_find?_eq_some hfd
      have hpre : w <+: t.In := by simpa using List.find?_some hfd
      obtain ⟨u, hu, hpu⟩ := hfirst t htm hpre
      have hum := hFm u (List.mem_of_getElem? hu)
      have hku := (List.getElem?_eq_some_iff.1 hu).1
      have lt := (hv.prop t htm).1.2.1
      have lu := (hv.prop u hum).1.2.1
      have p1 := pre_len hpre
      have p2 := pre_len hpu
      -- both answer alike
      have hsame : u.Out.take w.length = t.Out.take w.length := by
        by_cases hut : u = t
        · rw [hut]
        · have hag : ∀ a ∈ o.Traces, ∀ b ∈ o.Traces, a ≠ b → w <+: a.In → w <+: b.In → a.Out.take w.length = b.Out.take w.length := by
            intro a ha b hb hab hwa hwb
            have hcm : w.length ≤ common a.In b.In := by
              obtain ⟨x, hx⟩ := hwa
              obtain ⟨y, hy⟩ := hwb
              rw [← hx, ← hy]
              have : ∀ (w x y : List Int), w.length ≤ common (w ++ x) (w ++ y) := by
                intro w
                induction w with
                | nil => intro x y; exact Nat.zero_le _
                | cons z w ih =>
                  intro x y
                  have := ih x y
                  simp only [List.cons_append, common, if_true, List.length_cons]
                  omega
              exact this w x y
            have hred : ∀ (a b : T_api_Trace), Agree a b → w.length ≤ common a.In b.In → a.Out.take w.length = b.Out.take w.length := fun a b hA hle => by
              have h5 := congrArg (List.take w.length) hA
              rw [List.take_take, List.take_take, Nat.min_eq_left hle] at h5
              exact h5
            obtain ⟨i, hi, rfl⟩ := List.mem_iff_getElem.1 ha
            obtain ⟨j, hj, rfl⟩ := List.mem_iff_getElem.1 hb
            rcases Nat.lt_trichotomy i j with hlt | heq | hgt
            · exact hred _ _ (hv.apart i j _ _ hlt (get_at hi) (get_at hj)).2 hcm
            · subst heq; rfl
            · have hcs : w.length ≤ common o.Traces[j].In o.Traces[i].In := by
                have : ∀ a b : List Int, common a b = common b a := by
                  intro a
                  induction a with
                  | nil => intro b; cases b <;> rfl
                  | cons x a ih =>
                    intro b
                    cases b with
                    | nil => rfl
                    | cons y b =>
                      simp only [common]
                      by_cases h : x = y
                      · subst h; simp [ih b]
                      · have h' : ¬ y = x := fun e => h e.symm
                        simp [h, h']
                rw [this]
                exact hcm
              exact (hred _ _ (hv.apart j i _ _ hgt (get_at hj) (get_at hi)).2 hcs).symm
          exact hag u hum t htm hut hpu hpre
      have hc : (cond (decide ((↑k : Int) = (↑(List.length F) : Int))) (some true) (idx F (↑k : Int) fun e62 => (word_HasPrefix e62.In w).bind fun c63 => cond ((!c63)) (some true) (idx F (↑k : Int) fun e65 => some (decide ((↑(List.length e65.Out) : Int) < (↑(List.length w) : Int))))) : Option Bool) = some false := by
        rw [decide_eq_false (by omega), cond_false, idx_at rfl hu, word_HasPrefix_eq _ _ (smo_in ho hum), obind, decide_eq_true hpu, Bool.not_true, cond_false, idx_at rfl hu, decide_eq_false (by omega)]
      rw [hc, obind, cond_false, idx_at rfl hu, chk_pos (by omega), hsame]
      rfl
end Go.Proofs.YtpmebphhbgpapaaGreatDoor.Sym

/-
  Rows, missing queries and maximal words: the program's are the document's. Plain laws.
-/
namespace Go.Proofs.YtpmebphhbgpapaaGreatDoor.Sym
set_option maxRecDepth 100000

theorem ansO_len {o : T_api_Obs} (hv : ObsOk o) {w r : List Int} (h : ansO o w = some r) : r.length = w.length := by
  unfold ansO at h
  split at h
  · rename_i h0
    injection h with h
    rw [← h, h0]
  · obtain ⟨t, ht, rfl⟩ := Option.map_eq_some_iff.1 h
    have hm := List.mem_of_find?_eq_some ht
    have hp : w <+: t.In := by simpa using List.find?_some ht
    have := (hv.prop t hm).1.2.1
    have := pre_len hp
    rw [List.length_take]
    omega

/-- The row of a word. -/
def rowO (o : T_api_Obs) (w : List Int) : List (List Int) → Option (List (List Int))
  | [] => some []
  | e :: S => match ansO o (w ++ e) with
    | none => none
    | some r => (rowO o w S).map fun l => r.drop w.length :: l

theorem rowO_drop {o : T_api_Obs} {w : List Int} {S : List (List Int)} {k : Nat} {e : List Int} (h : S[k]? = some e) : rowO o w (S.drop k) = match ansO o (w ++ e) with | none => none | some r => (rowO o w (S.drop (k + 1))).map fun l => r.drop w.length :: l := by
  obtain ⟨hk, rfl⟩ := List.getElem?_eq_some_iff.1 h
  rw [List.drop_eq_getElem_cons hk]
  rfl

theorem finder_row_eq {o : T_api_Obs} {F : List T_api_Trace} {t : T_api_Table} {w : List Int} (ho : SmO o) (hv : ObsOk o) (hF : FindOk o F) (hS : SmL t.Suffixes) (hw : SmW w) : table_finder_row F t w = some (tw (rowO o w t.Suffixes)) := by
  have hS1 : t.Suffixes.length ≤ 2000000 := hS.1
  have hw1 : w.length ≤ 2000000 := hw
  unfold table_finder_row
  have key := iter_post (step := fun (s : List (List Int) × Nat) => table_finder_row.s2 F t w s.1 s.2) (fun s => s.2 ≤ t.Suffixes.length ∧ s.1.length = s.2 ∧ rowO o w t.Suffixes = (rowO o w (t.Suffixes.drop s.2)).map (s.1 ++ ·)) (fun s => t.Suffixes.length - s.2)
    (fun r => Sum.elim (fun (y84 : List (List Int)) => some (y84, true)) some r = some (tw (rowO o w t.Suffixes))) (fun s ⟨g1, g2, g3⟩ => by
      obtain ⟨y, k⟩ := s
      simp only at g1 g2 g3
      simp only [table_finder_row.s2]
      by_cases g4 : k < t.Suffixes.length
      · have hx := get_at g4
        have hxs : SmW t.Suffixes[k] := hS.2 _ (List.getElem_mem _)
        have hx1 : t.Suffixes[k].length ≤ 2000000 := hxs
        rw [dec_lt hx, cond_true, idxn_at hx, word_Join_eq _ (by simp) (by simp; omega), obind]
        simp only [List.flatten_cons, List.flatten_nil, List.append_nil]
        rw [finder_answer_eq ho hv hF, obind]
        rw [rowO_drop hx] at g3
        cases ha : ansO o (w ++ t.Suffixes[k]) with
        | none =>
          right
          rw [ha] at g3
          refine ⟨.inr ([], false), rfl, ?_⟩
          rw [g3]
          rfl
        | some r =>
          left
          rw [ha] at g3
          have hrl := ansO_len hv ha
          rw [List.length_append] at hrl
          have hd : SmW (r.drop w.length) := by unfold SmW; rw [List.length_drop]; omega
          refine ⟨(y ++ [r.drop w.length], k + 1), ?_, ⟨g4, by simp [g2], ?_⟩, by simp only; omega⟩
          · simp only [tw, Bool.not_true, cond_false]
            rw [chk_pos (by omega), libclone_word hd, obind, chk_pos (by unfold capOk; omega)]
          · rw [g3, Option.map_map]
            simp only
            congr 1
            funext l
            simp
      · right
        have e : k = t.Suffixes.length := by omega
        subst e
        refine ⟨.inl y, by rw [decide_eq_false (by omega), cond_false], ?_⟩
        rw [g3, List.drop_length]
        simp [rowO, tw]) fuel ([], 0) ⟨Nat.zero_le _, rfl, by simp⟩ (by have := fuel_big; simp only; omega)
  obtain ⟨r, e, hq⟩ := key
  rw [chk_pos (by unfold capOk; omega), e]
  exact hq

/-- The error of a table with observations. -/
def chkT (t : T_api_Table) (o : T_api_Obs) : Int := if validT t ≠ 0 then validT t else if t.Inputs ≠ o.Inputs then 15 else 0
theorem table_check_eq {t : T_api_Table} {o : T_api_Obs} (ht : SmT t) : table_check t o = some (chkT t o) := by
  unfold table_check chkT
  rw [table_Valid_eq t ht, obind]
  by_cases h : validT t = 0
  · rw [decide_eq_false (by simpa using h), cond_false, if_neg (by simpa using h)]
    by_cases h2 : t.Inputs = o.Inputs <;> simp [h2]
  · rw [decide_eq_true h, cond_true, if_pos h]
end Go.Proofs.YtpmebphhbgpapaaGreatDoor.Sym

/-
  The missing queries of a table: the program's are the document's. Plain laws, and the law of TableNeeds.
-/
namespace Go.Proofs.YtpmebphhbgpapaaGreatDoor.Sym
set_option maxRecDepth 100000

/-- The words with some ends that are not answered. -/
def missO (o : T_api_Obs) (w : List Int) (S : List (List Int)) : List (List Int) := (S.map fun e => w ++ e).filter fun v => (ansO o v).isNone
theorem mem_missO {o : T_api_Obs} {w v : List Int} {S : List (List Int)} : v ∈ missO o w S ↔ (∃ e ∈ S, v = w ++ e) ∧ ansO o v = none := by
  unfold missO
  rw [List.mem_filter, List.mem_map, Option.isNone_iff_eq_none]
  constructor
  · rintro ⟨⟨e, he, rfl⟩, h⟩; exact ⟨⟨e, he, rfl⟩, h⟩
  · rintro ⟨⟨e, he, rfl⟩, h⟩; exact ⟨⟨e, he, rfl⟩, h⟩

theorem table_extended_eq {w : List Int} {a : Int} (hw : SmW w) : table_extended w a = some (w ++ [a]) := by
  have hw1 : w.length ≤ 2000000 := hw
  unfold table_extended
  rw [word_Join_eq _ (by simp) (by simp; omega), obind]
  simp

/-- Tables of the sizes that are examined. -/
structure TabOk (t : T_api_Table) : Prop where
  sm : SmT t
  n : t.Inputs ≤ 4
  p : t.Prefixes.length ≤ 30
  s : t.Suffixes.length ≤ 12
  pw : ∀ x ∈ t.Prefixes, x.length ≤ 30
  sw : ∀ x ∈ t.Suffixes, x.length ≤ 30

/-- A prefix and its extensions. -/
def withX (n : Nat) (p : List Int) : List (List Int) := p :: (List.range n).map fun (a : Nat) => p ++ [(↑a : Int)]
def needL (o : T_api_Obs) (t : T_api_Table) (P : List (List Int)) : List (List Int) := P.flatMap fun p => (withX t.Inputs.toNat p).flatMap fun w => missO o w t.Suffixes

/-- The extensions of a table. -/
def extL (t : T_api_Table) : List (List Int) := t.Prefixes.flatMap fun p => (List.range t.Inputs.toNat).map fun (a : Nat) => p ++ [(↑a : Int)]

theorem tabOk_of {t : T_api_Table} {o : T_api_Obs} (ht : SmT t) (h : greatT t o = false) : TabOk t ∧ o.Traces.length ≤ 400 ∧ ∀ x ∈ o.Traces, x.In.length ≤ 90 := by
  unfold greatT at h
  simp only [Bool.or_eq_false_iff, decide_eq_false_iff_not, Bool.not_eq_false'] at h
  obtain ⟨⟨⟨⟨h1, h2, h3⟩, h4, h5⟩, h6⟩, h7⟩ := h
  exact ⟨⟨ht, by omega, by omega, by omega, fun x hx => of_decide_eq_true (List.all_eq_true.1 h3 x hx), fun x hx => of_decide_eq_true (List.all_eq_true.1 h5 x hx)⟩, by omega, fun x hx => of_decide_eq_true (List.all_eq_true.1 h7 x hx)⟩

theorem rowO_sml {o : T_api_Obs} (hv : ObsOk o) {w : List Int} : ∀ {S : List (List Int)} {l : List (List Int)}, rowO o w S = some l → l.length = S.length ∧ ∀ x ∈ l, ∃ e ∈ S, x.length = e.length
  | [], l, h => by
    injection h with h
    subst h
    exact ⟨rfl, fun x hx => by cases hx⟩
  | e :: S, l, h => by
    unfold rowO at h
    cases ha : ansO o (w ++ e) with
    | none => rw [ha] at h; cases h
    | some r =>
      rw [ha] at h
      obtain ⟨l', h1, rfl⟩ := Option.map_eq_some_iff.1 h
      obtain ⟨h2, h3⟩ := rowO_sml hv h1
      have hrl := ansO_len hv ha
      rw [List.length_append] at hrl
      refine ⟨by simp [h2], fun x hx => ?_⟩
      rcases List.mem_cons.1 hx with rfl | hx
      · exact ⟨e, by simp, by rw [List.length_drop]; omega⟩
      · obtain ⟨e', he', hl'⟩ := h3 x hx
        exact ⟨e', List.mem_cons_of_mem _ he', hl'⟩
end Go.Proofs.YtpmebphhbgpapaaGreatDoor.Sym

/-
  The law of TableNeeds, for arguments within the bound.
-/
namespace Go.Proofs.YtpmebphhbgpapaaGreatDoor.Sym
theorem trace_pos (t : T_api_Trace) : 1 ≤ sz_api_Trace t := by unfold sz_api_Trace; omega
theorem smo_of {o : T_api_Obs} (s : sz_api_Obs o ≤ 1048576) : SmO o := by
  unfold sz_api_Obs at s
  have s1 : szL sz_api_Trace o.Traces ≤ 1048576 := by omega
  refine ⟨?_, fun t ht => ?_⟩
  · have := sum_len (f := sz_api_Trace) trace_pos o.Traces
    unfold szL at s1
    omega
  · have h1 := sum_mem (f := sz_api_Trace) ht
    have h2 := sz_word (x := t.In)
    have h3 := sz_word (x := t.Out)
    have h4 : (o.Traces.map sz_api_Trace).sum + 1 ≤ 1048576 := s1
    have h5 : sz_api_Trace t = (szL sz1 t.In + (szL sz1 t.Out + 0)) + 1 := rfl
    omega
end Go.Proofs.YtpmebphhbgpapaaGreatDoor.Sym

/-
  The view of a complete table: rows with numbers. Plain laws.
-/
namespace Go.Proofs.YtpmebphhbgpapaaGreatDoor.Sym
set_option maxRecDepth 100000

section
variable {α : Type} [DecidableEq α]
/-- The first place of an element. -/
def pos (r : α) : List α → Nat
  | [] => 0
  | x :: l => if x = r then 0 else pos r l + 1
theorem pos_get {r : α} : ∀ {l : List α}, r ∈ l → l[pos r l]? = some r
  | x :: l, h => by
    unfold pos
    by_cases e : x = r
    · simp [e]
    · rw [if_neg e]
      rcases List.mem_cons.1 h with h | h
      · exact absurd h.symm e
      · simpa using pos_get h
theorem pos_append {r : α} : ∀ {l m : List α}, r ∈ l → pos r (l ++ m) = pos r l
  | x :: l, m, h => by
    rw [List.cons_append]
    unfold pos
    by_cases e : x = r
    · simp [e]
    · rw [if_neg e, if_neg e]
      rcases List.mem_cons.1 h with h | h
      · exact absurd h.symm e
      · rw [pos_append h]
theorem pos_new {r : α} : ∀ {l : List α}, r ∉ l → pos r (l ++ [r]) = l.length
  | [], _ => by simp [pos]
  | x :: l, h => by
    rw [List.cons_append]
    unfold pos
    have h1 : ¬ x = r := fun e => h (by simp [e])
    have h2 : r ∉ l := fun e => h (by simp [e])
    rw [if_neg h1, pos_new h2]
    rfl
theorem pos_inj {r s : α} {l : List α} (hr : r ∈ l) (hs : s ∈ l) (h : pos r l = pos s l) : r = s := by
  have h1 := pos_get hr
  rw [h, pos_get hs] at h1
  injection h1 with h1
  exact h1.symm
/-- One more row. -/
def addR (R : List α) (r : α) : List α := if r ∈ R then R else R ++ [r]
theorem mem_addR {R : List α} {r x : α} : x ∈ addR R r ↔ x ∈ R ∨ x = r := by
  unfold addR
  split
  · constructor
    · exact Or.inl
    · rintro (h | rfl)
      · exact h
      · assumption
  · simp
theorem pos_addR {R : List α} {r x : α} (h : x ∈ R) : pos x (addR R r) = pos x R := by
  unfold addR
  split
  · rfl
  · exact pos_append h
theorem addR_len (R : List α) (r : α) : (addR R r).length ≤ R.length + 1 := by
  unfold addR
  split
  · omega
  · simp
end

/-- A row as a text. -/
def rkeyL : List (List Int) → List UInt8
  | [] => []
  | o :: r => keyL o ++ 47 :: rkeyL r
theorem rkeyL_append (a b : List (List Int)) : rkeyL (a ++ b) = rkeyL a ++ rkeyL b := by
  induction a with
  | nil => rfl
  | cons o a ih => simp [rkeyL, ih]
theorem keyL_char : ∀ (w : List Int), ∀ c ∈ keyL w, c ≠ 47
  | [], c, h => by cases h
  | a :: w, c, h => by
    simp only [keyL] at h
    rcases List.mem_append.1 h with h | h
    · intro e
      subst e
      unfold enc36 at h
      split at h
      · rcases List.mem_cons.1 h with h | h
        · cases h
        · have := digs_char _ _ h
          revert this
          decide
      · have := digs_char _ _ h
        revert this
        decide
    · rcases List.mem_cons.1 h with h | h
      · subst h; decide
      · exact keyL_char w c h
theorem rkeyL_inj : ∀ {a b : List (List Int)}, rkeyL a = rkeyL b → a = b
  | [], [], _ => rfl
  | [], o :: b, h => by
    simp only [rkeyL] at h
    have := congrArg List.length h
    simp at this
  | o :: a, [], h => by
    simp only [rkeyL] at h
    have := congrArg List.length h
    simp at this
  | o :: a, u :: b, h => by
    simp only [rkeyL] at h
    obtain ⟨h1, h2⟩ := split_at (keyL_char o) (keyL_char u) h
    rw [keyL_inj h1, rkeyL_inj h2]

def rkey (r : List (List Int)) : ByteArray := ⟨(rkeyL r).toArray⟩
theorem rkey_inj {a b : List (List Int)} (h : rkey a = rkey b) : a = b := rkeyL_inj (by
  unfold rkey at h
  injection h with h
  injection h)

/-- What a row's outputs are like. -/
def RowSm (r : List (List Int)) : Prop := r.length ≤ 100 ∧ ∀ x ∈ r, x.length ≤ 1000 ∧ ∀ a ∈ x, inR a
theorem rkeyL_len {r : List (List Int)} (h : ∀ x ∈ r, x.length ≤ 1000 ∧ ∀ a ∈ x, inR a) : (rkeyL r).length ≤ 15001 * r.length := by
  induction r with
  | nil => simp [rkeyL]
  | cons o r ih =>
    have h1 := h o (by simp)
    have h2 := keyL_len (xs := o) h1.2
    have h3 := ih fun x hx => h x (by simp [hx])
    simp only [rkeyL, List.length_append, List.length_cons]
    omega

theorem bytes_append (a b : List UInt8) : ((⟨a.toArray⟩ : ByteArray) ++ ⟨b.toArray⟩) = ⟨(a ++ b).toArray⟩ := by
  apply ByteArray.ext
  simp
theorem bytes_size (a : List UInt8) : (⟨a.toArray⟩ : ByteArray).size = a.length := by simp [ByteArray.size]

/-- The text of a row, as the program makes it. -/
theorem row_key_eq {r : List (List Int)} (h : RowSm r) : iter (fun (s : ByteArray × Nat) => table_view_add.s2 r s.1 s.2) fuel ((⟨#[]⟩ : ByteArray), 0) = some (rkey r) := by
  obtain ⟨hl, hr⟩ := h
  refine iter_eq (fun s => s.2 ≤ r.length ∧ s.1 = rkey (r.take s.2)) (fun s => r.length - s.2) (fun s ⟨g1, g2⟩ => ?_) ⟨Nat.zero_le _, rfl⟩ (by have := fuel_big; simp only; omega)
  obtain ⟨z, k⟩ := s
  simp only at g1 g2
  subst g2
  simp only [table_view_add.s2]
  by_cases g4 : k < r.length
  · left
    have hx := get_at g4
    have hxr := hr _ (List.getElem_mem g4)
    have hkl := keyL_len (xs := r[k]) hxr.2
    have hrl := rkeyL_len (r := r.take k) fun x hx => hr x (List.mem_of_mem_take hx)
    rw [List.length_take] at hrl
    have e1 : ((⟨(keyL r[k]).toArray⟩ : ByteArray) ++ ⟨#[47]⟩) = ⟨(keyL r[k] ++ [47]).toArray⟩ := bytes_append (keyL r[k]) [47]
    refine ⟨(rkey (r.take (k + 1)), k + 1), ?_, ⟨by simp only; omega, rfl⟩, by simp only; omega⟩
    rw [dec_lt hx, cond_true, idxn_at hx, table_key_eq (by unfold SmW; omega) hxr.2, obind, e1]
    have e2 : (⟨#[47]⟩ : ByteArray).size = 1 := rfl
    rw [chk_pos (by rw [bytes_size, e2]; omega), chk_pos (by
      unfold rkey
      rw [bytes_size, bytes_size, List.length_append, List.length_singleton]
      omega)]
    unfold rkey
    rw [bytes_append, take_step hx, rkeyL_append]
    simp [rkeyL]
  · right
    have e : k = r.length := by omega
    subst e
    rw [decide_eq_false (by omega), cond_false, List.take_length]

/-- The numbers of the rows so far. -/
def NumOk (R : List (List (List Int))) (m : List (ByteArray × Int)) : Prop := ∀ r, mget (rkey r) m = if r ∈ R then some (↑(pos r R) : Int) else none

theorem view_add_eq {v : T_table_view} {r : List (List Int)} (h : RowSm r) (hn : NumOk v.rows v.number) (hl : v.rows.length ≤ 100000) :
    ∃ m, table_view_add v r = some ((↑(pos r (addR v.rows r)) : Int), ⟨addR v.rows r, v.prefixes, v.next, m⟩) ∧ NumOk (addR v.rows r) m := by
  unfold table_view_add
  rw [row_key_eq h, obind]
  have hr := hn r
  by_cases hm : r ∈ v.rows
  · rw [if_pos hm] at hr
    refine ⟨v.number, ?_, ?_⟩
    · rw [hr]
      simp only [Option.isSome_some, Bool.not_true, cond_false, Option.getD_some]
      unfold addR
      rw [if_pos hm]
      rfl
    · unfold addR
      rw [if_pos hm]
      exact hn
  · rw [if_neg hm] at hr
    refine ⟨mset (rkey r) (↑v.rows.length : Int) v.number, ?_, fun x => ?_⟩
    · rw [hr]
      simp only [Option.isSome_none, Bool.not_false, cond_true]
      rw [chk_pos (by unfold capOk; omega), obind]
      unfold addR
      rw [if_neg hm, pos_new hm]
      rfl
    · unfold addR
      rw [if_neg hm]
      by_cases hx : x = r
      · subst hx
        rw [mget_mset_same ba_beq, if_pos (by simp), pos_new hm]
      · rw [mget_mset_ne ba_beq (fun e => hx (rkey_inj e)), hn x]
        by_cases hxm : x ∈ v.rows
        · rw [if_pos hxm, if_pos (by simp [hxm]), pos_append hxm]
        · rw [if_neg hxm, if_neg (by simp [hxm, hx])]
end Go.Proofs.YtpmebphhbgpapaaGreatDoor.Sym

/-
  The view of a table, whole. Plain laws.
-/
namespace Go.Proofs.YtpmebphhbgpapaaGreatDoor.Sym
set_option maxRecDepth 100000

/-- The rows of words, if all are answered. -/
def rowsO (o : T_api_Obs) (S : List (List Int)) : List (List Int) → Option (List (List (List Int)))
  | [] => some []
  | w :: ws => match rowO o w S with
    | none => none
    | some r => (rowsO o S ws).map fun l => r :: l
theorem rowsO_all {o : T_api_Obs} {S : List (List Int)} : ∀ {ws : List (List Int)} {rs : List (List (List Int))}, rowsO o S ws = some rs → rs.length = ws.length ∧ ∀ (i : Nat) w, ws[i]? = some w → ∃ r, rs[i]? = some r ∧ rowO o w S = some r
  | [], rs, h => by
    injection h with h
    subst h
    exact ⟨rfl, fun i w hw => by simp at hw⟩
  | w :: ws, rs, h => by
    unfold rowsO at h
    cases hr : rowO o w S with
    | none => rw [hr] at h; cases h
    | some r =>
      rw [hr] at h
      obtain ⟨rs', h1, rfl⟩ := Option.map_eq_some_iff.1 h
      obtain ⟨h2, h3⟩ := rowsO_all h1
      refine ⟨by simp [h2], fun i u hu => ?_⟩
      cases i with
      | zero =>
        simp at hu
        subst hu
        exact ⟨r, rfl, hr⟩
      | succ i => simpa using h3 i u (by simpa using hu)
theorem rowsO_none {o : T_api_Obs} {S : List (List Int)} {ws : List (List Int)} {w : List Int} (hw : w ∈ ws) (h : rowO o w S = none) : rowsO o S ws = none := by
  cases hr : rowsO o S ws with
  | none => rfl
  | some rs =>
    obtain ⟨i, hi, rfl⟩ := List.mem_iff_getElem.1 hw
    obtain ⟨r, _, h2⟩ := (rowsO_all hr).2 i _ (get_at hi)
    rw [h] at h2
    cases h2
theorem rowsO_snoc {o : T_api_Obs} {S : List (List Int)} {w : List Int} {r : List (List Int)} (h : rowO o w S = some r) : ∀ {ws : List (List Int)} {rs : List (List (List Int))}, rowsO o S ws = some rs → rowsO o S (ws ++ [w]) = some (rs ++ [r])
  | [], rs, h1 => by
    injection h1 with h1
    subst h1
    simp [rowsO, h]
  | u :: ws, rs, h1 => by
    rw [List.cons_append]
    unfold rowsO at h1 ⊢
    cases hr : rowO o u S with
    | none => rw [hr] at h1; cases h1
    | some r' =>
      rw [hr] at h1
      obtain ⟨rs', h2, rfl⟩ := Option.map_eq_some_iff.1 h1
      simp only [rowsO_snoc h h2]
      rfl

theorem ansO_rng {o : T_api_Obs} (hv : ObsOk o) {w r : List Int} (h : ansO o w = some r) : ∀ a ∈ r, inR a := by
  unfold ansO at h
  split at h
  · injection h with h
    subst h
    intro a ha
    cases ha
  · obtain ⟨t, ht, rfl⟩ := Option.map_eq_some_iff.1 h
    intro a ha
    have hm := List.mem_of_find?_eq_some ht
    have := (hv.prop t hm).1.2.2 a (List.mem_of_mem_take ha)
    unfold inR
    omega
theorem rowO_rng {o : T_api_Obs} (hv : ObsOk o) {w : List Int} : ∀ {S : List (List Int)} {l : List (List Int)}, rowO o w S = some l → ∀ x ∈ l, ∀ a ∈ x, inR a
  | [], l, h => by
    injection h with h
    subst h
    intro x hx
    cases hx
  | e :: S, l, h => by
    unfold rowO at h
    cases ha : ansO o (w ++ e) with
    | none => rw [ha] at h; cases h
    | some r =>
      rw [ha] at h
      obtain ⟨l', h1, rfl⟩ := Option.map_eq_some_iff.1 h
      intro x hx a hax
      rcases List.mem_cons.1 hx with rfl | hx
      · exact ansO_rng hv ha a (List.mem_of_mem_drop hax)
      · exact rowO_rng hv h1 x hx a hax
theorem rowO_rsm {o : T_api_Obs} {t : T_api_Table} (hv : ObsOk o) (ht : TabOk t) {w : List Int} {r : List (List Int)} (h : rowO o w t.Suffixes = some r) : RowSm r := by
  obtain ⟨h1, h2⟩ := rowO_sml hv h
  refine ⟨by have := ht.s; omega, fun x hx => ⟨?_, rowO_rng hv h x hx⟩⟩
  obtain ⟨e, he, hl⟩ := h2 x hx
  have := ht.sw e he
  omega

abbrev v0 : T_table_view := ⟨[], [], [], []⟩
abbrev Row : Type := List (List Int)
def addAll (R : List Row) (rs : List Row) : List Row := rs.foldl addR R
theorem addAll_snoc (R : List Row) (rs : List Row) (r : Row) : addAll R (rs ++ [r]) = addR (addAll R rs) r := by simp [addAll]
theorem addAll_append (R : List Row) (a b : List Row) : addAll R (a ++ b) = addAll (addAll R a) b := by simp [addAll]
theorem mem_addAll {R : List Row} {x : Row} : ∀ {rs : List Row}, x ∈ addAll R rs ↔ x ∈ R ∨ x ∈ rs := by
  intro rs
  induction rs generalizing R with
  | nil => simp [addAll]
  | cons r rs ih =>
    show x ∈ addAll (addR R r) rs ↔ _
    rw [ih, mem_addR, List.mem_cons]
    constructor
    · rintro ((h | h) | h)
      · exact Or.inl h
      · exact Or.inr (Or.inl h)
      · exact Or.inr (Or.inr h)
    · rintro (h | h | h)
      · exact Or.inl (Or.inl h)
      · exact Or.inl (Or.inr h)
      · exact Or.inr h
theorem pos_addAll {R : List Row} {x : Row} (h : x ∈ R) : ∀ rs : List Row, pos x (addAll R rs) = pos x R := by
  intro rs
  induction rs generalizing R with
  | nil => rfl
  | cons r rs ih =>
    show pos x (addAll (addR R r) rs) = _
    rw [ih (mem_addR.2 (Or.inl h)), pos_addR h]
theorem addAll_len (R : List Row) (rs : List Row) : (addAll R rs).length ≤ R.length + rs.length := by
  induction rs generalizing R with
  | nil => simp [addAll]
  | cons r rs ih =>
    have h1 := ih (R := addR R r)
    have h2 := addR_len R r
    show (addAll (addR R r) rs).length ≤ _
    rw [List.length_cons]
    omega
def nums (R : List Row) (rs : List Row) : List Int := rs.map fun r => (↑(pos r R) : Int)
theorem nums_add {R : List Row} {rs : List Row} (h : ∀ x ∈ rs, x ∈ R) (X : List Row) : nums (addAll R X) rs = nums R rs := by
  unfold nums
  refine List.map_congr_left fun x hx => ?_
  rw [pos_addAll (h x hx)]

/-- The first loop: the rows of the prefixes. -/
theorem look_first {o : T_api_Obs} {t : T_api_Table} {F : List T_api_Trace} (ht : TabOk t) (ho : SmO o) (hv : ObsOk o) (hF : FindOk o F) :
    ∃ res, iter (fun (s : List (List (List Int)) × List Int × (List (ByteArray × Int)) × Nat) => table_look.s2 t F s.1 s.2.1 s.2.2.1 s.2.2.2) fuel ([], [], ([] : List (ByteArray × Int)), 0) = some res ∧
      match rowsO o t.Suffixes t.Prefixes with
      | none => res = .inr (v0, 12)
      | some rs => ∃ m, res = .inl (addAll [] rs, nums (addAll [] rs) rs, m) ∧ NumOk (addAll [] rs) m := by
  have hp := ht.p
  have hS := ht.sm.2.2.1
  refine iter_post (step := fun (s : List (List (List Int)) × List Int × (List (ByteArray × Int)) × Nat) => table_look.s2 t F s.1 s.2.1 s.2.2.1 s.2.2.2)
    (fun s => s.2.2.2 ≤ t.Prefixes.length ∧ ∃ rs, rowsO o t.Suffixes (t.Prefixes.take s.2.2.2) = some rs ∧ s.1 = addAll [] rs ∧ s.2.1 = nums (addAll [] rs) rs ∧ NumOk (addAll [] rs) s.2.2.1) (fun s => t.Prefixes.length - s.2.2.2) _ (fun s ⟨g1, rs, g2, g3, g4, g5⟩ => ?_) fuel _ ⟨Nat.zero_le _, [], rfl, rfl, rfl, fun r => by simp [addAll, mget]⟩ (by have := fuel_big; simp only; omega)
  obtain ⟨R, N, m, k⟩ := s
  simp only at g1 g2 g3 g4 g5
  subst g3 g4
  have hrl : rs.length = k := by
    have := (rowsO_all g2).1
    rw [List.length_take] at this
    omega
  have hRl := addAll_len [] rs
  simp only [List.length_nil] at hRl
  simp only [table_look.s2]
  by_cases h : k < t.Prefixes.length
  · have hx := get_at h
    have hxs : SmW t.Prefixes[k] := ht.sm.2.1.2 _ (List.getElem_mem _)
    rw [dec_lt hx, cond_true, idxn_at hx, finder_row_eq ho hv hF hS hxs, obind]
    cases hr : rowO o t.Prefixes[k] t.Suffixes with
    | none =>
      right
      refine ⟨.inr (v0, 12), rfl, ?_⟩
      rw [rowsO_none (List.getElem_mem h) hr]
    | some r =>
      left
      have hsm := rowO_rsm hv ht hr
      obtain ⟨m', e, hm'⟩ := view_add_eq (v := ⟨addAll [] rs, nums (addAll [] rs) rs, [], m⟩) hsm g5 (by simp only; omega)
      simp only at e hm'
      refine ⟨(addAll [] (rs ++ [r]), nums (addAll [] (rs ++ [r])) (rs ++ [r]), m', k + 1), ?_, ⟨h, rs ++ [r], ?_, rfl, rfl, ?_⟩, by simp only; omega⟩
      · simp only [tw, Bool.not_true, cond_false]
        rw [e, obind, chk_pos (by unfold nums capOk; rw [List.length_map]; omega), addAll_snoc]
        have h1 : nums (addR (addAll [] rs) r) (rs ++ [r]) = nums (addAll [] rs) rs ++ [(↑(pos r (addR (addAll [] rs) r)) : Int)] := by
          have h2 := nums_add (R := addAll [] rs) (rs := rs) (fun x hx => mem_addAll.2 (Or.inr hx)) [r]
          have h3 : addAll (addAll [] rs) [r] = addR (addAll [] rs) r := rfl
          rw [h3] at h2
          rw [← h2]
          simp [nums]
        rw [h1]
      · simp only
        rw [take_step hx]
        exact rowsO_snoc hr g2
      · simp only
        rw [addAll_snoc]
        exact hm'
  · right
    have e : k = t.Prefixes.length := by omega
    subst e
    rw [List.take_length] at g2
    refine ⟨.inl (addAll [] rs, nums (addAll [] rs) rs, m), by rw [decide_eq_false (by omega), cond_false], ?_⟩
    rw [g2]
    exact ⟨m, rfl, g5⟩

/-- The extensions of a prefix. -/
def exts (n : Nat) (p : List Int) : List (List Int) := (List.range n).map fun (a : Nat) => p ++ [(↑a : Int)]

/-- The inner loop: the rows of a prefix's extensions. -/
theorem look_inner {o : T_api_Obs} {t : T_api_Table} {F : List T_api_Trace} (ht : TabOk t) (ho : SmO o) (hv : ObsOk o) (hF : FindOk o F) (P : List Int) (Q : List (List Int)) {p : List Int} (hp : SmW p) (hp1 : p.length ≤ 1000000) {R : List Row} {m : List (ByteArray × Int)} (hm : NumOk R m) (hR : R.length ≤ 10000) :
    ∃ res, iter (fun (s : List (List (List Int)) × (List (ByteArray × Int)) × List Int × Nat) => table_look.s20 t F P Q p s.1 s.2.1 s.2.2.1 s.2.2.2) fuel (R, m, [], 0) = some res ∧
      match rowsO o t.Suffixes (exts t.Inputs.toNat p) with
      | none => res = .inr (.inr (.inr (v0, 12)))
      | some rs => ∃ m', res = .inl (addAll R rs, m', nums (addAll R rs) rs) ∧ NumOk (addAll R rs) m' := by
  have hn := ht.n
  have hS := ht.sm.2.2.1
  refine iter_post (step := fun (s : List (List (List Int)) × (List (ByteArray × Int)) × List Int × Nat) => table_look.s20 t F P Q p s.1 s.2.1 s.2.2.1 s.2.2.2)
    (fun s => s.2.2.2 ≤ t.Inputs.toNat ∧ ∃ rs, rowsO o t.Suffixes (exts s.2.2.2 p) = some rs ∧ s.1 = addAll R rs ∧ s.2.2.1 = nums (addAll R rs) rs ∧ NumOk (addAll R rs) s.2.1) (fun s => t.Inputs.toNat - s.2.2.2) _ (fun s ⟨g1, rs, g2, g3, g4, g5⟩ => ?_) fuel _ ⟨Nat.zero_le _, [], rfl, rfl, rfl, hm⟩ (by have := fuel_big; simp only; omega)
  obtain ⟨R', m1, N, k⟩ := s
  simp only at g1 g2 g3 g4 g5
  subst g3 g4
  have hrl : rs.length = k := by
    have := (rowsO_all g2).1
    unfold exts at this
    simpa using this
  have hRl := addAll_len R rs
  simp only [table_look.s20]
  by_cases h : k < t.Inputs.toNat
  · have hxs : SmW (p ++ [(↑k : Int)]) := by
      show (p ++ [(↑k : Int)]).length ≤ 2000000
      simp
      omega
    have hst : exts (k + 1) p = exts k p ++ [p ++ [(↑k : Int)]] := by simp [exts, List.range_succ]
    rw [decide_eq_true (by omega), cond_true, table_extended_eq hp, obind, finder_row_eq ho hv hF hS hxs, obind]
    cases hr : rowO o (p ++ [(↑k : Int)]) t.Suffixes with
    | none =>
      right
      refine ⟨.inr (.inr (.inr (v0, 12))), rfl, ?_⟩
      rw [rowsO_none (ws := exts t.Inputs.toNat p) (w := p ++ [(↑k : Int)]) (List.mem_map.2 ⟨k, List.mem_range.2 h, rfl⟩) hr]
    | some r =>
      left
      have hsm := rowO_rsm hv ht hr
      obtain ⟨m', e, hm'⟩ := view_add_eq (v := ⟨addAll R rs, P, Q, m1⟩) hsm g5 (by simp only; omega)
      simp only at e hm'
      refine ⟨(addAll R (rs ++ [r]), m', nums (addAll R (rs ++ [r])) (rs ++ [r]), k + 1), ?_, ⟨h, rs ++ [r], ?_, rfl, rfl, ?_⟩, by simp only; omega⟩
      · simp only [tw, Bool.not_true, cond_false]
        rw [e, obind, chk_pos (by unfold nums capOk; rw [List.length_map]; omega), chk_pos (by unfold inR; omega), addAll_snoc]
        have h1 : nums (addR (addAll R rs) r) (rs ++ [r]) = nums (addAll R rs) rs ++ [(↑(pos r (addR (addAll R rs) r)) : Int)] := by
          have h2 := nums_add (R := addAll R rs) (rs := rs) (fun x hx => mem_addAll.2 (Or.inr hx)) [r]
          have h3 : addAll (addAll R rs) [r] = addR (addAll R rs) r := rfl
          rw [h3] at h2
          rw [← h2]
          simp [nums]
        rw [h1]
      · simp only
        rw [hst]
        exact rowsO_snoc hr g2
      · simp only
        rw [addAll_snoc]
        exact hm'
  · right
    have e : k = t.Inputs.toNat := by omega
    subst e
    refine ⟨.inl (addAll R rs, m1, nums (addAll R rs) rs), by rw [decide_eq_false (by omega), cond_false], ?_⟩
    rw [g2]
    exact ⟨m1, rfl, g5⟩

/-- The rows of the extensions of prefixes. -/
def extRows (o : T_api_Obs) (S : List (List Int)) (n : Nat) : List (List Int) → Option (List (List Row))
  | [] => some []
  | p :: ps => match rowsO o S (exts n p) with
    | none => none
    | some rs => (extRows o S n ps).map fun l => rs :: l
theorem extRows_all {o : T_api_Obs} {S : List (List Int)} {n : Nat} : ∀ {ps : List (List Int)} {rss : List (List Row)}, extRows o S n ps = some rss → rss.length = ps.length ∧ ∀ (i : Nat) p, ps[i]? = some p → ∃ rs, rss[i]? = some rs ∧ rowsO o S (exts n p) = some rs
  | [], rss, h => by
    injection h with h
    subst h
    exact ⟨rfl, fun i w hw => by simp at hw⟩
  | p :: ps, rss, h => by
    unfold extRows at h
    cases hr : rowsO o S (exts n p) with
    | none => rw [hr] at h; cases h
    | some r =>
      rw [hr] at h
      obtain ⟨rs', h1, rfl⟩ := Option.map_eq_some_iff.1 h
      obtain ⟨h2, h3⟩ := extRows_all h1
      refine ⟨by simp [h2], fun i u hu => ?_⟩
      cases i with
      | zero =>
        simp at hu
        subst hu
        exact ⟨r, rfl, hr⟩
      | succ i => simpa using h3 i u (by simpa using hu)
theorem extRows_none {o : T_api_Obs} {S : List (List Int)} {n : Nat} {ps : List (List Int)} {p : List Int} (hw : p ∈ ps) (h : rowsO o S (exts n p) = none) : extRows o S n ps = none := by
  cases hr : extRows o S n ps with
  | none => rfl
  | some rs =>
    obtain ⟨i, hi, rfl⟩ := List.mem_iff_getElem.1 hw
    obtain ⟨r, _, h2⟩ := (extRows_all hr).2 i _ (get_at hi)
    rw [h] at h2
    cases h2
theorem extRows_snoc {o : T_api_Obs} {S : List (List Int)} {n : Nat} {p : List Int} {r : List Row} (h : rowsO o S (exts n p) = some r) : ∀ {ps : List (List Int)} {rs : List (List Row)}, extRows o S n ps = some rs → extRows o S n (ps ++ [p]) = some (rs ++ [r])
  | [], rs, h1 => by
    injection h1 with h1
    subst h1
    simp [extRows, h]
  | u :: ps, rs, h1 => by
    rw [List.cons_append]
    unfold extRows at h1 ⊢
    cases hr : rowsO o S (exts n u) with
    | none => rw [hr] at h1; cases h1
    | some r' =>
      rw [hr] at h1
      obtain ⟨rs', h2, rfl⟩ := Option.map_eq_some_iff.1 h1
      simp only [extRows_snoc h h2]
      rfl

/-- The second loop. -/
theorem look_second {o : T_api_Obs} {t : T_api_Table} {F : List T_api_Trace} (ht : TabOk t) (ho : SmO o) (hv : ObsOk o) (hF : FindOk o F) (P : List Int) {R : List Row} {m : List (ByteArray × Int)} (hm : NumOk R m) (hR : R.length ≤ 1000) :
    ∃ res, iter (fun (s : List (List (List Int)) × List (List Int) × (List (ByteArray × Int)) × Nat) => table_look.s22 t F P s.1 s.2.1 s.2.2.1 s.2.2.2) fuel (R, [], m, 0) = some res ∧
      match extRows o t.Suffixes t.Inputs.toNat t.Prefixes with
      | none => res = .inr (v0, 12)
      | some rss => ∃ m', res = .inl (addAll R rss.flatten, rss.map (nums (addAll R rss.flatten)), m') := by
  have hn := ht.n
  have hp := ht.p
  refine iter_post (step := fun (s : List (List (List Int)) × List (List Int) × (List (ByteArray × Int)) × Nat) => table_look.s22 t F P s.1 s.2.1 s.2.2.1 s.2.2.2)
    (fun s => s.2.2.2 ≤ t.Prefixes.length ∧ ∃ rss, extRows o t.Suffixes t.Inputs.toNat (t.Prefixes.take s.2.2.2) = some rss ∧ rss.flatten.length ≤ 4 * s.2.2.2 ∧ s.1 = addAll R rss.flatten ∧ s.2.1 = rss.map (nums (addAll R rss.flatten)) ∧ NumOk (addAll R rss.flatten) s.2.2.1) (fun s => t.Prefixes.length - s.2.2.2) _ (fun s ⟨g1, rss, g2, g6, g3, g4, g5⟩ => ?_) fuel _ ⟨Nat.zero_le _, [], rfl, by simp, rfl, rfl, hm⟩ (by have := fuel_big; simp only; omega)
  obtain ⟨R', N, m1, k⟩ := s
  simp only at g1 g2 g3 g4 g5 g6
  subst g3 g4
  have hrl : rss.length = k := by
    have := (extRows_all g2).1
    rw [List.length_take] at this
    omega
  have hRl := addAll_len R rss.flatten
  simp only [table_look.s22]
  by_cases h : k < t.Prefixes.length
  · have hx := get_at h
    have hxs : SmW t.Prefixes[k] := ht.sm.2.1.2 _ (List.getElem_mem _)
    have hxl := ht.pw _ (List.getElem_mem h)
    obtain ⟨res, e, hres⟩ := look_inner ht ho hv hF P (rss.map (nums (addAll R rss.flatten))) hxs (by omega) g5 (by omega)
    rw [dec_lt hx, cond_true, idxn_at hx, e, obind]
    cases hr : rowsO o t.Suffixes (exts t.Inputs.toNat t.Prefixes[k]) with
    | none =>
      rw [hr] at hres
      right
      refine ⟨.inr (v0, 12), by rw [hres]; rfl, ?_⟩
      rw [extRows_none (List.getElem_mem h) hr]
    | some rs =>
      rw [hr] at hres
      obtain ⟨m', h1, h2⟩ := hres
      left
      have hsl : rs.length = t.Inputs.toNat := by
        have := (rowsO_all hr).1
        unfold exts at this
        simpa using this
      have hfl : (rss ++ [rs]).flatten = rss.flatten ++ rs := by simp
      refine ⟨(addAll R (rss ++ [rs]).flatten, (rss ++ [rs]).map (nums (addAll R (rss ++ [rs]).flatten)), m', k + 1), ?_, ⟨h, rss ++ [rs], ?_, ?_, rfl, rfl, ?_⟩, by simp only; omega⟩
      · rw [h1]
        simp only [Sum.elim_inl, table_look.k21]
        rw [chk_pos (by rw [List.length_map]; unfold capOk; omega), hfl, addAll_append]
        have h3 : rss.map (nums (addAll (addAll R rss.flatten) rs)) = rss.map (nums (addAll R rss.flatten)) := by
          refine List.map_congr_left fun x hx => ?_
          exact nums_add (fun y hy => mem_addAll.2 (Or.inr (List.mem_flatten.2 ⟨x, hx, hy⟩))) rs
        rw [List.map_append, h3]
        rfl
      · simp only
        rw [take_step hx]
        exact extRows_snoc hr g2
      · simp only
        rw [hfl, List.length_append]
        omega
      · simp only
        rw [hfl, addAll_append]
        exact h2
  · right
    have e : k = t.Prefixes.length := by omega
    subst e
    rw [List.take_length] at g2
    refine ⟨.inl (addAll R rss.flatten, rss.map (nums (addAll R rss.flatten)), m1), by rw [decide_eq_false (by omega), cond_false], ?_⟩
    rw [g2]
    exact ⟨m1, rfl⟩

/-- What the view of a table is. -/
def LookSpec (t : T_api_Table) (o : T_api_Obs) (v : T_table_view) (e : Int) : Prop :=
  (chkT t o ≠ 0 ∧ e = chkT t o) ∨
  (chkT t o = 0 ∧ e = 12 ∧ (rowsO o t.Suffixes t.Prefixes = none ∨ extRows o t.Suffixes t.Inputs.toNat t.Prefixes = none)) ∨
  (chkT t o = 0 ∧ e = 0 ∧ ∃ rs rss, rowsO o t.Suffixes t.Prefixes = some rs ∧ extRows o t.Suffixes t.Inputs.toNat t.Prefixes = some rss ∧
    v.rows = addAll (addAll [] rs) rss.flatten ∧ v.prefixes = nums v.rows rs ∧ v.next = rss.map (nums v.rows))

theorem table_look_eq {t : T_api_Table} {o : T_api_Obs} (ht : TabOk t) (ho : SmO o) (hv : ObsOk o) : ∃ v e, table_look t o = some (v, e) ∧ LookSpec t o v e := by
  obtain ⟨F, hF1, hF⟩ := table_find_eq ho hv
  have hp := ht.p
  unfold table_look
  rw [table_check_eq ht.sm, obind]
  by_cases h : chkT t o = 0
  · rw [decide_eq_false (by simpa using h), cond_false, hF1, obind]
    obtain ⟨res, e, hres⟩ := look_first ht ho hv hF
    rw [e, obind]
    cases hr : rowsO o t.Suffixes t.Prefixes with
    | none =>
      rw [hr] at hres
      subst hres
      exact ⟨v0, 12, rfl, .inr (.inl ⟨h, rfl, .inl hr⟩)⟩
    | some rs =>
      rw [hr] at hres
      obtain ⟨m, h1, h2⟩ := hres
      subst h1
      have hrl := (rowsO_all hr).1
      have hRl := addAll_len [] rs
      simp only [List.length_nil] at hRl
      simp only [Sum.elim_inl, table_look.k24]
      obtain ⟨res2, e2, hres2⟩ := look_second ht ho hv hF (nums (addAll [] rs) rs) h2 (by omega)
      rw [e2, obind]
      cases hr2 : extRows o t.Suffixes t.Inputs.toNat t.Prefixes with
      | none =>
        rw [hr2] at hres2
        subst hres2
        exact ⟨v0, 12, rfl, .inr (.inl ⟨h, rfl, .inr hr2⟩)⟩
      | some rss =>
        rw [hr2] at hres2
        obtain ⟨m', h3⟩ := hres2
        subst h3
        refine ⟨_, 0, rfl, .inr (.inr ⟨h, rfl, rs, rss, hr, hr2, rfl, ?_, rfl⟩)⟩
        exact (nums_add (fun x hx => mem_addAll.2 (Or.inr hx)) rss.flatten).symm
  · rw [decide_eq_true h, cond_true]
    exact ⟨_, _, rfl, .inl ⟨h, rfl⟩⟩
end Go.Proofs.YtpmebphhbgpapaaGreatDoor.Sym

/-
  Complete tables, and the word that shows that a table is not closed. Plain laws.
-/
namespace Go.Proofs.YtpmebphhbgpapaaGreatDoor.Sym
set_option maxRecDepth 100000

theorem rowO_some {o : T_api_Obs} {w : List Int} : ∀ {S : List (List Int)}, (∀ e ∈ S, ansO o (w ++ e) ≠ none) → ∃ r, rowO o w S = some r
  | [], _ => ⟨[], rfl⟩
  | e :: S, h => by
    obtain ⟨l, hl⟩ := rowO_some (S := S) fun e he => h e (List.mem_cons_of_mem _ he)
    unfold rowO
    cases ha : ansO o (w ++ e) with
    | none => exact absurd ha (h e (by simp))
    | some r =>
      rw [hl]
      exact ⟨_, rfl⟩
theorem rowO_ans {o : T_api_Obs} {w : List Int} : ∀ {S : List (List Int)} {r : Row}, rowO o w S = some r → ∀ e ∈ S, ansO o (w ++ e) ≠ none
  | [], _, _, e, he => by cases he
  | u :: S, r, h, e, he => by
    unfold rowO at h
    cases ha : ansO o (w ++ u) with
    | none => rw [ha] at h; cases h
    | some x =>
      rw [ha] at h
      obtain ⟨l, h1, _⟩ := Option.map_eq_some_iff.1 h
      rcases List.mem_cons.1 he with rfl | he
      · rw [ha]; simp
      · exact rowO_ans h1 e he

/-- All rows are there. -/
def AllRows (t : T_api_Table) (o : T_api_Obs) : Prop := ∀ p ∈ t.Prefixes, ∀ w ∈ withX t.Inputs.toNat p, ∃ r, rowO o w t.Suffixes = some r

theorem need_nil {t : T_api_Table} {o : T_api_Obs} : needL o t t.Prefixes = [] ↔ AllRows t o := by
  constructor
  · intro h p hp w hw
    refine rowO_some fun e he hn => ?_
    have : w ++ e ∈ needL o t t.Prefixes := List.mem_flatMap.2 ⟨p, hp, List.mem_flatMap.2 ⟨w, hw, mem_missO.2 ⟨⟨e, he, rfl⟩, hn⟩⟩⟩
    rw [h] at this
    cases this
  · intro h
    refine List.eq_nil_iff_forall_not_mem.2 fun v hv => ?_
    obtain ⟨p, hp, h2⟩ := List.mem_flatMap.1 hv
    obtain ⟨w, hw, h3⟩ := List.mem_flatMap.1 h2
    obtain ⟨⟨e, he, rfl⟩, hn⟩ := mem_missO.1 h3
    obtain ⟨r, hr⟩ := h p hp w hw
    exact rowO_ans hr e he hn

/-- The error of a table that must be complete. -/
def compT (t : T_api_Table) (o : T_api_Obs) : Int := if chkT t o ≠ 0 then chkT t o else if needL o t t.Prefixes = [] then 0 else 12
/-- What a view says of a complete table. -/
structure ViewOk (t : T_api_Table) (o : T_api_Obs) (v : T_table_view) : Prop where
  pl : v.prefixes.length = t.Prefixes.length
  nl : v.next.length = t.Prefixes.length
  pre : ∀ (i : Nat) p, t.Prefixes[i]? = some p → ∃ r, rowO o p t.Suffixes = some r ∧ r ∈ v.rows ∧ v.prefixes[i]? = some (↑(pos r v.rows) : Int)
  nxt : ∀ (i : Nat) p, t.Prefixes[i]? = some p → ∃ l, v.next[i]? = some l ∧ l.length = t.Inputs.toNat ∧ ∀ a, a < t.Inputs.toNat → ∃ r, rowO o (p ++ [(↑a : Int)]) t.Suffixes = some r ∧ r ∈ v.rows ∧ l[a]? = some (↑(pos r v.rows) : Int)

theorem look_view {t : T_api_Table} {o : T_api_Obs} {v : T_table_view} {e : Int} (h : LookSpec t o v e) : e = compT t o ∧ (e = 0 → ViewOk t o v ∧ AllRows t o ∧ chkT t o = 0) := by
  unfold compT
  rcases h with ⟨h1, rfl⟩ | ⟨h1, rfl, h2⟩ | ⟨h1, rfl, rs, rss, h2, h3, h4, h5, h6⟩
  · exact ⟨by rw [if_pos h1], fun h => absurd h h1⟩
  · have hn : needL o t t.Prefixes ≠ [] := fun hn => by
      have hA := need_nil.1 hn
      rcases h2 with h2 | h2
      · have : ∀ (ps : List (List Int)), (∀ p ∈ ps, ∃ r, rowO o p t.Suffixes = some r) → rowsO o t.Suffixes ps ≠ none := by
          intro ps
          induction ps with
          | nil => intro _ h; cases h
          | cons p ps ih =>
            intro hp h
            obtain ⟨r, hr⟩ := hp p (by simp)
            unfold rowsO at h
            rw [hr] at h
            exact ih (fun q hq => hp q (List.mem_cons_of_mem _ hq)) (by simpa using h)
        exact this _ (fun p hp => hA p hp p (by simp [withX])) h2
      · have hone : ∀ p ∈ t.Prefixes, rowsO o t.Suffixes (exts t.Inputs.toNat p) ≠ none := fun p hp => by
          have : ∀ (ps : List (List Int)), (∀ p ∈ ps, ∃ r, rowO o p t.Suffixes = some r) → rowsO o t.Suffixes ps ≠ none := by
            intro ps
            induction ps with
            | nil => intro _ h; cases h
            | cons p ps ih =>
              intro hp h
              obtain ⟨r, hr⟩ := hp p (by simp)
              unfold rowsO at h
              rw [hr] at h
              exact ih (fun q hq => hp q (List.mem_cons_of_mem _ hq)) (by simpa using h)
          exact this _ fun w hw => hA p hp w (List.mem_cons_of_mem _ hw)
        have : ∀ (ps : List (List Int)), (∀ p ∈ ps, rowsO o t.Suffixes (exts t.Inputs.toNat p) ≠ none) → extRows o t.Suffixes t.Inputs.toNat ps ≠ none := by
          intro ps
          induction ps with
          | nil => intro _ h; cases h
          | cons p ps ih =>
            intro hp h
            unfold extRows at h
            cases hr : rowsO o t.Suffixes (exts t.Inputs.toNat p) with
            | none => exact hp p (by simp) hr
            | some r =>
              rw [hr] at h
              exact ih (fun q hq => hp q (List.mem_cons_of_mem _ hq)) (by simpa using h)
        exact this _ hone h2
    exact ⟨by rw [if_neg (by simpa using h1), if_neg hn], fun h => by cases h⟩
  · have hP := rowsO_all h2
    have hE := extRows_all h3
    have hmem1 : ∀ r ∈ rs, r ∈ v.rows := fun r hr => by rw [h4]; exact mem_addAll.2 (Or.inl (mem_addAll.2 (Or.inr hr)))
    have hmem2 : ∀ l ∈ rss, ∀ r ∈ l, r ∈ v.rows := fun l hl r hr => by rw [h4]; exact mem_addAll.2 (Or.inr (List.mem_flatten.2 ⟨l, hl, hr⟩))
    have hV : ViewOk t o v := by
      refine ⟨by rw [h5]; unfold nums; rw [List.length_map, hP.1], by rw [h6, List.length_map, hE.1], fun i p hp => ?_, fun i p hp => ?_⟩
      · obtain ⟨r, hr1, hr2⟩ := hP.2 i p hp
        refine ⟨r, hr2, hmem1 r (List.mem_of_getElem? hr1), ?_⟩
        rw [h5]
        unfold nums
        rw [List.getElem?_map, hr1]
        rfl
      · obtain ⟨l, hl1, hl2⟩ := hE.2 i p hp
        have hL := rowsO_all hl2
        refine ⟨nums v.rows l, by rw [h6, List.getElem?_map, hl1]; rfl, by unfold nums; rw [List.length_map, hL.1]; simp [exts], fun a ha => ?_⟩
        have hx : (exts t.Inputs.toNat p)[a]? = some (p ++ [(↑a : Int)]) := by
          unfold exts
          rw [List.getElem?_map, List.getElem?_range ha]
          rfl
        obtain ⟨r, hr1, hr2⟩ := hL.2 a _ hx
        refine ⟨r, hr2, hmem2 l (List.mem_of_getElem? hl1) r (List.mem_of_getElem? hr1), ?_⟩
        unfold nums
        rw [List.getElem?_map, hr1]
        rfl
    have hA : AllRows t o := fun p hp w hw => by
      obtain ⟨i, hi, rfl⟩ := List.mem_iff_getElem.1 hp
      unfold withX at hw
      rcases List.mem_cons.1 hw with rfl | hw
      · obtain ⟨r, hr, _⟩ := hV.pre i _ (get_at hi)
        exact ⟨r, hr⟩
      · obtain ⟨a, ha, rfl⟩ := List.mem_map.1 hw
        obtain ⟨l, _, _, h7⟩ := hV.nxt i _ (get_at hi)
        obtain ⟨r, hr, _⟩ := h7 a (List.mem_range.1 ha)
        exact ⟨r, hr⟩
    exact ⟨by rw [if_neg (by simpa using h1), if_pos (need_nil.2 hA)], fun _ => ⟨hV, hA, h1⟩⟩

/-- A valid table's prefixes ascend. -/
theorem valid_asc {t : T_api_Table} (h : validT t = 0) : 1 ≤ t.Inputs ∧ t.Inputs ≤ 64 ∧ Asc t.Prefixes ∧ Asc t.Suffixes ∧ (∀ a ∈ List.range t.Inputs.toNat, [(↑a : Int)] ∈ t.Suffixes) ∧ scan (preG t fun w => decide (w ∈ t.Prefixes)) 0 t.Prefixes = none ∧ scan (sufG t) 0 t.Suffixes = none ∧ t.Prefixes ≠ [] := by
  unfold validT at h
  split at h
  · cases h
  · rename_i h1
    split at h
    · cases h
    · rename_i h2
      split at h
      · cases h
      · cases e1 : scan (preG t fun w => decide (w ∈ t.Prefixes)) 0 t.Prefixes with
        | some e =>
          exfalso
          rw [e1] at h
          simp only at h
          subst h
          have key : ∀ (l : List (List Int)) (j : Nat), scan (preG t fun w => decide (w ∈ t.Prefixes)) j l ≠ some 0 := by
            intro l
            induction l with
            | nil => intro j h; cases h
            | cons x l ih =>
              intro j h
              unfold scan at h
              split at h
              · rename_i r' h3
                injection h with h
                subst h
                unfold preG at h3
                split at h3
                · rename_i h4
                  injection h3 with h3
                  exact h4 h3
                · split at h3
                  · cases h3
                  · split at h3
                    · cases h3
                    · cases h3
              · exact ih _ h
          exact key _ _ e1
        | none =>
          rw [e1] at h
          cases e2 : scan (sufG t) 0 t.Suffixes with
          | some e =>
            exfalso
            rw [e2] at h
            simp only at h
            subst h
            have key : ∀ (l : List (List Int)) (j : Nat), scan (sufG t) j l ≠ some 0 := by
              intro l
              induction l with
              | nil => intro j h; cases h
              | cons x l ih =>
                intro j h
                unfold scan at h
                split at h
                · rename_i r' h3
                  injection h with h
                  subst h
                  unfold sufG at h3
                  split at h3
                  · rename_i h4
                    injection h3 with h3
                    exact h4 h3
                  · split at h3
                    · cases h3
                    · split at h3
                      · cases h3
                      · cases h3
                · exact ih _ h
            exact key _ _ e2
          | none =>
            rw [e2] at h
            simp only at h
            split at h
            · rename_i h5
              refine ⟨by omega, by omega, Asc_of_prev fun i w hw => ?_, (sufG_none e2).1, h5, rfl, rfl, fun e => h2 (by rw [e]; rfl)⟩
              have := scan_none.1 e1 i w hw
              rw [Nat.zero_add] at this
              unfold preG at this
              split at this
              · cases this
              · split at this
                · cases this
                · rename_i h6
                  cases hpv : prevLt t.Prefixes i w with
                  | true => rfl
                  | false => exact absurd (Or.inr hpv) h6
            · cases h

theorem sortW_of_asc {l : List (List Int)} (h : Asc l) : sortW l = l := asc_ext (sortW_asc l) h fun x => mem_sortW l x

/-- The first extension whose row no prefix has. -/
def newRow (t : T_api_Table) (o : T_api_Obs) (w : List Int) : Bool := decide (rowO o w t.Suffixes ∉ t.Prefixes.map fun p => rowO o p t.Suffixes)
def unclT (t : T_api_Table) (o : T_api_Obs) : List Int × Bool × Int := if compT t o ≠ 0 then ([], false, compT t o) else match (extL t).find? (newRow t o) with | none => ([], false, 0) | some w => (w, true, 0)

theorem contains_eq {l : List Int} {x : Int} (hl : l.length ≤ 2000000) : slices_Contains_Sint_int l x = some (decide (x ∈ l)) := by
  unfold slices_Contains_Sint_int slices_Index_Sint_int
  have key := iter_post (step := fun s => slices_Index_Sint_int.s2 l x s) (fun k => k ≤ l.length ∧ x ∉ l.take k) (fun k => l.length - k) (fun r => match r with | .inl () => x ∉ l | .inr n => 0 ≤ n ∧ x ∈ l) (fun k ⟨g1, g2⟩ => by
    simp only [slices_Index_Sint_int.s2]
    by_cases g3 : k < l.length
    · have hx := get_at g3
      rw [dec_lt hx, cond_true, idxn_at hx]
      by_cases e : x = l[k]
      · right
        exact ⟨.inr (k : Int), by rw [decide_eq_true e, cond_true], by omega, by rw [e]; exact List.getElem_mem _⟩
      · left
        refine ⟨k + 1, by rw [decide_eq_false e, cond_false], ⟨g3, ?_⟩, by omega⟩
        rw [take_step hx]
        exact fun h => (List.mem_append.1 h).elim g2 fun h => e (List.mem_singleton.1 h)
    · right
      rw [List.take_of_length_le (by omega)] at g2
      exact ⟨.inl (), by rw [decide_eq_false (by omega), cond_false], g2⟩) fuel 0 ⟨Nat.zero_le _, by simp⟩ (by have := fuel_big; omega)
  obtain ⟨r, e, hq⟩ := key
  rw [e, obind]
  cases r with
  | inl u =>
    have hq : x ∉ l := hq
    simp only [Sum.elim_inl]
    rw [obind, decide_eq_false hq]
    rfl
  | inr n =>
    have hq : 0 ≤ n ∧ x ∈ l := hq
    simp only [Sum.elim_inr]
    rw [obind, decide_eq_true hq.1, decide_eq_true hq.2]

theorem view_has {t : T_api_Table} {o : T_api_Obs} {v : T_table_view} (hV : ViewOk t o v) {r : Row} {w : List Int} (hr : rowO o w t.Suffixes = some r) (hm : r ∈ v.rows) : ((↑(pos r v.rows) : Int) ∈ v.prefixes) ↔ newRow t o w = false := by
  unfold newRow
  rw [decide_eq_false_iff_not, Classical.not_not, hr, List.mem_map]
  constructor
  · intro h
    obtain ⟨i, hi, e⟩ := List.mem_iff_getElem.1 h
    have hp := get_at (l := t.Prefixes) (i := i) (by rw [← hV.pl]; exact hi)
    obtain ⟨r', h1, h2, h3⟩ := hV.pre i _ hp
    rw [get_at hi, e] at h3
    injection h3 with h3
    have h4 := pos_inj hm h2 (by omega)
    exact ⟨_, List.getElem_mem _, by rw [h1, h4]⟩
  · rintro ⟨p, hp, h⟩
    obtain ⟨i, hi, rfl⟩ := List.mem_iff_getElem.1 hp
    obtain ⟨r', h1, h2, h3⟩ := hV.pre i _ (get_at hi)
    rw [h1] at h
    injection h with h
    subst h
    exact List.mem_of_getElem? h3

theorem view_unclosed_eq {t : T_api_Table} {o : T_api_Obs} {v : T_table_view} (ht : TabOk t) (hV : ViewOk t o v) : ∃ i a b, table_view_unclosed v = some (i, a, b) ∧
    match (extL t).find? (newRow t o) with
    | none => b = false
    | some w => b = true ∧ ∃ (k : Nat) (p : List Int), i = (k : Int) ∧ t.Prefixes[k]? = some p ∧ w = p ++ [a] := by
  have hn := ht.n
  have hp := ht.p
  unfold table_view_unclosed
  have key := iter_post (step := fun s => table_view_unclosed.s14 v s) (fun k => k ≤ t.Prefixes.length ∧ ((t.Prefixes.take k).flatMap (exts t.Inputs.toNat)).find? (newRow t o) = none) (fun k => t.Prefixes.length - k)
    (fun r => match r with | .inl () => (extL t).find? (newRow t o) = none | .inr x => x.2.2 = true ∧ ∃ w, (extL t).find? (newRow t o) = some w ∧ ∃ (k : Nat) (p : List Int), x.1 = (k : Int) ∧ t.Prefixes[k]? = some p ∧ w = p ++ [x.2.1]) (fun k ⟨g1, g2⟩ => by
      simp only [table_view_unclosed.s14]
      rw [hV.nl]
      by_cases g3 : k < t.Prefixes.length
      · have hx := get_at g3
        obtain ⟨l, hl1, hl2, hl3⟩ := hV.nxt k _ hx
        rw [decide_eq_true (by omega), cond_true, idxn_at hl1]
        have hsplit : extL t = (t.Prefixes.take k).flatMap (exts t.Inputs.toNat) ++ (exts t.Inputs.toNat t.Prefixes[k] ++ (t.Prefixes.drop (k + 1)).flatMap (exts t.Inputs.toNat)) := by
          have h1 : t.Prefixes = t.Prefixes.take k ++ t.Prefixes[k] :: t.Prefixes.drop (k + 1) := by
            rw [← List.drop_eq_getElem_cons g3, List.take_append_drop]
          have h2 : extL t = t.Prefixes.flatMap (exts t.Inputs.toNat) := rfl
          rw [h2]
          conv => lhs; rw [h1]
          rw [List.flatMap_append, List.flatMap_cons]
        have inner := iter_post (step := fun s => table_view_unclosed.s13 v k l s) (fun a => a ≤ t.Inputs.toNat ∧ (exts a t.Prefixes[k]).find? (newRow t o) = none) (fun a => t.Inputs.toNat - a)
          (fun r => match r with | .inl () => (exts t.Inputs.toNat t.Prefixes[k]).find? (newRow t o) = none | .inr x => ∃ a : Nat, x = .inr (.inr ((k : Int), (a : Int), true)) ∧ (exts t.Inputs.toNat t.Prefixes[k]).find? (newRow t o) = some (t.Prefixes[k] ++ [(↑a : Int)])) (fun a ⟨q1, q2⟩ => by
            simp only [table_view_unclosed.s13]
            rw [hl2]
            by_cases q3 : a < t.Inputs.toNat
            · obtain ⟨r, hr1, hr2, hr3⟩ := hl3 a q3
              have hst : exts (a + 1) t.Prefixes[k] = exts a t.Prefixes[k] ++ [t.Prefixes[k] ++ [(↑a : Int)]] := by simp [exts, List.range_succ]
              have hiff := view_has hV hr1 hr2
              rw [decide_eq_true (by omega), cond_true, idxn_at hr3, contains_eq (by rw [hV.pl]; omega), obind]
              cases hnw : newRow t o (t.Prefixes[k] ++ [(↑a : Int)]) with
              | true =>
                right
                have hno : ¬ (↑(pos r v.rows) : Int) ∈ v.prefixes := fun h => by
                  have := hiff.1 h
                  rw [hnw] at this
                  cases this
                refine ⟨.inr (.inr (.inr ((k : Int), (a : Int), true))), by rw [decide_eq_false hno]; rfl, a, rfl, ?_⟩
                have hfull : exts t.Inputs.toNat t.Prefixes[k] = exts a t.Prefixes[k] ++ ((t.Prefixes[k] ++ [(↑a : Int)]) :: ((List.range' (a + 1) (t.Inputs.toNat - (a + 1))).map fun (b : Nat) => t.Prefixes[k] ++ [(↑b : Int)])) := by
                  have h1 : List.range t.Inputs.toNat = List.range a ++ a :: List.range' (a + 1) (t.Inputs.toNat - (a + 1)) := by
                    rw [List.range_eq_range', List.range_eq_range', ← List.range'_succ, show t.Inputs.toNat - (a + 1) + 1 = t.Inputs.toNat - a by omega]
                    have := List.range'_append_1 (s := 0) (m := a) (n := t.Inputs.toNat - a)
                    rw [Nat.zero_add, show a + (t.Inputs.toNat - a) = t.Inputs.toNat by omega] at this
                    exact this.symm
                  unfold exts
                  rw [h1, List.map_append, List.map_cons]
                rw [hfull, List.find?_append, q2, List.find?_cons_of_pos (by rw [hnw])]
                rfl
              | false =>
                left
                refine ⟨a + 1, by rw [decide_eq_true (hiff.2 hnw)]; rfl, ⟨q3, ?_⟩, by omega⟩
                rw [hst, List.find?_append, q2, List.find?_cons_of_neg (by rw [hnw]; simp)]
                rfl
            · right
              have e : a = t.Inputs.toNat := by omega
              subst e
              exact ⟨.inl (), by rw [decide_eq_false (by omega), cond_false], q2⟩) fuel 0 ⟨Nat.zero_le _, rfl⟩ (by have := fuel_big; omega)
        obtain ⟨r, e, hq⟩ := inner
        rw [e, obind]
        cases r with
        | inl u =>
          have hq : (exts t.Inputs.toNat t.Prefixes[k]).find? (newRow t o) = none := hq
          left
          refine ⟨k + 1, rfl, ⟨g3, ?_⟩, by omega⟩
          rw [take_step hx, List.flatMap_append, List.find?_append, g2]
          simp [hq]
        | inr x =>
          right
          obtain ⟨a, rfl, h2⟩ := hq
          refine ⟨.inr ((k : Int), (a : Int), true), rfl, rfl, t.Prefixes[k] ++ [(↑a : Int)], ?_, k, _, rfl, hx, rfl⟩
          rw [hsplit, List.find?_append, g2, List.find?_append, h2]
          rfl
      · right
        have e : k = t.Prefixes.length := by omega
        subst e
        rw [List.take_length] at g2
        exact ⟨.inl (), by rw [decide_eq_false (by omega), cond_false], g2⟩) fuel 0 ⟨Nat.zero_le _, rfl⟩ (by have := fuel_big; omega)
  obtain ⟨r, e, hq⟩ := key
  rw [e, obind]
  cases r with
  | inl u =>
    have hq : (extL t).find? (newRow t o) = none := hq
    refine ⟨0, 0, false, rfl, ?_⟩
    rw [hq]
  | inr x =>
    obtain ⟨h1, w, h2, h3⟩ := hq
    obtain ⟨i, a, b⟩ := x
    refine ⟨i, a, b, rfl, ?_⟩
    rw [h2]
    exact ⟨h1, h3⟩

theorem table_Unclosed_eq {t : T_api_Table} {o : T_api_Obs} (ht : TabOk t) (ho : SmO o) (hv : ObsOk o) : table_Unclosed t o = some (unclT t o) := by
  obtain ⟨v, e, h1, h2⟩ := table_look_eq ht ho hv
  obtain ⟨h3, h4⟩ := look_view h2
  unfold table_Unclosed unclT
  rw [h1, obind]
  simp only
  rw [h3] at h4 ⊢
  by_cases h : compT t o = 0
  · obtain ⟨hV, _, _⟩ := h4 h
    obtain ⟨i, a, b, h5, h6⟩ := view_unclosed_eq ht hV
    rw [decide_eq_false (by simpa using h), cond_false, if_neg (by simpa using h), h5, obind]
    cases hf : (extL t).find? (newRow t o) with
    | none =>
      rw [hf] at h6
      subst h6
      rfl
    | some w =>
      rw [hf] at h6
      obtain ⟨rfl, k, p, rfl, hp, rfl⟩ := h6
      simp only [Bool.not_true, cond_false]
      rw [idx_at rfl hp, table_extended_eq (ht.sm.2.1.2 p (List.mem_of_getElem? hp)), obind]
  · rw [decide_eq_true h, cond_true, if_pos h]

end Go.Proofs.YtpmebphhbgpapaaGreatDoor.Sym

/-
  The suffix that shows that a table is not consistent, and the law of TableRepairs. Plain laws.
-/
namespace Go.Proofs.YtpmebphhbgpapaaGreatDoor.Sym
set_option maxRecDepth 100000

section
variable {α R T : Type}
theorem scan_map {g : Nat → α → Option R} {f : R → T} : ∀ (l : List α) (j : Nat), scan (fun i x => (g i x).map f) j l = (scan g j l).map f
  | [], _ => rfl
  | x :: l, j => by
    unfold scan
    cases g j x with
    | some r => rfl
    | none => exact scan_map l (j + 1)
/-- Not by reckoning. -/
theorem elim_l {α β γ : Type} {f : α → γ} {g : β → γ} {a : α} : Sum.elim f g (Sum.inl a) = f a := (Sum.elim_inl f g a).trans (Eq.trans rfl rfl)
/-- A loop that looks for the first result, from a place on. -/
theorem iter_scan_at {step : Nat → Option (Nat ⊕ (Unit ⊕ R))} {l : List α} (g : Nat → α → Option R) (j : Nat) (hj : j ≤ l.length) (h1 : ∀ i x, j ≤ i → l[i]? = some x → step i = some (match g i x with | some r => .inr (.inr r) | none => .inl (i + 1))) (h2 : step l.length = some (.inr (.inl ()))) (hl : l.length ≤ 100000000000000) :
    iter step fuel j = some (match scan g j (l.drop j) with | some r => .inr r | none => .inl ()) := by
  have key : ∀ (n i : Nat), j ≤ i → i ≤ l.length → l.length - i < n → iter step n i = some (match scan g i (l.drop i) with | some r => .inr r | none => .inl ()) := by
    intro n
    induction n with
    | zero => intro i _ _ h; omega
    | succ n ih =>
      intro i hji hi hn
      rcases Nat.lt_or_ge i l.length with h | h
      · rw [List.drop_eq_getElem_cons h]
        unfold iter scan
        rw [h1 i _ hji (List.getElem?_eq_getElem h)]
        cases g i l[i] with
        | some r => rfl
        | none => exact ih (i + 1) (by omega) h (by omega)
      · have e : i = l.length := by omega
        subst e
        rw [List.drop_length]
        unfold iter scan
        rw [h2]
  exact key fuel j (Nat.le_refl _) hj (by have := fuel_big; omega)
end

/-- Where two rows part; where two prefixes' extensions do; where two equal rows' do. -/
def rowG (t : T_api_Table) (o : T_api_Obs) (w : List Int) : Row := (rowO o w t.Suffixes).getD []
def dP (a : Nat) (x y : Row) : Option (Int × Int × Bool) := scan (fun e u => if y[e]? = some u then none else some ((↑a : Int), (↑e : Int), true)) 0 x
def pP (t : T_api_Table) (o : T_api_Obs) (p q : List Int) : Option (Int × Int × Bool) := scan (fun _ (a : Nat) => dP a (rowG t o (p ++ [(↑a : Int)])) (rowG t o (q ++ [(↑a : Int)]))) 0 (List.range t.Inputs.toNat)
def iP (t : T_api_Table) (o : T_api_Obs) : Option (Int × Int × Bool) := scan (fun i p => scan (fun _ q => if rowO o p t.Suffixes = rowO o q t.Suffixes then pP t o p q else none) (i + 1) (t.Prefixes.drop (i + 1))) 0 t.Prefixes
def toW (t : T_api_Table) (x : Int × Int × Bool) : List Int := x.1 :: (t.Suffixes[x.2.1.toNat]?).getD []
def incT (t : T_api_Table) (o : T_api_Obs) : List Int × Bool × Int := if compT t o ≠ 0 then ([], false, compT t o) else match iP t o with | none => ([], false, 0) | some x => (toW t x, true, 0)

theorem slices_Equal_eq (a b : List Int) (hl : a.length ≤ 100000000000000) : slices_Equal_Sint_int a b = some (decide (a = b)) := by
  unfold slices_Equal_Sint_int
  by_cases hlen : a.length = b.length
  · rw [decide_eq_false (by omega), cond_false]
    refine iter_all2 hlen (fun i x y hx hy => ?_) ?_ hl
    · simp only [slices_Equal_Sint_int.s2]
      rw [dec_lt hx, cond_true, idxn_at hx, idxn_at hy]
      by_cases h : x = y <;> simp [h]
    · simp only [slices_Equal_Sint_int.s2]
      rw [dec_end]
      rfl
  · rw [decide_eq_true (by omega), cond_true]
    have : a ≠ b := fun h => hlen (by rw [h])
    simp [this]

theorem scan_inv2 {α R : Type} {g : Nat → α → Option R} {Q : R → Prop} : ∀ {l : List α} {j : Nat} {r : R}, scan g j l = some r → (∀ i x r, l[i]? = some x → g (j + i) x = some r → Q r) → Q r
  | [], _, _, h, _ => by cases h
  | x :: l, j, r, h, hQ => by
    unfold scan at h
    cases e : g j x with
    | some r' =>
      rw [e] at h
      injection h with h
      subst h
      exact hQ 0 x _ rfl (by simpa using e)
    | none =>
      rw [e] at h
      exact scan_inv2 h fun i y r hy hg => hQ (i + 1) y r (by simpa using hy) (by rw [show j + (i + 1) = j + 1 + i by omega]; exact hg)

/-- Two rows of one length. -/
def RowsAlike (x y : Row) : Prop := x.length = y.length ∧ RowSm x ∧ RowSm y

theorem dP_prog {a : Nat} {x y : Row} (h : RowsAlike x y) : iter (fun s => table_view_inconsistent.s1019 a x y s) fuel 0 = some (match (dP a x y).map fun r => (.inr (.inr (.inr (.inr (.inr (.inr (.inr r)))))) : Nat ⊕ (Unit ⊕ (Unit ⊕ (Nat ⊕ (Unit ⊕ (Nat ⊕ (Unit ⊕ (Int × Int × Bool)))))))) with | some r => .inr r | none => .inl ()) := by
  obtain ⟨h1, h2, h3⟩ := h
  have hx0 := h2.1
  have key := iter_scan (step := fun s => table_view_inconsistent.s1019 a x y s) (l := x) (fun e u => (if y[e]? = some u then none else some ((↑a : Int), (↑e : Int), true)).map fun r => (.inr (.inr (.inr (.inr (.inr (.inr (.inr r)))))) : Nat ⊕ (Unit ⊕ (Unit ⊕ (Nat ⊕ (Unit ⊕ (Nat ⊕ (Unit ⊕ (Int × Int × Bool))))))))) (fun e u hu => by
    have he := (List.getElem?_eq_some_iff.1 hu).1
    have hw := get_at (l := y) (i := e) (by omega)
    have hus := (h2.2 u (List.mem_of_getElem? hu)).1
    simp only [table_view_inconsistent.s1019]
    rw [dec_lt hu, cond_true, idxn_at hu, idxn_at hw, slices_Equal_eq _ _ (by omega), obind]
    by_cases h4 : u = y[e]'(by omega)
    · rw [decide_eq_true h4, if_pos (by rw [hw, h4])]
      rfl
    · rw [decide_eq_false h4, if_neg (fun h => h4 (by rw [hw] at h; injection h with h; exact h.symm))]
      rfl) (by
    simp only [table_view_inconsistent.s1019]
    rw [dec_end]
    rfl) (by omega)
  rw [key, scan_map]
  unfold dP
  cases scan (fun e u => if y[e]? = some u then none else some ((↑a : Int), (↑e : Int), true)) 0 x <;> rfl

theorem rowG_some {t : T_api_Table} {o : T_api_Obs} {w : List Int} {r : Row} (h : rowO o w t.Suffixes = some r) : rowG t o w = r := by unfold rowG; rw [h]; rfl
theorem rows_alike {t : T_api_Table} {o : T_api_Obs} (ht : TabOk t) (hv : ObsOk o) {u w : List Int} {x y : Row} (hx : rowO o u t.Suffixes = some x) (hy : rowO o w t.Suffixes = some y) : RowsAlike x y :=
  ⟨by rw [(rowO_sml hv hx).1, (rowO_sml hv hy).1], rowO_rsm hv ht hx, rowO_rsm hv ht hy⟩

theorem pP_prog {t : T_api_Table} {o : T_api_Obs} {v : T_table_view} (ht : TabOk t) (hv : ObsOk o) (hV : ViewOk t o v) {i k : Nat} {p q : List Int} (hp : t.Prefixes[i]? = some p) (hq : t.Prefixes[k]? = some q) {l : List Int} (hl : v.next[i]? = some l) :
    iter (fun s => table_view_inconsistent.s1020 v i k l s) fuel 0 = some (match (pP t o p q).map fun r => (.inr (.inr (.inr (.inr (.inr r)))) : Unit ⊕ (Nat ⊕ (Unit ⊕ (Nat ⊕ (Unit ⊕ (Int × Int × Bool)))))) with | some r => .inr r | none => .inl ()) := by
  have hn := ht.n
  obtain ⟨l1, g1, g2, g3⟩ := hV.nxt i p hp
  rw [hl] at g1
  injection g1 with g1
  subst g1
  obtain ⟨l2, f1, f2, f3⟩ := hV.nxt k q hq
  have key := iter_scan (step := fun s => table_view_inconsistent.s1020 v i k l s) (l := List.range t.Inputs.toNat) (fun _ (a : Nat) => (dP a (rowG t o (p ++ [(↑a : Int)])) (rowG t o (q ++ [(↑a : Int)]))).map fun r => (.inr (.inr (.inr (.inr (.inr r)))) : Unit ⊕ (Nat ⊕ (Unit ⊕ (Nat ⊕ (Unit ⊕ (Int × Int × Bool))))))) (fun a a' ha => by
    have han : a < t.Inputs.toNat := by
      have := (List.getElem?_eq_some_iff.1 ha).1
      simpa using this
    rw [List.getElem?_range han] at ha
    injection ha with ha
    subst ha
    obtain ⟨x, x1, x2, x3⟩ := g3 a han
    obtain ⟨y, y1, y2, y3⟩ := f3 a han
    simp only [table_view_inconsistent.s1020]
    rw [g2, decide_eq_true (by omega), cond_true, idxn_at hl, idxn_at x3, idx_at rfl (pos_get x2), idxn_at f1, idxn_at y3, idx_at rfl (pos_get y2), dP_prog (rows_alike ht hv x1 y1), obind, rowG_some x1, rowG_some y1]
    cases dP a x y with
    | some r => rfl
    | none =>
      show Sum.elim _ _ (Sum.inl ()) = _
      rw [elim_l, chk_pos (by unfold inR; omega)]
      rfl) (by
    simp only [table_view_inconsistent.s1020]
    rw [g2, List.length_range, decide_eq_false (by omega)]
    rfl) (by simp; omega)
  rw [key, scan_map]
  unfold pP
  cases scan (fun _ (a : Nat) => dP a (rowG t o (p ++ [(↑a : Int)])) (rowG t o (q ++ [(↑a : Int)]))) 0 (List.range t.Inputs.toNat) <;> rfl

theorem iP_prog {t : T_api_Table} {o : T_api_Obs} {v : T_table_view} (ht : TabOk t) (hv : ObsOk o) (hV : ViewOk t o v) : table_view_inconsistent v = some (match iP t o with | some r => r | none => (0, 0, false)) := by
  have hpl := ht.p
  unfold table_view_inconsistent
  have outer := iter_scan (step := fun s => table_view_inconsistent.s1022 v s) (l := t.Prefixes) (fun i p => scan (fun _ q => if rowO o p t.Suffixes = rowO o q t.Suffixes then pP t o p q else none) (i + 1) (t.Prefixes.drop (i + 1))) (fun i p hp => by
    have hi := (List.getElem?_eq_some_iff.1 hp).1
    obtain ⟨r, r1, r2, r3⟩ := hV.pre i p hp
    obtain ⟨l, l1, l2, l3⟩ := hV.nxt i p hp
    have inner := iter_scan_at (step := fun s => table_view_inconsistent.s1021 v i (↑(pos r v.rows) : Int) s) (l := t.Prefixes) (fun _ q => (if rowO o p t.Suffixes = rowO o q t.Suffixes then pP t o p q else none).map fun r => (.inr (.inr r) : Nat ⊕ (Unit ⊕ (Int × Int × Bool)))) (i + 1) (by omega) (fun k q _ hq => by
      have hk := (List.getElem?_eq_some_iff.1 hq).1
      obtain ⟨s, s1, s2, s3⟩ := hV.pre k q hq
      simp only [table_view_inconsistent.s1021]
      rw [hV.pl, decide_eq_true (by omega), cond_true, idxn_at s3]
      by_cases h : r = s
      · subst h
        rw [decide_eq_false (by simp), cond_false, idxn_at l1, pP_prog ht hv hV hp hq l1, obind, if_pos (by rw [r1, s1])]
        cases pP t o p q <;> rfl
      · have h2 : ¬ (↑(pos s v.rows) : Int) = ↑(pos r v.rows) := fun e => h (pos_inj r2 s2 (by omega))
        rw [decide_eq_true h2, cond_true, if_neg (by rw [r1, s1]; simpa using h)]
        rfl) (by
      simp only [table_view_inconsistent.s1021]
      rw [hV.pl, decide_eq_false (by omega), cond_false]) (by omega)
    simp only [table_view_inconsistent.s1022]
    rw [hV.pl, decide_eq_true (by omega), cond_true, idxn_at r3, inner, obind, scan_map]
    cases scan (fun _ q => if rowO o p t.Suffixes = rowO o q t.Suffixes then pP t o p q else none) (i + 1) (t.Prefixes.drop (i + 1)) <;> rfl) (by
    simp only [table_view_inconsistent.s1022]
    rw [hV.pl, decide_eq_false (by omega), cond_false]) (by omega)
  rw [outer, obind]
  unfold iP
  cases scan (fun i p => scan (fun _ q => if rowO o p t.Suffixes = rowO o q t.Suffixes then pP t o p q else none) (i + 1) (t.Prefixes.drop (i + 1))) 0 t.Prefixes <;> rfl

/-- The places are in range. -/
theorem iP_range {t : T_api_Table} {o : T_api_Obs} (hv : ObsOk o) (hA : AllRows t o) {x : Int × Int × Bool} (h : iP t o = some x) : x.2.2 = true ∧ ∃ a e : Nat, x.1 = (a : Int) ∧ x.2.1 = (e : Int) ∧ a < t.Inputs.toNat ∧ e < t.Suffixes.length := by
  refine scan_inv2 (Q := fun x => x.2.2 = true ∧ ∃ a e : Nat, x.1 = (a : Int) ∧ x.2.1 = (e : Int) ∧ a < t.Inputs.toNat ∧ e < t.Suffixes.length) h fun i p r hp hr => ?_
  refine scan_inv2 (Q := fun x => x.2.2 = true ∧ ∃ a e : Nat, x.1 = (a : Int) ∧ x.2.1 = (e : Int) ∧ a < t.Inputs.toNat ∧ e < t.Suffixes.length) hr fun k q r hq hr => ?_
  split at hr
  · refine scan_inv2 (Q := fun x => x.2.2 = true ∧ ∃ a e : Nat, x.1 = (a : Int) ∧ x.2.1 = (e : Int) ∧ a < t.Inputs.toNat ∧ e < t.Suffixes.length) hr fun a a' r ha hr => ?_
    have han : a < t.Inputs.toNat := by
      have := (List.getElem?_eq_some_iff.1 ha).1
      simpa using this
    rw [List.getElem?_range han] at ha
    injection ha with ha
    subst ha
    refine scan_inv2 (Q := fun x => x.2.2 = true ∧ ∃ a e : Nat, x.1 = (a : Int) ∧ x.2.1 = (e : Int) ∧ a < t.Inputs.toNat ∧ e < t.Suffixes.length) hr fun e u r hu hr => ?_
    split at hr
    · cases hr
    · injection hr with hr
      subst hr
      refine ⟨rfl, a, 0 + e, rfl, rfl, han, ?_⟩
      obtain ⟨z, hz⟩ := hA p (List.mem_of_getElem? hp) (p ++ [(↑a : Int)]) (List.mem_cons_of_mem _ (List.mem_map.2 ⟨a, List.mem_range.2 han, rfl⟩))
      rw [rowG_some hz] at hu
      have h1 := (List.getElem?_eq_some_iff.1 hu).1
      have h2 := (rowO_sml hv hz).1
      omega
  · cases hr

theorem table_Inconsistent_eq {t : T_api_Table} {o : T_api_Obs} (ht : TabOk t) (ho : SmO o) (hv : ObsOk o) : table_Inconsistent t o = some (incT t o) := by
  obtain ⟨v, e, h1, h2⟩ := table_look_eq ht ho hv
  obtain ⟨h3, h4⟩ := look_view h2
  unfold table_Inconsistent incT
  rw [h1, obind]
  simp only
  rw [h3] at h4 ⊢
  by_cases h : compT t o = 0
  · obtain ⟨hV, hA, _⟩ := h4 h
    rw [decide_eq_false (by simpa using h), cond_false, if_neg (by simpa using h), iP_prog ht hv hV, obind]
    cases hi : iP t o with
    | none => rfl
    | some x =>
      obtain ⟨hb, a, e, ha, he, _, hes⟩ := iP_range hv hA hi
      obtain ⟨x1, x2, x3⟩ := x
      simp only at hb ha he
      subst hb ha he
      have hx := get_at hes
      have hxl := ht.sw _ (List.getElem_mem hes)
      simp only [Bool.not_true, cond_false]
      rw [idx_at rfl hx, word_Join_eq _ (by simp) (by simp; omega), obind]
      unfold toW
      simp [hx]
  · rw [decide_eq_true h, cond_true, if_pos h]

end Go.Proofs.YtpmebphhbgpapaaGreatDoor.Sym

/-
  Every repair adds one word: plain law of TableProgress.
-/
namespace Go.Proofs.YtpmebphhbgpapaaGreatDoor.Sym
set_option maxRecDepth 100000

theorem compT_zero {t : T_api_Table} {o : T_api_Obs} (h : compT t o = 0) : validT t = 0 ∧ t.Inputs = o.Inputs ∧ AllRows t o := by
  unfold compT at h
  split at h
  · rename_i h1; exact absurd h h1
  · rename_i h1
    split at h
    · rename_i h2
      have h1 : chkT t o = 0 := by simpa using h1
      unfold chkT at h1
      split at h1
      · rename_i h3; exact absurd h1 h3
      · rename_i h3
        split at h1
        · cases h1
        · rename_i h4
          exact ⟨by simpa using h3, by simpa using h4, need_nil.1 h2⟩
    · cases h

theorem prevLt_of_asc {l : List (List Int)} (h : Asc l) {i : Nat} {w : List Int} (hw : l[i]? = some w) : prevLt l i w = true := by
  unfold prevLt
  cases i with
  | zero => rfl
  | succ i =>
    have hi := (List.getElem?_eq_some_iff.1 hw).1
    have hp := get_at (l := l) (i := i) (by omega)
    simp only [hp]
    have := h.get (Nat.lt_succ_self i) hp hw
    exact decide_eq_true (by omega)

/-- What makes a table of the sizes that are examined valid. -/
theorem validT_zero {t : T_api_Table} (h1 : 1 ≤ t.Inputs) (h2 : t.Inputs ≤ 4) (hp0 : t.Prefixes ≠ []) (hp : t.Prefixes.length ≤ 31) (hs : t.Suffixes.length ≤ 13) (hA : Asc t.Prefixes) (hB : Asc t.Suffixes)
    (hc : ∀ w ∈ t.Prefixes, checkI w t.Inputs = 0 ∧ w.length ≤ 31) (hd : ∀ w ∈ t.Suffixes, checkI w t.Inputs = 0 ∧ w.length ≠ 0 ∧ w.length ≤ 31) (he : ∀ w ∈ t.Prefixes, 0 < w.length → w.take (w.length - 1) ∈ t.Prefixes) (h0 : [] ∈ t.Prefixes)
    (hf : ∀ a ∈ List.range t.Inputs.toNat, [(↑a : Int)] ∈ t.Suffixes) : validT t = 0 := by
  unfold validT
  have hpl : 0 < t.Prefixes.length := List.length_pos_iff.2 hp0
  have hprod : ¬ 160000 < (↑t.Prefixes.length : Int) * (t.Inputs + 1) * ↑t.Suffixes.length := by
    have a1 : (↑t.Prefixes.length : Int) * (t.Inputs + 1) ≤ 31 * 5 := Int.mul_le_mul (by omega) (by omega) (by omega) (by omega)
    have a2 : (↑t.Prefixes.length : Int) * (t.Inputs + 1) * ↑t.Suffixes.length ≤ 31 * 5 * 13 := Int.mul_le_mul a1 (by omega) (by omega) (by omega)
    omega
  rw [if_neg (by omega), if_neg (by omega), if_neg (by rintro (h | h | h); omega; omega; exact hprod h)]
  have e1 : scan (preG t fun w => decide (w ∈ t.Prefixes)) 0 t.Prefixes = none := scan_none.2 fun i w hw => by
    have hwm := List.mem_of_getElem? hw
    rw [Nat.zero_add]
    unfold preG
    rw [if_neg (by simpa using (hc w hwm).1)]
    have hz : ¬ ((i = 0 ∧ 0 < w.length) ∨ prevLt t.Prefixes i w = false) := by
      rintro (⟨rfl, h⟩ | h)
      · obtain ⟨j, hj, e⟩ := List.mem_iff_getElem.1 h0
        have ej := get_at hj
        rw [e] at ej
        rcases Nat.eq_zero_or_pos j with rfl | hj0
        · rw [hw] at ej
          injection ej with ej
          subst ej
          simp at h
        · have := hA.get hj0 hw ej
          have := cmp_len this
          simp at this
          rw [this] at h
          simp at h
      · rw [prevLt_of_asc hA hw] at h
        cases h
    rw [if_neg hz, if_neg]
    rintro ⟨h, h'⟩
    exact of_decide_eq_false h' (he w hwm h)
  have e2 : scan (sufG t) 0 t.Suffixes = none := scan_none.2 fun i w hw => by
    have hwm := List.mem_of_getElem? hw
    rw [Nat.zero_add]
    unfold sufG
    rw [if_neg (by simpa using (hd w hwm).1), if_neg (hd w hwm).2.1, if_neg (by rw [prevLt_of_asc hB hw]; simp)]
  rw [e1, e2]
  simp only
  rw [if_pos hf]
  have l1 := (longestL_le t.Prefixes 31).2 fun x hx => (hc x hx).2
  have l2 := (longestL_le t.Suffixes 31).2 fun x hx => (hd x hx).2.2
  rw [if_neg (by omega)]

/-- What a valid table has. -/
theorem valid_has {t : T_api_Table} (h : validT t = 0) : (∀ w ∈ t.Prefixes, checkI w t.Inputs = 0) ∧ (∀ w ∈ t.Prefixes, 0 < w.length → w.take (w.length - 1) ∈ t.Prefixes) ∧ [] ∈ t.Prefixes ∧ ∀ w ∈ t.Suffixes, checkI w t.Inputs = 0 ∧ w.length ≠ 0 := by
  obtain ⟨_, _, _, _, _, e1, e2, hne⟩ := valid_asc h
  have key : ∀ (i : Nat) w, t.Prefixes[i]? = some w → checkI w t.Inputs = 0 ∧ ¬ (i = 0 ∧ 0 < w.length) ∧ (0 < w.length → w.take (w.length - 1) ∈ t.Prefixes) := fun i w hw => by
    have := scan_none.1 e1 i w hw
    rw [Nat.zero_add] at this
    unfold preG at this
    split at this
    · cases this
    · rename_i h1
      split at this
      · cases this
      · rename_i h2
        split at this
        · cases this
        · rename_i h3
          refine ⟨by simpa using h1, fun h4 => h2 (Or.inl h4), fun h4 => ?_⟩
          refine Classical.byContradiction fun h5 => h3 ⟨h4, decide_eq_false h5⟩
  refine ⟨fun w hw => ?_, fun w hw => ?_, ?_, (sufG_none e2).2⟩
  · obtain ⟨i, hi, rfl⟩ := List.mem_iff_getElem.1 hw
    exact (key i _ (get_at hi)).1
  · obtain ⟨i, hi, rfl⟩ := List.mem_iff_getElem.1 hw
    exact (key i _ (get_at hi)).2.2
  · have hl : 0 < t.Prefixes.length := List.length_pos_iff.2 hne
    have := (key 0 _ (get_at hl)).2.1
    have he : t.Prefixes[0].length = 0 := by
      rcases Nat.eq_zero_or_pos t.Prefixes[0].length with h | h
      · exact h
      · exact absurd ⟨rfl, h⟩ this
    have := List.eq_nil_of_length_eq_zero he
    rw [← this]
    exact List.getElem_mem _
theorem pre_closed {t : T_api_Table} (h : validT t = 0) : ∀ (n : Nat) (p : List Int), p ∈ t.Prefixes → ∀ k, p.length - k = n → k ≤ p.length → p.take k ∈ t.Prefixes := by
  obtain ⟨_, hc, _, _⟩ := valid_has h
  intro n
  induction n with
  | zero => intro p hp k hk hkl; rw [List.take_of_length_le (by omega)]; exact hp
  | succ n ih =>
    intro p hp k hk hkl
    have h1 := hc p hp (by omega)
    have h2 := ih _ h1 k (by rw [List.length_take]; omega) (by rw [List.length_take]; omega)
    rw [List.take_take, Nat.min_eq_left (by omega)] at h2
    exact h2

theorem check_snoc {p : List Int} {n : Int} {a : Nat} (hp : checkI p n = 0) (hl : p.length ≤ 100) (ha : (↑a : Int) < n) : checkI (p ++ [(↑a : Int)]) n = 0 := by
  have hm := check_mem hp
  unfold checkI at hp ⊢
  split at hp
  · rename_i h1
    rw [if_pos h1, if_neg (by simp; omega), if_pos]
    refine List.all_eq_true.2 fun x hx => decide_eq_true ?_
    rcases List.mem_append.1 hx with hx | hx
    · exact hm x hx
    · rw [List.mem_singleton.1 hx]; omega
  · cases hp
theorem check_cons {p : List Int} {n : Int} {a : Nat} (hp : checkI p n = 0) (hl : p.length ≤ 100) (ha : (↑a : Int) < n) : checkI ((↑a : Int) :: p) n = 0 := by
  have hm := check_mem hp
  unfold checkI at hp ⊢
  split at hp
  · rename_i h1
    rw [if_pos h1, if_neg (by simp; omega), if_pos]
    refine List.all_eq_true.2 fun x hx => decide_eq_true ?_
    rcases List.mem_cons.1 hx with rfl | hx
    · omega
    · exact hm x hx
  · cases hp

/-- A word more in a sorted list. -/
theorem sort_more {l m : List (List Int)} {w : List Int} (h : Asc l) (hw : w ∉ l) (hm : ∀ x, x ∈ m ↔ x ∈ l ∨ x = w) : (sortW m).length = l.length + 1 ∧ ∀ x, x ∈ sortW m ↔ x ∈ l ∨ x = w := by
  have hmem : ∀ x, x ∈ sortW m ↔ x ∈ l ∨ x = w := fun x => by rw [mem_sortW, hm]
  have e : sortW m = insW l w := asc_ext (sortW_asc m) (h.insW w) fun x => by rw [hmem, mem_insW]
  refine ⟨?_, hmem⟩
  rw [e]
  unfold insW
  rw [if_neg hw]
  have := placeL_le l w
  simp [List.length_append, List.length_take, List.length_drop]
  omega

theorem uncl_progress {t : T_api_Table} {o : T_api_Obs} {w : List Int} (ht : TabOk t) (hz : compT t o = 0) (hf : (extL t).find? (newRow t o) = some w) :
    (prefixT t w).2 = 0 ∧ w ∉ t.Prefixes ∧ w ∈ (prefixT t w).1.Prefixes ∧ (prefixT t w).1.Prefixes.length = t.Prefixes.length + 1 ∧ (prefixT t w).1.Suffixes.length = t.Suffixes.length := by
  obtain ⟨hval, _, hA⟩ := compT_zero hz
  obtain ⟨hn1, _, hAp, hAs, hsing, _, _, hne⟩ := valid_asc hval
  obtain ⟨hck, hcl, hnil, hsc⟩ := valid_has hval
  have hnew : newRow t o w = true := List.find?_some hf
  have hwm := List.mem_of_find?_eq_some hf
  obtain ⟨p, hp, h2⟩ := List.mem_flatMap.1 hwm
  obtain ⟨a, ha, rfl⟩ := List.mem_map.1 h2
  have ha := List.mem_range.1 ha
  have hpl := ht.pw p hp
  have hnot : p ++ [(↑a : Int)] ∉ t.Prefixes := fun hm => of_decide_eq_true hnew (List.mem_map.2 ⟨_, hm, rfl⟩)
  have hcw := check_snoc (hck p hp) (by omega) (show (↑a : Int) < t.Inputs by omega)
  have hmm : ∀ x, x ∈ t.Prefixes ++ sortW (preL [p ++ [(↑a : Int)]]) ↔ x ∈ t.Prefixes ∨ x = p ++ [(↑a : Int)] := fun x => by
    rw [List.mem_append, mem_sortW, preL_one]
    unfold prefixes
    constructor
    · rintro (h | h)
      · exact Or.inl h
      · obtain ⟨k, hk, rfl⟩ := List.mem_map.1 h
        have hk := List.mem_range.1 hk
        rw [List.length_append, List.length_singleton] at hk
        rcases Nat.lt_or_ge p.length k with h3 | h3
        · right
          rw [List.take_of_length_le (by rw [List.length_append, List.length_singleton]; omega)]
        · left
          rw [List.take_append_of_le_length h3]
          exact pre_closed hval _ p hp k rfl h3
    · rintro (h | rfl)
      · exact Or.inl h
      · exact Or.inr (List.mem_map.2 ⟨p.length + 1, by simp, by rw [List.take_of_length_le (by simp)]⟩)
  obtain ⟨hlen, hmem⟩ := sort_more hAp hnot hmm
  have hsuf : sortW (t.Suffixes ++ []) = t.Suffixes := by rw [List.append_nil, sortW_of_asc hAs]
  have hv2 : validT ⟨t.Inputs, sortW (t.Prefixes ++ sortW (preL [p ++ [(↑a : Int)]])), sortW (t.Suffixes ++ [])⟩ = 0 := by
    refine validT_zero hn1 ht.n (fun e => ?_) ?_ ?_ (sortW_asc _) (sortW_asc _) (fun u hu => ?_) (fun u hu => ?_) (fun u hu h0 => ?_) ((hmem _).2 (Or.inl hnil)) ?_
    · have : p ++ [(↑a : Int)] ∈ sortW (t.Prefixes ++ sortW (preL [p ++ [(↑a : Int)]])) := (hmem _).2 (Or.inr rfl)
      rw [show sortW (t.Prefixes ++ sortW (preL [p ++ [(↑a : Int)]])) = [] from e] at this
      cases this
    · show (sortW (t.Prefixes ++ sortW (preL [p ++ [(↑a : Int)]]))).length ≤ 31
      rw [hlen]
      have := ht.p
      omega
    · show (sortW (t.Suffixes ++ [])).length ≤ 13
      rw [hsuf]
      have := ht.s
      omega
    · rcases (hmem u).1 hu with h | rfl
      · exact ⟨hck u h, by have := ht.pw u h; omega⟩
      · exact ⟨hcw, by simp; omega⟩
    · have hu : u ∈ sortW (t.Suffixes ++ []) := hu
      rw [hsuf] at hu
      exact ⟨(hsc u hu).1, (hsc u hu).2, by have := ht.sw u hu; omega⟩
    · refine (hmem _).2 (Or.inl ?_)
      rcases (hmem u).1 hu with h | rfl
      · exact hcl u h h0
      · rw [List.length_append, List.length_singleton, Nat.add_sub_cancel, List.take_append_of_le_length (Nat.le_refl _), List.take_length]
        exact hp
    · show ∀ a ∈ List.range t.Inputs.toNat, [(↑a : Int)] ∈ sortW (t.Suffixes ++ [])
      rw [hsuf]
      exact hsing
  have hP : prefixT t (p ++ [(↑a : Int)]) = (⟨t.Inputs, sortW (t.Prefixes ++ sortW (preL [p ++ [(↑a : Int)]])), sortW (t.Suffixes ++ [])⟩, 0) := by
    unfold prefixT growT
    rw [if_neg (by simpa using hval), if_neg (by simpa using hcw), if_neg (by simpa using hv2)]
  rw [hP]
  exact ⟨rfl, hnot, (hmem _).2 (Or.inr rfl), hlen, by show (sortW (t.Suffixes ++ [])).length = _; rw [hsuf]⟩

/-- Where a row stands. -/
theorem rowO_get {o : T_api_Obs} {w : List Int} : ∀ {S : List (List Int)} {r : Row}, rowO o w S = some r → ∀ (i : Nat) e, S[i]? = some e → ∃ x, ansO o (w ++ e) = some x ∧ r[i]? = some (x.drop w.length)
  | [], _, _, i, e, he => by simp at he
  | u :: S, r, h, i, e, he => by
    unfold rowO at h
    cases ha : ansO o (w ++ u) with
    | none => rw [ha] at h; cases h
    | some x =>
      rw [ha] at h
      obtain ⟨l, h1, rfl⟩ := Option.map_eq_some_iff.1 h
      cases i with
      | zero =>
        simp at he
        subst he
        exact ⟨x, ha, rfl⟩
      | succ i =>
        obtain ⟨y, h2, h3⟩ := rowO_get h1 i e (by simpa using he)
        exact ⟨y, h2, by simpa using h3⟩

/-- What parts two prefixes with one row. -/
theorem iP_parts {t : T_api_Table} {o : T_api_Obs} (hA : AllRows t o) {x : Int × Int × Bool} (h : iP t o = some x) :
    ∃ p q, p ∈ t.Prefixes ∧ q ∈ t.Prefixes ∧ rowO o p t.Suffixes = rowO o q t.Suffixes ∧ ∃ a e : Nat, x = ((a : Int), (e : Int), true) ∧ a < t.Inputs.toNat ∧ ∃ X Y u, rowO o (p ++ [(↑a : Int)]) t.Suffixes = some X ∧ rowO o (q ++ [(↑a : Int)]) t.Suffixes = some Y ∧ X[e]? = some u ∧ Y[e]? ≠ some u := by
  refine scan_inv2 (Q := fun x => ∃ p q, p ∈ t.Prefixes ∧ q ∈ t.Prefixes ∧ rowO o p t.Suffixes = rowO o q t.Suffixes ∧ ∃ a e : Nat, x = ((a : Int), (e : Int), true) ∧ a < t.Inputs.toNat ∧ ∃ X Y u, rowO o (p ++ [(↑a : Int)]) t.Suffixes = some X ∧ rowO o (q ++ [(↑a : Int)]) t.Suffixes = some Y ∧ X[e]? = some u ∧ Y[e]? ≠ some u) h fun i p r hp hr => ?_
  refine scan_inv2 (Q := fun x => ∃ p q, p ∈ t.Prefixes ∧ q ∈ t.Prefixes ∧ rowO o p t.Suffixes = rowO o q t.Suffixes ∧ ∃ a e : Nat, x = ((a : Int), (e : Int), true) ∧ a < t.Inputs.toNat ∧ ∃ X Y u, rowO o (p ++ [(↑a : Int)]) t.Suffixes = some X ∧ rowO o (q ++ [(↑a : Int)]) t.Suffixes = some Y ∧ X[e]? = some u ∧ Y[e]? ≠ some u) hr fun k q r hq hr => ?_
  have hpm := List.mem_of_getElem? hp
  have hqm : q ∈ t.Prefixes := List.mem_of_mem_drop (List.mem_of_getElem? hq)
  split at hr
  · rename_i heq
    refine scan_inv2 (Q := fun x => ∃ p q, p ∈ t.Prefixes ∧ q ∈ t.Prefixes ∧ rowO o p t.Suffixes = rowO o q t.Suffixes ∧ ∃ a e : Nat, x = ((a : Int), (e : Int), true) ∧ a < t.Inputs.toNat ∧ ∃ X Y u, rowO o (p ++ [(↑a : Int)]) t.Suffixes = some X ∧ rowO o (q ++ [(↑a : Int)]) t.Suffixes = some Y ∧ X[e]? = some u ∧ Y[e]? ≠ some u) hr fun a a' r ha hr => ?_
    have han : a < t.Inputs.toNat := by
      have := (List.getElem?_eq_some_iff.1 ha).1
      simpa using this
    rw [List.getElem?_range han] at ha
    injection ha with ha
    subst ha
    obtain ⟨X, hX⟩ := hA p hpm (p ++ [(↑a : Int)]) (List.mem_cons_of_mem _ (List.mem_map.2 ⟨a, List.mem_range.2 han, rfl⟩))
    obtain ⟨Y, hY⟩ := hA q hqm (q ++ [(↑a : Int)]) (List.mem_cons_of_mem _ (List.mem_map.2 ⟨a, List.mem_range.2 han, rfl⟩))
    rw [rowG_some hX, rowG_some hY] at hr
    refine scan_inv2 (Q := fun x => ∃ p q, p ∈ t.Prefixes ∧ q ∈ t.Prefixes ∧ rowO o p t.Suffixes = rowO o q t.Suffixes ∧ ∃ a e : Nat, x = ((a : Int), (e : Int), true) ∧ a < t.Inputs.toNat ∧ ∃ X Y u, rowO o (p ++ [(↑a : Int)]) t.Suffixes = some X ∧ rowO o (q ++ [(↑a : Int)]) t.Suffixes = some Y ∧ X[e]? = some u ∧ Y[e]? ≠ some u) hr fun e u r hu hr => ?_
    split at hr
    · cases hr
    · rename_i hne
      injection hr with hr
      subst hr
      rw [Nat.zero_add] at hne ⊢
      exact ⟨p, q, hpm, hqm, heq, a, e, rfl, han, X, Y, u, hX, hY, hu, hne⟩
  · cases hr

theorem inc_progress {t : T_api_Table} {o : T_api_Obs} {x : Int × Int × Bool} (ht : TabOk t) (hv : ObsOk o) (hz : compT t o = 0) (hf : iP t o = some x) :
    (suffixT t (toW t x)).2 = 0 ∧ toW t x ∉ t.Suffixes ∧ toW t x ∈ (suffixT t (toW t x)).1.Suffixes ∧ (suffixT t (toW t x)).1.Suffixes.length = t.Suffixes.length + 1 ∧ (suffixT t (toW t x)).1.Prefixes.length = t.Prefixes.length := by
  obtain ⟨hval, _, hA⟩ := compT_zero hz
  obtain ⟨hn1, _, hAp, hAs, hsing, _, _, hne⟩ := valid_asc hval
  obtain ⟨hck, hcl, hnil, hsc⟩ := valid_has hval
  obtain ⟨p, q, hp, hq, hpq, a, e, rfl, ha, X, Y, u, hX, hY, hu, hne2⟩ := iP_parts hA hf
  have he : e < t.Suffixes.length := by
    have h1 := (List.getElem?_eq_some_iff.1 hu).1
    rw [(rowO_sml hv hX).1] at h1
    exact h1
  have hse := get_at he
  have hW : toW t ((a : Int), (e : Int), true) = (↑a : Int) :: t.Suffixes[e] := by
    unfold toW
    simp [hse]
  rw [hW]
  have hel := ht.sw _ (List.getElem_mem he)
  have hcw := check_cons (hsc _ (List.getElem_mem he)).1 (by omega) (show (↑a : Int) < t.Inputs by omega)
  have hnot : (↑a : Int) :: t.Suffixes[e] ∉ t.Suffixes := fun hm => by
    obtain ⟨j, hj, ej⟩ := List.mem_iff_getElem.1 hm
    have hsj := get_at hj
    rw [ej] at hsj
    obtain ⟨r, hr⟩ := hA p hp p (by simp [withX])
    have hr2 : rowO o q t.Suffixes = some r := by rw [← hpq]; exact hr
    obtain ⟨z1, h1, h2⟩ := rowO_get hr j _ hsj
    obtain ⟨z2, h3, h4⟩ := rowO_get hr2 j _ hsj
    obtain ⟨y1, k1, k2⟩ := rowO_get hX e _ hse
    obtain ⟨y2, k3, k4⟩ := rowO_get hY e _ hse
    rw [List.append_assoc] at k1 k3
    have e1 : p ++ (↑a : Int) :: t.Suffixes[e] = p ++ ([(↑a : Int)] ++ t.Suffixes[e]) := rfl
    have e2 : q ++ (↑a : Int) :: t.Suffixes[e] = q ++ ([(↑a : Int)] ++ t.Suffixes[e]) := rfl
    rw [e1, k1] at h1
    rw [e2, k3] at h3
    injection h1 with h1
    injection h3 with h3
    subst h1 h3
    rw [h2] at h4
    injection h4 with h4
    have h5 := congrArg (List.drop 1) h4
    rw [List.drop_drop, List.drop_drop] at h5
    rw [hu] at k2
    injection k2 with k2
    apply hne2
    rw [k4, k2]
    congr 1
    rw [List.length_append, List.length_append, List.length_singleton]
    exact h5.symm
  have hmm : ∀ x, x ∈ t.Suffixes ++ [(↑a : Int) :: t.Suffixes[e]] ↔ x ∈ t.Suffixes ∨ x = (↑a : Int) :: t.Suffixes[e] := fun x => by
    rw [List.mem_append, List.mem_singleton]
  obtain ⟨hlen, hmem⟩ := sort_more hAs hnot hmm
  have hpre : sortW (t.Prefixes ++ []) = t.Prefixes := by rw [List.append_nil, sortW_of_asc hAp]
  have hv2 : validT ⟨t.Inputs, sortW (t.Prefixes ++ []), sortW (t.Suffixes ++ [(↑a : Int) :: t.Suffixes[e]])⟩ = 0 := by
    refine validT_zero hn1 ht.n ?_ ?_ ?_ (sortW_asc _) (sortW_asc _) (fun u hu => ?_) (fun u hu => ?_) (fun u hu h0 => ?_) ?_ (fun b hb => (hmem _).2 (Or.inl (hsing b hb)))
    · show sortW (t.Prefixes ++ []) ≠ []
      rw [hpre]
      exact hne
    · show (sortW (t.Prefixes ++ [])).length ≤ 31
      rw [hpre]
      have := ht.p
      omega
    · show (sortW (t.Suffixes ++ [(↑a : Int) :: t.Suffixes[e]])).length ≤ 13
      rw [hlen]
      have := ht.s
      omega
    · have hu : u ∈ sortW (t.Prefixes ++ []) := hu
      rw [hpre] at hu
      exact ⟨hck u hu, by have := ht.pw u hu; omega⟩
    · rcases (hmem u).1 hu with h | rfl
      · exact ⟨(hsc u h).1, (hsc u h).2, by have := ht.sw u h; omega⟩
      · exact ⟨hcw, by simp, by simp; omega⟩
    · have hu : u ∈ sortW (t.Prefixes ++ []) := hu
      show u.take (u.length - 1) ∈ sortW (t.Prefixes ++ [])
      rw [hpre] at hu ⊢
      exact hcl u hu h0
    · show [] ∈ sortW (t.Prefixes ++ [])
      rw [hpre]
      exact hnil
  have hP : suffixT t ((↑a : Int) :: t.Suffixes[e]) = (⟨t.Inputs, sortW (t.Prefixes ++ []), sortW (t.Suffixes ++ [(↑a : Int) :: t.Suffixes[e]])⟩, 0) := by
    unfold suffixT growT
    rw [if_neg (by simpa using hval), if_neg (by simp), if_neg (by simpa using hcw), if_neg (by simpa using hv2)]
  rw [hP]
  exact ⟨rfl, hnot, (hmem _).2 (Or.inr rfl), hlen, by show (sortW (t.Prefixes ++ [])).length = _; rw [hpre]⟩

theorem extL_mem_sm {t : T_api_Table} (ht : TabOk t) {w : List Int} (h : w ∈ extL t) : w.length ≤ 31 ∧ ∀ a ∈ w, inR a := by
  obtain ⟨p, hp, h2⟩ := List.mem_flatMap.1 h
  obtain ⟨a, ha, rfl⟩ := List.mem_map.1 h2
  have ha := List.mem_range.1 ha
  have := ht.pw p hp
  have hn := ht.n
  refine ⟨by simp; omega, fun b hb => ?_⟩
  rcases List.mem_append.1 hb with hb | hb
  · exact ht.sm.2.2.2 p hp b hb
  · rw [List.mem_singleton.1 hb]
    unfold inR
    omega

theorem plain_TableProgress (t : T_api_Table) (o : T_api_Obs) (ht : SmT t) (ho : SmO o) : L23_TableProgress t o = some true := by
  have hl := ho.1
  obtain ⟨ev, hev, hv⟩ := R16_Valid_tot o ho
  unfold L23_TableProgress
  rw [L23_Great_eq _ _ ht.2.1.1 ht.2.2.1.1 (by omega), awake_true, obind]
  cases hg : greatT t o with
  | true => rfl
  | false =>
    simp only [cond_false]
    obtain ⟨hT, _, _⟩ := tabOk_of ht hg
    have hTp := hT.p
    have hTs := hT.s
    rw [hev, obind, obind]
    by_cases h3 : ev = 0
    · have hv := hv h3
      rw [decide_eq_false (by simpa using h3), cond_false, table_Unclosed_eq hT ho hv, table_Inconsistent_eq hT ho hv, obind]
      have first : (cond (unclT t o).2.1 ((table_Prefix t (unclT t o).1).bind fun c87 => (cond (decide ((unclT t o).2.2 ≠ 0)) (some true) (cond (decide (c87.2 ≠ 0)) (some true) ((R02_Has t.Prefixes (unclT t o).1).bind fun c100 => cond (c100) (some true) ((R02_Has c87.1.Prefixes (unclT t o).1).bind fun c102 => cond ((!c102)) (some true) (cond (decide ((↑(List.length c87.1.Prefixes) : Int) ≠ ((↑(List.length t.Prefixes) : Int) + 1))) (some true) (some (decide ((↑(List.length c87.1.Suffixes) : Int) ≠ (↑(List.length t.Suffixes) : Int)))))))) : Option (Bool)).bind (fun (y97 : Bool) => cond (y97) (some (.inr false)) (some (.inl ())))) (some (.inl ())) : Option (Unit ⊕ Bool)) = some (.inl ()) := by
        unfold unclT
        by_cases hz : compT t o = 0
        · rw [if_neg (by simpa using hz)]
          cases hf : (extL t).find? (newRow t o) with
          | none => rfl
          | some w =>
            obtain ⟨w1, w2⟩ := extL_mem_sm hT (List.mem_of_find?_eq_some hf)
            obtain ⟨g1, g2, g3, g4, g5⟩ := uncl_progress hT hz hf
            have hS : SmL (prefixT t w).1.Prefixes := by
              unfold prefixT
              split
              · exact ht.2.1
              · split
                · exact ht.2.1
                · exact (growT_sml ht (sml_sort (sml_pre (by omega))) sml_nil (by
                    have := sortW_length (preL [w])
                    rw [preL_one, prefixes_length] at this
                    rw [preL_one]
                    omega) (by simp; omega)).1
            simp only [cond_true]
            rw [table_Prefix_eq ht (by omega) w2 (by omega), obind, R02_Has_eq _ _ ht.2.1, R02_Has_eq _ _ hS, g1]
            simp only [obind]
            rw [decide_eq_false g2, decide_eq_true g3, g4, g5]
            simp
        · rw [if_pos hz]
          rfl
      have second : (cond (incT t o).2.1 ((table_Suffix t (incT t o).1).bind fun c131 => (cond (decide ((incT t o).2.2 ≠ 0)) (some true) (cond (decide (c131.2 ≠ 0)) (some true) ((R02_Has t.Suffixes (incT t o).1).bind fun c144 => cond (c144) (some true) ((R02_Has c131.1.Suffixes (incT t o).1).bind fun c146 => cond ((!c146)) (some true) (cond (decide ((↑(List.length c131.1.Suffixes) : Int) ≠ ((↑(List.length t.Suffixes) : Int) + 1))) (some true) (some (decide ((↑(List.length c131.1.Prefixes) : Int) ≠ (↑(List.length t.Prefixes) : Int)))))))) : Option (Bool)).bind (fun (y141 : Bool) => cond (y141) (some (.inr false)) (some (.inl ())))) (some (.inl ())) : Option (Unit ⊕ Bool)) = some (.inl ()) := by
        unfold incT
        by_cases hz : compT t o = 0
        · rw [if_neg (by simpa using hz)]
          cases hf : iP t o with
          | none => rfl
          | some x =>
            obtain ⟨g1, g2, g3, g4, g5⟩ := inc_progress hT hv hz hf
            have hwl : (toW t x).length ≤ 100 := by
              unfold toW
              cases h2 : t.Suffixes[x.2.1.toNat]? with
              | none => simp
              | some e =>
                have := hT.sw e (List.mem_of_getElem? h2)
                simp
                omega
            have hS : SmL (suffixT t (toW t x)).1.Suffixes := by
              unfold suffixT
              split
              · exact ht.2.2.1
              · split
                · exact ht.2.2.1
                · split
                  · exact ht.2.2.1
                  · exact (growT_sml ht sml_nil (sml_one (by omega)) (by simp; omega) (by simp; omega)).2
            simp only [cond_true]
            rw [table_Suffix_eq ht (by omega) (by omega), obind, R02_Has_eq _ _ ht.2.2.1, R02_Has_eq _ _ hS, g1]
            simp only [obind]
            rw [decide_eq_false g2, decide_eq_true g3, g4, g5]
            simp
        · rw [if_pos hz]
          rfl
      rw [first, obind, elim_l, obind, second, obind, elim_l]
      rfl
    · rw [decide_eq_true h3]
      rfl
end Go.Proofs.YtpmebphhbgpapaaGreatDoor.Sym

/-
  The law of TableProgress, for arguments within the bound.
-/
namespace Go.Proofs.YtpmebphhbgpapaaGreatDoor.Sym
theorem law_L23_TableProgress (x0 : T_api_Table) (x1 : T_api_Obs) (k0 : ok_api_Table x0) (s0 : sz_api_Table x0 ≤ 1048576) (k1 : ok_api_Obs x1) (s1 : sz_api_Obs x1 ≤ 1048576) : L23_TableProgress x0 x1 = some true :=
  plain_TableProgress x0 x1 (smt_of k0 s0) (smo_of s1)
end Go.Proofs.YtpmebphhbgpapaaGreatDoor.Sym
