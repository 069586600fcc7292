/-
  The plain reading is the model's: a region in whatever order; code; a function.
-/
import Derived.Test.YthahbiahlpcgeaaGreatDoorSym11
namespace Go.Proofs.YthahbiahlpcgeaaGreatDoor.Sym
open Go.RowKit

theorem befStep_spec {acc : List Nat} {o : Oper} {j : Nat} (h : (befStep acc o).testBit j = true) : ∃ e ∈ o.after.toList, Region.binds .any e = true ∧ (j = e.on ∨ (acc.getD e.on 0).testBit j = true) := by
  unfold befStep at h
  have key : ∀ (l : List Edge) (s : Nat), (l.foldl (fun s e => if Region.binds .any e = true then s ||| 2 ^ e.on ||| acc.getD e.on 0 else s) s).testBit j = true →
      s.testBit j = true ∨ ∃ e ∈ l, Region.binds .any e = true ∧ (j = e.on ∨ (acc.getD e.on 0).testBit j = true) := by
    intro l
    induction l with
    | nil => intro s h; exact .inl h
    | cons e l ih =>
      intro s h
      rw [List.foldl_cons] at h
      rcases ih _ h with h1 | ⟨e', he', h2⟩
      · by_cases hb : Region.binds .any e = true
        · rw [if_pos hb, Nat.testBit_or, Nat.testBit_or, Bool.or_eq_true, Bool.or_eq_true] at h1
          rcases h1 with (h1 | h1) | h1
          · exact .inl h1
          · rw [Nat.testBit_two_pow] at h1
            exact .inr ⟨e, by simp, hb, .inl (of_decide_eq_true h1).symm⟩
          · exact .inr ⟨e, by simp, hb, .inr h1⟩
        · rw [if_neg hb] at h1
          exact .inl h1
      · exact .inr ⟨e', by simp [he'], h2⟩
  rcases key _ 0 h with h1 | h1
  · simp at h1
  · exact h1

theorem befs_spec (ops : List Oper) : ∀ (i : Nat) (o : Oper), ops[i]? = some o → ∀ j, ((befs ops).getD i 0).testBit j = true → ∃ e ∈ o.after.toList, Region.binds .any e = true ∧ (j = e.on ∨ ((befs ops).getD e.on 0).testBit j = true) := by
  have key : ∀ (rest pre : List Oper) (acc : List Nat), acc.length = pre.length → (∀ (i : Nat) (o : Oper), pre[i]? = some o → ∀ j, (acc.getD i 0).testBit j = true → ∃ e ∈ o.after.toList, Region.binds .any e = true ∧ (j = e.on ∨ (acc.getD e.on 0).testBit j = true)) →
      (∀ (i : Nat) (o : Oper), (pre ++ rest)[i]? = some o → ∀ j, ((rest.foldl (fun acc o => acc ++ [befStep acc o]) acc).getD i 0).testBit j = true → ∃ e ∈ o.after.toList, Region.binds .any e = true ∧ (j = e.on ∨ ((rest.foldl (fun acc o => acc ++ [befStep acc o]) acc).getD e.on 0).testBit j = true)) := by
    intro rest
    induction rest with
    | nil => intro pre acc _ h; simpa using h
    | cons o rest ih =>
      intro pre acc hl h
      have e : pre ++ o :: rest = (pre ++ [o]) ++ rest := by simp
      rw [e]
      have grow : ∀ p j, (acc.getD p 0).testBit j = true → ((acc ++ [befStep acc o]).getD p 0).testBit j = true := fun p j hj => by
        by_cases hp : p < acc.length
        · rw [List.getD_eq_getElem?_getD, List.getElem?_append, if_pos hp, ← List.getD_eq_getElem?_getD]
          exact hj
        · rw [List.getD_eq_getElem?_getD, List.getElem?_eq_none (by omega)] at hj
          simp at hj
      refine ih (pre ++ [o]) (acc ++ [befStep acc o]) (by simp [hl]) fun i o' ho' j hj => ?_
      rw [List.getElem?_append] at ho'
      split at ho'
      · rename_i hi
        rw [List.getD_eq_getElem?_getD, List.getElem?_append, if_pos (by omega), ← List.getD_eq_getElem?_getD] at hj
        obtain ⟨e1, h1, h2, h3⟩ := h i o' ho' j hj
        exact ⟨e1, h1, h2, h3.imp id (grow _ _)⟩
      · rename_i hi
        have hi0 : i = acc.length := by
          have := (List.getElem?_eq_some_iff.1 ho').1
          simp at this
          omega
        subst hi0
        have : o' = o := by simpa [hl] using ho'.symm
        subst this
        rw [List.getD_eq_getElem?_getD, List.getElem?_append, if_neg (by omega)] at hj
        simp at hj
        obtain ⟨e1, h1, h2, h3⟩ := befStep_spec hj
        exact ⟨e1, h1, h2, h3.imp id (grow _ _)⟩
  intro i o ho j hj
  exact key ops [] [] rfl (by simp) i o (by simpa using ho) j hj

theorem drawRow_spec {bs : List Nat} {f : Mk} {i : Nat} : ∀ {fs : List Mk} {j : Nat}, drawRow bs f i j fs = true → ∀ (k : Nat) g, fs[k]? = some g → indepM f g = true ∨ (bs.getD (j + k) 0).testBit i = true
  | [], j, _, k, g, h => by simp at h
  | g0 :: fs, j, h, k, g, hg => by
    simp only [drawRow, Bool.and_eq_true, Bool.or_eq_true] at h
    cases k with
    | zero => simp at hg; subst hg; exact h.1
    | succ k =>
      have := drawRow_spec h.2 k g (by simpa using hg)
      rw [show j + 1 + k = j + (k + 1) from by omega] at this
      exact this
theorem drawAll_spec {bs : List Nat} : ∀ {fs : List Mk} {i : Nat}, drawAll bs i fs = true → ∀ (p q : Nat) f g, p < q → fs[p]? = some f → fs[q]? = some g → indepM f g = true ∨ (bs.getD (i + q) 0).testBit (i + p) = true
  | [], i, _, p, q, f, g, _, hf, _ => by simp at hf
  | f0 :: fs, i, h, p, q, f, g, hpq, hf, hg => by
    simp only [drawAll, Bool.and_eq_true] at h
    cases q with
    | zero => omega
    | succ q =>
      cases p with
      | zero =>
        simp at hf
        subst hf
        have := drawRow_spec h.1 q g (by simpa using hg)
        rw [show i + 1 + q = i + (q + 1) from by omega] at this
        exact this
      | succ p =>
        have := drawAll_spec h.2 p q f g (by omega) (by simpa using hf) (by simpa using hg)
        rw [show i + 1 + q = i + (q + 1) from by omega, show i + 1 + p = i + (p + 1) from by omega] at this
        exact this

theorem edgeOk_spec : ∀ {l : List Oper} {i : Nat}, edgeOk i l = true → ∀ (k : Nat) o, l[k]? = some o → ∀ e ∈ o.after.toList, Region.binds .any e = true → e.on < i + k
  | [], i, _, k, o, h => by simp at h
  | o0 :: l, i, h, k, o, ho => by
    simp only [edgeOk, Bool.and_eq_true, List.all_eq_true, Bool.or_eq_true, Bool.not_eq_true'] at h
    cases k with
    | zero =>
      simp at ho
      subst ho
      intro e he hb
      rcases h.1 e he with h1 | h1
      · rw [hb] at h1; cases h1
      · exact blt_spec h1
    | succ k =>
      intro e he hb
      have := edgeOk_spec h.2 k o (by simpa using ho) e he hb
      omega

section
variable {P : Program} {B : Base} {ops : Array Oper}

theorem runs_idx {l : List Nat} {σ σ' : St} {fs : List (Nat × Fx)} (h : Runs P B ops l σ fs σ') : fs.map (·.1) = l ∧ ∀ i ∈ l, i < ops.size := by
  induction h with
  | nil σ => exact ⟨rfl, by simp⟩
  | cons i o l σ σ' fx fs ho he hr ih =>
    refine ⟨by simp [ih.1], fun j hj => ?_⟩
    rcases List.mem_cons.1 hj with rfl | hj
    · exact (Array.getElem?_eq_some_iff.1 ho).1
    · exact ih.2 j hj

/-- What must hold of two operations of which the one stands first in the text. -/
def Apart (ops : Array Oper) (fs : List (Nat × Fx)) : Prop :=
  fs.Pairwise fun p q => indep p.2 q.2 = true ∨ ((befs ops.toList).getD q.1 0).testBit p.1 = true

theorem getD_two {l : Array Bool} {i : Nat} (h : i < l.size) (d d' : Bool) : l.getD i d = l.getD i d' := by simp [h]

theorem runs_any {Q : Exit → Act → World → Prop} (hed : edgeOk 0 ops.toList = true) : ∀ (fuel : Nat) (listed : Array Bool) (l : List Nat) (σ σ' : St) (fs : List (Nat × Fx)) (a : Act) (w : World), listed.size = ops.size → l.length = fuel → (∀ i, i ∈ l ↔ listed.getD i true = false) →
    (∀ k o, ops[k]? = some o → listed.getD k false = true → ∀ j, ((befs ops.toList).getD k 0).testBit j = true → listed.getD j false = true) → Apart ops fs → l.Pairwise (· < ·) → Runs P B ops l σ fs σ' → Sat B σ a w → (∀ a' w', Sat B σ' a' w' → Q .normal a' w') →
    wpAny P .any ops Q fuel listed a w
  | 0, listed, l, σ, σ', fs, a, w, hsz, hlen, hmem, hdn, hap, hnd, hr, hs, hQ => by
    have hl : l = [] := List.eq_nil_of_length_eq_zero hlen
    subst hl
    cases hr with
    | nil _ =>
      refine ⟨?_, hQ a w hs⟩
      rw [List.eq_nil_iff_forall_not_mem]
      intro i hi
      exact absurd ((hmem i).2 (mem_ready.1 hi).1) (by simp)
  | fuel + 1, listed, l, σ, σ', fs, a, w, hsz, hlen, hmem, hdn, hap, hnd, hr, hs, hQ => by
    obtain ⟨hidx, hlt⟩ := runs_idx hr
    have hon : ∀ i o, ops[i]? = some o → ∀ e ∈ o.after.toList, Region.binds .any e = true → e.on < i := fun i o ho e he hb => by
      have := edgeOk_spec hed i o (by rw [Array.getElem?_toList]; exact ho) e he hb
      omega
    refine ⟨fun hnil => ?_, fun i hi => ?_⟩
    · exfalso
      cases l with
      | nil => simp at hlen
      | cons i l =>
        have hi := hlt i (by simp)
        have hrd : i ∈ Region.ready .any ops listed := by
          rw [mem_ready]
          refine ⟨(hmem i).1 (by simp), ops[i], Array.getElem?_eq_getElem hi, fun e he hb => ?_⟩
          have h1 := hon i ops[i] (Array.getElem?_eq_getElem hi) e (by simpa using he) hb
          have h2 : e.on ∉ i :: l := fun hm => by
            rcases List.mem_cons.1 hm with h | h
            · omega
            · have := (List.pairwise_cons.1 hnd).1 _ h; omega
          rw [getD_two (by omega) false true]
          cases hc : listed.getD e.on true with
          | true => rfl
          | false => exact absurd ((hmem _).2 hc) h2
        rw [hnil] at hrd
        cases hrd
    · obtain ⟨hun, o, ho, hall⟩ := mem_ready.1 hi
      have hil : i ∈ l := (hmem i).2 hun
      have hisz := hlt i hil
      have hbl : ∀ j, ((befs ops.toList).getD i 0).testBit j = true → listed.getD j false = true := fun j hj => by
        obtain ⟨e, he, hb, h1⟩ := befs_spec ops.toList i o (by rw [Array.getElem?_toList]; exact ho) j hj
        have hl := hall e (by simpa using he) hb
        have hlt' := hon i o ho e he hb
        rcases h1 with rfl | h1
        · exact hl
        · exact hdn e.on ops[e.on] (Array.getElem?_eq_getElem (by omega)) hl j h1
      obtain ⟨pre, fx, post, hfs⟩ : ∃ pre fx post, fs = pre ++ (i, fx) :: post := by
        rw [← hidx] at hil
        obtain ⟨p, hp, e⟩ := List.mem_map.1 hil
        obtain ⟨pre, post, hpp⟩ := List.append_of_mem hp
        exact ⟨pre, p.2, post, by rw [hpp, ← e]⟩
      have hpre : ∀ p ∈ pre, indep p.2 fx = true := fun p hp => by
        unfold Apart at hap
        rw [hfs, List.pairwise_append] at hap
        rcases hap.2.2 p hp (i, fx) List.mem_cons_self with h1 | h1
        · exact h1
        · have h2 := hbl p.1 h1
          have hpl : p.1 ∈ l := by rw [← hidx, hfs]; exact List.mem_map.2 ⟨p, List.mem_append_left _ hp, rfl⟩
          have h3 := (hmem p.1).1 hpl
          rw [getD_two (by rw [hsz]; exact hlt _ hpl) true false, h2] at h3
          cases h3
      obtain ⟨l', hr'⟩ := runs_front hr hfs hpre
      have hidx' := (runs_idx hr').1
      simp only [List.map_cons, List.cons.injEq, true_and] at hidx'
      have hll : l = pre.map (·.1) ++ i :: post.map (·.1) := by rw [← hidx, hfs]; simp
      have hl' : l' = pre.map (·.1) ++ post.map (·.1) := by rw [← hidx']; simp
      have hsub : List.Sublist l' l := by
        rw [hll, hl']
        exact List.Sublist.append (List.Sublist.refl _) (List.sublist_cons_self _ _)
      have hnot : i ∉ l' := by
        rw [hll, List.pairwise_append] at hnd
        obtain ⟨_, h2, h3⟩ := hnd
        rw [hl', List.mem_append]
        rintro (h | h)
        · have := h3 i h i (by simp); omega
        · have := (List.pairwise_cons.1 h2).1 i h; omega
      cases hr' with
      | cons _ oi _ _ _ _ _ hoi hei hr2 =>
        refine wanted_wp hoi (hei σ (fun _ _ => rfl) a w hs _ Q fun a' w' hs' => ?_)
        refine runs_any hed fuel (listed.setIfInBounds i true) l' _ σ' (pre ++ post) a' w' (by simp [hsz]) ?_ (fun j => ?_) (fun k ok hok hk j hj => ?_) ?_ (hnd.sublist hsub) hr2 hs' hQ
        · rw [hll] at hlen
          rw [hl']
          simp at hlen ⊢
          omega
        · by_cases e : j = i
          · subst e
            constructor
            · intro h; exact absurd h hnot
            · intro h
              rw [getD_two (by simp [hsz]; exact hisz) true false, show (listed.setIfInBounds j true).getD j false = true by simp [hsz, hisz]] at h
              cases h
          · rw [getD_set_ne true (Ne.symm e), ← hmem j, hll, hl']
            simp [e]
        · by_cases e : k = i
          · subst e
            exact getD_set_true (hbl j hj)
          · rw [getD_set_ne false (Ne.symm e)] at hk
            exact getD_set_true (hdn k ok hok hk j hj)
        · unfold Apart at hap ⊢
          rw [hfs] at hap
          exact hap.sublist (List.Sublist.append (List.Sublist.refl _) (List.sublist_cons_self _ _))

theorem apart_of {fs : List (Nat × Fx)} {n : Nat} (hidx : fs.map (·.1) = List.range n) (h : drawAll (befs ops.toList) 0 (fs.map fun p => fxm p.2) = true) : Apart ops fs := by
  unfold Apart
  rw [List.pairwise_iff_getElem]
  intro p q hp hq hpq
  have h1 := drawAll_spec h p q (fxm fs[p].2) (fxm fs[q].2) hpq (by simp [hp]) (by simp [hq])
  have idx : ∀ r (hr : r < fs.length), fs[r].1 = r := fun r hr => by
    have : (fs.map (·.1))[r]? = some fs[r].1 := by simp [hr]
    rw [hidx] at this
    have hlen : fs.length = n := by have := congrArg List.length hidx; simpa using this
    rw [List.getElem?_range (by omega)] at this
    injection this with this
    exact this.symm
  rw [idx p hp, idx q hq]
  unfold indep
  simpa only [Nat.zero_add] using h1

/-- A region, drawn or not. -/
theorem aRegion_ok (hm : P.follows .mixedOrders = true) {C : FuncId → List Arg → Rs → Prop} (hC : ∀ g xs r, C g xs r → Sp P g xs r) {own : List Nat} {id : Nat} {draw : Bool} {σ : St} {K : Exit → St → Prop}
    (h : aOps P C B.n own ops.toList ops.toList [] σ fun fs σ' => Chk (!draw || drawOk ops.toList fs) (K .normal σ')) {a : Act} {w : World} (hs : Sat B σ a w) {Q : Exit → Act → World → Prop} (hQ : ∀ e σ' a' w', K e σ' → Sat B σ' a' w' → Q e a' w') : (Code.region id ops draw).wp P Q a w := by
  obtain ⟨fs, σ', hr, hk⟩ := aOps_runs (B := B) (ops := ops) hC ops.toList 0 [] σ _ (fun j => by simp) h
  rw [← List.range_eq_range'] at hr
  rw [List.nil_append] at hk
  obtain ⟨hchk, hk2⟩ := hk.ok
  have hlen : ops.toList.length = ops.size := by simp
  rw [hlen] at hr
  cases draw with
  | false => exact wp_region (runs_wp hr hs fun a' w' hs' => hQ .normal σ' a' w' hk2 hs')
  | true =>
    simp only [Bool.not_true, Bool.false_or] at hchk
    unfold drawOk at hchk
    rw [Bool.and_eq_true] at hchk
    refine wp_region_any hm ?_
    have hidx := (runs_idx hr).1
    refine runs_any hchk.1 ops.size (Array.replicate ops.size false) (List.range ops.size) σ σ' fs a _ (by simp) (by simp) (fun i => ?_) (fun k o ho hk => ?_) (apart_of hidx hchk.2) List.pairwise_lt_range hr ?_ fun a' w' hs' => hQ .normal σ' a' w' hk2 hs'
    · by_cases h : i < ops.size
      · simp [h]
      · simp [h]
    · have : k < ops.size := (Array.getElem?_eq_some_iff.1 ho).1
      simp [this] at hk
    · obtain ⟨ρ, hs⟩ := hs
      exact ⟨ρ, (hs.world (w' := { w with drawn := w.drawn + 1 }) ⟨rfl, rfl, rfl, Nat.le_refl _, fun _ _ => rfl⟩).1⟩
end

end Go.Proofs.YthahbiahlpcgeaaGreatDoor.Sym
