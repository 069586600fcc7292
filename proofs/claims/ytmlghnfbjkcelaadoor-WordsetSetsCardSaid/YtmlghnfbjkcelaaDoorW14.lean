/-
  Walks of the program's ordered (by word.Compare and by word.Lex), Sorted.
-/
import Derived.Test.YtmlghnfbjkcelaaDoorW13
namespace Go.Proofs.YtmlghnfbjkcelaaDoor
open Go.RowKit

/-- A list in which equal neighbours stand together, sorted: without them it ascends strictly. -/
theorem dedup_asc {cf : List Int → List Int → Int} (T : TotalCmp cf) : ∀ {l : List (List Int)}, l.Pairwise (fun a b => 0 ≤ cf b a) → (dedupA l).Pairwise (fun a b => cf a b = -1) ∧ ∀ x, x ∈ dedupA l ↔ x ∈ l := by
  intro l
  -- from the end of the list
  suffices H : ∀ n (l : List (List Int)), l.length = n → l.Pairwise (fun a b => 0 ≤ cf b a) → (dedupA l).Pairwise (fun a b => cf a b = -1) ∧ ∀ x, x ∈ dedupA l ↔ x ∈ l from H _ l rfl
  intro n
  induction n with
  | zero =>
    intro l hl _
    have : l = [] := List.eq_nil_of_length_eq_zero hl
    subst this
    exact ⟨List.Pairwise.nil, fun x => Iff.rfl⟩
  | succ n ih =>
    intro l hl hp
    obtain ⟨m, x, rfl⟩ : ∃ m x, l = m ++ [x] := by
      have hne : l ≠ [] := by intro e; rw [e] at hl; simp at hl
      exact ⟨l.dropLast, l.getLast hne, (List.dropLast_concat_getLast hne).symm⟩
    have hml : m.length = n := by simpa using hl
    rw [List.pairwise_append] at hp
    obtain ⟨hp1, _, hp3⟩ := hp
    obtain ⟨h1, h2⟩ := ih m hml hp1
    rw [dedupA_snoc]
    by_cases h : (dedupA m).getLast? = some x
    · rw [if_pos h]
      refine ⟨h1, fun y => ?_⟩
      have hx : x ∈ m := (h2 x).1 (List.mem_of_getLast? h)
      rw [h2, List.mem_append, List.mem_singleton]
      constructor
      · exact Or.inl
      · rintro (h' | rfl)
        · exact h'
        · exact hx
    · rw [if_neg h]
      refine ⟨?_, fun y => by rw [List.mem_append, List.mem_append, h2]⟩
      rw [List.pairwise_append]
      refine ⟨h1, by simp, fun a ha b hb => ?_⟩
      rw [List.mem_singleton] at hb
      subst hb
      have ha' : a ∈ m := (h2 a).1 ha
      have hle : 0 ≤ cf b a := hp3 a ha' b (by simp)
      have hr := T.range b a
      have hsw := T.swap b a
      by_cases e : cf b a = 0
      · -- a would be the last one
        exfalso
        have hab : b = a := (T.zero _ _).1 e
        subst hab
        -- the last of m is the greatest, and b is in m and not less than it
        have hne : dedupA m ≠ [] := fun e => by rw [e] at ha; cases ha
        have hl2 := List.getLast?_eq_some_getLast hne
        have hlast : (dedupA m).getLast hne ∈ m := (h2 _).1 (List.getLast_mem hne)
        have h3 : 0 ≤ cf b ((dedupA m).getLast hne) := hp3 _ hlast b (by simp)
        have hsplit : dedupA m = (dedupA m).dropLast ++ [(dedupA m).getLast hne] := (List.dropLast_concat_getLast hne).symm
        have h4 : b = (dedupA m).getLast hne ∨ cf b ((dedupA m).getLast hne) = -1 := by
          rw [hsplit] at ha h1
          rw [List.pairwise_append] at h1
          rcases List.mem_append.1 ha with h5 | h5
          · exact Or.inr (h1.2.2 b h5 _ (by simp))
          · exact Or.inl (List.mem_singleton.1 h5)
        rcases h4 with h4 | h4
        · exact h (by rw [hl2, ← h4])
        · omega
      · omega

theorem dedupA_length (l : List (List Int)) : (dedupA l).length ≤ l.length := by
  suffices H : ∀ (l acc : List (List Int)), (l.foldl (fun acc x => if acc.getLast? = some x then acc else acc ++ [x]) acc).length ≤ acc.length + l.length by
    simpa [dedupA] using H l []
  intro l
  induction l with
  | nil => intro acc; simp
  | cons x l ih =>
    intro acc
    rw [List.foldl_cons]
    refine Nat.le_trans (ih _) ?_
    split
    · simp
    · simp; omega

theorem OwnW.store {w : World} {base g n c k : Nat} {l : List (List Int)} {x : List Int} {u : Value} (h : OwnW w base (.slice (some ⟨g, 0, none⟩) n c) l) (hn : l.length = n) (hx : l[k]? = some x) (hu : IsI w u x) (ho : Off u (some g)) :
    OwnW (w.setCell ⟨g, k, none⟩ u) base (.slice (some ⟨g, 0, none⟩) n c) l ∧ w.grownBy (w.setCell ⟨g, k, none⟩ u) (some g) := by
  obtain ⟨us, hul, hown, hel⟩ := h
  rw [show us.length = n by rw [hul, hn]] at hown
  have hs := hown.stored k u
  have hk : k < l.length := (List.getElem?_eq_some_iff.1 hx).1
  refine ⟨⟨us.set k u, by simpa using hul, by rw [List.length_set, hul, hn]; exact hs.1, fun i y hy => ?_⟩, hs.2⟩
  by_cases e : i = k
  · subst e
    rw [hx] at hy
    injection hy with hy
    subst hy
    exact ⟨u, List.getElem?_set_self (by omega), hu.grown hs.2 ho, ho⟩
  · obtain ⟨u', hu', hi, ho'⟩ := hel i y hy
    exact ⟨u', by rw [List.getElem?_set_ne (fun e' => e e'.symm)]; exact hu', hi.grown hs.2 ho', ho'⟩

theorem OwnW.cell {w : World} {base g n c k : Nat} {l : List (List Int)} {x : List Int} (h : OwnW w base (.slice (some ⟨g, 0, none⟩) n c) l) (hn : l.length = n) (hx : l[k]? = some x) :
    ∃ A' n' c', w.cell? ⟨g, k, none⟩ = some (.slice A' n' c') ∧ IsI w (.slice A' n' c') x ∧ Off (.slice A' n' c') (some g) ∧ w.frozen? ⟨g, k, none⟩ = false := by
  obtain ⟨us, hul, hown, hel⟩ := h
  rw [show us.length = n by rw [hul, hn]] at hown
  have hk : k < l.length := (List.getElem?_eq_some_iff.1 hx).1
  obtain ⟨u, hu, hi, ho⟩ := hel k x hx
  obtain ⟨A', n', c', rfl, hr⟩ := hi
  exact ⟨A', n', c', by rw [hown.cellAt k (by omega), hu], ⟨A', n', c', rfl, hr⟩, ho, hown.frozenAt k⟩

theorem eg38 : ∀ args w, (callFunc 38 args).run Tryd.prog w = .ok (.enter 38 args) w := enters_of Tryd.func38 (by kernel_rfl) rfl
theorem eg54 : ∀ args w, (callFunc 54 args).run Tryd.prog w = .ok (.enter 54 args) w := enters_of Tryd.func54 (by kernel_rfl) rfl

theorem cmp38 (W : World) (u u' : Value) (x y : List Int) (hu : IsI W u x) (hu' : IsI W u' y) :
    Calls Tryd.prog 38 #[u, u'] W fun e w' => e = .returned (.int .i64 (cmpW x y)) ∧ ∃ q os, w' = Sort.grow (W.drewN q) os := by
  obtain ⟨A, n, c, rfl, h1⟩ := hu
  obtain ⟨B, m, c', rfl, h2⟩ := hu'
  refine (wordCompare_any h1 h2).mono fun e w' ⟨he, hw⟩ => ⟨he, 0, #[.cells #[.int .i64 (cmpI x.length y.length), .int .i64 (lexI x y)] 3], ?_⟩
  rw [← hw, Sort.alloc_eq_grow]
  rfl
theorem cmp54 (W : World) (u u' : Value) (x y : List Int) (hu : IsI W u x) (hu' : IsI W u' y) :
    Calls Tryd.prog 54 #[u, u'] W fun e w' => e = .returned (.int .i64 (lexI x y)) ∧ ∃ q os, w' = Sort.grow (W.drewN q) os := by
  obtain ⟨A, n, c, rfl, h1⟩ := hu
  obtain ⟨B, m, c', rfl, h2⟩ := hu'
  refine (wordLex_any h1 h2).mono fun e w' ⟨he, hw⟩ => ⟨he, 0, #[], ?_⟩
  rw [← hw, Sort.grow_empty]
  rfl

theorem box_ne {w w1 : World} {o : Obj} {v : Value} {l : List (List Int)} (h : OwnW w1 (w.alloc o).heap.size v l) : v.ownBlock ≠ some w.heap.size := fun e => by
  have := h.lt _ e
  simp at this
  omega
theorem box_ne' {w w1 : World} {o : Obj} {v : Value} {l : List (List Int)} (h : OwnW w1 (w.alloc o).heap.size v l) : some (⟨w.heap.size, 0, none⟩ : Addr).block ≠ v.ownBlock := fun e => box_ne h e.symm

/-- 'ordered': the different words, strictly ascending, in memory of its own. -/
def OrdPost (cf : List Int → List Int → Int) (w : World) (l : List (List Int)) (e : Ending) (w' : World) : Prop :=
  ∃ L : List (List Int), L.Pairwise (fun a b => cf a b = -1) ∧ (∀ x, x ∈ L ↔ x ∈ l) ∧ L.length ≤ l.length ∧ NewW w L e w'

theorem ordered1_38 {B : Nat} (W : World) (u u' : Value) (x y : List Int) (hF : W.cell? ⟨B, 0, none⟩ = some (.func (.func 38) #[] #[])) (hu : IsI W u x) (hu' : IsI W u' y) :
    Calls Tryd.prog 75 #[u, u', .pointer (some ⟨B, 0, none⟩)] W fun e w' => e = .returned (.bool (decide (x = y))) ∧ Below W.heap.size W w' := by
  obtain ⟨A, n, c, rfl, h1⟩ := hu
  obtain ⟨A', m, c', rfl, h2⟩ := hu'
  have HC := Lib.hid (cmp38 W _ _ x y h1.isI h2.isI)
  have HZ := Lib.hid (cmpW_total.zero x y)
  clear h1 h2
  go_enter Tryd.func75, Tryd.ntmps75
  go_wp2_with (go_at_call 38; refine HC.out.mono ?_; rintro e w' ⟨rfl, q, os, hw⟩)
  go_ret
  refine ⟨ret_bool ?_, ?_⟩
  · rw [Bool.eq_iff_iff, decide_eq_true_iff, ← HZ.out, beq_iff_eq]
  · exact ⟨rfl, rfl, rfl, by simp [Sort.grow, World.drewN], fun k hk => by simp [Sort.grow, World.drewN, Array.getElem?_append, hk]⟩

set_option maxRecDepth 100000 in
set_option maxHeartbeats 1600000 in
theorem ordered_38 {A : Option Addr} {n c : Nat} {l : List (List Int)} {w : World} (hx : RowOf w (IsI w) A n c l) (hn : n ≤ 1000000000) :
    Calls Tryd.prog 50 #[.slice A n c, .func (.func 38) #[] #[]] w (OrdPost cmpW w l) := by
  have hnl := hx.len
  have HNL := Lib.hid hnl
  have HCL := Lib.hid (fun o => cloneW_any (hx.words (grown_keeps (World.grownBy_alloc w o none))) hn)
  have hF : ∀ t, (w.alloc (.cells #[.func (.func 38) #[] #[]] t)).cell? ⟨w.heap.size, 0, none⟩ = some (.func (.func 38) #[] #[]) := fun t => by
    have := cell_one_new w (.func (.func 38) #[] #[]) t 0 _ rfl
    rwa [addr_add] at this
  clear hx hnl
  go_enter Tryd.func50, Tryd.ntmps50
  go_wp2_with (first | (go_at_call 73; refine (HCL.out _).mono ?_; rintro e w1 ⟨v1, rfl, hO1, hB1⟩; have hF1 := Below.to_keeps hB1 _ _ (hF _); have HS1 := Lib.hid (sortFunc_any cmpW_total eg38 cmp38 hO1 (by rw [HNL.out]; exact hn))) | (go_at_call 37; refine HS1.out.mono ?_; rintro e w2 ⟨rfl, l', hperm, hpw, hO2, hg2⟩; have hne := box_ne hO1; have hF2 := hg2.cell hF1 (box_ne' hO1); have HK := Lib.hid (compact_any hO2 hF2 hne (by rw [hperm.length_eq, HNL.out]; exact hn) ordered1_38)) | (go_at_call 74; refine HK.out.mono ?_; rintro e w3 ⟨v3, rfl, hO3, hg3, hv3⟩; obtain ⟨A3, c3, rfl, hr3⟩ := hO3.rowOf (Nat.le_trans (dedupA_length _) (by rw [hperm.length_eq, HNL.out]; omega))))
  obtain ⟨hd1, hd2⟩ := dedup_asc cmpW_total hpw
  have hd3 := dedupA_length l'
  rw [hperm.length_eq, HNL.out] at hd3
  have hbw : Below w.heap.size w w3 := by
    have h1 : Below w.heap.size w w1 := ((Below.refl _ w).alloc (Nat.le_refl _) _).trans (hB1.mono (by simp))
    have h2 := h1.grown hg2 h1.size (fun g e => by have := hO1.lt g e; simp at this; omega)
    exact h2.grown hg3 h2.size (fun g e => by have := hO2.lt g e; simp at this; omega)
  have hO3' := hO3.base (base' := w.heap.size) (by simp)
  have HL := Lib.hid (show (∀ x, x ∈ dedupA l' ↔ x ∈ l) from fun x => by rw [hd2]; exact hperm.mem_iff)
  have HP := Lib.hid hd1
  have HB := Lib.hid hbw
  generalize dedupA l' = L at *
  have H3 := Lib.hid hO3'
  clear hd1 hd2 hO3 hO3' hg3 hv3 hr3 hO2 hg2 hpw hperm hne hF2 HK HS1 hF1 hO1 hB1 hbw
  go_loopw [6, 7, 18] (fun _ _ i wr => ∃ k : Nat, k ≤ L.length ∧ i = .int .i64 k ∧ OwnW wr w.heap.size (.slice A3 L.length c3) L ∧ Below w.heap.size w wr) (fun _ _ i _ => L.length - (intOf i).toNat)
  case atStart => exact ⟨0, by omega, rfl, H3.out, HB.out⟩
  case round =>
    obtain ⟨k, hk, rfl, hown, hbel⟩ := hrel
    by_cases h1 : k < L.length
    · obtain ⟨g, rfl, hwg⟩ : ∃ g, A3 = some ⟨g, 0, none⟩ ∧ w.heap.size ≤ g := by
        obtain ⟨us, hul, hrow, _⟩ := hown
        rcases hrow.2 with ⟨_, h0⟩ | ⟨g, _, _, e, hb, _⟩
        · omega
        · injection e with e1
          exact ⟨g, e1, hb⟩
      obtain ⟨x, hx⟩ : ∃ x, L[k]? = some x := ⟨L[k], List.getElem?_eq_getElem h1⟩
      obtain ⟨A4, n4, c4, q1, q2, q3, q4⟩ := hown.cell rfl hx
      have HX := Lib.hid (And.intro hx (And.intro hown hbel))
      have HQ := Lib.hid (cloneI_any q2.row)
      have hs4 := q2.row.small
      have hl4 := q2.row.len
      have HS4 := Lib.hid (show x.length ≤ 17592186044416 by omega)
      clear hx hown hbel q2 q3 q4 hs4 hl4
      go_wp2_with (go_at_call 69; refine HQ.out.mono ?_; rintro e w5 ⟨vc, rfl, hOc, hBc⟩; have hI5 := hOc.isI HS4.out; have hF5 := hOc.off (row := some g) (fun g' e => by injection e with e; subst e; exact ((HX.out.2.1.lt _ rfl).2)); have hown5 := HX.out.2.1.kept (grown_none hBc); obtain ⟨A6, n6, c6, p1, _, _, p4⟩ := hown5.cell rfl HX.out.1; obtain ⟨A5, n5, c5, rfl, hr5⟩ := hI5)
      have hst := hown5.store rfl HX.out.1 hr5.isI hF5
      have HF := Lib.hid (And.intro hst.1 ((HX.out.2.2.trans (hBc.mono HX.out.2.2.size)).setCell (p := ⟨g, k, none⟩) hwg (.slice A5 n5 c5)))
      clear hst hown5 hOc hBc hF5 hr5
      go_roundw
      case rel => exact ⟨k + 1, by omega, by go_num, HF.out.1, HF.out.2⟩
      case measure => simp [intOf] <;> omega
    · go_wp2
      go_ret
      exact ⟨L, HP.out, HL.out, by rw [HNL.out]; exact hd3, _, rfl, hown, hbel⟩

theorem ordered1_54 {B : Nat} (W : World) (u u' : Value) (x y : List Int) (hF : W.cell? ⟨B, 0, none⟩ = some (.func (.func 54) #[] #[])) (hu : IsI W u x) (hu' : IsI W u' y) :
    Calls Tryd.prog 75 #[u, u', .pointer (some ⟨B, 0, none⟩)] W fun e w' => e = .returned (.bool (decide (x = y))) ∧ Below W.heap.size W w' := by
  obtain ⟨A, n, c, rfl, h1⟩ := hu
  obtain ⟨A', m, c', rfl, h2⟩ := hu'
  have HC := Lib.hid (cmp54 W _ _ x y h1.isI h2.isI)
  have HZ := Lib.hid (lexI_total.zero x y)
  clear h1 h2
  go_enter Tryd.func75, Tryd.ntmps75
  go_wp2_with (go_at_call 54; refine HC.out.mono ?_; rintro e w' ⟨rfl, q, os, hw⟩)
  go_ret
  refine ⟨ret_bool ?_, ?_⟩
  · rw [Bool.eq_iff_iff, decide_eq_true_iff, ← HZ.out, beq_iff_eq]
  · exact ⟨rfl, rfl, rfl, by simp [Sort.grow, World.drewN], fun k hk => by simp [Sort.grow, World.drewN, Array.getElem?_append, hk]⟩

set_option maxRecDepth 100000 in
set_option maxHeartbeats 1600000 in
theorem ordered_54 {A : Option Addr} {n c : Nat} {l : List (List Int)} {w : World} (hx : RowOf w (IsI w) A n c l) (hn : n ≤ 1000000000) :
    Calls Tryd.prog 50 #[.slice A n c, .func (.func 54) #[] #[]] w (OrdPost lexI w l) := by
  have hnl := hx.len
  have HNL := Lib.hid hnl
  have HCL := Lib.hid (fun o => cloneW_any (hx.words (grown_keeps (World.grownBy_alloc w o none))) hn)
  have hF : ∀ t, (w.alloc (.cells #[.func (.func 54) #[] #[]] t)).cell? ⟨w.heap.size, 0, none⟩ = some (.func (.func 54) #[] #[]) := fun t => by
    have := cell_one_new w (.func (.func 54) #[] #[]) t 0 _ rfl
    rwa [addr_add] at this
  clear hx hnl
  go_enter Tryd.func50, Tryd.ntmps50
  go_wp2_with (first | (go_at_call 73; refine (HCL.out _).mono ?_; rintro e w1 ⟨v1, rfl, hO1, hB1⟩; have hF1 := Below.to_keeps hB1 _ _ (hF _); have HS1 := Lib.hid (sortFunc_any lexI_total eg54 cmp54 hO1 (by rw [HNL.out]; exact hn))) | (go_at_call 37; refine HS1.out.mono ?_; rintro e w2 ⟨rfl, l', hperm, hpw, hO2, hg2⟩; have hne := box_ne hO1; have hF2 := hg2.cell hF1 (box_ne' hO1); have HK := Lib.hid (compact_any hO2 hF2 hne (by rw [hperm.length_eq, HNL.out]; exact hn) ordered1_54)) | (go_at_call 74; refine HK.out.mono ?_; rintro e w3 ⟨v3, rfl, hO3, hg3, hv3⟩; obtain ⟨A3, c3, rfl, hr3⟩ := hO3.rowOf (Nat.le_trans (dedupA_length _) (by rw [hperm.length_eq, HNL.out]; omega))))
  obtain ⟨hd1, hd2⟩ := dedup_asc lexI_total hpw
  have hd3 := dedupA_length l'
  rw [hperm.length_eq, HNL.out] at hd3
  have hbw : Below w.heap.size w w3 := by
    have h1 : Below w.heap.size w w1 := ((Below.refl _ w).alloc (Nat.le_refl _) _).trans (hB1.mono (by simp))
    have h2 := h1.grown hg2 h1.size (fun g e => by have := hO1.lt g e; simp at this; omega)
    exact h2.grown hg3 h2.size (fun g e => by have := hO2.lt g e; simp at this; omega)
  have hO3' := hO3.base (base' := w.heap.size) (by simp)
  have HL := Lib.hid (show (∀ x, x ∈ dedupA l' ↔ x ∈ l) from fun x => by rw [hd2]; exact hperm.mem_iff)
  have HP := Lib.hid hd1
  have HB := Lib.hid hbw
  generalize dedupA l' = L at *
  have H3 := Lib.hid hO3'
  clear hd1 hd2 hO3 hO3' hg3 hv3 hr3 hO2 hg2 hpw hperm hne hF2 HK HS1 hF1 hO1 hB1 hbw
  go_loopw [6, 7, 18] (fun _ _ i wr => ∃ k : Nat, k ≤ L.length ∧ i = .int .i64 k ∧ OwnW wr w.heap.size (.slice A3 L.length c3) L ∧ Below w.heap.size w wr) (fun _ _ i _ => L.length - (intOf i).toNat)
  case atStart => exact ⟨0, by omega, rfl, H3.out, HB.out⟩
  case round =>
    obtain ⟨k, hk, rfl, hown, hbel⟩ := hrel
    by_cases h1 : k < L.length
    · obtain ⟨g, rfl, hwg⟩ : ∃ g, A3 = some ⟨g, 0, none⟩ ∧ w.heap.size ≤ g := by
        obtain ⟨us, hul, hrow, _⟩ := hown
        rcases hrow.2 with ⟨_, h0⟩ | ⟨g, _, _, e, hb, _⟩
        · omega
        · injection e with e1
          exact ⟨g, e1, hb⟩
      obtain ⟨x, hx⟩ : ∃ x, L[k]? = some x := ⟨L[k], List.getElem?_eq_getElem h1⟩
      obtain ⟨A4, n4, c4, q1, q2, q3, q4⟩ := hown.cell rfl hx
      have HX := Lib.hid (And.intro hx (And.intro hown hbel))
      have HQ := Lib.hid (cloneI_any q2.row)
      have hs4 := q2.row.small
      have hl4 := q2.row.len
      have HS4 := Lib.hid (show x.length ≤ 17592186044416 by omega)
      clear hx hown hbel q2 q3 q4 hs4 hl4
      go_wp2_with (go_at_call 69; refine HQ.out.mono ?_; rintro e w5 ⟨vc, rfl, hOc, hBc⟩; have hI5 := hOc.isI HS4.out; have hF5 := hOc.off (row := some g) (fun g' e => by injection e with e; subst e; exact ((HX.out.2.1.lt _ rfl).2)); have hown5 := HX.out.2.1.kept (grown_none hBc); obtain ⟨A6, n6, c6, p1, _, _, p4⟩ := hown5.cell rfl HX.out.1; obtain ⟨A5, n5, c5, rfl, hr5⟩ := hI5)
      have hst := hown5.store rfl HX.out.1 hr5.isI hF5
      have HF := Lib.hid (And.intro hst.1 ((HX.out.2.2.trans (hBc.mono HX.out.2.2.size)).setCell (p := ⟨g, k, none⟩) hwg (.slice A5 n5 c5)))
      clear hst hown5 hOc hBc hF5 hr5
      go_roundw
      case rel => exact ⟨k + 1, by omega, by go_num, HF.out.1, HF.out.2⟩
      case measure => simp [intOf] <;> omega
    · go_wp2
      go_ret
      exact ⟨L, HP.out, HL.out, by rw [HNL.out]; exact hd3, _, rfl, hown, hbel⟩

end Go.Proofs.YtmlghnfbjkcelaaDoor
