/-
  Walks of the program's slices.Clone, word.Check, wordset.Has, cmp.Or, word.Compare.
-/
import Derived.Test.YtmlghnfbjkcelaaDoorW3
import Derived.Test.YtmlghnfbjkcelaaDoorW6
namespace Go.Proofs.YtmlghnfbjkcelaaDoor
open Go.RowKit

set_option maxRecDepth 100000 in
set_option maxHeartbeats 400000 in
theorem cloneI_any {A : Option Addr} {n c : Nat} {xs : List Int} {w : World} (hx : RowOf w IsInt A n c xs) :
    Calls Tryd.prog 69 #[.slice A n c] w (NewI w xs) := by
  have hns := hx.small
  have hxl := hx.len
  obtain ⟨j0, ji, jz0, jz1, jz2⟩ := info_parts Tryd.infoInt
  have hnil := Lib.run_eql_slice_nil (P := Tryd.prog) w 38 3 A n c 0 0 Tryd.underlying38
  cases A with
  | none =>
    have h0 : n = 0 := by
      rcases Nat.eq_zero_or_pos n with h | h
      · exact h
      · obtain ⟨b, o, _, _, e, _⟩ := hx.at_ h; cases e
    have hxs : xs = [] := List.eq_nil_of_length_eq_zero (by omega)
    have HX := Lib.hid hxs
    clear hxs hx hxl h0
    go_enter Tryd.func69, Tryd.ntmps69
    go_wp2
    go_ret
    rw [HX.out]
    exact ⟨_, rfl, OwnI.nil_ _ _, Below.refl _ _⟩
  | some a =>
    have hsrc : ∀ o, Src (w.alloc o) (some a) n (xs.map (Value.int .i64)) := fun o => (hx.kept (grown_keeps (World.grownBy_alloc w o none))).src
    have hl : ∀ t, (w.alloc (.cells #[] t)).ownsRow w.heap.size t 1 (.slice (some ⟨w.heap.size, 0, none⟩) 0 0) 0 [] := fun t => World.ownsRow_lit w #[] 0 (Nat.le_refl _) (by unfold maxLen; omega) (by simp)
    have hc6 : 0 + n ≤ maxLen := by unfold maxLen; omega
    have hc7 : (0 + n) * 8 ≤ 140737488355328 := by omega
    have hc8 : ∀ o, w.heap.size ≤ (w.alloc o).heap.size := fun o => by simp
    have HXL := Lib.hid hxl
    clear hxl
    go_enter Tryd.func69, Tryd.ntmps69
    go_wp2_with (at_builtin; refine wpList_append_row rfl (.tmp 5) (.tmp 6) 38 rfl w.heap.size 3 j0 (.int .i64 0) 8 Tryd.underlying38 ji jz0 jz1 jz2 rfl (.slice (some ⟨w.heap.size, 0, none⟩) 0 0) 0 _ rfl (hl _) _ _ _ _ rfl (hsrc _) (ints_oneCell _ _) hc6 hc7 (hc8 _) ?_; intro v1 w1 hown1 hg1 hb1; obtain ⟨hO, hB⟩ := own_fresh (World.grownBy_alloc w _ none) hown1 HXL.out hg1)
    go_ret
    exact ⟨_, rfl, hO, hB⟩

set_option maxRecDepth 100000 in
set_option maxHeartbeats 400000 in
theorem cloneW_any {A : Option Addr} {n c : Nat} {l : List (List Int)} {w : World} (hx : RowOf w (IsI w) A n c l) (hn : n ≤ 1000000000) :
    Calls Tryd.prog 73 #[.slice A n c] w (NewW w l) := by
  have hxl := hx.len
  obtain ⟨i0, hi, hz0, hz1, hz2⟩ := info_parts Tryd.infoWord
  have hnil := Lib.run_eql_slice_nil (P := Tryd.prog) w 25 38 A n c 0 0 Tryd.underlying25
  cases A with
  | none =>
    have h0 : n = 0 := by
      rcases Nat.eq_zero_or_pos n with h | h
      · exact h
      · obtain ⟨b, o, _, _, e, _⟩ := hx.at_ h; cases e
    have hxs : l = [] := List.eq_nil_of_length_eq_zero (by omega)
    have HX := Lib.hid hxs
    clear hxs hx hxl h0
    go_enter Tryd.func73, Tryd.ntmps73
    go_wp2
    go_ret
    rw [HX.out]
    exact ⟨_, rfl, OwnW.nil_ _ _, Below.refl _ _⟩
  | some a =>
    have hk := fun o => grown_keeps (World.grownBy_alloc w o none)
    obtain ⟨news, hsrc0, hnews⟩ := hx.cells
    have hsrc : ∀ o, Src (w.alloc o) (some a) n news := fun o => ⟨hsrc0.1, fun h => by
      obtain ⟨b, o', e, hc⟩ := hsrc0.2 h
      exact ⟨b, o', e, fun j u hu => hk o _ _ (hc j u hu)⟩⟩
    have hone := news_oneCell hsrc0.1 hxl hnews
    have hl : ∀ t, (w.alloc (.cells #[] t)).ownsRow w.heap.size t 1 (.slice (some ⟨w.heap.size, 0, none⟩) 0 0) 0 [] := fun t => World.ownsRow_lit w #[] 0 (Nat.le_refl _) (by unfold maxLen; omega) (by simp)
    have hc6 : 0 + n ≤ maxLen := by unfold maxLen; omega
    have hc7 : (0 + n) * 24 ≤ 140737488355328 := by omega
    have hc8 : ∀ o, w.heap.size ≤ (w.alloc o).heap.size := fun o => by simp
    have HXL := Lib.hid hxl
    have HN := Lib.hid (And.intro hsrc0.1 hnews)
    clear hxl hnews hk hx hsrc0
    go_enter Tryd.func73, Tryd.ntmps73
    go_wp2_with (at_builtin; refine wpList_append_row rfl (.tmp 5) (.tmp 6) 25 rfl w.heap.size 38 i0 (.slice none 0 0) 24 Tryd.underlying25 hi hz0 hz1 hz2 rfl (.slice (some ⟨w.heap.size, 0, none⟩) 0 0) 0 _ rfl (hl _) _ _ _ _ rfl (hsrc _) hone hc6 hc7 (hc8 _) ?_; intro v1 w1 hown1 hg1 hb1)
    go_ret
    have hgr : w.grownBy w1 none := grown_step (World.grownBy_alloc w _ none) hg1 (.inr fun g e => by
      have : some w.heap.size = some g := e
      injection this with this
      omega)
    refine ⟨v1, rfl, ⟨news, by rw [HN.out.1, HXL.out], by rw [HN.out.1]; simpa using hown1, fun i x hx => ?_⟩, grown_below hgr (Nat.le_refl _) (fun g e => by cases e)⟩
    obtain ⟨u, hu, hi'⟩ := HN.out.2 i x hx
    refine ⟨u, hu, hi'.keep (grown_keeps hgr), ?_⟩
    have : v1.ownBlock = some w.heap.size ∨ v1.ownBlock = some (w.heap.size + 1) := by
      rcases hb1 with e | e
      · exact .inl e
      · right; rw [e]; simp
    rcases this with e | e
    · rw [e]; exact hi'.off_new (Nat.le_refl _)
    · rw [e]; exact hi'.off_new (by omega)

/-- A symbol is not permitted. -/
def badB (inputs : Int) (xs : List Int) : Bool := xs.any fun a => decide (a < 0 ∨ inputs ≤ a)
theorem badB_def (inputs : Int) (xs : List Int) : badB inputs xs = xs.any fun a => decide (a < 0 ∨ inputs ≤ a) := rfl

/-- slices.IndexFunc with the predicate of word.Check: whether it finds a place. -/
def IdxPost (b : Bool) (w : World) (e : Ending) (w' : World) : Prop := ∃ r : Int, e = .returned (.int .i64 r) ∧ decide (0 ≤ r) = b ∧ w = w'

theorem Check1_any (x inputs : Int) (B : Nat) (w : World) (hB : w.cell? ⟨B, 0, none⟩ = some (.int .i64 inputs)) :
    Calls Tryd.prog 68 #[.int .i64 x, .pointer (some ⟨B, 0, none⟩)] w fun e w' => e = .returned (.bool (decide (x < 0 ∨ inputs ≤ x))) ∧ w = w' := by
  by_cases h1 : x < 0
  · have d1 : decide (x < 0) = true := decide_eq_true h1
    go_enter Tryd.func68, Tryd.ntmps68
    go_wp2
    go_ret
    exact ⟨ret_bool (by simp [h1]), rfl⟩
  · have d1 : decide (x < 0) = false := decide_eq_false h1
    go_enter Tryd.func68, Tryd.ntmps68
    go_wp2
    go_ret
    exact ⟨ret_bool (by simp [h1]), rfl⟩

set_option maxHeartbeats 400000 in
theorem IndexCheck_any {A : Option Addr} {n c B : Nat} {xs : List Int} {inputs : Int} {w : World} (hx : RowOf w IsInt A n c xs) (hB : w.cell? ⟨B, 0, none⟩ = some (.int .i64 inputs)) :
    Calls Tryd.prog 90 #[.slice A n c, .func (.func 68) #[] #[.pointer (some ⟨B, 0, none⟩)]] w (IdxPost (badB inputs xs) w) := by
  have hns := hx.small
  have HL := Lib.hid hx.len
  go_enter Tryd.func90, Tryd.ntmps90
  go_wp2
  go_loop [5, 8] (fun _ i => ∃ k : Nat, k ≤ n ∧ i = .int .i64 k ∧ Hid (badB inputs (xs.take k) = false)) (fun _ i => n - (intOf i).toNat)
  case atStart => exact ⟨0, by omega, rfl, Lib.hid (by simp [badB])⟩
  case round =>
    obtain ⟨k, hk, rfl, HT⟩ := hrel
    by_cases h1 : k < n
    · obtain ⟨b, o, x, rfl, hx1, hx2⟩ := hx.int_at h1
      have HX := Lib.hid hx1
      clear hx1
      by_cases h2 : x < 0 ∨ inputs ≤ x
      · have d2 : decide (x < 0 ∨ inputs ≤ x) = true := decide_eq_true h2
        have H2 := Lib.hid h2
        clear h2
        go_wp2_with (go_at_call 68; refine (Check1_any x inputs B _ hB).mono ?_; rintro e w' ⟨rfl, rfl⟩)
        go_ret
        refine ⟨_, rfl, ?_, rfl⟩
        have : badB inputs xs = true := by
          rw [badB_def, List.any_eq_true]
          exact ⟨x, List.mem_of_getElem? HX.out, decide_eq_true H2.out⟩
        rw [this]
        exact decide_eq_true (by omega)
      · have d2 : decide (x < 0 ∨ inputs ≤ x) = false := decide_eq_false h2
        have H2 := Lib.hid h2
        clear h2
        go_wp2_with (go_at_call 68; refine (Check1_any x inputs B _ hB).mono ?_; rintro e w' ⟨rfl, rfl⟩)
        go_round
        case rel => exact ⟨k + 1, by omega, by go_num, Lib.hid (by rw [take_step HX.out, badB_def, List.any_append, ← badB_def, HT.out]; simpa using H2.out)⟩
        case measure => simp [intOf] <;> omega
    · go_wp2
      go_ret
      have ht := HT.out
      rw [List.take_of_length_le (by rw [HL.out]; omega)] at ht
      exact ⟨_, rfl, by rw [ht]; rfl, rfl⟩

theorem ContainsCheck_any {A : Option Addr} {n c B : Nat} {xs : List Int} {inputs : Int} {w : World} (hx : RowOf w IsInt A n c xs) (hB : w.cell? ⟨B, 0, none⟩ = some (.int .i64 inputs)) :
    Calls Tryd.prog 67 #[.slice A n c, .func (.func 68) #[] #[.pointer (some ⟨B, 0, none⟩)]] w fun e w' => e = .returned (.bool (badB inputs xs)) ∧ w = w' := by
  have HI := Lib.hid (IndexCheck_any hx hB)
  clear hx hB
  go_enter Tryd.func67, Tryd.ntmps67
  go_wp2_with (go_at_call 90; refine HI.out.mono ?_; rintro e w' ⟨r, rfl, hr, rfl⟩)
  go_ret
  exact ⟨by rw [← hr]; rfl, rfl⟩

theorem checkI_any (xs : List Int) (inputs : Int) (h1 : 1 ≤ inputs ∧ inputs ≤ 1024) (h2 : ¬ 1024 < xs.length) :
    checkI xs inputs = if badB inputs xs = true then 1 else 0 := by
  unfold checkI badB
  rw [if_pos h1, if_neg h2]
  by_cases h : (xs.all fun a => decide (0 ≤ a ∧ a < inputs)) = true
  · rw [if_pos h, if_neg]
    rw [List.any_eq_true]
    rintro ⟨a, ha, hd⟩
    have := List.all_eq_true.1 h a ha
    simp at this hd
    omega
  · rw [if_neg h, if_pos]
    rw [List.any_eq_true]
    rw [Bool.not_eq_true, List.all_eq_false] at h
    obtain ⟨a, ha, hd⟩ := h
    refine ⟨a, ha, ?_⟩
    simp at hd ⊢
    omega

/-- An error code; nothing that was there has turned. -/
def CodeB (w : World) (k : Int) (e : Ending) (w' : World) : Prop := e = .returned (.int .i64 k) ∧ Below w.heap.size w w'

set_option maxHeartbeats 400000 in
theorem wordCheck_any {A : Option Addr} {n c : Nat} {xs : List Int} {inputs : Int} {w : World} (hx : RowOf w IsInt A n c xs) :
    Calls Tryd.prog 41 #[.slice A n c, .int .i64 inputs] w (CodeB w (checkI xs inputs)) := by
  have hns := hx.small
  have HL := Lib.hid hx.len
  have hcell : ∀ t, (w.alloc (.cells #[.int .i64 inputs] t)).cell? ⟨w.heap.size, 0, none⟩ = some (.int .i64 inputs) := fun t => by
    have := cell_one_new w (.int .i64 inputs) t 0 _ rfl
    rwa [addr_add] at this
  by_cases h1 : 1 ≤ inputs ∧ inputs ≤ 1024
  · have d1 : decide (1 ≤ inputs ∧ inputs ≤ 1024) = true := decide_eq_true h1
    have H1 := Lib.hid h1
    clear h1
    by_cases h2 : 1024 < n
    · go_enter Tryd.func41, Tryd.ntmps41
      go_wp2_with (go_at_call 66; refine (wordpermitted_any _ _).mono ?_; rintro e w' ⟨rfl, rfl⟩)
      go_ret
      refine ⟨ret_int ?_, (Below.refl _ _).alloc (Nat.le_refl _) _⟩
      unfold checkI
      rw [if_pos H1.out, HL.out, if_pos h2]
    · have HI := Lib.hid (fun t => ContainsCheck_any (B := w.heap.size) (inputs := inputs) (hx.kept (grown_keeps (World.grownBy_alloc w (.cells #[.int .i64 inputs] t) none))) (hcell t))
      have HR := Lib.hid (checkI_any xs inputs H1.out (by rw [HL.out]; exact h2))
      generalize badB inputs xs = b at HI HR
      clear hx
      cases b
      all_goals
        go_enter Tryd.func41, Tryd.ntmps41
        go_wp2_with (first | (go_at_call 66; refine (wordpermitted_any _ _).mono ?_; rintro e w' ⟨rfl, rfl⟩) | (go_at_call 67; refine (HI.out _).mono ?_; rintro e w' ⟨rfl, rfl⟩))
        go_ret
        exact ⟨ret_int (by rw [HR.out]; rfl), (Below.refl _ _).alloc (Nat.le_refl _) _⟩
  · have d1 : decide (1 ≤ inputs ∧ inputs ≤ 1024) = false := decide_eq_false h1
    have H1 := Lib.hid h1
    clear h1
    go_enter Tryd.func41, Tryd.ntmps41
    go_wp2_with (go_at_call 66; refine (wordpermitted_any _ _).mono ?_; rintro e w' ⟨rfl, rfl⟩)
    go_ret
    refine ⟨ret_int ?_, (Below.refl _ _).alloc (Nat.le_refl _) _⟩
    unfold checkI
    rw [if_neg H1.out]

end Go.Proofs.YtmlghnfbjkcelaaDoor
