/-
  Walk of the reference's Upto.
-/
import Derived.Deep.LoopGhost
import Derived.Test.YtmlghnfbjkcelaaDoorW6
namespace Go.Proofs.YtmlghnfbjkcelaaDoor
open Go.RowKit

/-- The words from cur on, behind out, till one is longer than n; 11: more than 10000. -/
def uptoF (inputs n : Int) : Nat → List Int → List (List Int) → List (List Int) × Int
  | 0, _, _ => ([], 11)
  | f + 1, cur, out =>
    if (cur.length : Int) ≤ n then
      if out.length = 10000 then ([], 11) else
      match nextW cur inputs with
      | some x => uptoF inputs n f x (out ++ [cur])
      | none => (out ++ [cur], 0)
    else (out, 0)

def uptoW (inputs n : Int) : List (List Int) × Int :=
  if (1 ≤ inputs ∧ inputs ≤ 1024) ∧ 0 ≤ n ∧ n ≤ 1024 then uptoF inputs n 10001 [] [] else ([], 2)

def PairW (w : World) (r : List (List Int) × Int) (e : Ending) (w' : World) : Prop :=
  ∃ v', e = .returned (.tuple #[v', .int .i64 r.2]) ∧ OwnW w' w.heap.size v' r.1 ∧ Below w.heap.size w w'

theorem OwnI.off {w : World} {base : Nat} {v : Value} {x : List Int} (h : OwnI w base v x) {row : Option Nat} (hr : ∀ g, row = some g → g < base) : Off v row := fun a n c e _ hh => by
  have h1 := h.lt a.block (by rw [e]; rfl)
  have h2 := hr _ hh
  omega

theorem nextGo_length (xs : List Int) (inputs : Int) : ∀ (i : Nat) (ys : List Int), i ≤ xs.length → nextGo xs inputs i = some ys → ys.length = xs.length
  | 0, _, _, h => by simp [nextGo] at h
  | i + 1, ys, hi, h => by
    rw [nextGo] at h
    split at h
    · injection h with h
      rw [← h]
      simp
      omega
    · exact nextGo_length xs inputs i ys (by omega) h

theorem nextW_length (xs : List Int) (inputs : Int) : ((nextW xs inputs).getD []).length ≤ 1025 := by
  unfold nextW
  split
  · rename_i hck
    have hl : xs.length ≤ 1024 := by
      unfold checkI at hck
      split at hck
      · split at hck
        · omega
        · omega
      · omega
    split
    · rename_i ys h
      rw [Option.getD_some, nextGo_length xs inputs _ ys (Nat.le_refl _) h]
      omega
    · split
      · simp
      · simp; omega
  · simp

set_option maxRecDepth 100000 in
set_option maxHeartbeats 1600000 in
theorem R02Upto_any (inputs n : Int) (w : World) :
    Calls Tryd.prog 17 #[.int .i64 inputs, .int .i64 n] w (PairW w (uptoW inputs n)) := by
  obtain ⟨i0, hi, hz0, hz1, hz2⟩ := info_parts Tryd.infoWord
  by_cases h1 : 1 ≤ inputs ∧ inputs ≤ 1024
  · have d1 : decide (1 ≤ inputs ∧ inputs ≤ 1024) = true := decide_eq_true h1
    have H1 := Lib.hid h1
    clear h1
    by_cases h2 : n < 0
    · have d2 : decide (n < 0) = true := decide_eq_true h2
      go_enter Tryd.func17, Tryd.ntmps17
      go_wp2_with (go_at_call 43; refine (R01Size_any _ _).mono ?_; rintro e w' ⟨rfl, rfl⟩)
      go_ret2
      have hres : uptoW inputs n = ([], 2) := by unfold uptoW; rw [if_neg (by omega)]
      rw [hres]
      exact ⟨_, rfl, OwnW.nil_ _ _, Below.refl _ _⟩
    · have d2 : decide (n < 0) = false := decide_eq_false h2
      by_cases h3 : 1024 < n
      · have d3 : decide (1024 < n) = true := decide_eq_true h3
        go_enter Tryd.func17, Tryd.ntmps17
        go_wp2_with (go_at_call 43; refine (R01Size_any _ _).mono ?_; rintro e w' ⟨rfl, rfl⟩)
        go_ret2
        have hres : uptoW inputs n = ([], 2) := by unfold uptoW; rw [if_neg (by omega)]
        rw [hres]
        exact ⟨_, rfl, OwnW.nil_ _ _, Below.refl _ _⟩
      · have d3 : decide (1024 < n) = false := decide_eq_false h3
        have HR := Lib.hid (show uptoW inputs n = uptoF inputs n 10001 [] [] by unfold uptoW; rw [if_pos ⟨H1.out, by omega, by omega⟩])
        go_enter Tryd.func17, Tryd.ntmps17
        go_wp2_with (go_at_call 43; refine (R01Size_any _ _).mono ?_; rintro e w' ⟨rfl, rfl⟩)
        clear d1 d2 d3
        go_loopg [6, 7, 8] 10001 (fun g s6 s7 s8 wr => ∃ (ok : Bool) (cur : List Int) (out : List (List Int)), s8 = .bool ok ∧ IsI wr s6 cur ∧ OwnW wr w.heap.size s7 out ∧ Off s6 s7.ownBlock ∧ Below w.heap.size w wr ∧ out.length ≤ 10000 ∧
          g ≤ 10001 ∧ Hid (if ok = true then uptoW inputs n = uptoF inputs n g cur out ∧ out.length + g = 10001 else uptoW inputs n = (out, 0)))
        case atStart => exact ⟨true, [], [], rfl, IsI.nil_ _, OwnW.nil_ _ _, (fun a n c e => by cases e), Below.refl _ _, by simp, Nat.le_refl _, Lib.hid ⟨HR.out, rfl⟩⟩
        case round =>
          obtain ⟨ok, cur, out, rfl, hcur, hown, hoff, hbel, hol, hg, HT⟩ := hrel
          cases ok with
          | false =>
            have HO := Lib.hid (And.intro hown hbel)
            clear hcur hown hoff hbel
            go_wp2
            go_ret2
            have hres : uptoW inputs n = (out, 0) := HT.out
            rw [hres]
            exact ⟨_, rfl, HO.out.1, HO.out.2⟩
          | true =>
            obtain ⟨hT1, hT2⟩ := HT.out
            obtain ⟨A6, n6, c6, rfl, hr6⟩ := hcur
            have hn6 := hr6.len
            have hs6 := hr6.small
            cases gk with
            | zero => exfalso; omega
            | succ f =>
              have HS := Lib.hid (show uptoF inputs n (f + 1) cur out = if (n6 : Int) ≤ n then
                  if out.length = 10000 then ([], 11) else match nextW cur inputs with | some x => uptoF inputs n f x (out ++ [cur]) | none => (out ++ [cur], 0) else (out, 0) by rw [← hn6]; rfl)
              have HT1 := Lib.hid hT1
              have HT2 := Lib.hid hT2
              have HN6 := Lib.hid hn6
              clear hT1 hT2 hn6 HT
              by_cases h4 : (n6 : Int) ≤ n
              · have d4 : decide ((n6 : Int) ≤ n) = true := decide_eq_true h4
                obtain ⟨us, hul, hrow, hel⟩ := hown
                have hol' : us.length ≤ 10000 := by omega
                obtain ⟨A7, n7, c7, rfl, hr7⟩ := (show OwnW wr w.heap.size u7 out from ⟨us, hul, hrow, hel⟩).isW (by omega)
                obtain rfl : n7 = us.length := by rw [← hr7.len, hul]
                by_cases h5 : us.length = 10000
                · have d5 : ((us.length : Int) == 10000) = true := by simp; omega
                  have H5 := Lib.hid (show out.length = 10000 by omega)
                  clear h5
                  go_wp2
                  go_ret2
                  have hres : uptoW inputs n = ([], 11) := by rw [HT1.out, HS.out, if_pos h4, if_pos H5.out]
                  rw [hres]
                  exact ⟨_, rfl, OwnW.nil_ _ _, hbel⟩
                · have d5 : ((us.length : Int) == 10000) = false := by simp; omega
                  have H5 := Lib.hid (show out.length ≠ 10000 by omega)
                  have hlt5 : us.length < 10000 := by omega
                  clear h5
                  have hlt7 : ∀ k, (Value.slice A7 us.length c7).ownBlock = some k → w.heap.size ≤ k ∧ k < wr.heap.size := hrow.lt
                  have hrowA : ∀ o, (wr.alloc o).ownsRow w.heap.size 38 1 (.slice A7 us.length c7) us.length us := fun o => hrow.alloc o
                  have hc1 : us.length + 1 ≤ maxLen := by unfold maxLen; omega
                  have hc2 : (us.length + 1) * 24 ≤ 140737488355328 := by omega
                  have hc3 : ∀ o, w.heap.size ≤ (wr.alloc o).heap.size := fun o => by have := hbel.size; simp; omega
                  have hnl := nextW_length cur inputs
                  have HU := Lib.hid hul
                  have HE := Lib.hid hel
                  have HB := Lib.hid hbel
                  have HO6 := Lib.hid hoff
                  clear hul hel hrow hr7 hbel hoff
                  go_wp2_with (first | (at_builtin; refine wpList_append_row rfl (.tmp 36) (.tmp 38) 25 rfl w.heap.size 38 i0 (.slice none 0 0) 24 Tryd.underlying25 hi hz0 hz1 hz2 rfl (.slice A7 us.length c7) _ us rfl (hrowA _) _ 1 1 [.slice A6 n6 c6] rfl (src_one _ _ _) (one_cell _) hc1 hc2 (hc3 _) ?_; intro v1 w1 hown1 hg1 hb1; have hr61 : RowOf w1 IsInt A6 n6 c6 cur := ((hr6.isI.keep (grown_keeps (World.grownBy_alloc wr _ none))).grown hg1 HO6.out).row; have hpush := OwnW.push HU.out HE.out hr6.isI HO6.out (World.grownBy_alloc wr _ none) hown1 hg1 hb1; have hbel1 := (HB.out.alloc HB.out.size _).grown hg1 (hc3 _) (fun g e => (hlt7 g e).1); clear hown1 hg1 hb1) | (go_at_call 44; refine (R01Next_any hr61).mono ?_; rintro e w' ⟨v', rfl, hown', hb'⟩))
                  have hpush' := hpush.kept (grown_none hb')
                  have hbel' := hbel1.trans (hb'.mono hbel1.size)
                  have hoff' := hown'.off (row := v1.ownBlock) fun g e => (hpush.lt g e).2
                  have HF := Lib.hid (And.intro (hown'.isI (by omega)) (And.intro hpush' (And.intro hoff' hbel')))
                  clear hpush hbel1 hown' hb' hpush' hbel' hoff'
                  go_roundg f
                  case measure => omega
                  case rel =>
                    obtain ⟨f1, f2, f3, f4⟩ := HF.out
                    refine ⟨_, _, _, rfl, f1, f2, f3, f4, by rw [List.length_append, List.length_singleton]; have := HU.out; omega, by omega, Lib.hid ?_⟩
                    have h6 := HS.out
                    rw [if_pos h4, if_neg H5.out] at h6
                    rw [HT1.out, h6]
                    cases hnx : nextW cur inputs with
                    | none => simp
                    | some x =>
                      simp
                      have := HT2.out
                      omega
              · have d4 : decide ((n6 : Int) ≤ n) = false := decide_eq_false h4
                have HO := Lib.hid (And.intro hown hbel)
                clear hr6 hown hoff hbel
                go_wp2
                go_ret2
                have hres : uptoW inputs n = (out, 0) := by rw [HT1.out, HS.out, if_neg (by omega)]
                rw [hres]
                exact ⟨_, rfl, HO.out.1, HO.out.2⟩
  · have d1 : decide (1 ≤ inputs ∧ inputs ≤ 1024) = false := decide_eq_false h1
    have H1 := Lib.hid h1
    clear h1
    go_enter Tryd.func17, Tryd.ntmps17
    go_wp2_with (go_at_call 43; refine (R01Size_any _ _).mono ?_; rintro e w' ⟨rfl, rfl⟩)
    go_ret2
    have hres : uptoW inputs n = ([], 2) := by unfold uptoW; rw [if_neg (fun h => H1.out h.1)]
    rw [hres]
    exact ⟨_, rfl, OwnW.nil_ _ _, Below.refl _ _⟩

end Go.Proofs.YtmlghnfbjkcelaaDoor
