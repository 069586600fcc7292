/-
  Walks of the reference's functions on words: Common, Same, HasPrefix, Lex, Compare.
-/
import Derived.Test.YtmlghnfbjkcelaaDoorProg
import Derived.Test.YtmlghnfbjkcelaaDoorBase
namespace Go.Proofs.YtmlghnfbjkcelaaDoor
open Go.RowKit

set_option maxHeartbeats 400000 in
theorem R01Common_any {A B : Option Addr} {n c m c' : Nat} {xs ys : List Int} {w : World} (hx : RowOf w IsInt A n c xs) (hy : RowOf w IsInt B m c' ys) :
    Calls Tryd.prog 49 #[.slice A n c, .slice B m c'] w fun e w' => e = .returned (.int .i64 (common xs ys : Nat)) ∧ ∃ q, w' = w.drewN q := by
  have hn := hx.small
  have hm := hy.small
  have H0 := Lib.hid (common_same xs ys)
  have HL := Lib.hid (And.intro hx.len hy.len)
  go_enter Tryd.func49, Tryd.ntmps49
  go_wp2
  go_loopw [5] (fun i wr => ∃ k : Nat, k ≤ n ∧ k ≤ m ∧ i = .int .i64 k ∧ (∃ q, wr = w.drewN q) ∧ Hid (common xs ys = common (xs.drop k) (ys.drop k) + k)) (fun i _ => n - (intOf i).toNat)
  case atStart => exact ⟨0, by omega, by omega, rfl, ⟨0, rfl⟩, H0⟩
  case round =>
    obtain ⟨k, hk, hk', rfl, ⟨q, rfl⟩, HC⟩ := hrel
    by_cases h1 : k < n
    · have d1 : decide ((k : Int) < n) = true := by simp; omega
      by_cases h2 : k < m
      · obtain ⟨b, o, x, rfl, hx1, hx2⟩ := hx.int_at h1
        obtain ⟨b', o', y, rfl, hy1, hy2⟩ := hy.int_at h2
        have d2 : decide ((k : Int) < m) = true := by simp; omega
        have HX := Lib.hid hx1
        have HY := Lib.hid hy1
        clear hx1 hy1
        go_wp2
        go_quiet (fail)
        go_wp2
        · go_roundw
          case rel =>
            have hxy : x = y := by simpa using ‹(x == y) = true›
            have := common_step (xs := xs) (ys := ys) (k := k) (by rw [HL.out.1]; exact h1) (by rw [HL.out.2]; exact h2) (by rw [getD_of_some HX.out, getD_of_some HY.out, hxy])
            exact ⟨k + 1, by omega, by omega, by go_num, ⟨_, rfl⟩, Lib.hid (by rw [HC.out, this]; omega)⟩
          case measure => simp [intOf]; omega
        · go_ret
          have hxy : x ≠ y := by simpa using ‹(x == y) = false›
          have := common_stop (xs := xs) (ys := ys) (k := k) (by rw [HL.out.1]; exact h1) (by rw [HL.out.2]; exact h2) (by rw [getD_of_some HX.out, getD_of_some HY.out]; exact hxy)
          exact ⟨by rw [HC.out, this, Nat.zero_add]; rfl, drewN_two _ _ _⟩
      · have d2 : decide ((k : Int) < m) = false := by simp; omega
        go_wp2
        go_quiet (fail)
        go_wp2
        go_ret
        have := common_end (xs := xs) (ys := ys) (k := k) (.inr (by rw [HL.out.2]; omega))
        exact ⟨by rw [HC.out, this, Nat.zero_add]; rfl, drewN_two _ _ _⟩
    · have d1 : decide ((k : Int) < n) = false := by simp; omega
      go_wp2
      go_quiet (fail)
      go_wp2
      go_ret
      have := common_end (xs := xs) (ys := ys) (k := k) (.inl (by rw [HL.out.1]; omega))
      exact ⟨by rw [HC.out, this, Nat.zero_add]; rfl, drewN_two _ _ _⟩

set_option maxHeartbeats 400000 in
theorem R01Same_any {A B : Option Addr} {n c m c' : Nat} {xs ys : List Int} {w : World} (hx : RowOf w IsInt A n c xs) (hy : RowOf w IsInt B m c' ys) :
    Calls Tryd.prog 21 #[.slice A n c, .slice B m c'] w fun e w' => e = .returned (.bool (decide (xs = ys))) ∧ ∃ q, w' = w.drewN q := by
  have HS := Lib.hid (same_iff xs ys)
  have HL := Lib.hid (And.intro hx.len hy.len)
  have HC := Lib.hid (common_le xs ys)
  by_cases h : n = m
  · subst h
    go_enter Tryd.func21, Tryd.ntmps21
    go_wp2_with (go_at_call 49; refine (R01Common_any hx hy).mono ?_; rintro e w' ⟨rfl, q, rfl⟩)
    go_ret
    refine ⟨ret_bool ?_, q, rfl⟩
    have h1 := HS.out
    obtain ⟨h2, h3⟩ := HL.out
    rw [Bool.eq_iff_iff, decide_eq_true_iff, ← h1, beq_iff_eq]
    omega
  · have d : ((n : Int) == m) = false := by simp; omega
    go_enter Tryd.func21, Tryd.ntmps21
    go_wp2
    go_ret
    refine ⟨?_, 0, rfl⟩
    have hne : xs ≠ ys := fun e => h (by rw [← HL.out.1, ← HL.out.2, e])
    rw [decide_eq_false hne]
    rfl

set_option maxHeartbeats 400000 in
theorem R01HasPrefix_any {A B : Option Addr} {n c m c' : Nat} {xs ys : List Int} {w : World} (hx : RowOf w IsInt A n c xs) (hy : RowOf w IsInt B m c' ys) :
    Calls Tryd.prog 56 #[.slice A n c, .slice B m c'] w fun e w' => e = .returned (.bool (decide (ys <+: xs))) ∧ ∃ q, w' = w.drewN q := by
  have HS := Lib.hid (prefix_iff xs ys)
  have HL := Lib.hid (And.intro hx.len hy.len)
  go_enter Tryd.func56, Tryd.ntmps56
  go_wp2_with (go_at_call 49; refine (R01Common_any hx hy).mono ?_; rintro e w' ⟨rfl, q, rfl⟩)
  go_ret
  refine ⟨ret_bool ?_, q, rfl⟩
  obtain ⟨h2, h3⟩ := HL.out
  rw [Bool.eq_iff_iff, decide_eq_true_iff, ← HS.out, beq_iff_eq]
  omega

set_option maxHeartbeats 400000 in
theorem R01Lex_any {A B : Option Addr} {n c m c' : Nat} {xs ys : List Int} {w : World} (hx : RowOf w IsInt A n c xs) (hy : RowOf w IsInt B m c' ys) :
    Calls Tryd.prog 71 #[.slice A n c, .slice B m c'] w fun e w' => e = .returned (.int .i64 (lexI xs ys)) ∧ ∃ q, w' = w.drewN q := by
  have HS := Lib.hid (lexI_common xs ys)
  have hle := common_le xs ys
  rw [hx.len, hy.len] at hle
  have HL := Lib.hid (And.intro hx.len hy.len)
  rw [hx.len, hy.len] at HS
  generalize hk : common xs ys = k at hle HS
  have HK := Lib.hid hk
  clear hk
  obtain ⟨hk1, hk2⟩ := hle
  have hC : ∀ w', Keeps w w' → Calls Tryd.prog 49 #[.slice A n c, .slice B m c'] w' fun e w'' => e = .returned (.int .i64 (k : Nat)) ∧ ∃ q, w'' = w'.drewN q := fun w' hw' => by
    rw [← HK.out]
    exact R01Common_any (hx.kept hw') (hy.kept hw')
  have HH := Lib.hid hC
  clear hC
  by_cases h1 : k = n
  · have HN := Lib.hid h1
    have d1 : ((k : Int) == n) = true := by simp; omega
    clear h1
    by_cases h2 : k = m
    · have d2 : ((k : Int) == m) = true := by simp; omega
      have HM := Lib.hid h2
      clear h2
      go_enter Tryd.func71, Tryd.ntmps71
      go_wp2_with (go_at_call 49; refine (HH.out _ (Keeps.refl _)).mono ?_; rintro e w' ⟨rfl, q, rfl⟩)
      go_ret
      refine ⟨ret_int ?_, q, rfl⟩
      rw [HS.out, if_pos ⟨HN.out, HM.out⟩]
    · have d2 : ((k : Int) == m) = false := by simp; omega
      go_enter Tryd.func71, Tryd.ntmps71
      go_wp2_with (go_at_call 49; refine (HH.out _ (Keeps.refl _)).mono ?_; rintro e w' ⟨rfl, q, rfl⟩)
      go_ret
      refine ⟨ret_int ?_, q, rfl⟩
      rw [HS.out, if_neg (fun h => h2 h.2), if_pos (Or.inl HN.out)]
  · have d1 : ((k : Int) == n) = false := by simp; omega
    by_cases h2 : k < m
    · obtain ⟨b, o, x, rfl, hx1, hx2⟩ := hx.int_at (k := k) (by omega)
      obtain ⟨b', o', y, rfl, hy1, hy2⟩ := hy.int_at h2
      have HX := Lib.hid hx1
      have HY := Lib.hid hy1
      clear hx1 hy1
      have d2 : decide ((k : Int) < m) = true := by simp; omega
      by_cases h3 : x < y
      · have d3 : decide (x < y) = true := by simpa using h3
        go_enter Tryd.func71, Tryd.ntmps71
        go_wp2_with (go_at_call 49; refine (HH.out _ (Keeps.refl _)).mono ?_; rintro e w' ⟨rfl, q, rfl⟩)
        go_quiet (fail)
        go_wp2
        go_ret
        refine ⟨ret_int ?_, drewN_two _ _ _⟩
        rw [HS.out, if_neg (fun h => h1 h.1), if_pos (Or.inr ⟨h2, by rw [getD_of_some HX.out, getD_of_some HY.out]; exact h3⟩)]
      · have d3 : decide (x < y) = false := by simpa using h3
        go_enter Tryd.func71, Tryd.ntmps71
        go_wp2_with (go_at_call 49; refine (HH.out _ (Keeps.refl _)).mono ?_; rintro e w' ⟨rfl, q, rfl⟩)
        go_quiet (fail)
        go_wp2
        go_ret
        refine ⟨ret_int ?_, drewN_two _ _ _⟩
        rw [HS.out, if_neg (fun h => h1 h.1), if_neg]
        rintro (h | ⟨_, h⟩)
        · exact h1 h
        · rw [getD_of_some HX.out, getD_of_some HY.out] at h
          omega
    · have d2 : decide ((k : Int) < m) = false := by simp; omega
      go_enter Tryd.func71, Tryd.ntmps71
      go_wp2_with (go_at_call 49; refine (HH.out _ (Keeps.refl _)).mono ?_; rintro e w' ⟨rfl, q, rfl⟩)
      go_quiet (fail)
      go_wp2
      go_ret
      refine ⟨ret_int ?_, drewN_two _ _ _⟩
      rw [HS.out, if_neg (fun h => h1 h.1), if_neg]
      rintro (h | ⟨h, _⟩)
      · exact h1 h
      · exact h2 h

set_option maxHeartbeats 400000 in
theorem R01Compare_any {A B : Option Addr} {n c m c' : Nat} {xs ys : List Int} {w : World} (hx : RowOf w IsInt A n c xs) (hy : RowOf w IsInt B m c' ys) :
    Calls Tryd.prog 45 #[.slice A n c, .slice B m c'] w fun e w' => e = .returned (.int .i64 (cmpW xs ys)) ∧ ∃ q, w' = w.drewN q := by
  have HL := Lib.hid (And.intro hx.len hy.len)
  by_cases h1 : n < m
  · go_enter Tryd.func45, Tryd.ntmps45
    go_wp2
    go_ret
    refine ⟨ret_int ?_, 0, rfl⟩
    obtain ⟨h2, h3⟩ := HL.out
    unfold cmpW
    rw [if_pos (by omega)]
  · by_cases h2 : m < n
    · go_enter Tryd.func45, Tryd.ntmps45
      go_wp2
      go_ret
      refine ⟨ret_int ?_, 0, rfl⟩
      obtain ⟨h3, h4⟩ := HL.out
      unfold cmpW
      rw [if_neg (by omega), if_pos (by omega)]
    · go_enter Tryd.func45, Tryd.ntmps45
      go_wp2_with (go_at_call 71; refine (R01Lex_any hx hy).mono ?_; rintro e w' ⟨rfl, q, rfl⟩)
      go_ret
      refine ⟨ret_int ?_, q, rfl⟩
      obtain ⟨h3, h4⟩ := HL.out
      unfold cmpW
      rw [if_neg (by omega), if_neg (by omega)]

set_option maxHeartbeats 400000 in
theorem R01SameWords_any {A B : Option Addr} {n c m c' : Nat} {l l' : List (List Int)} {w : World} (hx : RowOf w (IsI w) A n c l) (hy : RowOf w (IsI w) B m c' l') :
    Calls Tryd.prog 11 #[.slice A n c, .slice B m c'] w fun e w' => e = .returned (.bool (decide (l = l'))) ∧ ∃ q, w' = w.drewN q := by
  have hn := hx.small
  have HL := Lib.hid (And.intro hx.len hy.len)
  by_cases h : n = m
  · subst h
    go_enter Tryd.func11, Tryd.ntmps11
    go_wp2
    go_loopw [5] (fun i wr => ∃ k : Nat, k ≤ n ∧ i = .int .i64 k ∧ Qt w wr ∧ Hid (l.take k = l'.take k)) (fun i _ => n - (intOf i).toNat)
    case atStart => exact ⟨0, by omega, rfl, Qt.refl _, Lib.hid (by simp)⟩
    case round =>
      obtain ⟨k, hk, rfl, HQ, HT⟩ := hrel
      by_cases h1 : k < n
      · have hx' := hx.words HQ.keeps
        have hy' := hy.words HQ.keeps
        obtain ⟨b, o, A1, n1, c1, x, rfl, hx1, hx2, hx3⟩ := hx'.word_at h1
        obtain ⟨b', o', B1, m1, d1, y, rfl, hy1, hy2, hy3⟩ := hy'.word_at h1
        have HX := Lib.hid hx1
        have HY := Lib.hid hy1
        clear hx1 hy1
        by_cases hxy : x = y
        · subst hxy
          go_wp2
          go_quiet ((go_at_call 21; exact Calls.quiet_of (R01Same_any (hx3.kept (Keeps.drewN _ _)) (hy3.kept (Keeps.drewN _ _)))))
          go_wp2
          go_roundw
          case rel => exact ⟨k + 1, by omega, by go_num, HQ.drewN _, Lib.hid (take_same_step HT.out HX.out HY.out)⟩
          case measure => simp [intOf]; omega
        · have hd : decide (x = y) = false := decide_eq_false hxy
          go_wp2
          go_quiet ((go_at_call 21; exact Calls.quiet_of (R01Same_any (hx3.kept (Keeps.drewN _ _)) (hy3.kept (Keeps.drewN _ _)))))
          go_wp2
          go_ret
          refine ⟨ret_bool ?_, HQ.drewN _⟩
          symm
          apply decide_eq_false
          rintro rfl
          have := HX.out.symm.trans HY.out
          injection this with this
          exact hxy this
      · go_wp2
        go_ret
        refine ⟨ret_bool ?_, HQ⟩
        obtain ⟨h3, h4⟩ := HL.out
        have ht := HT.out
        rw [List.take_of_length_le (by omega), List.take_of_length_le (by omega)] at ht
        exact (decide_eq_true ht).symm
  · have d : ((n : Int) != m) = true := by simp; omega
    go_enter Tryd.func11, Tryd.ntmps11
    go_wp2
    go_ret
    refine ⟨ret_bool ?_, 0, rfl⟩
    symm
    apply decide_eq_false
    rintro rfl
    exact h (by rw [← HL.out.1, ← HL.out.2])

end Go.Proofs.YtmlghnfbjkcelaaDoor
