/-
  Walks of the program's and the library's functions that only read: cmp.Compare, slices.Compare, word.Lex, word.Common, word.HasPrefix, slices.Equal, wordset.longest; ascending.
-/
import Derived.Test.YtmlghnfbjkcelaaDoorW2
namespace Go.Proofs.YtmlghnfbjkcelaaDoor
open Go.RowKit

def cmpI (x y : Int) : Int := if x < y then -1 else if y < x then 1 else 0

theorem cmpCompare_any (x y : Int) (w : World) :
    Calls Tryd.prog 63 #[.int .i64 x, .int .i64 y] w fun e w' => e = .returned (.int .i64 (cmpI x y)) ∧ w = w' := by
  by_cases h1 : x < y
  · go_enter Tryd.func63, Tryd.ntmps63
    go_wp2
    go_ret
    exact ⟨ret_int (by unfold cmpI; rw [if_pos h1]), rfl⟩
  · by_cases h2 : y < x
    · go_enter Tryd.func63, Tryd.ntmps63
      go_wp2
      go_ret
      exact ⟨ret_int (by unfold cmpI; rw [if_neg (by omega), if_pos h2]), rfl⟩
    · go_enter Tryd.func63, Tryd.ntmps63
      go_wp2
      go_ret
      exact ⟨ret_int (by unfold cmpI; rw [if_neg (by omega), if_neg (by omega)]), rfl⟩

theorem lexI_step {xs ys : List Int} {k : Nat} {x y : Int} (hx : xs[k]? = some x) (hy : ys[k]? = some y) :
    lexI (xs.drop k) (ys.drop k) = if cmpI x y = 0 then lexI (xs.drop (k + 1)) (ys.drop (k + 1)) else cmpI x y := by
  obtain ⟨h1, h1'⟩ := List.getElem?_eq_some_iff.1 hx
  obtain ⟨h2, h2'⟩ := List.getElem?_eq_some_iff.1 hy
  rw [List.drop_eq_getElem_cons h1, List.drop_eq_getElem_cons h2, h1', h2']
  simp only [lexI, cmpI]
  by_cases a : x < y
  · simp [a]
  · by_cases b : y < x
    · simp [a, b]
    · simp [a, b]

theorem lexI_long {xs ys : List Int} {k : Nat} (h1 : k < xs.length) (h2 : ys.length ≤ k) : lexI (xs.drop k) (ys.drop k) = 1 := by
  rw [List.drop_eq_getElem_cons h1, List.drop_eq_nil_of_le h2]; rfl

theorem lexI_end {xs ys : List Int} {k : Nat} (h1 : xs.length ≤ k) : lexI (xs.drop k) (ys.drop k) = if k < ys.length then -1 else 0 := by
  rw [List.drop_eq_nil_of_le h1]
  by_cases h2 : k < ys.length
  · rw [if_pos h2, List.drop_eq_getElem_cons h2]; rfl
  · rw [if_neg h2, List.drop_eq_nil_of_le (by omega)]; rfl

set_option maxHeartbeats 800000 in
theorem slicesCompare_any {A B : Option Addr} {n c m c' : Nat} {xs ys : List Int} {w : World} (hx : RowOf w IsInt A n c xs) (hy : RowOf w IsInt B m c' ys) :
    Calls Tryd.prog 64 #[.slice A n c, .slice B m c'] w fun e w' => e = .returned (.int .i64 (lexI xs ys)) ∧ w = w' := by
  have hn := hx.small
  have hm := hy.small
  have HL := Lib.hid (And.intro hx.len hy.len)
  go_enter Tryd.func64, Tryd.ntmps64
  go_wp2
  go_loop [5, 6, 7, 8, 11] (fun _ _ _ _ i => ∃ k : Nat, k ≤ n ∧ k ≤ m ∧ i = .int .i64 k ∧ Hid (lexI xs ys = lexI (xs.drop k) (ys.drop k))) (fun _ _ _ _ i => n - (intOf i).toNat)
  case atStart => exact ⟨0, by omega, by omega, rfl, Lib.hid (by simp)⟩
  case round =>
    obtain ⟨k, hk, hk', rfl, HT⟩ := hrel
    by_cases h1 : k < n
    · obtain ⟨b, o, x, rfl, hx1, hx2⟩ := hx.int_at h1
      have HX := Lib.hid hx1
      clear hx1
      by_cases h2 : k < m
      · obtain ⟨b', o', y, rfl, hy1, hy2⟩ := hy.int_at h2
        have HY := Lib.hid hy1
        clear hy1
        have hst := lexI_step HX.out HY.out
        by_cases h3 : cmpI x y = 0
        · rw [if_pos h3] at hst
          have HST := Lib.hid hst
          have d3 : (cmpI x y != 0) = false := by simp [h3]
          have H3 := Lib.hid h3
          clear h3 hst
          go_wp2_with (go_at_call 63; refine (cmpCompare_any _ _ _).mono ?_; rintro e w' ⟨rfl, rfl⟩)
          go_round
          case rel => exact ⟨k + 1, by omega, by omega, by go_num, Lib.hid (by rw [HT.out, HST.out])⟩
          case measure => simp [intOf]; omega
        · rw [if_neg h3] at hst
          have HST := Lib.hid hst
          have d3 : (cmpI x y != 0) = true := by simp [h3]
          clear h3 hst
          go_wp2_with (go_at_call 63; refine (cmpCompare_any _ _ _).mono ?_; rintro e w' ⟨rfl, rfl⟩)
          go_ret
          exact ⟨ret_int (by rw [HT.out, HST.out]), rfl⟩
      · go_wp2
        go_ret
        obtain ⟨h3, h4⟩ := HL.out
        exact ⟨ret_int (by rw [HT.out, lexI_long (by omega) (by omega)]), rfl⟩
    · obtain ⟨h3, h4⟩ := HL.out
      have HE := Lib.hid (lexI_end (xs := xs) (ys := ys) (k := k) (by omega))
      clear h3 h4
      by_cases h2 : n < m
      · go_wp2
        go_ret
        obtain ⟨h3, h4⟩ := HL.out
        exact ⟨ret_int (by rw [HT.out, HE.out, if_pos (by omega)]), rfl⟩
      · go_wp2
        go_ret
        obtain ⟨h3, h4⟩ := HL.out
        exact ⟨ret_int (by rw [HT.out, HE.out, if_neg (by omega)]), rfl⟩

theorem wordLex_any {A B : Option Addr} {n c m c' : Nat} {xs ys : List Int} {w : World} (hx : RowOf w IsInt A n c xs) (hy : RowOf w IsInt B m c' ys) :
    Calls Tryd.prog 54 #[.slice A n c, .slice B m c'] w fun e w' => e = .returned (.int .i64 (lexI xs ys)) ∧ w = w' := by
  go_enter Tryd.func54, Tryd.ntmps54
  go_wp2_with (go_at_call 64; refine (slicesCompare_any hx hy).mono ?_; rintro e w' ⟨rfl, rfl⟩)
  go_ret
  exact ⟨rfl, rfl⟩

set_option maxHeartbeats 400000 in
theorem wordCommon_any {A B : Option Addr} {n c m c' : Nat} {xs ys : List Int} {w : World} (hx : RowOf w IsInt A n c xs) (hy : RowOf w IsInt B m c' ys) :
    Calls Tryd.prog 76 #[.slice A n c, .slice B m c'] w fun e w' => e = .returned (.int .i64 (common xs ys : Nat)) ∧ ∃ q, w' = w.drewN q := by
  have hn := hx.small
  have hm := hy.small
  have H0 := Lib.hid (common_same xs ys)
  have HL := Lib.hid (And.intro hx.len hy.len)
  by_cases hnm : n ≤ m
  · go_enter Tryd.func76, Tryd.ntmps76
    go_wp2
    go_loopw [5, 11] (fun _ i wr => ∃ k : Nat, k ≤ n ∧ i = .int .i64 k ∧ Qt w wr ∧ Hid (common xs ys = common (xs.drop k) (ys.drop k) + k)) (fun _ i _ => n - (intOf i).toNat)
    case atStart => exact ⟨0, by omega, rfl, Qt.refl _, H0⟩
    case round =>
      obtain ⟨k, hk, rfl, HQ, HC⟩ := hrel
      by_cases h1 : k < n
      · have hx' := hx.kept HQ.keeps
        have hy' := hy.kept HQ.keeps
        obtain ⟨b, o, x, rfl, hx1, hx2⟩ := hx'.int_at (k := k) (by omega)
        obtain ⟨b', o', y, rfl, hy1, hy2⟩ := hy'.int_at (k := k) (by omega)
        have hkn : k < n := by omega
        have hkm : k < m := by omega
        have HX := Lib.hid hx1
        have HY := Lib.hid hy1
        clear hx1 hy1
        by_cases hxy : x = y
        · have d : (x != y) = false := by simp [hxy]
          have HXY := Lib.hid hxy
          clear hxy
          go_wp2
          go_quiet (fail)
          go_wp2
          go_roundw
          case rel =>
            have := common_step (xs := xs) (ys := ys) (k := k) (by rw [HL.out.1]; exact hkn) (by rw [HL.out.2]; exact hkm) (by rw [getD_of_some HX.out, getD_of_some HY.out, HXY.out])
            exact ⟨k + 1, by omega, by go_num, HQ.drewN _, Lib.hid (by rw [HC.out, this]; omega)⟩
          case measure => simp [intOf]; omega
        · have d : (x != y) = true := by simp [hxy]
          go_wp2
          go_quiet (fail)
          go_wp2
          go_ret
          have := common_stop (xs := xs) (ys := ys) (k := k) (by rw [HL.out.1]; exact hkn) (by rw [HL.out.2]; exact hkm) (by rw [getD_of_some HX.out, getD_of_some HY.out]; exact hxy)
          exact ⟨by rw [HC.out, this, Nat.zero_add]; rfl, HQ.drewN _⟩
      · have HK := Lib.hid (show k = n by omega)
        go_wp2
        go_ret
        have := common_end (xs := xs) (ys := ys) (k := k) (by rw [HL.out.1, HL.out.2, HK.out]; omega)
        exact ⟨by rw [HC.out, this, Nat.zero_add, HK.out]; rfl, HQ⟩
  · go_enter Tryd.func76, Tryd.ntmps76
    go_wp2
    go_loopw [5, 11] (fun _ i wr => ∃ k : Nat, k ≤ m ∧ i = .int .i64 k ∧ Qt w wr ∧ Hid (common xs ys = common (xs.drop k) (ys.drop k) + k)) (fun _ i _ => m - (intOf i).toNat)
    case atStart => exact ⟨0, by omega, rfl, Qt.refl _, H0⟩
    case round =>
      obtain ⟨k, hk, rfl, HQ, HC⟩ := hrel
      by_cases h1 : k < m
      · have hx' := hx.kept HQ.keeps
        have hy' := hy.kept HQ.keeps
        obtain ⟨b, o, x, rfl, hx1, hx2⟩ := hx'.int_at (k := k) (by omega)
        obtain ⟨b', o', y, rfl, hy1, hy2⟩ := hy'.int_at (k := k) (by omega)
        have hkn : k < n := by omega
        have hkm : k < m := by omega
        have HX := Lib.hid hx1
        have HY := Lib.hid hy1
        clear hx1 hy1
        by_cases hxy : x = y
        · have d : (x != y) = false := by simp [hxy]
          have HXY := Lib.hid hxy
          clear hxy
          go_wp2
          go_quiet (fail)
          go_wp2
          go_roundw
          case rel =>
            have := common_step (xs := xs) (ys := ys) (k := k) (by rw [HL.out.1]; exact hkn) (by rw [HL.out.2]; exact hkm) (by rw [getD_of_some HX.out, getD_of_some HY.out, HXY.out])
            exact ⟨k + 1, by omega, by go_num, HQ.drewN _, Lib.hid (by rw [HC.out, this]; omega)⟩
          case measure => simp [intOf]; omega
        · have d : (x != y) = true := by simp [hxy]
          go_wp2
          go_quiet (fail)
          go_wp2
          go_ret
          have := common_stop (xs := xs) (ys := ys) (k := k) (by rw [HL.out.1]; exact hkn) (by rw [HL.out.2]; exact hkm) (by rw [getD_of_some HX.out, getD_of_some HY.out]; exact hxy)
          exact ⟨by rw [HC.out, this, Nat.zero_add]; rfl, HQ.drewN _⟩
      · have HK := Lib.hid (show k = m by omega)
        go_wp2
        go_ret
        have := common_end (xs := xs) (ys := ys) (k := k) (by rw [HL.out.1, HL.out.2, HK.out]; omega)
        exact ⟨by rw [HC.out, this, Nat.zero_add, HK.out]; rfl, HQ⟩

set_option maxHeartbeats 400000 in
theorem wordHasPrefix_any {A B : Option Addr} {n c m c' : Nat} {xs ys : List Int} {w : World} (hx : RowOf w IsInt A n c xs) (hy : RowOf w IsInt B m c' ys) :
    Calls Tryd.prog 55 #[.slice A n c, .slice B m c'] w fun e w' => e = .returned (.bool (decide (ys <+: xs))) ∧ ∃ q, w' = w.drewN q := by
  have HS := Lib.hid (prefix_iff xs ys)
  have HL := Lib.hid (And.intro hx.len hy.len)
  go_enter Tryd.func55, Tryd.ntmps55
  go_wp2_with (go_at_call 76; refine (wordCommon_any hx hy).mono ?_; rintro e w' ⟨rfl, q, rfl⟩)
  go_ret
  refine ⟨ret_bool ?_, q, rfl⟩
  obtain ⟨h2, h3⟩ := HL.out
  rw [Bool.eq_iff_iff, decide_eq_true_iff, ← HS.out, beq_iff_eq]
  omega

set_option maxHeartbeats 400000 in
theorem slicesEqual_any {A B : Option Addr} {n c m c' : Nat} {xs ys : List Int} {w : World} (hx : RowOf w IsInt A n c xs) (hy : RowOf w IsInt B m c' ys) :
    Calls Tryd.prog 48 #[.slice A n c, .slice B m c'] w fun e w' => e = .returned (.bool (decide (xs = ys))) ∧ ∃ q, w' = w.drewN q := by
  have hn := hx.small
  have HL := Lib.hid (And.intro hx.len hy.len)
  by_cases h : n = m
  · subst h
    go_enter Tryd.func48, Tryd.ntmps48
    go_wp2
    go_loopw [5, 13] (fun _ i wr => ∃ k : Nat, k ≤ n ∧ i = .int .i64 k ∧ Qt w wr ∧ Hid (xs.take k = ys.take k)) (fun _ i _ => n - (intOf i).toNat)
    case atStart => exact ⟨0, by omega, rfl, Qt.refl _, Lib.hid (by simp)⟩
    case round =>
      obtain ⟨k, hk, rfl, HQ, HT⟩ := hrel
      by_cases h1 : k < n
      · have hx' := hx.kept HQ.keeps
        have hy' := hy.kept HQ.keeps
        obtain ⟨b, o, x, rfl, hx1, hx2⟩ := hx'.int_at h1
        obtain ⟨b', o', y, rfl, hy1, hy2⟩ := hy'.int_at h1
        have HX := Lib.hid hx1
        have HY := Lib.hid hy1
        clear hx1 hy1
        by_cases hxy : x = y
        · have d : (x != y) = false := by simp [hxy]
          subst hxy
          go_wp2
          go_quiet (fail)
          go_wp2
          go_roundw
          case rel => exact ⟨k + 1, by omega, by go_num, HQ.drewN _, Lib.hid (take_same_step HT.out HX.out HY.out)⟩
          case measure => simp [intOf]; omega
        · have d : (x != y) = true := by simp [hxy]
          go_wp2
          go_quiet (fail)
          go_wp2
          go_ret
          refine ⟨ret_bool ?_, HQ.drewN _⟩
          symm
          apply decide_eq_false
          rintro rfl
          have := HX.out.symm.trans HY.out
          injection this with this
          exact hxy this
      · go_wp2
        go_ret
        refine ⟨ret_bool ?_, HQ⟩
        obtain ⟨h3, h4⟩ := HL.out
        have ht := HT.out
        rw [List.take_of_length_le (by omega), List.take_of_length_le (by omega)] at ht
        exact (decide_eq_true ht).symm
  · have d : ((n : Int) != m) = true := by simp; omega
    go_enter Tryd.func48, Tryd.ntmps48
    go_wp2
    go_ret
    refine ⟨ret_bool ?_, 0, rfl⟩
    symm
    apply decide_eq_false
    rintro rfl
    exact h (by rw [← HL.out.1, ← HL.out.2])

set_option maxHeartbeats 400000 in
theorem wordsetlongest_any {A : Option Addr} {n c : Nat} {l : List (List Int)} {w : World} (hx : RowOf w (IsI w) A n c l) :
    Calls Tryd.prog 34 #[.slice A n c] w fun e w' => e = .returned (.int .i64 (longestL l : Nat)) ∧ w = w' := by
  have hn := hx.small
  have HL := Lib.hid hx.len
  go_enter Tryd.func34, Tryd.ntmps34
  go_wp2
  go_loop [3, 5, 8] (fun v _ i => ∃ k m : Nat, k ≤ n ∧ i = .int .i64 k ∧ v = .int .i64 m ∧ Hid (m = longestL (l.take k))) (fun _ _ i => n - (intOf i).toNat)
  case atStart => exact ⟨0, 0, by omega, rfl, rfl, Lib.hid (by simp [longestL])⟩
  case round =>
    obtain ⟨k, m, hk, rfl, rfl, HT⟩ := hrel
    by_cases h1 : k < n
    · obtain ⟨b, o, A1, n1, c1, x, rfl, hx1, hx2, hx3⟩ := hx.word_at h1
      have HX := Lib.hid hx1
      clear hx1
      have HN := Lib.hid hx3.len
      go_wp2
      go_round
      case rel => exact ⟨k + 1, max m n1, by omega, by go_num, by first | rfl | (simp; omega), Lib.hid (by rw [take_step HX.out, longestL_snoc, HT.out, HN.out])⟩
      case measure => simp [intOf]; omega
    · go_wp2
      go_ret
      have ht := HT.out
      rw [List.take_of_length_le (by rw [HL.out]; omega)] at ht
      exact ⟨by rw [← ht]; rfl, rfl⟩

set_option maxHeartbeats 400000 in
theorem ascending_any {A : Option Addr} {n c : Nat} {l : List (List Int)} {w : World} (hx : RowOf w (IsI w) A n c l) :
    Calls Tryd.prog 18 #[.slice A n c] w fun e w' => e = .returned (.bool (decide (∀ i, i < n → 0 < i → cmpW (l.getD (i - 1) []) (l.getD i []) < 0))) ∧ Qt w w' := by
  have hn := hx.small
  have HL := Lib.hid hx.len
  go_enter Tryd.func18, Tryd.ntmps18
  go_wp2
  go_loopw [3] (fun i wr => ∃ k : Nat, 1 ≤ k ∧ i = .int .i64 k ∧ (k ≤ n ∨ k = 1) ∧ Qt w wr ∧ Hid (∀ i, i < k → 0 < i → cmpW (l.getD (i - 1) []) (l.getD i []) < 0)) (fun i _ => n + 1 - (intOf i).toNat)
  case atStart => exact ⟨1, by omega, rfl, .inr rfl, Qt.refl _, Lib.hid (fun i h1 h2 => by omega)⟩
  case round =>
    obtain ⟨k, hk1, rfl, hk, HQ, HT⟩ := hrel
    by_cases h1 : k < n
    · have hx' := hx.words HQ.keeps
      obtain ⟨j, rfl⟩ : ∃ j, k = j + 1 := ⟨k - 1, by omega⟩
      obtain ⟨b, o, A1, n1, c1, x, rfl, hx1, hx2, hx3⟩ := hx'.word_at h1
      obtain ⟨u, y, hy1, hy2, A2, n2, c2, rfl, hy3⟩ := hx'.at_some (k := j) (by omega)
      have HX := Lib.hid (getD_of_some (d := []) hx1)
      have HY := Lib.hid (getD_of_some (d := []) hy1)
      clear hx1 hy1
      have e1 : (((j + 1 : Nat) : Int) - 1) = j := by omega
      have hr := cmpW_range y x
      by_cases hc : 0 ≤ cmpW y x
      · go_wp2
        go_quiet ((go_at_call 45; exact Calls.quiet_of (R01Compare_any (hy3.kept (Keeps.drewN _ _)) (hx3.kept (Keeps.drewN _ _)))))
        go_wp2
        go_ret
        refine ⟨ret_bool ?_, HQ.drewN _⟩
        symm
        apply decide_eq_false
        intro h
        have := h (j + 1) (by omega) (by omega)
        rw [Nat.add_sub_cancel, HX.out, HY.out] at this
        omega
      · have HC := Lib.hid (show cmpW y x < 0 by omega)
        go_wp2
        go_quiet ((go_at_call 45; exact Calls.quiet_of (R01Compare_any (hy3.kept (Keeps.drewN _ _)) (hx3.kept (Keeps.drewN _ _)))))
        go_wp2
        go_roundw
        case rel => exact ⟨j + 1 + 1, by omega, by go_num, by omega, HQ.drewN _, Lib.hid (fun i hi h0 => by
            by_cases hij : i = j + 1
            · subst hij
              rw [Nat.add_sub_cancel, HX.out, HY.out]
              exact HC.out
            · exact HT.out i (by omega) h0)⟩
        case measure => simp [intOf]; omega
    · go_wp2
      go_ret
      refine ⟨ret_bool ?_, HQ⟩
      symm
      exact decide_eq_true (fun i hi h0 => HT.out i (by omega) h0)

end Go.Proofs.YtmlghnfbjkcelaaDoor
