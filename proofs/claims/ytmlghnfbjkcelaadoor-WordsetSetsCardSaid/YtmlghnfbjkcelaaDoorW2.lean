/-
  Walks of further functions that only read: the reference's Has, longest, Great, place, Size, Check; ascending.
-/
import Derived.Test.YtmlghnfbjkcelaaDoorW1
namespace Go.Proofs.YtmlghnfbjkcelaaDoor
open Go.RowKit

set_option maxHeartbeats 400000 in
theorem R02Has_any {A B : Option Addr} {n c m c' : Nat} {l : List (List Int)} {ys : List Int} {w : World} (hx : RowOf w (IsI w) A n c l) (hy : RowOf w IsInt B m c' ys) :
    Calls Tryd.prog 26 #[.slice A n c, .slice B m c'] w fun e w' => e = .returned (.bool (decide (ys ∈ l))) ∧ Qt w w' := by
  have hn := hx.small
  have HL := Lib.hid hx.len
  go_enter Tryd.func26, Tryd.ntmps26
  go_wp2
  go_loopw [5] (fun i wr => ∃ k : Nat, k ≤ n ∧ i = .int .i64 k ∧ Qt w wr ∧ Hid (ys ∉ l.take k)) (fun i _ => n - (intOf i).toNat)
  case atStart => exact ⟨0, by omega, rfl, Qt.refl _, Lib.hid (by simp)⟩
  case round =>
    obtain ⟨k, hk, rfl, HQ, HT⟩ := hrel
    by_cases h1 : k < n
    · have hx' := hx.words HQ.keeps
      have hy' := hy.kept HQ.keeps
      obtain ⟨b, o, A1, n1, c1, x, rfl, hx1, hx2, hx3⟩ := hx'.word_at h1
      have HX := Lib.hid hx1
      clear hx1
      by_cases hxy : x = ys
      · have hd : decide (x = ys) = true := decide_eq_true hxy
        have HXY := Lib.hid hxy
        clear hxy
        go_wp2_with (go_at_call 21; refine (R01Same_any hx3 hy').mono ?_; rintro e w' ⟨rfl, q, rfl⟩)
        go_ret
        refine ⟨ret_bool ?_, HQ.drewN _⟩
        symm
        apply decide_eq_true
        rw [← HXY.out]
        exact List.mem_of_getElem? HX.out
      · have hd : decide (x = ys) = false := decide_eq_false hxy
        go_wp2_with (go_at_call 21; refine (R01Same_any hx3 hy').mono ?_; rintro e w' ⟨rfl, q, rfl⟩)
        go_roundw
        case rel => exact ⟨k + 1, by omega, by go_num, HQ.drewN _, Lib.hid (by rw [take_step HX.out, List.mem_append, List.mem_singleton]; rintro (h | h); exact HT.out h; exact hxy h.symm)⟩
        case measure => simp [intOf]; omega
    · go_wp2
      go_ret
      refine ⟨ret_bool ?_, HQ⟩
      have ht := HT.out
      rw [List.take_of_length_le (by rw [HL.out]; omega)] at ht
      exact (decide_eq_false ht).symm

set_option maxHeartbeats 400000 in
theorem R02longest_any {A : Option Addr} {n c : Nat} {l : List (List Int)} {w : World} (hx : RowOf w (IsI w) A n c l) :
    Calls Tryd.prog 39 #[.slice A n c] w fun e w' => e = .returned (.int .i64 (longestL l : Nat)) ∧ w = w' := by
  have hn := hx.small
  have HL := Lib.hid hx.len
  go_enter Tryd.func39, Tryd.ntmps39
  go_wp2
  go_loop [3, 4] (fun v i => ∃ k m : Nat, k ≤ n ∧ i = .int .i64 k ∧ v = .int .i64 m ∧ Hid (m = longestL (l.take k))) (fun _ i => n - (intOf i).toNat)
  case atStart => exact ⟨0, 0, by omega, rfl, rfl, Lib.hid (by simp [longestL])⟩
  case round =>
    obtain ⟨k, m, hk, rfl, rfl, HT⟩ := hrel
    by_cases h1 : k < n
    · obtain ⟨b, o, A1, n1, c1, x, rfl, hx1, hx2, hx3⟩ := hx.word_at h1
      have HX := Lib.hid hx1
      clear hx1
      have HN := Lib.hid hx3.len
      go_wp2
      go_round
      case rel => exact ⟨k + 1, max m n1, by omega, by go_num, by first | rfl | (simp; omega), Lib.hid (by rw [take_step HX.out, longestL_snoc, HT.out, HN.out])⟩
      case measure => simp [intOf]; omega
    · go_wp2
      go_ret
      have ht := HT.out
      rw [List.take_of_length_le (by rw [HL.out]; omega)] at ht
      exact ⟨by rw [← ht]; rfl, rfl⟩

set_option maxHeartbeats 400000 in
theorem R02Great_any {A : Option Addr} {n c : Nat} {l : List (List Int)} {W S : Int} {w : World} (hx : RowOf w (IsI w) A n c l) (hW : 0 ≤ W) :
    Calls Tryd.prog 10 #[.slice A n c, .int .i64 W, .int .i64 S] w fun e w' => e = .returned (.bool (greatL l W S)) ∧ w = w' := by
  have hn := hx.small
  have HL := Lib.hid hx.len
  go_enter Tryd.func10, Tryd.ntmps10
  go_wp2
  go_loop [7] (fun i => ∃ k : Nat, k ≤ n ∧ (k : Int) ≤ W + 1 ∧ i = .int .i64 k ∧ Hid (((l.take k).any fun x => decide (S < x.length)) = false)) (fun i => n - (intOf i).toNat)
  case atStart => exact ⟨0, by omega, by omega, rfl, Lib.hid (by simp)⟩
  case round =>
    obtain ⟨k, hk, hkW, rfl, HT⟩ := hrel
    by_cases h1 : k < n
    · have d1 : decide ((k : Int) < n) = true := by simp; omega
      by_cases h2 : (k : Int) ≤ W
      · have d2 : decide ((k : Int) ≤ W) = true := by simp; omega
        obtain ⟨b, o, A1, n1, c1, x, rfl, hx1, hx2, hx3⟩ := hx.word_at h1
        have HX := Lib.hid hx1
        clear hx1
        have HN := Lib.hid hx3.len
        by_cases h3 : S < n1
        · go_wp2
          go_ret
          refine ⟨ret_bool ?_, rfl⟩
          symm
          unfold greatL
          rw [Bool.or_eq_true]
          right
          rw [List.any_eq_true]
          refine ⟨x, ?_, by rw [HN.out]; simpa using h3⟩
          have : (l.take (W + 1).toNat)[k]? = some x := by rw [List.getElem?_take, if_pos (by omega), HX.out]
          exact List.mem_of_getElem? this
        · go_wp2
          go_round
          case rel => exact ⟨k + 1, by omega, by omega, by go_num, Lib.hid (by rw [take_step HX.out, List.any_append, HT.out]; simp [HN.out]; omega)⟩
          case measure => simp [intOf]; omega
      · have d2 : decide ((k : Int) ≤ W) = false := by simp; omega
        go_wp2
        go_ret
        refine ⟨ret_bool ?_, rfl⟩
        unfold greatL
        rw [HL.out, show (W + 1).toNat = k from by omega, HT.out, Bool.or_false]
    · have d1 : decide ((k : Int) < n) = false := by simp; omega
      go_wp2
      go_ret
      refine ⟨ret_bool ?_, rfl⟩
      have ht := HT.out
      rw [List.take_of_length_le (by rw [HL.out]; omega)] at ht
      have h3 : ((l.take (W + 1).toNat).any fun x => decide (S < x.length)) = false := by
        rw [List.any_eq_false] at ht ⊢
        exact fun x hx => ht x (List.mem_of_mem_take hx)
      unfold greatL
      rw [HL.out, h3, Bool.or_false]

set_option maxHeartbeats 800000 in
theorem R02place_any {A B : Option Addr} {n c m c' : Nat} {l : List (List Int)} {ys : List Int} {w : World} (hs : Asc l) (hx : RowOf w (IsI w) A n c l) (hy : RowOf w IsInt B m c' ys) :
    Calls Tryd.prog 65 #[.slice A n c, .slice B m c'] w fun e w' => e = .returned (.int .i64 (placeL l ys : Nat)) ∧ ∃ q, w' = w.drewN q := by
  have hn := hx.small
  have HL := Lib.hid hx.len
  have HS := Lib.hid hs
  clear hs
  go_enter Tryd.func65, Tryd.ntmps65
  go_wp2
  go_loopw [5, 6, 7] (fun lo hi _ wr => ∃ i j : Nat, i ≤ j ∧ j ≤ n ∧ lo = .int .i64 i ∧ hi = .int .i64 j ∧ Qt w wr ∧ Hid ((∀ t x, t < i → l[t]? = some x → cmpW x ys = -1) ∧ (∀ t x, j ≤ t → l[t]? = some x → cmpW x ys ≠ -1))) (fun lo hi _ _ => (intOf hi - intOf lo).toNat)
  case atStart => exact ⟨0, n, by omega, by omega, rfl, rfl, Qt.refl _, Lib.hid ⟨fun t x h => absurd h (by omega), fun t x h h' => absurd h' (by rw [List.getElem?_eq_none (by rw [HL.out]; omega)]; simp)⟩⟩
  case round =>
    obtain ⟨i, j, hij, hj, rfl, rfl, HQ, HT⟩ := hrel
    by_cases h1 : i < j
    · have hx' := hx.words HQ.keeps
      have hy' := hy.kept HQ.keeps
      have hdiv : ((i : Int) + j) / 2 = ((i + j) / 2 : Nat) := by omega
      generalize hk : (i + j) / 2 = k at hdiv
      have hk1 : i ≤ k := by omega
      have hk2 : k < j := by omega
      have HK := Lib.hid hk
      clear hk
      obtain ⟨b, o, A1, n1, c1, x, rfl, hx1, hx2, hx3⟩ := hx'.word_at (k := k) (by omega)
      have HX := Lib.hid hx1
      clear hx1
      have hr := cmpW_range x ys
      by_cases hc : cmpW x ys < 0
      · have HC := Lib.hid (show cmpW x ys = -1 by omega)
        clear hr
        go_wp2_with (go_at_call 45; refine (R01Compare_any hx3 hy').mono ?_; rintro e w' ⟨rfl, q, rfl⟩)
        go_roundw
        case rel => exact ⟨k + 1, j, by omega, hj, by go_num, rfl, HQ.drewN _, Lib.hid ⟨fun t x' ht hx' => by
            by_cases htk : t = k
            · subst htk
              have := hx'.symm.trans HX.out
              injection this with this
              rw [this]; exact HC.out
            · exact cmpW_trans _ _ _ (HS.out.get (by omega) hx' HX.out) HC.out, HT.out.2⟩⟩
        case measure => simp [intOf]; omega
      · have HC := Lib.hid (show cmpW x ys ≠ -1 by omega)
        clear hr
        go_wp2_with (go_at_call 45; refine (R01Compare_any hx3 hy').mono ?_; rintro e w' ⟨rfl, q, rfl⟩)
        go_roundw
        case rel => exact ⟨i, k, hk1, by omega, rfl, rfl, HQ.drewN _, Lib.hid ⟨HT.out.1, fun t x' ht hx' => by
            by_cases htk : t = k
            · subst htk
              have := hx'.symm.trans HX.out
              injection this with this
              rw [this]; exact HC.out
            · exact fun h => HC.out (cmpW_trans _ _ _ (HS.out.get (by omega) HX.out hx') h)⟩⟩
        case measure => simp [intOf]; omega
    · obtain rfl : i = j := by omega
      go_wp2
      go_ret
      refine ⟨ret_int ?_, HQ⟩
      rw [placeL_of (k := i) (by rw [HL.out]; exact hj) HT.out.1 (fun x h => HT.out.2 i x (Nat.le_refl _) h)]

theorem R01Size_any (inputs : Int) (w : World) :
    Calls Tryd.prog 43 #[.int .i64 inputs] w fun e w' => e = .returned (.bool (decide (1 ≤ inputs ∧ inputs ≤ 1024))) ∧ w = w' := by
  by_cases h1 : 1 ≤ inputs
  · have d1 : decide (1 ≤ inputs) = true := by simp; omega
    go_enter Tryd.func43, Tryd.ntmps43
    go_wp2
    go_ret
    exact ⟨ret_bool (by simp [h1]), rfl⟩
  · have d1 : decide (1 ≤ inputs) = false := by simp; omega
    go_enter Tryd.func43, Tryd.ntmps43
    go_wp2
    go_ret
    exact ⟨ret_bool (by simp [h1]), rfl⟩

theorem wordpermitted_any (inputs : Int) (w : World) :
    Calls Tryd.prog 66 #[.int .i64 inputs] w fun e w' => e = .returned (.bool (decide (1 ≤ inputs ∧ inputs ≤ 1024))) ∧ w = w' := by
  by_cases h1 : 1 ≤ inputs
  · have d1 : decide (1 ≤ inputs) = true := by simp; omega
    go_enter Tryd.func66, Tryd.ntmps66
    go_wp2
    go_ret
    exact ⟨ret_bool (by simp [h1]), rfl⟩
  · have d1 : decide (1 ≤ inputs) = false := by simp; omega
    go_enter Tryd.func66, Tryd.ntmps66
    go_wp2
    go_ret
    exact ⟨ret_bool (by simp [h1]), rfl⟩

set_option maxHeartbeats 400000 in
theorem R01Check_any {A : Option Addr} {n c : Nat} {xs : List Int} {inputs : Int} {w : World} (hx : RowOf w IsInt A n c xs) :
    Calls Tryd.prog 70 #[.slice A n c, .int .i64 inputs] w fun e w' => e = .returned (.int .i64 (checkI xs inputs)) ∧ w = w' := by
  have hn := hx.small
  have HL := Lib.hid hx.len
  by_cases hi : 1 ≤ inputs ∧ inputs ≤ 1024
  · have hd : decide (1 ≤ inputs ∧ inputs ≤ 1024) = true := decide_eq_true hi
    have HI := Lib.hid hi
    clear hi
    by_cases hlen : 1024 < n
    · go_enter Tryd.func70, Tryd.ntmps70
      go_wp2_with (go_at_call 43; refine (R01Size_any _ _).mono ?_; rintro e w' ⟨rfl, rfl⟩)
      go_ret
      exact ⟨ret_int (by rw [checkI, if_pos HI.out, HL.out, if_pos hlen]), rfl⟩
    · go_enter Tryd.func70, Tryd.ntmps70
      go_wp2_with (go_at_call 43; refine (R01Size_any _ _).mono ?_; rintro e w' ⟨rfl, rfl⟩)
      go_loop [5] (fun i => ∃ k : Nat, k ≤ n ∧ i = .int .i64 k ∧ Hid (((l : List Int) → l = xs → ((l.take k).all fun a => decide (0 ≤ a ∧ a < inputs)) = true))) (fun i => n - (intOf i).toNat)
      case atStart => exact ⟨0, by omega, rfl, Lib.hid (by simp)⟩
      case round =>
        obtain ⟨k, hk, rfl, HT⟩ := hrel
        by_cases h1 : k < n
        · obtain ⟨b, o, x, rfl, hx1, hx2⟩ := hx.int_at h1
          have HX := Lib.hid hx1
          clear hx1
          by_cases h2 : x < 0
          · have d2 : decide (x < 0) = true := by simpa using h2
            go_wp2
            go_ret
            refine ⟨ret_int ?_, rfl⟩
            rw [checkI, if_pos HI.out, HL.out, if_neg hlen, if_neg]
            rw [List.all_eq_true]
            intro h
            have := h x (List.mem_of_getElem? HX.out)
            simp at this
            omega
          · have d2 : decide (x < 0) = false := by simpa using h2
            by_cases h3 : inputs ≤ x
            · have d3 : decide (inputs ≤ x) = true := by simpa using h3
              go_wp2
              go_ret
              refine ⟨ret_int ?_, rfl⟩
              rw [checkI, if_pos HI.out, HL.out, if_neg hlen, if_neg]
              rw [List.all_eq_true]
              intro h
              have := h x (List.mem_of_getElem? HX.out)
              simp at this
              omega
            · have d3 : decide (inputs ≤ x) = false := by simpa using h3
              go_wp2
              go_round
              case rel => exact ⟨k + 1, by omega, by go_num, Lib.hid (by rintro l rfl; rw [take_step HX.out, List.all_append, HT.out _ rfl]; simp; omega)⟩
              case measure => simp [intOf]; omega
        · go_wp2
          go_ret
          refine ⟨ret_int ?_, rfl⟩
          have ht := HT.out _ rfl
          rw [List.take_of_length_le (by rw [HL.out]; omega)] at ht
          rw [checkI, if_pos HI.out, HL.out, if_neg hlen, if_pos ht]
  · have hd : decide (1 ≤ inputs ∧ inputs ≤ 1024) = false := decide_eq_false hi
    have HI := Lib.hid hi
    clear hi
    go_enter Tryd.func70, Tryd.ntmps70
    go_wp2_with (go_at_call 43; refine (R01Size_any _ _).mono ?_; rintro e w' ⟨rfl, rfl⟩)
    go_ret
    exact ⟨ret_int (by rw [checkI, if_neg HI.out]), rfl⟩

end Go.Proofs.YtmlghnfbjkcelaaDoor
