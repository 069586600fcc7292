/-
  Walks of the program's wordset.Has, cmp.Or, word.Compare, word.Next and wordset.Upto.
-/
import Derived.Test.YtmlghnfbjkcelaaDoorW8
import Derived.Test.YtmlghnfbjkcelaaDoorW10
namespace Go.Proofs.YtmlghnfbjkcelaaDoor
open Go.RowKit

/-- The first number that is not 0. -/
def orI (xs : List Int) : Int := (xs.find? fun a => a != 0).getD 0

set_option maxHeartbeats 400000 in
theorem cmpOr_any {A : Option Addr} {n c : Nat} {xs : List Int} {w : World} (hx : RowOf w IsInt A n c xs) :
    Calls Tryd.prog 62 #[.slice A n c] w fun e w' => e = .returned (.int .i64 (orI xs)) ∧ w = w' := by
  have hns := hx.small
  have HL := Lib.hid hx.len
  go_enter Tryd.func62, Tryd.ntmps62
  go_wp2
  go_loop [5, 8] (fun _ i => ∃ k : Nat, k ≤ n ∧ i = .int .i64 k ∧ Hid (((xs.take k).find? fun a => a != 0) = none)) (fun _ i => n - (intOf i).toNat)
  case atStart => exact ⟨0, by omega, rfl, Lib.hid (by simp)⟩
  case round =>
    obtain ⟨k, hk, rfl, HT⟩ := hrel
    by_cases h1 : k < n
    · obtain ⟨b, o, x, rfl, hx1, hx2⟩ := hx.int_at h1
      have HX := Lib.hid hx1
      clear hx1
      by_cases h2 : x = 0
      · have d2 : (x != 0) = false := by simp [h2]
        have H2 := Lib.hid h2
        clear h2
        go_wp2
        go_round
        case rel => exact ⟨k + 1, by omega, by go_num, Lib.hid (by rw [take_step HX.out, List.find?_append, HT.out, H2.out]; rfl)⟩
        case measure => simp [intOf] <;> omega
      · have d2 : (x != 0) = true := by simp [h2]
        go_wp2
        go_ret
        refine ⟨ret_int ?_, rfl⟩
        have hsp := List.take_append_drop (k + 1) xs
        unfold orI
        rw [← hsp, List.find?_append, take_step HX.out, List.find?_append, HT.out]
        simp [h2]
    · go_wp2
      go_ret
      have ht := HT.out
      rw [List.take_of_length_le (by rw [HL.out]; omega)] at ht
      exact ⟨ret_int (by unfold orI; rw [ht]; rfl), rfl⟩

theorem orI_cmp (xs ys : List Int) : orI [cmpI xs.length ys.length, lexI xs ys] = cmpW xs ys := by
  unfold orI cmpI cmpW
  by_cases h1 : xs.length < ys.length
  · rw [if_pos (by omega), if_pos h1]; rfl
  · by_cases h2 : ys.length < xs.length
    · rw [if_neg (by omega), if_pos (by omega), if_neg h1, if_pos h2]; rfl
    · rw [if_neg (by omega), if_neg (by omega), if_neg h1, if_neg h2]
      by_cases h3 : lexI xs ys = 0
      · simp [h3]
      · simp [h3]

theorem ints_row {w : World} (x y : Int) (t : TypeId) : RowOf (w.alloc (.cells #[.int .i64 x, .int .i64 y] t)) IsInt (some ⟨w.heap.size, 0, none⟩) 2 2 [x, y] := by
  refine ⟨rfl, Nat.le_refl _, by omega, fun _ => ⟨_, _, rfl, fun i z hz => ?_⟩⟩
  obtain ⟨_, hc⟩ := src_two (w := w) (.int .i64 x) (.int .i64 y) t
  obtain ⟨b, o, e, hcc⟩ := hc (by omega)
  injection e with e
  injection e with e1 e2
  subst e1 e2
  match i, hz with
  | 0, hz =>
    simp at hz
    subst hz
    exact ⟨_, hcc 0 _ rfl, rfl⟩
  | 1, hz =>
    simp at hz
    subst hz
    exact ⟨_, hcc 1 _ rfl, rfl⟩

set_option maxHeartbeats 400000 in
/-- word.Compare: one block of its own stays behind. -/
theorem wordCompare_any {A B : Option Addr} {n c m c' : Nat} {xs ys : List Int} {w : World} (hx : RowOf w IsInt A n c xs) (hy : RowOf w IsInt B m c' ys) :
    Calls Tryd.prog 38 #[.slice A n c, .slice B m c'] w fun e w' => e = .returned (.int .i64 (cmpW xs ys)) ∧ w.alloc (.cells #[.int .i64 (cmpI xs.length ys.length), .int .i64 (lexI xs ys)] 3) = w' := by
  have hn := hx.small
  have hm := hy.small
  have hc1 := Lib.hid (slicesCompare_any hx hy)
  have HE := Lib.hid (orI_cmp xs ys)
  have h1 := hx.len
  have h2 := hy.len
  have HO := Lib.hid (fun t => cmpOr_any (ints_row (w := w) (cmpI xs.length ys.length) (lexI xs ys) t))
  rw [h1, h2] at HE HO
  rw [h1, h2]
  clear h1 h2 hx hy
  go_enter Tryd.func38, Tryd.ntmps38
  go_wp2_with (first | (go_at_call 63; refine (cmpCompare_any _ _ _).mono ?_; rintro e w' ⟨rfl, rfl⟩) | (go_at_call 64; refine hc1.out.mono ?_; rintro e w' ⟨rfl, rfl⟩) | (go_at_call 62; refine (HO.out _).mono ?_; rintro e w' ⟨rfl, rfl⟩))
  go_ret
  exact ⟨ret_int HE.out, rfl⟩

set_option maxRecDepth 100000 in
set_option maxHeartbeats 1600000 in
theorem wordNext_any {A : Option Addr} {n c : Nat} {xs : List Int} {inputs : Int} {w : World} (hx : RowOf w IsInt A n c xs) :
    Calls Tryd.prog 42 #[.slice A n c, .int .i64 inputs] w (NextPost w (nextW xs inputs)) := by
  have hns := hx.small
  have hxl := hx.len
  have HXL := Lib.hid hxl
  obtain ⟨j0, ji, jz0, jz1, jz2⟩ := info_parts Tryd.infoInt
  have HCK := Lib.hid (wordCheck_any (inputs := inputs) hx)
  by_cases hck : checkI xs inputs = 0
  · have HK := Lib.hid hck
    have hin : 1 ≤ inputs ∧ inputs ≤ 1024 := by
      unfold checkI at hck
      split at hck
      · assumption
      · omega
    have hn1 : n ≤ 1024 := by
      unfold checkI at hck
      rw [if_pos hin, hxl] at hck
      split at hck
      · omega
      · omega
    have hall : ∀ x ∈ xs, 0 ≤ x ∧ x < inputs := by
      unfold checkI at hck
      rw [if_pos hin, hxl, if_neg (by omega)] at hck
      split at hck
      · rename_i h
        intro x hx
        have := List.all_eq_true.1 h x hx
        simpa using this
      · omega
    have HALL := Lib.hid hall
    obtain ⟨hin1, hin2⟩ := hin
    have hd : (checkI xs inputs != 0) = false := by simp [hck]
    have HCL := Lib.hid (fun w1 (hb : Below w.heap.size w w1) => cloneI_any (hx.kept (Below.to_keeps hb)))
    clear hck hall hxl hx
    go_enter Tryd.func42, Tryd.ntmps42
    go_wp2_with (first | (go_at_call 41; refine HCK.out.mono ?_; rintro e w0 ⟨rfl, hb0⟩) | (go_at_call 69; refine (HCL.out w0 hb0).mono ?_; rintro e w1 ⟨v1, rfl, hO1, hB1⟩; have hO := hO1.base hb0.size; have hB := hb0.trans (hB1.mono hb0.size); obtain ⟨A1, n1, c1, rfl, hr1⟩ := hO.isI (by rw [HXL.out]; exact hns); obtain rfl : n = n1 := by rw [← hr1.len]; exact HXL.out.symm))
    clear hO1 hB1 hb0
    have hA : 0 < n → ∃ g, A1 = some ⟨g, 0, none⟩ ∧ w.heap.size ≤ g := fun h0 => by
      obtain ⟨g, cap, e, hg, _⟩ := hO.form (by rw [HXL.out]; exact h0)
      injection e with e1
      exact ⟨g, e1, hg⟩
    have H0 := Lib.hid (And.intro hO hB)
    clear hO hB hr1 HCL HCK
    go_loopw [7] (fun i wr => ∃ j : Nat, j ≤ n ∧ i = .int .i64 ((j : Int) - 1) ∧ OwnI wr w.heap.size (.slice A1 n c1) (xs.take j ++ List.replicate (n - j) 0) ∧ Below w.heap.size w wr ∧ Hid (nextGo xs inputs n = nextGo xs inputs j)) (fun i _ => (intOf i + 1).toNat)
    case atStart => exact ⟨n, Nat.le_refl _, rfl, by rw [Nat.sub_self, List.take_of_length_le (by rw [HXL.out]; exact Nat.le_refl _)]; simpa using H0.out.1, H0.out.2, Lib.hid rfl⟩
    case round =>
      obtain ⟨j, hj, hi, hown, hbel, HN⟩ := hrel
      cases j with
      | zero =>
        obtain rfl : u7 = .int .i64 (-1) := by rw [hi]; rfl
        have hn0 : xs.take 0 ++ List.replicate (n - 0) (0 : Int) = List.replicate n 0 := by simp
        rw [hn0] at hown
        clear hi hn0
        have HN' := Lib.hid (show nextGo xs inputs n = none by rw [HN.out]; rfl)
        by_cases h2 : n = 1024
        · have hd2 : ((n : Int) == 1024) = true := by simp; omega
          have HN2 := Lib.hid h2
          clear h2
          go_wp2
          go_ret2
          have hres : nextW xs inputs = none := by unfold nextW; rw [if_pos HK.out, HXL.out, HN'.out, if_pos HN2.out]
          rw [hres]
          exact ⟨_, rfl, OwnI.nil_ _ _, hbel⟩
        · have hd2 : ((n : Int) == 1024) = false := by simp; omega
          have HN2 := Lib.hid h2
          clear h2
          have hlen : (List.replicate n (0 : Int)).length = n := by simp
          have hown' : wr.ownsRow w.heap.size 3 1 (.slice A1 n c1) n ((List.replicate n (0 : Int)).map (Value.int .i64)) := by unfold OwnI at hown; rw [hlen] at hown; exact hown
          have hownA : ∀ o, (wr.alloc o).ownsRow w.heap.size 3 1 (.slice A1 n c1) n ((List.replicate n (0 : Int)).map (Value.int .i64)) := fun o => hown'.alloc o
          have hlt := hown.lt
          have hs1 : ∀ t, Src (wr.alloc (.cells #[.int .i64 0] t)) (some ⟨wr.heap.size, 0, none⟩) 1 [.int .i64 0] := fun t => src_one wr _ t
          have hone : ∀ u ∈ [Value.int .i64 0], u.oneCell' = true := by intro u hu; simp at hu; subst hu; rfl
          have hc1 : n + 1 ≤ maxLen := by unfold maxLen; omega
          have hc2 : (n + 1) * 8 ≤ 140737488355328 := by omega
          have hc3 : ∀ o, w.heap.size ≤ (wr.alloc o).heap.size := fun o => by have := hbel.size; simp; omega
          have HB := Lib.hid hbel
          clear hown hown' hbel hlen
          go_wp2_with (at_builtin; refine wpList_append_row rfl (.tmp 41) (.tmp 42) 38 rfl w.heap.size 3 j0 (.int .i64 0) 8 Tryd.underlying38 ji jz0 jz1 jz2 rfl (.slice A1 n c1) _ _ rfl (hownA _) _ 1 1 [.int .i64 0] rfl (hs1 _) hone hc1 hc2 (hc3 _) ?_; intro v2 w2 hown2 hg2 hb2)
          go_ret2
          have hres : nextW xs inputs = some (List.replicate (n + 1) 0) := by unfold nextW; rw [if_pos HK.out, HXL.out, HN'.out, if_neg HN2.out]
          rw [hres]
          refine ⟨_, rfl, ?_, (HB.out.alloc HB.out.size _).grown hg2 (hc3 _) fun g e => (hlt g e).1⟩
          unfold OwnI
          have e1 : ((some (List.replicate (n + 1) (0 : Int))).getD []).length = n + 1 := by simp
          have e2 : ((some (List.replicate (n + 1) (0 : Int))).getD []).map (Value.int .i64) = (List.replicate n (0 : Int)).map (Value.int .i64) ++ [Value.int .i64 0] := by
            rw [Option.getD_some, List.replicate_succ', List.map_append]; rfl
          rw [e1, e2]
          exact hown2
      | succ t =>
        obtain rfl : u7 = .int .i64 (t : Int) := by rw [hi]; congr 1; omega
        clear hi
        obtain ⟨g, rfl, hgw⟩ := hA (by omega)
        have htl : t < xs.length := by rw [HXL.out]; omega
        obtain ⟨x, hx1⟩ : ∃ x, xs[t]? = some x := ⟨xs[t], List.getElem?_eq_getElem htl⟩
        have hx2 := HALL.out x (List.mem_of_getElem? hx1)
        obtain ⟨hx3, hx4⟩ := hx2
        have hin : (xs.take (t + 1) ++ List.replicate (n - (t + 1)) (0 : Int))[t]? = some x := by
          rw [List.getElem?_append, if_pos (by rw [List.length_take]; omega), List.getElem?_take, if_pos (by omega), hx1]
        have hln : (xs.take (t + 1) ++ List.replicate (n - (t + 1)) (0 : Int)).length = n := by
          rw [List.length_append, List.length_take, List.length_replicate, HXL.out]; omega
        obtain ⟨q1, q2⟩ := hown.at_ hln hin
        have HT := Lib.hid (And.intro hx1 hln)
        have HNG := Lib.hid (show nextGo xs inputs (t + 1) = if x < inputs - 1 then some (xs.take t ++ (x + 1) :: List.replicate (n - 1 - t) 0) else nextGo xs inputs t by
          rw [nextGo, getD_of_some hx1, HXL.out])
        have HO := Lib.hid hown
        have HB := Lib.hid hbel
        clear hx1 hin hln hown hbel htl
        by_cases h2 : x + 1 < inputs
        · go_wp2
          go_ret2
          have hres : nextW xs inputs = some (xs.take t ++ (x + 1) :: List.replicate (n - (t + 1)) 0) := by
            unfold nextW
            rw [if_pos HK.out, HXL.out, HN.out, HNG.out, if_pos (by omega), show n - 1 - t = n - (t + 1) by omega]
          rw [hres]
          have hset := HO.out.set_ HT.out.2 t (x + 1)
          rw [zero_at HT.out.1 HXL.out] at hset
          exact ⟨_, rfl, hset, HB.out.setCell (p := ⟨g, t, none⟩) hgw _⟩
        · go_wp2
          go_roundw
          case rel =>
            have hset := HO.out.set_ HT.out.2 t 0
            rw [zero_at HT.out.1 HXL.out, zeros_step xs (by omega)] at hset
            exact ⟨t, by omega, rfl, hset, HB.out.setCell (p := ⟨g, t, none⟩) hgw _, Lib.hid (by rw [HN.out, HNG.out, if_neg (by omega)])⟩
          case measure => simp [intOf] <;> omega
  · have hd : (checkI xs inputs != 0) = true := by simp [hck]
    go_enter Tryd.func42, Tryd.ntmps42
    go_wp2_with (go_at_call 41; refine HCK.out.mono ?_; rintro e w' ⟨rfl, hb0⟩)
    go_ret2
    have hres : nextW xs inputs = none := by unfold nextW; rw [if_neg hck]
    rw [hres]
    exact ⟨_, rfl, OwnI.nil_ _ _, hb0⟩

set_option maxRecDepth 100000 in
set_option maxHeartbeats 1600000 in
theorem wordsetUpto_any (inputs n : Int) (w : World) :
    Calls Tryd.prog 16 #[.int .i64 inputs, .int .i64 n] w (PairW w (uptoW inputs n)) := by
  obtain ⟨i0, hi, hz0, hz1, hz2⟩ := info_parts Tryd.infoWord
  by_cases h1 : 1 ≤ inputs ∧ inputs ≤ 1024
  · have d1 : (checkI [] inputs != 0) = false := by unfold checkI; rw [if_pos h1]; rfl
    have H1 := Lib.hid h1
    clear h1
    by_cases h2 : n < 0
    · have d2 : decide (n < 0) = true := decide_eq_true h2
      go_enter Tryd.func16, Tryd.ntmps16
      go_wp2_with (go_at_call 41; refine (wordCheck_any (RowOf.nil_ (w := w) (R := IsInt))).mono ?_; rintro e w0 ⟨rfl, hb0⟩)
      go_ret2
      have hres : uptoW inputs n = ([], 2) := by unfold uptoW; rw [if_neg (by omega)]
      rw [hres]
      exact ⟨_, rfl, OwnW.nil_ _ _, hb0⟩
    · have d2 : decide (n < 0) = false := decide_eq_false h2
      by_cases h3 : 1024 < n
      · have d3 : decide (1024 < n) = true := decide_eq_true h3
        go_enter Tryd.func16, Tryd.ntmps16
        go_wp2_with (go_at_call 41; refine (wordCheck_any (RowOf.nil_ (w := w) (R := IsInt))).mono ?_; rintro e w0 ⟨rfl, hb0⟩)
        go_ret2
        have hres : uptoW inputs n = ([], 2) := by unfold uptoW; rw [if_neg (by omega)]
        rw [hres]
        exact ⟨_, rfl, OwnW.nil_ _ _, hb0⟩
      · have d3 : decide (1024 < n) = false := decide_eq_false h3
        have HR := Lib.hid (show uptoW inputs n = uptoF inputs n 10001 [] [] by unfold uptoW; rw [if_pos ⟨H1.out, by omega, by omega⟩])
        go_enter Tryd.func16, Tryd.ntmps16
        go_wp2_with (go_at_call 41; refine (wordCheck_any (RowOf.nil_ (w := w) (R := IsInt))).mono ?_; rintro e w0 ⟨rfl, hb0⟩)
        clear d1 d2 d3
        go_loopg [6, 7, 8] 10001 (fun g s7 s6 s8 wr => ∃ (ok : Bool) (cur : List Int) (out : List (List Int)), s8 = .bool ok ∧ IsI wr s6 cur ∧ OwnW wr w.heap.size s7 out ∧ Off s6 s7.ownBlock ∧ Below w.heap.size w wr ∧ out.length ≤ 10000 ∧
          g ≤ 10001 ∧ Hid (if ok = true then uptoW inputs n = uptoF inputs n g cur out ∧ out.length + g = 10001 else uptoW inputs n = (out, 0)))
        case atStart => exact ⟨true, [], [], rfl, IsI.nil_ _, OwnW.nil_ _ _, (fun a n c e => by cases e), hb0, by simp, Nat.le_refl _, Lib.hid ⟨HR.out, rfl⟩⟩
        case round =>
          obtain ⟨ok, cur, out, rfl, hcur, hown, hoff, hbel, hol, hg, HT⟩ := hrel
          cases ok with
          | false =>
            have HO := Lib.hid (And.intro hown hbel)
            clear hcur hown hoff hbel
            go_wp2
            go_ret2
            have hres : uptoW inputs n = (out, 0) := HT.out
            rw [hres]
            exact ⟨_, rfl, HO.out.1, HO.out.2⟩
          | true =>
            obtain ⟨hT1, hT2⟩ := HT.out
            obtain ⟨A6, n6, c6, rfl, hr6⟩ := hcur
            have hn6 := hr6.len
            have hs6 := hr6.small
            cases gk with
            | zero => exfalso; omega
            | succ f =>
              have HS := Lib.hid (show uptoF inputs n (f + 1) cur out = if (n6 : Int) ≤ n then
                  if out.length = 10000 then ([], 11) else match nextW cur inputs with | some x => uptoF inputs n f x (out ++ [cur]) | none => (out ++ [cur], 0) else (out, 0) by rw [← hn6]; rfl)
              have HT1 := Lib.hid hT1
              have HT2 := Lib.hid hT2
              have HN6 := Lib.hid hn6
              clear hT1 hT2 hn6 HT
              by_cases h4 : (n6 : Int) ≤ n
              · have d4 : decide ((n6 : Int) ≤ n) = true := decide_eq_true h4
                obtain ⟨us, hul, hrow, hel⟩ := hown
                have hol' : us.length ≤ 10000 := by omega
                obtain ⟨A7, n7, c7, rfl, hr7⟩ := (show OwnW wr w.heap.size u6 out from ⟨us, hul, hrow, hel⟩).isW (by omega)
                obtain rfl : n7 = us.length := by rw [← hr7.len, hul]
                by_cases h5 : us.length = 10000
                · have d5 : ((us.length : Int) == 10000) = true := by simp; omega
                  have H5 := Lib.hid (show out.length = 10000 by omega)
                  clear h5
                  go_wp2
                  go_ret2
                  have hres : uptoW inputs n = ([], 11) := by rw [HT1.out, HS.out, if_pos h4, if_pos H5.out]
                  rw [hres]
                  exact ⟨_, rfl, OwnW.nil_ _ _, hbel⟩
                · have d5 : ((us.length : Int) == 10000) = false := by simp; omega
                  have H5 := Lib.hid (show out.length ≠ 10000 by omega)
                  have hlt5 : us.length < 10000 := by omega
                  clear h5
                  have hlt7 : ∀ k, (Value.slice A7 us.length c7).ownBlock = some k → w.heap.size ≤ k ∧ k < wr.heap.size := hrow.lt
                  have hrowA : ∀ o, (wr.alloc o).ownsRow w.heap.size 38 1 (.slice A7 us.length c7) us.length us := fun o => hrow.alloc o
                  have hc1 : us.length + 1 ≤ maxLen := by unfold maxLen; omega
                  have hc2 : (us.length + 1) * 24 ≤ 140737488355328 := by omega
                  have hc3 : ∀ o, w.heap.size ≤ (wr.alloc o).heap.size := fun o => by have := hbel.size; simp; omega
                  have hnl := nextW_length cur inputs
                  have HU := Lib.hid hul
                  have HE := Lib.hid hel
                  have HB := Lib.hid hbel
                  have HO6 := Lib.hid hoff
                  clear hul hel hrow hr7 hbel hoff
                  go_wp2_with (first | (at_builtin; refine wpList_append_row rfl (.tmp 36) (.tmp 38) 25 rfl w.heap.size 38 i0 (.slice none 0 0) 24 Tryd.underlying25 hi hz0 hz1 hz2 rfl (.slice A7 us.length c7) _ us rfl (hrowA _) _ 1 1 [.slice A6 n6 c6] rfl (src_one _ _ _) (one_cell _) hc1 hc2 (hc3 _) ?_; intro v1 w1 hown1 hg1 hb1; have hr61 : RowOf w1 IsInt A6 n6 c6 cur := ((hr6.isI.keep (grown_keeps (World.grownBy_alloc wr _ none))).grown hg1 HO6.out).row; have hpush := OwnW.push HU.out HE.out hr6.isI HO6.out (World.grownBy_alloc wr _ none) hown1 hg1 hb1; have hbel1 := (HB.out.alloc HB.out.size _).grown hg1 (hc3 _) (fun g e => (hlt7 g e).1); clear hown1 hg1 hb1) | (go_at_call 42; refine (wordNext_any hr61).mono ?_; rintro e w' ⟨v', rfl, hown', hb'⟩))
                  have hpush' := hpush.kept (grown_none hb')
                  have hbel' := hbel1.trans (hb'.mono hbel1.size)
                  have hoff' := hown'.off (row := v1.ownBlock) fun g e => (hpush.lt g e).2
                  have HF := Lib.hid (And.intro (hown'.isI (by omega)) (And.intro hpush' (And.intro hoff' hbel')))
                  clear hpush hbel1 hown' hb' hpush' hbel' hoff'
                  go_roundg f
                  case measure => omega
                  case rel =>
                    obtain ⟨f1, f2, f3, f4⟩ := HF.out
                    refine ⟨_, _, _, rfl, f1, f2, f3, f4, by rw [List.length_append, List.length_singleton]; have := HU.out; omega, by omega, Lib.hid ?_⟩
                    have h6 := HS.out
                    rw [if_pos h4, if_neg H5.out] at h6
                    rw [HT1.out, h6]
                    cases hnx : nextW cur inputs with
                    | none => simp
                    | some x =>
                      simp
                      have := HT2.out
                      omega
              · have d4 : decide ((n6 : Int) ≤ n) = false := decide_eq_false h4
                have HO := Lib.hid (And.intro hown hbel)
                clear hr6 hown hoff hbel
                go_wp2
                go_ret2
                have hres : uptoW inputs n = (out, 0) := by rw [HT1.out, HS.out, if_neg (by omega)]
                rw [hres]
                exact ⟨_, rfl, HO.out.1, HO.out.2⟩
  · have d1 : (checkI [] inputs != 0) = true := by unfold checkI; rw [if_neg h1]; rfl
    have H1 := Lib.hid h1
    clear h1
    go_enter Tryd.func16, Tryd.ntmps16
    go_wp2_with (go_at_call 41; refine (wordCheck_any (RowOf.nil_ (w := w) (R := IsInt))).mono ?_; rintro e w0 ⟨rfl, hb0⟩)
    go_ret2
    have hres : uptoW inputs n = ([], 2) := by unfold uptoW; rw [if_neg (fun h => H1.out h.1)]
    rw [hres]
    exact ⟨_, rfl, OwnW.nil_ _ _, hb0⟩

end Go.Proofs.YtmlghnfbjkcelaaDoor
