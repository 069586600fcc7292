/-
  Walks of the program's Sorted, Has, parts, Prefixes, Suffixes, Maximal, Size.
-/
import Derived.Test.YtmlghnfbjkcelaaDoorW14
import Derived.Test.YtmlghnfbjkcelaaDoorW9
namespace Go.Proofs.YtmlghnfbjkcelaaDoor
open Go.RowKit

theorem sortW_of {L l : List (List Int)} (h : L.Pairwise fun a b => cmpW a b = -1) (hm : ∀ x, x ∈ L ↔ x ∈ l) : L = sortW l :=
  asc_ext h (sortW_asc l) fun x => by rw [hm, mem_sortW]

set_option maxHeartbeats 400000 in
theorem wordsetSorted_any {A : Option Addr} {n c : Nat} {l : List (List Int)} {w : World} (hx : RowOf w (IsI w) A n c l) (hn : n ≤ 1000000000) :
    Calls Tryd.prog 22 #[.slice A n c] w (NewW w (sortW l)) := by
  have HO := Lib.hid (ordered_38 hx hn)
  clear hx
  go_enter Tryd.func22, Tryd.ntmps22
  go_wp2_with (go_at_call 50; refine HO.out.mono ?_; rintro e w1 ⟨L, hp, hm, _, v, rfl, hO, hB⟩)
  go_ret
  rw [← sortW_of hp hm]
  exact ⟨_, rfl, hO, hB⟩

def IdxQ (b : Bool) (w : World) (e : Ending) (w' : World) : Prop := ∃ r : Int, e = .returned (.int .i64 r) ∧ decide (0 ≤ r) = b ∧ Qt w w'

theorem Has1_any {A B : Option Addr} {n c m c' K : Nat} {xs ys : List Int} {w : World} (hx : RowOf w IsInt A n c xs) (hy : RowOf w IsInt B m c' ys) (hK : w.cell? ⟨K, 0, none⟩ = some (.slice B m c')) :
    Calls Tryd.prog 47 #[.slice A n c, .pointer (some ⟨K, 0, none⟩)] w fun e w' => e = .returned (.bool (decide (xs = ys))) ∧ ∃ q, w' = w.drewN q := by
  have HE := Lib.hid (slicesEqual_any hx hy)
  clear hx hy
  go_enter Tryd.func47, Tryd.ntmps47
  go_wp2_with (go_at_call 48; refine HE.out.mono ?_; rintro e w' ⟨rfl, q, rfl⟩)
  go_ret
  exact ⟨rfl, q, rfl⟩

set_option maxHeartbeats 400000 in
theorem IndexHas_any {A B : Option Addr} {n c m c' K : Nat} {l : List (List Int)} {ys : List Int} {w : World} (hx : RowOf w (IsI w) A n c l) (hy : RowOf w IsInt B m c' ys) (hK : w.cell? ⟨K, 0, none⟩ = some (.slice B m c')) :
    Calls Tryd.prog 72 #[.slice A n c, .func (.func 47) #[] #[.pointer (some ⟨K, 0, none⟩)]] w (IdxQ (decide (ys ∈ l)) w) := by
  have hns := hx.small
  have HL := Lib.hid hx.len
  go_enter Tryd.func72, Tryd.ntmps72
  go_wp2
  go_loopw [5, 8] (fun _ i wr => ∃ k : Nat, k ≤ n ∧ i = .int .i64 k ∧ Qt w wr ∧ Hid (ys ∉ l.take k)) (fun _ i _ => n - (intOf i).toNat)
  case atStart => exact ⟨0, by omega, rfl, Qt.refl _, Lib.hid (by simp)⟩
  case round =>
    obtain ⟨k, hk, rfl, HQ, HT⟩ := hrel
    by_cases h1 : k < n
    · have hx' := hx.words HQ.keeps
      have hy' := hy.kept HQ.keeps
      have hK' := HQ.keeps _ _ hK
      obtain ⟨b, o, A1, n1, c1, x, rfl, hx1, hx2, hx3⟩ := hx'.word_at h1
      have HX := Lib.hid hx1
      clear hx1
      by_cases hxy : x = ys
      · have hd : decide (x = ys) = true := decide_eq_true hxy
        have HXY := Lib.hid hxy
        clear hxy
        go_wp2_with (go_at_call 47; refine (Has1_any hx3 hy' hK').mono ?_; rintro e w' ⟨rfl, q, rfl⟩)
        go_ret
        have hmem : decide (ys ∈ l) = true := decide_eq_true (by rw [← HXY.out]; exact List.mem_of_getElem? HX.out)
        exact ⟨_, rfl, by rw [hmem]; exact decide_eq_true (by omega), HQ.drewN _⟩
      · have hd : decide (x = ys) = false := decide_eq_false hxy
        go_wp2_with (go_at_call 47; refine (Has1_any hx3 hy' hK').mono ?_; rintro e w' ⟨rfl, q, rfl⟩)
        go_roundw
        case rel => exact ⟨k + 1, by omega, by go_num, HQ.drewN _, Lib.hid (by rw [take_step HX.out, List.mem_append, List.mem_singleton]; rintro (h | h); exact HT.out h; exact hxy h.symm)⟩
        case measure => simp [intOf] <;> omega
    · go_wp2
      go_ret
      have ht := HT.out
      rw [List.take_of_length_le (by rw [HL.out]; omega)] at ht
      exact ⟨_, rfl, by rw [decide_eq_false ht]; rfl, HQ⟩

theorem ContainsHas_any {A B : Option Addr} {n c m c' K : Nat} {l : List (List Int)} {ys : List Int} {w : World} (hx : RowOf w (IsI w) A n c l) (hy : RowOf w IsInt B m c' ys) (hK : w.cell? ⟨K, 0, none⟩ = some (.slice B m c')) :
    Calls Tryd.prog 46 #[.slice A n c, .func (.func 47) #[] #[.pointer (some ⟨K, 0, none⟩)]] w fun e w' => e = .returned (.bool (decide (ys ∈ l))) ∧ Qt w w' := by
  have HI := Lib.hid (IndexHas_any hx hy hK)
  clear hx hy hK
  go_enter Tryd.func46, Tryd.ntmps46
  go_wp2_with (go_at_call 72; refine HI.out.mono ?_; rintro e w' ⟨r, rfl, hr, hq⟩)
  go_ret
  exact ⟨by rw [← hr]; rfl, hq⟩

/-- A bool; nothing that was there has turned. -/
def BoolB (w : World) (b : Bool) (e : Ending) (w' : World) : Prop := e = .returned (.bool b) ∧ Below w.heap.size w w'

theorem Qt.below {w w' : World} (h : Qt w w') (B : Nat) : Below B w w' := by
  obtain ⟨q, rfl⟩ := h
  exact ⟨rfl, rfl, rfl, Nat.le_refl _, fun _ _ => rfl⟩

set_option maxHeartbeats 400000 in
theorem wordsetHas_any {A B : Option Addr} {n c m c' : Nat} {l : List (List Int)} {ys : List Int} {w : World} (hx : RowOf w (IsI w) A n c l) (hy : RowOf w IsInt B m c' ys) :
    Calls Tryd.prog 20 #[.slice A n c, .slice B m c'] w (BoolB w (decide (ys ∈ l))) := by
  have HC := Lib.hid (fun t => ContainsHas_any (K := w.heap.size) (hx.words (grown_keeps (World.grownBy_alloc w (.cells #[.slice B m c'] t) none))) (hy.kept (grown_keeps (World.grownBy_alloc w (.cells #[.slice B m c'] t) none))) (by
    have := cell_one_new w (.slice B m c') t 0 _ rfl
    rwa [addr_add] at this))
  clear hx hy
  go_enter Tryd.func20, Tryd.ntmps20
  go_wp2_with (go_at_call 46; refine (HC.out _).mono ?_; rintro e w' ⟨rfl, hq⟩)
  go_ret
  exact ⟨rfl, ((Below.refl _ w).alloc (Nat.le_refl _) _).trans (hq.below _)⟩

theorem Pre1_any {A : Option Addr} {n c j : Nat} (hj : j ≤ n) (hc : n ≤ c) (W : World) :
    Calls Tryd.prog 52 #[.slice A n c, .int .i64 (j : Int)] W fun e w' => e = .returned (.slice A j c) ∧ W = w' := by
  go_enter Tryd.func52, Tryd.ntmps52
  go_wp2
  go_ret
  exact ⟨rfl, rfl⟩

def SufPost (w0 W : World) (n c j : Nat) (x : List Int) (e : Ending) (w' : World) : Prop := ∃ A', e = .returned (.slice A' (n - j) (c - j)) ∧ RowOf w0 IsInt A' (n - j) (c - j) (x.drop j) ∧ W = w'

theorem Suf1_any {A : Option Addr} {n c j : Nat} {x : List Int} {w0 : World} (hr : RowOf w0 IsInt A n c x) (hj : j ≤ n) (W : World) :
    Calls Tryd.prog 53 #[.slice A n c, .int .i64 (j : Int)] W (SufPost w0 W n c j x) := by
  obtain ⟨j0, ji, jz0, jz1, jz2⟩ := info_parts Tryd.infoInt
  go_enter Tryd.func53, Tryd.ntmps53
  go_wp2_with (refine wpList_slice_low (w0 := w0) (R := IsInt) rfl (.tmp 5) (.tmp 6) 38 3 rfl j0 Tryd.underlying38 ji jz1 A n c j x rfl rfl hr hj ?_; intro A2 hr2)
  go_ret
  exact ⟨A2, rfl, hr2, rfl⟩

set_option maxRecDepth 100000 in
set_option maxHeartbeats 1600000 in
theorem parts_Prefixes {A : Option Addr} {n c : Nat} {l : List (List Int)} {w : World} (hx : RowOf w (IsI w) A n c l) (hn : (preL l).length ≤ 1000000000) :
    Calls Tryd.prog 51 #[.slice A n c, .func (.func 52) #[] #[]] w (NewW w (sortW (preL l))) := by
  have HL := Lib.hid hx.len
  have hns := hx.small
  obtain ⟨i0, hi, hz0, hz1, hz2⟩ := info_parts Tryd.infoWord
  go_enter Tryd.func51, Tryd.ntmps51
  go_wp2
  go_loopw [5, 7, 8, 11] (fun v _ _ i wr => ∃ k : Nat, k ≤ n ∧ i = .int .i64 k ∧ OwnW wr w.heap.size v (preL (l.take k)) ∧ Below w.heap.size w wr) (fun _ _ _ i _ => n - (intOf i).toNat)
  case atStart => exact ⟨0, by omega, rfl, OwnW.nil_ _ _, Below.refl _ _⟩
  case round =>
    obtain ⟨k, hk, rfl, hown, hbel⟩ := hrel
    by_cases h1 : k < n
    · obtain ⟨b, o, A1, n1, c1, x, rfl, hx1, hx2, hx3⟩ := hx.word_at h1
      have HX := Lib.hid hx1
      clear hx1
      have HXL := Lib.hid hx3.len
      have hn1 := hx3.small
      have hcap := hx3.cap
      have hcx := Below.to_keeps hbel _ _ hx2
      have HO := Lib.hid hown
      have HB := Lib.hid hbel
      clear hown hbel hx2
      go_wp2
      obtain ⟨wo, rfl⟩ : ∃ wo : World, wo = wr := ⟨_, rfl⟩
      clear hcx
      go_loopw [5, 8, 18] (fun v _ j wi => ∃ t : Nat, t ≤ n1 + 1 ∧ j = .int .i64 t ∧ OwnW wi w.heap.size v (preL (l.take k) ++ (prefixes x).take t) ∧ Below w.heap.size w wi) (fun _ _ j _ => n1 + 1 - (intOf j).toNat)
      case atStart => exact ⟨0, by omega, rfl, by simpa using HO.out, HB.out⟩
      case round =>
        obtain ⟨t, ht, rfl, hown, hbel⟩ := hrel
        by_cases h2 : t < n1 + 1
        · have htn : t ≤ n1 := by omega
          have hlt := hown.lt
          obtain ⟨us, hul, hrow, hel⟩ := hown
          have hlen : us.length ≤ 1000000000 - 1 := by
            have h4 : (preL (l.take (k + 1))).length ≤ (preL l).length := flatMap_take_le l (k + 1)
            rw [preL_step HX.out, List.length_append, prefixes_length, HXL.out] at h4
            rw [hul, List.length_append, List.length_take, prefixes_length, HXL.out]
            omega
          have hrowA : ∀ o, (wr.alloc o).ownsRow w.heap.size 38 1 u5 us.length us := fun o => hrow.alloc o
          have hc1 : us.length + 1 ≤ maxLen := by unfold maxLen; omega
          have hc2 : (us.length + 1) * 24 ≤ 140737488355328 := by omega
          have hc3 : ∀ o, w.heap.size ≤ (wr.alloc o).heap.size := fun o => by have := hbel.size; simp; omega
          have HU := Lib.hid hul
          have HE := Lib.hid hel
          have HBI := Lib.hid hbel
          have hsrc : ∀ u t, Src (wr.alloc (.cells #[u] t)) (some ⟨wr.heap.size, 0, none⟩) 1 [u] := fun u t => src_one wr u t
          clear hul hel hrow hbel
          have HI2 := Lib.hid (And.intro (hx3.take htn).isI (show True from trivial))
          go_wp2_with (first | (go_at_call 52; refine (Pre1_any htn hcap _).mono ?_; rintro e w' ⟨rfl, rfl⟩) | (at_builtin; refine wpList_append_row rfl (.tmp 21) (.tmp 26) 25 rfl w.heap.size 38 i0 (.slice none 0 0) 24 Tryd.underlying25 hi hz0 hz1 hz2 rfl u5 _ us rfl (hrowA _) _ 1 1 [.slice A1 t c1] rfl (hsrc _ _) (one_cell _) hc1 hc2 (hc3 _) ?_; intro v1 w2 hown1 hg1 hb1))
          have hpush := OwnW.push HU.out HE.out (HI2.out.1.below HBI.out) (HI2.out.1.off_old fun g e => (hlt g e).1) (World.grownBy_alloc wr _ none) hown1 hg1 hb1
          have hbel1 := (HBI.out.alloc HBI.out.size _).grown hg1 (hc3 _) (fun g e => (hlt g e).1)
          clear hown1 hg1 hb1
          have HF := Lib.hid (And.intro hpush hbel1)
          clear hpush hbel1
          go_roundw
          case rel => exact ⟨t + 1, by omega, by go_num, by rw [prefixes_take x (by rw [HXL.out]; exact htn), ← List.append_assoc]; exact HF.out.1, HF.out.2⟩
          case measure => simp [intOf] <;> omega
        · have HN := Lib.hid (And.intro hown hbel)
          clear hown hbel
          go_wp2
          go_roundw
          case rel =>
            have h3 := HN.out.1
            rw [List.take_of_length_le (l := prefixes x) (by rw [prefixes_length, HXL.out]; omega), ← preL_step HX.out] at h3
            exact ⟨k + 1, by omega, by go_num, h3, HN.out.2⟩
          case measure => simp [intOf] <;> omega
    · rw [List.take_of_length_le (by rw [HL.out]; omega)] at hown
      obtain ⟨A1, c1, rfl, hr⟩ := hown.rowOf (by omega)
      have HS := Lib.hid (wordsetSorted_any hr hn)
      have HB := Lib.hid hbel
      have hsz := hbel.size
      clear hr hown hbel
      go_wp2_with (go_at_call 22; refine HS.out.mono ?_; rintro e w1 ⟨v, rfl, hO, hB⟩)
      go_ret
      exact ⟨_, rfl, hO.base hsz, HB.out.trans (hB.mono hsz)⟩

theorem wordsetPrefixes_any {A : Option Addr} {n c : Nat} {l : List (List Int)} {w : World} (hx : RowOf w (IsI w) A n c l) (hn : (preL l).length ≤ 1000000000) :
    Calls Tryd.prog 27 #[.slice A n c] w (NewW w (sortW (preL l))) := by
  have HP := Lib.hid (parts_Prefixes hx hn)
  clear hx
  go_enter Tryd.func27, Tryd.ntmps27
  go_wp2_with (go_at_call 51; refine HP.out.mono ?_; rintro e w1 ⟨v, rfl, hO, hB⟩)
  go_ret
  exact ⟨_, rfl, hO, hB⟩

set_option maxRecDepth 100000 in
set_option maxHeartbeats 1600000 in
theorem parts_Suffixes {A : Option Addr} {n c : Nat} {l : List (List Int)} {w : World} (hx : RowOf w (IsI w) A n c l) (hn : (sufL l).length ≤ 1000000000) :
    Calls Tryd.prog 51 #[.slice A n c, .func (.func 53) #[] #[]] w (NewW w (sortW (sufL l))) := by
  have HL := Lib.hid hx.len
  have hns := hx.small
  obtain ⟨i0, hi, hz0, hz1, hz2⟩ := info_parts Tryd.infoWord
  go_enter Tryd.func51, Tryd.ntmps51
  go_wp2
  go_loopw [5, 7, 8, 11] (fun v _ _ i wr => ∃ k : Nat, k ≤ n ∧ i = .int .i64 k ∧ OwnW wr w.heap.size v (sufL (l.take k)) ∧ Below w.heap.size w wr) (fun _ _ _ i _ => n - (intOf i).toNat)
  case atStart => exact ⟨0, by omega, rfl, OwnW.nil_ _ _, Below.refl _ _⟩
  case round =>
    obtain ⟨k, hk, rfl, hown, hbel⟩ := hrel
    by_cases h1 : k < n
    · obtain ⟨b, o, A1, n1, c1, x, rfl, hx1, hx2, hx3⟩ := hx.word_at h1
      have HX := Lib.hid hx1
      clear hx1
      have HXL := Lib.hid hx3.len
      have hn1 := hx3.small
      have hcap := hx3.cap
      have hcx := Below.to_keeps hbel _ _ hx2
      have HO := Lib.hid hown
      have HB := Lib.hid hbel
      clear hown hbel hx2
      go_wp2
      obtain ⟨wo, rfl⟩ : ∃ wo : World, wo = wr := ⟨_, rfl⟩
      clear hcx
      go_loopw [5, 8, 18] (fun v _ j wi => ∃ t : Nat, t ≤ n1 + 1 ∧ j = .int .i64 t ∧ OwnW wi w.heap.size v (sufL (l.take k) ++ (suffixes x).take t) ∧ Below w.heap.size w wi) (fun _ _ j _ => n1 + 1 - (intOf j).toNat)
      case atStart => exact ⟨0, by omega, rfl, by simpa using HO.out, HB.out⟩
      case round =>
        obtain ⟨t, ht, rfl, hown, hbel⟩ := hrel
        by_cases h2 : t < n1 + 1
        · have htn : t ≤ n1 := by omega
          have hlt := hown.lt
          obtain ⟨us, hul, hrow, hel⟩ := hown
          have hlen : us.length ≤ 1000000000 - 1 := by
            have h4 : (sufL (l.take (k + 1))).length ≤ (sufL l).length := flatMap_take_le l (k + 1)
            rw [sufL_step HX.out, List.length_append, suffixes_length, HXL.out] at h4
            rw [hul, List.length_append, List.length_take, suffixes_length, HXL.out]
            omega
          have hrowA : ∀ o, (wr.alloc o).ownsRow w.heap.size 38 1 u5 us.length us := fun o => hrow.alloc o
          have hc1 : us.length + 1 ≤ maxLen := by unfold maxLen; omega
          have hc2 : (us.length + 1) * 24 ≤ 140737488355328 := by omega
          have hc3 : ∀ o, w.heap.size ≤ (wr.alloc o).heap.size := fun o => by have := hbel.size; simp; omega
          have HU := Lib.hid hul
          have HE := Lib.hid hel
          have HBI := Lib.hid hbel
          have hsrc : ∀ u t, Src (wr.alloc (.cells #[u] t)) (some ⟨wr.heap.size, 0, none⟩) 1 [u] := fun u t => src_one wr u t
          clear hul hel hrow hbel
          go_wp2_with (first | (go_at_call 53; refine (Suf1_any hx3 htn _).mono ?_; rintro e w' ⟨A9, rfl, hr9, rfl⟩; have HI2 := Lib.hid (And.intro hr9.isI (show True from trivial)); clear hr9) | (at_builtin; refine wpList_append_row rfl (.tmp 21) (.tmp 26) 25 rfl w.heap.size 38 i0 (.slice none 0 0) 24 Tryd.underlying25 hi hz0 hz1 hz2 rfl u5 _ us rfl (hrowA _) _ 1 1 [.slice A9 (n1 - t) (c1 - t)] rfl (hsrc _ _) (one_cell _) hc1 hc2 (hc3 _) ?_; intro v1 w2 hown1 hg1 hb1))
          have hpush := OwnW.push HU.out HE.out (HI2.out.1.below HBI.out) (HI2.out.1.off_old fun g e => (hlt g e).1) (World.grownBy_alloc wr _ none) hown1 hg1 hb1
          have hbel1 := (HBI.out.alloc HBI.out.size _).grown hg1 (hc3 _) (fun g e => (hlt g e).1)
          clear hown1 hg1 hb1
          have HF := Lib.hid (And.intro hpush hbel1)
          clear hpush hbel1
          go_roundw
          case rel => exact ⟨t + 1, by omega, by go_num, by rw [suffixes_take x (by rw [HXL.out]; exact htn), ← List.append_assoc]; exact HF.out.1, HF.out.2⟩
          case measure => simp [intOf] <;> omega
        · have HN := Lib.hid (And.intro hown hbel)
          clear hown hbel
          go_wp2
          go_roundw
          case rel =>
            have h3 := HN.out.1
            rw [List.take_of_length_le (l := suffixes x) (by rw [suffixes_length, HXL.out]; omega), ← sufL_step HX.out] at h3
            exact ⟨k + 1, by omega, by go_num, h3, HN.out.2⟩
          case measure => simp [intOf] <;> omega
    · rw [List.take_of_length_le (by rw [HL.out]; omega)] at hown
      obtain ⟨A1, c1, rfl, hr⟩ := hown.rowOf (by omega)
      have HS := Lib.hid (wordsetSorted_any hr hn)
      have HB := Lib.hid hbel
      have hsz := hbel.size
      clear hr hown hbel
      go_wp2_with (go_at_call 22; refine HS.out.mono ?_; rintro e w1 ⟨v, rfl, hO, hB⟩)
      go_ret
      exact ⟨_, rfl, hO.base hsz, HB.out.trans (hB.mono hsz)⟩

theorem wordsetSuffixes_any {A : Option Addr} {n c : Nat} {l : List (List Int)} {w : World} (hx : RowOf w (IsI w) A n c l) (hn : (sufL l).length ≤ 1000000000) :
    Calls Tryd.prog 29 #[.slice A n c] w (NewW w (sortW (sufL l))) := by
  have HP := Lib.hid (parts_Suffixes hx hn)
  clear hx
  go_enter Tryd.func29, Tryd.ntmps29
  go_wp2_with (go_at_call 51; refine HP.out.mono ?_; rintro e w1 ⟨v, rfl, hO, hB⟩)
  go_ret
  exact ⟨_, rfl, hO, hB⟩

/-- Of words in dictionary order those that are no prefix of the next one. -/
def keepM : List (List Int) → List (List Int)
  | [] => []
  | [x] => [x]
  | x :: y :: l => if x <+: y then keepM (y :: l) else x :: keepM (y :: l)

theorem keepM_end {L : List (List Int)} {k : Nat} {x : List Int} (hx : L[k]? = some x) (hl : k + 1 = L.length) : keepM (L.drop k) = x :: keepM (L.drop (k + 1)) := by
  obtain ⟨h1, h2⟩ := List.getElem?_eq_some_iff.1 hx
  rw [List.drop_eq_getElem_cons h1, h2, List.drop_eq_nil_of_le (by omega)]
  rfl
theorem keepM_step {L : List (List Int)} {k : Nat} {x y : List Int} (hx : L[k]? = some x) (hy : L[k + 1]? = some y) : keepM (L.drop k) = if x <+: y then keepM (L.drop (k + 1)) else x :: keepM (L.drop (k + 1)) := by
  obtain ⟨h1, h2⟩ := List.getElem?_eq_some_iff.1 hx
  obtain ⟨h3, h4⟩ := List.getElem?_eq_some_iff.1 hy
  rw [List.drop_eq_getElem_cons h1, h2, List.drop_eq_getElem_cons h3, h4]
  rfl
theorem keepM_sub : ∀ L : List (List Int), (keepM L).Sublist L
  | [] => List.Sublist.refl _
  | [x] => List.Sublist.refl _
  | x :: y :: l => by
    rw [keepM]
    split
    · exact (keepM_sub (y :: l)).cons x
    · exact (keepM_sub (y :: l)).cons_cons x

theorem lex_between : ∀ (x z y : List Int), lexI x z = -1 → (z = y ∨ lexI z y = -1) → x <+: y → x <+: z
  | [], z, _, _, _, _ => List.nil_prefix
  | a :: x, [], _, h, _, _ => by simp [lexI] at h
  | a :: x, b :: z, [], _, _, h => by simp at h
  | a :: x, b :: z, c :: y, h1, h2, h3 => by
    rw [List.cons_prefix_cons] at h3
    obtain ⟨rfl, h3⟩ := h3
    simp only [lexI] at h1
    have hle : b ≤ a := by
      rcases h2 with h2 | h2
      · injection h2 with e1 e2; omega
      · simp only [lexI] at h2
        split at h2
        · omega
        · split at h2
          · omega
          · omega
    have hab : a = b := by
      split at h1
      · omega
      · split at h1
        · omega
        · omega
    subst hab
    rw [if_neg (by omega), if_neg (by omega)] at h1
    rw [List.cons_prefix_cons]
    refine ⟨rfl, lex_between x z y h1 ?_ h3⟩
    rcases h2 with h2 | h2
    · injection h2 with e1 e2; exact Or.inl e2
    · simp only [lexI] at h2
      rw [if_neg (by omega), if_neg (by omega)] at h2
      exact Or.inr h2

theorem prefix_lex : ∀ (x y : List Int), x <+: y → x ≠ y → lexI x y = -1
  | [], [], _, h => absurd rfl h
  | [], _ :: _, _, _ => rfl
  | a :: x, [], h, _ => by simp at h
  | a :: x, b :: y, h, hne => by
    rw [List.cons_prefix_cons] at h
    obtain ⟨rfl, h⟩ := h
    simp only [lexI]
    rw [if_neg (by omega), if_neg (by omega)]
    exact prefix_lex x y h (fun e => hne (by rw [e]))

/-- In dictionary order a word is a proper prefix of some word of the list just if it is one of the next. -/
theorem mem_keepM : ∀ {L : List (List Int)}, L.Pairwise (fun a b => lexI a b = -1) → ∀ x, x ∈ keepM L ↔ x ∈ L ∧ ∀ y ∈ L, y = x ∨ ¬ x <+: y
  | [], _, x => by simp [keepM]
  | [z], _, x => by
    simp only [keepM, List.mem_singleton]
    constructor
    · rintro rfl; exact ⟨rfl, fun y hy => Or.inl hy⟩
    · exact fun h => h.1
  | z :: y :: l, h, x => by
    obtain ⟨h1, h2⟩ := List.pairwise_cons.1 h
    have ih := mem_keepM (L := y :: l) h2
    have hzl : ∀ t ∈ y :: l, z ≠ t := fun t ht e => by
      have := h1 t ht
      rw [e, lexI_refl] at this
      omega
    have hlow : ∀ t ∈ y :: l, ¬ t <+: z := fun t ht hp => by
      have h3 := h1 t ht
      have h4 := prefix_lex t z hp (fun e => hzl t ht e.symm)
      rw [lexI_swap] at h4
      omega
    have hyl : ∀ t ∈ y :: l, y = t ∨ lexI y t = -1 := fun t ht => by
      rcases List.mem_cons.1 ht with e | e
      · exact Or.inl e.symm
      · exact Or.inr ((List.pairwise_cons.1 h2).1 t e)
    rw [keepM]
    by_cases hp : z <+: y
    · rw [if_pos hp, ih]
      constructor
      · rintro ⟨ha, hb⟩
        refine ⟨List.mem_cons_of_mem _ ha, fun t ht => ?_⟩
        rcases List.mem_cons.1 ht with rfl | ht
        · exact Or.inr (hlow x ha)
        · exact hb t ht
      · rintro ⟨ha, hb⟩
        rcases List.mem_cons.1 ha with rfl | ha
        · rcases hb y (by simp) with e | e
          · exact absurd e.symm (hzl y (by simp))
          · exact absurd hp e
        · exact ⟨ha, fun t ht => hb t (List.mem_cons_of_mem _ ht)⟩
    · rw [if_neg hp, List.mem_cons, ih]
      constructor
      · rintro (rfl | ⟨ha, hb⟩)
        · refine ⟨by simp, fun t ht => ?_⟩
          rcases List.mem_cons.1 ht with rfl | ht
          · exact Or.inl rfl
          · exact Or.inr fun hpt => hp (lex_between x y t (h1 y (by simp)) (hyl t ht) hpt)
        · refine ⟨List.mem_cons_of_mem _ ha, fun t ht => ?_⟩
          rcases List.mem_cons.1 ht with rfl | ht
          · exact Or.inr (hlow x ha)
          · exact hb t ht
      · rintro ⟨ha, hb⟩
        rcases List.mem_cons.1 ha with rfl | ha
        · exact Or.inl rfl
        · exact Or.inr ⟨ha, fun t ht => hb t (List.mem_cons_of_mem _ ht)⟩

theorem mem_maxR_iff (l : List (List Int)) (x : List Int) : x ∈ maxR l ↔ x ∈ l ∧ ∀ y ∈ l, y = x ∨ ¬ x <+: y := by
  unfold maxR
  rw [List.mem_filter, mem_sortW, topB, List.all_eq_true]
  simp only [mem_sortW, decide_eq_true_eq]

theorem maxR_asc (l : List (List Int)) : Asc (maxR l) := List.Pairwise.sublist List.filter_sublist (sortW_asc l)

/-- 'Maximal' of the program finds the same words. -/
theorem sortW_keepM {L l : List (List Int)} (h : L.Pairwise fun a b => lexI a b = -1) (hm : ∀ x, x ∈ L ↔ x ∈ l) : sortW (keepM L) = maxR l :=
  asc_ext (sortW_asc _) (maxR_asc l) fun x => by
    rw [mem_sortW, mem_keepM h, mem_maxR_iff]
    simp only [hm]

set_option maxRecDepth 100000 in
set_option maxHeartbeats 1600000 in
theorem wordsetMaximal_any {A : Option Addr} {n c : Nat} {l : List (List Int)} {w : World} (hx : RowOf w (IsI w) A n c l) (hn : n ≤ 1000000000) :
    Calls Tryd.prog 31 #[.slice A n c] w (NewW w (maxR l)) := by
  obtain ⟨i0, hi, hz0, hz1, hz2⟩ := info_parts Tryd.infoWord
  have HNL := Lib.hid hx.len
  have HO := Lib.hid (ordered_54 hx hn)
  clear hx
  go_enter Tryd.func31, Tryd.ntmps31
  go_wp2_with (go_at_call 50; refine HO.out.mono ?_; rintro e w1 ⟨L, hp, hm, hll, pv, rfl, hpo, hpb⟩; have hL9 : L.length ≤ 1000000000 := (by rw [HNL.out] at hll; omega); obtain ⟨Ap, cp, rfl, hpr⟩ := hpo.rowOf (by omega))
  have HM := Lib.hid (sortW_keepM hp hm)
  have HB := Lib.hid hpb
  have hsz := hpb.size
  have HSUB := Lib.hid (keepM_sub L).length_le
  clear hpo hpb HO hp hm hll
  go_loopw [4, 5, 6, 11] (fun v _ _ i wr => ∃ (k : Nat) (acc : List (List Int)), k ≤ L.length ∧ i = .int .i64 k ∧ OwnW wr w1.heap.size v acc ∧ Below w1.heap.size w1 wr ∧ Hid (keepM L = acc ++ keepM (L.drop k))) (fun _ _ _ i _ => L.length - (intOf i).toNat)
  case atStart => exact ⟨0, [], by omega, rfl, OwnW.nil_ _ _, Below.refl _ _, Lib.hid (by simp)⟩
  case round =>
    obtain ⟨k, acc, hk, rfl, hown, hbel, HT⟩ := hrel
    by_cases h1 : k < L.length
    · obtain ⟨b1, o1, A1, n1, c1, x, rfl, hx1, hx2, hx3⟩ := hpr.word_at h1
      have hkeep : Keeps w1 wr := Below.to_keeps hbel
      have hcx := hkeep _ _ hx2
      have hrx := hx3.kept hkeep
      have hlt := hown.lt
      have hacc : acc.length + 1 ≤ 1000000000 + 1 := by
        have h3 := congrArg List.length HT.out
        rw [List.length_append] at h3
        have := HSUB.out
        omega
      have HIX := Lib.hid (And.intro hx3.isI hx1)
      clear hx1 hx2 hx3
      by_cases hlast : k + 1 = L.length
      · have d1 : ((k : Int) + 1 == (L.length : Int)) = true := by simp; omega
        have HST := Lib.hid (keepM_end HIX.out.2 hlast)
        have HLA := Lib.hid hlast
        clear hlast
        obtain ⟨us, hul, hrow, hel⟩ := hown
        have hrowA : ∀ q o, ((wr.alloc o).drewN q).ownsRow w1.heap.size 38 1 u4 us.length us := fun q o => hrow.alloc o
        have hsrc : ∀ q t, Src ((wr.alloc (.cells #[.slice A1 n1 c1] t)).drewN q) (some ⟨wr.heap.size, 0, none⟩) 1 [.slice A1 n1 c1] := fun q t => src_one wr _ t
        have hrowB : ∀ o, (wr.alloc o).ownsRow w1.heap.size 38 1 u4 us.length us := fun o => hrow.alloc o
        have hc1 : us.length + 1 ≤ maxLen := by unfold maxLen; omega
        have hc2 : (us.length + 1) * 24 ≤ 140737488355328 := by omega
        have hc3 : ∀ o, w1.heap.size ≤ (wr.alloc o).heap.size := fun o => by have := hbel.size; simp; omega
        have HU := Lib.hid hul
        have HE := Lib.hid hel
        have HBI := Lib.hid hbel
        clear hul hel hrow hbel
        go_wp2_with (at_builtin; refine wpList_append_row rfl (.tmp 31) (.tmp 33) 25 rfl w1.heap.size 38 i0 (.slice none 0 0) 24 Tryd.underlying25 hi hz0 hz1 hz2 rfl u4 _ us rfl (hrowB _) _ 1 1 [.slice A1 n1 c1] rfl (src_one _ _ _) (one_cell _) hc1 hc2 (hc3 _) ?_; intro v1 w2 hown1 hg1 hb1)
        have hpush := OwnW.push HU.out HE.out (HIX.out.1.below HBI.out) (HIX.out.1.off_old fun g e => (hlt g e).1) (World.grownBy_alloc wr _ none) hown1 hg1 hb1
        have hbel1 := (HBI.out.alloc HBI.out.size _).grown hg1 (hc3 _) (fun g e => (hlt g e).1)
        clear hown1 hg1 hb1
        have HF := Lib.hid (And.intro hpush hbel1)
        clear hpush hbel1
        go_roundw
        case rel => exact ⟨k + 1, acc ++ [x], by omega, by go_num, HF.out.1, HF.out.2, Lib.hid (by rw [HT.out, HST.out]; simp)⟩
        case measure => simp [intOf] <;> omega
      · have d1 : ((k : Int) + 1 == (L.length : Int)) = false := by simp; omega
        have hk1 : k + 1 < L.length := by omega
        obtain ⟨u9, y, hy1, hy2, A2, n2, c2, rfl, hy3⟩ := hpr.at_some hk1
        have hcy := hkeep _ _ hy2
        have hry := hy3.kept hkeep
        have HST := Lib.hid (keepM_step HIX.out.2 hy1)
        clear hy1 hy2 hy3 hlast
        by_cases hpp : x <+: y
        · have d2 : decide (x <+: y) = true := decide_eq_true hpp
          have HPP := Lib.hid hpp
          have HOW := Lib.hid (And.intro hown hbel)
          clear hpp hown hbel
          go_wp2_with (go_at_call 55; refine (wordHasPrefix_any hry hrx).mono ?_; rintro e w' ⟨rfl, q, rfl⟩)
          go_roundw
          case rel =>
            refine ⟨k + 1, acc, by omega, by go_num, ?_, ?_, Lib.hid (by rw [HT.out, HST.out, if_pos HPP.out])⟩
            · exact HOW.out.1
            · exact ⟨HOW.out.2.os, HOW.out.2.tape, HOW.out.2.output, HOW.out.2.size, HOW.out.2.block⟩
          case measure => simp [intOf] <;> omega
        · have d2 : decide (x <+: y) = false := decide_eq_false hpp
          have HPP := Lib.hid hpp
          clear hpp
          obtain ⟨us, hul, hrow, hel⟩ := hown
          have hrowA : ∀ q o, ((wr.alloc o).drewN q).ownsRow w1.heap.size 38 1 u4 us.length us := fun q o => hrow.alloc o
          have hsrc : ∀ q t, Src ((wr.alloc (.cells #[.slice A1 n1 c1] t)).drewN q) (some ⟨wr.heap.size, 0, none⟩) 1 [.slice A1 n1 c1] := fun q t => src_one wr _ t
          have hc1 : us.length + 1 ≤ maxLen := by unfold maxLen; omega
          have hc2 : (us.length + 1) * 24 ≤ 140737488355328 := by omega
          have hc3 : ∀ q o, w1.heap.size ≤ ((wr.alloc o).drewN q).heap.size := fun q o => by show w1.heap.size ≤ (wr.alloc o).heap.size; have := hbel.size; simp; omega
          have HU := Lib.hid hul
          have HE := Lib.hid hel
          have HBI := Lib.hid hbel
          clear hul hel hrow hbel
          go_wp2_with (first | (go_at_call 55; refine (wordHasPrefix_any hry hrx).mono ?_; rintro e w' ⟨rfl, q, rfl⟩) | (at_builtin; refine wpList_append_row rfl (.tmp 31) (.tmp 33) 25 rfl w1.heap.size 38 i0 (.slice none 0 0) 24 Tryd.underlying25 hi hz0 hz1 hz2 rfl u4 _ us rfl (hrowA _ _) _ 1 1 [.slice A1 n1 c1] rfl (hsrc _ _) (one_cell _) hc1 hc2 (hc3 _ _) ?_; intro v1 w2 hown1 hg1 hb1))
          have hpush := OwnW.push HU.out HE.out (HIX.out.1.below HBI.out) (HIX.out.1.off_old fun g e => (hlt g e).1) (grown_from (World.grownBy.refl _ none)) hown1 hg1 (by simpa using hb1)
          have hbel1 : Below w1.heap.size w1 w2 := HBI.out.grown (grown_from hg1) HBI.out.size (fun g e => (hlt g e).1)
          clear hown1 hg1 hb1
          have HF := Lib.hid (And.intro hpush hbel1)
          clear hpush hbel1
          go_roundw
          case rel => exact ⟨k + 1, acc ++ [x], by omega, by go_num, HF.out.1, HF.out.2, Lib.hid (by rw [HT.out, HST.out, if_neg HPP.out]; simp)⟩
          case measure => simp [intOf] <;> omega
    · have hacc : acc = keepM L := by
        rw [HT.out, List.drop_eq_nil_of_le (by omega)]
        simp [keepM]
      rw [hacc] at hown
      have hal := HSUB.out
      obtain ⟨A1, c1, rfl, hr⟩ := hown.rowOf (by omega)
      have HS := Lib.hid (wordsetSorted_any hr (by omega))
      have HBL := Lib.hid hbel
      have hsz2 := hbel.size
      clear hr hown hbel hacc HT
      go_wp2_with (go_at_call 22; refine HS.out.mono ?_; rintro e w3 ⟨v, rfl, hO, hB⟩)
      go_ret
      have h9 := HM.out
      rw [← h9]
      exact ⟨_, rfl, hO.base (Nat.le_trans hsz hsz2), (HB.out.trans (HBL.out.mono hsz)).trans (hB.mono (Nat.le_trans hsz hsz2))⟩

set_option maxRecDepth 100000 in
set_option maxHeartbeats 800000 in
theorem wordsetSize_any {A : Option Addr} {n c : Nat} {l : List (List Int)} {w : World} (hx : RowOf w (IsI w) A n c l) (hn : n ≤ 1000000) (hl : ∀ x ∈ l, x.length ≤ 1000000) :
    Calls Tryd.prog 23 #[.slice A n c] w (TwoN w (maxR l).length (sumLen (maxR l))) := by
  have hpl := maxR_length l
  rw [hx.len] at hpl
  have hml : ∀ x ∈ maxR l, x.length ≤ 1000000 := fun x hx => hl x (mem_maxR hx)
  have HS := Lib.hid (wordsetMaximal_any hx (by omega))
  generalize maxR l = p at hpl HS hml
  have HML := Lib.hid hml
  clear hx hml hl
  go_enter Tryd.func23, Tryd.ntmps23
  go_wp2_with (go_at_call 31; refine HS.out.mono ?_; rintro e w1 ⟨pv, rfl, hpo, hpb⟩; obtain ⟨Ap, cp, rfl, hpr⟩ := hpo.rowOf (by omega))
  have HB := Lib.hid hpb
  clear hpo hpb HS
  go_loop [4, 6, 11] (fun v _ i => ∃ k m : Nat, k ≤ p.length ∧ i = .int .i64 k ∧ v = .int .i64 m ∧ m ≤ k * 1000000 ∧ Hid (m = sumLen (p.take k))) (fun _ _ i => p.length - (intOf i).toNat)
  case atStart => exact ⟨0, 0, by omega, rfl, rfl, by omega, Lib.hid (by simp [sumLen])⟩
  case round =>
    obtain ⟨k, m, hk, rfl, rfl, hm, HT⟩ := hrel
    by_cases h1 : k < p.length
    · obtain ⟨b, o, A1, n1, c1, x, rfl, hx1, hx2, hx3⟩ := hpr.word_at h1
      have hxl := HML.out x (List.mem_of_getElem? hx1)
      rw [hx3.len] at hxl
      have HX := Lib.hid hx1
      clear hx1
      have HN := Lib.hid hx3.len
      go_wp2
      go_round
      case rel => exact ⟨k + 1, m + n1, by omega, by go_num, by first | rfl | go_num, by omega, Lib.hid (by rw [sumLen_step HX.out, HT.out, HN.out])⟩
      case measure => simp [intOf] <;> omega
    · go_wp2
      go_ret2
      have ht := HT.out
      rw [List.take_of_length_le (by omega)] at ht
      exact ⟨by rw [← ht]; rfl, HB.out⟩

end Go.Proofs.YtmlghnfbjkcelaaDoor
