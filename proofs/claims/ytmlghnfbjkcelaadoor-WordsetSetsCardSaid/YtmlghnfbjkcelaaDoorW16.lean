/-
  Walks of the program's slices.Grow and slices.Concat (of words, of lists of words), word.Join and wordset.Union.
-/
import Derived.Test.YtmlghnfbjkcelaaDoorW15
import Derived.Lib.AppendZeros
namespace Go.Proofs.YtmlghnfbjkcelaaDoor
open Go.RowKit

/-- An empty row of the call's own, with room. -/
def GrowPost (t : TypeId) (w : World) (e : Ending) (w' : World) : Prop := ∃ v', e = .returned v' ∧ w'.ownsRow w.heap.size t 1 v' 0 [] ∧ Below w.heap.size w w'

theorem ownsRow_zeros (w : World) (Z : Array Value) (t : TypeId) (c : Nat) (hc : c ≤ maxLen) (hZ : Z.size = c) :
    (w.drew.alloc (.cells Z t)).ownsRow w.heap.size t 1 (.slice (some ⟨w.heap.size, 0, none⟩) 0 c) 0 [] := by
  refine ⟨rfl, .inr ⟨w.heap.size, c, Z, rfl, Nat.le_refl _, ?_, Nat.zero_le _, hc, by omega, by simp⟩⟩
  exact heap_alloc_new w.drew _

theorem below_zeros (w : World) (o : Obj) : Below w.heap.size w (w.drew.alloc o) := (Below.refl w.heap.size w).drew.alloc (Nat.le_refl _) o


set_option maxRecDepth 100000 in
set_option maxHeartbeats 800000 in
theorem growI_any (n : Nat) (hn : n ≤ 1000000000) (w : World) :
    Calls Tryd.prog 77 #[.slice none 0 0, .int .i64 n] w (GrowPost 3 w) := by
  obtain ⟨i0, hi, hz0, hz1, hz2⟩ := info_parts Tryd.infoInt
  have h1 : ¬ ((n : Int) < 0) := by omega
  by_cases h0 : n = 0
  · subst h0
    go_enter Tryd.func77, Tryd.ntmps77
    go_wp2
    go_ret
    exact ⟨_, rfl, World.ownsRow_nil _ _ _ _, Below.refl _ _⟩
  · have h4 : (n : Int) > 0 := by omega
    have happ := Lib.run_append_nil_zeros (P := Tryd.prog) w 38 3 38 3 i0 (.int .i64 0) .i64 .i64 Tryd.underlying38 Tryd.underlying3 hi hz0 n (by omega) (by omega) (by omega) (by rw [hz2]; omega)
    generalize hcap : grownCap w n 0 3 = cap2 at happ
    have hcapge : n ≤ cap2 := by rw [← hcap]; exact grownCap_ge w _ 0 _
    have hcaple : cap2 ≤ maxLen := by rw [← hcap]; exact grownCap_le_maxLen w _ 0 _ (by unfold maxLen; omega)
    generalize hZ : (Builtin.zeroCells (Value.cells (.int .i64 0)) n ++ Builtin.zeroCells (Value.cells (.int .i64 0)) (cap2 - n)) = Z at happ
    have hZs : Z.size = cap2 := by rw [← hZ]; simp [size_zeroCells, Value.cells]; omega
    have hown := ownsRow_zeros w Z 3 cap2 hcaple hZs
    have hcap63 : cap2 ≤ 9223372036854775807 := by unfold maxLen at hcaple; omega
    have HO := Lib.hid (And.intro hown (below_zeros w (.cells Z 3)))
    clear hcap hZ hown hZs
    go_enter Tryd.func77, Tryd.ntmps77
    go_wp2_with (at_builtin; refine Lib.wpList_append_run _ rfl _ _ _ _ rfl _ _ rfl rfl _ _ happ ?_)
    go_ret
    exact ⟨_, rfl, HO.out.1, HO.out.2⟩

set_option maxRecDepth 100000 in
set_option maxHeartbeats 800000 in
theorem growW_any (n : Nat) (hn : n ≤ 1000000000) (w : World) :
    Calls Tryd.prog 57 #[.slice none 0 0, .int .i64 n] w (GrowPost 38 w) := by
  obtain ⟨i0, hi, hz0, hz1, hz2⟩ := info_parts Tryd.infoWord
  have h1 : ¬ ((n : Int) < 0) := by omega
  by_cases h0 : n = 0
  · subst h0
    go_enter Tryd.func57, Tryd.ntmps57
    go_wp2
    go_ret
    exact ⟨_, rfl, World.ownsRow_nil _ _ _ _, Below.refl _ _⟩
  · have h4 : (n : Int) > 0 := by omega
    have happ := Lib.run_append_nil_zeros (P := Tryd.prog) w 25 3 25 38 i0 (.slice none 0 0) .i64 .i64 Tryd.underlying25 Tryd.underlying3 hi hz0 n (by omega) (by omega) (by omega) (by rw [hz2]; omega)
    generalize hcap : grownCap w n 0 38 = cap2 at happ
    have hcapge : n ≤ cap2 := by rw [← hcap]; exact grownCap_ge w _ 0 _
    have hcaple : cap2 ≤ maxLen := by rw [← hcap]; exact grownCap_le_maxLen w _ 0 _ (by unfold maxLen; omega)
    generalize hZ : (Builtin.zeroCells (Value.cells (.slice none 0 0)) n ++ Builtin.zeroCells (Value.cells (.slice none 0 0)) (cap2 - n)) = Z at happ
    have hZs : Z.size = cap2 := by rw [← hZ]; simp [size_zeroCells, Value.cells]; omega
    have hown := ownsRow_zeros w Z 38 cap2 hcaple hZs
    have hcap63 : cap2 ≤ 9223372036854775807 := by unfold maxLen at hcaple; omega
    have HO := Lib.hid (And.intro hown (below_zeros w (.cells Z 38)))
    clear hcap hZ hown hZs
    go_enter Tryd.func57, Tryd.ntmps57
    go_wp2_with (at_builtin; refine Lib.wpList_append_run _ rfl _ _ _ _ rfl _ _ rfl rfl _ _ happ ?_)
    go_ret
    exact ⟨_, rfl, HO.out.1, HO.out.2⟩

theorem flat_take_get {α : Type} {ls : List (List α)} {k : Nat} {m : List α} (h : ls[k]? = some m) : (ls.take (k + 1)).flatten.length = (ls.take k).flatten.length + m.length := by
  rw [flatten_snoc h, List.length_append]

set_option maxRecDepth 100000 in
set_option maxHeartbeats 800000 in
theorem concatI_any {A : Option Addr} {n c : Nat} {l : List (List Int)} {w : World} (hx : RowOf w (IsI w) A n c l) (hn : l.flatten.length ≤ 1000000000) :
    Calls Tryd.prog 58 #[.slice A n c] w (NewI w l.flatten) := by
  have HL := Lib.hid hx.len
  have hns := hx.small
  obtain ⟨j0, ji, jz0, jz1, jz2⟩ := info_parts Tryd.infoInt
  go_enter Tryd.func58, Tryd.ntmps58
  go_wp2
  go_loop [3, 5, 11] (fun s _ i => ∃ k m : Nat, k ≤ n ∧ i = .int .i64 k ∧ s = .int .i64 m ∧ m ≤ 1000000000 ∧ Hid (m = (l.take k).flatten.length)) (fun _ _ i => n - (intOf i).toNat)
  case atStart => exact ⟨0, 0, by omega, rfl, rfl, by omega, Lib.hid (by simp)⟩
  case round =>
    obtain ⟨k, m, hk, rfl, rfl, hm, HM⟩ := hrel
    by_cases h1 : k < n
    · obtain ⟨b, o, A1, n1, c1, x, rfl, hx1, hx2, hx3⟩ := hx.word_at h1
      have hlen : m + n1 ≤ 1000000000 := by
        have := flatten_take_le l (k + 1)
        rw [flat_take_get hx1, hx3.len, ← HM.out] at this
        omega
      have hw : wrap64 ((m : Int) + (n1 : Int)) = (m : Int) + (n1 : Int) := by unfold wrap64; omega
      have h2 : ¬ ((m : Int) + (n1 : Int) < 0) := by omega
      have HX := Lib.hid (And.intro hx1 hx3.len)
      clear hx1 hx3
      go_wp2
      go_round
      case rel => exact ⟨k + 1, m + n1, by omega, by go_num, by go_num, hlen, Lib.hid (by rw [flat_take_get HX.out.1, HX.out.2, HM.out])⟩
      case measure => simp [intOf] <;> omega
    · go_wp2_with (go_at_call 77; refine (growI_any m hm _).mono ?_; rintro e w' ⟨v', rfl, hown', hb'⟩)
      have HM' : Hid True := Lib.hid trivial
      clear HM
      go_loopw [6, 8, 27] (fun v _ i wr => ∃ k : Nat, k ≤ n ∧ i = .int .i64 k ∧ OwnI wr w.heap.size v (l.take k).flatten ∧ Below w.heap.size w wr) (fun _ _ i _ => n - (intOf i).toNat)
      case atStart => exact ⟨0, by omega, rfl, by unfold OwnI; simpa using hown', hb'⟩
      case round =>
        obtain ⟨k, hk, rfl, hown, hbel⟩ := hrel
        by_cases h1 : k < n
        · obtain ⟨b, o, A1, n1, c1, x, rfl, hx1, hx2, hx3⟩ := hx.word_at h1
          have HX := Lib.hid hx1
          clear hx1
          have hc := Below.to_keeps hbel _ _ hx2
          have hsrc := (hx3.kept (Below.to_keeps hbel)).src
          have hlt := hown.lt
          have hlen : (l.take k).flatten.length + n1 ≤ 1000000000 := by
            have := flatten_take_le l (k + 1)
            rw [flatten_snoc HX.out, List.length_append, hx3.len] at this
            omega
          have hc1 : (l.take k).flatten.length + n1 ≤ maxLen := by unfold maxLen; omega
          have hc2 : ((l.take k).flatten.length + n1) * 8 ≤ 140737488355328 := by omega
          have hc3 := hbel.size
          have HXL := Lib.hid hx3.len
          have HO := Lib.hid hown
          have HB := Lib.hid hbel
          clear hx2 hx3 hown hbel
          go_wp2_with (at_builtin; refine wpList_append_row rfl (.tmp 31) (.tmp 32) 38 rfl w.heap.size 3 j0 (.int .i64 0) 8 Tryd.underlying38 ji jz0 jz1 jz2 rfl u6 _ _ rfl HO.out A1 n1 c1 _ rfl hsrc (ints_oneCell _ _) hc1 hc2 hc3 ?_; intro v1 w1 hown1 hg1 hb1)
          have hfin : OwnI w1 w.heap.size v1 (l.take (k + 1)).flatten := by
            rw [flatten_snoc HX.out]
            unfold OwnI
            rw [List.length_append, List.map_append, HXL.out]
            exact hown1
          have hbel' := with_step (v' := v1) (row := none) HB.out hlt hg1
          clear hown1 hg1 hb1 hc1 hc2 hc3 hsrc
          go_roundw
          case rel => exact ⟨k + 1, by omega, by go_num, hfin, hbel'⟩
          case measure => simp [intOf] <;> omega
        · go_wp2
          go_ret
          rw [List.take_of_length_le (by rw [HL.out]; omega)] at hown
          exact ⟨_, rfl, hown, hbel⟩

set_option maxRecDepth 100000 in
set_option maxHeartbeats 400000 in
theorem wordJoin_any {A : Option Addr} {n c : Nat} {l : List (List Int)} {w : World} (hx : RowOf w (IsI w) A n c l) (hn : l.flatten.length ≤ 1000000000) :
    Calls Tryd.prog 35 #[.slice A n c] w (NewI w l.flatten) := by
  have hcall := concatI_any hx hn
  clear hx
  go_enter Tryd.func35, Tryd.ntmps35
  go_wp2_with (go_at_call 58; refine hcall.mono ?_; rintro e w' ⟨v', rfl, hown', hb'⟩)
  go_ret
  exact ⟨_, rfl, hown', hb'⟩

set_option maxRecDepth 100000 in
set_option maxHeartbeats 800000 in
theorem concatW_any {A : Option Addr} {n c : Nat} {ls : List (List (List Int))} {w : World} (hx : RowOf w (IsW w) A n c ls) (hn : ls.flatten.length ≤ 1000000000) :
    Calls Tryd.prog 33 #[.slice A n c] w (NewW w ls.flatten) := by
  have HL := Lib.hid hx.len
  have hns := hx.small
  obtain ⟨i0, hi, hz0, hz1, hz2⟩ := info_parts Tryd.infoWord
  go_enter Tryd.func33, Tryd.ntmps33
  go_wp2
  go_loop [3, 5, 11] (fun s _ i => ∃ k m : Nat, k ≤ n ∧ i = .int .i64 k ∧ s = .int .i64 m ∧ m ≤ 1000000000 ∧ Hid (m = (ls.take k).flatten.length)) (fun _ _ i => n - (intOf i).toNat)
  case atStart => exact ⟨0, 0, by omega, rfl, rfl, by omega, Lib.hid (by simp)⟩
  case round =>
    obtain ⟨k, m, hk, rfl, rfl, hm, HM⟩ := hrel
    by_cases h1 : k < n
    · obtain ⟨b, o, A1, n1, c1, x, rfl, hx1, hx2, hx3⟩ := hx.list_at h1
      have hlen : m + n1 ≤ 1000000000 := by
        have := flatten_take_le ls (k + 1)
        rw [flat_take_get hx1, hx3.len, ← HM.out] at this
        omega
      have hw : wrap64 ((m : Int) + (n1 : Int)) = (m : Int) + (n1 : Int) := by unfold wrap64; omega
      have h2 : ¬ ((m : Int) + (n1 : Int) < 0) := by omega
      have HX := Lib.hid (And.intro hx1 hx3.len)
      clear hx1 hx3
      go_wp2
      go_round
      case rel => exact ⟨k + 1, m + n1, by omega, by go_num, by go_num, hlen, Lib.hid (by rw [flat_take_get HX.out.1, HX.out.2, HM.out])⟩
      case measure => simp [intOf] <;> omega
    · go_wp2_with (go_at_call 57; refine (growW_any m hm _).mono ?_; rintro e w' ⟨v', rfl, hown', hb'⟩)
      clear HM
      go_loopw [6, 8, 27] (fun v _ i wr => ∃ k : Nat, k ≤ n ∧ i = .int .i64 k ∧ OwnW wr w.heap.size v (ls.take k).flatten ∧ Below w.heap.size w wr) (fun _ _ i _ => n - (intOf i).toNat)
      case atStart => exact ⟨0, by omega, rfl, ⟨[], by simp, by simpa using hown', fun i x h => by simp at h⟩, hb'⟩
      case round =>
        obtain ⟨k, hk, rfl, hown, hbel⟩ := hrel
        by_cases h1 : k < n
        · obtain ⟨b, o, A1, n1, c1, x, rfl, hx1, hx2, hx3⟩ := hx.list_at h1
          have HX := Lib.hid hx1
          clear hx1
          have hc := Below.to_keeps hbel _ _ hx2
          obtain ⟨news, hsrc, hnews⟩ := (hx3.words (Below.to_keeps hbel)).cells
          have hnl := hsrc.1
          have hone := news_oneCell hnl hx3.len hnews
          have hlt := hown.lt
          obtain ⟨us, hul, hrow, hel⟩ := hown
          have HE := Lib.hid hel
          have hnews' : ∀ (i : Nat) y, x[i]? = some y → ∃ u, news[i]? = some u ∧ IsI wr u y ∧ Off u u6.ownBlock := fun i y hy => by
            obtain ⟨u, hu, hi'⟩ := hnews i y hy
            refine ⟨u, hu, hi', ?_⟩
            obtain ⟨b', o', hA, hc'⟩ := hx3.2.2.2 (by have := (List.getElem?_eq_some_iff.1 hy).1; rw [hx3.len] at this; omega)
            obtain ⟨u', hu', hi''⟩ := hc' i y hy
            obtain ⟨b2, o2, hA2, hc2⟩ := hsrc.2 (by have := (List.getElem?_eq_some_iff.1 hy).1; rw [hx3.len] at this; omega)
            rw [hA] at hA2
            injection hA2 with hA2
            injection hA2 with e1 e2
            subst e1 e2
            have h5 := hc2 i u hu
            have h6 := Below.to_keeps hbel _ _ hu'
            rw [h5] at h6
            injection h6 with h6
            subst h6
            exact hi''.off_old fun g e => (hlt g e).1
          have HN := Lib.hid hnews'
          have HUL := Lib.hid hul
          have hlen : us.length + n1 ≤ 1000000000 := by
            have := length_flatten_take ls (k + 1)
            rw [flatten_step HX.out, List.length_append, hx3.len] at this
            omega
          have hc1 : us.length + n1 ≤ maxLen := by unfold maxLen; omega
          have hc2 : (us.length + n1) * 24 ≤ 140737488355328 := by omega
          have hc3 := hbel.size
          have HX3 := Lib.hid (And.intro hnl hx3.len)
          clear hnews hnews' hel hul hx2 hx3 hnl
          go_wp2_with (at_builtin; refine wpList_append_row rfl (.tmp 31) (.tmp 32) 25 rfl w.heap.size 38 i0 (.slice none 0 0) 24 Tryd.underlying25 hi hz0 hz1 hz2 rfl u6 _ us rfl hrow A1 n1 c1 news rfl hsrc hone hc1 hc2 hc3 ?_; intro v1 w1 hown1 hg1 hb1)
          rw [← HX3.out.1] at hown1
          have hfin := OwnW.pushAll HUL.out HE.out (by rw [HX3.out.1, HX3.out.2]) HN.out hown1 hg1 hb1
          rw [← flatten_step HX.out] at hfin
          have hbel' := with_step (v' := v1) (row := none) hbel hlt hg1
          clear hown1 hg1 hb1 hc1 hc2 hc3 hsrc hone hrow hbel
          go_roundw
          case rel => exact ⟨k + 1, by omega, by go_num, hfin, hbel'⟩
          case measure => simp [intOf] <;> omega
        · go_wp2
          go_ret
          rw [List.take_of_length_le (by rw [HL.out]; omega)] at hown
          exact ⟨_, rfl, hown, hbel⟩

set_option maxRecDepth 100000 in
set_option maxHeartbeats 400000 in
theorem wordsetUnion_any {A : Option Addr} {n c : Nat} {ls : List (List (List Int))} {w : World} (hx : RowOf w (IsW w) A n c ls) (hn : ls.flatten.length ≤ 1000000) :
    Calls Tryd.prog 12 #[.slice A n c] w (NewW w (sortW ls.flatten)) := by
  have hcall := concatW_any hx (by omega)
  clear hx
  go_enter Tryd.func12, Tryd.ntmps12
  go_wp2_with (first | (go_at_call 33; refine hcall.mono ?_; rintro e w' ⟨v', rfl, hown', hb'⟩; obtain ⟨A1, n1, c1, rfl, hr⟩ := hown'.isW (by omega); have HC := Lib.hid (wordsetSorted_any hr (by rw [← hr.len]; omega)); have HB := Lib.hid hb'; clear hown' hb' hr) | (go_at_call 22; refine HC.out.mono ?_; rintro e w' ⟨v', rfl, hown', hb'⟩))
  go_ret
  exact ⟨_, rfl, hown'.base HB.out.size, HB.out.trans (hb'.mono HB.out.size)⟩

end Go.Proofs.YtmlghnfbjkcelaaDoor
