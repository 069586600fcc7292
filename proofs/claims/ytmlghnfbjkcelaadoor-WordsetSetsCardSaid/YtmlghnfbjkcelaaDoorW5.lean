/-
  Walks of the reference's functions that make lists: Sorted, Union, Prefixes, Suffixes.
-/
import Derived.Test.YtmlghnfbjkcelaaDoorW4
namespace Go.Proofs.YtmlghnfbjkcelaaDoor
open Go.RowKit

/-- It hands back a list of words in memory of its own; nothing that was there has turned. -/
def NewW (w : World) (l : List (List Int)) (e : Ending) (w' : World) : Prop := ∃ v', e = .returned v' ∧ OwnW w' w.heap.size v' l ∧ Below w.heap.size w w'

theorem IsI.off_old {w : World} {u : Value} {x : List Int} (h : IsI w u x) {row : Option Nat} (hr : ∀ g, row = some g → w.heap.size ≤ g) : Off u row := fun a n c e h0 hh => by
  have := h.lt a n c e h0
  have := hr _ hh
  omega

/-- The cells of a row, as a list. -/
theorem RowOf.cells {α : Type} {w : World} {R : Value → α → Prop} {A : Option Addr} {n c : Nat} {l : List α} (h : RowOf w R A n c l) :
    ∃ news : List Value, Src w A n news ∧ ∀ (i : Nat) x, l[i]? = some x → ∃ u, news[i]? = some u ∧ R u x := by
  rcases Nat.eq_zero_or_pos n with h0 | h0
  · subst h0
    have : l = [] := List.eq_nil_of_length_eq_zero h.1
    subst this
    exact ⟨[], ⟨rfl, fun h => absurd h (by omega)⟩, fun i x hx => by simp at hx⟩
  · obtain ⟨b, o, e, hc⟩ := h.2.2.2 h0
    have hlen := h.1
    refine ⟨(List.range n).map fun i => (w.cell? ⟨b, o + i, none⟩).getD undef, ⟨by simp, fun _ => ⟨b, o, e, fun j u hu => ?_⟩⟩, fun i x hx => ?_⟩
    · rw [List.getElem?_map] at hu
      by_cases hj : j < n
      · rw [List.getElem?_range hj] at hu
        simp at hu
        obtain ⟨u', hu', _⟩ := hc j l[j] (List.getElem?_eq_getElem (by omega))
        rw [hu'] at hu ⊢
        simpa using hu
      · rw [List.getElem?_eq_none (by simp; omega)] at hu
        cases hu
    · obtain ⟨u, hu, hr⟩ := hc i x hx
      have hi : i < n := by rw [← hlen]; exact (List.getElem?_eq_some_iff.1 hx).1
      exact ⟨u, by rw [List.getElem?_map, List.getElem?_range hi]; simp [hu], hr⟩

theorem Below.to_keeps {w w' : World} (h : Below w.heap.size w w') : Keeps w w' := Keeps.of_below h

/-- The relation of a loop that puts words into an owned list. -/
theorem with_step {w wr w' : World} {v v' : Value} {row : Option Nat} (hb : Below w.heap.size w wr) (hv : ∀ k, v.ownBlock = some k → w.heap.size ≤ k ∧ k < wr.heap.size) (hg : wr.grownBy w' v.ownBlock) : Below w.heap.size w w' :=
  hb.grown hg hb.size fun g e => (hv g e).1

set_option maxRecDepth 100000 in
set_option maxHeartbeats 400000 in
theorem R02Sorted_any {A : Option Addr} {n c : Nat} {l : List (List Int)} {w : World} (hx : RowOf w (IsI w) A n c l) (hn : n ≤ 1000000000) :
    Calls Tryd.prog 25 #[.slice A n c] w (NewW w (sortW l)) := by
  have HL := Lib.hid hx.len
  go_enter Tryd.func25, Tryd.ntmps25
  go_wp2
  go_loopw [3, 4] (fun v i wr => ∃ k : Nat, k ≤ n ∧ i = .int .i64 k ∧ OwnW wr w.heap.size v (sortW (l.take k)) ∧ Below w.heap.size w wr) (fun _ i _ => n - (intOf i).toNat)
  case atStart => exact ⟨0, by omega, rfl, OwnW.nil_ _ _, Below.refl _ _⟩
  case round =>
    obtain ⟨k, hk, rfl, hown, hbel⟩ := hrel
    by_cases h1 : k < n
    · obtain ⟨b, o, A1, n1, c1, x, rfl, hx1, hx2, hx3⟩ := hx.word_at h1
      have HX := Lib.hid hx1
      clear hx1
      have hc := Below.to_keeps hbel _ _ hx2
      have hu : IsI wr (.slice A1 n1 c1) x := hx3.isI.below hbel
      have hoff : Off (.slice A1 n1 c1) u3.ownBlock := hx3.isI.off_old fun g e => (hown.lt g e).1
      have hlen : (sortW (l.take k)).length ≤ 1000000000 := by have := sortW_length (l.take k); simp at this; omega
      have hcall := R02with_any (sortW_asc _) hown hu hoff hbel.size hlen
      have HO := Lib.hid (And.intro hown hbel)
      clear hu hoff hlen hx2 hx3 hown hbel
      go_wp2_with (go_at_call 40; refine hcall.mono ?_; rintro e w' ⟨v', rfl, hown', hg', hb'⟩)
      have hbel' := with_step (v' := v') (row := none) HO.out.2 HO.out.1.lt hg'
      have HN := Lib.hid (And.intro hown' hbel')
      clear hown' hg' hb' hbel' hcall
      go_roundw
      case rel => exact ⟨k + 1, by omega, by go_num, by rw [take_step HX.out, sortW_snoc]; exact HN.out.1, HN.out.2⟩
      case measure => simp [intOf]; omega
    · go_wp2
      go_ret
      rw [List.take_of_length_le (by rw [HL.out]; omega)] at hown
      exact ⟨_, rfl, hown, hbel⟩

theorem OwnW.pushAll {w w2 : World} {base : Nat} {v v' : Value} {l m : List (List Int)} {us news : List Value} (hul : us.length = l.length)
    (hel : ∀ (i : Nat) x, l[i]? = some x → ∃ u, us[i]? = some u ∧ IsI w u x ∧ Off u v.ownBlock) (hnl : news.length = m.length)
    (hnews : ∀ (i : Nat) x, m[i]? = some x → ∃ u, news[i]? = some u ∧ IsI w u x ∧ Off u v.ownBlock)
    (hown : w2.ownsRow base 38 1 v' (us.length + news.length) (us ++ news)) (hg : w.grownBy w2 v.ownBlock) (hb : v'.ownBlock = v.ownBlock ∨ v'.ownBlock = some w.heap.size) : OwnW w2 base v' (l ++ m) := by
  have key : ∀ u x, IsI w u x → Off u v.ownBlock → IsI w2 u x ∧ Off u v'.ownBlock := fun u x hi ho => by
    refine ⟨hi.grown hg ho, ?_⟩
    rcases hb with e | e
    · rw [e]; exact ho
    · rw [e]; exact hi.off_new (Nat.le_refl _)
  refine ⟨us ++ news, by simp [hul, hnl], by simpa using hown, fun i y hy => ?_⟩
  rw [List.getElem?_append] at hy
  split at hy
  · obtain ⟨u', hu', h3, h4⟩ := hel i y hy
    exact ⟨u', by rw [List.getElem?_append, if_pos (by omega)]; exact hu', key u' y h3 h4⟩
  · obtain ⟨u', hu', h3, h4⟩ := hnews _ y hy
    exact ⟨u', by rw [List.getElem?_append, if_neg (by omega), hul]; exact hu', key u' y h3 h4⟩

theorem news_oneCell {w : World} {n : Nat} {l : List (List Int)} {news : List Value} (hl : news.length = n) (hll : l.length = n) (h : ∀ (i : Nat) x, l[i]? = some x → ∃ u, news[i]? = some u ∧ IsI w u x) : ∀ u ∈ news, u.oneCell' = true := by
  intro u hu
  obtain ⟨i, hi⟩ := List.getElem?_of_mem hu
  have hlt : i < l.length := by rw [hll, ← hl]; exact (List.getElem?_eq_some_iff.1 hi).1
  obtain ⟨u', hu', ⟨A, n', c, rfl, _⟩⟩ := h i l[i] (List.getElem?_eq_getElem hlt)
  rw [hi] at hu'
  injection hu' with e
  rw [e]
  rfl

theorem length_flatten_take (ls : List (List (List Int))) (k : Nat) : (ls.take k).flatten.length ≤ ls.flatten.length := by
  have h := congrArg List.flatten (List.take_append_drop k ls)
  rw [List.flatten_append] at h
  rw [← h, List.length_append]
  omega

theorem flatten_step {ls : List (List (List Int))} {k : Nat} {m : List (List Int)} (h : ls[k]? = some m) : (ls.take (k + 1)).flatten = (ls.take k).flatten ++ m := by
  rw [take_step h, List.flatten_append]; simp

theorem RowOf.list_at {w : World} {A : Option Addr} {n c k : Nat} {l : List (List (List Int))} (h : RowOf w (IsW w) A n c l) (hk : k < n) :
    ∃ b o A' n' c' x, A = some ⟨b, o, none⟩ ∧ l[k]? = some x ∧ w.cell? ⟨b, o + k, none⟩ = some (.slice A' n' c') ∧ RowOf w (IsI w) A' n' c' x := by
  obtain ⟨b, o, u, x, e, hx, hu, A', n', c', rfl, hr⟩ := h.at_ hk
  exact ⟨b, o, A', n', c', x, e, hx, hu, hr⟩

set_option maxRecDepth 100000 in
set_option maxHeartbeats 400000 in
theorem R02Union_any {A : Option Addr} {n c : Nat} {ls : List (List (List Int))} {w : World} (hx : RowOf w (IsW w) A n c ls) (hn : ls.flatten.length ≤ 1000000000) :
    Calls Tryd.prog 13 #[.slice A n c] w (NewW w (sortW ls.flatten)) := by
  have HL := Lib.hid hx.len
  have hns := hx.small
  obtain ⟨i0, hi, hz0, hz1, hz2⟩ := info_parts Tryd.infoWord
  go_enter Tryd.func13, Tryd.ntmps13
  go_wp2
  go_loopw [3, 4] (fun v i wr => ∃ k : Nat, k ≤ n ∧ i = .int .i64 k ∧ OwnW wr w.heap.size v (ls.take k).flatten ∧ Below w.heap.size w wr) (fun _ i _ => n - (intOf i).toNat)
  case atStart => exact ⟨0, by omega, rfl, OwnW.nil_ _ _, Below.refl _ _⟩
  case round =>
    obtain ⟨k, hk, rfl, hown, hbel⟩ := hrel
    by_cases h1 : k < n
    · obtain ⟨b, o, A1, n1, c1, x, rfl, hx1, hx2, hx3⟩ := hx.list_at h1
      have HX := Lib.hid hx1
      clear hx1
      have hc := Below.to_keeps hbel _ _ hx2
      obtain ⟨news, hsrc, hnews⟩ := (hx3.words (Below.to_keeps hbel)).cells
      have hnl := hsrc.1
      have hone := news_oneCell hnl hx3.len hnews
      have hlt := hown.lt
      obtain ⟨us, hul, hrow, hel⟩ := hown
      have HE := Lib.hid hel
      have hnews' : ∀ (i : Nat) y, x[i]? = some y → ∃ u, news[i]? = some u ∧ IsI wr u y ∧ Off u u3.ownBlock := fun i y hy => by
        obtain ⟨u, hu, hi'⟩ := hnews i y hy
        refine ⟨u, hu, hi', ?_⟩
        obtain ⟨b', o', hA, hc'⟩ := hx3.2.2.2 (by have := (List.getElem?_eq_some_iff.1 hy).1; rw [hx3.len] at this; omega)
        obtain ⟨u', hu', hi''⟩ := hc' i y hy
        obtain ⟨b2, o2, hA2, hc2⟩ := hsrc.2 (by have := (List.getElem?_eq_some_iff.1 hy).1; rw [hx3.len] at this; omega)
        rw [hA] at hA2
        injection hA2 with hA2
        injection hA2 with e1 e2
        subst e1 e2
        have h5 := hc2 i u hu
        have h6 := Below.to_keeps hbel _ _ hu'
        rw [h5] at h6
        injection h6 with h6
        subst h6
        exact hi''.off_old fun g e => (hlt g e).1
      have HN := Lib.hid hnews'
      have HUL := Lib.hid hul
      have hlen : us.length + n1 ≤ 1000000000 := by
        have := length_flatten_take ls (k + 1)
        rw [flatten_step HX.out, List.length_append, hx3.len] at this
        omega
      have hc1 : us.length + n1 ≤ maxLen := by unfold maxLen; omega
      have hc2 : (us.length + n1) * 24 ≤ 140737488355328 := by omega
      have hc3 := hbel.size
      have HX3 := Lib.hid (And.intro hnl hx3.len)
      clear hnews hnews' hel hul hx2 hx3 hnl
      go_wp2_with (at_builtin; refine wpList_append_row rfl (.tmp 11) (.tmp 15) 25 rfl w.heap.size 38 i0 (.slice none 0 0) 24 Tryd.underlying25 hi hz0 hz1 hz2 rfl u3 _ us rfl hrow A1 n1 c1 news rfl hsrc hone hc1 hc2 hc3 ?_; intro v1 w1 hown1 hg1 hb1)
      rw [← HX3.out.1] at hown1
      have hfin := OwnW.pushAll HUL.out HE.out (by rw [HX3.out.1, HX3.out.2]) HN.out hown1 hg1 hb1
      rw [← flatten_step HX.out] at hfin
      have hbel' := with_step (v' := v1) (row := none) hbel hlt hg1
      clear hown1 hg1 hb1 hc1 hc2 hc3 hsrc hone hrow hbel
      go_roundw
      case rel => exact ⟨k + 1, by omega, by go_num, hfin, hbel'⟩
      case measure => simp [intOf]; omega
    · rw [List.take_of_length_le (by rw [HL.out]; omega)] at hown
      obtain ⟨A1, n1, c1, rfl, hr⟩ := hown.isW (by omega)
      have HO := Lib.hid (And.intro hown hbel)
      have hcall := R02Sorted_any hr (by rw [← hr.len]; exact hn)
      clear hown hbel hr
      go_wp2_with (go_at_call 25; refine hcall.mono ?_; rintro e w' ⟨v', rfl, hown', hb'⟩)
      go_ret
      refine ⟨_, rfl, ?_, HO.out.2.trans (hb'.mono HO.out.2.size)⟩
      obtain ⟨us, h1, h2, h3⟩ := hown'
      refine ⟨us, h1, ⟨h2.1, ?_⟩, h3⟩
      rcases h2.2 with h | ⟨g, cap, cur, h4, h5, h6⟩
      · exact .inl h
      · exact .inr ⟨g, cap, cur, h4, Nat.le_trans HO.out.2.size h5, h6⟩

/-- From place j on. -/
theorem RowOf.drop {α : Type} {w : World} {R : Value → α → Prop} {A : Option Addr} {n c j : Nat} {l : List α} (h : RowOf w R A n c l) (hj : j ≤ n) :
    RowOf w R (if c = j then A else A.map (·.add (j * 1))) (n - j) (c - j) (l.drop j) := by
  refine ⟨by rw [List.length_drop, h.len], by have := h.cap; omega, by have := h.small; omega, fun h0 => ?_⟩
  obtain ⟨b, o, rfl, hc⟩ := h.2.2.2 (by omega)
  rw [if_neg (by have := h.cap; omega)]
  refine ⟨b, o + j, by simp [addr_add], fun i x hx => ?_⟩
  rw [List.getElem?_drop] at hx
  obtain ⟨u, hu, hr⟩ := hc _ x hx
  exact ⟨u, by rw [Nat.add_assoc]; exact hu, hr⟩

theorem run_slice_low {P : Program} {w : World} (t e : TypeId) (i : TypeInfo) (ht : P.underlying t = some (.slice e)) (hi : P.info? e = some i) (hsize : i.size = 1) (A : Option Addr) (n c j : Nat) (hj : j ≤ n) :
    (Instr.sliceAt t (.slice A n c) (some (.int .i64 (j : Int))) none none).run P w = .ok (.slice (if c = j then A else A.map (·.add (j * 1))) (n - j) (c - j)) w := by
  have hz2 : (j : Int) ≤ n := by omega
  simp [Instr.sliceAt, Instr.slice, Instr.sliceBounds, Instr.sliceBound, run_underlying ht, sizeOf, typeInfo, hi, hsize, asIntOf, hz2]
  intro h
  omega

/-- 's[j:]'. -/
theorem wpList_slice_low {P : Program} {w w0 : World} {α : Type} {R : Value → α → Prop} {ops : Array Oper} {rest : List Oper} {o : Oper} {a : Act} {Q : Exit → Act → World → Prop} (hgd : o.guard = none) (x lo : Operand) (t e : TypeId)
    (ho : o.op = .slice t x (some lo) none none) (i : TypeInfo) (ht : P.underlying t = some (.slice e)) (hi : P.info? e = some i) (hsize : i.size = 1)
    (A : Option Addr) (n c j : Nat) (l : List α) (hx : a.eval x = .slice A n c) (hlo : a.eval lo = .int .i64 (j : Int)) (hr : RowOf w0 R A n c l) (hj : j ≤ n)
    (h : ∀ A', RowOf w0 R A' (n - j) (c - j) (l.drop j) → wpList P ops Q rest (a.put o.dst (.slice A' (n - j) (c - j))) w) : wpList P ops Q (o :: rest) a w :=
  wpList_plain hgd fun _ hK => by
    unfold Oper.wp execOp
    simp only [ho, Option.map_some, Option.map_none, hx, hlo, Sem.run_bind, run_slice_low t e i ht hi hsize A n c j hj, Result.andThen_ok, Sem.run_pure]
    exact hK _ _ (h _ (hr.drop hj))

def prefixes (x : List Int) : List (List Int) := (List.range (x.length + 1)).map x.take
def suffixes (x : List Int) : List (List Int) := (List.range (x.length + 1)).map x.drop
def preL (l : List (List Int)) : List (List Int) := l.flatMap prefixes
def sufL (l : List (List Int)) : List (List Int) := l.flatMap suffixes

theorem prefixes_take (x : List Int) {j : Nat} (hj : j ≤ x.length) : (prefixes x).take (j + 1) = (prefixes x).take j ++ [x.take j] := by
  have : (prefixes x)[j]? = some (x.take j) := by simp [prefixes, List.getElem?_range (show j < x.length + 1 by omega)]
  exact take_step this
theorem suffixes_take (x : List Int) {j : Nat} (hj : j ≤ x.length) : (suffixes x).take (j + 1) = (suffixes x).take j ++ [x.drop j] := by
  have : (suffixes x)[j]? = some (x.drop j) := by simp [suffixes, List.getElem?_range (show j < x.length + 1 by omega)]
  exact take_step this
theorem prefixes_length (x : List Int) : (prefixes x).length = x.length + 1 := by simp [prefixes]
theorem suffixes_length (x : List Int) : (suffixes x).length = x.length + 1 := by simp [suffixes]
theorem preL_step {l : List (List Int)} {k : Nat} {x : List Int} (h : l[k]? = some x) : preL (l.take (k + 1)) = preL (l.take k) ++ prefixes x := by rw [take_step h]; simp [preL]
theorem sufL_step {l : List (List Int)} {k : Nat} {x : List Int} (h : l[k]? = some x) : sufL (l.take (k + 1)) = sufL (l.take k) ++ suffixes x := by rw [take_step h]; simp [sufL]
theorem flatMap_take_le {f : List Int → List (List Int)} (l : List (List Int)) (k : Nat) : ((l.take k).flatMap f).length ≤ (l.flatMap f).length := by
  have h := congrArg (List.flatMap f) (List.take_append_drop k l)
  rw [List.flatMap_append] at h
  rw [← h, List.length_append]
  omega

theorem OwnW.base {w : World} {base base' : Nat} {v : Value} {l : List (List Int)} (h : OwnW w base v l) (hb : base' ≤ base) : OwnW w base' v l := by
  obtain ⟨us, h1, h2, h3⟩ := h
  refine ⟨us, h1, ⟨h2.1, ?_⟩, h3⟩
  rcases h2.2 with h | ⟨g, cap, cur, h4, h5, h6⟩
  · exact .inl h
  · exact .inr ⟨g, cap, cur, h4, Nat.le_trans hb h5, h6⟩

set_option maxRecDepth 100000 in
set_option maxHeartbeats 400000 in
theorem R02Prefixes_any {A : Option Addr} {n c : Nat} {l : List (List Int)} {w : World} (hx : RowOf w (IsI w) A n c l) (hn : (preL l).length ≤ 1000000000) :
    Calls Tryd.prog 28 #[.slice A n c] w (NewW w (sortW (preL l))) := by
  have HL := Lib.hid hx.len
  have hns := hx.small
  go_enter Tryd.func28, Tryd.ntmps28
  go_wp2
  go_loopw [3, 4, 5] (fun v i _ wr => ∃ k : Nat, k ≤ n ∧ i = .int .i64 k ∧ OwnW wr w.heap.size v (sortW (preL (l.take k))) ∧ Below w.heap.size w wr) (fun _ i _ _ => n - (intOf i).toNat)
  case atStart => exact ⟨0, by omega, rfl, OwnW.nil_ _ _, Below.refl _ _⟩
  case round =>
    obtain ⟨k, hk, rfl, hown, hbel⟩ := hrel
    by_cases h1 : k < n
    · obtain ⟨b, o, A1, n1, c1, x, rfl, hx1, hx2, hx3⟩ := hx.word_at h1
      have HX := Lib.hid hx1
      clear hx1
      have hxl := hx3.len
      have HXL := Lib.hid hxl
      clear hxl
      have hn1 := hx3.small
      have HO := Lib.hid hown
      have HB := Lib.hid hbel
      clear hown hbel
      go_wp2
      go_loopw [3, 5] (fun v j wi => ∃ t : Nat, t ≤ n1 + 1 ∧ j = .int .i64 t ∧ OwnW wi w.heap.size v (sortW (preL (l.take k) ++ (prefixes x).take t)) ∧ Below w.heap.size w wi) (fun _ j _ => n1 + 1 - (intOf j).toNat)
      case atStart => exact ⟨0, by omega, rfl, by simpa using HO.out, HB.out⟩
      case round =>
        obtain ⟨t, ht, rfl, hown, hbel⟩ := hrel
        have hc := Below.to_keeps hbel _ _ hx2
        by_cases h2 : t ≤ n1
        · have htake := hx3.take (k := t) h2
          have hu : IsI _ (.slice A1 t c1) (x.take t) := htake.isI.below hbel
          have hcap := hx3.cap
          have hoff : Off (.slice A1 t c1) u3.ownBlock := htake.isI.off_old fun g e => (hown.lt g e).1
          have hlen : (sortW (preL (l.take k) ++ (prefixes x).take t)).length ≤ 1000000000 := by
            have h3 := sortW_length (preL (l.take k) ++ (prefixes x).take t)
            have h4 : (preL (l.take (k + 1))).length ≤ (preL l).length := flatMap_take_le l (k + 1)
            rw [preL_step HX.out, List.length_append] at h4
            rw [List.length_append, List.length_take] at h3
            omega
          have hcall := R02with_any (sortW_asc _) hown hu hoff hbel.size hlen
          have HO' := Lib.hid (And.intro hown hbel)
          clear hu hoff hlen hx2 hown hbel htake
          go_wp2_with (go_at_call 40; refine hcall.mono ?_; rintro e w' ⟨v', rfl, hown', hg', hb'⟩)
          have hbel' := with_step (v' := v') (row := none) HO'.out.2 HO'.out.1.lt hg'
          have HN := Lib.hid (And.intro hown' hbel')
          clear hown' hg' hb' hbel' hcall
          go_roundw
          case rel => exact ⟨t + 1, by omega, by go_num, by rw [prefixes_take x (by rw [HXL.out]; exact h2), ← List.append_assoc, sortW_snoc]; exact HN.out.1, HN.out.2⟩
          case measure => simp [intOf] <;> omega
        · have HN := Lib.hid (And.intro hown hbel)
          clear hown hbel hx2
          go_wp2
          go_roundw
          case rel =>
            have h3 := HN.out.1
            rw [List.take_of_length_le (l := prefixes x) (by rw [prefixes_length, HXL.out]; omega), ← preL_step HX.out] at h3
            exact ⟨k + 1, by omega, by go_num, h3, HN.out.2⟩
          case measure => simp [intOf] <;> omega
    · go_wp2
      go_ret
      rw [List.take_of_length_le (by rw [HL.out]; omega)] at hown
      exact ⟨_, rfl, hown, hbel⟩

set_option maxRecDepth 100000 in
set_option maxHeartbeats 400000 in
theorem R02Suffixes_any {A : Option Addr} {n c : Nat} {l : List (List Int)} {w : World} (hx : RowOf w (IsI w) A n c l) (hn : (sufL l).length ≤ 1000000000) :
    Calls Tryd.prog 30 #[.slice A n c] w (NewW w (sortW (sufL l))) := by
  have HL := Lib.hid hx.len
  have hns := hx.small
  obtain ⟨j0, ji, jz0, jz1, jz2⟩ := info_parts Tryd.infoInt
  go_enter Tryd.func30, Tryd.ntmps30
  go_wp2
  go_loopw [3, 4, 5] (fun v i _ wr => ∃ k : Nat, k ≤ n ∧ i = .int .i64 k ∧ OwnW wr w.heap.size v (sortW (sufL (l.take k))) ∧ Below w.heap.size w wr) (fun _ i _ _ => n - (intOf i).toNat)
  case atStart => exact ⟨0, by omega, rfl, OwnW.nil_ _ _, Below.refl _ _⟩
  case round =>
    obtain ⟨k, hk, rfl, hown, hbel⟩ := hrel
    by_cases h1 : k < n
    · obtain ⟨b, o, A1, n1, c1, x, rfl, hx1, hx2, hx3⟩ := hx.word_at h1
      have HX := Lib.hid hx1
      clear hx1
      have hxl := hx3.len
      have HXL := Lib.hid hxl
      clear hxl
      have hn1 := hx3.small
      have HO := Lib.hid hown
      have HB := Lib.hid hbel
      clear hown hbel
      go_wp2
      go_loopw [3, 5] (fun v j wi => ∃ t : Nat, t ≤ n1 + 1 ∧ j = .int .i64 t ∧ OwnW wi w.heap.size v (sortW (sufL (l.take k) ++ (suffixes x).take t)) ∧ Below w.heap.size w wi) (fun _ j _ => n1 + 1 - (intOf j).toNat)
      case atStart => exact ⟨0, by omega, rfl, by simpa using HO.out, HB.out⟩
      case round =>
        obtain ⟨t, ht, rfl, hown, hbel⟩ := hrel
        have hc := Below.to_keeps hbel _ _ hx2
        by_cases h2 : t ≤ n1
        · have htake := hx3.take (k := t) h2
          have hu : IsI _ (.slice A1 t c1) (x.take t) := htake.isI.below hbel
          have hcap := hx3.cap
          have hoff : Off (.slice A1 t c1) u3.ownBlock := htake.isI.off_old fun g e => (hown.lt g e).1
          have hlen : (sortW (sufL (l.take k) ++ (suffixes x).take t)).length ≤ 1000000000 := by
            have h3 := sortW_length (sufL (l.take k) ++ (suffixes x).take t)
            have h4 : (sufL (l.take (k + 1))).length ≤ (sufL l).length := flatMap_take_le l (k + 1)
            rw [sufL_step HX.out, List.length_append] at h4
            rw [List.length_append, List.length_take] at h3
            omega
          have HH := Lib.hid (fun (A2 : Option Addr) (hr : RowOf w IsInt A2 (n1 - t) (c1 - t) (x.drop t)) => R02with_any (sortW_asc _) hown (hr.isI.below hbel) (hr.isI.off_old fun g e => (hown.lt g e).1) hbel.size hlen)
          have HO' := Lib.hid (And.intro hown hbel)
          have hsz := hbel.size
          clear hlen hx2 hown hbel
          go_wp2_with (first | (refine wpList_slice_low (w0 := w) (R := IsInt) rfl (.tmp 25) (.tmp 26) 38 3 rfl j0 Tryd.underlying38 ji jz1 A1 n1 c1 t x rfl rfl hx3 h2 ?_; intro A2 hr2) | (go_at_call 40; refine (HH.out _ (by assumption)).mono ?_; rintro e w' ⟨v', rfl, hown', hg', hb'⟩))
          have hbel' := with_step (v' := v') (row := none) HO'.out.2 HO'.out.1.lt hg'
          have HN := Lib.hid (And.intro hown' hbel')
          clear hown' hg' hb' hbel'
          go_roundw
          case rel => exact ⟨t + 1, by omega, by go_num, by rw [suffixes_take x (by rw [HXL.out]; exact h2), ← List.append_assoc, sortW_snoc]; exact HN.out.1, HN.out.2⟩
          case measure => simp [intOf] <;> omega
        · have HN := Lib.hid (And.intro hown hbel)
          clear hown hbel hx2
          go_wp2
          go_roundw
          case rel =>
            have h3 := HN.out.1
            rw [List.take_of_length_le (l := suffixes x) (by rw [suffixes_length, HXL.out]; omega), ← sufL_step HX.out] at h3
            exact ⟨k + 1, by omega, by go_num, h3, HN.out.2⟩
          case measure => simp [intOf] <;> omega
    · go_wp2
      go_ret
      rw [List.take_of_length_le (by rw [HL.out]; omega)] at hown
      exact ⟨_, rfl, hown, hbel⟩

end Go.Proofs.YtmlghnfbjkcelaaDoor
