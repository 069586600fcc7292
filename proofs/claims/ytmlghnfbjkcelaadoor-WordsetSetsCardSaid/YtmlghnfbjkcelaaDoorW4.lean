/-
  The walk of the reference's 'with': a word put into its place of a sorted list that the caller owns.
-/
import Derived.Test.YtmlghnfbjkcelaaDoorOwn
import Derived.Test.YtmlghnfbjkcelaaDoorW2
namespace Go.Proofs.YtmlghnfbjkcelaaDoor
open Go.RowKit

/-- It hands back an owned list of words; of what was there only one row may have turned. -/
def RetOwnW (w : World) (base : Nat) (row : Option Nat) (l : List (List Int)) (e : Ending) (w' : World) : Prop :=
  ∃ v', e = .returned v' ∧ OwnW w' base v' l ∧ w.grownBy w' row ∧ (v'.ownBlock = row ∨ ∃ g, v'.ownBlock = some g ∧ w.heap.size ≤ g)

theorem grown_setCell (w : World) (g i : Nat) (u : Value) : w.grownBy (w.setCell ⟨g, i, none⟩ u) (some g) :=
  ⟨rfl, rfl, rfl, by simp [World.setCell], fun k _ hne => Below.heap_setCell w _ u k (fun e => hne (by rw [e]))⟩

theorem grown_mono {w w' : World} (h : w.grownBy w' none) (row : Option Nat) : w.grownBy w' row := ⟨h.os, h.tape, h.output, h.size, fun k hk _ => h.block k hk (by simp)⟩

/-- Two steps, the second of which may turn a row that the first one made. -/
theorem grown_step {a b c : World} {row row' : Option Nat} (h : a.grownBy b row) (k : b.grownBy c row') (hr : row' = row ∨ ∀ g, row' = some g → a.heap.size ≤ g) : a.grownBy c row :=
  ⟨k.os.trans h.os, k.tape.trans h.tape, k.output.trans h.output, Nat.le_trans h.size k.size, fun i hi hne =>
    (k.block i (Nat.lt_of_lt_of_le hi h.size) (by
      rcases hr with e | e
      · rw [e]; exact hne
      · intro he
        have := e i he.symm
        omega)).trans (h.block i hi hne)⟩

theorem grown_drewN {a b : World} {row : Option Nat} (h : a.grownBy b row) (q : Nat) : a.grownBy (b.drewN q) row := ⟨h.os, h.tape, h.output, h.size, h.block⟩

theorem grown_from {w w1 : World} {q : Nat} {o : Obj} {row : Option Nat} (h : ((w.drewN q).alloc o).grownBy w1 row) : w.grownBy w1 row :=
  grown_step (a := w) (b := (w.drewN q).alloc o) ⟨rfl, rfl, rfl, by simp, fun k hk _ => Below.heap_alloc w o k hk⟩ h (.inl rfl)

theorem one_cell (A : Option Addr) {n c : Nat} : ∀ u ∈ [Value.slice A n c], u.oneCell' = true := by
  intro u hu
  simp at hu
  subst hu
  rfl

theorem IsI.row {w : World} {A : Option Addr} {n c : Nat} {x : List Int} (h : IsI w (.slice A n c) x) : RowOf w IsInt A n c x := by
  obtain ⟨A', n', c', e, hr⟩ := h
  injection e with e1 e2 e3
  subst e1 e2 e3
  exact hr
theorem RowOf.isI {w : World} {A : Option Addr} {n c : Nat} {x : List Int} (h : RowOf w IsInt A n c x) : IsI w (.slice A n c) x := ⟨_, _, _, rfl, h⟩

/-- A fresh copy of a word. -/
theorem fresh_word {w w1 w2 : World} {base m g : Nat} {v : Value} {x : List Int} (h1 : w.grownBy w1 none) (hsz : w1.heap.size = w.heap.size + 1) (hown : w2.ownsRow base 3 1 v (0 + m) ([] ++ x.map (Value.int .i64))) (hm : x.length = m) (hms : m ≤ 17592186044416)
    (hg : w1.grownBy w2 (some w.heap.size)) (hb : v.ownBlock = some w.heap.size ∨ v.ownBlock = some w1.heap.size) (hgw : g < w.heap.size) :
    w.grownBy w2 none ∧ IsI w2 v x ∧ Off v (some g) := by
  refine ⟨grown_step h1 hg (.inr fun k e => by injection e with e; omega), ?_, ?_⟩
  · have : OwnI w2 base v x := by
      unfold OwnI
      rw [hm]
      simpa using hown
    exact this.isI (by omega)
  · rintro a n c rfl _ e
    injection e with e
    have : a.block = w.heap.size ∨ a.block = w1.heap.size := by
      rcases hb with hb | hb
      · left; simpa [Value.ownBlock] using hb
      · right; simpa [Value.ownBlock] using hb
    omega

theorem with_final {w w1 wr w2 : World} {base : Nat} {v z v2 : Value} {us : List Value} {l : List (List Int)} {x : List Int} {k n g1 cap1 : Nat}
    (hul : us.length = l.length) (hun : us.length = n) (hel : ∀ (i : Nat) x, l[i]? = some x → ∃ u, us[i]? = some u ∧ IsI w u x ∧ Off u v.ownBlock) (hk : k ≤ n)
    (hg1 : w.grownBy w1 v.ownBlock) (hb1 : some g1 = v.ownBlock ∨ w.heap.size ≤ g1) (hgr : w1.grownBy wr (some g1))
    (hrow : wr.ownsRow base 38 1 (.slice (some ⟨g1, 0, none⟩) (n + 1) cap1) (n + 1) (stage us z k)) (hg2 : wr.grownBy w2 none) (hv2 : IsI w2 v2 x) (hoff2 : Off v2 (some g1)) :
    RetOwnW w base v.ownBlock (l.take k ++ x :: l.drop k) (.returned (.slice (some ⟨g1, 0, none⟩) (n + 1) cap1)) (w2.setCell ⟨g1, k, none⟩ v2) := by
  have hs := (hrow.kept hg2 (by simp [Value.ownBlock])).stored k v2
  rw [stage_set (by omega)] at hs
  have key : ∀ u y, IsI w u y → Off u v.ownBlock → IsI (w2.setCell ⟨g1, k, none⟩ v2) u y ∧ Off u (some g1) := fun u y hi ho => by
    have ho' : Off u (some g1) := by
      rcases hb1 with e | e
      · rw [e]; exact ho
      · exact hi.off_new e
    exact ⟨(((hi.grown hg1 ho).grown hgr ho').keep (grown_keeps hg2)).grown hs.2 ho', ho'⟩
  have hsame : w.grownBy (w2.setCell ⟨g1, k, none⟩ v2) v.ownBlock := by
    have hr : some g1 = v.ownBlock ∨ ∀ g, some g1 = some g → w.heap.size ≤ g := by
      rcases hb1 with e | e
      · exact .inl e
      · exact .inr fun g h => by injection h with h; omega
    exact grown_step (grown_step (grown_step hg1 hgr hr) hg2 (.inr fun g h => by cases h)) hs.2 hr
  refine ⟨_, rfl, ⟨stage us v2 k, ?_, by rw [stage_length, hun]; exact hs.1, fun i y hy => ?_⟩, hsame, ?_⟩
  · rw [stage_length]; simp; omega
  · rw [List.getElem?_append] at hy
    have hlt : (l.take k).length = k := by simp; omega
    rw [hlt] at hy
    split at hy
    · rename_i hik
      rw [List.getElem?_take, if_pos hik] at hy
      obtain ⟨u, hu, hi, ho⟩ := hel i y hy
      exact ⟨u, by rw [stage_before hik (by omega)]; exact hu, key u y hi ho⟩
    · rename_i hik
      by_cases e : i = k
      · subst e
        simp at hy
        subst hy
        exact ⟨v2, stage_at (by omega), hv2.grown hs.2 hoff2, hoff2⟩
      · obtain ⟨t, ht⟩ : ∃ t, i - k = t + 1 := ⟨i - k - 1, by omega⟩
        rw [ht, List.getElem?_cons_succ, List.getElem?_drop] at hy
        obtain ⟨u, hu, hi, ho⟩ := hel _ y hy
        refine ⟨u, ?_, key u y hi ho⟩
        rw [stage, List.getElem?_append, if_neg (by simp; omega)]
        have : i - (us.take k).length = t + 1 := by simp; omega
        rw [this, List.getElem?_cons_succ, List.getElem?_drop]
        exact hu
  · rcases hb1 with e | e
    · exact .inl (by simpa [Value.ownBlock] using e)
    · exact .inr ⟨g1, rfl, e⟩

set_option maxRecDepth 100000 in
set_option maxHeartbeats 1600000 in
theorem R02with_any {base : Nat} {w : World} {v u : Value} {l : List (List Int)} {x : List Int} (hs : Asc l) (h : OwnW w base v l) (hx : IsI w u x) (hoff : Off u v.ownBlock)
    (hb : base ≤ w.heap.size) (hlen : l.length ≤ 1000000000) :
    Calls Tryd.prog 40 #[v, u] w (RetOwnW w base v.ownBlock (insW l x)) := by
  obtain ⟨A, n, c, rfl, hrow⟩ := h.isW (by omega)
  have hnl := hrow.len
  obtain ⟨A', m, c', rfl, hxr⟩ := hx
  have hms := hxr.small
  obtain ⟨us, hul, hown, hel⟩ := h
  have hle := placeL_le l x
  have hmem := hs.mem_place x
  have hpl : ∀ w', Keeps w w' → Calls Tryd.prog 65 #[.slice A n c, .slice A' m c'] w' fun e w'' => e = .returned (.int .i64 (placeL l x : Nat)) ∧ ∃ q, w'' = w'.drewN q := fun w' hk =>
    R02place_any hs (hrow.words hk) (hxr.kept hk)
  generalize hk : placeL l x = k at hle hmem hpl
  have HK := Lib.hid hk
  have HP := Lib.hid hpl
  have HM := Lib.hid hmem
  have HS := Lib.hid hs
  have HUL := Lib.hid hul
  have HNL := Lib.hid hnl
  have HEL := Lib.hid hel
  have HOFF := Lib.hid hoff
  rw [hnl] at hle hlen
  have hun : us.length = n := by rw [hul, hnl]
  rw [hun] at hown
  clear hk hpl hmem hs hul hel hoff hnl
  have HUN := Lib.hid hun
  clear hun
  by_cases hf : l[k]? = some x
  · have hkn : k < n := by rw [← HNL.out]; exact (List.getElem?_eq_some_iff.1 hf).1
    obtain ⟨b, o, A1, n1, c1, y, rfl, hy1, hy2, hy3⟩ := hrow.word_at hkn
    have hyx : y = x := by rw [hf] at hy1; injection hy1 with e; exact e.symm
    have HF := Lib.hid hf
    clear hy1 hf
    have hd : decide (y = x) = true := decide_eq_true hyx
    clear hyx
    go_enter Tryd.func40, Tryd.ntmps40
    go_wp2_with (first | (go_at_call 65; refine (HP.out _ (Keeps.refl _)).mono ?_; rintro e w' ⟨rfl, q, rfl⟩) | (go_at_call 21; refine (R01Same_any (hy3.kept (Keeps.drewN _ _)) (hxr.kept (Keeps.drewN _ _))).mono ?_; rintro e w' ⟨rfl, q2, rfl⟩))
    go_ret
    have hin : insW l x = l := by unfold insW; rw [if_pos ((HM.out).2 HF.out)]
    rw [hin]
    refine ⟨_, rfl, ⟨us, HUL.out, by rw [HUN.out]; exact hown, HEL.out⟩, grown_drewN (World.grownBy.refl _ _) _, .inl rfl⟩
  · have hins : insW l x = l.take k ++ x :: l.drop k := by unfold insW; rw [if_neg (fun hm => hf (HM.out.1 hm)), HK.out]
    rw [hins]
    clear hins
    obtain ⟨i0, hi, hz0, hz1, hz2⟩ := info_parts Tryd.infoWord
    obtain ⟨j0, ji, jz0, jz1, jz2⟩ := info_parts Tryd.infoInt
    have hownA : ∀ q o, ((w.alloc o).drewN q).ownsRow base 38 1 (.slice A n c) n us := fun _ o => hown.alloc o
    have hsrc : ∀ q t, Src ((w.alloc (.cells #[.slice none 0 0] t)).drewN q) (some ⟨w.heap.size, 0, none⟩) 1 [.slice none 0 0] := fun _ t => src_one w _ t
    have hd : k < n → ∃ b o A1 n1 c1 y, A = some ⟨b, o, none⟩ ∧ w.cell? ⟨b, o + k, none⟩ = some (.slice A1 n1 c1) ∧ RowOf w IsInt A1 n1 c1 y ∧ decide (y = x) = false := fun hkn => by
      obtain ⟨b, o, A1, n1, c1, y, e, hy1, hy2, hy3⟩ := hrow.word_at hkn
      exact ⟨b, o, A1, n1, c1, y, e, hy2, hy3, decide_eq_false (fun e => hf (by rw [hy1, e]))⟩
    clear hf hrow
    have hc3 : n + 1 ≤ maxLen := by unfold maxLen; omega
    have hc4 : (n + 1) * 24 ≤ 140737488355328 := by omega
    have hc5 : ∀ q o, base ≤ ((w.alloc o).drewN q).heap.size := fun q o => by show base ≤ (w.alloc o).heap.size; simp; omega
    by_cases hkn : k < n
    · obtain ⟨b, o, A1, n1, c1, y, rfl, hy2, hy3, hyd⟩ := hd hkn
      clear hd
      go_enter Tryd.func40, Tryd.ntmps40
      go_wp2_with (first | (go_at_call 65; refine (HP.out _ (Keeps.refl _)).mono ?_; rintro e w' ⟨rfl, q, rfl⟩) | (go_at_call 21; refine (R01Same_any (hy3.kept (Keeps.drewN _ _)) (hxr.kept (Keeps.drewN _ _))).mono ?_; rintro e w' ⟨rfl, q2, rfl⟩) | (at_builtin; refine wpList_append_row rfl (.tmp 23) (.tmp 24) 25 rfl base 38 i0 (.slice none 0 0) 24 Tryd.underlying25 hi hz0 hz1 hz2 rfl (.slice (some ⟨b, o, none⟩) n c) _ _ rfl (hownA _ _) _ 1 1 [.slice none 0 0] rfl (hsrc _ _) (one_cell _) hc3 hc4 (hc5 _ _) ?_; intro v1 w1 hown1 hg1 hb1; obtain ⟨g1, cap1, rfl, hbg1, hlt1⟩ := hown1.form (by omega); replace hg1 := grown_from hg1))
      have HB1 := Lib.hid (show some g1 = (.slice (some ⟨b, o, none⟩) n c : Value).ownBlock ∨ w.heap.size ≤ g1 by
        rcases hb1 with e | e
        · exact .inl (by simpa [Value.ownBlock] using e)
        · right
          have e' : some g1 = some (w.heap.size + 1) := by simpa [Value.ownBlock] using e
          injection e' with e'
          omega)
      have HG1 := Lib.hid hg1
      have hxw1 := hxr.isI.grown hg1 HOFF.out
      have hoffg : Off (.slice A' m c') (some g1) := by
        rcases HB1.out with e | e
        · rw [e]; exact HOFF.out
        · exact hxr.isI.off_new e
      have HX1 := Lib.hid (And.intro hxw1 hoffg)
      have hel' : ∀ t, t < n → ∃ A2 n2 c2, us[t]? = some (.slice A2 n2 c2) := fun t ht => by
        have hlt : t < l.length := by rw [HNL.out]; exact ht
        obtain ⟨u, hu, ⟨A2, n2, c2, rfl, _⟩, _⟩ := HEL.out t l[t] (List.getElem?_eq_getElem hlt)
        exact ⟨A2, n2, c2, hu⟩
      have HE := Lib.hid hel'
      have hst : stage us (.slice none 0 0) n = us ++ [.slice none 0 0] := by rw [← HUN.out]; exact stage_end _ _
      rw [← hst] at hown1
      clear hst hel' hxw1 hoffg hg1 hb1 hc3 hc4 hc5 hsrc hownA
      go_loopw [6] (fun i wr => ∃ (j : Nat) (z : Value), k ≤ j ∧ j ≤ n ∧ i = .int .i64 j ∧ w1.grownBy wr (some g1) ∧ wr.ownsRow base 38 1 (.slice (some ⟨g1, 0, none⟩) (n + 1) cap1) (n + 1) (stage us z j)) (fun i _ => (intOf i).toNat)
      case atStart => exact ⟨n, _, hle, Nat.le_refl _, rfl, World.grownBy.refl _ _, hown1⟩
      case round =>
        clear hown1
        obtain ⟨j, z, hkj, hjn, rfl, hgr, hrw⟩ := hrel
        by_cases h1 : k < j
        · obtain ⟨t, rfl⟩ : ∃ t, j = t + 1 := ⟨j - 1, by omega⟩
          obtain ⟨A2, n2, c2, hut⟩ := HE.out t (by omega)
          have q1 : wr.cell? ⟨g1, t, none⟩ = some (.slice A2 n2 c2) := by rw [hrw.cellAt t (by omega), stage_before (by omega) (by rw [HUN.out]; exact hjn), hut]
          have q2 : wr.cell? ⟨g1, t + 1, none⟩ = some z := by rw [hrw.cellAt (t + 1) (by omega), stage_at (by rw [HUN.out]; exact hjn)]
          have q3 : wr.frozen? ⟨g1, t + 1, none⟩ = false := hrw.frozenAt _
          have HR := Lib.hid (hrw.stored (t + 1) (.slice A2 n2 c2))
          have HUT := Lib.hid hut
          clear hut hrw
          go_wp2
          go_roundw
          case rel =>
            have hr := HR.out
            rw [stage_set (by rw [HUN.out]; exact hjn), stage_down HUT.out] at hr
            exact ⟨t, _, by omega, by omega, by first | rfl | go_num, grown_step hgr hr.2 (.inl rfl), hr.1⟩
          case measure => simp [intOf] <;> omega
        · obtain rfl : j = k := by omega
          have hg1lt : g1 < wr.heap.size := by have := hgr.size; omega
          have hxr' : RowOf wr IsInt A' m c' x := (HX1.out.1.grown hgr HX1.out.2).row
          have hsrc : ∀ o, Src (wr.alloc o) A' m (x.map (Value.int .i64)) := fun o => (hxr'.kept (grown_keeps (World.grownBy_alloc wr o none))).src
          have hl : ∀ t, (wr.alloc (.cells #[] t)).ownsRow base t 1 (.slice (some ⟨wr.heap.size, 0, none⟩) 0 0) 0 [] := fun t => World.ownsRow_lit wr #[] 0 (by have := hgr.size; have := HG1.out.size; omega) (by unfold maxLen; omega) (by simp)
          have hc6 : 0 + m ≤ maxLen := by unfold maxLen; omega
          have hc7 : (0 + m) * 8 ≤ 140737488355328 := by omega
          have hc8 : ∀ o, base ≤ (wr.alloc o).heap.size := fun o => by have := hgr.size; have := HG1.out.size; simp; omega
          have hsz : ∀ o, (wr.alloc o).heap.size = wr.heap.size + 1 := fun o => by simp
          go_wp2_with (at_builtin; refine wpList_append_row rfl (.tmp 44) (.tmp 45) 38 rfl base 3 j0 (.int .i64 0) 8 Tryd.underlying38 ji jz0 jz1 jz2 rfl (.slice (some ⟨wr.heap.size, 0, none⟩) 0 0) 0 _ rfl (hl _) _ _ _ _ rfl (hsrc _) (ints_oneCell _ _) hc6 hc7 (hc8 _) ?_; intro v2 w2 hown2 hg2 hb2; obtain ⟨hk2, hi2, ho2⟩ := fresh_word (g := g1) (World.grownBy_alloc wr _ none) (hsz _) hown2 hxr'.len hms hg2 hb2 hg1lt; obtain ⟨A2, n2, c2, rfl, hr2⟩ := hi2; have hrow2 := hrw.kept hk2 (by simp [Value.ownBlock]); have p1 : w2.cell? ⟨g1, j, none⟩ = some z := (by rw [hrow2.cellAt j (by omega), stage_at (by rw [HUN.out]; exact hjn)]); have p2 : w2.frozen? ⟨g1, j, none⟩ = false := hrow2.frozenAt _; clear hown2 hg2 hb2 hl hsrc hc6 hc7 hc8 hsz hxr')
          go_ret
          exact with_final HUL.out HUN.out HEL.out hjn HG1.out HB1.out hgr hrw hk2 hr2.isI ho2
    · clear hd
      go_enter Tryd.func40, Tryd.ntmps40
      go_wp2_with (first | (go_at_call 65; refine (HP.out _ (Keeps.refl _)).mono ?_; rintro e w' ⟨rfl, q, rfl⟩) | (at_builtin; refine wpList_append_row rfl (.tmp 23) (.tmp 24) 25 rfl base 38 i0 (.slice none 0 0) 24 Tryd.underlying25 hi hz0 hz1 hz2 rfl (.slice A n c) _ _ rfl (hownA _ _) _ 1 1 [.slice none 0 0] rfl (hsrc _ _) (one_cell _) hc3 hc4 (hc5 _ _) ?_; intro v1 w1 hown1 hg1 hb1; obtain ⟨g1, cap1, rfl, hbg1, hlt1⟩ := hown1.form (by omega); replace hg1 := grown_from hg1))
      have HB1 := Lib.hid (show some g1 = (.slice A n c : Value).ownBlock ∨ w.heap.size ≤ g1 by
        rcases hb1 with e | e
        · exact .inl (by simpa [Value.ownBlock] using e)
        · right
          have e' : some g1 = some (w.heap.size + 1) := by simpa [Value.ownBlock] using e
          injection e' with e'
          omega)
      have HG1 := Lib.hid hg1
      have hxw1 := hxr.isI.grown hg1 HOFF.out
      have hoffg : Off (.slice A' m c') (some g1) := by
        rcases HB1.out with e | e
        · rw [e]; exact HOFF.out
        · exact hxr.isI.off_new e
      have HX1 := Lib.hid (And.intro hxw1 hoffg)
      have hel' : ∀ t, t < n → ∃ A2 n2 c2, us[t]? = some (.slice A2 n2 c2) := fun t ht => by
        have hlt : t < l.length := by rw [HNL.out]; exact ht
        obtain ⟨u, hu, ⟨A2, n2, c2, rfl, _⟩, _⟩ := HEL.out t l[t] (List.getElem?_eq_getElem hlt)
        exact ⟨A2, n2, c2, hu⟩
      have HE := Lib.hid hel'
      have hst : stage us (.slice none 0 0) n = us ++ [.slice none 0 0] := by rw [← HUN.out]; exact stage_end _ _
      rw [← hst] at hown1
      clear hst hel' hxw1 hoffg hg1 hb1 hc3 hc4 hc5 hsrc hownA
      go_loopw [6] (fun i wr => ∃ (j : Nat) (z : Value), k ≤ j ∧ j ≤ n ∧ i = .int .i64 j ∧ w1.grownBy wr (some g1) ∧ wr.ownsRow base 38 1 (.slice (some ⟨g1, 0, none⟩) (n + 1) cap1) (n + 1) (stage us z j)) (fun i _ => (intOf i).toNat)
      case atStart => exact ⟨n, _, hle, Nat.le_refl _, rfl, World.grownBy.refl _ _, hown1⟩
      case round =>
        clear hown1
        obtain ⟨j, z, hkj, hjn, rfl, hgr, hrw⟩ := hrel
        by_cases h1 : k < j
        · exact absurd h1 (by omega)
        · obtain rfl : j = k := by omega
          have hg1lt : g1 < wr.heap.size := by have := hgr.size; omega
          have hxr' : RowOf wr IsInt A' m c' x := (HX1.out.1.grown hgr HX1.out.2).row
          have hsrc : ∀ o, Src (wr.alloc o) A' m (x.map (Value.int .i64)) := fun o => (hxr'.kept (grown_keeps (World.grownBy_alloc wr o none))).src
          have hl : ∀ t, (wr.alloc (.cells #[] t)).ownsRow base t 1 (.slice (some ⟨wr.heap.size, 0, none⟩) 0 0) 0 [] := fun t => World.ownsRow_lit wr #[] 0 (by have := hgr.size; have := HG1.out.size; omega) (by unfold maxLen; omega) (by simp)
          have hc6 : 0 + m ≤ maxLen := by unfold maxLen; omega
          have hc7 : (0 + m) * 8 ≤ 140737488355328 := by omega
          have hc8 : ∀ o, base ≤ (wr.alloc o).heap.size := fun o => by have := hgr.size; have := HG1.out.size; simp; omega
          have hsz : ∀ o, (wr.alloc o).heap.size = wr.heap.size + 1 := fun o => by simp
          go_wp2_with (at_builtin; refine wpList_append_row rfl (.tmp 44) (.tmp 45) 38 rfl base 3 j0 (.int .i64 0) 8 Tryd.underlying38 ji jz0 jz1 jz2 rfl (.slice (some ⟨wr.heap.size, 0, none⟩) 0 0) 0 _ rfl (hl _) _ _ _ _ rfl (hsrc _) (ints_oneCell _ _) hc6 hc7 (hc8 _) ?_; intro v2 w2 hown2 hg2 hb2; obtain ⟨hk2, hi2, ho2⟩ := fresh_word (g := g1) (World.grownBy_alloc wr _ none) (hsz _) hown2 hxr'.len hms hg2 hb2 hg1lt; obtain ⟨A2, n2, c2, rfl, hr2⟩ := hi2; have hrow2 := hrw.kept hk2 (by simp [Value.ownBlock]); have p1 : w2.cell? ⟨g1, j, none⟩ = some z := (by rw [hrow2.cellAt j (by omega), stage_at (by rw [HUN.out]; exact hjn)]); have p2 : w2.frozen? ⟨g1, j, none⟩ = false := hrow2.frozenAt _; clear hown2 hg2 hb2 hl hsrc hc6 hc7 hc8 hsz hxr')
          go_ret
          exact with_final HUL.out HUN.out HEL.out hjn HG1.out HB1.out hgr hrw hk2 hr2.isI ho2

end Go.Proofs.YtmlghnfbjkcelaaDoor
