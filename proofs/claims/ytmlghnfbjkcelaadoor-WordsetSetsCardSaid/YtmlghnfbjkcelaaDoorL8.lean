/-
  Walk of the law WordsetSets: it returns true whatever the arguments.
-/
import Derived.Test.YtmlghnfbjkcelaaDoorL7
import Derived.Test.YtmlghnfbjkcelaaDoorSetsPlain
import Derived.Deep.RegionHeldLaw
import Derived.WalkSmall
import Derived.Deep.RegionWith
namespace Go.Proofs.YtmlghnfbjkcelaaDoor
open Go.RowKit

/-- 'append' at a step of a statement that draws its order. -/
theorem step_append_row {P : Program} {w : World} {ops : Array Oper} {o : Oper} {a : Act} {K : Act → World → Prop} {Q : Exit → Act → World → Prop} {E : Prop} (hgd : o.guard = none) (s x : Operand) (t : TypeId)
    (ho : o.op = .call { callee := .builtin .append, args := #[s, x], argTypes := #[t, t] })
    (base : Nat) (e : TypeId) (i : TypeInfo) (z : Value) (bytes : Nat) (ht : P.underlying t = some (.slice e)) (hi : P.info? e = some i) (hz : i.zero = some z)
    (hsize : i.size = 1) (hby : i.bytes = bytes) (hzs : z.cells.size = 1) (v : Value) (n : Nat) (xs : List Value) (hs : a.eval s = v) (hown : w.ownsRow base e 1 v n xs)
    (A : Option Addr) (m c : Nat) (news : List Value) (hx : a.eval x = .slice A m c) (hsrc : Src w A m news) (h1 : ∀ u ∈ news, u.oneCell' = true)
    (h63 : n + m ≤ maxLen) (hbytes : (n + m) * bytes ≤ 140737488355328) (hbase : base ≤ w.heap.size)
    (h : ∀ v' w', w'.ownsRow base e 1 v' (n + m) (xs ++ news) → w.grownBy w' v.ownBlock → (v'.ownBlock = v.ownBlock ∨ v'.ownBlock = some w.heap.size) → K (a.put o.dst v') w') :
    if Region.wanted o (yielded ops a.tmps) = true then Oper.wp P o a w K Q else E := by
  have hw : Region.wanted o (yielded ops a.tmps) = true := by simp [Region.wanted, hgd]
  rw [if_pos hw]
  exact wp_append_row s x t ho base e i z bytes ht hi hz hsize hby hzs v n xs hs hown A m c news hx hsrc h1 h63 hbytes hbase h

theorem two_one {A B : Option Addr} {n c m d : Nat} : ∀ u ∈ [Value.slice A n c, Value.slice B m d], u.oneCell' = true := by
  intro u hu
  simp at hu
  rcases hu with rfl | rfl <;> rfl

theorem src_twoN {w : World} {q : Nat} (x y : Value) (t : TypeId) : Src ((w.alloc (.cells #[x, y] t)).drewN q) (some ⟨w.heap.size, 0, none⟩) 2 [x, y] := src_two x y t

theorem grown_two {w w' : World} {o : Obj} {q : Nat} {row : Option Nat} (h : ((w.alloc o).drewN q).grownBy w' row) : w.grownBy w' row :=
  grown_step (a := w) (b := (w.alloc o).drewN q) ⟨rfl, rfl, rfl, by simp, fun k hk _ => Below.heap_alloc w o k hk⟩ h (.inl rfl)

theorem grown_self {w : World} {o : Obj} {q : Nat} : w.grownBy ((w.alloc o).drewN q) none :=
  ⟨rfl, rfl, rfl, by simp, fun k hk _ => Below.heap_alloc w o k hk⟩

section
variable {A B : Option Addr} {n c m c' : Nat} {l s : List (List Int)} {x : List Int} {w : World}
theorem asc_true (hx : RowOf w (IsI w) A n c l) (h : Asc l) : Calls Tryd.prog 18 #[.slice A n c] w (BoolB w true) := by
  have h1 := asc_bool h n hx.len
  refine (ascending_any hx).mono ?_
  rw [h1]
  rintro _ w' ⟨rfl, hq⟩
  exact ⟨rfl, Qt.below hq _⟩
theorem has_true (hx : RowOf w (IsI w) A n c l) (hy : RowOf w IsInt B m c' x) (h : x ∈ l) : Calls Tryd.prog 20 #[.slice A n c, .slice B m c'] w (BoolB w true) := by
  have := wordsetHas_any hx hy
  rwa [decide_eq_true h] at this
theorem sorted_to (hx : RowOf w (IsI w) A n c l) (hn : n ≤ 1000000) (h : sortW l = s) : Calls Tryd.prog 22 #[.slice A n c] w (NewW w s) := h ▸ wordsetSorted_any hx (by omega)
theorem prefixes_to (hx : RowOf w (IsI w) A n c l) (hn : (preL l).length ≤ 1000000) (h : sortW (preL l) = s) : Calls Tryd.prog 27 #[.slice A n c] w (NewW w s) := h ▸ wordsetPrefixes_any hx (by omega)
theorem suffixes_to (hx : RowOf w (IsI w) A n c l) (hn : (sufL l).length ≤ 1000000) (h : sortW (sufL l) = s) : Calls Tryd.prog 29 #[.slice A n c] w (NewW w s) := h ▸ wordsetSuffixes_any hx (by omega)
theorem maximal_to (hx : RowOf w (IsI w) A n c l) (hn : n ≤ 1000000) (h : maxR l = s) : Calls Tryd.prog 31 #[.slice A n c] w (NewW w s) := h ▸ wordsetMaximal_any hx (by omega)
end

/-- What the law uses of the four results. -/
structure SetsFacts (l m s p q t : List (List Int)) : Prop where
  ll : l.length ≤ 20
  ml : m.length ≤ 40
  sl : s.length ≤ 20
  pl : p.length ≤ 420
  ql : q.length ≤ 420
  tl : t.length ≤ 20
  lp : (preL l).length ≤ 10000
  lq : (sufL l).length ≤ 10000
  mp : (preL m).length ≤ 10000
  mq : (sufL m).length ≤ 10000
  pp : (preL p).length ≤ 10000
  qq : (sufL q).length ≤ 10000
  tp : (preL t).length ≤ 10000
  e1 : sortW l = s
  e2 : sortW (preL l) = p
  e3 : sortW (sufL l) = q
  e4 : maxR l = t
  m1 : sortW m = s
  m2 : sortW (preL m) = p
  m3 : sortW (sufL m) = q
  m4 : maxR m = t
  a1 : sortW s = s
  a2 : sortW (preL p) = p
  a3 : sortW (sufL q) = q
  a4 : maxR t = t
  t1 : sortW (preL t) = p
  t2 : maxR p = t
  s1 : Asc s
  s2 : Asc p
  s3 : Asc q
  s4 : Asc t
  i1 : ∀ x ∈ l, x ∈ s
  i2 : ∀ x ∈ l, x ∈ p
  i3 : ∀ x ∈ l, x ∈ q

theorem setsFacts {l m : List (List Int)} (hl : l.length ≤ 20) (hw : ∀ x ∈ l, x.length ≤ 20) (hm : m.length ≤ 40) (h : SameSet m l) : SetsFacts l m (sortW l) (sortW (preL l)) (sortW (sufL l)) (maxR l) := by
  have hpw : ∀ x ∈ sortW (preL l), x.length ≤ 20 := fun x hx => by
    rw [mem_sortW, mem_preL] at hx
    obtain ⟨y, hy, hp⟩ := hx
    exact Nat.le_trans hp.length_le (hw y hy)
  have hqw : ∀ x ∈ sortW (sufL l), x.length ≤ 20 := fun x hx => by
    rw [mem_sortW, mem_sufL] at hx
    obtain ⟨y, hy, hp⟩ := hx
    exact Nat.le_trans hp.length_le (hw y hy)
  have htw : ∀ x ∈ maxR l, x.length ≤ 20 := fun x hx => hw x (mem_maxR hx)
  have hmw : ∀ x ∈ m, x.length ≤ 20 := fun x hx => hw x ((h x).1 hx)
  have b1 := preL_length_le hw
  have b2 := sufL_length_le hw
  have b3 := preL_length_le hmw
  have b4 := sufL_length_le hmw
  have c1 := sortW_length l
  have c2 := sortW_length (preL l)
  have c3 := sortW_length (sufL l)
  have c4 := maxR_length l
  have b5 := preL_length_le hpw
  have b6 := sufL_length_le hqw
  have b7 := preL_length_le htw
  exact {
    ll := hl, ml := hm, sl := by omega, pl := by omega, ql := by omega, tl := by omega
    lp := by omega, lq := by omega, mp := by omega, mq := by omega, pp := by omega, qq := by omega, tp := by omega
    e1 := rfl, e2 := rfl, e3 := rfl, e4 := rfl
    m1 := sortW_same h, m2 := sortW_same (preL_same h), m3 := sortW_same (sufL_same h), m4 := maxR_same h
    a1 := sortW_again l, a2 := preL_again l, a3 := sufL_again l, a4 := maxR_again l
    t1 := preL_maxR l, t2 := maxR_preL l
    s1 := sortW_asc _, s2 := sortW_asc _, s3 := sortW_asc _, s4 := maxR_asc l
    i1 := fun x hx => (mem_sortW l x).2 hx
    i2 := fun x hx => (mem_sortW _ x).2 (mem_preL.2 ⟨x, hx, List.prefix_refl x⟩)
    i3 := fun x hx => (mem_sortW _ x).2 (mem_sufL.2 ⟨x, hx, List.suffix_refl x⟩) }

set_option maxRecDepth 100000 in
set_option maxHeartbeats 6400000 in
theorem sets_any {A : Option Addr} {n c : Nat} {l : List (List Int)} {t : Nat} {w : World} (ha : RowOf w (IsI w) A n c l) (ht : t ≤ 255) :
    Calls Tryd.prog 8 #[.slice A n c, .int .u8 (t : Int)] w (BoolB w true) := by
  have HG := Lib.hid (R02Great_any (W := 20) (S := 20) ha (by decide))
  cases hga : greatL l 20 20 with
  | true =>
    rw [hga] at HG
    clear ha
    go_enter Tryd.func8, Tryd.ntmps8
    go_wp2_with (first | (go_at_call 10; refine HG.out.mono ?_; rintro _ x1 ⟨rfl, rfl⟩) | (go_at_call 9; refine (awake_any _).mono ?_; rintro _ x4 ⟨rfl, hb4⟩))
    go_ret
    exact ⟨rfl, hb4⟩
  | false =>
    rw [hga] at HG
    obtain ⟨hga1, hga2⟩ := greatL_false hga
    have hal := ha.len
    have hn20 : n ≤ 20 := by omega
    have hw20 : ∀ x ∈ l, x.length ≤ 20 := fun x hx => by have := hga2 x hx; omega
    have HAL := Lib.hid (And.intro hal hw20)
    obtain ⟨i0, hi, hz0, hz1, hz2⟩ := info_parts Tryd.infoWord
    clear hga hga1 hga2 hal hw20
    go_enter Tryd.func8, Tryd.ntmps8
    go_wp2_with (go_at_call 10; refine HG.out.mono ?_; rintro _ x0 ⟨rfl, rfl⟩)
    go_loopw [5, 6] (fun v i wr => ∃ k : Nat, k ≤ n ∧ i = .int .i64 k ∧ OwnW wr w.heap.size v (turnL l t k) ∧ Bel w wr) (fun _ i _ => n - (intOf i).toNat)
    case atStart => exact ⟨0, by omega, rfl, OwnW.nil_ _ _, Bel.refl _⟩
    case round =>
      obtain ⟨k, hk, rfl, hown, hbel⟩ := hrel
      by_cases h1 : k < n
      · have hs : turnAt n k t < n := Nat.mod_lt _ (by omega)
        have htm : ((n : Int) - 1 - (k : Int) + (t : Int)).tmod (n : Int) = ((turnAt n k t : Nat) : Int) := by
          rw [Int.tmod_eq_emod_of_nonneg (by omega)]
          unfold turnAt
          rw [show (n : Int) - 1 - (k : Int) + (t : Int) = ((n - 1 - k + t : Nat) : Int) by omega, Int.natCast_emod]
        have htm2 : ((n : Int) - 1 - (k : Int) + (t : Int)) % (n : Int) = ((turnAt n k t : Nat) : Int) := by
          unfold turnAt
          rw [show (n : Int) - 1 - (k : Int) + (t : Int) = ((n - 1 - k + t : Nat) : Int) by omega, Int.natCast_emod]
        generalize hsa : turnAt n k t = s at hs htm htm2
        obtain ⟨b1, o1, A3, n3, c3, x, rfl, hx1, hx2, hx3⟩ := ha.word_at hs
        obtain ⟨b2, o2, A4, n4, c4, y, e2, hy1, hy2, hy3⟩ := ha.word_at h1
        injection e2 with e2
        injection e2 with e3 e4
        subst e3 e4
        have hcx := Below.to_keeps hbel _ _ hx2
        have hcy := Below.to_keeps hbel _ _ hy2
        obtain ⟨us, hul, hrow, hel⟩ := hown
        have hlt := hrow.lt
        have hrowA : ∀ q o, ((wr.alloc o).drewN q).ownsRow w.heap.size 38 1 u5 us.length us := fun q o => hrow.alloc o
        have htl := turnL_length l t k
        have hc1 : us.length + 2 ≤ maxLen := by unfold maxLen; omega
        have hc2 : (us.length + 2) * 24 ≤ 140737488355328 := by omega
        have hbs := hbel.size
        have hc3 : ∀ q o, w.heap.size ≤ ((wr.alloc o).drewN q).heap.size := fun q o => by show w.heap.size ≤ (wr.alloc o).heap.size; simp; omega
        have HE := Lib.hid (And.intro hul hel)
        have HBE := Lib.hid hbel
        clear hul hel hrow hbel
        go_wp2
        go_region_held_law (fun w' => w'.cell? ⟨b1, o1 + s, none⟩ = some (.slice A3 n3 c3) ∧ w'.cell? ⟨b1, o1 + k, none⟩ = some (.slice A4 n4 c4)) (first | go_keep | exact ⟨k1, k2⟩) ((refine step_append_row (by rfl) (.tmp 21) (.tmp 40) 25 (by rfl) w.heap.size 38 i0 (.slice none 0 0) 24 Tryd.underlying25 hi hz0 hz1 hz2 rfl u5 _ us (by rfl) (hrowA _ _) _ 2 2 [.slice A3 n3 c3, .slice A4 n4 c4] (by rfl) (src_twoN _ _ _) two_one hc1 hc2 (hc3 _ _) ?_; intro v1 w1 hown1 hg1 hb1; have hB1 : Bel w w1 := HBE.out.grown (grown_two hg1) HBE.out.size (fun g e => (hlt g e).1); have k1 := Below.to_keeps hB1 _ _ hx2; have k2 := Below.to_keeps hB1 _ _ hy2))
        have hkW := fun o q => grown_keeps (grown_self (w := wr) (o := o) (q := q))
        have hfin : OwnW w1 w.heap.size v1 (turnL l t k ++ [x, y]) := by
          refine OwnW.pushAll HE.out.1 (fun i z hz => ?_) rfl (fun i z hz => ?_) hown1 hg1 hb1
          · obtain ⟨u, hu, hi', ho⟩ := HE.out.2 i z hz
            exact ⟨u, hu, hi'.keep (hkW _ _), ho⟩
          · match i, hz with
            | 0, hz =>
              simp at hz
              subst hz
              exact ⟨_, rfl, (hx3.isI.below HBE.out).keep (hkW _ _), hx3.isI.off_old fun g e => (hlt g e).1⟩
            | 1, hz =>
              simp at hz
              subst hz
              exact ⟨_, rfl, (hy3.isI.below HBE.out).keep (hkW _ _), hy3.isI.off_old fun g e => (hlt g e).1⟩
        have hstep : turnL l t (k + 1) = turnL l t k ++ [x, y] := by
          show turnL l t k ++ [l.getD (turnAt l.length k t) [], l.getD k []] = _
          rw [HAL.out.1, hsa, List.getD_eq_getElem?_getD, List.getD_eq_getElem?_getD, hx1, hy1]
          rfl
        rw [← hstep] at hfin
        have HF := Lib.hid (And.intro hfin hB1)
        clear hfin hB1 hown1 hg1 hb1 k1 k2 hrowA hc3 hkW hstep htm htm2 hsa
        go_wp2
        go_roundw
        case rel => exact ⟨k + 1, by omega, by go_num, HF.out.1, HF.out.2⟩
        case measure => simp [intOf] <;> omega
      · have hkn : k = l.length := by rw [HAL.out.1]; omega
        have hsame := turnL_same l t
        have hml := turnL_length l t l.length
        rw [← hkn] at hsame hml
        have hlm : (turnL l t k).length ≤ 40 := by omega
        have HFA := Lib.hid (setsFacts (by rw [← hkn]; omega) HAL.out.2 hlm hsame)
        generalize turnL l t k = mL at hown HFA hlm
        generalize sortW l = s at HFA
        generalize sortW (preL l) = p at HFA
        generalize sortW (sufL l) = q at HFA
        generalize maxR l = tt at HFA
        obtain ⟨Am, nm, cm, rfl, hrm⟩ := hown.isW (by omega)
        have hrl := ha.words (Below.to_keeps hbel)
        have HBW := Lib.hid hbel
        clear hsame hml hlm hown hbel ha hkn
        have B0 := Bel.refl wr
        go_wp2_with (fail)
        refine (sorted_to hrl (by omega) HFA.out.e1).mono ?_
        rintro _ x1 ⟨v1, rfl, hO1, hb1⟩
        obtain ⟨A1, n1, c1, rfl, hr1⟩ := hO1.isW (Nat.le_trans HFA.out.sl (by decide))
        have B1 : Bel wr x1 := B0.tr hb1
        clear hO1
        go_wp2_with (fail)
        refine (prefixes_to (hrl.words (Below.to_keeps B1)) (Nat.le_trans HFA.out.lp (by decide)) HFA.out.e2).mono ?_
        rintro _ x2 ⟨v2, rfl, hO2, hb2⟩
        obtain ⟨A2, n2, c2, rfl, hr2⟩ := hO2.isW (Nat.le_trans HFA.out.pl (by decide))
        have B2 : Bel wr x2 := B1.tr hb2
        clear hO2
        go_wp2_with (fail)
        refine (suffixes_to (hrl.words (Below.to_keeps B2)) (Nat.le_trans HFA.out.lq (by decide)) HFA.out.e3).mono ?_
        rintro _ x3 ⟨v3, rfl, hO3, hb3⟩
        obtain ⟨A3, n3, c3, rfl, hr3⟩ := hO3.isW (Nat.le_trans HFA.out.ql (by decide))
        have B3 : Bel wr x3 := B2.tr hb3
        clear hO3
        go_wp2_with (fail)
        refine (maximal_to (hrl.words (Below.to_keeps B3)) (by omega) HFA.out.e4).mono ?_
        rintro _ x4 ⟨v4, rfl, hO4, hb4⟩
        obtain ⟨A4, n4, c4, rfl, hr4⟩ := hO4.isW (Nat.le_trans HFA.out.tl (by decide))
        have B4 : Bel wr x4 := B3.tr hb4
        clear hO4
        have rs := hr1.words (Below.to_keeps (((Bel.refl x1).tr hb2).tr hb3 |>.tr hb4))
        have rp := hr2.words (Below.to_keeps (((Bel.refl x2).tr hb3).tr hb4))
        have rq := hr3.words (Below.to_keeps ((Bel.refl x3).tr hb4))
        have rt := hr4
        have rl := hrl.words (Below.to_keeps B4)
        have rm := hrm.words (Below.to_keeps B4)
        have HB4 := Lib.hid (HBW.out.tr B4)
        have g1 := rs.len
        have g2 := rp.len
        have g3 := rq.len
        have g4 := rt.len
        have g5 := rm.len
        have HLN := Lib.hid (And.intro g1 (And.intro g2 (And.intro g3 (And.intro g4 g5))))
        clear hr1 hr2 hr3 hr4 hrl hrm hb1 hb2 hb3 hb4 B0 B1 B2 B3 B4 g1 g2 g3 g4 g5
        have B4 := Bel.refl x4
        go_wp2_with (fail)
        refine (asc_true (rs.words (Below.to_keeps B4)) HFA.out.s1).mono ?_
        rintro _ x5 ⟨rfl, hb5⟩
        have B5 : Bel x4 x5 := B4.tr hb5
        clear hb5 B4
        go_wp2_with (fail)
        refine (asc_true (rp.words (Below.to_keeps B5)) HFA.out.s2).mono ?_
        rintro _ x6 ⟨rfl, hb6⟩
        have B6 : Bel x4 x6 := B5.tr hb6
        clear hb6 B5
        go_wp2_with (fail)
        refine (asc_true (rq.words (Below.to_keeps B6)) HFA.out.s3).mono ?_
        rintro _ x7 ⟨rfl, hb7⟩
        have B7 : Bel x4 x7 := B6.tr hb7
        clear hb7 B6
        go_wp2_with (fail)
        refine (asc_true (rt.words (Below.to_keeps B7)) HFA.out.s4).mono ?_
        rintro _ x8 ⟨rfl, hb8⟩
        have B8 : Bel x4 x8 := B7.tr hb8
        clear hb8 B7
        go_wp2_with (fail)
        refine (sorted_to (rm.words (Below.to_keeps B8)) (by have g1 := HLN.out.2.2.2.2; have g2 := HFA.out.ml; omega) HFA.out.m1).mono ?_
        rintro _ x9 ⟨v9, rfl, hO9, hb9⟩
        obtain ⟨A9, n9, c9, rfl, hr9⟩ := hO9.isW (Nat.le_trans HFA.out.sl (by decide))
        have B9 : Bel x4 x9 := B8.tr hb9
        clear hO9 hb9 B8
        go_wp2_with (fail)
        refine (same_true hr9 (rs.words (Below.to_keeps B9))).mono ?_
        rintro _ x10 ⟨rfl, hb10⟩
        have B10 : Bel x4 x10 := B9.tr hb10
        clear hb10 hr9 B9
        go_wp2_with (fail)
        refine (prefixes_to (rm.words (Below.to_keeps B10)) (Nat.le_trans HFA.out.mp (by decide)) HFA.out.m2).mono ?_
        rintro _ x11 ⟨v11, rfl, hO11, hb11⟩
        obtain ⟨A11, n11, c11, rfl, hr11⟩ := hO11.isW (Nat.le_trans HFA.out.pl (by decide))
        have B11 : Bel x4 x11 := B10.tr hb11
        clear hO11 hb11 B10
        go_wp2_with (fail)
        refine (same_true hr11 (rp.words (Below.to_keeps B11))).mono ?_
        rintro _ x12 ⟨rfl, hb12⟩
        have B12 : Bel x4 x12 := B11.tr hb12
        clear hb12 hr11 B11
        go_wp2_with (fail)
        refine (suffixes_to (rm.words (Below.to_keeps B12)) (Nat.le_trans HFA.out.mq (by decide)) HFA.out.m3).mono ?_
        rintro _ x13 ⟨v13, rfl, hO13, hb13⟩
        obtain ⟨A13, n13, c13, rfl, hr13⟩ := hO13.isW (Nat.le_trans HFA.out.ql (by decide))
        have B13 : Bel x4 x13 := B12.tr hb13
        clear hO13 hb13 B12
        go_wp2_with (fail)
        refine (same_true hr13 (rq.words (Below.to_keeps B13))).mono ?_
        rintro _ x14 ⟨rfl, hb14⟩
        have B14 : Bel x4 x14 := B13.tr hb14
        clear hb14 hr13 B13
        go_wp2_with (fail)
        refine (maximal_to (rm.words (Below.to_keeps B14)) (by have g1 := HLN.out.2.2.2.2; have g2 := HFA.out.ml; omega) HFA.out.m4).mono ?_
        rintro _ x15 ⟨v15, rfl, hO15, hb15⟩
        obtain ⟨A15, n15, c15, rfl, hr15⟩ := hO15.isW (Nat.le_trans HFA.out.tl (by decide))
        have B15 : Bel x4 x15 := B14.tr hb15
        clear hO15 hb15 B14
        go_wp2_with (fail)
        refine (same_true hr15 (rt.words (Below.to_keeps B15))).mono ?_
        rintro _ x16 ⟨rfl, hb16⟩
        have B16 : Bel x4 x16 := B15.tr hb16
        clear hb16 hr15 B15
        go_wp2_with (fail)
        refine (sorted_to (rs.words (Below.to_keeps B16)) (by have g1 := HLN.out.1; have g2 := HFA.out.sl; omega) HFA.out.a1).mono ?_
        rintro _ x17 ⟨v17, rfl, hO17, hb17⟩
        obtain ⟨A17, n17, c17, rfl, hr17⟩ := hO17.isW (Nat.le_trans HFA.out.sl (by decide))
        have B17 : Bel x4 x17 := B16.tr hb17
        clear hO17 hb17 B16
        go_wp2_with (fail)
        refine (same_true hr17 (rs.words (Below.to_keeps B17))).mono ?_
        rintro _ x18 ⟨rfl, hb18⟩
        have B18 : Bel x4 x18 := B17.tr hb18
        clear hb18 hr17 B17
        go_wp2_with (fail)
        refine (prefixes_to (rp.words (Below.to_keeps B18)) (Nat.le_trans HFA.out.pp (by decide)) HFA.out.a2).mono ?_
        rintro _ x19 ⟨v19, rfl, hO19, hb19⟩
        obtain ⟨A19, n19, c19, rfl, hr19⟩ := hO19.isW (Nat.le_trans HFA.out.pl (by decide))
        have B19 : Bel x4 x19 := B18.tr hb19
        clear hO19 hb19 B18
        go_wp2_with (fail)
        refine (same_true hr19 (rp.words (Below.to_keeps B19))).mono ?_
        rintro _ x20 ⟨rfl, hb20⟩
        have B20 : Bel x4 x20 := B19.tr hb20
        clear hb20 hr19 B19
        go_wp2_with (fail)
        refine (suffixes_to (rq.words (Below.to_keeps B20)) (Nat.le_trans HFA.out.qq (by decide)) HFA.out.a3).mono ?_
        rintro _ x21 ⟨v21, rfl, hO21, hb21⟩
        obtain ⟨A21, n21, c21, rfl, hr21⟩ := hO21.isW (Nat.le_trans HFA.out.ql (by decide))
        have B21 : Bel x4 x21 := B20.tr hb21
        clear hO21 hb21 B20
        go_wp2_with (fail)
        refine (same_true hr21 (rq.words (Below.to_keeps B21))).mono ?_
        rintro _ x22 ⟨rfl, hb22⟩
        have B22 : Bel x4 x22 := B21.tr hb22
        clear hb22 hr21 B21
        go_wp2_with (fail)
        refine (maximal_to (rt.words (Below.to_keeps B22)) (by have g1 := HLN.out.2.2.2.1; have g2 := HFA.out.tl; omega) HFA.out.a4).mono ?_
        rintro _ x23 ⟨v23, rfl, hO23, hb23⟩
        obtain ⟨A23, n23, c23, rfl, hr23⟩ := hO23.isW (Nat.le_trans HFA.out.tl (by decide))
        have B23 : Bel x4 x23 := B22.tr hb23
        clear hO23 hb23 B22
        go_wp2_with (fail)
        refine (same_true hr23 (rt.words (Below.to_keeps B23))).mono ?_
        rintro _ x24 ⟨rfl, hb24⟩
        have B24 : Bel x4 x24 := B23.tr hb24
        clear hb24 hr23 B23
        go_wp2_with (fail)
        go_loopw [11] (fun i wz => ∃ k : Nat, k ≤ n ∧ i = .int .i64 k ∧ Bel x4 wz) (fun i _ => n - (intOf i).toNat)
        case atStart => exact ⟨0, by omega, rfl, B24⟩
        case round =>
          obtain ⟨k, hk, rfl, hbel⟩ := hrel
          by_cases h1 : k < n
          · obtain ⟨b1, o1, A9, n9, c9, x, rfl, hx1, hx2, hx3⟩ := rl.word_at h1
            have hmem := List.mem_of_getElem? hx1
            have hcx := Below.to_keeps hbel _ _ hx2
            have rx := hx3
            have HMEM := Lib.hid (And.intro (HFA.out.i1 x hmem) (And.intro (HFA.out.i2 x hmem) (HFA.out.i3 x hmem)))
            have Z0 := hbel
            clear hx1 hx3 hmem hbel
            go_wp2_with (fail)
            refine (has_true (rs.words (Below.to_keeps Z0)) (rx.kept (Below.to_keeps Z0)) HMEM.out.1).mono ?_
            rintro _ z1 ⟨rfl, hb1⟩
            have Z1 := Z0.tr hb1
            have hcx1 := Below.to_keeps Z1 _ _ hx2
            go_wp2_with (fail)
            refine (has_true (rp.words (Below.to_keeps Z1)) (rx.kept (Below.to_keeps Z1)) HMEM.out.2.1).mono ?_
            rintro _ z2 ⟨rfl, hb2⟩
            have Z2 := Z1.tr hb2
            have hcx2 := Below.to_keeps Z2 _ _ hx2
            go_wp2_with (fail)
            refine (has_true (rq.words (Below.to_keeps Z2)) (rx.kept (Below.to_keeps Z2)) HMEM.out.2.2).mono ?_
            rintro _ z3 ⟨rfl, hb3⟩
            have Z3 := Z2.tr hb3
            clear hb1 hb2 hb3 hcx hcx1 hcx2 hx2
            go_wp2
            go_roundw
            case rel => exact ⟨k + 1, by omega, by go_num, Z3⟩
            case measure => simp [intOf] <;> omega
          · go_wp2_with (fail)
            have B24 := hbel
            refine (prefixes_to (rt.words (Below.to_keeps B24)) (Nat.le_trans HFA.out.tp (by decide)) HFA.out.t1).mono ?_
            rintro _ x25 ⟨v25, rfl, hO25, hb25⟩
            obtain ⟨A25, n25, c25, rfl, hr25⟩ := hO25.isW (Nat.le_trans HFA.out.pl (by decide))
            have B25 : Bel x4 x25 := B24.tr hb25
            clear hO25 hb25 B24
            go_wp2_with (fail)
            refine (same_true hr25 (rp.words (Below.to_keeps B25))).mono ?_
            rintro _ x26 ⟨rfl, hb26⟩
            have B26 : Bel x4 x26 := B25.tr hb26
            clear hb26 hr25 B25
            go_wp2_with (fail)
            refine (maximal_to (rp.words (Below.to_keeps B26)) (by have g1 := HLN.out.2.1; have g2 := HFA.out.pl; omega) HFA.out.t2).mono ?_
            rintro _ x27 ⟨v27, rfl, hO27, hb27⟩
            obtain ⟨A27, n27, c27, rfl, hr27⟩ := hO27.isW (Nat.le_trans HFA.out.tl (by decide))
            have B27 : Bel x4 x27 := B26.tr hb27
            clear hO27 hb27 B26
            go_wp2_with (fail)
            refine (same_true hr27 (rt.words (Below.to_keeps B27))).mono ?_
            rintro _ x28 ⟨rfl, hb28⟩
            have B28 : Bel x4 x28 := B27.tr hb28
            clear hb28 hr27 B27
            go_wp2_with (fail)
            refine (awake_any _).mono ?_
            rintro _ xe ⟨rfl, hbe⟩
            have BE := (HB4.out.tr B28).tr hbe
            go_wp2
            go_ret
            exact ⟨rfl, BE⟩

end Go.Proofs.YtmlghnfbjkcelaaDoor
