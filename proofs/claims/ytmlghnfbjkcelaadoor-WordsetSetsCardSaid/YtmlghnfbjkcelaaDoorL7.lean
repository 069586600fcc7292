/-
  Walk of the law WordsetLists: it returns true whatever the arguments.
-/
import Derived.Test.YtmlghnfbjkcelaaDoorL5
import Derived.Test.YtmlghnfbjkcelaaDoorOpen
namespace Go.Proofs.YtmlghnfbjkcelaaDoor
open Go.RowKit

theorem preL_length_le {k : Nat} : ∀ {l : List (List Int)}, (∀ x ∈ l, x.length ≤ k) → (preL l).length ≤ l.length * (k + 1)
  | [], _ => by simp [preL]
  | x :: l, h => by
    have h1 := preL_length_le (l := l) fun y hy => h y (by simp [hy])
    have h2 := h x (by simp)
    have h3 : (prefixes x).length = x.length + 1 := by simp [prefixes]
    have h4 : preL (x :: l) = prefixes x ++ preL l := by simp [preL]
    rw [h4, List.length_append, h3, List.length_cons, Nat.add_mul, Nat.one_mul]
    omega
theorem sufL_length_le {k : Nat} : ∀ {l : List (List Int)}, (∀ x ∈ l, x.length ≤ k) → (sufL l).length ≤ l.length * (k + 1)
  | [], _ => by simp [sufL]
  | x :: l, h => by
    have h1 := sufL_length_le (l := l) fun y hy => h y (by simp [hy])
    have h2 := h x (by simp)
    have h3 : (suffixes x).length = x.length + 1 := by simp [suffixes]
    have h4 : sufL (x :: l) = suffixes x ++ sufL l := by simp [sufL]
    rw [h4, List.length_append, h3, List.length_cons, Nat.add_mul, Nat.one_mul]
    omega

set_option maxRecDepth 100000 in
set_option maxHeartbeats 3200000 in
theorem lists_any {A B : Option Addr} {n c m c' : Nat} {l : List (List Int)} {y : List Int} {w : World} (ha : RowOf w (IsI w) A n c l) (hy : RowOf w IsInt B m c' y) :
    Calls Tryd.prog 7 #[.slice A n c, .slice B m c'] w (BoolB w true) := by
  have HG := Lib.hid (R02Great_any (W := 30) (S := 30) ha (by decide))
  have hys := hy.small
  cases hga : greatL l 30 30 with
  | true =>
    rw [hga] at HG
    clear ha hy
    go_enter Tryd.func7, Tryd.ntmps7
    go_wp2_with (first | (go_at_call 10; refine HG.out.mono ?_; rintro _ x1 ⟨rfl, rfl⟩) | (go_at_call 9; refine (awake_any _).mono ?_; rintro _ x4 ⟨rfl, hb4⟩))
    go_ret
    exact ⟨rfl, hb4⟩
  | false =>
    rw [hga] at HG
    by_cases hm : m > 30
    · have hd : decide ((m : Int) > 30) = true := decide_eq_true (by omega)
      clear ha hy
      go_enter Tryd.func7, Tryd.ntmps7
      go_wp2_with (first | (go_at_call 10; refine HG.out.mono ?_; rintro _ x1 ⟨rfl, rfl⟩) | (go_at_call 9; refine (awake_any _).mono ?_; rintro _ x4 ⟨rfl, hb4⟩))
      go_ret
      exact ⟨rfl, hb4⟩
    · have hd : decide ((m : Int) > 30) = false := decide_eq_false (by omega)
      obtain ⟨hga1, hga2⟩ := greatL_false hga
      have hal := ha.len
      have hw30 : ∀ x ∈ l, x.length ≤ 30 := fun x hx => by have := hga2 x hx; omega
      have hpl := preL_length_le hw30
      have hsl := sufL_length_le hw30
      have hn30 : l.length ≤ 30 := by omega
      have hpl2 : (preL l).length ≤ 930 := by omega
      have hsl2 : (sufL l).length ≤ 930 := by omega
      have hxl := maxR_length l
      have s1 := sortW_length l
      have s2 := sortW_length (preL l)
      have s3 := sortW_length (sufL l)
      have HSZ := Lib.hid (fun W (hk : Keeps w W) => wordsetSize_any (ha.words hk) (by omega) (fun x hx => by have := hw30 x hx; omega))
      have HSR := Lib.hid (fun W (hk : Keeps w W) => R02Size_any (ha.words hk) (by omega) (fun x hx => by have := hw30 x hx; omega))
      have HH := Lib.hid (fun W (hk : Keeps w W) => wordsetHas_any (ha.words hk) (hy.kept hk))
      have HHR := Lib.hid (fun W (hk : Keeps w W) => R02Has_any (ha.words hk) (hy.kept hk))
      have HSO := Lib.hid (fun W (hk : Keeps w W) => wordsetSorted_any (ha.words hk) (by omega))
      have HSOR := Lib.hid (fun W (hk : Keeps w W) => R02Sorted_any (ha.words hk) (by omega))
      have HP := Lib.hid (fun W (hk : Keeps w W) => wordsetPrefixes_any (ha.words hk) (by omega))
      have HPR := Lib.hid (fun W (hk : Keeps w W) => R02Prefixes_any (ha.words hk) (by omega))
      have HU := Lib.hid (fun W (hk : Keeps w W) => wordsetSuffixes_any (ha.words hk) (by omega))
      have HUR := Lib.hid (fun W (hk : Keeps w W) => R02Suffixes_any (ha.words hk) (by omega))
      have HM := Lib.hid (fun W (hk : Keeps w W) => wordsetMaximal_any (ha.words hk) (by omega))
      have HMR := Lib.hid (fun W (hk : Keeps w W) => R02Maximal_any (ha.words hk) (by omega))
      have b1 : (sortW l).length ≤ 17592186044416 := by omega
      have b2 : (sortW (preL l)).length ≤ 17592186044416 := by omega
      have b3 : (sortW (sufL l)).length ≤ 17592186044416 := by omega
      have b4 : (maxR l).length ≤ 17592186044416 := by omega
      clear ha hy hga hga1 hga2 hw30 hpl hsl hpl2 hsl2 s1 s2 s3 hxl hn30 hal
      generalize sortW l = r1 at HSO HSOR b1
      generalize sortW (preL l) = r2 at HP HPR b2
      generalize sortW (sufL l) = r3 at HU HUR b3
      generalize sumLen (maxR l) = r5 at HSZ HSR
      generalize hr4 : maxR l = r4 at HM HMR b4 HSZ HSR
      generalize r4.length = r6 at HSZ HSR
      generalize decide (y ∈ l) = bb at HH HHR
      clear hr4
      go_enter Tryd.func7, Tryd.ntmps7
      have B0 := Bel.refl w
      go_wp2_with (fail)
      refine HG.out.mono ?_
      rintro _ x0 ⟨rfl, rfl⟩
      go_wp2_with (fail)
      refine (HSZ.out _ (Below.to_keeps B0)).mono ?_
      rintro _ x1 ⟨rfl, hb1⟩
      have B1 : Bel w x1 := B0.tr hb1
      clear hb1 B0
      go_wp2_with (fail)
      refine (HSR.out _ (Below.to_keeps B1)).mono ?_
      rintro _ x2 ⟨rfl, hb2⟩
      have B2 : Bel w x2 := B1.tr hb2
      clear hb2 B1
      go_wp2_with (fail)
      refine (HSO.out _ (Below.to_keeps B2)).mono ?_
      rintro _ x3 ⟨v3, rfl, hO3, hb3⟩
      obtain ⟨A3, n3, c3, rfl, hr3⟩ := hO3.isW b1
      have B3 : Bel w x3 := B2.tr hb3
      clear hb3 hO3 B2
      go_wp2_with (fail)
      refine (HSOR.out _ (Below.to_keeps B3)).mono ?_
      rintro _ x4 ⟨v4, rfl, hO4, hb4⟩
      obtain ⟨A4, n4, c4, rfl, hr4⟩ := hO4.isW b1
      have hk4 := hr3.words (Below.to_keeps hb4)
      have B4 : Bel w x4 := B3.tr hb4
      clear hb4 hO4 B3 hr3
      go_wp2_with (fail)
      refine (same_true hk4 hr4).mono ?_
      rintro _ x5 ⟨rfl, hb5⟩
      have B5 : Bel w x5 := B4.tr hb5
      clear hb5 B4 hk4 hr4
      go_wp2_with (fail)
      refine (HH.out _ (Below.to_keeps B5)).mono ?_
      rintro _ x6 ⟨rfl, hb6⟩
      have B6 : Bel w x6 := B5.tr hb6
      clear hb6 B5
      go_wp2_with (fail)
      refine (HHR.out _ (Below.to_keeps B6)).mono ?_
      rintro _ x7 ⟨rfl, hq7⟩
      have B7 : Bel w x7 := B6.tr (Qt.below hq7 _)
      clear hq7 B6
      go_wp2_with (fail)
      refine (HP.out _ (Below.to_keeps B7)).mono ?_
      rintro _ x8 ⟨v8, rfl, hO8, hb8⟩
      obtain ⟨A8, n8, c8, rfl, hr8⟩ := hO8.isW b2
      have B8 : Bel w x8 := B7.tr hb8
      clear hb8 hO8 B7
      go_wp2_with (fail)
      refine (HPR.out _ (Below.to_keeps B8)).mono ?_
      rintro _ x9 ⟨v9, rfl, hO9, hb9⟩
      obtain ⟨A9, n9, c9, rfl, hr9⟩ := hO9.isW b2
      have hk9 := hr8.words (Below.to_keeps hb9)
      have B9 : Bel w x9 := B8.tr hb9
      clear hb9 hO9 B8 hr8
      go_wp2_with (fail)
      refine (same_true hk9 hr9).mono ?_
      rintro _ x10 ⟨rfl, hb10⟩
      have B10 : Bel w x10 := B9.tr hb10
      clear hb10 B9 hk9 hr9
      go_wp2_with (fail)
      refine (HU.out _ (Below.to_keeps B10)).mono ?_
      rintro _ x11 ⟨v11, rfl, hO11, hb11⟩
      obtain ⟨A11, n11, c11, rfl, hr11⟩ := hO11.isW b3
      have B11 : Bel w x11 := B10.tr hb11
      clear hb11 hO11 B10
      go_wp2_with (fail)
      refine (HUR.out _ (Below.to_keeps B11)).mono ?_
      rintro _ x12 ⟨v12, rfl, hO12, hb12⟩
      obtain ⟨A12, n12, c12, rfl, hr12⟩ := hO12.isW b3
      have hk12 := hr11.words (Below.to_keeps hb12)
      have B12 : Bel w x12 := B11.tr hb12
      clear hb12 hO12 B11 hr11
      go_wp2_with (fail)
      refine (same_true hk12 hr12).mono ?_
      rintro _ x13 ⟨rfl, hb13⟩
      have B13 : Bel w x13 := B12.tr hb13
      clear hb13 B12 hk12 hr12
      go_wp2_with (fail)
      refine (HM.out _ (Below.to_keeps B13)).mono ?_
      rintro _ x14 ⟨v14, rfl, hO14, hb14⟩
      obtain ⟨A14, n14, c14, rfl, hr14⟩ := hO14.isW b4
      have B14 : Bel w x14 := B13.tr hb14
      clear hb14 hO14 B13
      go_wp2_with (fail)
      refine (HMR.out _ (Below.to_keeps B14)).mono ?_
      rintro _ x15 ⟨v15, rfl, hO15, hb15⟩
      obtain ⟨A15, n15, c15, rfl, hr15⟩ := hO15.isW b4
      have hk15 := hr14.words (Below.to_keeps hb15)
      have B15 : Bel w x15 := B14.tr hb15
      clear hb15 hO15 B14 hr14
      go_wp2_with (fail)
      refine (same_true hk15 hr15).mono ?_
      rintro _ x16 ⟨rfl, hb16⟩
      have B16 : Bel w x16 := B15.tr hb16
      clear hb16 B15 hk15 hr15
      go_wp2_with (fail)
      refine (awake_any _).mono ?_
      rintro _ x17 ⟨rfl, hb17⟩
      have B17 : Bel w x17 := B16.tr hb17
      go_wp2
      go_ret
      exact ⟨rfl, B17⟩

end Go.Proofs.YtmlghnfbjkcelaaDoor
