/-
  Walk of the law WordsetParts: it returns true whatever the arguments.
-/
import Derived.Test.YtmlghnfbjkcelaaDoorL5
import Derived.Test.YtmlghnfbjkcelaaDoorOpen
import Derived.Test.YtmlghnfbjkcelaaDoorPartsPlain
import Derived.Deep.RegionHeld3
import Derived.WalkSmall
import Derived.Deep.RegionWith
namespace Go.Proofs.YtmlghnfbjkcelaaDoor
open Go.RowKit

/-- The case that a list or the word is great. -/
def PartsCall (A B C : Option Addr) (n c m c' r d : Nat) (w : World) : Prop :=
  Calls Tryd.prog 6 #[.slice A n c, .slice B m c', .slice C r d] w (BoolB w true)

set_option maxRecDepth 100000 in
set_option maxHeartbeats 3200000 in
theorem parts_great {A B C : Option Addr} {n c m c' r d : Nat} {a b : List (List Int)} {w : World} (ha : RowOf w (IsI w) A n c a) (hb : RowOf w (IsI w) B m c' b)
    (hg : greatL a 12 12 = true ∨ greatL b 12 12 = true ∨ 30 < r) : PartsCall A B C n c m c' r d w := by
  unfold PartsCall
  have HG := Lib.hid (R02Great_any (W := 12) (S := 12) ha (by decide))
  have HH := Lib.hid (R02Great_any (W := 12) (S := 12) hb (by decide))
  clear ha hb
  cases hga : greatL a 12 12 with
  | true =>
    rw [hga] at HG
    go_enter Tryd.func6, Tryd.ntmps6
    go_wp2_with (first | (go_at_call_of 10 (Value.slice A n c); refine HG.out.mono ?_; rintro _ x1 ⟨rfl, rfl⟩) | (go_at_call_of 10 (Value.slice B m c'); refine HH.out.mono ?_; rintro _ x1 ⟨rfl, rfl⟩) | (go_at_call 9; refine (awake_any _).mono ?_; rintro _ x4 ⟨rfl, hb4⟩))
    go_ret
    exact ⟨rfl, hb4⟩
  | false =>
    rw [hga] at HG
    cases hgb : greatL b 12 12 with
    | true =>
      rw [hgb] at HH
      go_enter Tryd.func6, Tryd.ntmps6
      go_wp2_with (first | (go_at_call_of 10 (Value.slice A n c); refine HG.out.mono ?_; rintro _ x1 ⟨rfl, rfl⟩) | (go_at_call_of 10 (Value.slice B m c'); refine HH.out.mono ?_; rintro _ x1 ⟨rfl, rfl⟩) | (go_at_call 9; refine (awake_any _).mono ?_; rintro _ x4 ⟨rfl, hb4⟩))
      go_ret
      exact ⟨rfl, hb4⟩
    | false =>
      rw [hgb] at HH
      have hr : 30 < r := by
        rcases hg with h | h | h
        · rw [hga] at h; cases h
        · rw [hgb] at h; cases h
        · exact h
      have hd : decide ((r : Int) > 30) = true := decide_eq_true (by omega)
      clear hg
      go_enter Tryd.func6, Tryd.ntmps6
      go_wp2_with (first | (go_at_call_of 10 (Value.slice A n c); refine HG.out.mono ?_; rintro _ x1 ⟨rfl, rfl⟩) | (go_at_call_of 10 (Value.slice B m c'); refine HH.out.mono ?_; rintro _ x1 ⟨rfl, rfl⟩) | (go_at_call 9; refine (awake_any _).mono ?_; rintro _ x4 ⟨rfl, hb4⟩))
      go_ret
      exact ⟨rfl, hb4⟩

theorem below_join {w w3 : World} {o : Obj} {q : Nat} (h : Below ((w.alloc o).drewN q).heap.size ((w.alloc o).drewN q) w3) : Bel w w3 := by
  have h0 := (Below.refl _ w).alloc (Nat.le_refl _) o
  have h1 : Below w.heap.size w ((w.alloc o).drewN q) := ⟨h0.os, h0.tape, h0.output, h0.size, h0.block⟩
  exact h1.trans (h.mono (by show w.heap.size ≤ (w.alloc o).heap.size; simp))

set_option maxRecDepth 100000 in
set_option maxHeartbeats 6400000 in
theorem parts_small {A B C : Option Addr} {n c m c' r d : Nat} {a b : List (List Int)} {y : List Int} {w : World} (ha : RowOf w (IsI w) A n c a) (hb : RowOf w (IsI w) B m c' b) (hy : RowOf w IsInt C r d y)
    (hra : RngL a) (hrb : RngL b) (hga : greatL a 12 12 = false) (hgb : greatL b 12 12 = false) (hr : r ≤ 30) : PartsCall A B C n c m c' r d w := by
  unfold PartsCall
  have HG := Lib.hid (R02Great_any (W := 12) (S := 12) ha (by decide))
  have HH := Lib.hid (R02Great_any (W := 12) (S := 12) hb (by decide))
  rw [hga] at HG
  rw [hgb] at HH
  obtain ⟨hga1, hga2⟩ := greatL_false hga
  obtain ⟨hgb1, hgb2⟩ := greatL_false hgb
  have hal := ha.len
  have hbl := hb.len
  have hyl := hy.len
  have hn12 : n ≤ 12 := by omega
  have hm12 : m ≤ 12 := by omega
  have ha12 : ∀ x ∈ a, x.length ≤ 12 := fun x hx => by have := hga2 x hx; omega
  have hb12 : ∀ x ∈ b, x.length ≤ 12 := fun x hx => by have := hgb2 x hx; omega
  obtain ⟨hprod, hcount, h144⟩ := prodW_small (a := a) (b := b) (by omega) (by omega) ha12 hb12
  have hpm := prodL_sorted a b
  have hpasc := sortW_asc (prodL (sortW a) (sortW b))
  have hs1 := sortW_length a
  have hs2 := sortW_length b
  have hmul : (sortW a).length * (sortW b).length ≤ 12 * 12 := Nat.mul_le_mul (by omega) (by omega)
  have HP := Lib.hid (wordsetProduct_any ha hb (by omega) (by omega) hra hrb)
  have HSA := Lib.hid (fun W (hk : Keeps w W) => wordsetSorted_any (ha.words hk) (by omega))
  have HSB := Lib.hid (fun W (hk : Keeps w W) => wordsetSorted_any (hb.words hk) (by omega))
  rw [hprod] at HP
  generalize sortW (prodL (sortW a) (sortW b)) = p at HP hcount h144 hpm hpasc
  generalize sortW a = sa at HSA hs1 hmul hcount
  generalize sortW b = sb at HSB hs2 hmul hcount
  have hw : wrap64 ((sa.length : Int) * (sb.length : Int)) = (sa.length : Int) * (sb.length : Int) := by
    rw [← Int.natCast_mul]
    unfold wrap64
    omega
  have hdc : decide ((p.length : Int) > (sa.length : Int) * (sb.length : Int)) = false := by
    rw [← Int.natCast_mul]
    exact decide_eq_false (Int.not_lt.2 (Int.ofNat_le.2 hcount))
  have hd30 : decide ((r : Int) > 30) = false := decide_eq_false (by omega)
  have hU := upto4
  have HUA := Lib.hid (show Asc (uptoW 2 4).1 by rw [upto4_asc]; exact sortW_asc _)
  have HUM := Lib.hid (upto4_mem y)
  have HUP := Lib.hid (fun W => wordsetUpto_any 2 4 W)
  generalize uptoW 2 4 = u at hU HUA HUM HUP
  obtain ⟨U, ue⟩ := u
  obtain ⟨hU1, hU2⟩ := hU
  have hU1' : U.length = 31 := hU1
  have hU2' : ue = 0 := hU2
  subst hU2'
  have HPM := Lib.hid hpm
  have HPA := Lib.hid hpasc
  have H12 := Lib.hid (And.intro ha12 hb12)
  have HLEN := Lib.hid (And.intro hal (And.intro hbl hyl))
  clear hga hgb hga1 hga2 hgb1 hgb2 hra hrb hprod hcount hpm hpasc ha12 hb12 hU1 hU2 hmul
  go_enter Tryd.func6, Tryd.ntmps6
  go_wp2_with (first | (go_at_call_of 10 (Value.slice A n c); refine HG.out.mono ?_; rintro _ x1 ⟨rfl, rfl⟩) | (go_at_call_of 10 (Value.slice B m c'); refine HH.out.mono ?_; rintro _ x1 ⟨rfl, rfl⟩) | (go_at_call 14; refine HP.out.mono ?_; rintro _ x1 ⟨v1, rfl, hO1, hb1⟩; obtain ⟨A1, n1, c1, rfl, hr1⟩ := hO1.isW (Nat.le_trans h144 (by decide)); obtain rfl : n1 = p.length := hr1.len.symm; have hasc := asc_bool HPA.out p.length rfl) | (go_at_call 18; refine (ascending_any hr1).mono ?_; rw [hasc]; rintro _ x2 ⟨rfl, hq2⟩))
  have hr2 := hr1.words (Qt.keeps hq2)
  have B2 : Bel w x2 := (show Bel w x1 from hb1).tr (Qt.below hq2 _)
  clear hO1 hb1 hr1 hq2 hasc HP HG HH
  have ha2 := ha.words (Below.to_keeps B2)
  have hb2 := hb.words (Below.to_keeps B2)
  have hy2 := hy.kept (Below.to_keeps B2)
  clear ha hb hy
  have HB2 := Lib.hid B2
  clear B2
  go_loopw [9, 10] (fun f i wr => ∃ k : Nat, k ≤ n ∧ i = .int .i64 k ∧ f = .bool (decide (y ∈ prodL (a.take k) b)) ∧ Bel x2 wr) (fun _ i _ => n - (intOf i).toNat)
  case atStart => exact ⟨0, by omega, rfl, by simp [prodL], Bel.refl _⟩
  case round =>
    obtain ⟨k, hk, rfl, rfl, hbel⟩ := hrel
    by_cases h1 : k < n
    · obtain ⟨b1, o1, A3, n3, c3, x, rfl, hx1, hx2, hx3⟩ := ha2.word_at h1
      have HX := Lib.hid hx1
      clear hx1
      generalize hff : decide (y ∈ prodL (a.take k) b) = ff
      have HFF := Lib.hid hff
      clear hff
      go_wp2
      obtain ⟨wo, rfl⟩ : ∃ wo : World, wo = wr := ⟨_, rfl⟩
      go_loopw [9, 11] (fun f j wi => ∃ t : Nat, t ≤ m ∧ j = .int .i64 t ∧ f = .bool (decide (y ∈ prodL (a.take k) b ++ (b.take t).map (x ++ ·))) ∧ Bel x2 wi) (fun _ j _ => m - (intOf j).toNat)
      case atStart => exact ⟨0, by omega, rfl, by rw [← HFF.out]; simp, hbel⟩
      case round =>
        obtain ⟨t, ht, rfl, rfl, hbi⟩ := hrel
        by_cases h2 : t < m
        · obtain ⟨b2, o2, A4, n4, c4, z, rfl, hz1, hz2, hz3⟩ := hb2.word_at h2
          have HZ := Lib.hid hz1
          clear hz1
          have hlx := H12.out.1 x (List.mem_of_getElem? HX.out)
          have hlz := H12.out.2 z (List.mem_of_getElem? HZ.out)
          have hcx := Below.to_keeps hbi _ _ hx2
          have hcz := Below.to_keeps hbi _ _ hz2
          have hu : IsI wr (.slice A3 n3 c3) x := hx3.isI.below hbi
          have hv : IsI wr (.slice A4 n4 c4) z := hz3.isI.below hbi
          have hjl : [x, z].flatten.length ≤ 1000000000 := by simp; omega
          have HJ := Lib.hid (fun T q => R01Join_any ((pair_row hu hv T).words (Keeps.drewN _ q)) hjl)
          have hst : prodL (a.take k) b ++ (b.take (t + 1)).map (x ++ ·) = (prodL (a.take k) b ++ (b.take t).map (x ++ ·)) ++ [[x, z].flatten] := by
            rw [take_step HZ.out, List.map_append, List.append_assoc]; simp
          have HST := Lib.hid hst
          have hin : decide ([x, z].flatten ∈ p) = true := by
            apply decide_eq_true
            rw [HPM.out, mem_prodL]
            exact ⟨x, List.mem_of_getElem? HX.out, z, List.mem_of_getElem? HZ.out, by simp⟩
          have hjl24 : [x, z].flatten.length ≤ 24 := by simp; omega
          generalize hzz : [x, z].flatten = zz at HJ HST hin hjl24
          generalize hQ : prodL (a.take k) b ++ (b.take t).map (x ++ ·) = Q at HST
          have HBI := Lib.hid hbi
          clear hu hv hjl hbi hst hzz hQ
          have hstep : decide (y ∈ Q ++ [zz]) = (decide (y ∈ Q) || decide (zz = y)) := by
            rw [Bool.eq_iff_iff]
            simp only [decide_eq_true_eq, Bool.or_eq_true, List.mem_append, List.mem_singleton]
            constructor
            · rintro (h | h)
              · exact .inl h
              · exact .inr h.symm
            · rintro (h | h)
              · exact .inl h
              · exact .inr h.symm
          have HSTEP := Lib.hid hstep
          clear hstep
          generalize decide (y ∈ Q) = fb at HSTEP
          generalize hsm : decide (zz = y) = sm at HSTEP
          have HSM := Lib.hid hsm
          clear hsm
          cases fb with
          | true =>
            go_wp2
            go_region_held3 (fun w' => w'.cell? ⟨b1, o1 + k, none⟩ = some (.slice A3 n3 c3) ∧ w'.cell? ⟨b2, o2 + t, none⟩ = some (.slice A4 n4 c4)) (first | go_keep | exact ⟨k1, k2⟩) (first | (go_at_call 19; refine (HJ.out _ 1).mono ?_; rintro e w3 ⟨jv, rfl, hjo, hjb⟩; have hB3 : Bel wr w3 := below_join hjb; have k1 := Below.to_keeps hB3 _ _ hcx; have k2 := Below.to_keeps hB3 _ _ hcz; obtain ⟨Aj, nj, cj, rfl, hjr⟩ := hjo.isI (by omega)))
            have hBx := HBI.out.tr hB3
            have hrp := hr2.words (Below.to_keeps hBx)
            go_wp2_with (go_at_call 20; refine (wordsetHas_any hrp hjr).mono ?_; rw [hin]; rintro _ w5 ⟨rfl, hb5⟩)
            have hfin := hBx.tr hb5
            go_roundw
            case rel => exact ⟨t + 1, by omega, by go_num, by rw [HST.out, HSTEP.out]; rfl, hfin⟩
            case measure => simp [intOf] <;> omega
          | false =>
            go_wp2
            go_region_held3 (fun w' => w'.cell? ⟨b1, o1 + k, none⟩ = some (.slice A3 n3 c3) ∧ w'.cell? ⟨b2, o2 + t, none⟩ = some (.slice A4 n4 c4)) (first | go_keep | exact ⟨k1, k2⟩) (first | (go_at_call 19; refine (HJ.out _ 1).mono ?_; rintro e w3 ⟨jv, rfl, hjo, hjb⟩; have hB3 : Bel wr w3 := below_join hjb; have k1 := Below.to_keeps hB3 _ _ hcx; have k2 := Below.to_keeps hB3 _ _ hcz; obtain ⟨Aj, nj, cj, rfl, hjr⟩ := hjo.isI (by omega)))
            have hBx := HBI.out.tr hB3
            have hrp := hr2.words (Below.to_keeps hBx)
            go_wp2_with (first | (go_at_call 20; refine (wordsetHas_any hrp hjr).mono ?_; rw [hin]; rintro _ w5 ⟨rfl, hb5⟩) | (go_at_call 21; refine (R01Same_any (hjr.kept (Below.to_keeps hb5)) (hy2.kept (Below.to_keeps (hBx.tr hb5)))).mono ?_; rw [HSM.out]; rintro _ w6 ⟨rfl, hq6⟩))
            have hfin := (hBx.tr hb5).tr (Qt.below hq6 _)
            go_roundw
            case rel => exact ⟨t + 1, by omega, by go_num, by rw [HST.out, HSTEP.out]; simp, hfin⟩
            case measure => simp [intOf] <;> omega
        · have HBI := Lib.hid hbi
          clear hbi
          go_wp2
          go_roundw
          case rel => exact ⟨k + 1, by omega, by go_num, by rw [prodL_step b HX.out, List.take_of_length_le (l := b) (by rw [HLEN.out.2.1]; omega)], HBI.out⟩
          case measure => simp [intOf] <;> omega
    · have hpe : decide (y ∈ prodL (a.take k) b) = decide (y ∈ p) := by
        rw [List.take_of_length_le (by rw [HLEN.out.1]; omega), Bool.eq_iff_iff, decide_eq_true_eq, decide_eq_true_eq, HPM.out]
      have hBw := HB2.out.tr hbel
      have hrp := hr2.words (Below.to_keeps hbel)
      have hyr := hy2.kept (Below.to_keeps hbel)
      have HHAS := Lib.hid (wordsetHas_any hrp hyr)
      rw [hpe]
      clear hpe
      generalize decide (y ∈ p) = bb at HHAS
      have hb1' : (bb != bb) = false := by simp
      go_wp2_with (first | (go_at_call 20; refine HHAS.out.mono ?_; rintro _ x3 ⟨rfl, hb3⟩) | (go_at_call_of 22 (Value.slice A n c); refine (HSA.out _ (Below.to_keeps (hBw.tr hb3))).mono ?_; rintro _ x4 ⟨v4, rfl, hO4, hb4⟩; obtain ⟨A4, n4, c4, rfl, hr4⟩ := hO4.isW (by omega); obtain rfl : n4 = sa.length := hr4.len.symm) | (go_at_call_of 22 (Value.slice B m c'); refine (HSB.out _ (Below.to_keeps ((hBw.tr hb3).tr hb4))).mono ?_; rintro _ x5 ⟨v5, rfl, hO5, hb5⟩; obtain ⟨A5, n5, c5, rfl, hr5⟩ := hO5.isW (by omega); obtain rfl : n5 = sb.length := hr5.len.symm) | (go_at_call 16; refine (HUP.out _).mono ?_; rintro _ x6 ⟨v6, rfl, hO6, hb6⟩; obtain ⟨A6, n6, c6, rfl, hr6⟩ := hO6.isW (by show U.length ≤ _; rw [hU1']; decide); obtain rfl : n6 = 31 := (by rw [← hr6.len]; exact hU1')))
      have B6 : Bel x2 x6 := (((hbel.tr hb3).tr hb4).tr hb5).tr hb6
      have hy6 := hy2.kept (Below.to_keeps B6)
      have HB6 := Lib.hid (HB2.out.tr B6)
      clear hb3 hb4 hb5 hb6 hO4 hr4 hO5 hr5 hO6 hbel hBw hrp hyr HHAS B6 hr2 hy2 ha2 hb2
      go_loop [15, 16] (fun inn i => ∃ k : Nat, k ≤ r ∧ i = .int .i64 k ∧ inn = .bool (inB y k)) (fun _ i => r - (intOf i).toNat)
      case atStart => exact ⟨0, by omega, rfl, by simp [inB, HLEN.out.2.2] <;> omega⟩
      case round =>
        obtain ⟨k, hk, rfl, rfl⟩ := hrel
        by_cases h1 : k < r
        · obtain ⟨b3, o3, x, rfl, hx1, hx2⟩ := hy6.int_at h1
          have hst := inB_step hx1
          have HST := Lib.hid hst
          clear hst hx1
          generalize inB y k = ib at HST
          cases ib with
          | false =>
            go_wp2
            go_round
            case rel => exact ⟨k + 1, by omega, by go_num, by rw [HST.out]; rfl⟩
            case measure => simp [intOf] <;> omega
          | true =>
            by_cases h0 : x = 0
            · have d0 : ((x : Int) == 0) = true := by simp [h0]
              have e0 : is01 x = true := by rw [h0]; rfl
              have HE := Lib.hid e0
              clear h0 e0
              go_wp2
              go_round
              case rel => exact ⟨k + 1, by omega, by go_num, by rw [HST.out, HE.out]; rfl⟩
              case measure => simp [intOf] <;> omega
            · have d0 : ((x : Int) == 0) = false := by simp [h0]
              have e0 : is01 x = ((x : Int) == 1) := by
                unfold is01
                rw [Bool.eq_iff_iff]
                simp [h0]
              have HE := Lib.hid e0
              clear h0 e0
              go_wp2
              go_round
              case rel => exact ⟨k + 1, by omega, by go_num, by rw [HST.out, HE.out]; simp⟩
              case measure => simp [intOf] <;> omega
        · have hkr : k = y.length := by rw [HLEN.out.2.2]; omega
          have hua := asc_bool HUA.out 31 hU1'
          have HAS := Lib.hid (ascending_any hr6)
          have HHU := Lib.hid (fun W (hk : Keeps x6 W) => wordsetHas_any (hr6.words hk) (hy6.kept hk))
          have hum : decide (y ∈ U) = inB y k := by rw [hkr]; exact HUM.out
          rw [hua] at HAS
          rw [hum] at HHU
          clear hua hum hkr hr6 hy6
          generalize inB y k = ib at HHU
          have hbb : (ib == ib) = true := by simp
          go_wp2_with (first | (go_at_call 18; refine HAS.out.mono ?_; rintro _ x7 ⟨rfl, hq7⟩) | (go_at_call 20; refine (HHU.out _ (Qt.keeps hq7)).mono ?_; rintro _ x8 ⟨rfl, hb8⟩) | (go_at_call 9; refine (awake_any _).mono ?_; rintro _ x9 ⟨rfl, hb9⟩))
          go_ret
          exact ⟨rfl, ((HB6.out.tr (Qt.below hq7 _)).tr hb8).tr hb9⟩

theorem parts_any {A B C : Option Addr} {n c m c' r d : Nat} {a b : List (List Int)} {y : List Int} {w : World} (ha : RowOf w (IsI w) A n c a) (hb : RowOf w (IsI w) B m c' b) (hy : RowOf w IsInt C r d y)
    (hra : RngL a) (hrb : RngL b) : PartsCall A B C n c m c' r d w := by
  by_cases h : greatL a 12 12 = true ∨ greatL b 12 12 = true ∨ 30 < r
  · exact parts_great ha hb h
  · refine parts_small ha hb hy hra hrb ?_ ?_ (by omega)
    · cases hg : greatL a 12 12 with
      | true => exact absurd (.inl hg) h
      | false => rfl
    · cases hg : greatL b 12 12 with
      | true => exact absurd (.inr (.inl hg)) h
      | false => rfl

end Go.Proofs.YtmlghnfbjkcelaaDoor
