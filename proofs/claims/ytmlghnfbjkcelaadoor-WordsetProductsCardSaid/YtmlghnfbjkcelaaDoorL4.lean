/-
  Walk of the law WordsetProducts: it returns true whatever the arguments.
-/
import Derived.Test.YtmlghnfbjkcelaaDoorL5
import Derived.Test.YtmlghnfbjkcelaaDoorOpen
namespace Go.Proofs.YtmlghnfbjkcelaaDoor
open Go.RowKit

theorem sortW_prod_length (a b : List (List Int)) : (prodW a b).1.length ≤ a.length * b.length := by
  unfold prodW
  split
  · simp
  · split
    · simp
    · have h1 := sortW_length (prodL (sortW a) (sortW b))
      rw [prodL_length] at h1
      exact Nat.le_trans h1 (Nat.mul_le_mul (sortW_length a) (sortW_length b))

set_option maxRecDepth 100000 in
set_option maxHeartbeats 1600000 in
theorem products_any {A B : Option Addr} {n c m c' : Nat} {a b : List (List Int)} {w : World} (ha : RowOf w (IsI w) A n c a) (hb : RowOf w (IsI w) B m c' b) (hra : RngL a) (hrb : RngL b) :
    Calls Tryd.prog 4 #[.slice A n c, .slice B m c'] w (BoolB w true) := by
  have HG := Lib.hid (R02Great_any (W := 200) (S := 1100) ha (by decide))
  have HH := Lib.hid (R02Great_any (W := 200) (S := 1100) hb (by decide))
  cases hga : greatL a 200 1100 with
  | true =>
    rw [hga] at HG
    clear ha hb
    go_enter Tryd.func4, Tryd.ntmps4
    go_wp2_with (first | (go_at_call 10; refine HG.out.mono ?_; rintro _ x1 ⟨rfl, rfl⟩) | (go_at_call 9; refine (awake_any _).mono ?_; rintro _ x4 ⟨rfl, hb4⟩))
    go_ret
    exact ⟨rfl, hb4⟩
  | false =>
    rw [hga] at HG
    cases hgb : greatL b 200 1100 with
    | true =>
      rw [hgb] at HH
      clear ha hb
      go_enter Tryd.func4, Tryd.ntmps4
      go_wp2_with (first | (go_at_call_of 10 (Value.slice A n c); refine HG.out.mono ?_; rintro _ x1 ⟨rfl, rfl⟩) | (go_at_call_of 10 (Value.slice B m c'); refine HH.out.mono ?_; rintro _ x1 ⟨rfl, rfl⟩) | (go_at_call 9; refine (awake_any _).mono ?_; rintro _ x4 ⟨rfl, hb4⟩))
      go_ret
      exact ⟨rfl, hb4⟩
    | false =>
      rw [hgb] at HH
      obtain ⟨hga1, hga2⟩ := greatL_false hga
      obtain ⟨hgb1, hgb2⟩ := greatL_false hgb
      have hal := ha.len
      have hbl := hb.len
      have hn : n ≤ 1000 := by omega
      have hm : m ≤ 1000 := by omega
      have HLEN := Lib.hid (show (prodW a b).1.length ≤ 17592186044416 from Nat.le_trans (sortW_prod_length a b) (Nat.le_trans (Nat.mul_le_mul (show a.length ≤ 1000 by omega) (show b.length ≤ 1000 by omega)) (by decide)))
      have HU := Lib.hid (wordsetProduct_any ha hb hn hm hra hrb)
      have HV := Lib.hid (fun W (hk : Keeps w W) => R02Product_any (ha.words hk) (hb.words hk) hn hm)
      clear ha hb hga hgb hga1 hga2 hgb1 hgb2 hra hrb hal hbl
      generalize prodW a b = r at HLEN HU HV
      obtain ⟨l, e⟩ := r
      go_enter Tryd.func4, Tryd.ntmps4
      go_wp2_with (first | (go_at_call_of 10 (Value.slice A n c); refine HG.out.mono ?_; rintro _ x1 ⟨rfl, rfl⟩) | (go_at_call_of 10 (Value.slice B m c'); refine HH.out.mono ?_; rintro _ x1 ⟨rfl, rfl⟩) | (go_at_call 14; refine HU.out.mono ?_; rintro _ x1 ⟨v1, rfl, hO1, hb1⟩; obtain ⟨A1, n1, c1, rfl, hr1⟩ := hO1.isW HLEN.out) | (go_at_call 15; refine (HV.out _ (Below.to_keeps hb1)).mono ?_; rintro _ x2 ⟨v2, rfl, hO2, hb2⟩; obtain ⟨A2, n2, c2, rfl, hr2⟩ := hO2.isW HLEN.out) | (go_at_call 11; refine (same_true (hr1.words (Below.to_keeps hb2)) hr2).mono ?_; rintro _ x3 ⟨rfl, hb3⟩) | (go_at_call 9; refine (awake_any _).mono ?_; rintro _ x4 ⟨rfl, hb4⟩))
      go_ret
      exact ⟨rfl, (((show Bel w x1 from hb1).tr hb2).tr hb3).tr hb4⟩

end Go.Proofs.YtmlghnfbjkcelaaDoor
