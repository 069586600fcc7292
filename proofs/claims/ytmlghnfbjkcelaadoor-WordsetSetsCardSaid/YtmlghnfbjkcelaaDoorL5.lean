/-
  Walk of the law WordsetUptos: it returns true whatever the arguments.
-/
import Derived.Test.YtmlghnfbjkcelaaDoorW19
namespace Go.Proofs.YtmlghnfbjkcelaaDoor
open Go.RowKit

theorem same_decide {A B : Option Addr} {n c m c' : Nat} {l l' : List (List Int)} {w : World} (hx : RowOf w (IsI w) A n c l) (hy : RowOf w (IsI w) B m c' l') (h : l = l') :
    Calls Tryd.prog 11 #[.slice A n c, .slice B m c'] w (BoolB w true) := by
  subst h
  exact same_true hx hy

/-- What Upto makes is at most as long as the limit. -/
theorem uptoF_length (inputs n : Int) : ∀ (f : Nat) (cur : List Int) (out : List (List Int)), (uptoF inputs n f cur out).1.length ≤ out.length + f + 1
  | 0, _, _ => by simp [uptoF]
  | f + 1, cur, out => by
    unfold uptoF
    by_cases h1 : (cur.length : Int) ≤ n
    · rw [if_pos h1]
      by_cases h2 : out.length = 10000
      · rw [if_pos h2]; simp
      · rw [if_neg h2]
        cases nextW cur inputs with
        | some x =>
          show (uptoF inputs n f x (out ++ [cur])).1.length ≤ _
          have := uptoF_length inputs n f x (out ++ [cur])
          simp at this
          omega
        | none => simp
    · rw [if_neg h1]; simp; omega

theorem uptoW_length (inputs n : Int) : (uptoW inputs n).1.length ≤ 20000 := by
  unfold uptoW
  split
  · have := uptoF_length inputs n 10001 [] []
    simp at this
    omega
  · simp

set_option maxRecDepth 100000 in
set_option maxHeartbeats 1600000 in
theorem uptos_any (inputs n : Int) (w : World) : Calls Tryd.prog 5 #[.int .i64 inputs, .int .i64 n] w (BoolB w true) := by
  have HLEN := Lib.hid (uptoW_length inputs n)
  have HU := Lib.hid (wordsetUpto_any inputs n w)
  have HV := Lib.hid (fun W => R02Upto_any inputs n W)
  generalize uptoW inputs n = r at HLEN HU HV
  obtain ⟨l, e⟩ := r
  go_enter Tryd.func5, Tryd.ntmps5
  go_wp2_with (first | (go_at_call 16; refine HU.out.mono ?_; rintro _ x1 ⟨v1, rfl, hO1, hb1⟩; obtain ⟨A1, n1, c1, rfl, hr1⟩ := hO1.isW (Nat.le_trans HLEN.out (by decide))) | (go_at_call 17; refine (HV.out _).mono ?_; rintro _ x2 ⟨v2, rfl, hO2, hb2⟩; obtain ⟨A2, n2, c2, rfl, hr2⟩ := hO2.isW (Nat.le_trans HLEN.out (by decide))) | (go_at_call 11; refine (same_true (hr1.words (Below.to_keeps hb2)) hr2).mono ?_; rintro _ x3 ⟨rfl, hb3⟩) | (go_at_call 9; refine (awake_any _).mono ?_; rintro _ x4 ⟨rfl, hb4⟩))
  go_ret
  exact ⟨rfl, (((show Bel w x1 from hb1).tr hb2).tr hb3).tr hb4⟩

end Go.Proofs.YtmlghnfbjkcelaaDoor
