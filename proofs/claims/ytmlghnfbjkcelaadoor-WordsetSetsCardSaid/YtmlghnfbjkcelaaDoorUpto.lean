/-
  Plain facts on the examples of the chapter: what the words up to a length are; that there are more than 10000 words of at most 13 symbols over two.
-/
import Derived.Test.YtmlghnfbjkcelaaDoorW9
namespace Go.Proofs.YtmlghnfbjkcelaaDoor

/-- The error of uptoF, the words counted only. -/
def uptoC (inputs n : Int) : Nat → List Int → Nat → Int
  | 0, _, _ => 11
  | f + 1, cur, cnt =>
    if (cur.length : Int) ≤ n then
      if cnt = 10000 then 11 else
      match nextW cur inputs with
      | some x => uptoC inputs n f x (cnt + 1)
      | none => 0
    else 0

theorem uptoF_code (inputs n : Int) : ∀ (f : Nat) (cur : List Int) (out : List (List Int)), (uptoF inputs n f cur out).2 = uptoC inputs n f cur out.length
  | 0, _, _ => rfl
  | f + 1, cur, out => by
    unfold uptoF uptoC
    by_cases h1 : (cur.length : Int) ≤ n
    · rw [if_pos h1, if_pos h1]
      by_cases h2 : out.length = 10000
      · rw [if_pos h2, if_pos h2]
      · rw [if_neg h2, if_neg h2]
        cases nextW cur inputs with
        | some x =>
          show (uptoF inputs n f x (out ++ [cur])).2 = uptoC inputs n f x (out.length + 1)
          rw [uptoF_code inputs n f]; simp
        | none => rfl
    · rw [if_neg h1, if_neg h1]

theorem uptoC13 : uptoC 2 13 10001 [] 0 = 11 := by decide +kernel

theorem upto13 : (uptoW 2 13).2 = 11 := by
  have h := uptoC13
  unfold uptoW
  rw [if_pos (by decide), uptoF_code]
  exact h

end Go.Proofs.YtmlghnfbjkcelaaDoor
