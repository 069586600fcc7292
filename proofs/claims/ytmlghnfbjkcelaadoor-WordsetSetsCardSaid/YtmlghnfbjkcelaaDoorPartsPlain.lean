/-
  Plain laws for the statement WordsetParts: what a product contains; the words of at most four symbols over two. No walk.
-/
import Derived.Test.YtmlghnfbjkcelaaDoorW18
namespace Go.Proofs.YtmlghnfbjkcelaaDoor

theorem asc_bool {l : List (List Int)} (h : Asc l) (n : Nat) (hn : l.length = n) : decide (∀ i, i < n → 0 < i → cmpW (l.getD (i - 1) []) (l.getD i []) < 0) = true := by
  apply decide_eq_true
  intro i hi h0
  have h1 : i < l.length := by omega
  have h2 : i - 1 < l.length := by omega
  have h3 := Asc.get h (i := i - 1) (j := i) (by omega) (List.getElem?_eq_getElem h2) (List.getElem?_eq_getElem h1)
  simp only [List.getD_eq_getElem?_getD, List.getElem?_eq_getElem h1, List.getElem?_eq_getElem h2, Option.getD_some]
  omega

theorem mem_prodL {p q : List (List Int)} {z : List Int} : z ∈ prodL p q ↔ ∃ x ∈ p, ∃ y ∈ q, x ++ y = z := by
  simp [prodL, List.mem_flatMap, List.mem_map]

theorem prodL_sorted (a b : List (List Int)) (z : List Int) : z ∈ sortW (prodL (sortW a) (sortW b)) ↔ z ∈ prodL a b := by
  rw [mem_sortW, mem_prodL, mem_prodL]
  constructor
  · rintro ⟨x, hx, y, hy, e⟩
    exact ⟨x, (mem_sortW a x).1 hx, y, (mem_sortW b y).1 hy, e⟩
  · rintro ⟨x, hx, y, hy, e⟩
    exact ⟨x, (mem_sortW a x).2 hx, y, (mem_sortW b y).2 hy, e⟩

/-- A product of small lists has no error. -/
theorem prodW_small {a b : List (List Int)} (ha : a.length ≤ 12) (hb : b.length ≤ 12) (ha2 : ∀ x ∈ a, x.length ≤ 12) (hb2 : ∀ x ∈ b, x.length ≤ 12) :
    prodW a b = (sortW (prodL (sortW a) (sortW b)), 0) ∧ (sortW (prodL (sortW a) (sortW b))).length ≤ (sortW a).length * (sortW b).length ∧ (sortW (prodL (sortW a) (sortW b))).length ≤ 144 := by
  have h1 := (longestL_le a 12).2 ha2
  have h2 := (longestL_le b 12).2 hb2
  have h3 := sortW_length (prodL (sortW a) (sortW b))
  rw [prodL_length] at h3
  have h4 := sortW_length a
  have h5 := sortW_length b
  have h6 : (sortW a).length * (sortW b).length ≤ 12 * 12 := Nat.mul_le_mul (by omega) (by omega)
  refine ⟨?_, h3, by omega⟩
  unfold prodW
  rw [if_neg (by omega), if_neg (by omega)]

/-- All words of at most so many symbols over two. -/
def binw : Nat → List (List Int)
  | 0 => [[]]
  | n + 1 => [] :: (binw n).flatMap fun x => [0 :: x, 1 :: x]

def is01 (x : Int) : Bool := decide (x = 0) || decide (x = 1)

theorem mem_binw : ∀ (n : Nat) (y : List Int), y.length ≤ n → y.all is01 = true → y ∈ binw n
  | 0, y, h, _ => by
    have : y = [] := List.eq_nil_of_length_eq_zero (by omega)
    rw [this]; simp [binw]
  | n + 1, [], _, _ => by simp [binw]
  | n + 1, x :: y, h, h2 => by
    rw [List.all_cons, Bool.and_eq_true] at h2
    have h3 := mem_binw n y (by simpa using h) h2.2
    have h4 : x = 0 ∨ x = 1 := by
      have h5 := h2.1
      unfold is01 at h5
      simpa using h5
    unfold binw
    rw [List.mem_cons]
    right
    rw [List.mem_flatMap]
    refine ⟨y, h3, ?_⟩
    rcases h4 with rfl | rfl <;> simp

/-- The first symbols are permitted, and the word is short. -/
def inB (y : List Int) (k : Nat) : Bool := decide (y.length ≤ 4) && (y.take k).all is01

theorem inB_step {y : List Int} {k : Nat} {x : Int} (h : y[k]? = some x) : inB y (k + 1) = (inB y k && is01 x) := by
  unfold inB
  rw [take_step h, List.all_append]
  simp [Bool.and_assoc]

theorem upto4_all : ∀ y ∈ (uptoW 2 4).1, y.length ≤ 4 ∧ y.all is01 = true := by decide +kernel
theorem binw4_all : ∀ y ∈ binw 4, y ∈ (uptoW 2 4).1 := by decide +kernel
theorem upto4 : (uptoW 2 4).1.length = 31 ∧ (uptoW 2 4).2 = 0 := by decide +kernel
theorem upto4_asc : (uptoW 2 4).1 = sortW (uptoW 2 4).1 := by decide +kernel

theorem upto4_mem (y : List Int) : decide (y ∈ (uptoW 2 4).1) = inB y y.length := by
  unfold inB
  rw [List.take_length, Bool.eq_iff_iff, decide_eq_true_eq, Bool.and_eq_true, decide_eq_true_eq]
  exact ⟨fun h => upto4_all y h, fun h => binw4_all y (mem_binw 4 y h.1 h.2)⟩

end Go.Proofs.YtmlghnfbjkcelaaDoor
