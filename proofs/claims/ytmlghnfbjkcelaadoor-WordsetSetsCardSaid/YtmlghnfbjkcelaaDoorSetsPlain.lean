/-
  Plain laws for the statement WordsetSets: the results depend on the set of words alone, and do not change when they are computed again. No walk.
-/
import Derived.Test.YtmlghnfbjkcelaaDoorW15
import Derived.Test.YtmlghnfbjkcelaaDoorPartsPlain
namespace Go.Proofs.YtmlghnfbjkcelaaDoor

/-- The same words. -/
def SameSet (l m : List (List Int)) : Prop := ∀ x, x ∈ l ↔ x ∈ m

theorem sortW_same {l m : List (List Int)} (h : SameSet l m) : sortW l = sortW m :=
  asc_ext (sortW_asc l) (sortW_asc m) fun x => by rw [mem_sortW, mem_sortW]; exact h x

theorem sortW_again (l : List (List Int)) : sortW (sortW l) = sortW l := sortW_same fun x => mem_sortW l x

theorem mem_prefixes {x y : List Int} : y ∈ prefixes x ↔ y <+: x := by
  unfold prefixes
  rw [List.mem_map]
  constructor
  · rintro ⟨i, _, rfl⟩
    exact List.take_prefix i x
  · intro h
    exact ⟨y.length, List.mem_range.2 (by have := h.length_le; omega), (List.prefix_iff_eq_take.1 h).symm⟩
theorem mem_suffixes {x y : List Int} : y ∈ suffixes x ↔ y <:+ x := by
  unfold suffixes
  rw [List.mem_map]
  constructor
  · rintro ⟨i, _, rfl⟩
    exact List.drop_suffix i x
  · intro h
    exact ⟨x.length - y.length, List.mem_range.2 (by omega), (List.suffix_iff_eq_drop.1 h).symm⟩

theorem mem_preL {l : List (List Int)} {x : List Int} : x ∈ preL l ↔ ∃ y ∈ l, x <+: y := by
  unfold preL
  rw [List.mem_flatMap]
  constructor
  · rintro ⟨y, hy, h⟩; exact ⟨y, hy, mem_prefixes.1 h⟩
  · rintro ⟨y, hy, h⟩; exact ⟨y, hy, mem_prefixes.2 h⟩
theorem mem_sufL {l : List (List Int)} {x : List Int} : x ∈ sufL l ↔ ∃ y ∈ l, x <:+ y := by
  unfold sufL
  rw [List.mem_flatMap]
  constructor
  · rintro ⟨y, hy, h⟩; exact ⟨y, hy, mem_suffixes.1 h⟩
  · rintro ⟨y, hy, h⟩; exact ⟨y, hy, mem_suffixes.2 h⟩

theorem preL_same {l m : List (List Int)} (h : SameSet l m) : SameSet (preL l) (preL m) := fun x => by
  rw [mem_preL, mem_preL]
  constructor
  · rintro ⟨y, hy, hp⟩; exact ⟨y, (h y).1 hy, hp⟩
  · rintro ⟨y, hy, hp⟩; exact ⟨y, (h y).2 hy, hp⟩
theorem sufL_same {l m : List (List Int)} (h : SameSet l m) : SameSet (sufL l) (sufL m) := fun x => by
  rw [mem_sufL, mem_sufL]
  constructor
  · rintro ⟨y, hy, hp⟩; exact ⟨y, (h y).1 hy, hp⟩
  · rintro ⟨y, hy, hp⟩; exact ⟨y, (h y).2 hy, hp⟩
theorem maxR_same {l m : List (List Int)} (h : SameSet l m) : maxR l = maxR m := by unfold maxR; rw [sortW_same h]


theorem preL_again (l : List (List Int)) : sortW (preL (sortW (preL l))) = sortW (preL l) := sortW_same fun x => by
  rw [mem_preL]
  constructor
  · rintro ⟨y, hy, hp⟩
    rw [mem_sortW, mem_preL] at hy
    obtain ⟨z, hz, hq⟩ := hy
    exact mem_preL.2 ⟨z, hz, hp.trans hq⟩
  · intro h
    exact ⟨x, (mem_sortW _ _).2 h, List.prefix_refl x⟩
theorem sufL_again (l : List (List Int)) : sortW (sufL (sortW (sufL l))) = sortW (sufL l) := sortW_same fun x => by
  rw [mem_sufL]
  constructor
  · rintro ⟨y, hy, hp⟩
    rw [mem_sortW, mem_sufL] at hy
    obtain ⟨z, hz, hq⟩ := hy
    exact mem_sufL.2 ⟨z, hz, hp.trans hq⟩
  · intro h
    exact ⟨x, (mem_sortW _ _).2 h, List.suffix_refl x⟩

theorem maxR_again (l : List (List Int)) : maxR (maxR l) = maxR l := asc_ext (maxR_asc _) (maxR_asc _) fun x => by
  rw [mem_maxR_iff (maxR l)]
  constructor
  · exact fun h => h.1
  · intro h
    refine ⟨h, fun y hy => ?_⟩
    exact ((mem_maxR_iff l x).1 h).2 y ((mem_maxR_iff l y).1 hy).1

/-- Every word is a prefix of one that is no proper prefix of another one. -/
theorem max_over (l : List (List Int)) (b : Nat) (hb : ∀ y ∈ l, y.length ≤ b) : ∀ (k : Nat) (x : List Int), b - x.length ≤ k → x ∈ l → ∃ y ∈ maxR l, x <+: y
  | k, x, hk, hx => by
    by_cases h : ∀ y ∈ l, y = x ∨ ¬ x <+: y
    · exact ⟨x, (mem_maxR_iff l x).2 ⟨hx, h⟩, List.prefix_refl x⟩
    · have h2 : ∃ y, y ∈ l ∧ y ≠ x ∧ x <+: y := Classical.byContradiction fun hn => h fun y hy => by
        by_cases e : y = x
        · exact .inl e
        · exact .inr fun hp => hn ⟨y, hy, e, hp⟩
      obtain ⟨y, hy, hne, hp⟩ := h2
      have hlt : x.length < y.length := by
        rcases Nat.lt_or_ge x.length y.length with h3 | h3
        · exact h3
        · exact absurd (hp.eq_of_length_le h3).symm hne
      have hyb := hb y hy
      match k, hk with
      | 0, hk => omega
      | k + 1, hk =>
        obtain ⟨z, hz, hq⟩ := max_over l b hb k y (by omega) hy
        exact ⟨z, hz, hp.trans hq⟩

theorem preL_maxR (l : List (List Int)) : sortW (preL (maxR l)) = sortW (preL l) := sortW_same fun x => by
  rw [mem_preL, mem_preL]
  constructor
  · rintro ⟨y, hy, hp⟩
    exact ⟨y, ((mem_maxR_iff l y).1 hy).1, hp⟩
  · rintro ⟨y, hy, hp⟩
    obtain ⟨z, hz, hq⟩ := max_over l (longestL l) ((longestL_le l _).1 (Nat.le_refl _)) _ y (Nat.le_refl _) hy
    exact ⟨z, hz, hp.trans hq⟩

theorem maxR_preL (l : List (List Int)) : maxR (sortW (preL l)) = maxR l := asc_ext (maxR_asc _) (maxR_asc _) fun x => by
  rw [mem_maxR_iff, mem_maxR_iff l, mem_sortW, mem_preL]
  constructor
  · rintro ⟨⟨y, hy, hp⟩, h⟩
    have hxl : x ∈ l := by
      rcases h y ((mem_sortW _ _).2 (mem_preL.2 ⟨y, hy, List.prefix_refl y⟩)) with e | e
      · rw [← e]; exact hy
      · exact absurd hp e
    refine ⟨hxl, fun z hz => ?_⟩
    exact h z ((mem_sortW _ _).2 (mem_preL.2 ⟨z, hz, List.prefix_refl z⟩))
  · rintro ⟨hx, h⟩
    refine ⟨⟨x, hx, List.prefix_refl x⟩, fun z hz => ?_⟩
    rw [mem_sortW, mem_preL] at hz
    obtain ⟨y, hy, hp⟩ := hz
    by_cases hq : x <+: z
    · left
      rcases h y hy with e | e
      · have h1 := hp.length_le
        have h2 := hq.length_le
        rw [e] at h1
        exact (hq.eq_of_length_le h1).symm
      · exact absurd (hq.trans hp) e
    · exact .inr hq

/-- The turned list: for each place the word at another place, then its own. -/
def turnAt (n k t : Nat) : Nat := (n - 1 - k + t) % n

def turnL (l : List (List Int)) (t : Nat) : Nat → List (List Int)
  | 0 => []
  | k + 1 => turnL l t k ++ [l.getD (turnAt l.length k t) [], l.getD k []]

theorem turnL_length (l : List (List Int)) (t : Nat) : ∀ k, (turnL l t k).length = 2 * k
  | 0 => rfl
  | k + 1 => by simp [turnL, turnL_length l t k]; omega

theorem mem_turnL (l : List (List Int)) (t : Nat) : ∀ k, k ≤ l.length → (∀ x ∈ turnL l t k, x ∈ l) ∧ ∀ i, i < k → l.getD i [] ∈ turnL l t k
  | 0, _ => ⟨by simp [turnL], by omega⟩
  | k + 1, h => by
    obtain ⟨h1, h2⟩ := mem_turnL l t k (by omega)
    have hm : turnAt l.length k t < l.length := Nat.mod_lt _ (by omega)
    have hget : ∀ i, i < l.length → l.getD i [] ∈ l := fun i hi => by
      rw [List.getD_eq_getElem?_getD, List.getElem?_eq_getElem hi]
      exact List.getElem_mem hi
    constructor
    · intro x hx
      rw [turnL, List.mem_append] at hx
      rcases hx with hx | hx
      · exact h1 x hx
      · simp only [List.mem_cons, List.not_mem_nil, or_false] at hx
        rcases hx with rfl | rfl
        · exact hget _ hm
        · exact hget _ (by omega)
    · intro i hi
      rw [turnL, List.mem_append]
      rcases Nat.lt_or_ge i k with h3 | h3
      · exact .inl (h2 i h3)
      · right
        have : i = k := by omega
        rw [this]; simp

theorem turnL_same (l : List (List Int)) (t : Nat) : SameSet (turnL l t l.length) l := fun x => by
  obtain ⟨h1, h2⟩ := mem_turnL l t l.length (Nat.le_refl _)
  refine ⟨h1 x, fun hx => ?_⟩
  obtain ⟨i, hi, e⟩ := List.mem_iff_getElem.1 hx
  have := h2 i hi
  rw [List.getD_eq_getElem?_getD, List.getElem?_eq_getElem hi] at this
  rw [← e]
  exact this

end Go.Proofs.YtmlghnfbjkcelaaDoor
