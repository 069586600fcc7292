/-
  The contract of the key of a word.
-/
import Derived.Test.YthahbiahlpcgeaaGreatDoorSym15
import Derived.Test.YthahbiahlpcgeaaGreatDoorKW17
namespace Go.Proofs.YthahbiahlpcgeaaGreatDoor.Sym
open Go.RowKit

/-- What reads as a list of numbers. -/
theorem rowOf_ints {w : World} {S : Nat → Prop} {v : Value} {l : List Int} (h : RepI w S v (nL cI l)) : ∃ A n c, v = .slice A n c ∧ RowOf w IsInt A n c l := by
  have h : RepI w S v (.sl (l.map cI)) := h
  generalize he : l.map cI = es at h
  cases h with
  | emp A c =>
    have : l = [] := by simpa using he
    subst this
    exact ⟨A, 0, c, rfl, rfl, Nat.zero_le _, by omega, fun h => by omega⟩
  | sl b o c k n _ us hn hk hc hs hS hl h1 hu hr =>
    subst he
    have hf : (l.map cI).flatten = l.map fun x => nI x := by
      clear hn hk hl hr h
      induction l with
      | nil => rfl
      | cons x l ih => rw [List.map_cons, List.flatten_cons, ih]; rfl
    rw [hf] at hl hr
    refine ⟨_, _, _, rfl, by simpa using hn, hc, hs, fun _ => ⟨b, o, rfl, fun i x hx => ?_⟩⟩
    have hi : i < us.length := by rw [hl, List.length_map]; exact (List.getElem?_eq_some_iff.1 hx).1
    have hg := List.getElem?_eq_getElem hi
    refine ⟨_, hu i _ hg, ?_⟩
    have := hr i _ (nI x) hg (by rw [List.getElem?_map, hx]; rfl)
    generalize us[i] = u at this
    cases this with
    | val _ => rfl

def table_key (l : List Int) : Option ByteArray := chk (∀ x ∈ l, inR x) (chk (l.length ≤ 2000000) (some ⟨(keyL l).toArray⟩))
set_option maxRecDepth 100000 in
theorem sp_table_key (l : List Int) (r : ByteArray) (h : table_key l = some r) : Sp Tryz.prog 46 [.im (nL cI l)] (.im (nS r)) := by
  obtain ⟨h1, h⟩ := chk_some h
  obtain ⟨h2, h⟩ := chk_some h
  injection h with h
  subst h
  refine ⟨fun args w => run_enter rfl rfl rfl args w, fun w S vs F hS hv hn hF => ?_⟩
  match vs, hv with
  | [v], ⟨F1, F2, ⟨h3, e1⟩, h4, e2⟩ =>
    have h4 : F2 = [] := h4
    subst e1 h4 e2
    obtain ⟨A, n, c, rfl, hrow⟩ := rowOf_ints h3
    refine (key_any hrow h1 (by rw [← hrow.1]; exact h2)).mono ?_
    rintro e w' ⟨rfl, hb⟩
    exact ⟨_, [], rfl, .of hb, ⟨[_], [], [], rfl, ⟨[], [], ⟨.val _, rfl⟩, rfl, rfl⟩, rfl, rfl⟩, List.nodup_nil, fun b hb => by simp at hb⟩
end Go.Proofs.YthahbiahlpcgeaaGreatDoor.Sym
