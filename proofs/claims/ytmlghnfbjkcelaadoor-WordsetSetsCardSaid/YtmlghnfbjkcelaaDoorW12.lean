/-
  slices.SortFunc on a list of words that the call owns, by the shelf's contract.
-/
import Derived.Test.YtmlghnfbjkcelaaDoorW11
import Derived.Test.YtmlghnfbjkcelaaDoorShelf
import Derived.Shelf.SlSortCmp.NoneTotal
import Derived.Lib.OwnBridge
namespace Go.Proofs.YtmlghnfbjkcelaaDoor
open Go.RowKit

/-- A comparison of words that is a total order. -/
structure TotalCmp (cf : List Int → List Int → Int) : Prop where
  range : ∀ a b, cf a b = -1 ∨ cf a b = 0 ∨ cf a b = 1
  zero : ∀ a b, cf a b = 0 ↔ a = b
  swap : ∀ a b, cf b a = - cf a b
  trans : ∀ a b c, cf a b = -1 → cf b c = -1 → cf a c = -1

theorem cmpW_total : TotalCmp cmpW := ⟨cmpW_range, cmpW_zero, cmpW_swap, cmpW_trans⟩
theorem lexI_total : TotalCmp lexI := ⟨lexI_range, lexI_zero, lexI_swap, lexI_trans⟩

/-- A value that reads as a word in w, outside a row, with that word. -/
def WV (w : World) (row : Option Nat) : Type := { p : Value × List Int // IsI w p.1 p.2 ∧ Off p.1 row }
def WV.of {w : World} {row : Option Nat} (u : Value) (x : List Int) (h : IsI w u x ∧ Off u row) : WV w row := ⟨(u, x), h⟩
def WV.enc {w : World} {row : Option Nat} (x : WV w row) : Value := x.val.1
def WV.word {w : World} {row : Option Nat} (x : WV w row) : List Int := x.val.2

theorem wv_list {w : World} {row : Option Nat} : ∀ (l : List (List Int)) (us : List Value), us.length = l.length → (∀ (i : Nat) x, l[i]? = some x → ∃ u, us[i]? = some u ∧ IsI w u x ∧ Off u row) →
    ∃ zs : List (WV w row), zs.map WV.enc = us ∧ zs.map WV.word = l
  | [], us, h, _ => ⟨[], by simp at h; simp [h], rfl⟩
  | x :: l, [], h, _ => by simp at h
  | x :: l, u :: us, h, hel => by
    obtain ⟨u', hu', hi, ho⟩ := hel 0 x (by simp)
    simp at hu'
    subst hu'
    obtain ⟨zs, h1, h2⟩ := wv_list l us (by simpa using h) fun i y hy => by
      obtain ⟨u'', hu'', r⟩ := hel (i + 1) y (by simpa using hy)
      exact ⟨u'', by simpa using hu'', r⟩
    exact ⟨WV.of u x ⟨hi, ho⟩ :: zs, by rw [List.map_cons, h1]; rfl, by rw [List.map_cons, h2]; rfl⟩

theorem grown_grow (w : World) (os : Array Obj) : w.grownBy (Sort.grow w os) none :=
  ⟨rfl, rfl, rfl, by simp [Sort.grow], fun k hk _ => by simp [Sort.grow, Array.getElem?_append, hk]⟩

theorem grown_putRow {α : Type} [Inhabited α] (enc : α → Value) (w : World) (g q : Nat) (d : Array α) : w.grownBy (Sort.putRow enc (Sort.ahead w q) g 0 d) (some g) :=
  ⟨rfl, rfl, rfl, by simp [Sort.putRow, Sort.mapBlock, Sort.ahead], fun k hk hne => by
    have : g ≠ k := fun e => hne (by rw [e])
    simp [Sort.putRow, Sort.mapBlock, Sort.ahead, Array.getElem?_modify, this]⟩

theorem grown_sortWorld {α : Type} [Inhabited α] (enc : α → Value) (w : World) (g q : Nat) (d : Array α) (os : Array Obj) : w.grownBy (sortWorld enc w g 0 q d os) (some g) :=
  grown_step (grown_putRow enc w g q d) (grown_grow _ os) (.inr fun g e => by cases e)

theorem perm_of_in {α : Type} [Inhabited α] {d d' : Array α} (h : Sort.PermIn 0 d.size d d') : d'.toList.Perm d.toList := by
  obtain ⟨hs, _, hp⟩ := h
  have e1 : d'.extract 0 d.size = d' := by rw [← hs]; simp
  have e2 : d.extract 0 d.size = d := by simp
  rwa [e1, e2] at hp

theorem pairwise_of_in {α : Type} [Inhabited α] {lt : α → α → Bool} {d : Array α} {n : Nat} (hn : d.size = n) (h : Sort.SortedIn lt 0 n d) : d.toList.Pairwise fun a b => lt b a = false := by
  rw [List.pairwise_iff_getElem]
  intro i j hi hj hij
  have := h i j (Nat.zero_le _) hij (by rw [← hn]; simpa using hj)
  simp at hi hj
  simpa [getElem!_pos, hi, hj] using this

/-- Behind a sort: a permutation, sorted; the list is owned as before; only its own row has turned. -/
def SortPost (w : World) (base : Nat) (v : Value) (l : List (List Int)) (cf : List Int → List Int → Int) (e : Ending) (w' : World) : Prop :=
  e = .returned (.tuple #[]) ∧ ∃ l' : List (List Int), l'.Perm l ∧ l'.Pairwise (fun a b => 0 ≤ cf b a) ∧ OwnW w' base v l' ∧ w.grownBy w' v.ownBlock

theorem swo_of {w : World} {row : Option Nat} {cf : List Int → List Int → Int} (T : TotalCmp cf) : Sort.SWO (ltOf fun x y : WV w row => cf x.word y.word) where
  irrefl x := by
    have := (T.zero x.word x.word).2 rfl
    simp [ltOf, this]
  trans x y z h1 h2 := by
    simp only [ltOf, decide_eq_true_eq] at *
    have a := T.range x.word y.word
    have b := T.range y.word z.word
    have c := T.trans x.word y.word z.word (by omega) (by omega)
    omega
  ntrans x y z h1 h2 := by
    simp only [ltOf, decide_eq_false_iff_not] at *
    have a := T.range x.word y.word
    have b := T.range y.word z.word
    have a' := T.swap x.word y.word
    have b' := T.swap y.word z.word
    by_cases e1 : cf x.word y.word = 0
    · rw [(T.zero _ _).1 e1]; exact h2
    · by_cases e2 : cf y.word z.word = 0
      · rw [← (T.zero _ _).1 e2]; exact h1
      · have c := T.trans z.word y.word x.word (by omega) (by omega)
        have c' := T.swap z.word x.word
        omega

set_option maxHeartbeats 800000 in
theorem sortFunc_any {g base : Nat} {cf : List Int → List Int → Int} (T : TotalCmp cf) {w : World} {v : Value} {l : List (List Int)} (eg : ∀ args w, (callFunc g args).run Tryd.prog w = .ok (.enter g args) w)
    (hcmp : ∀ (W : World) (u u' : Value) (x y : List Int), IsI W u x → IsI W u' y → Calls Tryd.prog g #[u, u'] W fun e w' => e = .returned (.int .i64 (cf x y)) ∧ ∃ q os, w' = Sort.grow (W.drewN q) os)
    (h : OwnW w base v l) (hl : l.length ≤ 1000000000) :
    Calls Tryd.prog 37 #[v, .func (.func g) #[] #[]] w (SortPost w base v l cf) := by
  obtain ⟨us, hul, hown, hel⟩ := h
  by_cases hv : v = .slice none 0 0
  · subst hv
    have hus : us.length = 0 := by
      rcases hown.2 with ⟨_, h0⟩ | ⟨_, _, _, e, _⟩
      · exact h0
      · cases e
    have hl0 : l = [] := List.eq_nil_of_length_eq_zero (by omega)
    subst hl0
    have hcon := AnyF.slices_SortFunc_none { Tryd.sortW with } none 0 (.func (.func g) #[] #[]) w
    refine Calls.mono hcon fun e w' ⟨he, hw⟩ => ?_
    subst hw
    exact ⟨he, [], List.Perm.refl _, List.Pairwise.nil, ⟨us, hul, hown, hel⟩, World.grownBy.refl _ _⟩
  · obtain ⟨g1, cap1, rfl⟩ : ∃ g1 cap1, v = .slice (some ⟨g1, 0, none⟩) us.length cap1 := by
      rcases hown.2 with ⟨e, _⟩ | ⟨g1, cap1, _, e, _⟩
      · exact absurd e hv
      · exact ⟨g1, cap1, e⟩
    generalize hn : us.length = n at *
    obtain ⟨zs, hz1, hz2⟩ := wv_list (row := some g1) l us (by rw [hn]; exact hul) hel
    haveI : Inhabited (WV w (some g1)) := ⟨WV.of (.slice none 0 0) [] ⟨IsI.nil_ w, fun a n c e => by cases e⟩⟩
    rw [← hz1] at hown
    obtain ⟨g0, cap, hve, hb0, hlt0, hnc, hcm, hzl, hH⟩ := Lib.holds_of_ownsRow (enc := WV.enc) hown hv
    injection hve with hve1 _ hve3
    injection hve1 with hve1
    injection hve1 with hve1
    subst hve1 hve3
    subst hzl
    have h1 : OneCell (WV.enc (w := w) (row := some g1)) := fun x => by
      obtain ⟨⟨u, y⟩, ⟨A, n, c, e, _⟩, _⟩ := x
      have : u = .slice A n c := e
      subst this
      rfl
    have hn' : zs.toArray.size = zs.length := by simp
    rw [← hn'] at hown ⊢
    have hlay : CmpLays1 Tryd.prog g #[] (WV.enc (w := w) (row := some g1)) (fun x y => cf x.word y.word) g1 0 zs.toArray.size w := fun m os dk _ x y => by
      have hg := grown_sortWorld (WV.enc (w := w) (row := some g1)) w g1 m dk os
      have := hcmp (sortWorld WV.enc w g1 0 m dk os) x.enc y.enc x.word y.word (x.property.1.grown hg x.property.2) (y.property.1.grown hg y.property.2)
      simpa using this
    have hcon := Any.slices_SortFunc Tryd.sortW (WV.enc (w := w) (row := some g1)) h1 (fun x y => cf x.word y.word) (swo_of T) g #[] g1 0 cap1 zs.toArray w eg hlay hH hlt0 (by
      have : zs.length = l.length := by rw [← hz2]; simp
      simp
      omega)
    refine Calls.mono hcon fun e w' ⟨he, d', n, os, hp, hs, hw⟩ => ?_
    subst hw
    have hperm := perm_of_in hp
    have hsz : d'.size = zs.toArray.size := hp.1
    have hpw := pairwise_of_in hsz hs
    have hg := grown_sortWorld (WV.enc (w := w) (row := some g1)) w g1 n d' os
    have hrow := Lib.ownsRow_putRow (q := n) (k := zs.toArray.size) (ys := d'.toList) hown (by simpa using hsz) (Nat.le_refl _)
    have hrow' := World.ownsRow.kept hrow (grown_grow _ os) (by simp [Value.ownBlock])
    have hlen : d'.toList.length = zs.toArray.size := by simpa using hsz
    rw [List.take_of_length_le (by rw [hlen]; exact Nat.le_refl _)] at hrow'
    refine ⟨he, d'.toList.map WV.word, ?_, ?_, ⟨d'.toList.map WV.enc, by simp, ?_, fun i x hx => ?_⟩, hg⟩
    · rw [← hz2]
      exact hperm.map _
    · rw [List.pairwise_map]
      refine hpw.imp fun {a b} hab => ?_
      simp only [ltOf, decide_eq_false_iff_not] at hab
      omega
    · rw [List.length_map, hlen]
      exact hrow'
    · rw [List.getElem?_map] at hx
      cases hd : d'.toList[i]? with
      | none => rw [hd] at hx; cases hx
      | some z =>
        rw [hd] at hx
        simp at hx
        subst hx
        exact ⟨z.enc, by rw [List.getElem?_map, hd]; rfl, z.property.1.grown hg z.property.2, z.property.2⟩

end Go.Proofs.YtmlghnfbjkcelaaDoor
