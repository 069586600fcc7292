/-
  Walk of the examples of the chapter ('awake'), which every statement asks for.
-/
import Derived.Test.YtmlghnfbjkcelaaDoorW18
import Derived.Test.YtmlghnfbjkcelaaDoorUpto
namespace Go.Proofs.YtmlghnfbjkcelaaDoor
open Go.RowKit

def exL : List (List Int) := [[1, 0], [], [1], [1, 0]]
theorem ex1 : (maxR exL).length = 1 ∧ sumLen (maxR exL) = 2 := by decide +kernel
theorem ex2 : sortW exL = [[], [1], [1, 0]] := by decide +kernel
theorem ex3 : maxR exL = [[1, 0]] := by decide +kernel
theorem ex4 : sortW (sufL [[0, 1]]) = [[], [1], [0, 1]] := by decide +kernel
theorem ex5 : prodW [[], [0]] [[0], [1]] = ([[0], [1], [0, 0], [0, 1]], 0) := by decide +kernel
theorem ex6 : (uptoW 2 2).1.length = 7 ∧ (uptoW 2 2).2 = 0 := by decide +kernel
theorem ex7 : decide ([1] ∈ exL) = true := by decide +kernel
theorem ex8 : sortW [exL, [[0]]].flatten = [[], [0], [1], [1, 0]] := by decide +kernel

/-- Nothing that was there has turned. -/
def Bel (w w' : World) : Prop := Below w.heap.size w w'
theorem Bel.refl (w : World) : Bel w w := Below.refl _ _
theorem Bel.al {w w' : World} (h : Bel w w') (o : Obj) : Bel w (w'.alloc o) := Below.alloc h h.size o
theorem Bel.tr {a b c : World} (h : Bel a b) (k : Below b.heap.size b c) : Bel a c := Below.trans h (k.mono h.size)
theorem Keeps.al {w w' : World} (h : Keeps w w') (o : Obj) : Keeps w (w'.alloc o) := h.trans (grown_keeps (World.grownBy_alloc w' o none))
theorem IsI.al {w : World} {u : Value} {x : List Int} (h : IsI w u x) (o : Obj) : IsI (w.alloc o) u x := h.keep (grown_keeps (World.grownBy_alloc w o none))
theorem lit_cell (W : World) (us : List Value) (t : TypeId) {i : Nat} {u : Value} (h : us[i]? = some u) : (W.alloc (.cells us.toArray t)).cell? ⟨W.heap.size, 0 + i, none⟩ = some u := by
  have h1 := heap_alloc_new W (.cells us.toArray t)
  unfold World.cell?
  simp only [h1]
  simpa using h

theorem isI_lit (W : World) (xs : List Int) (B : Nat) (hB : B = W.heap.size) (n : Nat) (hn : n = xs.length) (hs : n ≤ 17592186044416 := by decide) {t : TypeId} :
    IsI (W.alloc (.cells (xs.map (Value.int .i64)).toArray t)) (.slice (some ⟨B, 0, none⟩) n n) xs := by
  subst hB
  exact ⟨_, _, _, rfl, hn.symm, Nat.le_refl _, hs, fun _ => ⟨_, _, rfl, fun i x hx => ⟨.int .i64 x, lit_cell W _ t (by simp [hx]), rfl⟩⟩⟩

/-- Value by value. -/
def Each (w : World) : List Value → List (List Int) → Prop
  | [], [] => True
  | u :: us, x :: l => IsI w u x ∧ Each w us l
  | _, _ => False

theorem Each.nil_ {w : World} : Each w [] [] := trivial
theorem Each.cons_ {w : World} {u : Value} {us : List Value} {x : List Int} {l : List (List Int)} (h : IsI w u x) (k : Each w us l) : Each w (u :: us) (x :: l) := ⟨h, k⟩

theorem Each.at_ {w : World} : ∀ {us : List Value} {l : List (List Int)}, Each w us l → ∀ (i : Nat) x, l[i]? = some x → ∃ u, us[i]? = some u ∧ IsI w u x
  | [], [], _, i, x, h => by simp at h
  | u :: us, y :: l, hh, 0, x, h => ⟨u, rfl, by simp at h; exact h ▸ hh.1⟩
  | u :: us, y :: l, hh, i + 1, x, h => by simpa using Each.at_ hh.2 i x (by simpa using h)
  | [], _ :: _, hh, _, _, _ => hh.elim
  | _ :: _, [], hh, _, _, _ => hh.elim

theorem isW_lit (W : World) (us : List Value) (l : List (List Int)) (B : Nat) (hB : B = W.heap.size) (n : Nat) (hn : n = l.length) (h : Each W us l) (hs : n ≤ 17592186044416 := by decide) {t : TypeId} :
    RowOf (W.alloc (.cells us.toArray t)) (IsI (W.alloc (.cells us.toArray t))) (some ⟨B, 0, none⟩) n n l := by
  subst hB
  refine ⟨hn.symm, Nat.le_refl _, hs, fun _ => ⟨_, _, rfl, fun i x hx => ?_⟩⟩
  obtain ⟨u, hu, hi⟩ := h.at_ i x hx
  exact ⟨u, lit_cell W us t hu, hi.al _⟩

theorem RowOf.isW {w : World} {A : Option Addr} {n c : Nat} {l : List (List Int)} (h : RowOf w (IsI w) A n c l) : IsW w (.slice A n c) l := ⟨_, _, _, rfl, h⟩

theorem isLL_lit {W : World} (u v : Value) (l m : List (List Int)) (B : Nat) (hB : B = W.heap.size) (hu : IsW W u l) (hv : IsW W v m) {t : TypeId} :
    RowOf (W.alloc (.cells #[u, v] t)) (IsW (W.alloc (.cells #[u, v] t))) (some ⟨B, 0, none⟩) 2 2 [l, m] := by
  subst hB
  have hk := grown_keeps (World.grownBy_alloc W (.cells #[u, v] t) none)
  have key : ∀ {u l}, IsW W u l → IsW (W.alloc (.cells #[u, v] t)) u l := by
    rintro u l ⟨A, n, c, rfl, hr⟩
    exact ⟨A, n, c, rfl, hr.words (grown_keeps (World.grownBy_alloc W _ none))⟩
  have hc := fun i u' h => lit_cell W [u, v] t (i := i) (u := u') h
  refine ⟨rfl, Nat.le_refl _, by decide, fun _ => ⟨_, _, rfl, fun i x hx => ?_⟩⟩
  match i, hx with
  | 0, hx =>
    simp at hx
    subst hx
    obtain ⟨A, n, c, rfl, hr⟩ := hu
    exact ⟨_, hc 0 _ rfl, A, n, c, rfl, hr.words hk⟩
  | 1, hx =>
    simp at hx
    subst hx
    obtain ⟨A, n, c, rfl, hr⟩ := hv
    exact ⟨_, hc 1 _ rfl, A, n, c, rfl, hr.words hk⟩

theorem same_true {A B : Option Addr} {n c m c' : Nat} {l : List (List Int)} {w : World} (hx : RowOf w (IsI w) A n c l) (hy : RowOf w (IsI w) B m c' l) :
    Calls Tryd.prog 11 #[.slice A n c, .slice B m c'] w (BoolB w true) := by
  refine (R01SameWords_any hx hy).mono ?_
  rintro e w' ⟨rfl, hq⟩
  exact ⟨by simp, Qt.below hq _⟩

set_option maxRecDepth 100000 in
set_option maxHeartbeats 6400000 in
theorem awake_any (w : World) : Calls Tryd.prog 9 #[] w (BoolB w true) := by
  go_enter Tryd.func9, Tryd.ntmps9
  go_wp2_with (fail)
  have hL : RowOf (World.alloc (World.alloc (World.alloc (World.alloc (World.alloc w (Obj.cells #[Value.int .i64 1, Value.int .i64 0] 3)) (Obj.cells #[] 3)) (Obj.cells #[Value.int .i64 1] 3)) (Obj.cells #[Value.int .i64 1, Value.int .i64 0] 3)) (Obj.cells #[Value.slice (some ⟨w.heap.size, 0, none⟩) 2 2, Value.slice (some ⟨w.heap.size + 1, 0, none⟩) 0 0, Value.slice (some ⟨w.heap.size + 1 + 1, 0, none⟩) 1 1, Value.slice (some ⟨w.heap.size + 1 + 1 + 1, 0, none⟩) 2 2] 38)) (IsI (World.alloc (World.alloc (World.alloc (World.alloc (World.alloc w (Obj.cells #[Value.int .i64 1, Value.int .i64 0] 3)) (Obj.cells #[] 3)) (Obj.cells #[Value.int .i64 1] 3)) (Obj.cells #[Value.int .i64 1, Value.int .i64 0] 3)) (Obj.cells #[Value.slice (some ⟨w.heap.size, 0, none⟩) 2 2, Value.slice (some ⟨w.heap.size + 1, 0, none⟩) 0 0, Value.slice (some ⟨w.heap.size + 1 + 1, 0, none⟩) 1 1, Value.slice (some ⟨w.heap.size + 1 + 1 + 1, 0, none⟩) 2 2] 38))) (some ⟨w.heap.size + 1 + 1 + 1 + 1, 0, none⟩) 4 4 exL := isW_lit _ _ [[1, 0], [], [1], [1, 0]] _ (by simp) _ rfl (Each.cons_ (IsI.al (IsI.al (IsI.al (isI_lit _ [1, 0] _ (by simp) _ rfl) _) _) _) (Each.cons_ (IsI.al (IsI.al (isI_lit _ [] _ (by simp) _ rfl) _) _) (Each.cons_ (IsI.al (isI_lit _ [1] _ (by simp) _ rfl) _) (Each.cons_ (isI_lit _ [1, 0] _ (by simp) _ rfl) Each.nil_))))
  have hB0 : Bel w (World.alloc (World.alloc (World.alloc (World.alloc (World.alloc w (Obj.cells #[Value.int .i64 1, Value.int .i64 0] 3)) (Obj.cells #[] 3)) (Obj.cells #[Value.int .i64 1] 3)) (Obj.cells #[Value.int .i64 1, Value.int .i64 0] 3)) (Obj.cells #[Value.slice (some ⟨w.heap.size, 0, none⟩) 2 2, Value.slice (some ⟨w.heap.size + 1, 0, none⟩) 0 0, Value.slice (some ⟨w.heap.size + 1 + 1, 0, none⟩) 1 1, Value.slice (some ⟨w.heap.size + 1 + 1 + 1, 0, none⟩) 2 2] 38)) := by repeat (first | exact Bel.refl _ | refine Bel.al ?_ _)
  generalize (World.alloc (World.alloc (World.alloc (World.alloc (World.alloc w (Obj.cells #[Value.int .i64 1, Value.int .i64 0] 3)) (Obj.cells #[] 3)) (Obj.cells #[Value.int .i64 1] 3)) (Obj.cells #[Value.int .i64 1, Value.int .i64 0] 3)) (Obj.cells #[Value.slice (some ⟨w.heap.size, 0, none⟩) 2 2, Value.slice (some ⟨w.heap.size + 1, 0, none⟩) 0 0, Value.slice (some ⟨w.heap.size + 1 + 1, 0, none⟩) 1 1, Value.slice (some ⟨w.heap.size + 1 + 1 + 1, 0, none⟩) 2 2] 38)) = wL at hL hB0 ⊢
  refine (wordsetSize_any hL (by omega) (by decide)).mono ?_
  rintro e x1 ⟨rfl, hb1⟩
  have B1 : Bel wL x1 := hb1
  rw [ex1.1, ex1.2]
  clear hb1
  go_wp2_with (fail)
  have ha : RowOf (World.alloc (World.alloc (World.alloc x1 (Obj.cells #[] 3)) (Obj.cells #[Value.int .i64 0] 3)) (Obj.cells #[Value.slice (some ⟨x1.heap.size, 0, none⟩) 0 0, Value.slice (some ⟨x1.heap.size + 1, 0, none⟩) 1 1] 38)) (IsI (World.alloc (World.alloc (World.alloc x1 (Obj.cells #[] 3)) (Obj.cells #[Value.int .i64 0] 3)) (Obj.cells #[Value.slice (some ⟨x1.heap.size, 0, none⟩) 0 0, Value.slice (some ⟨x1.heap.size + 1, 0, none⟩) 1 1] 38))) (some ⟨x1.heap.size + 1 + 1, 0, none⟩) 2 2 [[], [0]] := isW_lit _ _ [[], [0]] _ (by simp) _ rfl (Each.cons_ (IsI.al (isI_lit _ [] _ (by simp) _ rfl) _) (Each.cons_ (isI_lit _ [0] _ (by simp) _ rfl) Each.nil_))
  have hb : RowOf (World.alloc (World.alloc (World.alloc (World.alloc (World.alloc (World.alloc x1 (Obj.cells #[] 3)) (Obj.cells #[Value.int .i64 0] 3)) (Obj.cells #[Value.slice (some ⟨x1.heap.size, 0, none⟩) 0 0, Value.slice (some ⟨x1.heap.size + 1, 0, none⟩) 1 1] 38)) (Obj.cells #[Value.int .i64 0] 3)) (Obj.cells #[Value.int .i64 1] 3)) (Obj.cells #[Value.slice (some ⟨x1.heap.size + 1 + 1 + 1, 0, none⟩) 1 1, Value.slice (some ⟨x1.heap.size + 1 + 1 + 1 + 1, 0, none⟩) 1 1] 38)) (IsI (World.alloc (World.alloc (World.alloc (World.alloc (World.alloc (World.alloc x1 (Obj.cells #[] 3)) (Obj.cells #[Value.int .i64 0] 3)) (Obj.cells #[Value.slice (some ⟨x1.heap.size, 0, none⟩) 0 0, Value.slice (some ⟨x1.heap.size + 1, 0, none⟩) 1 1] 38)) (Obj.cells #[Value.int .i64 0] 3)) (Obj.cells #[Value.int .i64 1] 3)) (Obj.cells #[Value.slice (some ⟨x1.heap.size + 1 + 1 + 1, 0, none⟩) 1 1, Value.slice (some ⟨x1.heap.size + 1 + 1 + 1 + 1, 0, none⟩) 1 1] 38))) (some ⟨x1.heap.size + 1 + 1 + 1 + 1 + 1, 0, none⟩) 2 2 [[0], [1]] := isW_lit _ _ [[0], [1]] _ (by simp) _ rfl (Each.cons_ (IsI.al (isI_lit _ [0] _ (by simp) _ rfl) _) (Each.cons_ (isI_lit _ [1] _ (by simp) _ rfl) Each.nil_))
  have ha2 : RowOf (World.alloc (World.alloc (World.alloc (World.alloc (World.alloc (World.alloc x1 (Obj.cells #[] 3)) (Obj.cells #[Value.int .i64 0] 3)) (Obj.cells #[Value.slice (some ⟨x1.heap.size, 0, none⟩) 0 0, Value.slice (some ⟨x1.heap.size + 1, 0, none⟩) 1 1] 38)) (Obj.cells #[Value.int .i64 0] 3)) (Obj.cells #[Value.int .i64 1] 3)) (Obj.cells #[Value.slice (some ⟨x1.heap.size + 1 + 1 + 1, 0, none⟩) 1 1, Value.slice (some ⟨x1.heap.size + 1 + 1 + 1 + 1, 0, none⟩) 1 1] 38)) (IsI (World.alloc (World.alloc (World.alloc (World.alloc (World.alloc (World.alloc x1 (Obj.cells #[] 3)) (Obj.cells #[Value.int .i64 0] 3)) (Obj.cells #[Value.slice (some ⟨x1.heap.size, 0, none⟩) 0 0, Value.slice (some ⟨x1.heap.size + 1, 0, none⟩) 1 1] 38)) (Obj.cells #[Value.int .i64 0] 3)) (Obj.cells #[Value.int .i64 1] 3)) (Obj.cells #[Value.slice (some ⟨x1.heap.size + 1 + 1 + 1, 0, none⟩) 1 1, Value.slice (some ⟨x1.heap.size + 1 + 1 + 1 + 1, 0, none⟩) 1 1] 38))) (some ⟨x1.heap.size + 1 + 1, 0, none⟩) 2 2 [[], [0]] := ha.words (by repeat (first | exact Keeps.refl _ | refine Keeps.al ?_ _))
  have C1 : Bel wL (World.alloc (World.alloc (World.alloc (World.alloc (World.alloc (World.alloc x1 (Obj.cells #[] 3)) (Obj.cells #[Value.int .i64 0] 3)) (Obj.cells #[Value.slice (some ⟨x1.heap.size, 0, none⟩) 0 0, Value.slice (some ⟨x1.heap.size + 1, 0, none⟩) 1 1] 38)) (Obj.cells #[Value.int .i64 0] 3)) (Obj.cells #[Value.int .i64 1] 3)) (Obj.cells #[Value.slice (some ⟨x1.heap.size + 1 + 1 + 1, 0, none⟩) 1 1, Value.slice (some ⟨x1.heap.size + 1 + 1 + 1 + 1, 0, none⟩) 1 1] 38)) := by repeat (first | exact B1 | refine Bel.al ?_ _)
  generalize (World.alloc (World.alloc (World.alloc (World.alloc (World.alloc (World.alloc x1 (Obj.cells #[] 3)) (Obj.cells #[Value.int .i64 0] 3)) (Obj.cells #[Value.slice (some ⟨x1.heap.size, 0, none⟩) 0 0, Value.slice (some ⟨x1.heap.size + 1, 0, none⟩) 1 1] 38)) (Obj.cells #[Value.int .i64 0] 3)) (Obj.cells #[Value.int .i64 1] 3)) (Obj.cells #[Value.slice (some ⟨x1.heap.size + 1 + 1 + 1, 0, none⟩) 1 1, Value.slice (some ⟨x1.heap.size + 1 + 1 + 1 + 1, 0, none⟩) 1 1] 38)) = y1 at hb ha2 C1 ⊢
  clear ha
  refine (wordsetProduct_any ha2 hb (by omega) (by omega) (by unfold Rng; decide) (by unfold Rng; decide)).mono ?_
  rw [ex5]
  rintro e x2 ⟨v2, rfl, hO2, hb2⟩
  obtain ⟨A2, n2, c2, rfl, hr2⟩ := hO2.isW (by decide)
  obtain rfl : n2 = 4 := hr2.len.symm
  have B2 : Bel wL x2 := C1.tr hb2
  have D2 : Bel x2 x2 := Bel.refl _
  clear hb2 ha2 hb hO2 C1 B1
  go_wp2_with (fail)
  refine (wordsetUpto_any 2 2 _).mono ?_
  rintro e x3 ⟨v3, rfl, hO3, hb3⟩
  rw [ex6.2]
  obtain ⟨A3, n3, c3, rfl, hr3⟩ := hO3.isW (by rw [ex6.1]; decide)
  obtain rfl : n3 = 7 := by rw [← hr3.len]; exact ex6.1
  have B3 : Bel wL x3 := B2.tr hb3
  have D3 : Bel x2 x3 := hb3
  clear hb3 hO3 hr3 B2 D2
  go_wp2_with (fail)
  refine (wordsetUpto_any 2 13 _).mono ?_
  rintro e x4 ⟨v4, rfl, _, hb4⟩
  rw [upto13]
  have B4 : Bel wL x4 := B3.tr hb4
  have D4 : Bel x2 x4 := D3.tr hb4
  clear hb4 B3 D3
  go_wp2_with (fail)
  refine (wordsetSorted_any (hL.words (Below.to_keeps B4)) (by omega)).mono ?_
  rw [ex2]
  rintro e x5 ⟨v5, rfl, hO5, hb5⟩
  obtain ⟨A5, n5, c5, rfl, hr5⟩ := hO5.isW (by decide)
  have B5 : Bel wL x5 := B4.tr hb5
  have D5 : Bel x2 x5 := D4.tr hb5
  clear hb5 hO5 B4 D4
  go_wp2_with (fail)
  have hl6 : RowOf (World.alloc (World.alloc (World.alloc (World.alloc x5 (Obj.cells #[] 3)) (Obj.cells #[Value.int .i64 1] 3)) (Obj.cells #[Value.int .i64 1, Value.int .i64 0] 3)) (Obj.cells #[Value.slice (some ⟨x5.heap.size, 0, none⟩) 0 0, Value.slice (some ⟨x5.heap.size + 1, 0, none⟩) 1 1, Value.slice (some ⟨x5.heap.size + 1 + 1, 0, none⟩) 2 2] 38)) (IsI (World.alloc (World.alloc (World.alloc (World.alloc x5 (Obj.cells #[] 3)) (Obj.cells #[Value.int .i64 1] 3)) (Obj.cells #[Value.int .i64 1, Value.int .i64 0] 3)) (Obj.cells #[Value.slice (some ⟨x5.heap.size, 0, none⟩) 0 0, Value.slice (some ⟨x5.heap.size + 1, 0, none⟩) 1 1, Value.slice (some ⟨x5.heap.size + 1 + 1, 0, none⟩) 2 2] 38))) (some ⟨x5.heap.size + 1 + 1 + 1, 0, none⟩) 3 3 [[], [1], [1, 0]] := isW_lit _ _ [[], [1], [1, 0]] _ (by simp) _ rfl (Each.cons_ (IsI.al (IsI.al (isI_lit _ [] _ (by simp) _ rfl) _) _) (Each.cons_ (IsI.al (isI_lit _ [1] _ (by simp) _ rfl) _) (Each.cons_ (isI_lit _ [1, 0] _ (by simp) _ rfl) Each.nil_)))
  have C5 : Bel wL (World.alloc (World.alloc (World.alloc (World.alloc x5 (Obj.cells #[] 3)) (Obj.cells #[Value.int .i64 1] 3)) (Obj.cells #[Value.int .i64 1, Value.int .i64 0] 3)) (Obj.cells #[Value.slice (some ⟨x5.heap.size, 0, none⟩) 0 0, Value.slice (some ⟨x5.heap.size + 1, 0, none⟩) 1 1, Value.slice (some ⟨x5.heap.size + 1 + 1, 0, none⟩) 2 2] 38)) := by repeat (first | exact B5 | refine Bel.al ?_ _)
  have E5 : Bel x2 (World.alloc (World.alloc (World.alloc (World.alloc x5 (Obj.cells #[] 3)) (Obj.cells #[Value.int .i64 1] 3)) (Obj.cells #[Value.int .i64 1, Value.int .i64 0] 3)) (Obj.cells #[Value.slice (some ⟨x5.heap.size, 0, none⟩) 0 0, Value.slice (some ⟨x5.heap.size + 1, 0, none⟩) 1 1, Value.slice (some ⟨x5.heap.size + 1 + 1, 0, none⟩) 2 2] 38)) := by repeat (first | exact D5 | refine Bel.al ?_ _)
  have F5 : Keeps x5 (World.alloc (World.alloc (World.alloc (World.alloc x5 (Obj.cells #[] 3)) (Obj.cells #[Value.int .i64 1] 3)) (Obj.cells #[Value.int .i64 1, Value.int .i64 0] 3)) (Obj.cells #[Value.slice (some ⟨x5.heap.size, 0, none⟩) 0 0, Value.slice (some ⟨x5.heap.size + 1, 0, none⟩) 1 1, Value.slice (some ⟨x5.heap.size + 1 + 1, 0, none⟩) 2 2] 38)) := by repeat (first | exact Keeps.refl _ | refine Keeps.al ?_ _)
  generalize (World.alloc (World.alloc (World.alloc (World.alloc x5 (Obj.cells #[] 3)) (Obj.cells #[Value.int .i64 1] 3)) (Obj.cells #[Value.int .i64 1, Value.int .i64 0] 3)) (Obj.cells #[Value.slice (some ⟨x5.heap.size, 0, none⟩) 0 0, Value.slice (some ⟨x5.heap.size + 1, 0, none⟩) 1 1, Value.slice (some ⟨x5.heap.size + 1 + 1, 0, none⟩) 2 2] 38)) = y5 at hl6 C5 E5 F5 ⊢
  refine (same_true (hr5.words F5) hl6).mono ?_
  rintro e x6 ⟨rfl, hb6⟩
  have B6 : Bel wL x6 := C5.tr hb6
  have D6 : Bel x2 x6 := E5.tr hb6
  clear hb6 hl6 C5 E5 F5 B5 D5
  go_wp2_with (fail)
  refine (wordsetMaximal_any (hL.words (Below.to_keeps B6)) (by omega)).mono ?_
  rw [ex3]
  rintro e x7 ⟨v7, rfl, hO7, hb7⟩
  obtain ⟨A7, n7, c7, rfl, hr7⟩ := hO7.isW (by decide)
  have B7 : Bel wL x7 := B6.tr hb7
  have D7 : Bel x2 x7 := D6.tr hb7
  clear hb7 hO7 B6 D6
  go_wp2_with (fail)
  have hl8 : RowOf (World.alloc (World.alloc x7 (Obj.cells #[Value.int .i64 1, Value.int .i64 0] 3)) (Obj.cells #[Value.slice (some ⟨x7.heap.size, 0, none⟩) 2 2] 38)) (IsI (World.alloc (World.alloc x7 (Obj.cells #[Value.int .i64 1, Value.int .i64 0] 3)) (Obj.cells #[Value.slice (some ⟨x7.heap.size, 0, none⟩) 2 2] 38))) (some ⟨x7.heap.size + 1, 0, none⟩) 1 1 [[1, 0]] := isW_lit _ _ [[1, 0]] _ (by simp) _ rfl (Each.cons_ (isI_lit _ [1, 0] _ (by simp) _ rfl) Each.nil_)
  have C7 : Bel wL (World.alloc (World.alloc x7 (Obj.cells #[Value.int .i64 1, Value.int .i64 0] 3)) (Obj.cells #[Value.slice (some ⟨x7.heap.size, 0, none⟩) 2 2] 38)) := by repeat (first | exact B7 | refine Bel.al ?_ _)
  have E7 : Bel x2 (World.alloc (World.alloc x7 (Obj.cells #[Value.int .i64 1, Value.int .i64 0] 3)) (Obj.cells #[Value.slice (some ⟨x7.heap.size, 0, none⟩) 2 2] 38)) := by repeat (first | exact D7 | refine Bel.al ?_ _)
  have F7 : Keeps x7 (World.alloc (World.alloc x7 (Obj.cells #[Value.int .i64 1, Value.int .i64 0] 3)) (Obj.cells #[Value.slice (some ⟨x7.heap.size, 0, none⟩) 2 2] 38)) := by repeat (first | exact Keeps.refl _ | refine Keeps.al ?_ _)
  generalize (World.alloc (World.alloc x7 (Obj.cells #[Value.int .i64 1, Value.int .i64 0] 3)) (Obj.cells #[Value.slice (some ⟨x7.heap.size, 0, none⟩) 2 2] 38)) = y7 at hl8 C7 E7 F7 ⊢
  refine (same_true (hr7.words F7) hl8).mono ?_
  rintro e x8 ⟨rfl, hb8⟩
  have B8 : Bel wL x8 := C7.tr hb8
  have D8 : Bel x2 x8 := E7.tr hb8
  clear hb8 hl8 C7 E7 F7 B7 D7
  go_wp2_with (fail)
  have hs : RowOf (World.alloc (World.alloc x8 (Obj.cells #[Value.int .i64 0, Value.int .i64 1] 3)) (Obj.cells #[Value.slice (some ⟨x8.heap.size, 0, none⟩) 2 2] 38)) (IsI (World.alloc (World.alloc x8 (Obj.cells #[Value.int .i64 0, Value.int .i64 1] 3)) (Obj.cells #[Value.slice (some ⟨x8.heap.size, 0, none⟩) 2 2] 38))) (some ⟨x8.heap.size + 1, 0, none⟩) 1 1 [[0, 1]] := isW_lit _ _ [[0, 1]] _ (by simp) _ rfl (Each.cons_ (isI_lit _ [0, 1] _ (by simp) _ rfl) Each.nil_)
  have C8 : Bel wL (World.alloc (World.alloc x8 (Obj.cells #[Value.int .i64 0, Value.int .i64 1] 3)) (Obj.cells #[Value.slice (some ⟨x8.heap.size, 0, none⟩) 2 2] 38)) := by repeat (first | exact B8 | refine Bel.al ?_ _)
  have E8 : Bel x2 (World.alloc (World.alloc x8 (Obj.cells #[Value.int .i64 0, Value.int .i64 1] 3)) (Obj.cells #[Value.slice (some ⟨x8.heap.size, 0, none⟩) 2 2] 38)) := by repeat (first | exact D8 | refine Bel.al ?_ _)
  generalize (World.alloc (World.alloc x8 (Obj.cells #[Value.int .i64 0, Value.int .i64 1] 3)) (Obj.cells #[Value.slice (some ⟨x8.heap.size, 0, none⟩) 2 2] 38)) = y8 at hs C8 E8 ⊢
  refine (wordsetSuffixes_any hs (by decide)).mono ?_
  rw [ex4]
  rintro e x9 ⟨v9, rfl, hO9, hb9⟩
  obtain ⟨A9, n9, c9, rfl, hr9⟩ := hO9.isW (by decide)
  have B9 : Bel wL x9 := C8.tr hb9
  have D9 : Bel x2 x9 := E8.tr hb9
  clear hb9 hO9 B8 D8 C8 E8 hs
  go_wp2_with (fail)
  have hl10 : RowOf (World.alloc (World.alloc (World.alloc (World.alloc x9 (Obj.cells #[] 3)) (Obj.cells #[Value.int .i64 1] 3)) (Obj.cells #[Value.int .i64 0, Value.int .i64 1] 3)) (Obj.cells #[Value.slice (some ⟨x9.heap.size, 0, none⟩) 0 0, Value.slice (some ⟨x9.heap.size + 1, 0, none⟩) 1 1, Value.slice (some ⟨x9.heap.size + 1 + 1, 0, none⟩) 2 2] 38)) (IsI (World.alloc (World.alloc (World.alloc (World.alloc x9 (Obj.cells #[] 3)) (Obj.cells #[Value.int .i64 1] 3)) (Obj.cells #[Value.int .i64 0, Value.int .i64 1] 3)) (Obj.cells #[Value.slice (some ⟨x9.heap.size, 0, none⟩) 0 0, Value.slice (some ⟨x9.heap.size + 1, 0, none⟩) 1 1, Value.slice (some ⟨x9.heap.size + 1 + 1, 0, none⟩) 2 2] 38))) (some ⟨x9.heap.size + 1 + 1 + 1, 0, none⟩) 3 3 [[], [1], [0, 1]] := isW_lit _ _ [[], [1], [0, 1]] _ (by simp) _ rfl (Each.cons_ (IsI.al (IsI.al (isI_lit _ [] _ (by simp) _ rfl) _) _) (Each.cons_ (IsI.al (isI_lit _ [1] _ (by simp) _ rfl) _) (Each.cons_ (isI_lit _ [0, 1] _ (by simp) _ rfl) Each.nil_)))
  have C9 : Bel wL (World.alloc (World.alloc (World.alloc (World.alloc x9 (Obj.cells #[] 3)) (Obj.cells #[Value.int .i64 1] 3)) (Obj.cells #[Value.int .i64 0, Value.int .i64 1] 3)) (Obj.cells #[Value.slice (some ⟨x9.heap.size, 0, none⟩) 0 0, Value.slice (some ⟨x9.heap.size + 1, 0, none⟩) 1 1, Value.slice (some ⟨x9.heap.size + 1 + 1, 0, none⟩) 2 2] 38)) := by repeat (first | exact B9 | refine Bel.al ?_ _)
  have E9 : Bel x2 (World.alloc (World.alloc (World.alloc (World.alloc x9 (Obj.cells #[] 3)) (Obj.cells #[Value.int .i64 1] 3)) (Obj.cells #[Value.int .i64 0, Value.int .i64 1] 3)) (Obj.cells #[Value.slice (some ⟨x9.heap.size, 0, none⟩) 0 0, Value.slice (some ⟨x9.heap.size + 1, 0, none⟩) 1 1, Value.slice (some ⟨x9.heap.size + 1 + 1, 0, none⟩) 2 2] 38)) := by repeat (first | exact D9 | refine Bel.al ?_ _)
  have F9 : Keeps x9 (World.alloc (World.alloc (World.alloc (World.alloc x9 (Obj.cells #[] 3)) (Obj.cells #[Value.int .i64 1] 3)) (Obj.cells #[Value.int .i64 0, Value.int .i64 1] 3)) (Obj.cells #[Value.slice (some ⟨x9.heap.size, 0, none⟩) 0 0, Value.slice (some ⟨x9.heap.size + 1, 0, none⟩) 1 1, Value.slice (some ⟨x9.heap.size + 1 + 1, 0, none⟩) 2 2] 38)) := by repeat (first | exact Keeps.refl _ | refine Keeps.al ?_ _)
  generalize (World.alloc (World.alloc (World.alloc (World.alloc x9 (Obj.cells #[] 3)) (Obj.cells #[Value.int .i64 1] 3)) (Obj.cells #[Value.int .i64 0, Value.int .i64 1] 3)) (Obj.cells #[Value.slice (some ⟨x9.heap.size, 0, none⟩) 0 0, Value.slice (some ⟨x9.heap.size + 1, 0, none⟩) 1 1, Value.slice (some ⟨x9.heap.size + 1 + 1, 0, none⟩) 2 2] 38)) = y9 at hl10 C9 E9 F9 ⊢
  refine (same_true (hr9.words F9) hl10).mono ?_
  rintro e x10 ⟨rfl, hb10⟩
  have B10 : Bel wL x10 := C9.tr hb10
  have D10 : Bel x2 x10 := E9.tr hb10
  clear hb10 hl10 C9 E9 F9 B9 D9
  go_wp2_with (fail)
  have hl11 : RowOf (World.alloc (World.alloc (World.alloc (World.alloc (World.alloc x10 (Obj.cells #[Value.int .i64 0] 3)) (Obj.cells #[Value.int .i64 1] 3)) (Obj.cells #[Value.int .i64 0, Value.int .i64 0] 3)) (Obj.cells #[Value.int .i64 0, Value.int .i64 1] 3)) (Obj.cells #[Value.slice (some ⟨x10.heap.size, 0, none⟩) 1 1, Value.slice (some ⟨x10.heap.size + 1, 0, none⟩) 1 1, Value.slice (some ⟨x10.heap.size + 1 + 1, 0, none⟩) 2 2, Value.slice (some ⟨x10.heap.size + 1 + 1 + 1, 0, none⟩) 2 2] 38)) (IsI (World.alloc (World.alloc (World.alloc (World.alloc (World.alloc x10 (Obj.cells #[Value.int .i64 0] 3)) (Obj.cells #[Value.int .i64 1] 3)) (Obj.cells #[Value.int .i64 0, Value.int .i64 0] 3)) (Obj.cells #[Value.int .i64 0, Value.int .i64 1] 3)) (Obj.cells #[Value.slice (some ⟨x10.heap.size, 0, none⟩) 1 1, Value.slice (some ⟨x10.heap.size + 1, 0, none⟩) 1 1, Value.slice (some ⟨x10.heap.size + 1 + 1, 0, none⟩) 2 2, Value.slice (some ⟨x10.heap.size + 1 + 1 + 1, 0, none⟩) 2 2] 38))) (some ⟨x10.heap.size + 1 + 1 + 1 + 1, 0, none⟩) 4 4 [[0], [1], [0, 0], [0, 1]] := isW_lit _ _ [[0], [1], [0, 0], [0, 1]] _ (by simp) _ rfl (Each.cons_ (IsI.al (IsI.al (IsI.al (isI_lit _ [0] _ (by simp) _ rfl) _) _) _) (Each.cons_ (IsI.al (IsI.al (isI_lit _ [1] _ (by simp) _ rfl) _) _) (Each.cons_ (IsI.al (isI_lit _ [0, 0] _ (by simp) _ rfl) _) (Each.cons_ (isI_lit _ [0, 1] _ (by simp) _ rfl) Each.nil_))))
  have C10 : Bel wL (World.alloc (World.alloc (World.alloc (World.alloc (World.alloc x10 (Obj.cells #[Value.int .i64 0] 3)) (Obj.cells #[Value.int .i64 1] 3)) (Obj.cells #[Value.int .i64 0, Value.int .i64 0] 3)) (Obj.cells #[Value.int .i64 0, Value.int .i64 1] 3)) (Obj.cells #[Value.slice (some ⟨x10.heap.size, 0, none⟩) 1 1, Value.slice (some ⟨x10.heap.size + 1, 0, none⟩) 1 1, Value.slice (some ⟨x10.heap.size + 1 + 1, 0, none⟩) 2 2, Value.slice (some ⟨x10.heap.size + 1 + 1 + 1, 0, none⟩) 2 2] 38)) := by repeat (first | exact B10 | refine Bel.al ?_ _)
  have E10 : Bel x2 (World.alloc (World.alloc (World.alloc (World.alloc (World.alloc x10 (Obj.cells #[Value.int .i64 0] 3)) (Obj.cells #[Value.int .i64 1] 3)) (Obj.cells #[Value.int .i64 0, Value.int .i64 0] 3)) (Obj.cells #[Value.int .i64 0, Value.int .i64 1] 3)) (Obj.cells #[Value.slice (some ⟨x10.heap.size, 0, none⟩) 1 1, Value.slice (some ⟨x10.heap.size + 1, 0, none⟩) 1 1, Value.slice (some ⟨x10.heap.size + 1 + 1, 0, none⟩) 2 2, Value.slice (some ⟨x10.heap.size + 1 + 1 + 1, 0, none⟩) 2 2] 38)) := by repeat (first | exact D10 | refine Bel.al ?_ _)
  have F10 : Keeps x10 (World.alloc (World.alloc (World.alloc (World.alloc (World.alloc x10 (Obj.cells #[Value.int .i64 0] 3)) (Obj.cells #[Value.int .i64 1] 3)) (Obj.cells #[Value.int .i64 0, Value.int .i64 0] 3)) (Obj.cells #[Value.int .i64 0, Value.int .i64 1] 3)) (Obj.cells #[Value.slice (some ⟨x10.heap.size, 0, none⟩) 1 1, Value.slice (some ⟨x10.heap.size + 1, 0, none⟩) 1 1, Value.slice (some ⟨x10.heap.size + 1 + 1, 0, none⟩) 2 2, Value.slice (some ⟨x10.heap.size + 1 + 1 + 1, 0, none⟩) 2 2] 38)) := by repeat (first | exact Keeps.refl _ | refine Keeps.al ?_ _)
  generalize (World.alloc (World.alloc (World.alloc (World.alloc (World.alloc x10 (Obj.cells #[Value.int .i64 0] 3)) (Obj.cells #[Value.int .i64 1] 3)) (Obj.cells #[Value.int .i64 0, Value.int .i64 0] 3)) (Obj.cells #[Value.int .i64 0, Value.int .i64 1] 3)) (Obj.cells #[Value.slice (some ⟨x10.heap.size, 0, none⟩) 1 1, Value.slice (some ⟨x10.heap.size + 1, 0, none⟩) 1 1, Value.slice (some ⟨x10.heap.size + 1 + 1, 0, none⟩) 2 2, Value.slice (some ⟨x10.heap.size + 1 + 1 + 1, 0, none⟩) 2 2] 38)) = y10 at hl11 C10 E10 F10 ⊢
  refine (same_true (hr2.words (Below.to_keeps E10)) hl11).mono ?_
  rintro e x11 ⟨rfl, hb11⟩
  have B11 : Bel wL x11 := C10.tr hb11
  have D11 : Bel x2 x11 := E10.tr hb11
  clear hb11 hl11 C10 E10 F10 B10 D10
  go_wp2_with (fail)
  have hw : IsI (World.alloc x11 (Obj.cells #[Value.int .i64 1] 3)) (.slice (some ⟨x11.heap.size, 0, none⟩) 1 1) [1] := isI_lit _ [1] _ (by simp) _ rfl
  have C11 : Bel wL (World.alloc x11 (Obj.cells #[Value.int .i64 1] 3)) := by repeat (first | exact B11 | refine Bel.al ?_ _)
  generalize (World.alloc x11 (Obj.cells #[Value.int .i64 1] 3)) = y11 at hw C11 ⊢
  refine (wordsetHas_any (hL.words (Below.to_keeps C11)) hw.row).mono ?_
  rw [ex7]
  rintro e x12 ⟨rfl, hb12⟩
  have B12 : Bel wL x12 := C11.tr hb12
  clear hb12 hw C11 B11 D11
  go_wp2_with (fail)
  have hz : RowOf (World.alloc (World.alloc x12 (Obj.cells #[Value.int .i64 0] 3)) (Obj.cells #[Value.slice (some ⟨x12.heap.size, 0, none⟩) 1 1] 38)) (IsI (World.alloc (World.alloc x12 (Obj.cells #[Value.int .i64 0] 3)) (Obj.cells #[Value.slice (some ⟨x12.heap.size, 0, none⟩) 1 1] 38))) (some ⟨x12.heap.size + 1, 0, none⟩) 1 1 [[0]] := isW_lit _ _ [[0]] _ (by simp) _ rfl (Each.cons_ (isI_lit _ [0] _ (by simp) _ rfl) Each.nil_)
  have C12 : Bel wL (World.alloc (World.alloc x12 (Obj.cells #[Value.int .i64 0] 3)) (Obj.cells #[Value.slice (some ⟨x12.heap.size, 0, none⟩) 1 1] 38)) := by repeat (first | exact B12 | refine Bel.al ?_ _)
  have hLL : RowOf (World.alloc (World.alloc (World.alloc x12 (Obj.cells #[Value.int .i64 0] 3)) (Obj.cells #[Value.slice (some ⟨x12.heap.size, 0, none⟩) 1 1] 38)) (Obj.cells #[Value.slice (some ⟨w.heap.size + 1 + 1 + 1 + 1, 0, none⟩) 4 4, Value.slice (some ⟨x12.heap.size + 1, 0, none⟩) 1 1] 25)) (IsW (World.alloc (World.alloc (World.alloc x12 (Obj.cells #[Value.int .i64 0] 3)) (Obj.cells #[Value.slice (some ⟨x12.heap.size, 0, none⟩) 1 1] 38)) (Obj.cells #[Value.slice (some ⟨w.heap.size + 1 + 1 + 1 + 1, 0, none⟩) 4 4, Value.slice (some ⟨x12.heap.size + 1, 0, none⟩) 1 1] 25))) (some ⟨x12.heap.size + 1 + 1, 0, none⟩) 2 2 [exL, [[0]]] := isLL_lit _ _ _ _ _ (by simp) (hL.words (Below.to_keeps C12)).isW hz.isW
  have C13 : Bel wL (World.alloc (World.alloc (World.alloc x12 (Obj.cells #[Value.int .i64 0] 3)) (Obj.cells #[Value.slice (some ⟨x12.heap.size, 0, none⟩) 1 1] 38)) (Obj.cells #[Value.slice (some ⟨w.heap.size + 1 + 1 + 1 + 1, 0, none⟩) 4 4, Value.slice (some ⟨x12.heap.size + 1, 0, none⟩) 1 1] 25)) := by repeat (first | exact B12 | refine Bel.al ?_ _)
  generalize (World.alloc (World.alloc (World.alloc x12 (Obj.cells #[Value.int .i64 0] 3)) (Obj.cells #[Value.slice (some ⟨x12.heap.size, 0, none⟩) 1 1] 38)) (Obj.cells #[Value.slice (some ⟨w.heap.size + 1 + 1 + 1 + 1, 0, none⟩) 4 4, Value.slice (some ⟨x12.heap.size + 1, 0, none⟩) 1 1] 25)) = y12 at hLL C13 ⊢
  refine (wordsetUnion_any hLL (by decide)).mono ?_
  rw [ex8]
  rintro e x13 ⟨v13, rfl, hO13, hb13⟩
  obtain ⟨A13, n13, c13, rfl, hr13⟩ := hO13.isW (by decide)
  have B13 : Bel wL x13 := C13.tr hb13
  clear hb13 hO13 hLL hz C12 C13
  go_wp2_with (fail)
  have hl14 : RowOf (World.alloc (World.alloc (World.alloc (World.alloc (World.alloc x13 (Obj.cells #[] 3)) (Obj.cells #[Value.int .i64 0] 3)) (Obj.cells #[Value.int .i64 1] 3)) (Obj.cells #[Value.int .i64 1, Value.int .i64 0] 3)) (Obj.cells #[Value.slice (some ⟨x13.heap.size, 0, none⟩) 0 0, Value.slice (some ⟨x13.heap.size + 1, 0, none⟩) 1 1, Value.slice (some ⟨x13.heap.size + 1 + 1, 0, none⟩) 1 1, Value.slice (some ⟨x13.heap.size + 1 + 1 + 1, 0, none⟩) 2 2] 38)) (IsI (World.alloc (World.alloc (World.alloc (World.alloc (World.alloc x13 (Obj.cells #[] 3)) (Obj.cells #[Value.int .i64 0] 3)) (Obj.cells #[Value.int .i64 1] 3)) (Obj.cells #[Value.int .i64 1, Value.int .i64 0] 3)) (Obj.cells #[Value.slice (some ⟨x13.heap.size, 0, none⟩) 0 0, Value.slice (some ⟨x13.heap.size + 1, 0, none⟩) 1 1, Value.slice (some ⟨x13.heap.size + 1 + 1, 0, none⟩) 1 1, Value.slice (some ⟨x13.heap.size + 1 + 1 + 1, 0, none⟩) 2 2] 38))) (some ⟨x13.heap.size + 1 + 1 + 1 + 1, 0, none⟩) 4 4 [[], [0], [1], [1, 0]] := isW_lit _ _ [[], [0], [1], [1, 0]] _ (by simp) _ rfl (Each.cons_ (IsI.al (IsI.al (IsI.al (isI_lit _ [] _ (by simp) _ rfl) _) _) _) (Each.cons_ (IsI.al (IsI.al (isI_lit _ [0] _ (by simp) _ rfl) _) _) (Each.cons_ (IsI.al (isI_lit _ [1] _ (by simp) _ rfl) _) (Each.cons_ (isI_lit _ [1, 0] _ (by simp) _ rfl) Each.nil_))))
  have C13 : Bel wL (World.alloc (World.alloc (World.alloc (World.alloc (World.alloc x13 (Obj.cells #[] 3)) (Obj.cells #[Value.int .i64 0] 3)) (Obj.cells #[Value.int .i64 1] 3)) (Obj.cells #[Value.int .i64 1, Value.int .i64 0] 3)) (Obj.cells #[Value.slice (some ⟨x13.heap.size, 0, none⟩) 0 0, Value.slice (some ⟨x13.heap.size + 1, 0, none⟩) 1 1, Value.slice (some ⟨x13.heap.size + 1 + 1, 0, none⟩) 1 1, Value.slice (some ⟨x13.heap.size + 1 + 1 + 1, 0, none⟩) 2 2] 38)) := by repeat (first | exact B13 | refine Bel.al ?_ _)
  have F13 : Keeps x13 (World.alloc (World.alloc (World.alloc (World.alloc (World.alloc x13 (Obj.cells #[] 3)) (Obj.cells #[Value.int .i64 0] 3)) (Obj.cells #[Value.int .i64 1] 3)) (Obj.cells #[Value.int .i64 1, Value.int .i64 0] 3)) (Obj.cells #[Value.slice (some ⟨x13.heap.size, 0, none⟩) 0 0, Value.slice (some ⟨x13.heap.size + 1, 0, none⟩) 1 1, Value.slice (some ⟨x13.heap.size + 1 + 1, 0, none⟩) 1 1, Value.slice (some ⟨x13.heap.size + 1 + 1 + 1, 0, none⟩) 2 2] 38)) := by repeat (first | exact Keeps.refl _ | refine Keeps.al ?_ _)
  generalize (World.alloc (World.alloc (World.alloc (World.alloc (World.alloc x13 (Obj.cells #[] 3)) (Obj.cells #[Value.int .i64 0] 3)) (Obj.cells #[Value.int .i64 1] 3)) (Obj.cells #[Value.int .i64 1, Value.int .i64 0] 3)) (Obj.cells #[Value.slice (some ⟨x13.heap.size, 0, none⟩) 0 0, Value.slice (some ⟨x13.heap.size + 1, 0, none⟩) 1 1, Value.slice (some ⟨x13.heap.size + 1 + 1, 0, none⟩) 1 1, Value.slice (some ⟨x13.heap.size + 1 + 1 + 1, 0, none⟩) 2 2] 38)) = y13 at hl14 C13 F13 ⊢
  refine (same_true (hr13.words F13) hl14).mono ?_
  rintro e x14 ⟨rfl, hb14⟩
  have B14 : Bel w x14 := (hB0.tr C13).tr hb14
  clear hb14 hl14 C13 F13 B13
  go_wp2
  go_ret
  exact ⟨rfl, B14⟩

end Go.Proofs.YtmlghnfbjkcelaaDoor
