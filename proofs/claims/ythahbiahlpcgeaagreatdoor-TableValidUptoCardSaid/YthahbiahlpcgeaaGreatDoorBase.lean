/-
  How slices of integers, of words and of lists of words read in a world, and what keeps them so. No function of the program in sight.
-/
import Derived.WalkKit
import Derived.Deep.AppendLies
import Derived.Deep.Draws
import Derived.Maps.AppendAt
import Derived.Deep.QuietTactic
import Derived.BigQuiet
import Derived.WalkSpells
import Derived.Outline
import Derived.Lib.Hide
import Derived.Test.YthahbiahlpcgeaaGreatDoorPlain
namespace Go.Proofs.YthahbiahlpcgeaaGreatDoor
open Go.RowKit

/-- What was a cell stays that cell. -/
def Keeps (w w' : World) : Prop := ∀ p u, w.cell? p = some u → w'.cell? p = some u

theorem Keeps.refl (w : World) : Keeps w w := fun _ _ h => h
theorem Keeps.trans {a b c : World} (h : Keeps a b) (k : Keeps b c) : Keeps a c := fun p u hu => k p u (h p u hu)
theorem Keeps.of_below {w w' : World} (h : Below w.heap.size w w') : Keeps w w' := fun p _ hu =>
  (h.cell (p := p) (World.block_lt_of_cell? w p hu)).trans hu
theorem Keeps.drewN (w : World) (q : Nat) : Keeps w (w.drewN q) := fun _ _ h => h

/-- The slice '.slice A n c' is a row of n places, of which each reads as R says. -/
def RowOf {α : Type} (w : World) (R : Value → α → Prop) (A : Option Addr) (n c : Nat) (l : List α) : Prop :=
  l.length = n ∧ n ≤ c ∧ n ≤ 17592186044416 ∧
    (0 < n → ∃ b o, A = some ⟨b, o, none⟩ ∧ ∀ i x, l[i]? = some x → ∃ u, w.cell? ⟨b, o + i, none⟩ = some u ∧ R u x)

def IsInt (u : Value) (x : Int) : Prop := u = .int .i64 x

/-- The value reads as a word. -/
def IsI (w : World) (v : Value) (xs : List Int) : Prop := ∃ A n c, v = .slice A n c ∧ RowOf w IsInt A n c xs
/-- The value reads as a list of words. -/
def IsW (w : World) (v : Value) (l : List (List Int)) : Prop := ∃ A n c, v = .slice A n c ∧ RowOf w (IsI w) A n c l
/-- The value reads as a list of lists of words. -/
def IsL (w : World) (v : Value) (l : List (List (List Int))) : Prop := ∃ A n c, v = .slice A n c ∧ RowOf w (IsW w) A n c l

section
variable {α : Type} {w w' : World} {R R' : Value → α → Prop} {A : Option Addr} {n c k : Nat} {l : List α}

theorem RowOf.len (h : RowOf w R A n c l) : l.length = n := h.1
theorem RowOf.cap (h : RowOf w R A n c l) : n ≤ c := h.2.1
theorem RowOf.small (h : RowOf w R A n c l) : n ≤ 17592186044416 := h.2.2.1

theorem RowOf.keep (h : RowOf w R A n c l) (hk : Keeps w w') (hR : ∀ u x, R u x → R' u x) : RowOf w' R' A n c l :=
  ⟨h.1, h.2.1, h.2.2.1, fun hn => by
    obtain ⟨b, o, e, hc⟩ := h.2.2.2 hn
    refine ⟨b, o, e, fun i x hx => ?_⟩
    obtain ⟨u, hu, hr⟩ := hc i x hx
    exact ⟨u, hk _ _ hu, hR _ _ hr⟩⟩

theorem RowOf.at_ (h : RowOf w R A n c l) (hk : k < n) : ∃ b o u x, A = some ⟨b, o, none⟩ ∧ l[k]? = some x ∧ w.cell? ⟨b, o + k, none⟩ = some u ∧ R u x := by
  obtain ⟨b, o, e, hc⟩ := h.2.2.2 (by omega)
  have hl : k < l.length := by rw [h.1]; exact hk
  obtain ⟨u, hu, hr⟩ := hc k l[k] (List.getElem?_eq_getElem hl)
  exact ⟨b, o, u, l[k], e, List.getElem?_eq_getElem hl, hu, hr⟩

/-- The same, where the address is known to be one. -/
theorem RowOf.at_some {b o : Nat} (h : RowOf w R (some ⟨b, o, none⟩) n c l) (hk : k < n) : ∃ u x, l[k]? = some x ∧ w.cell? ⟨b, o + k, none⟩ = some u ∧ R u x := by
  obtain ⟨b', o', u, x, e, h1, h2, h3⟩ := h.at_ hk
  injection e with e
  injection e with e1 e2
  subst e1 e2
  exact ⟨u, x, h1, h2, h3⟩

theorem RowOf.nil_ : RowOf w R none 0 0 ([] : List α) := ⟨rfl, Nat.le_refl _, by omega, fun h => absurd h (by omega)⟩

/-- The first k places. -/
theorem RowOf.take (h : RowOf w R A n c l) (hk : k ≤ n) : RowOf w R A k c (l.take k) := by
  refine ⟨by rw [List.length_take, h.1]; omega, Nat.le_trans hk h.2.1, Nat.le_trans hk h.2.2.1, fun h0 => ?_⟩
  obtain ⟨b, o, e, hc⟩ := h.2.2.2 (by omega)
  refine ⟨b, o, e, fun i x hx => hc i x ?_⟩
  rw [List.getElem?_take] at hx
  split at hx
  · exact hx
  · cases hx

end

theorem IsI.keep {w w' : World} {v : Value} {xs : List Int} (h : IsI w v xs) (hk : Keeps w w') : IsI w' v xs := by
  obtain ⟨A, n, c, e, hr⟩ := h
  exact ⟨A, n, c, e, hr.keep hk fun _ _ h => h⟩
theorem IsW.keep {w w' : World} {v : Value} {l : List (List Int)} (h : IsW w v l) (hk : Keeps w w') : IsW w' v l := by
  obtain ⟨A, n, c, e, hr⟩ := h
  exact ⟨A, n, c, e, hr.keep hk fun _ _ h => h.keep hk⟩
theorem IsL.keep {w w' : World} {v : Value} {l : List (List (List Int))} (h : IsL w v l) (hk : Keeps w w') : IsL w' v l := by
  obtain ⟨A, n, c, e, hr⟩ := h
  exact ⟨A, n, c, e, hr.keep hk fun _ _ h => h.keep hk⟩

theorem IsI.below {w w' : World} {v : Value} {xs : List Int} (h : IsI w v xs) (hb : Below w.heap.size w w') : IsI w' v xs := h.keep (.of_below hb)
theorem IsW.below {w w' : World} {v : Value} {l : List (List Int)} (h : IsW w v l) (hb : Below w.heap.size w w') : IsW w' v l := h.keep (.of_below hb)
theorem IsL.below {w w' : World} {v : Value} {l : List (List (List Int))} (h : IsL w v l) (hb : Below w.heap.size w w') : IsL w' v l := h.keep (.of_below hb)

theorem IsI.nil_ (w : World) : IsI w (.slice none 0 0) [] := ⟨_, _, _, rfl, RowOf.nil_⟩
theorem IsW.nil_ (w : World) : IsW w (.slice none 0 0) [] := ⟨_, _, _, rfl, RowOf.nil_⟩

/-- The facts of a read, ready for a walk: the element x at k, and its cell. -/
theorem RowOf.int_at {w : World} {A : Option Addr} {n c k : Nat} {xs : List Int} (h : RowOf w IsInt A n c xs) (hk : k < n) :
    ∃ b o x, A = some ⟨b, o, none⟩ ∧ xs[k]? = some x ∧ w.cell? ⟨b, o + k, none⟩ = some (.int .i64 x) := by
  obtain ⟨b, o, u, x, e, hx, hu, rfl⟩ := h.at_ hk
  exact ⟨b, o, x, e, hx, hu⟩
theorem RowOf.word_at {w : World} {A : Option Addr} {n c k : Nat} {l : List (List Int)} (h : RowOf w (IsI w) A n c l) (hk : k < n) :
    ∃ b o A' n' c' x, A = some ⟨b, o, none⟩ ∧ l[k]? = some x ∧ w.cell? ⟨b, o + k, none⟩ = some (.slice A' n' c') ∧ RowOf w IsInt A' n' c' x := by
  obtain ⟨b, o, u, x, e, hx, hu, A', n', c', rfl, hr⟩ := h.at_ hk
  exact ⟨b, o, A', n', c', x, e, hx, hu, hr⟩

theorem drewN_two (w : World) (a b : Nat) : ∃ r, (w.drewN a).drewN b = w.drewN r := ⟨a + b, by rw [World.drewN_drewN]⟩

theorem ret_bool {a b : Bool} (h : a = b) : Ending.returned (.bool a) = .returned (.bool b) := by rw [h]
theorem ret_int {k : IntKind} {a b : Int} (h : a = b) : Ending.returned (.int k a) = .returned (.int k b) := by rw [h]
theorem drewN_three (w : World) (a b c : Nat) : ∃ r, ((w.drewN a).drewN b).drewN c = w.drewN r := ⟨a + b + c, by rw [World.drewN_drewN, World.drewN_drewN, Nat.add_assoc]⟩

/-- The world is another one's behind some draws. -/
def Qt (w w' : World) : Prop := ∃ q, w' = w.drewN q
theorem Qt.refl (w : World) : Qt w w := ⟨0, rfl⟩
theorem Qt.drewN {w w' : World} (h : Qt w w') (n : Nat) : Qt w (w'.drewN n) := by
  obtain ⟨q, rfl⟩ := h
  exact drewN_two w q n
theorem Qt.keeps {w w' : World} (h : Qt w w') : Keeps w w' := by
  obtain ⟨q, rfl⟩ := h
  exact Keeps.drewN w q
theorem Qt.trans {a b c : World} (h : Qt a b) (k : Qt b c) : Qt a c := by
  obtain ⟨q, rfl⟩ := k
  exact h.drewN q

theorem RowOf.kept {α : Type} {w w' : World} {R : Value → α → Prop} {A : Option Addr} {n c : Nat} {l : List α} (h : RowOf w R A n c l) (hk : Keeps w w') : RowOf w' R A n c l := h.keep hk fun _ _ h => h
theorem RowOf.words {w w' : World} {A : Option Addr} {n c : Nat} {l : List (List Int)} (h : RowOf w (IsI w) A n c l) (hk : Keeps w w') : RowOf w' (IsI w') A n c l := h.keep hk fun _ _ h => h.keep hk
theorem RowOf.lists {w w' : World} {A : Option Addr} {n c : Nat} {l : List (List (List Int))} (h : RowOf w (IsW w) A n c l) (hk : Keeps w w') : RowOf w' (IsW w') A n c l := h.keep hk fun _ _ h => h.keep hk

theorem take_same_step {α : Type} {l m : List α} {k : Nat} {x : α} (h : l.take k = m.take k) (hl : l[k]? = some x) (hm : m[k]? = some x) : l.take (k + 1) = m.take (k + 1) := by
  rw [List.take_add_one, List.take_add_one, h, hl, hm]
theorem take_step {α : Type} {l : List α} {k : Nat} {x : α} (hl : l[k]? = some x) : l.take (k + 1) = l.take k ++ [x] := by
  rw [List.take_add_one, hl]; rfl

theorem getD_of_some {α : Type} {l : List α} {k : Nat} {x d : α} (h : l[k]? = some x) : l.getD k d = x := by simp [List.getD_eq_getElem?_getD, h]

end Go.Proofs.YthahbiahlpcgeaaGreatDoor
