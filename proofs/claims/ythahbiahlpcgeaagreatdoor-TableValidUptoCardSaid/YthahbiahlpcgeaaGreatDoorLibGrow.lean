/-
  The contract of slices.Grow of nil.
-/
import Derived.Test.YthahbiahlpcgeaaGreatDoorSym15
import Derived.Test.YthahbiahlpcgeaaGreatDoorKW16
namespace Go.Proofs.YthahbiahlpcgeaaGreatDoor.Sym
open Go.RowKit
set_option maxRecDepth 100000

theorem sp_of_grow {g : FuncId} {t : TypeId} {n : Int} (he : ∀ args w, (callFunc g args).run Tryz.prog w = .ok (.enter g args) w) (h0 : 0 ≤ n) (h1 : n ≤ 1000000000)
    (h : ∀ (n : Nat), n ≤ 1000000000 → ∀ w, Calls Tryz.prog g #[.slice none 0 0, .int .i64 n] w (GrowPost t w)) : Sp Tryz.prog g [.im (.val (.slice none 0 0)), .im (nI n)] (.row t 1 []) := by
  refine ⟨he, fun w S vs F hS hv hn hF => ?_⟩
  match vs, hv with
  | [v, u], ⟨F1, F2, ⟨h3, e1⟩, ⟨F3, F4, ⟨h4, e2⟩, h5, e3⟩, e4⟩ =>
    have h5 : F4 = [] := h5
    subst e1 e2 h5 e3 e4
    cases h3
    cases h4
    have hc := h n.toNat (by omega) w
    rw [Int.toNat_of_nonneg h0] at hc
    refine hc.mono ?_
    rintro e w' ⟨v', rfl, ho, hb⟩
    have ho0 : w'.ownsRow 0 t 1 v' 0 [] := by
      refine ⟨ho.1, ?_⟩
      rcases ho.2 with h6 | ⟨g1, cap, cur, k1, _, k3⟩
      · exact .inl h6
      · exact .inr ⟨g1, cap, cur, k1, Nat.zero_le _, k3⟩
    have hlt := ho.lt
    have hbk : ∀ b ∈ (blkOf v').toList, w.heap.size ≤ b ∧ b < w'.heap.size := fun b hb => by
      refine hlt b ?_
      rw [row_blk ho0]
      simpa using hb
    refine ⟨v', (blkOf v').toList, rfl, .of hb, ⟨[v'], (blkOf v').toList, [], rfl, ⟨(blkOf v').toList, [], ⟨row_one ho0, [], ⟨[], Nat.one_pos, fun x hx => by simp at hx, by decide, ho0, rfl, fun u hu => by simp at hu, fun i u x hu => by simp at hu⟩, rfl⟩, rfl, by simp⟩, rfl, by simp⟩, ?_, fun b hb => ⟨.inl (hbk b hb).1, (hbk b hb).2⟩⟩
    cases blkOf v' <;> simp

def lib_Grow_int (n : Int) : Option (List Int) := chk (0 ≤ n ∧ n ≤ 1000000000) (some [])
theorem sp_lib_Grow_int (n : Int) (r : List Int) (h : lib_Grow_int n = some r) : Sp Tryz.prog 131 [.im (.val (.slice none 0 0)), .im (nI n)] (.row 3 1 (List.map cI r)) := by
  obtain ⟨h1, h⟩ := chk_some h
  injection h with h
  subst h
  exact sp_of_grow (fun args w => run_enter rfl rfl rfl args w) h1.1 h1.2 growI_any
def lib_Grow_words (n : Int) : Option (List (List Int)) := chk (0 ≤ n ∧ n ≤ 1000000000) (some [])
theorem sp_lib_Grow_words (n : Int) (r : List (List Int)) (h : lib_Grow_words n = some r) : Sp Tryz.prog 140 [.im (.val (.slice none 0 0)), .im (nI n)] (.row 38 1 (List.map (cL cI) r)) := by
  obtain ⟨h1, h⟩ := chk_some h
  injection h with h
  subst h
  exact sp_of_grow (fun args w => run_enter rfl rfl rfl args w) h1.1 h1.2 growW_any
end Go.Proofs.YthahbiahlpcgeaaGreatDoor.Sym
