/-
  Walks of slices.Clone.
-/
import Derived.Test.YthahbiahlpcgeaaGreatDoorLibClone
namespace Go.Proofs.YthahbiahlpcgeaaGreatDoor.Sym
open Go.RowKit

theorem Tryz.infoC_int : (Tryz.prog.info? 3).map (fun i => (i.zero, i.size, i.bytes)) = some (some (.int .i64 0), 1, 8) := by kernel_rfl
set_option maxRecDepth 100000 in
set_option maxHeartbeats 400000 in
theorem clone_int (w : World) (A : Option Addr) (n c : Nat) (us : List Value) (hl : us.length = n * 1) (hs : 0 < n → ∃ b q, A = some ⟨b, q, none⟩ ∧ ∀ (j : Nat) u, us[j]? = some u → w.cell? ⟨b, q + j, none⟩ = some u)
    (h1 : ∀ u ∈ us, u.oneCell' = true) (hn : n ≤ 17592186044416) (hby : n * 8 ≤ 140737488355328) : Calls Tryz.prog 86 #[.slice A n c] w (ClonePost 3 1 n us w) := by
  obtain ⟨j0, ji, jz0, jz1, jz2⟩ := info_parts Tryz.infoC_int
  have hnil := Lib.run_eql_slice_nil (P := Tryz.prog) w 38 3 A n c 0 0 Tryz.underlying38
  cases A with
  | none =>
    have h0 : n = 0 := by
      rcases Nat.eq_zero_or_pos n with h | h
      · exact h
      · obtain ⟨b, q, e, _⟩ := hs h; cases e
    subst h0
    have hxs : us = [] := List.eq_nil_of_length_eq_zero (by omega)
    have HX := Lib.hid hxs
    clear hxs hs hl h1
    go_enter Tryz.func86, Tryz.ntmps86
    go_wp2
    go_ret
    rw [HX.out]
    exact ⟨_, rfl, World.ownsRow_nil _ _ _ _, Below.refl _ _⟩
  | some a =>
    have hsrc : ∀ o, 0 < n → ∃ b q, some a = some ⟨b, q, none⟩ ∧ ∀ (j : Nat) u, us[j]? = some u → (w.alloc o).cell? ⟨b, q + j, none⟩ = some u := fun o h => by
      obtain ⟨b, q, e, hc⟩ := hs h
      exact ⟨b, q, e, fun j u hu => grown_keeps (World.grownBy_alloc w o none) _ _ (hc j u hu)⟩
    have hc6 : 0 + n ≤ maxLen := by unfold maxLen; omega
    have hc7 : (0 + n) * 8 ≤ 140737488355328 := by omega
    have hc8 : ∀ o, w.heap.size ≤ (w.alloc o).heap.size := fun o => by simp
    have HXL := Lib.hid hl
    clear hs
    go_enter Tryz.func86, Tryz.ntmps86
    go_wp2_with (at_builtin; refine wpList_append_k rfl (.tmp 5) (.tmp 6) 38 rfl w.heap.size 3 j0 (.int .i64 0) 1 8 Tryz.underlying38 ji jz0 jz1 jz2 rfl (by decide) (.slice (some ⟨w.heap.size, 0, none⟩) 0 0) 0 _ rfl (ownsRow_none _ _ _) _ _ _ _ rfl HXL.out (hsrc _) h1 hc6 hc7 (hc8 _) ?_; intro v1 w1 hown1 hg1 hb1)
    go_ret
    have hgr : w.grownBy w1 none := grown_step (World.grownBy_alloc w _ none) hg1 (.inr fun g e => by
      have : some w.heap.size = some g := e
      injection this with this
      omega)
    exact ⟨v1, rfl, by simpa using hown1, grown_below hgr (Nat.le_refl _) (fun g e => by cases e)⟩

theorem Tryz.infoC_words : (Tryz.prog.info? 38).map (fun i => (i.zero, i.size, i.bytes)) = some (some (.slice none 0 0), 1, 24) := by kernel_rfl
set_option maxRecDepth 100000 in
set_option maxHeartbeats 400000 in
theorem clone_words (w : World) (A : Option Addr) (n c : Nat) (us : List Value) (hl : us.length = n * 1) (hs : 0 < n → ∃ b q, A = some ⟨b, q, none⟩ ∧ ∀ (j : Nat) u, us[j]? = some u → w.cell? ⟨b, q + j, none⟩ = some u)
    (h1 : ∀ u ∈ us, u.oneCell' = true) (hn : n ≤ 17592186044416) (hby : n * 24 ≤ 140737488355328) : Calls Tryz.prog 134 #[.slice A n c] w (ClonePost 38 1 n us w) := by
  obtain ⟨j0, ji, jz0, jz1, jz2⟩ := info_parts Tryz.infoC_words
  have hnil := Lib.run_eql_slice_nil (P := Tryz.prog) w 22 38 A n c 0 0 Tryz.underlying22
  cases A with
  | none =>
    have h0 : n = 0 := by
      rcases Nat.eq_zero_or_pos n with h | h
      · exact h
      · obtain ⟨b, q, e, _⟩ := hs h; cases e
    subst h0
    have hxs : us = [] := List.eq_nil_of_length_eq_zero (by omega)
    have HX := Lib.hid hxs
    clear hxs hs hl h1
    go_enter Tryz.func134, Tryz.ntmps134
    go_wp2
    go_ret
    rw [HX.out]
    exact ⟨_, rfl, World.ownsRow_nil _ _ _ _, Below.refl _ _⟩
  | some a =>
    have hsrc : ∀ o, 0 < n → ∃ b q, some a = some ⟨b, q, none⟩ ∧ ∀ (j : Nat) u, us[j]? = some u → (w.alloc o).cell? ⟨b, q + j, none⟩ = some u := fun o h => by
      obtain ⟨b, q, e, hc⟩ := hs h
      exact ⟨b, q, e, fun j u hu => grown_keeps (World.grownBy_alloc w o none) _ _ (hc j u hu)⟩
    have hc6 : 0 + n ≤ maxLen := by unfold maxLen; omega
    have hc7 : (0 + n) * 24 ≤ 140737488355328 := by omega
    have hc8 : ∀ o, w.heap.size ≤ (w.alloc o).heap.size := fun o => by simp
    have HXL := Lib.hid hl
    clear hs
    go_enter Tryz.func134, Tryz.ntmps134
    go_wp2_with (at_builtin; refine wpList_append_k rfl (.tmp 5) (.tmp 6) 22 rfl w.heap.size 38 j0 (.slice none 0 0) 1 24 Tryz.underlying22 ji jz0 jz1 jz2 rfl (by decide) (.slice (some ⟨w.heap.size, 0, none⟩) 0 0) 0 _ rfl (ownsRow_none _ _ _) _ _ _ _ rfl HXL.out (hsrc _) h1 hc6 hc7 (hc8 _) ?_; intro v1 w1 hown1 hg1 hb1)
    go_ret
    have hgr : w.grownBy w1 none := grown_step (World.grownBy_alloc w _ none) hg1 (.inr fun g e => by
      have : some w.heap.size = some g := e
      injection this with this
      omega)
    exact ⟨v1, rfl, by simpa using hown1, grown_below hgr (Nat.le_refl _) (fun g e => by cases e)⟩

theorem Tryz.infoC_traces : (Tryz.prog.info? 83).map (fun i => (i.zero, i.size, i.bytes)) = some (some (.agg #[.slice none 0 0, .slice none 0 0]), 2, 48) := by kernel_rfl
set_option maxRecDepth 100000 in
set_option maxHeartbeats 400000 in
theorem clone_traces (w : World) (A : Option Addr) (n c : Nat) (us : List Value) (hl : us.length = n * 2) (hs : 0 < n → ∃ b q, A = some ⟨b, q, none⟩ ∧ ∀ (j : Nat) u, us[j]? = some u → w.cell? ⟨b, q + j, none⟩ = some u)
    (h1 : ∀ u ∈ us, u.oneCell' = true) (hn : n ≤ 17592186044416) (hby : n * 48 ≤ 140737488355328) : Calls Tryz.prog 104 #[.slice A n c] w (ClonePost 83 2 n us w) := by
  obtain ⟨j0, ji, jz0, jz1, jz2⟩ := info_parts Tryz.infoC_traces
  have hnil := Lib.run_eql_slice_nil (P := Tryz.prog) w 35 83 A n c 0 0 Tryz.underlying35
  cases A with
  | none =>
    have h0 : n = 0 := by
      rcases Nat.eq_zero_or_pos n with h | h
      · exact h
      · obtain ⟨b, q, e, _⟩ := hs h; cases e
    subst h0
    have hxs : us = [] := List.eq_nil_of_length_eq_zero (by omega)
    have HX := Lib.hid hxs
    clear hxs hs hl h1
    go_enter Tryz.func104, Tryz.ntmps104
    go_wp2
    go_ret
    rw [HX.out]
    exact ⟨_, rfl, World.ownsRow_nil _ _ _ _, Below.refl _ _⟩
  | some a =>
    have hsrc : ∀ o, 0 < n → ∃ b q, some a = some ⟨b, q, none⟩ ∧ ∀ (j : Nat) u, us[j]? = some u → (w.alloc o).cell? ⟨b, q + j, none⟩ = some u := fun o h => by
      obtain ⟨b, q, e, hc⟩ := hs h
      exact ⟨b, q, e, fun j u hu => grown_keeps (World.grownBy_alloc w o none) _ _ (hc j u hu)⟩
    have hc6 : 0 + n ≤ maxLen := by unfold maxLen; omega
    have hc7 : (0 + n) * 48 ≤ 140737488355328 := by omega
    have hc8 : ∀ o, w.heap.size ≤ (w.alloc o).heap.size := fun o => by simp
    have HXL := Lib.hid hl
    clear hs
    go_enter Tryz.func104, Tryz.ntmps104
    go_wp2_with (at_builtin; refine wpList_append_k rfl (.tmp 5) (.tmp 6) 35 rfl w.heap.size 83 j0 (.agg #[.slice none 0 0, .slice none 0 0]) 2 48 Tryz.underlying35 ji jz0 jz1 jz2 rfl (by decide) (.slice (some ⟨w.heap.size, 0, none⟩) 0 0) 0 _ rfl (ownsRow_none _ _ _) _ _ _ _ rfl HXL.out (hsrc _) h1 hc6 hc7 (hc8 _) ?_; intro v1 w1 hown1 hg1 hb1)
    go_ret
    have hgr : w.grownBy w1 none := grown_step (World.grownBy_alloc w _ none) hg1 (.inr fun g e => by
      have : some w.heap.size = some g := e
      injection this with this
      omega)
    exact ⟨v1, rfl, by simpa using hown1, grown_below hgr (Nat.le_refl _) (fun g e => by cases e)⟩

end Go.Proofs.YthahbiahlpcgeaaGreatDoor.Sym
