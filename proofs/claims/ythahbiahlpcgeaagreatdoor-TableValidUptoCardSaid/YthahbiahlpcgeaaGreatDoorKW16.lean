/-
  Walks of the program's slices.Grow.
-/
import Derived.Test.YthahbiahlpcgeaaGreatDoorOwn
import Derived.Lib.AppendZeros
namespace Go.Proofs.YthahbiahlpcgeaaGreatDoor
open Go.RowKit

/-- An empty row of the call's own, with room. -/
def GrowPost (t : TypeId) (w : World) (e : Ending) (w' : World) : Prop := ∃ v', e = .returned v' ∧ w'.ownsRow w.heap.size t 1 v' 0 [] ∧ Below w.heap.size w w'

theorem ownsRow_zeros (w : World) (Z : Array Value) (t : TypeId) (c : Nat) (hc : c ≤ maxLen) (hZ : Z.size = c) :
    (w.drew.alloc (.cells Z t)).ownsRow w.heap.size t 1 (.slice (some ⟨w.heap.size, 0, none⟩) 0 c) 0 [] := by
  refine ⟨rfl, .inr ⟨w.heap.size, c, Z, rfl, Nat.le_refl _, ?_, Nat.zero_le _, hc, by omega, by simp⟩⟩
  exact heap_alloc_new w.drew _

theorem below_zeros (w : World) (o : Obj) : Below w.heap.size w (w.drew.alloc o) := (Below.refl w.heap.size w).drew.alloc (Nat.le_refl _) o


set_option maxRecDepth 100000 in
set_option maxHeartbeats 800000 in
theorem growI_any (n : Nat) (hn : n ≤ 1000000000) (w : World) :
    Calls Tryz.prog 131 #[.slice none 0 0, .int .i64 n] w (GrowPost 3 w) := by
  obtain ⟨i0, hi, hz0, hz1, hz2⟩ := info_parts Tryz.infoInt
  have h1 : ¬ ((n : Int) < 0) := by omega
  by_cases h0 : n = 0
  · subst h0
    go_enter Tryz.func131, Tryz.ntmps131
    go_wp2
    go_ret
    exact ⟨_, rfl, World.ownsRow_nil _ _ _ _, Below.refl _ _⟩
  · have h4 : (n : Int) > 0 := by omega
    have happ := Lib.run_append_nil_zeros (P := Tryz.prog) w 38 3 38 3 i0 (.int .i64 0) .i64 .i64 Tryz.underlying38 Tryz.underlying3 hi hz0 n (by omega) (by omega) (by omega) (by rw [hz2]; omega)
    generalize hcap : grownCap w n 0 3 = cap2 at happ
    have hcapge : n ≤ cap2 := by rw [← hcap]; exact grownCap_ge w _ 0 _
    have hcaple : cap2 ≤ maxLen := by rw [← hcap]; exact grownCap_le_maxLen w _ 0 _ (by unfold maxLen; omega)
    generalize hZ : (Builtin.zeroCells (Value.cells (.int .i64 0)) n ++ Builtin.zeroCells (Value.cells (.int .i64 0)) (cap2 - n)) = Z at happ
    have hZs : Z.size = cap2 := by rw [← hZ]; simp [size_zeroCells, Value.cells]; omega
    have hown := ownsRow_zeros w Z 3 cap2 hcaple hZs
    have hcap63 : cap2 ≤ 9223372036854775807 := by unfold maxLen at hcaple; omega
    have HO := Lib.hid (And.intro hown (below_zeros w (.cells Z 3)))
    clear hcap hZ hown hZs
    go_enter Tryz.func131, Tryz.ntmps131
    go_wp2_with (at_builtin; refine Lib.wpList_append_run _ rfl _ _ _ _ rfl _ _ rfl rfl _ _ happ ?_)
    go_ret
    exact ⟨_, rfl, HO.out.1, HO.out.2⟩

set_option maxRecDepth 100000 in
set_option maxHeartbeats 800000 in
theorem growW_any (n : Nat) (hn : n ≤ 1000000000) (w : World) :
    Calls Tryz.prog 140 #[.slice none 0 0, .int .i64 n] w (GrowPost 38 w) := by
  obtain ⟨i0, hi, hz0, hz1, hz2⟩ := info_parts Tryz.infoWord
  have h1 : ¬ ((n : Int) < 0) := by omega
  by_cases h0 : n = 0
  · subst h0
    go_enter Tryz.func140, Tryz.ntmps140
    go_wp2
    go_ret
    exact ⟨_, rfl, World.ownsRow_nil _ _ _ _, Below.refl _ _⟩
  · have h4 : (n : Int) > 0 := by omega
    have happ := Lib.run_append_nil_zeros (P := Tryz.prog) w 22 3 22 38 i0 (.slice none 0 0) .i64 .i64 Tryz.underlying22 Tryz.underlying3 hi hz0 n (by omega) (by omega) (by omega) (by rw [hz2]; omega)
    generalize hcap : grownCap w n 0 38 = cap2 at happ
    have hcapge : n ≤ cap2 := by rw [← hcap]; exact grownCap_ge w _ 0 _
    have hcaple : cap2 ≤ maxLen := by rw [← hcap]; exact grownCap_le_maxLen w _ 0 _ (by unfold maxLen; omega)
    generalize hZ : (Builtin.zeroCells (Value.cells (.slice none 0 0)) n ++ Builtin.zeroCells (Value.cells (.slice none 0 0)) (cap2 - n)) = Z at happ
    have hZs : Z.size = cap2 := by rw [← hZ]; simp [size_zeroCells, Value.cells]; omega
    have hown := ownsRow_zeros w Z 38 cap2 hcaple hZs
    have hcap63 : cap2 ≤ 9223372036854775807 := by unfold maxLen at hcaple; omega
    have HO := Lib.hid (And.intro hown (below_zeros w (.cells Z 38)))
    clear hcap hZ hown hZs
    go_enter Tryz.func140, Tryz.ntmps140
    go_wp2_with (at_builtin; refine Lib.wpList_append_run _ rfl _ _ _ _ rfl _ _ rfl rfl _ _ happ ?_)
    go_ret
    exact ⟨_, rfl, HO.out.1, HO.out.2⟩

end Go.Proofs.YthahbiahlpcgeaaGreatDoor
