/-
  What the arguments read as: words, lists of words, lists of lists of words, with the form's own bounds. No walk.
-/
import Derived.Test.YtmlghnfbjkcelaaDoorR0
import Derived.Test.YtmlghnfbjkcelaaDoorW17
import Derived.Deep.Slices
namespace Go.Proofs.YtmlghnfbjkcelaaDoor
open Go.ChangeShapes Go.WideShapes Go.ChangeAt Go.RowKit Go.Deep

theorem Tryd.cellsInt : Tryd.prog.cellsOf 3 = 1 := by kernel_rfl
theorem Tryd.cellsWord : Tryd.prog.cellsOf 38 = 1 := by kernel_rfl
theorem Tryd.cellsWords : Tryd.prog.cellsOf 25 = 1 := by kernel_rfl
theorem Tryd.bytesInt : Tryd.prog.bytesOf 3 = 8 := by kernel_rfl
theorem Tryd.bytesWord : Tryd.prog.bytesOf 38 = 24 := by kernel_rfl
theorem Tryd.bytesWords : Tryd.prog.bytesOf 25 = 24 := by kernel_rfl
theorem reach_eq : reachBytes = 140737488351232 := rfl

section
variable {H : Type} {enc : TypeId × Value → H} {W : World}

/-- A reading within the form's own reach. -/
def Fits (t : TypeId) (d : DataW H) : Prop := (d.weights Tryd.prog t).all (· ≤ reachBytes) = true

theorem fits_at {ts : List TypeId} {ds : List (DataW H)} (h : (DataW.weightsEach Tryd.prog ts ds).all (· ≤ reachBytes) = true) {j : Nat} {t : TypeId} {d : DataW H} (ht : ts[j]? = some t) (hd : ds[j]? = some d) : Fits t d :=
  List.all_eq_true.2 fun x hx => List.all_eq_true.1 h x (DataW.weights_mem_each ht hd x hx)

theorem weightsAll_mem {e : TypeId} : ∀ {l : List (DataW H)}, (DataW.weightsAll Tryd.prog e l).all (· ≤ reachBytes) = true → ∀ d ∈ l, Fits e d
  | [], _, d, hd => by simp at hd
  | a :: l, h, d, hd => by
    rw [DataW.weightsAll, List.all_append, Bool.and_eq_true] at h
    rw [List.mem_cons] at hd
    rcases hd with rfl | hd
    · exact h.1
    · exact weightsAll_mem h.2 d hd

set_option maxRecDepth 100000 in
theorem trod_int {fuel : Nat} {u : Value} {x : DataW H × List MemPlace} (h : DataW.trod enc Tryd.prog W 0 (fun _ => true) true fuel 3 [u] = some x) : ∃ z, IsInt u z ∧ Rng z := by
  cases fuel with
  | zero => simp [DataW.trod] at h
  | succ f =>
    unfold DataW.trod at h
    rw [Tryd.underlying3] at h
    cases u <;> simp at h
    rename_i k n
    obtain ⟨⟨rfl, hw⟩, _⟩ := h
    refine ⟨n, rfl, ?_⟩
    simp [Lit.wf, IntKind.min, IntKind.max, IntKind.wrap, IntKind.bits, IntKind.signed] at hw
    unfold Rng
    omega

set_option maxRecDepth 100000 in
theorem open_row {α : Type} {R : Value → α → Prop} {Pr : α → Prop} {t e : TypeId} (ht : Tryd.prog.underlying t = some (.slice e)) (hc : Tryd.prog.cellsOf e = 1) (hby : 8 ≤ Tryd.prog.bytesOf e)
    (helem : ∀ (fuel : Nat) (u : Value) (d : DataW H) (ps : List MemPlace), DataW.trod enc Tryd.prog W 0 (fun _ => true) true fuel e [u] = some (d, ps) → Fits e d → ∃ x, R u x ∧ Pr x)
    {fuel : Nat} {v : Value} {d : DataW H} {ps : List MemPlace} (h : DataW.trod enc Tryd.prog W 0 (fun _ => true) true fuel t [v] = some (d, ps)) (hz : Fits t d) :
    ∃ A n c l, v = .slice A n c ∧ RowOf W R A n c l ∧ ∀ x ∈ l, Pr x := by
  rcases open_slice1 ht hc h with ⟨h0, _⟩ | ⟨a, len, cap, m, k, V, D, Pl, hcs, _, hl, _, hm, hx, hel⟩
  · injection h0 with h0
    exact ⟨none, 0, 0, [], h0, RowOf.nil_, by simp⟩
  · injection hcs with hcs
    simp only [if_true] at hm
    subst hm
    simp only [Prod.mk.injEq] at hx
    obtain ⟨rfl, rfl⟩ := hx
    unfold Fits at hz
    rw [DataW.weights, ht] at hz
    simp only [List.all_cons, List.all_append, Bool.and_eq_true, decide_eq_true_eq, List.length_map, List.length_range, reach_eq] at hz
    obtain ⟨hz1, hz2, _⟩ := hz
    have hlen : len * 8 ≤ 140737488351232 := by
      have h1 : len * 8 ≤ (len + (m - len)) * Tryd.prog.bytesOf e := Nat.mul_le_mul (by omega) hby
      exact Nat.le_trans h1 (of_decide_eq_true hz1)
    have hx : ∀ i, i < len → ∃ x, R (V i) x ∧ Pr x := fun i hi => helem k (V i) (D i) (Pl i) (hel i (by omega)).2 (weightsAll_mem hz2 _ (List.mem_map.2 ⟨i, List.mem_range.2 hi, rfl⟩))
    by_cases h0 : len = 0
    · subst h0
      exact ⟨some a, 0, m, [], hcs, ⟨rfl, by omega, by omega, fun h => absurd h (by omega)⟩, by simp⟩
    · obtain ⟨x0, _⟩ := hx 0 (by omega)
      let X : Nat → α := fun i => if hi : i < len then Classical.choose (hx i hi) else x0
      have hX : ∀ i, i < len → R (V i) (X i) ∧ Pr (X i) := fun i hi => by
        show R (V i) (if hi : i < len then Classical.choose (hx i hi) else x0) ∧ Pr (if hi : i < len then Classical.choose (hx i hi) else x0)
        rw [dif_pos hi]
        exact Classical.choose_spec (hx i hi)
      obtain ⟨ab, ao, asp⟩ := a
      have hsp : asp = none := by
        have h1 := (hel 0 (by omega)).1
        unfold World.cell? Addr.add at h1
        simp only [if_true] at h1
        cases asp with
        | none => rfl
        | some q =>
          simp at h1
          split at h1 <;> simp at h1
      subst hsp
      refine ⟨_, _, _, (List.range len).map X, hcs, ⟨by simp, hl, by omega, fun _ => ⟨ab, ao, rfl, fun i x hx' => ?_⟩⟩, fun x hx' => ?_⟩
      · have hi : i < len := by
          have := (List.getElem?_eq_some_iff.1 hx').1
          simpa using this
        have hxi : x = X i := by
          rw [List.getElem?_map, List.getElem?_range hi] at hx'
          simpa using hx'.symm
        refine ⟨V i, ?_, hxi ▸ (hX i hi).1⟩
        rw [← addr_add]
        exact (hel i (by omega)).1
      · obtain ⟨i, hi, rfl⟩ := List.mem_map.1 hx'
        exact (hX i (List.mem_range.1 hi)).2

def RngW (x : List Int) : Prop := ∀ y ∈ x, Rng y
def RngL (l : List (List Int)) : Prop := ∀ x ∈ l, RngW x

theorem open_word {fuel : Nat} {v : Value} {d : DataW H} {ps : List MemPlace} (h : DataW.trod enc Tryd.prog W 0 (fun _ => true) true fuel 38 [v] = some (d, ps)) (hz : Fits 38 d) :
    ∃ A n c xs, v = .slice A n c ∧ RowOf W IsInt A n c xs ∧ RngW xs :=
  open_row Tryd.underlying38 Tryd.cellsInt (by rw [Tryd.bytesInt]; omega) (fun _ _ _ _ h _ => trod_int h) h hz

theorem open_words {fuel : Nat} {v : Value} {d : DataW H} {ps : List MemPlace} (h : DataW.trod enc Tryd.prog W 0 (fun _ => true) true fuel 25 [v] = some (d, ps)) (hz : Fits 25 d) :
    ∃ A n c l, v = .slice A n c ∧ RowOf W (IsI W) A n c l ∧ RngL l :=
  open_row Tryd.underlying25 Tryd.cellsWord (by rw [Tryd.bytesWord]; omega) (fun _ _ _ _ h hf => by
    obtain ⟨A, n, c, xs, e, hr, hg⟩ := open_word h hf
    exact ⟨xs, ⟨A, n, c, e, hr⟩, hg⟩) h hz

theorem open_lists {fuel : Nat} {v : Value} {d : DataW H} {ps : List MemPlace} (h : DataW.trod enc Tryd.prog W 0 (fun _ => true) true fuel 22 [v] = some (d, ps)) (hz : Fits 22 d) :
    ∃ A n c l, v = .slice A n c ∧ RowOf W (IsW W) A n c l ∧ ∀ x ∈ l, RngL x :=
  open_row Tryd.underlying22 Tryd.cellsWords (by rw [Tryd.bytesWords]; omega) (fun _ _ _ _ h hf => by
    obtain ⟨A, n, c, xs, e, hr, hg⟩ := open_words h hf
    exact ⟨xs, ⟨A, n, c, e, hr⟩, hg⟩) h hz
end

end Go.Proofs.YtmlghnfbjkcelaaDoor
