/-
  The law of TableValid, for tables within the bound.
-/
import Derived.Test.YthahbiahlpcgeaaGreatDoorOT
import Derived.Test.YthahbiahlpcgeaaGreatDoorP3
namespace Go.Proofs.YthahbiahlpcgeaaGreatDoor.Sym

theorem sum_mem {α : Type} {f : α → Nat} : ∀ {l : List α} {x : α}, x ∈ l → f x ≤ (l.map f).sum
  | y :: l, x, h => by
    rw [List.map_cons, List.sum_cons]
    rcases List.mem_cons.1 h with rfl | h
    · omega
    · have := sum_mem (f := f) h
      omega
theorem sum_len {α : Type} {f : α → Nat} (hf : ∀ x, 1 ≤ f x) : ∀ l : List α, l.length ≤ (l.map f).sum
  | [] => by simp
  | y :: l => by
    have := sum_len hf l
    have := hf y
    rw [List.map_cons, List.sum_cons, List.length_cons]
    omega
theorem sz_word {x : List Int} : x.length + 1 = szL sz1 x := by
  unfold szL sz1
  induction x with
  | nil => rfl
  | cons y l ih => simp at ih ⊢; omega
theorem sml_of {l : List (List Int)} {N : Nat} (h : szL (szL sz1) l ≤ N) (hN : N ≤ 2000000) : SmL l := by
  unfold szL at h
  refine ⟨?_, fun x hx => ?_⟩
  · have := sum_len (f := szL sz1) (fun x => by rw [← sz_word]; omega) l
    unfold szL at this
    omega
  · have := sum_mem (f := szL sz1) hx
    rw [← sz_word] at this
    unfold szL at this
    unfold SmW
    omega
theorem smt_of {t : T_api_Table} (k : ok_api_Table t) (s : sz_api_Table t ≤ 1048576) : SmT t := by
  unfold sz_api_Table at s
  obtain ⟨k1, k2, k3⟩ := k
  exact ⟨k1, sml_of (N := 1048576) (by omega) (by omega), sml_of (N := 1048576) (by omega) (by omega), k2⟩

theorem law_L23_TableValid (x0 : T_api_Table) (x1 : Int) (k0 : ok_api_Table x0) (s0 : sz_api_Table x0 ≤ 1048576) (k1 : inR x1) : L23_TableValid x0 x1 = some true := plain_TableValid x0 x1 (smt_of k0 s0)
end Go.Proofs.YthahbiahlpcgeaaGreatDoor.Sym
