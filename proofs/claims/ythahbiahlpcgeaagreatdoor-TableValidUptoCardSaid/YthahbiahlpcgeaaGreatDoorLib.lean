import Derived.Test.YthahbiahlpcgeaaGreatDoorLibC
import Derived.Test.YthahbiahlpcgeaaGreatDoorLibGrow
import Derived.Test.YthahbiahlpcgeaaGreatDoorLibS
import Derived.Test.YthahbiahlpcgeaaGreatDoorLibKey
import Derived.Test.YthahbiahlpcgeaaGreatDoorLibSort
import Derived.Test.YthahbiahlpcgeaaGreatDoorGT
namespace Go.Proofs.YthahbiahlpcgeaaGreatDoor.Sym
open Go.RowKit
set_option maxRecDepth 100000
set_option linter.unusedVariables false
set_option maxHeartbeats 4000000

/-- What the library's functions compute. -/
def libClone {α : Type} (by_ : Nat) (l : List α) : Option (List α) := chk (capOk l.length by_) (some l)
def libConcat {α : Type} (by_ : Nat) (l : List (List α)) : Option (List α) := chk (l.flatten.length ≤ 1000000000) (some l.flatten)
def compF {α : Type} (f : α → α → Option Bool) : α → List α → Option (List α)
  | _, [] => some []
  | p, x :: l => (f x p).bind fun b => (compF f x l).map fun r => cond b r (x :: r)
def libCompact {α : Type} (l : List α) (f : α → α → Option Bool) : Option (List α) := chk (l.length ≤ 1000000000) (match l with
  | [] => some []
  | x :: l => (compF f x l).map fun r => x :: r)
def lib_Clone_int (l : List Int) : Option (List Int) := libClone 8 l
theorem sp_lib_Clone_int (l r : List Int) (h : lib_Clone_int l = some r) : Sp Tryz.prog 86 [.im (nL cI l)] (.row 3 1 (List.map cI r)) := by
  obtain ⟨h1, h⟩ := chk_some h
  injection h with h
  subst h
  exact sp_of_clone (by_ := 8) (fun args w => run_enter rfl rfl rfl args w) (by decide) clone_int (fun e he => by obtain ⟨y, _, rfl⟩ := List.mem_map.1 he; rfl) (by rw [List.length_map]; exact h1)
def lib_Clone_words (l : List (List Int)) : Option (List (List Int)) := libClone 24 l
theorem sp_lib_Clone_words (l r : List (List Int)) (h : lib_Clone_words l = some r) : Sp Tryz.prog 134 [.im (nL (cL cI) l)] (.row 38 1 (List.map (cL cI) r)) := by
  obtain ⟨h1, h⟩ := chk_some h
  injection h with h
  subst h
  exact sp_of_clone (by_ := 24) (fun args w => run_enter rfl rfl rfl args w) (by decide) clone_words (fun e he => by obtain ⟨y, _, rfl⟩ := List.mem_map.1 he; rfl) (by rw [List.length_map]; exact h1)
def lib_SortFunc_words (l : List (List Int)) (f : (List Int) → (List Int) → Option Int) : Option (List (List Int)) := libSort l f
theorem sp_lib_SortFunc_words (l : List (List Int)) (f : (List Int) → (List Int) → Option Int) (g : FuncId) (hd : CmpE Tryz.prog g (fun x => nL cI x) f) (r : List (List Int)) (h : lib_SortFunc_words l f = some r) : Sp Tryz.prog 135 [.lent (.row 38 1 (List.map (cL cI) l)), .im (.fn g [])] (.mk true [] [.lent (.row 38 1 (List.map (cL cI) r))]) :=
  sp_of_sort (fun args w => run_enter rfl rfl rfl args w) sortC_words (by decide) (fun _ => rfl) (fun W S us x hl h1 hr => rep_of_one hl hr) hd.1 hd.2 h
def lib_Clone_traces (l : List T_api_Trace) : Option (List T_api_Trace) := libClone 48 l
theorem sp_lib_Clone_traces (l r : List T_api_Trace) (h : lib_Clone_traces l = some r) : Sp Tryz.prog 104 [.im (nL c_api_Trace l)] (.row 83 2 (List.map c_api_Trace r)) := by
  obtain ⟨h1, h⟩ := chk_some h
  injection h with h
  subst h
  exact sp_of_clone (by_ := 48) (fun args w => run_enter rfl rfl rfl args w) (by decide) clone_traces (fun e he => by obtain ⟨y, _, rfl⟩ := List.mem_map.1 he; rfl) (by rw [List.length_map]; exact h1)
def lib_SortFunc_finder (l : List T_api_Trace) (f : T_api_Trace → T_api_Trace → Option Int) : Option (List T_api_Trace) := libSort l f
theorem sp_lib_SortFunc_finder (l : List T_api_Trace) (f : T_api_Trace → T_api_Trace → Option Int) (g : FuncId) (hd : CmpE Tryz.prog g (fun x => .agg (c_api_Trace x)) f) (r : List T_api_Trace) (h : lib_SortFunc_finder l f = some r) : Sp Tryz.prog 105 [.lent (.row 83 2 (List.map c_api_Trace l)), .im (.fn g [])] (.mk true [] [.lent (.row 83 2 (List.map c_api_Trace r))]) :=
  sp_of_sort (fun args w => run_enter rfl rfl rfl args w) sortC_finder (by decide) (fun _ => rfl) (fun W S us x hl h1 hr => .agg _ _ hr.1 h1 hr.2) hd.1 hd.2 h
end Go.Proofs.YthahbiahlpcgeaaGreatDoor.Sym
