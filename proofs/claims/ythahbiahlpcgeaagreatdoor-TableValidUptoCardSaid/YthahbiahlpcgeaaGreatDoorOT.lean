import Derived.Test.YthahbiahlpcgeaaGreatDoorGT
import Derived.Test.YthahbiahlpcgeaaGreatDoorOpn
namespace Go.Proofs.YthahbiahlpcgeaaGreatDoor.Sym
open Go.RowKit
set_option maxRecDepth 100000
section
variable {H : Type} {enc : TypeId × Value → H} {W : World}
theorem opn_0 : Opn W enc 38 (cL cI) (szL sz1) (okL inR) := opn_slice (k := 1) Tryz.underlying38 (by kernel_rfl) (by decide) (fun _ => rfl) opn_int
theorem opn_1 : Opn W enc 22 (cL (cL cI)) (szL (szL sz1)) (okL (okL inR)) := opn_slice (k := 1) Tryz.underlying22 (by kernel_rfl) (by decide) (fun _ => rfl) opn_0
def sz_api_Table (x : T_api_Table) : Nat := (sz1 x.Inputs + ((szL (szL sz1)) x.Prefixes + ((szL (szL sz1)) x.Suffixes + 0))) + 1
def ok_api_Table (x : T_api_Table) : Prop := inR x.Inputs ∧ (okL (okL inR)) x.Prefixes ∧ (okL (okL inR)) x.Suffixes
theorem opn_api_Table : Opn W enc 24 c_api_Table sz_api_Table ok_api_Table :=
  opn_struct (len := 3) Tryz.underlying24 (by kernel_rfl) (opnFs_cons (k := 1) rfl (by kernel_rfl) opn_int (fun _ => rfl) (opnFs_cons (k := 1) rfl (by kernel_rfl) opn_1 (fun _ => rfl) (opnFs_cons (k := 1) rfl (by kernel_rfl) opn_1 (fun _ => rfl) opnFs_nil))) (fun p => ⟨p.1, p.2.1, p.2.2.1⟩) (fun _ => rfl) (fun _ => rfl) (fun p h => ⟨h.1, h.2.1, h.2.2.1⟩)
end
end Go.Proofs.YthahbiahlpcgeaaGreatDoor.Sym
