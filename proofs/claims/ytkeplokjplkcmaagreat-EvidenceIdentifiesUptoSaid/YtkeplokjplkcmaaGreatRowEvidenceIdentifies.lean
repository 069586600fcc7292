/-
  The law EvidenceIdentifies, proved, for inputs of bulk at most 1048576: the statement of its row, and its tied card.
-/
import Derived.Test.YtkeplokjplkcmaaGreatM6
namespace Go.Proofs.YtkeplokjplkcmaaGreat.EvidenceIdentifies
open Go.ChangeShapes Go.WideShapes Go.ChangeAt Go.RowKit Go.Proofs.YtkeplokjplkcmaaGreat.Sym
set_option maxRecDepth 100000

/-- What the walk gives, for every argument and every world. -/
theorem contract (H : Type) (enc : TypeId × Value → H) (W : World) (base : Nat) (args : Array Value) (ds gs : List (DataW H)) (before : List MemPlace)
    (hval : ∀ (j : Nat) t v, Tryz.f5.params[j]? = some t → args[j]? = some v → Value.okWide Tryz.prog W .any base t v)
    (hW : DataW.Whole enc Tryz.prog Tryz.f5.params.toList Rows.evidenceIdentifiesSpec.vars false W args.toList ds gs before) (hbulk : Rows.uptoBulkAll ds ≤ 1048576) :
    Calls Tryz.prog 5 args W fun e W' => ∃ v, e = .returned v ∧ Rows.evidenceIdentifiesSpec.post enc Tryz.prog Tryz.f5 false true false false W args v W' := by
  have hW' := hW
  obtain ⟨p, q, hA0, hV, rfl, hfz, hnd⟩ := hW
  have hA : DataW.TrodAll enc Tryz.prog W 0 (fun _ => true) true Tryz.f5.params.toList args.toList ds p := hA0
  rw [Tryz.params5] at hA hval
  obtain ⟨v0, v1, d0, d1, p0, p1, rfl, rfl, rfl, h0, h1⟩ := trodAll_two hA
  obtain ⟨rfl, rfl⟩ := trodVars_none hV
  clear hA0
  simp only [List.append_nil] at hW'
  simp only [Rows.uptoBulkAll] at hbulk
  obtain ⟨x0, r0, s0, k0⟩ := arg_struct Tryz.underlying50 (hval 0 50 v0 rfl rfl) h0 opn_api_Mealy (by omega)
  obtain ⟨x1, r1, s1, k1⟩ := arg_slice Tryz.underlying22 (hval 1 22 v1 rfl rfl) h1 opn_1 (by omega)
  refine (sp_law (zj0 x0 x1 true (fun _ _ => zi9 x0 x1 k0 (Nat.le_trans s0 (by omega)) k1 (Nat.le_trans s1 (by omega)))) (vs := [v0, v1]) ⟨[], [], ⟨r0, rfl⟩, ⟨[], [], ⟨r1, rfl⟩, rfl, rfl⟩, rfl⟩).mono fun e W' ⟨he, hb⟩ => ?_
  subst he
  have hlt := fun x hx => hW'.lt x hx
  have t0 := RowKit.Below.trod Tryz.laidOut (by kernel_rfl) (of_decide_eq_true (by kernel_rfl)) h0 hb (fun x hx => hlt x (by simp [hx]))
  have t1 := RowKit.Below.trod Tryz.laidOut (by kernel_rfl) (of_decide_eq_true (by kernel_rfl)) h1 hb (fun x hx => hlt x (by simp [hx]))
  exact ⟨_, rfl, _, _, _, [], _, [], hW', trodAll_mk1 (shut_bool Tryz.underlying4 true), trodAll_mk2 t0 t1, rfl, hb.frame _, fun h => by cases h⟩

theorem lifted (os : Os) (started : os.Started) (H : Type) (enc : TypeId × Value → H) (F : Stop.Interp) :
    ReturnsInHanded {} Tryz.checked os 5 .any ((Rows.OpenSpec.upto Rows.evidenceIdentifiesSpec).pre6 enc Tryz.prog Tryz.f5 Rows.evidenceIdentifiesUptoRow.domain false) (((Rows.OpenSpec.upto Rows.evidenceIdentifiesSpec).at F).post enc Tryz.prog Tryz.f5 false true false false) := by
  refine returnsInHanded_of_cond (C := Tryz.checked) (s := Rows.OpenSpec.upto Rows.evidenceIdentifiesSpec) (k := Rows.uptoSmall) rfl Tryz.own started (by kernel_rfl) Tryz.func5
    (OpenSpec.witness (enc := enc) (C := Tryz.checked) (s := Rows.OpenSpec.upto Rows.evidenceIdentifiesSpec) (k := Rows.uptoSmall) rfl false ⟨#[], #[Value.agg #[.int .i64 0, .int .i64 0, .slice none 0 0, .slice none 0 0], .slice none 0 0], []⟩ 8 (by kernel_rfl) (by kernel_rfl) (by kernel_rfl)
      (x := ([.agg [.lit (.int .i64 0), .lit (.int .i64 0), .nil, .nil], .nil], [], [])) (by kernel_rfl) rfl (by kernel_rfl)) ?_
  intro W base args ds gs before hval hW _ hk _
  have hk2 := bulk_small hk
  exact contract H enc W base args ds gs before hval hW (by rw [AS] at hk2; omega)

/-- The row's facts, one by one: all at once they want more memory than a process may have. -/
theorem fct_inPlace : (Rows.evidenceIdentifiesUptoRow.inPlace == Tryz.pinned.checked.prog.inPlace 5) = true := by kernel_rfl
theorem zur : (Rows.evidenceIdentifiesUptoRow.unfollowed == Tryz.pinned.checked.prog.unfollowed 5) = true := by kernel_rfl
theorem fct_recurses : (Rows.evidenceIdentifiesUptoRow.recurses == Tryz.pinned.checked.prog.recurses 5) = true := by kernel_rfl
theorem fct_named : (Rows.evidenceIdentifiesUptoRow.named == Tryz.pinned.checked.prog.varsNamed 5) = true := by kernel_rfl
theorem fct_heard : Tryz.pinned.checked.prog.stopsHeard = true := by kernel_rfl
theorem fct_mayEnter : Tryz.pinned.checked.prog.mayEnter = true := by kernel_rfl
theorem fct_lifted : (Rows.evidenceIdentifiesUptoRow.lifted == Tryz.pinned.checked.prog.liftsFinal) = true := by kernel_rfl
theorem fct_plainKeys : (Rows.evidenceIdentifiesUptoRow.plainKeys == Tryz.pinned.checked.prog.plainKeys) = true := by kernel_rfl
theorem fct_laid : laidOutB Tryz.pinned.checked.prog = true := by kernel_rfl
theorem fct_maps : mapsRowed Tryz.pinned.checked.prog = true := by kernel_rfl
theorem closed : joinedFacts Tryz.pinned.checked.prog 5 Tryz.f5 (Rows.OpenSpec.upto Rows.evidenceIdentifiesSpec).bare Rows.evidenceIdentifiesUptoRow = true := by
  unfold joinedFacts
  rw [fct_inPlace, zur, fct_recurses, fct_named, fct_heard, fct_mayEnter, fct_lifted, fct_plainKeys, fct_laid, fct_maps]
  kernel_rfl

theorem said : Rows.EvidenceIdentifiesUptoSaid :=
  OpenClaim.holds_of_cond 5 Tryz.f5 rfl rfl rfl rfl rfl rfl rfl ⟨rfl, rfl, rfl, rfl, rfl⟩ rfl rfl rfl rfl rfl (by kernel_rfl) Tryz.func5 closed
    (of_decide_eq_true (by kernel_rfl)) (by unfold Func.isWrapper; first | (rw [if_pos (by decide +kernel)]; kernel_rfl) | (rw [if_neg (by decide +kernel)]; exact ⟨rfl, rfl⟩))
    (fun os started H enc _ F => lifted os started H enc F)

end Go.Proofs.YtkeplokjplkcmaaGreat.EvidenceIdentifies
