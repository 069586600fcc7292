/-
  The plain reading is the model's: structs; one operation; a region, in whatever order; code; a function.
-/
import Derived.Test.YthahbiahlpcgeaaGreatDoorSym10
import Derived.Orders
namespace Go.Proofs.YthahbiahlpcgeaaGreatDoor.Sym
open Go.RowKit

section
variable {P : Program} {B : Base} {o : Oper} {σ : St} {K : Fx → Prop}

theorem setFrom_length {α : Type} : ∀ (ds cs : List α) (i : Nat), (setFrom cs i ds).length = cs.length
  | [], cs, i => rfl
  | d :: ds, cs, i => by rw [setFrom, setFrom_length ds]; simp
theorem setFrom_mem {α : Type} {p : α → Prop} : ∀ (ds cs : List α) (i : Nat), (∀ x ∈ cs, p x) → (∀ x ∈ ds, p x) → ∀ x ∈ setFrom cs i ds, p x
  | [], cs, i, h, _ => h
  | d :: ds, cs, i, h, k => by
    rw [setFrom]
    refine setFrom_mem ds _ _ (fun x hx => ?_) fun x hx => k x (by simp [hx])
    rcases List.mem_or_eq_of_mem_set hx with h1 | h1
    · exact h x h1
    · rw [h1]; exact k d (by simp)
theorem fold_setFrom (off : Nat) : ∀ (vs : List Value) (j : Nat) (cells : Array Value), ((vs.zipIdx j).foldl (fun cs (p : Value × Nat) => cs.setIfInBounds (off + p.2) p.1) cells).toList = setFrom cells.toList (off + j) vs
  | [], j, cells => rfl
  | v :: vs, j, cells => by
    rw [List.zipIdx_cons, List.foldl_cons, fold_setFrom off vs, setFrom, Array.toList_setIfInBounds, Nat.add_assoc]

theorem setFrom_reps {w : World} {S : Nat → Prop} {ρ : Ly} {γ : Nat → Nat} : ∀ {vs : List Value} {ds : List AV} {us : List Value} {cs : List AV} (i : Nat), Reps w S ρ γ us cs → Reps w S ρ γ vs ds → Reps w S ρ γ (setFrom us i vs) (setFrom cs i ds)
  | [], [], us, cs, i, h, _ => h
  | v :: vs, d :: ds, us, cs, i, h, k => by
    rw [setFrom, setFrom]
    refine setFrom_reps (i + 1) ⟨by simpa using h.1, fun j u x hu hx => ?_⟩ ⟨by simpa using k.1, fun j u x hu hx => k.2 (j + 1) u x (by simpa using hu) (by simpa using hx)⟩
    rw [List.getElem?_set] at hu hx
    by_cases e : i = j
    · rw [if_pos e] at hu hx
      split at hu
      · rename_i h1
        rw [if_pos (by rw [← h.1]; exact h1)] at hx
        injection hu with hu
        injection hx with hx
        rw [← hu, ← hx]
        exact k.2 0 v d rfl rfl
      · cases hu
    · rw [if_neg e] at hu hx
      exact h.2 j u x hu hx
  | [], _ :: _, _, _, _, _, h => by have := h.1; simp at this
  | _ :: _, [], _, _, _, _, h => by have := h.1; simp at this

theorem plc_get {t : TypeId} {ps : List (Nat × Nat)} (h : plcOf P t = some ps) {i off ft m : Nat} (hf : fldOf P t i = some (off, ft)) (hm : szOf P ft = some m) : ps.toArray[i]? = some (off, m) := by
  obtain ⟨fs, x, hu, hx, ho, ht⟩ := fld_spec hf
  unfold plcOf at h
  rw [hu] at h
  simp only at h
  have key : ∀ (l : List Field) (ps : List (Nat × Nat)), l.mapM (fun f => (P.info? f.type).map fun i => (f.offset, i.size)) = some ps → ∀ (i : Nat) x, l[i]? = some x → ∀ m, szOf P x.type = some m → ps[i]? = some (x.offset, m) := by
    intro l
    induction l with
    | nil => intro ps _ i x hx; simp at hx
    | cons f l ih =>
      intro ps hp i x hx m hm
      simp only [List.mapM_cons, Option.bind_eq_bind, Option.pure_def] at hp
      cases hi : P.info? f.type with
      | none => simp [hi] at hp
      | some ii =>
        cases hr : l.mapM (fun f => (P.info? f.type).map fun i => (f.offset, i.size)) with
        | none => simp [hi, hr] at hp
        | some rest =>
          simp [hi, hr] at hp
          subst hp
          cases i with
          | zero =>
            simp at hx
            subst hx
            unfold szOf at hm
            rw [hi] at hm
            simp at hm
            simp [hm]
          | succ i => simpa using ih rest hr i x (by simpa using hx) m hm
  have := key fs.toList ps h i x (by rw [Array.getElem?_toList]; exact hx) m (by rw [ht]; exact hm)
  rw [← ho]
  simpa using this

theorem buildA_spec {t : TypeId} {ps : List (Nat × Nat)} (hps : plcOf P t = some ps) {σ' : St} {a : Act} {w : World} {ρ : Ly} (h : SatR B σ' a w ρ) : ∀ {l : List (Nat × Operand)} {cs cs' : List AV} {cells : Array Value}, buildA P t σ l cs = some cs' → (∀ y ∈ opdL (l.map (·.2)), σ' y = σ y) →
    Reps w (Imm B σ' ρ w) ρ σ'.gn cells.toList cs → (∀ u ∈ cells.toList, u.oneCell' = true) → ∃ cells', Instr.fill (ps.toArray[·]?) cells (l.map fun p => (p.1, a.eval p.2)) = some cells' ∧ Reps w (Imm B σ' ρ w) ρ σ'.gn cells'.toList cs' ∧ ∀ u ∈ cells'.toList, u.oneCell' = true
  | [], cs, cs', cells, e, _, hr, h1 => by
    simp only [buildA, Option.some.injEq] at e
    subst e
    exact ⟨cells, rfl, hr, h1⟩
  | (i, x) :: l, cs, cs', cells, e, hag, hr, h1 => by
    simp only [buildA] at e
    split at e
    · rename_i off ft vs hf hc
      split at e
      · rename_i m hm
        split at e
        · rename_i hchk
          rw [Bool.and_eq_true] at hchk
          have hml : m = vs.length := by simpa using hchk.1
          have hfit := ble_spec hchk.2
          have hx := evA_ok h x
          rw [evA_same fun y hy => hag y (by simp only [List.map_cons, opdL, List.flatMap_cons]; exact List.mem_append_left _ hy)] at hx
          have r1 := cellsA_rep hc hx
          have r2 := cellsA_one hc hx
          have hsz : (a.eval x).cells.size = m := by rw [hml, ← r1.1]; simp
          have hfold := fold_setFrom off (a.eval x).cells.toList 0 cells
          rw [Nat.add_zero] at hfold
          generalize hnew : ((a.eval x).cells.zipIdx.foldl (fun cs (p : Value × Nat) => cs.setIfInBounds (off + p.2) p.1) cells) = cells1
          have hnl : cells1.toList = setFrom cells.toList off (a.eval x).cells.toList := by
            rw [← hfold, ← hnew, ← Array.foldl_toList, Array.toList_zipIdx]
          obtain ⟨cells', q1, q2, q3⟩ := buildA_spec hps h (l := l) (cells := cells1) e (fun y hy => hag y (by simp only [List.map_cons, opdL, List.flatMap_cons]; exact List.mem_append_right _ hy)) (by rw [hnl]; exact setFrom_reps off hr r1) (by rw [hnl]; exact setFrom_mem _ _ _ h1 r2)
          refine ⟨cells', ?_, q2, q3⟩
          rw [← q1, ← hnew]
          have hg : ¬ ((a.eval x).cells.size ≠ m ∨ off + (a.eval x).cells.size > cells.size) := by
            have := hr.1
            simp at this
            omega
          simp only [List.map_cons, Instr.fill, plc_get hps hf hm]
          rw [if_neg (by simpa using hg)]
        · cases e
      · cases e
    · cases e

theorem aBuild_ok {t : TypeId} {parts : Array (Nat × Operand)} (hop : o.op = .build t parts) (hd : dstOk B.n o = true) (h : aBuild P o σ K t parts) : ∃ fx, K fx ∧ Eff P B o fx.rd σ fx.wr := by
  unfold aBuild at h
  split at h
  · rename_i z hz
    split at h
    · rename_i cs hcs
      obtain ⟨hchk, h⟩ := h.ok
      rw [Bool.and_eq_true] at hchk
      refine ⟨_, h, Eff.pure hd fun σ' hag a w ρ hs => ?_⟩
      obtain ⟨ps, hps⟩ := Option.isSome_iff_exists.1 hchk.1
      obtain ⟨it, zv, hit, hz0, hzc⟩ : ∃ it zv, P.info? t = some it ∧ it.zero = some zv ∧ zv.cells.toList = z := by
        unfold zeroOf at hz
        split at hz
        · rename_i i hi
          cases hz0 : i.zero with
          | none => rw [hz0] at hz; cases hz
          | some zv =>
            rw [hz0] at hz
            simp only [Option.map_some, Option.some.injEq] at hz
            exact ⟨i, zv, hi, hz0, hz⟩
        · cases hz
      obtain ⟨fs, hu, hfm⟩ : ∃ fs, P.underlying t = some (.struct fs) ∧ fs.toList.mapM (fun f => (P.info? f.type).map fun i => (f.offset, i.size)) = some ps := by
        unfold plcOf at hps
        split at hps
        · rename_i fs hu; exact ⟨fs, hu, hps⟩
        · cases hps
      obtain ⟨cells', q1, q2, q3⟩ := buildA_spec hps hs (cells := zv.cells) hcs hag (by rw [hzc]; exact ⟨by simp, fun i u y hu hy => by
        simp only [List.getElem?_map, hu, Option.map_some, Option.some.injEq] at hy
        rw [← hy]
        exact .im _ _ (.val _)⟩) (by rw [hzc]; exact fun u hu => List.all_eq_true.1 hchk.2 u hu)
      refine ⟨.agg cells', ?_, by simpa using aggA_rep q2 q3⟩
      have hb : P.built t (parts.map fun (i, x) => (i, a.eval x)).toList = some cells' := by
        unfold Program.built
        simp only [hit, hu, hz0, hfm, Array.toList_map]
        exact q1
      simp only [execOp, hop, Sem.run_bind, run_build w t _ cells' hb, Result.andThen_ok, Sem.run_pure]
    · exact h.elim
  · exact h.elim

/-- What the types of the operations must give: a size in bytes. -/
def BytesOk (P : Program) (o : Oper) : Prop := ∀ t len parts, o.op = .buildSlice t len parts → ∀ et, elmOf P t = some et → ∃ b, byteOf P et = some b

theorem bytes_of_size {t : TypeId} {k : Nat} (h : szOf P t = some k) : ∃ b, byteOf P t = some b := by
  unfold szOf at h
  unfold byteOf
  cases hi : P.info? t with
  | none => rw [hi] at h; cases h
  | some i => exact ⟨i.bytes, rfl⟩

theorem aOp_ok {C : FuncId → List Arg → Rs → Prop} (hC : ∀ g xs r, C g xs r → Sp P g xs r) {own : List Nat} (hd : dstOk B.n o = true) (h : aOp P own o σ K C) : ∃ fx, K fx ∧ Eff P B o fx.rd σ fx.wr := by
  unfold aOp at h
  split at h
  · rename_i x hop; exact ⟨_, h, aMove_ok (.inl hop) hd⟩
  · rename_i x hop; exact ⟨_, h, aMove_ok (.inr hop) hd⟩
  · rename_i c x y hop; exact aPick_ok hop hd h
  · rename_i t p hop; exact aLoad_ok hop hd h
  · rename_i t p x hop
    split at h
    · rename_i hp; exact aStoreE_ok hop hd hp h
    · exact aStore_ok hop hd h
  · rename_i t x hop; exact aBox_ok hop hd h
  · rename_i t hop; exact aAlloc_ok hop hd h
  · rename_i t p f hop; exact aFieldAddr_ok hop hd h
  · rename_i t x f hop; exact aField_ok hop hd h
  · rename_i t x i hop
    unfold aIndexes at h
    split at h
    · rename_i hx; exact aIndexV_ok hop hx hd h
    · exact aIndexAddr_ok hop hd h
  · rename_i t x lo hi mx hop
    obtain ⟨hm, h⟩ := h.ok
    have : mx = none := by simpa using hm
    subst this
    unfold aSlices at h
    split at h
    · rename_i hx
      split at h
      · exact aSliceV_ok hop hx hd h
      · exact aSliceT_ok hop hx hd h
      · exact h.elim
    · exact aSlice_ok hop hd h
  · rename_i t parts hop; exact aBuild_ok hop hd h
  · rename_i t len parts hop
    refine aBuildSlice_ok hop hd (fun et het => ?_) h
    unfold aBuildSlice at h
    split at h
    · rename_i d et' hdst het'
      rw [het] at het'
      injection het' with het'
      subst het'
      split at h
      · rename_i k vs bs hk _; exact bytes_of_size hk
      · exact h.elim
    · exact h.elim
  · rename_i x i hop; exact aExtract_ok hop hd h
  · rename_i op t x y t' hop; exact aBin_ok hop hd h
  · rename_i op t x hop; exact aUn_ok hop hd h
  · rename_i src dst x hop
    obtain ⟨hm, h⟩ := h.ok
    exact aConvert_ok hop hd (Option.isSome_iff_exists.1 hm) h
  · rename_i fn first captured hop; exact aMakeFunc_ok hop hd h
  · rename_i x hop; exact aNilCheck_ok hop hd h
  · rename_i t len cap hop; exact aMakeSlice_ok hop hd h
  · rename_i t r hop; exact aMakeMap_ok hop hd h
  · rename_i t x i ok hop; exact aLookup_ok hop hd h
  · rename_i t x i y hop; exact aMapUpdate_ok hop hd h
  · rename_i c hop
    unfold aCalls at h
    split at h
    · rename_i b hcal
      unfold aBuiltin at h
      split at h
      · split at h
        · rename_i x hargs
          split at h
          · rename_i t ts hts
            unfold aLens at h
            split at h
            · rename_i hx
              split at h
              · rename_i he; exact aLenV_ok hop hcal hargs hts he hx hd h
              · exact h.elim
            · exact aLen_ok hop hcal hargs hts hd h
          · exact h.elim
        · exact h.elim
      · split at h
        · rename_i x y hargs
          split at h
          · rename_i t t' hts
            obtain ⟨htt, h⟩ := h.ok
            have htt : t' = t := by simpa using htt
            subst htt
            exact aAppend_ok hop hcal (by rw [← Array.toArray_toList (xs := c.args), hargs]) (by rw [← Array.toArray_toList (xs := c.argTypes), hts]) hd h
          · exact h.elim
        · exact h.elim
      · split at h
        · rename_i x y hargs; exact aMax_ok hop hcal hargs hd h
        · exact h.elim
      · split at h
        · rename_i x y hargs; exact aMin_ok hop hcal hargs hd h
        · exact h.elim
      · split at h
        · rename_i x t ts hargs hts; exact aClear_ok hop hcal hargs hts hd h
        · exact h.elim
      · exact h.elim
    · rename_i f hcal
      split at h
      · split at h
        · exact aCallH_ok hC hop hcal hd h
        · exact aCall_ok hC hop hcal hd h
      · exact h.elim
    · exact h.elim
  · exact h.elim

/-- The same under the operation's guard. -/
def EffG (P : Program) (B : Base) (ops : Array Oper) (o : Oper) (rd : List Loc) (σ : St) (wr : List (Loc × Ct)) : Prop :=
  ∀ σ', (∀ l ∈ rd, σ' l = σ l) → ∀ a w, Sat B σ' a w → ∀ (K : Act → World → Prop) (Q : Exit → Act → World → Prop), (∀ a' w', Sat B (app σ' wr) a' w' → K a' w') →
    if Region.wanted o (yielded ops a.tmps) = true then o.wp P a w K Q else K (a.put o.dst undef) w

theorem aGuard_ok {C : FuncId → List Arg → Rs → Prop} (hC : ∀ g xs r, C g xs r → Sp P g xs r) {own : List Nat} {ops : Array Oper} (h : aGuard P C B.n own ops.toList o σ K) : ∃ fx, K fx ∧ EffG P B ops o fx.rd σ fx.wr := by
  unfold aGuard at h
  obtain ⟨hd, h⟩ := h.ok
  split at h
  · rename_i hg
    obtain ⟨fx, hk, he⟩ := aOp_ok (B := B) hC hd h
    refine ⟨fx, hk, fun σ' hag a w hs K' Q hK => ?_⟩
    have : Region.wanted o (yielded ops a.tmps) = true := by simp [Region.wanted, hg]
    rw [if_pos this]
    exact he σ' hag a w hs K' Q hK
  · rename_i j want hg
    split at h
    · rename_i t ht
      split at h
      · rename_i b hb
        have hy : ∀ σ' a w, σ' (.tmp t) = σ (.tmp t) → Sat B σ' a w → yielded ops a.tmps j = some b := fun σ' a w hag ⟨ρ, hs⟩ => by
          have h1 := hs.tms t
          have e : σ'.av t = σ.av t := by unfold St.av; rw [hag]
          rw [e] at h1
          have h2 := asBool_inv hb h1
          have hj : (ops[j]?).bind (·.dst) = some t := by rw [← Array.getElem?_toList]; exact ht
          have ht2 : a.tmps[t]? = some (.bool b) := by
            rw [Array.getD_eq_getD_getElem?] at h2
            cases hc : a.tmps[t]? with
            | none => rw [hc] at h2; cases h2
            | some v => rw [hc] at h2; simp only [Option.getD_some] at h2; rw [h2]
          unfold yielded
          rw [hj]
          simp only [Option.bind_some, ht2]
        have hw : ∀ σ' a w, σ' (.tmp t) = σ (.tmp t) → Sat B σ' a w → Region.wanted o (yielded ops a.tmps) = (b == want) := fun σ' a w hag hs => by
          simp only [Region.wanted, hg, hy σ' a w hag hs]
          cases b <;> cases want <;> rfl
        have h := h.out
        cases hbw : (b == want) with
        | true =>
          obtain ⟨fx, hk, he⟩ := aOp_ok (B := B) hC hd (h.1 hbw)
          refine ⟨_, hk, fun σ' hag a w hs K' Q hK => ?_⟩
          rw [if_pos (by rw [hw σ' a w (hag _ (by simp)) hs]; exact hbw)]
          exact he σ' (fun l hl => hag l (by simp [hl])) a w hs K' Q hK
        | false =>
          refine ⟨_, h.2 hbw, fun σ' hag a w hs K' Q hK => ?_⟩
          rw [if_neg (by rw [hw σ' a w (hag _ (by simp)) hs, hbw]; simp)]
          obtain ⟨ρ, hs⟩ := hs
          exact hK _ _ ⟨ρ, hs.put (dst_lt hd) (val_rep _)⟩
      · split at h
        · rename_i v hv
          obtain ⟨hnb, h⟩ := h.ok
          have hw : ∀ σ' a w, σ' (.tmp t) = σ (.tmp t) → Sat B σ' a w → Region.wanted o (yielded ops a.tmps) = false := fun σ' a w hag ⟨ρ, hs⟩ => by
            have h1 := hs.tms t
            have e : σ'.av t = σ.av t := by unfold St.av; rw [hag]
            rw [e, hv] at h1
            have h2 := h1.im_inv
            have hj : (ops[j]?).bind (·.dst) = some t := by rw [← Array.getElem?_toList]; exact ht
            have hy : yielded ops a.tmps j = none := by
              unfold yielded
              rw [hj]
              simp only [Option.bind_some]
              cases hc : a.tmps[t]? with
              | none => rfl
              | some u =>
                have e2 : a.tmps.getD t undef = u := by rw [Array.getD_eq_getD_getElem?, hc]; rfl
                rw [e2] at h2
                obtain rfl : u = v := by cases h2; rfl
                cases u <;> first | rfl | (cases hnb)
            simp only [Region.wanted, hg, hy]
            rfl
          refine ⟨_, h, fun σ' hag a w hs K' Q hK => ?_⟩
          rw [if_neg (by rw [hw σ' a w (hag _ (by simp)) hs]; simp)]
          obtain ⟨ρ, hs⟩ := hs
          exact hK _ _ ⟨ρ, hs.put (dst_lt hd) (val_rep _)⟩
        · exact h.elim
    · exact h.elim
end

/-- The text's order, step by step: what each operation does, and the states between. -/
inductive Runs (P : Program) (B : Base) (ops : Array Oper) : List Nat → St → List (Nat × Fx) → St → Prop
  | nil (σ : St) : Runs P B ops [] σ [] σ
  | cons (i : Nat) (o : Oper) (l : List Nat) (σ σ' : St) (fx : Fx) (fs : List (Nat × Fx)) (ho : ops[i]? = some o) (he : EffG P B ops o fx.rd σ fx.wr) (h : Runs P B ops l (app σ fx.wr) fs σ') : Runs P B ops (i :: l) σ ((i, fx) :: fs) σ'

section
variable {P : Program} {B : Base} {ops : Array Oper}

theorem aOps_runs {C : FuncId → List Arg → Rs → Prop} (hC : ∀ g xs r, C g xs r → Sp P g xs r) {own : List Nat} : ∀ (l : List Oper) (k : Nat) (fs0 : List Mk) (σ : St) (K : List Mk → St → Prop), (∀ j, l[j]? = ops[k + j]?) →
    aOps P C B.n own ops.toList l fs0 σ K → ∃ fs σ', Runs P B ops (List.range' k l.length) σ fs σ' ∧ K (fs0 ++ fs.map fun p => fxm p.2) σ'
  | [], k, fs0, σ, K, _, h => ⟨[], σ, .nil σ, by simpa [aOps] using h⟩
  | o :: l, k, fs0, σ, K, hl, h => by
    simp only [aOps] at h
    obtain ⟨fx, h2, he⟩ := aGuard_ok (B := B) hC h
    rw [frcF_eq] at h2
    obtain ⟨fs, σ', hr, hk⟩ := aOps_runs hC l (k + 1) (fs0 ++ [fxm fx]) (app σ fx.wr) K (fun j => by have := hl (j + 1); simpa [Nat.add_assoc, Nat.add_comm 1 j] using this) h2
    have ho : ops[k]? = some o := by have := hl 0; simpa using this.symm
    refine ⟨(k, fx) :: fs, σ', ?_, by simpa using hk⟩
    rw [List.length_cons, List.range'_succ]
    exact .cons k o _ σ σ' fx fs ho he hr

theorem wanted_wp {o : Oper} {i : Nat} (ho : ops[i]? = some o) {a : Act} {w : World} {K : Act → World → Prop} {Q : Exit → Act → World → Prop} (h : if Region.wanted o (yielded ops a.tmps) = true then o.wp P a w K Q else K (a.put o.dst undef) w) : wpOp P ops Q i K a w := by
  unfold wpOp
  simp only [ho]
  split
  · rename_i hw; rw [if_pos hw] at h; exact .inl h
  · rename_i hw; rw [if_neg hw] at h; exact h

theorem runs_wp {l : List Nat} {σ σ' : St} {fs : List (Nat × Fx)} (h : Runs P B ops l σ fs σ') : ∀ {a : Act} {w : World} {Q : Exit → Act → World → Prop}, Sat B σ a w → (∀ a' w', Sat B σ' a' w' → Q .normal a' w') → wpOps P ops Q l a w := by
  induction h with
  | nil σ => intro a w Q hs hQ; exact hQ a w hs
  | cons i o l σ σ' fx fs ho he hr ih =>
    intro a w Q hs hQ
    rw [wpOps_cons]
    exact wanted_wp ho (he σ (fun _ _ => rfl) a w hs _ Q fun a' w' hs' => ih hs' hQ)

theorem app_get {σ : St} {l : Loc} : ∀ {wr : List (Loc × Ct)}, (∀ p ∈ wr, p.1 ≠ l) → (app σ wr) l = σ l := by
  intro wr
  induction wr generalizing σ with
  | nil => intro _; rfl
  | cons p wr ih =>
    intro h
    show (app (upd σ p.1 p.2) wr) l = σ l
    rw [ih fun q hq => h q (List.mem_cons_of_mem _ hq)]
    rw [upd_at, if_neg (fun e => h p List.mem_cons_self e.symm)]

theorem app_in {l : Loc} : ∀ {wr : List (Loc × Ct)} {σ τ : St}, (∃ p ∈ wr, p.1 = l) → (app σ wr) l = (app τ wr) l := by
  intro wr
  induction wr with
  | nil => intro σ τ h; obtain ⟨p, hp, _⟩ := h; cases hp
  | cons p wr ih =>
    intro σ τ h
    show (app (upd σ p.1 p.2) wr) l = (app (upd τ p.1 p.2) wr) l
    by_cases hw : ∃ q ∈ wr, q.1 = l
    · exact ih hw
    · have hn : ∀ q ∈ wr, q.1 ≠ l := fun q hq e => hw ⟨q, hq, e⟩
      rw [app_get hn, app_get hn]
      obtain ⟨q, hq, e⟩ := h
      rcases List.mem_cons.1 hq with rfl | hq
      · rw [upd_at, upd_at, if_pos e.symm, if_pos e.symm]
      · exact absurd e (hn q hq)

/-- Writes to other places may stand in either order. -/
theorem app_comm {u v : List (Loc × Ct)} (h : ∀ p ∈ u, ∀ q ∈ v, p.1 ≠ q.1) (σ : St) : app (app σ u) v = app (app σ v) u := by
  funext l
  by_cases hu : ∃ p ∈ u, p.1 = l
  · have hv : ∀ q ∈ v, q.1 ≠ l := fun q hq e => by
      obtain ⟨p, hp, e'⟩ := hu
      exact h p hp q hq (e'.trans e.symm)
    rw [app_get hv]
    exact app_in hu
  · have hn : ∀ p ∈ u, p.1 ≠ l := fun p hp e => hu ⟨p, hp, e⟩
    rw [app_get (σ := app σ v) hn]
    by_cases hv : ∃ q ∈ v, q.1 = l
    · exact app_in hv
    · have hm : ∀ q ∈ v, q.1 ≠ l := fun q hq e => hv ⟨q, hq, e⟩
      rw [app_get hm, app_get hm, app_get hn]

theorem bit1_eq (m : Nat) (l : Loc) : bit1 m l = Nat.lor m (Nat.pow 2 l.code) := by unfold bit1; rw [p2_eq]; rfl
theorem bit1_old (m : Nat) (l : Loc) (i : Nat) (h : m.testBit i = true) : (bit1 m l).testBit i = true := by
  rw [bit1_eq]
  show (m ||| 2 ^ l.code).testBit i = true
  rw [Nat.testBit_or, h, Bool.true_or]
theorem bit1_new (m : Nat) (l : Loc) : (bit1 m l).testBit l.code = true := by
  rw [bit1_eq]
  show (m ||| 2 ^ l.code).testBit l.code = true
  rw [Nat.testBit_or, Nat.testBit_two_pow_self, Bool.or_true]
theorem mskR_old (ls : List Loc) : ∀ (m i : Nat), m.testBit i = true → (mskR ls m).testBit i = true := by
  induction ls with
  | nil => intro m i h; exact h
  | cons l r ih => intro m i h; exact ih _ i (bit1_old m l i h)
theorem mskR_mem {l : Loc} (ls : List Loc) : ∀ (m : Nat), l ∈ ls → (mskR ls m).testBit l.code = true := by
  induction ls with
  | nil => intro m h; cases h
  | cons l' r ih =>
    intro m h
    rcases List.mem_cons.1 h with rfl | h
    · exact mskR_old r _ _ (bit1_new m l)
    · exact ih _ h
theorem mskW_eq (ps : List (Loc × Ct)) : ∀ m : Nat, mskW ps m = mskR (ps.map (·.1)) m := by
  induction ps with
  | nil => intro m; rfl
  | cons p r ih => intro m; exact ih _
theorem land_clash {a b i : Nat} (h : Nat.land a b = 0) (ha : a.testBit i = true) (hb : b.testBit i = true) : False := by
  have : (a &&& b).testBit i = true := by rw [Nat.testBit_and, ha, hb]; rfl
  rw [show a &&& b = 0 from h, Nat.zero_testBit] at this
  cases this

theorem indep_spec {f g : Fx} (h : indep f g = true) : (∀ p ∈ f.wr, p.1 ∉ g.rd) ∧ (∀ p ∈ f.wr, ∀ q ∈ g.wr, p.1 ≠ q.1) ∧ ∀ p ∈ g.wr, p.1 ∉ f.rd := by
  unfold indep indepM at h
  have h := Nat.eq_of_beq_eq_true h
  obtain ⟨h12, h3⟩ := Nat.or_eq_zero_iff.1 (show (Nat.lor (Nat.land (fxm f).2 (fxm g).1) (Nat.land (fxm f).2 (fxm g).2)) ||| Nat.land (fxm g).2 (fxm f).1 = 0 from h)
  obtain ⟨h1, h2⟩ := Nat.or_eq_zero_iff.1 (show Nat.land (fxm f).2 (fxm g).1 ||| Nat.land (fxm f).2 (fxm g).2 = 0 from h12)
  have wm : ∀ (f : Fx) p, p ∈ f.wr → (fxm f).2.testBit p.1.code = true := fun f p hp => by
    show (mskW f.wr 0).testBit _ = true
    rw [mskW_eq]
    exact mskR_mem _ 0 (List.mem_map.2 ⟨p, hp, rfl⟩)
  have rm : ∀ (f : Fx) l, l ∈ f.rd → (fxm f).1.testBit l.code = true := fun f l hl => mskR_mem _ 0 hl
  exact ⟨fun p hp hc => land_clash h1 (wm f p hp) (rm g _ hc), fun p hp q hq e => land_clash h2 (wm f p hp) (e ▸ wm g q hq), fun p hp hc => land_clash h3 (wm g p hp) (rm f _ hc)⟩

theorem EffG.agree {o : Oper} {σ σ1 : St} {fx : Fx} (h : EffG P B ops o fx.rd σ fx.wr) (hag : ∀ l ∈ fx.rd, σ1 l = σ l) : EffG P B ops o fx.rd σ1 fx.wr :=
  fun σ' hag' a w hs K Q hK => h σ' (fun l hl => (hag' l hl).trans (hag l hl)) a w hs K Q hK

/-- An operation that nothing before it hinders may go first. -/
theorem runs_front {l : List Nat} {σ σ' : St} {fs : List (Nat × Fx)} (h : Runs P B ops l σ fs σ') {i : Nat} : ∀ {pre post : List (Nat × Fx)} {fx : Fx}, fs = pre ++ (i, fx) :: post → (∀ p ∈ pre, indep p.2 fx = true) →
    ∃ l', Runs P B ops (i :: l') σ ((i, fx) :: (pre ++ post)) σ' := by
  induction h with
  | nil σ => intro pre post fx e _; simp at e
  | cons j o l σ σ' fj fs ho he hr ih =>
    intro pre post fx e hp
    cases pre with
    | nil =>
      simp only [List.nil_append, List.cons.injEq, Prod.mk.injEq] at e
      obtain ⟨⟨rfl, rfl⟩, rfl⟩ := e
      exact ⟨l, .cons j o l σ σ' fj fs ho he hr⟩
    | cons p pre =>
      simp only [List.cons_append, List.cons.injEq] at e
      obtain ⟨rfl, e⟩ := e
      obtain ⟨l', hr'⟩ := ih e fun q hq => hp q (List.mem_cons_of_mem _ hq)
      obtain ⟨h1, h2, h3⟩ := indep_spec (hp (j, fj) List.mem_cons_self)
      cases hr' with
      | cons _ oi _ _ _ _ _ hoi hei hr2 =>
        have hei' : EffG P B ops oi fx.rd σ fx.wr := hei.agree fun l hl => (app_get fun p hp e => h1 p hp (e ▸ hl)).symm
        have hej' : EffG P B ops o fj.rd (app σ fx.wr) fj.wr := he.agree fun l hl => app_get fun p hp e => h3 p hp (e ▸ hl)
        refine ⟨j :: l', .cons i oi _ σ σ' fx _ hoi hei' (.cons j o _ _ σ' fj _ ho hej' ?_)⟩
        rw [← app_comm h2]
        exact hr2
end

end Go.Proofs.YthahbiahlpcgeaaGreatDoor.Sym
