/-
  The plain reading's operations are the model's: what is not nil; rows of zeros; maps.
-/
import Derived.Test.YthahbiahlpcgeaaGreatDoorSymHole
import Derived.Maps.Own
namespace Go.Proofs.YthahbiahlpcgeaaGreatDoor.Sym
open Go.RowKit Go.ChangeMaps

theorem ba_eq {a b : ByteArray} (h : (a == b) = true) : a = b := by
  have h : ByteArray.beq a b = true := h
  unfold ByteArray.beq at h
  cases a; cases b; simp at h; rw [h]
theorem ba_rfl (a : ByteArray) : (a == a) = true := by
  show ByteArray.beq a a = true
  unfold ByteArray.beq
  simp

section
variable {P : Program} {B : Base} {o : Oper} {σ : St} {K : Fx → Prop}

theorem aNilCheck_ok {x : Operand} (hop : o.op = .nilCheck x) (hd : dstOk B.n o = true) (h : aNilCheck o σ K x) : ∃ fx, K fx ∧ Eff P B o fx.rd σ fx.wr := by
  unfold aNilCheck at h
  split at h
  · rename_i b g i hx
    obtain ⟨hg, h⟩ := h.out
    refine ⟨_, h, Eff.pure hd fun σ' hag a w ρ hs => ?_⟩
    have h1 := evA_ok hs x
    rw [evA_same (agree_l hag), hx] at h1
    have hg' := (gn_same (agree_r hag (.gen b) (by simp))).trans hg
    generalize hv : a.eval x = v at h1
    have h2 := h1
    cases h1 with
    | own _ _ _ _ h1c hgg hh =>
      obtain ⟨q, e1, e2⟩ := hh hg'
      refine ⟨v, ?_, h2⟩
      subst e2
      simp [execOp, hop, hv]
  · rename_i cs hx
    refine ⟨_, h, Eff.pure hd fun σ' hag a w ρ hs => ?_⟩
    have h1 := evA_ok hs x
    rw [evA_same hag, hx] at h1
    have h2 := h1
    have h1 := h1.im_inv
    generalize hv : a.eval x = v at h1 h2
    refine ⟨v, ?_, h2⟩
    cases h1 with
    | ref b q us _ _ _ _ _ _ => simp [execOp, hop, hv]
  · rename_i f cs hx
    refine ⟨_, h, Eff.pure hd fun σ' hag a w ρ hs => ?_⟩
    have h1 := evA_ok hs x
    rw [evA_same hag, hx] at h1
    have h2 := h1
    have h1 := h1.im_inv
    generalize hv : a.eval x = v at h1 h2
    refine ⟨v, ?_, h2⟩
    cases h1 with
    | fn _ us _ _ _ => simp [execOp, hop, hv]
  · rename_i f cs hx
    refine ⟨_, h, Eff.pure hd fun σ' hag a w ρ hs => ?_⟩
    have h1 := evA_ok hs x
    rw [evA_same hag, hx] at h1
    have h2 := h1
    generalize hv : a.eval x = v at h1 h2
    refine ⟨v, ?_, h2⟩
    cases h1 with
    | fn _ us _ _ _ => simp [execOp, hop, hv]
  · exact h.elim

theorem flat_rep_get {α : Type} (z : List α) : ∀ (l j : Nat), (List.replicate l z).flatten[j]? = if j < l * z.length then z[j % z.length]? else none
  | 0, j => by simp
  | l + 1, j => by
    rw [List.replicate_succ, List.flatten_cons, List.getElem?_append, flat_rep_get z l]
    by_cases h : j < z.length
    · rw [if_pos h, if_pos (by rw [Nat.add_mul]; omega), Nat.mod_eq_of_lt h]
    · have e : j % z.length = (j - z.length) % z.length := Nat.mod_eq_sub_mod (by omega)
      rw [if_neg h, e]
      by_cases h2 : j - z.length < l * z.length
      · rw [if_pos h2, if_pos (by rw [Nat.add_mul]; omega)]
      · rw [if_neg h2, if_neg (by rw [Nat.add_mul]; omega)]
theorem made_take (z : Array Value) (l c : Nat) (h : l ≤ c) (hz : 0 < z.size) : (madeCells z (c * z.size)).toList.take (l * z.size) = (List.replicate l z.toList).flatten := by
  apply List.ext_getElem?
  intro j
  rw [flat_rep_get, List.getElem?_take]
  have hm : l * z.size ≤ c * z.size := Nat.mul_le_mul_right _ h
  simp only [Array.length_toList]
  by_cases hj : j < l * z.size
  · rw [if_pos hj, if_pos hj]
    have hjz : j % z.size < z.size := Nat.mod_lt _ hz
    unfold madeCells
    rw [Array.toList_map, List.getElem?_map, Array.toList_range, List.getElem?_range (by omega)]
    simp only [Option.map_some]
    rw [getElem!_pos z (j % z.size) hjz, Array.getElem?_toList, Array.getElem?_eq_getElem hjz]
  · rw [if_neg hj, if_neg hj]

theorem cap_bytes {c by_ : Nat} (h : capOk c by_) : (by_ : Int) * (c : Int) ≤ 281474976710656 := by
  have h1 := h.1
  have : ((by_ * c : Nat) : Int) ≤ 281474976710656 := by rw [Nat.mul_comm]; omega
  rwa [Int.natCast_mul] at this

theorem aMakeSlice_ok {own : List Nat} {t : TypeId} {len cap : Operand} (hop : o.op = .makeSlice t len cap) (hd : dstOk B.n o = true) (h : aMakeSlice P own o σ K t len cap) : ∃ fx, K fx ∧ Eff P B o fx.rd σ fx.wr := by
  unfold aMakeSlice at h
  split at h
  · rename_i d et hdst het
    have hund := elm_spec het
    split at h
    · rename_i l c k z by_ hl hc hk hz hby
      obtain ⟨hchk, h⟩ := h.ok
      simp only [Bool.and_eq_true] at hchk
      have hk0 := blt_spec hchk.1.1
      obtain ⟨i, zv, hi, hzv, hsize, hbytes, hzs⟩ := zOk_spec hchk.1.2 hk hby
      have hzl : zv.cells.toList = z := by
        unfold zeroOf at hz
        simp only [hi, hzv, Option.map_some, Option.some.injEq] at hz
        exact hz
      have hz1 : ∀ u ∈ z, u.oneCell' = true := fun u hu => List.all_eq_true.1 hchk.2 u hu
      have hzlen : z.length = k := by rw [← hzl]; simpa using hzs
      obtain ⟨⟨h0, hlc, hcap⟩, h⟩ := h.out
      have hcn : (c.toNat : Int) = c := Int.toNat_of_nonneg (by omega)
      have hln : l.toNat ≤ c.toNat := by omega
      have hclim : c.toNat ≤ 17592186044416 := hcap.2
      have common : ∀ σ' a w ρ, SatR B σ' a w ρ → (∀ y ∈ opd len ++ opd cap, σ' y = σ y) → (execOp a.eval o).run P w = .ok (.value (.slice (some ⟨w.heap.size, 0, none⟩) l.toNat c.toNat)) (w.alloc (.cells (madeCells zv.cells (c.toNat * k)) et)) := fun σ' a w ρ hs hag => by
        have h1 := evA_ok hs len
        rw [evA_same (agree_l hag)] at h1
        have h2 := evA_ok hs cap
        rw [evA_same (agree_r hag)] at h2
        have hb := cap_bytes hcap
        rw [← hbytes, hcn] at hb
        have hr := run_make (P := P) w t et i zv hund hi hzv .i64 .i64 l c h0 hlc hb (by omega)
        rw [hsize] at hr
        simp [execOp, hop, asInt_inv hl h1, asInt_inv hc h2, hr]
      have hnew : ∀ w : World, (w.alloc (.cells (madeCells zv.cells (c.toNat * k)) et)).ownsRow 0 et k (.slice (some ⟨w.heap.size, 0, none⟩) l.toNat c.toNat) l.toNat (List.replicate l.toNat z).flatten := fun w => by
        refine ⟨?_, .inr ⟨w.heap.size, c.toNat, _, rfl, Nat.zero_le _, heap_alloc_new w _, hln, by unfold maxLen; omega, size_madeCells _ _, ?_⟩⟩
        · rw [flat_length (k := k) (fun x hx => by rw [List.eq_of_mem_replicate hx]; exact hzlen), List.length_replicate]
        · rw [← hzl, ← hzs]
          exact made_take zv.cells _ _ hln (by omega)
      have hone : ∀ u ∈ (List.replicate l.toNat z).flatten, u.oneCell' = true := fun u hu => by
        obtain ⟨x, hx, hux⟩ := List.mem_flatten.1 hu
        rw [List.eq_of_mem_replicate hx] at hux
        exact hz1 u hux
      have m : ∀ (σ' : St) (w : World) (ρ : Ly), Making σ' w (w.alloc (.cells (madeCells zv.cells (c.toNat * k)) et)) ρ none (.slice (some ⟨w.heap.size, 0, none⟩) l.toNat c.toNat) none := fun σ' w ρ =>
        ⟨World.grownBy_alloc w _ none, (fun b e => by cases e), fun b e => .inr (by simp only [blkOf, Option.some.injEq] at e; omega)⟩
      split at h
      · split at h
        · rename_i e' het'
          split at h
          · rename_i k' hk'
            obtain ⟨hchk2, h⟩ := h.ok
            simp only [Bool.and_eq_true] at hchk2
            have hk1 : k = 1 := by simpa using hchk2.1.1
            have hk0' := blt_spec hchk2.2
            have hznil : z = [.slice none 0 0] := by
              have := hchk2.1.2
              split at this
              · rfl
              · cases this
            have h := h.out
            refine ⟨_, h, fun σ' hag a w ⟨ρ, hs⟩ K' Q hK => ?_⟩
            unfold Oper.wp
            rw [common σ' a w ρ hs (agree_l hag), Oper.upon_value, hdst]
            have hg : σ'.gn d = σ.gn d := gn_same (agree_r hag (.gen d) (by simp))
            have hig : σ'.ig d = σ.ig d := ig_same (agree_r hag (.ign d) (by simp))
            obtain ⟨e1, e2, e3, e4, e5⟩ := mkK_eqs σ' σ d (.grid et e' k' (List.replicate l.toNat [IV.sl []]) none)
            let v : Value := .slice (some ⟨w.heap.size, 0, none⟩) l.toNat c.toNat
            let σ2 := app σ' (mkObjK σ d (.grid et e' k' (List.replicate l.toNat [IV.sl []]) none))
            let ρ2 : Ly := setK ρ σ2 d v (List.replicate l.toNat (.slice none 0 0)) (.grid et e' k' (List.replicate l.toNat [IV.sl []]) none)
            have hfp : fpv v (List.replicate l.toNat (.slice none 0 0)) = [w.heap.size] := by
              unfold fpv
              simp only [List.filterMap_cons, v, blkOf]
              congr 1
              exact List.filterMap_eq_nil_iff.2 fun x hx => by rw [List.eq_of_mem_replicate hx]; rfl
            have hown : ∀ b, Owns σ2 ρ2 d b → b = w.heap.size := fun b hb => by
              unfold Owns at hb
              rw [e1, if_pos rfl] at hb
              simp only [ρ2, setK, if_pos] at hb
              have hb : b ∈ fpv v (List.replicate l.toNat (.slice none 0 0)) := hb
              rw [hfp] at hb
              simpa using hb
            have hw' := World.grownBy_alloc w (.cells (madeCells zv.cells (c.toNat * k)) et) none
            obtain ⟨hst, _, _⟩ := hs.step (σ' := σ2) (ρ' := ρ2) (w' := w.alloc (.cells (madeCells zv.cells (c.toNat * k)) et)) (fun o => o = d) e4
              (fun o hd => ⟨by show σ2.kd o = _; rw [e1, if_neg hd], by show σ2.gn o = _; rw [e2, if_neg hd], fun i => e5 o i, by simp [ρ2, setK, hd], by simp [ρ2, setK, hd], by show σ2.ig o = _; rw [e3, if_neg (fun e => hd e.1)]; exact (hs.igs o).symm⟩)
              (fun o hd => by
                subst hd
                refine ⟨⟨by rw [e2, if_pos rfl, hg]; omega, fun e => by rw [e2, if_pos rfl, hg] at e; omega⟩, ?_, fun e => ?_⟩
                · show _ ≤ σ2.ig o
                  rw [e3, hs.igs, hig, if_pos ⟨rfl, rfl⟩]; omega
                · have e : σ2.ig o = ρ.ig o := e
                  rw [e3, hs.igs, hig, if_pos ⟨rfl, rfl⟩] at e; omega)
              (fun o => rfl) ⟨hw'.os, hw'.tape, hw'.output, hw'.size, fun b hb _ => hw'.block b hb (by simp)⟩ (fun o b hd ho => by subst hd; rw [hown b ho]; exact .inl (Nat.le_refl _)) (fun o p b hd hp _ _ => hd.trans hp.symm) fun hI hA o hd => by
                subst hd
                rw [e1, if_pos rfl]
                show GridOk _ _ (ρ2 o) (ρ2.inn o) _ _ _ _ _
                simp only [ρ2, setK, if_pos]
                refine ⟨by show (fpv v (List.replicate l.toNat (.slice none 0 0))).Nodup; rw [hfp]; simp, by simp [innK], (List.replicate l.toNat z).flatten, by simp; omega, ?_, hone, fun i u hu => .inr ⟨?_, [], ?_, ?_⟩⟩
                · have := hnew w
                  rw [hk1] at this
                  rw [List.length_replicate]
                  rw [hk1]
                  exact this
                · have hu : (List.replicate l.toNat (.slice none 0 0))[i]? = some u := hu
                  rw [flat_rep_get, hznil]
                  rw [List.getElem?_replicate] at hu
                  split at hu
                  · rename_i hil
                    injection hu with hu
                    subst hu
                    simp [hil, Nat.mod_one]
                  · cases hu
                · have hu : (List.replicate l.toNat (Value.slice none 0 0))[i]? = some u := hu
                  rw [List.getElem?_replicate] at hu ⊢
                  split at hu
                  · rename_i hil; rw [if_pos hil]
                  · cases hu
                · have hu : (List.replicate l.toNat (Value.slice none 0 0))[i]? = some u := hu
                  rw [List.getElem?_replicate] at hu
                  split at hu
                  · injection hu with hu
                    subst hu
                    exact ⟨[], hk0', by simp, by simp, World.ownsRow_nil _ _ _ _, rfl, by simp, by simp⟩
                  · cases hu
            refine hK _ _ ⟨ρ2, ?_⟩
            rw [app_append]
            refine hst.put (d := some d) (fun t e => by injection e with e; subst e; exact dst_some hd hdst) (.osl _ _ _ rfl ?_ fun _ => ?_)
            · show _ ≤ σ2.gn d; rw [e2, if_pos rfl]; exact Nat.le_refl _
            · simp [ρ2, setK, v]
          · exact h.elim
        · exact h.elim
      · have h := h.out
        refine ⟨_, h, fun σ' hag a w ⟨ρ, hs⟩ K' Q hK => ?_⟩
        unfold Oper.wp
        rw [common σ' a w ρ hs (agree_l hag), Oper.upon_value, hdst]
        refine hK _ _ ⟨setρ ρ d (.slice (some ⟨w.heap.size, 0, none⟩) l.toNat c.toNat), ?_⟩
        have hg : σ'.gn d = σ.gn d := gn_same (agree_r hag (.gen d) (by simp))
        have hst := hs.new (d := d) (k := .row et k (List.replicate l.toNat (z.map fun v => nz1 (.val v)))) (cs := []) (m σ' w ρ) (fun _ _ _ _ _ e => by cases e) fun hI _ => by
          refine ⟨(List.replicate l.toNat z).flatten, hk0, fun x hx => by rw [List.eq_of_mem_replicate hx, List.length_map, hzlen], by rw [List.length_replicate]; omega, ?_, ?_, hone, fun i u x hu hx => ?_⟩
          · simp only [setρ, if_pos, List.length_replicate]
            exact hnew w
          · rw [flat_length (k := k) (fun x hx => by rw [List.eq_of_mem_replicate hx]; exact hzlen), flat_length (k := k) (fun x hx => by rw [List.eq_of_mem_replicate hx, List.length_map, hzlen])]
            simp
          · rw [flat_rep_get] at hu hx
            rw [List.length_map] at hx
            split at hu
            · rename_i hlt
              rw [if_pos hlt, List.getElem?_map, hu] at hx
              injection hx with hx
              subst hx
              exact nz1_rep (.val u)
            · cases hu
        have := app_new (σ := σ) (σ' := σ') (k := .row et k (List.replicate l.toNat (z.map fun v => nz1 (.val v)))) (cs := []) (v := .osl d (σ.gn d + 1)) hg
        simp only [celWr, List.append_nil] at this
        show SatR B (app σ' (mkObj σ d (.row et k (List.replicate l.toNat (z.map fun v => nz1 (.val v)))) ++ [(.tmp d, .av (.osl d (σ.gn d + 1)))])) _ _ _
        rw [this, ← hg]
        exact newObj_osl hst rfl (dst_some hd hdst)
    · exact h.elim
  · exact h.elim
theorem aMakeMap_ok {t : TypeId} {r : Option Operand} (hop : o.op = .makeMap t r) (hd : dstOk B.n o = true) (h : aMakeMap o σ K t r) : ∃ fx, K fx ∧ Eff P B o fx.rd σ fx.wr := by
  unfold aMakeMap at h
  split at h
  · rename_i d hdst
    refine ⟨_, h, fun σ' hag a w ⟨ρ, hs⟩ K' Q hK => ?_⟩
    have hg : σ'.gn d = σ.gn d := gn_same (hag (.gen d) (by simp))
    have run : (execOp a.eval o).run P w = .ok (.value (.map (some w.heap.size))) (w.alloc (.map #[] 0)) := by
      simp [execOp, hop, Instr.makeMap]
    unfold Oper.wp
    rw [run, Oper.upon_value, hdst]
    have m : Making σ' w (w.alloc (.map #[] 0)) ρ none (.map (some w.heap.size)) none :=
      ⟨World.grownBy_alloc w _ none, (fun b e => by cases e), fun b e => .inr (by simp only [blkOf, Option.some.injEq] at e; omega)⟩
    refine hK _ _ ⟨setρ ρ d (.map (some w.heap.size)), ?_⟩
    have hst := hs.new (d := d) (k := .map []) (cs := []) m (fun _ _ _ _ _ e => by cases e) fun hI _ => ⟨w.heap.size, 0, #[], by simp [setρ], heap_alloc_new w _, rfl⟩
    have := app_new (σ := σ) (σ' := σ') (k := .map []) (cs := []) (v := .osl d (σ.gn d + 1)) hg
    simp only [celWr, List.append_nil] at this
    rw [this, ← hg]
    exact newObj_osl hst rfl (dst_some hd hdst)
  · exact h.elim

theorem asVal_inv {w : World} {S : Nat → Prop} {ρ : Ly} {γ : Nat → Nat} {v : Value} {x : AV} {u : Value} (e : asVal x = some u) (h : RepA w S ρ γ v x) : v = u := by
  unfold asVal at e
  split at e
  · injection e with e
    subst e
    have h := h.im_inv
    cases h
    rfl
  · cases e
theorem mapTy_spec {t k e : TypeId} (h : mapTy P t = some (k, e)) : P.underlying t = some (.map k e) := by
  unfold mapTy at h
  split at h
  · rename_i k' e' hu
    simp only [Option.some.injEq, Prod.mk.injEq] at h
    rw [hu, h.1, h.2]
  · cases h
theorem keyD_spec {kt : TypeId} {D : TypeDesc} (h : keyD P kt = some D) : P.underlying kt = some D ∧ ((∃ k, D = .int k) ∨ D = .string ∨ D = .bool) := by
  unfold keyD at h
  split at h
  · rename_i k hu; injection h with h; subst h; exact ⟨hu, .inl ⟨k, rfl⟩⟩
  · rename_i hu; injection h with h; subst h; exact ⟨hu, .inr (.inl rfl)⟩
  · rename_i hu; injection h with h; subst h; exact ⟨hu, .inr (.inr rfl)⟩
  · cases h
theorem check_run {kt : TypeId} {D : TypeDesc} (h : keyD P kt = some D) (em : Bool) (v : Value) (w : World) : (Instr.checkKey em 10000 kt v).run P w = .ok () w := by
  obtain ⟨hu, hD⟩ := keyD_spec h
  unfold Instr.checkKey
  rw [Sem.run_bind, run_underlying hu]
  simp only [Result.andThen_ok]
  rcases hD with ⟨k, rfl⟩ | rfl | rfl <;> rfl
/-- The model's look through the entries is that through keys and values. -/
theorem findNow_eq (D : TypeDesc) (k : Value) : ∀ (es : List MapEntry) (i : Nat), (Instr.findNow D k es i).map (·.map (·.2)) = findV D k (es.map fun e => (e.key, e.val))
  | [], i => rfl
  | e :: es, i => by
    unfold Instr.findNow
    rw [List.map_cons]
    unfold findV
    simp only
    cases Instr.sameNow D k e.key with
    | none => rfl
    | some b => cases b with
      | true => rfl
      | false => exact findNow_eq D k es (i + 1)
theorem find_run {kt : TypeId} {D : TypeDesc} (h : keyD P kt = some D) {k : Value} {es : List MapEntry} {r : Option (Nat × Value)} (hf : Instr.findNow D k es 0 = some r) (w : World) : (Instr.findKey kt k es).run P w = .ok r w := by
  unfold Instr.findKey
  rw [Sem.run_bind, run_underlying (keyD_spec h).1]
  simp only [Result.andThen_ok, hf, Sem.run_pure]

theorem aLookup_ok {t : TypeId} {x i : Operand} {ok : Bool} (hop : o.op = .lookup t x i ok) (hd : dstOk B.n o = true) (h : aLookup P o σ K t x i ok) : ∃ fx, K fx ∧ Eff P B o fx.rd σ fx.wr := by
  unfold aLookup at h
  split at h
  · rename_i kt et b g kv hmt hx hi
    have hund := mapTy_spec hmt
    split at h
    · rename_i l D z hkd hkD hz
      obtain ⟨hg, r, hr, h⟩ := h.out
      have h := h.out
      have main : ∀ σ', (∀ y ∈ opd x ++ opd i ++ [.gen b, .knd b], σ' y = σ y) → ∀ a w, Sat B σ' a w → (execOp a.eval o).run P w = .ok (.value (if ok = true then .tuple #[r.getD z, .bool r.isSome] else r.getD z)) w := fun σ' hag a w ⟨ρ, hs⟩ => by
        obtain ⟨ha, hg', hk', _⟩ := agree_gb hag
        have h1 := evA_ok hs x
        have h2 := evA_ok hs i
        rw [evA_same (agree_l ha), hx] at h1
        rw [evA_same (agree_r ha)] at h2
        have hkv := asVal_inv hi h2
        have ho := hs.obs b
        rw [hk'.trans hkd] at ho
        obtain ⟨q, clock, es, e1, e2, e3⟩ := ho
        have hxv : a.eval x = .map (some q) := by
          generalize a.eval x = v at h1
          cases h1 with
          | osl _ _ _ _ _ hh => rw [hh (hg'.trans hg), e1]
        have hfn := findNow_eq D kv es.toList 0
        rw [e3, hr] at hfn
        obtain ⟨r0, hr0, hr1⟩ : ∃ r0, Instr.findNow D kv es.toList 0 = some r0 ∧ r0.map (·.2) = r := by
          cases hc : Instr.findNow D kv es.toList 0 with
          | none => rw [hc] at hfn; cases hfn
          | some r0 => rw [hc] at hfn; simp only [Option.map_some, Option.some.injEq] at hfn; exact ⟨r0, rfl, hfn⟩
        have hzr : ∀ w, (zeroValue et).run P w = .ok z w := fun w => by
          unfold zeroV at hz
          split at hz
          · rename_i it hit; simp [zeroValue, typeInfo, hit, hz]
          · cases hz
        have hgo := MapKept.run_getObj_map (P := P) e2
        simp only [execOp, hop, hxv, hkv, Instr.lookup, Sem.run_bind, run_underlying hund, Result.andThen_ok, hgo, Sem.run_pure, check_run hkD, find_run hkD hr0]
        cases r0 with
        | none =>
          simp only [Option.map_none] at hr1
          subst hr1
          cases ok <;> simp [hzr]
        | some p =>
          simp only [Option.map_some] at hr1
          subst hr1
          cases ok <;> simp
      split at h
      · have h := h.out
        refine ⟨_, h, Eff.pure hd fun σ' hag a w ρ hs => ⟨_, main σ' hag a w ⟨ρ, hs⟩, ?_⟩⟩
        simp only [if_true]
        exact .tup [r.getD z, .bool r.isSome] _ rfl fun j u y hu hy => by
          match j with
          | 0 => simp at hu hy; rw [← hu, ← hy]; exact val_rep _
          | 1 => simp at hu hy; rw [← hu, ← hy]; exact vB_rep _
          | j + 2 => simp at hu
      · refine ⟨_, h, Eff.pure hd fun σ' hag a w ρ hs => ⟨_, main σ' hag a w ⟨ρ, hs⟩, ?_⟩⟩
        simp only [Bool.false_eq_true, if_false]
        exact val_rep _
    · exact h.elim
  · exact h.elim
theorem setV_eq (D : TypeDesc) (hD : (∃ k, D = .int k) ∨ D = .string ∨ D = .bool) (k v : Value) : ∀ (es : List MapEntry) (i : Nat) (l : List (Value × Value)), setV D k v (es.map fun e => (e.key, e.val)) = some l →
    (Instr.findNow D k es i = some none ∧ l = (es.map fun e => (e.key, e.val)) ++ [(k, v)]) ∨ ∃ j e, Instr.findNow D k es i = some (some (i + j, e.val)) ∧ es[j]? = some e ∧ Instr.sameBits 10000 e.key k = true ∧ l = (es.set j { e with key := k, val := v }).map fun e => (e.key, e.val)
  | [], i, l, h => by
    simp only [List.map_nil, setV, Option.some.injEq] at h
    exact .inl ⟨rfl, by rw [← h]; rfl⟩
  | e :: es, i, l, h => by
    rw [List.map_cons] at h
    unfold setV at h
    unfold Instr.findNow
    simp only at h
    cases hs : Instr.sameNow D k e.key with
    | none => rw [hs] at h; cases h
    | some b =>
      rw [hs] at h
      cases b with
      | true =>
        simp only [Option.some.injEq] at h
        refine .inr ⟨0, e, rfl, rfl, ?_, by rw [← h]; rfl⟩
        unfold Instr.sameNow at hs
        split at hs
        · rename_i k1 a k2 b hk
          split at hs
          · rename_i he
            simp only [Option.some.injEq] at hs
            rw [hk]
            have hab : a = b := by simpa using hs
            subst he hab
            simp [Instr.sameBits]
          · cases hs
        · rename_i a b hk
          simp only [Option.some.injEq] at hs
          rw [hk, ba_eq hs]
          exact ba_rfl _
        · rename_i a b hk
          simp only [Option.some.injEq] at hs
          have hab : a = b := by simpa using hs
          rw [hk, hab]
          simp [Instr.sameBits]
        · cases hs
      | false =>
        cases hr : setV D k v (es.map fun e => (e.key, e.val)) with
        | none => simp only [hr] at h; cases h
        | some l' =>
          simp only [hr, Option.map_some, Option.some.injEq] at h
          rcases setV_eq D hD k v es (i + 1) l' hr with ⟨h1, h2⟩ | ⟨j, e', h1, h2, h3, h4⟩
          · exact .inl ⟨h1, by rw [← h, h2]; rfl⟩
          · exact .inr ⟨j + 1, e', by rw [h1, Nat.add_assoc, Nat.add_comm 1 j], by simpa using h2, h3, by rw [← h, h4]; rfl⟩

theorem aMapUpdate_ok {t : TypeId} {x i y : Operand} (hop : o.op = .mapUpdate t x i y) (hd : dstOk B.n o = true) (h : aMapUpdate P o σ K t x i y) : ∃ fx, K fx ∧ Eff P B o fx.rd σ fx.wr := by
  unfold aMapUpdate at h
  split at h
  · rename_i kt et b g kv v hmt hx hi hy
    have hund := mapTy_spec hmt
    split at h
    · rename_i l D hkd hkD
      obtain ⟨hg, l', hl', h⟩ := h.out
      refine ⟨_, h, fun σ' hag a w ⟨ρ, hs⟩ K' Q hK => ?_⟩
      obtain ⟨ha, hg', hk', _⟩ := agree_gb hag
      have h1 := evA_ok hs x
      have h2 := evA_ok hs i
      have h3 := evA_ok hs y
      rw [evA_same (agree_l (agree_l ha)), hx] at h1
      rw [evA_same (agree_r (agree_l ha))] at h2
      rw [evA_same (agree_r ha)] at h3
      have hkv := asVal_inv hi h2
      have hv := asVal_inv hy h3
      have ho := hs.obs b
      rw [hk'.trans hkd] at ho
      obtain ⟨q, clock, es, e1, e2, e3⟩ := ho
      have hxv : a.eval x = .map (some q) := by
        generalize a.eval x = u at h1
        cases h1 with
        | osl _ _ _ _ _ hh => rw [hh (hg'.trans hg), e1]
      rw [← e3] at hl'
      have hgo := MapKept.run_getObj_map (P := P) e2
      have hlive : live σ' b := by unfold live; rw [hk'.trans hkd]; exact fun z => by cases z
      have hqb : blkOf (ρ b) = some q := by rw [e1]; rfl
      have fin : ∀ (es' : Array MapEntry) (clock' : Nat), (es'.toList.map fun e => (e.key, e.val)) = l' → (execOp a.eval o).run P w = .ok .skip (setBlock w q (.map es' clock')) → o.wp P a w K' Q := fun es' clock' hes hrun => by
        unfold Oper.wp
        rw [hrun, Oper.upon_skip]
        refine hK _ _ ⟨ρ, ?_⟩
        have hst := hs.turn (b := b) (q := q) (w' := setBlock w q (.map es' clock')) (k' := .map l') hlive hqb ⟨rfl, rfl, rfl, by simp [setBlock], fun i _ hi => heap_setBlock_other e2 _ (fun e => hi (by rw [e]))⟩ (fun c hc => by unfold Owns; rw [hk'.trans hkd]; exact hc) fun hI =>
          ⟨q, clock', es', e1, heap_setBlock_same e2 _, hes⟩
        rw [app_cons]
        exact hst.put (dst_lt hd) (val_rep _)
      rcases setV_eq D (keyD_spec hkD).2 kv v es.toList 0 l' hl' with ⟨f1, f2⟩ | ⟨j, e, f1, f2, f3, f4⟩
      · refine fin (es.push { key := kv, val := v, born := clock }) (clock + 1) (by rw [f2]; simp) ?_
        simp only [execOp, hop, hxv, hkv, hv, Instr.mapUpdate, Sem.run_bind, run_underlying hund, Result.andThen_ok, hgo, Sem.run_pure, check_run hkD, find_run hkD f1, MapKept.run_setObj_map _ e2]
        rfl
      · have hj : es[j]? = some e := by rw [← Array.getElem?_toList]; exact f2
        have hjlt : j < es.size := (Array.getElem?_eq_some_iff.1 hj).1
        refine fin (es.modify j fun e => { e with key := kv, val := v }) clock ?_ ?_
        · rw [f4]
          congr 1
          apply List.ext_getElem?
          intro n
          rw [Array.getElem?_toList, Array.getElem?_modify, List.getElem?_set]
          by_cases hn : j = n
          · subst hn
            rw [if_pos rfl, if_pos rfl, if_pos (by simpa using hjlt), hj]
            rfl
          · rw [if_neg hn, if_neg hn, Array.getElem?_toList]
        · rw [Nat.zero_add] at f1
          simp only [execOp, hop, hxv, hkv, hv, Instr.mapUpdate, Sem.run_bind, run_underlying hund, Result.andThen_ok, hgo, Sem.run_pure, check_run hkD, find_run hkD f1, MapKept.run_setObj_map _ e2, hj, Instr.keyThatStays, Option.map_some, Option.getD_some, f3, if_true]
          rfl
    · exact h.elim
  · exact h.elim
end

end Go.Proofs.YthahbiahlpcgeaaGreatDoor.Sym
