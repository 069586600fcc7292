/-
  The plain reading's operations are the model's: objects that the frame makes, turns and gives up; calls.
-/
import Derived.Test.YthahbiahlpcgeaaGreatDoorSym5
namespace Go.Proofs.YthahbiahlpcgeaaGreatDoor.Sym
open Go.RowKit

section
variable {P : Program} {B : Base} {o : Oper} {σ : St} {K : Fx → Prop}

theorem dst_some {d : Tmp} (hd : dstOk B.n o = true) (e : o.dst = some d) : d < B.n := dst_lt hd d e

/-- A new block of cells. -/
theorem making_alloc (σ : St) (w : World) (ρ : Ly) (ob : Obj) : Making σ w (w.alloc ob) ρ none (.pointer (some ⟨w.heap.size, 0, none⟩)) none :=
  ⟨World.grownBy_alloc w ob none, (fun b e => by cases e), fun b e => .inr (by simp only [blkOf, Option.some.injEq] at e; omega)⟩

theorem SatR.box {a : Act} {w : World} {ρ : Ly} (h : SatR B σ a w ρ) (d : Nat) (t : TypeId) {us : List Value} {cs : List AV} (hr : Reps w (Imm B σ ρ w) ρ σ.gn us cs) (h1 : ∀ u ∈ us, u.oneCell' = true) :
    SatR B (newSt σ none d (.box t cs.length) cs) a (w.alloc (.cells us.toArray t)) (setρ ρ d (.pointer (some ⟨w.heap.size, 0, none⟩))) := by
  have m := making_alloc σ w ρ (.cells us.toArray t)
  refine h.new m (fun _ _ _ _ _ e => by cases e) fun hI hA => ⟨w.heap.size, us, by simp [setρ], heap_alloc_new w _, hr.1, h1, fun i u hu => ?_⟩
  have hi : i < cs.length := by rw [← hr.1]; exact (List.getElem?_eq_some_iff.1 hu).1
  obtain ⟨c, hc⟩ : ∃ c, cs[i]? = some c := ⟨_, List.getElem?_eq_getElem hi⟩
  rw [newSt_new σ none d _ cs i hi, getD_of_some hc]
  exact hA _ _ (hr.2 i u c hu hc)

theorem newObj_own {a : Act} {w : World} {ρ : Ly} {used : Option Nat} {d : Nat} {k : Kd} {cs : List AV} {hv : Value} (h : SatR B (newSt σ used d k cs) a w (setρ ρ d hv)) (q : Nat) (e : hv = .pointer (some ⟨q, 0, none⟩)) (hd : d < B.n) :
    SatR B (app (newSt σ used d k cs) [(.tmp d, .av (.own d (σ.gn d + 1) 0))]) (a.put (some d) hv) w (setρ ρ d hv) :=
  h.put (d := some d) (fun t e => by injection e with e; subst e; exact hd) (.own _ _ _ _ (by rw [e]; rfl) (by rw [newSt_gn, if_pos rfl]; omega) fun _ => ⟨q, by simp [setρ, e], by rw [e]⟩)
theorem newObj_osl {a : Act} {w : World} {ρ : Ly} {used : Option Nat} {d : Nat} {k : Kd} {cs : List AV} {hv : Value} (h : SatR B (newSt σ used d k cs) a w (setρ ρ d hv)) (h1 : hv.oneCell' = true) (hd : d < B.n) :
    SatR B (app (newSt σ used d k cs) [(.tmp d, .av (.osl d (σ.gn d + 1)))]) (a.put (some d) hv) w (setρ ρ d hv) :=
  h.put (d := some d) (fun t e => by injection e with e; subst e; exact hd) (.osl _ _ _ h1 (by rw [newSt_gn, if_pos rfl]; omega) fun _ => by simp [setρ])

theorem newObj_osl2 {a : Act} {w : World} {ρ : Ly} {used : Option Nat} {d b : Nat} {k : Kd} {cs : List AV} {hv : Value} (h : SatR B (newSt σ used b k cs) a w (setρ ρ b hv)) (h1 : hv.oneCell' = true) (hd : d < B.n) :
    SatR B (app (newSt σ used b k cs) [(.tmp d, .av (.osl b (σ.gn b + 1)))]) (a.put (some d) hv) w (setρ ρ b hv) :=
  h.put (d := some d) (fun t e => by injection e with e; subst e; exact hd) (.osl _ _ _ h1 (by rw [newSt_gn, if_pos rfl]; omega) fun _ => by simp [setρ])

theorem app_new {k : Kd} {d : Nat} {cs : List AV} {v : AV} {σ' : St} (hg : σ'.gn d = σ.gn d) : app σ' (mkObj σ d k ++ celWr d 0 cs ++ [(.tmp d, .av v)]) = app (newSt σ' none d k cs) [(.tmp d, .av v)] := by
  rw [app_append, app_append]
  unfold newSt mkObj
  rw [hg]

theorem aAlloc_ok {t : TypeId} (hop : o.op = .alloc t) (hd : dstOk B.n o = true) (h : aAlloc P o σ K t) : ∃ fx, K fx ∧ Eff P B o fx.rd σ fx.wr := by
  unfold aAlloc at h
  split at h
  · rename_i d cs hdst hz
    obtain ⟨hall, h⟩ := h.ok
    refine ⟨_, h, fun σ' hag a w ⟨ρ, hs⟩ K' Q hK => ?_⟩
    have hg := gn_same (hag (.gen d) (by simp))
    obtain ⟨z, hzr, hzc⟩ : ∃ z : Value, (∀ w, (zeroValue t).run P w = .ok z w) ∧ z.cells.toList = cs := by
      unfold zeroOf at hz
      split at hz
      · rename_i i hi
        cases hz0 : i.zero with
        | none => rw [hz0] at hz; cases hz
        | some z =>
          rw [hz0] at hz
          simp only [Option.map_some, Option.some.injEq] at hz
          exact ⟨z, fun w => by simp [zeroValue, typeInfo, hi, hz0], hz⟩
      · cases hz
    have run : (execOp a.eval o).run P w = .ok (.value (.pointer (some ⟨w.heap.size, 0, none⟩))) (w.alloc (.cells cs.toArray t)) := by
      rw [← hzc]
      simp [execOp, hop, Instr.alloc, hzr, newVar, newRow]
    unfold Oper.wp
    rw [run, Oper.upon_value, hdst]
    refine hK _ _ ⟨setρ ρ d (.pointer (some ⟨w.heap.size, 0, none⟩)), ?_⟩
    have hr : Reps w (Imm B σ' ρ w) ρ σ'.gn cs (cs.map fun v => .im (.val v)) := ⟨by simp, fun i u y hu hy => by
      simp only [List.getElem?_map, hu, Option.map_some, Option.some.injEq] at hy
      rw [← hy]
      exact .im _ _ (.val _)⟩
    have hb := hs.box d t hr (fun u hu => List.all_eq_true.1 hall u hu)
    rw [List.length_map] at hb
    show SatR B (app σ' (mkObj σ d (.box t cs.length) ++ celWr d 0 (cs.map fun v => .im (.val v)) ++ [(.tmp d, .av (.own d (σ.gn d + 1) 0))])) _ _ _
    rw [app_new hg, ← hg]
    exact newObj_own hb _ rfl (dst_some hd hdst)
  · exact h.elim

/-- Cells of a box are written. -/
theorem SatR.store {a : Act} {w w' : World} {ρ : Ly} (h : SatR B σ a w ρ) {b q i m : Nat} {t : TypeId} {cs : List AV} {us vs : List Value} (hk : σ.kd b = .box t m) (hρ : ρ b = .pointer (some ⟨q, 0, none⟩)) (hl : us.length = m)
    (h1 : ∀ u ∈ us, u.oneCell' = true) (hus : ∀ (j : Nat) u, us[j]? = some u → RepA w (Imm B σ ρ w) ρ σ.gn u (σ.ce b j)) (hg : w.grownBy w' (some q))
    (hw' : w'.heap[q]? = some (.cells (us.take i ++ vs ++ us.drop (i + vs.length)).toArray t (0, 0))) (hfit : i + vs.length ≤ m) (hv : Reps w (Imm B σ ρ w) ρ σ.gn vs cs) (hv1 : ∀ u ∈ vs, u.oneCell' = true) : SatR B (app σ (celWr b i cs)) a w' ρ := by
  have hgn := celWr_gn b cs i σ
  have hkd := celWr_kd b cs i σ
  have hlive : live σ b := by unfold live; rw [hk]; exact fun e => by cases e
  have hqb : Owns σ ρ b q := .root hlive (by rw [hρ]; rfl)
  have hown : ∀ o c, Owns (app σ (celWr b i cs)) ρ o c ↔ Owns σ ρ o c := fun o c => by unfold Owns; rw [hkd]
  refine (h.step (fun o => o = b) (fun t => by rw [celWr_av]) (fun o hd => ⟨by rw [hkd], by rw [hgn], fun j => by rw [celWr_ce, if_neg (fun z => hd z.1)], rfl, rfl, rfl⟩) (fun o _ => ⟨⟨by rw [hgn]; exact Nat.le_refl _, fun _ => rfl⟩, Nat.le_refl _, fun _ => rfl⟩)
    (fun o => by rw [celWr_ig]; exact h.igs o) ⟨hg.os, hg.tape, hg.output, hg.size, fun c hc hn => hg.block c hc fun e => ?_⟩ (fun o c hd ho => .inr ⟨o, hd, (hown o c).1 ho⟩) (fun o p c hd hp _ _ => hd.trans hp.symm) fun hI hA o hd => ?_).1
  · injection e with e
    subst e
    exact hn ⟨b, rfl, hqb⟩
  · subst hd
    rw [hkd, hk]
    refine ⟨q, _, hρ, hw', by simp; omega, fun u hu => ?_, fun j u hu => ?_⟩
    · rcases List.mem_append.1 hu with hu | hu
      · rcases List.mem_append.1 hu with hu | hu
        · exact h1 u (List.mem_of_mem_take hu)
        · exact hv1 u hu
      · exact h1 u (List.mem_of_mem_drop hu)
    · rw [celWr_ce]
      have hvl := hv.1
      rw [List.append_assoc, List.getElem?_append, List.length_take] at hu
      by_cases hj : j < i
      · rw [if_pos (by omega), List.getElem?_take, if_pos hj] at hu
        rw [if_neg (by omega)]
        exact hA _ _ (hus j u hu)
      · rw [if_neg (by omega), List.getElem?_append, Nat.min_eq_left (by omega)] at hu
        by_cases hj2 : j - i < vs.length
        · rw [if_pos hj2] at hu
          rw [if_pos ⟨rfl, by omega, by omega⟩]
          obtain ⟨c, hc⟩ : ∃ c, cs[j - i]? = some c := ⟨_, List.getElem?_eq_getElem (by omega)⟩
          rw [getD_of_some hc]
          exact hA _ _ (hv.2 _ u c hu hc)
        · rw [if_neg hj2, List.getElem?_drop] at hu
          rw [if_neg (by omega)]
          have e3 : i + vs.length + (j - i - vs.length) = j := by omega
          rw [e3] at hu
          exact hA _ _ (hus j u hu)

theorem put_none (a : Act) (u : Value) : a.put none u = a := rfl

theorem aStore_ok {t : TypeId} {p x : Operand} (hop : o.op = .store t p x) (hd : dstOk B.n o = true) (h : aStore P o σ K t p x) : ∃ fx, K fx ∧ Eff P B o fx.rd σ fx.wr := by
  unfold aStore at h
  split at h
  · rename_i m cs hm hcs
    obtain ⟨hlen, h⟩ := h.ok
    have hlen : cs.length = m := by simpa using hlen
    split at h
    · rename_i b g i hp
      obtain ⟨hi, h⟩ := h.ok
      obtain ⟨hg, h⟩ := h.out
      rw [Bool.and_eq_true] at hi
      have hm0 := blt_spec hi.1
      have hi := ble_spec hi.2
      refine ⟨_, h, fun σ' hag a w ⟨ρ, hs⟩ K' Q hK => ?_⟩
      obtain ⟨ha, hg', hk', _⟩ := agree_gb hag
      have h1 := evA_ok hs p
      have h2 := evA_ok hs x
      rw [evA_same (agree_l ha), hp] at h1
      rw [evA_same (agree_r ha)] at h2
      have hr := cellsA_rep hcs h2
      have hone := cellsA_one hcs h2
      obtain ⟨t', n, hkd, hin⟩ := boxLen_spec (σ := σ) (b := b) (i := i) (by omega)
      have hbl := boxLen_eq hkd
      obtain ⟨q, us, e1, e2, e3, e4, e5, _, e7⟩ := box_read hs h1 (hg'.trans hg) (hk'.trans hkd)
      have hvl : (a.eval x).cells.toList.length = m := by rw [hr.1, hlen]
      have hrow := run_storeCells_at (P := P) q i t' (a.eval x).cells.toList 0 us.toArray w e3 (by simp; simp at hvl; omega) hone
      simp only [Nat.add_zero] at hrow
      have hz := sz_run hm w
      have hsz : (a.eval x).cells.size = m := by rw [← hvl]; simp
      have run : (execOp a.eval o).run P w = .ok .skip (w.setRow q (us.take i ++ (a.eval x).cells.toList ++ us.drop (i + (a.eval x).cells.toList.length)).toArray) := by
        simp only [execOp, hop, Instr.storeAt, e1, Instr.sureAddr, storeVar, Sem.run_bind, Sem.run_pure, Result.andThen_ok, hz, hsz]
        rw [if_neg (by simp), hrow]
        simp
      unfold Oper.wp
      rw [run, Oper.upon_skip]
      refine hK _ _ ⟨ρ, ?_⟩
      have hst := hs.store (vs := (a.eval x).cells.toList) (w' := w.setRow q (us.take i ++ (a.eval x).cells.toList ++ us.drop (i + (a.eval x).cells.toList.length)).toArray) (hk'.trans hkd) e2 e4 e5 e7 ⟨rfl, rfl, rfl, by simp, fun k _ hk => setRow_other w q k _ (fun e => hk (by rw [e]))⟩ (setRow_heap w q us.toArray _ t' _ e3) (by omega) hr hone
      rw [app_append]
      exact hst.put (dst_lt hd) (val_rep _)
    · exact h.elim
  · exact h.elim
end

end Go.Proofs.YthahbiahlpcgeaaGreatDoor.Sym
