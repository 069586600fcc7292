/-
  The plain reading's operations are the model's: parts of a row of one's own; a row that is cut short; clear.
-/
import Derived.Test.YthahbiahlpcgeaaGreatDoorSymOps
namespace Go.Proofs.YthahbiahlpcgeaaGreatDoor.Sym
open Go.RowKit

section
variable {P : Program} {B : Base} {o : Oper} {σ : St} {K : Fx → Prop}

theorem slice_bnd {a : Act} {w : World} {ρ : Ly} (hs : SatR B σ a w ρ) {y : Operand} {n : Int} {k : IntKind} (hy : Sym.asInt (evA σ y) = some (k, n)) {m : Nat} {c : BoundsCode} (h0 : 0 ≤ n) (hm : n ≤ m) : (Instr.sliceBound (a.eval y) m c).run P w = .ok n.toNat w := by
  have h3 : 0 ≤ n ∧ n ≤ m := ⟨h0, hm⟩
  simp only [asInt_inv hy (evA_ok hs y), Instr.sliceBound, asIntOf, Sem.run_bind, Sem.run_pure, Result.andThen_ok, if_pos h3]

/-- A row of one's own that holds something. -/
theorem row_form {a : Act} {w : World} {ρ : Ly} (hs : SatR B σ a w ρ) {b k : Nat} {t : TypeId} {es : List (List IV)} (hk : σ.kd b = .row t k es) (hn : 0 < es.length) :
    ∃ (q cap : Nat) (cur : Array Value) (us : List Value), ρ b = .slice (some ⟨q, 0, none⟩) es.length cap ∧ w.heap[q]? = some (.cells cur t (0, 0)) ∧ es.length ≤ cap ∧ cap ≤ maxLen ∧ cur.size = cap * k ∧ cur.toList.take (es.length * k) = us ∧ 0 < k ∧ (∀ x ∈ es, x.length = k) ∧ es.length ≤ 17592186044416 ∧ us.length = es.flatten.length ∧
      (∀ u ∈ us, u.oneCell' = true) ∧ ∀ (i : Nat) u x, us[i]? = some u → es.flatten[i]? = some x → RepI w (Imm B σ ρ w) u x := by
  have ho := hs.obs b
  rw [hk] at ho
  obtain ⟨us, h1, h2, h3, h4, h5, h6, h7⟩ := ho
  rcases h4.2 with ⟨_, h0⟩ | ⟨q, cap, cur, e1, _, e3, e4, e5, e6, e7⟩
  · omega
  · exact ⟨q, cap, cur, us, e1, e3, e4, e5, e6, e7, h1, h2, h3, h5, h6, h7⟩

theorem aSliceV_ok {t : TypeId} {x lo : Operand} {b g : Nat} (hop : o.op = .slice t x (some lo) none none) (hx : evA σ x = .osl b g) (hd : dstOk B.n o = true) (h : aSliceV P o σ K t x b g lo) : ∃ fx, K fx ∧ Eff P B o fx.rd σ fx.wr := by
  unfold aSliceV at h
  split at h
  · rename_i et kk l et' k es het hlo hkd
    have hu := elm_spec het
    split at h
    · rename_i k' hk'
      obtain ⟨hkk, h'⟩ := h.ok
      clear h
      have hkk := Nat.eq_of_beq_eq_true hkk
      subst hkk
      obtain ⟨⟨hg, h0, hl, hn⟩, h⟩ := h'.out
      refine ⟨_, h, Eff.pure hd fun σ' hag a w ρ hs => ?_⟩
      obtain ⟨ha', hg', hk2, _⟩ := agree_gb hag
      have h1 := evA_ok hs x
      rw [evA_same (agree_l ha'), hx] at h1
      have hlo' : Sym.asInt (evA σ' lo) = some (kk, l) := by rw [evA_same (agree_r ha')]; exact hlo
      obtain ⟨q, cap, cur, us, e1, e2, e3, _⟩ := row_form hs (hk2.trans hkd) hn
      have hb := fun c => slice_bnd (P := P) (w := w) hs hlo' (m := es.length) (c := c) h0 (by omega)
      have hz := sz_run hk' w
      generalize hv : a.eval x = v at h1
      cases h1 with
      | osl _ _ _ h1c hgg hh =>
        rw [hh (hg'.trans hg), e1] at hv
        refine ⟨.slice (if cap = l.toNat then some ⟨q, 0, none⟩ else some ⟨q, l.toNat * k, none⟩) (es.length - l.toNat) (cap - l.toNat), ?_, .osv _ b g l.toNat k (by rfl) hgg fun _ => ⟨q, _, cap, e1, hl, rfl⟩⟩
        simp only [execOp, hop, hv, Instr.sliceAt, Instr.slice, Sem.run_bind, Sem.run_pure, Result.andThen_ok, run_underlying hu, Option.map_none, Option.map_some, hz]
        unfold Instr.sliceBounds
        simp [hb, addr_add, hz]
    · exact h.elim
  · exact h.elim

theorem aLenV_ok {c : Call} {t : TypeId} {ts : List TypeId} {x : Operand} {b g k m : Nat} (hop : o.op = .call c) (hc : c.callee = .builtin .len) (ha : c.args.toList = [x]) (ht : c.argTypes.toList = t :: ts) {e : TypeId} (he : elmOf P t = some e) (hx : evA σ x = .osv b g k m) (hd : dstOk B.n o = true) (h : aLenV o σ K x b g k) : ∃ fx, K fx ∧ Eff P B o fx.rd σ fx.wr := by
  have ht0 : c.argTypes[0]? = some t := by rw [← Array.getElem?_toList, ht]; rfl
  have hx0 : ∀ a : Act, (c.args.map a.eval)[0]? = some (a.eval x) := fun a => by rw [← Array.getElem?_toList, Array.toList_map, ha]; rfl
  have hu := elm_spec he
  have run : ∀ (a : Act) w A n cp, a.eval x = .slice A n cp → (execOp a.eval o).run P w = .ok (.value (.int .i64 n)) w := fun a w A n cp hv => by
    simp only [execOp, hop, resolve, hc, invoke, builtin, Builtin.len_, ht0, hx0, Sem.run_bind, Sem.run_pure, Result.andThen_ok, run_underlying hu, hv, goInt]
  unfold aLenV at h
  split at h
  · rename_i t' kk es hkd
    obtain ⟨hg, h⟩ := h.out
    have h := h.out
    refine ⟨_, h, Eff.pure hd fun σ' hag a w ρ hs => ?_⟩
    obtain ⟨ha', hg', hk', _⟩ := agree_gb hag
    have h1 := evA_ok hs x
    rw [evA_same ha', hx] at h1
    obtain ⟨A, cp, hρ⟩ := row_handle hs (hk'.trans hkd)
    generalize hv : a.eval x = v at h1
    cases h1 with
    | osv _ _ _ _ _ h1c hgg hh =>
      obtain ⟨q, n, c', e1, e2, e3⟩ := hh (hg'.trans hg)
      rw [hρ] at e1
      injection e1 with _ e1 _
      subst e1
      rw [e3] at hv
      exact ⟨_, run a w _ _ _ hv, val_rep _⟩
  · exact h.elim

theorem aIndexV_ok {t : TypeId} {x i : Operand} {b g k m : Nat} (hop : o.op = .indexAddr t x i) (hx : evA σ x = .osv b g k m) (hd : dstOk B.n o = true) (h : aIndexV P o σ K t x i b g k m) : ∃ fx, K fx ∧ Eff P B o fx.rd σ fx.wr := by
  unfold aIndexV at h
  split at h
  · rename_i kk n et t' k' es hi het hkd
    have hu := elm_spec het
    split at h
    · rename_i m' hm
      obtain ⟨hmm, h'⟩ := h.ok
      clear h
      have hmm := Nat.eq_of_beq_eq_true hmm
      subst hmm
      obtain ⟨⟨h0, hg, hlt⟩, h⟩ := h'.out
      have h := h.out
      refine ⟨_, h, Eff.pure hd fun σ' hag a w ρ hs => ?_⟩
      obtain ⟨ha', hg', hk', _⟩ := agree_gb hag
      have h1 := evA_ok hs x
      have h2 := evA_ok hs i
      rw [evA_same (agree_l ha'), hx] at h1
      rw [evA_same (agree_r ha')] at h2
      have hn := asInt_inv hi h2
      obtain ⟨q, cap, cur, us, e1, e2, e3, _⟩ := row_form hs (hk'.trans hkd) (by omega)
      generalize hv : a.eval x = v at h1
      cases h1 with
      | osv _ _ _ _ _ h1c hgg hh =>
        obtain ⟨q', n', c', f1, f2, f3⟩ := hh (hg'.trans hg)
        have f1' := f1
        rw [e1] at f1
        injection f1 with f1 f4 f5
        injection f1 with f1
        injection f1 with f1
        subst f1 f4 f5
        rw [f3, if_neg (by omega)] at hv
        have hz := sz_run hm w
        have h3 : 0 ≤ n ∧ n < (es.length - k : Nat) := ⟨h0, by omega⟩
        refine ⟨.pointer (some ⟨q, (k + n.toNat) * m, none⟩), ?_, .elt _ b g m (k + n.toNat) 0 rfl hgg fun _ => ⟨q, _, cap, e1, by rw [Nat.add_zero]⟩⟩
        simp only [execOp, hop, hv, hn, Instr.indexAt, asIntOf, Sem.run_bind, Sem.run_pure, Result.andThen_ok, run_underlying hu, if_pos h3, hz, addr_add]
        rw [Nat.add_mul]
    · exact h.elim
  · exact h.elim

theorem aSliceT_ok {t : TypeId} {x hi : Operand} {b g : Nat} (hop : o.op = .slice t x none (some hi) none) (hx : evA σ x = .osl b g) (hd : dstOk B.n o = true) (h : aSliceT P o σ K t x b g hi) : ∃ fx, K fx ∧ Eff P B o fx.rd σ fx.wr := by
  unfold aSliceT at h
  split at h
  · rename_i et kk l et' k es d het hhi hkd hdst
    have hu := elm_spec het
    split at h
    · rename_i k' hk'
      obtain ⟨hkk, h'⟩ := h.ok
      clear h
      have hkk := Nat.eq_of_beq_eq_true hkk
      subst hkk
      obtain ⟨⟨hg, h0, hl, hn⟩, h⟩ := h'.out
      have h := h.out
      refine ⟨_, h, fun σ' hag a w ⟨ρ, hs⟩ K' Q hK => ?_⟩
      obtain ⟨ha', hg', hk2, hr'⟩ := agree_gb hag
      have h1 := evA_ok hs x
      rw [evA_same (agree_l ha'), hx] at h1
      have hhi' : Sym.asInt (evA σ' hi) = some (kk, l) := by rw [evA_same (agree_r ha')]; exact hhi
      obtain ⟨q, cap, cur, us, e1, e2, e3, e4, e5, e6, e7, e8, e9, e10, e11, e12⟩ := row_form hs (hk2.trans hkd) hn
      have hb := fun c => slice_bnd (P := P) (w := w) hs hhi' (m := cap) (c := c) h0 (by omega)
      have hz := sz_run hk' w
      have hv : a.eval x = .slice (some ⟨q, 0, none⟩) es.length cap := by
        generalize a.eval x = v at h1
        cases h1 with
        | osl _ _ _ h1c hgg hh => rw [hh (hg'.trans hg), e1]
      have run : (execOp a.eval o).run P w = .ok (.value (.slice (some ⟨q, 0, none⟩) l.toNat cap)) w := by
        simp only [execOp, hop, hv, Instr.sliceAt, Instr.slice, Sem.run_bind, Sem.run_pure, Result.andThen_ok, run_underlying hu, Option.map_none, Option.map_some, hz]
        unfold Instr.sliceBounds
        have : ¬ cap = 0 := by omega
        simp [hb, addr_add, hz, this]
      unfold Oper.wp
      rw [run, Oper.upon_value, hdst]
      refine hK _ _ ⟨setρ ρ b (.slice (some ⟨q, 0, none⟩) l.toNat cap), ?_⟩
      have hownsq : Owns σ' ρ b q := .root (live_row (hk2.trans hkd)) (by rw [e1]; rfl)
      have m : Making σ' w w ρ (some b) (.slice (some ⟨q, 0, none⟩) l.toNat cap) (some q) := ⟨World.grownBy.refl _ _, fun c hc => by injection hc with hc; subst hc; exact ⟨b, rfl, hownsq⟩, fun c hc => .inl (by injection hc with hc; rw [← hc])⟩
      have hlen : (es.take l.toNat).length = l.toNat := by rw [List.length_take]; omega
      have hft : (es.take l.toNat).flatten = es.flatten.take (l.toNat * k) := flat_take e8
      have hfl := flat_length e8
      have hmul : l.toNat * k ≤ es.length * k := Nat.mul_le_mul_right _ hl
      have hst := hs.new (d := b) (k := .row et' k (es.take l.toNat)) (cs := []) m (fun _ _ _ _ _ e => by cases e) fun hI _ => by
        refine ⟨us.take (l.toNat * k), e7, fun y hy => e8 y (List.mem_of_mem_take hy), by rw [hlen]; omega, ?_, by rw [hft, List.length_take, List.length_take, e10], fun u hu => e11 u (List.mem_of_mem_take hu), fun i u y hu hy => ?_⟩
        · rw [hlen]
          refine ⟨by rw [List.length_take]; omega, .inr ⟨q, cap, cur, by simp [setρ], Nat.zero_le _, e2, by omega, e4, e5, ?_⟩⟩
          rw [← e6, List.take_take, Nat.min_eq_left hmul]
        · rw [hft, List.getElem?_take] at hy
          rw [List.getElem?_take] at hu
          split at hu
          · rename_i hlt
            rw [if_pos hlt] at hy
            exact hI _ _ (e12 i u y hu hy)
          · cases hu
      have hap : app σ' ((.knd b, .kd .dead) :: (mkObj σ b (.row et' k (es.take l.toNat)) ++ [(.tmp d, .av (.osl b (σ.gn b + 1)))])) = app (newSt σ' (some b) b (.row et' k (es.take l.toNat)) []) [(.tmp d, .av (.osl b (σ'.gn b + 1)))] := by
        rw [app_cons, app_append]
        unfold newSt mkObj
        rw [hg']
        rfl
      show SatR B (app σ' ((.knd b, .kd .dead) :: (mkObj σ b (.row et' k (es.take l.toNat)) ++ [(.tmp d, .av (.osl b (σ.gn b + 1)))]))) _ _ _
      rw [hap]
      exact newObj_osl2 hst rfl (dst_some hd hdst)
    · exact h.elim
  · exact h.elim

theorem aClear_ok {c : Call} {t : TypeId} {ts : List TypeId} {x : Operand} (hop : o.op = .call c) (hc : c.callee = .builtin .clear) (ha : c.args.toList = [x]) (ht : c.argTypes.toList = t :: ts) (hd : dstOk B.n o = true) (h : aClear P o σ K t x) : ∃ fx, K fx ∧ Eff P B o fx.rd σ fx.wr := by
  have ht0 : c.argTypes[0]? = some t := by rw [← Array.getElem?_toList, ht]; rfl
  have hx0 : ∀ a : Act, (c.args.map a.eval)[0]? = some (a.eval x) := fun a => by rw [← Array.getElem?_toList, Array.toList_map, ha]; rfl
  unfold aClear at h
  split at h
  · rename_i et b g k m het hx
    have hu := elm_spec het
    split at h
    · rename_i et' k' es m' z hkd hm' hz
      obtain ⟨hchk, h'⟩ := h.ok
      clear h
      simp only [Bool.and_eq_true] at hchk
      obtain ⟨⟨⟨⟨c1, c2⟩, c3⟩, c4⟩, c5⟩ := hchk
      have c1 := Nat.eq_of_beq_eq_true c1
      have c2 := Nat.eq_of_beq_eq_true c2
      have c4 := Nat.eq_of_beq_eq_true c4
      subst c1 c2
      have c3 := blt_spec c3
      obtain ⟨⟨hg, hke⟩, h⟩ := h'.out
      have h := h.out
      refine ⟨_, h, fun σ' hag a w ⟨ρ, hs⟩ K' Q hK => ?_⟩
      obtain ⟨ha', hg', hk2, _⟩ := agree_gb hag
      have h1 := evA_ok hs x
      rw [evA_same ha', hx] at h1
      have hkd' := hk2.trans hkd
      by_cases hn : k = es.length
      · -- nothing to clear
        have e0 : es.take k ++ List.replicate (es.length - k) (z.map fun v => nz1 (.val v)) = es := by rw [hn]; simp
        obtain ⟨A, cp, hρ⟩ := row_handle hs hkd'
        have run : (execOp a.eval o).run P w = .ok (.value (.tuple #[])) w := by
          generalize hv : a.eval x = v at h1
          cases h1 with
          | osv _ _ _ _ _ h1c hgg hh =>
            obtain ⟨q, n, c', f1, f2, f3⟩ := hh (hg'.trans hg)
            rw [hρ] at f1
            injection f1 with _ f1 _
            subst f1
            have : es.length - k = 0 := by omega
            rw [f3, this] at hv
            generalize (if c' = k then some (⟨q, 0, none⟩ : Addr) else some ⟨q, k * k', none⟩) = AA at hv
            simp only [execOp, hop, resolve, hc, invoke, builtin, Builtin.clear_, ht0, hx0, Sem.run_bind, Sem.run_pure, Result.andThen_ok, run_underlying hu, hv]
            cases AA <;> simp
        unfold Oper.wp
        rw [run, Oper.upon_value]
        refine hK _ _ ⟨ρ, ?_⟩
        rw [e0]
        have hst : SatR B (upd σ' (.knd b) (.kd (.row et' k' es))) a w ρ := (hs.step (fun _ => False) (fun t => av_knd σ' b t _) (fun o _ => ⟨by
            rw [kd_knd]
            by_cases e : o = b
            · rw [if_pos e, e, hkd']
            · rw [if_neg e], gn_knd σ' b o _, fun i => ce_knd σ' b o i _, rfl, rfl, rfl⟩) (fun _ h => h.elim) (fun o => by rw [ig_knd]; exact hs.igs o) (Belo.refl _ _ _) (fun _ _ h => h.elim) (fun _ _ _ h => h.elim) (fun _ _ _ h => h.elim)).1
        rw [app_cons]
        exact hst.put (fun t e => dst_lt hd t e) (.im _ _ (.any _))
      · obtain ⟨q, cap, cur, us, e1, e2, e3, e4, e5, e6, e7, e8, e9, e10, e11, e12⟩ := row_form hs hkd' (by omega)
        obtain ⟨zv, hzr, hzc⟩ : ∃ zv : Value, (∀ w, (zeroValue et).run P w = .ok zv w) ∧ zv.cells.toList = z := by
          unfold zeroOf at hz
          split at hz
          · rename_i i hi
            cases hz0 : i.zero with
            | none => rw [hz0] at hz; cases hz
            | some zz =>
              rw [hz0] at hz
              simp only [Option.map_some, Option.some.injEq] at hz
              exact ⟨zz, fun w => by simp [zeroValue, typeInfo, hi, hz0], hz⟩
          · cases hz
        have hzs : zv.cells.size = k' := by rw [← c4, ← hzc]; simp
        have hzl : (Builtin.zeroCells zv.cells (es.length - k)).toList = (List.replicate (es.length - k) z).flatten := by
          have := made_take zv.cells (es.length - k) (es.length - k) (Nat.le_refl _) (by omega)
          rw [List.take_of_length_le (by simp [madeCells])] at this
          rw [← hzc]
          exact this
        have hzlen : ((List.replicate (es.length - k) z).flatten).length = (es.length - k) * k' := by
          rw [flat_length (k := k') (fun x hx => by rw [List.eq_of_mem_replicate hx]; exact c4), List.length_replicate]
        have hzone : ∀ u ∈ (List.replicate (es.length - k) z).flatten, u.oneCell' = true := fun u hu => by
          obtain ⟨y, hy, hu⟩ := List.mem_flatten.1 hu
          rw [List.eq_of_mem_replicate hy] at hu
          exact List.all_eq_true.1 c5 u hu
        have hmul : k * k' + (es.length - k) * k' = es.length * k' := by rw [← Nat.add_mul]; congr 1; omega
        have hmul2 : es.length * k' ≤ cap * k' := Nat.mul_le_mul_right _ e3
        have hrow := run_storeCells_at (P := P) q (k * k') et' ((List.replicate (es.length - k) z).flatten) 0 cur w e2 (by omega) hzone
        simp only [Nat.add_zero] at hrow
        have run : (execOp a.eval o).run P w = .ok (.value (.tuple #[])) (w.setRow q (splice cur.toList (k * k') ((List.replicate (es.length - k) z).flatten)).toArray) := by
          generalize hv : a.eval x = v at h1
          cases h1 with
          | osv _ _ _ _ _ h1c hgg hh =>
            obtain ⟨q', n', c', f1, f2, f3⟩ := hh (hg'.trans hg)
            rw [e1] at f1
            injection f1 with f1 f4 f5
            injection f1 with f1
            injection f1 with f1
            subst f1 f4 f5
            obtain ⟨p, hp⟩ : ∃ p, es.length - k = p + 1 := ⟨es.length - k - 1, by omega⟩
            rw [f3, if_neg (by omega)] at hv
            rw [hp] at hv hrow hzl ⊢
            simp only [execOp, hop, resolve, hc, invoke, builtin, Builtin.clear_, ht0, hx0, Sem.run_bind, Sem.run_pure, Result.andThen_ok, run_underlying hu, hv, hzr, hzl, hrow]
            rfl
        unfold Oper.wp
        rw [run, Oper.upon_value]
        refine hK _ _ ⟨ρ, ?_⟩
        have husl : us.length = es.length * k' := by rw [e10, flat_length e8]
        have htl : (es.take k).length = k := by rw [List.length_take]; omega
        have hflt : (es.take k ++ List.replicate (es.length - k) (z.map fun v => nz1 (.val v))).flatten = es.flatten.take (k * k') ++ (List.replicate (es.length - k) (z.map fun v => nz1 (.val v))).flatten := by
          rw [List.flatten_append, flat_take e8]
        have hzi : ((List.replicate (es.length - k) (z.map fun v => nz1 (.val v))).flatten).length = (es.length - k) * k' := by
          rw [flat_length (k := k') (fun x hx => by rw [List.eq_of_mem_replicate hx]; simpa using c4), List.length_replicate]
        have hst := hs.turn (w' := w.setRow q (splice cur.toList (k * k') ((List.replicate (es.length - k) z).flatten)).toArray) (k' := .row et' k' (es.take k ++ List.replicate (es.length - k) (z.map fun v => nz1 (.val v)))) (live_row hkd') (q := q) (by rw [e1]; rfl)
          ⟨rfl, rfl, rfl, by simp, fun k _ hk => setRow_other w q k _ (fun e => hk (by rw [e]))⟩ (fun c hc => by unfold Owns; rw [hkd']; exact hc) fun hI => by
            refine ⟨us.take (k * k') ++ (List.replicate (es.length - k) z).flatten, e7, fun y hy => ?_, by rw [List.length_append, htl, List.length_replicate]; omega, ?_, ?_, fun u hu => ?_, fun n u y hu hy => ?_⟩
            · rcases List.mem_append.1 hy with hy | hy
              · exact e8 y (List.mem_of_mem_take hy)
              · rw [List.eq_of_mem_replicate hy]; simpa using c4
            · have hll : (es.take k ++ List.replicate (es.length - k) (z.map fun v => nz1 (.val v))).length = es.length := by rw [List.length_append, htl, List.length_replicate]; omega
              rw [hll]
              refine ⟨by rw [List.length_append, List.length_take, hzlen, husl]; omega, .inr ⟨q, cap, _, e1, Nat.zero_le _, setRow_heap w q cur _ et' _ e2, e3, e4, ?_, ?_⟩⟩
              · rw [List.size_toArray, splice_length _ _ _ (by rw [hzlen]; simp; omega)]
                simpa using e5
              · rw [List.toList_toArray, take_splice _ _ _ _ (by rw [hzlen]; omega) (by simp; omega), e6]
                unfold splice
                rw [hzlen, hmul, List.drop_eq_nil_of_le (by omega), List.append_nil]
            · rw [hflt, List.length_append, List.length_append, List.length_take, List.length_take, hzlen, hzi, e10]
            · rcases List.mem_append.1 hu with hu | hu
              · exact e11 u (List.mem_of_mem_take hu)
              · exact hzone u hu
            · rw [hflt, List.getElem?_append, List.length_take, ← e10, Nat.min_eq_left (by omega)] at hy
              rw [List.getElem?_append, List.length_take, Nat.min_eq_left (by omega)] at hu
              split at hu
              · rename_i hlt
                rw [if_pos hlt, List.getElem?_take, if_pos hlt] at hy
                rw [List.getElem?_take, if_pos hlt] at hu
                exact hI _ _ (e12 n u y hu hy)
              · rename_i hlt
                rw [if_neg hlt, flat_rep_get] at hy
                rw [flat_rep_get] at hu
                split at hu
                · rename_i hlt2
                  rw [List.length_map, if_pos hlt2, List.getElem?_map, hu] at hy
                  simp only [Option.map_some, Option.some.injEq] at hy
                  rw [← hy]
                  exact nz1_rep (.val _)
                · cases hu
        rw [app_cons]
        exact hst.put (fun t e => dst_lt hd t e) (.im _ _ (.any _))
    · exact h.elim
  · exact h.elim
end

end Go.Proofs.YthahbiahlpcgeaaGreatDoor.Sym
