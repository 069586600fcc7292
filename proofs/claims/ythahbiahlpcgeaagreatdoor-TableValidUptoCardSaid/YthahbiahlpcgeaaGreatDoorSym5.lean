/-
  The plain reading's operations are the model's: parts, places, lengths, pieces of slices.
-/
import Derived.Test.YthahbiahlpcgeaaGreatDoorSym4
namespace Go.Proofs.YthahbiahlpcgeaaGreatDoor.Sym
open Go.RowKit

section
variable {P : Program} {B : Base} {o : Oper} {σ : St} {K : Fx → Prop}

theorem cellsA_one {w : World} {S : Nat → Prop} {ρ : Ly} {γ : Nat → Nat} {v : Value} {x : AV} {cs : List AV} (e : cellsA x = some cs) (h : RepA w S ρ γ v x) : ∀ u ∈ v.cells.toList, u.oneCell' = true := by
  have one : v.oneCell' = true → ∀ u ∈ v.cells.toList, u.oneCell' = true := fun h1 u hu => by
    have : v.cells = #[v] := by revert h1; cases v <;> simp [Value.oneCell', Value.cells]
    rw [this] at hu
    simp at hu
    rw [hu]; exact h1
  cases h with
  | im _ y hy =>
    cases hy with
    | val _ =>
      simp only [cellsA] at e
      split at e
      · rename_i hh
        intro u hu
        exact List.all_eq_true.1 hh u hu
      · cases e
    | any _ => cases e
    | ex _ h1 => exact one h1
    | emp _ _ => exact one rfl
    | sl _ _ _ _ _ _ _ _ _ _ _ _ _ _ _ _ => exact one rfl
    | agg us _ _ h1 _ => intro u hu; exact h1 u (by simpa [Value.cells] using hu)
    | ref _ _ _ _ _ _ _ _ _ => exact one rfl
    | fn _ _ _ _ _ => exact one rfl
  | own _ _ _ _ h1c _ _ => exact one h1c
  | osl _ _ _ h1c _ _ => exact one h1c
  | elt _ _ _ _ _ _ h1c _ _ => exact one h1c
  | sub _ _ _ _ h1c _ _ => exact one h1c
  | osv _ _ _ _ _ h1c _ _ => exact one h1c
  | elt2 _ _ _ _ _ _ _ h1c _ _ => exact one h1c
  | fn _ _ _ _ _ => exact one rfl
  | agg us _ _ h1 _ => intro u hu; exact h1 u (by simpa [Value.cells] using hu)
  | tup _ _ _ _ => cases e

theorem aggCs_rep {w : World} {S : Nat → Prop} {ρ : Ly} {γ : Nat → Nat} {v : Value} {x : AV} {cs : List AV} (e : aggCs x = some cs) (h : RepA w S ρ γ v x) : ∃ us : List Value, v = .agg us.toArray ∧ Reps w S ρ γ us cs ∧ ∀ u ∈ us, u.oneCell' = true := by
  unfold aggCs at e
  split at e
  · rename_i l
    injection e with e
    subst e
    cases h.im_inv with
    | agg us _ hl h1c hr =>
      refine ⟨us, rfl, ⟨by simpa using hl, fun i u y hu hy => ?_⟩, h1c⟩
      simp only [List.getElem?_map] at hy
      cases hc : l[i]? with
      | none => rw [hc] at hy; cases hy
      | some c =>
        rw [hc] at hy
        simp only [Option.map_some, Option.some.injEq] at hy
        rw [← hy]
        exact .im _ _ (hr i u c hu hc)
  · rename_i vs
    split at e
    case isFalse => cases e
    rename_i hh
    injection e with e
    subst e
    cases h.im_inv with
    | val _ =>
      refine ⟨vs.toList, by simp, ⟨by simp, fun i u y hu hy => ?_⟩, fun u hu => List.all_eq_true.1 hh u hu⟩
      simp only [List.getElem?_map, hu, Option.map_some, Option.some.injEq] at hy
      rw [← hy]
      exact .im _ _ (.val _)
  · rename_i l
    injection e with e
    subst e
    cases h with
    | agg us _ hl h1c hr => exact ⟨us, rfl, ⟨hl, hr⟩, h1c⟩
  · cases e

theorem aField_ok {t : TypeId} {x : Operand} {f : Nat} (hop : o.op = .field t x f) (hd : dstOk B.n o = true) (h : aField P o σ K t x f) : ∃ fx, K fx ∧ Eff P B o fx.rd σ fx.wr := by
  unfold aField at h
  split at h
  · rename_i off ft hf
    obtain ⟨fs, y, hu, hy, hyo, hyt⟩ := fld_spec hf
    split at h
    · rename_i cs hcs
      split at h
      · rename_i hagg
        split at h
        · rename_i c hc
          refine ⟨_, h, Eff.pure hd fun σ' hag a w ρ hs => ?_⟩
          have h1 := evA_ok hs x
          rw [evA_same hag] at h1
          obtain ⟨us, hv, hr, h1c⟩ := aggCs_rep hcs h1
          have hlt : off < us.length := by rw [hr.1]; exact (List.getElem?_eq_some_iff.1 hc).1
          obtain ⟨u, hu'⟩ : ∃ u, us[off]? = some u := ⟨_, List.getElem?_eq_getElem hlt⟩
          refine ⟨u, ?_, hr.2 off u c hu' hc⟩
          have ha := agg_run hagg w
          simp [execOp, hop, hv, Instr.field, run_underlying hu, hy, asAgg, part, hyt, ha, hyo, hu']
        · exact h.elim
      · rename_i hagg
        split at h
        · rename_i m hm
          obtain ⟨hi, h⟩ := h.ok
          have hi := ble_spec hi
          refine ⟨_, h, Eff.pure hd fun σ' hag a w ρ hs => ?_⟩
          have h1 := evA_ok hs x
          rw [evA_same hag] at h1
          obtain ⟨us, hv, hr, h1c⟩ := aggCs_rep hcs h1
          have ha := agg_run hagg w
          have hz := sz_run hm w
          refine ⟨.agg ((us.drop off).take m).toArray, ?_, aggA_rep ⟨by simp [hr.1], fun j u y hj hy' => ?_⟩ fun u hu' => h1c u (List.mem_of_mem_drop (List.mem_of_mem_take hu'))⟩
          · simp [execOp, hop, hv, Instr.field, run_underlying hu, hy, asAgg, part, hyt, ha, hyo, hz, List.drop_take]
          · exact hr.2 _ u y (drop_take_get hj).1 (drop_take_get hy').1
        · exact h.elim
      · exact h.elim
    · exact h.elim
  · exact h.elim

theorem aExtract_ok {x : Operand} {i : Nat} (hop : o.op = .extract x i) (hd : dstOk B.n o = true) (h : aExtract o σ K x i) : ∃ fx, K fx ∧ Eff P B o fx.rd σ fx.wr := by
  unfold aExtract at h
  split at h
  · rename_i l hx
    split at h
    · rename_i v hv
      refine ⟨_, h, Eff.pure hd fun σ' hag a w ρ hs => ?_⟩
      have h1 := evA_ok hs x
      rw [evA_same hag, hx] at h1
      generalize he : a.eval x = z at h1
      cases h1 with
      | tup us _ hl hr =>
        have hlt : i < us.length := by rw [hl]; exact (List.getElem?_eq_some_iff.1 hv).1
        obtain ⟨u, hu⟩ : ∃ u, us[i]? = some u := ⟨_, List.getElem?_eq_getElem hlt⟩
        exact ⟨u, by simp [execOp, hop, he, Instr.extract, hu], hr i u v hu hv⟩
    · exact h.elim
  · exact h.elim

theorem aMax_ok {c : Call} {x y : Operand} (hop : o.op = .call c) (hc : c.callee = .builtin .max) (ha : c.args.toList = [x, y]) (hd : dstOk B.n o = true) (h : aMax o σ K x y) : ∃ fx, K fx ∧ Eff P B o fx.rd σ fx.wr := by
  unfold aMax at h
  split at h
  · rename_i k b k' d hx hy
    obtain ⟨hk, h9⟩ := h.ok
    have hk := of_decide_eq_true hk
    subst hk
    refine ⟨_, h9, Eff.pure hd fun σ' hag a w ρ hs => ⟨_, ?_, val_rep _⟩⟩
    have h1 := evA_ok hs x
    have h2 := evA_ok hs y
    rw [evA_same (agree_l hag)] at h1
    rw [evA_same (agree_r hag)] at h2
    have e : (max b d : Int) = if d > b then d else b := by split <;> omega
    have hm : c.args.toList.map a.eval = [.int k b, .int k d] := by rw [ha]; simp [asInt_inv hx h1, asInt_inv hy h2]
    simp [execOp, hop, resolve, hc, invoke, builtin, Builtin.max_, hm, Builtin.max2, e]
  · exact h.elim
theorem aMin_ok {c : Call} {x y : Operand} (hop : o.op = .call c) (hc : c.callee = .builtin .min) (ha : c.args.toList = [x, y]) (hd : dstOk B.n o = true) (h : aMin o σ K x y) : ∃ fx, K fx ∧ Eff P B o fx.rd σ fx.wr := by
  unfold aMin at h
  split at h
  · rename_i k b k' d hx hy
    obtain ⟨hk, h9⟩ := h.ok
    have hk := of_decide_eq_true hk
    subst hk
    refine ⟨_, h9, Eff.pure hd fun σ' hag a w ρ hs => ⟨_, ?_, val_rep _⟩⟩
    have h1 := evA_ok hs x
    have h2 := evA_ok hs y
    rw [evA_same (agree_l hag)] at h1
    rw [evA_same (agree_r hag)] at h2
    have e : (min b d : Int) = if d < b then d else b := by split <;> omega
    have hm : c.args.toList.map a.eval = [.int k b, .int k d] := by rw [ha]; simp [asInt_inv hx h1, asInt_inv hy h2]
    simp [execOp, hop, resolve, hc, invoke, builtin, Builtin.min_, hm, Builtin.min2, e]
  · exact h.elim

theorem row_handle {a : Act} {w : World} {ρ : Ly} (h : SatR B σ a w ρ) {b kk : Nat} {t : TypeId} {es : List (List IV)} (hk : σ.kd b = .row t kk es) : ∃ A c, ρ b = .slice A es.length c := by
  have ho := h.obs b
  rw [hk] at ho
  obtain ⟨us, _, _, _, h4, _⟩ := ho
  rcases h4.2 with ⟨e, h0⟩ | ⟨g, cap, cur, e, _⟩
  · exact ⟨none, 0, by rw [e, h0]⟩
  · exact ⟨_, cap, e⟩

theorem aLen_ok {c : Call} {t : TypeId} {ts : List TypeId} {x : Operand} (hop : o.op = .call c) (hc : c.callee = .builtin .len) (ha : c.args.toList = [x]) (ht : c.argTypes.toList = t :: ts) (hd : dstOk B.n o = true) (h : aLen P o σ K t x) : ∃ fx, K fx ∧ Eff P B o fx.rd σ fx.wr := by
  have ht0 : c.argTypes[0]? = some t := by rw [← Array.getElem?_toList, ht]; rfl
  have hx0 : ∀ a : Act, (c.args.map a.eval)[0]? = some (a.eval x) := fun a => by rw [← Array.getElem?_toList, Array.toList_map, ha]; rfl
  unfold aLen at h
  split at h
  · rename_i e he
    have hu := elm_spec he
    have run : ∀ (a : Act) w A n cp, a.eval x = .slice A n cp → (execOp a.eval o).run P w = .ok (.value (.int .i64 n)) w := fun a w A n cp hv => by
      simp only [execOp, hop, resolve, hc, invoke, builtin, Builtin.len_, ht0, hx0, Sem.run_bind, Sem.run_pure, Result.andThen_ok, run_underlying hu, hv, goInt]
    split at h
    · rename_i es hx
      have h := h.out
      refine ⟨_, h, Eff.pure hd fun σ' hag a w ρ hs => ?_⟩
      have h1 := evA_ok hs x
      rw [evA_same hag, hx] at h1
      have h1 := h1.im_inv
      generalize hv : a.eval x = v at h1
      cases h1 with
      | emp A cp => exact ⟨_, run a w _ _ _ hv, val_rep _⟩
      | sl b q cp k n _ us hn => exact ⟨_, run a w _ _ _ hv, by rw [hn]; exact val_rep _⟩
    · rename_i A n cp hx
      refine ⟨_, h, Eff.pure hd fun σ' hag a w ρ hs => ?_⟩
      have h1 := evA_ok hs x
      rw [evA_same hag, hx] at h1
      have h1 := h1.im_inv
      generalize hv : a.eval x = v at h1
      cases h1 with
      | val _ => exact ⟨_, run a w _ _ _ hv, val_rep _⟩
    · rename_i b g hx
      split at h
      · rename_i t' kk es hk
        obtain ⟨hg, h⟩ := h.out
        have h := h.out
        refine ⟨_, h, Eff.pure hd fun σ' hag a w ρ hs => ?_⟩
        obtain ⟨ha', hg', hk', _⟩ := agree_gb hag
        have h1 := evA_ok hs x
        rw [evA_same ha', hx] at h1
        obtain ⟨A, cp, hρ⟩ := row_handle hs (hk'.trans hk)
        generalize hv : a.eval x = v at h1
        cases h1 with
        | osl _ _ _ h1c hgg hh =>
          rw [hh (hg'.trans hg), hρ] at hv
          exact ⟨_, run a w _ _ _ hv, val_rep _⟩
      · exact h.elim
    · exact h.elim
  · split at h
    · rename_i s hx
      obtain ⟨hstr, h⟩ := h.ok
      have hu : P.underlying t = some .string := by
        unfold isStr at hstr
        split at hstr
        · assumption
        · cases hstr
      refine ⟨_, h, Eff.pure hd fun σ' hag a w ρ hs => ⟨_, ?_, val_rep _⟩⟩
      have h1 := evA_ok hs x
      rw [evA_same hag] at h1
      simp only [execOp, hop, resolve, hc, invoke, builtin, Builtin.len_, ht0, hx0, Sem.run_bind, Sem.run_pure, Result.andThen_ok, run_underlying hu, asStr_inv hx h1, goInt]
    · exact h.elim

theorem aIndexAddr_ok {t : TypeId} {x i : Operand} (hop : o.op = .indexAddr t x i) (hd : dstOk B.n o = true) (h : aIndexAddr P o σ K t x i) : ∃ fx, K fx ∧ Eff P B o fx.rd σ fx.wr := by
  unfold aIndexAddr at h
  split at h
  · rename_i kk n et hi het
    have hu := elm_spec het
    have run : ∀ (a : Act) w q l (cp : Nat × Nat) k, a.eval x = .slice (some ⟨q, 0 + l, none⟩) cp.1 cp.2 → a.eval i = .int kk n → 0 ≤ n → n.toNat < cp.1 → szOf P et = some k → (execOp a.eval o).run P w = .ok (.value (.pointer (some ⟨q, 0 + l + n.toNat * k, none⟩))) w := fun a w q l cp k hv hn h0 hlt hk => by
      have hz := sz_run hk w
      have h3 : 0 ≤ n ∧ n < cp.1 := ⟨h0, by omega⟩
      simp only [execOp, hop, hv, hn, Instr.indexAt, asIntOf, Sem.run_bind, Sem.run_pure, Result.andThen_ok, run_underlying hu, if_pos h3, hz, addr_add]
    split at h
    · rename_i es hx
      obtain ⟨e, ⟨h0, he, hk⟩, h⟩ := h
      refine ⟨_, h, Eff.pure hd fun σ' hag a w ρ hs => ?_⟩
      have h1 := evA_ok hs x
      have h2 := evA_ok hs i
      rw [evA_same (agree_l hag), hx] at h1
      rw [evA_same (agree_r hag)] at h2
      have hn := asInt_inv hi h2
      have h1 := h1.im_inv
      generalize hv : a.eval x = v at h1
      cases h1 with
      | emp A cp => simp at he
      | sl b q cp k m _ us hm hkk hcap hsm hS hl h1c huc hr =>
        have hek : e.length = k := hkk e (List.mem_of_getElem? he)
        have hil : n.toNat < es.length := (List.getElem?_eq_some_iff.1 he).1
        have hfl := flat_length hkk
        have hmul : n.toNat * k + k ≤ es.length * k := by
          have := Nat.mul_le_mul_right k (show n.toNat + 1 ≤ es.length from hil)
          rw [Nat.add_mul] at this
          omega
        have hrun := run a w b q (m, cp) k (by rw [hv, Nat.zero_add]) hn h0 (by omega) (by rw [hk, hek])
        rw [Nat.zero_add] at hrun
        refine ⟨_, hrun, .im _ _ (.ref b (q + n.toNat * k) ((us.drop (n.toNat * k)).take k) e hS (by rw [List.length_take, List.length_drop, hl, hfl, hek]; omega) (fun u hu' => h1c u (List.mem_of_mem_drop (List.mem_of_mem_take hu'))) (fun j u hj => ?_) fun j u y hj hy => ?_)⟩
        · have := huc _ u (drop_take_get hj).1
          rwa [← Nat.add_assoc] at this
        · obtain ⟨h3, hjk⟩ := drop_take_get hj
          have hf := flat_get hkk he hjk
          rw [hy] at hf
          exact hr _ u y h3 hf
    · rename_i b g hx
      split at h
      · rename_i t' kk es hkd
        split at h
        · rename_i k hk
          obtain ⟨⟨h0, hg, hlt⟩, h⟩ := h.out
          refine ⟨_, h, Eff.pure hd fun σ' hag a w ρ hs => ?_⟩
          obtain ⟨ha', hg', hk', _⟩ := agree_gb hag
          have h1 := evA_ok hs x
          have h2 := evA_ok hs i
          rw [evA_same (agree_l ha'), hx] at h1
          rw [evA_same (agree_r ha')] at h2
          have hn := asInt_inv hi h2
          obtain ⟨A, cp, hρ⟩ := row_handle hs (hk'.trans hkd)
          have ho := hs.obs b
          rw [hk'.trans hkd] at ho
          obtain ⟨us, _, _, _, h4, _⟩ := ho
          obtain ⟨q, cp', hform⟩ := World.ownsRow.form h4 (by omega)
          generalize hv : a.eval x = v at h1
          cases h1 with
          | osl _ _ _ h1c hgg hh =>
            rw [hh (hg'.trans hg), hform.1] at hv
            have hrun := run a w q 0 (es.length, cp') k hv hn h0 hlt hk
            rw [Nat.add_zero, Nat.zero_add] at hrun
            exact ⟨_, hrun, .elt _ b g k n.toNat 0 rfl hgg fun _ => ⟨q, _, cp', hform.1, rfl⟩⟩
        · exact h.elim
      · exact h.elim
    · exact h.elim
  · exact h.elim

theorem flat_take {α : Type} {k : Nat} : ∀ {es : List (List α)} {n : Nat}, (∀ x ∈ es, x.length = k) → (es.take n).flatten = es.flatten.take (n * k)
  | [], n, _ => by simp
  | x :: es, 0, _ => by simp
  | x :: es, n + 1, h => by
    have hx := h x (by simp)
    rw [List.take_succ_cons, List.flatten_cons, flat_take fun y hy => h y (by simp [hy]), List.flatten_cons, List.take_append, hx, Nat.add_mul, Nat.one_mul, Nat.add_sub_cancel, List.take_of_length_le (l := x) (by omega)]
theorem flat_drop {α : Type} {k : Nat} : ∀ {es : List (List α)} {n : Nat}, (∀ x ∈ es, x.length = k) → (es.drop n).flatten = es.flatten.drop (n * k)
  | [], n, _ => by simp
  | x :: es, 0, _ => by simp
  | x :: es, n + 1, h => by
    have hx := h x (by simp)
    rw [List.drop_succ_cons, flat_drop fun y hy => h y (by simp [hy]), List.flatten_cons, List.drop_append, hx, Nat.add_mul, Nat.one_mul, Nat.add_sub_cancel, List.drop_of_length_le (l := x) (by omega), List.nil_append]
theorem flat_cut {α : Type} {k : Nat} {es : List (List α)} {l r : Nat} (h : ∀ x ∈ es, x.length = k) (_ : l ≤ r) : ((es.take r).drop l).flatten = (es.flatten.take (r * k)).drop (l * k) := by
  rw [flat_drop fun x hx => h x (List.mem_of_mem_take hx), flat_take h]

theorem optI_same {σ' : St} {d : Int} {x : Option Operand} (h : ∀ l ∈ (x.map opd).getD [], σ' l = σ l) : optI σ' d x = optI σ d x := by
  cases x with
  | none => rfl
  | some y =>
    show (Sym.asInt (evA σ' y)).map (·.2) = (Sym.asInt (evA σ y)).map (·.2)
    rw [evA_same (x := y) (by simpa using h)]

theorem aSlice_ok {t : TypeId} {x : Operand} {lo hi : Option Operand} (hop : o.op = .slice t x lo hi none) (hd : dstOk B.n o = true) (h : aSlice P o σ K t x lo hi) : ∃ fx, K fx ∧ Eff P B o fx.rd σ fx.wr := by
  unfold aSlice at h
  split at h
  · rename_i et het
    have hu := elm_spec het
    split at h
    case h_2 => exact h.elim
    rename_i k hz
    split at h
    · rename_i es hx
      split at h
      · rename_i l r hl hr
        obtain ⟨⟨h0, hlr, hre, hk⟩, h⟩ := h.out
        have h := h.out
        refine ⟨_, h, Eff.pure hd fun σ' hag a w ρ hs => ?_⟩
        have hag1 := agree_l (agree_l hag)
        have hl' := optI_same (d := 0) (agree_r (agree_l hag))
        have hr' := optI_same (d := es.length) (agree_r hag)
        rw [hl] at hl'
        rw [hr] at hr'
        have bound : ∀ (y : Operand) (n : Int) (m : Nat) (c : BoundsCode), (Sym.asInt (evA σ' y)).map (·.2) = some n → 0 ≤ n → n ≤ m → (Instr.sliceBound (a.eval y) m c).run P w = .ok n.toNat w := fun y n m c e e0 em => by
          have h2 := evA_ok hs y
          cases hy : Sym.asInt (evA σ' y) with
          | none => rw [hy] at e; cases e
          | some p =>
            obtain ⟨k1, n1⟩ := p
            rw [hy] at e
            simp only [Option.map_some, Option.some.injEq] at e
            subst e
            have h3 : 0 ≤ n1 ∧ n1 ≤ m := ⟨e0, em⟩
            simp only [asInt_inv hy h2, Instr.sliceBound, asIntOf, Sem.run_bind, Sem.run_pure, Result.andThen_ok, if_pos h3]
        have bnds : ∀ n cp : Nat, n = es.length → n ≤ cp → (Instr.sliceBounds true n cp (lo.map a.eval) (hi.map a.eval) none).run P w = .ok (l.toNat, r.toNat, cp) w := fun n cp e1 e2 => by
          have bh : ∀ y c, hi = some y → (Instr.sliceBound (a.eval y) cp c).run P w = .ok r.toNat w := fun y c e => bound y r cp c (by rw [← hr', e]; rfl) (by omega) (by omega)
          have bl : ∀ y c, lo = some y → (Instr.sliceBound (a.eval y) r.toNat c).run P w = .ok l.toNat w := fun y c e => bound y l r.toNat c (by rw [← hl', e]; rfl) h0 (by omega)
          have nh : hi = none → r.toNat = n := fun e => by
            rw [e] at hr'
            simp only [optI, Option.some.injEq] at hr'
            rw [← hr', e1]
            rfl
          have nl : lo = none → l.toNat = 0 := fun e => by
            rw [e] at hl'
            simp only [optI, Option.some.injEq] at hl'
            rw [← hl']
            rfl
          unfold Instr.sliceBounds
          cases hi with
          | none =>
            have e3 := nh rfl
            cases lo with
            | none =>
              have e4 := nl rfl
              simp [e3, e4]
            | some y =>
              have b1 := fun c => bl y c rfl
              rw [e3] at b1
              simp [e3, b1]
          | some z =>
            have b2 := fun c => bh z c rfl
            cases lo with
            | none =>
              have e4 := nl rfl
              simp [e4, b2]
            | some y =>
              have b1 := fun c => bl y c rfl
              simp [b1, b2]
        have run : ∀ A n cp, a.eval x = .slice A n cp → n = es.length → n ≤ cp → (execOp a.eval o).run P w = .ok (.value (.slice (if cp = l.toNat then A else A.map (·.add (l.toNat * k))) (r.toNat - l.toNat) (cp - l.toNat))) w := fun A n cp hv hn hcp => by
          have hz := sz_run hz w
          have hb := bnds n cp hn hcp
          simp only [execOp, hop, hv, Instr.sliceAt, Instr.slice, Sem.run_bind, Sem.run_pure, Result.andThen_ok, run_underlying hu, Option.map_none, hb, hz]
        have h1 := evA_ok hs x
        rw [evA_same hag1] at h1
        cases hxx : evA σ x with
        | im y =>
          rw [hxx] at h1 hx
          have hx : nz y = .sl es := hx
          have h1 := h1.im_inv
          have nilcase : ∀ A cp, a.eval x = .slice A 0 cp → es = [] → ∃ u, (execOp a.eval o).run P w = .ok (.value u) w ∧ RepA w (Imm B σ' ρ w) ρ σ'.gn u (.im (.sl ((es.take r.toNat).drop l.toNat))) := fun A cp e1 e2 => by
            have hr := run A 0 cp e1 (by rw [e2]; rfl) (Nat.zero_le _)
            have er : r.toNat = 0 := by rw [e2] at hre; simp at hre; omega
            have el : l.toNat = 0 := by omega
            rw [er, el] at hr
            exact ⟨_, hr, by rw [e2]; simp only [List.take_nil, List.drop_nil]; exact .im _ _ (.emp _ _)⟩
          generalize hv : a.eval x = v at h1
          cases h1 with
          | val _ =>
            obtain ⟨rfl, rfl⟩ : v = .slice none 0 0 ∧ es = [] := by
              unfold nz nz1 at hx
              split at hx
              · cases hx
              · split at hx
                · cases hx
                · cases hx
              · split at hx
                · rename_i e
                  injection e with e
                  injection hx with hx
                  exact ⟨e, hx.symm⟩
                · cases hx
                · cases hx
            exact nilcase _ _ hv rfl
          | emp A cp =>
            injection hx with hx
            exact nilcase _ _ hv hx.symm
          | sl b q cp k' m ees us hm hkk hcap hsm hS hll h1c huc hrr =>
            injection hx with hx
            subst hx
            by_cases hemp : r.toNat = l.toNat
            · have hrun := run _ m cp hv hm.symm hcap
              have e0 : (ees.take r.toNat).drop l.toNat = [] := List.drop_eq_nil_of_le (by rw [List.length_take]; omega)
              rw [e0]
              rw [hemp, Nat.sub_self] at hrun
              exact ⟨_, hrun, .im _ _ (.emp _ _)⟩
            · have hrun := run _ m cp hv hm.symm hcap
              have hne : ¬ cp = l.toNat := by omega
              rw [if_neg hne, Option.map_some, addr_add] at hrun
              have hsub : ∀ e ∈ (ees.take r.toNat).drop l.toNat, e ∈ ees := fun e he => List.mem_of_mem_take (List.mem_of_mem_drop he)
              have hfc : ((ees.take r.toNat).drop l.toNat).flatten = (ees.flatten.take (r.toNat * k)).drop (l.toNat * k) := flat_cut hk (by omega)
              have hfl := flat_length hk
              refine ⟨_, hrun, .im _ _ (.sl b (q + l.toNat * k) (cp - l.toNat) k (r.toNat - l.toNat) _ ((us.take (r.toNat * k)).drop (l.toNat * k)) ?_ (fun e he => hk e (hsub e he)) (by omega) (by omega) hS ?_ (fun u hu' => h1c u (List.mem_of_mem_take (List.mem_of_mem_drop hu'))) (fun j u hj => ?_) fun j u y hj hy => ?_)⟩
              · rw [List.length_drop, List.length_take]; omega
              · rw [hfc, List.length_drop, List.length_take, List.length_drop, List.length_take, hll]
              · rw [List.getElem?_drop, List.getElem?_take] at hj
                split at hj
                · have := huc _ u hj
                  rwa [← Nat.add_assoc] at this
                · cases hj
              · rw [hfc, List.getElem?_drop, List.getElem?_take] at hy
                rw [List.getElem?_drop, List.getElem?_take] at hj
                split at hj
                · rename_i hlt
                  rw [if_pos hlt] at hy
                  exact hrr _ u y hj hy
                · cases hj
          | _ => cases hx
        | _ => rw [hxx] at hx; cases hx
      · exact h.elim
    · exact h.elim
  · exact h.elim
end

end Go.Proofs.YthahbiahlpcgeaaGreatDoor.Sym
