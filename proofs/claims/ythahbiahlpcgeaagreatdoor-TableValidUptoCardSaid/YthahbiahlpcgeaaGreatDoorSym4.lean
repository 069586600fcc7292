/-
  The plain reading's operations are the model's: operations that read memory.
-/
import Derived.Test.YthahbiahlpcgeaaGreatDoorSym3
namespace Go.Proofs.YthahbiahlpcgeaaGreatDoor.Sym
open Go.RowKit

section
variable {P : Program} {B : Base} {o : Oper} {σ : St} {K : Fx → Prop}

theorem agg_run {t : TypeId} {b : Bool} (h : aggOf P t = some b) (w : World) : (isAgg t).run P w = .ok b w := by
  unfold aggOf at h
  cases hu : P.underlying t with
  | none => rw [hu] at h; cases h
  | some d =>
    rw [hu] at h
    simp only [Option.map_some, Option.some.injEq] at h
    cases d <;> simp_all [isAgg, run_underlying hu]
theorem sz_run {t : TypeId} {m : Nat} (h : szOf P t = some m) (w : World) : (Go.sizeOf t).run P w = .ok m w := by
  unfold szOf at h
  cases hi : P.info? t with
  | none => rw [hi] at h; cases h
  | some i =>
    rw [hi] at h
    simp only [Option.map_some, Option.some.injEq] at h
    simp [Go.sizeOf, typeInfo, hi, h]
theorem fld_spec {t : TypeId} {f off ft : Nat} (h : fldOf P t f = some (off, ft)) : ∃ fs x, P.underlying t = some (.struct fs) ∧ fs[f]? = some x ∧ x.offset = off ∧ x.type = ft := by
  unfold fldOf at h
  split at h
  · rename_i fs hu
    cases hx : fs[f]? with
    | none => rw [hx] at h; cases h
    | some x =>
      rw [hx] at h
      simp only [Option.map_some, Option.some.injEq, Prod.mk.injEq] at h
      exact ⟨fs, x, hu, hx, h.1, h.2⟩
  · cases h
theorem elm_spec {t e : TypeId} (h : elmOf P t = some e) : P.underlying t = some (.slice e) := by
  unfold elmOf at h
  split at h
  · rename_i e' hu
    injection h with h
    rw [← h]; exact hu
  · cases h

theorem gn_same {σ' : St} {b : Nat} (h : σ' (.gen b) = σ (.gen b)) : σ'.gn b = σ.gn b := by unfold St.gn; rw [h]
theorem kd_same {σ' : St} {b : Nat} (h : σ' (.knd b) = σ (.knd b)) : σ'.kd b = σ.kd b := by unfold St.kd; rw [h]
theorem ce_same {σ' : St} {b i : Nat} (h : σ' (.cel b i) = σ (.cel b i)) : σ'.ce b i = σ.ce b i := by unfold St.ce; rw [h]
theorem boxLen_same {σ' : St} {b : Nat} (h : σ'.kd b = σ.kd b) : boxLen σ' b = boxLen σ b := by unfold boxLen; rw [h]

theorem toIVs_spec : ∀ {cs : List AV} {l : List IV}, toIVs cs = some l → cs = l.map .im
  | [], l, h => by simp only [toIVs, Option.some.injEq] at h; subst h; rfl
  | .im x :: cs, l, h => by
    simp only [toIVs] at h
    cases hc : toIVs cs with
    | none => rw [hc] at h; cases h
    | some l' =>
      rw [hc] at h
      simp only [Option.map_some, Option.some.injEq] at h
      subst h
      rw [toIVs_spec hc]
      rfl
  | .own .. :: _, _, h => by cases h
  | .osl .. :: _, _, h => by cases h
  | .elt .. :: _, _, h => by cases h
  | .fn .. :: _, _, h => by cases h
  | .agg .. :: _, _, h => by cases h
  | .tup .. :: _, _, h => by cases h

/-- Value by value. -/
def Reps (w : World) (S : Nat → Prop) (ρ : Ly) (γ : Nat → Nat) (us : List Value) (cs : List AV) : Prop :=
  us.length = cs.length ∧ ∀ (i : Nat) u x, us[i]? = some u → cs[i]? = some x → RepA w S ρ γ u x
def RepIs (w : World) (S : Nat → Prop) (us : List Value) (cs : List IV) : Prop :=
  us.length = cs.length ∧ ∀ (i : Nat) u x, us[i]? = some u → cs[i]? = some x → RepI w S u x

theorem Reps.ims {w : World} {S : Nat → Prop} {ρ : Ly} {γ : Nat → Nat} {us : List Value} {l : List IV} (h : Reps w S ρ γ us (l.map .im)) : RepIs w S us l :=
  ⟨by simpa using h.1, fun i u x hu hx => (h.2 i u (.im x) hu (by simp [hx])).im_inv⟩

theorem aggA_rep {w : World} {S : Nat → Prop} {ρ : Ly} {γ : Nat → Nat} {us : List Value} {cs : List AV} (h : Reps w S ρ γ us cs) (h1 : ∀ u ∈ us, u.oneCell' = true) : RepA w S ρ γ (.agg us.toArray) (aggA cs) := by
  unfold aggA
  split
  · rename_i l hl
    have e := toIVs_spec hl
    rw [e] at h
    have h := h.ims
    exact .im _ _ (.agg us l h.1 h1 h.2)
  · exact .agg us cs h.1 h1 h.2

theorem box_read {a : Act} {w : World} {ρ : Ly} (h : SatR B σ a w ρ) {v : Value} {b g i m : Nat} {t : TypeId} (hv : RepA w (Imm B σ ρ w) ρ σ.gn v (.own b g i)) (hg : σ.gn b = g) (hk : σ.kd b = .box t m) :
    ∃ (q : Nat) (us : List Value), v = .pointer (some ⟨q, i, none⟩) ∧ ρ b = .pointer (some ⟨q, 0, none⟩) ∧ w.heap[q]? = some (.cells us.toArray t (0, 0)) ∧ us.length = m ∧ (∀ u ∈ us, u.oneCell' = true) ∧
      (∀ (j : Nat) u, us[j]? = some u → w.cell? ⟨q, j, none⟩ = some u) ∧ ∀ (j : Nat) u, us[j]? = some u → RepA w (Imm B σ ρ w) ρ σ.gn u (σ.ce b j) := by
  cases hv with
  | own _ _ _ _ h1 hgg hh =>
    obtain ⟨q, e1, e2⟩ := hh hg
    have ho := h.obs b
    rw [hk] at ho
    obtain ⟨q', us, e3, h3, h4, h5, h6⟩ := ho
    rw [e1] at e3
    injection e3 with e3
    injection e3 with e3
    injection e3 with e3
    subst e3
    refine ⟨q, us, e2, e1, h3, h4, h5, fun j u hu => ?_, h6⟩
    unfold World.cell?
    simp only [h3]
    simpa using hu

theorem boxLen_spec {b i : Nat} (h : i < boxLen σ b) : ∃ t m, σ.kd b = .box t m ∧ i < m := by
  unfold boxLen at h
  split at h
  · rename_i t m hk; exact ⟨t, m, hk, h⟩
  · omega
theorem boxLen_eq {b : Nat} {t : TypeId} {m : Nat} (h : σ.kd b = .box t m) : boxLen σ b = m := by unfold boxLen; rw [h]

theorem flat_get {α : Type} {k : Nat} : ∀ {es : List (List α)} {i j : Nat} {e : List α}, (∀ x ∈ es, x.length = k) → es[i]? = some e → j < k → es.flatten[i * k + j]? = e[j]?
  | [], i, j, e, _, h, _ => by simp at h
  | x :: es, 0, j, e, hk, h, hj => by
    simp only [List.getElem?_cons_zero, Option.some.injEq] at h
    subst h
    have := hk x (by simp)
    rw [List.flatten_cons, Nat.zero_mul, Nat.zero_add, List.getElem?_append, if_pos (by omega)]
  | x :: es, i + 1, j, e, hk, h, hj => by
    have hx := hk x (by simp)
    rw [List.flatten_cons, List.getElem?_append, if_neg (by rw [hx, Nat.add_mul]; omega), hx]
    have e1 : (i + 1) * k + j - k = i * k + j := by rw [Nat.add_mul]; omega
    rw [e1]
    exact flat_get (fun y hy => hk y (by simp [hy])) (by simpa using h) hj

theorem flat_length {α : Type} {k : Nat} : ∀ {es : List (List α)}, (∀ x ∈ es, x.length = k) → es.flatten.length = es.length * k
  | [], _ => by simp
  | x :: es, h => by
    rw [List.flatten_cons, List.length_append, flat_length fun y hy => h y (by simp [hy]), h x (by simp), List.length_cons, Nat.add_mul]
    omega

theorem elt_read {a : Act} {w : World} {ρ : Ly} (h : SatR B σ a w ρ) {v : Value} {b g k kk i j : Nat} {t : TypeId} {es : List (List IV)} {e : List IV} (hv : RepA w (Imm B σ ρ w) ρ σ.gn v (.elt b g k i j)) (hg : σ.gn b = g) (hk : σ.kd b = .row t kk es)
    (he : es[i]? = some e) (hek : e.length = k) : ∃ (q : Nat) (us : List Value), v = .pointer (some ⟨q, i * k + j, none⟩) ∧ us.length = es.flatten.length ∧ (∀ x ∈ es, x.length = k) ∧ (∀ u ∈ us, u.oneCell' = true) ∧
      (∀ (p : Nat) u, us[p]? = some u → w.cell? ⟨q, p, none⟩ = some u) ∧ ∀ (p : Nat) u x, us[p]? = some u → es.flatten[p]? = some x → RepI w (Imm B σ ρ w) u x := by
  cases hv with
  | elt _ _ _ _ _ _ h1 hgg hh =>
    obtain ⟨q, n, c, e1, e2⟩ := hh hg
    have ho := h.obs b
    rw [hk] at ho
    obtain ⟨us, h2, h3, h4, h5, h6, h7, h8⟩ := ho
    have hkk : kk = k := by rw [← hek]; exact (h3 e (List.mem_of_getElem? he)).symm
    subst hkk
    refine ⟨q, us, e2, h6, h3, h7, fun p u hu => ?_, h8⟩
    have := h5.cells (g := q) (by rw [e1]; rfl) p u hu
    rw [addr_add, Nat.zero_add] at this
    exact this

theorem blt_spec {a b : Nat} (h : Nat.blt a b = true) : a < b := by simp [Nat.blt] at h; omega
theorem ble_spec {a b : Nat} (h : Nat.ble a b = true) : a ≤ b := by simpa using h

theorem load_one {t : TypeId} (h : aggOf P t = some false) {ad : Addr} {w : World} {u : Value} (hu : w.cell? ad = some u) : (Instr.loadAt t (.pointer (some ad))).run P w = .ok u w := by
  simp [Instr.loadAt, Instr.sureAddr, loadVar, agg_run h, hu]
theorem load_many {t : TypeId} {us : List Value} (h : aggOf P t = some true) (hs : szOf P t = some us.length) {b q : Nat} {w : World} (hu : ∀ (j : Nat) u, us[j]? = some u → w.cell? ⟨b, q + j, none⟩ = some u) : (Instr.loadAt t (.pointer (some ⟨b, q, none⟩))).run P w = .ok (.agg us.toArray) w := by
  have := run_loadCells_list (P := P) (w := w) ⟨b, q, none⟩ us (fun j u hj => by rw [addr_add]; exact hu j u hj)
  simp [Instr.loadAt, Instr.sureAddr, loadVar, agg_run h, sz_run hs, this]

theorem drop_take_get {α : Type} {l : List α} {i m j : Nat} {x : α} (h : ((l.drop i).take m)[j]? = some x) : l[i + j]? = some x ∧ j < m := by
  rw [List.getElem?_take] at h
  split at h
  · rename_i hj
    rw [List.getElem?_drop] at h
    exact ⟨h, hj⟩
  · cases h

theorem agree_gb {σ' : St} {l : List Loc} {b : Nat} {r : List Loc} (h : ∀ x ∈ l ++ (.gen b :: .knd b :: r), σ' x = σ x) : (∀ x ∈ l, σ' x = σ x) ∧ σ'.gn b = σ.gn b ∧ σ'.kd b = σ.kd b ∧ ∀ x ∈ r, σ' x = σ x :=
  ⟨agree_l h, gn_same (agree_r h _ (by simp)), kd_same (agree_r h _ (by simp)), fun x hx => agree_r h x (by simp [hx])⟩

theorem aLoad_ok {t : TypeId} {p : Operand} (hop : o.op = .load t p) (hd : dstOk B.n o = true) (h : aLoad P o σ K t p) : ∃ fx, K fx ∧ Eff P B o fx.rd σ fx.wr := by
  have run : ∀ (a : Act) w v, (Instr.loadAt t (a.eval p)).run P w = .ok v w → (execOp a.eval o).run P w = .ok (.value v) w := fun a w v hv => by simp [execOp, hop, hv]
  unfold aLoad at h
  split at h
  · rename_i hagg
    split at h
    · rename_i c cs hp
      refine ⟨_, h, Eff.pure hd fun σ' hag a w ρ hs => ?_⟩
      have h1 := evA_ok hs p
      rw [evA_same hag, hp] at h1
      have h1 := h1.im_inv
      generalize hv : a.eval p = v at h1
      cases h1 with
      | ref b q us _ hS hl h1c hu hr =>
        have hlen : 0 < us.length := by rw [hl]; simp
        obtain ⟨u, hu0⟩ : ∃ u, us[0]? = some u := ⟨_, List.getElem?_eq_getElem hlen⟩
        exact ⟨u, run a w u (by rw [hv]; exact load_one hagg (hu 0 u hu0)), .im _ _ (hr 0 u c hu0 rfl)⟩
    · rename_i b g i hp
      obtain ⟨hi, h⟩ := h.ok
      obtain ⟨hg, h⟩ := h.out
      obtain ⟨t', m, hk, him⟩ := boxLen_spec (blt_spec hi)
      refine ⟨_, h, Eff.pure hd fun σ' hag a w ρ hs => ?_⟩
      obtain ⟨ha, hg', hk', hr'⟩ := agree_gb hag
      have h1 := evA_ok hs p
      rw [evA_same ha, hp] at h1
      obtain ⟨q, us, e, _, _, hl, h1c, hc, hr⟩ := box_read hs h1 (hg'.trans hg) (hk'.trans hk)
      obtain ⟨u, hu⟩ : ∃ u, us[i]? = some u := ⟨_, List.getElem?_eq_getElem (by omega)⟩
      refine ⟨u, run a w u (by rw [e]; exact load_one hagg (hc i u hu)), ?_⟩
      rw [← ce_same (hr' (.cel b i) (by simp))]
      exact hr i u hu
    · rename_i b g k i j hp
      split at h
      · rename_i t' kk es hk
        obtain ⟨e, c, ⟨hg, he, hc, hek⟩, h⟩ := h
        refine ⟨_, h, Eff.pure hd fun σ' hag a w ρ hs => ?_⟩
        obtain ⟨ha, hg', hk', _⟩ := agree_gb hag
        have h1 := evA_ok hs p
        rw [evA_same ha, hp] at h1
        obtain ⟨q, us, ev, hl, hkk, h1c, hcc, hr⟩ := elt_read hs h1 (hg'.trans hg) (hk'.trans hk) he hek
        have hj : j < k := by rw [← hek]; exact (List.getElem?_eq_some_iff.1 hc).1
        have hf := flat_get hkk he hj
        rw [hc] at hf
        obtain ⟨u, hu⟩ : ∃ u, us[i * k + j]? = some u := ⟨_, List.getElem?_eq_getElem (by rw [hl]; exact (List.getElem?_eq_some_iff.1 hf).1)⟩
        exact ⟨u, run a w u (by rw [ev]; exact load_one hagg (hcc _ u hu)), .im _ _ (hr _ u c hu hf)⟩
      · exact h.elim
    · exact h.elim
  · rename_i hagg
    split at h
    · rename_i m hm
      split at h
      · rename_i cs hp
        obtain ⟨hi, h⟩ := h.ok
        have hi := ble_spec hi
        refine ⟨_, h, Eff.pure hd fun σ' hag a w ρ hs => ?_⟩
        have h1 := evA_ok hs p
        rw [evA_same hag, hp] at h1
        have h1 := h1.im_inv
        generalize hv : a.eval p = v at h1
        cases h1 with
        | ref b q us _ hS hl h1c hu hr =>
          have hlt : (us.take m).length = m := by rw [List.length_take]; omega
          refine ⟨.agg (us.take m).toArray, run a w _ (by
            rw [hv]
            exact load_many hagg (by rw [hlt]; exact hm) fun j u hj => hu j u (by rw [List.getElem?_take] at hj; split at hj; exact hj; cases hj)), .im _ _ (.agg _ _ (by rw [hlt, List.length_take]; omega) (fun u hu' => h1c u (List.mem_of_mem_take hu')) fun j u x hj hx => ?_)⟩
          rw [List.getElem?_take] at hj hx
          split at hj
          · rename_i hjm
            rw [if_pos hjm] at hx
            exact hr j u x hj hx
          · cases hj
      · rename_i b g i hp
        obtain ⟨hi, h⟩ := h.ok
        obtain ⟨hg, h⟩ := h.out
        rw [Bool.and_eq_true] at hi
        have hm0 := blt_spec hi.1
        have hi := ble_spec hi.2
        refine ⟨_, h, Eff.pure hd fun σ' hag a w ρ hs => ?_⟩
        have hag' : ∀ x ∈ opd p ++ (.gen b :: .knd b :: (List.range m).map (fun j => Loc.cel b (i + j))), σ' x = σ x := fun x hx => hag x (by simpa using hx)
        obtain ⟨ha, hg', hk', hr'⟩ := agree_gb hag'
        have h1 := evA_ok hs p
        rw [evA_same ha, hp] at h1
        obtain ⟨t', m', hk, him⟩ := boxLen_spec (σ := σ) (b := b) (i := i) (by omega)
        obtain ⟨q, us, e, _, _, hl, h1c, hc, hr⟩ := box_read hs h1 (hg'.trans hg) (hk'.trans hk)
        have hbl := boxLen_eq hk
        have hlt : ((us.drop i).take m).length = m := by rw [List.length_take, List.length_drop]; omega
        refine ⟨.agg ((us.drop i).take m).toArray, run a w _ (by
          rw [e]
          exact load_many hagg (by rw [hlt]; exact hm) fun j u hj => hc (i + j) u (drop_take_get hj).1), aggA_rep ⟨by rw [hlt]; simp, fun j u x hj hx => ?_⟩ fun u hu => h1c u (List.mem_of_mem_drop (List.mem_of_mem_take hu))⟩
        obtain ⟨h3, hjm⟩ := drop_take_get hj
        simp only [List.getElem?_map, List.getElem?_range hjm, Option.map_some, Option.some.injEq] at hx
        rw [← hx, ← ce_same (hr' (.cel b (i + j)) (by simp; exact hjm))]
        exact hr _ u h3
      · rename_i b g k i j hp
        split at h
        · rename_i t' kk es hk
          obtain ⟨e, ⟨hg, he, hje, hek⟩, h⟩ := h
          refine ⟨_, h, Eff.pure hd fun σ' hag a w ρ hs => ?_⟩
          obtain ⟨ha, hg', hk', _⟩ := agree_gb hag
          have h1 := evA_ok hs p
          rw [evA_same ha, hp] at h1
          obtain ⟨q, us, ev, hl, hkk, h1c, hcc, hr⟩ := elt_read hs h1 (hg'.trans hg) (hk'.trans hk) he hek
          have hil : i < es.length := (List.getElem?_eq_some_iff.1 he).1
          have hfl := flat_length hkk
          have hmul : i * k + k ≤ es.length * k := by
            have := Nat.mul_le_mul_right k (show i + 1 ≤ es.length from hil)
            rw [Nat.add_mul] at this
            omega
          have hlt : ((us.drop (i * k + j)).take m).length = m := by rw [List.length_take, List.length_drop, hl, hfl]; omega
          refine ⟨.agg ((us.drop (i * k + j)).take m).toArray, run a w _ (by
            rw [ev]
            exact load_many hagg (by rw [hlt]; exact hm) fun p u hj => hcc _ u (drop_take_get hj).1), .im _ _ (.agg _ _ (by rw [hlt, List.length_take, List.length_drop]; omega) (fun u hu => h1c u (List.mem_of_mem_drop (List.mem_of_mem_take hu))) fun p u x hj hx => ?_)⟩
          obtain ⟨h3, hpm⟩ := drop_take_get hj
          obtain ⟨h4, _⟩ := drop_take_get hx
          have hf := flat_get hkk he (j := j + p) (by omega)
          rw [h4, ← Nat.add_assoc] at hf
          exact hr _ u x h3 hf
        · exact h.elim
      · exact h.elim
    · exact h.elim
  · exact h.elim

theorem aFieldAddr_ok {t : TypeId} {p : Operand} {f : Nat} (hop : o.op = .fieldAddr t p f) (hd : dstOk B.n o = true) (h : aFieldAddr P o σ K t p f) : ∃ fx, K fx ∧ Eff P B o fx.rd σ fx.wr := by
  unfold aFieldAddr at h
  split at h
  · rename_i off ft hf
    split at h
    · rename_i m hm
      obtain ⟨h0, h⟩ := h.ok
      have h0 := blt_spec h0
      obtain ⟨fs, x, hu, hx, hxo, hxt⟩ := fld_spec hf
      have run : ∀ (a : Act) w q i, a.eval p = .pointer (some ⟨q, i, none⟩) → (execOp a.eval o).run P w = .ok (.value (.pointer (some ⟨q, i + off, none⟩))) w := fun a w q i hv => by
        have hsz := sz_run hm w
        have hne : ¬ m = 0 := by omega
        simp [execOp, hop, hv, Instr.fieldAt, run_underlying hu, hx, Instr.sureAddr, fieldPlace, hxt, hsz, hne, addr_add, hxo]
      split at h
      · rename_i cs hp
        refine ⟨_, h, Eff.pure hd fun σ' hag a w ρ hs => ?_⟩
        have h1 := evA_ok hs p
        rw [evA_same hag, hp] at h1
        have h1 := h1.im_inv
        generalize hv : a.eval p = v at h1
        cases h1 with
        | ref b q us _ hS hl h1c hu hr =>
          refine ⟨_, run a w b q hv, .im _ _ (.ref b (q + off) (us.drop off) (cs.drop off) hS (by simp [hl]) (fun u hu' => h1c u (List.mem_of_mem_drop hu')) (fun j u hj => ?_) fun j u y hj hy => ?_)⟩
          · rw [List.getElem?_drop] at hj
            have := hu _ u hj
            rwa [← Nat.add_assoc] at this
          · rw [List.getElem?_drop] at hj hy
            exact hr _ u y hj hy
      · rename_i b g i hp
        obtain ⟨hg, h⟩ := h.out
        refine ⟨_, h, Eff.pure hd fun σ' hag a w ρ hs => ?_⟩
        have h1 := evA_ok hs p
        rw [evA_same (agree_l hag), hp] at h1
        have hg' := (gn_same (agree_r hag (.gen b) (by simp))).trans hg
        generalize hv : a.eval p = v at h1
        cases h1 with
        | own _ _ _ _ h1c hgg hh =>
          obtain ⟨q, e1, e2⟩ := hh hg'
          exact ⟨_, run a w q i (hv.trans e2), .own _ b g (i + off) rfl hgg fun _ => ⟨q, e1, rfl⟩⟩
      · rename_i b g k i j hp
        obtain ⟨hg, h⟩ := h.out
        refine ⟨_, h, Eff.pure hd fun σ' hag a w ρ hs => ?_⟩
        have h1 := evA_ok hs p
        rw [evA_same (agree_l hag), hp] at h1
        have hg' := (gn_same (agree_r hag (.gen b) (by simp))).trans hg
        generalize hv : a.eval p = v at h1
        cases h1 with
        | elt _ _ _ _ _ _ h1c hgg hh =>
          obtain ⟨q, n, c, e1, e2⟩ := hh hg'
          exact ⟨_, run a w q (i * k + j) (hv.trans e2), .elt _ b g k i (j + off) rfl hgg fun _ => ⟨q, n, c, e1, by rw [Nat.add_assoc]⟩⟩
      · exact h.elim
    · exact h.elim
  · exact h.elim

theorem cellsA_rep {w : World} {S : Nat → Prop} {ρ : Ly} {γ : Nat → Nat} {v : Value} {x : AV} {cs : List AV} (e : cellsA x = some cs) (h : RepA w S ρ γ v x) : Reps w S ρ γ v.cells.toList cs := by
  unfold cellsA at e
  split at e
  · rename_i l
    injection e with e
    subst e
    cases h.im_inv with
    | agg us _ hl h1c hr =>
      refine ⟨by simpa [Value.cells] using hl, fun i u y hu hy => ?_⟩
      simp only [List.getElem?_map] at hy
      cases hc : l[i]? with
      | none => rw [hc] at hy; cases hy
      | some c =>
        rw [hc] at hy
        simp only [Option.map_some, Option.some.injEq] at hy
        rw [← hy]
        exact .im _ _ (hr i u c (by simpa [Value.cells] using hu) hc)
  · rename_i z
    split at e
    case isFalse => cases e
    injection e with e
    subst e
    cases h.im_inv with
    | val _ =>
      refine ⟨by simp, fun i u y hu hy => ?_⟩
      simp only [List.getElem?_map, hu, Option.map_some, Option.some.injEq] at hy
      rw [← hy]
      exact .im _ _ (.val _)
  · rename_i l
    injection e with e
    subst e
    cases h with
    | agg us _ hl h1c hr => exact ⟨by simpa [Value.cells] using hl, fun i u y hu hy => hr i u y (by simpa [Value.cells] using hu) hy⟩
  · cases e
  · cases e
  · rename_i hn1 hn2 hn3 hn4 hn5
    injection e with e
    subst e
    have hv : v.cells = #[v] := by
      cases h with
      | im _ y hy =>
        cases hy with
        | val _ => exact absurd rfl (hn2 _)
        | any _ => exact absurd rfl hn4
        | ex _ h1 => revert h1; cases v <;> simp [Value.oneCell', Value.cells]
        | emp _ _ => rfl
        | sl _ _ _ _ _ _ _ _ _ _ _ _ _ _ _ _ => rfl
        | agg _ _ _ _ _ => exact absurd rfl (hn1 _)
        | ref _ _ _ _ _ _ _ _ _ => rfl
        | fn _ _ _ _ _ => rfl
      | own _ _ _ _ h1c _ _ => revert h1c; cases v <;> simp [Value.oneCell', Value.cells]
      | osl _ _ _ h1c _ _ => revert h1c; cases v <;> simp [Value.oneCell', Value.cells]
      | elt _ _ _ _ _ _ h1c _ _ => revert h1c; cases v <;> simp [Value.oneCell', Value.cells]
      | sub _ _ _ _ h1c _ _ => revert h1c; cases v <;> simp [Value.oneCell', Value.cells]
      | osv _ _ _ _ _ h1c _ _ => revert h1c; cases v <;> simp [Value.oneCell', Value.cells]
      | elt2 _ _ _ _ _ _ _ h1c _ _ => revert h1c; cases v <;> simp [Value.oneCell', Value.cells]
      | fn _ _ _ _ _ => rfl
      | agg _ _ _ _ _ => exact absurd rfl (hn3 _)
      | tup _ _ _ _ => exact absurd rfl (hn5 _)
    rw [hv]
    refine ⟨rfl, fun i u y hu hy => ?_⟩
    cases i with
    | zero =>
      simp at hu hy
      rw [← hu, ← hy]
      exact h
    | succ i => simp at hy
end

end Go.Proofs.YthahbiahlpcgeaaGreatDoor.Sym
