/-
  The plain reading's states and the model's: how a state is kept while memory grows and the frame's own objects turn.
-/
import Derived.Test.YthahbiahlpcgeaaGreatDoorSym1
namespace Go.Proofs.YthahbiahlpcgeaaGreatDoor.Sym
open Go.RowKit

theorem RepI.mono {w w' : World} {S S' : Nat → Prop} (hS : ∀ b, S b → S' b) (hc : ∀ p u, S p.block → w.cell? p = some u → w'.cell? p = some u) {v : Value} {x : IV} (h : RepI w S v x) : RepI w' S' v x := by
  induction h with
  | val v => exact .val v
  | any v => exact .any v
  | ex v h1 => exact .ex v h1
  | emp A c => exact .emp A c
  | sl b o c k n es us hn hk hcap hs hb hl h1 hu hr ih => exact .sl b o c k n es us hn hk hcap hs (hS b hb) hl h1 (fun i u hi => hc _ _ hb (hu i u hi)) ih
  | agg us cs hl h1 hr ih => exact .agg us cs hl h1 ih
  | ref b o us cs hb hl h1 hu hr ih => exact .ref b o us cs (hS b hb) hl h1 (fun i u hi => hc _ _ hb (hu i u hi)) ih
  | fn f us cs hl hr ih => exact .fn f us cs hl ih

theorem RepA.mono {w w' : World} {S S' : Nat → Prop} {ρ ρ' : Ly} {γ γ' : Nat → Nat} (hI : ∀ v x, RepI w S v x → RepI w' S' v x) (hγ : ∀ o, γ o ≤ γ' o) (hρ : ∀ o, γ' o = γ o → ρ' o = ρ o)
    (hi : ∀ o, ρ.ig o ≤ ρ'.ig o ∧ (ρ'.ig o = ρ.ig o → ρ'.inn o = ρ.inn o)) {v : Value} {x : AV} (h : RepA w S ρ γ v x) : RepA w' S' ρ' γ' v x := by
  have key : ∀ o g, g ≤ γ o → γ' o = g → γ o = g ∧ ρ' o = ρ o := fun o g h1 h2 => by
    have := hγ o
    exact ⟨by omega, hρ o (by omega)⟩
  have key2 : ∀ o g, g ≤ ρ.ig o → ρ'.ig o = g → ρ.ig o = g ∧ ρ'.inn o = ρ.inn o := fun o g h1 h2 => by
    have := (hi o).1
    exact ⟨by omega, (hi o).2 (by omega)⟩
  induction h with
  | im v x h => exact .im v x (hI v x h)
  | own v o g i h1 hg h =>
    refine .own v o g i h1 (Nat.le_trans hg (hγ o)) fun e => ?_
    obtain ⟨e1, e2⟩ := key o g hg e
    rw [e2]
    exact h e1
  | osl v o g h1 hg h =>
    refine .osl v o g h1 (Nat.le_trans hg (hγ o)) fun e => ?_
    obtain ⟨e1, e2⟩ := key o g hg e
    rw [e2]
    exact h e1
  | elt v o g k i j h1 hg h =>
    refine .elt v o g k i j h1 (Nat.le_trans hg (hγ o)) fun e => ?_
    obtain ⟨e1, e2⟩ := key o g hg e
    rw [e2]
    exact h e1
  | sub v o g i h1 hg h =>
    refine .sub v o g i h1 (Nat.le_trans hg (hi o).1) fun e => ?_
    obtain ⟨e1, e2⟩ := key2 o g hg e
    rw [e2]
    exact h e1
  | osv v o g k m h1 hg h =>
    refine .osv v o g k m h1 (Nat.le_trans hg (hγ o)) fun e => ?_
    obtain ⟨e1, e2⟩ := key o g hg e
    rw [e2]
    exact h e1
  | elt2 v o g i k j c h1 hg h =>
    refine .elt2 v o g i k j c h1 (Nat.le_trans hg (hi o).1) fun e => ?_
    obtain ⟨e1, e2⟩ := key2 o g hg e
    rw [e2]
    exact h e1
  | fn f us cs hl hr ih => exact .fn f us cs hl ih
  | agg us cs hl h1 hr ih => exact .agg us cs hl h1 ih
  | tup us cs hl hr ih => exact .tup us cs hl ih
theorem ig_rfl (ρ : Ly) : ∀ o, ρ.ig o ≤ ρ.ig o ∧ (ρ.ig o = ρ.ig o → ρ.inn o = ρ.inn o) := fun _ => ⟨Nat.le_refl _, fun _ => rfl⟩

theorem fpk_flat {v : Value} {inn : List Value} {k : Kd} (h : ∀ e e' m gs q, k ≠ .grid e e' m gs q) {b : Nat} (hb : b ∈ fpk v inn k) : blkOf v = some b := by
  cases k with
  | dead => simp [fpk] at hb
  | grid e e' m gs q => exact absurd rfl (h e e' m gs q)
  | box t m => simpa [fpk] using hb
  | row e m es => simpa [fpk] using hb
  | map l => simpa [fpk] using hb
theorem fpk_root {v : Value} {inn : List Value} {k : Kd} (h : k ≠ .dead) {b : Nat} (hb : blkOf v = some b) : b ∈ fpk v inn k := by
  cases k with
  | dead => exact absurd rfl h
  | grid e e' m gs q => simp [fpk, fpv, hb]
  | box t m => simp [fpk, hb]
  | row e m es => simp [fpk, hb]
  | map l => simp [fpk, hb]
theorem fpk_inn {v u : Value} {inn : List Value} {e e' : TypeId} {m : Nat} {gs : List (List IV)} {q : Option Nat} {i b : Nat} (hu : inn[i]? = some u) (hb : blkOf u = some b) : b ∈ fpk v inn (.grid e e' m gs q) := by
  unfold fpk fpv
  exact List.mem_filterMap.2 ⟨u, List.mem_cons_of_mem _ (List.mem_of_getElem? hu), hb⟩
theorem Owns.root {σ : St} {ρ : Ly} {o b : Nat} (hl : live σ o) (hb : blkOf (ρ o) = some b) : Owns σ ρ o b := fpk_root hl hb
theorem Owns.lv {σ : St} {ρ : Ly} {o b : Nat} (h : Owns σ ρ o b) : live σ o := fun e => by
  unfold Owns at h
  rw [e] at h
  simp [fpk] at h

theorem row_blk {w : World} {base : Nat} {e : TypeId} {k n : Nat} {v : Value} {us : List Value} (h : w.ownsRow base e k v n us) : v.ownBlock = blkOf v := by
  rcases h.2 with ⟨rfl, _⟩ | ⟨_, _, _, rfl, _⟩ <;> rfl
theorem own_row_same {w w' : World} {base : Nat} {e : TypeId} {k n : Nat} {v : Value} {us : List Value} (h : w.ownsRow base e k v n us) (hb : ∀ b, blkOf v = some b → w'.heap[b]? = w.heap[b]?) : w'.ownsRow base e k v n us := by
  refine ⟨h.1, ?_⟩
  rcases h.2 with h1 | ⟨g, cap, cur, e1, e2, e3, e4⟩
  · exact .inl h1
  · exact .inr ⟨g, cap, cur, e1, e2, (hb g (by rw [e1]; rfl)).trans e3, e4⟩
theorem RowOk.mono {w w' : World} {S S' : Nat → Prop} {v : Value} {e : TypeId} {k : Nat} {es : List (List IV)} (h : RowOk w S v e k es) (hb : ∀ b, blkOf v = some b → w'.heap[b]? = w.heap[b]?) (hI : ∀ u x, RepI w S u x → RepI w' S' u x) : RowOk w' S' v e k es := by
  obtain ⟨us, h1, h2, h3, h4, h5, h6, h7⟩ := h
  exact ⟨us, h1, h2, h3, own_row_same h4 hb, h5, h6, fun i u x hu hx => hI _ _ (h7 i u x hu hx)⟩
theorem GridOk.mono {w w' : World} {S S' : Nat → Prop} {v : Value} {inn : List Value} {e e' : TypeId} {k : Nat} {gs : List (List IV)} {q : Option Nat} (h : GridOk w S v inn e e' k gs q) (hb : ∀ b, b ∈ fpv v inn → w'.heap[b]? = w.heap[b]?) (hI : ∀ u x, RepI w S u x → RepI w' S' u x) : GridOk w' S' v inn e e' k gs q := by
  obtain ⟨h0, h1, us, h2, h3, h4, h5⟩ := h
  refine ⟨h0, h1, us, h2, own_row_same h3 fun b hb' => hb b (by simp [fpv, hb']), h4, fun i u hu => ?_⟩
  rcases h5 i u hu with h6 | ⟨h6, es, h7, h8⟩
  · exact .inl h6
  · exact .inr ⟨h6, es, h7, h8.mono (fun b hb' => hb b (List.mem_filterMap.2 ⟨u, List.mem_cons_of_mem _ (List.mem_of_getElem? hu), hb'⟩)) hI⟩
theorem HoldOk.mono {w w' : World} {S S' : Nat → Prop} {v : Value} {inn : List Value} : ∀ {k : Kd}, HoldOk w S v inn k → (∀ b, b ∈ fpk v inn k → w'.heap[b]? = w.heap[b]?) → (∀ u x, RepI w S u x → RepI w' S' u x) → HoldOk w' S' v inn k
  | .dead, h, _, _ => h
  | .box _ _, h, _, _ => h
  | .row _ _ _, h, hb, hI => RowOk.mono h (fun b hb' => hb b (by simp [fpk, hb'])) hI
  | .grid _ _ _ _ _, h, hb, hI => GridOk.mono h hb hI
  | .map _, ⟨b, clock, es, h1, h2, h3⟩, hb, _ => ⟨b, clock, es, h1, (hb b (by rw [h1]; simp [fpk, blkOf])).trans h2, h3⟩
theorem RowOk.lt {w : World} {S : Nat → Prop} {v : Value} {e : TypeId} {k : Nat} {es : List (List IV)} (h : RowOk w S v e k es) {b : Nat} (hb : blkOf v = some b) : b < w.heap.size := by
  obtain ⟨us, h1, h2, h3, h4, _⟩ := h
  exact (h4.lt b ((row_blk h4).trans hb)).2
theorem HoldOk.lt {w : World} {S : Nat → Prop} {v : Value} {inn : List Value} : ∀ {k : Kd}, HoldOk w S v inn k → ∀ {b}, b ∈ fpk v inn k → b < w.heap.size
  | .dead, h, _, _ => h.elim
  | .box _ _, h, _, _ => h.elim
  | .row _ _ _, h, b, hb => RowOk.lt h (by simpa [fpk] using hb)
  | .map _, ⟨q, clock, es, h1, h2, h3⟩, b, hb => by
    rw [h1] at hb
    simp [fpk, blkOf] at hb
    subst hb
    exact (Array.getElem?_eq_some_iff.1 h2).1
  | .grid e e' k gs q, ⟨h0, h1, us, h2, h3, h4, h5⟩, b, hb => by
    obtain ⟨u, hu, hub⟩ := List.mem_filterMap.1 (show b ∈ fpv v inn from hb)
    rcases List.mem_cons.1 hu with rfl | hu
    · exact (h3.lt b ((row_blk h3).trans hub)).2
    · obtain ⟨i, hi⟩ := List.getElem?_of_mem hu
      rcases h5 i u hi with h6 | ⟨h6, es, h7, h8⟩
      · rw [h6.2] at hub; cases hub
      · exact h8.lt hub

/-- The states agree but for slots. -/
structure SameObj (σ σ' : St) : Prop where
  gn : σ'.gn = σ.gn
  ig : σ'.ig = σ.ig
  kd : σ'.kd = σ.kd
  ce : σ'.ce = σ.ce
theorem SameObj.tmp (σ : St) (d : Nat) (c : Ct) : SameObj σ (upd σ (.tmp d) c) := ⟨funext fun _ => gn_tmp σ d _ c, funext fun _ => ig_tmp σ d _ c, funext fun _ => kd_tmp σ d _ c, funext fun _ => funext fun _ => ce_tmp σ d _ _ c⟩

theorem Imm.same {B : Base} {σ σ' : St} (h : σ'.kd = σ.kd) (ρ : Ly) (w : World) : Imm B σ' ρ w = Imm B σ ρ w := by
  unfold Imm Owns
  rw [h]
theorem ObjOk.of_hold {B : Base} {σ : St} {ρ : Ly} {w : World} {o : Nat} {k : Kd} (hb : ∀ t m, k ≠ .box t m) (h : HoldOk w (Imm B σ ρ w) (ρ o) (ρ.inn o) k) : ObjOk B σ ρ w o k := by
  cases k with
  | dead => trivial
  | box t m => exact absurd rfl (hb t m)
  | row e m es => exact h
  | grid e e' m gs q => exact h
  | map l => exact h
theorem ObjOk.mono {B B' : Base} {σ σ' : St} {ρ ρ' : Ly} {w w' : World} {o : Nat} {k : Kd} (hk : ObjOk B σ ρ w o k) (hρ : ρ' o = ρ o) (hinn : ρ'.inn o = ρ.inn o) (hce : ∀ i, σ'.ce o i = σ.ce o i) (hb : ∀ b, b ∈ fpk (ρ o) (ρ.inn o) k → w'.heap[b]? = w.heap[b]?)
    (hI : ∀ v x, RepI w (Imm B σ ρ w) v x → RepI w' (Imm B' σ' ρ' w') v x) (hA : ∀ v x, RepA w (Imm B σ ρ w) ρ σ.gn v x → RepA w' (Imm B' σ' ρ' w') ρ' σ'.gn v x) : ObjOk B' σ' ρ' w' o k := by
  cases k with
  | dead => trivial
  | box t m =>
    obtain ⟨b, us, h1, h3, h4, h5, h6⟩ := hk
    refine ⟨b, us, hρ.trans h1, (hb b (by rw [h1]; simp [fpk, blkOf])).trans h3, h4, h5, fun i u hu => ?_⟩
    rw [hce]
    exact hA _ _ (h6 i u hu)
  | row e m es => show HoldOk w' (Imm B' σ' ρ' w') (ρ' o) (ρ'.inn o) (.row e m es); rw [hρ, hinn]; exact HoldOk.mono (k := .row e m es) hk hb hI
  | grid e e' m gs q => show HoldOk w' (Imm B' σ' ρ' w') (ρ' o) (ρ'.inn o) (.grid e e' m gs q); rw [hρ, hinn]; exact HoldOk.mono (k := .grid e e' m gs q) hk hb hI
  | map l => show HoldOk w' (Imm B' σ' ρ' w') (ρ' o) (ρ'.inn o) (.map l); rw [hρ, hinn]; exact HoldOk.mono (k := .map l) hk hb hI
theorem ObjOk.lt {B : Base} {σ : St} {ρ : Ly} {w : World} {o : Nat} {k : Kd} (hk : ObjOk B σ ρ w o k) {b : Nat} (hb : b ∈ fpk (ρ o) (ρ.inn o) k) : b < w.heap.size := by
  cases k with
  | dead => simp [fpk] at hb
  | box t m =>
    obtain ⟨q, us, h1, h3, _⟩ := hk
    rw [h1] at hb
    simp [fpk, blkOf] at hb
    subst hb
    exact (Array.getElem?_eq_some_iff.1 h3).1
  | row e m es => exact HoldOk.lt (S := Imm B σ ρ w) (k := .row e m es) hk hb
  | grid e e' m gs q => exact HoldOk.lt (S := Imm B σ ρ w) (k := .grid e e' m gs q) hk hb
  | map l => exact HoldOk.lt (S := Imm B σ ρ w) (k := .map l) hk hb

theorem put_getD (a : Act) (d : Tmp) (u : Value) (t : Nat) (hd : d < a.tmps.size) : (a.put (some d) u).tmps.getD t undef = if t = d then u else a.tmps.getD t undef := by
  simp only [Act.put, Array.getD_eq_getD_getElem?, Array.getElem?_setIfInBounds]
  by_cases h : t = d
  · subst h
    simp [hd]
  · rw [if_neg (fun e => h e.symm), if_neg h]

/-- Some objects turn, come or go; the others stay. -/
theorem SatR.stepZ {B : Base} {σ σ' : St} {a : Act} {w w' : World} {ρ ρ' : Ly} (h : SatR B σ a w ρ) (D Z' : Nat → Prop) (hav : ∀ t, σ'.av t = σ.av t)
    (hout : ∀ o, ¬ D o → σ'.kd o = σ.kd o ∧ σ'.gn o = σ.gn o ∧ (∀ i, σ'.ce o i = σ.ce o i) ∧ ρ' o = ρ o ∧ ρ'.inn o = ρ.inn o ∧ ρ'.ig o = ρ.ig o)
    (hin : ∀ o, D o → (σ.gn o ≤ σ'.gn o ∧ (σ'.gn o = σ.gn o → ρ' o = ρ o)) ∧ ρ.ig o ≤ ρ'.ig o ∧ (ρ'.ig o = ρ.ig o → ρ'.inn o = ρ.inn o))
    (hig : ∀ o, ρ'.ig o = σ'.ig o) (hw : Belo (fun b => B.Z b ∨ ∃ o, D o ∧ Owns σ ρ o b) w.heap.size w w') (hfp : ∀ o b, D o → Owns σ' ρ' o b → w.heap.size ≤ b ∨ B.Z b ∨ ∃ p, D p ∧ Owns σ ρ p b)
    (hdis : ∀ o p b, D o → D p → Owns σ' ρ' o b → Owns σ' ρ' p b → o = p) (hz : ∀ b, Z' b → b < w'.heap.size ∧ (w.heap.size ≤ b ∨ B.Z b ∨ ∃ p, D p ∧ Owns σ ρ p b) ∧ ∀ o, D o → ¬ Owns σ' ρ' o b)
    (hob : (∀ v x, RepI w (Imm B σ ρ w) v x → RepI w' (Imm { B with Z := Z' } σ' ρ' w') v x) → (∀ v x, RepA w (Imm B σ ρ w) ρ σ.gn v x → RepA w' (Imm { B with Z := Z' } σ' ρ' w') ρ' σ'.gn v x) → ∀ o, D o → ObjOk { B with Z := Z' } σ' ρ' w' o (σ'.kd o)) :
    SatR { B with Z := Z' } σ' a w' ρ' ∧ (∀ v x, RepI w (Imm B σ ρ w) v x → RepI w' (Imm { B with Z := Z' } σ' ρ' w') v x) ∧ (∀ v x, RepA w (Imm B σ ρ w) ρ σ.gn v x → RepA w' (Imm { B with Z := Z' } σ' ρ' w') ρ' σ'.gn v x) ∧ ∀ b, Imm B σ ρ w b → Imm { B with Z := Z' } σ' ρ' w' b := by
  have hsame : ∀ o b, ¬ D o → (Owns σ' ρ' o b ↔ Owns σ ρ o b) := fun o b hd => by
    obtain ⟨h1, _, _, h2, h3, _⟩ := hout o hd
    unfold Owns
    rw [h1, h2, h3]
  have hin3 : ∀ b, (w.heap.size ≤ b ∨ B.Z b ∨ ∃ p, D p ∧ Owns σ ρ p b) → Mine B b := fun b hb => by
    rcases hb with h1 | h1 | ⟨p, _, h1⟩
    · exact .inl (Nat.le_trans h.bel.size h1)
    · exact (h.res b h1).1.1
    · exact (h.own p b h1).1
  have hin4 : ∀ b, Imm B σ ρ w b → ¬ (w.heap.size ≤ b ∨ B.Z b ∨ ∃ p, D p ∧ Owns σ ρ p b) := fun b hi hb => by
    rcases hb with h1 | h1 | ⟨p, _, h1⟩
    · have := hi.2.1; omega
    · exact hi.2.2.2 h1
    · exact hi.2.2.1 p h1
  have himm : ∀ b, Imm B σ ρ w b → Imm { B with Z := Z' } σ' ρ' w' b := fun b hi => ⟨hi.1, Nat.lt_of_lt_of_le hi.2.1 hw.size, fun o ho => by
    by_cases hd : D o
    · exact hin4 b hi (hfp o b hd ho)
    · exact hi.2.2.1 o ((hsame o b hd).1 ho), fun hb => hin4 b hi (hz b hb).2.1⟩
  have hsb : ∀ b, Imm B σ ρ w b → w'.heap[b]? = w.heap[b]? := fun b hi => hw.block b hi.2.1 fun hb => by
    rcases hb with h1 | ⟨o, _, ho⟩
    · exact hi.2.2.2 h1
    · exact hi.2.2.1 o ho
  have hI : ∀ v x, RepI w (Imm B σ ρ w) v x → RepI w' (Imm { B with Z := Z' } σ' ρ' w') v x := fun v x hr =>
    hr.mono himm fun p u hi hu => (World.cell?_of_block (w := w) (hsb p.block hi)).trans hu
  have hA : ∀ v x, RepA w (Imm B σ ρ w) ρ σ.gn v x → RepA w' (Imm { B with Z := Z' } σ' ρ' w') ρ' σ'.gn v x := fun v x hr => by
    refine hr.mono hI (fun o => ?_) (fun o e => ?_) fun o => ?_
    · by_cases hd : D o
      · exact (hin o hd).1.1
      · rw [(hout o hd).2.1]; exact Nat.le_refl _
    · by_cases hd : D o
      · exact (hin o hd).1.2 e
      · exact (hout o hd).2.2.2.1
    · by_cases hd : D o
      · exact (hin o hd).2
      · obtain ⟨_, _, _, _, h3, h4⟩ := hout o hd
        exact ⟨by rw [h4]; exact Nat.le_refl _, fun _ => h3⟩
  have hob := hob hI hA
  have hobs : ∀ o, ObjOk { B with Z := Z' } σ' ρ' w' o (σ'.kd o) := fun o => by
    by_cases hd : D o
    · exact hob o hd
    · obtain ⟨h1, h2, h3, h4, h5, h6⟩ := hout o hd
      rw [h1]
      refine (h.obs o).mono h4 h5 h3 (fun b hb => hw.block b (h.own o b hb).2 fun hn => ?_) hI hA
      rcases hn with hn | ⟨p, hp, hpb⟩
      · exact (h.res b hn).2 o hb
      · have := h.dis o p b hb hpb
        subst this
        exact hd hp
  have hclash : ∀ o b, ¬ D o → Owns σ ρ o b → ¬ (w.heap.size ≤ b ∨ B.Z b ∨ ∃ p, D p ∧ Owns σ ρ p b) := fun o b hd ho hb => by
    rcases hb with h1 | h1 | ⟨p, hp, h1⟩
    · have := (h.own o b ho).2; omega
    · exact (h.res b h1).2 o ho
    · have := h.dis o p b ho h1
      subst this
      exact hd hp
  refine ⟨⟨h.bel.trans ⟨hw.os, hw.tape, hw.output, hw.size, fun k hk hgk => hw.block k (Nat.lt_of_lt_of_le hk h.bel.size) fun hn => ?_⟩, hobs, fun o b ho => ⟨?_, (hobs o).lt ho⟩, fun o p b ho hp => ?_, fun t => ?_, hig, fun b hb => ?_, fun o v hl hg0 => ?_, h.siz, h.dfr⟩, hI, hA, himm⟩
  · have h3 : Mine B k := by
      rcases hn with hn | ⟨o, _, ho⟩
      · exact (h.res k hn).1.1
      · exact (h.own o k ho).1
    rcases h3 with h3 | h3
    · omega
    · exact hgk h3
  · by_cases hd : D o
    · exact hin3 b (hfp o b hd ho)
    · exact (h.own o b ((hsame o b hd).1 ho)).1
  · by_cases h1 : D o
    · by_cases h2 : D p
      · exact hdis o p b h1 h2 ho hp
      · exact absurd (hfp o b h1 ho) (hclash p b h2 ((hsame p b h2).1 hp))
    · have ho' := (hsame o b h1).1 ho
      by_cases h2 : D p
      · exact absurd (hfp p b h2 hp) (hclash o b h1 ho')
      · exact h.dis o p b ho' ((hsame p b h2).1 hp)
  · rw [hav]; exact hA _ _ (h.tms t)
  · obtain ⟨h1, h2, h3⟩ := hz b hb
    refine ⟨⟨hin3 b h2, h1⟩, fun o ho => ?_⟩
    by_cases hd : D o
    · exact h3 o hd ho
    · exact hclash o b hd ((hsame o b hd).1 ho) h2
  · by_cases hd : D o
    · obtain ⟨h1, h2⟩ := (hin o hd).1
      rw [h2 (by omega)]
      exact h.rt o v hl (by omega)
    · obtain ⟨_, h1, _, h2, _⟩ := hout o hd
      rw [h2]
      exact h.rt o v hl (by rw [← h1]; exact hg0)
/-- The same, where no block is laid by. -/
theorem SatR.step {B : Base} {σ σ' : St} {a : Act} {w w' : World} {ρ ρ' : Ly} (h : SatR B σ a w ρ) (D : Nat → Prop) (hav : ∀ t, σ'.av t = σ.av t)
    (hout : ∀ o, ¬ D o → σ'.kd o = σ.kd o ∧ σ'.gn o = σ.gn o ∧ (∀ i, σ'.ce o i = σ.ce o i) ∧ ρ' o = ρ o ∧ ρ'.inn o = ρ.inn o ∧ ρ'.ig o = ρ.ig o)
    (hin : ∀ o, D o → (σ.gn o ≤ σ'.gn o ∧ (σ'.gn o = σ.gn o → ρ' o = ρ o)) ∧ ρ.ig o ≤ ρ'.ig o ∧ (ρ'.ig o = ρ.ig o → ρ'.inn o = ρ.inn o))
    (hig : ∀ o, ρ'.ig o = σ'.ig o) (hw : Belo (fun b => ∃ o, D o ∧ Owns σ ρ o b) w.heap.size w w') (hfp : ∀ o b, D o → Owns σ' ρ' o b → w.heap.size ≤ b ∨ ∃ p, D p ∧ Owns σ ρ p b)
    (hdis : ∀ o p b, D o → D p → Owns σ' ρ' o b → Owns σ' ρ' p b → o = p)
    (hob : (∀ v x, RepI w (Imm B σ ρ w) v x → RepI w' (Imm B σ' ρ' w') v x) → (∀ v x, RepA w (Imm B σ ρ w) ρ σ.gn v x → RepA w' (Imm B σ' ρ' w') ρ' σ'.gn v x) → ∀ o, D o → ObjOk B σ' ρ' w' o (σ'.kd o)) :
    SatR B σ' a w' ρ' ∧ (∀ v x, RepI w (Imm B σ ρ w) v x → RepI w' (Imm B σ' ρ' w') v x) ∧ ∀ v x, RepA w (Imm B σ ρ w) ρ σ.gn v x → RepA w' (Imm B σ' ρ' w') ρ' σ'.gn v x := by
  obtain ⟨h1, h2, h3, _⟩ := h.stepZ D B.Z hav hout hin hig ⟨hw.os, hw.tape, hw.output, hw.size, fun k hk hn => hw.block k hk fun hh => hn (.inr hh)⟩ (fun o b hd ho => (hfp o b hd ho).elim .inl fun h => .inr (.inr h)) hdis
    (fun b hb => ⟨Nat.lt_of_lt_of_le (h.res b hb).1.2 hw.size, .inr (.inl hb), fun o hd ho => by
      rcases hfp o b hd ho with h1 | ⟨p, _, h1⟩
      · have := (h.res b hb).1.2; omega
      · exact (h.res b hb).2 p h1⟩) hob
  exact ⟨h1, h2, h3⟩

/-- Objects as they were; the slots are as is said. -/
theorem SatR.slots {B : Base} {σ σ' : St} {a a' : Act} {w : World} {ρ : Ly} (h : SatR B σ a w ρ) (hs : SameObj σ σ') (ht : ∀ t, RepA w (Imm B σ ρ w) ρ σ.gn (a'.tmps.getD t undef) (σ'.av t)) (hz : a'.tmps.size = B.n) (hd : a'.defers = []) : SatR B σ' a' w ρ := by
  have hown : ∀ o b, Owns σ' ρ o b ↔ Owns σ ρ o b := fun o b => by unfold Owns; rw [hs.kd]
  refine ⟨h.bel, fun o => ?_, fun o b ho => h.own o b ((hown o b).1 ho), fun o p b ho hp => h.dis o p b ((hown o b).1 ho) ((hown p b).1 hp), fun t => ?_, fun o => by rw [hs.ig]; exact h.igs o, fun b hb => ⟨(h.res b hb).1, fun o ho => (h.res b hb).2 o ((hown o b).1 ho)⟩, fun o v hl hg => h.rt o v hl (by rw [← hs.gn]; exact hg), hz, hd⟩
  · rw [hs.kd]
    refine (h.obs o).mono rfl rfl (fun i => by rw [hs.ce]) (fun _ _ => rfl) (fun v x hr => by rw [Imm.same hs.kd]; exact hr) fun v x hr => by rw [Imm.same hs.kd, hs.gn]; exact hr
  · rw [Imm.same hs.kd, hs.gn]; exact ht t
/-- A slot is written. -/
theorem SatR.put {B : Base} {σ : St} {a : Act} {w : World} {ρ : Ly} (h : SatR B σ a w ρ) {d : Option Tmp} (hd : ∀ t, d = some t → t < B.n) {u : Value} {v : AV} (hv : RepA w (Imm B σ ρ w) ρ σ.gn u v) :
    SatR B (app σ (wrT d v)) (a.put d u) w ρ := by
  cases d with
  | none => exact h
  | some d =>
    have hlt : d < a.tmps.size := by rw [h.siz]; exact hd d rfl
    refine h.slots (SameObj.tmp σ d (.av v)) (fun t => ?_) (by simp [Act.put, h.siz]) h.dfr
    show RepA _ _ _ _ _ ((upd σ (.tmp d) (.av v)).av t)
    rw [put_getD a d u t hlt, av_tmp]
    by_cases e : t = d
    · rw [if_pos e, if_pos e]; exact hv
    · rw [if_neg e, if_neg e]; exact h.tms t

/-- What lies where in a live object. -/
theorem SatR.blk {B : Base} {σ : St} {a : Act} {w : World} {ρ : Ly} (h : SatR B σ a w ρ) {o b : Nat} (hl : live σ o) (hb : blkOf (ρ o) = some b) : Mine B b ∧ b < w.heap.size := h.own o b (.root hl hb)

/-- Memory has grown; the frame's own objects are as they were. -/
theorem SatR.world {B : Base} {σ : St} {a : Act} {w w' : World} {ρ : Ly} (h : SatR B σ a w ρ) (hb : Below w.heap.size w w') : SatR B σ a w' ρ ∧ ∀ v x, RepI w (Imm B σ ρ w) v x → RepI w' (Imm B σ ρ w') v x := by
  obtain ⟨h1, h2, _⟩ := h.step (σ' := σ) (ρ' := ρ) (w' := w') (fun _ => False) (fun _ => rfl) (fun o _ => ⟨rfl, rfl, fun _ => rfl, rfl, rfl, rfl⟩) (fun o hd => hd.elim) h.igs (.of hb) (fun o b hd => hd.elim) (fun o p b hd => hd.elim) fun _ _ o hd => hd.elim
  exact ⟨h1, h2⟩

/-- An object is given up. -/
theorem SatR.kill {B : Base} {σ : St} {a : Act} {w : World} {ρ : Ly} (h : SatR B σ a w ρ) (d : Nat) : SatR B (upd σ (.knd d) (.kd .dead)) a w ρ ∧ ∀ v x, RepI w (Imm B σ ρ w) v x → RepI w (Imm B (upd σ (.knd d) (.kd .dead)) ρ w) v x := by
  obtain ⟨h1, h2, _⟩ := h.step (σ' := upd σ (.knd d) (.kd .dead)) (ρ' := ρ) (w' := w) (fun o => o = d) (fun t => av_knd σ d t _) (fun o hd => ⟨by rw [kd_knd, if_neg hd], gn_knd σ d o _, fun i => ce_knd σ d o i _, rfl, rfl, rfl⟩)
    (fun o _ => ⟨⟨by rw [gn_knd]; exact Nat.le_refl _, fun _ => rfl⟩, Nat.le_refl _, fun _ => rfl⟩) (fun o => by rw [ig_knd]; exact h.igs o) (Belo.refl _ _ _) (fun o b hd ho => by
      subst hd
      exact absurd (by rw [kd_knd, if_pos rfl]) ho.lv) (fun o p b hd hp _ _ => hd.trans hp.symm) fun _ _ o hd => by subst hd; rw [kd_knd, if_pos rfl]; trivial
  exact ⟨h1, h2⟩

theorem SatR.kills {B : Base} {a : Act} {w : World} {ρ : Ly} : ∀ (bs : List (Nat × Nat)) {σ : St}, SatR B σ a w ρ → SatR B (app σ (fwr bs)) a w ρ ∧ ∀ v x, RepI w (Imm B σ ρ w) v x → RepI w (Imm B (app σ (fwr bs)) ρ w) v x
  | [], σ, h => ⟨h, fun _ _ hr => hr⟩
  | b :: bs, σ, h => by
    obtain ⟨h1, h2⟩ := h.kill b.1
    obtain ⟨h3, h4⟩ := SatR.kills bs h1
    exact ⟨h3, fun v x hr => h4 v x (h2 v x hr)⟩

theorem celWr_gn (b : Nat) (cs : List AV) : ∀ (i : Nat) (σ : St), (app σ (celWr b i cs)).gn = σ.gn := by
  induction cs with
  | nil => intro i σ; rfl
  | cons c cs ih => intro i σ; rw [celWr, app_cons, ih]; exact funext fun t => gn_cel σ b i t _
theorem celWr_ig (b : Nat) (cs : List AV) : ∀ (i : Nat) (σ : St), (app σ (celWr b i cs)).ig = σ.ig := by
  induction cs with
  | nil => intro i σ; rfl
  | cons c cs ih => intro i σ; rw [celWr, app_cons, ih]; exact funext fun t => ig_cel σ b i t _
theorem celWr_kd (b : Nat) (cs : List AV) : ∀ (i : Nat) (σ : St), (app σ (celWr b i cs)).kd = σ.kd := by
  induction cs with
  | nil => intro i σ; rfl
  | cons c cs ih => intro i σ; rw [celWr, app_cons, ih]; exact funext fun t => kd_cel σ b i t _
theorem celWr_av (b : Nat) (cs : List AV) : ∀ (i : Nat) (σ : St), (app σ (celWr b i cs)).av = σ.av := by
  induction cs with
  | nil => intro i σ; rfl
  | cons c cs ih => intro i σ; rw [celWr, app_cons, ih]; exact funext fun t => av_cel σ b i t _
theorem celWr_ce (b : Nat) (cs : List AV) : ∀ (i : Nat) (σ : St) (p j : Nat), (app σ (celWr b i cs)).ce p j = if p = b ∧ i ≤ j ∧ j < i + cs.length then cs.getD (j - i) (.im .any) else σ.ce p j := by
  induction cs with
  | nil =>
    intro i σ p j
    rw [if_neg (fun e => by have := e.2; simp only [List.length_nil] at this; omega)]
    rfl
  | cons c cs ih =>
    intro i σ p j
    rw [celWr, app_cons, ih, ce_cel]
    simp only [List.length_cons]
    by_cases hp : p = b
    · by_cases hj : j = i
      · subst hj
        rw [if_neg (by omega), if_pos ⟨hp, rfl⟩, if_pos ⟨hp, by omega, by omega⟩]
        simp
      · by_cases h : i + 1 ≤ j ∧ j < i + 1 + cs.length
        · rw [if_pos ⟨hp, h⟩, if_pos ⟨hp, by omega, by omega⟩]
          obtain ⟨m, hm⟩ : ∃ m, j - i = m + 1 := ⟨j - i - 1, by omega⟩
          rw [hm, show j - (i + 1) = m from by omega]
          simp
        · rw [if_neg (fun e => h e.2), if_neg (fun e => hj e.2), if_neg (fun e => h (by omega))]
    · rw [if_neg (fun e => hp e.1), if_neg (fun e => hp e.1), if_neg (fun e => hp e.1)]

theorem app_append (σ : St) (u v : List (Loc × Ct)) : app σ (u ++ v) = app (app σ u) v := by
  induction u generalizing σ with
  | nil => rfl
  | cons p u ih => exact ih _

/-- The state behind a new object; another one may be used up. -/
def newSt (σ : St) (used : Option Nat) (d : Nat) (k : Kd) (cs : List AV) : St :=
  app (app (match used with | some b => upd σ (.knd b) (.kd .dead) | none => σ) [(.gen d, .n (σ.gn d + 1)), (.knd d, .kd k)]) (celWr d 0 cs)
def setρ (ρ : Ly) (d : Nat) (v : Value) : Ly := { ρ with root := fun o => if o = d then v else ρ o }
theorem setρ_eq (ρ : Ly) (d : Nat) (v : Value) (o : Nat) : (setρ ρ d v) o = if o = d then v else ρ o := rfl

theorem newSt_gn (σ : St) (used : Option Nat) (d : Nat) (k : Kd) (cs : List AV) (o : Nat) : (newSt σ used d k cs).gn o = if o = d then σ.gn d + 1 else σ.gn o := by
  unfold newSt
  rw [celWr_gn]
  simp only [app_cons, app_nil]
  rw [gn_knd, gn_gen]
  cases used with
  | none => rfl
  | some b => simp only [gn_knd]
theorem newSt_kd (σ : St) (used : Option Nat) (d : Nat) (k : Kd) (cs : List AV) (o : Nat) : (newSt σ used d k cs).kd o = if o = d then k else if used = some o then .dead else σ.kd o := by
  unfold newSt
  rw [celWr_kd]
  simp only [app_cons, app_nil]
  rw [kd_knd, kd_gen]
  cases used with
  | none => simp
  | some b =>
    simp only [kd_knd, Option.some.injEq]
    by_cases e : o = d
    · simp [e]
    · by_cases e2 : o = b
      · subst e2; simp
      · rw [if_neg e, if_neg e, if_neg e2, if_neg (fun h => e2 h.symm)]
theorem newSt_av (σ : St) (used : Option Nat) (d : Nat) (k : Kd) (cs : List AV) (t : Nat) : (newSt σ used d k cs).av t = σ.av t := by
  unfold newSt
  rw [celWr_av]
  simp only [app_cons, app_nil]
  rw [av_knd, av_gen]
  cases used with
  | none => rfl
  | some b => simp only [av_knd]
theorem newSt_ce (σ : St) (used : Option Nat) (d : Nat) (k : Kd) (cs : List AV) (o i : Nat) (h : o ≠ d) : (newSt σ used d k cs).ce o i = σ.ce o i := by
  unfold newSt
  rw [celWr_ce, if_neg (fun e => h e.1)]
  simp only [app_cons, app_nil]
  rw [ce_knd, ce_gen]
  cases used with
  | none => rfl
  | some b => simp only [ce_knd]
theorem newSt_new (σ : St) (used : Option Nat) (d : Nat) (k : Kd) (cs : List AV) (i : Nat) (h : i < cs.length) : (newSt σ used d k cs).ce d i = cs.getD i (.im .any) := by
  unfold newSt
  rw [celWr_ce, if_pos ⟨rfl, by omega, by omega⟩]
  rfl

theorem newSt_ig (σ : St) (used : Option Nat) (d : Nat) (k : Kd) (cs : List AV) (o : Nat) : (newSt σ used d k cs).ig o = σ.ig o := by
  unfold newSt
  rw [celWr_ig]
  simp only [app_cons, app_nil]
  rw [ig_knd, ig_gen]
  cases used with
  | none => rfl
  | some b => simp only [ig_knd]

section
variable {B : Base} {σ : St} {a : Act} {w w' : World} {ρ : Ly} {used : Option Nat} {d : Nat} {k : Kd} {cs : List AV} {hv : Value} {row : Option Nat}

/-- What the making of an object asks: only the used-up object's block turns; the new one lies there or in new memory. -/
structure Making (σ : St) (w w' : World) (ρ : Ly) (used : Option Nat) (hv : Value) (row : Option Nat) : Prop where
  grown : w.grownBy w' row
  used_ : ∀ b, row = some b → ∃ o, used = some o ∧ Owns σ ρ o b
  lies : ∀ b, blkOf hv = some b → row = some b ∨ w.heap.size ≤ b

theorem SatR.new (h : SatR B σ a w ρ) (m : Making σ w w' ρ used hv row) (hk : ∀ e e' m gs q, k ≠ .grid e e' m gs q) (hobj : (∀ v x, RepI w (Imm B σ ρ w) v x → RepI w' (Imm B (newSt σ used d k cs) (setρ ρ d hv) w') v x) →
    (∀ v x, RepA w (Imm B σ ρ w) ρ σ.gn v x → RepA w' (Imm B (newSt σ used d k cs) (setρ ρ d hv) w') (setρ ρ d hv) (newSt σ used d k cs).gn v x) → ObjOk B (newSt σ used d k cs) (setρ ρ d hv) w' d k) :
    SatR B (newSt σ used d k cs) a w' (setρ ρ d hv) := by
  have hD : ∀ o, ¬ (o = d ∨ used = some o) → o ≠ d ∧ used ≠ some o := fun o hd => ⟨fun e => hd (.inl e), fun e => hd (.inr e)⟩
  refine (h.step (fun o => o = d ∨ used = some o) (fun t => newSt_av ..) (fun o hd => ?_) (fun o hd => ?_) (fun o => by rw [newSt_ig]; exact h.igs o) ?_ (fun o b hd ho => ?_) (fun o p b hd hp ho hp' => ?_) fun hI hA o hd => ?_).1
  · obtain ⟨h1, h2⟩ := hD o hd
    exact ⟨by rw [newSt_kd, if_neg h1, if_neg h2], by rw [newSt_gn, if_neg h1], fun i => newSt_ce _ _ _ _ _ _ _ h1, by rw [setρ_eq, if_neg h1], rfl, rfl⟩
  · refine ⟨⟨by rw [newSt_gn]; split <;> (try subst_vars) <;> omega, fun e => ?_⟩, Nat.le_refl _, fun _ => rfl⟩
    rw [newSt_gn] at e
    by_cases e2 : o = d
    · rw [if_pos e2, e2] at e; omega
    · rw [setρ_eq, if_neg e2]
  · refine ⟨m.grown.os, m.grown.tape, m.grown.output, m.grown.size, fun b hb hn => m.grown.block b hb fun e => ?_⟩
    obtain ⟨o, ho, hob⟩ := m.used_ b e.symm
    exact hn ⟨o, .inr ho, hob⟩
  · by_cases e : o = d
    · subst e
      unfold Owns at ho
      rw [newSt_kd, if_pos rfl, setρ_eq, if_pos rfl] at ho
      rcases m.lies b (fpk_flat hk ho) with h1 | h1
      · obtain ⟨p, hp, hpb⟩ := m.used_ b h1
        exact .inr ⟨p, .inr hp, hpb⟩
      · exact .inl h1
    · have hu := hd.resolve_left e
      exact absurd (by rw [newSt_kd, if_neg e, if_pos hu]) ho.lv
  · have hone : ∀ o, (o = d ∨ used = some o) → Owns (newSt σ used d k cs) (setρ ρ d hv) o b → o = d := fun o hd ho => by
      by_cases e : o = d
      · exact e
      · exact absurd (by rw [newSt_kd, if_neg e, if_pos (hd.resolve_left e)]) ho.lv
    rw [hone o hd ho, hone p hp hp']
  · by_cases e : o = d
    · subst e
      rw [newSt_kd, if_pos rfl]
      exact hobj hI hA
    · rw [newSt_kd, if_neg e, if_pos (hd.resolve_left e)]
      trivial
end

end Go.Proofs.YthahbiahlpcgeaaGreatDoor.Sym
