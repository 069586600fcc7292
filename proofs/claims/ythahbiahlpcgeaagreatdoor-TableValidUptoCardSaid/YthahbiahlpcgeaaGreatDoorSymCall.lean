/-
  The plain reading's operations are the model's: calls.
-/
import Derived.Test.YthahbiahlpcgeaaGreatDoorSym9
namespace Go.Proofs.YthahbiahlpcgeaaGreatDoor.Sym
open Go.RowKit

def isGrid : Kd → Bool
  | .grid _ _ _ _ _ => true
  | _ => false
theorem mkObj_eqs (σ τ : St) (nm : Nat) (k : Kd) : (∀ o, (app σ (mkObj τ nm k)).kd o = if o = nm then k else σ.kd o) ∧ (∀ o, (app σ (mkObj τ nm k)).gn o = if o = nm then τ.gn nm + 1 else σ.gn o) ∧ (∀ o, (app σ (mkObj τ nm k)).ig o = σ.ig o) ∧
    (∀ t, (app σ (mkObj τ nm k)).av t = σ.av t) ∧ ∀ o i, (app σ (mkObj τ nm k)).ce o i = σ.ce o i := by
  unfold mkObj
  simp only [app_cons, app_nil]
  exact ⟨fun o => by rw [kd_knd, kd_gen], fun o => by rw [gn_knd, gn_gen], fun o => by rw [ig_knd, ig_gen], fun o => by rw [av_knd, av_gen], fun o i => by rw [ce_knd, ce_gen]⟩
theorem mkK_eqs (σ τ : St) (nm : Nat) (k : Kd) : (∀ o, (app σ (mkObjK τ nm k)).kd o = if o = nm then k else σ.kd o) ∧ (∀ o, (app σ (mkObjK τ nm k)).gn o = if o = nm then τ.gn nm + 1 else σ.gn o) ∧ (∀ o, (app σ (mkObjK τ nm k)).ig o = if o = nm ∧ isGrid k = true then τ.ig nm + 1 else σ.ig o) ∧
    (∀ t, (app σ (mkObjK τ nm k)).av t = σ.av t) ∧ ∀ o i, (app σ (mkObjK τ nm k)).ce o i = σ.ce o i := by
  have hn : isGrid k = false → (∀ o, (app σ (mkObj τ nm k)).kd o = if o = nm then k else σ.kd o) ∧ (∀ o, (app σ (mkObj τ nm k)).gn o = if o = nm then τ.gn nm + 1 else σ.gn o) ∧ (∀ o, (app σ (mkObj τ nm k)).ig o = if o = nm ∧ isGrid k = true then τ.ig nm + 1 else σ.ig o) ∧
    (∀ t, (app σ (mkObj τ nm k)).av t = σ.av t) ∧ ∀ o i, (app σ (mkObj τ nm k)).ce o i = σ.ce o i := fun hg => by
    obtain ⟨h1, h2, h3, h4, h5⟩ := mkObj_eqs σ τ nm k
    exact ⟨h1, h2, fun o => by rw [if_neg (fun e => by rw [hg] at e; cases e.2)]; exact h3 o, h4, h5⟩
  cases k with
  | dead => exact hn rfl
  | box t m => exact hn rfl
  | row e m es => exact hn rfl
  | map l => exact hn rfl
  | grid e e' m gs q =>
    show (∀ o, (app (upd σ (.ign nm) (.n (τ.ig nm + 1))) (mkObj τ nm _)).kd o = _) ∧ (∀ o, (app (upd σ (.ign nm) (.n (τ.ig nm + 1))) (mkObj τ nm _)).gn o = _) ∧ (∀ o, (app (upd σ (.ign nm) (.n (τ.ig nm + 1))) (mkObj τ nm _)).ig o = _) ∧
      (∀ t, (app (upd σ (.ign nm) (.n (τ.ig nm + 1))) (mkObj τ nm _)).av t = _) ∧ ∀ o i, (app (upd σ (.ign nm) (.n (τ.ig nm + 1))) (mkObj τ nm _)).ce o i = _
    obtain ⟨h1, h2, h3, h4, h5⟩ := mkObj_eqs (upd σ (.ign nm) (.n (τ.ig nm + 1))) τ nm (.grid e e' m gs q)
    refine ⟨fun o => by rw [h1, kd_ign], fun o => by rw [h2, gn_ign], fun o => ?_, fun t => by rw [h4, av_ign], fun o i => by rw [h5, ce_ign]⟩
    rw [h3, ig_ign]
    by_cases e1 : o = nm
    · rw [if_pos e1, if_pos ⟨e1, rfl⟩]
    · rw [if_neg e1, if_neg (fun h => e1 h.1)]

def innK (k : Kd) (inn old : List Value) : List Value := match k with
  | .grid _ _ _ _ _ => inn
  | _ => old
theorem fpk_innK (v : Value) (k : Kd) (inn old : List Value) : fpk v (innK k inn old) k = fpk v inn k := by cases k <;> rfl
theorem hold_innK {w : World} {S : Nat → Prop} {v : Value} {inn old : List Value} : ∀ {k : Kd}, HoldOk w S v inn k → HoldOk w S v (innK k inn old) k
  | .dead, h => h
  | .box _ _, h => h
  | .row _ _ _, h => h
  | .grid _ _ _ _ _, h => h
  | .map _, h => h
def setK (ρ : Ly) (σ' : St) (nm : Nat) (v : Value) (inn : List Value) (k : Kd) : Ly := ⟨fun o => if o = nm then v else ρ o, fun o => if o = nm then innK k inn (ρ.inn nm) else ρ.inn o, σ'.ig⟩

section
variable {P : Program} {B : Base} {o : Oper} {σ : St} {K : Fx → Prop}

/-- An object that changed hands is the frame's. -/
theorem adopt_one {a : Act} {w : World} {ρ : Ly} (h : SatR B σ a w ρ) {S' : Nat → Prop} {v : Value} {k : Kd} {inn : List Value} {nm : Nat} {τ : St} (hg : σ.gn nm = τ.gn nm) (hi : σ.ig nm = τ.ig nm) (hh : HoldOk w S' v inn k) (hS : ∀ b, S' b → Imm B σ ρ w b) (hz : ∀ b ∈ fpk v inn k, B.Z b) :
    ∃ ρ' : Ly, SatR { B with Z := fun b => B.Z b ∧ b ∉ fpk v inn k } (app σ (mkObjK τ nm k)) a w ρ' ∧ (∀ u x, RepI w (Imm B σ ρ w) u x → RepI w (Imm { B with Z := fun b => B.Z b ∧ b ∉ fpk v inn k } (app σ (mkObjK τ nm k)) ρ' w) u x) ∧
      (∀ u x, RepA w (Imm B σ ρ w) ρ σ.gn u x → RepA w (Imm { B with Z := fun b => B.Z b ∧ b ∉ fpk v inn k } (app σ (mkObjK τ nm k)) ρ' w) ρ' (app σ (mkObjK τ nm k)).gn u x) ∧
      (∀ b, Imm B σ ρ w b → Imm { B with Z := fun b => B.Z b ∧ b ∉ fpk v inn k } (app σ (mkObjK τ nm k)) ρ' w b) ∧ ρ' nm = v ∧ ∀ o, o ≠ nm → ρ' o = ρ o := by
  obtain ⟨e1, e2, e3, e4, e5⟩ := mkK_eqs σ τ nm k
  have hkb : ∀ t m, k ≠ .box t m := fun t m e => by subst e; exact hh.elim
  have hown : ∀ b, Owns (app σ (mkObjK τ nm k)) (setK ρ (app σ (mkObjK τ nm k)) nm v inn k) nm b → b ∈ fpk v inn k := fun b hb => by
    unfold Owns at hb
    rw [e1, if_pos rfl] at hb
    simp only [setK, if_pos] at hb
    rw [fpk_innK] at hb
    exact hb
  obtain ⟨h1, h2, h3, h4⟩ := h.stepZ (σ' := app σ (mkObjK τ nm k)) (ρ' := setK ρ (app σ (mkObjK τ nm k)) nm v inn k) (w' := w) (fun o => o = nm) (fun b => B.Z b ∧ b ∉ fpk v inn k) e4
    (fun o hd => ⟨by rw [e1, if_neg hd], by rw [e2, if_neg hd], fun i => e5 o i, by simp [setK, hd], by simp [setK, hd], by show (app σ (mkObjK τ nm k)).ig o = _; rw [e3, if_neg (fun e => hd e.1)]; exact (h.igs o).symm⟩)
    (fun o hd => by
      subst hd
      refine ⟨⟨by rw [e2, if_pos rfl, hg]; omega, fun e => by rw [e2, if_pos rfl, hg] at e; omega⟩, ?_, fun e => ?_⟩
      · show _ ≤ (app σ (mkObjK τ o k)).ig o
        rw [e3, h.igs, hi]
        split <;> omega
      · have e : (app σ (mkObjK τ o k)).ig o = ρ.ig o := e
        rw [e3, h.igs, hi] at e
        cases hgk : isGrid k with
        | true => rw [hgk, if_pos ⟨rfl, rfl⟩] at e; omega
        | false =>
          simp only [setK, if_pos]
          cases k <;> first | rfl | cases hgk)
    (fun o => rfl) (Belo.refl _ _ _) (fun o b hd ho => by subst hd; exact .inr (.inl (hz b (hown b ho)))) (fun o p b hd hp _ _ => hd.trans hp.symm)
    (fun b hb => ⟨(h.res b hb.1).1.2, .inr (.inl hb.1), fun o hd ho => by subst hd; exact hb.2 (hown b ho)⟩) fun hI hA o hd => by
      subst hd
      rw [e1, if_pos rfl]
      refine ObjOk.of_hold hkb ?_
      simp only [setK, if_pos]
      refine hold_innK (hh.mono (fun _ _ => rfl) fun u x hr => hI u x (hr.mono hS fun _ _ _ h => h))
  exact ⟨_, h1, h2, h3, h4, by simp [setK], fun o ho => by simp [setK, ho]⟩

theorem ocPl_nm (τ : St) (nm : Nat) (c : Oc) : ∀ p ∈ (ocPl τ nm c).2, p.1 = nm := by
  cases c <;> simp [ocPl]
theorem insWr_append (σ : St) : ∀ (a b : List (Nat × Kd)), insWr σ (a ++ b) = insWr σ a ++ insWr σ b
  | [], b => rfl
  | p :: a, b => by rw [List.cons_append, insWr, insWr_append σ a b, insWr, List.append_assoc]

/-- Parts that changed hands are the frame's. -/
theorem adopt_ocs {a : Act} {w : World} {S' : Nat → Prop} (τ : St) (f : Nat → Nat) : ∀ {l : List Oc} {i : Nat} {us : List Value} {F : List Nat} {B : Base} {σ : St} {ρ : Ly}, SatR B σ a w ρ → OcsOk w S' us l F → (∀ b, S' b → Imm B σ ρ w b) → F.Nodup → (∀ b ∈ F, B.Z b) →
    ((ocsPl τ f i l).2.map (·.1)).Nodup → (∀ p ∈ (ocsPl τ f i l).2, σ.gn p.1 = τ.gn p.1 ∧ σ.ig p.1 = τ.ig p.1) →
    ∃ (ρ' : Ly) (Z' : Nat → Prop), SatR { B with Z := Z' } (app σ (insWr τ (ocsPl τ f i l).2)) a w ρ' ∧ (∀ b, B.Z b → b ∉ F → Z' b) ∧ Reps w (Imm { B with Z := Z' } (app σ (insWr τ (ocsPl τ f i l).2)) ρ' w) ρ' (app σ (insWr τ (ocsPl τ f i l).2)).gn us (ocsPl τ f i l).1 ∧
      (∀ u x, RepA w (Imm B σ ρ w) ρ σ.gn u x → RepA w (Imm { B with Z := Z' } (app σ (insWr τ (ocsPl τ f i l).2)) ρ' w) ρ' (app σ (insWr τ (ocsPl τ f i l).2)).gn u x) ∧
      (∀ b, Imm B σ ρ w b → Imm { B with Z := Z' } (app σ (insWr τ (ocsPl τ f i l).2)) ρ' w b) ∧ (∀ o, o ∉ (ocsPl τ f i l).2.map (·.1) → ρ' o = ρ o ∧ (app σ (insWr τ (ocsPl τ f i l).2)).gn o = σ.gn o ∧ (app σ (insWr τ (ocsPl τ f i l).2)).ig o = σ.ig o ∧ (app σ (insWr τ (ocsPl τ f i l).2)).kd o = σ.kd o)
  | [], i, us, F, B, σ, ρ, h, hok, hS, hnd, hz, hn, hgs => by
    match us, hok with
    | [], hok => exact ⟨ρ, B.Z, h, fun _ hb _ => hb, ⟨rfl, by simp⟩, fun _ _ hr => hr, fun _ hb => hb, fun _ _ => ⟨rfl, rfl, rfl, rfl⟩⟩
  | c :: l, i, us, F, B, σ, ρ, h, hok, hS, hnd, hz, hn, hgs => by
    match us, hok with
    | u :: us, ⟨F1, F2, h1, h2, h3⟩ =>
      subst h3
      rw [List.nodup_append] at hnd
      cases c with
      | im x =>
        obtain ⟨hx, rfl⟩ := h1
        obtain ⟨ρ', Z', g1, g2, g3, g4, g5, g6⟩ := adopt_ocs τ f (l := l) (i := i + 1) h h2 hS hnd.2.1 (fun b hb => hz b (by simp [hb])) hn hgs
        refine ⟨ρ', Z', g1, g2, ⟨by simp [ocsPl, ocPl, g3.1], fun j y z hy hz => ?_⟩, g4, g5, g6⟩
        cases j with
        | zero =>
          simp [ocsPl, ocPl] at hy hz
          subst hy hz
          exact .im _ _ (hx.mono (fun b hb => g5 b (hS b hb)) fun _ _ _ h => h)
        | succ j => exact g3.2 j y z (by simpa using hy) (by simpa [ocsPl, ocPl] using hz)
      | ow k =>
        obtain ⟨ho1, inn, hh, rfl⟩ := h1
        have hn' : (f i ∉ (ocsPl τ f (i + 1) l).2.map (·.1)) ∧ ((ocsPl τ f (i + 1) l).2.map (·.1)).Nodup := by
          have : (ocsPl τ f i (.ow k :: l)).2 = (f i, k) :: (ocsPl τ f (i + 1) l).2 := rfl
          rw [this, List.map_cons, List.nodup_cons] at hn
          exact hn
        have hg0 := hgs (f i, k) (by show _ ∈ (f i, k) :: _; simp)
        obtain ⟨ρ1, a1, a2, a3, a4, a5, a6⟩ := adopt_one h (nm := f i) (τ := τ) hg0.1 hg0.2 hh hS fun b hb => hz b (by simp [hb])
        obtain ⟨e1, e2, e3, e4, e5⟩ := mkK_eqs σ τ (f i) k
        have hne : ∀ p ∈ (ocsPl τ f (i + 1) l).2, p.1 ≠ f i := fun p hp e => hn'.1 (List.mem_map.2 ⟨p, hp, e⟩)
        obtain ⟨ρ', Z', g1, g2, g3, g4, g5, g6⟩ := adopt_ocs τ f (l := l) (i := i + 1) a1 h2 (fun b hb => a4 b (hS b hb)) hnd.2.1 (fun b hb => ⟨hz b (by simp [hb]), fun hf => hnd.2.2 b hf b hb rfl⟩) hn'.2 (fun p hp => by
          rw [e2, e3, if_neg (hne p hp), if_neg (fun e => hne p hp e.1)]
          exact hgs p (by show p ∈ (f i, k) :: _; simp [hp]))
        have happ : app σ (insWr τ (ocsPl τ f i (.ow k :: l)).2) = app (app σ (mkObjK τ (f i) k)) (insWr τ (ocsPl τ f (i + 1) l).2) := by
          show app σ (mkObjK τ (f i) k ++ insWr τ (ocsPl τ f (i + 1) l).2) = _
          rw [app_append]
        rw [happ]
        refine ⟨ρ', Z', g1, fun b hb hnb => g2 b ⟨hb, fun hf => hnb (by simp [hf])⟩ (fun hf => hnb (by simp [hf])), ⟨by show _ = ((_ : AV) :: (ocsPl τ f (i + 1) l).1).length; simp [g3.1], fun j y z hy hz => ?_⟩, fun v x hr => g4 v x (a3 v x hr), fun b hb => g5 b (a4 b hb), fun o ho => ?_⟩
        · cases j with
          | zero =>
            have hz : (AV.osl (f i) (τ.gn (f i) + 1)) = z := by simpa [ocsPl, ocPl] using hz
            simp at hy
            subst hy hz
            obtain ⟨b1, b2, _, _⟩ := g6 (f i) hn'.1
            refine .osl _ _ _ ho1 ?_ fun _ => ?_
            · rw [b2, e2, if_pos rfl]; omega
            · rw [b1, a5]
          | succ j => exact g3.2 j y z (by simpa using hy) (by simpa [ocsPl, ocPl] using hz)
        · have ho' : o ≠ f i ∧ o ∉ (ocsPl τ f (i + 1) l).2.map (·.1) := by
            have : (ocsPl τ f i (.ow k :: l)).2 = (f i, k) :: (ocsPl τ f (i + 1) l).2 := rfl
            rw [this, List.map_cons] at ho
            exact ⟨fun e => ho (by simp [e]), fun hm => ho (List.mem_cons_of_mem _ hm)⟩
          obtain ⟨b1, b2, b3, b4⟩ := g6 o ho'.2
          exact ⟨by rw [b1, a6 o ho'.1], by rw [b2, e2, if_neg ho'.1], by rw [b3, e3, if_neg (fun e => ho'.1 e.1)], by rw [b4, e1, if_neg ho'.1]⟩

/-- What was lent lies ready. -/
def LkR (w : World) (S : Nat → Prop) (ρ : Ly) (γ : Nat → Nat) (p : Value) (qs : List Nat) : LK → Prop
  | .box t al => ∃ (q : Nat) (us : List Value), qs = [q] ∧ p = .pointer (some ⟨q, 0, none⟩) ∧ w.heap[q]? = some (.cells us.toArray t (0, 0)) ∧ (∀ u ∈ us, u.oneCell' = true) ∧ Reps w S ρ γ us al
  | .obj k => flatK k = true ∧ ∃ inn, HoldOk w S p inn k ∧ qs = fpk p inn k
def BxR (w : World) (S : Nat → Prop) (ρ : Ly) (γ : Nat → Nat) : List (Nat × LK) → List Value → List Nat → Prop
  | [], [], qs => qs = []
  | (_, x) :: bl, p :: ps, qs => ∃ q1 q2, LkR w S ρ γ p q1 x ∧ BxR w S ρ γ bl ps q2 ∧ qs = q1 ++ q2
  | _, _, _ => False
theorem LkR.mono {w : World} {S S' : Nat → Prop} {ρ ρ' : Ly} {γ γ' : Nat → Nat} (hA : ∀ u x, RepA w S ρ γ u x → RepA w S' ρ' γ' u x) {p : Value} {qs : List Nat} : ∀ {x : LK}, LkR w S ρ γ p qs x → LkR w S' ρ' γ' p qs x
  | .box t al, ⟨q, us, h1, h2, h3, h4, h5⟩ => ⟨q, us, h1, h2, h3, h4, ⟨h5.1, fun i u x hu hx => hA _ _ (h5.2 i u x hu hx)⟩⟩
  | .obj k, ⟨h1, inn, h2, h3⟩ => ⟨h1, inn, h2.mono (fun _ _ => rfl) fun u x hr => (hA u (.im x) (.im _ _ hr)).im_inv, h3⟩
theorem BxR.mono {w : World} {S S' : Nat → Prop} {ρ ρ' : Ly} {γ γ' : Nat → Nat} (hA : ∀ u x, RepA w S ρ γ u x → RepA w S' ρ' γ' u x) : ∀ {bl : List (Nat × LK)} {ps : List Value} {qs : List Nat}, BxR w S ρ γ bl ps qs → BxR w S' ρ' γ' bl ps qs
  | [], [], _, h => h
  | _ :: _, _ :: _, _, ⟨q1, q2, h1, h2, h3⟩ => ⟨q1, q2, h1.mono hA, h2.mono hA, h3⟩
  | [], _ :: _, _, h => h.elim
  | _ :: _, [], _, h => h.elim

/-- The parts of the boxes are the frame's. -/
theorem adopt_bxs {a : Act} {w : World} {S' : Nat → Prop} (τ : St) : ∀ {bx : List (Nat × Nat)} {ys : List Arg} {ps : List Value} {F : List Nat} {bl : List (Nat × LK)} {ss : List (Nat × Kd)} {B : Base} {σ : St} {ρ : Ly}, bxPl τ bx ys = some (bl, ss) → SatR B σ a w ρ → ArgsOk w S' ps ys F → (∀ b, S' b → Imm B σ ρ w b) → F.Nodup → (∀ b ∈ F, B.Z b) →
    (ss.map (·.1)).Nodup → (∀ p ∈ ss, σ.gn p.1 = τ.gn p.1 ∧ σ.ig p.1 = τ.ig p.1) →
    ∃ (ρ' : Ly) (Z' : Nat → Prop) (qs : List Nat), SatR { B with Z := Z' } (app σ (insWr τ ss)) a w ρ' ∧ (∀ b, B.Z b → b ∉ F → Z' b) ∧ (∀ q ∈ qs, Z' q ∧ q ∈ F) ∧ qs.Nodup ∧ BxR w (Imm { B with Z := Z' } (app σ (insWr τ ss)) ρ' w) ρ' (app σ (insWr τ ss)).gn bl ps qs ∧ bl.map (·.1) = bx.map (·.1) ∧
      (∀ u x, RepA w (Imm B σ ρ w) ρ σ.gn u x → RepA w (Imm { B with Z := Z' } (app σ (insWr τ ss)) ρ' w) ρ' (app σ (insWr τ ss)).gn u x) ∧
      (∀ b, Imm B σ ρ w b → Imm { B with Z := Z' } (app σ (insWr τ ss)) ρ' w b) ∧ (∀ o, o ∉ ss.map (·.1) → ρ' o = ρ o ∧ (app σ (insWr τ ss)).gn o = σ.gn o ∧ (app σ (insWr τ ss)).ig o = σ.ig o ∧ (app σ (insWr τ ss)).kd o = σ.kd o)
  | [], [], ps, F, bl, ss, B, σ, ρ, e, h, hok, hS, hnd, hz, hn, hgs => by
    simp only [bxPl, Option.some.injEq, Prod.mk.injEq] at e
    obtain ⟨rfl, rfl⟩ := e
    match ps, hok with
    | [], hok => exact ⟨ρ, B.Z, [], h, fun _ hb _ => hb, by simp, List.nodup_nil, rfl, rfl, fun _ _ hr => hr, fun _ hb => hb, fun _ _ => ⟨rfl, rfl, rfl, rfl⟩⟩
  | [], y :: ys, ps, F, bl, ss, B, σ, ρ, e, h, hok, hS, hnd, hz, hn, hgs => by simp [bxPl] at e
  | (b, i) :: bx, [], ps, F, bl, ss, B, σ, ρ, e, h, hok, hS, hnd, hz, hn, hgs => by simp [bxPl] at e
  | (b, i) :: bx, .im _ :: ys, ps, F, bl, ss, B, σ, ρ, e, h, hok, hS, hnd, hz, hn, hgs => by simp [bxPl] at e
  | (b, i) :: bx, .ow _ :: ys, ps, F, bl, ss, B, σ, ρ, e, h, hok, hS, hnd, hz, hn, hgs => by simp [bxPl] at e
  | (b, i) :: bx, .lent k :: ys, ps, F, bl, ss, B, σ, ρ, e, h, hok, hS, hnd, hz, hn, hgs => by
    unfold bxPl at e
    split at e
    · rename_i l s2 hfk e2
      simp only [Option.some.injEq, Prod.mk.injEq] at e
      obtain ⟨rfl, rfl⟩ := e
      match ps, hok with
      | p :: ps, ⟨F1, F2, ⟨p1, inn, p2, p3⟩, p6, p7⟩ =>
        subst p7
        rw [List.nodup_append] at hnd
        obtain ⟨hnF1, hnF2, hdis⟩ := hnd
        obtain ⟨ρ', Z', qs, g1, g2, g3, g4, g5, g6, g7, g8, g9⟩ := adopt_bxs τ e2 h p6 hS hnF2 (fun c hc => hz c (by simp [hc])) hn hgs
        refine ⟨ρ', Z', F1 ++ qs, g1, fun c hc hnc => g2 c hc fun hf => hnc (by simp [hf]), fun c hc => ?_, List.nodup_append.2 ⟨hnF1, g4, fun x hx y hy => hdis x hx y (g3 y hy).2⟩, ⟨F1, qs, ⟨hfk, inn, p2.mono (fun _ _ => rfl) fun u x hr => hr.mono (fun c hc => g8 c (hS c hc)) fun _ _ _ h => h, p3⟩, g5, rfl⟩, by simp [g6], g7, g8, g9⟩
        rcases List.mem_append.1 hc with hc | hc
        · exact ⟨g2 c (hz c (by simp [hc])) fun hf => hdis c hc c hf rfl, by simp [hc]⟩
        · exact ⟨(g3 c hc).1, by simp [(g3 c hc).2]⟩
    · cases e
  | (b, i) :: bx, .box t cs :: ys, ps, F, bl, ss, B, σ, ρ, e, h, hok, hS, hnd, hz, hn, hgs => by
    unfold bxPl at e
    split at e
    · rename_i al s1 l s2 e1 e2
      simp only [Option.some.injEq, Prod.mk.injEq] at e
      obtain ⟨rfl, rfl⟩ := e
      match ps, hok with
      | p :: ps, ⟨F1, F2, ⟨q, us, F', p1, p2, p3, p4, p5⟩, p6, p7⟩ =>
        subst p5 p7
        have hs1 : s1 = (ocsPl τ (cellNm τ b i) 0 cs).2 := by rw [e1]
        have hal : al = (ocsPl τ (cellNm τ b i) 0 cs).1 := by rw [e1]
        rw [List.map_append, List.nodup_append] at hn
        rw [List.cons_append, List.nodup_cons, List.nodup_append] at hnd
        obtain ⟨hq, hnF', hnF2, hdis⟩ := hnd
        rw [List.mem_append, not_or] at hq
        obtain ⟨ρ1, Z1, a1, a2, a3, a4, a5, a6⟩ := adopt_ocs τ (cellNm τ b i) (l := cs) (i := 0) h p4 hS hnF' (fun c hc => hz c (by simp [hc])) (by rw [← hs1]; exact hn.1) (fun p hp => hgs p (List.mem_append_left _ (by rw [hs1]; exact hp)))
        rw [← hs1] at a1 a3 a4 a5 a6
        rw [← hal] at a3
        obtain ⟨ρ', Z', qs, g1, g2, g3, g4, g5, g6, g7, g8, g9⟩ := adopt_bxs τ e2 a1 p6 (fun c hc => a5 c (hS c hc)) hnF2 (fun c hc => a2 c (hz c (by simp [hc])) fun hf => hdis c hf c hc rfl) hn.2.1 (fun p hp => by
          obtain ⟨b1, b2, b3, _⟩ := a6 p.1 fun hm => hn.2.2 p.1 hm p.1 (List.mem_map.2 ⟨p, hp, rfl⟩) rfl
          rw [b2, b3]
          exact hgs p (List.mem_append_right _ hp))
        rw [insWr_append, app_append]
        refine ⟨ρ', Z', q :: qs, g1, fun c hc hnc => g2 c (a2 c hc fun hf => hnc (by simp [hf])) fun hf => hnc (by simp [hf]), fun c hc => ?_, List.nodup_cons.2 ⟨fun hm => hq.2 (g3 q hm).2, g4⟩, ⟨[q], qs, ⟨q, us, rfl, p1, p2, p3, ⟨a3.1, fun j u x hu hx => g7 _ _ (a3.2 j u x hu hx)⟩⟩, g5, rfl⟩, by simp [g6], fun v x hr => g7 v x (a4 v x hr), fun c hc => g8 c (a5 c hc), fun o ho => ?_⟩
        · rcases List.mem_cons.1 hc with rfl | hc
          · exact ⟨g2 _ (a2 _ (hz _ (by simp)) hq.1) hq.2, by simp⟩
          · exact ⟨(g3 c hc).1, by simp [(g3 c hc).2]⟩
        · rw [List.map_append, List.mem_append, not_or] at ho
          obtain ⟨b1, b2, b3, b4⟩ := a6 o ho.1
          obtain ⟨c1, c2, c3, c4⟩ := g9 o ho.2
          exact ⟨c1.trans b1, c2.trans b2, c3.trans b3, c4.trans b4⟩
    · cases e

/-- What was lent is the frame's again. -/
theorem adopt_lent {a : Act} {w : World} {b : Nat} {x : LK} {p : Value} {qs : List Nat} {B : Base} {σ : St} {ρ : Ly} (h : SatR B σ a w ρ) (hx : LkR w (Imm B σ ρ w) ρ σ.gn p qs x) (hz : ∀ q ∈ qs, B.Z q) (hρ : ρ b = p) :
    SatR { B with Z := fun c => B.Z c ∧ c ∉ qs } (app σ (lkWr b x)) a w ρ ∧ (∀ u y, RepA w (Imm B σ ρ w) ρ σ.gn u y → RepA w (Imm { B with Z := fun c => B.Z c ∧ c ∉ qs } (app σ (lkWr b x)) ρ w) ρ (app σ (lkWr b x)).gn u y) := by
  cases x with
  | box t al =>
    obtain ⟨q, us, e1, e2, e3, e4, e5⟩ := hx
    subst e1
    have hρb : ρ b = .pointer (some ⟨q, 0, none⟩) := hρ.trans e2
    have hkd : ∀ o, (app (upd σ (.knd b) (.kd (.box t al.length))) (celWr b 0 al)).kd o = if o = b then .box t al.length else σ.kd o := fun o => by rw [celWr_kd, kd_knd]
    have hgn : (app (upd σ (.knd b) (.kd (.box t al.length))) (celWr b 0 al)).gn = σ.gn := by rw [celWr_gn]; exact funext fun o => gn_knd σ b o _
    have hown : ∀ c, Owns (app (upd σ (.knd b) (.kd (.box t al.length))) (celWr b 0 al)) ρ b c → c = q := fun c hc => by
      unfold Owns at hc
      rw [hkd, if_pos rfl, hρb] at hc
      simpa [fpk, blkOf] using hc
    obtain ⟨h1, h2, h3, h4⟩ := h.stepZ (σ' := app (upd σ (.knd b) (.kd (.box t al.length))) (celWr b 0 al)) (ρ' := ρ) (w' := w) (fun o => o = b) (fun c => B.Z c ∧ c ∉ [q]) (fun o => by rw [celWr_av, av_knd])
      (fun o hd => ⟨by rw [hkd, if_neg hd], by rw [hgn], fun i => by rw [celWr_ce, if_neg (fun z => hd z.1), ce_knd], rfl, rfl, rfl⟩) (fun o _ => ⟨⟨by rw [hgn]; exact Nat.le_refl _, fun _ => rfl⟩, Nat.le_refl _, fun _ => rfl⟩)
      (fun o => by rw [celWr_ig, ig_knd]; exact h.igs o) (Belo.refl _ _ _) (fun o c hd ho => by subst hd; rw [hown c ho]; exact .inr (.inl (hz q (by simp)))) (fun o p c hd hp _ _ => hd.trans hp.symm)
      (fun c hc => ⟨(h.res c hc.1).1.2, .inr (.inl hc.1), fun o hd ho => by subst hd; exact hc.2 (by rw [hown c ho]; simp)⟩) fun hI hA o hd => by
        subst hd
        rw [hkd, if_pos rfl]
        refine ⟨q, us, hρb, e3, e5.1, e4, fun i u hu => ?_⟩
        have hi : i < al.length := by rw [← e5.1]; exact (List.getElem?_eq_some_iff.1 hu).1
        obtain ⟨c, hc⟩ : ∃ c, al[i]? = some c := ⟨_, List.getElem?_eq_getElem hi⟩
        rw [celWr_ce, if_pos ⟨rfl, by omega, by omega⟩, Nat.sub_zero, getD_of_some hc]
        exact hA _ _ (e5.2 i u c hu hc)
    exact ⟨h1, h3⟩
  | obj k =>
    obtain ⟨e1, inn, e2, e3⟩ := hx
    have hkb : ∀ t m, k ≠ .box t m := fun t m e => by subst e; cases e1
    have hfp : ∀ inn', fpk p inn' k = qs := fun inn' => by rw [e3]; cases k <;> first | rfl | cases e1
    have hhold : ∀ inn', HoldOk w (Imm B σ ρ w) p inn' k := fun inn' => by cases k <;> first | exact e2 | cases e1
    have hown : ∀ c, Owns (upd σ (.knd b) (.kd k)) ρ b c → c ∈ qs := fun c hc => by
      unfold Owns at hc
      rw [kd_knd, if_pos rfl, hρ, hfp] at hc
      exact hc
    obtain ⟨h1, h2, h3, h4⟩ := h.stepZ (σ' := upd σ (.knd b) (.kd k)) (ρ' := ρ) (w' := w) (fun o => o = b) (fun c => B.Z c ∧ c ∉ qs) (fun o => av_knd σ b o _)
      (fun o hd => ⟨by rw [kd_knd, if_neg hd], gn_knd σ b o _, fun i => ce_knd σ b o i _, rfl, rfl, rfl⟩) (fun o _ => ⟨⟨by rw [gn_knd]; exact Nat.le_refl _, fun _ => rfl⟩, Nat.le_refl _, fun _ => rfl⟩)
      (fun o => by rw [ig_knd]; exact h.igs o) (Belo.refl _ _ _) (fun o c hd ho => by subst hd; exact .inr (.inl (hz c (hown c ho)))) (fun o p c hd hp _ _ => hd.trans hp.symm)
      (fun c hc => ⟨(h.res c hc.1).1.2, .inr (.inl hc.1), fun o hd ho => by subst hd; exact hc.2 (hown c ho)⟩) fun hI hA o hd => by
        subst hd
        rw [kd_knd, if_pos rfl]
        refine ObjOk.of_hold hkb ?_
        rw [hρ]
        exact (hhold _).mono (fun _ _ => rfl) hI
    exact ⟨h1, h3⟩
theorem adopt_boxes {a : Act} {w : World} : ∀ {bl : List (Nat × LK)} {ps : List Value} {qs : List Nat} {B : Base} {σ : St} {ρ : Ly}, SatR B σ a w ρ → BxR w (Imm B σ ρ w) ρ σ.gn bl ps qs → qs.Nodup → (∀ q ∈ qs, B.Z q) → (bl.map (·.1)).Nodup → (∀ (j : Nat) (b : Nat) (p : Value), (bl.map (·.1))[j]? = some b → ps[j]? = some p → ρ b = p) →
    ∃ Z' : Nat → Prop, SatR { B with Z := Z' } (app σ (bxWr bl)) a w ρ ∧ (∀ b, B.Z b → b ∉ qs → Z' b) ∧ (∀ u x, RepA w (Imm B σ ρ w) ρ σ.gn u x → RepA w (Imm { B with Z := Z' } (app σ (bxWr bl)) ρ w) ρ (app σ (bxWr bl)).gn u x)
  | [], ps, qs, B, σ, ρ, h, hb, hnd, hz, hn, hρ => by
    match ps, hb with
    | [], hb => exact ⟨B.Z, h, fun _ hb _ => hb, fun _ _ hr => hr⟩
  | (b, x) :: bl, [], qs, B, σ, ρ, h, hb, hnd, hz, hn, hρ => hb.elim
  | (b, x) :: bl, p :: ps, qs, B, σ, ρ, h, ⟨q1, q2, e1, e2, e3⟩, hnd, hz, hn, hρ => by
    subst e3
    rw [List.nodup_append] at hnd
    rw [List.map_cons, List.nodup_cons] at hn
    obtain ⟨h1, h3⟩ := adopt_lent h e1 (fun q hq => hz q (by simp [hq])) (hρ 0 b p rfl rfl)
    obtain ⟨Z', g1, g2, g3⟩ := adopt_boxes h1 (e2.mono h3) hnd.2.1 (fun c hc => ⟨hz c (by simp [hc]), fun e => hnd.2.2 c e c hc rfl⟩) hn.2 fun j c v hc hv => hρ (j + 1) c v (by simpa using hc) (by simpa using hv)
    have happ : app σ (bxWr ((b, x) :: bl)) = app (app σ (lkWr b x)) (bxWr bl) := by
      show app σ (lkWr b x ++ bxWr bl) = _
      rw [app_append]
    rw [happ]
    exact ⟨Z', g1, fun c hc hnc => g2 c ⟨hc, fun e => hnc (by simp [e])⟩ fun hm => hnc (by simp [hm]), fun u x hr => g3 u x (h3 u x hr)⟩

theorem fwr_ig (bs : List (Nat × Nat)) : ∀ (σ : St), (app σ (fwr bs)).ig = σ.ig := by
  induction bs with
  | nil => intro σ; rfl
  | cons b bs ih =>
    intro σ
    show (app (upd σ (.knd b.1) (.kd .dead)) (fwr bs)).ig = _
    rw [ih]
    exact funext fun t => ig_knd σ b.1 t _

/-- A call has come back: what was given is gone, what came is the frame's. -/
theorem call_back {a : Act} {w w' : World} {ρ : Ly} (h : SatR B σ a w ρ) (gs : List (Nat × Nat)) (hgsn : (gs.map (·.1)).Nodup) {S' : Nat → Prop} {v : Value} {ps : List Value} {τ : St} {tp : Bool} {d : Nat} {l : List Oc} {ys : List Arg} {F' : List Nat} {bx : List (Nat × Nat)} {bl : List (Nat × LK)} {ss' : List (Nat × Kd)} {va : AV}
    (hb : Belo (fun b => b ∈ footG σ ρ gs) w.heap.size w w') (hS : ∀ b, S' b → (Imm B σ ρ w b ∨ w.heap.size ≤ b ∨ b ∈ footG σ ρ gs) ∧ b < w'.heap.size ∧ b ∉ F') (hr : ResOk w' S' v ps (.mk tp l ys) F') (hnd : F'.Nodup) (hF' : ∀ b ∈ F', (w.heap.size ≤ b ∨ b ∈ footG σ ρ gs) ∧ b < w'.heap.size)
    (hbl : bxPl τ bx ys = some (bl, ss')) (hps : ps = bx.map fun p => ρ p.1) (hbn : (bx.map (·.1)).Nodup) (hva : resV tp (ocsPl τ (resNm tp d) 0 l).1 = some va) (hnm : (((ocsPl τ (resNm tp d) 0 l).2 ++ ss').map (·.1)).Nodup) (hnb : ∀ x ∈ ((ocsPl τ (resNm tp d) 0 l).2 ++ ss').map (·.1), x ∉ bl.map (·.1))
    (hτ : ∀ p ∈ (ocsPl τ (resNm tp d) 0 l).2 ++ ss', σ.gn p.1 = τ.gn p.1 ∧ σ.ig p.1 = τ.ig p.1) :
    ∃ ρ', SatR B (app (app (app σ (fwr gs)) (insWr τ ((ocsPl τ (resNm tp d) 0 l).2 ++ ss'))) (bxWr bl)) a w' ρ' ∧ RepA w' (Imm B (app (app (app σ (fwr gs)) (insWr τ ((ocsPl τ (resNm tp d) 0 l).2 ++ ss'))) (bxWr bl)) ρ' w') ρ' (app (app (app σ (fwr gs)) (insWr τ ((ocsPl τ (resNm tp d) 0 l).2 ++ ss'))) (bxWr bl)).gn v va ∧
      (∀ u x, RepA w (Imm B σ ρ w) ρ σ.gn u x → RepA w' (Imm B (app (app (app σ (fwr gs)) (insWr τ ((ocsPl τ (resNm tp d) 0 l).2 ++ ss'))) (bxWr bl)) ρ' w') ρ' (app (app (app σ (fwr gs)) (insWr τ ((ocsPl τ (resNm tp d) 0 l).2 ++ ss'))) (bxWr bl)).gn u x) ∧
      ∀ (j : Nat) (b : Nat) (p : Value), (bl.map (·.1))[j]? = some b → ps[j]? = some p → ρ' b = p := by
  have hdead : ∀ o, o ∈ gs.map (·.1) → ∀ b, ¬ Owns (app σ (fwr gs)) ρ o b := fun o ho b hob => (fwr_owns hob).2 ho
  obtain ⟨h1, hI1, hA1, hm1⟩ := h.stepZ (σ' := app σ (fwr gs)) (ρ' := ρ) (w' := w') (fun o => o ∈ gs.map (·.1)) (fun b => B.Z b ∨ b ∈ F') (fun t => fwr_av gs t σ) (fun o hd => ⟨by rw [fwr_kd, if_neg hd], by rw [fwr_gn], fun i => fwr_ce gs o i σ, rfl, rfl, rfl⟩)
    (fun o _ => ⟨⟨by rw [fwr_gn]; exact Nat.le_refl _, fun _ => rfl⟩, Nat.le_refl _, fun _ => rfl⟩) (fun o => by rw [fwr_ig]; exact h.igs o)
    ⟨hb.os, hb.tape, hb.output, hb.size, fun k hk hn => hb.block k hk fun hm => by
      obtain ⟨p, hp, ho⟩ := footG_mem.1 hm
      exact hn (.inr ⟨p.1, List.mem_map.2 ⟨p, hp, rfl⟩, ho⟩)⟩
    (fun o b hd ho => absurd ho (hdead o hd b)) (fun o p b hd hp ho _ => absurd ho (hdead o hd b))
    (fun b hb' => by
      rcases hb' with hb' | hb'
      · exact ⟨Nat.lt_of_lt_of_le (h.res b hb').1.2 hb.size, .inr (.inl hb'), fun o hd => hdead o hd b⟩
      · obtain ⟨h2, h3⟩ := hF' b hb'
        refine ⟨h3, ?_, fun o hd => hdead o hd b⟩
        rcases h2 with h2 | h2
        · exact .inl h2
        · obtain ⟨p, hp, ho⟩ := footG_mem.1 h2
          exact .inr (.inr ⟨p.1, List.mem_map.2 ⟨p, hp, rfl⟩, ho⟩))
    fun _ _ o hd => by rw [fwr_kd, if_pos hd]; trivial
  have hS1 : ∀ b, S' b → Imm { B with Z := fun b => B.Z b ∨ b ∈ F' } (app σ (fwr gs)) ρ w' b := fun b hb' => by
    obtain ⟨h2, h3, h4⟩ := hS b hb'
    rcases h2 with h2 | h2 | h2
    · exact hm1 b h2
    · refine ⟨.inr (.inl (Nat.le_trans h.bel.size h2)), h3, fun o ho => ?_, fun hz => ?_⟩
      · have := (h.own o b (fwr_owns ho).1).2; omega
      · rcases hz with hz | hz
        · have := (h.res b hz).1.2; omega
        · exact h4 hz
    · obtain ⟨p, hp, ho⟩ := footG_mem.1 h2
      refine ⟨.inr (h.own p.1 b ho).1, h3, fun q hq => ?_, fun hz => ?_⟩
      · obtain ⟨h5, h6⟩ := fwr_owns hq
        have := h.dis q p.1 b h5 ho
        subst this
        exact h6 (List.mem_map.2 ⟨p, hp, rfl⟩)
      · rcases hz with hz | hz
        · exact (h.res b hz).2 p.1 ho
        · exact h4 hz
  obtain ⟨us, F1, F2, hv, hl, hy, rfl⟩ := hr
  rw [List.nodup_append] at hnd
  rw [List.map_append, List.nodup_append] at hnm
  obtain ⟨ρ2, Z2, a1, a2, a3, a4, a5, a6⟩ := adopt_ocs τ (resNm tp d) (l := l) (i := 0) h1 hl hS1 hnd.1 (fun b hb' => .inr (List.mem_append_left _ hb')) hnm.1 fun p hp => by
    rw [fwr_gn, fwr_ig]; exact hτ p (List.mem_append_left _ hp)
  obtain ⟨ρ3, Z3, qs, b1, b2, b3, b4, b5, b6, b7, b8, b9⟩ := adopt_bxs τ hbl a1 hy (fun b hb' => a5 b (hS1 b hb')) hnd.2.1 (fun b hb' => a2 b (.inr (List.mem_append_right _ hb')) fun hf => hnd.2.2 b hf b hb' rfl) hnm.2.1 fun p hp => by
    obtain ⟨c1, c2, c3, _⟩ := a6 p.1 fun hm => hnm.2.2 p.1 hm p.1 (List.mem_map.2 ⟨p, hp, rfl⟩) rfl
    rw [c2, c3, fwr_gn, fwr_ig]
    exact hτ p (List.mem_append_right _ hp)
  have happ : app (app (app σ (fwr gs)) (insWr τ (ocsPl τ (resNm tp d) 0 l).2)) (insWr τ ss') = app (app σ (fwr gs)) (insWr τ ((ocsPl τ (resNm tp d) 0 l).2 ++ ss')) := by rw [insWr_append, app_append]
  rw [happ] at b1 b5 b7 b8 b9
  have hroot : ∀ (j : Nat) (b : Nat) (p : Value), (bl.map (·.1))[j]? = some b → ps[j]? = some p → ρ3 b = p := fun j b p hb' hp => by
    have hmem : b ∈ bl.map (·.1) := List.mem_of_getElem? hb'
    rw [b6, List.getElem?_map] at hb'
    rw [hps, List.getElem?_map] at hp
    cases hc : bx[j]? with
    | none => rw [hc] at hb'; cases hb'
    | some y =>
      rw [hc] at hb' hp
      simp only [Option.map_some, Option.some.injEq] at hb' hp
      have hne1 : b ∉ (ocsPl τ (resNm tp d) 0 l).2.map (·.1) := fun hm => hnb b (by rw [List.map_append]; exact List.mem_append_left _ hm) hmem
      have hne2 : b ∉ ss'.map (·.1) := fun hm => hnb b (by rw [List.map_append]; exact List.mem_append_right _ hm) hmem
      rw [(b9 b hne2).1, (a6 b hne1).1, ← hp, hb']
  obtain ⟨Z4, c1, c2, c3⟩ := adopt_boxes b1 b5 b4 (fun q hq => (b3 q hq).1) (by rw [b6]; exact hbn) hroot
  have hva1 : RepA w' (Imm { B with Z := Z4 } (app (app (app σ (fwr gs)) (insWr τ ((ocsPl τ (resNm tp d) 0 l).2 ++ ss'))) (bxWr bl)) ρ3 w') ρ3 (app (app (app σ (fwr gs)) (insWr τ ((ocsPl τ (resNm tp d) 0 l).2 ++ ss'))) (bxWr bl)).gn v va := by
    have hreps : Reps w' (Imm { B with Z := Z4 } (app (app (app σ (fwr gs)) (insWr τ ((ocsPl τ (resNm tp d) 0 l).2 ++ ss'))) (bxWr bl)) ρ3 w') ρ3 (app (app (app σ (fwr gs)) (insWr τ ((ocsPl τ (resNm tp d) 0 l).2 ++ ss'))) (bxWr bl)).gn us (ocsPl τ (resNm tp d) 0 l).1 :=
      ⟨a3.1, fun i u x hu hx => c3 _ _ (b7 _ _ (a3.2 i u x hu hx))⟩
    cases tp with
    | true =>
      simp only [resV, Option.some.injEq] at hva
      subst hva
      rw [hv]
      exact .tup _ _ hreps.1 hreps.2
    | false =>
      simp only [resV] at hva
      split at hva
      · rename_i al hal
        injection hva with hva
        subst hva
        have hv : us = [v] := hv
        subst hv
        exact hreps.2 0 v al rfl (by rw [hal]; rfl)
      · cases hva
  obtain ⟨e1, e2, e3, _⟩ := c1.stepZ (σ' := app (app (app σ (fwr gs)) (insWr τ ((ocsPl τ (resNm tp d) 0 l).2 ++ ss'))) (bxWr bl)) (ρ' := ρ3) (w' := w') (fun _ => False) B.Z (fun _ => rfl) (fun _ _ => ⟨rfl, rfl, fun _ => rfl, rfl, rfl, rfl⟩) (fun _ hd => hd.elim) c1.igs (Belo.refl _ _ _) (fun _ _ hd => hd.elim) (fun _ _ _ hd => hd.elim)
    (fun b hb' => by
      have hnF : b ∉ F1 ++ F2 := fun hf => by
        rcases (hF' b hf).1 with h5 | h5
        · have := (h.res b hb').1.2; omega
        · obtain ⟨p, hp, ho⟩ := footG_mem.1 h5
          exact (h.res b hb').2 p.1 ho
      rw [List.mem_append, not_or] at hnF
      have hz4 : Z4 b := c2 b (b2 b (a2 b (.inl hb') hnF.1) hnF.2) fun hq => hnF.2 (b3 b hq).2
      exact ⟨Nat.lt_of_lt_of_le (h.res b hb').1.2 hb.size, .inr (.inl hz4), fun _ hd => hd.elim⟩) fun _ _ _ hd => hd.elim
  exact ⟨ρ3, e1, e3 _ _ hva1, fun u x hr => e3 _ _ (c3 _ _ (b7 _ _ (a4 _ _ (hA1 _ _ hr)))), hroot⟩
theorem objG_same {σ' : St} {p : Nat} (h : σ'.kd p = σ.kd p) : objG σ' p = objG σ p := by unfold objG; rw [h]
theorem SameOn.mem {σ' : St} {gs : List (Nat × Nat)} (h : SameOn σ σ' gs) {p : Nat × Nat} (hp : p ∈ gs) : σ'.gn p.1 = σ.gn p.1 ∧ σ'.kd p.1 = σ.kd p.1 ∧ boxCs σ' p.1 = boxCs σ p.1 :=
  SameOn.head (p := p) (c := []) fun l hl => h l (by
    unfold frd at *
    rw [List.flatMap_cons, List.flatMap_nil, List.append_nil] at hl
    exact List.mem_flatMap.2 ⟨p, hp, hl⟩)
theorem cellG0_same {σ' : St} {own : List Nat} {d i j : Nat} {c : AV} {x : Oc} {gs : List (Nat × Nat)} (e : cellG0 σ own d i j c = some (x, gs)) (h : ∀ p ∈ gs, σ'.kd p.1 = σ.kd p.1) : cellG0 σ' own d i j c = some (x, gs) := by
  unfold cellG0 at e ⊢
  split at e
  · exact e
  · rename_i p g
    split at e
    · rename_i k hk
      injection e with e
      injection e with e1 e2
      subst e1 e2
      rw [objG_same (h (p, g) (by simp)), hk]
    · cases e
  · cases e
theorem cellG_same {σ' : St} {own : List Nat} {d i j : Nat} {c : AV} {x : Oc} {gs : List (Nat × Nat)} (e : cellG σ own d i j c = some (x, gs)) (h : ∀ p ∈ gs, σ'.kd p.1 = σ.kd p.1) : cellG σ' own d i j c = some (x, gs) := by
  unfold cellG at e ⊢
  split at e
  · rename_i hh; exact e
  · rename_i hh; exact cellG0_same e h
theorem cellsG_same {σ' : St} {own : List Nat} {d i : Nat} : ∀ {cs : List AV} {j : Nat} {xs : List Oc} {gs : List (Nat × Nat)}, cellsG σ own d i j cs = some (xs, gs) → (∀ p ∈ gs, σ'.kd p.1 = σ.kd p.1) → cellsG σ' own d i j cs = some (xs, gs)
  | [], _, _, _, e, _ => e
  | c :: cs, j, xs, gs, e, h => by
    simp only [cellsG] at e ⊢
    split at e
    · rename_i x g1 xs1 gs1 h1 h2
      simp only [Option.some.injEq, Prod.mk.injEq] at e
      obtain ⟨rfl, rfl⟩ := e
      rw [cellG_same h1 fun p hp => h p (List.mem_append_left _ hp), cellsG_same h2 fun p hp => h p (List.mem_append_right _ hp)]
    · cases e
theorem argG_same {σ' : St} {own : List Nat} {d i : Nat} {c : AV} {x : Arg} {bs gs : List (Nat × Nat)} (e : argG σ own d i c = some (x, bs, gs)) (hb : SameOn σ σ' bs) (hg : SameOn σ σ' gs) : argG σ' own d i c = some (x, bs, gs) := by
  unfold argG at e ⊢
  split at e
  · rename_i ho
    split at e
    · rename_i b g
      split at e
      · rename_i k hk
        simp only [Option.some.injEq, Prod.mk.injEq] at e
        obtain ⟨rfl, rfl, rfl⟩ := e
        rw [objG_same (hg.mem (p := (b, g)) (by simp)).2.1, hk]
      · cases e
    · rename_i b g
      split at e
      · rename_i t m hk
        split at e
        · rename_i cs gs1 hcs
          simp only [Option.some.injEq, Prod.mk.injEq] at e
          obtain ⟨rfl, rfl, rfl⟩ := e
          obtain ⟨h1, h2, h3⟩ := hg.mem (p := (b, g)) (by simp)
          simp only [h2, hk]
          rw [h3, cellsG_same hcs fun p hp => (hg.mem (List.mem_cons_of_mem _ hp)).2.1]
        · cases e
      · cases e
    · exact e
    · cases e
  · rename_i ho
    split at e
    · exact e
    · split at e
      · rename_i y bs' hy
        simp only [Option.some.injEq, Prod.mk.injEq] at e
        obtain ⟨rfl, rfl, rfl⟩ := e
        rw [fz_same hy hb]
      · cases e
theorem argsG_same {σ' : St} {own : List Nat} {d : Nat} : ∀ {cs : List AV} {i : Nat} {xs : List Arg} {bs gs : List (Nat × Nat)}, argsG σ own d i cs = some (xs, bs, gs) → SameOn σ σ' bs → SameOn σ σ' gs → argsG σ' own d i cs = some (xs, bs, gs)
  | [], i, xs, bs, gs, e, _, _ => e
  | c :: cs, i, xs, bs, gs, e, hb, hg => by
    simp only [argsG] at e ⊢
    split at e
    · rename_i x b1 g1 xs1 bs1 gs1 h1 h2
      simp only [Option.some.injEq, Prod.mk.injEq] at e
      obtain ⟨rfl, rfl, rfl⟩ := e
      rw [argG_same h1 hb.left hg.left, argsG_same h2 hb.right hg.right]
    · cases e

theorem footG_kill {ρ : Ly} {bs gs : List (Nat × Nat)} (h : ∀ p ∈ gs, p.1 ∉ bs.map (·.1)) : footG (app σ (fwr bs)) ρ gs = footG σ ρ gs := by
  unfold footG
  induction gs with
  | nil => rfl
  | cons p gs ih =>
    rw [List.flatMap_cons, List.flatMap_cons, fwr_kd, if_neg (h p (by simp)), ih fun q hq => h q (by simp [hq])]

theorem insRd_mem : ∀ {l : List (Nat × Kd)} {p : Nat × Kd}, p ∈ l → Loc.gen p.1 ∈ insRd l ∧ Loc.ign p.1 ∈ insRd l
  | q :: l, p, h => by
    rcases List.mem_cons.1 h with rfl | h
    · exact ⟨by simp [insRd], by simp [insRd]⟩
    · obtain ⟨h1, h2⟩ := insRd_mem h
      exact ⟨by simp [insRd, h1], by simp [insRd, h2]⟩
theorem ig_same {σ' : St} {b : Nat} (h : σ' (.ign b) = σ (.ign b)) : σ'.ig b = σ.ig b := by unfold St.ig; rw [h]

theorem resOk_flat {w : World} {S S' : Nat → Prop} {v : Value} {ps : List Value} {r : Rs} {F : List Nat} (hf : flatRs r) (h : ResOk w S v ps r F) : ResOk w S' v ps r F := by
  cases r with
  | mk tp l ys =>
    obtain ⟨us, F1, F2, h1, h2, h3, h4⟩ := h
    exact ⟨us, F1, F2, h1, h2.flat hf.1, h3.flat hf.2, h4⟩

theorem bxPl_names {τ : St} : ∀ {bx : List (Nat × Nat)} {ys : List Arg} {bl : List (Nat × LK)} {ss : List (Nat × Kd)}, bxPl τ bx ys = some (bl, ss) → bl.map (·.1) = bx.map (·.1)
  | [], [], bl, ss, e => by simp only [bxPl, Option.some.injEq, Prod.mk.injEq] at e; obtain ⟨rfl, rfl⟩ := e; rfl
  | [], _ :: _, _, _, e => by simp [bxPl] at e
  | (b, i) :: bx, [], _, _, e => by simp [bxPl] at e
  | (b, i) :: bx, .im _ :: ys, _, _, e => by simp [bxPl] at e
  | (b, i) :: bx, .ow _ :: ys, _, _, e => by simp [bxPl] at e
  | (b, i) :: bx, .lent k :: ys, bl, ss, e => by
    unfold bxPl at e
    split at e
    · rename_i l s2 hfk e2
      simp only [Option.some.injEq, Prod.mk.injEq] at e
      obtain ⟨rfl, rfl⟩ := e
      simp [bxPl_names e2]
    · cases e
  | (b, i) :: bx, .box t cs :: ys, bl, ss, e => by
    unfold bxPl at e
    split at e
    · rename_i al s1 l s2 e1 e2
      simp only [Option.some.injEq, Prod.mk.injEq] at e
      obtain ⟨rfl, rfl⟩ := e
      simp [bxPl_names e2]
    · cases e

theorem bxG_sub {own : List Nat} {d : Nat} : ∀ {cs : List AV} {i : Nat} {xs : List Arg} {bs gs : List (Nat × Nat)}, argsG σ own d i cs = some (xs, bs, gs) → ((bxG own d i cs).map (·.1)).Sublist (gs.map (·.1))
  | [], i, xs, bs, gs, e => by simp [bxG]
  | c :: cs, i, xs, bs, gs, e => by
    simp only [argsG] at e
    split at e
    · rename_i x b1 g1 xs1 bs1 gs1 h1 h2
      simp only [Option.some.injEq, Prod.mk.injEq] at e
      obtain ⟨rfl, rfl, rfl⟩ := e
      have ih := bxG_sub h2
      have up : ((bxG own d (i + 1) cs).map (·.1)).Sublist ((g1 ++ gs1).map (·.1)) := by
        rw [List.map_append]; exact ih.trans (List.sublist_append_right _ _)
      unfold argG at h1
      unfold bxG
      split at h1
      · split at h1
        · rename_i b g
          split at h1
          · simp only [Option.some.injEq, Prod.mk.injEq] at h1
            obtain ⟨rfl, rfl, rfl⟩ := h1
            simp only
            split
            · simp only [List.map_cons, List.cons_append]
              refine List.Sublist.cons_cons _ ?_
              exact ih
            · exact up
          · cases h1
        · rename_i b g
          split at h1
          · split at h1
            · simp only [Option.some.injEq, Prod.mk.injEq] at h1
              obtain ⟨rfl, rfl, rfl⟩ := h1
              simp only [List.map_cons, List.cons_append]
              refine List.Sublist.cons_cons _ ?_
              rw [List.map_append]
              exact ih.trans (List.sublist_append_right _ _)
            · cases h1
          · cases h1
        · exact up
        · cases h1
      · exact up
    · cases e

theorem aCall_ok {C : FuncId → List Arg → Rs → Prop} (hC : ∀ g xs r, C g xs r → Sp P g xs r) {own : List Nat} {c : Call} {f : Operand} (hop : o.op = .call c) (hcal : c.callee = .value f) (hd : dstOk B.n o = true) (h : aCall own o σ K C f c.args.toList) : ∃ fx, K fx ∧ Eff P B o fx.rd σ fx.wr := by
  unfold aCall at h
  split at h
  · rename_i d g caps hdst hf
    split at h
    · rename_i xs bs gs hxs
      obtain ⟨hnd, h⟩ := h.ok
      obtain ⟨hnd1, hnd2⟩ := ndB_spec hnd
      obtain ⟨hgk0, r, hr, h⟩ := h.out
      obtain ⟨henter, hsp⟩ := hC g xs r hr
      cases r with
      | mk tp l ys =>
      simp only at h
      split at h
      · rename_i al ss bl ss' hpl hbl
        split at h
        · rename_i va hva
          obtain ⟨hnm, h⟩ := h.ok
          obtain ⟨hnm1, hnm2⟩ := ndB_spec hnm
          have hal : al = (ocsPl σ (resNm tp d) 0 l).1 := by rw [hpl]
          have hss : ss = (ocsPl σ (resNm tp d) 0 l).2 := by rw [hpl]
          subst hal hss
          have hbxn := ((bxG_sub hxs).nodup hnd1)
          have hdn : ∀ t, some d = some t → t < B.n := fun t e => by injection e with e; subst e; exact dst_some hd hdst
          have main : ∀ (σ' : St), (∀ x ∈ opd f ++ opdL c.args.toList ++ frd σ (bs ++ gs) ++ insRd ((ocsPl σ (resNm tp d) 0 l).2 ++ ss'), σ' x = σ x) → ∀ (a : Act) (w : World) (ρ : Ly), SatR B σ' a w ρ → ∀ (K' : Act → World → Prop) (Q : Exit → Act → World → Prop),
              (∀ v w' F', Belo (fun b => b ∈ footG σ' ρ gs) w.heap.size w w' → ResOk w' (fun b => (Imm B (app σ' (fwr bs)) ρ w b ∨ w.heap.size ≤ b ∨ b ∈ footG σ' ρ gs) ∧ b < w'.heap.size ∧ b ∉ F') v ((bxG own d 0 (c.args.toList.map (evA σ) ++ caps)).map fun p => ρ p.1) (.mk tp l ys) F' →
                F'.Nodup → (∀ b ∈ F', (w.heap.size ≤ b ∨ b ∈ footG σ' ρ gs) ∧ b < w'.heap.size) → (∀ p ∈ (ocsPl σ (resNm tp d) 0 l).2 ++ ss', σ'.gn p.1 = σ.gn p.1 ∧ σ'.ig p.1 = σ.ig p.1) → K' (a.put (some d) v) w') → o.wp P a w K' Q := by
            intro σ' hag a w ρ hs K' Q hK
            have hag1 := agree_l (agree_l (agree_l hag))
            have hag2 := agree_r (agree_l (agree_l hag))
            have hag3 : SameOn σ σ' (bs ++ gs) := agree_r (agree_l hag)
            have hag4 := agree_r hag
            have hgk : ∀ p ∈ bs ++ gs, σ'.gn p.1 = p.2 := fun p hp => by
              rw [← hgk0 p hp]
              exact (hag3.mem hp).1
            obtain ⟨us, hfv, hur⟩ : ∃ us : List Value, a.eval f = .func (.func g) #[] us.toArray ∧ Reps w (Imm B σ' ρ w) ρ σ'.gn us caps := by
              have h1 := evA_ok hs f
              rw [evA_same hag1] at h1
              split at hf
              · rename_i g' caps' hev
                simp only [Option.some.injEq, Prod.mk.injEq] at hf
                obtain ⟨rfl, rfl⟩ := hf
                rw [hev] at h1
                have h1 := h1.im_inv
                generalize a.eval f = v at h1
                cases h1 with
                | fn _ us _ hl hr =>
                  refine ⟨us, rfl, by simpa using hl, fun i u y hu hy => ?_⟩
                  simp only [List.getElem?_map] at hy
                  cases hc : caps'[i]? with
                  | none => rw [hc] at hy; cases hy
                  | some c =>
                    rw [hc] at hy
                    simp only [Option.map_some, Option.some.injEq] at hy
                    rw [← hy]
                    exact .im _ _ (hr i u c hu hc)
              · rename_i g' caps' hev
                simp only [Option.some.injEq, Prod.mk.injEq] at hf
                obtain ⟨rfl, rfl⟩ := hf
                rw [hev] at h1
                generalize a.eval f = v at h1
                cases h1 with
                | fn _ us _ hl hr => exact ⟨us, rfl, hl, hr⟩
              · cases hf
            have hargs := (evL_ok hs hag2).app hur
            have hfz := argsG_same hxs hag3.left hag3.right
            have hrep := argsG_ok hs (bs0 := bs) (fun p hp => hgk p (List.mem_append_left _ hp)) hargs hfz (fun _ h => h) fun p hp => hgk p (List.mem_append_right _ hp)
            obtain ⟨hbv, _⟩ := bxG_ok hs hargs hfz fun p hp => hgk p (List.mem_append_right _ hp)
            have hcalls := hsp w (Imm B (app σ' (fwr bs)) ρ w) _ _ (fun b hb => hb.2.1) hrep (footG_nodup hs hnd1) fun b hb => by
              obtain ⟨p, hp, ho⟩ := footG_mem.1 hb
              refine ⟨fun hi => hi.2.2.1 p.1 ?_, (hs.own p.1 b ho).2⟩
              unfold Owns at ho ⊢
              rw [fwr_kd, if_neg (hnd2 p.1 (List.mem_map.2 ⟨p, hp, rfl⟩))]
              exact ho
            have run : (execOp a.eval o).run P w = .ok (.enter g (c.args.toList.map a.eval ++ us).toArray) w := by
              have e : (c.args.map a.eval) ++ us.toArray = (c.args.toList.map a.eval ++ us).toArray := by
                apply Array.ext'
                simp
              simp [execOp, hop, resolve, hcal, hfv, Deferred.ofValue, invoke, henter, ← e]
            unfold Oper.wp
            rw [run, Oper.upon_enter]
            refine hcalls.mono ?_
            rintro e w' ⟨v, F', rfl, hbel, hres, hF1, hF2⟩
            show K' (a.put o.dst v) w'
            rw [hdst]
            rw [hbv] at hres
            exact hK v w' F' hbel hres hF1 hF2 fun p hp => by
              obtain ⟨h5, h6⟩ := insRd_mem hp
              exact ⟨gn_same (hag4 _ h5), ig_same (hag4 _ h6)⟩
          split at h
          · obtain ⟨hflat, h⟩ := h.out
            refine ⟨_, h, fun σ' hag a w ⟨ρ, hs⟩ K' Q hK => main σ' hag a w ρ hs K' Q fun v w' F' h1 h2 h3 h4 h5 => hK _ _ ?_⟩
            obtain ⟨ρ', g1, g2, _⟩ := call_back hs gs hnd1 (S' := fun _ => False) h1 (fun b hb => hb.elim) (resOk_flat hflat h2) h3 h4 hbl rfl hbxn hva hnm1 hnm2 h5
            refine ⟨ρ', ?_⟩
            show SatR B (app σ' (fwr gs ++ (insWr σ ((ocsPl σ (resNm tp d) 0 l).2 ++ ss') ++ (bxWr bl ++ [(.tmp d, .av va)])))) _ _ _
            rw [app_append, app_append, app_append]
            exact g1.put (d := some d) hdn g2
          · refine ⟨_, h, fun σ' hag a w ⟨ρ, hs⟩ K' Q hK => main σ' hag a w ρ hs K' Q fun v w' F' h1 h2 h3 h4 h5 => hK _ _ ?_⟩
            have hfk := footG_kill (σ := σ') (ρ := ρ) (bs := bs) (gs := gs) fun p hp => hnd2 p.1 (List.mem_map.2 ⟨p, hp, rfl⟩)
            rw [← hfk] at h1 h2 h4
            obtain ⟨ρ', g1, g2, _⟩ := call_back (hs.kills bs).1 gs hnd1 h1 (fun b hb => hb) h2 h3 h4 hbl rfl hbxn hva hnm1 hnm2 fun p hp => by rw [fwr_gn, fwr_ig]; exact h5 p hp
            refine ⟨ρ', ?_⟩
            show SatR B (app σ' (fwr bs ++ (fwr gs ++ (insWr σ ((ocsPl σ (resNm tp d) 0 l).2 ++ ss') ++ (bxWr bl ++ [(.tmp d, .av va)]))))) _ _ _
            rw [app_append, app_append, app_append, app_append]
            exact g1.put (d := some d) hdn g2
        · exact h.elim
      · exact h.elim
    · exact h.elim
  · exact h.elim
end

end Go.Proofs.YthahbiahlpcgeaaGreatDoor.Sym
