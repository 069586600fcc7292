/-
  The plain reading's operations are the model's: calls, literals.
-/
import Derived.Test.YthahbiahlpcgeaaGreatDoorSym8
namespace Go.Proofs.YthahbiahlpcgeaaGreatDoor.Sym
open Go.RowKit

/-- How a part that changes hands lies in memory; F: its blocks. -/
def OcOk (w : World) (S : Nat → Prop) (v : Value) : Oc → List Nat → Prop
  | .im x, F => RepI w S v x ∧ F = []
  | .ow k, F => v.oneCell' = true ∧ ∃ inn, HoldOk w S v inn k ∧ F = fpk v inn k
def OcsOk (w : World) (S : Nat → Prop) : List Value → List Oc → List Nat → Prop
  | [], [], F => F = []
  | v :: vs, c :: cs, F => ∃ F1 F2, OcOk w S v c F1 ∧ OcsOk w S vs cs F2 ∧ F = F1 ++ F2
  | _, _, _ => False
def ArgOk (w : World) (S : Nat → Prop) (v : Value) : Arg → List Nat → Prop
  | .im x, F => RepI w S v x ∧ F = []
  | .ow k, F => OcOk w S v (.ow k) F
  | .box t cs, F => ∃ (q : Nat) (us : List Value) (F' : List Nat), v = .pointer (some ⟨q, 0, none⟩) ∧ w.heap[q]? = some (.cells us.toArray t (0, 0)) ∧ (∀ u ∈ us, u.oneCell' = true) ∧ OcsOk w S us cs F' ∧ F = q :: F'
  | .lent k, F => OcOk w S v (.ow k) F
/-- How a call's arguments lie in memory. -/
def ArgsOk (w : World) (S : Nat → Prop) : List Value → List Arg → List Nat → Prop
  | [], [], F => F = []
  | v :: vs, x :: xs, F => ∃ F1 F2, ArgOk w S v x F1 ∧ ArgsOk w S vs xs F2 ∧ F = F1 ++ F2
  | _, _, _ => False
/-- The boxes among the arguments. -/
def bxVs : List Value → List Arg → List Value
  | v :: vs, .box _ _ :: xs => v :: bxVs vs xs
  | v :: vs, .lent _ :: xs => v :: bxVs vs xs
  | _ :: vs, .im _ :: xs => bxVs vs xs
  | _ :: vs, .ow _ :: xs => bxVs vs xs
  | _, _ => []
/-- How what a call hands back lies in memory. -/
def ResOk (w : World) (S : Nat → Prop) (v : Value) (ps : List Value) : Rs → List Nat → Prop
  | .mk tp l ys, F => ∃ (us : List Value) (F1 F2 : List Nat), (match tp with | true => v = .tuple us.toArray | false => us = [v]) ∧ OcsOk w S us l F1 ∧ ArgsOk w S ps ys F2 ∧ F = F1 ++ F2

/-- The contract of a function: whatever the arguments' memory, it returns what is said, and nothing that was there has turned, but for what was given away or lent. -/
def Sp (P : Program) (g : FuncId) (xs : List Arg) (r : Rs) : Prop :=
  (∀ args w, (callFunc g args).run P w = .ok (.enter g args) w) ∧
  ∀ (w : World) (S : Nat → Prop) (vs : List Value) (F : List Nat), (∀ b, S b → b < w.heap.size) → ArgsOk w S vs xs F → F.Nodup → (∀ b ∈ F, ¬ S b ∧ b < w.heap.size) →
    Calls P g vs.toArray w fun e w' => ∃ (v : Value) (F' : List Nat), e = .returned v ∧ Belo (fun b => b ∈ F) w.heap.size w w' ∧
      ResOk w' (fun b => (S b ∨ w.heap.size ≤ b ∨ b ∈ F) ∧ b < w'.heap.size ∧ b ∉ F') v (bxVs vs xs) r F' ∧ F'.Nodup ∧ ∀ b ∈ F', (w.heap.size ≤ b ∨ b ∈ F) ∧ b < w'.heap.size

theorem OcOk.mono {w : World} {S S' : Nat → Prop} {v : Value} (hI : ∀ u x, RepI w S u x → RepI w S' u x) : ∀ {c : Oc} {F : List Nat}, OcOk w S v c F → OcOk w S' v c F
  | .im _, _, h => ⟨hI _ _ h.1, h.2⟩
  | .ow _, _, ⟨h1, inn, h2, h3⟩ => ⟨h1, inn, h2.mono (fun _ _ => rfl) hI, h3⟩
theorem OcsOk.mono {w : World} {S S' : Nat → Prop} (hI : ∀ u x, RepI w S u x → RepI w S' u x) : ∀ {vs : List Value} {cs : List Oc} {F : List Nat}, OcsOk w S vs cs F → OcsOk w S' vs cs F
  | [], [], _, h => h
  | _ :: _, _ :: _, _, ⟨F1, F2, h1, h2, h3⟩ => ⟨F1, F2, h1.mono hI, h2.mono hI, h3⟩
  | [], _ :: _, _, h => h.elim
  | _ :: _, [], _, h => h.elim
theorem ArgOk.mono {w : World} {S S' : Nat → Prop} {v : Value} (hI : ∀ u x, RepI w S u x → RepI w S' u x) : ∀ {c : Arg} {F : List Nat}, ArgOk w S v c F → ArgOk w S' v c F
  | .im _, _, h => ⟨hI _ _ h.1, h.2⟩
  | .ow k, _, h => OcOk.mono (c := .ow k) hI h
  | .box _ _, _, ⟨q, us, F', h1, h2, h3, h4, h5⟩ => ⟨q, us, F', h1, h2, h3, h4.mono hI, h5⟩
  | .lent k, _, h => OcOk.mono (c := .ow k) hI h
theorem ArgsOk.mono {w : World} {S S' : Nat → Prop} (hI : ∀ u x, RepI w S u x → RepI w S' u x) : ∀ {vs : List Value} {cs : List Arg} {F : List Nat}, ArgsOk w S vs cs F → ArgsOk w S' vs cs F
  | [], [], _, h => h
  | _ :: _, _ :: _, _, ⟨F1, F2, h1, h2, h3⟩ => ⟨F1, F2, h1.mono hI, h2.mono hI, h3⟩
  | [], _ :: _, _, h => h.elim
  | _ :: _, [], _, h => h.elim

/-- Where nothing leads to other memory, it does not matter which. -/
theorem OcOk.flat {w : World} {S S' : Nat → Prop} {v : Value} : ∀ {c : Oc} {F : List Nat}, flatOc c → OcOk w S v c F → OcOk w S' v c F
  | .im x, _, hf, h => by
    obtain ⟨u, rfl⟩ := hf
    exact ⟨by cases h.1; exact .val _, h.2⟩
  | .ow (.row e k es), _, hf, ⟨h1, inn, ⟨us, h2, h3, h4, h5, h6, h7, h8⟩, h9⟩ => ⟨h1, inn, ⟨us, h2, h3, h4, h5, h6, h7, fun i u x hu hx => by
    have h10 := h8 i u x hu hx
    obtain ⟨y, hy, hxy⟩ := List.mem_flatten.1 (List.mem_of_getElem? hx)
    obtain ⟨z, rfl⟩ := hf y hy x hxy
    cases h10
    exact .val _⟩, h9⟩
  | .ow (.map _), _, _, ⟨h1, inn, h2, h3⟩ => ⟨h1, inn, h2, h3⟩
  | .ow .dead, _, hf, _ => hf.elim
  | .ow (.box _ _), _, hf, _ => hf.elim
  | .ow (.grid _ _ _ _ _), _, hf, _ => hf.elim
theorem OcsOk.flat {w : World} {S S' : Nat → Prop} : ∀ {vs : List Value} {cs : List Oc} {F : List Nat}, (∀ c ∈ cs, flatOc c) → OcsOk w S vs cs F → OcsOk w S' vs cs F
  | [], [], _, _, h => h
  | _ :: _, c :: _, _, hf, ⟨F1, F2, h1, h2, h3⟩ => ⟨F1, F2, h1.flat (hf c (by simp)), h2.flat fun x hx => hf x (by simp [hx]), h3⟩
  | [], _ :: _, _, _, h => h.elim
  | _ :: _, [], _, _, h => h.elim
theorem ArgsOk.flat {w : World} {S S' : Nat → Prop} : ∀ {vs : List Value} {cs : List Arg} {F : List Nat}, (∀ c ∈ cs, flatArg c) → ArgsOk w S vs cs F → ArgsOk w S' vs cs F
  | [], [], _, _, h => h
  | _ :: _, c :: _, _, hf, ⟨F1, F2, h1, h2, h3⟩ => ⟨F1, F2, by
    have hc := hf c (by simp)
    cases c with
    | im x => exact hc.elim
    | ow k => exact hc.elim
    | box t cs =>
      obtain ⟨q, us, F', a1, a2, a3, a4, a5⟩ := h1
      exact ⟨q, us, F', a1, a2, a3, a4.flat hc, a5⟩
    | lent k => exact OcOk.flat (c := .ow k) hc h1, h2.flat fun x hx => hf x (by simp [hx]), h3⟩
  | [], _ :: _, _, _, h => h.elim
  | _ :: _, [], _, _, h => h.elim

section
variable {P : Program} {B : Base} {o : Oper} {σ : St} {K : Fx → Prop}

theorem opdL_mem {l : List Operand} {x : Operand} (h : x ∈ l) : ∀ y ∈ opd x, y ∈ opdL l := fun y hy => List.mem_flatMap.2 ⟨x, h, hy⟩

theorem evL_ok {σ' : St} {a : Act} {w : World} {ρ : Ly} (h : SatR B σ' a w ρ) {l : List Operand} (hag : ∀ y ∈ opdL l, σ' y = σ y) : Reps w (Imm B σ' ρ w) ρ σ'.gn (l.map a.eval) (l.map (evA σ)) := by
  refine ⟨by simp, fun i u x hu hx => ?_⟩
  simp only [List.getElem?_map] at hu hx
  cases hc : l[i]? with
  | none => rw [hc] at hu; cases hu
  | some c =>
    rw [hc] at hu hx
    simp only [Option.map_some, Option.some.injEq] at hu hx
    rw [← hu, ← hx, ← evA_same (σ' := σ') fun y hy => hag y (opdL_mem (List.mem_of_getElem? hc) y hy)]
    exact evA_ok h c

theorem Reps.app {w : World} {S : Nat → Prop} {ρ : Ly} {γ : Nat → Nat} {us vs : List Value} {cs ds : List AV} (h : Reps w S ρ γ us cs) (k : Reps w S ρ γ vs ds) : Reps w S ρ γ (us ++ vs) (cs ++ ds) := by
  refine ⟨by simp [h.1, k.1], fun i u x hu hx => ?_⟩
  rw [List.getElem?_append] at hu hx
  rw [h.1] at hu
  split at hu
  · rename_i hlt
    rw [if_pos hlt] at hx
    exact h.2 i u x hu hx
  · rename_i hlt
    rw [if_neg hlt] at hx
    exact k.2 _ u x hu hx

theorem ndB_spec : ∀ {l bs : List Nat}, ndB l bs = true → l.Nodup ∧ ∀ a ∈ l, a ∉ bs
  | [], bs, _ => ⟨List.nodup_nil, by simp⟩
  | a :: l, bs, h => by
    simp only [ndB, Bool.and_eq_true, Bool.not_eq_true', List.contains_eq_mem, decide_eq_false_iff_not] at h
    obtain ⟨h1, h2⟩ := ndB_spec h.2
    refine ⟨List.nodup_cons.2 ⟨h.1.1, h1⟩, fun b hb => ?_⟩
    rcases List.mem_cons.1 hb with rfl | hb
    · exact h.1.2
    · exact h2 b hb

theorem fwr_ce (bs : List (Nat × Nat)) (o i : Nat) : ∀ (σ : St), (app σ (fwr bs)).ce o i = σ.ce o i := by
  induction bs with
  | nil => intro σ; rfl
  | cons b bs ih => intro σ; show (app (upd σ (.knd b.1) (.kd .dead)) (fwr bs)).ce o i = _; rw [ih, ce_knd]


theorem HoldOk.one {w : World} {S : Nat → Prop} {v : Value} {inn : List Value} : ∀ {k : Kd}, HoldOk w S v inn k → v.oneCell' = true
  | .dead, h => h.elim
  | .box _ _, h => h.elim
  | .row _ _ _, ⟨us, _, _, _, h, _⟩ => row_one h
  | .grid _ _ _ _ _, ⟨_, _, us, _, h, _⟩ => row_one h
  | .map _, ⟨b, _, _, h, _⟩ => by rw [h]; rfl
theorem objG_spec {p : Nat} {k : Kd} (h : objG σ p = some k) : σ.kd p = k ∧ k ≠ .dead ∧ ∀ t m, k ≠ .box t m := by
  unfold objG at h
  split at h
  · cases h
  · cases h
  · rename_i h1 h2
    injection h with h
    subst h
    exact ⟨rfl, h1, h2⟩
theorem obs_hold {a : Act} {w : World} {ρ : Ly} (h : SatR B σ a w ρ) {p : Nat} {k : Kd} (hk : objG σ p = some k) : HoldOk w (Imm B σ ρ w) (ρ p) (ρ.inn p) k := by
  obtain ⟨h1, h2, h3⟩ := objG_spec hk
  have ho := h.obs p
  rw [h1] at ho
  cases k with
  | dead => exact absurd rfl h2
  | box t m => exact absurd rfl (h3 t m)
  | row e m es => exact ho
  | grid e e' m gs q => exact ho
  | map l => exact ho

/-- The blocks of some objects. -/
def footG (σ : St) (ρ : Ly) (gs : List (Nat × Nat)) : List Nat := gs.flatMap fun p => fpk (ρ p.1) (ρ.inn p.1) (σ.kd p.1)
theorem footG_mem {ρ : Ly} {gs : List (Nat × Nat)} {b : Nat} : b ∈ footG σ ρ gs ↔ ∃ p ∈ gs, Owns σ ρ p.1 b := List.mem_flatMap
theorem fpk_nodup {a : Act} {w : World} {ρ : Ly} (h : SatR B σ a w ρ) (o : Nat) : (fpk (ρ o) (ρ.inn o) (σ.kd o)).Nodup := by
  have ho := h.obs o
  cases hk : σ.kd o with
  | dead => exact List.nodup_nil
  | grid e e' m gs q => rw [hk] at ho; exact ho.1
  | box t m => unfold fpk; cases blkOf (ρ o) <;> simp
  | row e m es => unfold fpk; cases blkOf (ρ o) <;> simp
  | map l => unfold fpk; cases blkOf (ρ o) <;> simp
theorem footG_nodup {a : Act} {w : World} {ρ : Ly} (h : SatR B σ a w ρ) : ∀ {gs : List (Nat × Nat)}, (gs.map (·.1)).Nodup → (footG σ ρ gs).Nodup
  | [], _ => List.nodup_nil
  | p :: gs, hn => by
    rw [List.map_cons, List.nodup_cons] at hn
    unfold footG
    rw [List.flatMap_cons, List.nodup_append]
    refine ⟨fpk_nodup h p.1, footG_nodup h hn.2, fun x hx y hy e => ?_⟩
    subst e
    obtain ⟨q, hq, hb⟩ := footG_mem.1 (show x ∈ footG σ ρ gs from hy)
    have := h.dis p.1 q.1 x hx hb
    exact hn.1 (List.mem_map.2 ⟨q, hq, this.symm⟩)

theorem nilRow_spec {x : IV} {e k : Nat} {q : Kd} (h : nilRow x e k = some q) : x = .val (.slice none 0 0) ∧ ∃ k', q = .row e (k' + 1) [] := by
  unfold nilRow at h
  split at h
  · split at h
    · cases h
    · rename_i k'
      injection h with h
      exact ⟨rfl, k', h.symm⟩
  · cases h
theorem nil_oc (w : World) (S : Nat → Prop) (e k : Nat) : OcOk w S (.slice none 0 0) (.ow (.row e (k + 1) [])) [] :=
  ⟨rfl, [], ⟨[], by omega, by simp, by simp, World.ownsRow_nil _ _ _ _, rfl, by simp, by simp⟩, rfl⟩

theorem cellG0_ok {a : Act} {w : World} {ρ : Ly} (h : SatR B σ a w ρ) {S : Nat → Prop} (hI : ∀ u x, RepI w (Imm B σ ρ w) u x → RepI w S u x) {own : List Nat} {d i j : Nat} {u : Value} {c : AV} {x : Oc} {gs : List (Nat × Nat)}
    (hu : RepA w (Imm B σ ρ w) ρ σ.gn u c) (e : cellG0 σ own d i j c = some (x, gs)) (hg : ∀ p ∈ gs, σ.gn p.1 = p.2) : OcOk w S u x (footG σ ρ gs) := by
  unfold cellG0 at e
  split at e
  · rename_i y
    have hu := hu.im_inv
    split at e
    · split at e
      · rename_i q hq
        injection e with e
        injection e with e1 e2
        subst e1 e2
        obtain ⟨rfl, k', rfl⟩ := nilRow_spec hq
        cases hu
        exact nil_oc _ _ _ _
      · cases e
    · injection e with e
      injection e with e1 e2
      subst e1 e2
      exact ⟨hI _ _ (nz1_rep hu), rfl⟩
  · rename_i p g
    split at e
    · rename_i k hk
      injection e with e
      injection e with e1 e2
      subst e1 e2
      have hg := hg (p, g) (by simp)
      have hv : u = ρ p := by
        cases hu with
        | osl _ _ _ _ _ hh => exact hh hg
      have hh := obs_hold h hk
      subst hv
      refine ⟨hh.one, ρ.inn p, hh.mono (fun _ _ => rfl) hI, ?_⟩
      unfold footG
      rw [List.flatMap_cons, List.flatMap_nil, List.append_nil, (objG_spec hk).1]
    · cases e
  · cases e

theorem cellG_ok {a : Act} {w : World} {ρ : Ly} (h : SatR B σ a w ρ) {S : Nat → Prop} (hI : ∀ u x, RepI w (Imm B σ ρ w) u x → RepI w S u x) {own : List Nat} {d i j : Nat} {u : Value} {c : AV} {x : Oc} {gs : List (Nat × Nat)}
    (hu : RepA w (Imm B σ ρ w) ρ σ.gn u c) (e : cellG σ own d i j c = some (x, gs)) (hg : ∀ p ∈ gs, σ.gn p.1 = p.2) : OcOk w S u x (footG σ ρ gs) := by
  unfold cellG at e
  split at e
  · injection e with e
    injection e with e1 e2
    subst e1 e2
    exact ⟨.any _, rfl⟩
  · exact cellG0_ok h hI hu e hg

theorem footG_append (ρ : Ly) (a b : List (Nat × Nat)) : footG σ ρ (a ++ b) = footG σ ρ a ++ footG σ ρ b := List.flatMap_append

theorem cellsG_ok {a : Act} {w : World} {ρ : Ly} (h : SatR B σ a w ρ) {S : Nat → Prop} (hI : ∀ u x, RepI w (Imm B σ ρ w) u x → RepI w S u x) {own : List Nat} {d i : Nat} : ∀ {us : List Value} {cs : List AV} {j : Nat} {xs : List Oc} {gs : List (Nat × Nat)},
    Reps w (Imm B σ ρ w) ρ σ.gn us cs → cellsG σ own d i j cs = some (xs, gs) → (∀ p ∈ gs, σ.gn p.1 = p.2) → OcsOk w S us xs (footG σ ρ gs)
  | [], [], j, xs, gs, _, e, _ => by
    simp only [cellsG, Option.some.injEq, Prod.mk.injEq] at e
    rw [← e.1, ← e.2]
    exact rfl
  | [], c :: cs, _, _, _, hr, _, _ => by have := hr.1; simp at this
  | u :: us, [], _, _, _, hr, _, _ => by have := hr.1; simp at this
  | u :: us, c :: cs, j, xs, gs, hr, e, hg => by
    simp only [cellsG] at e
    split at e
    · rename_i x g1 xs1 gs1 h1 h2
      simp only [Option.some.injEq, Prod.mk.injEq] at e
      obtain ⟨rfl, rfl⟩ := e
      exact ⟨_, _, cellG_ok h hI (hr.2 0 u c rfl rfl) h1 fun p hp => hg p (List.mem_append_left _ hp),
        cellsG_ok h hI ⟨by simpa using hr.1, fun i u x hu hx => hr.2 (i + 1) u x (by simpa using hu) (by simpa using hx)⟩ h2 fun p hp => hg p (List.mem_append_right _ hp), footG_append _ _ _⟩
    · cases e

theorem argG_ok {a : Act} {w : World} {ρ : Ly} (h : SatR B σ a w ρ) {own : List Nat} {d i : Nat} {bs0 : List (Nat × Nat)} (hgk : ∀ p ∈ bs0, σ.gn p.1 = p.2) {u : Value} {c : AV} {x : Arg} {bs gs : List (Nat × Nat)}
    (hu : RepA w (Imm B σ ρ w) ρ σ.gn u c) (e : argG σ own d i c = some (x, bs, gs)) (hb : ∀ p ∈ bs, p ∈ bs0) (hg : ∀ p ∈ gs, σ.gn p.1 = p.2) : ArgOk w (Imm B (app σ (fwr bs0)) ρ w) u x (footG σ ρ gs) := by
  have hI := (h.kills bs0).2
  unfold argG at e
  split at e
  · split at e
    · rename_i b g
      split at e
      · rename_i k hk
        simp only [Option.some.injEq, Prod.mk.injEq] at e
        obtain ⟨rfl, rfl, rfl⟩ := e
        have hgb := hg (b, g) (by simp)
        have hv : u = ρ b := by
          cases hu with
          | osl _ _ _ _ _ hh => exact hh hgb
        have hh := obs_hold h hk
        subst hv
        have fin : OcOk w (Imm B (app σ (fwr bs0)) ρ w) (ρ b) (.ow k) (footG σ ρ [(b, g)]) := by
          refine ⟨hh.one, ρ.inn b, hh.mono (fun _ _ => rfl) hI, ?_⟩
          unfold footG
          rw [List.flatMap_cons, List.flatMap_nil, List.append_nil, (objG_spec hk).1]
        unfold lentG
        split
        · exact fin
        · exact fin
      · cases e
    · rename_i b g
      split at e
      · rename_i t m hk
        split at e
        · rename_i cs gs1 hcs
          simp only [Option.some.injEq, Prod.mk.injEq] at e
          obtain ⟨rfl, rfl, rfl⟩ := e
          obtain ⟨q, us, e3, e4, e5, e6, e7, _, e9⟩ := box_read h hu (hg (b, g) (by simp)) hk
          refine ⟨q, us, footG σ ρ gs1, e3, e5, e7, cellsG_ok h hI (boxCs_reps (by rw [e6]; exact hk) e9) hcs fun p hp => hg p (by simp [hp]), ?_⟩
          unfold footG
          rw [List.flatMap_cons, hk, e4]
          rfl
        · cases e
      · cases e
    · rename_i y
      have hu := hu.im_inv
      split at e
      · split at e
        · rename_i q hq
          simp only [Option.some.injEq, Prod.mk.injEq] at e
          obtain ⟨rfl, rfl, rfl⟩ := e
          obtain ⟨rfl, k', rfl⟩ := nilRow_spec hq
          cases hu
          exact nil_oc _ _ _ _
        · cases e
      · cases e
    · cases e
  · split at e
    · split at e
      · simp only [Option.some.injEq, Prod.mk.injEq] at e
        obtain ⟨rfl, rfl, rfl⟩ := e
        exact ⟨hI _ _ hu.im_inv, rfl⟩
      · cases e
    · split at e
      · rename_i y bs' hy
        simp only [Option.some.injEq, Prod.mk.injEq] at e
        obtain ⟨rfl, rfl, rfl⟩ := e
        exact ⟨fz_ok h hgk hu hy hb, rfl⟩
      · cases e

theorem argsG_ok {a : Act} {w : World} {ρ : Ly} (h : SatR B σ a w ρ) {own : List Nat} {d : Nat} {bs0 : List (Nat × Nat)} (hgk : ∀ p ∈ bs0, σ.gn p.1 = p.2) : ∀ {us : List Value} {cs : List AV} {i : Nat} {xs : List Arg} {bs gs : List (Nat × Nat)},
    Reps w (Imm B σ ρ w) ρ σ.gn us cs → argsG σ own d i cs = some (xs, bs, gs) → (∀ p ∈ bs, p ∈ bs0) → (∀ p ∈ gs, σ.gn p.1 = p.2) → ArgsOk w (Imm B (app σ (fwr bs0)) ρ w) us xs (footG σ ρ gs)
  | [], [], i, xs, bs, gs, _, e, _, _ => by
    simp only [argsG, Option.some.injEq, Prod.mk.injEq] at e
    rw [← e.1, ← e.2.2]
    exact rfl
  | [], c :: cs, _, _, _, _, hr, _, _, _ => by have := hr.1; simp at this
  | u :: us, [], _, _, _, _, hr, _, _, _ => by have := hr.1; simp at this
  | u :: us, c :: cs, i, xs, bs, gs, hr, e, hb, hg => by
    simp only [argsG] at e
    split at e
    · rename_i x b1 g1 xs1 bs1 gs1 h1 h2
      simp only [Option.some.injEq, Prod.mk.injEq] at e
      obtain ⟨rfl, rfl, rfl⟩ := e
      exact ⟨_, _, argG_ok h hgk (hr.2 0 u c rfl rfl) h1 (fun p hp => hb p (List.mem_append_left _ hp)) fun p hp => hg p (List.mem_append_left _ hp),
        argsG_ok h hgk ⟨by simpa using hr.1, fun i u x hu hx => hr.2 (i + 1) u x (by simpa using hu) (by simpa using hx)⟩ h2 (fun p hp => hb p (List.mem_append_right _ hp)) fun p hp => hg p (List.mem_append_right _ hp), footG_append _ _ _⟩
    · cases e

/-- The boxes' values are where the boxes lie. -/
theorem bxG_ok {a : Act} {w : World} {ρ : Ly} (h : SatR B σ a w ρ) {own : List Nat} {d : Nat} : ∀ {us : List Value} {cs : List AV} {i : Nat} {xs : List Arg} {bs gs : List (Nat × Nat)},
    Reps w (Imm B σ ρ w) ρ σ.gn us cs → argsG σ own d i cs = some (xs, bs, gs) → (∀ p ∈ gs, σ.gn p.1 = p.2) → bxVs us xs = (bxG own d i cs).map (fun p => ρ p.1) ∧ (∀ p ∈ bxG own d i cs, p.1 ∈ gs.map (·.1))
  | [], [], i, xs, bs, gs, _, e, _ => by
    simp only [argsG, Option.some.injEq, Prod.mk.injEq] at e
    rw [← e.1]
    exact ⟨rfl, by simp [bxG]⟩
  | [], c :: cs, _, _, _, _, hr, _, _ => by have := hr.1; simp at this
  | u :: us, [], _, _, _, _, hr, _, _ => by have := hr.1; simp at this
  | u :: us, c :: cs, i, xs, bs, gs, hr, e, hg => by
    simp only [argsG] at e
    split at e
    · rename_i x b1 g1 xs1 bs1 gs1 h1 h2
      simp only [Option.some.injEq, Prod.mk.injEq] at e
      obtain ⟨rfl, rfl, rfl⟩ := e
      obtain ⟨ih1, ih2⟩ := bxG_ok h (us := us) (cs := cs) ⟨by simpa using hr.1, fun i u x hu hx => hr.2 (i + 1) u x (by simpa using hu) (by simpa using hx)⟩ h2 fun p hp => hg p (List.mem_append_right _ hp)
      have up : ∀ p ∈ bxG own d (i + 1) cs, p.1 ∈ (g1 ++ gs1).map (·.1) := fun p hp => by rw [List.map_append]; exact List.mem_append_right _ (ih2 p hp)
      have hu := hr.2 0 u c rfl rfl
      unfold argG at h1
      unfold bxG
      split at h1
      · rename_i hown
        split at h1
        · rename_i b g
          split at h1
          · rename_i k hk
            simp only [Option.some.injEq, Prod.mk.injEq] at h1
            obtain ⟨rfl, rfl, rfl⟩ := h1
            have hv : u = ρ b := by
              have hgb := hg (b, g) (by simp)
              cases hu with
              | osl _ _ _ _ _ hh => exact hh hgb
            unfold lentG
            cases hl : own.contains (2000000 + (1000 * (d + 1) + i)) with
            | true =>
              refine ⟨by simp only [bxVs, List.map_cons, hl]; rw [ih1, hv], fun p hp => ?_⟩
              simp only [hl] at hp
              rcases List.mem_cons.1 hp with rfl | hp
              · simp
              · exact up p hp
            | false => exact ⟨by simp only [bxVs, hl]; exact ih1, fun p hp => up p (by simpa only [hl] using hp)⟩
          · cases h1
        · rename_i b g
          split at h1
          · rename_i t m hk
            split at h1
            · simp only [Option.some.injEq, Prod.mk.injEq] at h1
              obtain ⟨rfl, rfl, rfl⟩ := h1
              obtain ⟨q, us', e3, e4, _⟩ := box_read h hu (hg (b, g) (by simp)) hk
              refine ⟨by simp only [bxVs, List.map_cons]; rw [ih1, e3, e4], fun p hp => ?_⟩
              rcases List.mem_cons.1 hp with rfl | hp
              · simp
              · exact up p hp
            · cases h1
          · cases h1
        · split at h1
          · split at h1
            · simp only [Option.some.injEq, Prod.mk.injEq] at h1
              obtain ⟨rfl, rfl, rfl⟩ := h1
              exact ⟨ih1, up⟩
            · cases h1
          · cases h1
        · cases h1
      · rename_i hown
        split at h1
        · split at h1
          · simp only [Option.some.injEq, Prod.mk.injEq] at h1
            obtain ⟨rfl, rfl, rfl⟩ := h1
            exact ⟨ih1, up⟩
          · cases h1
        · split at h1
          · simp only [Option.some.injEq, Prod.mk.injEq] at h1
            obtain ⟨rfl, rfl, rfl⟩ := h1
            exact ⟨ih1, up⟩
          · cases h1
    · cases e
end

end Go.Proofs.YthahbiahlpcgeaaGreatDoor.Sym
