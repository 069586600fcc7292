/-
  The plain reading is the model's: code, loops, a function's results, a function's contract.
-/
import Derived.Test.YthahbiahlpcgeaaGreatDoorSym12
namespace Go.Proofs.YthahbiahlpcgeaaGreatDoor.Sym
open Go.RowKit

theorem least {p : Nat → Prop} (h : ∃ m, p m) : ∃ m, p m ∧ ∀ k, p k → m ≤ k := by
  obtain ⟨m, hm⟩ := h
  induction m using Nat.strongRecOn with
  | _ m ih =>
    by_cases hk : ∃ k, k < m ∧ p k
    · obtain ⟨k, h1, h2⟩ := hk
      exact ih k h1 h2
    · exact ⟨m, hm, fun k hp => by
        rcases Nat.lt_or_ge k m with h1 | h1
        · exact absurd ⟨k, h1, hp⟩ hk
        · exact h1⟩

section
variable {P : Program} {B : Base}

theorem Loops.out {body : (Exit → St → Prop) → St → Prop} {K : Exit → St → Prop} {σ : St} (h : Loops body K σ) :
    ∃ (I : Nat → St → Prop) (m : Nat), I m σ ∧ ∀ m σ, I m σ → ∃ σ1 φ, Ent σ σ1 ∧ Holds σ1 φ ∧ (φ → body (fun e σ' => match e with | .normal => ∃ m', m' < m ∧ I m' σ' | e => K e σ') σ1) := by
  unfold Loops at h
  exact h

open Classical in
theorem loop_ok {body : Code} {K : Exit → St → Prop} {σ : St} {f : (Exit → St → Prop) → St → Prop} (h : Loops f K σ)
    (hbody : ∀ (K' : Exit → St → Prop) (σ : St), f K' σ → ∀ a w, Sat B σ a w → ∀ Q : Exit → Act → World → Prop, (∀ e σ' a' w', K' e σ' → Sat B σ' a' w' → Q e a' w') → body.wp P Q a w)
    {a : Act} {w : World} (hs : Sat B σ a w) {Q : Exit → Act → World → Prop} (hQ : ∀ e σ' a' w', K e σ' → Sat B σ' a' w' → Q e a' w') : (Code.loop body).wp P Q a w := by
  obtain ⟨I, m0, h0, hI⟩ := h.out
  let L : Act → World → Nat → Prop := fun a w m => ∃ σ, I m σ ∧ Sat B σ a w
  let μ : Act → World → Nat := fun a w => if h : ∃ m, L a w m then Classical.choose (least h) else 0
  refine wp_loop (fun a w => ∃ m, L a w m) μ ⟨m0, σ, h0, hs⟩ fun a w hL => ?_
  obtain ⟨h1, h2⟩ := Classical.choose_spec (least hL)
  have hμ : μ a w = Classical.choose (least hL) := by simp only [μ]; rw [dif_pos hL]
  generalize hm : Classical.choose (least hL) = m at h1 h2 hμ
  obtain ⟨σ1, hσ1, hs1⟩ := h1
  obtain ⟨σ2, φ, hent, hφ, hb⟩ := hI m σ1 hσ1
  have hs2 := hent B a w hs1
  refine hbody _ σ2 (hb (hφ B a w hs2)) a w hs2 _ fun e σ' a' w' hk hs' => ?_
  cases e with
  | normal =>
    obtain ⟨m', hlt, hI'⟩ := hk
    have hL' : ∃ m, L a' w' m := ⟨m', σ', hI', hs'⟩
    refine ⟨hL', ?_⟩
    have h3 := (Classical.choose_spec (least hL')).2 m' ⟨σ', hI', hs'⟩
    have hμ' : μ a' w' = Classical.choose (least hL') := by simp only [μ]; rw [dif_pos hL']
    rw [hμ', hμ]
    omega
  | exit id => exact hQ _ σ' a' w' hk hs'
  | goto l => exact hQ _ σ' a' w' hk hs'
  | ret => exact hQ _ σ' a' w' hk hs'
  | panic ch => exact hQ _ σ' a' w' hk hs'
  | outgrown => exact hQ _ σ' a' w' hk hs'

theorem aCode_ok (hm : P.follows .mixedOrders = true) {C : FuncId → List Arg → Rs → Prop} (hC : ∀ g xs r, C g xs r → Sp P g xs r) {own : List Nat} : ∀ (c : Code) (K : Exit → St → Prop) (σ : St), aCode P C B.n own c K σ → ∀ a w, Sat B σ a w → ∀ Q : Exit → Act → World → Prop,
    (∀ e σ' a' w', K e σ' → Sat B σ' a' w' → Q e a' w') → c.wp P Q a w
  | .skip, K, σ, h, a, w, hs, Q, hQ => wp_skip (hQ .normal σ a w h hs)
  | .region id ops draw, K, σ, h, a, w, hs, Q, hQ => aRegion_ok hm hC (id := id) h hs hQ
  | .seq x y, K, σ, h, a, w, hs, Q, hQ => by
    simp only [aCode] at h
    split at h
    case h_2 =>
      obtain ⟨Post, h1, h2⟩ := h.out
      refine wp_seq (aCode_ok hm hC x _ σ h1 a w hs _ fun e σ' a' w' hk hs' => ?_)
      cases e with
      | normal =>
        obtain ⟨σ1, he, hp⟩ := hk
        obtain ⟨φ, hφ, h3⟩ := h2 σ1 hp
        have hs1 := he B a' w' hs'
        exact aCode_ok hm hC y K σ1 (h3 (hφ B a' w' hs1)) a' w' hs1 Q hQ
      | exit id => exact hQ _ σ' a' w' hk hs'
      | goto l => exact hQ _ σ' a' w' hk hs'
      | ret => exact hQ _ σ' a' w' hk hs'
      | panic ch => exact hQ _ σ' a' w' hk hs'
      | outgrown => exact hQ _ σ' a' w' hk hs'
    refine wp_seq (aCode_ok hm hC x _ σ h a w hs _ fun e σ' a' w' hk hs' => ?_)
    cases e with
    | normal => exact aCode_ok hm hC y K σ' hk a' w' hs' Q hQ
    | exit id => exact hQ _ σ' a' w' hk hs'
    | goto l => exact hQ _ σ' a' w' hk hs'
    | ret => exact hQ _ σ' a' w' hk hs'
    | panic ch => exact hQ _ σ' a' w' hk hs'
    | outgrown => exact hQ _ σ' a' w' hk hs'
  | .cond c x y, K, σ, h, a, w, hs, Q, hQ => by
    simp only [aCode] at h
    split at h
    · rename_i t ht
      obtain ⟨h1, h2⟩ := h.out
      have hc : a.eval c = .bool t := by
        obtain ⟨ρ, hs⟩ := hs
        exact asBool_inv ht (evA_ok hs c)
      cases ht' : t with
      | true => exact wp_cond_true (hc.trans (by rw [ht'])) (aCode_ok hm hC x K σ (h1 ht') a w hs Q hQ)
      | false => exact wp_cond_false (hc.trans (by rw [ht'])) (aCode_ok hm hC y K σ (h2 ht') a w hs Q hQ)
    · exact h.elim
  | .block id body, K, σ, h, a, w, hs, Q, hQ => by
    simp only [aCode] at h
    split at h
    case h_2 =>
      obtain ⟨Post, h1, h2⟩ := h.out
      have fin : ∀ σ' a' w', (∃ σ1, Ent σ' σ1 ∧ Post σ1) → Sat B σ' a' w' → Q .normal a' w' := fun σ' a' w' ⟨σ1, he, hp⟩ hs' => by
        obtain ⟨φ, hφ, h3⟩ := h2 σ1 hp
        have hs1 := he B a' w' hs'
        exact hQ _ σ1 a' w' (h3 (hφ B a' w' hs1)) hs1
      refine wp_block (aCode_ok hm hC body _ σ h1 a w hs _ fun e σ' a' w' hk hs' => ?_)
      cases e with
      | exit j =>
        simp only at hk
        show (if j = id then Q .normal a' w' else Q (.exit j) a' w')
        by_cases e : j = id
        · rw [if_pos e] at hk ⊢; exact fin σ' a' w' hk hs'
        · rw [if_neg e] at hk ⊢; exact hQ _ σ' a' w' hk hs'
      | normal => exact fin σ' a' w' hk hs'
      | goto l => exact hQ _ σ' a' w' hk hs'
      | ret => exact hQ _ σ' a' w' hk hs'
      | panic ch => exact hQ _ σ' a' w' hk hs'
      | outgrown => exact hQ _ σ' a' w' hk hs'
    refine wp_block (aCode_ok hm hC body _ σ h a w hs _ fun e σ' a' w' hk hs' => ?_)
    cases e with
    | exit j =>
      simp only at hk
      show (if j = id then Q .normal a' w' else Q (.exit j) a' w')
      by_cases e : j = id
      · rw [if_pos e] at hk ⊢; exact hQ _ σ' a' w' hk hs'
      · rw [if_neg e] at hk ⊢; exact hQ _ σ' a' w' hk hs'
    | normal => exact hQ _ σ' a' w' hk hs'
    | goto l => exact hQ _ σ' a' w' hk hs'
    | ret => exact hQ _ σ' a' w' hk hs'
    | panic ch => exact hQ _ σ' a' w' hk hs'
    | outgrown => exact hQ _ σ' a' w' hk hs'
  | .loop body, K, σ, h, a, w, hs, Q, hQ => loop_ok h (fun K' σ h a w hs Q hQ => aCode_ok hm hC body K' σ h a w hs Q hQ) hs hQ
  | .exit id, K, σ, h, a, w, hs, Q, hQ => wp_exit (hQ _ σ a w h hs)
  | .ret, K, σ, h, a, w, hs, Q, hQ => wp_ret (hQ _ σ a w h hs)
  | .rangeFunc .., _, _, h, _, _, _, _, _ => h.elim
  | .scope _, _, _, h, _, _, _, _, _ => h.elim
  | .label _, _, _, h, _, _, _, _, _ => h.elim
  | .goto _, _, _, h, _, _, _, _, _ => h.elim
  | .refuse _, _, _, h, _, _, _, _, _ => h.elim

/-- What a result reads as. -/
def resA (P : Program) (σ : St) : ResultVar → Option (AV × List (Nat × Nat))
  | .tmp t => some (σ.av t, [])
  | .cell c t => match σ.av c with
    | .own b g i => match aggOf P t with
      | some false => if Nat.blt i (boxLen σ b) = true then some (σ.ce b i, [(b, g)]) else none
      | some true => match szOf P t with
        | some m => if (Nat.blt 0 m && Nat.ble (i + m) (boxLen σ b)) = true then some (aggA ((List.range m).map fun j => σ.ce b (i + j)), [(b, g)]) else none
        | none => none
      | none => none
    | _ => none
def resAs (P : Program) (σ : St) : List ResultVar → Option (List AV × List (Nat × Nat))
  | [] => some ([], [])
  | r :: l => match resA P σ r, resAs P σ l with | some (v, b), some (vs, bs) => some (v :: vs, b ++ bs) | _, _ => none

/-- A result, as the contract wants it: a value that nobody turns any more, or an object. -/
def outC (σ : St) (c : Oc) (a : AV) : Option (Oc × List (Nat × Nat) × List (Nat × Nat)) := match c with
  | .im _ => match fz σ a with
    | some (x, bs) => some (.im x, bs, [])
    | none => none
  | .ow k0 => match a with
    | .osl b g => match objG σ b with
      | some k => some (.ow k, [], [(b, g)])
      | none => none
    | .im x => match k0 with
      | .row e k _ => match nilRow x e k with
        | some q => some (.ow q, [], [])
        | none => none
      | _ => none
    | _ => none
def outCs (σ : St) : List Oc → List AV → Option (List Oc × List (Nat × Nat) × List (Nat × Nat))
  | [], [] => some ([], [], [])
  | c :: cs, a :: l => match outC σ c a, outCs σ cs l with
    | some (x, bs, gs), some (xs, bs', gs') => some (x :: xs, bs ++ bs', gs ++ gs')
    | _, _ => none
  | _, _ => none
/-- What the boxes that were lent hold in the end. -/
def bxOut (σ : St) : Nat → List Arg → List Arg → Option (List Arg × List (Nat × Nat) × List (Nat × Nat))
  | _, [], [] => some ([], [], [])
  | i, .im _ :: xs, ys => bxOut σ (i + 1) xs ys
  | i, .ow _ :: xs, ys => bxOut σ (i + 1) xs ys
  | i, .box _ _ :: xs, .box _ cs :: ys => match σ.kd i with
    | .box t _ => match outCs σ cs (boxCs σ i), bxOut σ (i + 1) xs ys with
      | some (cs', bs, gs), some (l, bs', gs') => some (.box t cs' :: l, bs ++ bs', ((i, 0) :: gs) ++ gs')
      | _, _ => none
    | _ => none
  | i, .lent _ :: xs, .lent _ :: ys => match objG σ i, bxOut σ (i + 1) xs ys with
    | some k, some (l, bs', gs') => some (.lent k :: l, bs', (i, 0) :: gs')
    | _, _ => none
  | _, _, _ => none
/-- The results are as the contract says. -/
def RetOk (P : Program) (rs : List ResultVar) (xs : List Arg) (σ : St) (r : Rs) : Prop :=
  match resAs P σ rs, r with
  | some (vs, c), .mk tp l ys => Chk (match tp with | true => !Nat.beq vs.length 1 | false => Nat.beq vs.length 1) (SideG σ c (match outCs σ l vs, bxOut σ 0 xs ys with
    | some (l', bs, gs), some (ys', bs', gs') => Chk (ndB ((gs ++ gs').map (·.1)) ((bs ++ bs').map (·.1))) (SideG σ ((bs ++ bs') ++ (gs ++ gs')) (l' = l ∧ ys' = ys))
    | _, _ => False))
  | none, _ => False
def retK (P : Program) (rs : List ResultVar) (xs : List Arg) (r : Rs) : Exit → St → Prop
  | .ret, σ => RetOk P rs xs σ r
  | .normal, σ => RetOk P rs xs σ r
  | _, _ => False

/-- One result. -/
def oneRes (tmps : Array Value) : ResultVar → Sem Value
  | .tmp t => pure (tmps.getD t undef)
  | .cell c t => do loadVar t (← asAddr (tmps.getD c undef))
theorem results_eq (fn : Func) (tmps : Array Value) : results fn tmps = (do let vs ← fn.results.mapM (oneRes tmps); pure (if h : vs.size = 1 then vs[0] else .tuple vs)) := by
  unfold results
  have e : (fun r : ResultVar => match r with
    | .tmp t => (pure (tmps.getD t undef) : Sem Value)
    | .cell a t => do loadVar t (← asAddr (tmps.getD a undef))) = oneRes tmps := funext fun r => by cases r <;> rfl
  rw [← e]
  rfl

theorem resA_ok {σ : St} {a : Act} {w : World} {ρ : Ly} (h : SatR B σ a w ρ) {r : ResultVar} {v : AV} {bs : List (Nat × Nat)} (e : resA P σ r = some (v, bs)) (hg : ∀ p ∈ bs, σ.gn p.1 = p.2) :
    ∃ u, (oneRes a.tmps r).run P w = .ok u w ∧ RepA w (Imm B σ ρ w) ρ σ.gn u v := by
  cases r with
  | tmp t =>
    simp only [resA, Option.some.injEq, Prod.mk.injEq] at e
    rw [← e.1]
    exact ⟨_, rfl, h.tms t⟩
  | cell c t =>
    simp only [resA] at e
    split at e
    · rename_i b g i hc
      have h1 := h.tms c
      rw [hc] at h1
      have ld : ∀ q u, a.tmps.getD c undef = .pointer (some q) → (Instr.loadAt t (.pointer (some q))).run P w = .ok u w → (do loadVar t (← asAddr (a.tmps.getD c undef)) : Sem Value).run P w = .ok u w := fun q u e1 e2 => by
        simp only [Instr.loadAt, Instr.sureAddr, Sem.run_bind, Sem.run_pure, Result.andThen_ok] at e2
        simp only [e1, asAddr, Sem.run_bind, Sem.run_pure, Result.andThen_ok, e2]
      split at e
      · rename_i hagg
        split at e
        · rename_i hi
          simp only [Option.some.injEq, Prod.mk.injEq] at e
          obtain ⟨rfl, rfl⟩ := e
          obtain ⟨t', m, hk, him⟩ := boxLen_spec (blt_spec hi)
          obtain ⟨q, us, e1, _, _, hl, h1c, hcc, hr⟩ := box_read h h1 (hg (b, g) (by simp)) hk
          obtain ⟨u, hu⟩ : ∃ u, us[i]? = some u := ⟨_, List.getElem?_eq_getElem (by omega)⟩
          exact ⟨u, ld _ u e1 (load_one hagg (hcc i u hu)), hr i u hu⟩
        · cases e
      · rename_i hagg
        split at e
        · rename_i m hm
          split at e
          · rename_i hi
            simp only [Option.some.injEq, Prod.mk.injEq] at e
            obtain ⟨rfl, rfl⟩ := e
            rw [Bool.and_eq_true] at hi
            have hm0 := blt_spec hi.1
            have hi := ble_spec hi.2
            obtain ⟨t', m', hk, him⟩ := boxLen_spec (σ := σ) (b := b) (i := i) (by omega)
            have hbl := boxLen_eq hk
            obtain ⟨q, us, e1, _, _, hl, h1c, hcc, hr⟩ := box_read h h1 (hg (b, g) (by simp)) hk
            have hlt : ((us.drop i).take m).length = m := by rw [List.length_take, List.length_drop]; omega
            refine ⟨.agg ((us.drop i).take m).toArray, ld _ _ e1 (load_many hagg (by rw [hlt]; exact hm) fun j u hj => hcc (i + j) u (drop_take_get hj).1), aggA_rep ⟨by rw [hlt]; simp, fun j u x hj hx => ?_⟩ fun u hu => h1c u (List.mem_of_mem_drop (List.mem_of_mem_take hu))⟩
            obtain ⟨h3, hjm⟩ := drop_take_get hj
            simp only [List.getElem?_map, List.getElem?_range hjm, Option.map_some, Option.some.injEq] at hx
            rw [← hx]
            exact hr _ u h3
          · cases e
        · cases e
      · cases e
    · cases e

theorem resAs_ok {σ : St} {a : Act} {w : World} {ρ : Ly} (h : SatR B σ a w ρ) : ∀ {rs : List ResultVar} {vs : List AV} {bs : List (Nat × Nat)}, resAs P σ rs = some (vs, bs) → (∀ p ∈ bs, σ.gn p.1 = p.2) →
    ∃ us : List Value, (rs.mapM (oneRes a.tmps)).run P w = .ok us w ∧ Reps w (Imm B σ ρ w) ρ σ.gn us vs
  | [], vs, bs, e, _ => by
    simp only [resAs, Option.some.injEq, Prod.mk.injEq] at e
    rw [← e.1]
    exact ⟨[], by simp, rfl, by simp⟩
  | r :: rs, vs, bs, e, hg => by
    simp only [resAs] at e
    split at e
    · rename_i v b1 vs1 bs1 h1 h2
      simp only [Option.some.injEq, Prod.mk.injEq] at e
      obtain ⟨rfl, rfl⟩ := e
      obtain ⟨u, hu, hr⟩ := resA_ok h h1 fun p hp => hg p (List.mem_append_left _ hp)
      obtain ⟨us, hus, hrs⟩ := resAs_ok h h2 fun p hp => hg p (List.mem_append_right _ hp)
      refine ⟨u :: us, ?_, by simp [hrs.1], fun i x y hx hy => ?_⟩
      · rw [List.mapM_cons]
        simp only [Sem.run_bind, hu, Result.andThen_ok, hus, Sem.run_pure]
      · cases i with
        | zero => simp at hx hy; rw [← hx, ← hy]; exact hr
        | succ i => exact hrs.2 i x y (by simpa using hx) (by simpa using hy)
    · cases e

theorem OcsOk.app {w : World} {S : Nat → Prop} : ∀ {us vs : List Value} {cs ds : List Oc} {F G : List Nat}, OcsOk w S us cs F → OcsOk w S vs ds G → OcsOk w S (us ++ vs) (cs ++ ds) (F ++ G)
  | [], vs, [], ds, F, G, h, k => by
    have h : F = [] := h
    subst h
    exact k
  | u :: us, vs, c :: cs, ds, F, G, ⟨F1, F2, h1, h2, h3⟩, k => by
    subst h3
    exact ⟨F1, F2 ++ G, h1, h2.app k, List.append_assoc ..⟩
  | [], _, _ :: _, _, _, _, h, _ => h.elim
  | _ :: _, _, [], _, _, _, h, _ => h.elim

theorem outC_ok {σ : St} {a : Act} {w : World} {ρ : Ly} (h : SatR B σ a w ρ) {bs0 : List (Nat × Nat)} (hgk : ∀ p ∈ bs0, σ.gn p.1 = p.2) {c : Oc} {u : Value} {v : AV} {x : Oc} {bs gs : List (Nat × Nat)} (hu : RepA w (Imm B σ ρ w) ρ σ.gn u v) (e : outC σ c v = some (x, bs, gs)) (hb : ∀ p ∈ bs, p ∈ bs0) (hg : ∀ p ∈ gs, σ.gn p.1 = p.2) :
    OcOk w (Imm B (app σ (fwr bs0)) ρ w) u x (footG σ ρ gs) := by
  have hI := (h.kills bs0).2
  unfold outC at e
  split at e
  · split at e
    · rename_i y bs' hy
      simp only [Option.some.injEq, Prod.mk.injEq] at e
      obtain ⟨rfl, rfl, rfl⟩ := e
      exact ⟨fz_ok h hgk hu hy hb, rfl⟩
    · cases e
  · split at e
    · rename_i b g
      split at e
      · rename_i k hk
        simp only [Option.some.injEq, Prod.mk.injEq] at e
        obtain ⟨rfl, rfl, rfl⟩ := e
        have hgb := hg (b, g) (by simp)
        have hv : u = ρ b := by
          cases hu with
          | osl _ _ _ _ _ hh => exact hh hgb
        have hh := obs_hold h hk
        subst hv
        refine ⟨hh.one, ρ.inn b, hh.mono (fun _ _ => rfl) hI, ?_⟩
        unfold footG
        rw [List.flatMap_cons, List.flatMap_nil, List.append_nil, (objG_spec hk).1]
      · cases e
    · have hu := hu.im_inv
      split at e
      · split at e
        · rename_i q hq
          simp only [Option.some.injEq, Prod.mk.injEq] at e
          obtain ⟨rfl, rfl, rfl⟩ := e
          obtain ⟨rfl, k', rfl⟩ := nilRow_spec hq
          cases hu
          exact nil_oc _ _ _ _
        · cases e
      · cases e
    · cases e
theorem outCs_ok {σ : St} {a : Act} {w : World} {ρ : Ly} (h : SatR B σ a w ρ) {bs0 : List (Nat × Nat)} (hgk : ∀ p ∈ bs0, σ.gn p.1 = p.2) : ∀ {cs : List Oc} {us : List Value} {vs : List AV} {xs : List Oc} {bs gs : List (Nat × Nat)}, Reps w (Imm B σ ρ w) ρ σ.gn us vs → outCs σ cs vs = some (xs, bs, gs) → (∀ p ∈ bs, p ∈ bs0) → (∀ p ∈ gs, σ.gn p.1 = p.2) →
    OcsOk w (Imm B (app σ (fwr bs0)) ρ w) us xs (footG σ ρ gs)
  | [], us, [], xs, bs, gs, hr, e, _, _ => by
    simp only [outCs, Option.some.injEq, Prod.mk.injEq] at e
    rw [← e.1, ← e.2.2, List.eq_nil_of_length_eq_zero hr.1]
    exact rfl
  | [], _, _ :: _, _, _, _, _, e, _, _ => by simp [outCs] at e
  | _ :: _, _, [], _, _, _, _, e, _, _ => by simp [outCs] at e
  | c :: cs, [], v :: vs, _, _, _, hr, _, _, _ => by have := hr.1; simp at this
  | c :: cs, u :: us, v :: vs, xs, bs, gs, hr, e, hb, hg => by
    simp only [outCs] at e
    split at e
    · rename_i x b1 g1 xs1 bs1 gs1 h1 h2
      simp only [Option.some.injEq, Prod.mk.injEq] at e
      obtain ⟨rfl, rfl, rfl⟩ := e
      exact ⟨_, _, outC_ok h hgk (hr.2 0 u v rfl rfl) h1 (fun p hp => hb p (List.mem_append_left _ hp)) fun p hp => hg p (List.mem_append_left _ hp),
        outCs_ok h hgk ⟨by simpa using hr.1, fun i u x hu hx => hr.2 (i + 1) u x (by simpa using hu) (by simpa using hx)⟩ h2 (fun p hp => hb p (List.mem_append_right _ hp)) fun p hp => hg p (List.mem_append_right _ hp), footG_append _ _ _⟩
    · cases e

/-- The lent boxes keep their places. -/
def lentL (xs : List Arg) (vs : List Value) (o : Nat) : Option Value := match xs[o]? with
  | some (.box _ _) => vs[o]?
  | some (.lent _) => vs[o]?
  | _ => none

theorem bxOut_ok {σ : St} {a : Act} {w : World} {ρ : Ly} (h : SatR B σ a w ρ) {bs0 : List (Nat × Nat)} (hgk : ∀ p ∈ bs0, σ.gn p.1 = p.2) : ∀ {xs : List Arg} {vs : List Value} {i : Nat} {ys ys' : List Arg} {bs gs : List (Nat × Nat)}, vs.length = xs.length → (∀ j v, lentL xs vs j = some v → B.L (i + j) = some v) → bxOut σ i xs ys = some (ys', bs, gs) → (∀ p ∈ bs, p ∈ bs0) → (∀ p ∈ gs, σ.gn p.1 = p.2) →
    ArgsOk w (Imm B (app σ (fwr bs0)) ρ w) (bxVs vs xs) ys' (footG σ ρ gs)
  | [], [], i, ys, ys', bs, gs, hl, hL, e, hb, hg => by
    cases ys with
    | nil =>
      simp only [bxOut, Option.some.injEq, Prod.mk.injEq] at e
      rw [← e.1, ← e.2.2]
      exact rfl
    | cons _ _ => simp [bxOut] at e
  | [], _ :: _, _, _, _, _, _, hl, _, _, _, _ => by simp at hl
  | _ :: _, [], _, _, _, _, _, hl, _, _, _, _ => by simp at hl
  | .im x :: xs, v :: vs, i, ys, ys', bs, gs, hl, hL, e, hb, hg => by
    have e : bxOut σ (i + 1) xs ys = some (ys', bs, gs) := by cases ys <;> exact e
    exact bxOut_ok h hgk (xs := xs) (vs := vs) (i := i + 1) (by simpa using hl) (fun j v hv => by rw [Nat.add_assoc, Nat.add_comm 1 j]; exact hL (j + 1) v (by simpa [lentL] using hv)) e hb hg
  | .ow k :: xs, v :: vs, i, ys, ys', bs, gs, hl, hL, e, hb, hg => by
    have e : bxOut σ (i + 1) xs ys = some (ys', bs, gs) := by cases ys <;> exact e
    exact bxOut_ok h hgk (xs := xs) (vs := vs) (i := i + 1) (by simpa using hl) (fun j v hv => by rw [Nat.add_assoc, Nat.add_comm 1 j]; exact hL (j + 1) v (by simpa [lentL] using hv)) e hb hg
  | .lent _ :: xs, v :: vs, i, [], ys', bs, gs, hl, hL, e, hb, hg => by simp [bxOut] at e
  | .lent _ :: xs, v :: vs, i, .im _ :: ys, ys', bs, gs, hl, hL, e, hb, hg => by simp [bxOut] at e
  | .lent _ :: xs, v :: vs, i, .ow _ :: ys, ys', bs, gs, hl, hL, e, hb, hg => by simp [bxOut] at e
  | .lent _ :: xs, v :: vs, i, .box _ _ :: ys, ys', bs, gs, hl, hL, e, hb, hg => by simp [bxOut] at e
  | .box _ _ :: xs, v :: vs, i, .lent _ :: ys, ys', bs, gs, hl, hL, e, hb, hg => by simp [bxOut] at e
  | .lent k0 :: xs, v :: vs, i, .lent k1 :: ys, ys', bs, gs, hl, hL, e, hb, hg => by
    unfold bxOut at e
    split at e
    · rename_i k l b2 g2 hk h2
      simp only [Option.some.injEq, Prod.mk.injEq] at e
      obtain ⟨rfl, rfl, rfl⟩ := e
      have hgi : σ.gn i = 0 := hg (i, 0) (by simp)
      have hv : ρ i = v := h.rt i v (by have := hL 0 v (by simp [lentL]); simpa using this) hgi
      have hh := obs_hold h hk
      have hI := (h.kills bs0).2
      refine ⟨fpk (ρ i) (ρ.inn i) k, footG σ ρ g2, ⟨by rw [← hv]; exact hh.one, ρ.inn i, by rw [← hv]; exact hh.mono (fun _ _ => rfl) hI, by rw [← hv]⟩,
        bxOut_ok h hgk (xs := xs) (vs := vs) (i := i + 1) (by simpa using hl) (fun j v hv => by rw [Nat.add_assoc, Nat.add_comm 1 j]; exact hL (j + 1) v (by simpa [lentL] using hv)) h2 hb (fun p hp => hg p (by simp [hp])), ?_⟩
      unfold footG
      rw [List.flatMap_cons, (objG_spec hk).1]
    · cases e
  | .box t0 c0 :: xs, v :: vs, i, [], ys', bs, gs, hl, hL, e, hb, hg => by simp [bxOut] at e
  | .box t0 c0 :: xs, v :: vs, i, .im _ :: ys, ys', bs, gs, hl, hL, e, hb, hg => by simp [bxOut] at e
  | .box t0 c0 :: xs, v :: vs, i, .ow _ :: ys, ys', bs, gs, hl, hL, e, hb, hg => by simp [bxOut] at e
  | .box t0 c0 :: xs, v :: vs, i, .box _ cs :: ys, ys', bs, gs, hl, hL, e, hb, hg => by
    unfold bxOut at e
    split at e
    · rename_i t m hk
      split at e
      · rename_i cs' b1 g1 l b2 g2 h1 h2
        simp only [Option.some.injEq, Prod.mk.injEq] at e
        obtain ⟨rfl, rfl, rfl⟩ := e
        have hgi : σ.gn i = 0 := hg (i, 0) (by simp)
        have hv : ρ i = v := h.rt i v (by have := hL 0 v (by simp [lentL]); simpa using this) hgi
        have ho := h.obs i
        rw [hk] at ho
        obtain ⟨q, us, e1, e2, e3, e4, e5⟩ := ho
        have hr := boxCs_reps (σ := σ) (b := i) (us := us) (t := t) (by rw [e3]; exact hk) e5
        refine ⟨_, _, ⟨q, us, footG σ ρ g1, by rw [← hv]; exact e1, e2, e4, outCs_ok h hgk hr h1 (fun p hp => hb p (List.mem_append_left _ hp)) (fun p hp => hg p (by simp [hp])), rfl⟩,
          bxOut_ok h hgk (xs := xs) (vs := vs) (i := i + 1) (by simpa using hl) (fun j v hv => by rw [Nat.add_assoc, Nat.add_comm 1 j]; exact hL (j + 1) v (by simpa [lentL] using hv)) h2 (fun p hp => hb p (List.mem_append_right _ hp)) (fun p hp => hg p (by simp [hp])), ?_⟩
        rw [footG_append]
        unfold footG
        rw [List.flatMap_cons, hk, e1]
        rfl
      · cases e
    · cases e

theorem results_ok {fn : Func} {xs : List Arg} {vs0 : List Value} {r : Rs} {σ : St} (h : RetOk P fn.results.toList xs σ r) {a : Act} {w : World} (hs : Sat B σ a w) (hl : vs0.length = xs.length) (hL : ∀ j v, lentL xs vs0 j = some v → B.L j = some v) :
    ∃ v F', (results fn a.tmps).run P w = .ok v w ∧ ResOk w (fun b => (B.S0 b ∨ Mine B b) ∧ b < w.heap.size ∧ b ∉ F') v (bxVs vs0 xs) r F' ∧ F'.Nodup ∧ ∀ b ∈ F', Mine B b ∧ b < w.heap.size := by
  obtain ⟨ρ, hs⟩ := hs
  unfold RetOk at h
  split at h
  · rename_i vs c tp l ys hvs
    obtain ⟨htp, h⟩ := h.ok
    obtain ⟨hg, h⟩ := h.out
    obtain ⟨us, hus, hr⟩ := resAs_ok hs hvs hg
    have hrun : (results fn a.tmps).run P w = .ok (if h : us.toArray.size = 1 then us.toArray[0] else .tuple us.toArray) w := by
      rw [results_eq, Sem.run_bind, Array.mapM_eq_mapM_toList, map_eq_pure_bind, Sem.run_bind, hus]
      simp only [Result.andThen_ok, Sem.run_pure]
    split at h
    · rename_i l' bs gs ys' bs' gs' h1 h2
      obtain ⟨hnd, h⟩ := h.ok
      obtain ⟨hnd1, hnd2⟩ := ndB_spec hnd
      obtain ⟨hgk, rfl, rfl⟩ := h.out
      have hgb : ∀ p ∈ bs ++ bs', σ.gn p.1 = p.2 := fun p hp => hgk p (List.mem_append_left _ hp)
      have hgg : ∀ p ∈ gs ++ gs', σ.gn p.1 = p.2 := fun p hp => hgk p (List.mem_append_right _ hp)
      have r1 := outCs_ok hs (bs0 := bs ++ bs') hgb hr h1 (fun p hp => List.mem_append_left _ hp) fun p hp => hgg p (List.mem_append_left _ hp)
      have r2 := bxOut_ok hs (bs0 := bs ++ bs') hgb hl (i := 0) (fun j v hv => by rw [Nat.zero_add]; exact hL j v hv) h2 (fun p hp => List.mem_append_right _ hp) fun p hp => hgg p (List.mem_append_right _ hp)
      have hup : ∀ u x, RepI w (Imm B (app σ (fwr (bs ++ bs'))) ρ w) u x → RepI w (fun b => (B.S0 b ∨ Mine B b) ∧ b < w.heap.size ∧ b ∉ footG σ ρ gs ++ footG σ ρ gs') u x := fun u x hr => hr.mono (fun b hb => ⟨hb.1, hb.2.1, fun hf => by
        rw [← footG_append] at hf
        obtain ⟨p, hp, ho⟩ := footG_mem.1 hf
        refine hb.2.2.1 p.1 ?_
        unfold Owns at ho ⊢
        rw [fwr_kd, if_neg (hnd2 p.1 (List.mem_map.2 ⟨p, hp, rfl⟩))]
        exact ho⟩) fun _ _ _ h => h
      have hn := footG_nodup hs hnd1
      rw [footG_append] at hn
      have hm : ∀ b ∈ footG σ ρ gs ++ footG σ ρ gs', Mine B b ∧ b < w.heap.size := fun b hb => by
        rw [← footG_append] at hb
        obtain ⟨p, hp, ho⟩ := footG_mem.1 hb
        exact hs.own p.1 b ho
      have hsz : us.toArray.size = vs.length := by simp [hr.1]
      cases tp with
      | true =>
        have hne : ¬ us.toArray.size = 1 := fun e => by
          rw [hsz] at e
          simp [e] at htp
        rw [dif_neg hne] at hrun
        exact ⟨_, _, hrun, ⟨us, _, _, rfl, r1.mono hup, r2.mono hup, rfl⟩, hn, hm⟩
      | false =>
        have he : us.toArray.size = 1 := by rw [hsz]; simpa using htp
        rw [dif_pos he] at hrun
        obtain ⟨u, rfl⟩ : ∃ u, us = [u] := by
          match us, he with
          | [u], _ => exact ⟨u, rfl⟩
        exact ⟨_, _, hrun, ⟨[u], _, _, rfl, r1.mono hup, r2.mono hup, rfl⟩, hn, hm⟩
    · exact h.elim
  · exact h.elim

/-- Where a function begins: nothing is known yet; the names of the objects in its boxes. -/
def sig0 : St := fun l => match l with
  | .tmp _ => .av (.im .any)
  | .gen _ => .n 0
  | .ign _ => .n 0
  | .knd _ => .kd .dead
  | .cel _ _ => .av (.im .any)
def tau0 : St := fun l => match l with
  | .tmp _ => .av (.im .any)
  | .gen _ => .n 0
  | .ign _ => .n 0
  | .knd _ => .kd .dead
  | .cel o j => .av (.osl (nmB o j) 0)
def topOc : Arg → Oc
  | .im x => .im x
  | .ow k => .ow k
  | .box _ _ => .im .any
  | .lent _ => .im .any
def bxIx : Nat → List Arg → List (Nat × Nat)
  | _, [] => []
  | i, .box _ _ :: xs => (i, i) :: bxIx (i + 1) xs
  | i, .lent _ :: xs => (i, i) :: bxIx (i + 1) xs
  | i, .im _ :: xs => bxIx (i + 1) xs
  | i, .ow _ :: xs => bxIx (i + 1) xs
def bxAs : List Arg → List Arg
  | [] => []
  | .box t cs :: xs => .box t cs :: bxAs xs
  | .lent k :: xs => .lent k :: bxAs xs
  | .im _ :: xs => bxAs xs
  | .ow _ :: xs => bxAs xs
def argV (i : Nat) (x : Arg) (a : AV) : AV := match x with
  | .box _ _ => .own i 0 0
  | .lent _ => .osl i 0
  | _ => a
def tmpW : Nat → List Arg → List AV → List (Loc × Ct)
  | i, x :: xs, a :: al => (.tmp i, .av (argV i x a)) :: tmpW (i + 1) xs al
  | _, _, _ => []
def entW (xs : List Arg) : List (Loc × Ct) := match ocsPl tau0 (fun i => i) 0 (xs.map topOc), bxPl tau0 (bxIx 0 xs) (bxAs xs) with
  | (al, ss), some (bl, ss') => insWr tau0 (ss ++ ss') ++ (bxWr bl ++ tmpW 0 xs al)
  | _, none => []
def entOk (xs : List Arg) : Bool := match ocsPl tau0 (fun i => i) 0 (xs.map topOc), bxPl tau0 (bxIx 0 xs) (bxAs xs) with
  | (_, ss), some (bl, ss') => ndB ((ss ++ ss').map (·.1)) (bl.map (·.1))
  | _, none => false
def st0 (xs : List Arg) : St := app sig0 (entW xs)

theorem args_split {w : World} {S : Nat → Prop} : ∀ {vs : List Value} {xs : List Arg} {F : List Nat}, ArgsOk w S vs xs F → ∃ Ft Fb, OcsOk w S vs (xs.map topOc) Ft ∧ ArgsOk w S (bxVs vs xs) (bxAs xs) Fb ∧ F.Perm (Ft ++ Fb)
  | [], [], F, h => ⟨[], [], rfl, rfl, by have h : F = [] := h; rw [h]; exact .refl _⟩
  | v :: vs, .im x :: xs, F, ⟨F1, F2, h1, h2, h3⟩ => by
    obtain ⟨Ft, Fb, a1, a2, a3⟩ := args_split h2
    obtain ⟨h1, rfl⟩ := h1
    exact ⟨[] ++ Ft, Fb, ⟨[], Ft, ⟨h1, rfl⟩, a1, rfl⟩, a2, by rw [h3]; exact a3⟩
  | v :: vs, .ow k :: xs, F, ⟨F1, F2, h1, h2, h3⟩ => by
    obtain ⟨Ft, Fb, a1, a2, a3⟩ := args_split h2
    exact ⟨F1 ++ Ft, Fb, ⟨F1, Ft, h1, a1, rfl⟩, a2, by rw [h3, List.append_assoc]; exact a3.append_left F1⟩
  | v :: vs, .box t cs :: xs, F, ⟨F1, F2, h1, h2, h3⟩ => by
    obtain ⟨Ft, Fb, a1, a2, a3⟩ := args_split h2
    refine ⟨[] ++ Ft, F1 ++ Fb, ⟨[], Ft, ⟨.any _, rfl⟩, a1, rfl⟩, ⟨F1, Fb, h1, a2, rfl⟩, ?_⟩
    rw [h3, List.nil_append]
    refine (a3.append_left F1).trans ?_
    rw [← List.append_assoc, ← List.append_assoc]
    exact List.perm_append_comm.append_right Fb
  | v :: vs, .lent k :: xs, F, ⟨F1, F2, h1, h2, h3⟩ => by
    obtain ⟨Ft, Fb, a1, a2, a3⟩ := args_split h2
    refine ⟨[] ++ Ft, F1 ++ Fb, ⟨[], Ft, ⟨.any _, rfl⟩, a1, rfl⟩, ⟨F1, Fb, h1, a2, rfl⟩, ?_⟩
    rw [h3, List.nil_append]
    refine (a3.append_left F1).trans ?_
    rw [← List.append_assoc, ← List.append_assoc]
    exact List.perm_append_comm.append_right Fb
  | [], _ :: _, _, h => h.elim
  | _ :: _, [], _, h => h.elim
theorem ArgsOk.len {w : World} {S : Nat → Prop} : ∀ {vs : List Value} {xs : List Arg} {F : List Nat}, ArgsOk w S vs xs F → vs.length = xs.length
  | [], [], _, _ => rfl
  | _ :: _, _ :: _, _, ⟨_, _, _, h, _⟩ => by simp [h.len]
  | [], _ :: _, _, h => h.elim
  | _ :: _, [], _, h => h.elim

theorem tmpW_get : ∀ {xs : List Arg} {al : List AV} {i : Nat} {σ : St} {t : Nat}, xs.length = al.length → (app σ (tmpW i xs al)).av t = match xs[t - i]?, al[t - i]? with | some x, some a => if i ≤ t then argV t x a else σ.av t | _, _ => σ.av t
  | [], [], i, σ, t, _ => by simp [tmpW, app]
  | [], _ :: _, _, _, _, h => by simp at h
  | _ :: _, [], _, _, _, h => by simp at h
  | x :: xs, a :: al, i, σ, t, h => by
    rw [tmpW, app_cons, tmpW_get (by simpa using h)]
    by_cases h1 : i + 1 ≤ t
    · obtain ⟨m, hm⟩ : ∃ m, t - i = m + 1 := ⟨t - i - 1, by omega⟩
      rw [hm, show t - (i + 1) = m from by omega]
      have h2 : i ≤ t := by omega
      have h3 : t ≠ i := by omega
      simp only [List.getElem?_cons_succ, h1, h2, if_true, av_tmp, h3, if_false]
    · by_cases h2 : t = i
      · subst h2
        rw [Nat.sub_self]
        simp only [List.getElem?_cons_zero, Nat.le_refl, if_true, h1, if_false, av_tmp]
        split <;> rfl
      · have h3 : ¬ i ≤ t := by omega
        simp only [if_neg h1, if_neg h3, av_tmp, if_neg h2]
        split <;> split <;> rfl
theorem tmpW_same : ∀ {xs : List Arg} {al : List AV} {i : Nat} {σ : St}, SameObj σ (app σ (tmpW i xs al))
  | [], _, _, _ => ⟨rfl, rfl, rfl, rfl⟩
  | _ :: _, [], _, _ => ⟨rfl, rfl, rfl, rfl⟩
  | x :: xs, a :: al, i, σ => by
    have h1 := SameObj.tmp σ i (.av (argV i x a))
    have h2 : SameObj (upd σ (.tmp i) (.av (argV i x a))) (app (upd σ (.tmp i) (.av (argV i x a))) (tmpW (i + 1) xs al)) := tmpW_same
    exact ⟨h2.gn.trans h1.gn, h2.ig.trans h1.ig, h2.kd.trans h1.kd, h2.ce.trans h1.ce⟩

theorem bxIx_spec : ∀ {xs : List Arg} {vs : List Value} {i j : Nat} {b : Nat} {p : Value}, vs.length = xs.length → ((bxIx i xs).map (·.1))[j]? = some b → (bxVs vs xs)[j]? = some p → i ≤ b ∧ vs[b - i]? = some p
  | [], [], i, j, b, p, _, h, _ => by simp [bxIx] at h
  | [], _ :: _, _, _, _, _, h, _, _ => by simp at h
  | _ :: _, [], _, _, _, _, h, _, _ => by simp at h
  | .im x :: xs, v :: vs, i, j, b, p, hl, h, k => by
    obtain ⟨h1, h2⟩ := bxIx_spec (i := i + 1) (by simpa using hl) h k
    obtain ⟨m, hm⟩ : ∃ m, b - i = m + 1 := ⟨b - i - 1, by omega⟩
    exact ⟨by omega, by rw [hm, show m = b - (i + 1) from by omega]; simpa using h2⟩
  | .ow x :: xs, v :: vs, i, j, b, p, hl, h, k => by
    obtain ⟨h1, h2⟩ := bxIx_spec (i := i + 1) (by simpa using hl) h k
    obtain ⟨m, hm⟩ : ∃ m, b - i = m + 1 := ⟨b - i - 1, by omega⟩
    exact ⟨by omega, by rw [hm, show m = b - (i + 1) from by omega]; simpa using h2⟩
  | .lent q :: xs, v :: vs, i, 0, b, p, hl, h, k => by
    simp [bxIx] at h
    simp [bxVs] at k
    subst h k
    exact ⟨Nat.le_refl _, by simp⟩
  | .lent q :: xs, v :: vs, i, j + 1, b, p, hl, h, k => by
    obtain ⟨h1, h2⟩ := bxIx_spec (i := i + 1) (j := j) (by simpa using hl) (by simpa [bxIx] using h) (by simpa [bxVs] using k)
    obtain ⟨m, hm⟩ : ∃ m, b - i = m + 1 := ⟨b - i - 1, by omega⟩
    exact ⟨by omega, by rw [hm, show m = b - (i + 1) from by omega]; simpa using h2⟩
  | .box t cs :: xs, v :: vs, i, 0, b, p, hl, h, k => by
    simp [bxIx] at h
    simp [bxVs] at k
    subst h k
    exact ⟨Nat.le_refl _, by simp⟩
  | .box t cs :: xs, v :: vs, i, j + 1, b, p, hl, h, k => by
    obtain ⟨h1, h2⟩ := bxIx_spec (i := i + 1) (j := j) (by simpa using hl) (by simpa [bxIx] using h) (by simpa [bxVs] using k)
    obtain ⟨m, hm⟩ : ∃ m, b - i = m + 1 := ⟨b - i - 1, by omega⟩
    exact ⟨by omega, by rw [hm, show m = b - (i + 1) from by omega]; simpa using h2⟩
theorem bxIx_ge : ∀ {xs : List Arg} {i b : Nat}, b ∈ (bxIx i xs).map (·.1) → i ≤ b
  | [], i, b, h => by simp [bxIx] at h
  | .im x :: xs, i, b, h => by have := bxIx_ge (xs := xs) (i := i + 1) h; omega
  | .ow x :: xs, i, b, h => by have := bxIx_ge (xs := xs) (i := i + 1) h; omega
  | .lent k :: xs, i, b, h => by
    rw [bxIx, List.map_cons] at h
    rcases List.mem_cons.1 h with h | h
    · exact Nat.le_of_eq h.symm
    · have := bxIx_ge (xs := xs) (i := i + 1) h; omega
  | .box t cs :: xs, i, b, h => by
    rw [bxIx, List.map_cons] at h
    rcases List.mem_cons.1 h with h | h
    · exact Nat.le_of_eq h.symm
    · have := bxIx_ge (xs := xs) (i := i + 1) h; omega
theorem bxIx_nodup : ∀ {xs : List Arg} {i : Nat}, ((bxIx i xs).map (·.1)).Nodup
  | [], i => List.nodup_nil
  | .im x :: xs, i => bxIx_nodup (xs := xs) (i := i + 1)
  | .ow x :: xs, i => bxIx_nodup (xs := xs) (i := i + 1)
  | .lent k :: xs, i => by
    rw [bxIx, List.map_cons, List.nodup_cons]
    exact ⟨fun h => by have := bxIx_ge h; omega, bxIx_nodup⟩
  | .box t cs :: xs, i => by
    rw [bxIx, List.map_cons, List.nodup_cons]
    exact ⟨fun h => by have := bxIx_ge h; omega, bxIx_nodup⟩
def isLent : Arg → Bool
  | .box _ _ => true
  | .lent _ => true
  | _ => false
theorem bxIx_mem : ∀ {xs : List Arg} {i o : Nat} {x : Arg}, xs[o]? = some x → isLent x = true → i + o ∈ (bxIx i xs).map (·.1)
  | [], i, o, x, h, _ => by simp at h
  | .box t' cs' :: xs, i, 0, x, h, _ => by simp [bxIx]
  | .lent k :: xs, i, 0, x, h, _ => by simp [bxIx]
  | .im y :: xs, i, 0, x, h, hl => by simp at h; subst h; cases hl
  | .ow y :: xs, i, 0, x, h, hl => by simp at h; subst h; cases hl
  | .im y :: xs, i, o + 1, x, h, hl => by have := bxIx_mem (xs := xs) (i := i + 1) (o := o) (x := x) (by simpa using h) hl; rw [bxIx, show i + (o + 1) = i + 1 + o from by omega]; exact this
  | .ow y :: xs, i, o + 1, x, h, hl => by have := bxIx_mem (xs := xs) (i := i + 1) (o := o) (x := x) (by simpa using h) hl; rw [bxIx, show i + (o + 1) = i + 1 + o from by omega]; exact this
  | .box t' cs' :: xs, i, o + 1, x, h, hl => by
    have := bxIx_mem (xs := xs) (i := i + 1) (o := o) (x := x) (by simpa using h) hl
    rw [bxIx, List.map_cons, show i + (o + 1) = i + 1 + o from by omega]
    exact List.mem_cons_of_mem _ this
  | .lent k :: xs, i, o + 1, x, h, hl => by
    have := bxIx_mem (xs := xs) (i := i + 1) (o := o) (x := x) (by simpa using h) hl
    rw [bxIx, List.map_cons, show i + (o + 1) = i + 1 + o from by omega]
    exact List.mem_cons_of_mem _ this

theorem lkWr_gn (σ : St) (b : Nat) (x : LK) : (app σ (lkWr b x)).gn = σ.gn := by
  cases x with
  | box t al =>
    show (app (upd σ (.knd b) (.kd (.box t al.length))) (celWr b 0 al)).gn = _
    rw [celWr_gn]
    exact funext fun o => gn_knd σ b o _
  | obj k => exact funext fun o => gn_knd σ b o _
theorem lkWr_av (σ : St) (b : Nat) (x : LK) (t : Nat) : (app σ (lkWr b x)).av t = σ.av t := by
  cases x with
  | box ty al =>
    show (app (upd σ (.knd b) (.kd (.box ty al.length))) (celWr b 0 al)).av t = _
    rw [celWr_av, av_knd]
  | obj k => exact av_knd σ b t _
theorem bxWr_gn : ∀ {bl : List (Nat × LK)} {σ : St}, (app σ (bxWr bl)).gn = σ.gn
  | [], _ => rfl
  | (b, x) :: bl, σ => by
    show (app σ (lkWr b x ++ bxWr bl)).gn = _
    rw [app_append, bxWr_gn, lkWr_gn]

theorem ArgsOk.ptr {w : World} {S : Nat → Prop} : ∀ {vs : List Value} {xs : List Arg} {F : List Nat}, ArgsOk w S vs xs F → ∀ {i : Nat} {v : Value} {t : TypeId} {cs : List Oc}, vs[i]? = some v → xs[i]? = some (.box t cs) → ∃ q, v = .pointer (some ⟨q, 0, none⟩)
  | [], [], _, _, i, _, _, _, h, _ => by simp at h
  | v :: vs, x :: xs, _, ⟨_, _, h1, h2, _⟩, 0, u, t, cs, h, k => by
    simp at h k
    subst h k
    obtain ⟨q, _, _, e, _⟩ := h1
    exact ⟨q, e⟩
  | v :: vs, x :: xs, _, ⟨_, _, h1, h2, _⟩, i + 1, u, t, cs, h, k => h2.ptr (by simpa using h) (by simpa using k)
  | [], _ :: _, _, h, _, _, _, _, _, _ => h.elim
  | _ :: _, [], _, h, _, _, _, _, _, _ => h.elim
theorem ArgsOk.one {w : World} {S : Nat → Prop} : ∀ {vs : List Value} {xs : List Arg} {F : List Nat}, ArgsOk w S vs xs F → ∀ {i : Nat} {v : Value} {k : Kd}, vs[i]? = some v → xs[i]? = some (.lent k) → v.oneCell' = true
  | [], [], _, _, i, _, _, h, _ => by simp at h
  | v :: vs, x :: xs, _, ⟨_, _, h1, h2, _⟩, 0, u, k', h, k => by
    simp at h k
    subst h k
    exact h1.1
  | v :: vs, x :: xs, _, ⟨_, _, h1, h2, _⟩, i + 1, u, k', h, k => h2.one (by simpa using h) (by simpa using k)
  | [], _ :: _, _, h, _, _, _, _, _ => h.elim
  | _ :: _, [], _, h, _, _, _, _, _ => h.elim

theorem st0_sat (w : World) (S : Nat → Prop) {vs : List Value} {xs : List Arg} {F : List Nat} (h : ArgsOk w S vs xs F) (hnd : F.Nodup) (hF : ∀ b ∈ F, ¬ S b ∧ b < w.heap.size) (hS : ∀ b, S b → b < w.heap.size) (n : Nat) (hn : vs.length ≤ n) (hok : entOk xs = true) :
    Sat ⟨w, S, n, fun b => b ∈ F, fun _ => False, lentL xs vs⟩ (st0 xs) { tmps := vs.toArray ++ Array.replicate (n - vs.toArray.size) undef, defers := [] } w := by
  have hlen := h.len
  obtain ⟨Ft, Fb, a1, a2, a3⟩ := args_split h
  have hnd' := a3.nodup_iff.1 hnd
  rw [List.nodup_append] at hnd'
  have hmem : ∀ b, b ∈ Ft ∨ b ∈ Fb → b ∈ F := fun b hb => a3.mem_iff.2 (List.mem_append.2 hb)
  unfold entOk at hok
  unfold st0 entW
  cases hbl : bxPl tau0 (bxIx 0 xs) (bxAs xs) with
  | none => rw [hbl] at hok; cases hok
  | some q =>
    obtain ⟨bl, ss'⟩ := q
    rw [hbl] at hok
    simp only at hok ⊢
    obtain ⟨hn1, hn2⟩ := ndB_spec hok
    have hn1' := hn1
    rw [List.map_append, List.nodup_append] at hn1
    have h0 : SatR ⟨w, S, n, fun b => b ∈ F, fun b => b ∈ F, lentL xs vs⟩ sig0 { tmps := vs.toArray ++ Array.replicate (n - vs.toArray.size) undef, defers := [] } w ⟨fun o => vs.getD o undef, fun _ => [], fun _ => 0⟩ := by
      refine ⟨Belo.refl _ _ w, fun o => trivial, fun o b ho => absurd rfl ho.lv, fun o p b ho => absurd rfl ho.lv, fun t => .im _ _ (.any _), fun o => rfl, fun b hb => ⟨⟨.inr hb, (hF b hb).2⟩, fun o ho => absurd rfl ho.lv⟩, fun o v hl _ => ?_, by simp; omega, rfl⟩
      have hl : lentL xs vs o = some v := hl
      unfold lentL at hl
      split at hl
      · show vs.getD o undef = v
        simp [List.getD, hl]
      · show vs.getD o undef = v
        simp [List.getD, hl]
      · cases hl
    have hSI : ∀ b, S b → Imm ⟨w, S, n, fun b => b ∈ F, fun b => b ∈ F, lentL xs vs⟩ sig0 ⟨fun o => vs.getD o undef, fun _ => [], fun _ => 0⟩ w b := fun b hb => ⟨.inl hb, hS b hb, fun o ho => absurd rfl ho.lv, fun hf => (hF b hf).1 hb⟩
    obtain ⟨ρ2, Z2, b1, b2, b3, b4, b5, b6⟩ := adopt_ocs tau0 (fun i => i) (l := xs.map topOc) (i := 0) h0 a1 hSI hnd'.1 (fun b hb => hmem b (.inl hb)) hn1.1 fun _ _ => ⟨rfl, rfl⟩
    obtain ⟨ρ3, Z3, qs, c1, c2, c3, c4, c5, c6, c7, c8, c9⟩ := adopt_bxs tau0 hbl b1 a2 (fun b hb => b5 b (hSI b hb)) hnd'.2.1 (fun b hb => b2 b (hmem b (.inr hb)) fun hf => hnd'.2.2 b hf b hb rfl) hn1.2.1 fun p hp => by
      obtain ⟨_, d2, d3, _⟩ := b6 p.1 fun hm => hn1.2.2 p.1 hm p.1 (List.mem_map.2 ⟨p, hp, rfl⟩) rfl
      exact ⟨d2, d3⟩
    have happ : app (app sig0 (insWr tau0 (ocsPl tau0 (fun i => i) 0 (xs.map topOc)).2)) (insWr tau0 ss') = app sig0 (insWr tau0 ((ocsPl tau0 (fun i => i) 0 (xs.map topOc)).2 ++ ss')) := by rw [insWr_append, app_append]
    rw [happ] at c1 c5 c7 c8 c9
    have hroot : ∀ b, b ∈ bl.map (·.1) → ρ3 b = vs.getD b undef := fun b hb => by
      have hne1 : b ∉ (ocsPl tau0 (fun i => i) 0 (xs.map topOc)).2.map (·.1) := fun hm => hn2 b (by rw [List.map_append]; exact List.mem_append_left _ hm) hb
      have hne2 : b ∉ ss'.map (·.1) := fun hm => hn2 b (by rw [List.map_append]; exact List.mem_append_right _ hm) hb
      rw [(c9 b hne2).1, (b6 b hne1).1]
    obtain ⟨Z4, e1, e2, e3⟩ := adopt_boxes c1 c5 c4 (fun q hq => (c3 q hq).1) (by rw [c6]; exact bxIx_nodup) fun j b p hb hp => by
      have hmb := List.mem_of_getElem? hb
      rw [c6] at hb
      obtain ⟨_, hp⟩ := bxIx_spec hlen hb hp
      rw [hroot b hmb]
      rw [Nat.sub_zero] at hp
      simp [List.getD, hp]
    obtain ⟨g1, _, g3, _⟩ := e1.stepZ (σ' := app (app sig0 (insWr tau0 ((ocsPl tau0 (fun i => i) 0 (xs.map topOc)).2 ++ ss'))) (bxWr bl)) (ρ' := ρ3) (w' := w) (fun _ => False) (fun _ => False) (fun _ => rfl) (fun _ _ => ⟨rfl, rfl, fun _ => rfl, rfl, rfl, rfl⟩) (fun _ hd => hd.elim) e1.igs (Belo.refl _ _ _) (fun _ _ hd => hd.elim) (fun _ _ _ hd => hd.elim)
      (fun _ hb => hb.elim) fun _ _ _ hd => hd.elim
    refine ⟨ρ3, ?_⟩
    rw [app_append, app_append]
    have lent : ∀ t (ht : t < vs.length), t ∈ bl.map (·.1) → (app (app sig0 (insWr tau0 ((ocsPl tau0 (fun i => i) 0 (xs.map topOc)).2 ++ ss'))) (bxWr bl)).gn t = 0 ∧ ρ3 t = vs[t] := fun t ht hb => by
      have hne1 : t ∉ (ocsPl tau0 (fun i => i) 0 (xs.map topOc)).2.map (·.1) := fun hm => hn2 t (by rw [List.map_append]; exact List.mem_append_left _ hm) hb
      have hne2 : t ∉ ss'.map (·.1) := fun hm => hn2 t (by rw [List.map_append]; exact List.mem_append_right _ hm) hb
      refine ⟨?_, by rw [hroot t hb]; simp [List.getD, ht]⟩
      rw [bxWr_gn, (c9 t hne2).2.1, (b6 t hne1).2.1]
      rfl
    refine g1.slots tmpW_same (fun t => ?_) (by simp; omega) rfl
    have hal : xs.length = (ocsPl tau0 (fun i => i) 0 (xs.map topOc)).1.length := by rw [← b3.1, hlen]
    rw [tmpW_get hal, Nat.sub_zero]
    by_cases ht : t < vs.length
    · have hx : t < xs.length := by omega
      have hv : (vs.toArray ++ Array.replicate (n - vs.toArray.size) undef).getD t undef = vs[t] := by
        simp only [Array.getD_eq_getD_getElem?]
        rw [Array.getElem?_append_left (by simpa using ht)]
        simp [ht]
      obtain ⟨al, hal'⟩ : ∃ al, (ocsPl tau0 (fun i => i) 0 (xs.map topOc)).1[t]? = some al := ⟨_, List.getElem?_eq_getElem (by omega)⟩
      have hr := g3 _ _ (e3 _ _ (c7 _ _ (b3.2 t vs[t] al (List.getElem?_eq_getElem ht) hal')))
      rw [hv, List.getElem?_eq_getElem hx, hal']
      simp only [Nat.zero_le, if_true]
      cases hxt : xs[t] with
      | im x => exact hr
      | ow k => exact hr
      | box ty cs =>
        have hb : t ∈ bl.map (·.1) := by
          rw [c6]
          have := bxIx_mem (xs := xs) (i := 0) (o := t) (x := .box ty cs) (by rw [List.getElem?_eq_getElem hx, hxt]) rfl
          rwa [Nat.zero_add] at this
        obtain ⟨hg, hvt⟩ := lent t ht hb
        obtain ⟨q, hq⟩ : ∃ q, vs[t] = .pointer (some ⟨q, 0, none⟩) := ArgsOk.ptr h (List.getElem?_eq_getElem ht) (by rw [List.getElem?_eq_getElem hx, hxt])
        exact .own _ _ _ _ (by rw [hq]; rfl) (by rw [hg]; exact Nat.le_refl _) fun _ => ⟨q, hvt.trans hq, hq⟩
      | lent k =>
        have hb : t ∈ bl.map (·.1) := by
          rw [c6]
          have := bxIx_mem (xs := xs) (i := 0) (o := t) (x := .lent k) (by rw [List.getElem?_eq_getElem hx, hxt]) rfl
          rwa [Nat.zero_add] at this
        obtain ⟨hg, hvt⟩ := lent t ht hb
        exact .osl _ _ _ (ArgsOk.one h (List.getElem?_eq_getElem ht) (by rw [List.getElem?_eq_getElem hx, hxt])) (by rw [hg]; exact Nat.le_refl _) fun _ => hvt.symm
    · rw [List.getElem?_eq_none (by omega)]
      have e0 : (app (app sig0 (insWr tau0 ((ocsPl tau0 (fun i => i) 0 (xs.map topOc)).2 ++ ss'))) (bxWr bl)).av t = .im .any := by
        have k1 : ∀ (bl : List (Nat × LK)) (σ : St), (app σ (bxWr bl)).av t = σ.av t := by
          intro bl
          induction bl with
          | nil => intro σ; rfl
          | cons x bl ih =>
            intro σ
            obtain ⟨b, x⟩ := x
            show (app σ (lkWr b x ++ bxWr bl)).av t = _
            rw [app_append, ih, lkWr_av]
        have k2 : ∀ (l : List (Nat × Kd)) (σ : St), (app σ (insWr tau0 l)).av t = σ.av t := by
          intro l
          induction l with
          | nil => intro σ; rfl
          | cons p l ih =>
            intro σ
            rw [insWr, app_append, ih]
            exact (mkK_eqs σ tau0 p.1 p.2).2.2.2.1 t
        rw [k1, k2]
        rfl
      simp only
      rw [e0]
      exact .im _ _ (.any _)

theorem run_enter {f : FuncId} {fn : Func} {c : Code} (hf : P.funcs[f]? = some fn) (hname : (fn.name == "runtime.NumGoroutine") = false) (hb : fn.body = some c) (args : Array Value) (w : World) : (callFunc f args).run P w = .ok (.enter f args) w := by
  have h1 : fn.name ≠ "runtime.NumGoroutine" := by simpa using hname
  simp [callFunc, hf, h1, hb]

/-- A function whose code reads so has the contract. -/
theorem sp_of_code (hm : P.follows .mixedOrders = true) {C : FuncId → List Arg → Rs → Prop} (hC : ∀ g xs r, C g xs r → Sp P g xs r) {own : List Nat} {f : FuncId} {fn : Func} {c : Code} (hf : P.funcs[f]? = some fn) (hname : (fn.name == "runtime.NumGoroutine") = false) (hb : fn.body = some c)
    {xs : List Arg} {r : Rs} (hn : xs.length ≤ fn.ntmps) (hok : entOk xs = true) (h : ∀ w S vs F, ArgsOk w S vs xs F → aCode P C fn.ntmps own c (retK P fn.results.toList xs r) (st0 xs)) : Sp P f xs r := by
  refine ⟨fun args w => run_enter hf hname hb args w, fun w S vs F hS hrep hnd hF => ?_⟩
  have hlen := hrep.len
  refine calls_of_wp hf hb (aCode_ok (B := ⟨w, S, fn.ntmps, fun b => b ∈ F, fun _ => False, lentL xs vs⟩) hm hC c _ _ (h w S vs F hrep) _ _ (st0_sat w S hrep hnd hF hS fn.ntmps (by rw [hlen]; exact hn) hok) _ fun e σ' a' w' hk hs' => ?_)
  have fin : RetOk P fn.results.toList xs σ' r → a'.defers = [] ∧ ∃ v, (results fn a'.tmps).run P w' = .ok v w' ∧ ∃ (v' : Value) (F' : List Nat), Ending.returned v = .returned v' ∧ Belo (fun b => b ∈ F) w.heap.size w w' ∧
      ResOk w' (fun b => (S b ∨ w.heap.size ≤ b ∨ b ∈ F) ∧ b < w'.heap.size ∧ b ∉ F') v' (bxVs vs xs) r F' ∧ F'.Nodup ∧ ∀ b ∈ F', (w.heap.size ≤ b ∨ b ∈ F) ∧ b < w'.heap.size := fun hk => by
    obtain ⟨v, F', hv, hres, h1, h2⟩ := results_ok (vs0 := vs) hk hs' hlen fun j v hv => hv
    obtain ⟨ρ, hs'⟩ := hs'
    exact ⟨hs'.dfr, v, hv, v, F', rfl, hs'.bel, hres, h1, h2⟩
  cases e with
  | ret => exact fin hk
  | normal => exact fin hk
  | exit id => exact hk.elim
  | goto l => exact hk.elim
  | panic ch => exact hk.elim
  | outgrown => exact hk.elim
end

end Go.Proofs.YthahbiahlpcgeaaGreatDoor.Sym
