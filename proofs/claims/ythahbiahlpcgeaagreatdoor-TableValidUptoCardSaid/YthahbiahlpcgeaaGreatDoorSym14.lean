/-
  The plain reading: states that say less, where ways meet, loops.
-/
import Derived.Test.YthahbiahlpcgeaaGreatDoorSym13
namespace Go.Proofs.YthahbiahlpcgeaaGreatDoor.Sym
open Go.RowKit

def lookA : List (Nat × AV) → Nat → AV
  | [], _ => .im .any
  | p :: l, t => match Nat.beq t p.1 with | true => p.2 | false => lookA l t
def lookK : List (Nat × Kd) → Nat → Kd
  | [], _ => .dead
  | p :: l, t => match Nat.beq t p.1 with | true => p.2 | false => lookK l t
def lookC : List (Nat × Nat × AV) → Nat → Nat → AV
  | [], _, _ => .im .any
  | p :: l, o, i => match Nat.beq o p.1 && Nat.beq i p.2.1 with | true => p.2.2 | false => lookC l o i
/-- A box that was lent keeps its name, below 64. -/
def gnM : List (Nat × Kd) → Nat → Nat
  | [], _ => 1
  | p :: l, o => match Nat.beq o p.1 with | true => (match Nat.blt o 64 with | true => 0 | false => 1) | false => gnM l o
/-- A state that says only what is listed. -/
def mkSt (avs : List (Nat × AV)) (kds : List (Nat × Kd)) (cels : List (Nat × Nat × AV)) : St := fun l => match l with
  | .tmp t => .av (lookA avs t)
  | .gen o => .n (gnM kds o)
  | .ign _ => .n 0
  | .knd o => .kd (lookK kds o)
  | .cel o i => .av (lookC cels o i)

/-- A value reads as another, too. -/
inductive Sub : AV → AV → Prop
  | refl (a : AV) : Sub a a
  | any (a : AV) : Sub a (.im .any)
  | nz (x : IV) : Sub (.im x) (.im (Sym.nz x))
theorem RepA.less {w : World} {S : Nat → Prop} {ρ : Ly} {γ : Nat → Nat} {v : Value} {x y : AV} (h : RepA w S ρ γ v x) (s : Sub x y) : RepA w S ρ γ v y := by
  cases s with
  | refl => exact h
  | any => exact .im _ _ (.any _)
  | nz x => exact .im _ _ (nz_rep h.im_inv)
theorem Sub.rfl' {a b : AV} (h : a = b) : Sub a b := h ▸ .refl _
theorem Sub.nz' {x y : IV} (h : Sym.nz x = y) : Sub (.im x) (.im y) := h ▸ .nz x

/-- Where an object comes from: another name, or nil. -/
def srcOf : List (Nat × Option Nat) → Nat → Option (Option Nat)
  | [], _ => none
  | p :: l, b => match Nat.beq b p.1 with | true => some p.2 | false => srcOf l b
def srcs : List (Nat × Option Nat) → List Nat
  | [] => []
  | (_, some a) :: l => a :: srcs l
  | (_, none) :: l => srcs l

mutual
/-- A value reads as another one under new names of the objects. -/
inductive SubR (σ : St) (src : List (Nat × Option Nat)) (γ : Nat → Nat) : AV → AV → Prop
  | im {a : AV} {b : IV} (h : Sub a (.im b)) : SubR σ src γ a (.im b)
  | osl {a b g g' : Nat} (h : srcOf src b = some (some a)) (hg : σ.gn a = g) (hg' : γ b = g') : SubR σ src γ (.osl a g) (.osl b g')
  | osv {a b g g' k m : Nat} (h : srcOf src b = some (some a)) (hg : σ.gn a = g) (hg' : γ b = g') : SubR σ src γ (.osv a g k m) (.osv b g' k m)
  | made {b g' : Nat} (h : srcOf src b = some none) (hg' : γ b = g') : SubR σ src γ (.im (.val (.slice none 0 0))) (.osl b g')
  | own {a b g g' i : Nat} (h : srcOf src b = some (some a)) (hg : σ.gn a = g) (hg' : γ b = g') : SubR σ src γ (.own a g i) (.own b g' i)
  | sub {a b g i : Nat} (h : srcOf src b = some (some a)) (hg : σ.ig a = g) : SubR σ src γ (.sub a g i) (.sub b 0 i)
  | fn {f : FuncId} {cs ds : List AV} (h : SubRs σ src γ cs ds) : SubR σ src γ (.fn f cs) (.fn f ds)
  | agg {cs ds : List AV} (h : SubRs σ src γ cs ds) : SubR σ src γ (.agg cs) (.agg ds)
inductive SubRs (σ : St) (src : List (Nat × Option Nat)) (γ : Nat → Nat) : List AV → List AV → Prop
  | nil : SubRs σ src γ [] []
  | cons {c d : AV} {cs ds : List AV} (h : SubR σ src γ c d) (t : SubRs σ src γ cs ds) : SubRs σ src γ (c :: cs) (d :: ds)
end

section
variable {w : World} {S S' : Nat → Prop} {σ : St} {ρ ρ' : Ly} {src : List (Nat × Option Nat)} {γ : Nat → Nat}
mutual
theorem SubR.rep (hI : ∀ v x, RepI w S v x → RepI w S' v x) (hρ : ∀ b a, srcOf src b = some (some a) → ρ' b = ρ a ∧ ρ'.inn b = ρ.inn a) (hn : ∀ b, srcOf src b = some none → ρ' b = .slice none 0 0) (hig : (∀ o, ρ.ig o = σ.ig o) ∧ ∀ o, ρ'.ig o = 0) :
    ∀ {x y : AV}, SubR σ src γ x y → ∀ {v : Value}, RepA w S ρ σ.gn v x → RepA w S' ρ' γ v y
  | x, _, .im h, v, hr => .im _ _ (hI _ _ (hr.less h).im_inv)
  | _, _, .osl h hg hg', v, hr => by
    cases hr with
    | osl _ _ _ h1 h2 h3 => exact .osl _ _ _ h1 (Nat.le_of_eq hg'.symm) fun _ => by rw [(hρ _ _ h).1]; exact h3 hg
  | _, _, .osv h hg hg', v, hr => by
    cases hr with
    | osv _ _ _ _ _ h1 h2 h3 => exact .osv _ _ _ _ _ h1 (Nat.le_of_eq hg'.symm) fun _ => by rw [(hρ _ _ h).1]; exact h3 hg
  | _, _, .made h hg', v, hr => by
    cases hr.im_inv with
    | val _ => exact .osl _ _ _ rfl (Nat.le_of_eq hg'.symm) fun _ => (hn _ h).symm
  | _, _, .own h hg hg', v, hr => by
    cases hr with
    | own _ _ _ _ h1 h2 h3 => exact .own _ _ _ _ h1 (Nat.le_of_eq hg'.symm) fun _ => by rw [(hρ _ _ h).1]; exact h3 hg
  | _, _, .sub h hg, v, hr => by
    cases hr with
    | sub _ _ _ _ h1 h2 h3 => exact .sub _ _ _ _ h1 (Nat.zero_le _) fun _ => by rw [(hρ _ _ h).2]; exact h3 ((hig.1 _).trans hg)
  | _, _, .fn h, v, hr => by
    cases hr with
    | fn _ us _ hl h1 =>
      have := SubRs.rep hI hρ hn hig h ⟨hl, h1⟩
      exact .fn _ _ _ this.1 this.2
  | _, _, .agg h, v, hr => by
    cases hr with
    | agg us _ hl h0 h1 =>
      have := SubRs.rep hI hρ hn hig h ⟨hl, h1⟩
      exact .agg _ _ this.1 h0 this.2
theorem SubRs.rep (hI : ∀ v x, RepI w S v x → RepI w S' v x) (hρ : ∀ b a, srcOf src b = some (some a) → ρ' b = ρ a ∧ ρ'.inn b = ρ.inn a) (hn : ∀ b, srcOf src b = some none → ρ' b = .slice none 0 0) (hig : (∀ o, ρ.ig o = σ.ig o) ∧ ∀ o, ρ'.ig o = 0) :
    ∀ {xs ys : List AV}, SubRs σ src γ xs ys → ∀ {us : List Value}, Reps w S ρ σ.gn us xs → Reps w S' ρ' γ us ys
  | _, _, .nil, us, hr => ⟨hr.1, fun i u x hu hx => by simp at hx⟩
  | _, _, .cons h t, [], hr => by have := hr.1; simp at this
  | _, _, .cons h t, u :: us, hr => by
    have h1 := SubR.rep hI hρ hn hig h (hr.2 0 u _ rfl rfl)
    have h2 := SubRs.rep hI hρ hn hig t (us := us) ⟨by simpa using hr.1, fun i u x hu hx => hr.2 (i + 1) u x (by simpa using hu) (by simpa using hx)⟩
    refine ⟨by simp [h2.1], fun i v x hv hx => ?_⟩
    cases i with
    | zero => simp at hv hx; subst hv hx; exact h1
    | succ i => exact h2.2 i v x (by simpa using hv) (by simpa using hx)
end
end

def SubL (σ : St) (src : List (Nat × Option Nat)) (γ : Nat → Nat) : List (Nat × AV) → Prop
  | [] => True
  | p :: l => (∃ x, σ.av p.1 = x ∧ SubR σ src γ x p.2) ∧ SubL σ src γ l
/-- A lent box keeps its name. -/
def KeepOk (σ : St) (o a : Nat) : Prop := match Nat.blt o 64 with | true => a = o ∧ σ.gn a = 0 | false => True
def NilKd (o : Nat) (k : Kd) : Prop := Nat.blt o 64 = false ∧ ((∃ e m, k = .row e m [] ∧ 0 < m) ∨ ∃ e e' m, k = .grid e e' m [] none)
def KdL (σ : St) (src : List (Nat × Option Nat)) : List (Nat × Kd) → Prop
  | [] => True
  | p :: l => ((∃ a, srcOf src p.1 = some (some a) ∧ σ.kd a = p.2 ∧ KeepOk σ p.1 a) ∨ (srcOf src p.1 = some none ∧ NilKd p.1 p.2)) ∧ KdL σ src l
def CeL (σ : St) (src : List (Nat × Option Nat)) (γ : Nat → Nat) : List (Nat × Nat × AV) → Prop
  | [] => True
  | p :: l => (∃ a x, srcOf src p.1 = some (some a) ∧ σ.ce a p.2.1 = x ∧ SubR σ src γ x p.2.2) ∧ CeL σ src γ l

theorem lookA_sub {σ : St} {src : List (Nat × Option Nat)} {γ : Nat → Nat} : ∀ {avs : List (Nat × AV)}, SubL σ src γ avs → ∀ t, SubR σ src γ (σ.av t) (lookA avs t)
  | [], _, t => .im (.any _)
  | p :: l, h, t => by
    unfold lookA
    split
    · rename_i e
      have e := Nat.eq_of_beq_eq_true e
      subst e
      obtain ⟨x, h1, h2⟩ := h.1
      rw [h1]
      exact h2
    · exact lookA_sub h.2 t
theorem lookC_sub {σ : St} {src : List (Nat × Option Nat)} {γ : Nat → Nat} : ∀ {cels : List (Nat × Nat × AV)}, CeL σ src γ cels → ∀ b a i, srcOf src b = some (some a) → SubR σ src γ (σ.ce a i) (lookC cels b i)
  | [], _, b, a, i, _ => .im (.any _)
  | p :: l, h, b, a, i, hs => by
    unfold lookC
    split
    · rename_i e
      rw [Bool.and_eq_true] at e
      have e1 := Nat.eq_of_beq_eq_true e.1
      have e2 := Nat.eq_of_beq_eq_true e.2
      subst e1 e2
      obtain ⟨a', x, h1, h3, h2⟩ := h.1
      rw [hs] at h1
      injection h1 with h1
      injection h1 with h1
      subst h1
      rw [h3]
      exact h2
    · exact lookC_sub h.2 b a i hs
theorem lookK_sub {σ : St} {src : List (Nat × Option Nat)} : ∀ {kds : List (Nat × Kd)}, KdL σ src kds → ∀ o, lookK kds o ≠ .dead →
    (∃ a, srcOf src o = some (some a) ∧ σ.kd a = lookK kds o ∧ KeepOk σ o a) ∨ (srcOf src o = some none ∧ NilKd o (lookK kds o))
  | [], _, o, h => absurd rfl h
  | p :: l, h, o, hd => by
    unfold lookK at hd ⊢
    split
    · rename_i e
      have e := Nat.eq_of_beq_eq_true e
      subst e
      exact h.1
    · rename_i e
      rw [e] at hd
      exact lookK_sub h.2 o hd
theorem gnM_keep {σ : St} {src : List (Nat × Option Nat)} : ∀ {kds : List (Nat × Kd)}, KdL σ src kds → ∀ o, gnM kds o = 0 → srcOf src o = some (some o) ∧ σ.gn o = 0
  | [], _, o, h => by simp [gnM] at h
  | p :: l, h, o, hg => by
    unfold gnM at hg
    split at hg
    · rename_i e
      have e := Nat.eq_of_beq_eq_true e
      subst e
      split at hg
      · rename_i hb
        rcases h.1 with ⟨a, h1, _, h3⟩ | ⟨_, h3, _⟩
        · unfold KeepOk at h3
          rw [hb] at h3
          obtain ⟨rfl, h4⟩ := h3
          exact ⟨h1, h4⟩
        · rw [hb] at h3; cases h3
      · cases hg
    · exact gnM_keep h.2 o hg

theorem srcOf_mem : ∀ {src : List (Nat × Option Nat)} {b a : Nat}, srcOf src b = some (some a) → a ∈ srcs src
  | [], b, a, h => by cases h
  | (c, o) :: l, b, a, h => by
    unfold srcOf at h
    split at h
    · simp only [Option.some.injEq] at h
      subst h
      simp [srcs]
    · cases o with
      | none => exact srcOf_mem (src := l) h
      | some d => exact List.mem_cons_of_mem _ (srcOf_mem h)
theorem srcOf_inj : ∀ {src : List (Nat × Option Nat)}, (srcs src).Nodup → ∀ {b c a : Nat}, srcOf src b = some (some a) → srcOf src c = some (some a) → b = c
  | [], _, b, c, a, h, _ => by cases h
  | (d, o) :: l, hn, b, c, a, h, k => by
    unfold srcOf at h k
    cases o with
    | none =>
      split at h
      · cases h
      · split at k
        · cases k
        · exact srcOf_inj (src := l) hn h k
    | some q =>
      obtain ⟨h1, h2⟩ := List.nodup_cons.1 hn
      split at h
      · rename_i e1
        simp only [Option.some.injEq] at h
        subst h
        split at k
        · rename_i e2
          rw [Nat.eq_of_beq_eq_true e1, Nat.eq_of_beq_eq_true e2]
        · exact absurd (srcOf_mem k) h1
      · split at k
        · simp only [Option.some.injEq] at k
          subst k
          exact absurd (srcOf_mem h) h1
        · exact srcOf_inj h2 h k

theorem Ent.refl (σ : St) : Ent σ σ := fun _ _ _ h => h
theorem Ent.trans {σ σ' σ'' : St} (h : Ent σ σ') (k : Ent σ' σ'') : Ent σ σ'' := fun B a w hs => k B a w (h B a w hs)

/-- A state that says less, with new names. -/
theorem Ent.mk {σ : St} {avs : List (Nat × AV)} {kds : List (Nat × Kd)} {cels : List (Nat × Nat × AV)} (src : List (Nat × Option Nat)) (hn : ndB (srcs src) [] = true) (ha : SubL σ src (gnM kds) avs) (hk : KdL σ src kds) (hc : CeL σ src (gnM kds) cels) : Ent σ (mkSt avs kds cels) := by
  rintro B a w ⟨ρ, hs⟩
  have hnd := (ndB_spec hn).1
  let ρ' : Ly := ⟨fun b => match srcOf src b with | some (some a) => ρ a | _ => .slice none 0 0, fun b => match srcOf src b with | some (some a) => ρ.inn a | _ => [], fun _ => 0⟩
  have hρ : ∀ b a, srcOf src b = some (some a) → ρ' b = ρ a ∧ ρ'.inn b = ρ.inn a := fun b a h => by simp only [ρ', h]; exact ⟨trivial, trivial⟩
  have hρn : ∀ b, srcOf src b = some none → ρ' b = .slice none 0 0 := fun b h => by simp only [ρ', h]
  have hρi : ∀ b, srcOf src b = some none → ρ'.inn b = [] := fun b h => by simp only [ρ', h]
  have hkd : ∀ o, (mkSt avs kds cels).kd o = lookK kds o := fun _ => rfl
  have hown : ∀ o q, Owns (mkSt avs kds cels) ρ' o q → ∃ a, srcOf src o = some (some a) ∧ Owns σ ρ a q := fun o q hq => by
    rcases lookK_sub hk o hq.lv with ⟨a, h1, h2, _⟩ | ⟨h1, _, h2⟩
    · refine ⟨a, h1, ?_⟩
      unfold Owns at hq ⊢
      rw [hkd, (hρ o a h1).1, (hρ o a h1).2] at hq
      rw [h2]
      exact hq
    · unfold Owns at hq
      rw [hkd, hρn o h1, hρi o h1] at hq
      rcases h2 with ⟨e, m, h2, _⟩ | ⟨e, e', m, h2⟩
      · rw [h2] at hq; simp [fpk, blkOf] at hq
      · rw [h2] at hq; simp [fpk, fpv, blkOf] at hq
  have hS : ∀ b, Imm B σ ρ w b → Imm B (mkSt avs kds cels) ρ' w b := fun b hi => ⟨hi.1, hi.2.1, fun o hq => by
    obtain ⟨a, _, h2⟩ := hown o b hq
    exact hi.2.2.1 a h2, hi.2.2.2⟩
  have hI : ∀ v x, RepI w (Imm B σ ρ w) v x → RepI w (Imm B (mkSt avs kds cels) ρ' w) v x := fun v x hr => hr.mono hS fun _ _ _ h => h
  have hA : ∀ {x y : AV}, SubR σ src (gnM kds) x y → ∀ {v : Value}, RepA w (Imm B σ ρ w) ρ σ.gn v x → RepA w (Imm B (mkSt avs kds cels) ρ' w) ρ' (mkSt avs kds cels).gn v y := fun h _ hr => SubR.rep hI hρ hρn ⟨hs.igs, fun _ => rfl⟩ h hr
  refine ⟨ρ', hs.bel, fun o => ?_, fun o b ho => ?_, fun o p b h1 h2 => ?_, fun t => hA (lookA_sub ha t) (hs.tms t), fun _ => rfl, fun b hb => ⟨(hs.res b hb).1, fun o ho => ?_⟩, fun o v hl hg => ?_, hs.siz, hs.dfr⟩
  · rw [hkd]
    have nil : srcOf src o = some none → NilKd o (lookK kds o) → ObjOk B (mkSt avs kds cels) ρ' w o (lookK kds o) := fun h1 ⟨_, h2⟩ => by
      rcases h2 with ⟨e, m, h2, h3⟩ | ⟨e, e', m, h2⟩
      · rw [h2]
        show RowOk w _ (ρ' o) e m []
        rw [hρn o h1]
        exact ⟨[], h3, by simp, by simp, World.ownsRow_nil _ _ _ _, rfl, by simp, by simp⟩
      · rw [h2]
        show GridOk w _ (ρ' o) (ρ'.inn o) e e' m [] none
        rw [hρn o h1, hρi o h1]
        exact ⟨List.nodup_nil, rfl, [], Nat.zero_le _, World.ownsRow_nil _ _ _ _, by simp, fun i u hu => by simp at hu⟩
    have main : ∀ a, srcOf src o = some (some a) → σ.kd a = lookK kds o → ObjOk B (mkSt avs kds cels) ρ' w o (lookK kds o) := fun a h1 h2 => by
      have ho := hs.obs a
      rw [h2] at ho
      obtain ⟨e1, e2⟩ := hρ o a h1
      cases e : lookK kds o with
      | dead => trivial
      | box t m =>
        rw [e] at ho
        obtain ⟨b, us, h3, h4, h5, h6, h7⟩ := ho
        exact ⟨b, us, e1.trans h3, h4, h5, h6, fun i u hu => hA (lookC_sub hc o a i h1) (h7 i u hu)⟩
      | row t k es =>
        rw [e] at ho
        show HoldOk w (Imm B (mkSt avs kds cels) ρ' w) (ρ' o) (ρ'.inn o) (.row t k es)
        rw [e1, e2]
        exact HoldOk.mono (k := .row t k es) ho (fun _ _ => rfl) hI
      | grid t t' k gs q =>
        rw [e] at ho
        show HoldOk w (Imm B (mkSt avs kds cels) ρ' w) (ρ' o) (ρ'.inn o) (.grid t t' k gs q)
        rw [e1, e2]
        exact HoldOk.mono (k := .grid t t' k gs q) ho (fun _ _ => rfl) hI
      | map l =>
        rw [e] at ho
        show HoldOk w (Imm B (mkSt avs kds cels) ρ' w) (ρ' o) (ρ'.inn o) (.map l)
        rw [e1, e2]
        exact HoldOk.mono (k := .map l) ho (fun _ _ => rfl) hI
    by_cases hd : lookK kds o = .dead
    · rw [hd]; trivial
    · rcases lookK_sub hk o hd with ⟨a, h1, h2, _⟩ | ⟨h1, h2⟩
      · exact main a h1 h2
      · exact nil h1 h2
  · obtain ⟨a, _, h2⟩ := hown o b ho
    exact hs.own a b h2
  · obtain ⟨c, e1, b1⟩ := hown o b h1
    obtain ⟨d, e2, b2⟩ := hown p b h2
    have := hs.dis c d b b1 b2
    subst this
    exact srcOf_inj hnd e1 e2
  · obtain ⟨a, _, h2⟩ := hown o b ho
    exact (hs.res b hb).2 a h2
  · obtain ⟨h1, h2⟩ := gnM_keep hk o hg
    rw [(hρ o o h1).1]
    exact hs.rt o v hl h2

theorem SatR.say {B : Base} {σ : St} {a : Act} {w : World} {ρ : Ly} (h : SatR B σ a w ρ) (t : Nat) {v : AV} (hv : RepA w (Imm B σ ρ w) ρ σ.gn (a.tmps.getD t undef) v) : SatR B (upd σ (.tmp t) (.av v)) a w ρ := by
  refine h.slots (SameObj.tmp σ t (.av v)) (fun u => ?_) h.siz h.dfr
  rw [av_tmp]
  by_cases e : u = t
  · rw [if_pos e, e]; exact hv
  · rw [if_neg e]; exact h.tms u

/-- A slot's memory is given up. -/
theorem Ent.fz {σ : St} (t : Nat) {x : IV} {bs : List (Nat × Nat)} (h : fz σ (σ.av t) = some (x, bs)) (hg : gok σ bs) : Ent σ (upd (app σ (fwr bs)) (.tmp t) (.av (.im x))) := by
  rintro B a w ⟨ρ, hs⟩
  exact ⟨ρ, (hs.kills bs).1.say t (.im _ _ (fz_ok hs (bs' := bs) (gok_mem hg) (hs.tms t) h fun _ h => h))⟩

/-- A value that can lie in memory. -/
def Ok (x : IV) : Prop := ∃ w S v, RepI w S v x
/-- The same of the cells of a list. -/
def OkL (es : List (List IV)) : Prop := es.length ≤ 17592186044416 ∧ ∀ e ∈ es, ∀ x ∈ e, Ok x
theorem ok_flat {w : World} {S : Nat → Prop} {es : List (List IV)} {us : List Value} (hl : us.length = es.flatten.length) (hr : ∀ (i : Nat) u x, us[i]? = some u → es.flatten[i]? = some x → RepI w S u x) : ∀ e ∈ es, ∀ x ∈ e, Ok x := fun e he x hx => by
  have hm : x ∈ es.flatten := List.mem_flatten.2 ⟨e, he, hx⟩
  obtain ⟨i, hi⟩ := List.getElem?_of_mem hm
  have hlt : i < us.length := by rw [hl]; exact (List.getElem?_eq_some_iff.1 hi).1
  exact ⟨w, S, _, hr i _ x (List.getElem?_eq_getElem hlt) hi⟩
theorem Ok.sl {es : List (List IV)} (h : Ok (.sl es)) : OkL es := by
  obtain ⟨w, S, v, h⟩ := h
  cases h with
  | emp A c => exact ⟨Nat.zero_le _, by simp⟩
  | sl b o c k n _ us hn hk hc hs hS hl h1 hu hr => exact ⟨by omega, ok_flat hl hr⟩
theorem ok_all {w : World} {S : Nat → Prop} {cs : List IV} {us : List Value} (hl : us.length = cs.length) (hr : ∀ (i : Nat) u x, us[i]? = some u → cs[i]? = some x → RepI w S u x) : ∀ x ∈ cs, Ok x := fun x hx => by
  obtain ⟨i, hi⟩ := List.getElem?_of_mem hx
  have hlt : i < us.length := by rw [hl]; exact (List.getElem?_eq_some_iff.1 hi).1
  exact ⟨w, S, _, hr i _ x (List.getElem?_eq_getElem hlt) hi⟩
theorem Ok.agg {cs : List IV} (h : Ok (.agg cs)) : ∀ x ∈ cs, Ok x := by
  obtain ⟨w, S, v, h⟩ := h
  cases h with
  | agg us _ hl h1 hr => exact ok_all hl hr
theorem Ok.agg_at {cs : List IV} {x : IV} (h : Ok (.agg cs)) (i : Nat) (hx : cs[i]? = some x) : Ok x := h.agg x (List.mem_of_getElem? hx)
theorem Ok.ref {cs : List IV} (h : Ok (.ref cs)) : ∀ x ∈ cs, Ok x := by
  obtain ⟨w, S, v, h⟩ := h
  cases h with
  | ref b o us _ hS hl h1 hu hr => exact ok_all hl hr

theorem Ok.ref_at {cs : List IV} {x : IV} (h : Ok (.ref cs)) (i : Nat) (hx : cs[i]? = some x) : Ok x := h.ref x (List.mem_of_getElem? hx)
theorem Holds.true_ (σ : St) : Holds σ True := fun _ _ _ _ => trivial
theorem Holds.and {σ : St} {φ ψ : Prop} (h : Holds σ φ) (k : Holds σ ψ) : Holds σ (φ ∧ ψ) := fun B a w hs => ⟨h B a w hs, k B a w hs⟩
theorem Holds.av {σ : St} (t : Nat) {x : IV} (h : σ.av t = .im x) : Holds σ (Ok x) := by
  rintro B a w ⟨ρ, hs⟩
  have h1 := hs.tms t
  rw [h] at h1
  exact ⟨_, _, _, h1.im_inv⟩
theorem Holds.ce {σ : St} (o i : Nat) {t : TypeId} {m : Nat} {x : IV} (hk : σ.kd o = .box t m) (hi : i < m) (h : σ.ce o i = .im x) : Holds σ (Ok x) := by
  rintro B a w ⟨ρ, hs⟩
  have ho := hs.obs o
  rw [hk] at ho
  obtain ⟨b, us, h3, h5, h6, h7, h8⟩ := ho
  have := h8 i _ (List.getElem?_eq_getElem (by omega))
  rw [h] at this
  exact ⟨_, _, _, this.im_inv⟩
theorem Holds.kd {σ : St} (o : Nat) {t : TypeId} {k : Nat} {es : List (List IV)} (hk : σ.kd o = .row t k es) : Holds σ (OkL es) := by
  rintro B a w ⟨ρ, hs⟩
  have ho := hs.obs o
  rw [hk] at ho
  obtain ⟨us, h1, h2, h3, h4, h5, h6, h7⟩ := ho
  exact ⟨h3, ok_flat h5 h7⟩
theorem Holds.mono {σ : St} {φ ψ : Prop} (h : Holds σ φ) (k : φ → ψ) : Holds σ ψ := fun B a w hs => k (h B a w hs)

/-- Rounds until there is a result. -/
def iter {S R : Type} (step : S → Option (S ⊕ R)) : Nat → S → Option R
  | 0, _ => none
  | n + 1, s => match step s with
    | none => none
    | some (.inl s') => iter step n s'
    | some (.inr r) => some r

/-- What a round's outcome says of the rounds that are left. -/
def Fin {S R : Type} (step : S → Option (S ⊕ R)) (r : R) (k : Nat) : S ⊕ R → Prop
  | .inl s' => iter step k s' = some r
  | .inr r' => r' = r
/-- One more round. -/
def Nxt {S R : Type} (step : S → Option (S ⊕ R)) (r : R) (st : S → St) (k : Nat) (σ' : St) : Prop := ∃ m', m' < k + 1 ∧ ∃ s, iter step m' s = some r ∧ Ent σ' (st s)
theorem Nxt.mk {S R : Type} {step : S → Option (S ⊕ R)} {r : R} {st : S → St} {k : Nat} {σ' : St} (s : S) (h : Fin step r k (.inl s)) (e : Ent σ' (st s)) : Nxt step r st k σ' := ⟨k, Nat.lt_succ_self _, s, h, e⟩
attribute [irreducible] Nxt

/-- A loop's rule. -/
theorem Loops.iter {S R : Type} (step : S → Option (S ⊕ R)) (st : S → St) (φ : S → Prop) {body : (Exit → St → Prop) → St → Prop} {K : Exit → St → Prop} {σ : St} {n : Nat} {s0 : S} {r : R}
    (h : Sym.iter step n s0 = some r) (e0 : Ent σ (st s0)) (hφ : ∀ s, Holds (st s) (φ s))
    (hb : ∀ k s o, φ s → step s = some o → Fin step r k o → body (fun e σ' => match e with | .normal => Nxt step r st k σ' | e => K e σ') (st s)) : Loops body K σ := by
  unfold Loops
  refine ⟨fun m σ => ∃ s, Sym.iter step m s = some r ∧ Ent σ (st s), n, ⟨s0, h, e0⟩, ?_⟩
  rintro m σ ⟨s, hm, he⟩
  refine ⟨st s, φ s, he, hφ s, fun hp => ?_⟩
  cases m with
  | zero => cases hm
  | succ k =>
    unfold Sym.iter at hm
    split at hm
    · cases hm
    · rename_i s' hs
      have := hb k s _ hp hs hm
      unfold Nxt at this
      exact this
    · rename_i r' hs
      have := hb k s _ hp hs (by injection hm)
      unfold Nxt at this
      exact this

/-- The state that several ways lead to. -/
def Join (s σ' : St) : Prop := ∃ σ1, Ent σ' σ1 ∧ σ1 = s
theorem Join.mk {s σ' : St} (e : Ent σ' s) : Join s σ' := ⟨s, e, rfl⟩
attribute [irreducible] Join
theorem Cut.mk (s : St) (φ : Prop) {body : (St → Prop) → Prop} {rest : St → Prop} (hφ : Holds s φ) (h : body (Join s)) (k : φ → rest s) : Cut body rest := by
  unfold Cut
  unfold Join at h
  exact ⟨fun σ => σ = s, h, fun σ e => ⟨φ, by rw [e]; exact hφ, fun hp => by rw [e]; exact k hp⟩⟩

end Go.Proofs.YthahbiahlpcgeaaGreatDoor.Sym
