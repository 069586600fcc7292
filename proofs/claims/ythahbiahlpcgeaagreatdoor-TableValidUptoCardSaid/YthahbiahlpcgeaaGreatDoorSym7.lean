/-
  The plain reading's operations are the model's: what is given up; appends, literals, calls.
-/
import Derived.Test.YthahbiahlpcgeaaGreatDoorSym6
namespace Go.Proofs.YthahbiahlpcgeaaGreatDoor.Sym
open Go.RowKit

section
variable {P : Program} {B : Base} {o : Oper} {σ : St} {K : Fx → Prop}

theorem fwr_kd (bs : List (Nat × Nat)) : ∀ (σ : St) (o : Nat), (app σ (fwr bs)).kd o = if o ∈ bs.map (·.1) then .dead else σ.kd o := by
  induction bs with
  | nil => intro σ o; simp [fwr, app]
  | cons b bs ih =>
    intro σ o
    show (app (upd σ (.knd b.1) (.kd .dead)) (fwr bs)).kd o = _
    rw [ih, kd_knd, List.map_cons]
    by_cases h : o ∈ bs.map (·.1)
    · rw [if_pos h, if_pos (List.mem_cons_of_mem _ h)]
    · rw [if_neg h]
      by_cases e : o = b.1
      · rw [if_pos e, if_pos (by rw [e]; exact List.mem_cons_self)]
      · rw [if_neg e, if_neg (fun hm => by rcases List.mem_cons.1 hm with h1 | h1; exact e h1; exact h h1)]
theorem fwr_live {bs : List (Nat × Nat)} {o : Nat} (h : live (app σ (fwr bs)) o) : live σ o ∧ o ∉ bs.map (·.1) := by
  unfold live at h
  rw [fwr_kd] at h
  by_cases e : o ∈ bs.map (·.1)
  · rw [if_pos e] at h; exact absurd rfl h
  · rw [if_neg e] at h; exact ⟨h, e⟩
theorem fwr_gn (bs : List (Nat × Nat)) : ∀ (σ : St), (app σ (fwr bs)).gn = σ.gn := by
  induction bs with
  | nil => intro σ; rfl
  | cons b bs ih =>
    intro σ
    show (app (upd σ (.knd b.1) (.kd .dead)) (fwr bs)).gn = _
    rw [ih]
    exact funext fun t => gn_knd σ b.1 t _

theorem fwr_av (bs : List (Nat × Nat)) (t : Nat) : ∀ (σ : St), (app σ (fwr bs)).av t = σ.av t := by
  induction bs with
  | nil => intro σ; rfl
  | cons b bs ih => intro σ; show (app (upd σ (.knd b.1) (.kd .dead)) (fwr bs)).av t = _; rw [ih, av_knd]
theorem gok_mem : ∀ {bs : List (Nat × Nat)}, gok σ bs → ∀ p ∈ bs, σ.gn p.1 = p.2
  | (b, g) :: bs, h, p, hp => by
    rcases List.mem_cons.1 hp with rfl | hp
    · exact h.1
    · exact gok_mem h.2 p hp
theorem SideG.out {bs : List (Nat × Nat)} {A : Prop} (h : SideG σ bs A) : (∀ p ∈ bs, σ.gn p.1 = p.2) ∧ A := by
  unfold SideG at h
  split at h
  · exact ⟨fun p hp => by simp at hp, h⟩
  · exact ⟨gok_mem h.out.1, h.out.2⟩

theorem nz1_rep {w : World} {S : Nat → Prop} {v : Value} {x : IV} (h : RepI w S v x) : RepI w S v (nz1 x) := by
  unfold nz1
  split
  · cases h with
    | val _ => exact .emp _ _
  · exact .any _
  · exact h
theorem nz_rep {w : World} {S : Nat → Prop} {v : Value} {x : IV} (h : RepI w S v x) : RepI w S v (nz x) := by
  unfold nz
  split
  · rename_i cs
    cases h with
    | agg us _ hl h1' hr =>
      refine .agg us _ (by simpa using hl) h1' fun i u x hu hx => ?_
      simp only [List.getElem?_map] at hx
      cases hc : cs[i]? with
      | none => rw [hc] at hx; cases hx
      | some c =>
        rw [hc] at hx
        simp only [Option.map_some, Option.some.injEq] at hx
        rw [← hx]
        exact nz1_rep (hr i u c hu hc)
  · rename_i vs
    split
    case isFalse => exact .any _
    rename_i hall
    cases h with
    | val _ =>
      have := RepI.agg (w := w) (S := S) vs.toList (vs.toList.map fun v => nz1 (.val v)) (by simp) (fun u hu => List.all_eq_true.1 hall u hu) fun i u x hu hx => by
        simp only [List.getElem?_map, hu, Option.map_some, Option.some.injEq] at hx
        rw [← hx]
        exact nz1_rep (.val _)
      simpa using this
  · exact nz1_rep h

theorem fwr_owns {ρ : Ly} {bs : List (Nat × Nat)} {o q : Nat} (h : Owns (app σ (fwr bs)) ρ o q) : Owns σ ρ o q ∧ o ∉ bs.map (·.1) := by
  have hl := (fwr_live h.lv).2
  unfold Owns at h ⊢
  rw [fwr_kd, if_neg hl] at h
  exact ⟨h, hl⟩
theorem kill_blk {a : Act} {w : World} {ρ : Ly} (h : SatR B σ a w ρ) {b q : Nat} {bs : List (Nat × Nat)} (hb : Owns σ ρ b q) (hm : b ∈ bs.map (·.1)) : Imm B (app σ (fwr bs)) ρ w q := by
  have hq := h.own b q hb
  refine ⟨.inr hq.1, hq.2, fun o ho => ?_, fun hz => (h.res q hz).2 b hb⟩
  obtain ⟨h1, h2⟩ := fwr_owns ho
  have := h.dis o b q h1 hb
  subst this
  exact h2 hm

/-- A row that nobody turns any more. -/
theorem RowOk.repI {w w' : World} {S S' : Nat → Prop} {v : Value} {e : TypeId} {k : Nat} {es : List (List IV)} (h : RowOk w S v e k es) (hb : ∀ b, blkOf v = some b → S' b ∧ w'.heap[b]? = w.heap[b]?) (hI : ∀ u x, RepI w S u x → RepI w' S' u x) : RepI w' S' v (.sl es) := by
  obtain ⟨us, hk0, hkk, hsm, hown0, hlen, h1c, hr⟩ := h
  have hown := own_row_same hown0 fun b h => (hb b h).2
  rcases hown.2 with ⟨e1, e2⟩ | ⟨q, cap, cur, e1, _, _, hcap, _⟩
  · have : es = [] := List.eq_nil_of_length_eq_zero e2
    subst this
    rw [e1]
    exact .emp _ _
  · have hc := hown.cells (g := q) (by rw [e1]; rfl)
    have hS := (hb q (by rw [e1]; rfl)).1
    rw [e1]
    refine .sl q 0 cap k _ es us rfl hkk hcap hsm hS hlen h1c (fun i u hu => ?_) fun i u x hu hx => hI _ _ (hr i u x hu hx)
    have := hc i u hu
    rwa [addr_add] at this
/-- A row of rows that nobody turns any more. -/
theorem GridOk.repI {w w' : World} {S S' : Nat → Prop} {v : Value} {inn : List Value} {e e' : TypeId} {k : Nat} {gs : List (List IV)} (h : GridOk w S v inn e e' k gs none) (hb : ∀ b, b ∈ fpv v inn → S' b ∧ w'.heap[b]? = w.heap[b]?) (hI : ∀ u x, RepI w S u x → RepI w' S' u x) : RepI w' S' v (.sl gs) := by
  obtain ⟨h0, h1, us, h2, h3, h4, h5⟩ := h
  have hus : us.length = gs.length := by have := h3.1; omega
  have hcell : ∀ (i : Nat) x, gs[i]? = some x → ∃ u es, us[i]? = some u ∧ x = [.sl es] ∧ RepI w' S' u (.sl es) := fun i x hx => by
    have hi : i < inn.length := by rw [h1]; exact (List.getElem?_eq_some_iff.1 hx).1
    obtain ⟨u, hu⟩ : ∃ u, inn[i]? = some u := ⟨_, List.getElem?_eq_getElem hi⟩
    rcases h5 i u hu with ⟨h6, _⟩ | ⟨h6, es, h7, h8⟩
    · cases h6
    · rw [hx] at h7
      injection h7 with h7
      exact ⟨u, es, h6, h7, h8.repI (fun b hb' => hb b (List.mem_filterMap.2 ⟨u, List.mem_cons_of_mem _ (List.mem_of_getElem? hu), hb'⟩)) hI⟩
  have hkk : ∀ x ∈ gs, x.length = 1 := fun x hx => by
    obtain ⟨i, hi⟩ := List.getElem?_of_mem hx
    obtain ⟨u, es, _, rfl, _⟩ := hcell i x hi
    rfl
  have hfl := flat_length hkk
  have hown := own_row_same h3 fun b hb' => (hb b (by simp [fpv, hb'])).2
  rcases hown.2 with ⟨e1, e2⟩ | ⟨q, cap, cur, e1, _, _, hcap, _⟩
  · have : gs = [] := List.eq_nil_of_length_eq_zero e2
    subst this
    rw [e1]
    exact .emp _ _
  · have hc := hown.cells (g := q) (by rw [e1]; rfl)
    have hS := (hb q (by simp [fpv, e1, blkOf])).1
    rw [e1]
    refine .sl q 0 cap 1 _ gs us rfl hkk hcap h2 hS (by omega) h4 (fun i u hu => ?_) fun i u x hu hx => ?_
    · have := hc i u hu
      rwa [addr_add] at this
    · have hi : i < gs.length := by rw [← hus]; exact (List.getElem?_eq_some_iff.1 hu).1
      obtain ⟨y, hy⟩ : ∃ y, gs[i]? = some y := ⟨_, List.getElem?_eq_getElem hi⟩
      obtain ⟨u', es, hu', rfl, hr⟩ := hcell i y hy
      rw [hu] at hu'
      injection hu' with hu'
      subst hu'
      have hf := flat_get hkk hy (j := 0) (by omega)
      rw [Nat.mul_one, Nat.add_zero, hx] at hf
      simp at hf
      rw [hf]
      exact hr

theorem fz1_ok {a : Act} {w : World} {ρ : Ly} (h : SatR B σ a w ρ) {v : Value} {c : AV} {x : IV} {bs bs' : List (Nat × Nat)} (hgk : ∀ p ∈ bs', σ.gn p.1 = p.2) (hv : RepA w (Imm B σ ρ w) ρ σ.gn v c) (e : fz1 σ c = some (x, bs)) (hs : ∀ b ∈ bs, b ∈ bs') : RepI w (Imm B (app σ (fwr bs')) ρ w) v x := by
  have hI := (h.kills bs').2
  unfold fz1 at e
  split at e
  · simp only [Option.some.injEq, Prod.mk.injEq] at e
    rw [← e.1]
    exact nz1_rep (hI _ _ hv.im_inv)
  · rename_i b g
    have key : ∀ {k : Kd}, σ.kd b = k → k ≠ .dead → (b, g) ∈ bs' → v = ρ b ∧ ∀ q, q ∈ fpk (ρ b) (ρ.inn b) k → Imm B (app σ (fwr bs')) ρ w q ∧ w.heap[q]? = w.heap[q]? := fun hk hd hmem => by
      have hg := hgk _ hmem
      have hmem : b ∈ bs'.map (·.1) := List.mem_map.2 ⟨_, hmem, rfl⟩
      refine ⟨?_, fun q hq => ⟨kill_blk h (b := b) (by unfold Owns; rw [hk]; exact hq) hmem, rfl⟩⟩
      cases hv with
      | osl _ _ _ _ _ hh => exact hh hg
    have ho := h.obs b
    split at e
    · rename_i t k es hk
      simp only [Option.some.injEq, Prod.mk.injEq] at e
      obtain ⟨rfl, rfl⟩ := e
      obtain ⟨h1, h2⟩ := key hk (fun z => by cases z) (hs (b, g) (by simp))
      rw [hk] at ho
      rw [h1]
      exact RowOk.repI ho (fun q hq => h2 q (by simp [fpk, hq])) hI
    · rename_i t t' k gs hk
      simp only [Option.some.injEq, Prod.mk.injEq] at e
      obtain ⟨rfl, rfl⟩ := e
      obtain ⟨h1, h2⟩ := key hk (fun z => by cases z) (hs (b, g) (by simp))
      rw [hk] at ho
      rw [h1]
      exact GridOk.repI ho (fun q hq => h2 q hq) hI
    · rename_i l hk
      simp only [Option.some.injEq, Prod.mk.injEq] at e
      obtain ⟨rfl, rfl⟩ := e
      exact .any _
    · cases e
  · cases e

theorem fzL_ok {a : Act} {w : World} {ρ : Ly} (h : SatR B σ a w ρ) {bs' : List (Nat × Nat)} (hgk : ∀ p ∈ bs', σ.gn p.1 = p.2) : ∀ {us : List Value} {cs : List AV} {xs : List IV} {bs : List (Nat × Nat)}, Reps w (Imm B σ ρ w) ρ σ.gn us cs → fzL σ cs = some (xs, bs) → (∀ b ∈ bs, b ∈ bs') → RepIs w (Imm B (app σ (fwr bs')) ρ w) us xs
  | [], [], xs, bs, _, e, _ => by
    simp only [fzL, Option.some.injEq, Prod.mk.injEq] at e
    rw [← e.1]
    exact ⟨rfl, fun i u x hu => by simp at hu⟩
  | u :: us, c :: cs, xs, bs, hr, e, hs => by
    simp only [fzL] at e
    split at e
    · rename_i x b1 xs1 bs1 h1 h2
      simp only [Option.some.injEq, Prod.mk.injEq] at e
      obtain ⟨rfl, rfl⟩ := e
      have r1 := fz1_ok h hgk (hr.2 0 u c rfl rfl) h1 fun b hb => hs b (List.mem_append_left _ hb)
      have r2 := fzL_ok h hgk (us := us) (cs := cs) ⟨by simpa using hr.1, fun i u c hu hc => hr.2 (i + 1) u c (by simpa using hu) (by simpa using hc)⟩ h2 fun b hb => hs b (List.mem_append_right _ hb)
      refine ⟨by simp [r2.1], fun i u' x' hu hx => ?_⟩
      cases i with
      | zero => simp at hu hx; rw [← hu, ← hx]; exact r1
      | succ i => exact r2.2 i u' x' (by simpa using hu) (by simpa using hx)
    · cases e
  | [], _ :: _, _, _, hr, _, _ => by have := hr.1; simp at this
  | _ :: _, [], _, _, hr, _, _ => by have := hr.1; simp at this

theorem boxCs_reps {w : World} {ρ : Ly} {us : List Value} {b : Nat} {t : TypeId} (hk : σ.kd b = .box t us.length) (h : ∀ (j : Nat) u, us[j]? = some u → RepA w (Imm B σ ρ w) ρ σ.gn u (σ.ce b j)) : Reps w (Imm B σ ρ w) ρ σ.gn us (boxCs σ b) := by
  have hl := boxLen_eq hk
  unfold boxCs
  rw [hl]
  refine ⟨by simp, fun i u c hu hc => ?_⟩
  have hi : i < us.length := (List.getElem?_eq_some_iff.1 hu).1
  simp only [List.getElem?_map, List.getElem?_range hi, Option.map_some, Option.some.injEq] at hc
  rw [← hc]
  exact h i u hu

theorem RepIs.drop {w : World} {S : Nat → Prop} {us : List Value} {xs : List IV} (h : RepIs w S us xs) (i : Nat) : RepIs w S (us.drop i) (xs.drop i) :=
  ⟨by simp [h.1], fun j u x hu hx => h.2 (i + j) u x (by rwa [List.getElem?_drop] at hu) (by rwa [List.getElem?_drop] at hx)⟩

theorem fz2_ok {a : Act} {w : World} {ρ : Ly} (h : SatR B σ a w ρ) {v : Value} {c : AV} {x : IV} {bs bs' : List (Nat × Nat)} (hgk : ∀ p ∈ bs', σ.gn p.1 = p.2) (hv : RepA w (Imm B σ ρ w) ρ σ.gn v c) (e : fz2 σ c = some (x, bs)) (hs : ∀ b ∈ bs, b ∈ bs') : RepI w (Imm B (app σ (fwr bs')) ρ w) v x := by
  have hI := (h.kills bs').2
  unfold fz2 at e
  split at e
  · simp only [Option.some.injEq, Prod.mk.injEq] at e
    rw [← e.1]
    exact nz_rep (hI _ _ hv.im_inv)
  · rename_i cs
    cases hf : fzL σ cs with
    | none => rw [hf] at e; cases e
    | some p =>
      rw [hf] at e
      simp only [Option.map_some, Option.some.injEq, Prod.mk.injEq] at e
      cases hv with
      | agg us _ hl h1c hr =>
        have r := fzL_ok h (bs' := bs') hgk ⟨hl, hr⟩ (xs := p.1) (bs := p.2) hf (by rw [e.2]; exact hs)
        rw [← e.1]
        exact .agg us _ r.1 h1c r.2
  · rename_i b g i
    split at e
    · rename_i t m hkd
      cases hf : fzL σ (boxCs σ b) with
      | none => rw [hf] at e; cases e
      | some p =>
        rw [hf] at e
        simp only [Option.map_some, Option.some.injEq, Prod.mk.injEq] at e
        obtain ⟨e1, e2⟩ := e
        have hmem := hs (b, g) (by rw [← e2]; simp)
        have hg := hgk _ hmem
        have hmem : b ∈ bs'.map (·.1) := List.mem_map.2 ⟨_, hmem, rfl⟩
        have hsub : ∀ b ∈ p.2, b ∈ bs' := fun c hc => hs c (by rw [← e2]; simp [hc])
        have hl : live σ b := by unfold live; rw [hkd]; exact fun z => by cases z
        obtain ⟨q, us, e3, e4, e5, e6, e7, e8, e9⟩ := box_read h hv hg hkd
        have r := (fzL_ok h (bs' := bs') hgk (boxCs_reps (by rw [e6]; exact hkd) e9) (xs := p.1) (bs := p.2) hf hsub).drop i
        have hb : blkOf (ρ b) = some q := by rw [e4]; rfl
        rw [← e1, e3]
        exact .ref q i (us.drop i) _ (kill_blk h (.root hl hb) hmem) r.1 (fun u hu => e7 u (List.mem_of_mem_drop hu)) (fun j u hu => e8 _ u (by rwa [List.getElem?_drop] at hu)) r.2
    · cases e
  · exact fz1_ok h hgk hv e hs

theorem fzM_ok {a : Act} {w : World} {ρ : Ly} (h : SatR B σ a w ρ) {bs' : List (Nat × Nat)} (hgk : ∀ p ∈ bs', σ.gn p.1 = p.2) : ∀ {us : List Value} {cs : List AV} {xs : List IV} {bs : List (Nat × Nat)}, Reps w (Imm B σ ρ w) ρ σ.gn us cs → fzM σ cs = some (xs, bs) → (∀ b ∈ bs, b ∈ bs') → RepIs w (Imm B (app σ (fwr bs')) ρ w) us xs
  | [], [], xs, bs, _, e, _ => by
    simp only [fzM, Option.some.injEq, Prod.mk.injEq] at e
    rw [← e.1]
    exact ⟨rfl, fun i u x hu => by simp at hu⟩
  | u :: us, c :: cs, xs, bs, hr, e, hs => by
    simp only [fzM] at e
    split at e
    · rename_i x b1 xs1 bs1 h1 h2
      simp only [Option.some.injEq, Prod.mk.injEq] at e
      obtain ⟨rfl, rfl⟩ := e
      have r1 := fz2_ok h hgk (hr.2 0 u c rfl rfl) h1 fun b hb => hs b (List.mem_append_left _ hb)
      have r2 := fzM_ok h hgk (us := us) (cs := cs) ⟨by simpa using hr.1, fun i u c hu hc => hr.2 (i + 1) u c (by simpa using hu) (by simpa using hc)⟩ h2 fun b hb => hs b (List.mem_append_right _ hb)
      refine ⟨by simp [r2.1], fun i u' x' hu hx => ?_⟩
      cases i with
      | zero => simp at hu hx; rw [← hu, ← hx]; exact r1
      | succ i => exact r2.2 i u' x' (by simpa using hu) (by simpa using hx)
    · cases e
  | [], _ :: _, _, _, hr, _, _ => by have := hr.1; simp at this
  | _ :: _, [], _, _, hr, _, _ => by have := hr.1; simp at this

theorem fz_ok {a : Act} {w : World} {ρ : Ly} (h : SatR B σ a w ρ) {v : Value} {c : AV} {x : IV} {bs bs' : List (Nat × Nat)} (hgk : ∀ p ∈ bs', σ.gn p.1 = p.2) (hv : RepA w (Imm B σ ρ w) ρ σ.gn v c) (e : fz σ c = some (x, bs)) (hs : ∀ b ∈ bs, b ∈ bs') : RepI w (Imm B (app σ (fwr bs')) ρ w) v x := by
  unfold fz at e
  split at e
  · rename_i f caps
    cases hf : fzM σ caps with
    | none => rw [hf] at e; cases e
    | some p =>
      rw [hf] at e
      simp only [Option.map_some, Option.some.injEq, Prod.mk.injEq] at e
      cases hv with
      | fn _ us _ hl hr =>
        have r := fzM_ok h (bs' := bs') hgk ⟨hl, hr⟩ (xs := p.1) (bs := p.2) hf (by rw [e.2]; exact hs)
        rw [← e.1]
        exact .fn f us _ r.1 r.2
  · exact fz2_ok h hgk hv e hs

theorem fzA_ok {a : Act} {w : World} {ρ : Ly} (h : SatR B σ a w ρ) {bs' : List (Nat × Nat)} (hgk : ∀ p ∈ bs', σ.gn p.1 = p.2) : ∀ {us : List Value} {cs : List AV} {xs : List IV} {bs : List (Nat × Nat)}, Reps w (Imm B σ ρ w) ρ σ.gn us cs → fzA σ cs = some (xs, bs) → (∀ b ∈ bs, b ∈ bs') → RepIs w (Imm B (app σ (fwr bs')) ρ w) us xs
  | [], [], xs, bs, _, e, _ => by
    simp only [fzA, Option.some.injEq, Prod.mk.injEq] at e
    rw [← e.1]
    exact ⟨rfl, fun i u x hu => by simp at hu⟩
  | u :: us, c :: cs, xs, bs, hr, e, hs => by
    simp only [fzA] at e
    split at e
    · rename_i x b1 xs1 bs1 h1 h2
      simp only [Option.some.injEq, Prod.mk.injEq] at e
      obtain ⟨rfl, rfl⟩ := e
      have r1 := fz_ok h hgk (hr.2 0 u c rfl rfl) h1 fun b hb => hs b (List.mem_append_left _ hb)
      have r2 := fzA_ok h hgk (us := us) (cs := cs) ⟨by simpa using hr.1, fun i u c hu hc => hr.2 (i + 1) u c (by simpa using hu) (by simpa using hc)⟩ h2 fun b hb => hs b (List.mem_append_right _ hb)
      refine ⟨by simp [r2.1], fun i u' x' hu hx => ?_⟩
      cases i with
      | zero => simp at hu hx; rw [← hu, ← hx]; exact r1
      | succ i => exact r2.2 i u' x' (by simpa using hu) (by simpa using hx)
    · cases e
  | [], _ :: _, _, _, hr, _, _ => by have := hr.1; simp at this
  | _ :: _, [], _, _, hr, _, _ => by have := hr.1; simp at this

/-- What freezing looks at decides it. -/
def SameOn (σ σ' : St) (bs : List (Nat × Nat)) : Prop := ∀ l ∈ frd σ bs, σ' l = σ l
theorem SameOn.left {σ' : St} {b c : List (Nat × Nat)} (h : SameOn σ σ' (b ++ c)) : SameOn σ σ' b := fun l hl => h l (by unfold frd at *; rw [List.flatMap_append]; exact List.mem_append_left _ hl)
theorem SameOn.right {σ' : St} {b c : List (Nat × Nat)} (h : SameOn σ σ' (b ++ c)) : SameOn σ σ' c := fun l hl => h l (by unfold frd at *; rw [List.flatMap_append]; exact List.mem_append_right _ hl)
theorem SameOn.head {σ' : St} {p : Nat × Nat} {c : List (Nat × Nat)} (h : SameOn σ σ' (p :: c)) : σ'.gn p.1 = σ.gn p.1 ∧ σ'.kd p.1 = σ.kd p.1 ∧ boxCs σ' p.1 = boxCs σ p.1 := by
  have h1 := gn_same (h (.gen p.1) (by simp [frd]))
  have h2 := kd_same (h (.knd p.1) (by simp [frd]))
  refine ⟨h1, h2, ?_⟩
  unfold boxCs
  rw [boxLen_same h2]
  refine List.map_congr_left fun i hi => ce_same (h (.cel p.1 i) ?_)
  simp only [frd, List.flatMap_cons, List.cons_append, List.mem_cons, List.mem_append]
  refine .inr (.inr (.inl ?_))
  unfold boxRd
  exact List.mem_map.2 ⟨i, hi, rfl⟩

theorem fz1_same {σ' : St} {c : AV} {x : IV} {bs : List (Nat × Nat)} (e : fz1 σ c = some (x, bs)) (h : SameOn σ σ' bs) : fz1 σ' c = some (x, bs) := by
  unfold fz1 at e ⊢
  split at e
  · exact e
  · rename_i b g
    split at e
    · rename_i t k es hk
      simp only [Option.some.injEq, Prod.mk.injEq] at e
      obtain ⟨rfl, rfl⟩ := e
      rw [show σ'.kd b = _ from (SameOn.head h).2.1.trans hk]
    · rename_i t t' k gs hk
      simp only [Option.some.injEq, Prod.mk.injEq] at e
      obtain ⟨rfl, rfl⟩ := e
      rw [show σ'.kd b = _ from (SameOn.head h).2.1.trans hk]
    · rename_i l hk
      simp only [Option.some.injEq, Prod.mk.injEq] at e
      obtain ⟨rfl, rfl⟩ := e
      rw [show σ'.kd b = _ from (SameOn.head h).2.1.trans hk]
    · cases e
  · cases e
theorem fzL_same {σ' : St} : ∀ {cs : List AV} {xs : List IV} {bs : List (Nat × Nat)}, fzL σ cs = some (xs, bs) → SameOn σ σ' bs → fzL σ' cs = some (xs, bs)
  | [], _, _, e, _ => e
  | c :: cs, xs, bs, e, h => by
    simp only [fzL] at e
    split at e
    · rename_i x b1 xs1 bs1 h1 h2
      simp only [Option.some.injEq, Prod.mk.injEq] at e
      obtain ⟨rfl, rfl⟩ := e
      simp only [fzL, fz1_same h1 h.left, fzL_same h2 h.right]
    · cases e
theorem fz2_same {σ' : St} {c : AV} {x : IV} {bs : List (Nat × Nat)} (e : fz2 σ c = some (x, bs)) (h : SameOn σ σ' bs) : fz2 σ' c = some (x, bs) := by
  unfold fz2 at e ⊢
  split at e
  · exact e
  · rename_i cs
    cases hf : fzL σ cs with
    | none => rw [hf] at e; cases e
    | some p =>
      rw [hf] at e
      simp only [Option.map_some, Option.some.injEq, Prod.mk.injEq] at e
      obtain ⟨rfl, rfl⟩ := e
      rw [fzL_same (xs := p.1) (bs := p.2) hf h]
      rfl
  · rename_i b g i
    split at e
    · rename_i t m hkd
      cases hf : fzL σ (boxCs σ b) with
      | none => rw [hf] at e; cases e
      | some p =>
        rw [hf] at e
        simp only [Option.map_some, Option.some.injEq, Prod.mk.injEq] at e
        obtain ⟨rfl, rfl⟩ := e
        have hh := SameOn.head h
        rw [show σ'.kd b = _ from hh.2.1.trans hkd]
        simp only
        rw [show boxCs σ' b = _ from hh.2.2, fzL_same (xs := p.1) (bs := p.2) hf (SameOn.right (b := [(b, g)]) h)]
        rfl
    · cases e
  · exact fz1_same e h
theorem fzM_same {σ' : St} : ∀ {cs : List AV} {xs : List IV} {bs : List (Nat × Nat)}, fzM σ cs = some (xs, bs) → SameOn σ σ' bs → fzM σ' cs = some (xs, bs)
  | [], _, _, e, _ => e
  | c :: cs, xs, bs, e, h => by
    simp only [fzM] at e
    split at e
    · rename_i x b1 xs1 bs1 h1 h2
      simp only [Option.some.injEq, Prod.mk.injEq] at e
      obtain ⟨rfl, rfl⟩ := e
      simp only [fzM, fz2_same h1 h.left, fzM_same h2 h.right]
    · cases e
theorem fz_same {σ' : St} {c : AV} {x : IV} {bs : List (Nat × Nat)} (e : fz σ c = some (x, bs)) (h : SameOn σ σ' bs) : fz σ' c = some (x, bs) := by
  unfold fz at e ⊢
  split at e
  · rename_i f caps
    cases hf : fzM σ caps with
    | none => rw [hf] at e; cases e
    | some p =>
      rw [hf] at e
      simp only [Option.map_some, Option.some.injEq, Prod.mk.injEq] at e
      obtain ⟨rfl, rfl⟩ := e
      rw [fzM_same (xs := p.1) (bs := p.2) hf h]
      rfl
  · exact fz2_same e h
theorem fzA_same {σ' : St} : ∀ {cs : List AV} {xs : List IV} {bs : List (Nat × Nat)}, fzA σ cs = some (xs, bs) → SameOn σ σ' bs → fzA σ' cs = some (xs, bs)
  | [], _, _, e, _ => e
  | c :: cs, xs, bs, e, h => by
    simp only [fzA] at e
    split at e
    · rename_i x b1 xs1 bs1 h1 h2
      simp only [Option.some.injEq, Prod.mk.injEq] at e
      obtain ⟨rfl, rfl⟩ := e
      simp only [fzA, fz_same h1 h.left, fzA_same h2 h.right]
    · cases e
/-- A slot reads in another way. -/
theorem SatR.reav {B : Base} {σ : St} {a : Act} {w : World} {ρ : Ly} (h : SatR B σ a w ρ) {t : Nat} {v : AV} (hv : RepA w (Imm B σ ρ w) ρ σ.gn (a.tmps.getD t undef) v) : SatR B (upd σ (.tmp t) (.av v)) a w ρ := by
  refine h.slots (SameObj.tmp σ t (.av v)) (fun s => ?_) h.siz h.dfr
  rw [av_tmp]
  by_cases e : s = t
  · rw [if_pos e, e]; exact hv
  · rw [if_neg e]; exact h.tms s
theorem SatR.reavs {B : Base} {a : Act} {w : World} {ρ : Ly} : ∀ (ws : List (Nat × IV)) {σ : St}, SatR B σ a w ρ → (∀ p ∈ ws, RepI w (Imm B σ ρ w) (a.tmps.getD p.1 undef) p.2) →
    SatR B (app σ (wrI ws)) a w ρ ∧ Imm B (app σ (wrI ws)) ρ w = Imm B σ ρ w ∧ (app σ (wrI ws)).gn = σ.gn
  | [], _, h, _ => ⟨h, rfl, rfl⟩
  | p :: ws, σ, h, hp => by
    have hs := SameObj.tmp σ p.1 (.av (.im p.2))
    have h1 := h.reav (t := p.1) (.im _ _ (hp p (List.mem_cons_self ..)))
    have hi : Imm B (upd σ (.tmp p.1) (.av (.im p.2))) ρ w = Imm B σ ρ w := Imm.same hs.kd _ _
    obtain ⟨h2, h3, h4⟩ := SatR.reavs ws h1 fun q hq => by rw [hi]; exact hp q (List.mem_cons_of_mem _ hq)
    exact ⟨h2, h3.trans hi, h4.trans hs.gn⟩

theorem capF_same {own : List Nat} {σ' : St} : ∀ {l : List Operand} {vs : List AV} {bs : List (Nat × Nat)} {ws : List (Nat × IV)}, capF σ own l = some (vs, bs, ws) → SameOn σ σ' bs → (∀ x ∈ l, evA σ' x = evA σ x) → capF σ' own l = some (vs, bs, ws)
  | [], _, _, _, h, _, _ => h
  | x :: l, vs, bs, ws, h, hs, he => by
    unfold capF at h ⊢
    split at h
    · rename_i vs0 bs0 ws0 h0
      have hrec : SameOn σ σ' bs0 → capF σ' own l = some (vs0, bs0, ws0) := fun hs0 => capF_same h0 hs0 fun y hy => he y (List.mem_cons_of_mem _ hy)
      have hx := he x (List.mem_cons_self ..)
      split at h
      · rename_i t
        have hx : σ'.av t = σ.av t := hx
        split at h
        · rename_i hown
          split at h
          · rename_i y b hy
            simp only [Option.some.injEq, Prod.mk.injEq] at h
            obtain ⟨rfl, rfl, rfl⟩ := h
            rw [hrec fun l' hl' => hs l' (by unfold frd at hl' ⊢; rw [List.flatMap_append]; exact List.mem_append_right _ hl')]
            simp only [hown]
            rw [hx, fz2_same hy fun l' hl' => hs l' (by unfold frd at hl' ⊢; rw [List.flatMap_append]; exact List.mem_append_left _ hl')]
          · cases h
        · rename_i hown
          simp only [Option.some.injEq, Prod.mk.injEq] at h
          obtain ⟨rfl, rfl, rfl⟩ := h
          rw [hrec hs]
          simp only [hown]
          rw [hx]
      · rename_i hne
        simp only [Option.some.injEq, Prod.mk.injEq] at h
        obtain ⟨rfl, rfl, rfl⟩ := h
        rw [hrec hs]
        cases x with
        | tmp t => exact absurd rfl (hne _)
        | _ => rfl
    · cases h

theorem capF_ok {own : List Nat} {a : Act} {w : World} {ρ : Ly} (h : SatR B σ a w ρ) {bs' : List (Nat × Nat)} (hgk : ∀ p ∈ bs', σ.gn p.1 = p.2) : ∀ {l : List Operand} {vs : List AV} {bs : List (Nat × Nat)} {ws : List (Nat × IV)}, capF σ own l = some (vs, bs, ws) → (∀ b ∈ bs, b ∈ bs') →
    Reps w (Imm B (app σ (fwr bs')) ρ w) ρ (app σ (fwr bs')).gn (l.map a.eval) vs ∧ ∀ p ∈ ws, RepI w (Imm B (app σ (fwr bs')) ρ w) (a.tmps.getD p.1 undef) p.2
  | [], _, _, _, e, _ => by
    simp only [capF, Option.some.injEq, Prod.mk.injEq] at e
    obtain ⟨rfl, rfl, rfl⟩ := e
    exact ⟨⟨rfl, fun i u y hu => by simp at hu⟩, fun p hp => by simp at hp⟩
  | x :: l, vs, bs, ws, e, hb => by
    unfold capF at e
    obtain ⟨hk, _⟩ := h.kills bs'
    have hgn : (app σ (fwr bs')).gn = σ.gn := fwr_gn bs' σ
    have cons : ∀ {u : Value} {y : AV} {us : List Value} {ys : List AV}, RepA w (Imm B (app σ (fwr bs')) ρ w) ρ (app σ (fwr bs')).gn u y → Reps w (Imm B (app σ (fwr bs')) ρ w) ρ (app σ (fwr bs')).gn us ys → Reps w (Imm B (app σ (fwr bs')) ρ w) ρ (app σ (fwr bs')).gn (u :: us) (y :: ys) := fun h1 h2 =>
      ⟨by simp [h2.1], fun i u' y' hu hy => by
        cases i with
        | zero => simp at hu hy; rw [← hu, ← hy]; exact h1
        | succ i => exact h2.2 i u' y' (by simpa using hu) (by simpa using hy)⟩
    split at e
    · rename_i vs0 bs0 ws0 h0
      split at e
      · rename_i t
        split at e
        · split at e
          · rename_i y b hy
            simp only [Option.some.injEq, Prod.mk.injEq] at e
            obtain ⟨rfl, rfl, rfl⟩ := e
            obtain ⟨r1, r2⟩ := capF_ok h hgk h0 fun p hp => hb p (List.mem_append_right _ hp)
            have h1 := fz2_ok h (bs' := bs') hgk (h.tms t) hy fun p hp => hb p (List.mem_append_left _ hp)
            exact ⟨cons (.im _ _ h1) r1, fun p hp => by
              rcases List.mem_cons.1 hp with rfl | hp
              · exact h1
              · exact r2 p hp⟩
          · cases e
        · simp only [Option.some.injEq, Prod.mk.injEq] at e
          obtain ⟨rfl, rfl, rfl⟩ := e
          obtain ⟨r1, r2⟩ := capF_ok h hgk h0 hb
          have := hk.tms t
          rw [fwr_av] at this
          exact ⟨cons this r1, r2⟩
      · rename_i hne
        simp only [Option.some.injEq, Prod.mk.injEq] at e
        obtain ⟨rfl, rfl, rfl⟩ := e
        obtain ⟨r1, r2⟩ := capF_ok h hgk h0 hb
        have := evA_ok hk x
        cases x with
        | tmp t => exact absurd rfl (hne _)
        | _ => exact ⟨cons this r1, r2⟩
    · cases e

theorem aMakeFunc_ok {own : List Nat} {fn : Fn} {first captured : Array Operand} (hop : o.op = .makeFunc fn first captured) (hd : dstOk B.n o = true) (h : aMakeFunc own o σ K fn first captured) : ∃ fx, K fx ∧ Eff P B o fx.rd σ fx.wr := by
  unfold aMakeFunc at h
  split at h
  · rename_i g
    split at h
    · rename_i vs bs ws hcap
      obtain ⟨h0, h⟩ := h.ok
      obtain ⟨hgk0, h⟩ := h.out
      refine ⟨_, h, fun σ' hag a w ⟨ρ, hs⟩ K' Q hK => ?_⟩
      have hf : first = #[] := by simpa using h0
      subst hf
      have hsame : SameOn σ σ' bs := agree_r hag
      have hgk : ∀ p ∈ bs, σ'.gn p.1 = p.2 := fun p hp => by
        rw [← hgk0 p hp]
        exact gn_same (hsame (.gen p.1) (by unfold frd; exact List.mem_flatMap.2 ⟨p, hp, by simp⟩))
      have hcap' := capF_same hcap hsame fun x hx => evA_same fun l hl => agree_l hag l (by unfold opdL; exact List.mem_flatMap.2 ⟨x, hx, hl⟩)
      obtain ⟨hsk, _⟩ := hs.kills bs
      obtain ⟨r1, r2⟩ := capF_ok hs (bs' := bs) hgk hcap' fun _ h => h
      obtain ⟨h5, h6, h7⟩ := hsk.reavs ws r2
      have run : (execOp a.eval o).run P w = .ok (.value (.func (.func g) #[] (captured.toList.map a.eval).toArray)) w := by
        simp [execOp, hop, Instr.makeFunc]; rw [← Array.toList_map]
      unfold Oper.wp
      rw [run, Oper.upon_value]
      refine hK _ _ ⟨ρ, ?_⟩
      rw [app_append, app_append]
      exact h5.put (fun t e => dst_some hd e) (.fn g _ _ (by simpa using r1.1) fun i u y hu hy => by rw [h6, h7]; exact r1.2 i u y hu hy)
    · exact h.elim
  · exact h.elim

theorem aBox_ok {own : List Nat} {t : TypeId} {x : Operand} (hop : o.op = .box t x) (hd : dstOk B.n o = true) (h : aBox own o σ K t x) : ∃ fx, K fx ∧ Eff P B o fx.rd σ fx.wr := by
  unfold aBox at h
  split at h
  · rename_i d cs hdst hcs
    have run : ∀ (a : Act) w, (execOp a.eval o).run P w = .ok (.value (.pointer (some ⟨w.heap.size, 0, none⟩))) (w.alloc (.cells (a.eval x).cells.toList.toArray t)) := fun a w => by
      simp [execOp, hop, Instr.box, newVar, newRow]
    split at h
    · split at h
      · rename_i xs bs hfz
        obtain ⟨hgk0, h⟩ := h.out
        refine ⟨_, h, fun σ' hag a w ⟨ρ, hs⟩ K' Q hK => ?_⟩
        have hsame : SameOn σ σ' bs := agree_r hag
        have hgk : ∀ p ∈ bs, σ'.gn p.1 = p.2 := fun p hp => by
          rw [← hgk0 p hp]
          exact gn_same (hsame (.gen p.1) (by unfold frd; exact List.mem_flatMap.2 ⟨p, hp, by simp⟩))
        have h1 := evA_ok hs x
        rw [evA_same (agree_l hag)] at h1
        have hr := cellsA_rep hcs h1
        have hone := cellsA_one hcs h1
        have hf := fzL_ok hs (bs' := bs) hgk hr (fzL_same hfz hsame) fun _ h => h
        obtain ⟨hsk, _⟩ := hs.kills bs
        have hbel : Below w.heap.size w (w.alloc (.cells (a.eval x).cells.toList.toArray t)) := (Below.refl _ _).alloc (Nat.le_refl _) _
        obtain ⟨hsw, hI⟩ := hsk.world hbel
        unfold Oper.wp
        rw [run, Oper.upon_value, hdst]
        refine hK _ _ ⟨ρ, ?_⟩
        rw [app_append]
        refine hsw.put (d := some d) (fun t e => by injection e with e; subst e; exact dst_some hd hdst) (.im _ _ (.ref _ _ _ _ ⟨.inr (.inl hs.bel.size), by simp, fun p hpb => ?_, fun hz => ?_⟩ hf.1 hone (fun i u hu => ?_) fun i u y hu hy => hI _ _ (hf.2 i u y hu hy)))
        · have := (hsk.own p _ hpb).2
          omega
        · have := (hsk.res _ hz).1.2
          omega
        · rw [Nat.zero_add]
          unfold World.cell?
          simp only [heap_alloc_new]
          simpa using hu
      · exact h.elim
    refine ⟨_, h, fun σ' hag a w ⟨ρ, hs⟩ K' Q hK => ?_⟩
    have h1 := evA_ok hs x
    rw [evA_same (agree_l hag)] at h1
    have hg := gn_same (agree_r hag (.gen d) (by simp))
    have hr := cellsA_rep hcs h1
    have hone := cellsA_one hcs h1
    unfold Oper.wp
    rw [run, Oper.upon_value, hdst]
    refine hK _ _ ⟨setρ ρ d (.pointer (some ⟨w.heap.size, 0, none⟩)), ?_⟩
    show SatR B (app σ' (mkObj σ d (.box t cs.length) ++ celWr d 0 cs ++ [(.tmp d, .av (.own d (σ.gn d + 1) 0))])) _ _ _
    rw [app_new hg, ← hg]
    exact newObj_own (hs.box d t hr hone) _ rfl (dst_some hd hdst)
  · exact h.elim

end

end Go.Proofs.YthahbiahlpcgeaaGreatDoor.Sym
