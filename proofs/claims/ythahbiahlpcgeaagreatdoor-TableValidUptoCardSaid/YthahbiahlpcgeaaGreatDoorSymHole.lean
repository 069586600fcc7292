/-
  The plain reading's operations are the model's: calls that do not look at all cells of the boxes that they are lent.
-/
import Derived.Test.YthahbiahlpcgeaaGreatDoorSymCall
namespace Go.Proofs.YthahbiahlpcgeaaGreatDoor.Sym
open Go.RowKit

/-- What a cell of a box holds. -/
def cellV (w : World) (v : Value) (j : Nat) : Value := match v with
  | .pointer (some a) => match w.heap[a.block]? with
    | some (.cells us _ _) => us.toList.getD j undef
    | _ => undef
  | _ => undef

theorem fillCs_ok {w : World} {S : Nat → Prop} {h : Nat → Bool} {V : Nat → Value} : ∀ {us : List Value} {cs : List Oc} {j : Nat} {F : List Nat}, (∀ k u, us[k]? = some u → V (j + k) = u ∧ u.oneCell' = true) → OcsOk w S us cs F → OcsOk w S us (fillCs h V j cs) F
  | [], [], _, _, _, hk => hk
  | [], _ :: _, _, _, _, hk => hk.elim
  | _ :: _, [], _, _, _, hk => hk.elim
  | u :: us, c :: cs, j, F, hv, ⟨F1, F2, h1, h2, h3⟩ => by
    refine ⟨F1, F2, ?_, fillCs_ok (fun k x hx => by rw [Nat.add_assoc, Nat.add_comm 1 k]; exact hv (k + 1) x (by simpa using hx)) h2, h3⟩
    unfold fillC
    split
    · split
      · rename_i hc
        cases c with
        | ow k => cases hc
        | im x =>
          obtain ⟨_, h1⟩ := h1
          obtain ⟨this, h1c⟩ := hv 0 u rfl
          rw [Nat.add_zero] at this
          rw [this]
          exact ⟨.ex _ h1c, h1⟩
      · exact h1
    · exact h1
theorem fillX_ok {w : World} {S : Nat → Prop} {own : List Nat} {d : Nat} {V : Nat → Nat → Value} : ∀ {vs : List Value} {xs : List Arg} {i : Nat} {F : List Nat}, (∀ k v j, vs[k]? = some v → V (i + k) j = cellV w v j) → ArgsOk w S vs xs F → ArgsOk w S vs (fillX own d V i xs) F
  | [], [], _, _, _, hk => hk
  | [], _ :: _, _, _, _, hk => hk.elim
  | _ :: _, [], _, _, _, hk => hk.elim
  | v :: vs, x :: xs, i, F, hv, ⟨F1, F2, h1, h2, h3⟩ => by
    refine ⟨F1, F2, ?_, fillX_ok (fun k x j hx => by rw [Nat.add_assoc, Nat.add_comm 1 k]; exact hv (k + 1) x j (by simpa using hx)) h2, h3⟩
    cases x with
    | im x => exact h1
    | ow k => exact h1
    | lent k => exact h1
    | box t cs =>
      obtain ⟨q, us, F', e1, e2, e3, e4, e5⟩ := h1
      refine ⟨q, us, F', e1, e2, e3, fillCs_ok (fun k u hu => ?_) e4, e5⟩
      have := hv 0 v (0 + k) rfl
      rw [Nat.add_zero] at this
      refine ⟨?_, e3 u (List.mem_of_getElem? hu)⟩
      rw [this, e1]
      unfold cellV
      simp only [e2]
      rw [Nat.zero_add, List.getD_eq_getElem?_getD, hu]
      rfl
theorem fillX_vs {own : List Nat} {d : Nat} {V : Nat → Nat → Value} : ∀ {vs : List Value} {xs : List Arg} {i : Nat}, bxVs vs (fillX own d V i xs) = bxVs vs xs
  | [], [], _ => rfl
  | [], _ :: _, _ => rfl
  | _ :: _, [], _ => rfl
  | v :: vs, x :: xs, i => by
    have ih := fillX_vs (own := own) (d := d) (V := V) (vs := vs) (xs := xs) (i := i + 1)
    cases x with
    | im x => exact ih
    | ow k => exact ih
    | lent k => show v :: _ = v :: _; rw [ih]
    | box t cs => show v :: _ = v :: _; rw [ih]

theorem fillCs_weak {w : World} {S : Nat → Prop} {h : Nat → Bool} {V : Nat → Value} : ∀ {us : List Value} {cs : List Oc} {j : Nat} {F : List Nat}, OcsOk w S us (fillCs h V j cs) F → OcsOk w S us cs F ∧ ∀ k c, cs[k]? = some c → h (j + k) = true → isAny c = true → us[k]? = some (V (j + k))
  | [], [], _, _, hk => ⟨hk, fun k c hc => by simp at hc⟩
  | [], _ :: _, _, _, hk => hk.elim
  | _ :: _, [], _, _, hk => hk.elim
  | u :: us, c :: cs, j, F, ⟨F1, F2, h1, h2, h3⟩ => by
    obtain ⟨r1, r2⟩ := fillCs_weak h2
    have key : OcOk w S u c F1 ∧ (h j = true → isAny c = true → u = V j) := by
      unfold fillC at h1
      split at h1
      · rename_i hh
        split at h1
        · rename_i hc
          obtain ⟨h4, h5⟩ := h1
          cases c with
          | ow k => cases hc
          | im x =>
            cases x with
            | any => cases h4; exact ⟨⟨.any _, h5⟩, fun _ _ => rfl⟩
            | _ => cases hc
        · rename_i hc
          exact ⟨h1, fun _ h6 => by rw [hc] at h6; cases h6⟩
      · rename_i hh
        exact ⟨h1, fun h6 _ => by rw [hh] at h6; cases h6⟩
    refine ⟨⟨F1, F2, key.1, r1, h3⟩, fun k c' hc hh ha => ?_⟩
    cases k with
    | zero =>
      simp at hc
      subst hc
      rw [key.2 hh ha]; rfl
    | succ k =>
      have := r2 k c' (by simpa using hc) (by rw [Nat.add_assoc, Nat.add_comm 1 k]; exact hh) ha
      rw [Nat.add_assoc, Nat.add_comm 1 k] at this
      simpa using this

/-- A hole of a box: where it is, and what it holds. -/
theorem fillY_weak {w : World} {S : Nat → Prop} {own : List Nat} {d : Nat} {V : Nat → Nat → Value} : ∀ {bx : List (Nat × Nat)} {ps : List Value} {ys : List Arg} {F : List Nat}, ArgsOk w S ps (fillY own d V bx ys) F → ArgsOk w S ps ys F ∧
    ∀ p ∈ hlY own d bx ys, ∃ (k i : Nat) (t : TypeId) (cs : List Oc) (q : Nat) (us : List Value), bx[k]? = some (p.1, i) ∧ ys[k]? = some (.box t cs) ∧ p.2 < cs.length ∧ ps[k]? = some (.pointer (some ⟨q, 0, none⟩)) ∧ w.heap[q]? = some (.cells us.toArray t (0, 0)) ∧ us[p.2]? = some (V i p.2)
  | [], ps, ys, F, hk => ⟨hk, fun p hp => by cases ys <;> simp [hlY] at hp⟩
  | _ :: _, ps, [], F, hk => ⟨hk, fun p hp => by simp [hlY] at hp⟩
  | (b, i) :: bx, [], y :: ys, F, hk => hk.elim
  | (b, i) :: bx, v :: ps, y :: ys, F, ⟨F1, F2, h1, h2, h3⟩ => by
    obtain ⟨r1, r2⟩ := fillY_weak h2
    have up : ∀ p ∈ hlY own d bx ys, ∃ (k i' : Nat) (t : TypeId) (cs : List Oc) (q : Nat) (us : List Value), ((b, i) :: bx)[k]? = some (p.1, i') ∧ (y :: ys)[k]? = some (.box t cs) ∧ p.2 < cs.length ∧ (v :: ps)[k]? = some (.pointer (some ⟨q, 0, none⟩)) ∧ w.heap[q]? = some (.cells us.toArray t (0, 0)) ∧ us[p.2]? = some (V i' p.2) := fun p hp => by
      obtain ⟨k, i', t, cs, q, us, a1, a2, a3⟩ := r2 p hp
      exact ⟨k + 1, i', t, cs, q, us, by simpa using a1, by simpa using a2, by simpa using a3⟩
    cases y with
    | im x => exact ⟨⟨F1, F2, h1, r1, h3⟩, up⟩
    | ow k => exact ⟨⟨F1, F2, h1, r1, h3⟩, up⟩
    | lent k => exact ⟨⟨F1, F2, h1, r1, h3⟩, up⟩
    | box t cs =>
      obtain ⟨q, us, F', e1, e2, e3, e4, e5⟩ := h1
      obtain ⟨e6, e7⟩ := fillCs_weak e4
      refine ⟨⟨F1, F2, ⟨q, us, F', e1, e2, e3, e6, e5⟩, r1, h3⟩, fun p hp => ?_⟩
      unfold hlY at hp
      rcases List.mem_append.1 hp with hp | hp
      · have hcell : ∀ (cs : List Oc) (j : Nat), p ∈ hlC own d i b j cs → ∃ m c, p = (b, j + m) ∧ cs[m]? = some c ∧ holeH own d i (j + m) = true ∧ isAny c = true := by
          intro cs
          induction cs with
          | nil => intro j hp; simp [hlC] at hp
          | cons c cs ih =>
            intro j hp
            have rec_ : p ∈ hlC own d i b (j + 1) cs → ∃ m c', p = (b, j + m) ∧ (c :: cs)[m]? = some c' ∧ holeH own d i (j + m) = true ∧ isAny c' = true := fun hp => by
              obtain ⟨m, c', a1, a2, a3, a4⟩ := ih (j + 1) hp
              exact ⟨m + 1, c', by rw [a1, Nat.add_assoc, Nat.add_comm 1 m], by simpa using a2, by rw [← Nat.add_comm 1 m, ← Nat.add_assoc]; exact a3, a4⟩
            unfold hlC at hp
            split at hp
            · rename_i hh ha
              rcases List.mem_cons.1 hp with rfl | hp
              · exact ⟨0, c, rfl, rfl, hh, ha⟩
              · exact rec_ hp
            · exact rec_ hp
        obtain ⟨m, c, rfl, a2, a3, a4⟩ := hcell cs 0 hp
        rw [Nat.zero_add] at a3 ⊢
        have a5 := e7 m c a2 (by rw [Nat.zero_add]; exact a3) a4
        rw [Nat.zero_add] at a5
        exact ⟨0, i, t, cs, q, us, rfl, rfl, (List.getElem?_eq_some_iff.1 a2).1, by rw [e1]; rfl, e2, a5⟩
      · exact up p hp

theorem memB_iff {b : Nat} : ∀ {l : List Nat}, memB b l = true ↔ b ∈ l
  | [] => by simp [memB]
  | x :: l => by
    unfold memB
    split
    · rename_i h
      simp [Nat.eq_of_beq_eq_true h]
    · rename_i h
      have hne : b ≠ x := fun e => by rw [e, Nat.beq_refl] at h; cases h
      rw [memB_iff]
      simp [hne]
theorem memC_iff {b j : Nat} : ∀ {l : List (Nat × Nat)}, memC b j l = true ↔ (b, j) ∈ l
  | [] => by simp [memC]
  | x :: l => by
    unfold memC
    split
    · rename_i h
      rw [Bool.and_eq_true] at h
      have h1 := Nat.eq_of_beq_eq_true h.1
      have h2 := Nat.eq_of_beq_eq_true h.2
      have : (b, j) = x := by rw [← h1, ← h2]
      simp [this]
    · rename_i h
      have hne : (b, j) ≠ x := fun e => by
        rw [← e] at h
        simp at h
      rw [memC_iff]
      simp [hne]

section
variable {P : Program} {B : Base} {o : Oper} {σ : St} {K : Fx → Prop}

theorem keepW_at (bs : List Nat) (hs : List (Nat × Nat)) (l : Loc) : ∀ (wr : List (Loc × Ct)) (σ : St), app σ (keepW bs hs wr) l = if keepL bs hs l = true then app σ wr l else σ l
  | [], σ => by show σ l = _; split <;> rfl
  | p :: wr, σ => by
    unfold keepW
    split
    · rename_i hp
      show app (upd σ p.1 p.2) (keepW bs hs wr) l = _
      rw [keepW_at bs hs l wr]
      by_cases hl : keepL bs hs l = true
      · rw [if_pos hl, if_pos hl]; rfl
      · rw [if_neg hl, if_neg hl, upd_at, if_neg (fun e => hl (by rw [e]; exact hp))]
    · rename_i hp
      rw [keepW_at bs hs l wr]
      by_cases hl : keepL bs hs l = true
      · rw [if_pos hl, if_pos hl]
        have hne : l ≠ p.1 := fun e => by rw [e, hp] at hl; cases hl
        -- a write elsewhere
        have : ∀ (wr : List (Loc × Ct)) (σ1 σ2 : St), (∀ x, x ≠ p.1 → σ1 x = σ2 x) → ∀ x, x ≠ p.1 → app σ1 wr x = app σ2 wr x := by
          intro wr
          induction wr with
          | nil => intro σ1 σ2 h x hx; exact h x hx
          | cons q wr ih =>
            intro σ1 σ2 h x hx
            refine ih (upd σ1 q.1 q.2) (upd σ2 q.1 q.2) (fun y hy => ?_) x hx
            rw [upd_at, upd_at]
            split
            · rfl
            · exact h y hy
        exact this wr σ (upd σ p.1 p.2) (fun x hx => by rw [upd_at, if_neg hx]) l hne
      · rw [if_neg hl, if_neg hl]

theorem argsG_box {own : List Nat} {d : Nat} {b i : Nat} : ∀ {cs : List AV} {i0 : Nat} {xs : List Arg} {bs gs : List (Nat × Nat)}, argsG σ own d i0 cs = some (xs, bs, gs) → (b, i) ∈ bxG own d i0 cs → objG σ b = none → ∃ k g, i = i0 + k ∧ cs[k]? = some (.own b g 0) ∧ (b, g) ∈ gs
  | [], i0, xs, bs, gs, e, hm, _ => by simp [bxG] at hm
  | c :: cs, i0, xs, bs, gs, e, hm, hn => by
    simp only [argsG] at e
    split at e
    · rename_i x b1 g1 xs1 bs1 gs1 h1 h2
      simp only [Option.some.injEq, Prod.mk.injEq] at e
      obtain ⟨rfl, rfl, rfl⟩ := e
      have up : (b, i) ∈ bxG own d (i0 + 1) cs → ∃ k g, i = i0 + k ∧ (c :: cs)[k]? = some (.own b g 0) ∧ (b, g) ∈ g1 ++ gs1 := fun hm => by
        obtain ⟨k, g, a1, a2, a3⟩ := argsG_box h2 hm hn
        exact ⟨k + 1, g, by omega, by simpa using a2, List.mem_append_right _ a3⟩
      unfold argG at h1
      unfold bxG at hm
      split at h1
      · rename_i ho
        rw [ho] at hm
        split at h1
        · rename_i b' g'
          split at h1
          · rename_i k hk
            simp only at hm
            split at hm
            · rcases List.mem_cons.1 hm with e | hm
              · simp only [Prod.mk.injEq] at e
                rw [← e.1, hn] at hk; cases hk
              · exact up hm
            · exact up hm
          · cases h1
        · rename_i b' g'
          split at h1
          · split at h1
            · simp only [Option.some.injEq, Prod.mk.injEq] at h1
              obtain ⟨rfl, rfl, rfl⟩ := h1
              simp only at hm
              rcases List.mem_cons.1 hm with e | hm
              · simp only [Prod.mk.injEq] at e
                obtain ⟨rfl, rfl⟩ := e
                exact ⟨0, g', rfl, rfl, by simp⟩
              · exact up hm
            · cases h1
          · cases h1
        · exact up hm
        · cases h1
      · rename_i ho
        rw [ho] at hm
        exact up hm
    · cases e

theorem bxPl_box {τ : St} : ∀ {bx : List (Nat × Nat)} {ys : List Arg} {bl : List (Nat × LK)} {ss : List (Nat × Kd)}, bxPl τ bx ys = some (bl, ss) → ∀ {k b i : Nat} {t : TypeId} {cs : List Oc}, bx[k]? = some (b, i) → ys[k]? = some (.box t cs) → ∃ al, bl[k]? = some (b, .box t al) ∧ al.length = cs.length
  | [], _, _, _, _, k, b, i, t, cs, h1, _ => by simp at h1
  | _ :: _, [], _, _, e, k, b, i, t, cs, h1, h2 => by simp at h2
  | (b0, i0) :: bx, y :: ys, bl, ss, e, k, b, i, t, cs, h1, h2 => by
    cases y with
    | im x => simp [bxPl] at e
    | ow x => simp [bxPl] at e
    | lent x =>
      unfold bxPl at e
      split at e
      · rename_i l s2 hfk e2
        simp only [Option.some.injEq, Prod.mk.injEq] at e
        obtain ⟨rfl, rfl⟩ := e
        cases k with
        | zero => simp at h2
        | succ k =>
          obtain ⟨al, a1, a2⟩ := bxPl_box e2 (k := k) (by simpa using h1) (by simpa using h2)
          exact ⟨al, by simpa using a1, a2⟩
      · cases e
    | box t0 cs0 =>
      unfold bxPl at e
      split at e
      · rename_i al s1 l s2 e1 e2
        simp only [Option.some.injEq, Prod.mk.injEq] at e
        obtain ⟨rfl, rfl⟩ := e
        cases k with
        | zero =>
          simp at h1 h2
          obtain ⟨rfl, rfl⟩ := h1
          obtain ⟨rfl, rfl⟩ := h2
          refine ⟨al, rfl, ?_⟩
          have : al = (ocsPl τ (cellNm τ b0 i0) 0 cs0).1 := by rw [e1]
          rw [this]
          have hlen : ∀ (f : Nat → Nat) (cs : List Oc) (j : Nat), (ocsPl τ f j cs).1.length = cs.length := by
            intro f cs
            induction cs with
            | nil => intro j; rfl
            | cons c cs ih => intro j; show (_ :: (ocsPl τ f (j + 1) cs).1).length = _; rw [List.length_cons, ih]; rfl
          exact hlen _ _ _
        | succ k =>
          obtain ⟨al', a1, a2⟩ := bxPl_box e2 (k := k) (by simpa using h1) (by simpa using h2)
          exact ⟨al', by simpa using a1, a2⟩
      · cases e

theorem sameBx_at : ∀ {bl : List (Nat × LK)}, sameBx σ bl = true → ∀ {b : Nat} {t : TypeId} {al : List AV}, (b, LK.box t al) ∈ bl → σ.kd b = .box t al.length
  | [], _, b, t, al, h => by simp at h
  | (b0, .obj k) :: bl, e, b, t, al, h => by
    rcases List.mem_cons.1 h with h | h
    · simp at h
    · exact sameBx_at (bl := bl) e h
  | (b0, .box t0 al0) :: bl, e, b, t, al, h => by
    unfold sameBx at e
    rw [Bool.and_eq_true] at e
    rcases List.mem_cons.1 h with h | h
    · simp only [Prod.mk.injEq, LK.box.injEq] at h
      obtain ⟨rfl, rfl, rfl⟩ := h
      have e1 := e.1
      split at e1
      · rename_i t' m hk
        rw [Bool.and_eq_true] at e1
        rw [hk, Nat.eq_of_beq_eq_true e1.1, Nat.eq_of_beq_eq_true e1.2]
      · cases e1
    · exact sameBx_at e.2 h
theorem bxN_mem : ∀ {bl : List (Nat × LK)} {b : Nat}, b ∈ bxN bl → ∃ t al, (b, LK.box t al) ∈ bl
  | [], b, h => by simp [bxN] at h
  | (b0, .obj k) :: bl, b, h => by
    obtain ⟨t, al, h⟩ := bxN_mem (bl := bl) h
    exact ⟨t, al, by simp [h]⟩
  | (b0, .box t al) :: bl, b, h => by
    have h : b ∈ b0 :: bxN bl := h
    rcases List.mem_cons.1 h with rfl | h
    · exact ⟨t, al, by simp⟩
    · obtain ⟨t, al, h⟩ := bxN_mem h
      exact ⟨t, al, by simp [h]⟩
theorem bxN_of : ∀ {bl : List (Nat × LK)} {b : Nat} {t : TypeId} {al : List AV}, (b, LK.box t al) ∈ bl → b ∈ bxN bl
  | [], b, t, al, h => by simp at h
  | (b0, .obj k) :: bl, b, t, al, h => by
    rcases List.mem_cons.1 h with h | h
    · simp at h
    · exact bxN_of (bl := bl) h
  | (b0, .box t0 al0) :: bl, b, t, al, h => by
    show b ∈ b0 :: bxN bl
    rcases List.mem_cons.1 h with h | h
    · simp only [Prod.mk.injEq] at h; simp [h.1]
    · simp [bxN_of h]

theorem bxWr_kd : ∀ {bl : List (Nat × LK)} {σ : St} {b : Nat} {t : TypeId} {al : List AV}, (bl.map (·.1)).Nodup → (b, LK.box t al) ∈ bl → (app σ (bxWr bl)).kd b = .box t al.length
  | [], σ, b, t, al, _, h => by simp at h
  | (b0, x) :: bl, σ, b, t, al, hn, h => by
    rw [List.map_cons, List.nodup_cons] at hn
    have happ : app σ (bxWr ((b0, x) :: bl)) = app (app σ (lkWr b0 x)) (bxWr bl) := by
      show app σ (lkWr b0 x ++ bxWr bl) = _
      rw [app_append]
    rw [happ]
    have other : ∀ (bl : List (Nat × LK)) (σ : St), b0 ∉ bl.map (·.1) → (app σ (bxWr bl)).kd b0 = σ.kd b0 := by
      intro bl
      induction bl with
      | nil => intro σ _; rfl
      | cons p bl ih =>
        intro σ hm
        rw [List.map_cons, List.mem_cons, not_or] at hm
        show (app σ (lkWr p.1 p.2 ++ bxWr bl)).kd b0 = _
        rw [app_append, ih _ hm.2]
        cases p.2 with
        | box t al =>
          show (app (upd σ (.knd p.1) (.kd (.box t al.length))) (celWr p.1 0 al)).kd b0 = _
          rw [celWr_kd, kd_knd, if_neg hm.1]
        | obj k =>
          show (upd σ (.knd p.1) (.kd k)).kd b0 = _
          rw [kd_knd, if_neg hm.1]
    rcases List.mem_cons.1 h with h | h
    · simp only [Prod.mk.injEq] at h
      obtain ⟨rfl, rfl⟩ := h
      rw [other bl _ hn.1]
      show (app (upd σ (.knd b) (.kd (.box t al.length))) (celWr b 0 al)).kd b = _
      rw [celWr_kd, kd_knd, if_pos rfl]
    · exact bxWr_kd hn.2 h

theorem aCallH_ok {C : FuncId → List Arg → Rs → Prop} (hC : ∀ g xs r, C g xs r → Sp P g xs r) {own : List Nat} {c : Call} {f : Operand} (hop : o.op = .call c) (hcal : c.callee = .value f) (hd : dstOk B.n o = true) (h : aCallH own o σ K C f c.args.toList) : ∃ fx, K fx ∧ Eff P B o fx.rd σ fx.wr := by
  unfold aCallH at h
  split at h
  · rename_i d g caps hdst hf
    split at h
    · rename_i xs bs gs hxs
      obtain ⟨hnd, h⟩ := h.ok
      obtain ⟨hnd1, hnd2⟩ := ndB_spec hnd
      obtain ⟨hgk0, tp, l, ys, hr, h⟩ := h.out
      have hCV := fun V => hC g _ _ (hr V)
      split at h
      · rename_i al ss bl ss' hpl hbl
        split at h
        · rename_i va hva
          obtain ⟨hnm, h⟩ := h.ok
          rw [Bool.and_eq_true] at hnm
          obtain ⟨hnm, hsame⟩ := hnm
          obtain ⟨hnm1, hnm2⟩ := ndB_spec hnm
          have hal : al = (ocsPl σ (resNm tp d) 0 l).1 := by rw [hpl]
          have hss : ss = (ocsPl σ (resNm tp d) 0 l).2 := by rw [hpl]
          subst hal hss
          have hbxn := ((bxG_sub hxs).nodup hnd1)
          have hdn : ∀ t, some d = some t → t < B.n := fun t e => by injection e with e; subst e; exact dst_some hd hdst
          refine ⟨_, h, fun σ' hag a w ⟨ρ, hs⟩ K' Q hK => ?_⟩
          have hag1 := agree_l (agree_l (agree_l hag))
          have hag2 := agree_r (agree_l (agree_l hag))
          have hag3 : SameOn σ σ' (bs ++ gs) := agree_r (agree_l hag)
          have hag4 := agree_r hag
          have hgk : ∀ p ∈ bs ++ gs, σ'.gn p.1 = p.2 := fun p hp => by
            rw [← hgk0 p hp]
            exact (hag3.mem hp).1
          obtain ⟨us, hfv, hur⟩ : ∃ us : List Value, a.eval f = .func (.func g) #[] us.toArray ∧ Reps w (Imm B σ' ρ w) ρ σ'.gn us caps := by
            have h1 := evA_ok hs f
            rw [evA_same hag1] at h1
            split at hf
            · rename_i g' caps' hev
              simp only [Option.some.injEq, Prod.mk.injEq] at hf
              obtain ⟨rfl, rfl⟩ := hf
              rw [hev] at h1
              have h1 := h1.im_inv
              generalize a.eval f = v at h1
              cases h1 with
              | fn _ us _ hl hr =>
                refine ⟨us, rfl, by simpa using hl, fun i u y hu hy => ?_⟩
                simp only [List.getElem?_map] at hy
                cases hc : caps'[i]? with
                | none => rw [hc] at hy; cases hy
                | some c =>
                  rw [hc] at hy
                  simp only [Option.map_some, Option.some.injEq] at hy
                  rw [← hy]
                  exact .im _ _ (hr i u c hu hc)
            · rename_i g' caps' hev
              simp only [Option.some.injEq, Prod.mk.injEq] at hf
              obtain ⟨rfl, rfl⟩ := hf
              rw [hev] at h1
              generalize a.eval f = v at h1
              cases h1 with
              | fn _ us _ hl hr => exact ⟨us, rfl, hl, hr⟩
            · cases hf
          have hargs := (evL_ok hs hag2).app hur
          have hfz := argsG_same hxs hag3.left hag3.right
          have hrep := argsG_ok hs (bs0 := bs) (fun p hp => hgk p (List.mem_append_left _ hp)) hargs hfz (fun _ h => h) fun p hp => hgk p (List.mem_append_right _ hp)
          obtain ⟨hbv, _⟩ := bxG_ok hs hargs hfz fun p hp => hgk p (List.mem_append_right _ hp)
          generalize hvs : c.args.toList.map a.eval ++ us = vs at *
          let V : Nat → Nat → Value := fun i j => cellV w (vs.getD i undef) j
          have hrepV := fillX_ok (own := own) (d := d) (V := V) (i := 0) (fun k v j hv => by
            show cellV w (vs.getD (0 + k) undef) j = _
            rw [Nat.zero_add, List.getD_eq_getElem?_getD, hv]; rfl) hrep
          obtain ⟨henter, hsp⟩ := hCV V
          have hcalls := hsp w (Imm B (app σ' (fwr bs)) ρ w) _ _ (fun b hb => hb.2.1) hrepV (footG_nodup hs hnd1) fun b hb => by
            obtain ⟨p, hp, ho⟩ := footG_mem.1 hb
            refine ⟨fun hi => hi.2.2.1 p.1 ?_, (hs.own p.1 b ho).2⟩
            unfold Owns at ho ⊢
            rw [fwr_kd, if_neg (hnd2 p.1 (List.mem_map.2 ⟨p, hp, rfl⟩))]
            exact ho
          have run : (execOp a.eval o).run P w = .ok (.enter g vs.toArray) w := by
            have e : (c.args.map a.eval) ++ us.toArray = vs.toArray := by
              rw [← hvs]
              apply Array.ext'
              simp
            simp [execOp, hop, resolve, hcal, hfv, Deferred.ofValue, invoke, henter, ← e]
          unfold Oper.wp
          rw [run, Oper.upon_enter]
          refine hcalls.mono ?_
          rintro e w' ⟨v, F', rfl, hbel, hres, hF1, hF2⟩
          show K' (a.put o.dst v) w'
          rw [hdst]
          rw [fillX_vs, hbv] at hres
          obtain ⟨us2, F1, F2, r1, r2, r3, r4⟩ := hres
          obtain ⟨r5, r6⟩ := fillY_weak r3
          have hfk := footG_kill (σ := σ') (ρ := ρ) (bs := bs) (gs := gs) fun p hp => hnd2 p.1 (List.mem_map.2 ⟨p, hp, rfl⟩)
          rw [← hfk] at hbel hF2 r2 r5
          have h5 : ∀ p ∈ (ocsPl σ (resNm tp d) 0 l).2 ++ ss', (app σ' (fwr bs)).gn p.1 = σ.gn p.1 ∧ (app σ' (fwr bs)).ig p.1 = σ.ig p.1 := fun p hp => by
            obtain ⟨h5, h6⟩ := insRd_mem hp
            rw [fwr_gn, fwr_ig]
            exact ⟨gn_same (hag4 _ h5), ig_same (hag4 _ h6)⟩
          obtain ⟨ρ', g1, g2, g3, g4⟩ := call_back (hs.kills bs).1 gs hnd1 hbel (fun b hb => hb) ⟨us2, F1, F2, r1, r2, r5, r4⟩ hF1 hF2 hbl rfl hbxn hva hnm1 hnm2 h5
          have hnames := bxPl_names hbl
          have hbln : (bl.map (·.1)).Nodup := by rw [hnames]; exact hbxn
          -- the state with fewer writes
          generalize hwr : fwr bs ++ (fwr gs ++ (insWr σ ((ocsPl σ (resNm tp d) 0 l).2 ++ ss') ++ bxWr bl)) = wr
          generalize hhl : hlY own d (bxG own d 0 (c.args.toList.map (evA σ) ++ caps)) ys = hl at r6
          have hσ1 : app (app (app (app σ' (fwr bs)) (fwr gs)) (insWr σ ((ocsPl σ (resNm tp d) 0 l).2 ++ ss'))) (bxWr bl) = app σ' wr := by
            rw [← hwr, app_append, app_append, app_append]
          have hkdb : ∀ b ∈ bxN bl, ∃ t m, σ'.kd b = .box t m ∧ (app σ' wr).kd b = .box t m ∧ ∀ al, (b, LK.box t al) ∈ bl → al.length = m := fun b hb => by
            obtain ⟨t, al, hm⟩ := bxN_mem hb
            have e1 := sameBx_at hsame hm
            have hbg : b ∈ gs.map (·.1) := (bxG_sub hxs).subset (by rw [← hnames]; exact List.mem_map.2 ⟨_, hm, rfl⟩)
            obtain ⟨p, hp, rfl⟩ := List.mem_map.1 hbg
            refine ⟨t, al.length, ?_, ?_, fun al' hm' => ?_⟩
            · rw [(hag3.mem (List.mem_append_right _ hp)).2.1, e1]
            · rw [← hσ1]
              exact bxWr_kd hbln hm
            · have := sameBx_at hsame hm'
              rw [e1] at this
              injection this with _ this
              exact this.symm
          rw [hσ1] at g1 g2 g3
          have hat := keepW_at (bxN bl) hl
          have hav : ∀ t, (app σ' (keepW (bxN bl) hl wr)).av t = (app σ' wr).av t := fun t => by unfold St.av; rw [hat, if_pos (show keepL (bxN bl) hl (.tmp t) = true from rfl)]
          have hgn : (app σ' (keepW (bxN bl) hl wr)).gn = (app σ' wr).gn := funext fun t => by unfold St.gn; rw [hat, if_pos (show keepL (bxN bl) hl (.gen t) = true from rfl)]
          have hig : ∀ t, (app σ' (keepW (bxN bl) hl wr)).ig t = (app σ' wr).ig t := fun t => by unfold St.ig; rw [hat, if_pos (show keepL (bxN bl) hl (.ign t) = true from rfl)]
          have hkd : (app σ' (keepW (bxN bl) hl wr)).kd = (app σ' wr).kd := funext fun t => by
            by_cases ht : t ∈ bxN bl
            · obtain ⟨t1, m, e1, e2, _⟩ := hkdb t ht
              rw [e2, ← e1]
              unfold St.kd
              rw [hat, if_neg (by show ¬ (!memB t (bxN bl)) = true; rw [memB_iff.2 ht]; simp)]
            · unfold St.kd
              rw [hat, if_pos (by
                show (!memB t (bxN bl)) = true
                cases hb : memB t (bxN bl) with
                | false => rfl
                | true => exact absurd (memB_iff.1 hb) ht)]
          have hce : ∀ b j, (b, j) ∉ hl → (app σ' (keepW (bxN bl) hl wr)).ce b j = (app σ' wr).ce b j := fun b j hn => by
            unfold St.ce
            rw [hat, if_pos (by
              show (!memC b j hl) = true
              cases hb : memC b j hl with
              | false => rfl
              | true => exact absurd (memC_iff.1 hb) hn)]
          have hceh : ∀ b j, (b, j) ∈ hl → (app σ' (keepW (bxN bl) hl wr)).ce b j = σ'.ce b j := fun b j hm => by
            unfold St.ce
            rw [hat, if_neg (by show ¬ (!memC b j hl) = true; rw [memC_iff.2 hm]; simp)]
          have hown : ∀ o b, Owns (app σ' (keepW (bxN bl) hl wr)) ρ' o b ↔ Owns (app σ' wr) ρ' o b := fun o b => by unfold Owns; rw [hkd]
          have hlb : ∀ p ∈ hl, p.1 ∈ bxN bl := fun p hp => by
            obtain ⟨k, i, t, cs, q, us', a1, a2, _⟩ := r6 p hp
            obtain ⟨al, a3, _⟩ := bxPl_box hbl a1 a2
            exact bxN_of (List.mem_of_getElem? a3)
          obtain ⟨s1, s2, s3, _⟩ := g1.stepZ (σ' := app σ' (keepW (bxN bl) hl wr)) (ρ' := ρ') (w' := w') (fun o => o ∈ bxN bl) B.Z hav
            (fun o hd => ⟨by rw [hkd], by rw [hgn], fun i => hce o i fun hm => hd (hlb _ hm), rfl, rfl, rfl⟩) (fun o _ => ⟨⟨by rw [hgn]; exact Nat.le_refl _, fun _ => rfl⟩, Nat.le_refl _, fun _ => rfl⟩)
            (fun o => by rw [hig]; exact g1.igs o) (Belo.refl _ _ _) (fun o b hd ho => .inr (.inr ⟨o, hd, (hown o b).1 ho⟩)) (fun o p b _ _ h1 h2 => g1.dis o p b ((hown o b).1 h1) ((hown p b).1 h2))
            (fun b hb => ⟨(g1.res b hb).1.2, .inr (.inl hb), fun o _ ho => (g1.res b hb).2 o ((hown o b).1 ho)⟩) fun hI hA o hd => by
              obtain ⟨t, m, k1, k2, k3⟩ := hkdb o hd
              rw [hkd, k2]
              have ho := g1.obs o
              rw [k2] at ho
              obtain ⟨q, us', b1, b2, b3, b4, b5⟩ := ho
              refine ⟨q, us', b1, b2, b3, b4, fun j u hu => ?_⟩
              by_cases hm : (o, j) ∈ hl
              · rw [hceh o j hm]
                obtain ⟨k, i, t', cs, q', us'', a1, a2, a3, a4, a5, a6⟩ := r6 (o, j) hm
                obtain ⟨al, c1, c2⟩ := bxPl_box hbl a1 a2
                -- the box's place
                have e1 := g4 k o _ (by rw [List.getElem?_map, c1]; rfl) a4
                rw [b1] at e1
                injection e1 with e1
                injection e1 with e1
                injection e1 with e1
                subst e1
                rw [b2] at a5
                injection a5 with a5
                injection a5 with a5 a7 a8
                have : us' = us'' := by simpa using a5
                subst this
                have a6 : us'[j]? = some (V i j) := a6
                rw [hu] at a6
                injection a6 with a6
                -- what it held before
                have hbx : (o, i) ∈ bxG own d 0 (c.args.toList.map (evA σ) ++ caps) := List.mem_of_getElem? a1
                have hob : objG σ' o = none := by unfold objG; rw [k1]
                obtain ⟨k', g', d1, d2, d3⟩ := argsG_box hfz hbx hob
                rw [Nat.zero_add] at d1
                subst d1
                obtain ⟨v0, hv0⟩ : ∃ v0, vs[i]? = some v0 := by
                  have hlt := (List.getElem?_eq_some_iff.1 d2).1
                  have := hargs.1
                  exact ⟨_, List.getElem?_eq_getElem (by omega)⟩
                have hg' := hgk (o, g') (List.mem_append_right _ d3)
                obtain ⟨q0, us0, e1, e2, e3, e4, e5, e6, e7⟩ := box_read hs (hargs.2 i v0 _ hv0 d2) hg' k1
                have hj : j < m := by
                  have h1 := k3 al (by
                    have := List.mem_of_getElem? c1
                    have h2 := sameBx_at hsame this
                    have h3 := (hag3.mem (p := (o, g')) (List.mem_append_right _ d3)).2.1
                    rw [k1] at h3
                    rw [h2] at h3
                    injection h3 with h3 _
                    subst h3
                    exact this)
                  have a3 : j < cs.length := a3
                  omega
                have hV : us0[j]? = some (V i j) := by
                  show _ = some (cellV w (vs.getD i undef) j)
                  rw [List.getD_eq_getElem?_getD, hv0]
                  show _ = some (cellV w v0 j)
                  rw [e1]
                  unfold cellV
                  simp only [e3]
                  rw [List.getD_eq_getElem?_getD]
                  have : j < us0.length := by omega
                  rw [List.getElem?_eq_getElem this]
                  rfl
                have hk := (hs.kills bs).1.obs o
                rw [fwr_kd, if_neg (hnd2 o (List.mem_map.2 ⟨_, d3, rfl⟩)), k1] at hk
                obtain ⟨q1, us1, f1, f2, f3, f4, f5⟩ := hk
                rw [e2] at f1
                injection f1 with f1
                injection f1 with f1
                injection f1 with f1
                subst f1
                rw [e3] at f2
                injection f2 with f2
                injection f2 with f2 _ _
                have : us0 = us1 := by simpa using f2
                subst this
                have fin := f5 j _ hV
                rw [fwr_ce] at fin
                rw [a6]
                exact hA _ _ (g3 _ _ fin)
              · rw [hce o j hm]
                exact hA _ _ (b5 j u hu)
          refine hK _ _ ⟨ρ', ?_⟩
          show SatR B (app σ' (keepW (bxN bl) (hlY own d (bxG own d 0 (c.args.toList.map (evA σ) ++ caps)) ys) (fwr bs ++ (fwr gs ++ (insWr σ ((ocsPl σ (resNm tp d) 0 l).2 ++ ss') ++ bxWr bl))) ++ [(.tmp d, .av va)])) _ _ _
          rw [hwr, hhl, app_append]
          exact s1.put (d := some d) hdn (s3 _ _ g2)
        · exact h.elim
      · exact h.elim
    · exact h.elim
  · exact h.elim
end

end Go.Proofs.YthahbiahlpcgeaaGreatDoor.Sym
