/-
  The plain reading's operations are the model's: literals.
-/
import Derived.Test.YthahbiahlpcgeaaGreatDoorSymAli
import Derived.Great.BuildSlice
namespace Go.Proofs.YthahbiahlpcgeaaGreatDoor.Sym
open Go.RowKit

section
variable {P : Program} {B : Base} {o : Oper} {σ : St} {K : Fx → Prop}

theorem partsAt_spec {σ' : St} {a : Act} {w : World} {ρ : Ly} (h : SatR B σ' a w ρ) {bs' : List (Nat × Nat)} (hgk : ∀ p ∈ bs', σ'.gn p.1 = p.2) : ∀ {l : List (Nat × Operand)} {i : Nat} {vs : List IV} {bs : List (Nat × Nat)}, partsAt σ i l = some (vs, bs) → (∀ y ∈ opdL (l.map (·.2)), σ' y = σ y) → SameOn σ σ' bs → (∀ b ∈ bs, b ∈ bs') →
    (l.map fun p => (p.1, a.eval p.2)) = (((l.map fun p => a.eval p.2).zipIdx i).map fun x => (x.2, x.1)) ∧ RepIs w (Imm B (app σ' (fwr bs')) ρ w) (l.map fun p => a.eval p.2) vs
  | [], i, vs, bs, e, _, _, _ => by
    simp only [partsAt, Option.some.injEq, Prod.mk.injEq] at e
    rw [← e.1]
    exact ⟨rfl, rfl, fun i u x hu => by simp at hu⟩
  | (j, x) :: l, i, vs, bs, e, hag, hsame, hs => by
    simp only [partsAt] at e
    split at e
    · rename_i hij
      subst hij
      split at e
      · rename_i v b1 vs1 bs1 h1 h2
        simp only [Option.some.injEq, Prod.mk.injEq] at e
        obtain ⟨rfl, rfl⟩ := e
        have hx : evA σ' x = evA σ x := evA_same fun y hy => hag y (by simp only [List.map_cons, opdL, List.flatMap_cons]; exact List.mem_append_left _ hy)
        have r1 := fz_ok h hgk (evA_ok h x) (x := v) (bs := b1) (by rw [hx]; exact fz_same h1 hsame.left) fun b hb => hs b (List.mem_append_left _ hb)
        obtain ⟨r2, r3⟩ := partsAt_spec h hgk h2 (fun y hy => hag y (by simp only [List.map_cons, opdL, List.flatMap_cons]; exact List.mem_append_right _ hy)) hsame.right fun b hb => hs b (List.mem_append_right _ hb)
        refine ⟨by rw [List.map_cons, r2]; rfl, by simpa using r3.1, fun n u y hu hy => ?_⟩
        cases n with
        | zero => simp at hu hy; rw [← hu, ← hy]; exact r1
        | succ n => exact r3.2 n u y (by simpa using hu) (by simpa using hy)
      · cases e
    · cases e

theorem cellsI_rep {w : World} {S : Nat → Prop} {v : Value} {x : IV} (h : RepI w S v x) (h0 : 0 < (cellsI x).length) : RepIs w S v.cells.toList (cellsI x) ∧ ∀ u ∈ v.cells.toList, u.oneCell' = true := by
  have one : v.oneCell' = true → cellsI x = [x] → RepIs w S v.cells.toList (cellsI x) ∧ ∀ u ∈ v.cells.toList, u.oneCell' = true := fun h1 hx => by
    have : v.cells = #[v] := by revert h1; cases v <;> simp [Value.oneCell', Value.cells]
    rw [this, hx]
    refine ⟨⟨rfl, fun i u y hu hy => ?_⟩, fun u hu => by simp at hu; rw [hu]; exact h1⟩
    cases i with
    | zero => simp at hu hy; rw [← hu, ← hy]; exact h
    | succ i => simp at hu
  have h' := h
  cases h' with
  | val _ =>
    simp only [cellsI] at h0
    split at h0
    · rename_i h1
      exact one h1 (by simp only [cellsI]; rw [if_pos h1])
    · simp at h0
  | any _ => simp [cellsI] at h0
  | ex _ h1 => exact one h1 rfl
  | emp _ _ => exact one rfl rfl
  | sl _ _ _ _ _ _ _ _ _ _ _ _ _ _ _ _ => exact one rfl rfl
  | agg us cs hl h1 hr => exact ⟨⟨by simpa [Value.cells, cellsI] using hl, fun i u y hu hy => hr i u y (by simpa [Value.cells] using hu) hy⟩, fun u hu => h1 u (by simpa [Value.cells] using hu)⟩
  | ref _ _ _ _ _ _ _ _ _ => exact one rfl rfl
  | fn _ _ _ _ _ => exact one rfl rfl

theorem flat_reps {w : World} {S : Nat → Prop} {k : Nat} (hk0 : 0 < k) : ∀ {us : List Value} {vs : List IV}, RepIs w S us vs → (∀ v ∈ vs, (cellsI v).length = k) →
    (∀ u ∈ us, u.cells.size = k) ∧ RepIs w S (us.flatMap fun u => u.cells.toList) (vs.map cellsI).flatten ∧ ∀ u ∈ us.flatMap fun u => u.cells.toList, u.oneCell' = true
  | [], [], _, _ => ⟨by simp, ⟨rfl, by simp⟩, by simp⟩
  | u :: us, v :: vs, h, hk => by
    obtain ⟨r1, r2⟩ := cellsI_rep (h.2 0 u v rfl rfl) (by rw [hk v (by simp)]; exact hk0)
    obtain ⟨r3, r4, r5⟩ := flat_reps hk0 (us := us) (vs := vs) ⟨by simpa using h.1, fun i u x hu hx => h.2 (i + 1) u x (by simpa using hu) (by simpa using hx)⟩ fun v hv => hk v (by simp [hv])
    have hl : u.cells.toList.length = k := by rw [r1.1, hk v (by simp)]
    refine ⟨fun x hx => ?_, ⟨by simp only [List.flatMap_cons, List.map_cons, List.flatten_cons, List.length_append, r1.1, r4.1], fun i x y hx hy => ?_⟩, fun x hx => ?_⟩
    · rcases List.mem_cons.1 hx with rfl | hx
      · simpa using hl
      · exact r3 x hx
    · rw [List.flatMap_cons, List.getElem?_append] at hx
      rw [List.map_cons, List.flatten_cons, List.getElem?_append] at hy
      rw [r1.1] at hx
      split at hx
      · rename_i hlt
        rw [if_pos hlt] at hy
        exact r1.2 i x y hx hy
      · rename_i hlt
        rw [if_neg hlt] at hy
        exact r4.2 _ x y hx hy
    · rw [List.flatMap_cons] at hx
      rcases List.mem_append.1 hx with hx | hx
      · exact r2 x hx
      · exact r5 x hx
  | [], _ :: _, h, _ => by have := h.1; simp at this
  | _ :: _, [], h, _ => by have := h.1; simp at this

theorem buildSlice_run {t et len k : Nat} {w : World} {parts : Array (Nat × Value)} {us : List Value} (hu : P.underlying t = some (.slice et)) (hk : szOf P et = some k) (hz : zOk P et k = true) (hb : ∃ b, byteOf P et = some b) (hk0 : 0 < k) (hsm : len * k ≤ 65536) (hl : us.length = len) (hp : parts.toList = (us.zipIdx 0).map fun x => (x.2, x.1)) (hus : ∀ u ∈ us, u.cells.size = k) :
    (Instr.buildSlice t len parts).run P w = .ok (.slice (some ⟨w.heap.size, 0, none⟩) len len) (w.alloc (.cells (us.flatMap fun u => u.cells.toList).toArray et)) := by
  obtain ⟨b, hb⟩ := hb
  obtain ⟨i, z, hi, hz0, hsz, _, hzc⟩ := zOk_spec hz hk hb
  have hfill : ∀ cells : Array Value, cells.size = len * k → Instr.fill (fun j => some (j * k, k)) cells parts.toList = some (us.flatMap fun u => u.cells.toList).toArray := fun cells hc => by
    rw [hp]
    exact Great.fill_whole hk0 us cells hus (by rw [hl, hc])
  by_cases h0 : len * k = 0
  · have hf := hfill ((Array.range (len * k)).map ((#[] : Array Value)[· % (#[] : Array Value).size]!)) (by simp)
    have hsmall : ¬ len * k > 2 ^ 24 := by omega
    simp [Instr.buildSlice, run_underlying hu, sz_run hk, hsmall, h0, newRow]
    simp [h0] at hf
    rw [hf]
    simp
  · have := run_buildSlice (P := P) w t et len parts (us.flatMap fun u => u.cells.toList).toArray i z hu hi hz0 (by rw [hsz]; omega) (by rw [hsz]; exact h0) (by rw [hsz]; exact hfill _ (by simp))
    exact this

theorem aBuildSlice_ok {own : List Nat} {t : TypeId} {len : Nat} {parts : Array (Nat × Operand)} (hop : o.op = .buildSlice t len parts) (hd : dstOk B.n o = true) (hbyt : ∀ et, elmOf P t = some et → ∃ b, byteOf P et = some b) (h : aBuildSlice P own o σ K t len parts) : ∃ fx, K fx ∧ Eff P B o fx.rd σ fx.wr := by
  unfold aBuildSlice at h
  split at h
  · rename_i d et hdst het
    have hund := elm_spec het
    split at h
    · rename_i k vs bs hk hparts
      obtain ⟨hchk, h⟩ := h.ok
      simp only [Bool.and_eq_true] at hchk
      obtain ⟨⟨⟨⟨c1, c2⟩, c3⟩, c4⟩, c5⟩ := hchk
      have hvl : vs.length = len := by simpa using c1
      have hsm := ble_spec c2
      have hk0 := blt_spec c3
      have hcl : ∀ v ∈ vs, (cellsI v).length = k := fun v hv => by simpa using List.all_eq_true.1 c5 v hv
      obtain ⟨hgk0, h⟩ := h.out
      have common : ∀ σ' a w ρ, SatR B σ' a w ρ → (∀ y ∈ opdL (parts.toList.map (·.2)), σ' y = σ y) → SameOn σ σ' bs → ∃ us : List Value, (execOp a.eval o).run P w = .ok (.value (.slice (some ⟨w.heap.size, 0, none⟩) len len)) (w.alloc (.cells us.toArray et)) ∧
          us.length = len * k ∧ RepIs w (Imm B (app σ' (fwr bs)) ρ w) us (vs.map cellsI).flatten ∧ (∀ u ∈ us, u.oneCell' = true) := fun σ' a w ρ hs hag1 hsame => by
        have hgk : ∀ p ∈ bs, σ'.gn p.1 = p.2 := fun p hp => by
          rw [← hgk0 p hp]
          exact gn_same (hsame (.gen p.1) (by unfold frd; exact List.mem_flatMap.2 ⟨p, hp, by simp⟩))
        obtain ⟨r1, r2⟩ := partsAt_spec hs hgk hparts hag1 hsame (fun _ h => h)
        obtain ⟨r3, r4, r5⟩ := flat_reps hk0 r2 hcl
        have hrun := buildSlice_run (P := P) (w := w) (parts := parts.map fun p => (p.1, a.eval p.2)) hund hk c4 (hbyt et het) hk0 hsm (by rw [r2.1, hvl]) (by rw [Array.toList_map]; exact r1) r3
        refine ⟨_, ?_, ?_, r4, r5⟩
        · simp only [execOp, hop, Sem.run_bind, hrun, Result.andThen_ok, Sem.run_pure]
        · rw [r4.1, flat_length (k := k) (fun x hx => by obtain ⟨v, hv, rfl⟩ := List.mem_map.1 hx; exact hcl v hv), List.length_map, hvl]
      have hlens : ∀ x ∈ vs.map cellsI, x.length = k := fun x hx => by obtain ⟨v, hv, rfl⟩ := List.mem_map.1 hx; exact hcl v hv
      have hlim : len ≤ 65536 := Nat.le_trans (Nat.le_mul_of_pos_right len hk0) hsm
      split at h
      · refine ⟨_, h, fun σ' hag a w ⟨ρ, hs⟩ K' Q hK => ?_⟩
        obtain ⟨us, run, hul, hur, hu1⟩ := common σ' a w ρ hs (agree_l (agree_l hag)) (agree_r (agree_l hag))
        obtain ⟨hsk, _⟩ := hs.kills bs
        unfold Oper.wp
        rw [run, Oper.upon_value, hdst]
        refine hK _ _ ⟨setρ ρ d (.slice (some ⟨w.heap.size, 0, none⟩) len len), ?_⟩
        have hg : (app σ' (fwr bs)).gn d = σ.gn d := by
          rw [fwr_gn]
          exact gn_same (agree_r hag (.gen d) (by simp))
        have m : Making (app σ' (fwr bs)) w (w.alloc (.cells us.toArray et)) ρ none (.slice (some ⟨w.heap.size, 0, none⟩) len len) none :=
          ⟨World.grownBy_alloc w _ none, (fun b e => by cases e), fun b e => .inr (by simp only [blkOf, Option.some.injEq] at e; omega)⟩
        have hst := hsk.new (d := d) (k := .row et k (vs.map cellsI)) (cs := []) m (fun _ _ _ _ _ e => by cases e) fun hI _ => by
          refine ⟨us, hk0, hlens, by rw [List.length_map, hvl]; omega, ?_, hur.1, hu1, fun i u x hu hx => hI _ _ (hur.2 i u x hu hx)⟩
          simp only [setρ, if_pos, List.length_map, hvl]
          exact ⟨hul, .inr ⟨w.heap.size, len, us.toArray, rfl, Nat.zero_le _, heap_alloc_new w _, Nat.le_refl _, by unfold maxLen; omega, by simpa using hul, by rw [← hul]; simp⟩⟩
        show SatR B (app σ' (fwr bs ++ (mkObj σ d (.row et k (vs.map cellsI)) ++ [(.tmp d, .av (.osl d (σ.gn d + 1)))]))) _ _ _
        rw [app_append]
        have := app_new (σ := σ) (σ' := app σ' (fwr bs)) (k := .row et k (vs.map cellsI)) (cs := []) (v := .osl d (σ.gn d + 1)) hg
        simp only [celWr, List.append_nil] at this
        rw [this, ← hg]
        exact newObj_osl hst rfl (dst_some hd hdst)
      · refine ⟨_, h, fun σ' hag a w ⟨ρ, hs⟩ K' Q hK => ?_⟩
        obtain ⟨us, run, hul, hur, hu1⟩ := common σ' a w ρ hs (agree_l hag) (agree_r hag)
        obtain ⟨hsk, _⟩ := hs.kills bs
        unfold Oper.wp
        rw [run, Oper.upon_value, hdst]
        have hbel : Below w.heap.size w (w.alloc (.cells us.toArray et)) := (Below.refl _ _).alloc (Nat.le_refl _) _
        obtain ⟨hsw, hI⟩ := hsk.world hbel
        refine hK _ _ ⟨ρ, ?_⟩
        show SatR B (app σ' (fwr bs ++ [(.tmp d, .av (.im (.sl (vs.map cellsI))))])) _ _ _
        rw [app_append]
        refine hsw.put (d := some d) (fun t e => by injection e with e; subst e; exact dst_some hd hdst) (.im _ _ ?_)
        refine .sl w.heap.size 0 len k len _ us (by rw [List.length_map, hvl]) hlens (Nat.le_refl _) (by omega) ⟨.inr (.inl hs.bel.size), by simp, fun p hpb => ?_, fun hz => ?_⟩ hur.1 hu1 (fun i u hu => ?_) fun i u x hu hx => hI _ _ (hur.2 i u x hu hx)
        · have := (hsk.own p _ hpb).2
          omega
        · have := (hsk.res _ hz).1.2
          omega
        · rw [Nat.zero_add]
          unfold World.cell?
          simp only [heap_alloc_new]
          simpa using hu
    · exact h.elim
  · exact h.elim
end

end Go.Proofs.YthahbiahlpcgeaaGreatDoor.Sym
