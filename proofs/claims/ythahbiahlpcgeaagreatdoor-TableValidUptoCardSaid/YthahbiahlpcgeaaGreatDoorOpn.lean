/-
  What the arguments read as in plain words, with the bound of the second form. No walk.
-/
import Derived.Test.YthahbiahlpcgeaaGreatDoorSym15
import Derived.Test.YthahbiahlpcgeaaGreatDoorWitness
import Derived.Deep.Slices
namespace Go.Proofs.YthahbiahlpcgeaaGreatDoor.Sym
open Go.ChangeShapes Go.WideShapes Go.ChangeAt Go.RowKit Go.Deep
set_option maxRecDepth 100000

section
variable {H : Type} {enc : TypeId × Value → H} {W : World} {α β : Type}

theorem bulk_pos (d : DataW H) : 1 ≤ Rows.uptoBulk d := by
  cases d with
  | lit l => cases l <;> simp [Rows.uptoBulk]
  | nil => simp [Rows.uptoBulk]
  | ptr d => simp [Rows.uptoBulk]
  | slice elems spare => simp [Rows.uptoBulk]
  | agg parts => simp [Rows.uptoBulk]
  | iface t d => simp [Rows.uptoBulk]
  | map entries => simp [Rows.uptoBulk]
  | held h => simp [Rows.uptoBulk]
theorem bulk_mem {d : DataW H} {l : List (DataW H)} (h : d ∈ l) : Rows.uptoBulk d ≤ Rows.uptoBulkAll l := by
  induction l with
  | nil => cases h
  | cons x r ih =>
    simp only [Rows.uptoBulkAll]
    rcases List.mem_cons.1 h with e | e
    · subst e; omega
    · have := ih e; omega
theorem bulk_append (l r : List (DataW H)) : Rows.uptoBulkAll (l ++ r) = Rows.uptoBulkAll l + Rows.uptoBulkAll r := by
  induction l with
  | nil => simp [Rows.uptoBulkAll]
  | cons x l ih => simp only [List.cons_append, Rows.uptoBulkAll, ih]; omega
theorem bulk_length (l : List (DataW H)) : l.length ≤ Rows.uptoBulkAll l := by
  induction l with
  | nil => simp [Rows.uptoBulkAll]
  | cons x r ih => have := bulk_pos x; simp only [Rows.uptoBulkAll, List.length_cons]; omega
theorem bulk_small {l : List (DataW H)} (hk : Rows.uptoSmall H l = true) : Rows.uptoBulkAll l ≤ 1048576 := by
  simpa [Rows.uptoSmall] using hk

/-- The blocks that were there. -/
def lowS (W : World) : Nat → Prop := fun b => b < W.heap.size

/-- Whatever reads at a type, within the bound, is a plain value. -/
def Opn (W : World) (enc : TypeId × Value → H) (t : TypeId) (c : α → List IV) (sz : α → Nat) (ok : α → Prop) : Prop :=
  ∀ (fuel : Nat) (cs : List Value) (d : DataW H) (ps : List MemPlace), DataW.trod enc Tryz.prog W 0 (fun _ => true) true fuel t cs = some (d, ps) → Rows.uptoBulk d ≤ 1048576 →
    ∃ x, RepIs W (lowS W) cs (c x) ∧ (∀ u ∈ cs, u.oneCell' = true) ∧ sz x ≤ Rows.uptoBulk d ∧ ok x

def sz1 {α : Type} (_ : α) : Nat := 1
def szL (sz : α → Nat) (l : List α) : Nat := (l.map sz).sum + 1
def okL (ok : α → Prop) (l : List α) : Prop := ∀ x ∈ l, ok x
def okT {α : Type} (_ : α) : Prop := True

theorem opn_int : Opn W enc 3 cI sz1 inR := by
  intro fuel cs d ps h hd
  cases fuel with
  | zero => simp [DataW.trod] at h
  | succ f =>
    unfold DataW.trod at h
    rw [Tryz.underlying3] at h
    split at h <;> try (cases h; done)
    all_goals (try (rename_i e; cases e; done))
    rename_i k k' n e
    injection e with e
    injection e with e
    subst e
    split at h
    · rename_i hw
      injection h with h
      injection h with h1 h2
      subst h1
      obtain ⟨rfl, hw⟩ := hw
      refine ⟨n, ⟨rfl, fun i u x hu hx => ?_⟩, fun u hu => ?_, by simp [sz1, Rows.uptoBulk], ?_⟩
      · match i, hu, hx with
        | 0, hu, hx =>
          simp at hu hx
          subst hu hx
          exact .val _
      · rcases List.mem_singleton.1 hu with rfl
        rfl
      · simp [Lit.wf, IntKind.min, IntKind.max, IntKind.wrap, IntKind.bits, IntKind.signed] at hw
        unfold inR
        omega
    · cases h

/-- The first elements of a slice. -/
theorem opn_elems {t : TypeId} {c : α → List IV} {sz : α → Nat} {ok : α → Prop} {k b o : Nat} (hc : ∀ x, (c x).length = k) (D : Nat → DataW H) : ∀ (n : Nat),
    (∀ i, i < n → ∃ (x : α) (cs : List Value), (∀ j, j < k → W.cell? ⟨b, o + (i * k + j), none⟩ = cs[j]?) ∧ RepIs W (lowS W) cs (c x) ∧ (∀ u ∈ cs, u.oneCell' = true) ∧ sz x ≤ Rows.uptoBulk (D i) ∧ ok x) →
    ∃ (xs : List α) (us : List Value), xs.length = n ∧ us.length = n * k ∧ (∀ (i : Nat) u, us[i]? = some u → W.cell? ⟨b, o + i, none⟩ = some u) ∧ RepIs W (lowS W) us (xs.map c).flatten ∧ (∀ u ∈ us, u.oneCell' = true) ∧
      (xs.map sz).sum ≤ Rows.uptoBulkAll ((List.range n).map D) ∧ ∀ x ∈ xs, ok x
  | 0, _ => ⟨[], [], rfl, by simp, by simp, ⟨rfl, by simp⟩, by simp, by simp, by simp⟩
  | n + 1, h => by
    obtain ⟨xs, us, h1, h2, h3, h4, h5, h6, h7⟩ := opn_elems (t := t) hc D n fun i hi => h i (by omega)
    obtain ⟨x, cs, g1, g2, g3, g4, g5⟩ := h n (by omega)
    have hcl : cs.length = k := by rw [g2.1, hc]
    have hfl : (xs.map c).flatten.length = n * k := by rw [← h4.1, h2]
    refine ⟨xs ++ [x], us ++ cs, by simp [h1], by rw [List.length_append, h2, hcl, Nat.add_mul]; omega, fun i u hu => ?_, ⟨?_, fun i u y hu hy => ?_⟩, fun u hu => ?_, ?_, fun y hy => ?_⟩
    · rw [List.getElem?_append] at hu
      split at hu
      · exact h3 i u hu
      · rename_i hlt
        have hj := (List.getElem?_eq_some_iff.1 hu).1
        have := g1 (i - us.length) (by omega)
        rw [hu, show o + (n * k + (i - us.length)) = o + i by omega] at this
        exact this
    · rw [List.map_append, List.flatten_append, List.length_append, List.length_append, h4.1]
      simp [g2.1]
    · rw [List.map_append, List.flatten_append, List.getElem?_append] at hy
      rw [List.getElem?_append] at hu
      by_cases hlt : i < us.length
      · rw [if_pos hlt] at hu
        rw [if_pos (by rw [hfl, ← h2]; exact hlt)] at hy
        exact h4.2 i u y hu hy
      · rw [if_neg hlt] at hu
        rw [if_neg (by rw [hfl, ← h2]; exact hlt), hfl, ← h2] at hy
        simp only [List.map_cons, List.map_nil, List.flatten_cons, List.flatten_nil, List.append_nil] at hy
        exact g2.2 _ u y hu hy
    · rcases List.mem_append.1 hu with hu | hu
      · exact h5 u hu
      · exact g3 u hu
    · rw [List.range_succ, List.map_append, List.map_append, List.sum_append, bulk_append]
      simp only [List.map_cons, List.map_nil, List.sum_cons, List.sum_nil, Rows.uptoBulkAll]
      omega
    · rcases List.mem_append.1 hy with hy | hy
      · exact h7 y hy
      · rcases List.mem_singleton.1 hy with rfl
        exact g5

theorem opn_slice {t e : TypeId} {c : α → List IV} {sz : α → Nat} {ok : α → Prop} {k : Nat} (ht : Tryz.prog.underlying t = some (.slice e)) (hk : Tryz.prog.cellsOf e = k) (hk0 : 0 < k) (hc : ∀ x, (c x).length = k) (O : Opn W enc e c sz ok) :
    Opn W enc t (cL c) (szL sz) (okL ok) := by
  intro fuel cs d ps h hd
  rcases open_slice ht h with ⟨rfl, hx⟩ | ⟨a, len, cap, m, n, D, Pl, rfl, _, hl, _, hm, hx, hel⟩
  · injection hx with hx1 hx2
    subst hx1
    refine ⟨[], ⟨rfl, fun i u x hu hx => ?_⟩, fun u hu => ?_, by simp [szL, Rows.uptoBulk], fun x hx => by cases hx⟩
    · match i, hu, hx with
      | 0, hu, hx =>
        simp at hu hx
        subst hu hx
        exact .emp _ _
    · rcases List.mem_singleton.1 hu with rfl
      rfl
  · injection hx with hx1 hx2
    subst hx1
    simp only [if_true] at hm
    subst hm
    have hbulk : Rows.uptoBulkAll ((List.range len).map D) + 1 ≤ Rows.uptoBulk (.slice ((List.range len).map D) ((List.range (m - len)).map fun j => D (len + j))) := by
      simp only [Rows.uptoBulk]; omega
    have hlen : len ≤ 1048576 := by
      have := bulk_length ((List.range len).map D)
      simp at this
      omega
    by_cases h0 : len = 0
    · subst h0
      refine ⟨[], ⟨rfl, fun i u x hu hx => ?_⟩, fun u hu => ?_, by simp [szL, Rows.uptoBulk], fun x hx => by cases hx⟩
      · match i, hu, hx with
        | 0, hu, hx =>
          simp at hu hx
          subst hu hx
          exact .emp _ _
      · rcases List.mem_singleton.1 hu with rfl
        rfl
    · obtain ⟨ab, ao, asp⟩ := a
      rw [hk] at hel
      have hsp : asp = none := by
        obtain ⟨cs', h1, _⟩ := hel 0 (by omega)
        obtain ⟨_, hl', hcell⟩ := World.cells?_some h1
        have h2 := hcell 0 hk0
        rw [List.getElem?_eq_getElem (by omega)] at h2
        unfold World.cell? Addr.add at h2
        simp only [Nat.zero_mul, if_true] at h2
        cases asp with
        | none => rfl
        | some q =>
          simp at h2
          split at h2 <;> simp at h2
      subst hsp
      obtain ⟨xs, us, h1, h2, h3, h4, h5, h6, h7⟩ := opn_elems (W := W) (t := e) (sz := sz) (ok := ok) (b := ab) (o := ao) hc D len fun i hi => by
        obtain ⟨cs', e1, e2⟩ := hel i (by omega)
        obtain ⟨_, hl', hcell⟩ := World.cells?_some e1
        obtain ⟨x, r1, r2, r3, r4⟩ := O _ _ _ _ e2 (Nat.le_trans (bulk_mem (List.mem_map.2 ⟨i, List.mem_range.2 hi, rfl⟩)) (by omega))
        refine ⟨x, cs', fun j hj => ?_, r1, r2, r3, r4⟩
        have := hcell j hj
        rw [addr_add, addr_add, Nat.add_assoc] at this
        exact this
      have hblk : ab < W.heap.size := by
        have hu0 : 0 < us.length := by rw [h2]; exact Nat.mul_pos (by omega) hk0
        exact World.block_lt_of_cell? W _ (h3 0 _ (List.getElem?_eq_getElem hu0))
      refine ⟨xs, ⟨rfl, fun i u x hu hx => ?_⟩, fun u hu => ?_, ?_, h7⟩
      · match i, hu, hx with
        | 0, hu, hx =>
          simp at hu hx
          subst hu hx
          refine .sl ab ao m k len (xs.map c) us (by simp [h1]) (fun e he => by obtain ⟨y, _, rfl⟩ := List.mem_map.1 he; exact hc y) hl (by omega) hblk h4.1 h5 h3 h4.2
      · rcases List.mem_singleton.1 hu with rfl
        rfl
      · show (xs.map sz).sum + 1 ≤ _
        omega

/-- The fields of a struct, from an offset on. -/
def OpnFs (W : World) (enc : TypeId × Value → H) (fs : List Field) (off len : Nat) (c : α → List IV) (sz : α → Nat) (ok : α → Prop) : Prop :=
  ∀ (n : Nat) (cs : List Value) (xs : List (DataW H × List MemPlace)), xs.length = fs.length →
    (∀ (i : Nat) f, fs[i]? = some f → DataW.trod enc Tryz.prog W 0 (fun _ => true) true n f.type ((cs.drop f.offset).take (Tryz.prog.cellsOf f.type)) = xs[i]?) → Rows.uptoBulkAll (xs.map (·.1)) ≤ 1048576 →
    ∃ x, RepIs W (lowS W) ((cs.drop off).take len) (c x) ∧ (∀ u ∈ (cs.drop off).take len, u.oneCell' = true) ∧ sz x ≤ Rows.uptoBulkAll (xs.map (·.1)) ∧ ok x

theorem opnFs_nil {off : Nat} : OpnFs W enc [] off 0 (fun _ : Unit => []) (fun _ => 0) okT := by
  intro n cs xs hx h hb
  exact ⟨(), ⟨by simp, by simp⟩, by simp, Nat.zero_le _, trivial⟩

theorem opnFs_cons {f : Field} {fs : List Field} {off k len : Nat} {c1 : α → List IV} {c2 : β → List IV} {s1 : α → Nat} {s2 : β → Nat} {ok1 : α → Prop} {ok2 : β → Prop} (ho : f.offset = off) (hk : Tryz.prog.cellsOf f.type = k)
    (O : Opn W enc f.type c1 s1 ok1) (hc : ∀ x, (c1 x).length = k) (R : OpnFs W enc fs (off + k) len c2 s2 ok2) :
    OpnFs W enc (f :: fs) off (k + len) (fun p : α × β => c1 p.1 ++ c2 p.2) (fun p => s1 p.1 + s2 p.2) (fun p => ok1 p.1 ∧ ok2 p.2) := by
  intro n cs xs hx h hb
  match xs, hx with
  | x :: xs, hx =>
    have e0 := h 0 f rfl
    rw [ho, hk] at e0
    simp only [List.map_cons, Rows.uptoBulkAll] at hb
    obtain ⟨a, r1, r2, r3, r4⟩ := O n _ x.1 x.2 e0 (by omega)
    obtain ⟨b, q1, q2, q3, q4⟩ := R n cs xs (by simpa using hx) (fun i g hg => by
      have := h (i + 1) g (by simpa using hg)
      simpa using this) (by omega)
    have hsplit : (cs.drop off).take (k + len) = (cs.drop off).take k ++ (cs.drop (off + k)).take len := by
      rw [List.take_add, List.drop_drop]
    have hl1 : ((cs.drop off).take k).length = (c1 a).length := r1.1
    refine ⟨(a, b), ?_, fun u hu => ?_, by simp only [List.map_cons, Rows.uptoBulkAll]; omega, r4, q4⟩
    · rw [hsplit]
      refine ⟨by rw [List.length_append, List.length_append, r1.1, q1.1], fun i u y hu hy => ?_⟩
      rw [List.getElem?_append, hl1] at hu
      rw [List.getElem?_append] at hy
      split at hu
      · rename_i hlt
        rw [if_pos hlt] at hy
        exact r1.2 i u y hu hy
      · rename_i hlt
        rw [if_neg hlt] at hy
        exact q1.2 _ u y hu hy
    · rw [hsplit] at hu
      rcases List.mem_append.1 hu with hu | hu
      · exact r2 u hu
      · exact q2 u hu

theorem opn_struct {t : TypeId} {fs : Array Field} {len : Nat} {c : α → List IV} {sz : α → Nat} {ok : α → Prop} {c' : β → List IV} {sz' : β → Nat} {ok' : β → Prop} (ht : Tryz.prog.underlying t = some (.struct fs)) (hl : Tryz.prog.cellsOf t = len)
    (R : OpnFs W enc fs.toList 0 len c sz ok) (conv : α → β) (hc : ∀ p, c' (conv p) = c p) (hs : ∀ p, sz' (conv p) = sz p + 1) (ho : ∀ p, ok p → ok' (conv p)) : Opn W enc t c' sz' ok' := by
  intro fuel cs d ps h hd
  obtain ⟨xs, n, rfl, hx, hcl, hxl, hf⟩ := DataW.trod_struct ht h
  injection hx with hx1 hx2
  subst hx1
  simp only [Rows.uptoBulk] at hd
  obtain ⟨x, r1, r2, r3, r4⟩ := R n cs xs (by rw [hxl]; simp) (fun i f hi => hf i f (by simpa using hi)) (by omega)
  rw [hl] at hcl
  have e : (cs.drop 0).take len = cs := by rw [List.drop_zero, ← hcl, List.take_length]
  rw [e] at r1 r2
  refine ⟨conv x, by rw [hc]; exact r1, r2, ?_, ho x r4⟩
  rw [hs]
  simp only [Rows.uptoBulk]
  omega

theorem arg_struct {t : TypeId} {fs : Array Field} {v : Value} {d : DataW H} {p : List MemPlace} {base : Nat} {c : α → List IV} {sz : α → Nat} {ok : α → Prop} (ht : Tryz.prog.underlying t = some (.struct fs)) (hv : Value.okWide Tryz.prog W .any base t v)
    (h : DataW.Trod enc Tryz.prog W 0 (fun _ => true) true t v d p) (O : Opn W enc t c sz ok) (hb : Rows.uptoBulk d ≤ 1048576) : ∃ x, RepI W (lowS W) v (.agg (c x)) ∧ sz x ≤ Rows.uptoBulk d ∧ ok x := by
  obtain ⟨cs, rfl, _⟩ := okWide_struct ht hv
  obtain ⟨fuel, hf⟩ := h
  obtain ⟨x, r1, r2, r3, r4⟩ := O fuel cs.toList d p (by simpa [Value.cells] using hf) hb
  refine ⟨x, ?_, r3, r4⟩
  have := RepI.agg (w := W) (S := lowS W) cs.toList (c x) r1.1 r2 r1.2
  simpa using this
theorem arg_slice {t e : TypeId} {v : Value} {d : DataW H} {p : List MemPlace} {base : Nat} {c : α → List IV} {sz : List α → Nat} {ok : List α → Prop} (ht : Tryz.prog.underlying t = some (.slice e)) (hv : Value.okWide Tryz.prog W .any base t v)
    (h : DataW.Trod enc Tryz.prog W 0 (fun _ => true) true t v d p) (O : Opn W enc t (cL c) sz ok) (hb : Rows.uptoBulk d ≤ 1048576) : ∃ x, RepI W (lowS W) v (nL c x) ∧ sz x ≤ Rows.uptoBulk d ∧ ok x := by
  obtain ⟨a, l, cp, rfl⟩ := okWide_slice ht hv
  obtain ⟨fuel, hf⟩ := h
  obtain ⟨x, r1, r2, r3, r4⟩ := O fuel [.slice a l cp] d p (by simpa [Value.cells] using hf) hb
  exact ⟨x, r1.2 0 _ _ rfl rfl, r3, r4⟩
theorem arg_int {v : Value} {d : DataW H} {p : List MemPlace} {base : Nat} (hv : Value.okWide Tryz.prog W .any base 3 v) (h : DataW.Trod enc Tryz.prog W 0 (fun _ => true) true 3 v d p) : ∃ x, RepI W (lowS W) v (nI x) ∧ inR x := by
  obtain ⟨z, rfl, rfl, rfl, wz⟩ := open_int Tryz.underlying3 hv h
  refine ⟨z, .val _, ?_⟩
  simp [Lit.wf, IntKind.min, IntKind.max, IntKind.wrap, IntKind.bits, IntKind.signed] at wz
  unfold inR
  omega

/-- A law's contract gives what the row asks. -/
theorem sp_law {f : FuncId} {W : World} {vs : List Value} {xs : List Arg} (h : Sp Tryz.prog f xs (.im (nB true))) (ha : ArgsOk W (lowS W) vs xs []) :
    Calls Tryz.prog f vs.toArray W fun e W' => e = .returned (.bool true) ∧ Below W.heap.size W W' := by
  refine (h.2 W (lowS W) vs [] (fun b hb => hb) ha List.nodup_nil (fun b hb => by cases hb)).mono ?_
  rintro e W' ⟨v, F', rfl, hb, ⟨us, F1, F2, e1, ho, _, _⟩, _, _⟩
  have e1 : us = [v] := e1
  subst e1
  refine ⟨?_, hb.below fun b hb => by cases hb⟩
  obtain ⟨F3, F4, ⟨hr, _⟩, _⟩ := ho
  cases hr
  rfl
end
end Go.Proofs.YthahbiahlpcgeaaGreatDoor.Sym
