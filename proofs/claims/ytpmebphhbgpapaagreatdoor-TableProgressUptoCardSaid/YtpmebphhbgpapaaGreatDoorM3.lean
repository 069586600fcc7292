/-
  What the arguments read as in plain words, with the bound of the second form. No walk.
-/
import Derived.Test.YtpmebphhbgpapaaGreatDoorM2
import Derived.Deep.Slices
import Derived.WalkKit
import Derived.Deep.AppendLies
import Derived.Deep.Draws
import Derived.Maps.AppendAt
import Derived.Deep.QuietTactic
import Derived.BigQuiet
import Derived.WalkSpells
import Derived.Outline
import Derived.Lib.Hide
import Derived.Test.YtpmebphhbgpapaaGreatDoorProg
import Derived.Lib.AppendZeros
import Derived.Shelf.SlSortCmp.NoneTotal
import Derived.Lib.OwnBridge
import Derived.Laws.OwnMore
import Derived.Lib.BufferRead
import Derived.WalkSmall
import Derived.Shelf.SlSortCmp.Whole1
import Derived.Shelf.SlSortCmp.WholeK
import Derived.Ground.SlsfProg
namespace Go.Proofs.YtpmebphhbgpapaaGreatDoor.Sym
open Go.ChangeShapes Go.WideShapes Go.ChangeAt Go.RowKit Go.Deep
set_option maxRecDepth 100000

section
variable {H : Type} {enc : TypeId × Value → H} {W : World} {α β : Type}

theorem bulk_pos (d : DataW H) : 1 ≤ Rows.uptoBulk d := by
  cases d with
  | lit l => cases l <;> simp [Rows.uptoBulk]
  | nil => simp [Rows.uptoBulk]
  | ptr d => simp [Rows.uptoBulk]
  | slice elems spare => simp [Rows.uptoBulk]
  | agg parts => simp [Rows.uptoBulk]
  | iface t d => simp [Rows.uptoBulk]
  | map entries => simp [Rows.uptoBulk]
  | held h => simp [Rows.uptoBulk]
theorem bulk_mem {d : DataW H} {l : List (DataW H)} (h : d ∈ l) : Rows.uptoBulk d ≤ Rows.uptoBulkAll l := by
  induction l with
  | nil => cases h
  | cons x r ih =>
    simp only [Rows.uptoBulkAll]
    rcases List.mem_cons.1 h with e | e
    · subst e; omega
    · have := ih e; omega
theorem bulk_append (l r : List (DataW H)) : Rows.uptoBulkAll (l ++ r) = Rows.uptoBulkAll l + Rows.uptoBulkAll r := by
  induction l with
  | nil => simp [Rows.uptoBulkAll]
  | cons x l ih => simp only [List.cons_append, Rows.uptoBulkAll, ih]; omega
theorem bulk_length (l : List (DataW H)) : l.length ≤ Rows.uptoBulkAll l := by
  induction l with
  | nil => simp [Rows.uptoBulkAll]
  | cons x r ih => have := bulk_pos x; simp only [Rows.uptoBulkAll, List.length_cons]; omega
theorem bulk_small {l : List (DataW H)} (hk : Rows.uptoSmall H l = true) : Rows.uptoBulkAll l ≤ 1048576 := by
  simpa [Rows.uptoSmall] using hk

/-- The blocks that were there. -/
def lowS (W : World) : Nat → Prop := fun b => b < W.heap.size

/-- Whatever reads at a type, within the bound, is a plain value. -/
def Opn (W : World) (enc : TypeId × Value → H) (t : TypeId) (c : α → List IV) (sz : α → Nat) (ok : α → Prop) : Prop :=
  ∀ (fuel : Nat) (cs : List Value) (d : DataW H) (ps : List MemPlace), DataW.trod enc Tryz.prog W 0 (fun _ => true) true fuel t cs = some (d, ps) → Rows.uptoBulk d ≤ 1048576 →
    ∃ x, RepIs W (lowS W) cs (c x) ∧ (∀ u ∈ cs, u.oneCell' = true) ∧ sz x ≤ Rows.uptoBulk d ∧ ok x

def sz1 {α : Type} (_ : α) : Nat := 1
def szL (sz : α → Nat) (l : List α) : Nat := (l.map sz).sum + 1
def okL (ok : α → Prop) (l : List α) : Prop := ∀ x ∈ l, ok x
def okT {α : Type} (_ : α) : Prop := True

theorem opn_int : Opn W enc 3 cI sz1 inR := by
  intro fuel cs d ps h hd
  cases fuel with
  | zero => simp [DataW.trod] at h
  | succ f =>
    unfold DataW.trod at h
    rw [Tryz.underlying3] at h
    split at h <;> try (cases h; done)
    all_goals (try (rename_i e; cases e; done))
    rename_i k k' n e
    injection e with e
    injection e with e
    subst e
    split at h
    · rename_i hw
      injection h with h
      injection h with h1 h2
      subst h1
      obtain ⟨rfl, hw⟩ := hw
      refine ⟨n, ⟨rfl, fun i u x hu hx => ?_⟩, fun u hu => ?_, by simp [sz1, Rows.uptoBulk], ?_⟩
      · match i, hu, hx with
        | 0, hu, hx =>
          simp at hu hx
          subst hu hx
          exact .val _
      · rcases List.mem_singleton.1 hu with rfl
        rfl
      · simp [Lit.wf, IntKind.min, IntKind.max, IntKind.wrap, IntKind.bits, IntKind.signed] at hw
        unfold inR
        omega
    · cases h

/-- The first elements of a slice. -/
theorem opn_elems {t : TypeId} {c : α → List IV} {sz : α → Nat} {ok : α → Prop} {k b o : Nat} (hc : ∀ x, (c x).length = k) (D : Nat → DataW H) : ∀ (n : Nat),
    (∀ i, i < n → ∃ (x : α) (cs : List Value), (∀ j, j < k → W.cell? ⟨b, o + (i * k + j), none⟩ = cs[j]?) ∧ RepIs W (lowS W) cs (c x) ∧ (∀ u ∈ cs, u.oneCell' = true) ∧ sz x ≤ Rows.uptoBulk (D i) ∧ ok x) →
    ∃ (xs : List α) (us : List Value), xs.length = n ∧ us.length = n * k ∧ (∀ (i : Nat) u, us[i]? = some u → W.cell? ⟨b, o + i, none⟩ = some u) ∧ RepIs W (lowS W) us (xs.map c).flatten ∧ (∀ u ∈ us, u.oneCell' = true) ∧
      (xs.map sz).sum ≤ Rows.uptoBulkAll ((List.range n).map D) ∧ ∀ x ∈ xs, ok x
  | 0, _ => ⟨[], [], rfl, by simp, by simp, ⟨rfl, by simp⟩, by simp, by simp, by simp⟩
  | n + 1, h => by
    obtain ⟨xs, us, h1, h2, h3, h4, h5, h6, h7⟩ := opn_elems (t := t) hc D n fun i hi => h i (by omega)
    obtain ⟨x, cs, g1, g2, g3, g4, g5⟩ := h n (by omega)
    have hcl : cs.length = k := by rw [g2.1, hc]
    have hfl : (xs.map c).flatten.length = n * k := by rw [← h4.1, h2]
    refine ⟨xs ++ [x], us ++ cs, by simp [h1], by rw [List.length_append, h2, hcl, Nat.add_mul]; omega, fun i u hu => ?_, ⟨?_, fun i u y hu hy => ?_⟩, fun u hu => ?_, ?_, fun y hy => ?_⟩
    · rw [List.getElem?_append] at hu
      split at hu
      · exact h3 i u hu
      · rename_i hlt
        have hj := (List.getElem?_eq_some_iff.1 hu).1
        have := g1 (i - us.length) (by omega)
        rw [hu, show o + (n * k + (i - us.length)) = o + i by omega] at this
        exact this
    · rw [List.map_append, List.flatten_append, List.length_append, List.length_append, h4.1]
      simp [g2.1]
    · rw [List.map_append, List.flatten_append, List.getElem?_append] at hy
      rw [List.getElem?_append] at hu
      by_cases hlt : i < us.length
      · rw [if_pos hlt] at hu
        rw [if_pos (by rw [hfl, ← h2]; exact hlt)] at hy
        exact h4.2 i u y hu hy
      · rw [if_neg hlt] at hu
        rw [if_neg (by rw [hfl, ← h2]; exact hlt), hfl, ← h2] at hy
        simp only [List.map_cons, List.map_nil, List.flatten_cons, List.flatten_nil, List.append_nil] at hy
        exact g2.2 _ u y hu hy
    · rcases List.mem_append.1 hu with hu | hu
      · exact h5 u hu
      · exact g3 u hu
    · rw [List.range_succ, List.map_append, List.map_append, List.sum_append, bulk_append]
      simp only [List.map_cons, List.map_nil, List.sum_cons, List.sum_nil, Rows.uptoBulkAll]
      omega
    · rcases List.mem_append.1 hy with hy | hy
      · exact h7 y hy
      · rcases List.mem_singleton.1 hy with rfl
        exact g5

theorem opn_slice {t e : TypeId} {c : α → List IV} {sz : α → Nat} {ok : α → Prop} {k : Nat} (ht : Tryz.prog.underlying t = some (.slice e)) (hk : Tryz.prog.cellsOf e = k) (hk0 : 0 < k) (hc : ∀ x, (c x).length = k) (O : Opn W enc e c sz ok) :
    Opn W enc t (cL c) (szL sz) (okL ok) := by
  intro fuel cs d ps h hd
  rcases open_slice ht h with ⟨rfl, hx⟩ | ⟨a, len, cap, m, n, D, Pl, rfl, _, hl, _, hm, hx, hel⟩
  · injection hx with hx1 hx2
    subst hx1
    refine ⟨[], ⟨rfl, fun i u x hu hx => ?_⟩, fun u hu => ?_, by simp [szL, Rows.uptoBulk], fun x hx => by cases hx⟩
    · match i, hu, hx with
      | 0, hu, hx =>
        simp at hu hx
        subst hu hx
        exact .emp _ _
    · rcases List.mem_singleton.1 hu with rfl
      rfl
  · injection hx with hx1 hx2
    subst hx1
    simp only [if_true] at hm
    subst hm
    have hbulk : Rows.uptoBulkAll ((List.range len).map D) + 1 ≤ Rows.uptoBulk (.slice ((List.range len).map D) ((List.range (m - len)).map fun j => D (len + j))) := by
      simp only [Rows.uptoBulk]; omega
    have hlen : len ≤ 1048576 := by
      have := bulk_length ((List.range len).map D)
      simp at this
      omega
    by_cases h0 : len = 0
    · subst h0
      refine ⟨[], ⟨rfl, fun i u x hu hx => ?_⟩, fun u hu => ?_, by simp [szL, Rows.uptoBulk], fun x hx => by cases hx⟩
      · match i, hu, hx with
        | 0, hu, hx =>
          simp at hu hx
          subst hu hx
          exact .emp _ _
      · rcases List.mem_singleton.1 hu with rfl
        rfl
    · obtain ⟨ab, ao, asp⟩ := a
      rw [hk] at hel
      have hsp : asp = none := by
        obtain ⟨cs', h1, _⟩ := hel 0 (by omega)
        obtain ⟨_, hl', hcell⟩ := World.cells?_some h1
        have h2 := hcell 0 hk0
        rw [List.getElem?_eq_getElem (by omega)] at h2
        unfold World.cell? Addr.add at h2
        simp only [Nat.zero_mul, if_true] at h2
        cases asp with
        | none => rfl
        | some q =>
          simp at h2
          split at h2 <;> simp at h2
      subst hsp
      obtain ⟨xs, us, h1, h2, h3, h4, h5, h6, h7⟩ := opn_elems (W := W) (t := e) (sz := sz) (ok := ok) (b := ab) (o := ao) hc D len fun i hi => by
        obtain ⟨cs', e1, e2⟩ := hel i (by omega)
        obtain ⟨_, hl', hcell⟩ := World.cells?_some e1
        obtain ⟨x, r1, r2, r3, r4⟩ := O _ _ _ _ e2 (Nat.le_trans (bulk_mem (List.mem_map.2 ⟨i, List.mem_range.2 hi, rfl⟩)) (by omega))
        refine ⟨x, cs', fun j hj => ?_, r1, r2, r3, r4⟩
        have := hcell j hj
        rw [addr_add, addr_add, Nat.add_assoc] at this
        exact this
      have hblk : ab < W.heap.size := by
        have hu0 : 0 < us.length := by rw [h2]; exact Nat.mul_pos (by omega) hk0
        exact World.block_lt_of_cell? W _ (h3 0 _ (List.getElem?_eq_getElem hu0))
      refine ⟨xs, ⟨rfl, fun i u x hu hx => ?_⟩, fun u hu => ?_, ?_, h7⟩
      · match i, hu, hx with
        | 0, hu, hx =>
          simp at hu hx
          subst hu hx
          refine .sl ab ao m k len (xs.map c) us (by simp [h1]) (fun e he => by obtain ⟨y, _, rfl⟩ := List.mem_map.1 he; exact hc y) hl (by omega) hblk h4.1 h5 h3 h4.2
      · rcases List.mem_singleton.1 hu with rfl
        rfl
      · show (xs.map sz).sum + 1 ≤ _
        omega

/-- The fields of a struct, from an offset on. -/
def OpnFs (W : World) (enc : TypeId × Value → H) (fs : List Field) (off len : Nat) (c : α → List IV) (sz : α → Nat) (ok : α → Prop) : Prop :=
  ∀ (n : Nat) (cs : List Value) (xs : List (DataW H × List MemPlace)), xs.length = fs.length →
    (∀ (i : Nat) f, fs[i]? = some f → DataW.trod enc Tryz.prog W 0 (fun _ => true) true n f.type ((cs.drop f.offset).take (Tryz.prog.cellsOf f.type)) = xs[i]?) → Rows.uptoBulkAll (xs.map (·.1)) ≤ 1048576 →
    ∃ x, RepIs W (lowS W) ((cs.drop off).take len) (c x) ∧ (∀ u ∈ (cs.drop off).take len, u.oneCell' = true) ∧ sz x ≤ Rows.uptoBulkAll (xs.map (·.1)) ∧ ok x

theorem opnFs_nil {off : Nat} : OpnFs W enc [] off 0 (fun _ : Unit => []) (fun _ => 0) okT := by
  intro n cs xs hx h hb
  exact ⟨(), ⟨by simp, by simp⟩, by simp, Nat.zero_le _, trivial⟩

theorem opnFs_cons {f : Field} {fs : List Field} {off k len : Nat} {c1 : α → List IV} {c2 : β → List IV} {s1 : α → Nat} {s2 : β → Nat} {ok1 : α → Prop} {ok2 : β → Prop} (ho : f.offset = off) (hk : Tryz.prog.cellsOf f.type = k)
    (O : Opn W enc f.type c1 s1 ok1) (hc : ∀ x, (c1 x).length = k) (R : OpnFs W enc fs (off + k) len c2 s2 ok2) :
    OpnFs W enc (f :: fs) off (k + len) (fun p : α × β => c1 p.1 ++ c2 p.2) (fun p => s1 p.1 + s2 p.2) (fun p => ok1 p.1 ∧ ok2 p.2) := by
  intro n cs xs hx h hb
  match xs, hx with
  | x :: xs, hx =>
    have e0 := h 0 f rfl
    rw [ho, hk] at e0
    simp only [List.map_cons, Rows.uptoBulkAll] at hb
    obtain ⟨a, r1, r2, r3, r4⟩ := O n _ x.1 x.2 e0 (by omega)
    obtain ⟨b, q1, q2, q3, q4⟩ := R n cs xs (by simpa using hx) (fun i g hg => by
      have := h (i + 1) g (by simpa using hg)
      simpa using this) (by omega)
    have hsplit : (cs.drop off).take (k + len) = (cs.drop off).take k ++ (cs.drop (off + k)).take len := by
      rw [List.take_add, List.drop_drop]
    have hl1 : ((cs.drop off).take k).length = (c1 a).length := r1.1
    refine ⟨(a, b), ?_, fun u hu => ?_, by simp only [List.map_cons, Rows.uptoBulkAll]; omega, r4, q4⟩
    · rw [hsplit]
      refine ⟨by rw [List.length_append, List.length_append, r1.1, q1.1], fun i u y hu hy => ?_⟩
      rw [List.getElem?_append, hl1] at hu
      rw [List.getElem?_append] at hy
      split at hu
      · rename_i hlt
        rw [if_pos hlt] at hy
        exact r1.2 i u y hu hy
      · rename_i hlt
        rw [if_neg hlt] at hy
        exact q1.2 _ u y hu hy
    · rw [hsplit] at hu
      rcases List.mem_append.1 hu with hu | hu
      · exact r2 u hu
      · exact q2 u hu

theorem opn_struct {t : TypeId} {fs : Array Field} {len : Nat} {c : α → List IV} {sz : α → Nat} {ok : α → Prop} {c' : β → List IV} {sz' : β → Nat} {ok' : β → Prop} (ht : Tryz.prog.underlying t = some (.struct fs)) (hl : Tryz.prog.cellsOf t = len)
    (R : OpnFs W enc fs.toList 0 len c sz ok) (conv : α → β) (hc : ∀ p, c' (conv p) = c p) (hs : ∀ p, sz' (conv p) = sz p + 1) (ho : ∀ p, ok p → ok' (conv p)) : Opn W enc t c' sz' ok' := by
  intro fuel cs d ps h hd
  obtain ⟨xs, n, rfl, hx, hcl, hxl, hf⟩ := DataW.trod_struct ht h
  injection hx with hx1 hx2
  subst hx1
  simp only [Rows.uptoBulk] at hd
  obtain ⟨x, r1, r2, r3, r4⟩ := R n cs xs (by rw [hxl]; simp) (fun i f hi => hf i f (by simpa using hi)) (by omega)
  rw [hl] at hcl
  have e : (cs.drop 0).take len = cs := by rw [List.drop_zero, ← hcl, List.take_length]
  rw [e] at r1 r2
  refine ⟨conv x, by rw [hc]; exact r1, r2, ?_, ho x r4⟩
  rw [hs]
  simp only [Rows.uptoBulk]
  omega

theorem arg_struct {t : TypeId} {fs : Array Field} {v : Value} {d : DataW H} {p : List MemPlace} {base : Nat} {c : α → List IV} {sz : α → Nat} {ok : α → Prop} (ht : Tryz.prog.underlying t = some (.struct fs)) (hv : Value.okWide Tryz.prog W .any base t v)
    (h : DataW.Trod enc Tryz.prog W 0 (fun _ => true) true t v d p) (O : Opn W enc t c sz ok) (hb : Rows.uptoBulk d ≤ 1048576) : ∃ x, RepI W (lowS W) v (.agg (c x)) ∧ sz x ≤ Rows.uptoBulk d ∧ ok x := by
  obtain ⟨cs, rfl, _⟩ := okWide_struct ht hv
  obtain ⟨fuel, hf⟩ := h
  obtain ⟨x, r1, r2, r3, r4⟩ := O fuel cs.toList d p (by simpa [Value.cells] using hf) hb
  refine ⟨x, ?_, r3, r4⟩
  have := RepI.agg (w := W) (S := lowS W) cs.toList (c x) r1.1 r2 r1.2
  simpa using this
/-- A law's contract gives what the row asks. -/
theorem sp_law {f : FuncId} {W : World} {vs : List Value} {xs : List Arg} (h : Sp Tryz.prog f xs (.im (nB true))) (ha : ArgsOk W (lowS W) vs xs []) :
    Calls Tryz.prog f vs.toArray W fun e W' => e = .returned (.bool true) ∧ Below W.heap.size W W' := by
  refine (h.2 W (lowS W) vs [] (fun b hb => hb) ha List.nodup_nil (fun b hb => by cases hb)).mono ?_
  rintro e W' ⟨v, F', rfl, hb, ⟨us, F1, F2, e1, ho, _, _⟩, _, _⟩
  have e1 : us = [v] := e1
  subst e1
  refine ⟨?_, hb.below fun b hb => by cases hb⟩
  obtain ⟨F3, F4, ⟨hr, _⟩, _⟩ := ho
  cases hr
  rfl
end
end Go.Proofs.YtpmebphhbgpapaaGreatDoor.Sym

namespace Go.Proofs.YtpmebphhbgpapaaGreatDoor.Sym
open Go.RowKit
set_option maxRecDepth 100000
section
variable {H : Type} {enc : TypeId × Value → H} {W : World}
theorem opn_0 : Opn W enc 38 (cL cI) (szL sz1) (okL inR) := opn_slice (k := 1) Tryz.underlying38 (by kernel_rfl) (by decide) (fun _ => rfl) opn_int
theorem opn_1 : Opn W enc 22 (cL (cL cI)) (szL (szL sz1)) (okL (okL inR)) := opn_slice (k := 1) Tryz.underlying22 (by kernel_rfl) (by decide) (fun _ => rfl) opn_0
def sz_api_Table (x : T_api_Table) : Nat := (sz1 x.Inputs + ((szL (szL sz1)) x.Prefixes + ((szL (szL sz1)) x.Suffixes + 0))) + 1
def ok_api_Table (x : T_api_Table) : Prop := inR x.Inputs ∧ (okL (okL inR)) x.Prefixes ∧ (okL (okL inR)) x.Suffixes
theorem opn_api_Table : Opn W enc 24 c_api_Table sz_api_Table ok_api_Table :=
  opn_struct (len := 3) Tryz.underlying24 (by kernel_rfl) (opnFs_cons (k := 1) rfl (by kernel_rfl) opn_int (fun _ => rfl) (opnFs_cons (k := 1) rfl (by kernel_rfl) opn_1 (fun _ => rfl) (opnFs_cons (k := 1) rfl (by kernel_rfl) opn_1 (fun _ => rfl) opnFs_nil))) (fun p => ⟨p.1, p.2.1, p.2.2.1⟩) (fun _ => rfl) (fun _ => rfl) (fun p h => ⟨h.1, h.2.1, h.2.2.1⟩)
def sz_api_Trace (x : T_api_Trace) : Nat := ((szL sz1) x.In + ((szL sz1) x.Out + 0)) + 1
def ok_api_Trace (x : T_api_Trace) : Prop := (okL inR) x.In ∧ (okL inR) x.Out
theorem opn_api_Trace : Opn W enc 90 c_api_Trace sz_api_Trace ok_api_Trace :=
  opn_struct (len := 2) Tryz.underlying90 (by kernel_rfl) (opnFs_cons (k := 1) rfl (by kernel_rfl) opn_0 (fun _ => rfl) (opnFs_cons (k := 1) rfl (by kernel_rfl) opn_0 (fun _ => rfl) opnFs_nil)) (fun p => ⟨p.1, p.2.1⟩) (fun _ => rfl) (fun _ => rfl) (fun p h => ⟨h.1, h.2.1⟩)
theorem opn_4 : Opn W enc 35 (cL c_api_Trace) (szL sz_api_Trace) (okL ok_api_Trace) := opn_slice (k := 2) Tryz.underlying35 (by kernel_rfl) (by decide) (fun _ => rfl) opn_api_Trace
def sz_api_Obs (x : T_api_Obs) : Nat := (sz1 x.Inputs + ((szL sz_api_Trace) x.Traces + 0)) + 1
def ok_api_Obs (x : T_api_Obs) : Prop := inR x.Inputs ∧ (okL ok_api_Trace) x.Traces
theorem opn_api_Obs : Opn W enc 37 c_api_Obs sz_api_Obs ok_api_Obs :=
  opn_struct (len := 2) Tryz.underlying37 (by kernel_rfl) (opnFs_cons (k := 1) rfl (by kernel_rfl) opn_int (fun _ => rfl) (opnFs_cons (k := 1) rfl (by kernel_rfl) opn_4 (fun _ => rfl) opnFs_nil)) (fun p => ⟨p.1, p.2.1⟩) (fun _ => rfl) (fun _ => rfl) (fun p h => ⟨h.1, h.2.1⟩)
end
end Go.Proofs.YtpmebphhbgpapaaGreatDoor.Sym

/-
  Plain functions on words (lists of integers) and lists of words, and their laws: no program in sight.
-/
namespace Go.Proofs.YtpmebphhbgpapaaGreatDoor

/-- The length of the longest common prefix. -/
def common : List Int → List Int → Nat
  | x :: xs, y :: ys => if x = y then common xs ys + 1 else 0
  | _, _ => 0

theorem common_le : ∀ xs ys : List Int, common xs ys ≤ xs.length ∧ common xs ys ≤ ys.length
  | [], _ => by simp [common]
  | _ :: _, [] => by simp [common]
  | x :: xs, y :: ys => by
    have h := common_le xs ys
    simp only [common]
    split <;> simp <;> omega

theorem common_end {xs ys : List Int} {k : Nat} (h : xs.length ≤ k ∨ ys.length ≤ k) : common (xs.drop k) (ys.drop k) = 0 := by
  rcases h with h | h
  · rw [List.drop_eq_nil_of_le h]; simp [common]
  · rw [List.drop_eq_nil_of_le h]; cases xs.drop k <;> simp [common]

theorem common_self : ∀ xs : List Int, common xs xs = xs.length
  | [] => rfl
  | x :: xs => by simp [common, common_self xs]

theorem common_full : ∀ xs ys : List Int, common xs ys = xs.length → common xs ys = ys.length → xs = ys
  | [], [], _, _ => rfl
  | [], y :: ys, _, h => by simp [common] at h
  | x :: xs, [], h, _ => by simp [common] at h
  | x :: xs, y :: ys, h1, h2 => by
    simp only [common] at h1 h2
    split at h1
    · rename_i he
      subst he
      simp at h1 h2
      rw [common_full xs ys h1 h2]
    · simp at h1

/-- 'Same' of the reference. -/
theorem same_iff (xs ys : List Int) : (xs.length = ys.length ∧ common xs ys = xs.length) ↔ xs = ys := by
  constructor
  · rintro ⟨h1, h2⟩
    exact common_full xs ys h2 (by omega)
  · rintro rfl
    exact ⟨rfl, common_self xs⟩

/-- 'HasPrefix': the second is a prefix of the first. -/
theorem prefix_iff : ∀ w p : List Int, common w p = p.length ↔ p <+: w
  | [], [] => by simp [common]
  | [], y :: ys => by simp [common]
  | x :: xs, [] => by simp [common]
  | x :: xs, y :: ys => by
    simp only [common, List.length_cons, List.cons_prefix_cons]
    by_cases h : x = y
    · subst h
      simp [prefix_iff xs ys]
    · rw [if_neg h]
      constructor
      · intro h'; omega
      · rintro ⟨rfl, _⟩; exact absurd rfl h

/-- Dictionary order: -1, 0 or 1. -/
def lexI : List Int → List Int → Int
  | [], [] => 0
  | [], _ :: _ => -1
  | _ :: _, [] => 1
  | x :: xs, y :: ys => if x < y then -1 else if y < x then 1 else lexI xs ys

/-- Shortlex order: -1, 0 or 1. -/
def cmpW (a b : List Int) : Int := if a.length < b.length then -1 else if b.length < a.length then 1 else lexI a b

theorem lexI_range : ∀ a b : List Int, lexI a b = -1 ∨ lexI a b = 0 ∨ lexI a b = 1
  | [], [] => by simp [lexI]
  | [], _ :: _ => by simp [lexI]
  | _ :: _, [] => by simp [lexI]
  | x :: xs, y :: ys => by
    simp only [lexI]
    split
    · simp
    · split
      · simp
      · exact lexI_range xs ys

theorem lexI_zero : ∀ a b : List Int, lexI a b = 0 ↔ a = b
  | [], [] => by simp [lexI]
  | [], _ :: _ => by simp [lexI]
  | _ :: _, [] => by simp [lexI]
  | x :: xs, y :: ys => by
    simp only [lexI, List.cons.injEq]
    by_cases h1 : x < y
    · rw [if_pos h1]; constructor
      · intro h; omega
      · rintro ⟨rfl, _⟩; omega
    · rw [if_neg h1]
      by_cases h2 : y < x
      · rw [if_pos h2]; constructor
        · intro h; omega
        · rintro ⟨rfl, _⟩; omega
      · rw [if_neg h2, lexI_zero xs ys]
        constructor
        · intro h; exact ⟨by omega, h⟩
        · rintro ⟨_, h⟩; exact h

theorem lexI_refl (a : List Int) : lexI a a = 0 := (lexI_zero a a).2 rfl

theorem lexI_swap : ∀ a b : List Int, lexI b a = - lexI a b
  | [], [] => by simp [lexI]
  | [], _ :: _ => by simp [lexI]
  | _ :: _, [] => by simp [lexI]
  | x :: xs, y :: ys => by
    simp only [lexI]
    by_cases h1 : x < y
    · rw [if_neg (show ¬ y < x by omega), if_pos h1, if_pos h1]; simp
    · by_cases h2 : y < x
      · rw [if_pos h2, if_neg h1, if_pos h2]
      · rw [if_neg h2, if_neg h1, if_neg h1, if_neg h2]; exact lexI_swap xs ys

theorem lexI_trans : ∀ a b c : List Int, lexI a b = -1 → lexI b c = -1 → lexI a c = -1
  | [], [], _, h, _ => by simp [lexI] at h
  | [], _ :: _, [], _, h => by simp [lexI] at h
  | [], _ :: _, _ :: _, _, _ => by simp [lexI]
  | _ :: _, [], _, h, _ => by simp [lexI] at h
  | _ :: _, _ :: _, [], _, h => by simp [lexI] at h
  | x :: xs, y :: ys, z :: zs, h1, h2 => by
    simp only [lexI] at h1 h2 ⊢
    by_cases p : x < y
    · by_cases q : y < z
      · rw [if_pos (by omega)]
      · rw [if_neg q] at h2
        by_cases r : z < y
        · rw [if_pos r] at h2; omega
        · rw [if_pos (by omega)]
    · rw [if_neg p] at h1
      by_cases p' : y < x
      · rw [if_pos p'] at h1; omega
      · rw [if_neg p'] at h1
        by_cases q : y < z
        · rw [if_pos (by omega)]
        · rw [if_neg q] at h2
          by_cases r : z < y
          · rw [if_pos r] at h2; omega
          · rw [if_neg r] at h2
            rw [if_neg (by omega), if_neg (by omega)]
            exact lexI_trans xs ys zs h1 h2

/-- 'Lex' of the reference, by the common prefix. -/
theorem lexI_common : ∀ a b : List Int, lexI a b =
    if common a b = a.length ∧ common a b = b.length then 0 else
    if common a b = a.length ∨ (common a b < b.length ∧ a.getD (common a b) 0 < b.getD (common a b) 0) then -1 else 1
  | [], [] => by simp [lexI, common]
  | [], _ :: _ => by simp [lexI, common]
  | _ :: _, [] => by simp [lexI, common]
  | x :: xs, y :: ys => by
    have ih := lexI_common xs ys
    simp only [lexI, common]
    by_cases h : x = y
    · subst h
      rw [if_neg (by omega), if_neg (by omega), ih]
      simp
    · by_cases h1 : x < y
      · simp [h, h1]
      · have h2 : y < x := by omega
        simp [h, h1, h2]

theorem cmpW_range (a b : List Int) : cmpW a b = -1 ∨ cmpW a b = 0 ∨ cmpW a b = 1 := by
  unfold cmpW
  split
  · simp
  · split
    · simp
    · exact lexI_range a b

theorem cmpW_zero (a b : List Int) : cmpW a b = 0 ↔ a = b := by
  unfold cmpW
  by_cases h1 : a.length < b.length
  · rw [if_pos h1]; constructor
    · intro h; omega
    · rintro rfl; omega
  · rw [if_neg h1]
    by_cases h2 : b.length < a.length
    · rw [if_pos h2]; constructor
      · intro h; omega
      · rintro rfl; omega
    · rw [if_neg h2, lexI_zero]

theorem cmpW_refl (a : List Int) : cmpW a a = 0 := (cmpW_zero a a).2 rfl

theorem cmpW_swap (a b : List Int) : cmpW b a = - cmpW a b := by
  unfold cmpW
  by_cases h1 : a.length < b.length
  · rw [if_neg (by omega), if_pos h1, if_pos h1]; simp
  · by_cases h2 : b.length < a.length
    · rw [if_pos h2, if_neg h1, if_pos h2]
    · rw [if_neg h2, if_neg h1, if_neg h1, if_neg h2]; exact lexI_swap a b

theorem cmpW_trans (a b c : List Int) (h1 : cmpW a b = -1) (h2 : cmpW b c = -1) : cmpW a c = -1 := by
  unfold cmpW at *
  by_cases p : a.length < b.length
  · by_cases q : b.length < c.length
    · rw [if_pos (by omega)]
    · rw [if_neg q] at h2
      by_cases r : c.length < b.length
      · rw [if_pos r] at h2; omega
      · rw [if_pos (by omega)]
  · rw [if_neg p] at h1
    by_cases p' : b.length < a.length
    · rw [if_pos p'] at h1; omega
    · rw [if_neg p'] at h1
      by_cases q : b.length < c.length
      · rw [if_pos (by omega)]
      · rw [if_neg q] at h2
        by_cases r : c.length < b.length
        · rw [if_pos r] at h2; omega
        · rw [if_neg r] at h2
          rw [if_neg (by omega), if_neg (by omega)]
          exact lexI_trans a b c h1 h2

/-- Strictly ascending in shortlex order. -/
def Asc (l : List (List Int)) : Prop := l.Pairwise fun a b => cmpW a b = -1

/-- The length of the longest word. -/
def longestL (l : List (List Int)) : Nat := l.foldl (fun n w => max n w.length) 0

theorem foldl_max_le (l : List (List Int)) : ∀ n b : Nat, (l.foldl (fun n w => max n w.length) n ≤ b ↔ n ≤ b ∧ ∀ x ∈ l, x.length ≤ b) := by
  induction l with
  | nil => intro n b; simp
  | cons y l ih =>
    intro n b
    rw [List.foldl_cons, ih]
    simp only [List.forall_mem_cons]
    constructor
    · rintro ⟨h1, h2⟩; exact ⟨by omega, by omega, h2⟩
    · rintro ⟨h1, h2, h3⟩; exact ⟨by omega, h3⟩

theorem longestL_le (l : List (List Int)) (b : Nat) : longestL l ≤ b ↔ ∀ x ∈ l, x.length ≤ b := by
  rw [longestL, foldl_max_le]; simp

/-- How many words of a sorted list are before a word. -/
def placeL (l : List (List Int)) (w : List Int) : Nat := (l.takeWhile fun x => cmpW x w == -1).length

theorem placeL_le (l : List (List Int)) (w : List Int) : placeL l w ≤ l.length := by
  unfold placeL
  exact (List.takeWhile_sublist _).length_le

/-- 'Check' of the reference and of the program. -/
def checkI (xs : List Int) (inputs : Int) : Int :=
  if 1 ≤ inputs ∧ inputs ≤ 1024 then if 1024 < xs.length then 3 else if xs.all fun a => decide (0 ≤ a ∧ a < inputs) then 0 else 1 else 2

/-- Sorted and strictly ascending: what stands earlier is before. -/
theorem Asc.get {l : List (List Int)} (h : Asc l) {i j : Nat} {x y : List Int} (hij : i < j) (hx : l[i]? = some x) (hy : l[j]? = some y) : cmpW x y = -1 := by
  have hj : j < l.length := (List.getElem?_eq_some_iff.1 hy).1
  have h1 := List.pairwise_iff_getElem.1 h i j (by omega) hj hij
  rw [List.getElem?_eq_getElem (by omega)] at hx
  rw [List.getElem?_eq_getElem hj] at hy
  injection hx with hx
  injection hy with hy
  rw [← hx, ← hy]
  exact h1

/-- A word put into its place of a sorted list. -/
def insW (l : List (List Int)) (x : List Int) : List (List Int) := if x ∈ l then l else l.take (placeL l x) ++ x :: l.drop (placeL l x)

theorem placeL_spec : ∀ (l : List (List Int)) (w : List Int), (∀ i x, i < placeL l w → l[i]? = some x → cmpW x w = -1) ∧ (∀ x, l[placeL l w]? = some x → cmpW x w ≠ -1)
  | [], w => by simp [placeL]
  | y :: l, w => by
    have ih := placeL_spec l w
    by_cases hy : cmpW y w = -1
    · have e : placeL (y :: l) w = placeL l w + 1 := by simp [placeL, hy]
      rw [e]
      refine ⟨fun i x hi hx => ?_, fun x hx => ih.2 x (by simpa using hx)⟩
      cases i with
      | zero => simp at hx; rw [← hx]; exact hy
      | succ i => exact ih.1 i x (by omega) (by simpa using hx)
    · have e : placeL (y :: l) w = 0 := by simp [placeL, hy]
      rw [e]
      refine ⟨fun i x hi => absurd hi (by omega), fun x hx => ?_⟩
      simp at hx
      rw [← hx]
      exact hy

theorem mem_insW (l : List (List Int)) (x y : List Int) : y ∈ insW l x ↔ y ∈ l ∨ y = x := by
  unfold insW
  split
  · rename_i h
    constructor
    · exact Or.inl
    · rintro (h' | rfl)
      · exact h'
      · exact h
  · have e : y ∈ l ↔ y ∈ l.take (placeL l x) ∨ y ∈ l.drop (placeL l x) := by
      rw [← List.mem_append, List.take_append_drop]
    rw [List.mem_append, List.mem_cons, e]
    constructor
    · rintro (h | h | h)
      · exact Or.inl (Or.inl h)
      · exact Or.inr h
      · exact Or.inl (Or.inr h)
    · rintro ((h | h) | h)
      · exact Or.inl h
      · exact Or.inr (Or.inr h)
      · exact Or.inr (Or.inl h)

theorem Asc.insW {l : List (List Int)} (h : Asc l) (x : List Int) : Asc (insW l x) := by
  unfold Go.Proofs.YtpmebphhbgpapaaGreatDoor.insW
  split
  · exact h
  · rename_i hm
    have hs := placeL_spec l x
    have hlo : ∀ a ∈ l.take (placeL l x), cmpW a x = -1 := fun a ha => by
      obtain ⟨i, hi⟩ := List.getElem?_of_mem ha
      rw [List.getElem?_take] at hi
      split at hi
      · rename_i hlt; exact hs.1 i a hlt hi
      · cases hi
    have hhi : ∀ b ∈ l.drop (placeL l x), cmpW x b = -1 := fun b hb => by
      obtain ⟨i, hi⟩ := List.getElem?_of_mem hb
      rw [List.getElem?_drop] at hi
      have hlen : placeL l x + i < l.length := (List.getElem?_eq_some_iff.1 hi).1
      have hg : l[placeL l x]? = some l[placeL l x] := List.getElem?_eq_getElem (by omega)
      have h0 := hs.2 _ hg
      have hne : cmpW l[placeL l x] x ≠ 0 := fun e => hm (by rw [← (cmpW_zero _ _).1 e]; exact List.getElem_mem _)
      have hr := cmpW_range l[placeL l x] x
      have h1 : cmpW x l[placeL l x] = -1 := by rw [cmpW_swap]; omega
      by_cases hi0 : i = 0
      · subst hi0
        rw [Nat.add_zero, hg] at hi
        injection hi with hi
        rw [← hi]; exact h1
      · exact cmpW_trans _ _ _ h1 (h.get (by omega) hg hi)
    unfold Asc
    rw [List.pairwise_append, List.pairwise_cons]
    refine ⟨List.Pairwise.sublist (List.take_sublist _ _) h, ⟨hhi, List.Pairwise.sublist (List.drop_sublist _ _) h⟩, fun a ha b hb => ?_⟩
    rcases List.mem_cons.1 hb with rfl | hb
    · exact hlo a ha
    · exact cmpW_trans _ _ _ (hlo a ha) (hhi b hb)

theorem insW_length (l : List (List Int)) (x : List Int) : (insW l x).length ≤ l.length + 1 := by
  unfold insW
  split
  · omega
  · simp; omega

theorem asc_nil : Asc [] := List.Pairwise.nil

/-- A sorted list is known by its members. -/
theorem asc_ext : ∀ {l m : List (List Int)}, Asc l → Asc m → (∀ x, x ∈ l ↔ x ∈ m) → l = m
  | [], [], _, _, _ => rfl
  | [], y :: m, _, _, h => absurd ((h y).2 (by simp)) (by simp)
  | x :: l, [], _, _, h => absurd ((h x).1 (by simp)) (by simp)
  | x :: l, y :: m, hl, hm, h => by
    have h1 := List.pairwise_cons.1 hl
    have h2 := List.pairwise_cons.1 hm
    have hxy : x = y := by
      rcases List.mem_cons.1 ((h x).1 (by simp)) with e | hx
      · exact e
      · rcases List.mem_cons.1 ((h y).2 (by simp)) with e | hy
        · exact e.symm
        · have a := h2.1 x hx
          have b := h1.1 y hy
          rw [cmpW_swap] at a
          omega
    subst hxy
    have hirr : ∀ {k : List (List Int)}, (∀ b ∈ k, cmpW x b = -1) → x ∉ k := fun hk hx => by
      have := hk x hx
      rw [cmpW_refl] at this
      omega
    rw [asc_ext h1.2 h2.2 fun z => ?_]
    have := h z
    simp only [List.mem_cons] at this
    constructor
    · intro hz
      rcases this.1 (Or.inr hz) with rfl | h'
      · exact absurd hz (hirr h1.1)
      · exact h'
    · intro hz
      rcases this.2 (Or.inr hz) with rfl | h'
      · exact absurd hz (hirr h2.1)
      · exact h'

/-- The different words of a list in shortlex order: 'Sorted' of the reference. -/
def sortW (l : List (List Int)) : List (List Int) := l.foldl insW []

theorem foldl_insW : ∀ (l a : List (List Int)), Asc a → Asc (l.foldl insW a) ∧ (∀ x, x ∈ l.foldl insW a ↔ x ∈ a ∨ x ∈ l) ∧ (l.foldl insW a).length ≤ a.length + l.length
  | [], a, h => ⟨h, fun x => by simp, by simp⟩
  | y :: l, a, h => by
    obtain ⟨h1, h2, h3⟩ := foldl_insW l (insW a y) (h.insW y)
    refine ⟨h1, fun x => ?_, ?_⟩
    · rw [List.foldl_cons, h2, mem_insW, List.mem_cons, or_assoc]
    · have := insW_length a y
      rw [List.foldl_cons, List.length_cons]
      omega

theorem sortW_asc (l : List (List Int)) : Asc (sortW l) := (foldl_insW l [] asc_nil).1
theorem mem_sortW (l : List (List Int)) (x : List Int) : x ∈ sortW l ↔ x ∈ l := by
  rw [sortW, (foldl_insW l [] asc_nil).2.1 x]; simp
theorem sortW_length (l : List (List Int)) : (sortW l).length ≤ l.length := by
  have := (foldl_insW l [] asc_nil).2.2
  simpa [sortW] using this

end Go.Proofs.YtpmebphhbgpapaaGreatDoor

/-
  How slices of integers, of words and of lists of words read in a world, and what keeps them so. No function of the program in sight.
-/
namespace Go.Proofs.YtpmebphhbgpapaaGreatDoor
open Go.RowKit

/-- What was a cell stays that cell. -/
def Keeps (w w' : World) : Prop := ∀ p u, w.cell? p = some u → w'.cell? p = some u

theorem Keeps.refl (w : World) : Keeps w w := fun _ _ h => h
theorem Keeps.trans {a b c : World} (h : Keeps a b) (k : Keeps b c) : Keeps a c := fun p u hu => k p u (h p u hu)
theorem Keeps.of_below {w w' : World} (h : Below w.heap.size w w') : Keeps w w' := fun p _ hu =>
  (h.cell (p := p) (World.block_lt_of_cell? w p hu)).trans hu
theorem Keeps.drewN (w : World) (q : Nat) : Keeps w (w.drewN q) := fun _ _ h => h

/-- The slice '.slice A n c' is a row of n places, of which each reads as R says. -/
def RowOf {α : Type} (w : World) (R : Value → α → Prop) (A : Option Addr) (n c : Nat) (l : List α) : Prop :=
  l.length = n ∧ n ≤ c ∧ n ≤ 17592186044416 ∧
    (0 < n → ∃ b o, A = some ⟨b, o, none⟩ ∧ ∀ i x, l[i]? = some x → ∃ u, w.cell? ⟨b, o + i, none⟩ = some u ∧ R u x)

def IsInt (u : Value) (x : Int) : Prop := u = .int .i64 x

/-- The value reads as a word. -/
def IsI (w : World) (v : Value) (xs : List Int) : Prop := ∃ A n c, v = .slice A n c ∧ RowOf w IsInt A n c xs
/-- The value reads as a list of words. -/
def IsW (w : World) (v : Value) (l : List (List Int)) : Prop := ∃ A n c, v = .slice A n c ∧ RowOf w (IsI w) A n c l
/-- The value reads as a list of lists of words. -/
def IsL (w : World) (v : Value) (l : List (List (List Int))) : Prop := ∃ A n c, v = .slice A n c ∧ RowOf w (IsW w) A n c l

section
variable {α : Type} {w w' : World} {R R' : Value → α → Prop} {A : Option Addr} {n c k : Nat} {l : List α}

theorem RowOf.len (h : RowOf w R A n c l) : l.length = n := h.1
theorem RowOf.cap (h : RowOf w R A n c l) : n ≤ c := h.2.1
theorem RowOf.small (h : RowOf w R A n c l) : n ≤ 17592186044416 := h.2.2.1

theorem RowOf.keep (h : RowOf w R A n c l) (hk : Keeps w w') (hR : ∀ u x, R u x → R' u x) : RowOf w' R' A n c l :=
  ⟨h.1, h.2.1, h.2.2.1, fun hn => by
    obtain ⟨b, o, e, hc⟩ := h.2.2.2 hn
    refine ⟨b, o, e, fun i x hx => ?_⟩
    obtain ⟨u, hu, hr⟩ := hc i x hx
    exact ⟨u, hk _ _ hu, hR _ _ hr⟩⟩

theorem RowOf.at_ (h : RowOf w R A n c l) (hk : k < n) : ∃ b o u x, A = some ⟨b, o, none⟩ ∧ l[k]? = some x ∧ w.cell? ⟨b, o + k, none⟩ = some u ∧ R u x := by
  obtain ⟨b, o, e, hc⟩ := h.2.2.2 (by omega)
  have hl : k < l.length := by rw [h.1]; exact hk
  obtain ⟨u, hu, hr⟩ := hc k l[k] (List.getElem?_eq_getElem hl)
  exact ⟨b, o, u, l[k], e, List.getElem?_eq_getElem hl, hu, hr⟩

theorem RowOf.nil_ : RowOf w R none 0 0 ([] : List α) := ⟨rfl, Nat.le_refl _, by omega, fun h => absurd h (by omega)⟩

/-- The first k places. -/
theorem RowOf.take (h : RowOf w R A n c l) (hk : k ≤ n) : RowOf w R A k c (l.take k) := by
  refine ⟨by rw [List.length_take, h.1]; omega, Nat.le_trans hk h.2.1, Nat.le_trans hk h.2.2.1, fun h0 => ?_⟩
  obtain ⟨b, o, e, hc⟩ := h.2.2.2 (by omega)
  refine ⟨b, o, e, fun i x hx => hc i x ?_⟩
  rw [List.getElem?_take] at hx
  split at hx
  · exact hx
  · cases hx

end

theorem IsI.keep {w w' : World} {v : Value} {xs : List Int} (h : IsI w v xs) (hk : Keeps w w') : IsI w' v xs := by
  obtain ⟨A, n, c, e, hr⟩ := h
  exact ⟨A, n, c, e, hr.keep hk fun _ _ h => h⟩
theorem IsW.keep {w w' : World} {v : Value} {l : List (List Int)} (h : IsW w v l) (hk : Keeps w w') : IsW w' v l := by
  obtain ⟨A, n, c, e, hr⟩ := h
  exact ⟨A, n, c, e, hr.keep hk fun _ _ h => h.keep hk⟩
theorem IsL.keep {w w' : World} {v : Value} {l : List (List (List Int))} (h : IsL w v l) (hk : Keeps w w') : IsL w' v l := by
  obtain ⟨A, n, c, e, hr⟩ := h
  exact ⟨A, n, c, e, hr.keep hk fun _ _ h => h.keep hk⟩

theorem IsI.below {w w' : World} {v : Value} {xs : List Int} (h : IsI w v xs) (hb : Below w.heap.size w w') : IsI w' v xs := h.keep (.of_below hb)
theorem IsW.below {w w' : World} {v : Value} {l : List (List Int)} (h : IsW w v l) (hb : Below w.heap.size w w') : IsW w' v l := h.keep (.of_below hb)
theorem IsL.below {w w' : World} {v : Value} {l : List (List (List Int))} (h : IsL w v l) (hb : Below w.heap.size w w') : IsL w' v l := h.keep (.of_below hb)

theorem IsI.nil_ (w : World) : IsI w (.slice none 0 0) [] := ⟨_, _, _, rfl, RowOf.nil_⟩
theorem IsW.nil_ (w : World) : IsW w (.slice none 0 0) [] := ⟨_, _, _, rfl, RowOf.nil_⟩

/-- The facts of a read, ready for a walk: the element x at k, and its cell. -/
theorem RowOf.int_at {w : World} {A : Option Addr} {n c k : Nat} {xs : List Int} (h : RowOf w IsInt A n c xs) (hk : k < n) :
    ∃ b o x, A = some ⟨b, o, none⟩ ∧ xs[k]? = some x ∧ w.cell? ⟨b, o + k, none⟩ = some (.int .i64 x) := by
  obtain ⟨b, o, u, x, e, hx, hu, rfl⟩ := h.at_ hk
  exact ⟨b, o, x, e, hx, hu⟩
theorem drewN_two (w : World) (a b : Nat) : ∃ r, (w.drewN a).drewN b = w.drewN r := ⟨a + b, by rw [World.drewN_drewN]⟩

theorem ret_int {k : IntKind} {a b : Int} (h : a = b) : Ending.returned (.int k a) = .returned (.int k b) := by rw [h]
/-- The world is another one's behind some draws. -/
def Qt (w w' : World) : Prop := ∃ q, w' = w.drewN q
theorem Qt.refl (w : World) : Qt w w := ⟨0, rfl⟩
theorem Qt.drewN {w w' : World} (h : Qt w w') (n : Nat) : Qt w (w'.drewN n) := by
  obtain ⟨q, rfl⟩ := h
  exact drewN_two w q n
theorem Qt.keeps {w w' : World} (h : Qt w w') : Keeps w w' := by
  obtain ⟨q, rfl⟩ := h
  exact Keeps.drewN w q
theorem Qt.trans {a b c : World} (h : Qt a b) (k : Qt b c) : Qt a c := by
  obtain ⟨q, rfl⟩ := k
  exact h.drewN q

theorem RowOf.kept {α : Type} {w w' : World} {R : Value → α → Prop} {A : Option Addr} {n c : Nat} {l : List α} (h : RowOf w R A n c l) (hk : Keeps w w') : RowOf w' R A n c l := h.keep hk fun _ _ h => h
theorem RowOf.words {w w' : World} {A : Option Addr} {n c : Nat} {l : List (List Int)} (h : RowOf w (IsI w) A n c l) (hk : Keeps w w') : RowOf w' (IsI w') A n c l := h.keep hk fun _ _ h => h.keep hk
theorem RowOf.lists {w w' : World} {A : Option Addr} {n c : Nat} {l : List (List (List Int))} (h : RowOf w (IsW w) A n c l) (hk : Keeps w w') : RowOf w' (IsW w') A n c l := h.keep hk fun _ _ h => h.keep hk

theorem take_step {α : Type} {l : List α} {k : Nat} {x : α} (hl : l[k]? = some x) : l.take (k + 1) = l.take k ++ [x] := by
  rw [List.take_add_one, hl]; rfl

theorem getD_of_some {α : Type} {l : List α} {k : Nat} {x d : α} (h : l[k]? = some x) : l.getD k d = x := by simp [List.getD_eq_getElem?_getD, h]

end Go.Proofs.YtpmebphhbgpapaaGreatDoor

/-
  Rows that the call itself made: words and lists of words that grow by append. No function of the program in sight.
-/
namespace Go.Proofs.YtpmebphhbgpapaaGreatDoor
open Go.RowKit

theorem Tryz.infoInt : (Tryz.prog.info? 3).map (fun i => (i.zero, i.size, i.bytes)) = some (some (.int .i64 0), 1, 8) := by kernel_rfl
theorem Tryz.infoWord : (Tryz.prog.info? 38).map (fun i => (i.zero, i.size, i.bytes)) = some (some (.slice none 0 0), 1, 24) := by kernel_rfl

theorem addr_add (b o j : Nat) : (⟨b, o, none⟩ : Addr).add j = ⟨b, o + j, none⟩ := by
  unfold Addr.add
  split
  · rename_i h; subst h; rfl
  · rfl

/-- What is appended: the cells of a row, whatever its address where it is empty. -/
def Src (w : World) (A : Option Addr) (m : Nat) (news : List Value) : Prop :=
  news.length = m ∧ (0 < m → ∃ b o, A = some ⟨b, o, none⟩ ∧ ∀ j u, news[j]? = some u → w.cell? ⟨b, o + j, none⟩ = some u)

section
variable {P : Program} {w : World}

theorem run_append_row (base : Nat) (t ty e : TypeId) (i : TypeInfo) (z : Value) (bytes : Nat) (ht : P.underlying t = some (.slice e)) (hi : P.info? e = some i) (hz : i.zero = some z)
    (hsize : i.size = 1) (hby : i.bytes = bytes) (hzs : z.cells.size = 1) (v : Value) (n : Nat) (xs : List Value) (hown : w.ownsRow base e 1 v n xs)
    (A : Option Addr) (m c : Nat) (news : List Value) (hs : Src w A m news) (h1 : ∀ u ∈ news, u.oneCell' = true)
    (h63 : n + m ≤ maxLen) (hbytes : (n + m) * bytes ≤ 140737488355328) (hbase : base ≤ w.heap.size) :
    ∃ v' w', (Builtin.append_ #[t, t] ty #[v, .slice A m c]).run P w = .ok v' w' ∧ w'.ownsRow base e 1 v' (n + m) (xs ++ news) ∧ w.grownBy w' v.ownBlock ∧
      (v'.ownBlock = v.ownBlock ∨ v'.ownBlock = some w.heap.size) := by
  obtain ⟨hl, hc⟩ := hs
  cases A with
  | none =>
    have hm : m = 0 := by
      rcases Nat.eq_zero_or_pos m with h0 | h0
      · exact h0
      · obtain ⟨b, o, h, _⟩ := hc h0; cases h
    subst hm
    have hn : news = [] := List.eq_nil_of_length_eq_zero hl
    subst hn
    refine ⟨v, w, ?_, by simpa using hown, World.grownBy.refl w _, .inl rfl⟩
    rcases hown.2 with ⟨rfl, rfl⟩ | ⟨g, cap, cur, rfl, _, _, hnc, _⟩
    · simp [Builtin.append_, run_underlying ht, sizeOf, typeInfo, hi, Builtin.lenOf, Builtin.firstCells]
    · simp [Builtin.append_, run_underlying ht, sizeOf, typeInfo, hi, Builtin.lenOf, Builtin.firstCells, hnc, storeCells]
  | some ad =>
    have hcells : ∀ j u, news[j]? = some u → w.cell? (ad.add j) = some u := by
      intro j u hu
      rcases Nat.eq_zero_or_pos m with h0 | h0
      · subst h0
        have hn : news = [] := List.eq_nil_of_length_eq_zero hl
        subst hn
        simp at hu
      · obtain ⟨b, o, h, hcc⟩ := hc h0
        injection h with h
        subst h
        rw [addr_add]
        exact hcc j u hu
    obtain ⟨v', w', hrun, h2, h3, _, h5⟩ := run_append_own_at (P := P) w base t ty e i z 1 bytes ht hi hz hsize hby hzs (by omega) v n xs hown ad m c news (by omega) hcells h1 h63 hbytes hbase
    exact ⟨v', w', hrun, h2, h3, h5⟩

theorem wp_append_row {o : Oper} {a : Act} {K : Act → World → Prop} {Q : Exit → Act → World → Prop} (s x : Operand) (t : TypeId)
    (ho : o.op = .call { callee := .builtin .append, args := #[s, x], argTypes := #[t, t] })
    (base : Nat) (e : TypeId) (i : TypeInfo) (z : Value) (bytes : Nat) (ht : P.underlying t = some (.slice e)) (hi : P.info? e = some i) (hz : i.zero = some z)
    (hsize : i.size = 1) (hby : i.bytes = bytes) (hzs : z.cells.size = 1) (v : Value) (n : Nat) (xs : List Value) (hs : a.eval s = v) (hown : w.ownsRow base e 1 v n xs)
    (A : Option Addr) (m c : Nat) (news : List Value) (hx : a.eval x = .slice A m c) (hsrc : Src w A m news) (h1 : ∀ u ∈ news, u.oneCell' = true)
    (h63 : n + m ≤ maxLen) (hbytes : (n + m) * bytes ≤ 140737488355328) (hbase : base ≤ w.heap.size)
    (h : ∀ v' w', w'.ownsRow base e 1 v' (n + m) (xs ++ news) → w.grownBy w' v.ownBlock → (v'.ownBlock = v.ownBlock ∨ v'.ownBlock = some w.heap.size) → K (a.put o.dst v') w') : o.wp P a w K Q := by
  obtain ⟨v', w', hrun, h2, h3, h4⟩ := run_append_row (P := P) base t o.type e i z bytes ht hi hz hsize hby hzs v n xs hown A m c news hsrc h1 h63 hbytes hbase
  unfold Oper.wp execOp
  simp only [ho, resolve, invoke, builtin, Sem.run_bind, Sem.run_pure, Result.andThen_ok, List.map_toArray, List.map_cons, List.map_nil, hs, hx, hrun]
  exact h v' w' h2 h3 h4

/-- 'out = append(out, xs...)', out the call's own. -/
theorem wpList_append_row {ops : Array Oper} {rest : List Oper} {o : Oper} {a : Act} {Q : Exit → Act → World → Prop} (hgd : o.guard = none) (s x : Operand) (t : TypeId)
    (ho : o.op = .call { callee := .builtin .append, args := #[s, x], argTypes := #[t, t] })
    (base : Nat) (e : TypeId) (i : TypeInfo) (z : Value) (bytes : Nat) (ht : P.underlying t = some (.slice e)) (hi : P.info? e = some i) (hz : i.zero = some z)
    (hsize : i.size = 1) (hby : i.bytes = bytes) (hzs : z.cells.size = 1) (v : Value) (n : Nat) (xs : List Value) (hs : a.eval s = v) (hown : w.ownsRow base e 1 v n xs)
    (A : Option Addr) (m c : Nat) (news : List Value) (hx : a.eval x = .slice A m c) (hsrc : Src w A m news) (h1 : ∀ u ∈ news, u.oneCell' = true)
    (h63 : n + m ≤ maxLen) (hbytes : (n + m) * bytes ≤ 140737488355328) (hbase : base ≤ w.heap.size)
    (h : ∀ v' w', w'.ownsRow base e 1 v' (n + m) (xs ++ news) → w.grownBy w' v.ownBlock → (v'.ownBlock = v.ownBlock ∨ v'.ownBlock = some w.heap.size) → wpList P ops Q rest (a.put o.dst v') w') :
    wpList P ops Q (o :: rest) a w :=
  wpList_plain hgd fun _ hK => wp_append_row s x t ho base e i z bytes ht hi hz hsize hby hzs v n xs hs hown A m c news hx hsrc h1 h63 hbytes hbase fun v' w' h2 h3 h4 => hK _ _ (h v' w' h2 h3 h4)
end

/-- The memory of a value that is not empty lies outside a block. -/
def Off (u : Value) (row : Option Nat) : Prop := ∀ a n c, u = .slice (some a) n c → 0 < n → row ≠ some a.block

/-- The call's own row of integers. -/
def OwnI (w : World) (base : Nat) (v : Value) (xs : List Int) : Prop := w.ownsRow base 3 1 v xs.length (xs.map (Value.int .i64))

/-- The call's own row of words; the words lie outside it. -/
def OwnW (w : World) (base : Nat) (v : Value) (l : List (List Int)) : Prop :=
  ∃ us : List Value, us.length = l.length ∧ w.ownsRow base 38 1 v us.length us ∧
    ∀ (i : Nat) x, l[i]? = some x → ∃ u, us[i]? = some u ∧ IsI w u x ∧ Off u v.ownBlock

theorem IsI.lt {w : World} {v : Value} {x : List Int} (h : IsI w v x) : ∀ a n c, v = .slice (some a) n c → 0 < n → a.block < w.heap.size := by
  obtain ⟨A, n, c, rfl, hr⟩ := h
  rintro a n' c' e h0
  injection e with e1 e2 e3
  subst e1 e2
  obtain ⟨b, o, u, y, e, _, hu, _⟩ := hr.at_ h0
  injection e with e
  subst e
  exact World.block_lt_of_cell? w _ hu

theorem IsI.off_new {w : World} {v : Value} {x : List Int} (h : IsI w v x) {g : Nat} (hg : w.heap.size ≤ g) : Off v (some g) := fun a n c e h0 hh => by
  have := h.lt a n c e h0
  injection hh with hh
  omega

/-- A word outside the one row that has turned. -/
theorem IsI.grown {w w' : World} {v : Value} {x : List Int} {row : Option Nat} (h : IsI w v x) (hg : w.grownBy w' row) (ho : Off v row) : IsI w' v x := by
  obtain ⟨A, n, c, rfl, hr⟩ := h
  refine ⟨A, n, c, rfl, hr.1, hr.2.1, hr.2.2.1, fun hn => ?_⟩
  obtain ⟨b, o, rfl, hc⟩ := hr.2.2.2 hn
  refine ⟨b, o, rfl, fun i y hy => ?_⟩
  obtain ⟨u, hu, hr'⟩ := hc i y hy
  exact ⟨u, hg.cell hu (fun e => ho _ _ _ rfl hn e.symm), hr'⟩

/-- A cell outside the row that has turned. -/
theorem grown_keeps {w w' : World} (hg : w.grownBy w' none) : Keeps w w' := fun _ _ hu => hg.cell hu (by simp)

theorem grown_none {w w' : World} (h : Below w.heap.size w w') : w.grownBy w' none := ⟨h.os, h.tape, h.output, h.size, fun k hk _ => h.block k hk⟩
theorem grown_below {w w' : World} {row : Option Nat} (hg : w.grownBy w' row) {B : Nat} (hB : B ≤ w.heap.size) (hr : ∀ g, row = some g → B ≤ g) : Below B w w' := (Below.refl B w).grown hg hB hr

theorem OwnI.nil_ (w : World) (base : Nat) : OwnI w base (.slice none 0 0) [] := World.ownsRow_nil _ _ _ _
theorem OwnW.nil_ (w : World) (base : Nat) : OwnW w base (.slice none 0 0) [] := ⟨[], rfl, World.ownsRow_nil _ _ _ _, fun i x h => by simp at h⟩

theorem OwnI.lt {w : World} {base : Nat} {v : Value} {xs : List Int} (h : OwnI w base v xs) : ∀ k, v.ownBlock = some k → base ≤ k ∧ k < w.heap.size := World.ownsRow.lt h
theorem OwnW.lt {w : World} {base : Nat} {v : Value} {l : List (List Int)} (h : OwnW w base v l) : ∀ k, v.ownBlock = some k → base ≤ k ∧ k < w.heap.size := by
  obtain ⟨us, _, hown, _⟩ := h
  exact hown.lt

/-- An owned row stays owned where only other blocks have turned. -/
theorem OwnI.kept {w w' : World} {base : Nat} {v : Value} {xs : List Int} {row : Option Nat} (h : OwnI w base v xs) (hg : w.grownBy w' row) (hne : v.ownBlock = none ∨ v.ownBlock ≠ row) : OwnI w' base v xs :=
  World.ownsRow.kept h hg hne
theorem OwnW.kept {w w' : World} {base : Nat} {v : Value} {l : List (List Int)} (h : OwnW w base v l) (hg : w.grownBy w' none) : OwnW w' base v l := by
  obtain ⟨us, hl, hown, hel⟩ := h
  refine ⟨us, hl, hown.kept hg (by cases v.ownBlock <;> simp), fun i x hx => ?_⟩
  obtain ⟨u, hu, hi, ho⟩ := hel i x hx
  exact ⟨u, hu, hi.keep (grown_keeps hg), ho⟩
theorem OwnW.alloc {w : World} {base : Nat} {v : Value} {l : List (List Int)} (h : OwnW w base v l) (o : Obj) : OwnW (w.alloc o) base v l := h.kept (World.grownBy_alloc w o none)
theorem OwnI.alloc {w : World} {base : Nat} {v : Value} {xs : List Int} (h : OwnI w base v xs) (o : Obj) : OwnI (w.alloc o) base v xs := World.ownsRow.alloc h o

/-- The parts of an owned row of words, behind an append of one word. -/
theorem OwnW.push {w w1 w2 : World} {base : Nat} {v v' u : Value} {l : List (List Int)} {x : List Int} {us : List Value} (hl : us.length = l.length)
    (hel : ∀ (i : Nat) x, l[i]? = some x → ∃ u, us[i]? = some u ∧ IsI w u x ∧ Off u v.ownBlock) (hx : IsI w u x) (hoff : Off u v.ownBlock) (h1 : w.grownBy w1 none)
    (hown : w2.ownsRow base 38 1 v' (us.length + 1) (us ++ [u])) (hg : w1.grownBy w2 v.ownBlock) (hb : v'.ownBlock = v.ownBlock ∨ v'.ownBlock = some w1.heap.size) : OwnW w2 base v' (l ++ [x]) := by
  have key : ∀ u x, IsI w u x → Off u v.ownBlock → IsI w2 u x ∧ Off u v'.ownBlock := fun u x hi ho => by
    refine ⟨(hi.keep (grown_keeps h1)).grown hg ho, ?_⟩
    rcases hb with e | e
    · rw [e]; exact ho
    · rw [e]; exact hi.off_new h1.size
  refine ⟨us ++ [u], by simp [hl], by simpa using hown, fun i y hy => ?_⟩
  rw [List.getElem?_append] at hy
  split at hy
  · rename_i hi
    obtain ⟨u', hu', h3, h4⟩ := hel i y hy
    exact ⟨u', by rw [List.getElem?_append, if_pos (by omega)]; exact hu', key u' y h3 h4⟩
  · rename_i hi
    have hi0 : i - l.length = 0 := by
      rcases Nat.eq_zero_or_pos (i - l.length) with h0 | h0
      · exact h0
      · rw [List.getElem?_eq_none (by simp; omega)] at hy; cases hy
    rw [hi0] at hy
    simp at hy
    subst hy
    exact ⟨u, by rw [List.getElem?_append, if_neg (by omega)]; simp [hl, hi0], key u x hx hoff⟩

/-- The source of an append: a word's cells. -/
theorem RowOf.src {w : World} {A : Option Addr} {n c : Nat} {xs : List Int} (h : RowOf w IsInt A n c xs) : Src w A n (xs.map (Value.int .i64)) := by
  refine ⟨by simp [h.len], fun h0 => ?_⟩
  obtain ⟨b, o, e, hc⟩ := h.2.2.2 h0
  refine ⟨b, o, e, fun j u hu => ?_⟩
  rw [List.getElem?_map] at hu
  cases hx : xs[j]? with
  | none => rw [hx] at hu; cases hu
  | some x =>
    rw [hx] at hu
    simp at hu
    obtain ⟨u', hu', rfl⟩ := hc j x hx
    rw [← hu]
    exact hu'

theorem src_one (w : World) (x : Value) (t : TypeId) : Src (w.alloc (.cells #[x] t)) (some ⟨w.heap.size, 0, none⟩) 1 [x] :=
  ⟨rfl, fun _ => ⟨_, _, rfl, fun j u hu => by
    have := cell_one_new w x t j u hu
    rwa [addr_add] at this⟩⟩

end Go.Proofs.YtpmebphhbgpapaaGreatDoor

/-
  The contract of slices.Clone.
-/
namespace Go.Proofs.YtpmebphhbgpapaaGreatDoor.Sym
open Go.RowKit

section
variable {P : Program} {w : World}
/-- 'append(own, xs...)', the own row's elements of any size. -/
theorem wpList_append_k {ops : Array Oper} {rest : List Oper} {o : Oper} {a : Act} {Q : Exit → Act → World → Prop} (hgd : o.guard = none) (s x : Operand) (t : TypeId)
    (ho : o.op = .call { callee := .builtin .append, args := #[s, x], argTypes := #[t, t] })
    (base : Nat) (e : TypeId) (i : TypeInfo) (z : Value) (size bytes : Nat) (ht : P.underlying t = some (.slice e)) (hi : P.info? e = some i) (hz : i.zero = some z)
    (hsize : i.size = size) (hby : i.bytes = bytes) (hzs : z.cells.size = size) (hsz : 0 < size) (v : Value) (n : Nat) (xs : List Value) (hs : a.eval s = v) (hown : w.ownsRow base e size v n xs)
    (A : Option Addr) (m c : Nat) (news : List Value) (hx : a.eval x = .slice A m c) (hl : news.length = m * size) (hsrc : 0 < m → ∃ b q, A = some ⟨b, q, none⟩ ∧ ∀ (j : Nat) u, news[j]? = some u → w.cell? ⟨b, q + j, none⟩ = some u) (h1 : ∀ u ∈ news, u.oneCell' = true)
    (h63 : n + m ≤ maxLen) (hbytes : (n + m) * bytes ≤ 140737488355328) (hbase : base ≤ w.heap.size)
    (h : ∀ v' w', w'.ownsRow base e size v' (n + m) (xs ++ news) → w.grownBy w' v.ownBlock → (v'.ownBlock = v.ownBlock ∨ v'.ownBlock = some w.heap.size) → wpList P ops Q rest (a.put o.dst v') w') :
    wpList P ops Q (o :: rest) a w := by
  refine wpList_plain hgd fun _ hK => ?_
  obtain ⟨v', w', hrun, h2, h3, h4⟩ := run_append_k (P := P) base t o.type e i z size bytes ht hi hz hsize hby hzs hsz v n xs hown A m c news hl hsrc h1 h63 hbytes hbase
  unfold Oper.wp execOp
  simp only [ho, resolve, invoke, builtin, Sem.run_bind, Sem.run_pure, Result.andThen_ok, List.map_toArray, List.map_cons, List.map_nil, hs, hx, hrun]
  exact hK _ _ (h v' w' h2 h3 h4)
end

theorem grown_step {a b c : World} {row row' : Option Nat} (h : a.grownBy b row) (k : b.grownBy c row') (hr : row' = row ∨ ∀ g, row' = some g → a.heap.size ≤ g) : a.grownBy c row :=
  ⟨k.os.trans h.os, k.tape.trans h.tape, k.output.trans h.output, Nat.le_trans h.size k.size, fun i hi hne =>
    (k.block i (Nat.lt_of_lt_of_le hi h.size) (by
      rcases hr with e | e
      · rw [e]; exact hne
      · intro he
        have := e i he.symm
        omega)).trans (h.block i hi hne)⟩

/-- A row of the call's own, and nothing that was there has turned. -/
def ClonePost (t : TypeId) (k n : Nat) (us : List Value) (w : World) (e : Ending) (w' : World) : Prop :=
  ∃ v', e = .returned v' ∧ w'.ownsRow w.heap.size t k v' n us ∧ Below w.heap.size w w'

theorem ownsRow_none (w : World) (t : TypeId) (k : Nat) : (w.alloc (.cells #[] t)).ownsRow w.heap.size t k (.slice (some ⟨w.heap.size, 0, none⟩) 0 0) 0 [] := by
  refine ⟨by simp, .inr ⟨w.heap.size, 0, #[], rfl, Nat.le_refl _, ?_, Nat.zero_le _, by unfold maxLen; omega, by simp, by simp⟩⟩
  exact heap_alloc_new w _

theorem sp_of_clone {g : FuncId} {t : TypeId} {k by_ : Nat} (he : ∀ args w, (callFunc g args).run Tryz.prog w = .ok (.enter g args) w) (hk0 : 0 < k)
    (h : ∀ (w : World) (A : Option Addr) (n c : Nat) (us : List Value), us.length = n * k → (0 < n → ∃ b q, A = some ⟨b, q, none⟩ ∧ ∀ (j : Nat) u, us[j]? = some u → w.cell? ⟨b, q + j, none⟩ = some u) →
      (∀ u ∈ us, u.oneCell' = true) → n ≤ 17592186044416 → n * by_ ≤ 140737488355328 → Calls Tryz.prog g #[.slice A n c] w (ClonePost t k n us w))
    {es : List (List IV)} (hk : ∀ e ∈ es, e.length = k) (hc : capOk es.length by_) : Sp Tryz.prog g [.im (.sl es)] (.row t k es) := by
  refine ⟨he, fun w S vs F hS hv hn hF => ?_⟩
  match vs, hv with
  | [v], ⟨F1, F2, ⟨h3, e1⟩, h5, e3⟩ =>
    have h5 : F2 = [] := h5
    subst e1 h5 e3
    obtain ⟨A, c, us, rfl, hl, h1, hlim, hcell, hr⟩ := sl_src h3 hk
    have hlk : us.length = es.length * k := by rw [hl, flat_length hk]
    refine (h w A es.length c us hlk hcell h1 hlim hc.1).mono ?_
    rintro e w' ⟨v', rfl, ho, hb⟩
    have ho0 : w'.ownsRow 0 t k v' es.length us := by
      refine ⟨ho.1, ?_⟩
      rcases ho.2 with h6 | ⟨g1, cap, cur, k1, _, k3⟩
      · exact .inl h6
      · exact .inr ⟨g1, cap, cur, k1, Nat.zero_le _, k3⟩
    have hlt := ho.lt
    have hbk : ∀ b ∈ (blkOf v').toList, w.heap.size ≤ b ∧ b < w'.heap.size := fun b hb => by
      refine hlt b ?_
      rw [row_blk ho0]
      simpa using hb
    refine ⟨v', (blkOf v').toList, rfl, .of hb, ⟨[v'], (blkOf v').toList, [], rfl, ⟨(blkOf v').toList, [], ⟨row_one ho0, [], ⟨us, hk0, hk, hlim, ho0, hl, h1, fun i u x hu hx => ?_⟩, rfl⟩, rfl, by simp⟩, rfl, by simp⟩, ?_, fun b hb => ⟨.inl (hbk b hb).1, (hbk b hb).2⟩⟩
    · have k1 : ∀ b, S b → (S b ∨ w.heap.size ≤ b ∨ b ∈ []) ∧ b < w'.heap.size ∧ b ∉ (blkOf v').toList := fun b hb' => ⟨.inl hb', Nat.lt_of_lt_of_le (hS b hb') hb.size, fun hm => by
        have h1 := (hbk b hm).1
        have h2 := hS b hb'
        omega⟩
      have k2 : ∀ (p : Addr) u, S p.block → w.cell? p = some u → w'.cell? p = some u := fun p u hp hu => by
        have h6 := hb.block p.block (hS _ hp)
        have h7 : w'.cell? p = w.cell? p := by
          unfold World.cell?
          rw [h6]
        rw [h7]
        exact hu
      exact (hr i u x hu hx).mono k1 k2
    · cases blkOf v' <;> simp
end Go.Proofs.YtpmebphhbgpapaaGreatDoor.Sym

/-
  Walks of slices.Clone.
-/
namespace Go.Proofs.YtpmebphhbgpapaaGreatDoor.Sym
open Go.RowKit

theorem Tryz.infoC_int : (Tryz.prog.info? 3).map (fun i => (i.zero, i.size, i.bytes)) = some (some (.int .i64 0), 1, 8) := by kernel_rfl
set_option maxRecDepth 100000 in
set_option maxHeartbeats 400000 in
theorem clone_int (w : World) (A : Option Addr) (n c : Nat) (us : List Value) (hl : us.length = n * 1) (hs : 0 < n → ∃ b q, A = some ⟨b, q, none⟩ ∧ ∀ (j : Nat) u, us[j]? = some u → w.cell? ⟨b, q + j, none⟩ = some u)
    (h1 : ∀ u ∈ us, u.oneCell' = true) (hn : n ≤ 17592186044416) (hby : n * 8 ≤ 140737488355328) : Calls Tryz.prog 95 #[.slice A n c] w (ClonePost 3 1 n us w) := by
  obtain ⟨j0, ji, jz0, jz1, jz2⟩ := info_parts Tryz.infoC_int
  have hnil := Lib.run_eql_slice_nil (P := Tryz.prog) w 38 3 A n c 0 0 Tryz.underlying38
  cases A with
  | none =>
    have h0 : n = 0 := by
      rcases Nat.eq_zero_or_pos n with h | h
      · exact h
      · obtain ⟨b, q, e, _⟩ := hs h; cases e
    subst h0
    have hxs : us = [] := List.eq_nil_of_length_eq_zero (by omega)
    have HX := Lib.hid hxs
    clear hxs hs hl h1
    go_enter Tryz.func95, Tryz.ntmps95
    go_wp2
    go_ret
    rw [HX.out]
    exact ⟨_, rfl, World.ownsRow_nil _ _ _ _, Below.refl _ _⟩
  | some a =>
    have hsrc : ∀ o, 0 < n → ∃ b q, some a = some ⟨b, q, none⟩ ∧ ∀ (j : Nat) u, us[j]? = some u → (w.alloc o).cell? ⟨b, q + j, none⟩ = some u := fun o h => by
      obtain ⟨b, q, e, hc⟩ := hs h
      exact ⟨b, q, e, fun j u hu => grown_keeps (World.grownBy_alloc w o none) _ _ (hc j u hu)⟩
    have hc6 : 0 + n ≤ maxLen := by unfold maxLen; omega
    have hc7 : (0 + n) * 8 ≤ 140737488355328 := by omega
    have hc8 : ∀ o, w.heap.size ≤ (w.alloc o).heap.size := fun o => by simp
    have HXL := Lib.hid hl
    clear hs
    go_enter Tryz.func95, Tryz.ntmps95
    go_wp2_with (at_builtin; refine wpList_append_k rfl (.tmp 5) (.tmp 6) 38 rfl w.heap.size 3 j0 (.int .i64 0) 1 8 Tryz.underlying38 ji jz0 jz1 jz2 rfl (by decide) (.slice (some ⟨w.heap.size, 0, none⟩) 0 0) 0 _ rfl (ownsRow_none _ _ _) _ _ _ _ rfl HXL.out (hsrc _) h1 hc6 hc7 (hc8 _) ?_; intro v1 w1 hown1 hg1 hb1)
    go_ret
    have hgr : w.grownBy w1 none := grown_step (World.grownBy_alloc w _ none) hg1 (.inr fun g e => by
      have : some w.heap.size = some g := e
      injection this with this
      omega)
    exact ⟨v1, rfl, by simpa using hown1, grown_below hgr (Nat.le_refl _) (fun g e => by cases e)⟩

theorem Tryz.infoC_words : (Tryz.prog.info? 38).map (fun i => (i.zero, i.size, i.bytes)) = some (some (.slice none 0 0), 1, 24) := by kernel_rfl
set_option maxRecDepth 100000 in
set_option maxHeartbeats 400000 in
theorem clone_words (w : World) (A : Option Addr) (n c : Nat) (us : List Value) (hl : us.length = n * 1) (hs : 0 < n → ∃ b q, A = some ⟨b, q, none⟩ ∧ ∀ (j : Nat) u, us[j]? = some u → w.cell? ⟨b, q + j, none⟩ = some u)
    (h1 : ∀ u ∈ us, u.oneCell' = true) (hn : n ≤ 17592186044416) (hby : n * 24 ≤ 140737488355328) : Calls Tryz.prog 147 #[.slice A n c] w (ClonePost 38 1 n us w) := by
  obtain ⟨j0, ji, jz0, jz1, jz2⟩ := info_parts Tryz.infoC_words
  have hnil := Lib.run_eql_slice_nil (P := Tryz.prog) w 22 38 A n c 0 0 Tryz.underlying22
  cases A with
  | none =>
    have h0 : n = 0 := by
      rcases Nat.eq_zero_or_pos n with h | h
      · exact h
      · obtain ⟨b, q, e, _⟩ := hs h; cases e
    subst h0
    have hxs : us = [] := List.eq_nil_of_length_eq_zero (by omega)
    have HX := Lib.hid hxs
    clear hxs hs hl h1
    go_enter Tryz.func147, Tryz.ntmps147
    go_wp2
    go_ret
    rw [HX.out]
    exact ⟨_, rfl, World.ownsRow_nil _ _ _ _, Below.refl _ _⟩
  | some a =>
    have hsrc : ∀ o, 0 < n → ∃ b q, some a = some ⟨b, q, none⟩ ∧ ∀ (j : Nat) u, us[j]? = some u → (w.alloc o).cell? ⟨b, q + j, none⟩ = some u := fun o h => by
      obtain ⟨b, q, e, hc⟩ := hs h
      exact ⟨b, q, e, fun j u hu => grown_keeps (World.grownBy_alloc w o none) _ _ (hc j u hu)⟩
    have hc6 : 0 + n ≤ maxLen := by unfold maxLen; omega
    have hc7 : (0 + n) * 24 ≤ 140737488355328 := by omega
    have hc8 : ∀ o, w.heap.size ≤ (w.alloc o).heap.size := fun o => by simp
    have HXL := Lib.hid hl
    clear hs
    go_enter Tryz.func147, Tryz.ntmps147
    go_wp2_with (at_builtin; refine wpList_append_k rfl (.tmp 5) (.tmp 6) 22 rfl w.heap.size 38 j0 (.slice none 0 0) 1 24 Tryz.underlying22 ji jz0 jz1 jz2 rfl (by decide) (.slice (some ⟨w.heap.size, 0, none⟩) 0 0) 0 _ rfl (ownsRow_none _ _ _) _ _ _ _ rfl HXL.out (hsrc _) h1 hc6 hc7 (hc8 _) ?_; intro v1 w1 hown1 hg1 hb1)
    go_ret
    have hgr : w.grownBy w1 none := grown_step (World.grownBy_alloc w _ none) hg1 (.inr fun g e => by
      have : some w.heap.size = some g := e
      injection this with this
      omega)
    exact ⟨v1, rfl, by simpa using hown1, grown_below hgr (Nat.le_refl _) (fun g e => by cases e)⟩

theorem Tryz.infoC_traces : (Tryz.prog.info? 90).map (fun i => (i.zero, i.size, i.bytes)) = some (some (.agg #[.slice none 0 0, .slice none 0 0]), 2, 48) := by kernel_rfl
set_option maxRecDepth 100000 in
set_option maxHeartbeats 400000 in
theorem clone_traces (w : World) (A : Option Addr) (n c : Nat) (us : List Value) (hl : us.length = n * 2) (hs : 0 < n → ∃ b q, A = some ⟨b, q, none⟩ ∧ ∀ (j : Nat) u, us[j]? = some u → w.cell? ⟨b, q + j, none⟩ = some u)
    (h1 : ∀ u ∈ us, u.oneCell' = true) (hn : n ≤ 17592186044416) (hby : n * 48 ≤ 140737488355328) : Calls Tryz.prog 116 #[.slice A n c] w (ClonePost 90 2 n us w) := by
  obtain ⟨j0, ji, jz0, jz1, jz2⟩ := info_parts Tryz.infoC_traces
  have hnil := Lib.run_eql_slice_nil (P := Tryz.prog) w 35 90 A n c 0 0 Tryz.underlying35
  cases A with
  | none =>
    have h0 : n = 0 := by
      rcases Nat.eq_zero_or_pos n with h | h
      · exact h
      · obtain ⟨b, q, e, _⟩ := hs h; cases e
    subst h0
    have hxs : us = [] := List.eq_nil_of_length_eq_zero (by omega)
    have HX := Lib.hid hxs
    clear hxs hs hl h1
    go_enter Tryz.func116, Tryz.ntmps116
    go_wp2
    go_ret
    rw [HX.out]
    exact ⟨_, rfl, World.ownsRow_nil _ _ _ _, Below.refl _ _⟩
  | some a =>
    have hsrc : ∀ o, 0 < n → ∃ b q, some a = some ⟨b, q, none⟩ ∧ ∀ (j : Nat) u, us[j]? = some u → (w.alloc o).cell? ⟨b, q + j, none⟩ = some u := fun o h => by
      obtain ⟨b, q, e, hc⟩ := hs h
      exact ⟨b, q, e, fun j u hu => grown_keeps (World.grownBy_alloc w o none) _ _ (hc j u hu)⟩
    have hc6 : 0 + n ≤ maxLen := by unfold maxLen; omega
    have hc7 : (0 + n) * 48 ≤ 140737488355328 := by omega
    have hc8 : ∀ o, w.heap.size ≤ (w.alloc o).heap.size := fun o => by simp
    have HXL := Lib.hid hl
    clear hs
    go_enter Tryz.func116, Tryz.ntmps116
    go_wp2_with (at_builtin; refine wpList_append_k rfl (.tmp 5) (.tmp 6) 35 rfl w.heap.size 90 j0 (.agg #[.slice none 0 0, .slice none 0 0]) 2 48 Tryz.underlying35 ji jz0 jz1 jz2 rfl (by decide) (.slice (some ⟨w.heap.size, 0, none⟩) 0 0) 0 _ rfl (ownsRow_none _ _ _) _ _ _ _ rfl HXL.out (hsrc _) h1 hc6 hc7 (hc8 _) ?_; intro v1 w1 hown1 hg1 hb1)
    go_ret
    have hgr : w.grownBy w1 none := grown_step (World.grownBy_alloc w _ none) hg1 (.inr fun g e => by
      have : some w.heap.size = some g := e
      injection this with this
      omega)
    exact ⟨v1, rfl, by simpa using hown1, grown_below hgr (Nat.le_refl _) (fun g e => by cases e)⟩

end Go.Proofs.YtpmebphhbgpapaaGreatDoor.Sym

/-
  Walks of the program's slices.Grow.
-/
namespace Go.Proofs.YtpmebphhbgpapaaGreatDoor
open Go.RowKit

/-- An empty row of the call's own, with room. -/
def GrowPost (t : TypeId) (w : World) (e : Ending) (w' : World) : Prop := ∃ v', e = .returned v' ∧ w'.ownsRow w.heap.size t 1 v' 0 [] ∧ Below w.heap.size w w'

theorem ownsRow_zeros (w : World) (Z : Array Value) (t : TypeId) (c : Nat) (hc : c ≤ maxLen) (hZ : Z.size = c) :
    (w.drew.alloc (.cells Z t)).ownsRow w.heap.size t 1 (.slice (some ⟨w.heap.size, 0, none⟩) 0 c) 0 [] := by
  refine ⟨rfl, .inr ⟨w.heap.size, c, Z, rfl, Nat.le_refl _, ?_, Nat.zero_le _, hc, by omega, by simp⟩⟩
  exact heap_alloc_new w.drew _

theorem below_zeros (w : World) (o : Obj) : Below w.heap.size w (w.drew.alloc o) := (Below.refl w.heap.size w).drew.alloc (Nat.le_refl _) o


set_option maxRecDepth 100000 in
set_option maxHeartbeats 800000 in
theorem growI_any (n : Nat) (hn : n ≤ 1000000000) (w : World) :
    Calls Tryz.prog 144 #[.slice none 0 0, .int .i64 n] w (GrowPost 3 w) := by
  obtain ⟨i0, hi, hz0, hz1, hz2⟩ := info_parts Tryz.infoInt
  have h1 : ¬ ((n : Int) < 0) := by omega
  by_cases h0 : n = 0
  · subst h0
    go_enter Tryz.func144, Tryz.ntmps144
    go_wp2
    go_ret
    exact ⟨_, rfl, World.ownsRow_nil _ _ _ _, Below.refl _ _⟩
  · have h4 : (n : Int) > 0 := by omega
    have happ := Lib.run_append_nil_zeros (P := Tryz.prog) w 38 3 38 3 i0 (.int .i64 0) .i64 .i64 Tryz.underlying38 Tryz.underlying3 hi hz0 n (by omega) (by omega) (by omega) (by rw [hz2]; omega)
    generalize hcap : grownCap w n 0 3 = cap2 at happ
    have hcapge : n ≤ cap2 := by rw [← hcap]; exact grownCap_ge w _ 0 _
    have hcaple : cap2 ≤ maxLen := by rw [← hcap]; exact grownCap_le_maxLen w _ 0 _ (by unfold maxLen; omega)
    generalize hZ : (Builtin.zeroCells (Value.cells (.int .i64 0)) n ++ Builtin.zeroCells (Value.cells (.int .i64 0)) (cap2 - n)) = Z at happ
    have hZs : Z.size = cap2 := by rw [← hZ]; simp [size_zeroCells, Value.cells]; omega
    have hown := ownsRow_zeros w Z 3 cap2 hcaple hZs
    have hcap63 : cap2 ≤ 9223372036854775807 := by unfold maxLen at hcaple; omega
    have HO := Lib.hid (And.intro hown (below_zeros w (.cells Z 3)))
    clear hcap hZ hown hZs
    go_enter Tryz.func144, Tryz.ntmps144
    go_wp2_with (at_builtin; refine Lib.wpList_append_run _ rfl _ _ _ _ rfl _ _ rfl rfl _ _ happ ?_)
    go_ret
    exact ⟨_, rfl, HO.out.1, HO.out.2⟩

set_option maxRecDepth 100000 in
set_option maxHeartbeats 800000 in
theorem growW_any (n : Nat) (hn : n ≤ 1000000000) (w : World) :
    Calls Tryz.prog 153 #[.slice none 0 0, .int .i64 n] w (GrowPost 38 w) := by
  obtain ⟨i0, hi, hz0, hz1, hz2⟩ := info_parts Tryz.infoWord
  have h1 : ¬ ((n : Int) < 0) := by omega
  by_cases h0 : n = 0
  · subst h0
    go_enter Tryz.func153, Tryz.ntmps153
    go_wp2
    go_ret
    exact ⟨_, rfl, World.ownsRow_nil _ _ _ _, Below.refl _ _⟩
  · have h4 : (n : Int) > 0 := by omega
    have happ := Lib.run_append_nil_zeros (P := Tryz.prog) w 22 3 22 38 i0 (.slice none 0 0) .i64 .i64 Tryz.underlying22 Tryz.underlying3 hi hz0 n (by omega) (by omega) (by omega) (by rw [hz2]; omega)
    generalize hcap : grownCap w n 0 38 = cap2 at happ
    have hcapge : n ≤ cap2 := by rw [← hcap]; exact grownCap_ge w _ 0 _
    have hcaple : cap2 ≤ maxLen := by rw [← hcap]; exact grownCap_le_maxLen w _ 0 _ (by unfold maxLen; omega)
    generalize hZ : (Builtin.zeroCells (Value.cells (.slice none 0 0)) n ++ Builtin.zeroCells (Value.cells (.slice none 0 0)) (cap2 - n)) = Z at happ
    have hZs : Z.size = cap2 := by rw [← hZ]; simp [size_zeroCells, Value.cells]; omega
    have hown := ownsRow_zeros w Z 38 cap2 hcaple hZs
    have hcap63 : cap2 ≤ 9223372036854775807 := by unfold maxLen at hcaple; omega
    have HO := Lib.hid (And.intro hown (below_zeros w (.cells Z 38)))
    clear hcap hZ hown hZs
    go_enter Tryz.func153, Tryz.ntmps153
    go_wp2_with (at_builtin; refine Lib.wpList_append_run _ rfl _ _ _ _ rfl _ _ rfl rfl _ _ happ ?_)
    go_ret
    exact ⟨_, rfl, HO.out.1, HO.out.2⟩

end Go.Proofs.YtpmebphhbgpapaaGreatDoor

/-
  The contract of slices.Grow of nil.
-/
namespace Go.Proofs.YtpmebphhbgpapaaGreatDoor.Sym
open Go.RowKit
set_option maxRecDepth 100000

theorem sp_of_grow {g : FuncId} {t : TypeId} {n : Int} (he : ∀ args w, (callFunc g args).run Tryz.prog w = .ok (.enter g args) w) (h0 : 0 ≤ n) (h1 : n ≤ 1000000000)
    (h : ∀ (n : Nat), n ≤ 1000000000 → ∀ w, Calls Tryz.prog g #[.slice none 0 0, .int .i64 n] w (GrowPost t w)) : Sp Tryz.prog g [.im (.val (.slice none 0 0)), .im (nI n)] (.row t 1 []) := by
  refine ⟨he, fun w S vs F hS hv hn hF => ?_⟩
  match vs, hv with
  | [v, u], ⟨F1, F2, ⟨h3, e1⟩, ⟨F3, F4, ⟨h4, e2⟩, h5, e3⟩, e4⟩ =>
    have h5 : F4 = [] := h5
    subst e1 e2 h5 e3 e4
    cases h3
    cases h4
    have hc := h n.toNat (by omega) w
    rw [Int.toNat_of_nonneg h0] at hc
    refine hc.mono ?_
    rintro e w' ⟨v', rfl, ho, hb⟩
    have ho0 : w'.ownsRow 0 t 1 v' 0 [] := by
      refine ⟨ho.1, ?_⟩
      rcases ho.2 with h6 | ⟨g1, cap, cur, k1, _, k3⟩
      · exact .inl h6
      · exact .inr ⟨g1, cap, cur, k1, Nat.zero_le _, k3⟩
    have hlt := ho.lt
    have hbk : ∀ b ∈ (blkOf v').toList, w.heap.size ≤ b ∧ b < w'.heap.size := fun b hb => by
      refine hlt b ?_
      rw [row_blk ho0]
      simpa using hb
    refine ⟨v', (blkOf v').toList, rfl, .of hb, ⟨[v'], (blkOf v').toList, [], rfl, ⟨(blkOf v').toList, [], ⟨row_one ho0, [], ⟨[], Nat.one_pos, fun x hx => by simp at hx, by decide, ho0, rfl, fun u hu => by simp at hu, fun i u x hu => by simp at hu⟩, rfl⟩, rfl, by simp⟩, rfl, by simp⟩, ?_, fun b hb => ⟨.inl (hbk b hb).1, (hbk b hb).2⟩⟩
    cases blkOf v' <;> simp

def lib_Grow_int (n : Int) : Option (List Int) := chk (0 ≤ n ∧ n ≤ 1000000000) (some [])
theorem sp_lib_Grow_int (n : Int) (r : List Int) (h : lib_Grow_int n = some r) : Sp Tryz.prog 144 [.im (.val (.slice none 0 0)), .im (nI n)] (.row 3 1 (List.map cI r)) := by
  obtain ⟨h1, h⟩ := chk_some h
  injection h with h
  subst h
  exact sp_of_grow (fun args w => run_enter rfl rfl rfl args w) h1.1 h1.2 growI_any
def lib_Grow_words (n : Int) : Option (List (List Int)) := chk (0 ≤ n ∧ n ≤ 1000000000) (some [])
theorem sp_lib_Grow_words (n : Int) (r : List (List Int)) (h : lib_Grow_words n = some r) : Sp Tryz.prog 153 [.im (.val (.slice none 0 0)), .im (nI n)] (.row 38 1 (List.map (cL cI) r)) := by
  obtain ⟨h1, h⟩ := chk_some h
  injection h with h
  subst h
  exact sp_of_grow (fun args w => run_enter rfl rfl rfl args w) h1.1 h1.2 growW_any
end Go.Proofs.YtpmebphhbgpapaaGreatDoor.Sym

/-
  The contract of slices.SortFunc under a total comparison.
-/
namespace Go.Proofs.YtpmebphhbgpapaaGreatDoor.Sym
open Go.RowKit Go.Sort

section plain
variable {α : Type}
def totB [DecidableEq α] (f : α → α → Option Int) (l : List α) : Bool :=
  l.all fun a => l.all fun b => match f a b, f b a with
    | some m, some n => (decide (m = 0) == decide (a = b)) && (decide (m < 0) == decide (0 < n)) && (decide (-1 ≤ m ∧ m ≤ 1)) && l.all fun c => !(decide (m < 0) && (match f b c with | some x => decide (x < 0) | none => false)) || (match f a c with | some x => decide (x < 0) | none => false)
    | _, _ => false
def insF (f : α → α → Option Int) (x : α) : List α → List α
  | [] => [x]
  | y :: l => match f x y with
    | some m => cond (decide (m ≤ 0)) (x :: y :: l) (y :: insF f x l)
    | none => x :: y :: l
def isortF (f : α → α → Option Int) : List α → List α
  | [] => []
  | x :: l => insF f x (isortF f l)
def libSort [DecidableEq α] (l : List α) (f : α → α → Option Int) : Option (List α) := chk (l.length ≤ 1000000000) (cond (totB f l) (some (isortF f l)) none)

def cfv (f : α → α → Option Int) (a b : α) : Int := (f a b).getD 0
/-- A total order on the elements of a list. -/
structure TotF (f : α → α → Option Int) (l : List α) : Prop where
  get : ∀ a ∈ l, ∀ b ∈ l, f a b = some (cfv f a b)
  zero : ∀ a ∈ l, ∀ b ∈ l, cfv f a b = 0 → a = b
  self : ∀ a ∈ l, cfv f a a = 0
  swap : ∀ a ∈ l, ∀ b ∈ l, (cfv f a b < 0 ↔ 0 < cfv f b a)
  trans : ∀ a ∈ l, ∀ b ∈ l, ∀ c ∈ l, cfv f a b < 0 → cfv f b c < 0 → cfv f a c < 0

theorem totB_iff [DecidableEq α] {f : α → α → Option Int} {l : List α} (h : totB f l = true) : TotF f l := by
  have key : ∀ a ∈ l, ∀ b ∈ l, ∃ m n, f a b = some m ∧ f b a = some n ∧ (m = 0 ↔ a = b) ∧ (m < 0 ↔ 0 < n) ∧ ∀ c ∈ l, m < 0 → (∃ x, f b c = some x ∧ x < 0) → ∃ x, f a c = some x ∧ x < 0 := by
    intro a ha b hb
    have h1 := List.all_eq_true.1 (List.all_eq_true.1 h a ha) b hb
    cases e1 : f a b with
    | none => rw [e1] at h1; cases h1
    | some m =>
      cases e2 : f b a with
      | none => rw [e1, e2] at h1; cases h1
      | some n =>
        rw [e1, e2] at h1
        simp only [Bool.and_eq_true] at h1
        obtain ⟨⟨⟨h2, h3⟩, _⟩, h5⟩ := h1
        refine ⟨m, n, rfl, rfl, ?_, ?_, fun c hc hm ⟨x, hx, hx0⟩ => ?_⟩
        · have h2 := eq_of_beq h2
          simpa using h2
        · have h3 := eq_of_beq h3
          simpa using h3
        · have h6 := List.all_eq_true.1 h5 c hc
          rw [hx] at h6
          simp only [hm, hx0, decide_true, Bool.and_self, Bool.not_true, Bool.false_or] at h6
          cases e3 : f a c with
          | none => rw [e3] at h6; cases h6
          | some y => rw [e3] at h6; exact ⟨y, rfl, by simpa using h6⟩
  have get : ∀ a ∈ l, ∀ b ∈ l, f a b = some (cfv f a b) := fun a ha b hb => by
    obtain ⟨m, n, e1, _⟩ := key a ha b hb
    unfold cfv
    rw [e1]
    rfl
  refine ⟨get, fun a ha b hb => ?_, fun a ha => ?_, fun a ha b hb => ?_, fun a ha b hb c hc h1 h2 => ?_⟩
  · obtain ⟨m, n, e1, e2, h3, _⟩ := key a ha b hb
    rw [get a ha b hb] at e1
    injection e1 with e1
    rw [e1]
    exact h3.1
  · obtain ⟨m, n, e1, e2, h3, _⟩ := key a ha a ha
    rw [get a ha a ha] at e1
    injection e1 with e1
    rw [e1]
    exact h3.2 rfl
  · obtain ⟨m, n, e1, e2, h3, h4, _⟩ := key a ha b hb
    rw [get a ha b hb] at e1
    rw [get b hb a ha] at e2
    injection e1 with e1
    injection e2 with e2
    rw [e1, e2]
    exact h4
  · obtain ⟨m, n, e1, e2, h3, h4, h5⟩ := key a ha b hb
    rw [get a ha b hb] at e1
    injection e1 with e1
    obtain ⟨x, hx, hx0⟩ := h5 c hc (by omega) ⟨_, get b hb c hc, h2⟩
    rw [get a ha c hc] at hx
    injection hx with hx
    omega

theorem TotF.sub {f : α → α → Option Int} {l l' : List α} (T : TotF f l) (h : ∀ x ∈ l', x ∈ l) : TotF f l' :=
  ⟨fun a ha b hb => T.get a (h a ha) b (h b hb), fun a ha b hb => T.zero a (h a ha) b (h b hb), fun a ha => T.self a (h a ha), fun a ha b hb => T.swap a (h a ha) b (h b hb), fun a ha b hb c hc => T.trans a (h a ha) b (h b hb) c (h c hc)⟩

/-- Not greater. -/
def NGt (f : α → α → Option Int) (a b : α) : Prop := ¬ cfv f b a < 0

theorem TotF.ngt_trans {f : α → α → Option Int} {l : List α} (T : TotF f l) {a b c : α} (ha : a ∈ l) (hb : b ∈ l) (hc : c ∈ l) (h1 : NGt f a b) (h2 : NGt f b c) : NGt f a c := by
  intro h3
  have s1 := T.swap a ha b hb
  have s2 := T.swap b hb c hc
  have s3 := T.swap c hc a ha
  have t1 := T.swap b hb a ha
  have t2 := T.swap c hc b hb
  unfold NGt at h1 h2
  by_cases e1 : cfv f b a = 0
  · have := T.zero b hb a ha e1
    subst this
    exact h2 h3
  · by_cases e2 : cfv f c b = 0
    · have := T.zero c hc b hb e2
      subst this
      exact h1 h3
    · have h4 : cfv f a b < 0 := s1.2 (by omega)
      have h5 := T.trans c hc a ha b hb h3 h4
      exact h2 h5

theorem insF_le {f : α → α → Option Int} {x y : α} {l : List α} {m : Int} (h : f x y = some m) (hm : m ≤ 0) : insF f x (y :: l) = x :: y :: l := by
  simp [insF, h, hm]
theorem insF_gt {f : α → α → Option Int} {x y : α} {l : List α} {m : Int} (h : f x y = some m) (hm : ¬ m ≤ 0) : insF f x (y :: l) = y :: insF f x l := by
  simp [insF, h, hm]
theorem insF_perm (f : α → α → Option Int) (x : α) : ∀ l : List α, (insF f x l).Perm (x :: l)
  | [] => List.Perm.refl _
  | y :: l => by
    cases h : f x y with
    | none => simp [insF, h]
    | some m =>
      by_cases hm : m ≤ 0
      · rw [insF_le h hm]
      · rw [insF_gt h hm]
        exact ((insF_perm f x l).cons y).trans (List.Perm.swap x y l)
theorem isortF_perm (f : α → α → Option Int) : ∀ l : List α, (isortF f l).Perm l
  | [] => List.Perm.refl _
  | x :: l => (insF_perm f x _).trans ((isortF_perm f l).cons x)
theorem insF_sorted {f : α → α → Option Int} {x : α} : ∀ {l : List α}, TotF f (x :: l) → l.Pairwise (NGt f) → (insF f x l).Pairwise (NGt f)
  | [], _, _ => List.pairwise_singleton _ _
  | y :: l, T, h => by
    have hx : x ∈ x :: y :: l := by simp
    have hy : y ∈ x :: y :: l := by simp
    have hc := List.pairwise_cons.1 h
    by_cases hd : cfv f x y ≤ 0
    · rw [insF_le (T.get x hx y hy) hd]
      have hxy : NGt f x y := fun h0 => by
        have := (T.swap y hy x hx).1 h0
        omega
      exact List.pairwise_cons.2 ⟨fun z hz => by
        rcases List.mem_cons.1 hz with rfl | hz'
        · exact hxy
        · exact T.ngt_trans hx hy (by simp [hz']) hxy (hc.1 z hz'), h⟩
    · rw [insF_gt (T.get x hx y hy) hd]
      have hyx : NGt f y x := by unfold NGt; omega
      refine List.pairwise_cons.2 ⟨fun z hz => ?_, insF_sorted (T.sub fun z hz => ?_) hc.2⟩
      · rcases List.mem_cons.1 ((insF_perm f x l).mem_iff.1 hz) with rfl | hz'
        · exact hyx
        · exact hc.1 z hz'
      · rcases List.mem_cons.1 hz with rfl | hz'
        · simp
        · simp [hz']
theorem isortF_sorted {f : α → α → Option Int} : ∀ {l : List α}, TotF f l → (isortF f l).Pairwise (NGt f)
  | [], _ => List.Pairwise.nil
  | x :: l, T => insF_sorted (T.sub fun z hz => by
      rcases List.mem_cons.1 hz with rfl | hz'
      · simp
      · exact List.mem_cons_of_mem _ ((isortF_perm f l).mem_iff.1 hz')) (isortF_sorted (T.sub fun z hz => List.mem_cons_of_mem _ hz))

theorem sorted_uniq {f : α → α → Option Int} : ∀ {l1 l2 : List α}, TotF f l1 → l1.Perm l2 → l1.Pairwise (NGt f) → l2.Pairwise (NGt f) → l1 = l2
  | [], l2, _, hp, _, _ => (List.nil_perm.1 hp).symm
  | x :: l1, [], _, hp, _, _ => absurd hp.length_eq (by simp)
  | x :: l1, y :: l2, T, hp, h1, h2 => by
    have p1 := List.pairwise_cons.1 h1
    have p2 := List.pairwise_cons.1 h2
    have hx : x ∈ x :: l1 := by simp
    have hy : y ∈ x :: l1 := hp.mem_iff.2 (by simp)
    have e : x = y := by
      rcases List.mem_cons.1 hy with e | hy'
      · exact e.symm
      · have hxy := p1.1 y hy'
        rcases List.mem_cons.1 (hp.mem_iff.1 hx) with e | hx'
        · exact e
        · have hyx := p2.1 x hx'
          have s1 := T.swap y hy x hx
          have s2 := T.swap x hx y hy
          unfold NGt at hxy hyx
          exact T.zero x hx y hy (by omega)
    subst e
    rw [sorted_uniq (T.sub fun z hz => List.mem_cons_of_mem _ hz) (List.Perm.cons_inv hp) p1.2 p2.2]
end plain

section model
variable {α : Type}
/-- What is asked of a comparison: the elements read, it only lays blocks of its own. -/
def CmpG (P : Program) (g : FuncId) (X : α → IV) (f : α → α → Option Int) : Prop :=
  ∀ (W : World) (S : Nat → Prop) (u u' : Value) (x y : α) (r : Int), f x y = some r → RepI W S u (X x) → RepI W S u' (X y) →
    Calls P g #[u, u'] W fun e w' => e = .returned (.int .i64 r) ∧ ∃ q os, w' = Sort.grow (W.drewN q) os

/-- The cells of an element in memory that nobody turns, with the element. -/
def El (w : World) (S : Nat → Prop) (k : Nat) (c : α → List IV) (l : List α) : Type := { p : List Value × α // p.1.length = k ∧ (∀ v ∈ p.1, v.oneCell' = true) ∧ RepIs w S p.1 (c p.2) ∧ p.2 ∈ l }
variable {w : World} {S : Nat → Prop} {k : Nat} {c : α → List IV} {l : List α}
def El.enc (x : El w S k c l) : List Value := x.val.1
def El.wd (x : El w S k c l) : α := x.val.2

def El.of (us : List Value) (x : α) (h1 : us.length = k) (h2 : ∀ v ∈ us, v.oneCell' = true) (h3 : RepIs w S us (c x)) (h4 : x ∈ l) : El w S k c l := ⟨(us, x), h1, h2, h3, h4⟩
theorem el_list (hk : ∀ x, (c x).length = k) : ∀ (l0 : List α) (us : List Value), (∀ x ∈ l0, x ∈ l) → us.length = (l0.map c).flatten.length → (∀ u ∈ us, u.oneCell' = true) →
    (∀ (i : Nat) u x, us[i]? = some u → (l0.map c).flatten[i]? = some x → RepI w S u x) → ∃ zs : List (El w S k c l), (zs.map El.enc).flatten = us ∧ zs.map El.wd = l0
  | [], us, _, hl, _, _ => ⟨[], (List.eq_nil_of_length_eq_zero hl).symm, rfl⟩
  | x :: l0, us, hm, hl, h1, hr => by
    rw [List.map_cons, List.flatten_cons] at hl hr
    rw [List.length_append, hk] at hl
    obtain ⟨zs, e1, e2⟩ := el_list hk l0 (us.drop k) (fun y hy => hm y (List.mem_cons_of_mem _ hy)) (by rw [List.length_drop]; omega) (fun u hu => h1 u (List.mem_of_mem_drop hu)) fun i u y hu hy => by
      rw [List.getElem?_drop] at hu
      refine hr (k + i) u y hu ?_
      rw [List.getElem?_append, if_neg (by rw [hk]; omega), hk]
      rwa [Nat.add_sub_cancel_left]
    have hx1 : (us.take k).length = k := by rw [List.length_take]; omega
    have hx2 : ∀ v ∈ us.take k, v.oneCell' = true := fun u hu => h1 u (List.mem_of_mem_take hu)
    have hx3 : RepIs w S (us.take k) (c x) := ⟨by rw [hx1, hk], fun i u y hu hy => by
      have hi : i < k := by
        rw [← hk x]
        exact (List.getElem?_eq_some_iff.1 hy).1
      rw [List.getElem?_take, if_pos hi] at hu
      exact hr i u y hu (by rw [List.getElem?_append, if_pos (by rw [hk]; exact hi)]; exact hy)⟩
    refine ⟨El.of (us.take k) x hx1 hx2 hx3 (hm x (by simp)) :: zs, ?_, ?_⟩
    · rw [List.map_cons, List.flatten_cons, e1]
      exact List.take_append_drop k us
    · rw [List.map_cons, e2]
      rfl

theorem el_swo {f : α → α → Option Int} (T : TotF f l) : SWO (ltOf fun x y : El w S k c l => cfv f x.wd y.wd) where
  irrefl x := by
    have := T.self x.wd x.property.2.2.2
    simp [ltOf, this]
  trans x y z h1 h2 := by
    simp only [ltOf, decide_eq_true_eq] at *
    exact T.trans _ x.property.2.2.2 _ y.property.2.2.2 _ z.property.2.2.2 h1 h2
  ntrans x y z h1 h2 := by
    simp only [ltOf, decide_eq_false_iff_not] at *
    exact T.ngt_trans z.property.2.2.2 y.property.2.2.2 x.property.2.2.2 h2 h1

/-- The sort's own contract: at elements of k cells, handed to the comparison in a form. -/
def SortC (P : Program) (sg : FuncId) (k : Nat) (mk : List Value → Value) : Prop :=
  (∀ (p : Option Addr) (cap : Nat) (fv : Value) (w : World), Calls P sg #[.slice p 0 cap, fv] w fun e w' => e = .returned (.tuple #[]) ∧ w' = w) ∧
  ∀ (E : Type) [Inhabited E] (enc : E → List Value) (cf : E → E → Int) (g blk cap : Nat) (d : Array E) (w : World), (∀ x, (enc x).length = k) → (∀ x, ∀ v ∈ enc x, v.oneCell' = true) → SWO (ltOf cf) →
    (∀ args w, (callFunc g args).run P w = .ok (.enter g args) w) →
    (∀ (m : Nat) (os : Array Obj) (dk : Array E), dk.size = d.size → ∀ x y : E, Calls P g #[mk (enc x), mk (enc y)] (Sort.grow (putRow id (Sort.ahead w m) blk 0 (Go.Sort.flatK enc k dk)) os) fun e w' =>
      e = .returned (.int .i64 (cf x y)) ∧ ∃ q os', w' = Sort.grow ((Sort.grow (putRow id (Sort.ahead w m) blk 0 (Go.Sort.flatK enc k dk)) os).drewN q) os') →
    Go.Sort.Holds id w blk 0 (Go.Sort.flatK enc k d) → blk < w.heap.size → d.size < 4611686018427387904 →
    Calls P sg #[.slice (some ⟨blk, 0, none⟩) d.size cap, .func (.func g) #[] #[]] w fun e w' =>
      e = .returned (.tuple #[]) ∧ ∃ d' n os, PermIn 0 d.size d d' ∧ SortedIn (ltOf cf) 0 d.size d' ∧ w' = Sort.grow (putRow id (Sort.ahead w n) blk 0 (Go.Sort.flatK enc k d')) os

theorem perm_of_in' {β : Type} [Inhabited β] {d d' : Array β} (h : PermIn 0 d.size d d') : d'.toList.Perm d.toList := by
  obtain ⟨hs, _, hp⟩ := h
  have e1 : d'.extract 0 d.size = d' := by rw [← hs]; simp
  have e2 : d.extract 0 d.size = d := by simp
  rwa [e1, e2] at hp
theorem pairwise_of_in' {β : Type} [Inhabited β] {lt : β → β → Bool} {d : Array β} {n : Nat} (hn : d.size = n) (h : SortedIn lt 0 n d) : d.toList.Pairwise fun a b => lt b a = false := by
  rw [List.pairwise_iff_getElem]
  intro i j hi hj hij
  have := h i j (Nat.zero_le _) hij (by rw [← hn]; simpa using hj)
  simp at hi hj
  simpa [getElem!_pos, hi, hj] using this

theorem flatK_list {β : Type} [Inhabited β] {enc : β → List Value} {k : Nat} (hk : ∀ x, (enc x).length = k) (d : Array β) : Go.Sort.flatK enc k d = (d.toList.map enc).flatten.toArray := by
  have hl : ((d.toList.map enc).flatten).length = d.size * k := by
    rw [flat_length (k := k) fun x hx => by obtain ⟨y, _, rfl⟩ := List.mem_map.1 hx; exact hk y]
    simp
  refine ext_get! (by simp [hl]) fun t ht => ?_
  rw [size_flatK] at ht
  rw [get_flatK _ _ _ t ht]
  have k0 : 0 < k := by
    rcases Nat.eq_zero_or_pos k with h | h
    · subst h; simp at ht
    · exact h
  have hq : t / k < d.size := Nat.div_lt_of_lt_mul (by rwa [Nat.mul_comm] at ht)
  have hm : t % k < k := Nat.mod_lt _ k0
  have hg := flat_get (es := d.toList.map enc) (i := t / k) (j := t % k) (e := enc (d[t / k]'hq)) (fun x hx => by obtain ⟨y, _, rfl⟩ := List.mem_map.1 hx; exact hk y) (by simp [hq]) hm
  rw [show t / k * k + t % k = t by rw [Nat.mul_comm]; exact Nat.div_add_mod t k] at hg
  have hm2 : t % k < (enc (d[t / k]'hq)).length := by rw [hk]; exact hm
  rw [List.getElem?_eq_getElem hm2, List.getElem?_eq_getElem (by rw [hl]; exact ht)] at hg
  injection hg with hg
  rw [getElem!_pos d _ hq, getElem!_pos (enc (d[t / k]'hq)) (t % k) hm2, getElem!_pos ((d.toList.map enc).flatten.toArray) t (by simpa [hl] using ht)]
  simpa using hg.symm

/-- An owned row whose cells are laid anew. -/
theorem own_put {w : World} {base : Nat} {e : TypeId} {g n cap k q : Nat} {us us' : List Value} {os : Array Obj} (h : w.ownsRow base e k (.slice (some ⟨g, 0, none⟩) n cap) n us) (hl : us'.length = n * k) :
    (Sort.grow (putRow id (Sort.ahead w q) g 0 us'.toArray) os).ownsRow base e k (.slice (some ⟨g, 0, none⟩) n cap) n us' := by
  rcases h.2 with ⟨e0, _⟩ | ⟨g', cap', cur, e0, hb, hg, hn, hm, hs, ht⟩
  · cases e0
  · injection e0 with e1 _ e3
    injection e1 with e1
    injection e1 with e1
    subst e1; subst e3
    have hlt : g < w.heap.size := by
      rcases Nat.lt_or_ge g w.heap.size with h' | h'
      · exact h'
      · rw [Array.getElem?_eq_none h'] at hg; cases hg
    refine ⟨hl, .inr ⟨g, cap, putCells id 0 us'.toArray cur, rfl, hb, ?_, hn, hm, by simpa [putCells] using hs, ?_⟩⟩
    · have : g < (putRow id (Sort.ahead w q) g 0 us'.toArray).heap.size := by simpa [putRow, mapBlock, Sort.ahead] using hlt
      simp only [Sort.grow, Array.getElem?_append, if_pos this]
      simp [putRow, mapBlock, Sort.ahead, Array.getElem?_modify, hg, onCells]
    · have hle : n * k ≤ cap * k := Nat.mul_le_mul_right k hn
      apply List.ext_getElem?
      intro j
      rw [List.getElem?_take, Array.getElem?_toList]
      by_cases hj : j < n * k
      · have hjc : j < cur.size := by omega
        rw [if_pos hj]
        simp only [putCells, Array.getElem?_mapIdx, Array.getElem?_eq_getElem hjc, Option.map_some]
        rw [if_pos (by simp; omega), List.getElem?_eq_getElem (by omega)]
        simp [getElem!_pos, show j < us'.length by omega]
      · rw [if_neg hj, List.getElem?_eq_none (by omega)]

theorem holds_own {w : World} {base : Nat} {e : TypeId} {g n cap k : Nat} {us : List Value} (h : w.ownsRow base e k (.slice (some ⟨g, 0, none⟩) n cap) n us) : Go.Sort.Holds id w g 0 us.toArray := by
  rcases h.2 with ⟨e0, _⟩ | ⟨g', cap', cur, e0, hb, hg, hn, hm, hs, ht⟩
  · cases e0
  · injection e0 with e1 _ e3
    injection e1 with e1
    injection e1 with e1
    subst e1; subst e3
    intro j hj
    have hj' : j < us.length := by simpa using hj
    have hjn : j < n * k := by rw [← h.1]; exact hj'
    have hle : n * k ≤ cap * k := Nat.mul_le_mul_right k hn
    have hjc : j < cur.size := by omega
    have e1 : (cur.toList.take (n * k))[j]? = us[j]? := by rw [ht]
    rw [List.getElem?_take, if_pos hjn, Array.getElem?_toList, List.getElem?_eq_getElem hj'] at e1
    refine ⟨?_, by simp [World.frozen?, hg]⟩
    simp only [World.cell?, hg, Nat.zero_add, Option.isSome_none, Bool.false_eq_true, if_false]
    rw [e1]
    simp [getElem!_pos, hj']

theorem put_block {w : World} {g q : Nat} {F : Array Value} {os : Array Obj} {b : Nat} (hb : b < w.heap.size) (hne : b ≠ g) : (Sort.grow (putRow id (Sort.ahead w q) g 0 F) os).heap[b]? = w.heap[b]? := by
  have : b < (putRow id (Sort.ahead w q) g 0 F).heap.size := by simpa [putRow, mapBlock, Sort.ahead] using hb
  simp only [Sort.grow, Array.getElem?_append, if_pos this]
  simp [putRow, mapBlock, Sort.ahead, Array.getElem?_modify, Ne.symm hne]
theorem put_cell {w : World} {g q : Nat} {F : Array Value} {os : Array Obj} {p : Addr} {u : Value} (hne : p.block ≠ g) (h : w.cell? p = some u) : (Sort.grow (putRow id (Sort.ahead w q) g 0 F) os).cell? p = some u := by
  have hlt := World.block_lt_of_cell? w _ h
  unfold World.cell? at h ⊢
  rw [put_block hlt hne]
  exact h

theorem sp_of_sort [DecidableEq α] {P : Program} {sg : FuncId} {mk : List Value → Value} {t : TypeId} {X : α → IV} (he : ∀ args w, (callFunc sg args).run P w = .ok (.enter sg args) w) (C : SortC P sg k mk) (hk0 : 0 < k) (hk : ∀ x, (c x).length = k)
    (hX : ∀ (W : World) (S : Nat → Prop) us x, us.length = k → (∀ v ∈ us, v.oneCell' = true) → RepIs W S us (c x) → RepI W S (mk us) (X x))
    {f : α → α → Option Int} {g : FuncId} (eg : ∀ args w, (callFunc g args).run P w = .ok (.enter g args) w) (hg : CmpG P g X f) {l r : List α} (h : libSort l f = some r) :
    Sp P sg [.lent (.row t k (l.map c)), .im (.fn g [])] (.mk true [] [.lent (.row t k (r.map c))]) := by
  obtain ⟨hlen, h⟩ := chk_some h
  cases hT : totB f l with
  | false => rw [hT] at h; cases h
  | true =>
  rw [hT] at h
  injection h with h
  subst h
  have T := totB_iff hT
  refine ⟨he, fun w S vs F hS hv hn hF => ?_⟩
  match vs, hv with
  | [v, u], ⟨F1, F2, ⟨hv1, inn, hrow, e1⟩, ⟨F3, F4, ⟨h4, e2⟩, h5, e3⟩, e4⟩ =>
    have h5 : F4 = [] := h5
    have e1 : F1 = (blkOf v).toList := e1
    subst e1 e2 h5 e3
    have e4 : F = (blkOf v).toList := by rw [e4]; simp
    subst e4
    obtain ⟨us, _, _, hlim, hown, hul, h1, hr⟩ := hrow
    rw [List.length_map] at hown hlim
    have hu : u = .func (.func g) #[] #[] := by
      generalize hx : IV.fn g [] = x at h4
      cases h4 with
      | fn f us cs hl hr =>
        injection hx with hx1 hx2
        subst hx1 hx2
        have := List.eq_nil_of_length_eq_zero hl
        subst this
        rfl
      | _ => cases hx
    subst hu
    have fin : ∀ (w' : World) (us' : List Value), w'.ownsRow 0 t k v l.length us' → us'.length = ((isortF f l).map c).flatten.length → (∀ u ∈ us', u.oneCell' = true) →
        Belo (fun b => b ∈ (blkOf v).toList) w.heap.size w w' → (∀ (i : Nat) u x, us'[i]? = some u → ((isortF f l).map c).flatten[i]? = some x → RepI w' (fun b => (S b ∨ w.heap.size ≤ b ∨ b ∈ (blkOf v).toList) ∧ b < w'.heap.size ∧ b ∉ (blkOf v).toList) u x) →
        ∃ (v1 : Value) (F' : List Nat), Ending.returned (.tuple #[]) = .returned v1 ∧ Belo (fun b => b ∈ (blkOf v).toList) w.heap.size w w' ∧
          ResOk w' (fun b => (S b ∨ w.heap.size ≤ b ∨ b ∈ (blkOf v).toList) ∧ b < w'.heap.size ∧ b ∉ F') v1 (bxVs [v, .func (.func g) #[] #[]] [.lent (.row t k (l.map c)), .im (.fn g [])]) (.mk true [] [.lent (.row t k ((isortF f l).map c))]) F' ∧ F'.Nodup ∧ ∀ b ∈ F', (w.heap.size ≤ b ∨ b ∈ (blkOf v).toList) ∧ b < w'.heap.size := by
      intro w' us' ho hl' h1' hb hr'
      refine ⟨_, (blkOf v).toList, rfl, hb, ⟨[], [], (blkOf v).toList, rfl, rfl, ⟨(blkOf v).toList, [], ⟨hv1, inn, ⟨us', hk0, fun x hx => ?_, ?_, ?_, hl', h1', hr'⟩, rfl⟩, rfl, by simp⟩, by simp⟩, hn, fun b hb' => ⟨.inr hb', Nat.lt_of_lt_of_le (hF b hb').2 hb.size⟩⟩
      · obtain ⟨y, _, rfl⟩ := List.mem_map.1 hx
        exact hk y
      · rw [List.length_map, (isortF_perm f l).length_eq]
        exact hlim
      · rw [List.length_map, (isortF_perm f l).length_eq]
        exact ho
    by_cases hnil : v = .slice none 0 0
    · subst hnil
      have hl0 : l.length = 0 := by
        rcases hown.2 with ⟨_, h0⟩ | ⟨_, _, _, e, _⟩
        · exact h0
        · cases e
      have hl0 : l = [] := List.eq_nil_of_length_eq_zero hl0
      subst hl0
      refine (C.1 none 0 _ w).mono ?_
      rintro e w' ⟨rfl, rfl⟩
      have hus : us = [] := List.eq_nil_of_length_eq_zero (by rw [hul]; rfl)
      subst hus
      exact fin w' [] hown rfl (fun u hu => by cases hu) (Belo.refl _ _ _) fun i u x hu => by simp at hu
    · obtain ⟨blk, cap, rfl⟩ : ∃ blk cap, v = .slice (some ⟨blk, 0, none⟩) l.length cap := by
        rcases hown.2 with ⟨e0, _⟩ | ⟨g, cap, cur, e, _⟩
        · exact absurd e0 hnil
        · exact ⟨g, cap, e⟩
      have hblk : blk < w.heap.size := (hF blk (by simp [blkOf])).2
      have hnS : ¬ S blk := (hF blk (by simp [blkOf])).1
      obtain ⟨zs, hz1, hz2⟩ := el_list (w := w) (S := S) (l := l) hk l us (fun x hx => hx) hul h1 hr
      by_cases hl0 : l = []
      · subst hl0
        refine (C.1 (some ⟨blk, 0, none⟩) cap _ w).mono ?_
        rintro e w' ⟨rfl, rfl⟩
        have hus : us = [] := List.eq_nil_of_length_eq_zero (by rw [hul]; rfl)
        subst hus
        exact fin w' [] hown rfl (fun u hu => by cases hu) (Belo.refl _ _ _) fun i u x hu => by simp at hu
      · have hzl : zs.length = l.length := by have := congrArg List.length hz2; simpa using this
        obtain ⟨z0, hz0⟩ : ∃ z, z ∈ zs := by
          cases zs with
          | nil => exact absurd (by simpa using hz2.symm) hl0
          | cons z zs => exact ⟨z, by simp⟩
        haveI : Inhabited (El w S k c l) := ⟨z0⟩
        have henc : ∀ x : El w S k c l, (El.enc x).length = k := fun x => x.property.1
        have hflat : ∀ d : Array (El w S k c l), Go.Sort.flatK El.enc k d = (d.toList.map El.enc).flatten.toArray := flatK_list henc
        have hcall := C.2 (El w S k c l) El.enc (fun x y => cfv f x.wd y.wd) g blk cap zs.toArray w henc (fun x => x.property.2.1) (el_swo T) eg (fun m os dk _ x y => by
            refine hg _ S _ _ x.wd y.wd _ (T.get _ x.property.2.2.2 _ y.property.2.2.2) (hX _ _ _ _ x.property.1 x.property.2.1 ⟨x.property.2.2.1.1, fun i u z hu hz => ?_⟩) (hX _ _ _ _ y.property.1 y.property.2.1 ⟨y.property.2.2.1.1, fun i u z hu hz => ?_⟩)
            · exact (x.property.2.2.1.2 i u z hu hz).mono (fun _ h => h) fun p u hp hu => put_cell (fun e => hnS (by rw [← e]; exact hp)) hu
            · exact (y.property.2.2.1.2 i u z hu hz).mono (fun _ h => h) fun p u hp hu => put_cell (fun e => hnS (by rw [← e]; exact hp)) hu)
          (by rw [hflat]; show Go.Sort.Holds id w blk 0 ((zs.map El.enc).flatten).toArray; rw [hz1]; exact holds_own hown) hblk (by simp; omega)
        have hsz : zs.toArray.size = l.length := by simpa using hzl
        rw [hsz] at hcall
        refine hcall.mono ?_
        rintro e w' ⟨rfl, d', n, os, hp, hs, rfl⟩
        have hd' : d'.size = l.length := by rw [hp.1]; exact hsz
        have hperm := perm_of_in' (d := zs.toArray) (by rw [hsz]; exact hp)
        have hpw := pairwise_of_in' hd' hs
        have hwd : d'.toList.map El.wd = isortF f l := by
          have hp1 : (d'.toList.map El.wd).Perm l := (hperm.map El.wd).trans (List.Perm.of_eq hz2)
          refine sorted_uniq (T.sub fun x hx => hp1.mem_iff.1 hx) (hp1.trans (isortF_perm f l).symm) ?_ (isortF_sorted T)
          rw [List.pairwise_map]
          refine hpw.imp fun {a b} hab => ?_
          have hab2 : ¬ cfv f b.wd a.wd < 0 := by simpa only [ltOf, decide_eq_false_iff_not] using hab
          exact hab2
        rw [hflat]
        have hlen' : ((d'.toList.map El.enc).flatten).length = l.length * k := by
          rw [flat_length (k := k) fun x hx => by obtain ⟨y, _, rfl⟩ := List.mem_map.1 hx; exact henc y]
          simp [hd']
        have hflen : ((isortF f l).map c).flatten.length = l.length * k := by
          rw [flat_length (k := k) fun x hx => by obtain ⟨y, _, rfl⟩ := List.mem_map.1 hx; exact hk y, List.length_map, (isortF_perm f l).length_eq]
        refine fin _ _ (own_put hown hlen') (by rw [hlen', hflen]) (fun u hu => ?_) ⟨rfl, rfl, rfl, ?_, fun b hb hnb => put_block hb fun e => hnb (by simp [blkOf, e])⟩ fun i u x hu hx => ?_
        · obtain ⟨us2, h2, h3⟩ := List.mem_flatten.1 hu
          obtain ⟨y, _, rfl⟩ := List.mem_map.1 h2
          exact y.property.2.1 u h3
        · simp [Sort.grow, putRow, mapBlock, Sort.ahead]
        · have hi : i < l.length * k := by rw [← hlen']; exact (List.getElem?_eq_some_iff.1 hu).1
          have hq : i / k < l.length := Nat.div_lt_of_lt_mul (by rwa [Nat.mul_comm] at hi)
          have hm : i % k < k := Nat.mod_lt _ hk0
          have hik : i / k * k + i % k = i := by rw [Nat.mul_comm]; exact Nat.div_add_mod i k
          have hq' : i / k < d'.size := by rw [hd']; exact hq
          have g1 := flat_get (es := d'.toList.map El.enc) (i := i / k) (j := i % k) (e := El.enc (d'[i / k]'hq')) (fun x hx => by obtain ⟨y, _, rfl⟩ := List.mem_map.1 hx; exact henc y) (by simp [hq']) hm
          have g2 := flat_get (es := (isortF f l).map c) (i := i / k) (j := i % k) (e := c (El.wd (d'[i / k]'hq'))) (fun x hx => by obtain ⟨y, _, rfl⟩ := List.mem_map.1 hx; exact hk y) (by rw [← hwd]; simp [hq']) hm
          rw [hik, hu] at g1
          rw [hik, hx] at g2
          refine ((d'[i / k]'hq').property.2.2.1.2 _ _ _ g1.symm g2.symm).mono (fun b hb => ⟨.inl hb, ?_, ?_⟩) fun p u hp hu => put_cell (fun e => hnS (by rw [← e]; exact hp)) hu
          · have : w.heap.size ≤ (Sort.grow (putRow id (Sort.ahead w n) blk 0 ((d'.toList.map El.enc).flatten).toArray) os).heap.size := by simp [Sort.grow, putRow, mapBlock, Sort.ahead]
            exact Nat.lt_of_lt_of_le (hS b hb) this
          · intro hb'
            have : b = blk := by simpa [blkOf] using hb'
            subst this
            exact hnS hb
end model
end Go.Proofs.YtpmebphhbgpapaaGreatDoor.Sym

/-
  Plain laws on the key of a word: the digits at base 36, and that no two words have the same key. No program in sight.
-/
namespace Go.Proofs.YtpmebphhbgpapaaGreatDoor

/-- The digit of a number below 36. -/
def dig36 (d : Nat) : UInt8 := if d < 10 then UInt8.ofNat (48 + d) else UInt8.ofNat (87 + d)

/-- The digits of a number at base 36, at most so many. -/
def digsF : Nat → Nat → List UInt8
  | 0, u => [dig36 u]
  | f + 1, u => if u < 36 then [dig36 u] else digsF f (u / 36) ++ [dig36 (u % 36)]

theorem digsF_more : ∀ (f g u : Nat), u ≤ f → u ≤ g → digsF f u = digsF g u
  | 0, 0, _, _, _ => rfl
  | 0, g + 1, u, h, _ => by
    have h0 : u = 0 := by omega
    subst h0
    rfl
  | f + 1, 0, u, _, h => by
    have h0 : u = 0 := by omega
    subst h0
    rfl
  | f + 1, g + 1, u, h1, h2 => by
    unfold digsF
    by_cases h : u < 36
    · rw [if_pos h, if_pos h]
    · rw [if_neg h, if_neg h, digsF_more f g (u / 36) (by omega) (by omega)]

/-- The digits of a number at base 36. -/
def digs (u : Nat) : List UInt8 := digsF u u

theorem digs_small {u : Nat} (h : u < 36) : digs u = [dig36 u] := by
  unfold digs
  cases u with
  | zero => rfl
  | succ u => unfold digsF; rw [if_pos h]
theorem digs_big {u : Nat} (h : 36 ≤ u) : digs u = digs (u / 36) ++ [dig36 (u % 36)] := by
  obtain ⟨v, rfl⟩ : ∃ v, u = v + 1 := ⟨u - 1, by omega⟩
  show digsF (v + 1) (v + 1) = digsF ((v + 1) / 36) ((v + 1) / 36) ++ [dig36 ((v + 1) % 36)]
  rw [digsF, if_neg (by omega), digsF_more v ((v + 1) / 36) ((v + 1) / 36) (by omega) (Nat.le_refl _)]

theorem digs_len : ∀ (k u : Nat), u < 36 ^ (k + 1) → (digs u).length ≤ k + 1
  | 0, u, h => by rw [digs_small (by simpa using h)]; simp
  | k + 1, u, h => by
    by_cases h1 : u < 36
    · rw [digs_small h1]; simp
    · rw [digs_big (by omega), List.length_append]
      have := digs_len k (u / 36) (by rw [Nat.div_lt_iff_lt_mul (by omega), ← Nat.pow_succ]; exact h)
      simp; omega

theorem digs_len13 {u : Nat} (h : u < 18446744073709551616) : (digs u).length ≤ 13 :=
  digs_len 12 u (Nat.lt_of_lt_of_le h (by decide))

theorem digs_pos (u : Nat) : 0 < (digs u).length := by
  by_cases h1 : u < 36
  · rw [digs_small h1]; simp
  · rw [digs_big (by omega)]; simp

/-- The number of a digit. -/
def undig (c : UInt8) : Nat := if c.toNat < 58 then c.toNat - 48 else c.toNat - 87

theorem undig_dig {d : Nat} (h : d < 36) : undig (dig36 d) = d := by
  have : ∀ d : Fin 36, undig (dig36 d.1) = d.1 := by decide
  exact this ⟨d, h⟩

theorem dig_char {d : Nat} (h : d < 36) : 48 ≤ (dig36 d).toNat := by
  have : ∀ d : Fin 36, 48 ≤ (dig36 d.1).toNat := by decide
  exact this ⟨d, h⟩

def undigs (l : List UInt8) : Nat := l.foldl (fun n c => n * 36 + undig c) 0

theorem undigs_digs (u : Nat) : undigs (digs u) = u := by
  induction u using Nat.strongRecOn with
  | _ u ih =>
    by_cases h1 : u < 36
    · rw [digs_small h1]; simp [undigs, undig_dig h1]
    · rw [digs_big (by omega), undigs, List.foldl_append]
      have := ih (u / 36) (by omega)
      rw [undigs] at this
      simp only [List.foldl_cons, List.foldl_nil, this, undig_dig (Nat.mod_lt u (by omega))]
      omega

theorem digs_inj {u v : Nat} (h : digs u = digs v) : u = v := by rw [← undigs_digs u, h, undigs_digs]

theorem digs_char (u : Nat) : ∀ c ∈ digs u, 48 ≤ c.toNat := by
  induction u using Nat.strongRecOn with
  | _ u ih =>
    by_cases h1 : u < 36
    · rw [digs_small h1]
      intro c hc
      simp at hc
      rw [hc]; exact dig_char h1
    · rw [digs_big (by omega)]
      intro c hc
      rw [List.mem_append] at hc
      rcases hc with hc | hc
      · exact ih (u / 36) (by omega) c hc
      · simp at hc
        rw [hc]; exact dig_char (Nat.mod_lt u (by omega))

/-- The text of a number at base 36. -/
def enc36 (a : Int) : List UInt8 := if a < 0 then 45 :: digs a.natAbs else digs a.natAbs

theorem enc36_char (a : Int) : ∀ c ∈ enc36 a, c ≠ 32 := by
  intro c hc e
  subst e
  unfold enc36 at hc
  split at hc
  · simp only [List.mem_cons] at hc
    rcases hc with hc | hc
    · exact absurd hc (by decide)
    · have := digs_char _ _ hc
      exact absurd this (by decide)
  · have := digs_char _ _ hc
    exact absurd this (by decide)

theorem enc36_inj {a b : Int} (h : enc36 a = enc36 b) : a = b := by
  have hne : ∀ u v : Nat, 45 :: digs u ≠ digs v := fun u v e => by
    have := digs_char v 45 (by rw [← e]; simp)
    exact absurd this (by decide)
  unfold enc36 at h
  split at h <;> split at h
  · injection h with _ h
    have := digs_inj h
    omega
  · exact absurd h (hne _ _)
  · exact absurd h.symm (hne _ _)
  · have := digs_inj h
    omega

theorem enc36_len {a : Int} (h1 : -9223372036854775808 ≤ a) (h2 : a ≤ 9223372036854775807) : (enc36 a).length ≤ 14 := by
  have := digs_len13 (u := a.natAbs) (by omega)
  unfold enc36
  split <;> simp <;> omega

/-- The key of a word. -/
def keyL : List Int → List UInt8
  | [] => []
  | a :: xs => enc36 a ++ 32 :: keyL xs

theorem keyL_append : ∀ xs ys : List Int, keyL (xs ++ ys) = keyL xs ++ keyL ys
  | [], _ => rfl
  | a :: xs, ys => by simp [keyL, keyL_append xs ys]

theorem split_at {c : UInt8} : ∀ {xs ys rs ss : List UInt8}, (∀ d ∈ xs, d ≠ c) → (∀ d ∈ ys, d ≠ c) → xs ++ c :: rs = ys ++ c :: ss → xs = ys ∧ rs = ss
  | [], [], rs, ss, _, _, h => by simpa using h
  | [], y :: ys, rs, ss, _, h2, h => by
    simp at h
    exact absurd h.1.symm (h2 y (by simp))
  | x :: xs, [], rs, ss, h1, _, h => by
    simp at h
    exact absurd h.1 (h1 x (by simp))
  | x :: xs, y :: ys, rs, ss, h1, h2, h => by
    simp only [List.cons_append, List.cons.injEq] at h
    obtain ⟨e1, e2⟩ := split_at (fun d hd => h1 d (by simp [hd])) (fun d hd => h2 d (by simp [hd])) h.2
    exact ⟨by rw [h.1, e1], e2⟩

theorem keyL_inj : ∀ {xs ys : List Int}, keyL xs = keyL ys → xs = ys
  | [], [], _ => rfl
  | [], a :: ys, h => by simp [keyL] at h
  | a :: xs, [], h => by simp [keyL] at h
  | a :: xs, b :: ys, h => by
    simp only [keyL] at h
    obtain ⟨e1, e2⟩ := split_at (enc36_char a) (enc36_char b) h
    rw [enc36_inj e1, keyL_inj e2]

theorem keyL_len : ∀ {xs : List Int}, (∀ x ∈ xs, -9223372036854775808 ≤ x ∧ x ≤ 9223372036854775807) → (keyL xs).length ≤ 15 * xs.length
  | [], _ => by simp [keyL]
  | a :: xs, h => by
    have h1 := keyL_len (xs := xs) fun x hx => h x (by simp [hx])
    have h2 := h a (by simp)
    have h3 := enc36_len h2.1 h2.2
    simp only [keyL, List.length_append, List.length_cons]
    omega

end Go.Proofs.YtpmebphhbgpapaaGreatDoor

/-
  Walks of strconv.AppendInt at base 36 (internal/strconv.AppendInt, AppendUint, formatBits).
-/
namespace Go.Proofs.YtpmebphhbgpapaaGreatDoor
open Go.RowKit

theorem Tryz.infoByte : (Tryz.prog.info? 5).map (fun i => (i.zero, i.size, i.bytes)) = some (some (.int .u8 0), 1, 1) := by kernel_rfl

/-- The cells of bytes. -/
def bcells (l : List UInt8) : List Value := l.map fun b => .int .u8 (b.toNat : Int)
theorem bcells_length (l : List UInt8) : (bcells l).length = l.length := by simp [bcells]
theorem bcells_append (l m : List UInt8) : bcells (l ++ m) = bcells l ++ bcells m := by simp [bcells]
theorem bcells_one (l : List UInt8) : ∀ u ∈ bcells l, u.oneCell' = true := by
  intro u hu
  simp only [bcells, List.mem_map] at hu
  obtain ⟨b, _, rfl⟩ := hu
  rfl

/-- The call's own row of bytes. -/
def OwnB (w : World) (base : Nat) (v : Value) (l : List UInt8) : Prop := w.ownsRow base 5 1 v l.length (bcells l)
theorem OwnB.lt {w : World} {base : Nat} {v : Value} {l : List UInt8} (h : OwnB w base v l) : ∀ k, v.ownBlock = some k → base ≤ k ∧ k < w.heap.size := World.ownsRow.lt h
theorem OwnB.nil_ (w : World) (base : Nat) : OwnB w base (.slice none 0 0) [] := World.ownsRow_nil _ _ _ _

/-- It hands back the call's own row, with more bytes. -/
def MoreB (w : World) (base : Nat) (l : List UInt8) (e : Ending) (w' : World) : Prop := ∃ v', e = .returned v' ∧ OwnB w' base v' l ∧ Below base w w'

theorem idx36 (k : IntKind) (z : Int) (d : Nat) (hz : z = (d : Int)) (hd : d < 36) (w : World) :
    (Instr.index 9 (.string { data := #[48, 49, 50, 51, 52, 53, 54, 55, 56, 57, 97, 98, 99, 100, 101, 102, 103, 104, 105, 106, 107, 108, 109, 110, 111, 112, 113, 114, 115, 116, 117, 118, 119, 120, 121, 122] }) (.int k z)).run Tryz.prog w = .ok (.int .u8 ((dig36 d).toNat : Int)) w := by
  subst hz
  rw [run_index_string w 9 _ k _ Tryz.underlying9, dif_pos ⟨by omega, by show (d : Int) < ((36 : Nat) : Int); omega⟩]
  have : ∀ d : Fin 36, (({ data := #[48, 49, 50, 51, 52, 53, 54, 55, 56, 57, 97, 98, 99, 100, 101, 102, 103, 104, 105, 106, 107, 108, 109, 110, 111, 112, 113, 114, 115, 116, 117, 118, 119, 120, 121, 122] } : ByteArray)[d.1]'(by show d.1 < 36; exact d.2)) = dig36 d.1 := by decide
  have h := this ⟨d, hd⟩
  simp only [Int.toNat_natCast]
  rw [h]

/-- The digits that the array holds behind place i. -/
def Dig (zs : List Value) (i : Nat) (l : List UInt8) : Prop := zs.length = 65 ∧ zs.drop i = bcells l

theorem Dig.push {zs : List Value} {j : Nat} {m : List UInt8} (h : Dig zs (j + 1) m) (hj : j < 65) (c : UInt8) : Dig (zs.set j (.int .u8 (c.toNat : Int))) j (c :: m) := by
  obtain ⟨h1, h2⟩ := h
  refine ⟨by simpa using h1, ?_⟩
  rw [List.drop_eq_getElem_cons (by simp; omega), List.getElem_set_self, List.drop_set_of_lt (by omega), h2]
  rfl

set_option maxRecDepth 100000 in
set_option maxHeartbeats 1600000 in
theorem formatBits_any {B u : Nat} {sv : Value} {l : List UInt8} {w : World} (hu : u < 18446744073709551616) (hown : OwnB w B sv l) (hB : B ≤ w.heap.size) (hl : l.length ≤ 1000000000) :
    Calls Tryz.prog 172 #[sv, .int .u64 u, .int .i64 36, .bool false, .bool true] w (fun e w' => ∃ v', e = .returned (.tuple #[v', .string ByteArray.empty]) ∧ OwnB w' B v' (l ++ digs u) ∧ Below B w w') := by
  obtain ⟨i0, hi, hz0, hz1, hz2⟩ := info_parts Tryz.infoByte
  have HOWN := Lib.hid hown
  clear hown
  have hbits : (bits BinOp.and IntKind.i64 36 35 == 0) = false := by decide
  go_enter Tryz.func172, Tryz.ntmps172
  go_wp2
  go_loopw [1, 13, 18] (fun v i _ wr => ∃ k j : Nat, ∃ m : List UInt8, ∃ zs, v = .int .u64 k ∧ i = .int .i64 j ∧ k < 18446744073709551616 ∧ j + m.length = 65 ∧ Hid (digs k ++ m = digs u) ∧ Hid (Dig zs j m) ∧ wr.ownsRow w.heap.size 193 1 (.slice (some ⟨w.heap.size, 0, none⟩) 65 65) 65 zs ∧ Below w.heap.size w wr) (fun v _ _ _ => (intOf v).toNat)
  case atStart => exact ⟨u, 65, [], _, rfl, rfl, hu, rfl, Lib.hid (by simp), Lib.hid ⟨rfl, rfl⟩, World.ownsRow_lit w _ 65 (Nat.le_refl _) (by unfold maxLen; omega) rfl, (Below.refl _ _).alloc (Nat.le_refl _) _⟩
  case round =>
    obtain ⟨k, j, m, zs, rfl, rfl, hk, hj, HD, HZ, hrow, hbel⟩ := hrel
    have hlen : m.length ≤ 12 := by
      have h1 := congrArg List.length HD.out
      rw [List.length_append] at h1
      have h2 := digs_pos k
      have h3 := digs_len13 hu
      omega
    obtain ⟨j, rfl⟩ : ∃ j' : Nat, j = j' + 1 := ⟨j - 1, by omega⟩
    have hzl : j < zs.length := by rw [HZ.out.1]; omega
    have q1 : wr.cell? ⟨w.heap.size, j, none⟩ = some (zs[j]) := by rw [hrow.cellAt j (by omega)]; exact List.getElem?_eq_getElem hzl
    have q2 : wr.frozen? ⟨w.heap.size, j, none⟩ = false := hrow.frozenAt j
    generalize zs[j] = z0 at q1
    have HR := Lib.hid hrow
    have HB := Lib.hid hbel
    clear hrow hbel hzl
    by_cases h1 : 36 ≤ k
    · have e0 : ((j + 1 : Nat) : Int) - 1 = (j : Int) := by omega
      have hix := fun W => idx36 .u64 ((k : Int) - (k : Int) / 36 * 36) (k % 36) (by omega) (by omega) W
      go_wp2
      go_roundw
      case rel =>
        obtain ⟨s1, s2⟩ := HR.out.stored j (.int .u8 ((dig36 (k % 36)).toNat : Int))
        exact ⟨k / 36, j, dig36 (k % 36) :: m, _, by go_num, rfl, by omega, by simp; omega, Lib.hid (by rw [← HD.out, digs_big h1]; simp), Lib.hid (HZ.out.push (by omega) _), s1, HB.out.grown s2 HB.out.size (fun g e => by injection e with e; omega)⟩
      case measure => simp [intOf] <;> omega
    · have e0 : ((j + 1 : Nat) : Int) - 1 = (j : Int) := by omega
      have hix := fun W => idx36 .u64 (k : Int) k rfl (by omega) W
      have hal : Tryz.prog.arrayLen 193 = 65 := by simp [Program.arrayLen, Tryz.underlying193]
      have hsl : ∀ W, (Instr.sliceAt 193 (.pointer (some ⟨w.heap.size, 0, none⟩)) (some (.int .i64 (j : Int))) none none).run Tryz.prog W = .ok (.slice (some ⟨w.heap.size, j, none⟩) (65 - j) (65 - j)) W := fun W => by
        rw [run_sliceAt_array_l W 193 ⟨w.heap.size, 0, none⟩ (by simp [Program.arrayLen, Program.elem, Tryz.underlying193]) .i64 (j : Int) (by omega) (by rw [hal]; omega)]
        go_simp
        omega
      obtain ⟨s1, s2⟩ := HR.out.stored j (.int .u8 ((dig36 k).toNat : Int))
      have hb2 : Below w.heap.size w (wr.setCell ⟨w.heap.size, j, none⟩ (.int .u8 ((dig36 k).toNat : Int))) := HB.out.grown s2 HB.out.size (fun g e => by injection e with e; omega)
      have hown2 : OwnB (wr.setCell ⟨w.heap.size, j, none⟩ (.int .u8 ((dig36 k).toNat : Int))) B sv l := World.ownsRow.kept HOWN.out (grown_none hb2) (by cases sv.ownBlock <;> simp)
      have hdz := HZ.out.push (by omega) (dig36 k)
      have hsrc : Src (wr.setCell ⟨w.heap.size, j, none⟩ (.int .u8 ((dig36 k).toNat : Int))) (some ⟨w.heap.size, j, none⟩) (65 - j) (bcells (dig36 k :: m)) := by
        refine ⟨by rw [bcells_length]; simp; omega, fun _ => ⟨_, _, rfl, fun i v hv => ?_⟩⟩
        have hi : i < (bcells (dig36 k :: m)).length := (List.getElem?_eq_some_iff.1 hv).1
        rw [bcells_length, List.length_cons] at hi
        rw [s1.cellAt (j + i) (by omega), ← hv, ← hdz.2, List.getElem?_drop]
      have hone := bcells_one (dig36 k :: m)
      have hc1 : l.length + (65 - j) ≤ maxLen := by unfold maxLen; omega
      have hc2 : (l.length + (65 - j)) * 1 ≤ 140737488355328 := by omega
      have hc3 : B ≤ (wr.setCell ⟨w.heap.size, j, none⟩ (.int .u8 ((dig36 k).toNat : Int))).heap.size := Nat.le_trans hB hb2.size
      have hfull : bcells l ++ bcells (dig36 k :: m) = bcells (l ++ digs u) := by
        rw [← bcells_append, ← HD.out, digs_small (by omega)]; rfl
      have hfl : l.length + (65 - j) = (l ++ digs u).length := by
        rw [← HD.out, digs_small (by omega)]; simp; omega
      have HF := Lib.hid (And.intro hfull hfl)
      have HB2 := Lib.hid hb2
      clear s1 s2 hdz hb2 hfull hfl hal
      unfold OwnB at hown2
      go_wp2_with (at_builtin; refine wpList_append_row rfl (.tmp 95) (.tmp 97) 132 rfl B 5 i0 (.int .u8 0) 1 Tryz.underlying132 hi hz0 hz1 hz2 rfl sv _ _ rfl hown2 _ (65 - j) (65 - j) _ rfl hsrc hone hc1 hc2 hc3 ?_; intro v1 w1 hown1 hg1 hb1)
      go_ret2
      have hlt := hown2
      refine ⟨_, rfl, ?_, ?_⟩
      · unfold OwnB
        rw [← HF.out.1, ← HF.out.2]
        exact hown1
      · exact (HB2.out.mono hB).grown hg1 hc3 fun g e => (OwnB.lt hown2 g e).1

set_option maxRecDepth 100000 in
set_option maxHeartbeats 800000 in
theorem appendUint_any {B u : Nat} {sv : Value} {l : List UInt8} {w : World} (hu : u < 18446744073709551616) (hown : OwnB w B sv l) (hB : B ≤ w.heap.size) (hl : l.length ≤ 1000000000) :
    Calls Tryz.prog 155 #[sv, .int .u64 u, .int .i64 36] w (MoreB w B (l ++ digs u)) := by
  have hcall := formatBits_any hu hown hB hl
  clear hown
  go_enter Tryz.func155, Tryz.ntmps155
  go_wp2_with (go_at_call 172; refine hcall.mono ?_; rintro e w' ⟨v', rfl, hown', hb'⟩)
  go_ret
  exact ⟨_, rfl, hown', hb'⟩

set_option maxRecDepth 100000 in
set_option maxHeartbeats 800000 in
theorem appendInt_any {B : Nat} {a : Int} {sv : Value} {l : List UInt8} {w : World} (ha1 : -9223372036854775808 ≤ a) (ha2 : a ≤ 9223372036854775807) (hown : OwnB w B sv l) (hB : B ≤ w.heap.size) (hl : l.length ≤ 100000000) :
    Calls Tryz.prog 137 #[sv, .int .i64 a, .int .i64 36] w (MoreB w B (l ++ enc36 a)) := by
  obtain ⟨i0, hi, hz0, hz1, hz2⟩ := info_parts Tryz.infoByte
  by_cases h1 : a < 0
  · have hs1 : ∀ t, Src (w.alloc (.cells #[.int .u8 45] t)) (some ⟨w.heap.size, 0, none⟩) 1 [.int .u8 45] := fun t => src_one w _ t
    have hone : ∀ u ∈ [Value.int .u8 45], u.oneCell' = true := by intro u hu; simp at hu; subst hu; rfl
    have hownA : ∀ o, (w.alloc o).ownsRow B 5 1 sv l.length (bcells l) := fun o => World.ownsRow.alloc hown o
    have hc1 : l.length + 1 ≤ maxLen := by unfold maxLen; omega
    have hc2 : (l.length + 1) * 1 ≤ 140737488355328 := by omega
    have hc3 : ∀ o, B ≤ (w.alloc o).heap.size := fun o => by simp; omega
    have hlt := OwnB.lt hown
    have hB1 : ∀ o, Below B w (w.alloc o) := fun o => (Below.refl B w).alloc hB o
    have HOWN := Lib.hid hown
    clear hown
    have e1 : (enc36 a) = 45 :: digs a.natAbs := by unfold enc36; rw [if_pos h1]
    have HE := Lib.hid e1
    clear e1
    go_enter Tryz.func137, Tryz.ntmps137
    go_wp2_with (at_builtin; refine wpList_append_row rfl (.tmp 12) (.tmp 13) 132 rfl B 5 i0 (.int .u8 0) 1 Tryz.underlying132 hi hz0 hz1 hz2 rfl sv _ _ rfl (hownA _) _ 1 1 [.int .u8 45] rfl (hs1 _) hone hc1 hc2 (hc3 _) ?_; intro v1 w1 hown1 hg1 hb1)
    have hw : IntKind.u64.wrap (-IntKind.u64.wrap a) = ((a.natAbs : Nat) : Int) := by
      rw [IntKind.wrap_u64, IntKind.wrap_u64]; omega
    rw [hw]
    have hown2 : OwnB w1 B v1 (l ++ [45]) := by
      unfold OwnB
      rw [bcells_append, List.length_append]
      exact hown1
    have hb2 : Below B w w1 := (hB1 _).grown hg1 (hc3 _) fun g e => (hlt g e).1
    have hcall := appendUint_any (u := a.natAbs) (by omega) hown2 (Nat.le_trans hB (by have := hg1.size; simp at this; omega)) (by simp; omega)
    clear hown1 hg1 hb1 hown2 hownA hs1 hc3
    refine hcall.mono ?_
    rintro e w' ⟨v', rfl, hown', hb'⟩
    go_wp2
    go_ret
    refine ⟨_, rfl, ?_, hb2.trans hb'⟩
    rw [HE.out]
    simpa using hown'
  · have HOWN := Lib.hid hown
    have e1 : (enc36 a) = digs a.natAbs := by unfold enc36; rw [if_neg h1]
    have hw : IntKind.u64.wrap a = ((a.natAbs : Nat) : Int) := by
      rw [IntKind.wrap_u64]; omega
    have hcall := appendUint_any (u := a.natAbs) (by omega) hown hB (by omega)
    clear hown
    go_enter Tryz.func137, Tryz.ntmps137
    go_wp2_with (go_at_call 155; refine hcall.mono ?_; rintro e w' ⟨v', rfl, hown', hb'⟩)
    go_ret
    exact ⟨_, rfl, by rw [e1]; exact hown', hb'⟩

set_option maxRecDepth 100000 in
theorem strconvAppendInt_any {B : Nat} {a : Int} {sv : Value} {l : List UInt8} {w : World} (ha1 : -9223372036854775808 ≤ a) (ha2 : a ≤ 9223372036854775807) (hown : OwnB w B sv l) (hB : B ≤ w.heap.size) (hl : l.length ≤ 100000000) :
    Calls Tryz.prog 107 #[sv, .int .i64 a, .int .i64 36] w (MoreB w B (l ++ enc36 a)) := by
  have hcall := appendInt_any ha1 ha2 hown hB hl
  clear hown
  go_enter Tryz.func107, Tryz.ntmps107
  go_wp2_with (go_at_call 137; refine hcall.mono ?_; rintro e w' ⟨v', rfl, hown', hb'⟩)
  go_ret
  exact ⟨_, rfl, hown', hb'⟩

theorem keyL_take {xs : List Int} {k : Nat} {x : Int} (h : xs[k]? = some x) : keyL (xs.take (k + 1)) = (keyL (xs.take k) ++ enc36 x) ++ [32] := by
  rw [take_step h, keyL_append]; simp [keyL]

def Rng (x : Int) : Prop := -9223372036854775808 ≤ x ∧ x ≤ 9223372036854775807

/-- wordset.key. -/
def KeyPost (w : World) (l : List UInt8) (e : Ending) (w' : World) : Prop := e = .returned (.string ⟨l.toArray⟩) ∧ Below w.heap.size w w'

set_option maxRecDepth 100000 in
set_option maxHeartbeats 1600000 in
theorem key_any {A : Option Addr} {n c : Nat} {xs : List Int} {w : World} (hx : RowOf w IsInt A n c xs) (hr : ∀ x ∈ xs, Rng x) (hn : n ≤ 2000000) :
    Calls Tryz.prog 55 #[.slice A n c] w (KeyPost w (keyL xs)) := by
  have HL := Lib.hid hx.len
  have HR := Lib.hid hr
  obtain ⟨i0, hi, hz0, hz1, hz2⟩ := info_parts Tryz.infoByte
  clear hr
  go_enter Tryz.func55, Tryz.ntmps55
  go_wp2
  go_loopw [3, 5, 8] (fun v _ i wr => ∃ k : Nat, k ≤ n ∧ i = .int .i64 k ∧ OwnB wr w.heap.size v (keyL (xs.take k)) ∧ Below w.heap.size w wr) (fun _ _ i _ => n - (intOf i).toNat)
  case atStart => exact ⟨0, by omega, rfl, OwnB.nil_ _ _, Below.refl _ _⟩
  case round =>
    obtain ⟨k, hk, rfl, hown, hbel⟩ := hrel
    have hkl : (keyL (xs.take k)).length ≤ 15 * k := by
      have := keyL_len (xs := xs.take k) fun x hx => HR.out x (List.mem_of_mem_take hx)
      rw [List.length_take] at this
      omega
    by_cases h1 : k < n
    · obtain ⟨b, o, x, rfl, hx1, hx2⟩ := hx.int_at h1
      have hc := Keeps.of_below hbel _ _ hx2
      have hrx := HR.out x (List.mem_of_getElem? hx1)
      have HX := Lib.hid hx1
      have HC := Lib.hid (strconvAppendInt_any hrx.1 hrx.2 hown hbel.size (by omega))
      have hlen := enc36_len hrx.1 hrx.2
      have HB := Lib.hid hbel
      clear hx1 hx2 hrx hown hbel
      have hone : ∀ u ∈ [Value.int .u8 32], u.oneCell' = true := by intro u hu; simp at hu; subst hu; rfl
      have hc1 : (keyL (xs.take k) ++ enc36 x).length + 1 ≤ maxLen := by unfold maxLen; simp; omega
      have hc2 : ((keyL (xs.take k) ++ enc36 x).length + 1) * 1 ≤ 140737488355328 := by simp; omega
      go_wp2_with (first | (go_at_call 107; refine HC.out.mono ?_; rintro e w1 ⟨v1, rfl, hown1, hb1⟩; have HH := Lib.hid (And.intro hown1 hb1); have hs1 := fun t => src_one w1 (.int .u8 32) t; have hownA := fun o => World.ownsRow.alloc hown1 o; have hc3 : ∀ o, w.heap.size ≤ (w1.alloc o).heap.size := (fun o => by have := HB.out.size; have := hb1.size; simp; omega); clear hown1 hb1) | (at_builtin; refine wpList_append_row rfl (.tmp 14) (.tmp 15) 132 rfl w.heap.size 5 i0 (.int .u8 0) 1 Tryz.underlying132 hi hz0 hz1 hz2 rfl v1 _ _ rfl (hownA _) _ 1 1 [.int .u8 32] rfl (hs1 _) hone hc1 hc2 (hc3 _) ?_; intro v2 w2 hown2 hg2 hb2))
      have hfin : OwnB w2 w.heap.size v2 (keyL (xs.take (k + 1))) := by
        unfold OwnB
        rw [keyL_take HX.out, bcells_append, List.length_append]
        exact hown2
      have hbel' : Below w.heap.size w w2 := ((HB.out.trans (HH.out.2.mono (Nat.le_refl _))).alloc (by have := HB.out.size; have := HH.out.2.size; omega) _).grown hg2 (hc3 _) fun g e => (OwnB.lt HH.out.1 g e).1
      clear hown2 hg2 hb2 hs1 hownA hc3
      go_roundw
      case rel => exact ⟨k + 1, by omega, by go_num, hfin, hbel'⟩
      case measure => simp [intOf] <;> omega
    · rw [List.take_of_length_le (by rw [HL.out]; omega)] at hown
      have hconv : (convert 132 9 u3).run Tryz.prog wr = .ok (.string ⟨(keyL xs).toArray⟩) wr := by
        rcases hown.2 with ⟨rfl, h0⟩ | ⟨g, cap, cur, rfl, _, _, _⟩
        · have h00 : keyL xs = [] := List.eq_nil_of_length_eq_zero h0
          rw [h00]
          exact Lib.run_convert_nil_bytes wr _ _ _ 0 Tryz.underlying132 Tryz.underlying5 Tryz.underlying9
        · refine run_convert_bytes_back wr _ _ _ ⟨g, 0, none⟩ cap (keyL xs) Tryz.underlying132 Tryz.underlying5 Tryz.underlying9 fun j hj => ?_
          rw [hown.cells (g := g) rfl j (.int .u8 ((keyL xs)[j].toNat : Int)) (by simp [bcells, hj])]
      clear hown
      go_wp2
      go_ret
      exact ⟨rfl, hbel⟩

end Go.Proofs.YtpmebphhbgpapaaGreatDoor

/-
  The contract of the key of a word.
-/
namespace Go.Proofs.YtpmebphhbgpapaaGreatDoor.Sym
open Go.RowKit

/-- What reads as a list of numbers. -/
theorem rowOf_ints {w : World} {S : Nat → Prop} {v : Value} {l : List Int} (h : RepI w S v (nL cI l)) : ∃ A n c, v = .slice A n c ∧ RowOf w IsInt A n c l := by
  have h : RepI w S v (.sl (l.map cI)) := h
  generalize he : l.map cI = es at h
  cases h with
  | emp A c =>
    have : l = [] := by simpa using he
    subst this
    exact ⟨A, 0, c, rfl, rfl, Nat.zero_le _, by omega, fun h => by omega⟩
  | sl b o c k n _ us hn hk hc hs hS hl h1 hu hr =>
    subst he
    have hf : (l.map cI).flatten = l.map fun x => nI x := by
      clear hn hk hl hr h
      induction l with
      | nil => rfl
      | cons x l ih => rw [List.map_cons, List.flatten_cons, ih]; rfl
    rw [hf] at hl hr
    refine ⟨_, _, _, rfl, by simpa using hn, hc, hs, fun _ => ⟨b, o, rfl, fun i x hx => ?_⟩⟩
    have hi : i < us.length := by rw [hl, List.length_map]; exact (List.getElem?_eq_some_iff.1 hx).1
    have hg := List.getElem?_eq_getElem hi
    refine ⟨_, hu i _ hg, ?_⟩
    have := hr i _ (nI x) hg (by rw [List.getElem?_map, hx]; rfl)
    generalize us[i] = u at this
    cases this with
    | val _ => rfl

def table_key (l : List Int) : Option ByteArray := chk (∀ x ∈ l, inR x) (chk (l.length ≤ 2000000) (some ⟨(keyL l).toArray⟩))
set_option maxRecDepth 100000 in
theorem sp_table_key (l : List Int) (r : ByteArray) (h : table_key l = some r) : Sp Tryz.prog 55 [.im (nL cI l)] (.im (nS r)) := by
  obtain ⟨h1, h⟩ := chk_some h
  obtain ⟨h2, h⟩ := chk_some h
  injection h with h
  subst h
  refine ⟨fun args w => run_enter rfl rfl rfl args w, fun w S vs F hS hv hn hF => ?_⟩
  match vs, hv with
  | [v], ⟨F1, F2, ⟨h3, e1⟩, h4, e2⟩ =>
    have h4 : F2 = [] := h4
    subst e1 h4 e2
    obtain ⟨A, n, c, rfl, hrow⟩ := rowOf_ints h3
    refine (key_any hrow h1 (by rw [← hrow.1]; exact h2)).mono ?_
    rintro e w' ⟨rfl, hb⟩
    exact ⟨_, [], rfl, .of hb, ⟨[_], [], [], rfl, ⟨[], [], ⟨.val _, rfl⟩, rfl, rfl⟩, rfl, rfl⟩, List.nodup_nil, fun b hb => by simp at hb⟩
end Go.Proofs.YtpmebphhbgpapaaGreatDoor.Sym

/-
  Walks of cmp.Compare, slices.Compare, word.Lex, cmp.Or, word.Compare.
-/
namespace Go.Proofs.YtpmebphhbgpapaaGreatDoor
open Go.RowKit

def cmpI (x y : Int) : Int := if x < y then -1 else if y < x then 1 else 0

theorem cmpCompare_any (x y : Int) (w : World) :
    Calls Tryz.prog 140 #[.int .i64 x, .int .i64 y] w fun e w' => e = .returned (.int .i64 (cmpI x y)) ∧ w = w' := by
  by_cases h1 : x < y
  · go_enter Tryz.func140, Tryz.ntmps140
    go_wp2
    go_ret
    exact ⟨ret_int (by unfold cmpI; rw [if_pos h1]), rfl⟩
  · by_cases h2 : y < x
    · go_enter Tryz.func140, Tryz.ntmps140
      go_wp2
      go_ret
      exact ⟨ret_int (by unfold cmpI; rw [if_neg (by omega), if_pos h2]), rfl⟩
    · go_enter Tryz.func140, Tryz.ntmps140
      go_wp2
      go_ret
      exact ⟨ret_int (by unfold cmpI; rw [if_neg (by omega), if_neg (by omega)]), rfl⟩

theorem lexI_step {xs ys : List Int} {k : Nat} {x y : Int} (hx : xs[k]? = some x) (hy : ys[k]? = some y) :
    lexI (xs.drop k) (ys.drop k) = if cmpI x y = 0 then lexI (xs.drop (k + 1)) (ys.drop (k + 1)) else cmpI x y := by
  obtain ⟨h1, h1'⟩ := List.getElem?_eq_some_iff.1 hx
  obtain ⟨h2, h2'⟩ := List.getElem?_eq_some_iff.1 hy
  rw [List.drop_eq_getElem_cons h1, List.drop_eq_getElem_cons h2, h1', h2']
  simp only [lexI, cmpI]
  by_cases a : x < y
  · simp [a]
  · by_cases b : y < x
    · simp [a, b]
    · simp [a, b]

theorem lexI_long {xs ys : List Int} {k : Nat} (h1 : k < xs.length) (h2 : ys.length ≤ k) : lexI (xs.drop k) (ys.drop k) = 1 := by
  rw [List.drop_eq_getElem_cons h1, List.drop_eq_nil_of_le h2]; rfl

theorem lexI_end {xs ys : List Int} {k : Nat} (h1 : xs.length ≤ k) : lexI (xs.drop k) (ys.drop k) = if k < ys.length then -1 else 0 := by
  rw [List.drop_eq_nil_of_le h1]
  by_cases h2 : k < ys.length
  · rw [if_pos h2, List.drop_eq_getElem_cons h2]; rfl
  · rw [if_neg h2, List.drop_eq_nil_of_le (by omega)]; rfl

set_option maxHeartbeats 800000 in
theorem slicesCompare_any {A B : Option Addr} {n c m c' : Nat} {xs ys : List Int} {w : World} (hx : RowOf w IsInt A n c xs) (hy : RowOf w IsInt B m c' ys) :
    Calls Tryz.prog 141 #[.slice A n c, .slice B m c'] w fun e w' => e = .returned (.int .i64 (lexI xs ys)) ∧ w = w' := by
  have hn := hx.small
  have hm := hy.small
  have HL := Lib.hid (And.intro hx.len hy.len)
  go_enter Tryz.func141, Tryz.ntmps141
  go_wp2
  go_loop [5, 6, 7, 8, 11] (fun _ _ _ _ i => ∃ k : Nat, k ≤ n ∧ k ≤ m ∧ i = .int .i64 k ∧ Hid (lexI xs ys = lexI (xs.drop k) (ys.drop k))) (fun _ _ _ _ i => n - (intOf i).toNat)
  case atStart => exact ⟨0, by omega, by omega, rfl, Lib.hid (by simp)⟩
  case round =>
    obtain ⟨k, hk, hk', rfl, HT⟩ := hrel
    by_cases h1 : k < n
    · obtain ⟨b, o, x, rfl, hx1, hx2⟩ := hx.int_at h1
      have HX := Lib.hid hx1
      clear hx1
      by_cases h2 : k < m
      · obtain ⟨b', o', y, rfl, hy1, hy2⟩ := hy.int_at h2
        have HY := Lib.hid hy1
        clear hy1
        have hst := lexI_step HX.out HY.out
        by_cases h3 : cmpI x y = 0
        · rw [if_pos h3] at hst
          have HST := Lib.hid hst
          have d3 : (cmpI x y != 0) = false := by simp [h3]
          have H3 := Lib.hid h3
          clear h3 hst
          go_wp2_with (go_at_call 140; refine (cmpCompare_any _ _ _).mono ?_; rintro e w' ⟨rfl, rfl⟩)
          go_round
          case rel => exact ⟨k + 1, by omega, by omega, by go_num, Lib.hid (by rw [HT.out, HST.out])⟩
          case measure => simp [intOf]; omega
        · rw [if_neg h3] at hst
          have HST := Lib.hid hst
          have d3 : (cmpI x y != 0) = true := by simp [h3]
          clear h3 hst
          go_wp2_with (go_at_call 140; refine (cmpCompare_any _ _ _).mono ?_; rintro e w' ⟨rfl, rfl⟩)
          go_ret
          exact ⟨ret_int (by rw [HT.out, HST.out]), rfl⟩
      · go_wp2
        go_ret
        obtain ⟨h3, h4⟩ := HL.out
        exact ⟨ret_int (by rw [HT.out, lexI_long (by omega) (by omega)]), rfl⟩
    · obtain ⟨h3, h4⟩ := HL.out
      have HE := Lib.hid (lexI_end (xs := xs) (ys := ys) (k := k) (by omega))
      clear h3 h4
      by_cases h2 : n < m
      · go_wp2
        go_ret
        obtain ⟨h3, h4⟩ := HL.out
        exact ⟨ret_int (by rw [HT.out, HE.out, if_pos (by omega)]), rfl⟩
      · go_wp2
        go_ret
        obtain ⟨h3, h4⟩ := HL.out
        exact ⟨ret_int (by rw [HT.out, HE.out, if_neg (by omega)]), rfl⟩

theorem wordLex_any {A B : Option Addr} {n c m c' : Nat} {xs ys : List Int} {w : World} (hx : RowOf w IsInt A n c xs) (hy : RowOf w IsInt B m c' ys) :
    Calls Tryz.prog 119 #[.slice A n c, .slice B m c'] w fun e w' => e = .returned (.int .i64 (lexI xs ys)) ∧ w = w' := by
  go_enter Tryz.func119, Tryz.ntmps119
  go_wp2_with (go_at_call 141; refine (slicesCompare_any hx hy).mono ?_; rintro e w' ⟨rfl, rfl⟩)
  go_ret
  exact ⟨rfl, rfl⟩

/-- The first number that is not 0. -/
def orI (xs : List Int) : Int := (xs.find? fun a => a != 0).getD 0

set_option maxHeartbeats 400000 in
theorem cmpOr_any {A : Option Addr} {n c : Nat} {xs : List Int} {w : World} (hx : RowOf w IsInt A n c xs) :
    Calls Tryz.prog 139 #[.slice A n c] w fun e w' => e = .returned (.int .i64 (orI xs)) ∧ w = w' := by
  have hns := hx.small
  have HL := Lib.hid hx.len
  go_enter Tryz.func139, Tryz.ntmps139
  go_wp2
  go_loop [5, 8] (fun _ i => ∃ k : Nat, k ≤ n ∧ i = .int .i64 k ∧ Hid (((xs.take k).find? fun a => a != 0) = none)) (fun _ i => n - (intOf i).toNat)
  case atStart => exact ⟨0, by omega, rfl, Lib.hid (by simp)⟩
  case round =>
    obtain ⟨k, hk, rfl, HT⟩ := hrel
    by_cases h1 : k < n
    · obtain ⟨b, o, x, rfl, hx1, hx2⟩ := hx.int_at h1
      have HX := Lib.hid hx1
      clear hx1
      by_cases h2 : x = 0
      · have d2 : (x != 0) = false := by simp [h2]
        have H2 := Lib.hid h2
        clear h2
        go_wp2
        go_round
        case rel => exact ⟨k + 1, by omega, by go_num, Lib.hid (by rw [take_step HX.out, List.find?_append, HT.out, H2.out]; rfl)⟩
        case measure => simp [intOf] <;> omega
      · have d2 : (x != 0) = true := by simp [h2]
        go_wp2
        go_ret
        refine ⟨ret_int ?_, rfl⟩
        have hsp := List.take_append_drop (k + 1) xs
        unfold orI
        rw [← hsp, List.find?_append, take_step HX.out, List.find?_append, HT.out]
        simp [h2]
    · go_wp2
      go_ret
      have ht := HT.out
      rw [List.take_of_length_le (by rw [HL.out]; omega)] at ht
      exact ⟨ret_int (by unfold orI; rw [ht]; rfl), rfl⟩

theorem orI_cmp (xs ys : List Int) : orI [cmpI xs.length ys.length, lexI xs ys] = cmpW xs ys := by
  unfold orI cmpI cmpW
  by_cases h1 : xs.length < ys.length
  · rw [if_pos (by omega), if_pos h1]; rfl
  · by_cases h2 : ys.length < xs.length
    · rw [if_neg (by omega), if_pos (by omega), if_neg h1, if_pos h2]; rfl
    · rw [if_neg (by omega), if_neg (by omega), if_neg h1, if_neg h2]
      by_cases h3 : lexI xs ys = 0
      · simp [h3]
      · simp [h3]

theorem src_two {w : World} (x y : Value) (t : TypeId) : Src (w.alloc (.cells #[x, y] t)) (some ⟨w.heap.size, 0, none⟩) 2 [x, y] :=
  ⟨rfl, fun _ => ⟨_, _, rfl, fun j u hu => by
    have := cell_two_new w x y t j u hu
    rwa [addr_add] at this⟩⟩

theorem ints_row {w : World} (x y : Int) (t : TypeId) : RowOf (w.alloc (.cells #[.int .i64 x, .int .i64 y] t)) IsInt (some ⟨w.heap.size, 0, none⟩) 2 2 [x, y] := by
  refine ⟨rfl, Nat.le_refl _, by omega, fun _ => ⟨_, _, rfl, fun i z hz => ?_⟩⟩
  obtain ⟨_, hc⟩ := src_two (w := w) (.int .i64 x) (.int .i64 y) t
  obtain ⟨b, o, e, hcc⟩ := hc (by omega)
  injection e with e
  injection e with e1 e2
  subst e1 e2
  match i, hz with
  | 0, hz =>
    simp at hz
    subst hz
    exact ⟨_, hcc 0 _ rfl, rfl⟩
  | 1, hz =>
    simp at hz
    subst hz
    exact ⟨_, hcc 1 _ rfl, rfl⟩

set_option maxHeartbeats 400000 in
/-- word.Compare: one block of its own stays behind. -/
theorem wordCompare_any {A B : Option Addr} {n c m c' : Nat} {xs ys : List Int} {w : World} (hx : RowOf w IsInt A n c xs) (hy : RowOf w IsInt B m c' ys) :
    Calls Tryz.prog 111 #[.slice A n c, .slice B m c'] w fun e w' => e = .returned (.int .i64 (cmpW xs ys)) ∧ w.alloc (.cells #[.int .i64 (cmpI xs.length ys.length), .int .i64 (lexI xs ys)] 3) = w' := by
  have hn := hx.small
  have hm := hy.small
  have hc1 := Lib.hid (slicesCompare_any hx hy)
  have HE := Lib.hid (orI_cmp xs ys)
  have h1 := hx.len
  have h2 := hy.len
  have HO := Lib.hid (fun t => cmpOr_any (ints_row (w := w) (cmpI xs.length ys.length) (lexI xs ys) t))
  rw [h1, h2] at HE HO
  rw [h1, h2]
  clear h1 h2 hx hy
  go_enter Tryz.func111, Tryz.ntmps111
  go_wp2_with (first | (go_at_call 140; refine (cmpCompare_any _ _ _).mono ?_; rintro e w' ⟨rfl, rfl⟩) | (go_at_call 141; refine hc1.out.mono ?_; rintro e w' ⟨rfl, rfl⟩) | (go_at_call 139; refine (HO.out _).mono ?_; rintro e w' ⟨rfl, rfl⟩))
  go_ret
  exact ⟨ret_int HE.out, rfl⟩

end Go.Proofs.YtpmebphhbgpapaaGreatDoor

/-
  DERIVED: THE SHELF's CONTRACTS AT THIS DUMP, IN PLAIN WORDS (tools/lay-plain.mjs out of 'YtpmebphhbgpapaaGreatDoorShelf.lean', which tools/lay-shelf.mjs wrote): THE SAME DECLARATIONS UNDER THE SAME NAMES: 'import', 'namespace', 'open', 'def', 'theorem' AND NOTHING ELSE: no command of the shelf's: FOR A HAND-IN. Each laying: the table of numbers ('.._ren') and one theorem, a field a fact of the dump's own or the kernel's comparison; each contract: ONE APPLICATION.
-/
namespace Go.Proofs
open Go.Shelf
def Tryz.sortW_ren : Go.Shelf.Ren := ⟨fun | 6 => 148 | 15 => 143 | 14 => 167 | 28 => 165 | 29 => 166 | 20 => 178 | 21 => 179 | 22 => 180 | 23 => 181 | 24 => 182 | 25 => 183 | 26 => 184 | 27 => 185 | 46 => 191 | 47 => 174 | 48 => 175 | 49 => 192 | 50 => 193 | 57 => 196 | n => n, fun | 22 => 22 | 24 => 38 | 25 => 93 | 3 => 3 | 39 => 151 | 0 => 0 | 53 => 170 | 55 => 160 | 4 => 4 | 46 => 164 | 45 => 163 | 50 => 152 | 5 => 5 | 9 => 9 | 66 => 179 | 70 => 183 | 76 => 194 | 77 => 195 | n => n, fun | n => n⟩
theorem Tryz.sortW : Go.Proofs.SlLaysF.n6 Tryz.prog Tryz.sortW_ren := {
  mixed := by kernel_rfl
  f6 := ⟨Tryz.f148.name, by decide, Tryz.func148.trans (congrArg some (by kernel_rfl))⟩
  f14 := ⟨Tryz.f167.name, by decide, Tryz.func167.trans (congrArg some (by kernel_rfl))⟩
  f15 := Tryz.func143.trans (congrArg some (by kernel_rfl))
  f20 := ⟨Tryz.f178.name, by decide, Tryz.func178.trans (congrArg some (by kernel_rfl))⟩
  f21 := ⟨Tryz.f179.name, by decide, Tryz.func179.trans (congrArg some (by kernel_rfl))⟩
  f22 := ⟨Tryz.f180.name, by decide, Tryz.func180.trans (congrArg some (by kernel_rfl))⟩
  f23 := ⟨Tryz.f181.name, by decide, Tryz.func181.trans (congrArg some (by kernel_rfl))⟩
  f24 := ⟨Tryz.f182.name, by decide, Tryz.func182.trans (congrArg some (by kernel_rfl))⟩
  f25 := ⟨Tryz.f183.name, by decide, Tryz.func183.trans (congrArg some (by kernel_rfl))⟩
  f26 := ⟨Tryz.f184.name, by decide, Tryz.func184.trans (congrArg some (by kernel_rfl))⟩
  f27 := ⟨Tryz.f185.name, by decide, Tryz.func185.trans (congrArg some (by kernel_rfl))⟩
  f28 := Tryz.func165.trans (congrArg some (by kernel_rfl))
  f29 := Tryz.func166.trans (congrArg some (by kernel_rfl))
  f46 := ⟨Tryz.f191.name, by decide, Tryz.func191.trans (congrArg some (by kernel_rfl))⟩
  f47 := Tryz.func174.trans (congrArg some (by kernel_rfl))
  f48 := Tryz.func175.trans (congrArg some (by kernel_rfl))
  f49 := ⟨Tryz.f192.name, by decide, Tryz.func192.trans (congrArg some (by kernel_rfl))⟩
  f50 := ⟨Tryz.f193.name, by decide, Tryz.func193.trans (congrArg some (by kernel_rfl))⟩
  f57 := ⟨Tryz.f196.name, by decide, Tryz.func196.trans (congrArg some (by kernel_rfl))⟩
  t0 := Tryz.underlying0
  a0 := Tryz.isAgg0
  z0 := Tryz.sizeOf0
  v0 := Tryz.zeroValue0
  t3 := Tryz.underlying3
  a3 := Tryz.isAgg3
  z3 := Tryz.sizeOf3
  v3 := Tryz.zeroValue3
  t4 := Tryz.underlying4
  a4 := Tryz.isAgg4
  z4 := Tryz.sizeOf4
  v4 := Tryz.zeroValue4
  t5 := Tryz.underlying5
  a5 := Tryz.isAgg5
  z5 := Tryz.sizeOf5
  v5 := Tryz.zeroValue5
  t9 := Tryz.underlying9
  a9 := Tryz.isAgg9
  z9 := Tryz.sizeOf9
  v9 := Tryz.zeroValue9
  t22 := Tryz.underlying22
  a22 := Tryz.isAgg22
  z22 := Tryz.sizeOf22
  v22 := Tryz.zeroValue22
  a24 := Tryz.isAgg38
  z24 := Tryz.sizeOf38
  t25 := Tryz.underlying93
  a25 := Tryz.isAgg93
  z25 := Tryz.sizeOf93
  v25 := Tryz.zeroValue93
  t39 := Tryz.underlying151
  a39 := Tryz.isAgg151
  z39 := Tryz.sizeOf151
  v39 := Tryz.zeroValue151
  t45 := Tryz.underlying163
  a45 := Tryz.isAgg163
  z45 := Tryz.sizeOf163
  v45 := Tryz.zeroValue163
  t46 := Tryz.underlying164
  a46 := Tryz.isAgg164
  z46 := Tryz.sizeOf164
  v46 := Tryz.zeroValue164
  t50 := Tryz.underlying152
  a50 := Tryz.isAgg152
  z50 := Tryz.sizeOf152
  v50 := Tryz.zeroValue152
  t53 := Tryz.underlying170
  a53 := Tryz.isAgg170
  z53 := Tryz.sizeOf170
  v53 := Tryz.zeroValue170
  t55 := Tryz.underlying160
  a55 := Tryz.isAgg160
  z55 := Tryz.sizeOf160
  v55 := Tryz.zeroValue160
  t66 := Tryz.underlying179
  a66 := Tryz.isAgg179
  z66 := Tryz.sizeOf179
  v66 := Tryz.zeroValue179
  t70 := Tryz.underlying183
  a70 := Tryz.isAgg183
  z70 := Tryz.sizeOf183
  v70 := Tryz.zeroValue183
  t76 := Tryz.underlying194
  a76 := Tryz.isAgg194
  z76 := Tryz.sizeOf194
  v76 := Tryz.zeroValue194
  t77 := Tryz.underlying195
  a77 := Tryz.isAgg195
  z77 := Tryz.sizeOf195
  v77 := Tryz.zeroValue195 }
def Tryz.sortF_ren : Go.Shelf.Ren := ⟨fun | 14 => 142 | 20 => 157 | 21 => 158 | 22 => 159 | 23 => 160 | 24 => 161 | 25 => 162 | 26 => 163 | 27 => 164 | 46 => 173 | 47 => 174 | 48 => 175 | 49 => 176 | 50 => 177 | 15 => 143 | 57 => 190 | 28 => 165 | 29 => 166 | n => n, fun | 24 => 90 | 22 => 35 | 3 => 3 | 25 => 136 | 4 => 4 | 0 => 0 | 46 => 164 | 45 => 163 | 50 => 152 | 66 => 179 | 39 => 151 | 55 => 160 | 70 => 183 | 76 => 194 | 77 => 195 | 53 => 170 | 5 => 5 | 9 => 9 | n => n, fun | n => n⟩
theorem Tryz.sortF : Go.Proofs.SlLaysF0.n14 Tryz.prog Tryz.sortF_ren := {
  mixed := by kernel_rfl
  f14 := ⟨Tryz.f142.name, by decide, Tryz.func142.trans (congrArg some (by kernel_rfl))⟩
  f15 := Tryz.func143.trans (congrArg some (by kernel_rfl))
  f20 := ⟨Tryz.f157.name, by decide, Tryz.func157.trans (congrArg some (by kernel_rfl))⟩
  f21 := ⟨Tryz.f158.name, by decide, Tryz.func158.trans (congrArg some (by kernel_rfl))⟩
  f22 := ⟨Tryz.f159.name, by decide, Tryz.func159.trans (congrArg some (by kernel_rfl))⟩
  f23 := ⟨Tryz.f160.name, by decide, Tryz.func160.trans (congrArg some (by kernel_rfl))⟩
  f24 := ⟨Tryz.f161.name, by decide, Tryz.func161.trans (congrArg some (by kernel_rfl))⟩
  f25 := ⟨Tryz.f162.name, by decide, Tryz.func162.trans (congrArg some (by kernel_rfl))⟩
  f26 := ⟨Tryz.f163.name, by decide, Tryz.func163.trans (congrArg some (by kernel_rfl))⟩
  f27 := ⟨Tryz.f164.name, by decide, Tryz.func164.trans (congrArg some (by kernel_rfl))⟩
  f28 := Tryz.func165.trans (congrArg some (by kernel_rfl))
  f29 := Tryz.func166.trans (congrArg some (by kernel_rfl))
  f46 := ⟨Tryz.f173.name, by decide, Tryz.func173.trans (congrArg some (by kernel_rfl))⟩
  f47 := Tryz.func174.trans (congrArg some (by kernel_rfl))
  f48 := Tryz.func175.trans (congrArg some (by kernel_rfl))
  f49 := ⟨Tryz.f176.name, by decide, Tryz.func176.trans (congrArg some (by kernel_rfl))⟩
  f50 := ⟨Tryz.f177.name, by decide, Tryz.func177.trans (congrArg some (by kernel_rfl))⟩
  f57 := ⟨Tryz.f190.name, by decide, Tryz.func190.trans (congrArg some (by kernel_rfl))⟩
  t0 := Tryz.underlying0
  a0 := Tryz.isAgg0
  z0 := Tryz.sizeOf0
  v0 := Tryz.zeroValue0
  t3 := Tryz.underlying3
  a3 := Tryz.isAgg3
  z3 := Tryz.sizeOf3
  v3 := Tryz.zeroValue3
  t4 := Tryz.underlying4
  a4 := Tryz.isAgg4
  z4 := Tryz.sizeOf4
  v4 := Tryz.zeroValue4
  t5 := Tryz.underlying5
  a5 := Tryz.isAgg5
  z5 := Tryz.sizeOf5
  v5 := Tryz.zeroValue5
  t9 := Tryz.underlying9
  a9 := Tryz.isAgg9
  z9 := Tryz.sizeOf9
  v9 := Tryz.zeroValue9
  t22 := Tryz.underlying35
  a22 := Tryz.isAgg35
  z22 := Tryz.sizeOf35
  v22 := Tryz.zeroValue35
  t25 := Tryz.underlying136
  a25 := Tryz.isAgg136
  z25 := Tryz.sizeOf136
  v25 := Tryz.zeroValue136
  t39 := Tryz.underlying151
  a39 := Tryz.isAgg151
  z39 := Tryz.sizeOf151
  v39 := Tryz.zeroValue151
  t45 := Tryz.underlying163
  a45 := Tryz.isAgg163
  z45 := Tryz.sizeOf163
  v45 := Tryz.zeroValue163
  t46 := Tryz.underlying164
  a46 := Tryz.isAgg164
  z46 := Tryz.sizeOf164
  v46 := Tryz.zeroValue164
  t50 := Tryz.underlying152
  a50 := Tryz.isAgg152
  z50 := Tryz.sizeOf152
  v50 := Tryz.zeroValue152
  t53 := Tryz.underlying170
  a53 := Tryz.isAgg170
  z53 := Tryz.sizeOf170
  v53 := Tryz.zeroValue170
  t55 := Tryz.underlying160
  a55 := Tryz.isAgg160
  z55 := Tryz.sizeOf160
  v55 := Tryz.zeroValue160
  t66 := Tryz.underlying179
  a66 := Tryz.isAgg179
  z66 := Tryz.sizeOf179
  v66 := Tryz.zeroValue179
  t70 := Tryz.underlying183
  a70 := Tryz.isAgg183
  z70 := Tryz.sizeOf183
  v70 := Tryz.zeroValue183
  t76 := Tryz.underlying194
  a76 := Tryz.isAgg194
  z76 := Tryz.sizeOf194
  v76 := Tryz.zeroValue194
  t77 := Tryz.underlying195
  a77 := Tryz.isAgg195
  z77 := Tryz.sizeOf195
  v77 := Tryz.zeroValue195 }
end Go.Proofs

/-
  The sort at this program's types, and the comparisons that it is handed.
-/
namespace Go.Proofs.YtpmebphhbgpapaaGreatDoor.Sym
open Go.RowKit Go.Sort
set_option maxRecDepth 100000

theorem putRow_map {E : Type} [Inhabited E] (enc : E → Value) (w : World) (blk off : Nat) (d : Array E) : putRow enc w blk off d = putRow id w blk off (d.map enc) := by
  unfold putRow
  congr 1
  funext c
  unfold putCells
  congr 1
  funext k x
  rw [Array.size_map]
  by_cases h : off ≤ k ∧ k < off + d.size
  · have h1 : k - off < d.size := by omega
    rw [if_pos h, if_pos h, getElem!_pos d _ h1, getElem!_pos (d.map enc) _ (by simpa using h1)]
    simp
  · rw [if_neg h, if_neg h]
theorem holds_map {E : Type} [Inhabited E] {enc : E → Value} {w : World} {blk off : Nat} {d : Array E} (h : Go.Sort.Holds id w blk off (d.map enc)) : Go.Sort.Holds enc w blk off d := fun j hj => by
  have := h j (by simpa using hj)
  rw [getElem!_pos (d.map enc) _ (by simpa using hj)] at this
  rw [getElem!_pos d _ hj]
  simpa using this
def one1 (us : List Value) : Value := us.headD undef
theorem flat_one1 {E : Type} [Inhabited E] {enc : E → List Value} (hk : ∀ x, (enc x).length = 1) (d : Array E) : Go.Sort.flatK enc 1 d = d.map fun x => one1 (enc x) := by
  rw [flatK_list hk]
  have : (d.toList.map enc).flatten = d.toList.map fun x => one1 (enc x) := by
    generalize d.toList = l
    induction l with
    | nil => rfl
    | cons x l ih =>
      rw [List.map_cons, List.flatten_cons, ih, List.map_cons]
      have := hk x
      match h : enc x, this with
      | [v], _ => rfl
  rw [this]
  apply Array.ext'
  simp

theorem sortC_words : SortC Tryz.prog 148 1 one1 := by
  refine ⟨fun p cap fv w => AnyF.slices_SortFunc_none { Tryz.sortW with } p cap fv w, ?_⟩
  intro E _ enc cf g blk cap d w hk h1 hO eg hcmp hH hblk hsz
  have e1 : ∀ m (dk : Array E), putRow (fun x => one1 (enc x)) (Sort.ahead w m) blk 0 dk = putRow id (Sort.ahead w m) blk 0 (Go.Sort.flatK enc 1 dk) := fun m dk => by rw [flat_one1 hk, putRow_map]
  have hone : OneCell fun x => one1 (enc x) := fun x => by
    have h2 := hk x
    have h3 := h1 x
    match h : enc x, h2 with
    | [v], _ =>
      show (one1 (enc x)).oneCell' = true
      rw [h] at h3 ⊢
      exact h3 v (by simp)
  refine (Any.slices_SortFunc Tryz.sortW (fun x => one1 (enc x)) hone cf hO g #[] blk 0 cap d w eg (fun m os dk hs x y => ?_) (holds_map (by rw [← flat_one1 hk]; exact hH)) hblk hsz).mono ?_
  · have := hcmp m os dk hs x y
    unfold sortWorld
    rw [e1]
    simpa using this
  · rintro e w' ⟨he, d', n, os, hp, hs, hw⟩
    exact ⟨he, d', n, os, hp, hs, by rw [hw]; unfold sortWorld; rw [e1]⟩

theorem aggF : ∀ w, (isAgg (Tryz.sortF_ren.t 24)).run Tryz.prog w = .ok true w := Tryz.isAgg90
theorem sizF : ∀ w, (Go.sizeOf (Tryz.sortF_ren.t 24)).run Tryz.prog w = .ok 2 w := Tryz.sizeOf90

set_option maxHeartbeats 2000000 in
theorem sortC_finder : SortC Tryz.prog 117 2 (fun us => .agg us.toArray) := by
  refine ⟨fun p cap fv w => ?_, ?_⟩
  · have hp := fun lim W => AnyF.pdqsortCmpFunc_none (P := Tryz.prog) (ρ := Tryz.sortF_ren) Tryz.sortF p cap lim fv W
    have hl : ∀ W, Calls Tryz.prog 143 #[.int .u64 0] W fun e w' => e = .returned (.int .i64 (Lib.bitLen 0 : Nat)) ∧ w' = W := fun W => by
      have h := Any.bits_Len (SlLaysF0.n15.bits (P := Tryz.prog) (ρ := Tryz.sortF_ren) { Tryz.sortF with }) 0 W (by omega) (by omega)
      exact h
    go_enter Tryz.func117, Tryz.ntmps117
    go_wp2_with (first | (go_at_call 143; refine (hl _).mono ?_; rintro e w' ⟨rfl, rfl⟩) | (go_at_call 142; refine (hp _ _).mono ?_; rintro e w' ⟨rfl, rfl⟩))
    go_end0
    exact ⟨rfl, rfl⟩
  · intro E _ enc cf g blk cap d w hk h1 hO eg hcmp hH hblk hsz
    have hlim : Lib.bitLen d.size < 4611686018427387904 := Nat.lt_of_le_of_lt (Lib.bitLen_le d.size 62 (by omega) (by omega)) (by omega)
    have hcmp' : CmpLays Tryz.prog g #[] enc 2 cf blk 0 d.size w := fun m os dk hs x y => by
      unfold sortWorldK putRowK
      simpa using hcmp m os dk hs x y
    have hp := AnyQ.pdqsortCmpFunc_all (P := Tryz.prog) (ρ := Tryz.sortF_ren) Tryz.sortF 2 aggF sizF enc cf g #[] hO blk 0 cap d w eg hcmp' ⟨hk, h1, hH, hblk⟩ (d.size + 1) 0 d.size (Lib.bitLen d.size) d w (by omega) rfl (SWK.start hH) (Nat.zero_le _) (Nat.le_refl _) hsz hlim (Or.inl rfl)
    have hl : Calls Tryz.prog 143 #[.int .u64 (d.size : Int)] w fun e w' => e = .returned (.int .i64 (Lib.bitLen d.size : Nat)) ∧ w' = w := by
      have h := Any.bits_Len (SlLaysF0.n15.bits (P := Tryz.prog) (ρ := Tryz.sortF_ren) { Tryz.sortF with }) (d.size : Int) w (by omega) (by omega)
      rwa [Int.toNat_natCast] at h
    have wr : IntKind.u64.wrap (d.size : Int) = d.size := by simp [IntKind.wrap, IntKind.bits, IntKind.signed]; omega
    have hps := pdq_sorts (ltOf cf) hO d 0 d.size (Lib.bitLen d.size) true true (Nat.zero_le _) (Nat.le_refl _) (Or.inl rfl)
    clear hH hcmp hcmp' hk h1
    go_enter Tryz.func117, Tryz.ntmps117
    go_wp2_with (first | (go_at_call 143; refine hl.mono ?_; rintro e w' ⟨rfl, rfl⟩) | (go_at_call 142; refine hp.mono ?_; rintro e w' ⟨rfl, n, os, rfl⟩))
    go_end0
    exact ⟨rfl, _, n, os, hps.1, hps.2, rfl⟩

/-- The comparisons. -/
theorem cmpG_lex {f : List Int → List Int → Option Int} (hf : ∀ x y r, x.length ≤ 17592186044416 → f x y = some r → r = lexI x y) : CmpG Tryz.prog 119 (nL cI) f := by
  intro W S u u' x y r h hu hu'
  obtain ⟨A, n, c, rfl, h1⟩ := rowOf_ints hu
  have := hf x y r (by rw [h1.len]; exact h1.small) h
  subst this
  obtain ⟨B, m, c', rfl, h2⟩ := rowOf_ints hu'
  refine (wordLex_any h1 h2).mono fun e w' ⟨he, hw⟩ => ⟨he, 0, #[], ?_⟩
  rw [← hw, Sort.grow_empty]
  rfl
theorem cmpG_compare {f : List Int → List Int → Option Int} (hf : ∀ x y r, x.length ≤ 17592186044416 → f x y = some r → r = cmpW x y) : CmpG Tryz.prog 111 (nL cI) f := by
  intro W S u u' x y r h hu hu'
  obtain ⟨A, n, c, rfl, h1⟩ := rowOf_ints hu
  have := hf x y r (by rw [h1.len]; exact h1.small) h
  subst this
  obtain ⟨B, m, c', rfl, h2⟩ := rowOf_ints hu'
  refine (wordCompare_any h1 h2).mono fun e w' ⟨he, hw⟩ => ⟨he, 0, #[.cells #[.int .i64 (cmpI x.length y.length), .int .i64 (lexI x y)] 3], ?_⟩
  rw [← hw, Sort.alloc_eq_grow]
  rfl

theorem rep_two {w : World} {S : Nat → Prop} {u : Value} {x y : IV} (h : RepI w S u (.agg [x, y])) : ∃ a b, u = .agg #[a, b] ∧ RepI w S a x ∧ RepI w S b y := by
  generalize hz : IV.agg [x, y] = z at h
  cases h with
  | agg us cs hl h1 hr =>
    injection hz with hz
    subst hz
    match us, hl with
    | [a, b], _ => exact ⟨a, b, rfl, hr 0 a x rfl rfl, hr 1 b y rfl rfl⟩
  | _ => cases hz

set_option maxHeartbeats 400000 in
theorem find1_any {A A' B B' : Option Addr} {n c m c' p q p' q' : Nat} {xs ys : List Int} {w : World} (hx : RowOf w IsInt A n c xs) (hy : RowOf w IsInt B m c' ys) :
    Calls Tryz.prog 118 #[.agg #[.slice A n c, .slice A' p q], .agg #[.slice B m c', .slice B' p' q']] w fun e w' => e = .returned (.int .i64 (lexI xs ys)) ∧ ∃ q os, w' = Sort.grow (w.drewN q) os := by
  have key : ∀ o o', ∃ q os, (w.alloc o).alloc o' = Sort.grow (w.drewN q) os := fun o o' => ⟨0, #[o] ++ #[o'], by
    rw [Sort.alloc_eq_grow, Sort.alloc_eq_grow, Sort.grow_grow]
    rfl⟩
  have hx' : ∀ o o', RowOf ((w.alloc o).alloc o') IsInt A n c xs := fun o o' => (hx.kept (grown_keeps (World.grownBy_alloc w o none))).kept (grown_keeps (World.grownBy_alloc _ o' none))
  have hy' : ∀ o o', RowOf ((w.alloc o).alloc o') IsInt B m c' ys := fun o o' => (hy.kept (grown_keeps (World.grownBy_alloc w o none))).kept (grown_keeps (World.grownBy_alloc _ o' none))
  go_enter Tryz.func118, Tryz.ntmps118
  go_wp2_with (go_at_call 119; refine (wordLex_any (hx' _ _) (hy' _ _)).mono ?_; rintro e w' ⟨rfl, rfl⟩)
  go_ret
  exact ⟨rfl, key _ _⟩
theorem cmpG_find1 {T : Type} {X : T → IV} {i o : T → List Int} (hX : ∀ x, X x = .agg [nL cI (i x), nL cI (o x)]) {f : T → T → Option Int} (hf : ∀ x y r, (i x).length ≤ 17592186044416 → f x y = some r → r = lexI (i x) (i y)) : CmpG Tryz.prog 118 X f := by
  intro W S u u' x y r h hu hu'
  rw [hX] at hu hu'
  obtain ⟨a, b, rfl, ha, hb⟩ := rep_two hu
  obtain ⟨a', b', rfl, ha', hb'⟩ := rep_two hu'
  obtain ⟨A, n, c, rfl, h1⟩ := rowOf_ints ha
  have := hf x y r (by rw [h1.len]; exact h1.small) h
  subst this
  obtain ⟨B, m, c', rfl, h2⟩ := rowOf_ints ha'
  obtain ⟨_, _, _, rfl, _⟩ := rowOf_ints hb
  obtain ⟨_, _, _, rfl, _⟩ := rowOf_ints hb'
  exact find1_any h1 h2
theorem rep_of_one {W : World} {S : Nat → Prop} {us : List Value} {x : IV} (hl : us.length = 1) (hr : RepIs W S us [x]) : RepI W S (one1 us) x := by
  match us, hl with
  | [u], _ => exact hr.2 0 u x rfl rfl
/-- A comparison that may be handed to a sort. -/
def CmpE {T : Type} (P : Program) (g : FuncId) (X : T → IV) (f : T → T → Option Int) : Prop := (∀ args w, (callFunc g args).run P w = .ok (.enter g args) w) ∧ CmpG P g X f
end Go.Proofs.YtpmebphhbgpapaaGreatDoor.Sym

namespace Go.Proofs.YtpmebphhbgpapaaGreatDoor.Sym
open Go.RowKit
set_option maxRecDepth 100000
set_option linter.unusedVariables false
set_option maxHeartbeats 4000000

/-- What the library's functions compute. -/
def libClone {α : Type} (by_ : Nat) (l : List α) : Option (List α) := chk (capOk l.length by_) (some l)
def lib_Clone_int (l : List Int) : Option (List Int) := libClone 8 l
theorem sp_lib_Clone_int (l r : List Int) (h : lib_Clone_int l = some r) : Sp Tryz.prog 95 [.im (nL cI l)] (.row 3 1 (List.map cI r)) := by
  obtain ⟨h1, h⟩ := chk_some h
  injection h with h
  subst h
  exact sp_of_clone (by_ := 8) (fun args w => run_enter rfl rfl rfl args w) (by decide) clone_int (fun e he => by obtain ⟨y, _, rfl⟩ := List.mem_map.1 he; rfl) (by rw [List.length_map]; exact h1)
def lib_Clone_words (l : List (List Int)) : Option (List (List Int)) := libClone 24 l
theorem sp_lib_Clone_words (l r : List (List Int)) (h : lib_Clone_words l = some r) : Sp Tryz.prog 147 [.im (nL (cL cI) l)] (.row 38 1 (List.map (cL cI) r)) := by
  obtain ⟨h1, h⟩ := chk_some h
  injection h with h
  subst h
  exact sp_of_clone (by_ := 24) (fun args w => run_enter rfl rfl rfl args w) (by decide) clone_words (fun e he => by obtain ⟨y, _, rfl⟩ := List.mem_map.1 he; rfl) (by rw [List.length_map]; exact h1)
def lib_SortFunc_words (l : List (List Int)) (f : (List Int) → (List Int) → Option Int) : Option (List (List Int)) := libSort l f
theorem sp_lib_SortFunc_words (l : List (List Int)) (f : (List Int) → (List Int) → Option Int) (g : FuncId) (hd : CmpE Tryz.prog g (fun x => nL cI x) f) (r : List (List Int)) (h : lib_SortFunc_words l f = some r) : Sp Tryz.prog 148 [.lent (.row 38 1 (List.map (cL cI) l)), .im (.fn g [])] (.mk true [] [.lent (.row 38 1 (List.map (cL cI) r))]) :=
  sp_of_sort (fun args w => run_enter rfl rfl rfl args w) sortC_words (by decide) (fun _ => rfl) (fun W S us x hl h1 hr => rep_of_one hl hr) hd.1 hd.2 h
def lib_Clone_traces (l : List T_api_Trace) : Option (List T_api_Trace) := libClone 48 l
theorem sp_lib_Clone_traces (l r : List T_api_Trace) (h : lib_Clone_traces l = some r) : Sp Tryz.prog 116 [.im (nL c_api_Trace l)] (.row 90 2 (List.map c_api_Trace r)) := by
  obtain ⟨h1, h⟩ := chk_some h
  injection h with h
  subst h
  exact sp_of_clone (by_ := 48) (fun args w => run_enter rfl rfl rfl args w) (by decide) clone_traces (fun e he => by obtain ⟨y, _, rfl⟩ := List.mem_map.1 he; rfl) (by rw [List.length_map]; exact h1)
def lib_SortFunc_finder (l : List T_api_Trace) (f : T_api_Trace → T_api_Trace → Option Int) : Option (List T_api_Trace) := libSort l f
theorem sp_lib_SortFunc_finder (l : List T_api_Trace) (f : T_api_Trace → T_api_Trace → Option Int) (g : FuncId) (hd : CmpE Tryz.prog g (fun x => .agg (c_api_Trace x)) f) (r : List T_api_Trace) (h : lib_SortFunc_finder l f = some r) : Sp Tryz.prog 117 [.lent (.row 90 2 (List.map c_api_Trace l)), .im (.fn g [])] (.mk true [] [.lent (.row 90 2 (List.map c_api_Trace r))]) :=
  sp_of_sort (fun args w => run_enter rfl rfl rfl args w) sortC_finder (by decide) (fun _ => rfl) (fun W S us x hl h1 hr => .agg _ _ hr.1 h1 hr.2) hd.1 hd.2 h
end Go.Proofs.YtpmebphhbgpapaaGreatDoor.Sym

namespace Go.Proofs.YtpmebphhbgpapaaGreatDoor.Sym
open Go.RowKit
set_option maxRecDepth 100000
set_option linter.unusedVariables false
set_option maxHeartbeats 4000000
def table_New.s2 (inputs_ : Int) (y72 : List (List Int)) (y73 : Nat) : Option ((List (List Int) × Nat) ⊕ List (List Int)) :=
  cond (decide ((↑y73 : Int) < inputs_)) (chk (capOk (List.length y72 + 1) 24) (chk (inR ((↑y73 : Int) + 1)) (some (.inl ((y72 ++ [[(↑y73 : Int)]]), (y73 + 1)))))) (some (.inr y72))
def table_New (inputs_ : Int) : Option (T_api_Table × Int) :=
  (cond (decide (inputs_ < 1)) (some true) (some (decide (64 < inputs_))) : Option (Bool)).bind (fun (y54 : Bool) => cond (y54) (some ((⟨0, [], []⟩ : T_api_Table), 2)) ((iter (fun (s : List (List Int) × Nat) => table_New.s2 inputs_ s.1 s.2) fuel ([], 0) : Option (List (List Int))).bind (fun (y70 : List (List Int)) => some ((⟨inputs_, [[]], y70⟩ : T_api_Table), 0))))
def R23_Singles.s2 (inputs_ : Int) (y65 : List (List Int)) (a66 : Nat) : Option ((List (List Int) × Nat) ⊕ List (List Int)) :=
  cond (decide ((↑a66 : Int) < inputs_)) (chk (capOk (List.length y65 + 1) 24) (chk (inR ((↑a66 : Int) + 1)) (some (.inl ((y65 ++ [[(↑a66 : Int)]]), (a66 + 1)))))) (some (.inr y65))
def R23_Singles (inputs_ : Int) : Option (List (List Int)) :=
  (iter (fun (s : List (List Int) × Nat) => R23_Singles.s2 inputs_ s.1 s.2) fuel ([], 0) : Option (List (List Int))).bind (fun (y63 : List (List Int)) => some y63)
def R06_Ints.s2 (a_ : List Int) (b_ : List Int) (i73 : Nat) : Option (Nat ⊕ (Unit ⊕ Bool)) :=
  cond (decide ((↑i73 : Int) < (↑(List.length a_) : Int))) (idxn a_ i73 fun e80 => idxn b_ i73 fun e81 => cond (decide (e80 ≠ e81)) (some (.inr (.inr false))) (some (.inl (i73 + 1)))) (some (.inr (.inl ())))
def R06_Ints (a_ : List Int) (b_ : List Int) : Option (Bool) :=
  cond (decide ((↑(List.length a_) : Int) ≠ (↑(List.length b_) : Int))) (some false) ((iter (fun (s : Nat) => R06_Ints.s2 a_ b_ s) fuel 0 : Option (Unit ⊕ Bool)).bind (Sum.elim (fun (_ : Unit) => some true) some))
def R06_Lists.s2 (a_ : List (List Int)) (b_ : List (List Int)) (i77 : Nat) : Option (Nat ⊕ (Unit ⊕ Bool)) :=
  cond (decide ((↑i77 : Int) < (↑(List.length a_) : Int))) (idxn a_ i77 fun e85 => idxn b_ i77 fun e86 => (R06_Ints e85 e86).bind fun c87 => cond ((!c87)) (some (.inr (.inr false))) (some (.inl (i77 + 1)))) (some (.inr (.inl ())))
def R06_Lists (a_ : List (List Int)) (b_ : List (List Int)) : Option (Bool) :=
  cond (decide ((↑(List.length a_) : Int) ≠ (↑(List.length b_) : Int))) (some false) ((iter (fun (s : Nat) => R06_Lists.s2 a_ b_ s) fuel 0 : Option (Unit ⊕ Bool)).bind (Sum.elim (fun (_ : Unit) => some true) some))
def slices_IndexFunc_Sint_int.s2 (s_ : List Int) (f_ : Int → Option Bool) (y71 : Nat) : Option (Nat ⊕ (Unit ⊕ Int)) :=
  cond (decide ((↑y71 : Int) < (↑(List.length s_) : Int))) (idxn s_ y71 fun e78 => (f_ e78).bind fun c79 => cond (c79) (some (.inr (.inr (↑y71 : Int)))) (some (.inl (y71 + 1)))) (some (.inr (.inl ())))
def slices_IndexFunc_Sint_int (s_ : List Int) (f_ : Int → Option Bool) : Option (Int) :=
  (iter (fun (s : Nat) => slices_IndexFunc_Sint_int.s2 s_ f_ s) fuel 0 : Option (Unit ⊕ Int)).bind (Sum.elim (fun (_ : Unit) => some (-1 : Int)) some)
def word_permitted (inputs_ : Int) : Option (Bool) :=
  (cond (decide (1 ≤ inputs_)) (some (decide (inputs_ ≤ 1024))) (some false) : Option (Bool)).bind (fun (y54 : Bool) => some y54)
def word_Check_1 (a_ : Int) (p1_ : Int) : Option (Bool) :=
  (cond (decide (a_ < 0)) (some true) (some (decide (p1_ ≤ a_))) : Option (Bool)).bind (fun (y54 : Bool) => some y54)
def slices_IndexFunc_Sint_int_n1.s2 (s_ : List Int) (f_ : Int → Option Bool) (y71 : Nat) : Option (Nat ⊕ (Unit ⊕ Int)) :=
  cond (decide ((↑y71 : Int) < (↑(List.length s_) : Int))) (idxn s_ y71 fun e78 => (f_ e78).bind fun c79 => cond (c79) (some (.inr (.inr (↑y71 : Int)))) (some (.inl (y71 + 1)))) (some (.inr (.inl ())))
def slices_IndexFunc_Sint_int_n1 (s_ : List Int) (f_ : Int → Option Bool) : Option (Int) :=
  (iter (fun (s : Nat) => slices_IndexFunc_Sint_int_n1.s2 s_ f_ s) fuel 0 : Option (Unit ⊕ Int)).bind (Sum.elim (fun (_ : Unit) => some (-1 : Int)) some)
def slices_ContainsFunc_Sint_int_n1 (s_ : List Int) (f_ : Int → Option Bool) : Option (Bool) :=
  (slices_IndexFunc_Sint_int_n1 s_ f_).bind fun c51 => some (decide (0 ≤ c51))
def word_Check (w_ : List Int) (inputs_ : Int) : Option (Int) :=
  (word_permitted inputs_).bind fun c51 => cond ((!c51)) (some 2) (cond (decide (1024 < (↑(List.length w_) : Int))) (some 3) ((slices_ContainsFunc_Sint_int_n1 w_ (fun u0 => word_Check_1 u0 inputs_)).bind fun c54 => cond (c54) (some 1) (some 0)))
def cmp_isNaN_int (x_ : Int) : Option (Bool) :=
  some (decide (x_ ≠ x_))
def cmp_Compare_int (x_ : Int) (y_ : Int) : Option (Int) :=
  (cmp_isNaN_int x_).bind fun c51 => (cmp_isNaN_int y_).bind fun c52 => cond (c51) (cond (c52) (some 0) (some (-1 : Int))) (cond (c52) (some 1) (cond (decide (x_ < y_)) (some (-1 : Int)) (cond (decide (y_ < x_)) (some 1) (some 0))))
def slices_Compare_Sint_int.s2 (s1_ : List Int) (s2_ : List Int) (y80 : Nat) : Option (Nat ⊕ (Unit ⊕ Int)) :=
  cond (decide ((↑y80 : Int) < (↑(List.length s1_) : Int))) (idxn s1_ y80 fun e89 => cond (decide ((↑(List.length s2_) : Int) ≤ (↑y80 : Int))) (some (.inr (.inr 1))) (idxn s2_ y80 fun e91 => (cmp_Compare_int e89 e91).bind fun c92 => cond (decide (c92 ≠ 0)) (some (.inr (.inr c92))) (some (.inl (y80 + 1))))) (some (.inr (.inl ())))
def slices_Compare_Sint_int (s1_ : List Int) (s2_ : List Int) : Option (Int) :=
  (iter (fun (s : Nat) => slices_Compare_Sint_int.s2 s1_ s2_ s) fuel 0 : Option (Unit ⊕ Int)).bind (Sum.elim (fun (_ : Unit) => cond (decide ((↑(List.length s1_) : Int) < (↑(List.length s2_) : Int))) (some (-1 : Int)) (some 0)) some)
def cmp_Or_int.s2 (vals_ : List Int) (y67 : Nat) : Option (Nat ⊕ (Unit ⊕ Int)) :=
  cond (decide ((↑y67 : Int) < (↑(List.length vals_) : Int))) (idxn vals_ y67 fun e73 => cond (decide (e73 ≠ 0)) (some (.inr (.inr e73))) (some (.inl (y67 + 1)))) (some (.inr (.inl ())))
def cmp_Or_int (vals_ : List Int) : Option (Int) :=
  (iter (fun (s : Nat) => cmp_Or_int.s2 vals_ s) fuel 0 : Option (Unit ⊕ Int)).bind (Sum.elim (fun (_ : Unit) => some 0) some)
def word_Compare (a_ : List Int) (b_ : List Int) : Option (Int) :=
  (cmp_Compare_int (↑(List.length a_) : Int) (↑(List.length b_) : Int)).bind fun c51 => (slices_Compare_Sint_int a_ b_).bind fun c52 => (cmp_Or_int [c51, c52]).bind fun c53 => some c53
def table_ascends (l_ : List (List Int)) (i_ : Int) : Option (Bool) :=
  (cond (decide (i_ = 0)) (some true) (chk (inR (i_ - 1)) (idx l_ (i_ - 1) fun e61 => idx l_ i_ fun e62 => (word_Compare e61 e62).bind fun c63 => some (decide (c63 < 0)))) : Option (Bool)).bind (fun (y58 : Bool) => some y58)
def table_longest.s2 (l_ : List (List Int)) (n65 : Int) (y66 : Nat) : Option ((Int × Nat) ⊕ Int) :=
  cond (decide ((↑y66 : Int) < (↑(List.length l_) : Int))) (idxn l_ y66 fun e71 => some (.inl ((max n65 (↑(List.length e71) : Int)), (y66 + 1)))) (some (.inr n65))
def table_longest (l_ : List (List Int)) : Option (Int) :=
  (iter (fun (s : Int × Nat) => table_longest.s2 l_ s.1 s.2) fuel (0, 0) : Option (Int)).bind (fun (n62 : Int) => some n62)
def table_Valid.s2 (t_ : T_api_Table) (y90 : List (ByteArray × Bool)) (y91 : Nat) : Option (((List (ByteArray × Bool)) × Nat) ⊕ ((List (ByteArray × Bool)))) :=
  cond (decide ((↑y91 : Int) < (↑(List.length t_.Prefixes) : Int))) (idxn t_.Prefixes y91 fun e97 => (table_key e97).bind fun c98 => some (.inl ((mset c98 true y90), (y91 + 1)))) (some (.inr y90))
def table_Valid.s4 (t_ : T_api_Table) (y86 : List (ByteArray × Bool)) (y220 : Nat) : Option (Nat ⊕ (Unit ⊕ Int)) :=
  cond (decide ((↑y220 : Int) < (↑(List.length t_.Prefixes) : Int))) (idxn t_.Prefixes y220 fun e252 => (word_Check e252 t_.Inputs).bind fun c253 => cond (decide (c253 ≠ 0)) (some (.inr (.inr c253))) ((cond (decide ((↑y220 : Int) = 0)) (cond (decide (0 < (↑(List.length e252) : Int))) (some true) ((table_ascends t_.Prefixes (↑y220 : Int)).bind fun c264 => some (!c264))) ((table_ascends t_.Prefixes (↑y220 : Int)).bind fun c265 => some (!c265)) : Option (Bool)).bind (fun (y261 : Bool) => cond (y261) (some (.inr (.inr 10))) ((cond (decide (0 < (↑(List.length e252) : Int))) (chk ((0 : Int) ≤ ((↑(List.length e252) : Int) - 1) ∧ ((↑(List.length e252) : Int) - 1) ≤ (↑(List.length e252) : Int)) ((table_key (List.take (Int.toNat ((↑(List.length e252) : Int) - 1)) e252)).bind fun c277 => some (!((mget c277 y86).getD false)))) (some false) : Option (Bool)).bind (fun (y274 : Bool) => cond (y274) (some (.inr (.inr 1))) (some (.inl (y220 + 1)))))))) (some (.inr (.inl ())))
def table_Valid.s6 (t_ : T_api_Table) (y313 : Nat) : Option (Nat ⊕ (Unit ⊕ Int)) :=
  cond (decide ((↑y313 : Int) < (↑(List.length t_.Suffixes) : Int))) (idxn t_.Suffixes y313 fun e323 => (word_Check e323 t_.Inputs).bind fun c324 => cond (decide (c324 ≠ 0)) (some (.inr (.inr c324))) (cond (decide ((↑(List.length e323) : Int) = 0)) (some (.inr (.inr 19))) ((table_ascends t_.Suffixes (↑y313 : Int)).bind fun c327 => cond ((!c327)) (some (.inr (.inr 10))) (some (.inl (y313 + 1)))))) (some (.inr (.inl ())))
def table_Valid (t_ : T_api_Table) : Option (Int) :=
  (cond (decide (t_.Inputs < 1)) (some true) (some (decide (64 < t_.Inputs))) : Option (Bool)).bind (fun (y54 : Bool) => cond (y54) (some 2) (cond (decide ((↑(List.length t_.Prefixes) : Int) = 0)) (some 19) ((cond (decide (10000 < (↑(List.length t_.Prefixes) : Int))) (some true) (cond (decide (10000 < (↑(List.length t_.Suffixes) : Int))) (some true) (chk (inR (t_.Inputs + 1)) (chk (inR ((↑(List.length t_.Prefixes) : Int) * (t_.Inputs + 1))) (chk (inR (((↑(List.length t_.Prefixes) : Int) * (t_.Inputs + 1)) * (↑(List.length t_.Suffixes) : Int))) (some (decide (160000 < (((↑(List.length t_.Prefixes) : Int) * (t_.Inputs + 1)) * (↑(List.length t_.Suffixes) : Int))))))))) : Option (Bool)).bind (fun (y65 : Bool) => cond (y65) (some 11) ((iter (fun (s : (List (ByteArray × Bool)) × Nat) => table_Valid.s2 t_ s.1 s.2) fuel (([] : List (ByteArray × Bool)), 0) : Option ((List (ByteArray × Bool)))).bind (fun (y86 : (List (ByteArray × Bool))) => (iter (fun (s : Nat) => table_Valid.s4 t_ y86 s) fuel 0 : Option (Unit ⊕ Int)).bind (Sum.elim (fun (_ : Unit) => (iter (fun (s : Nat) => table_Valid.s6 t_ s) fuel 0 : Option (Unit ⊕ Int)).bind (Sum.elim (fun (_ : Unit) => (cond (decide ((↑(List.length t_.Suffixes) : Int) < t_.Inputs)) (some true) (chk (inR (t_.Inputs - 1)) (idx t_.Suffixes (t_.Inputs - 1) fun e338 => some (decide (1 < (↑(List.length e338) : Int))))) : Option (Bool)).bind (fun (y335 : Bool) => cond (y335) (some 1) ((table_longest t_.Prefixes).bind fun c340 => (table_longest t_.Suffixes).bind fun c341 => chk (inR (c340 + c341)) (cond (decide (1023 < (c340 + c341))) (some 3) (some 0))))) some)) some)))))))
def R23_longest.s2 (l_ : List (List Int)) (n65 : Int) (i66 : Nat) : Option ((Int × Nat) ⊕ Int) :=
  cond (decide ((↑i66 : Int) < (↑(List.length l_) : Int))) (idxn l_ i66 fun e71 => some (.inl ((max n65 (↑(List.length e71) : Int)), (i66 + 1)))) (some (.inr n65))
def R23_longest (l_ : List (List Int)) : Option (Int) :=
  (iter (fun (s : Int × Nat) => R23_longest.s2 l_ s.1 s.2) fuel (0, 0) : Option (Int)).bind (fun (n62 : Int) => some n62)
def R01_Size (inputs_ : Int) : Option (Bool) :=
  (cond (decide (1 ≤ inputs_)) (some (decide (inputs_ ≤ 1024))) (some false) : Option (Bool)).bind (fun (y54 : Bool) => some y54)
def R01_Check.s2 (w_ : List Int) (inputs_ : Int) (i106 : Nat) : Option (Nat ⊕ (Unit ⊕ Int)) :=
  cond (decide ((↑i106 : Int) < (↑(List.length w_) : Int))) ((idxn w_ i106 fun e127 => cond (decide (e127 < 0)) (some true) (idxn w_ i106 fun e129 => some (decide (inputs_ ≤ e129))) : Option (Bool)).bind (fun (y126 : Bool) => cond (y126) (some (.inr (.inr 1))) (some (.inl (i106 + 1))))) (some (.inr (.inl ())))
def R01_Check (w_ : List Int) (inputs_ : Int) : Option (Int) :=
  (R01_Size inputs_).bind fun c51 => cond ((!c51)) (some 2) (cond (decide (1024 < (↑(List.length w_) : Int))) (some 3) ((iter (fun (s : Nat) => R01_Check.s2 w_ inputs_ s) fuel 0 : Option (Unit ⊕ Int)).bind (Sum.elim (fun (_ : Unit) => some 0) some)))
def R01_Common.s2 (a_ : List Int) (b_ : List Int) (i115 : Nat) : Option (Nat ⊕ Nat) :=
  (cond (decide ((↑i115 : Int) < (↑(List.length a_) : Int))) (cond (decide ((↑i115 : Int) < (↑(List.length b_) : Int))) (idxn a_ i115 fun e141 => idxn b_ i115 fun e142 => some (decide (e141 = e142))) (some false)) (some false) : Option (Bool)).bind (fun (y138 : Bool) => cond (y138) (chk (inR ((↑i115 : Int) + 1)) (some (.inl (i115 + 1)))) (some (.inr i115)))
def R01_Common (a_ : List Int) (b_ : List Int) : Option (Int) :=
  (iter (fun (s : Nat) => R01_Common.s2 a_ b_ s) fuel 0 : Option (Nat)).bind (fun (i100 : Nat) => some (↑i100 : Int))
def R01_Lex (a_ : List Int) (b_ : List Int) : Option (Int) :=
  (R01_Common a_ b_).bind fun c51 => (cond (decide (c51 = (↑(List.length a_) : Int))) (some (decide (c51 = (↑(List.length b_) : Int)))) (some false) : Option (Bool)).bind (fun (y55 : Bool) => cond (y55) (some 0) ((cond (decide (c51 = (↑(List.length a_) : Int))) (some (decide (c51 = (↑(List.length a_) : Int)))) (cond (decide (c51 < (↑(List.length b_) : Int))) (idx a_ c51 fun e69 => idx b_ c51 fun e70 => some (decide (e69 < e70))) (some false)) : Option (Bool)).bind (fun (y66 : Bool) => cond (y66) (some (-1 : Int)) (some 1))))
def R01_Compare (a_ : List Int) (b_ : List Int) : Option (Int) :=
  cond (decide ((↑(List.length a_) : Int) < (↑(List.length b_) : Int))) (some (-1 : Int)) (cond (decide ((↑(List.length b_) : Int) < (↑(List.length a_) : Int))) (some 1) ((R01_Lex a_ b_).bind fun c53 => some c53))
def R01_Same (a_ : List Int) (b_ : List Int) : Option (Bool) :=
  (cond (decide ((↑(List.length a_) : Int) = (↑(List.length b_) : Int))) ((R01_Common a_ b_).bind fun c57 => some (decide (c57 = (↑(List.length a_) : Int)))) (some false) : Option (Bool)).bind (fun (y55 : Bool) => some y55)
def R02_Has.s2 (l_ : List (List Int)) (w_ : List Int) (i72 : Nat) : Option (Nat ⊕ (Unit ⊕ Bool)) :=
  cond (decide ((↑i72 : Int) < (↑(List.length l_) : Int))) (idxn l_ i72 fun e79 => (R01_Same e79 w_).bind fun c80 => cond (c80) (some (.inr (.inr true))) (some (.inl (i72 + 1)))) (some (.inr (.inl ())))
def R02_Has (l_ : List (List Int)) (w_ : List Int) : Option (Bool) :=
  (iter (fun (s : Nat) => R02_Has.s2 l_ w_ s) fuel 0 : Option (Unit ⊕ Bool)).bind (Sum.elim (fun (_ : Unit) => some false) some)
def R23_prefixes.s2 (t_ : T_api_Table) (i194 : Nat) : Option (Nat ⊕ (Unit ⊕ Int)) :=
  cond (decide ((↑i194 : Int) < (↑(List.length t_.Prefixes) : Int))) (idxn t_.Prefixes i194 fun e232 => (R01_Check e232 t_.Inputs).bind fun c233 => cond (decide (c233 ≠ 0)) (some (.inr (.inr c233))) ((cond (decide ((↑i194 : Int) = 0)) (cond (decide (0 < (↑(List.length e232) : Int))) (some true) (cond (decide (0 < (↑i194 : Int))) (idx t_.Prefixes ((↑i194 : Int) - 1) fun e249 => (R01_Compare e249 e232).bind fun c250 => some (decide (0 ≤ c250))) (some false))) (cond (decide (0 < (↑i194 : Int))) (idx t_.Prefixes ((↑i194 : Int) - 1) fun e252 => (R01_Compare e252 e232).bind fun c253 => some (decide (0 ≤ c253))) (some false)) : Option (Bool)).bind (fun (y245 : Bool) => cond (y245) (some (.inr (.inr 10))) ((cond (decide (0 < (↑(List.length e232) : Int))) (chk ((0 : Int) ≤ ((↑(List.length e232) : Int) - 1) ∧ ((↑(List.length e232) : Int) - 1) ≤ (↑(List.length e232) : Int)) ((R02_Has t_.Prefixes (List.take (Int.toNat ((↑(List.length e232) : Int) - 1)) e232)).bind fun c264 => some (!c264))) (some false) : Option (Bool)).bind (fun (y261 : Bool) => cond (y261) (some (.inr (.inr 1))) (some (.inl (i194 + 1)))))))) (some (.inr (.inl ())))
def R23_prefixes (t_ : T_api_Table) : Option (Int) :=
  (iter (fun (s : Nat) => R23_prefixes.s2 t_ s) fuel 0 : Option (Unit ⊕ Int)).bind (Sum.elim (fun (_ : Unit) => some 0) some)
def R23_suffixes.s2 (t_ : T_api_Table) (i114 : Nat) : Option (Nat ⊕ (Unit ⊕ Int)) :=
  cond (decide ((↑i114 : Int) < (↑(List.length t_.Suffixes) : Int))) (idxn t_.Suffixes i114 fun e132 => (R01_Check e132 t_.Inputs).bind fun c133 => cond (decide (c133 ≠ 0)) (some (.inr (.inr c133))) (cond (decide ((↑(List.length e132) : Int) = 0)) (some (.inr (.inr 19))) ((cond (decide (0 < (↑i114 : Int))) (idx t_.Suffixes ((↑i114 : Int) - 1) fun e143 => (R01_Compare e143 e132).bind fun c144 => some (decide (0 ≤ c144))) (some false) : Option (Bool)).bind (fun (y141 : Bool) => cond (y141) (some (.inr (.inr 10))) (some (.inl (i114 + 1))))))) (some (.inr (.inl ())))
def R23_suffixes.s4 (t_ : T_api_Table) (a163 : Nat) : Option (Nat ⊕ (Unit ⊕ Int)) :=
  cond (decide ((↑a163 : Int) < t_.Inputs)) ((R02_Has t_.Suffixes [(↑a163 : Int)]).bind fun c170 => cond ((!c170)) (some (.inr (.inr 1))) (chk (inR ((↑a163 : Int) + 1)) (some (.inl (a163 + 1))))) (some (.inr (.inl ())))
def R23_suffixes (t_ : T_api_Table) : Option (Int) :=
  (iter (fun (s : Nat) => R23_suffixes.s2 t_ s) fuel 0 : Option (Unit ⊕ Int)).bind (Sum.elim (fun (_ : Unit) => (iter (fun (s : Nat) => R23_suffixes.s4 t_ s) fuel 0 : Option (Unit ⊕ Int)).bind (Sum.elim (fun (_ : Unit) => some 0) some)) some)
def R23_Valid (t_ : T_api_Table) : Option (Int) :=
  (cond (decide (t_.Inputs < 1)) (some true) (some (decide (64 < t_.Inputs))) : Option (Bool)).bind (fun (y54 : Bool) => cond (y54) (some 2) (cond (decide ((↑(List.length t_.Prefixes) : Int) = 0)) (some 19) ((cond (decide (10000 < (↑(List.length t_.Prefixes) : Int))) (some true) (some (decide (10000 < (↑(List.length t_.Suffixes) : Int)))) : Option (Bool)).bind (fun (y61 : Bool) => cond (y61) (some 11) (chk (inR (t_.Inputs + 1)) (chk (inR ((↑(List.length t_.Prefixes) : Int) * (t_.Inputs + 1))) (chk (inR (((↑(List.length t_.Prefixes) : Int) * (t_.Inputs + 1)) * (↑(List.length t_.Suffixes) : Int))) (cond (decide (160000 < (((↑(List.length t_.Prefixes) : Int) * (t_.Inputs + 1)) * (↑(List.length t_.Suffixes) : Int)))) (some 11) ((R23_prefixes t_).bind fun c68 => cond (decide (c68 ≠ 0)) (some c68) ((R23_suffixes t_).bind fun c70 => cond (decide (c70 ≠ 0)) (some c70) ((R23_longest t_.Prefixes).bind fun c72 => (R23_longest t_.Suffixes).bind fun c73 => chk (inR (c72 + c73)) (cond (decide (1023 < (c72 + c73))) (some 3) (some 0)))))))))))))
def slices_Concat_Sint_int.s2 (slices_ : List (List Int)) (size73 : Nat) (y74 : Nat) : Option ((Nat × Nat) ⊕ Nat) :=
  cond (decide ((↑y74 : Int) < (↑(List.length slices_) : Int))) (idxn slices_ y74 fun e81 => chk (inR ((↑size73 : Int) + (↑(List.length e81) : Int))) (cond (decide (((↑size73 : Int) + (↑(List.length e81) : Int)) < 0)) (none) (some (.inl ((size73 + (List.length e81)), (y74 + 1)))))) (some (.inr size73))
def slices_Concat_Sint_int.s4 (slices_ : List (List Int)) (y106 : List Int) (y107 : Nat) : Option ((List Int × Nat) ⊕ List Int) :=
  cond (decide ((↑y107 : Int) < (↑(List.length slices_) : Int))) (idxn slices_ y107 fun e113 => chk (capOk (List.length y106 + List.length e113) 8) (some (.inl ((y106 ++ e113), (y107 + 1))))) (some (.inr y106))
def slices_Concat_Sint_int (slices_ : List (List Int)) : Option (List Int) :=
  (iter (fun (s : Nat × Nat) => slices_Concat_Sint_int.s2 slices_ s.1 s.2) fuel (0, 0) : Option (Nat)).bind (fun (size68 : Nat) => (lib_Grow_int (↑size68 : Int)).bind fun c86 => (iter (fun (s : List Int × Nat) => slices_Concat_Sint_int.s4 slices_ s.1 s.2) fuel (c86, 0) : Option (List Int)).bind (fun (y102 : List Int) => some y102))
def word_Join (parts_ : List (List Int)) : Option (List Int) :=
  (slices_Concat_Sint_int parts_).bind fun c51 => some c51
def slices_BinarySearchFunc_table_finder_api_Trace_Sint.s2 (x_ : List T_api_Trace) (target_ : List Int) (cmp_ : T_api_Trace → (List Int) → Option Int) (i90 : Int) (j91 : Int) : Option ((Int × Int) ⊕ Int) :=
  cond (decide (i90 < j91)) (chk (inR (i90 + j91)) (chk ((0 : Int) ≤ (i90 + j91) ∧ (i90 + j91) ≤ 18446744073709551615) (chk ((0 : Int) ≤ (i90 + j91) ∧ (i90 + j91) ≤ 18446744073709551615) (chk (inR ((i90 + j91) / 2 ^ 1)) (idx x_ ((i90 + j91) / 2 ^ 1) fun e107 => (cmp_ e107 target_).bind fun c108 => cond (decide (c108 < 0)) (chk (inR (((i90 + j91) / 2 ^ 1) + 1)) (some (.inl ((((i90 + j91) / 2 ^ 1) + 1), j91)))) (some (.inl (i90, ((i90 + j91) / 2 ^ 1))))))))) (some (.inr i90))
def slices_BinarySearchFunc_table_finder_api_Trace_Sint (x_ : List T_api_Trace) (target_ : List Int) (cmp_ : T_api_Trace → (List Int) → Option Int) : Option (Int × Bool) :=
  (iter (fun (s : Int × Int) => slices_BinarySearchFunc_table_finder_api_Trace_Sint.s2 x_ target_ cmp_ s.1 s.2) fuel (0, (↑(List.length x_) : Int)) : Option (Int)).bind (fun (i82 : Int) => (cond (decide (i82 < (↑(List.length x_) : Int))) (idx x_ i82 fun e122 => (cmp_ e122 target_).bind fun c123 => some (decide (c123 = 0))) (some false) : Option (Bool)).bind (fun (y120 : Bool) => some (i82, y120)))
def word_Common.s2 (a_ : List Int) (b_ : List Int) (y72 : Nat) : Option (Nat ⊕ (Unit ⊕ Int)) :=
  cond (decide ((↑y72 : Int) < (min (↑(List.length a_) : Int) (↑(List.length b_) : Int)))) (idxn a_ y72 fun e79 => idxn b_ y72 fun e80 => cond (decide (e79 ≠ e80)) (some (.inr (.inr (↑y72 : Int)))) (some (.inl (y72 + 1)))) (some (.inr (.inl ())))
def word_Common (a_ : List Int) (b_ : List Int) : Option (Int) :=
  (iter (fun (s : Nat) => word_Common.s2 a_ b_ s) fuel 0 : Option (Unit ⊕ Int)).bind (Sum.elim (fun (_ : Unit) => some (min (↑(List.length a_) : Int) (↑(List.length b_) : Int))) some)
def word_HasPrefix (w_ : List Int) (p_ : List Int) : Option (Bool) :=
  (word_Common w_ p_).bind fun c51 => some (decide (c51 = (↑(List.length p_) : Int)))
def word_Lex (a_ : List Int) (b_ : List Int) : Option (Int) :=
  (slices_Compare_Sint_int a_ b_).bind fun c51 => some c51
def table_finder_answer_1 (t_ : T_api_Trace) (w_ : List Int) : Option (Int) :=
  (word_Lex t_.In w_).bind fun c51 => some c51
def table_finder_answer (f_ : List T_api_Trace) (w_ : List Int) : Option (List Int × Bool) :=
  cond (decide ((↑(List.length w_) : Int) = 0)) (some ([], true)) ((slices_BinarySearchFunc_table_finder_api_Trace_Sint f_ w_ (fun u0 u1 => table_finder_answer_1 u0 u1)).bind fun c52 => (cond (decide (c52.1 = (↑(List.length f_) : Int))) (some true) (idx f_ c52.1 fun e62 => (word_HasPrefix e62.In w_).bind fun c63 => cond ((!c63)) (some true) (idx f_ c52.1 fun e65 => some (decide ((↑(List.length e65.Out) : Int) < (↑(List.length w_) : Int))))) : Option (Bool)).bind (fun (y60 : Bool) => cond (y60) (some ([], false)) (idx f_ c52.1 fun e69 => chk ((0 : Int) ≤ (↑(List.length w_) : Int) ∧ (↑(List.length w_) : Int) ≤ (↑(List.length e69.Out) : Int)) (some ((List.take (List.length w_) e69.Out), true)))))
def table_finder_row.s2 (f_ : List T_api_Trace) (t_ : T_api_Table) (w_ : List Int) (y93 : List (List Int)) (y94 : Nat) : Option ((List (List Int) × Nat) ⊕ (List (List Int) ⊕ (List (List Int) × Bool))) :=
  cond (decide ((↑y94 : Int) < (↑(List.length t_.Suffixes) : Int))) (idxn t_.Suffixes y94 fun e105 => (word_Join [w_, e105]).bind fun c106 => (table_finder_answer f_ c106).bind fun c107 => cond ((!c107.2)) (some (.inr (.inr ([], false)))) (chk ((0 : Int) ≤ (↑(List.length w_) : Int) ∧ (↑(List.length w_) : Int) ≤ (↑(List.length c107.1) : Int)) ((lib_Clone_int (List.drop (List.length w_) c107.1)).bind fun c110 => chk (capOk (List.length y93 + 1) 24) (some (.inl ((y93 ++ [c110]), (y94 + 1))))))) (some (.inr (.inl y93)))
def table_finder_row (f_ : List T_api_Trace) (t_ : T_api_Table) (w_ : List Int) : Option (List (List Int) × Bool) :=
  chk ((0 : Int) ≤ 0 ∧ 0 ≤ (↑(List.length t_.Suffixes) : Int) ∧ capOk (Int.toNat (↑(List.length t_.Suffixes) : Int)) 24) ((iter (fun (s : List (List Int) × Nat) => table_finder_row.s2 f_ t_ w_ s.1 s.2) fuel ([], 0) : Option (List (List Int) ⊕ (List (List Int) × Bool))).bind (Sum.elim (fun (y84 : List (List Int)) => some (y84, true)) some))
def table_check (t_ : T_api_Table) (o_ : T_api_Obs) : Option (Int) :=
  (table_Valid t_).bind fun c51 => cond (decide (c51 ≠ 0)) (some c51) (cond (decide (t_.Inputs ≠ o_.Inputs)) (some 15) (some 0))
def table_find_1 (a_ : T_api_Trace) (b_ : T_api_Trace) : Option (Int) :=
  (word_Lex a_.In b_.In).bind fun c51 => some c51
def table_find (o_ : T_api_Obs) : Option (List T_api_Trace) :=
  (lib_Clone_traces o_.Traces).bind fun c51 => (lib_SortFunc_finder c51 (fun u0 u1 => table_find_1 u0 u1)).bind fun c52 => some c52
def table_Row (t_ : T_api_Table) (o_ : T_api_Obs) (w_ : List Int) : Option (List (List Int) × Bool) :=
  (table_check t_ o_).bind fun c51 => cond (decide (c51 ≠ 0)) (some ([], false)) ((table_find o_).bind fun c53 => (table_finder_row c53 t_ w_).bind fun c54 => some (c54.1, c54.2))
def R01_SameWords.s2 (a_ : List (List Int)) (b_ : List (List Int)) (i77 : Nat) : Option (Nat ⊕ (Unit ⊕ Bool)) :=
  cond (decide ((↑i77 : Int) < (↑(List.length a_) : Int))) (idxn a_ i77 fun e85 => idxn b_ i77 fun e86 => (R01_Same e85 e86).bind fun c87 => cond ((!c87)) (some (.inr (.inr false))) (some (.inl (i77 + 1)))) (some (.inr (.inl ())))
def R01_SameWords (a_ : List (List Int)) (b_ : List (List Int)) : Option (Bool) :=
  cond (decide ((↑(List.length a_) : Int) ≠ (↑(List.length b_) : Int))) (some false) ((iter (fun (s : Nat) => R01_SameWords.s2 a_ b_ s) fuel 0 : Option (Unit ⊕ Bool)).bind (Sum.elim (fun (_ : Unit) => some true) some))
def table_extended (w_ : List Int) (a_ : Int) : Option (List Int) :=
  (word_Join [w_, [a_]]).bind fun c51 => some c51
def slices_CompactFunc_SSint_Sint.s18 (eq_ : (List Int) → (List Int) → Option Bool) (k356 : Nat) (y481 : List (List Int)) (k482 : Nat) (y483 : Nat) : Option ((List (List Int) × Nat × Nat) ⊕ (List (List Int) × Nat)) :=
  cond (decide ((↑y483 : Int) < (↑(List.length y481 - k356) : Int))) (idxn y481 (k356 + y483) fun e495 => chk ((0 : Int) ≤ ((↑y483 : Int) - 1)) (idxn y481 (k356 + (Int.toNat ((↑y483 : Int) - 1))) fun e496 => (eq_ e495 e496).bind fun c498 => cond ((!c498)) (idxn y481 (k356 + y483) fun e500 => idxn y481 k482 fun e501 => chk (inR ((↑k482 : Int) + 1)) (some (.inl ((List.set y481 k482 e500), (k482 + 1), (y483 + 1))))) (some (.inl (y481, k482, (y483 + 1)))))) (some (.inr (y481, k482)))
def slices_CompactFunc_SSint_Sint.k19 (y471 : List (List Int)) (k472 : Nat) : Option (Nat ⊕ (Unit ⊕ List (List Int))) :=
  chk ((0 : Int) ≤ (↑k472 : Int) ∧ (↑k472 : Int) ≤ (↑(List.length y471) : Int) ∧ 0 < List.length y471) (chk (k472 ≤ List.length y471) (chk ((0 : Int) ≤ (↑k472 : Int) ∧ (↑k472 : Int) ≤ (↑(List.length (List.take k472 y471 ++ List.replicate (List.length y471 - k472) [])) : Int) ∧ 0 < List.length (List.take k472 y471 ++ List.replicate (List.length y471 - k472) [])) (some (.inr (.inr (List.take k472 (List.take k472 y471 ++ List.replicate (List.length y471 - k472) [])))))))
def slices_CompactFunc_SSint_Sint.s20 (s_ : List (List Int)) (eq_ : (List Int) → (List Int) → Option Bool) (k356 : Nat) : Option (Nat ⊕ (Unit ⊕ List (List Int))) :=
  cond (decide ((↑k356 : Int) < (↑(List.length s_) : Int))) (idxn s_ k356 fun e434 => idx s_ ((↑k356 : Int) - 1) fun e435 => (eq_ e434 e435).bind fun c436 => cond (c436) (chk ((0 : Int) ≤ (↑k356 : Int) ∧ (↑k356 : Int) ≤ (↑(List.length s_) : Int) ∧ 0 < List.length s_) ((iter (fun (s : List (List Int) × Nat × Nat) => slices_CompactFunc_SSint_Sint.s18 eq_ k356 s.1 s.2.1 s.2.2) fuel (s_, k356, 1) : Option (List (List Int) × Nat)).bind (fun (s : List (List Int) × Nat) => slices_CompactFunc_SSint_Sint.k19 s.1 s.2))) (some (.inl (k356 + 1)))) (some (.inr (.inl ())))
def slices_CompactFunc_SSint_Sint (s_ : List (List Int)) (eq_ : (List Int) → (List Int) → Option Bool) : Option (List (List Int)) :=
  cond (decide ((↑(List.length s_) : Int) < 2)) (some s_) ((iter (fun (s : Nat) => slices_CompactFunc_SSint_Sint.s20 s_ eq_ s) fuel 1 : Option (Unit ⊕ List (List Int))).bind (Sum.elim (fun (_ : Unit) => some s_) some))
def wordset_ordered_1 (a_ : List Int) (b_ : List Int) (p2_ : (List Int) → (List Int) → Option Int) : Option (Bool) :=
  (p2_ a_ b_).bind fun c51 => some (decide (c51 = 0))
def slices_CompactFunc_SSint_Sint_n1.s18 (eq_ : (List Int) → (List Int) → Option Bool) (k356 : Nat) (y481 : List (List Int)) (k482 : Nat) (y483 : Nat) : Option ((List (List Int) × Nat × Nat) ⊕ (List (List Int) × Nat)) :=
  cond (decide ((↑y483 : Int) < (↑(List.length y481 - k356) : Int))) (idxn y481 (k356 + y483) fun e495 => chk ((0 : Int) ≤ ((↑y483 : Int) - 1)) (idxn y481 (k356 + (Int.toNat ((↑y483 : Int) - 1))) fun e496 => (eq_ e495 e496).bind fun c498 => cond ((!c498)) (idxn y481 (k356 + y483) fun e500 => idxn y481 k482 fun e501 => chk (inR ((↑k482 : Int) + 1)) (some (.inl ((List.set y481 k482 e500), (k482 + 1), (y483 + 1))))) (some (.inl (y481, k482, (y483 + 1)))))) (some (.inr (y481, k482)))
def slices_CompactFunc_SSint_Sint_n1.k19 (y471 : List (List Int)) (k472 : Nat) : Option (Nat ⊕ (Unit ⊕ List (List Int))) :=
  chk ((0 : Int) ≤ (↑k472 : Int) ∧ (↑k472 : Int) ≤ (↑(List.length y471) : Int) ∧ 0 < List.length y471) (chk (k472 ≤ List.length y471) (chk ((0 : Int) ≤ (↑k472 : Int) ∧ (↑k472 : Int) ≤ (↑(List.length (List.take k472 y471 ++ List.replicate (List.length y471 - k472) [])) : Int) ∧ 0 < List.length (List.take k472 y471 ++ List.replicate (List.length y471 - k472) [])) (some (.inr (.inr (List.take k472 (List.take k472 y471 ++ List.replicate (List.length y471 - k472) [])))))))
def slices_CompactFunc_SSint_Sint_n1.s20 (s_ : List (List Int)) (eq_ : (List Int) → (List Int) → Option Bool) (k356 : Nat) : Option (Nat ⊕ (Unit ⊕ List (List Int))) :=
  cond (decide ((↑k356 : Int) < (↑(List.length s_) : Int))) (idxn s_ k356 fun e434 => idx s_ ((↑k356 : Int) - 1) fun e435 => (eq_ e434 e435).bind fun c436 => cond (c436) (chk ((0 : Int) ≤ (↑k356 : Int) ∧ (↑k356 : Int) ≤ (↑(List.length s_) : Int) ∧ 0 < List.length s_) ((iter (fun (s : List (List Int) × Nat × Nat) => slices_CompactFunc_SSint_Sint_n1.s18 eq_ k356 s.1 s.2.1 s.2.2) fuel (s_, k356, 1) : Option (List (List Int) × Nat)).bind (fun (s : List (List Int) × Nat) => slices_CompactFunc_SSint_Sint_n1.k19 s.1 s.2))) (some (.inl (k356 + 1)))) (some (.inr (.inl ())))
def slices_CompactFunc_SSint_Sint_n1 (s_ : List (List Int)) (eq_ : (List Int) → (List Int) → Option Bool) : Option (List (List Int)) :=
  cond (decide ((↑(List.length s_) : Int) < 2)) (some s_) ((iter (fun (s : Nat) => slices_CompactFunc_SSint_Sint_n1.s20 s_ eq_ s) fuel 1 : Option (Unit ⊕ List (List Int))).bind (Sum.elim (fun (_ : Unit) => some s_) some))
def wordset_ordered.s2 (c53 : List (List Int)) (y78 : List (List Int)) (y79 : Nat) : Option ((List (List Int) × Nat) ⊕ List (List Int)) :=
  cond (decide ((↑y79 : Int) < (↑(List.length c53) : Int))) (idxn y78 y79 fun e87 => (lib_Clone_int e87).bind fun c88 => idxn y78 y79 fun e89 => chk (inR ((↑y79 : Int) + 1)) (some (.inl ((List.set y78 y79 c88), (y79 + 1))))) (some (.inr y78))
def wordset_ordered (l_ : List (List Int)) (order_ : (List Int) → (List Int) → Option Int) : Option (List (List Int)) :=
  (lib_Clone_words l_).bind fun c51 => (lib_SortFunc_words c51 order_).bind fun c52 => (slices_CompactFunc_SSint_Sint_n1 c52 (fun u0 u1 => wordset_ordered_1 u0 u1 order_)).bind fun c53 => (iter (fun (s : List (List Int) × Nat) => wordset_ordered.s2 c53 s.1 s.2) fuel (c53, 0) : Option (List (List Int))).bind (fun (y73 : List (List Int)) => some y73)
def wordset_Sorted (l_ : List (List Int)) : Option (List (List Int)) :=
  (wordset_ordered l_ (fun u0 u1 => word_Compare u0 u1)).bind fun c51 => some c51
def wordset_Maximal.s2 (c51 : List (List Int)) (y119 : List (List Int)) (y120 : Nat) : Option ((List (List Int) × Nat) ⊕ List (List Int)) :=
  cond (decide ((↑y120 : Int) < (↑(List.length c51) : Int))) (idxn c51 y120 fun e139 => (cond (decide (((↑y120 : Int) + 1) = (↑(List.length c51) : Int))) (some true) (idxn c51 (y120 + 1) fun e147 => (word_HasPrefix e147 e139).bind fun c148 => some (!c148)) : Option (Bool)).bind (fun (y145 : Bool) => cond (y145) (chk (capOk (List.length y119 + 1) 24) (some (.inl ((y119 ++ [e139]), (y120 + 1))))) (some (.inl (y119, (y120 + 1)))))) (some (.inr y119))
def wordset_Maximal (l_ : List (List Int)) : Option (List (List Int)) :=
  (wordset_ordered l_ (fun u0 u1 => word_Lex u0 u1)).bind fun c51 => (iter (fun (s : List (List Int) × Nat) => wordset_Maximal.s2 c51 s.1 s.2) fuel ([], 0) : Option (List (List Int))).bind (fun (y104 : List (List Int)) => (wordset_Sorted y104).bind fun c157 => some c157)
def table_finder_knows (f_ : List T_api_Trace) (w_ : List Int) : Option (Bool) :=
  (table_finder_answer f_ w_).bind fun c51 => some c51.2
def table_Needed_1.s2 (w_ : List Int) (p1_ : T_api_Table) (p2_ : List T_api_Trace) (y83 : List (List Int)) (y84 : Nat) : Option ((List (List Int) × Nat) ⊕ List (List Int)) :=
  cond (decide ((↑y84 : Int) < (↑(List.length p1_.Suffixes) : Int))) (idxn p1_.Suffixes y84 fun e93 => (word_Join [w_, e93]).bind fun c94 => (table_finder_knows p2_ c94).bind fun c95 => cond ((!c95)) (chk (capOk (List.length y83 + 1) 24) (some (.inl ((y83 ++ [c94]), (y84 + 1))))) (some (.inl (y83, (y84 + 1))))) (some (.inr y83))
def table_Needed_1 (w_ : List Int) (p1_ : T_api_Table) (p2_ : List T_api_Trace) (p3_ : List (List Int)) : Option (List (List Int)) :=
  (iter (fun (s : List (List Int) × Nat) => table_Needed_1.s2 w_ p1_ p2_ s.1 s.2) fuel (p3_, 0) : Option (List (List Int))).bind (fun (y76 : List (List Int)) => some y76)
def table_Needed.s13 (t_ : T_api_Table) (c53 : List T_api_Trace) (e270 : List Int) (y294 : List (List Int)) (y295 : Nat) : Option ((List (List Int) × Nat) ⊕ List (List Int)) :=
  cond (decide ((↑y295 : Int) < t_.Inputs)) ((table_extended e270 (↑y295 : Int)).bind fun c302 => (table_Needed_1 c302 t_ c53 y294).bind fun c303 => chk (inR ((↑y295 : Int) + 1)) (some (.inl (c303, (y295 + 1))))) (some (.inr y294))
def table_Needed.s14 (t_ : T_api_Table) (c53 : List T_api_Trace) (y225 : List (List Int)) (y226 : Nat) : Option ((List (List Int) × Nat) ⊕ List (List Int)) :=
  cond (decide ((↑y226 : Int) < (↑(List.length t_.Prefixes) : Int))) (idxn t_.Prefixes y226 fun e270 => (table_Needed_1 e270 t_ c53 y225).bind fun c271 => (iter (fun (s : List (List Int) × Nat) => table_Needed.s13 t_ c53 e270 s.1 s.2) fuel (c271, 0) : Option (List (List Int))).bind (fun (y290 : List (List Int)) => some (.inl (y290, (y226 + 1))))) (some (.inr y225))
def table_Needed (t_ : T_api_Table) (o_ : T_api_Obs) : Option (List (List Int) × Int) :=
  (table_check t_ o_).bind fun c51 => cond (decide (c51 ≠ 0)) (some ([], c51)) ((table_find o_).bind fun c53 => (iter (fun (s : List (List Int) × Nat) => table_Needed.s14 t_ c53 s.1 s.2) fuel ([], 0) : Option (List (List Int))).bind (fun (y183 : List (List Int)) => (wordset_Maximal y183).bind fun c313 => some (c313, 0)))
def L23_Gate : Option (T_api_Obs) :=
  some (⟨2, [(⟨[0, 0], [1, 1]⟩ : T_api_Trace), (⟨[0, 1], [1, 2]⟩ : T_api_Trace), (⟨[1, 0], [0, 1]⟩ : T_api_Trace), (⟨[1, 1], [0, 0]⟩ : T_api_Trace)]⟩ : T_api_Obs)
def table_view_add.s2 (row_ : List (List Int)) (k78 : ByteArray) (y79 : Nat) : Option ((ByteArray × Nat) ⊕ ByteArray) :=
  cond (decide ((↑y79 : Int) < (↑(List.length row_) : Int))) (idxn row_ y79 fun e87 => (table_key e87).bind fun c88 => chk (ByteArray.size c88 + ByteArray.size (⟨#[47]⟩ : ByteArray) ≤ 9223372036854775807) (chk (ByteArray.size k78 + ByteArray.size (c88 ++ (⟨#[47]⟩ : ByteArray)) ≤ 9223372036854775807) (some (.inl ((k78 ++ (c88 ++ (⟨#[47]⟩ : ByteArray))), (y79 + 1)))))) (some (.inr k78))
def table_view_add.k3 (v_ : T_table_view) (y99 : List (List (List Int))) (y100 : List (ByteArray × Int)) (n101 : Int) : Option (Int × T_table_view) :=
  some (n101, (⟨y99, v_.prefixes, v_.next, y100⟩ : T_table_view))
def table_view_add (v_ : T_table_view) (row_ : List (List Int)) : Option (Int × T_table_view) :=
  (iter (fun (s : ByteArray × Nat) => table_view_add.s2 row_ s.1 s.2) fuel ((⟨#[]⟩ : ByteArray), 0) : Option (ByteArray)).bind (fun (k72 : ByteArray) => (cond ((!((mget k72 v_.number).isSome))) (chk (capOk (List.length v_.rows + 1) 24) (some ((v_.rows ++ [row_]), (mset k72 (↑(List.length v_.rows) : Int) v_.number), (↑(List.length v_.rows) : Int)))) (some (v_.rows, v_.number, ((mget k72 v_.number).getD 0))) : Option (List (List (List Int)) × (List (ByteArray × Int)) × Int)).bind (fun (s : List (List (List Int)) × (List (ByteArray × Int)) × Int) => table_view_add.k3 v_ s.1 s.2.1 s.2.2))
def table_look.s2 (t_ : T_api_Table) (c53 : List T_api_Trace) (y89 : List (List (List Int))) (y90 : List Int) (y91 : List (ByteArray × Int)) (y92 : Nat) : Option ((List (List (List Int)) × List Int × (List (ByteArray × Int)) × Nat) ⊕ ((List (List (List Int)) × List Int × (List (ByteArray × Int))) ⊕ (T_table_view × Int))) :=
  cond (decide ((↑y92 : Int) < (↑(List.length t_.Prefixes) : Int))) (idxn t_.Prefixes y92 fun e101 => (table_finder_row c53 t_ e101).bind fun c102 => cond ((!c102.2)) (some (.inr (.inr ((⟨[], [], [], []⟩ : T_table_view), 12)))) ((table_view_add (⟨y89, y90, [], y91⟩ : T_table_view) c102.1).bind fun c104 => chk (capOk (List.length y90 + 1) 8) (some (.inl (c104.2.rows, (y90 ++ [c104.1]), c104.2.number, (y92 + 1)))))) (some (.inr (.inl (y89, y90, y91))))
def table_look.s20 (t_ : T_api_Table) (c53 : List T_api_Trace) (y82 : List Int) (y420 : List (List Int)) (e500 : List Int) (y541 : List (List (List Int))) (y542 : List (ByteArray × Int)) (y543 : List Int) (y544 : Nat) : Option ((List (List (List Int)) × (List (ByteArray × Int)) × List Int × Nat) ⊕ ((List (List (List Int)) × (List (ByteArray × Int)) × List Int) ⊕ ((List (List (List Int)) × List (List Int) × (List (ByteArray × Int)) × Nat) ⊕ ((List (List (List Int)) × List (List Int) × (List (ByteArray × Int))) ⊕ (T_table_view × Int))))) :=
  cond (decide ((↑y544 : Int) < t_.Inputs)) ((table_extended e500 (↑y544 : Int)).bind fun c554 => (table_finder_row c53 t_ c554).bind fun c555 => cond ((!c555.2)) (some (.inr (.inr (.inr (.inr ((⟨[], [], [], []⟩ : T_table_view), 12)))))) ((table_view_add (⟨y541, y82, y420, y542⟩ : T_table_view) c555.1).bind fun c557 => chk (capOk (List.length y543 + 1) 8) (chk (inR ((↑y544 : Int) + 1)) (some (.inl (c557.2.rows, c557.2.number, (y543 ++ [c557.1]), (y544 + 1))))))) (some (.inr (.inl (y541, y542, y543))))
def table_look.k21 (y420 : List (List Int)) (y422 : Nat) (y533 : List (List (List Int))) (y534 : List (ByteArray × Int)) (y535 : List Int) : Option ((List (List (List Int)) × List (List Int) × (List (ByteArray × Int)) × Nat) ⊕ ((List (List (List Int)) × List (List Int) × (List (ByteArray × Int))) ⊕ (T_table_view × Int))) :=
  chk (capOk (List.length y420 + 1) 24) (some (.inl (y533, (y420 ++ [y535]), y534, (y422 + 1))))
def table_look.s22 (t_ : T_api_Table) (c53 : List T_api_Trace) (y82 : List Int) (y419 : List (List (List Int))) (y420 : List (List Int)) (y421 : List (ByteArray × Int)) (y422 : Nat) : Option ((List (List (List Int)) × List (List Int) × (List (ByteArray × Int)) × Nat) ⊕ ((List (List (List Int)) × List (List Int) × (List (ByteArray × Int))) ⊕ (T_table_view × Int))) :=
  cond (decide ((↑y422 : Int) < (↑(List.length t_.Prefixes) : Int))) (idxn t_.Prefixes y422 fun e500 => (iter (fun (s : List (List (List Int)) × (List (ByteArray × Int)) × List Int × Nat) => table_look.s20 t_ c53 y82 y420 e500 s.1 s.2.1 s.2.2.1 s.2.2.2) fuel (y419, y421, [], 0) : Option ((List (List (List Int)) × (List (ByteArray × Int)) × List Int) ⊕ ((List (List (List Int)) × List (List Int) × (List (ByteArray × Int)) × Nat) ⊕ ((List (List (List Int)) × List (List Int) × (List (ByteArray × Int))) ⊕ (T_table_view × Int))))).bind (Sum.elim (fun (s : List (List (List Int)) × (List (ByteArray × Int)) × List Int) => table_look.k21 y420 y422 s.1 s.2.1 s.2.2) some)) (some (.inr (.inl (y419, y420, y421))))
def table_look.k23 (y82 : List Int) (y345 : List (List (List Int))) (y346 : List (List Int)) (y347 : List (ByteArray × Int)) : Option (T_table_view × Int) :=
  some ((⟨y345, y82, y346, y347⟩ : T_table_view), 0)
def table_look.k24 (t_ : T_api_Table) (c53 : List T_api_Trace) (y81 : List (List (List Int))) (y82 : List Int) (y83 : List (ByteArray × Int)) : Option (T_table_view × Int) :=
  (iter (fun (s : List (List (List Int)) × List (List Int) × (List (ByteArray × Int)) × Nat) => table_look.s22 t_ c53 y82 s.1 s.2.1 s.2.2.1 s.2.2.2) fuel (y81, [], y83, 0) : Option ((List (List (List Int)) × List (List Int) × (List (ByteArray × Int))) ⊕ (T_table_view × Int))).bind (Sum.elim (fun (s : List (List (List Int)) × List (List Int) × (List (ByteArray × Int))) => table_look.k23 y82 s.1 s.2.1 s.2.2) some)
def table_look (t_ : T_api_Table) (o_ : T_api_Obs) : Option (T_table_view × Int) :=
  (table_check t_ o_).bind fun c51 => cond (decide (c51 ≠ 0)) (some ((⟨[], [], [], []⟩ : T_table_view), c51)) ((table_find o_).bind fun c53 => (iter (fun (s : List (List (List Int)) × List Int × (List (ByteArray × Int)) × Nat) => table_look.s2 t_ c53 s.1 s.2.1 s.2.2.1 s.2.2.2) fuel ([], [], ([] : List (ByteArray × Int)), 0) : Option ((List (List (List Int)) × List Int × (List (ByteArray × Int))) ⊕ (T_table_view × Int))).bind (Sum.elim (fun (s : List (List (List Int)) × List Int × (List (ByteArray × Int))) => table_look.k24 t_ c53 s.1 s.2.1 s.2.2) some))
def slices_Index_Sint_int.s2 (s_ : List Int) (v_ : Int) (y67 : Nat) : Option (Nat ⊕ (Unit ⊕ Int)) :=
  cond (decide ((↑y67 : Int) < (↑(List.length s_) : Int))) (idxn s_ y67 fun e73 => cond (decide (v_ = e73)) (some (.inr (.inr (↑y67 : Int)))) (some (.inl (y67 + 1)))) (some (.inr (.inl ())))
def slices_Index_Sint_int (s_ : List Int) (v_ : Int) : Option (Int) :=
  (iter (fun (s : Nat) => slices_Index_Sint_int.s2 s_ v_ s) fuel 0 : Option (Unit ⊕ Int)).bind (Sum.elim (fun (_ : Unit) => some (-1 : Int)) some)
def slices_Contains_Sint_int (s_ : List Int) (v_ : Int) : Option (Bool) :=
  (slices_Index_Sint_int s_ v_).bind fun c51 => some (decide (0 ≤ c51))
def table_view_unclosed.s13 (v_ : T_table_view) (y199 : Nat) (e238 : List Int) (y260 : Nat) : Option (Nat ⊕ (Unit ⊕ (Nat ⊕ (Unit ⊕ (Int × Int × Bool))))) :=
  cond (decide ((↑y260 : Int) < (↑(List.length e238) : Int))) (idxn e238 y260 fun e267 => (slices_Contains_Sint_int v_.prefixes e267).bind fun c268 => cond ((!c268)) (some (.inr (.inr (.inr (.inr ((↑y199 : Int), (↑y260 : Int), true)))))) (some (.inl (y260 + 1)))) (some (.inr (.inl ())))
def table_view_unclosed.s14 (v_ : T_table_view) (y199 : Nat) : Option (Nat ⊕ (Unit ⊕ (Int × Int × Bool))) :=
  cond (decide ((↑y199 : Int) < (↑(List.length v_.next) : Int))) (idxn v_.next y199 fun e238 => (iter (fun (s : Nat) => table_view_unclosed.s13 v_ y199 e238 s) fuel 0 : Option (Unit ⊕ (Nat ⊕ (Unit ⊕ (Int × Int × Bool))))).bind (Sum.elim (fun (_ : Unit) => some (.inl (y199 + 1))) some)) (some (.inr (.inl ())))
def table_view_unclosed (v_ : T_table_view) : Option (Int × Int × Bool) :=
  (iter (fun (s : Nat) => table_view_unclosed.s14 v_ s) fuel 0 : Option (Unit ⊕ (Int × Int × Bool))).bind (Sum.elim (fun (_ : Unit) => some (0, 0, false)) some)
def table_Unclosed (t_ : T_api_Table) (o_ : T_api_Obs) : Option (List Int × Bool × Int) :=
  (table_look t_ o_).bind fun c51 => cond (decide (c51.2 ≠ 0)) (some ([], false, c51.2)) ((table_view_unclosed c51.1).bind fun c53 => cond ((!c53.2.2)) (some ([], false, 0)) (idx t_.Prefixes c53.1 fun e55 => (table_extended e55 c53.2.1).bind fun c56 => some (c56, true, 0)))
def L23_awake : Option (Bool) :=
  (table_New 2).bind fun c51 => (table_Needed c51.1 (⟨2, []⟩ : T_api_Obs)).bind fun c52 => (L23_Gate).bind fun c53 => (table_Row c51.1 c53 [0]).bind fun c54 => (L23_Gate).bind fun c55 => (table_Unclosed c51.1 c55).bind fun c56 => (cond (decide (c51.2 = 0)) (cond (decide (c52.2 = 0)) ((R01_SameWords c52.1 [[0, 0], [0, 1], [1, 0], [1, 1]]).bind fun c74 => cond (c74) (cond (c54.2) ((R06_Lists c54.1 [[1], [2]]).bind fun c77 => cond (c77) (cond (c56.2.1) (cond (decide (c56.2.2 = 0)) ((R06_Ints c56.1 [0]).bind fun c81 => cond (c81) ((table_Valid c51.1).bind fun c83 => some (decide (c83 = 0))) (some false)) (some false)) (some false)) (some false)) (some false)) (some false)) (some false)) (some false) : Option (Bool)).bind (fun (y71 : Bool) => some y71)
def R01_Join.s2 (parts_ : List (List Int)) (y70 : List Int) (i71 : Nat) : Option ((List Int × Nat) ⊕ List Int) :=
  cond (decide ((↑i71 : Int) < (↑(List.length parts_) : Int))) (idxn parts_ i71 fun e77 => chk (capOk (List.length y70 + List.length e77) 8) (some (.inl ((y70 ++ e77), (i71 + 1))))) (some (.inr y70))
def R01_Join (parts_ : List (List Int)) : Option (List Int) :=
  (iter (fun (s : List Int × Nat) => R01_Join.s2 parts_ s.1 s.2) fuel ([], 0) : Option (List Int)).bind (fun (y66 : List Int) => some y66)
def R23_Joined (u_ : List Int) (v_ : List Int) : Option (List Int) :=
  (R01_Join [u_, v_]).bind fun c51 => some c51
def R01_HasPrefix (w_ : List Int) (p_ : List Int) : Option (Bool) :=
  (R01_Common w_ p_).bind fun c51 => some (decide (c51 = (↑(List.length p_) : Int)))
def R16_Answer.s2 (o_ : T_api_Obs) (w_ : List Int) (i84 : Nat) : Option (Nat ⊕ (Unit ⊕ (List Int × Bool))) :=
  cond (decide ((↑i84 : Int) < (↑(List.length o_.Traces) : Int))) (idxn o_.Traces i84 fun e94 => (R01_HasPrefix e94.In w_).bind fun c95 => cond (c95) (idxn o_.Traces i84 fun e97 => chk ((0 : Int) ≤ (↑(List.length w_) : Int) ∧ (↑(List.length w_) : Int) ≤ (↑(List.length e97.Out) : Int)) ((R01_Join [(List.take (List.length w_) e97.Out)]).bind fun c99 => some (.inr (.inr (c99, true))))) (some (.inl (i84 + 1)))) (some (.inr (.inl ())))
def R16_Answer (o_ : T_api_Obs) (w_ : List Int) : Option (List Int × Bool) :=
  cond (decide ((↑(List.length w_) : Int) = 0)) (some ([], true)) ((iter (fun (s : Nat) => R16_Answer.s2 o_ w_ s) fuel 0 : Option (Unit ⊕ (List Int × Bool))).bind (Sum.elim (fun (_ : Unit) => some ([], false)) some))
def R23_After (o_ : T_api_Obs) (w_ : List Int) (e_ : List Int) : Option (List Int × Bool) :=
  (R23_Joined w_ e_).bind fun c51 => (R16_Answer o_ c51).bind fun c52 => cond ((!c52.2)) (some ([], false)) (chk ((0 : Int) ≤ (↑(List.length w_) : Int) ∧ (↑(List.length w_) : Int) ≤ (↑(List.length c52.1) : Int)) (some ((List.drop (List.length w_) c52.1), true)))
def R23_row.s2 (o_ : T_api_Obs) (suffixes_ : List (List Int)) (w_ : List Int) (y77 : List (List Int)) (k78 : Nat) : Option ((List (List Int) × Nat) ⊕ (List (List Int) ⊕ (List (List Int) × Bool))) :=
  cond (decide ((↑k78 : Int) < (↑(List.length suffixes_) : Int))) (idxn suffixes_ k78 fun e86 => (R23_After o_ w_ e86).bind fun c87 => cond ((!c87.2)) (some (.inr (.inr ([], false)))) (chk (capOk (List.length y77 + 1) 24) (some (.inl ((y77 ++ [c87.1]), (k78 + 1)))))) (some (.inr (.inl y77)))
def R23_row (o_ : T_api_Obs) (suffixes_ : List (List Int)) (w_ : List Int) : Option (List (List Int) × Bool) :=
  (iter (fun (s : List (List Int) × Nat) => R23_row.s2 o_ suffixes_ w_ s.1 s.2) fuel ([], 0) : Option (List (List Int) ⊕ (List (List Int) × Bool))).bind (Sum.elim (fun (y72 : List (List Int)) => some (y72, true)) some)
def R23_Check (t_ : T_api_Table) (o_ : T_api_Obs) : Option (Int) :=
  (R23_Valid t_).bind fun c51 => cond (decide (c51 ≠ 0)) (some c51) (cond (decide (t_.Inputs ≠ o_.Inputs)) (some 15) (some 0))
def L23_Long.s2 (l_ : List (List Int)) (i68 : Nat) : Option (Nat ⊕ (Unit ⊕ Bool)) :=
  cond (decide ((↑i68 : Int) < (↑(List.length l_) : Int))) (idxn l_ i68 fun e74 => cond (decide (30 < (↑(List.length e74) : Int))) (some (.inr (.inr true))) (some (.inl (i68 + 1)))) (some (.inr (.inl ())))
def L23_Long (l_ : List (List Int)) (most_ : Int) : Option (Bool) :=
  cond (decide (most_ < (↑(List.length l_) : Int))) (some true) ((iter (fun (s : Nat) => L23_Long.s2 l_ s) fuel 0 : Option (Unit ⊕ Bool)).bind (Sum.elim (fun (_ : Unit) => some false) some))
def L23_Great.s2 (o_ : T_api_Obs) (i80 : Nat) : Option (Nat ⊕ (Unit ⊕ Bool)) :=
  cond (decide ((↑i80 : Int) < (↑(List.length o_.Traces) : Int))) (idxn o_.Traces i80 fun e86 => cond (decide (90 < (↑(List.length e86.In) : Int))) (some (.inr (.inr true))) (some (.inl (i80 + 1)))) (some (.inr (.inl ())))
def L23_Great (t_ : T_api_Table) (o_ : T_api_Obs) : Option (Bool) :=
  (cond (decide (4 < t_.Inputs)) (some true) ((L23_Long t_.Prefixes 30).bind fun c60 => cond (c60) (some true) ((L23_Long t_.Suffixes 12).bind fun c62 => cond (c62) (some true) (some (decide (400 < (↑(List.length o_.Traces) : Int)))))) : Option (Bool)).bind (fun (y58 : Bool) => cond (y58) (some true) ((iter (fun (s : Nat) => L23_Great.s2 o_ s) fuel 0 : Option (Unit ⊕ Bool)).bind (Sum.elim (fun (_ : Unit) => some false) some)))
def R16_Proper.s2 (t_ : T_api_Trace) (i101 : Nat) : Option (Nat ⊕ (Unit ⊕ Int)) :=
  cond (decide ((↑i101 : Int) < (↑(List.length t_.Out) : Int))) ((idxn t_.Out i101 fun e121 => cond (decide (e121 < 0)) (some true) (idxn t_.Out i101 fun e123 => some (decide (1048576 < e123))) : Option (Bool)).bind (fun (y120 : Bool) => cond (y120) (some (.inr (.inr 2))) (some (.inl (i101 + 1))))) (some (.inr (.inl ())))
def R16_Proper (t_ : T_api_Trace) (inputs_ : Int) : Option (Int) :=
  (R01_Check t_.In inputs_).bind fun c51 => cond (decide (c51 ≠ 0)) (some c51) (cond (decide ((↑(List.length t_.Out) : Int) ≠ (↑(List.length t_.In) : Int))) (some 1) ((iter (fun (s : Nat) => R16_Proper.s2 t_ s) fuel 0 : Option (Unit ⊕ Int)).bind (Sum.elim (fun (_ : Unit) => some 0) some)))
def R16_Differ.s2 (a_ : T_api_Trace) (b_ : T_api_Trace) (c51 : Int) (i73 : Nat) : Option (Nat ⊕ (Unit ⊕ Int)) :=
  cond (decide ((↑i73 : Int) < c51)) (idxn a_.Out i73 fun e81 => idxn b_.Out i73 fun e82 => cond (decide (e81 ≠ e82)) (some (.inr (.inr (↑i73 : Int)))) (chk (inR ((↑i73 : Int) + 1)) (some (.inl (i73 + 1))))) (some (.inr (.inl ())))
def R16_Differ (a_ : T_api_Trace) (b_ : T_api_Trace) : Option (Int) :=
  (R01_Common a_.In b_.In).bind fun c51 => (iter (fun (s : Nat) => R16_Differ.s2 a_ b_ c51 s) fuel 0 : Option (Unit ⊕ Int)).bind (Sum.elim (fun (_ : Unit) => some (-1 : Int)) some)
def R16_apart.s30 (o_ : T_api_Obs) (i518 : Nat) (prefix714 : Bool) (clash715 : Bool) (k716 : Nat) : Option ((Bool × Bool × Nat) ⊕ (Bool × Bool)) :=
  cond (decide ((↑k716 : Int) < (↑(List.length o_.Traces) : Int))) ((cond (prefix714) (some true) (idxn o_.Traces k716 fun e743 => idxn o_.Traces i518 fun e744 => (R01_HasPrefix e743.In e744.In).bind fun c745 => some c745) : Option (Bool)).bind (fun (prefix741 : Bool) => cond (clash715) (some (.inl (prefix741, true, (k716 + 1)))) (idxn o_.Traces i518 fun e747 => idxn o_.Traces k716 fun e748 => (R16_Differ e747 e748).bind fun c749 => some (.inl (prefix741, decide (0 ≤ c749), (k716 + 1)))))) (some (.inr (prefix714, clash715)))
def R16_apart.k31 (i518 : Nat) (prefix693 : Bool) (clash694 : Bool) : Option (Nat ⊕ (Unit ⊕ Int)) :=
  cond (prefix693) (some (.inr (.inr 7))) (cond (clash694) (some (.inr (.inr 13))) (some (.inl (i518 + 1))))
def R16_apart.s32 (o_ : T_api_Obs) (i518 : Nat) : Option (Nat ⊕ (Unit ⊕ Int)) :=
  cond (decide ((↑i518 : Int) < (↑(List.length o_.Traces) : Int))) ((iter (fun (s : Bool × Bool × Nat) => R16_apart.s30 o_ i518 s.1 s.2.1 s.2.2) fuel (false, false, (i518 + 1)) : Option (Bool × Bool)).bind (fun (s : Bool × Bool) => R16_apart.k31 i518 s.1 s.2)) (some (.inr (.inl ())))
def R16_apart (o_ : T_api_Obs) : Option (Int) :=
  (iter (fun (s : Nat) => R16_apart.s32 o_ s) fuel 0 : Option (Unit ⊕ Int)).bind (Sum.elim (fun (_ : Unit) => some 0) some)
def R16_Valid.s2 (o_ : T_api_Obs) (i129 : Nat) : Option (Nat ⊕ (Unit ⊕ Int)) :=
  cond (decide ((↑i129 : Int) < (↑(List.length o_.Traces) : Int))) (idxn o_.Traces i129 fun e149 => (R01_Check e149.In o_.Inputs).bind fun c150 => cond (decide (c150 ≠ 0)) (some (.inr (.inr c150))) (cond (decide ((↑(List.length e149.In) : Int) = 0)) (some (.inr (.inr 19))) ((R16_Proper e149 o_.Inputs).bind fun c153 => cond (decide (c153 ≠ 0)) (some (.inr (.inr c153))) ((cond (decide (0 < (↑i129 : Int))) (idx o_.Traces ((↑i129 : Int) - 1) fun e162 => (R01_Compare e162.In e149.In).bind fun c163 => some (decide (0 ≤ c163))) (some false) : Option (Bool)).bind (fun (y160 : Bool) => cond (y160) (some (.inr (.inr 10))) (some (.inl (i129 + 1)))))))) (some (.inr (.inl ())))
def R16_Valid (o_ : T_api_Obs) : Option (Int) :=
  (cond (decide (o_.Inputs < 1)) (some true) (some (decide (64 < o_.Inputs))) : Option (Bool)).bind (fun (y54 : Bool) => cond (y54) (some 2) (cond (decide (10000 < (↑(List.length o_.Traces) : Int))) (some 11) ((iter (fun (s : Nat) => R16_Valid.s2 o_ s) fuel 0 : Option (Unit ⊕ Int)).bind (Sum.elim (fun (_ : Unit) => (R16_apart o_).bind fun c165 => some c165) some))))
def R02_place.s2 (l_ : List (List Int)) (w_ : List Int) (low84 : Nat) (high85 : Nat) : Option ((Nat × Nat) ⊕ Nat) :=
  cond (decide ((↑low84 : Int) < (↑high85 : Int))) (chk (inR ((↑low84 : Int) + (↑high85 : Int))) (chk (inR (((↑low84 : Int) + (↑high85 : Int)) / 2) ∧ (0 : Int) ≤ ((↑low84 : Int) + (↑high85 : Int)) ∧ (1 : Int) ≤ 2) (idxn l_ ((low84 + high85) / 2) fun e97 => (R01_Compare e97 w_).bind fun c98 => cond (decide (c98 < 0)) (chk (inR ((((↑low84 : Int) + (↑high85 : Int)) / 2) + 1)) (some (.inl ((((low84 + high85) / 2) + 1), high85)))) (some (.inl (low84, ((low84 + high85) / 2))))))) (some (.inr low84))
def R02_place (l_ : List (List Int)) (w_ : List Int) : Option (Int) :=
  (iter (fun (s : Nat × Nat) => R02_place.s2 l_ w_ s.1 s.2) fuel (0, (List.length l_)) : Option (Nat)).bind (fun (low77 : Nat) => some (↑low77 : Int))
def R02_with.s2 (c51 : Int) (y93 : List (List Int)) (i94 : Int) : Option ((List (List Int) × Int) ⊕ List (List Int)) :=
  cond (decide (c51 < i94)) (chk (inR (i94 - 1)) (idx y93 (i94 - 1) fun e103 => idx y93 i94 fun e104 => chk (inR (i94 - 1)) (some (.inl ((List.set y93 i94.toNat e103), (i94 - 1)))))) (some (.inr y93))
def R02_with (l_ : List (List Int)) (w_ : List Int) : Option (List (List Int)) :=
  (R02_place l_ w_).bind fun c51 => (cond (decide (c51 < (↑(List.length l_) : Int))) (idx l_ c51 fun e59 => (R01_Same e59 w_).bind fun c60 => some c60) (some false) : Option (Bool)).bind (fun (y57 : Bool) => cond (y57) (some l_) (chk (capOk (List.length l_ + 1) 24) (chk (inR ((↑(List.length (l_ ++ [[]])) : Int) - 1)) ((iter (fun (s : List (List Int) × Int) => R02_with.s2 c51 s.1 s.2) fuel ((l_ ++ [[]]), ((↑(List.length (l_ ++ [[]])) : Int) - 1)) : Option (List (List Int))).bind (fun (y87 : List (List Int)) => chk (capOk (List.length ([] : List Unit) + List.length w_) 8) (idx y87 c51 fun e111 => some (List.set y87 c51.toNat ([] ++ w_))))))))
def R02_Sorted.s2 (l_ : List (List Int)) (y70 : List (List Int)) (i71 : Nat) : Option ((List (List Int) × Nat) ⊕ List (List Int)) :=
  cond (decide ((↑i71 : Int) < (↑(List.length l_) : Int))) (idxn l_ i71 fun e77 => (R02_with y70 e77).bind fun c78 => some (.inl (c78, (i71 + 1)))) (some (.inr y70))
def R02_Sorted (l_ : List (List Int)) : Option (List (List Int)) :=
  (iter (fun (s : List (List Int) × Nat) => R02_Sorted.s2 l_ s.1 s.2) fuel ([], 0) : Option (List (List Int))).bind (fun (y66 : List (List Int)) => some y66)
def R02_Union.s2 (lists_ : List (List (List Int))) (y70 : List (List Int)) (i71 : Nat) : Option ((List (List Int) × Nat) ⊕ List (List Int)) :=
  cond (decide ((↑i71 : Int) < (↑(List.length lists_) : Int))) (idxn lists_ i71 fun e77 => chk (capOk (List.length y70 + List.length e77) 24) (some (.inl ((y70 ++ e77), (i71 + 1))))) (some (.inr y70))
def R02_Union (lists_ : List (List (List Int))) : Option (List (List Int)) :=
  (iter (fun (s : List (List Int) × Nat) => R02_Union.s2 lists_ s.1 s.2) fuel ([], 0) : Option (List (List Int))).bind (fun (y66 : List (List Int)) => (R02_Sorted y66).bind fun c82 => some c82)
def R02_Maximal.s13 (c51 : List (List Int)) (i308 : Nat) (top412 : Bool) (k413 : Nat) : Option ((Bool × Nat) ⊕ Bool) :=
  cond (decide ((↑k413 : Int) < (↑(List.length c51) : Int))) (cond (top412) (idxn c51 k413 fun e425 => idxn c51 i308 fun e426 => cond (decide ((↑(List.length e425) : Int) = (↑(List.length e426) : Int))) (some (.inl (true, (k413 + 1)))) (idxn c51 k413 fun e428 => idxn c51 i308 fun e429 => (R01_HasPrefix e428 e429).bind fun c430 => some (.inl ((!c430), (k413 + 1))))) (some (.inl (false, (k413 + 1))))) (some (.inr top412))
def R02_Maximal.s14 (c51 : List (List Int)) (y307 : List (List Int)) (i308 : Nat) : Option ((List (List Int) × Nat) ⊕ List (List Int)) :=
  cond (decide ((↑i308 : Int) < (↑(List.length c51) : Int))) ((iter (fun (s : Bool × Nat) => R02_Maximal.s13 c51 i308 s.1 s.2) fuel (true, (i308 + 1)) : Option (Bool)).bind (fun (top404 : Bool) => cond (top404) (idxn c51 i308 fun e436 => chk (capOk (List.length y307 + 1) 24) (some (.inl ((y307 ++ [e436]), (i308 + 1))))) (some (.inl (y307, (i308 + 1)))))) (some (.inr y307))
def R02_Maximal (l_ : List (List Int)) : Option (List (List Int)) :=
  (R02_Sorted l_).bind fun c51 => (iter (fun (s : List (List Int) × Nat) => R02_Maximal.s14 c51 s.1 s.2) fuel ([], 0) : Option (List (List Int))).bind (fun (y246 : List (List Int)) => some y246)
def R23_Extensions.s13 (t_ : T_api_Table) (i214 : Nat) (y281 : List (List Int)) (a282 : Nat) : Option ((List (List Int) × Nat) ⊕ List (List Int)) :=
  cond (decide ((↑a282 : Int) < t_.Inputs)) (idxn t_.Prefixes i214 fun e290 => (R23_Joined e290 [(↑a282 : Int)]).bind fun c291 => chk (capOk (List.length y281 + 1) 24) (chk (inR ((↑a282 : Int) + 1)) (some (.inl ((y281 ++ [c291]), (a282 + 1)))))) (some (.inr y281))
def R23_Extensions.s14 (t_ : T_api_Table) (y213 : List (List Int)) (i214 : Nat) : Option ((List (List Int) × Nat) ⊕ List (List Int)) :=
  cond (decide ((↑i214 : Int) < (↑(List.length t_.Prefixes) : Int))) ((iter (fun (s : List (List Int) × Nat) => R23_Extensions.s13 t_ i214 s.1 s.2) fuel (y213, 0) : Option (List (List Int))).bind (fun (y276 : List (List Int)) => some (.inl (y276, (i214 + 1))))) (some (.inr y213))
def R23_Extensions (t_ : T_api_Table) : Option (List (List Int)) :=
  (iter (fun (s : List (List Int) × Nat) => R23_Extensions.s14 t_ s.1 s.2) fuel ([], 0) : Option (List (List Int))).bind (fun (y174 : List (List Int)) => (R02_Sorted y174).bind fun c298 => some c298)
def R23_Needed.s13 (t_ : T_api_Table) (o_ : T_api_Obs) (c54 : List (List Int)) (i287 : Nat) (y382 : List (List Int)) (k383 : Nat) : Option ((List (List Int) × Nat) ⊕ List (List Int)) :=
  cond (decide ((↑k383 : Int) < (↑(List.length t_.Suffixes) : Int))) (idxn c54 i287 fun e393 => idxn t_.Suffixes k383 fun e394 => (R23_Joined e393 e394).bind fun c395 => (R16_Answer o_ c395).bind fun c396 => cond ((!c396.2)) (chk (capOk (List.length y382 + 1) 24) (some (.inl ((y382 ++ [c395]), (k383 + 1))))) (some (.inl (y382, (k383 + 1))))) (some (.inr y382))
def R23_Needed.s14 (t_ : T_api_Table) (o_ : T_api_Obs) (c54 : List (List Int)) (y286 : List (List Int)) (i287 : Nat) : Option ((List (List Int) × Nat) ⊕ List (List Int)) :=
  cond (decide ((↑i287 : Int) < (↑(List.length c54) : Int))) ((iter (fun (s : List (List Int) × Nat) => R23_Needed.s13 t_ o_ c54 i287 s.1 s.2) fuel (y286, 0) : Option (List (List Int))).bind (fun (y374 : List (List Int)) => some (.inl (y374, (i287 + 1))))) (some (.inr y286))
def R23_Needed (t_ : T_api_Table) (o_ : T_api_Obs) : Option (List (List Int) × Int) :=
  (R23_Check t_ o_).bind fun c51 => cond (decide (c51 ≠ 0)) (some ([], c51)) ((R23_Extensions t_).bind fun c53 => (R02_Union [t_.Prefixes, c53]).bind fun c54 => (iter (fun (s : List (List Int) × Nat) => R23_Needed.s14 t_ o_ c54 s.1 s.2) fuel ([], 0) : Option (List (List Int))).bind (fun (y230 : List (List Int)) => (R02_Maximal y230).bind fun c406 => some (c406, 0)))
def R23_find.s2 (t_ : T_api_Table) (o_ : T_api_Obs) (c51 : List (List Int) × Bool) (i76 : Nat) : Option (Nat ⊕ (Unit ⊕ Int)) :=
  cond (decide ((↑i76 : Int) < (↑(List.length t_.Prefixes) : Int))) (idxn t_.Prefixes i76 fun e84 => (R23_row o_ t_.Suffixes e84).bind fun c85 => (R06_Lists c85.1 c51.1).bind fun c86 => cond (c86) (some (.inr (.inr (↑i76 : Int)))) (some (.inl (i76 + 1)))) (some (.inr (.inl ())))
def R23_find (t_ : T_api_Table) (o_ : T_api_Obs) (w_ : List Int) : Option (Int) :=
  (R23_row o_ t_.Suffixes w_).bind fun c51 => (iter (fun (s : Nat) => R23_find.s2 t_ o_ c51 s) fuel 0 : Option (Unit ⊕ Int)).bind (Sum.elim (fun (_ : Unit) => some (-1 : Int)) some)
def R23_complete (t_ : T_api_Table) (o_ : T_api_Obs) : Option (Int) :=
  (R23_Needed t_ o_).bind fun c51 => cond (decide (c51.2 ≠ 0)) (some c51.2) (cond (decide (0 < (↑(List.length c51.1) : Int))) (some 12) (some 0))
def R23_Unclosed.s2 (t_ : T_api_Table) (o_ : T_api_Obs) (c53 : List (List Int)) (i78 : Nat) : Option (Nat ⊕ (Unit ⊕ (List Int × Bool × Int))) :=
  cond (decide ((↑i78 : Int) < (↑(List.length c53) : Int))) (idxn c53 i78 fun e86 => (R23_find t_ o_ e86).bind fun c87 => cond (decide (c87 < 0)) (idxn c53 i78 fun e89 => some (.inr (.inr (e89, true, 0)))) (some (.inl (i78 + 1)))) (some (.inr (.inl ())))
def R23_Unclosed (t_ : T_api_Table) (o_ : T_api_Obs) : Option (List Int × Bool × Int) :=
  (R23_complete t_ o_).bind fun c51 => cond (decide (c51 ≠ 0)) (some ([], false, c51)) ((R23_Extensions t_).bind fun c53 => (iter (fun (s : Nat) => R23_Unclosed.s2 t_ o_ c53 s) fuel 0 : Option (Unit ⊕ (List Int × Bool × Int))).bind (Sum.elim (fun (_ : Unit) => some ([], false, 0)) some))
def slices_Equal_Sint_int.s2 (s1_ : List Int) (s2_ : List Int) (y73 : Nat) : Option (Nat ⊕ (Unit ⊕ Bool)) :=
  cond (decide ((↑y73 : Int) < (↑(List.length s1_) : Int))) (idxn s1_ y73 fun e80 => idxn s2_ y73 fun e81 => cond (decide (e80 ≠ e81)) (some (.inr (.inr false))) (some (.inl (y73 + 1)))) (some (.inr (.inl ())))
def slices_Equal_Sint_int (s1_ : List Int) (s2_ : List Int) : Option (Bool) :=
  cond (decide ((↑(List.length s1_) : Int) ≠ (↑(List.length s2_) : Int))) (some false) ((iter (fun (s : Nat) => slices_Equal_Sint_int.s2 s1_ s2_ s) fuel 0 : Option (Unit ⊕ Bool)).bind (Sum.elim (fun (_ : Unit) => some true) some))
def table_view_inconsistent.s1019 (y22366 : Nat) (e22421 : List (List Int)) (e22424 : List (List Int)) (y22451 : Nat) : Option (Nat ⊕ (Unit ⊕ (Nat ⊕ (Unit ⊕ (Unit ⊕ (Nat ⊕ (Unit ⊕ (Nat ⊕ (Unit ⊕ (Int × Int × Bool)))))))))) :=
  cond (decide ((↑y22451 : Int) < (↑(List.length e22421) : Int))) (idxn e22421 y22451 fun e22459 => idxn e22424 y22451 fun e22460 => (slices_Equal_Sint_int e22459 e22460).bind fun c22461 => cond ((!c22461)) (some (.inr (.inr (.inr (.inr (.inr (.inr (.inr (.inr (.inr ((↑y22366 : Int), (↑y22451 : Int), true))))))))))) (some (.inl (y22451 + 1)))) (some (.inr (.inl ())))
def table_view_inconsistent.s1020 (v_ : T_table_view) (y14999 : Nat) (k21227 : Nat) (e22163 : List Int) (y22366 : Nat) : Option (Nat ⊕ (Unit ⊕ (Unit ⊕ (Nat ⊕ (Unit ⊕ (Nat ⊕ (Unit ⊕ (Int × Int × Bool)))))))) :=
  cond (decide ((↑y22366 : Int) < (↑(List.length e22163) : Int))) (idxn v_.next y14999 fun e22419 => idxn e22419 y22366 fun e22420 => idx v_.rows e22420 fun e22421 => idxn v_.next k21227 fun e22422 => idxn e22422 y22366 fun e22423 => idx v_.rows e22423 fun e22424 => (iter (fun (s : Nat) => table_view_inconsistent.s1019 y22366 e22421 e22424 s) fuel 0 : Option (Unit ⊕ (Nat ⊕ (Unit ⊕ (Unit ⊕ (Nat ⊕ (Unit ⊕ (Nat ⊕ (Unit ⊕ (Int × Int × Bool)))))))))).bind (Sum.elim (fun (_ : Unit) => chk (inR ((↑y22366 : Int) + 1)) (some (.inl (y22366 + 1)))) some)) (some (.inr (.inl ())))
def table_view_inconsistent.s1021 (v_ : T_table_view) (y14999 : Nat) (e18738 : Int) (k21227 : Nat) : Option (Nat ⊕ (Unit ⊕ (Nat ⊕ (Unit ⊕ (Int × Int × Bool))))) :=
  cond (decide ((↑k21227 : Int) < (↑(List.length v_.prefixes) : Int))) ((idxn v_.prefixes k21227 fun e22161 => cond (decide (e22161 ≠ e18738)) (some (.inl ())) (idxn v_.next y14999 fun e22163 => (iter (fun (s : Nat) => table_view_inconsistent.s1020 v_ y14999 k21227 e22163 s) fuel 0 : Option (Unit ⊕ (Unit ⊕ (Nat ⊕ (Unit ⊕ (Nat ⊕ (Unit ⊕ (Int × Int × Bool)))))))).bind (Sum.elim (fun (_ : Unit) => some (.inl ())) some)) : Option (Unit ⊕ (Nat ⊕ (Unit ⊕ (Nat ⊕ (Unit ⊕ (Int × Int × Bool))))))).bind (Sum.elim (fun (_ : Unit) => some (.inl (k21227 + 1))) some)) (some (.inr (.inl ())))
def table_view_inconsistent.s1022 (v_ : T_table_view) (y14999 : Nat) : Option (Nat ⊕ (Unit ⊕ (Int × Int × Bool))) :=
  cond (decide ((↑y14999 : Int) < (↑(List.length v_.prefixes) : Int))) (idxn v_.prefixes y14999 fun e18738 => (iter (fun (s : Nat) => table_view_inconsistent.s1021 v_ y14999 e18738 s) fuel (y14999 + 1) : Option (Unit ⊕ (Nat ⊕ (Unit ⊕ (Int × Int × Bool))))).bind (Sum.elim (fun (_ : Unit) => some (.inl (y14999 + 1))) some)) (some (.inr (.inl ())))
def table_view_inconsistent (v_ : T_table_view) : Option (Int × Int × Bool) :=
  (iter (fun (s : Nat) => table_view_inconsistent.s1022 v_ s) fuel 0 : Option (Unit ⊕ (Int × Int × Bool))).bind (Sum.elim (fun (_ : Unit) => some (0, 0, false)) some)
def table_Inconsistent (t_ : T_api_Table) (o_ : T_api_Obs) : Option (List Int × Bool × Int) :=
  (table_look t_ o_).bind fun c51 => cond (decide (c51.2 ≠ 0)) (some ([], false, c51.2)) ((table_view_inconsistent c51.1).bind fun c53 => cond ((!c53.2.2)) (some ([], false, 0)) (idx t_.Suffixes c53.2.1 fun e55 => (word_Join [[c53.1], e55]).bind fun c56 => some (c56, true, 0)))
def R23_parting.s13 (t_ : T_api_Table) (a306 : Nat) (c373 : List (List Int) × Bool) (c375 : List (List Int) × Bool) (k411 : Nat) : Option (Nat ⊕ (Unit ⊕ (Nat ⊕ (Unit ⊕ (List Int × Bool))))) :=
  cond (decide ((↑k411 : Int) < (↑(List.length c373.1) : Int))) (idxn c373.1 k411 fun e421 => idxn c375.1 k411 fun e422 => (R06_Ints e421 e422).bind fun c423 => cond ((!c423)) (idxn t_.Suffixes k411 fun e425 => (R23_Joined [(↑a306 : Int)] e425).bind fun c426 => some (.inr (.inr (.inr (.inr (c426, true)))))) (some (.inl (k411 + 1)))) (some (.inr (.inl ())))
def R23_parting.s14 (t_ : T_api_Table) (o_ : T_api_Obs) (p_ : List Int) (q_ : List Int) (a306 : Nat) : Option (Nat ⊕ (Unit ⊕ (List Int × Bool))) :=
  cond (decide ((↑a306 : Int) < t_.Inputs)) ((R23_Joined p_ [(↑a306 : Int)]).bind fun c372 => (R23_row o_ t_.Suffixes c372).bind fun c373 => (R23_Joined q_ [(↑a306 : Int)]).bind fun c374 => (R23_row o_ t_.Suffixes c374).bind fun c375 => (iter (fun (s : Nat) => R23_parting.s13 t_ a306 c373 c375 s) fuel 0 : Option (Unit ⊕ (Nat ⊕ (Unit ⊕ (List Int × Bool))))).bind (Sum.elim (fun (_ : Unit) => chk (inR ((↑a306 : Int) + 1)) (some (.inl (a306 + 1)))) some)) (some (.inr (.inl ())))
def R23_parting (t_ : T_api_Table) (o_ : T_api_Obs) (p_ : List Int) (q_ : List Int) : Option (List Int × Bool) :=
  (iter (fun (s : Nat) => R23_parting.s14 t_ o_ p_ q_ s) fuel 0 : Option (Unit ⊕ (List Int × Bool))).bind (Sum.elim (fun (_ : Unit) => some ([], false)) some)
def R23_Inconsistent.s13 (t_ : T_api_Table) (o_ : T_api_Obs) (i608 : Nat) (k840 : Nat) : Option (Nat ⊕ (Unit ⊕ (Nat ⊕ (Unit ⊕ (List Int × Bool × Int))))) :=
  cond (decide ((↑k840 : Int) < (↑(List.length t_.Prefixes) : Int))) ((idxn t_.Prefixes i608 fun e876 => (R23_row o_ t_.Suffixes e876).bind fun c877 => idxn t_.Prefixes k840 fun e878 => (R23_row o_ t_.Suffixes e878).bind fun c879 => (R06_Lists c877.1 c879.1).bind fun c880 => cond ((!c880)) (some (.inl ())) (idxn t_.Prefixes i608 fun e882 => idxn t_.Prefixes k840 fun e883 => (R23_parting t_ o_ e882 e883).bind fun c884 => cond (c884.2) (some (.inr (.inr (.inr (.inr (.inr (c884.1, true, 0))))))) (some (.inl ()))) : Option (Unit ⊕ (Nat ⊕ (Unit ⊕ (Nat ⊕ (Unit ⊕ (List Int × Bool × Int))))))).bind (Sum.elim (fun (_ : Unit) => some (.inl (k840 + 1))) some)) (some (.inr (.inl ())))
def R23_Inconsistent.s14 (t_ : T_api_Table) (o_ : T_api_Obs) (i608 : Nat) : Option (Nat ⊕ (Unit ⊕ (List Int × Bool × Int))) :=
  cond (decide ((↑i608 : Int) < (↑(List.length t_.Prefixes) : Int))) ((iter (fun (s : Nat) => R23_Inconsistent.s13 t_ o_ i608 s) fuel (i608 + 1) : Option (Unit ⊕ (Nat ⊕ (Unit ⊕ (List Int × Bool × Int))))).bind (Sum.elim (fun (_ : Unit) => some (.inl (i608 + 1))) some)) (some (.inr (.inl ())))
def R23_Inconsistent (t_ : T_api_Table) (o_ : T_api_Obs) : Option (List Int × Bool × Int) :=
  (R23_complete t_ o_).bind fun c51 => cond (decide (c51 ≠ 0)) (some ([], false, c51)) ((iter (fun (s : Nat) => R23_Inconsistent.s14 t_ o_ s) fuel 0 : Option (Unit ⊕ (List Int × Bool × Int))).bind (Sum.elim (fun (_ : Unit) => some ([], false, 0)) some))
def wordset_parts.s13 (part_ : (List Int) → Int → Option (List Int)) (e263 : List Int) (y287 : List (List Int)) (y288 : Nat) : Option ((List (List Int) × Nat) ⊕ List (List Int)) :=
  cond (decide ((↑y288 : Int) < ((↑(List.length e263) : Int) + 1))) ((part_ e263 (↑y288 : Int)).bind fun c295 => chk (capOk (List.length y287 + 1) 24) (chk (inR ((↑y288 : Int) + 1)) (some (.inl ((y287 ++ [c295]), (y288 + 1)))))) (some (.inr y287))
def wordset_parts.s14 (l_ : List (List Int)) (part_ : (List Int) → Int → Option (List Int)) (y218 : List (List Int)) (y219 : Nat) : Option ((List (List Int) × Nat) ⊕ List (List Int)) :=
  cond (decide ((↑y219 : Int) < (↑(List.length l_) : Int))) (idxn l_ y219 fun e263 => chk (inR ((↑(List.length e263) : Int) + 1)) ((iter (fun (s : List (List Int) × Nat) => wordset_parts.s13 part_ e263 s.1 s.2) fuel (y218, 0) : Option (List (List Int))).bind (fun (y283 : List (List Int)) => some (.inl (y283, (y219 + 1)))))) (some (.inr y218))
def wordset_parts (l_ : List (List Int)) (part_ : (List Int) → Int → Option (List Int)) : Option (List (List Int)) :=
  (iter (fun (s : List (List Int) × Nat) => wordset_parts.s14 l_ part_ s.1 s.2) fuel ([], 0) : Option (List (List Int))).bind (fun (y178 : List (List Int)) => (wordset_Sorted y178).bind fun c306 => some c306)
def wordset_Prefixes_1 (w_ : List Int) (i_ : Int) : Option (List Int) :=
  chk ((0 : Int) ≤ i_ ∧ i_ ≤ (↑(List.length w_) : Int)) (some (List.take (Int.toNat i_) w_))
def wordset_Prefixes (l_ : List (List Int)) : Option (List (List Int)) :=
  (wordset_parts l_ (fun u0 u1 => wordset_Prefixes_1 u0 u1)).bind fun c51 => some c51
def slices_Concat_SSint_Sint.s2 (slices_ : List (List (List Int))) (size73 : Nat) (y74 : Nat) : Option ((Nat × Nat) ⊕ Nat) :=
  cond (decide ((↑y74 : Int) < (↑(List.length slices_) : Int))) (idxn slices_ y74 fun e81 => chk (inR ((↑size73 : Int) + (↑(List.length e81) : Int))) (cond (decide (((↑size73 : Int) + (↑(List.length e81) : Int)) < 0)) (none) (some (.inl ((size73 + (List.length e81)), (y74 + 1)))))) (some (.inr size73))
def slices_Concat_SSint_Sint.s4 (slices_ : List (List (List Int))) (y106 : List (List Int)) (y107 : Nat) : Option ((List (List Int) × Nat) ⊕ List (List Int)) :=
  cond (decide ((↑y107 : Int) < (↑(List.length slices_) : Int))) (idxn slices_ y107 fun e113 => chk (capOk (List.length y106 + List.length e113) 24) (some (.inl ((y106 ++ e113), (y107 + 1))))) (some (.inr y106))
def slices_Concat_SSint_Sint (slices_ : List (List (List Int))) : Option (List (List Int)) :=
  (iter (fun (s : Nat × Nat) => slices_Concat_SSint_Sint.s2 slices_ s.1 s.2) fuel (0, 0) : Option (Nat)).bind (fun (size68 : Nat) => (lib_Grow_words (↑size68 : Int)).bind fun c86 => (iter (fun (s : List (List Int) × Nat) => slices_Concat_SSint_Sint.s4 slices_ s.1 s.2) fuel (c86, 0) : Option (List (List Int))).bind (fun (y102 : List (List Int)) => some y102))
def wordset_Union (lists_ : List (List (List Int))) : Option (List (List Int)) :=
  (slices_Concat_SSint_Sint lists_).bind fun c51 => (wordset_Sorted c51).bind fun c52 => some c52
def table_checked (t_ : T_api_Table) (next_ : T_api_Table) : Option (T_api_Table × Int) :=
  (table_Valid next_).bind fun c51 => cond (decide (c51 ≠ 0)) (some (t_, c51)) (some (next_, 0))
def table_Prefix (t_ : T_api_Table) (w_ : List Int) : Option (T_api_Table × Int) :=
  (table_Valid t_).bind fun c51 => cond (decide (c51 ≠ 0)) (some (t_, c51)) ((word_Check w_ t_.Inputs).bind fun c53 => cond (decide (c53 ≠ 0)) (some (t_, c53)) ((wordset_Prefixes [w_]).bind fun c55 => (wordset_Union [t_.Prefixes, c55]).bind fun c56 => (wordset_Sorted t_.Suffixes).bind fun c57 => (table_checked t_ (⟨t_.Inputs, c56, c57⟩ : T_api_Table)).bind fun c58 => some (c58.1, c58.2)))
def R02_Prefixes.s13 (l_ : List (List Int)) (i255 : Nat) (y336 : List (List Int)) (k337 : Nat) : Option ((List (List Int) × Nat) ⊕ List (List Int)) :=
  idxn l_ i255 fun e345 => cond (decide ((↑k337 : Int) ≤ (↑(List.length e345) : Int))) (idxn l_ i255 fun e347 => chk ((0 : Int) ≤ (↑k337 : Int) ∧ (↑k337 : Int) ≤ (↑(List.length e347) : Int)) ((R02_with y336 (List.take k337 e347)).bind fun c349 => chk (inR ((↑k337 : Int) + 1)) (some (.inl (c349, (k337 + 1)))))) (some (.inr y336))
def R02_Prefixes.s14 (l_ : List (List Int)) (y254 : List (List Int)) (i255 : Nat) : Option ((List (List Int) × Nat) ⊕ List (List Int)) :=
  cond (decide ((↑i255 : Int) < (↑(List.length l_) : Int))) ((iter (fun (s : List (List Int) × Nat) => R02_Prefixes.s13 l_ i255 s.1 s.2) fuel (y254, 0) : Option (List (List Int))).bind (fun (y330 : List (List Int)) => some (.inl (y330, (i255 + 1))))) (some (.inr y254))
def R02_Prefixes (l_ : List (List Int)) : Option (List (List Int)) :=
  (iter (fun (s : List (List Int) × Nat) => R02_Prefixes.s14 l_ s.1 s.2) fuel ([], 0) : Option (List (List Int))).bind (fun (y204 : List (List Int)) => some y204)
def R23_copied.s2 (l_ : List (List Int)) (y72 : List (List Int)) (i73 : Nat) : Option ((List (List Int) × Nat) ⊕ List (List Int)) :=
  cond (decide ((↑i73 : Int) < (↑(List.length l_) : Int))) (idxn l_ i73 fun e80 => (R23_Joined e80 []).bind fun c81 => chk (capOk (List.length y72 + 1) 24) (some (.inl ((y72 ++ [c81]), (i73 + 1))))) (some (.inr y72))
def R23_copied (l_ : List (List Int)) : Option (List (List Int)) :=
  (iter (fun (s : List (List Int) × Nat) => R23_copied.s2 l_ s.1 s.2) fuel ([], 0) : Option (List (List Int))).bind (fun (y68 : List (List Int)) => some y68)
def R23_With (t_ : T_api_Table) (prefixes_ : List (List Int)) (suffixes_ : List (List Int)) : Option (T_api_Table) :=
  (R23_copied t_.Prefixes).bind fun c51 => (R23_copied prefixes_).bind fun c52 => (R02_Union [c51, c52]).bind fun c53 => (R23_copied t_.Suffixes).bind fun c54 => (R23_copied suffixes_).bind fun c55 => (R02_Union [c54, c55]).bind fun c56 => some (⟨t_.Inputs, c53, c56⟩ : T_api_Table)
def table_Suffix (t_ : T_api_Table) (w_ : List Int) : Option (T_api_Table × Int) :=
  (table_Valid t_).bind fun c51 => cond (decide (c51 ≠ 0)) (some (t_, c51)) (cond (decide ((↑(List.length w_) : Int) = 0)) (some (t_, 19)) ((word_Check w_ t_.Inputs).bind fun c54 => cond (decide (c54 ≠ 0)) (some (t_, c54)) ((wordset_Sorted t_.Prefixes).bind fun c56 => (wordset_Union [t_.Suffixes, [w_]]).bind fun c57 => (table_checked t_ (⟨t_.Inputs, c56, c57⟩ : T_api_Table)).bind fun c58 => some (c58.1, c58.2))))
def table_Hypothesis.s30 (t_ : T_api_Table) (c51 : T_table_view × Int) (e867 : Int) (y901 : List Int) (y902 : Nat) : Option ((List Int × Nat) ⊕ List Int) :=
  cond (decide ((↑y902 : Int) < t_.Inputs)) (idx c51.1.rows e867 fun e911 => idxn e911 y902 fun e912 => idxn e912 0 fun e913 => chk (capOk (List.length y901 + 1) 8) (chk (inR ((↑y902 : Int) + 1)) (some (.inl ((y901 ++ [e913]), (y902 + 1)))))) (some (.inr y901))
def table_Hypothesis.k31 (y639 : Nat) (y864 : List (List Int)) (y865 : List (List Int)) (y866 : List (List Int)) : Option ((List (List Int) × List (List Int) × List (List Int) × Nat) ⊕ (List (List Int) × List (List Int) × List (List Int))) :=
  some (.inl (y864, y865, y866, (y639 + 1)))
def table_Hypothesis.s32 (t_ : T_api_Table) (c51 : T_table_view × Int) (y636 : List (List Int)) (y637 : List (List Int)) (y638 : List (List Int)) (y639 : Nat) : Option ((List (List Int) × List (List Int) × List (List Int) × Nat) ⊕ (List (List Int) × List (List Int) × List (List Int))) :=
  cond (decide ((↑y639 : Int) < (↑(List.length c51.1.prefixes) : Int))) ((idxn c51.1.prefixes y639 fun e867 => cond (decide (e867 < (↑(List.length y638) : Int))) (some (y636, y637, y638)) ((iter (fun (s : List Int × Nat) => table_Hypothesis.s30 t_ c51 e867 s.1 s.2) fuel ([], 0) : Option (List Int)).bind (fun (y896 : List Int) => idxn c51.1.next y639 fun e930 => (lib_Clone_int e930).bind fun c931 => chk (capOk (List.length y636 + 1) 24) (chk (capOk (List.length y637 + 1) 24) (idxn t_.Prefixes y639 fun e934 => (lib_Clone_int e934).bind fun c935 => chk (capOk (List.length y638 + 1) 24) (some ((y636 ++ [c931]), (y637 ++ [y896]), (y638 ++ [c935]))))))) : Option (List (List Int) × List (List Int) × List (List Int))).bind (fun (s : List (List Int) × List (List Int) × List (List Int)) => table_Hypothesis.k31 y639 s.1 s.2.1 s.2.2)) (some (.inr (y636, y637, y638)))
def table_Hypothesis.k33 (t_ : T_api_Table) (y506 : List (List Int)) (y507 : List (List Int)) (y508 : List (List Int)) : Option (T_api_Hyp × Int) :=
  some ((⟨(⟨t_.Inputs, 0, y506, y507⟩ : T_api_Mealy), y508⟩ : T_api_Hyp), 0)
def table_Hypothesis (t_ : T_api_Table) (o_ : T_api_Obs) : Option (T_api_Hyp × Int) :=
  (table_look t_ o_).bind fun c51 => cond (decide (c51.2 ≠ 0)) (some ((⟨(⟨0, 0, [], []⟩ : T_api_Mealy), []⟩ : T_api_Hyp), c51.2)) ((table_view_unclosed c51.1).bind fun c53 => (table_view_inconsistent c51.1).bind fun c54 => (cond (c53.2.2) (some true) (some c54.2.2) : Option (Bool)).bind (fun (y58 : Bool) => cond (y58) (some ((⟨(⟨0, 0, [], []⟩ : T_api_Mealy), []⟩ : T_api_Hyp), 10)) (cond (decide (128 < (↑(List.length c51.1.rows) : Int))) (some ((⟨(⟨0, 0, [], []⟩ : T_api_Mealy), []⟩ : T_api_Hyp), 11)) ((iter (fun (s : List (List Int) × List (List Int) × List (List Int) × Nat) => table_Hypothesis.s32 t_ c51 s.1 s.2.1 s.2.2.1 s.2.2.2) fuel ([], [], [], 0) : Option (List (List Int) × List (List Int) × List (List Int))).bind (fun (s : List (List Int) × List (List Int) × List (List Int)) => table_Hypothesis.k33 t_ s.1 s.2.1 s.2.2)))))
def R23_place.s2 (l_ : List Int) (n_ : Int) (i67 : Nat) : Option (Nat ⊕ (Unit ⊕ Int)) :=
  cond (decide ((↑i67 : Int) < (↑(List.length l_) : Int))) (idxn l_ i67 fun e73 => cond (decide (e73 = n_)) (some (.inr (.inr (↑i67 : Int)))) (some (.inl (i67 + 1)))) (some (.inr (.inl ())))
def R23_place (l_ : List Int) (n_ : Int) : Option (Int) :=
  (iter (fun (s : Nat) => R23_place.s2 l_ n_ s) fuel 0 : Option (Unit ⊕ Int)).bind (Sum.elim (fun (_ : Unit) => some 0) some)
def R23_built.s18 (t_ : T_api_Table) (o_ : T_api_Obs) (l_ : List Int) (e482 : List Int) (y527 : List Int) (y528 : List Int) (a529 : Nat) : Option ((List Int × List Int × Nat) ⊕ (List Int × List Int)) :=
  cond (decide ((↑a529 : Int) < t_.Inputs)) ((R23_After o_ e482 [(↑a529 : Int)]).bind fun c541 => (R23_Joined e482 [(↑a529 : Int)]).bind fun c542 => (R23_find t_ o_ c542).bind fun c543 => (R23_place l_ c543).bind fun c544 => chk (capOk (List.length y527 + 1) 8) (idxn c541.1 0 fun e546 => chk (capOk (List.length y528 + 1) 8) (chk (inR ((↑a529 : Int) + 1)) (some (.inl ((y527 ++ [c544]), (y528 ++ [e546]), (a529 + 1))))))) (some (.inr (y527, y528)))
def R23_built.k19 (y388 : List (List Int)) (y389 : List (List Int)) (y390 : List (List Int)) (i391 : Nat) (e482 : List Int) (y519 : List Int) (y520 : List Int) : Option ((List (List Int) × List (List Int) × List (List Int) × Nat) ⊕ (List (List Int) × List (List Int) × List (List Int))) :=
  chk (capOk (List.length y388 + 1) 24) (chk (capOk (List.length y389 + 1) 24) ((R23_Joined e482 []).bind fun c565 => chk (capOk (List.length y390 + 1) 24) (some (.inl ((y388 ++ [y519]), (y389 ++ [y520]), (y390 ++ [c565]), (i391 + 1))))))
def R23_built.s20 (t_ : T_api_Table) (o_ : T_api_Obs) (l_ : List Int) (y388 : List (List Int)) (y389 : List (List Int)) (y390 : List (List Int)) (i391 : Nat) : Option ((List (List Int) × List (List Int) × List (List Int) × Nat) ⊕ (List (List Int) × List (List Int) × List (List Int))) :=
  cond (decide ((↑i391 : Int) < (↑(List.length l_) : Int))) (idxn l_ i391 fun e481 => idx t_.Prefixes e481 fun e482 => (iter (fun (s : List Int × List Int × Nat) => R23_built.s18 t_ o_ l_ e482 s.1 s.2.1 s.2.2) fuel ([], [], 0) : Option (List Int × List Int)).bind (fun (s : List Int × List Int) => R23_built.k19 y388 y389 y390 i391 e482 s.1 s.2)) (some (.inr (y388, y389, y390)))
def R23_built.k21 (t_ : T_api_Table) (y310 : List (List Int)) (y311 : List (List Int)) (y312 : List (List Int)) : Option (T_api_Hyp) :=
  some (⟨(⟨t_.Inputs, 0, y310, y311⟩ : T_api_Mealy), y312⟩ : T_api_Hyp)
def R23_built (t_ : T_api_Table) (o_ : T_api_Obs) (l_ : List Int) : Option (T_api_Hyp) :=
  (iter (fun (s : List (List Int) × List (List Int) × List (List Int) × Nat) => R23_built.s20 t_ o_ l_ s.1 s.2.1 s.2.2.1 s.2.2.2) fuel ([], [], [], 0) : Option (List (List Int) × List (List Int) × List (List Int))).bind (fun (s : List (List Int) × List (List Int) × List (List Int)) => R23_built.k21 t_ s.1 s.2.1 s.2.2)
def R23_firsts.s2 (t_ : T_api_Table) (o_ : T_api_Obs) (y75 : List Int) (i76 : Nat) : Option ((List Int × Nat) ⊕ List Int) :=
  cond (decide ((↑i76 : Int) < (↑(List.length t_.Prefixes) : Int))) (idxn t_.Prefixes i76 fun e84 => (R23_find t_ o_ e84).bind fun c85 => cond (decide (c85 = (↑i76 : Int))) (chk (capOk (List.length y75 + 1) 8) (some (.inl ((y75 ++ [(↑i76 : Int)]), (i76 + 1))))) (some (.inl (y75, (i76 + 1))))) (some (.inr y75))
def R23_firsts (t_ : T_api_Table) (o_ : T_api_Obs) : Option (List Int) :=
  (iter (fun (s : List Int × Nat) => R23_firsts.s2 t_ o_ s.1 s.2) fuel ([], 0) : Option (List Int)).bind (fun (y70 : List Int) => some y70)
def R06_Outs.s2 (m_ : T_api_Mealy) (w_ : List Int) (s90 : Int) (y91 : List Int) (i92 : Nat) : Option ((Int × List Int × Nat) ⊕ (Int × List Int)) :=
  cond (decide ((↑i92 : Int) < (↑(List.length w_) : Int))) (idx m_.Out s90 fun e103 => idxn w_ i92 fun e104 => idx e103 e104 fun e105 => chk (capOk (List.length y91 + 1) 8) (idx m_.Next s90 fun e107 => idxn w_ i92 fun e108 => idx e107 e108 fun e109 => some (.inl (e109, (y91 ++ [e105]), (i92 + 1))))) (some (.inr (s90, y91)))
def R06_Outs.k3 (s81 : Int) (y82 : List Int) : Option (List Int × Int) :=
  some (y82, s81)
def R06_Outs (m_ : T_api_Mealy) (s_ : Int) (w_ : List Int) : Option (List Int × Int) :=
  (iter (fun (s : Int × List Int × Nat) => R06_Outs.s2 m_ w_ s.1 s.2.1 s.2.2) fuel (s_, [], 0) : Option (Int × List Int)).bind (fun (s : Int × List Int) => R06_Outs.k3 s.1 s.2)
def R06_row.s2 (m_ : T_api_Mealy) (s_ : Int) (a174 : Nat) : Option (Nat ⊕ (Unit ⊕ Int)) :=
  cond (decide ((↑a174 : Int) < m_.Inputs)) ((idx m_.Next s_ fun e219 => idxn e219 a174 fun e220 => cond (decide (e220 < 0)) (some true) (idx m_.Next s_ fun e222 => idxn e222 a174 fun e223 => cond (decide ((↑(List.length m_.Next) : Int) ≤ e223)) (some true) (idx m_.Out s_ fun e225 => idxn e225 a174 fun e226 => cond (decide (e226 < 0)) (some true) (idx m_.Out s_ fun e228 => idxn e228 a174 fun e229 => some (decide (1048576 < e229))))) : Option (Bool)).bind (fun (y218 : Bool) => cond (y218) (some (.inr (.inr 2))) (chk (inR ((↑a174 : Int) + 1)) (some (.inl (a174 + 1)))))) (some (.inr (.inl ())))
def R06_row (m_ : T_api_Mealy) (s_ : Int) : Option (Int) :=
  (idx m_.Next s_ fun e57 => cond (decide ((↑(List.length e57) : Int) ≠ m_.Inputs)) (some true) (idx m_.Out s_ fun e59 => some (decide ((↑(List.length e59) : Int) ≠ m_.Inputs))) : Option (Bool)).bind (fun (y56 : Bool) => cond (y56) (some 1) ((iter (fun (s : Nat) => R06_row.s2 m_ s_ s) fuel 0 : Option (Unit ⊕ Int)).bind (Sum.elim (fun (_ : Unit) => some 0) some)))
def R06_Valid.s2 (m_ : T_api_Mealy) (s81 : Nat) : Option (Nat ⊕ (Unit ⊕ Int)) :=
  cond (decide ((↑s81 : Int) < (↑(List.length m_.Next) : Int))) ((R06_row m_ (↑s81 : Int)).bind fun c87 => cond (decide (c87 ≠ 0)) (some (.inr (.inr c87))) (some (.inl (s81 + 1)))) (some (.inr (.inl ())))
def R06_Valid (m_ : T_api_Mealy) : Option (Int) :=
  (cond (decide (m_.Inputs < 1)) (some true) (some (decide (64 < m_.Inputs))) : Option (Bool)).bind (fun (y54 : Bool) => cond (y54) (some 2) (cond (decide ((↑(List.length m_.Next) : Int) = 0)) (some 19) (cond (decide (128 < (↑(List.length m_.Next) : Int))) (some 11) ((cond (decide (m_.Start < 0)) (some true) (some (decide ((↑(List.length m_.Next) : Int) ≤ m_.Start))) : Option (Bool)).bind (fun (y62 : Bool) => cond (y62) (some 2) (cond (decide ((↑(List.length m_.Out) : Int) ≠ (↑(List.length m_.Next) : Int))) (some 1) ((iter (fun (s : Nat) => R06_Valid.s2 m_ s) fuel 0 : Option (Unit ⊕ Int)).bind (Sum.elim (fun (_ : Unit) => some 0) some))))))))
def R22_Valid.s2 (h_ : T_api_Hyp) (s81 : Nat) : Option (Nat ⊕ (Unit ⊕ Int)) :=
  cond (decide ((↑s81 : Int) < (↑(List.length h_.Access) : Int))) (idxn h_.Access s81 fun e90 => (R01_Check e90 h_.M.Inputs).bind fun c91 => cond (decide (c91 ≠ 0)) (some (.inr (.inr c91))) ((R06_Outs h_.M h_.M.Start e90).bind fun c93 => cond (decide (c93.2 ≠ (↑s81 : Int))) (some (.inr (.inr 15))) (some (.inl (s81 + 1))))) (some (.inr (.inl ())))
def R22_Valid (h_ : T_api_Hyp) : Option (Int) :=
  (R06_Valid h_.M).bind fun c51 => cond (decide (c51 ≠ 0)) (some c51) (cond (decide ((↑(List.length h_.Access) : Int) ≠ (↑(List.length h_.M.Next) : Int))) (some 1) ((iter (fun (s : Nat) => R22_Valid.s2 h_ s) fuel 0 : Option (Unit ⊕ Int)).bind (Sum.elim (fun (_ : Unit) => idx h_.Access h_.M.Start fun e95 => cond (decide (0 < (↑(List.length e95) : Int))) (some 10) (some 0)) some)))
def L23_TableReaches.s13 (t_ : T_api_Table) (o_ : T_api_Obs) (c62 : T_api_Hyp × Int) (c754 : List Int × Int) (c756 : List (List Int) × Bool) (k840 : Nat) : Option (Nat ⊕ (Unit ⊕ (Nat ⊕ (Unit ⊕ Bool)))) :=
  cond (decide ((↑k840 : Int) < (↑(List.length t_.Prefixes) : Int))) (idxn t_.Prefixes k840 fun e862 => (R06_Outs c62.1.M c62.1.M.Start e862).bind fun c863 => idxn t_.Prefixes k840 fun e864 => (table_Row t_ o_ e864).bind fun c865 => (cond ((!c756.2)) (some true) (cond ((!c865.2)) (some true) ((R06_Lists c756.1 c865.1).bind fun c874 => some (!(c874 == (decide (c754.2 = c863.2)))))) : Option (Bool)).bind (fun (y871 : Bool) => cond (y871) (some (.inr (.inr (.inr (.inr false))))) (some (.inl (k840 + 1))))) (some (.inr (.inl ())))
def L23_TableReaches.s14 (t_ : T_api_Table) (o_ : T_api_Obs) (c62 : T_api_Hyp × Int) (i615 : Nat) : Option (Nat ⊕ (Unit ⊕ Bool)) :=
  cond (decide ((↑i615 : Int) < (↑(List.length t_.Prefixes) : Int))) (idxn t_.Prefixes i615 fun e753 => (R06_Outs c62.1.M c62.1.M.Start e753).bind fun c754 => idxn t_.Prefixes i615 fun e755 => (table_Row t_ o_ e755).bind fun c756 => (iter (fun (s : Nat) => L23_TableReaches.s13 t_ o_ c62 c754 c756 s) fuel 0 : Option (Unit ⊕ (Nat ⊕ (Unit ⊕ Bool)))).bind (Sum.elim (fun (_ : Unit) => some (.inl (i615 + 1))) some)) (some (.inr (.inl ())))
def L23_TableReaches (t_ : T_api_Table) (o_ : T_api_Obs) : Option (Bool) :=
  ((L23_Great t_ o_).bind fun c57 => cond (c57) (some true) ((R16_Valid o_).bind fun c59 => some (decide (c59 ≠ 0))) : Option (Bool)).bind (fun (y56 : Bool) => cond (y56) ((L23_awake).bind fun c61 => some c61) ((table_Hypothesis t_ o_).bind fun c62 => cond (decide (c62.2 ≠ 0)) ((cond (decide ((↑(List.length c62.1.Access) : Int) = 0)) ((L23_awake).bind fun c70 => some c70) (some false) : Option (Bool)).bind (fun (y68 : Bool) => some y68)) ((R22_Valid c62.1).bind fun c71 => cond (decide (c71 ≠ 0)) (some false) ((iter (fun (s : Nat) => L23_TableReaches.s14 t_ o_ c62 s) fuel 0 : Option (Unit ⊕ Bool)).bind (Sum.elim (fun (_ : Unit) => (L23_awake).bind fun c890 => some c890) some)))))
def R02_Suffixes.s13 (l_ : List (List Int)) (i255 : Nat) (y336 : List (List Int)) (k337 : Nat) : Option ((List (List Int) × Nat) ⊕ List (List Int)) :=
  idxn l_ i255 fun e345 => cond (decide ((↑k337 : Int) ≤ (↑(List.length e345) : Int))) (idxn l_ i255 fun e347 => chk ((0 : Int) ≤ (↑k337 : Int) ∧ (↑k337 : Int) ≤ (↑(List.length e347) : Int)) ((R02_with y336 (List.drop k337 e347)).bind fun c349 => chk (inR ((↑k337 : Int) + 1)) (some (.inl (c349, (k337 + 1)))))) (some (.inr y336))
def R02_Suffixes.s14 (l_ : List (List Int)) (y254 : List (List Int)) (i255 : Nat) : Option ((List (List Int) × Nat) ⊕ List (List Int)) :=
  cond (decide ((↑i255 : Int) < (↑(List.length l_) : Int))) ((iter (fun (s : List (List Int) × Nat) => R02_Suffixes.s13 l_ i255 s.1 s.2) fuel (y254, 0) : Option (List (List Int))).bind (fun (y330 : List (List Int)) => some (.inl (y330, (i255 + 1))))) (some (.inr y254))
def R02_Suffixes (l_ : List (List Int)) : Option (List (List Int)) :=
  (iter (fun (s : List (List Int) × Nat) => R02_Suffixes.s14 l_ s.1 s.2) fuel ([], 0) : Option (List (List Int))).bind (fun (y204 : List (List Int)) => some y204)
def L23_answered.s13 (m_ : T_api_Mealy) (o_ : T_api_Obs) (words_ : List (List Int)) (ends_ : List (List Int)) (i488 : Nat) (k668 : Nat) : Option (Nat ⊕ (Unit ⊕ (Nat ⊕ (Unit ⊕ Bool)))) :=
  cond (decide ((↑k668 : Int) < (↑(List.length ends_) : Int))) (idxn words_ i488 fun e687 => idxn ends_ k668 fun e688 => (R01_Join [e687, e688]).bind fun c689 => (R06_Outs m_ m_.Start c689).bind fun c690 => (R16_Answer o_ c689).bind fun c691 => (cond ((!c691.2)) (some true) ((R06_Ints c690.1 c691.1).bind fun c698 => some (!c698)) : Option (Bool)).bind (fun (y696 : Bool) => cond (y696) (some (.inr (.inr (.inr (.inr false))))) (some (.inl (k668 + 1))))) (some (.inr (.inl ())))
def L23_answered.s14 (m_ : T_api_Mealy) (o_ : T_api_Obs) (words_ : List (List Int)) (ends_ : List (List Int)) (i488 : Nat) : Option (Nat ⊕ (Unit ⊕ Bool)) :=
  cond (decide ((↑i488 : Int) < (↑(List.length words_) : Int))) ((iter (fun (s : Nat) => L23_answered.s13 m_ o_ words_ ends_ i488 s) fuel 0 : Option (Unit ⊕ (Nat ⊕ (Unit ⊕ Bool)))).bind (Sum.elim (fun (_ : Unit) => some (.inl (i488 + 1))) some)) (some (.inr (.inl ())))
def L23_answered (m_ : T_api_Mealy) (o_ : T_api_Obs) (words_ : List (List Int)) (ends_ : List (List Int)) : Option (Bool) :=
  (iter (fun (s : Nat) => L23_answered.s14 m_ o_ words_ ends_ s) fuel 0 : Option (Unit ⊕ Bool)).bind (Sum.elim (fun (_ : Unit) => some true) some)
def R08_finer.s89 (m_ : T_api_Mealy) (class_ : List Int) (s3445 : Nat) (t4904 : Int) (same5139 : Bool) (a5140 : Nat) : Option ((Bool × Nat) ⊕ Bool) :=
  (cond (decide ((↑a5140 : Int) < m_.Inputs)) (some same5139) (some false) : Option (Bool)).bind (fun (y5166 : Bool) => cond (y5166) (idxn m_.Out s3445 fun e5171 => idxn e5171 a5140 fun e5172 => idx m_.Out t4904 fun e5173 => idxn e5173 a5140 fun e5174 => cond (decide (e5172 = e5174)) (idxn m_.Next s3445 fun e5176 => idxn e5176 a5140 fun e5177 => idx class_ e5177 fun e5178 => idx m_.Next t4904 fun e5179 => idxn e5179 a5140 fun e5180 => idx class_ e5180 fun e5181 => chk (inR ((↑a5140 : Int) + 1)) (some (.inl (decide (e5178 = e5181), (a5140 + 1))))) (chk (inR ((↑a5140 : Int) + 1)) (some (.inl (false, (a5140 + 1)))))) (some (.inr same5139)))
def R08_finer.s90 (m_ : T_api_Mealy) (class_ : List Int) (y3443 : List Int) (s3445 : Nat) (found4903 : Int) (t4904 : Int) : Option ((Int × Int) ⊕ Int) :=
  cond (decide (0 ≤ t4904)) (idxn class_ s3445 fun e5050 => idx class_ t4904 fun e5051 => (iter (fun (s : Bool × Nat) => R08_finer.s89 m_ class_ s3445 t4904 s.1 s.2) fuel (decide (e5050 = e5051), 0) : Option (Bool)).bind (fun (same5119 : Bool) => cond (same5119) (idx y3443 t4904 fun e5189 => chk (inR (t4904 - 1)) (some (.inl (e5189, (t4904 - 1))))) (chk (inR (t4904 - 1)) (some (.inl (found4903, (t4904 - 1))))))) (some (.inr found4903))
def R08_finer.k91 (y3443 : List Int) (s3445 : Nat) (count5200 : Nat) (found5201 : Int) : Option ((List Int × Nat × Nat) ⊕ List Int) :=
  chk (capOk (List.length y3443 + 1) 8) (some (.inl ((y3443 ++ [found5201]), count5200, (s3445 + 1))))
def R08_finer.s92 (m_ : T_api_Mealy) (class_ : List Int) (y3443 : List Int) (count3444 : Nat) (s3445 : Nat) : Option ((List Int × Nat × Nat) ⊕ List Int) :=
  cond (decide ((↑s3445 : Int) < (↑(List.length class_) : Int))) ((iter (fun (s : Int × Int) => R08_finer.s90 m_ class_ y3443 s3445 s.1 s.2) fuel ((-1 : Int), ((↑s3445 : Int) - 1)) : Option (Int)).bind (fun (found4761 : Int) => (cond (decide (found4761 < 0)) (chk (inR ((↑count3444 : Int) + 1)) (some ((count3444 + 1), (↑count3444 : Int)))) (some (count3444, found4761)) : Option (Nat × Int)).bind (fun (s : Nat × Int) => R08_finer.k91 y3443 s3445 s.1 s.2))) (some (.inr y3443))
def R08_finer (m_ : T_api_Mealy) (class_ : List Int) : Option (List Int) :=
  (iter (fun (s : List Int × Nat × Nat) => R08_finer.s92 m_ class_ s.1 s.2.1 s.2.2) fuel ([], 0, 0) : Option (List Int)).bind (fun (y2630 : List Int) => some y2630)
def R08_Partition.s2 (m_ : T_api_Mealy) (k_ : Int) (y94 : List Int) (i95 : Nat) : Option ((List Int × Nat) ⊕ List Int) :=
  (cond (decide ((↑i95 : Int) < k_)) (some (decide ((↑i95 : Int) < (↑(List.length m_.Next) : Int)))) (some false) : Option (Bool)).bind (fun (y109 : Bool) => cond (y109) ((R08_finer m_ y94).bind fun c113 => chk (inR ((↑i95 : Int) + 1)) (some (.inl (c113, (i95 + 1))))) (some (.inr y94)))
def R08_Partition (m_ : T_api_Mealy) (k_ : Int) : Option (List Int × Int) :=
  (R06_Valid m_).bind fun c51 => cond (decide (c51 ≠ 0)) (some ([], c51)) (chk ((0 : Int) ≤ (↑(List.length m_.Next) : Int) ∧ (↑(List.length m_.Next) : Int) ≤ (↑(List.length m_.Next) : Int) ∧ capOk (Int.toNat (↑(List.length m_.Next) : Int)) 8) ((iter (fun (s : List Int × Nat) => R08_Partition.s2 m_ k_ s.1 s.2) fuel ((List.replicate (List.length m_.Next) 0), 0) : Option (List Int)).bind (fun (y85 : List Int) => some (y85, 0))))
def R08_Classes (m_ : T_api_Mealy) : Option (List Int × Int) :=
  (R08_Partition m_ (↑(List.length m_.Next) : Int)).bind fun c51 => some (c51.1, c51.2)
def R08_Min.s2 (y70 : List Int) (i71 : Nat) : Option ((List Int × Nat) ⊕ List Int) :=
  cond (decide ((↑i71 : Int) < (↑(List.length y70) : Int))) (idxn y70 i71 fun e76 => some (.inl ((List.set y70 i71 (-1 : Int)), (i71 + 1)))) (some (.inr y70))
def R08_Min.k55 (m_ : T_api_Mealy) (c51 : List Int × Int) (i1027 : Nat) (y1421 : List Int) (y1422 : List Int) (a1423 : Nat) (e1463 : Int) (y1472 : List Int) (y1473 : List Int) : Option ((List Int × List Int × List Int × List Int × Nat) ⊕ (List Int × List Int × List Int × List Int)) :=
  idx c51.1 e1463 fun e1487 => idx y1473 e1487 fun e1488 => chk (capOk (List.length y1421 + 1) 8) (idxn y1472 i1027 fun e1490 => idx m_.Out e1490 fun e1491 => idxn e1491 a1423 fun e1492 => chk (capOk (List.length y1422 + 1) 8) (chk (inR ((↑a1423 : Int) + 1)) (some (.inl (y1472, y1473, (y1421 ++ [e1488]), (y1422 ++ [e1492]), (a1423 + 1))))))
def R08_Min.s56 (m_ : T_api_Mealy) (c51 : List Int × Int) (i1027 : Nat) (y1419 : List Int) (y1420 : List Int) (y1421 : List Int) (y1422 : List Int) (a1423 : Nat) : Option ((List Int × List Int × List Int × List Int × Nat) ⊕ (List Int × List Int × List Int × List Int)) :=
  cond (decide ((↑a1423 : Int) < m_.Inputs)) (idxn y1419 i1027 fun e1461 => idx m_.Next e1461 fun e1462 => idxn e1462 a1423 fun e1463 => (idx c51.1 e1463 fun e1474 => idx y1420 e1474 fun e1475 => cond (decide (e1475 < 0)) (idx c51.1 e1463 fun e1477 => idx y1420 e1477 fun e1478 => chk (capOk (List.length y1419 + 1) 8) (some ((y1419 ++ [e1463]), (List.set y1420 e1477.toNat (↑(List.length y1419) : Int))))) (some (y1419, y1420)) : Option (List Int × List Int)).bind (fun (s : List Int × List Int) => R08_Min.k55 m_ c51 i1027 y1421 y1422 a1423 e1463 s.1 s.2)) (some (.inr (y1419, y1420, y1421, y1422)))
def R08_Min.k57 (y1025 : List (List Int)) (y1026 : List (List Int)) (i1027 : Nat) (y1385 : List Int) (y1386 : List Int) (y1387 : List Int) (y1388 : List Int) : Option ((List Int × List Int × List (List Int) × List (List Int) × Nat) ⊕ (List (List Int) × List (List Int))) :=
  chk (capOk (List.length y1025 + 1) 24) (chk (capOk (List.length y1026 + 1) 24) (some (.inl (y1385, y1386, (y1025 ++ [y1387]), (y1026 ++ [y1388]), (i1027 + 1)))))
def R08_Min.s58 (m_ : T_api_Mealy) (c51 : List Int × Int) (y1023 : List Int) (y1024 : List Int) (y1025 : List (List Int)) (y1026 : List (List Int)) (i1027 : Nat) : Option ((List Int × List Int × List (List Int) × List (List Int) × Nat) ⊕ (List (List Int) × List (List Int))) :=
  cond (decide ((↑i1027 : Int) < (↑(List.length y1023) : Int))) ((iter (fun (s : List Int × List Int × List Int × List Int × Nat) => R08_Min.s56 m_ c51 i1027 s.1 s.2.1 s.2.2.1 s.2.2.2.1 s.2.2.2.2) fuel (y1023, y1024, [], [], 0) : Option (List Int × List Int × List Int × List Int)).bind (fun (s : List Int × List Int × List Int × List Int) => R08_Min.k57 y1025 y1026 i1027 s.1 s.2.1 s.2.2.1 s.2.2.2)) (some (.inr (y1025, y1026)))
def R08_Min.k59 (m_ : T_api_Mealy) (y800 : List (List Int)) (y801 : List (List Int)) : Option (T_api_Mealy × Int) :=
  some ((⟨m_.Inputs, 0, y800, y801⟩ : T_api_Mealy), 0)
def R08_Min (m_ : T_api_Mealy) : Option (T_api_Mealy × Int) :=
  (R08_Classes m_).bind fun c51 => cond (decide (c51.2 ≠ 0)) (some ((⟨0, 0, [], []⟩ : T_api_Mealy), c51.2)) (chk ((0 : Int) ≤ (↑(List.length m_.Next) : Int) ∧ (↑(List.length m_.Next) : Int) ≤ (↑(List.length m_.Next) : Int) ∧ capOk (Int.toNat (↑(List.length m_.Next) : Int)) 8) ((iter (fun (s : List Int × Nat) => R08_Min.s2 s.1 s.2) fuel ((List.replicate (List.length m_.Next) 0), 0) : Option (List Int)).bind (fun (y67 : List Int) => idx c51.1 m_.Start fun e83 => idx y67 e83 fun e84 => (iter (fun (s : List Int × List Int × List (List Int) × List (List Int) × Nat) => R08_Min.s58 m_ c51 s.1 s.2.1 s.2.2.1 s.2.2.2.1 s.2.2.2.2) fuel ([m_.Start], (List.set y67 e83.toNat 0), [], [], 0) : Option (List (List Int) × List (List Int))).bind (fun (s : List (List Int) × List (List Int)) => R08_Min.k59 m_ s.1 s.2))))
def L23_TableProgress (t_ : T_api_Table) (o_ : T_api_Obs) : Option (Bool) :=
  ((L23_Great t_ o_).bind fun c57 => cond (c57) (some true) ((R16_Valid o_).bind fun c59 => some (decide (c59 ≠ 0))) : Option (Bool)).bind (fun (y56 : Bool) => cond (y56) ((L23_awake).bind fun c61 => some c61) (((table_Unclosed t_ o_).bind fun c85 => cond (c85.2.1) ((table_Prefix t_ c85.1).bind fun c87 => (cond (decide (c85.2.2 ≠ 0)) (some true) (cond (decide (c87.2 ≠ 0)) (some true) ((R02_Has t_.Prefixes c85.1).bind fun c100 => cond (c100) (some true) ((R02_Has c87.1.Prefixes c85.1).bind fun c102 => cond ((!c102)) (some true) (cond (decide ((↑(List.length c87.1.Prefixes) : Int) ≠ ((↑(List.length t_.Prefixes) : Int) + 1))) (some true) (some (decide ((↑(List.length c87.1.Suffixes) : Int) ≠ (↑(List.length t_.Suffixes) : Int)))))))) : Option (Bool)).bind (fun (y97 : Bool) => cond (y97) (some (.inr false)) (some (.inl ())))) (some (.inl ())) : Option (Unit ⊕ Bool)).bind (Sum.elim (fun (_ : Unit) => ((table_Inconsistent t_ o_).bind fun c129 => cond (c129.2.1) ((table_Suffix t_ c129.1).bind fun c131 => (cond (decide (c129.2.2 ≠ 0)) (some true) (cond (decide (c131.2 ≠ 0)) (some true) ((R02_Has t_.Suffixes c129.1).bind fun c144 => cond (c144) (some true) ((R02_Has c131.1.Suffixes c129.1).bind fun c146 => cond ((!c146)) (some true) (cond (decide ((↑(List.length c131.1.Suffixes) : Int) ≠ ((↑(List.length t_.Suffixes) : Int) + 1))) (some true) (some (decide ((↑(List.length c131.1.Prefixes) : Int) ≠ (↑(List.length t_.Prefixes) : Int)))))))) : Option (Bool)).bind (fun (y141 : Bool) => cond (y141) (some (.inr false)) (some (.inl ())))) (some (.inl ())) : Option (Unit ⊕ Bool)).bind (Sum.elim (fun (_ : Unit) => (L23_awake).bind fun c150 => some c150) some)) some)))
def wordset_Suffixes_1 (w_ : List Int) (i_ : Int) : Option (List Int) :=
  chk ((0 : Int) ≤ i_ ∧ i_ ≤ (↑(List.length w_) : Int)) (some (List.drop (Int.toNat i_) w_))
def wordset_Suffixes (l_ : List (List Int)) : Option (List (List Int)) :=
  (wordset_parts l_ (fun u0 u1 => wordset_Suffixes_1 u0 u1)).bind fun c51 => some c51
def lstar_Refine.s2 (c60 : List (List Int)) (y85 : List (List Int)) (y86 : Nat) : Option ((List (List Int) × Nat) ⊕ List (List Int)) :=
  cond (decide ((↑y86 : Int) < (↑(List.length c60) : Int))) (idxn c60 y86 fun e93 => cond (decide (0 < (↑(List.length e93) : Int))) (chk (capOk (List.length y85 + 1) 24) (some (.inl ((y85 ++ [e93]), (y86 + 1))))) (some (.inl (y85, (y86 + 1))))) (some (.inr y85))
def lstar_Refine (t_ : T_api_Table) (w_ : List Int) (mode_ : Int) : Option (T_api_Table × Int) :=
  (table_Valid t_).bind fun c51 => cond (decide (c51 ≠ 0)) (some (t_, c51)) ((word_Check w_ t_.Inputs).bind fun c53 => cond (decide (c53 ≠ 0)) (some (t_, c53)) (cond (decide (mode_ = 0)) ((table_Prefix t_ w_).bind fun c56 => some (c56.1, c56.2)) (cond (decide (mode_ = 1)) ((wordset_Sorted t_.Prefixes).bind fun c58 => (wordset_Sorted t_.Suffixes).bind fun c59 => (wordset_Suffixes [w_]).bind fun c60 => (iter (fun (s : List (List Int) × Nat) => lstar_Refine.s2 c60 s.1 s.2) fuel (c59, 0) : Option (List (List Int))).bind (fun (y80 : List (List Int)) => (wordset_Sorted y80).bind fun c101 => (table_Valid (⟨t_.Inputs, c58, c101⟩ : T_api_Table)).bind fun c102 => cond (decide (c102 ≠ 0)) (some (t_, c102)) (some ((⟨t_.Inputs, c58, c101⟩ : T_api_Table), 0)))) (some (t_, 2)))))
def R24_rests.s2 (w_ : List Int) (y68 : List (List Int)) (i69 : Nat) : Option ((List (List Int) × Nat) ⊕ List (List Int)) :=
  cond (decide ((↑i69 : Int) < (↑(List.length w_) : Int))) (chk ((0 : Int) ≤ (↑i69 : Int) ∧ (↑i69 : Int) ≤ (↑(List.length w_) : Int)) (chk (capOk (List.length y68 + 1) 24) (some (.inl ((y68 ++ [(List.drop i69 w_)]), (i69 + 1)))))) (some (.inr y68))
def R24_rests (w_ : List Int) : Option (List (List Int)) :=
  (iter (fun (s : List (List Int) × Nat) => R24_rests.s2 w_ s.1 s.2) fuel ([], 0) : Option (List (List Int))).bind (fun (y65 : List (List Int)) => some y65)
def R24_Refine.k1 (t_ : T_api_Table) (y69 : Int) (y70 : List (List Int)) (y71 : List (List Int)) : Option (T_api_Table × Int) :=
  (R23_Valid (⟨y69, y70, y71⟩ : T_api_Table)).bind fun c77 => cond (decide (c77 ≠ 0)) (some (t_, c77)) (some ((⟨y69, y70, y71⟩ : T_api_Table), 0))
def R24_Refine (t_ : T_api_Table) (w_ : List Int) (mode_ : Int) : Option (T_api_Table × Int) :=
  (R23_Valid t_).bind fun c51 => cond (decide (c51 ≠ 0)) (some (t_, c51)) ((R01_Check w_ t_.Inputs).bind fun c53 => cond (decide (c53 ≠ 0)) (some (t_, c53)) ((cond (decide (mode_ ≠ 0)) (some (decide (mode_ ≠ 1))) (some false) : Option (Bool)).bind (fun (y58 : Bool) => cond (y58) (some (t_, 2)) ((R02_Prefixes [w_]).bind fun c62 => (R23_With t_ c62 []).bind fun c63 => (cond (decide (mode_ = 1)) ((R24_rests w_).bind fun c73 => (R23_With t_ [] c73).bind fun c74 => some (c74.Inputs, c74.Prefixes, c74.Suffixes)) (some (c63.Inputs, c63.Prefixes, c63.Suffixes)) : Option (Int × List (List Int) × List (List Int))).bind (fun (s : Int × List (List Int) × List (List Int)) => R24_Refine.k1 t_ s.1 s.2.1 s.2.2)))))
def L24_kept.s2 (t_ : T_api_Table) (u_ : T_api_Table) (i70 : Nat) : Option (Nat ⊕ (Unit ⊕ Bool)) :=
  cond (decide ((↑i70 : Int) < (↑(List.length t_.Prefixes) : Int))) (idxn t_.Prefixes i70 fun e77 => (R02_Has u_.Prefixes e77).bind fun c78 => cond ((!c78)) (some (.inr (.inr false))) (some (.inl (i70 + 1)))) (some (.inr (.inl ())))
def L24_kept.s4 (t_ : T_api_Table) (u_ : T_api_Table) (i99 : Nat) : Option (Nat ⊕ (Unit ⊕ Bool)) :=
  cond (decide ((↑i99 : Int) < (↑(List.length t_.Suffixes) : Int))) (idxn t_.Suffixes i99 fun e106 => (R02_Has u_.Suffixes e106).bind fun c107 => cond ((!c107)) (some (.inr (.inr false))) (some (.inl (i99 + 1)))) (some (.inr (.inl ())))
def L24_kept (t_ : T_api_Table) (u_ : T_api_Table) : Option (Bool) :=
  (iter (fun (s : Nat) => L24_kept.s2 t_ u_ s) fuel 0 : Option (Unit ⊕ Bool)).bind (Sum.elim (fun (_ : Unit) => (iter (fun (s : Nat) => L24_kept.s4 t_ u_ s) fuel 0 : Option (Unit ⊕ Bool)).bind (Sum.elim (fun (_ : Unit) => some (decide (t_.Inputs = u_.Inputs))) some)) some)
end Go.Proofs.YtpmebphhbgpapaaGreatDoor.Sym

/-
  Laws of rounds: what a loop comes to, in plain words. No program in sight.
-/
namespace Go.Proofs.YtpmebphhbgpapaaGreatDoor.Sym

section
variable {S R A B α β : Type}

/-- A loop by an invariant and a measure: it ends, and what it hands back is as said. -/
theorem iter_post {step : S → Option (S ⊕ R)} (I : S → Prop) (m : S → Nat) (Q : R → Prop) (h : ∀ s, I s → (∃ s', step s = some (.inl s') ∧ I s' ∧ m s' < m s) ∨ ∃ r, step s = some (.inr r) ∧ Q r) :
    ∀ (n : Nat) (s : S), I s → m s < n → ∃ r, iter step n s = some r ∧ Q r
  | 0, _, _, hm => absurd hm (Nat.not_lt_zero _)
  | n + 1, s, hi, hm => by
    unfold iter
    rcases h s hi with ⟨s', e, hi', hm'⟩ | ⟨r, e, hq⟩
    · rw [e]
      exact iter_post I m Q h n s' hi' (by omega)
    · rw [e]
      exact ⟨r, rfl, hq⟩

/-- The same with the result known ahead. -/
theorem iter_eq {step : S → Option (S ⊕ R)} {r : R} (I : S → Prop) (m : S → Nat) (h : ∀ s, I s → (∃ s', step s = some (.inl s') ∧ I s' ∧ m s' < m s) ∨ step s = some (.inr r)) {n : Nat} {s : S} (hi : I s) (hm : m s < n) : iter step n s = some r := by
  obtain ⟨r', e, rfl⟩ := iter_post I m (fun r' => r' = r) (fun s hs => (h s hs).imp id fun e => ⟨r, e, rfl⟩) n s hi hm
  exact e

/-- A walk along a list: an accumulator, the place, the element; a round goes on or ends all. -/
def walk (g : A → Nat → α → Option (A ⊕ R)) (fin : A → Option R) : A → Nat → List α → Option R
  | a, _, [] => fin a
  | a, i, x :: l => (g a i x).bind (Sum.elim (fun a' => walk g fin a' (i + 1) l) some)

theorem idxn_at {l : List α} {i : Nat} {x : α} {k : α → Option β} (h : l[i]? = some x) : idxn l i k = k x := by unfold idxn; rw [h]
theorem idx_at {l : List α} {n : Int} {i : Nat} {x : α} {k : α → Option β} (hn : n = (i : Int)) (h : l[i]? = some x) : idx l n k = k x := by
  subst hn
  unfold idx
  rw [if_pos (by omega), Int.toNat_natCast, h]
theorem chk_pos {c : Prop} [Decidable c] {k : Option α} (h : c) : chk c k = k := by unfold chk; rw [if_pos h]
/-- Not by reckoning: a kernel that unfolds the checks instead may not end. -/
theorem obind {a : α} {f : α → Option β} : (some a).bind f = f a := (Option.bind_some a f).trans (Eq.trans rfl rfl)
theorem fuel_big : 100000000000000 < fuel := by unfold fuel; omega
theorem dec_lt {l : List α} {i : Nat} {x : α} (h : l[i]? = some x) : decide ((↑i : Int) < (↑l.length : Int)) = true := by
  have := (List.getElem?_eq_some_iff.1 h).1
  simpa using this
theorem dec_end (l : List α) : decide ((↑l.length : Int) < (↑l.length : Int)) = false := by simp

/-- The first place along a list at which there is a result. -/
def scan (g : Nat → α → Option R) : Nat → List α → Option R
  | _, [] => none
  | i, x :: l => match g i x with | some r => some r | none => scan g (i + 1) l
theorem scan_none {g : Nat → α → Option R} : ∀ {l : List α} {j : Nat}, scan g j l = none ↔ ∀ i x, l[i]? = some x → g (j + i) x = none
  | [], j => by simp [scan]
  | y :: l, j => by
    constructor
    · intro h i x hx
      unfold scan at h
      cases e : g j y with
      | some r => rw [e] at h; cases h
      | none =>
        rw [e] at h
        match i, hx with
        | 0, hx =>
          simp at hx
          subst hx
          exact e
        | i + 1, hx =>
          have := (scan_none (g := g) (l := l) (j := j + 1)).1 h i x (by simpa using hx)
          rwa [show j + 1 + i = j + (i + 1) by omega] at this
    · intro h
      unfold scan
      have h0 := h 0 y rfl
      rw [Nat.add_zero] at h0
      rw [h0]
      exact (scan_none (g := g) (l := l) (j := j + 1)).2 fun i x hx => by
        have := h (i + 1) x (by simpa using hx)
        rwa [show j + (i + 1) = j + 1 + i by omega] at this
/-- A loop that looks for the first result. -/
theorem iter_scan {step : Nat → Option (Nat ⊕ (Unit ⊕ R))} {l : List α} (g : Nat → α → Option R) (h1 : ∀ i x, l[i]? = some x → step i = some (match g i x with | some r => .inr (.inr r) | none => .inl (i + 1))) (h2 : step l.length = some (.inr (.inl ()))) (hl : l.length ≤ 100000000000000) :
    iter step fuel 0 = some (match scan g 0 l with | some r => .inr r | none => .inl ()) := by
  have key : ∀ (n i : Nat), i ≤ l.length → l.length - i < n → iter step n i = some (match scan g i (l.drop i) with | some r => .inr r | none => .inl ()) := by
    intro n
    induction n with
    | zero => intro i _ h; omega
    | succ n ih =>
      intro i hi hn
      rcases Nat.lt_or_ge i l.length with h | h
      · rw [List.drop_eq_getElem_cons h]
        unfold iter scan
        rw [h1 i _ (List.getElem?_eq_getElem h)]
        cases g i l[i] with
        | some r => rfl
        | none => exact ih (i + 1) h (by omega)
      · have e : i = l.length := by omega
        subst e
        rw [List.drop_length]
        unfold iter scan
        rw [h2]
  exact key fuel 0 (Nat.zero_le _) (by have := fuel_big; omega)

/-- A loop that goes along a list with an accumulator, under an invariant. -/
def foldi (f : A → Nat → α → A) : A → Nat → List α → A
  | a, _, [] => a
  | a, i, x :: l => foldi f (f a i x) (i + 1) l
theorem iter_fold {step : A × Nat → Option ((A × Nat) ⊕ R)} {l : List α} (f : A → Nat → α → A) (fin : A → R) (Inv : A → Nat → Prop) (h1 : ∀ a i x, Inv a i → l[i]? = some x → step (a, i) = some (.inl (f a i x, i + 1)) ∧ Inv (f a i x) (i + 1))
    (h2 : ∀ a, Inv a l.length → step (a, l.length) = some (.inr (fin a))) (hl : l.length ≤ 100000000000000) {a0 : A} (h0 : Inv a0 0) : iter step fuel (a0, 0) = some (fin (foldi f a0 0 l)) ∧ Inv (foldi f a0 0 l) l.length := by
  have key : ∀ (n i : Nat) (a : A), Inv a i → i ≤ l.length → l.length - i < n → iter step n (a, i) = some (fin (foldi f a i (l.drop i))) ∧ Inv (foldi f a i (l.drop i)) l.length := by
    intro n
    induction n with
    | zero => intro i _ _ _ h; omega
    | succ n ih =>
      intro i a hv hi hn
      rcases Nat.lt_or_ge i l.length with h | h
      · rw [List.drop_eq_getElem_cons h]
        unfold iter foldi
        obtain ⟨e, hv'⟩ := h1 a i _ hv (List.getElem?_eq_getElem h)
        rw [e]
        exact ih (i + 1) _ hv' h (by omega)
      · have e : i = l.length := by omega
        subst e
        rw [List.drop_length]
        unfold iter foldi
        rw [h2 a hv]
        exact ⟨rfl, hv⟩
  exact key fuel 0 a0 h0 (Nat.zero_le _) (by have := fuel_big; omega)
theorem foldi_eq {f : A → α → A} : ∀ (l : List α) (a : A) (i : Nat), foldi (fun a _ x => f a x) a i l = l.foldl f a
  | [], _, _ => rfl
  | x :: l, a, i => by unfold foldi; exact foldi_eq l (f a x) (i + 1)
end
end Go.Proofs.YtpmebphhbgpapaaGreatDoor.Sym

/-
  The comparisons of words are what they say; they may be handed to a sort.
-/
namespace Go.Proofs.YtpmebphhbgpapaaGreatDoor.Sym
open Go.RowKit
set_option maxRecDepth 100000

theorem cmp_Compare_int_eq (x y : Int) : cmp_Compare_int x y = some (cmpI x y) := by
  unfold cmp_Compare_int cmp_isNaN_int cmpI
  by_cases h1 : x < y
  · simp [h1]
  · by_cases h2 : y < x <;> simp [h1, h2]

theorem slices_Compare_eq (s t : List Int) (hs : s.length ≤ 100000000000000) : slices_Compare_Sint_int s t = some (lexI s t) := by
  have key := iter_post (step := fun k => slices_Compare_Sint_int.s2 s t k) (fun k => k ≤ s.length ∧ k ≤ t.length ∧ lexI s t = lexI (s.drop k) (t.drop k)) (fun k => s.length - k)
    (fun r => Sum.elim (fun (_ : Unit) => cond (decide ((↑(List.length s) : Int) < (↑(List.length t) : Int))) (some (-1 : Int)) (some 0)) some r = some (lexI s t)) (fun k ⟨h1, h2, h3⟩ => by
      unfold slices_Compare_Sint_int.s2
      rcases Nat.lt_or_ge k s.length with h | h
      · have hx := List.getElem?_eq_getElem h
        rw [dec_lt hx, cond_true, idxn_at hx]
        by_cases h4 : t.length ≤ k
        · right
          refine ⟨.inr 1, by simp [h4], ?_⟩
          rw [h3, lexI_long h h4]
          rfl
        · have hy := List.getElem?_eq_getElem (show k < t.length by omega)
          have hst := lexI_step hx hy
          have d4 : decide ((↑(List.length t) : Int) ≤ (↑k : Int)) = false := by simp; omega
          rw [d4, cond_false, idxn_at hy, cmp_Compare_int_eq]
          by_cases h5 : cmpI s[k] t[k] = 0
          · left
            rw [if_pos h5] at hst
            exact ⟨k + 1, by simp [h5], ⟨by omega, by omega, by rw [h3, hst]⟩, by omega⟩
          · right
            rw [if_neg h5] at hst
            exact ⟨.inr (cmpI s[k] t[k]), by simp [h5], by rw [h3, hst]; rfl⟩
      · right
        have e : k = s.length := by omega
        subst e
        rw [dec_end, cond_false]
        refine ⟨.inl (), rfl, ?_⟩
        rw [h3, lexI_end (Nat.le_refl _)]
        by_cases h4 : s.length < t.length <;> simp [h4]) fuel 0 ⟨Nat.zero_le _, Nat.zero_le _, rfl⟩ (by have := fuel_big; simp only [Nat.sub_zero]; omega)
  obtain ⟨r, e, hq⟩ := key
  unfold slices_Compare_Sint_int
  rw [e]
  exact hq

theorem cmp_Or_two (x y : Int) : cmp_Or_int [x, y] = some (if x ≠ 0 then x else y) := by
  unfold cmp_Or_int
  have e : fuel = (fuel - 3) + 1 + 1 + 1 := by unfold fuel; omega
  rw [e]
  by_cases h1 : x = 0
  · by_cases h2 : y = 0
    · simp [iter, cmp_Or_int.s2, idxn, h1, h2]
    · simp [iter, cmp_Or_int.s2, idxn, h1, h2]
  · simp [iter, cmp_Or_int.s2, idxn, h1]

theorem word_Lex_eq (s t : List Int) (hs : s.length ≤ 100000000000000) : word_Lex s t = some (lexI s t) := by
  unfold word_Lex
  rw [slices_Compare_eq s t hs]
  rfl
theorem word_Compare_eq (s t : List Int) (hs : s.length ≤ 100000000000000) : word_Compare s t = some (cmpW s t) := by
  unfold word_Compare
  rw [slices_Compare_eq s t hs, cmp_Compare_int_eq]
  show (cmp_Or_int [cmpI s.length t.length, lexI s t]).bind some = _
  rw [cmp_Or_two]
  show some _ = some _
  congr 1
  unfold cmpI cmpW
  by_cases h1 : s.length < t.length
  · simp [h1]
  · by_cases h2 : t.length < s.length
    · simp [h1, h2]
    · simp [h1, h2]

theorem cmpE_word_Lex : CmpE Tryz.prog 119 (fun x => nL cI x) (fun x y => word_Lex x y) :=
  ⟨fun args w => run_enter rfl rfl rfl args w, cmpG_lex fun x y r hx h => by rw [word_Lex_eq x y (by omega)] at h; injection h with h; exact h.symm⟩
theorem cmpE_word_Compare : CmpE Tryz.prog 111 (fun x => nL cI x) (fun x y => word_Compare x y) :=
  ⟨fun args w => run_enter rfl rfl rfl args w, cmpG_compare fun x y r hx h => by rw [word_Compare_eq x y (by omega)] at h; injection h with h; exact h.symm⟩
theorem cmpE_table_find_1 : CmpE Tryz.prog 118 (fun x => .agg (c_api_Trace x)) (fun x y => table_find_1 x y) :=
  ⟨fun args w => run_enter rfl rfl rfl args w, cmpG_find1 (T := T_api_Trace) (i := fun x => x.In) (o := fun x => x.Out) (f := fun x y => table_find_1 x y) (fun _ => rfl) fun x y r hx h => by
    simp only [table_find_1] at h
    rw [word_Lex_eq _ _ (by omega)] at h
    injection h with h
    exact h.symm⟩
end Go.Proofs.YtpmebphhbgpapaaGreatDoor.Sym
