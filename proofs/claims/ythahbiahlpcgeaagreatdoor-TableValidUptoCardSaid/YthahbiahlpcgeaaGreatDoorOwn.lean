/-
  Rows that the call itself made: words and lists of words that grow by append. No function of the program in sight.
-/
import Derived.Test.YthahbiahlpcgeaaGreatDoorBase
import Derived.Test.YthahbiahlpcgeaaGreatDoorProg
namespace Go.Proofs.YthahbiahlpcgeaaGreatDoor
open Go.RowKit

theorem Tryz.infoInt : (Tryz.prog.info? 3).map (fun i => (i.zero, i.size, i.bytes)) = some (some (.int .i64 0), 1, 8) := by kernel_rfl
theorem Tryz.infoWord : (Tryz.prog.info? 38).map (fun i => (i.zero, i.size, i.bytes)) = some (some (.slice none 0 0), 1, 24) := by kernel_rfl

theorem addr_add (b o j : Nat) : (⟨b, o, none⟩ : Addr).add j = ⟨b, o + j, none⟩ := by
  unfold Addr.add
  split
  · rename_i h; subst h; rfl
  · rfl

/-- What is appended: the cells of a row, whatever its address where it is empty. -/
def Src (w : World) (A : Option Addr) (m : Nat) (news : List Value) : Prop :=
  news.length = m ∧ (0 < m → ∃ b o, A = some ⟨b, o, none⟩ ∧ ∀ j u, news[j]? = some u → w.cell? ⟨b, o + j, none⟩ = some u)

section
variable {P : Program} {w : World}

theorem run_append_row (base : Nat) (t ty e : TypeId) (i : TypeInfo) (z : Value) (bytes : Nat) (ht : P.underlying t = some (.slice e)) (hi : P.info? e = some i) (hz : i.zero = some z)
    (hsize : i.size = 1) (hby : i.bytes = bytes) (hzs : z.cells.size = 1) (v : Value) (n : Nat) (xs : List Value) (hown : w.ownsRow base e 1 v n xs)
    (A : Option Addr) (m c : Nat) (news : List Value) (hs : Src w A m news) (h1 : ∀ u ∈ news, u.oneCell' = true)
    (h63 : n + m ≤ maxLen) (hbytes : (n + m) * bytes ≤ 140737488355328) (hbase : base ≤ w.heap.size) :
    ∃ v' w', (Builtin.append_ #[t, t] ty #[v, .slice A m c]).run P w = .ok v' w' ∧ w'.ownsRow base e 1 v' (n + m) (xs ++ news) ∧ w.grownBy w' v.ownBlock ∧
      (v'.ownBlock = v.ownBlock ∨ v'.ownBlock = some w.heap.size) := by
  obtain ⟨hl, hc⟩ := hs
  cases A with
  | none =>
    have hm : m = 0 := by
      rcases Nat.eq_zero_or_pos m with h0 | h0
      · exact h0
      · obtain ⟨b, o, h, _⟩ := hc h0; cases h
    subst hm
    have hn : news = [] := List.eq_nil_of_length_eq_zero hl
    subst hn
    refine ⟨v, w, ?_, by simpa using hown, World.grownBy.refl w _, .inl rfl⟩
    rcases hown.2 with ⟨rfl, rfl⟩ | ⟨g, cap, cur, rfl, _, _, hnc, _⟩
    · simp [Builtin.append_, run_underlying ht, sizeOf, typeInfo, hi, Builtin.lenOf, Builtin.firstCells]
    · simp [Builtin.append_, run_underlying ht, sizeOf, typeInfo, hi, Builtin.lenOf, Builtin.firstCells, hnc, storeCells]
  | some ad =>
    have hcells : ∀ j u, news[j]? = some u → w.cell? (ad.add j) = some u := by
      intro j u hu
      rcases Nat.eq_zero_or_pos m with h0 | h0
      · subst h0
        have hn : news = [] := List.eq_nil_of_length_eq_zero hl
        subst hn
        simp at hu
      · obtain ⟨b, o, h, hcc⟩ := hc h0
        injection h with h
        subst h
        rw [addr_add]
        exact hcc j u hu
    obtain ⟨v', w', hrun, h2, h3, _, h5⟩ := run_append_own_at (P := P) w base t ty e i z 1 bytes ht hi hz hsize hby hzs (by omega) v n xs hown ad m c news (by omega) hcells h1 h63 hbytes hbase
    exact ⟨v', w', hrun, h2, h3, h5⟩

theorem wp_append_row {o : Oper} {a : Act} {K : Act → World → Prop} {Q : Exit → Act → World → Prop} (s x : Operand) (t : TypeId)
    (ho : o.op = .call { callee := .builtin .append, args := #[s, x], argTypes := #[t, t] })
    (base : Nat) (e : TypeId) (i : TypeInfo) (z : Value) (bytes : Nat) (ht : P.underlying t = some (.slice e)) (hi : P.info? e = some i) (hz : i.zero = some z)
    (hsize : i.size = 1) (hby : i.bytes = bytes) (hzs : z.cells.size = 1) (v : Value) (n : Nat) (xs : List Value) (hs : a.eval s = v) (hown : w.ownsRow base e 1 v n xs)
    (A : Option Addr) (m c : Nat) (news : List Value) (hx : a.eval x = .slice A m c) (hsrc : Src w A m news) (h1 : ∀ u ∈ news, u.oneCell' = true)
    (h63 : n + m ≤ maxLen) (hbytes : (n + m) * bytes ≤ 140737488355328) (hbase : base ≤ w.heap.size)
    (h : ∀ v' w', w'.ownsRow base e 1 v' (n + m) (xs ++ news) → w.grownBy w' v.ownBlock → (v'.ownBlock = v.ownBlock ∨ v'.ownBlock = some w.heap.size) → K (a.put o.dst v') w') : o.wp P a w K Q := by
  obtain ⟨v', w', hrun, h2, h3, h4⟩ := run_append_row (P := P) base t o.type e i z bytes ht hi hz hsize hby hzs v n xs hown A m c news hsrc h1 h63 hbytes hbase
  unfold Oper.wp execOp
  simp only [ho, resolve, invoke, builtin, Sem.run_bind, Sem.run_pure, Result.andThen_ok, List.map_toArray, List.map_cons, List.map_nil, hs, hx, hrun]
  exact h v' w' h2 h3 h4

/-- 'out = append(out, xs...)', out the call's own. -/
theorem wpList_append_row {ops : Array Oper} {rest : List Oper} {o : Oper} {a : Act} {Q : Exit → Act → World → Prop} (hgd : o.guard = none) (s x : Operand) (t : TypeId)
    (ho : o.op = .call { callee := .builtin .append, args := #[s, x], argTypes := #[t, t] })
    (base : Nat) (e : TypeId) (i : TypeInfo) (z : Value) (bytes : Nat) (ht : P.underlying t = some (.slice e)) (hi : P.info? e = some i) (hz : i.zero = some z)
    (hsize : i.size = 1) (hby : i.bytes = bytes) (hzs : z.cells.size = 1) (v : Value) (n : Nat) (xs : List Value) (hs : a.eval s = v) (hown : w.ownsRow base e 1 v n xs)
    (A : Option Addr) (m c : Nat) (news : List Value) (hx : a.eval x = .slice A m c) (hsrc : Src w A m news) (h1 : ∀ u ∈ news, u.oneCell' = true)
    (h63 : n + m ≤ maxLen) (hbytes : (n + m) * bytes ≤ 140737488355328) (hbase : base ≤ w.heap.size)
    (h : ∀ v' w', w'.ownsRow base e 1 v' (n + m) (xs ++ news) → w.grownBy w' v.ownBlock → (v'.ownBlock = v.ownBlock ∨ v'.ownBlock = some w.heap.size) → wpList P ops Q rest (a.put o.dst v') w') :
    wpList P ops Q (o :: rest) a w :=
  wpList_plain hgd fun _ hK => wp_append_row s x t ho base e i z bytes ht hi hz hsize hby hzs v n xs hs hown A m c news hx hsrc h1 h63 hbytes hbase fun v' w' h2 h3 h4 => hK _ _ (h v' w' h2 h3 h4)
end

/-- The memory of a value that is not empty lies outside a block. -/
def Off (u : Value) (row : Option Nat) : Prop := ∀ a n c, u = .slice (some a) n c → 0 < n → row ≠ some a.block

theorem Off.none_ (u : Value) : Off u none := fun _ _ _ _ _ h => by cases h

/-- The call's own row of integers. -/
def OwnI (w : World) (base : Nat) (v : Value) (xs : List Int) : Prop := w.ownsRow base 3 1 v xs.length (xs.map (Value.int .i64))

/-- The call's own row of words; the words lie outside it. -/
def OwnW (w : World) (base : Nat) (v : Value) (l : List (List Int)) : Prop :=
  ∃ us : List Value, us.length = l.length ∧ w.ownsRow base 38 1 v us.length us ∧
    ∀ (i : Nat) x, l[i]? = some x → ∃ u, us[i]? = some u ∧ IsI w u x ∧ Off u v.ownBlock

theorem IsI.lt {w : World} {v : Value} {x : List Int} (h : IsI w v x) : ∀ a n c, v = .slice (some a) n c → 0 < n → a.block < w.heap.size := by
  obtain ⟨A, n, c, rfl, hr⟩ := h
  rintro a n' c' e h0
  injection e with e1 e2 e3
  subst e1 e2
  obtain ⟨b, o, u, y, e, _, hu, _⟩ := hr.at_ h0
  injection e with e
  subst e
  exact World.block_lt_of_cell? w _ hu

theorem IsI.off_new {w : World} {v : Value} {x : List Int} (h : IsI w v x) {g : Nat} (hg : w.heap.size ≤ g) : Off v (some g) := fun a n c e h0 hh => by
  have := h.lt a n c e h0
  injection hh with hh
  omega

/-- A word outside the one row that has turned. -/
theorem IsI.grown {w w' : World} {v : Value} {x : List Int} {row : Option Nat} (h : IsI w v x) (hg : w.grownBy w' row) (ho : Off v row) : IsI w' v x := by
  obtain ⟨A, n, c, rfl, hr⟩ := h
  refine ⟨A, n, c, rfl, hr.1, hr.2.1, hr.2.2.1, fun hn => ?_⟩
  obtain ⟨b, o, rfl, hc⟩ := hr.2.2.2 hn
  refine ⟨b, o, rfl, fun i y hy => ?_⟩
  obtain ⟨u, hu, hr'⟩ := hc i y hy
  exact ⟨u, hg.cell hu (fun e => ho _ _ _ rfl hn e.symm), hr'⟩

/-- A cell outside the row that has turned. -/
theorem grown_keeps {w w' : World} (hg : w.grownBy w' none) : Keeps w w' := fun _ _ hu => hg.cell hu (by simp)

theorem grown_none {w w' : World} (h : Below w.heap.size w w') : w.grownBy w' none := ⟨h.os, h.tape, h.output, h.size, fun k hk _ => h.block k hk⟩
theorem grown_below {w w' : World} {row : Option Nat} (hg : w.grownBy w' row) {B : Nat} (hB : B ≤ w.heap.size) (hr : ∀ g, row = some g → B ≤ g) : Below B w w' := (Below.refl B w).grown hg hB hr

theorem OwnI.nil_ (w : World) (base : Nat) : OwnI w base (.slice none 0 0) [] := World.ownsRow_nil _ _ _ _
theorem OwnW.nil_ (w : World) (base : Nat) : OwnW w base (.slice none 0 0) [] := ⟨[], rfl, World.ownsRow_nil _ _ _ _, fun i x h => by simp at h⟩

/-- What an owned row reads as. -/
theorem row_reads {α : Type} {w : World} {base : Nat} {e : TypeId} {v : Value} {us : List Value} {l : List α} {R : Value → α → Prop} (h : w.ownsRow base e 1 v us.length us) (hl : us.length = l.length)
    (hR : ∀ (i : Nat) x, l[i]? = some x → ∃ u, us[i]? = some u ∧ R u x) (hs : us.length ≤ 17592186044416) : ∃ A n c, v = .slice A n c ∧ RowOf w R A n c l := by
  rcases h.2 with ⟨rfl, h0⟩ | ⟨g, cap, cur, rfl, _, _, hnc, _⟩
  · have : l = [] := List.eq_nil_of_length_eq_zero (by omega)
    subst this
    exact ⟨_, _, _, rfl, RowOf.nil_⟩
  · refine ⟨_, _, _, rfl, by omega, hnc, hs, fun _ => ⟨g, 0, rfl, fun i x hx => ?_⟩⟩
    obtain ⟨u, hu, hr⟩ := hR i x hx
    have := h.cells (g := g) rfl i u hu
    rw [addr_add] at this
    exact ⟨u, this, hr⟩

theorem OwnI.isI {w : World} {base : Nat} {v : Value} {xs : List Int} (h : OwnI w base v xs) (hs : xs.length ≤ 17592186044416) : IsI w v xs := by
  refine row_reads (us := xs.map (Value.int .i64)) (l := xs) (by simpa [OwnI] using h) (by simp) (fun i x hx => ⟨.int .i64 x, by simp [hx], rfl⟩) (by simpa using hs)

theorem OwnW.isW {w : World} {base : Nat} {v : Value} {l : List (List Int)} (h : OwnW w base v l) (hs : l.length ≤ 17592186044416) : IsW w v l := by
  obtain ⟨us, hl, hown, hel⟩ := h
  refine row_reads (us := us) (l := l) hown hl (fun i x hx => ?_) (by omega)
  obtain ⟨u, hu, hi, _⟩ := hel i x hx
  exact ⟨u, hu, hi⟩

theorem OwnI.lt {w : World} {base : Nat} {v : Value} {xs : List Int} (h : OwnI w base v xs) : ∀ k, v.ownBlock = some k → base ≤ k ∧ k < w.heap.size := World.ownsRow.lt h
theorem OwnW.lt {w : World} {base : Nat} {v : Value} {l : List (List Int)} (h : OwnW w base v l) : ∀ k, v.ownBlock = some k → base ≤ k ∧ k < w.heap.size := by
  obtain ⟨us, _, hown, _⟩ := h
  exact hown.lt

/-- An owned row stays owned where only other blocks have turned. -/
theorem OwnI.kept {w w' : World} {base : Nat} {v : Value} {xs : List Int} {row : Option Nat} (h : OwnI w base v xs) (hg : w.grownBy w' row) (hne : v.ownBlock = none ∨ v.ownBlock ≠ row) : OwnI w' base v xs :=
  World.ownsRow.kept h hg hne
theorem OwnW.kept {w w' : World} {base : Nat} {v : Value} {l : List (List Int)} (h : OwnW w base v l) (hg : w.grownBy w' none) : OwnW w' base v l := by
  obtain ⟨us, hl, hown, hel⟩ := h
  refine ⟨us, hl, hown.kept hg (by cases v.ownBlock <;> simp), fun i x hx => ?_⟩
  obtain ⟨u, hu, hi, ho⟩ := hel i x hx
  exact ⟨u, hu, hi.keep (grown_keeps hg), ho⟩
theorem OwnW.alloc {w : World} {base : Nat} {v : Value} {l : List (List Int)} (h : OwnW w base v l) (o : Obj) : OwnW (w.alloc o) base v l := h.kept (World.grownBy_alloc w o none)
theorem OwnI.alloc {w : World} {base : Nat} {v : Value} {xs : List Int} (h : OwnI w base v xs) (o : Obj) : OwnI (w.alloc o) base v xs := World.ownsRow.alloc h o

/-- The parts of an owned row of words, behind an append of one word. -/
theorem OwnW.push {w w1 w2 : World} {base : Nat} {v v' u : Value} {l : List (List Int)} {x : List Int} {us : List Value} (hl : us.length = l.length)
    (hel : ∀ (i : Nat) x, l[i]? = some x → ∃ u, us[i]? = some u ∧ IsI w u x ∧ Off u v.ownBlock) (hx : IsI w u x) (hoff : Off u v.ownBlock) (h1 : w.grownBy w1 none)
    (hown : w2.ownsRow base 38 1 v' (us.length + 1) (us ++ [u])) (hg : w1.grownBy w2 v.ownBlock) (hb : v'.ownBlock = v.ownBlock ∨ v'.ownBlock = some w1.heap.size) : OwnW w2 base v' (l ++ [x]) := by
  have key : ∀ u x, IsI w u x → Off u v.ownBlock → IsI w2 u x ∧ Off u v'.ownBlock := fun u x hi ho => by
    refine ⟨(hi.keep (grown_keeps h1)).grown hg ho, ?_⟩
    rcases hb with e | e
    · rw [e]; exact ho
    · rw [e]; exact hi.off_new h1.size
  refine ⟨us ++ [u], by simp [hl], by simpa using hown, fun i y hy => ?_⟩
  rw [List.getElem?_append] at hy
  split at hy
  · rename_i hi
    obtain ⟨u', hu', h3, h4⟩ := hel i y hy
    exact ⟨u', by rw [List.getElem?_append, if_pos (by omega)]; exact hu', key u' y h3 h4⟩
  · rename_i hi
    have hi0 : i - l.length = 0 := by
      rcases Nat.eq_zero_or_pos (i - l.length) with h0 | h0
      · exact h0
      · rw [List.getElem?_eq_none (by simp; omega)] at hy; cases hy
    rw [hi0] at hy
    simp at hy
    subst hy
    exact ⟨u, by rw [List.getElem?_append, if_neg (by omega)]; simp [hl, hi0], key u x hx hoff⟩

/-- The source of an append: a word's cells. -/
theorem RowOf.src {w : World} {A : Option Addr} {n c : Nat} {xs : List Int} (h : RowOf w IsInt A n c xs) : Src w A n (xs.map (Value.int .i64)) := by
  refine ⟨by simp [h.len], fun h0 => ?_⟩
  obtain ⟨b, o, e, hc⟩ := h.2.2.2 h0
  refine ⟨b, o, e, fun j u hu => ?_⟩
  rw [List.getElem?_map] at hu
  cases hx : xs[j]? with
  | none => rw [hx] at hu; cases hu
  | some x =>
    rw [hx] at hu
    simp at hu
    obtain ⟨u', hu', rfl⟩ := hc j x hx
    rw [← hu]
    exact hu'

theorem src_one (w : World) (x : Value) (t : TypeId) : Src (w.alloc (.cells #[x] t)) (some ⟨w.heap.size, 0, none⟩) 1 [x] :=
  ⟨rfl, fun _ => ⟨_, _, rfl, fun j u hu => by
    have := cell_one_new w x t j u hu
    rwa [addr_add] at this⟩⟩

end Go.Proofs.YthahbiahlpcgeaaGreatDoor
