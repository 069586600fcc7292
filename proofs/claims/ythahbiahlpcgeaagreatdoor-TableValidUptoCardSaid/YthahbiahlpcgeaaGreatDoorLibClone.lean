/-
  The contract of slices.Clone.
-/
import Derived.Test.YthahbiahlpcgeaaGreatDoorSym15
import Derived.Test.YthahbiahlpcgeaaGreatDoorOwn
namespace Go.Proofs.YthahbiahlpcgeaaGreatDoor.Sym
open Go.RowKit

section
variable {P : Program} {w : World}
/-- 'append(own, xs...)', the own row's elements of any size. -/
theorem wpList_append_k {ops : Array Oper} {rest : List Oper} {o : Oper} {a : Act} {Q : Exit → Act → World → Prop} (hgd : o.guard = none) (s x : Operand) (t : TypeId)
    (ho : o.op = .call { callee := .builtin .append, args := #[s, x], argTypes := #[t, t] })
    (base : Nat) (e : TypeId) (i : TypeInfo) (z : Value) (size bytes : Nat) (ht : P.underlying t = some (.slice e)) (hi : P.info? e = some i) (hz : i.zero = some z)
    (hsize : i.size = size) (hby : i.bytes = bytes) (hzs : z.cells.size = size) (hsz : 0 < size) (v : Value) (n : Nat) (xs : List Value) (hs : a.eval s = v) (hown : w.ownsRow base e size v n xs)
    (A : Option Addr) (m c : Nat) (news : List Value) (hx : a.eval x = .slice A m c) (hl : news.length = m * size) (hsrc : 0 < m → ∃ b q, A = some ⟨b, q, none⟩ ∧ ∀ (j : Nat) u, news[j]? = some u → w.cell? ⟨b, q + j, none⟩ = some u) (h1 : ∀ u ∈ news, u.oneCell' = true)
    (h63 : n + m ≤ maxLen) (hbytes : (n + m) * bytes ≤ 140737488355328) (hbase : base ≤ w.heap.size)
    (h : ∀ v' w', w'.ownsRow base e size v' (n + m) (xs ++ news) → w.grownBy w' v.ownBlock → (v'.ownBlock = v.ownBlock ∨ v'.ownBlock = some w.heap.size) → wpList P ops Q rest (a.put o.dst v') w') :
    wpList P ops Q (o :: rest) a w := by
  refine wpList_plain hgd fun _ hK => ?_
  obtain ⟨v', w', hrun, h2, h3, h4⟩ := run_append_k (P := P) base t o.type e i z size bytes ht hi hz hsize hby hzs hsz v n xs hown A m c news hl hsrc h1 h63 hbytes hbase
  unfold Oper.wp execOp
  simp only [ho, resolve, invoke, builtin, Sem.run_bind, Sem.run_pure, Result.andThen_ok, List.map_toArray, List.map_cons, List.map_nil, hs, hx, hrun]
  exact hK _ _ (h v' w' h2 h3 h4)
end

theorem grown_step {a b c : World} {row row' : Option Nat} (h : a.grownBy b row) (k : b.grownBy c row') (hr : row' = row ∨ ∀ g, row' = some g → a.heap.size ≤ g) : a.grownBy c row :=
  ⟨k.os.trans h.os, k.tape.trans h.tape, k.output.trans h.output, Nat.le_trans h.size k.size, fun i hi hne =>
    (k.block i (Nat.lt_of_lt_of_le hi h.size) (by
      rcases hr with e | e
      · rw [e]; exact hne
      · intro he
        have := e i he.symm
        omega)).trans (h.block i hi hne)⟩

/-- A row of the call's own, and nothing that was there has turned. -/
def ClonePost (t : TypeId) (k n : Nat) (us : List Value) (w : World) (e : Ending) (w' : World) : Prop :=
  ∃ v', e = .returned v' ∧ w'.ownsRow w.heap.size t k v' n us ∧ Below w.heap.size w w'

theorem ownsRow_none (w : World) (t : TypeId) (k : Nat) : (w.alloc (.cells #[] t)).ownsRow w.heap.size t k (.slice (some ⟨w.heap.size, 0, none⟩) 0 0) 0 [] := by
  refine ⟨by simp, .inr ⟨w.heap.size, 0, #[], rfl, Nat.le_refl _, ?_, Nat.zero_le _, by unfold maxLen; omega, by simp, by simp⟩⟩
  exact heap_alloc_new w _

theorem sp_of_clone {g : FuncId} {t : TypeId} {k by_ : Nat} (he : ∀ args w, (callFunc g args).run Tryz.prog w = .ok (.enter g args) w) (hk0 : 0 < k)
    (h : ∀ (w : World) (A : Option Addr) (n c : Nat) (us : List Value), us.length = n * k → (0 < n → ∃ b q, A = some ⟨b, q, none⟩ ∧ ∀ (j : Nat) u, us[j]? = some u → w.cell? ⟨b, q + j, none⟩ = some u) →
      (∀ u ∈ us, u.oneCell' = true) → n ≤ 17592186044416 → n * by_ ≤ 140737488355328 → Calls Tryz.prog g #[.slice A n c] w (ClonePost t k n us w))
    {es : List (List IV)} (hk : ∀ e ∈ es, e.length = k) (hc : capOk es.length by_) : Sp Tryz.prog g [.im (.sl es)] (.row t k es) := by
  refine ⟨he, fun w S vs F hS hv hn hF => ?_⟩
  match vs, hv with
  | [v], ⟨F1, F2, ⟨h3, e1⟩, h5, e3⟩ =>
    have h5 : F2 = [] := h5
    subst e1 h5 e3
    obtain ⟨A, c, us, rfl, hl, h1, hlim, hcell, hr⟩ := sl_src h3 hk
    have hlk : us.length = es.length * k := by rw [hl, flat_length hk]
    refine (h w A es.length c us hlk hcell h1 hlim hc.1).mono ?_
    rintro e w' ⟨v', rfl, ho, hb⟩
    have ho0 : w'.ownsRow 0 t k v' es.length us := by
      refine ⟨ho.1, ?_⟩
      rcases ho.2 with h6 | ⟨g1, cap, cur, k1, _, k3⟩
      · exact .inl h6
      · exact .inr ⟨g1, cap, cur, k1, Nat.zero_le _, k3⟩
    have hlt := ho.lt
    have hbk : ∀ b ∈ (blkOf v').toList, w.heap.size ≤ b ∧ b < w'.heap.size := fun b hb => by
      refine hlt b ?_
      rw [row_blk ho0]
      simpa using hb
    refine ⟨v', (blkOf v').toList, rfl, .of hb, ⟨[v'], (blkOf v').toList, [], rfl, ⟨(blkOf v').toList, [], ⟨row_one ho0, [], ⟨us, hk0, hk, hlim, ho0, hl, h1, fun i u x hu hx => ?_⟩, rfl⟩, rfl, by simp⟩, rfl, by simp⟩, ?_, fun b hb => ⟨.inl (hbk b hb).1, (hbk b hb).2⟩⟩
    · have k1 : ∀ b, S b → (S b ∨ w.heap.size ≤ b ∨ b ∈ []) ∧ b < w'.heap.size ∧ b ∉ (blkOf v').toList := fun b hb' => ⟨.inl hb', Nat.lt_of_lt_of_le (hS b hb') hb.size, fun hm => by
        have h1 := (hbk b hm).1
        have h2 := hS b hb'
        omega⟩
      have k2 : ∀ (p : Addr) u, S p.block → w.cell? p = some u → w'.cell? p = some u := fun p u hp hu => by
        have h6 := hb.block p.block (hS _ hp)
        have h7 : w'.cell? p = w.cell? p := by
          unfold World.cell?
          rw [h6]
        rw [h7]
        exact hu
      exact (hr i u x hu hx).mono k1 k2
    · cases blkOf v' <;> simp
end Go.Proofs.YthahbiahlpcgeaaGreatDoor.Sym
