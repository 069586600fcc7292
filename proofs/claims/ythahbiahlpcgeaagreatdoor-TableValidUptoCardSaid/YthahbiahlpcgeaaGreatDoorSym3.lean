/-
  The plain reading's operations are the model's: operations that only compute or read.
-/
import Derived.Test.YthahbiahlpcgeaaGreatDoorSym2
import Derived.IntWalk
import Derived.Laws.Cells
namespace Go.Proofs.YthahbiahlpcgeaaGreatDoor.Sym
open Go.RowKit

/-- The operation does what is written: over any state that agrees on what it looks at. -/
def Eff (P : Program) (B : Base) (o : Oper) (rd : List Loc) (σ : St) (wr : List (Loc × Ct)) : Prop :=
  ∀ σ', (∀ l ∈ rd, σ' l = σ l) → ∀ a w, Sat B σ' a w → ∀ (K : Act → World → Prop) (Q : Exit → Act → World → Prop), (∀ a' w', Sat B (app σ' wr) a' w' → K a' w') → o.wp P a w K Q

section
variable {P : Program} {B : Base} {o : Oper} {σ : St} {K : Fx → Prop}

theorem evA_ok {a : Act} {w : World} {ρ : Ly} (h : SatR B σ a w ρ) (x : Operand) : RepA w (Imm B σ ρ w) ρ σ.gn (a.eval x) (evA σ x) := by
  cases x with
  | tmp t => exact h.tms t
  | const v => exact .im _ _ (.val v)
  | global g => exact .im _ _ (.any _)
  | func f => exact .im _ _ (.fn f [] [] rfl (by simp))

theorem evA_same {σ' : St} {x : Operand} (h : ∀ l ∈ opd x, σ' l = σ l) : evA σ' x = evA σ x := by
  cases x with
  | tmp t =>
    have e := h (.tmp t) (by simp [opd])
    show σ'.av t = σ.av t
    unfold St.av
    rw [e]
  | const v => rfl
  | global g => rfl
  | func f => rfl

theorem RepA.im_inv {w : World} {S : Nat → Prop} {ρ : Ly} {γ : Nat → Nat} {v : Value} {x : IV} (h : RepA w S ρ γ v (.im x)) : RepI w S v x := by
  cases h with
  | im _ _ h => exact h

theorem asInt_inv {w : World} {S : Nat → Prop} {ρ : Ly} {γ : Nat → Nat} {v : Value} {x : AV} {k : IntKind} {n : Int} (e : asInt x = some (k, n)) (h : RepA w S ρ γ v x) : v = .int k n := by
  unfold asInt at e
  split at e
  · injection e with e
    injection e with e1 e2
    subst e1 e2
    cases h.im_inv
    rfl
  · cases e
theorem asBool_inv {w : World} {S : Nat → Prop} {ρ : Ly} {γ : Nat → Nat} {v : Value} {x : AV} {b : Bool} (e : asBool x = some b) (h : RepA w S ρ γ v x) : v = .bool b := by
  unfold asBool at e
  split at e
  · injection e with e
    subst e
    cases h.im_inv
    rfl
  · cases e
theorem asStr_inv {w : World} {S : Nat → Prop} {ρ : Ly} {γ : Nat → Nat} {v : Value} {x : AV} {b : ByteArray} (e : asStr x = some b) (h : RepA w S ρ γ v x) : v = .string b := by
  unfold asStr at e
  split at e
  · injection e with e
    subst e
    cases h.im_inv
    rfl
  · cases e

theorem dst_lt (hd : dstOk B.n o = true) : ∀ t, o.dst = some t → t < B.n := fun t e => by
  unfold dstOk at hd
  rw [e] at hd
  exact of_decide_eq_true hd

/-- An operation that computes a value and leaves memory alone. -/
theorem Eff.pure (hd : dstOk B.n o = true) {rd : List Loc} {v : AV}
    (h : ∀ σ', (∀ l ∈ rd, σ' l = σ l) → ∀ a w ρ, SatR B σ' a w ρ → ∃ u, (execOp a.eval o).run P w = .ok (.value u) w ∧ RepA w (Imm B σ' ρ w) ρ σ'.gn u v) : Eff P B o rd σ (wrT o.dst v) := by
  intro σ' hag a w ⟨ρ, hs⟩ K Q hK
  obtain ⟨u, hr, hv⟩ := h σ' hag a w ρ hs
  unfold Oper.wp
  rw [hr, Oper.upon_value]
  exact hK _ _ ⟨ρ, hs.put (dst_lt hd) hv⟩

theorem aMove_ok {x : Operand} (hop : o.op = .move x ∨ o.op = .assign x) (hd : dstOk B.n o = true) : Eff P B o (opd x) σ (wrT o.dst (evA σ x)) :=
  Eff.pure hd fun σ' hag a w ρ hs => ⟨a.eval x, by rcases hop with e | e <;> simp [execOp, e], by rw [← evA_same hag]; exact evA_ok hs x⟩

theorem vB_rep {w : World} {S : Nat → Prop} {ρ : Ly} {γ : Nat → Nat} (b : Bool) : RepA w S ρ γ (.bool b) (vB b) := .im _ _ (.val _)
theorem val_rep {w : World} {S : Nat → Prop} {ρ : Ly} {γ : Nat → Nat} (v : Value) : RepA w S ρ γ v (.im (.val v)) := .im _ _ (.val _)

theorem agree_l {σ' : St} {l m : List Loc} (h : ∀ x ∈ l ++ m, σ' x = σ x) : ∀ x ∈ l, σ' x = σ x := fun x hx => h x (List.mem_append_left _ hx)
theorem agree_r {σ' : St} {l m : List Loc} (h : ∀ x ∈ l ++ m, σ' x = σ x) : ∀ x ∈ m, σ' x = σ x := fun x hx => h x (List.mem_append_right _ hx)

theorem Both.out {b : Bool} {A C : Prop} (h : Both b A C) : (b = true → A) ∧ (b = false → C) := by unfold Both at h; exact h
theorem Nf.out {α : Type} {a : α} {F : α → Prop} (h : Nf a F) : F a := by unfold Nf at h; obtain ⟨b, rfl, h⟩ := h; exact h
theorem Cut.out {body : (St → Prop) → Prop} {rest : St → Prop} (h : Cut body rest) : ∃ Post : St → Prop, body (fun σ' => ∃ σ1, Ent σ' σ1 ∧ Post σ1) ∧ ∀ σ, Post σ → ∃ φ, Holds σ φ ∧ (φ → rest σ) := by unfold Cut at h; exact h
theorem Side.out {A C : Prop} (h : Side A C) : A ∧ C := by unfold Side at h; exact h

theorem aPick_ok {c x y : Operand} (hop : o.op = .pick c x y) (hd : dstOk B.n o = true) (h : aPick o σ K c x y) : ∃ fx, K fx ∧ Eff P B o fx.rd σ fx.wr := by
  unfold aPick at h
  split at h
  · rename_i t ht
    have run : ∀ σ', (∀ l ∈ opd c ++ opd x ++ opd y, σ' l = σ l) → ∀ a w ρ, SatR B σ' a w ρ → (execOp a.eval o).run P w = .ok (.value (if t = true then a.eval x else a.eval y)) w := fun σ' hag a w ρ hs => by
      have h1 := evA_ok hs c
      rw [evA_same (agree_l (agree_l hag))] at h1
      simp [execOp, hop, asBool_inv ht h1, Go.asBool]
    have h := h.out
    cases ht2 : t with
    | true =>
      refine ⟨_, h.1 ht2, Eff.pure hd fun σ' hag a w ρ hs => ⟨_, run σ' hag a w ρ hs, ?_⟩⟩
      have h1 := evA_ok hs x
      rw [evA_same (agree_r (agree_l hag))] at h1
      rw [ht2]
      exact h1
    | false =>
      refine ⟨_, h.2 ht2, Eff.pure hd fun σ' hag a w ρ hs => ⟨_, run σ' hag a w ρ hs, ?_⟩⟩
      have h1 := evA_ok hs y
      rw [evA_same (agree_r hag)] at h1
      rw [ht2]
      exact h1
  · exact h.elim

theorem aUn_ok {op : UnOp} {x : Operand} {t : TypeId} (hop : o.op = .unOp op t x) (hd : dstOk B.n o = true) (h : aUn o σ K op x) : ∃ fx, K fx ∧ Eff P B o fx.rd σ fx.wr := by
  unfold aUn at h
  split at h
  · rename_i b hb
    refine ⟨_, h, Eff.pure hd fun σ' hag a w ρ hs => ⟨.bool !b, ?_, vB_rep _⟩⟩
    have h1 := evA_ok hs x
    rw [evA_same hag] at h1
    simp [execOp, hop, asBool_inv hb h1, Op.unary]
  · exact h.elim

theorem rng_wrap {k : IntKind} {n : Int} (h : rng k n) : k.wrap n = n := by
  unfold rng at h
  split at h
  · exact IntWalk.i64_in n (by unfold inR at h; exact h)
  · simp [IntKind.wrap, IntKind.bits, IntKind.signed]; omega
  · simp [IntKind.wrap, IntKind.bits, IntKind.signed]; omega
  · exact h.elim

theorem aBin_ok {op : BinOp} {x y : Operand} {t t' : TypeId} (hop : o.op = .binOp op t x y t') (hd : dstOk B.n o = true) (h : aBin P o σ K op t x y) : ∃ fx, K fx ∧ Eff P B o fx.rd σ fx.wr := by
  unfold aBin at h
  split at h
  · rename_i hsh
    have hop2 : op = .shr := by cases op <;> first | rfl | cases hsh
    subst hop2
    split at h
    · rename_i k a kb b k' hx hy hu
      obtain ⟨hk, h⟩ := h.ok
      simp only [Bool.and_eq_true, decide_eq_true_eq] at hk
      obtain ⟨rfl, rfl⟩ := hk
      obtain ⟨⟨h1, h2, h3, h4⟩, h⟩ := h.out
      refine ⟨_, h, Eff.pure hd fun σ' hag c w ρ hs => ⟨_, ?_, val_rep _⟩⟩
      have g1 := evA_ok hs x
      have g2 := evA_ok hs y
      rw [evA_same (agree_l hag)] at g1
      rw [evA_same (agree_r hag)] at g2
      have hmin : min b.toNat IntKind.u64.bits = b.toNat := by simp [IntKind.bits]; omega
      have hb : ¬ b < 0 := by omega
      have hrun : binOp .shr t (.int .u64 a) (.int kb b) = Pure.pure (.int .u64 (a / 2 ^ b.toNat)) := by
        simp only [binOp, Op.shift, if_neg hb, hmin]
        rw [Int.fdiv_eq_ediv_of_nonneg a (by exact Int.le_of_lt (Int.pow_pos (by decide)))]
      simp only [execOp, hop, asInt_inv hx g1, asInt_inv hy g2, Sem.run_bind, eqGuard, Result.andThen_ok, hrun, Sem.run_pure]
      rfl
    · exact h.elim
  split at h
  · rename_i a b hx hy
    obtain ⟨hk, h2⟩ := h.ok
    clear h
    rw [Bool.and_eq_true] at hk
    have hop2 : op = .add := by cases op <;> first | rfl | cases hk.2
    subst hop2
    obtain ⟨h1, h⟩ := h2.out
    refine ⟨_, h, Eff.pure hd fun σ' hag c w ρ hs => ⟨_, ?_, val_rep _⟩⟩
    have g1 := evA_ok hs x
    have g2 := evA_ok hs y
    rw [evA_same (agree_l hag)] at g1
    rw [evA_same (agree_r hag)] at g2
    have hle : ¬ (((a.size + b.size : Nat) : Int) > IntKind.i64.max) := by
      have : IntKind.i64.max = 9223372036854775807 := by rfl
      rw [this]; omega
    simp only [execOp, hop, asStr_inv hx g1, asStr_inv hy g2, Sem.run_bind, eqGuard, Result.andThen_ok, binOp, Op.stringOp, if_neg hle, Sem.run_pure]
    rfl
  · split at h
    · rename_i k b k' d hx hy
      obtain ⟨hk, h⟩ := h.ok
      have hk := of_decide_eq_true hk
      subst hk
      have fin : ∀ v : Value, (binOp op t (.int k b) (.int k d) = Pure.pure v) → Eff P B o (opd x ++ opd y) σ (wrT o.dst (.im (.val v))) := fun v hv =>
        Eff.pure hd fun σ' hag a w ρ hs => by
          have h1 := evA_ok hs x
          have h2 := evA_ok hs y
          rw [evA_same (agree_l hag)] at h1
          rw [evA_same (agree_r hag)] at h2
          refine ⟨v, ?_, val_rep _⟩
          have hg : ∀ W, (eqGuard op t x y (.int k b) (.int k d)).run P W = .ok () W := fun W => by
            unfold eqGuard
            cases op <;> rfl
          simp only [execOp, hop, asInt_inv hx h1, asInt_inv hy h2, Sem.run_bind, hg, Result.andThen_ok, hv, Sem.run_pure]
      cases op <;> simp only at h
      case add => obtain ⟨h1, h⟩ := h.out; exact ⟨_, h, fin _ (by simp [binOp, Op.intArith, rng_wrap h1])⟩
      case sub => obtain ⟨h1, h⟩ := h.out; exact ⟨_, h, fin _ (by simp [binOp, Op.intArith, rng_wrap h1])⟩
      case mul => obtain ⟨h1, h⟩ := h.out; exact ⟨_, h, fin _ (by simp [binOp, Op.intArith, rng_wrap h1])⟩
      case quo =>
        obtain ⟨⟨h1, h2, h3⟩, h⟩ := h.out
        exact ⟨_, h, fin _ (by simp [binOp, Op.intDiv, Int.tdiv_eq_ediv_of_nonneg h2, rng_wrap h1]; omega)⟩
      case rem =>
        obtain ⟨⟨h1, h2, h3⟩, h⟩ := h.out
        exact ⟨_, h, fin _ (by simp [binOp, Op.intDiv, Int.tmod_eq_emod_of_nonneg h2]; omega)⟩
      case eql => exact ⟨_, h, fin _ (by simp [binOp, Op.intCmp]; rfl)⟩
      case neq => exact ⟨_, h, fin _ (by simp [binOp, Op.intCmp, bne]; rfl)⟩
      case lss => exact ⟨_, h, fin _ (by simp [binOp, Op.intCmp])⟩
      case leq => exact ⟨_, h, fin _ (by simp [binOp, Op.intCmp])⟩
      case gtr => exact ⟨_, h, fin _ (by simp [binOp, Op.intCmp])⟩
      case geq => exact ⟨_, h, fin _ (by simp [binOp, Op.intCmp])⟩
      all_goals exact h.elim
    · split at h
      · rename_i b d hx hy
        have fin : ∀ v : Value, (∀ W, (binOp op t (.bool b) (.bool d)).run P W = .ok v W) → Eff P B o (opd x ++ opd y) σ (wrT o.dst (.im (.val v))) := fun v hv =>
          Eff.pure hd fun σ' hag a w ρ hs => by
            have h1 := evA_ok hs x
            have h2 := evA_ok hs y
            rw [evA_same (agree_l hag)] at h1
            rw [evA_same (agree_r hag)] at h2
            refine ⟨v, ?_, val_rep _⟩
            have hg : ∀ W, (eqGuard op t x y (.bool b) (.bool d)).run P W = .ok () W := fun W => by
              unfold eqGuard
              cases op <;> rfl
            simp only [execOp, hop, asBool_inv hx h1, asBool_inv hy h2, Sem.run_bind, hg, Result.andThen_ok, hv, Sem.run_pure]
        have hbl : isBl P t = true → P.underlying t = some .bool := fun e => by
          unfold isBl at e
          split at e
          · assumption
          · cases e
        cases op <;> simp only at h
        case eql => obtain ⟨h1, h⟩ := h.ok; exact ⟨_, h, fin _ (fun W => run_eql_bool W t b d (hbl h1))⟩
        case neq => obtain ⟨h1, h⟩ := h.ok; exact ⟨_, h, fin _ (fun W => run_neq_bool W t b d (hbl h1))⟩
        all_goals exact h.elim
      · exact h.elim

theorem aConvert_ok {s d : TypeId} {x : Operand} (hop : o.op = .convert s d x) (hd : dstOk B.n o = true) (hsrc : ∃ u, P.underlying s = some u) (h : aConvert P o σ K d x) : ∃ fx, K fx ∧ Eff P B o fx.rd σ fx.wr := by
  unfold aConvert at h
  split at h
  · rename_i k0 n k hx hu
    obtain ⟨h1, h⟩ := h.out
    obtain ⟨u, hs0⟩ := hsrc
    refine ⟨_, h, Eff.pure hd fun σ' hag a w ρ hs => ⟨.int k n, ?_, val_rep _⟩⟩
    have h2 := evA_ok hs x
    rw [evA_same hag] at h2
    simp [execOp, hop, asInt_inv hx h2, convert, run_underlying hu, run_underlying hs0, Conv.intToInt, rng_wrap h1]
  · exact h.elim
end

end Go.Proofs.YthahbiahlpcgeaaGreatDoor.Sym
