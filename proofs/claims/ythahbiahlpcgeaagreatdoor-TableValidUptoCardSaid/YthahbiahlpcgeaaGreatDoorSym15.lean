/-
  The plain reading at work: a function's contract out of its code; the steps of a walk; how values are written.
-/
import Derived.Test.YthahbiahlpcgeaaGreatDoorSym14
namespace Go.Proofs.YthahbiahlpcgeaaGreatDoor.Sym
open Go.RowKit

def OkOc : Oc → Prop
  | .im x => Ok x
  | .ow (.row _ _ es) => OkL es
  | .ow (.grid _ _ _ gs _) => gs.length ≤ 17592186044416
  | .ow _ => True
def OkOcs : List Oc → Prop
  | [] => True
  | c :: l => OkOc c ∧ OkOcs l
def OkA : Arg → Prop
  | .im x => Ok x
  | .ow k => OkOc (.ow k)
  | .box _ cs => OkOcs cs
  | .lent k => OkOc (.ow k)
def OkAs : List Arg → Prop
  | [] => True
  | x :: l => OkA x ∧ OkAs l
theorem okOc_of {w : World} {S : Nat → Prop} {u : Value} : ∀ {c : Oc} {F : List Nat}, OcOk w S u c F → OkOc c
  | .im x, _, h => ⟨w, S, u, h.1⟩
  | .ow (.row _ _ es), _, ⟨_, _, ⟨ws, h1, h2, h3, h4, h5, h6, h7⟩, _⟩ => ⟨h3, ok_flat h5 h7⟩
  | .ow (.grid _ _ _ gs _), _, ⟨_, _, ⟨_, _, _, h, _⟩, _⟩ => h
  | .ow (.map _), _, _ => trivial
  | .ow .dead, _, _ => trivial
  | .ow (.box _ _), _, _ => trivial
theorem okOcs_of {w : World} {S : Nat → Prop} : ∀ {us : List Value} {cs : List Oc} {F : List Nat}, OcsOk w S us cs F → OkOcs cs
  | [], [], _, _ => trivial
  | _ :: _, _ :: _, _, ⟨_, _, h1, h2, _⟩ => ⟨okOc_of h1, okOcs_of h2⟩
  | [], _ :: _, _, h => h.elim
  | _ :: _, [], _, h => h.elim
theorem okA_of {w : World} {S : Nat → Prop} {u : Value} : ∀ {x : Arg} {F : List Nat}, ArgOk w S u x F → OkA x
  | .im x, _, h => ⟨w, S, u, h.1⟩
  | .ow k, _, h => okOc_of (c := .ow k) h
  | .box _ _, _, ⟨_, _, _, _, _, _, h, _⟩ => okOcs_of h
  | .lent k, _, h => okOc_of (c := .ow k) h
theorem oks_of {w : World} {S : Nat → Prop} : ∀ {us : List Value} {xs : List Arg} {F : List Nat}, ArgsOk w S us xs F → OkAs xs
  | [], [], _, _ => trivial
  | _ :: _, _ :: _, _, ⟨_, _, h1, h2, _⟩ => ⟨okA_of h1, oks_of h2⟩
  | [], _ :: _, _, h => h.elim
  | _ :: _, [], _, h => h.elim

/-- A function whose code reads so has the contract. -/
theorem sp_of {P : Program} {f : FuncId} {fn : Func} {c : Code} {xs : List Arg} {r : Rs} (hm : P.follows .mixedOrders = true) (own : List Nat) (hf : P.funcs[f]? = some fn) (hname : (fn.name == "runtime.NumGoroutine") = false) (hb : fn.body = some c)
    (hn : xs.length ≤ fn.ntmps) (hok : entOk xs = true) (h : OkAs xs → frcW (entW xs) 0 sig0 fun _ σ => aCode P (Sp P) fn.ntmps own c (retK P fn.results.toList xs r) σ) : Sp P f xs r :=
  sp_of_code hm (C := Sp P) (fun _ _ _ h => h) hf hname hb hn hok fun _ _ _ _ ha => by
    have := h (oks_of ha)
    rw [frcW_eq] at this
    exact this

/-- What a call hands back may be read as a value that nobody turns. -/
inductive FrzL : List Oc → List Oc → Prop
  | nil : FrzL [] []
  | keep (c : Oc) {l l' : List Oc} (h : FrzL l l') : FrzL (c :: l) (c :: l')
  | row {e : TypeId} {k : Nat} {es : List (List IV)} {l l' : List Oc} (h : FrzL l l') : FrzL (.ow (.row e k es) :: l) (.im (.sl es) :: l')
  | grid {e e' : TypeId} {k : Nat} {gs : List (List IV)} {l l' : List Oc} (h : FrzL l l') : FrzL (.ow (.grid e e' k gs none) :: l) (.im (.sl gs) :: l')
theorem RepI.up {w : World} {S S' : Nat → Prop} (hS : ∀ b, S b → S' b) {v : Value} {x : IV} (h : RepI w S v x) : RepI w S' v x := h.mono hS fun _ _ _ h => h
theorem Sp.frz {P : Program} {g : FuncId} {xs : List Arg} {tp : Bool} {l l' : List Oc} {ys : List Arg} (hl : FrzL l l') (h : Sp P g xs (.mk tp l ys)) : Sp P g xs (.mk tp l' ys) :=
  ⟨h.1, fun w S vs F hS ha hn hF => (h.2 w S vs F hS ha hn hF).mono fun e w' ⟨v, F', h1, h2, ⟨us, F1, F2, h3, h4, h5, h6⟩, h7, h8⟩ => by
    subst h6
    rw [List.nodup_append] at h7
    -- the frozen blocks leave the footprint
    have hlt : ∀ b ∈ F1, (w.heap.size ≤ b ∨ b ∈ F) ∧ b < w'.heap.size := fun b hb => h8 b (List.mem_append_left _ hb)
    have key : ∀ (l l' : List Oc), FrzL l l' → ∀ (us : List Value) (F1 : List Nat) (S : Nat → Prop), OcsOk w' S us l F1 → F1.Nodup → ∃ Fk, Fk.Sublist F1 ∧ ∀ (S' : Nat → Prop), (∀ b, S b → S' b) → (∀ b ∈ F1, b ∉ Fk → S' b) → OcsOk w' S' us l' Fk := by
      intro l l' hl
      induction hl with
      | nil =>
        intro us F1 S h _
        match us, h with
        | [], h => exact ⟨[], List.nil_sublist _, fun _ _ _ => rfl⟩
      | keep c _ ih =>
        intro us F1 S h hnd
        match us, h with
        | u :: us, ⟨G1, G2, h1, h2, h3⟩ =>
          subst h3
          rw [List.nodup_append] at hnd
          obtain ⟨Fk, a1, a2⟩ := ih us G2 S h2 hnd.2.1
          exact ⟨G1 ++ Fk, List.Sublist.append_left a1 _, fun S' hS hF => ⟨G1, Fk, h1.mono fun u x hr => hr.up hS, a2 S' hS fun b hb hnb => hF b (by simp [hb]) fun hm => by
            rcases List.mem_append.1 hm with hm | hm
            · exact hnd.2.2 b hm b hb rfl
            · exact hnb hm, rfl⟩⟩
      | row _ ih =>
        intro us F1 S h hnd
        match us, h with
        | u :: us, ⟨G1, G2, ⟨_, inn, h1, e1⟩, h2, h3⟩ =>
          subst h3
          rw [List.nodup_append] at hnd
          obtain ⟨Fk, a1, a2⟩ := ih us G2 S h2 hnd.2.1
          refine ⟨[] ++ Fk, (List.nil_append Fk).symm ▸ a1.trans (List.sublist_append_right _ _), fun S' hS hF => ⟨[], Fk, ⟨RowOk.repI h1 (fun b hb => ?_) fun u x hr => hr.up hS, rfl⟩, a2 S' hS fun b hb hnb => hF b (by simp [hb]) (by simpa using hnb), rfl⟩⟩
          have hb1 : b ∈ G1 := by rw [e1]; simp [fpk, hb]
          exact ⟨hF b (by simp [hb1]) fun hm => hnd.2.2 b hb1 b (a1.subset (by simpa using hm)) rfl, rfl⟩
      | grid _ ih =>
        intro us F1 S h hnd
        match us, h with
        | u :: us, ⟨G1, G2, ⟨_, inn, h1, e1⟩, h2, h3⟩ =>
          subst h3
          rw [List.nodup_append] at hnd
          obtain ⟨Fk, a1, a2⟩ := ih us G2 S h2 hnd.2.1
          refine ⟨[] ++ Fk, (List.nil_append Fk).symm ▸ a1.trans (List.sublist_append_right _ _), fun S' hS hF => ⟨[], Fk, ⟨GridOk.repI h1 (fun b hb => ?_) fun u x hr => hr.up hS, rfl⟩, a2 S' hS fun b hb hnb => hF b (by simp [hb]) (by simpa using hnb), rfl⟩⟩
          have hb1 : b ∈ G1 := by rw [e1]; exact hb
          exact ⟨hF b (by simp [hb1]) fun hm => hnd.2.2 b hb1 b (a1.subset (by simpa using hm)) rfl, rfl⟩
    obtain ⟨Fk, a1, a2⟩ := key l l' hl us F1 _ h4 h7.1
    have hsub : ∀ b, b ∈ Fk ++ F2 → b ∈ F1 ++ F2 := fun b hb => by
      rcases List.mem_append.1 hb with hb | hb
      · exact List.mem_append_left _ (a1.subset hb)
      · exact List.mem_append_right _ hb
    have hup : ∀ b, ((S b ∨ w.heap.size ≤ b ∨ b ∈ F) ∧ b < w'.heap.size ∧ b ∉ F1 ++ F2) → ((S b ∨ w.heap.size ≤ b ∨ b ∈ F) ∧ b < w'.heap.size ∧ b ∉ Fk ++ F2) := fun b hb => ⟨hb.1, hb.2.1, fun hm => hb.2.2 (hsub b hm)⟩
    refine ⟨v, Fk ++ F2, h1, h2, ⟨us, Fk, F2, h3, a2 _ hup fun b hb hnb => ⟨.inr (hlt b hb).1, (hlt b hb).2, fun hm => ?_⟩, h5.mono fun u x hr => hr.up hup, rfl⟩, ?_, fun b hb => h8 b (hsub b hb)⟩
    · rcases List.mem_append.1 hm with hm | hm
      · exact hnb hm
      · exact h7.2.2 b hb b hm rfl
    · rw [List.nodup_append]
      exact ⟨a1.nodup h7.1, h7.2.1, fun x hx y hy => h7.2.2 x (a1.subset hx) y hy⟩⟩
theorem Sp.im {P : Program} {g : FuncId} {xs : List Arg} {e : TypeId} {k : Nat} {es : List (List IV)} (h : Sp P g xs (.row e k es)) : Sp P g xs (.im (.sl es)) := Sp.frz (.row .nil) h
theorem Sp.args {P : Program} {g : FuncId} {xs ys : List Arg} {r : Rs} (h : Sp P g xs r) (e : ys = xs) : Sp P g ys r := e ▸ h
theorem Sp.rs {P : Program} {g : FuncId} {xs : List Arg} {r r' : Rs} (h : Sp P g xs r) (e : r = r') : Sp P g xs r' := e ▸ h

/-- How values are written. -/
abbrev cI (x : Int) : List IV := [.val (.int .i64 x)]
abbrev cY (x : Int) : List IV := [.val (.int .u8 x)]
abbrev cU (x : Int) : List IV := [.val (.int .u64 x)]
abbrev cB (x : Bool) : List IV := [.val (.bool x)]
abbrev cS (x : ByteArray) : List IV := [.val (.string x)]
abbrev cL {α : Type} (c : α → List IV) (l : List α) : List IV := [.sl (l.map c)]
abbrev nI (n : Int) : IV := .val (.int .i64 n)
abbrev nY (n : Int) : IV := .val (.int .u8 n)
abbrev nU (n : Int) : IV := .val (.int .u64 n)
abbrev nB (b : Bool) : IV := .val (.bool b)
abbrev nS (s : ByteArray) : IV := .val (.string s)
abbrev nL {α : Type} (c : α → List IV) (l : List α) : IV := .sl (l.map c)

instance (n : Int) : Decidable (inR n) := by unfold inR; infer_instance
instance (n b : Nat) : Decidable (capOk n b) := by unfold capOk; infer_instance

/-- Rounds at most. -/
def fuel : Nat := 1000000000000000000000

section
variable {α β : Type}
def chk (c : Prop) [Decidable c] (k : Option α) : Option α := if c then k else none
def idx (l : List α) (n : Int) (k : α → Option β) : Option β := if 0 ≤ n then (match l[n.toNat]? with | some x => k x | none => none) else none
theorem chk_some {c : Prop} [Decidable c] {k : Option α} {r : α} (h : chk c k = some r) : c ∧ k = some r := by
  unfold chk at h
  split at h
  · exact ⟨‹_›, h⟩
  · cases h
theorem idx_some {l : List α} {n : Int} {k : α → Option β} {r : β} (h : idx l n k = some r) : ∃ x, 0 ≤ n ∧ l[n.toNat]? = some x ∧ k x = some r := by
  unfold idx at h
  split at h
  · split at h
    · rename_i x hx
      exact ⟨x, ‹_›, hx, h⟩
    · cases h
  · cases h
theorem bind_some {o : Option α} {f : α → Option β} {r : β} (h : o.bind f = some r) : ∃ x, o = some x ∧ f x = some r := by
  cases o with
  | none => cases h
  | some x => exact ⟨x, rfl, h⟩
theorem sum_inl {Y Z R : Type} {f : Y → Option R} {g : Z → Option R} {y : Y} {r : R} (h : Sum.elim f g (.inl y) = some r) : f y = some r := h
theorem cond_t {b : Bool} {x y z : α} (hb : b = true) (h : cond b x y = z) : x = z := by rw [hb] at h; exact h
theorem cond_f {b : Bool} {x y z : α} (hb : b = false) (h : cond b x y = z) : y = z := by rw [hb] at h; exact h
def idxn (l : List α) (n : Nat) (k : α → Option β) : Option β := match l[n]? with | some x => k x | none => none
theorem idxn_some {l : List α} {n : Nat} {k : α → Option β} {r : β} (h : idxn l n k = some r) : ∃ x, l[n]? = some x ∧ k x = some r := by
  unfold idxn at h
  split at h
  · rename_i x hx
    exact ⟨x, hx, h⟩
  · cases h
theorem beq_tt {b : Bool} (h : (b == true) = true) : b = true := by cases b <;> simp_all
theorem beq_tf {b : Bool} (h : (b == true) = false) : b = false := by cases b <;> simp_all
theorem beq_ff {b : Bool} (h : (b == false) = true) : b = false := by cases b <;> simp_all
theorem beq_ft {b : Bool} (h : (b == false) = false) : b = true := by cases b <;> simp_all
theorem tt_beq {b : Bool} (h : b = true) : (b == true) = true := by rw [h]; rfl
theorem ff_beq {b : Bool} (h : b = false) : (b == false) = true := by rw [h]; rfl
theorem tf_beq {b : Bool} (h : b = true) : (b == false) = false := by rw [h]; rfl
theorem ft_beq {b : Bool} (h : b = false) : (b == true) = false := by rw [h]; rfl
theorem full_map {l : List α} {c : α → β} : l.map c = ((l.map c).take ((l.map c).length : Int).toNat).drop 0 := by rw [Int.toNat_natCast, List.take_length]; rfl
theorem map_at {l : List α} {c : α → β} {i : Nat} {x : α} (h : l[i]? = some x) : (l.map c)[i]? = some (c x) := by rw [List.getElem?_map, h]; rfl
theorem map_lt {l : List α} {c : α → β} {i : Nat} {x : α} (h : l[i]? = some x) : i < (l.map c).length := by
  rw [List.length_map]
  exact (List.getElem?_eq_some_iff.1 h).1
theorem map_len {l : List α} {c : α → List β} {k : Nat} (h : ∀ x, (c x).length = k) : ∀ e ∈ l.map c, e.length = k := fun e he => by
  obtain ⟨x, _, rfl⟩ := List.mem_map.1 he
  exact h x
theorem len_map {l : List α} {c : α → β} : l.length = (l.map c).length := (List.length_map _).symm
theorem app_map {l m : List α} {c : α → β} : (l ++ m).map c = l.map c ++ m.map c := List.map_append
theorem take_map {l : List α} {c : α → β} {n : Nat} : (l.take n).map c = ((l.map c).take n).drop 0 := by rw [List.map_take]; rfl
theorem drop_map {l : List α} {c : α → β} {n : Nat} : (l.drop n).map c = ((l.map c).take ((l.map c).length : Int).toNat).drop n := by rw [List.map_drop, Int.toNat_natCast, List.take_length]
theorem cut_map {l : List α} {c : α → β} {n m : Nat} : ((l.take n).drop m).map c = ((l.map c).take n).drop m := by rw [List.map_drop, List.map_take]
theorem set_map {l : List α} {c : α → List β} {i : Nat} {x y : α} {j : Nat} {xs : List β} (h : c y = splice (c x) j xs) : (l.set i y).map c = (l.map c).set i (splice (c x) j xs) := by rw [List.map_set, h]
end

/-- Maps as lists of keys and values. -/
abbrev wI (n : Int) : Value := .int .i64 n
abbrev wB (b : Bool) : Value := .bool b
abbrev wS (s : ByteArray) : Value := .string s
section
variable {κ ν : Type}
def mapV (f : κ → Value) (g : ν → Value) (m : List (κ × ν)) : List (Value × Value) := m.map fun p => (f p.1, g p.2)
def mget [BEq κ] (k : κ) : List (κ × ν) → Option ν
  | [] => none
  | p :: m => match k == p.1 with | true => some p.2 | false => mget k m
def mset [BEq κ] (k : κ) (v : ν) : List (κ × ν) → List (κ × ν)
  | [] => [(k, v)]
  | p :: m => match k == p.1 with | true => (k, v) :: m | false => p :: mset k v m
theorem find_str (k : ByteArray) (g : ν → Value) : ∀ m : List (ByteArray × ν), findV .string (.string k) (mapV wS g m) = some ((mget k m).map g)
  | [] => rfl
  | p :: m => by
    have ih := find_str k g m
    unfold mapV at ih ⊢
    rw [List.map_cons]
    unfold findV mget
    simp only [Instr.sameNow]
    cases k == p.1 with
    | true => rfl
    | false => exact ih
theorem find_int (k : Int) (g : ν → Value) : ∀ m : List (Int × ν), findV (.int .i64) (.int .i64 k) (mapV wI g m) = some ((mget k m).map g)
  | [] => rfl
  | p :: m => by
    have ih := find_int k g m
    unfold mapV at ih ⊢
    rw [List.map_cons]
    unfold findV mget
    simp only [Instr.sameNow, if_true]
    cases k == p.1 with
    | true => rfl
    | false => exact ih
theorem set_str (k : ByteArray) (v : ν) (g : ν → Value) : ∀ m : List (ByteArray × ν), setV .string (.string k) (g v) (mapV wS g m) = some (mapV wS g (mset k v m))
  | [] => rfl
  | p :: m => by
    have ih := set_str k v g m
    unfold mapV at ih ⊢
    rw [List.map_cons]
    unfold setV mset
    simp only [Instr.sameNow]
    cases k == p.1 with
    | true => rfl
    | false => simp only [ih]; rfl
theorem set_int (k : Int) (v : ν) (g : ν → Value) : ∀ m : List (Int × ν), setV (.int .i64) (.int .i64 k) (g v) (mapV wI g m) = some (mapV wI g (mset k v m))
  | [] => rfl
  | p :: m => by
    have ih := set_int k v g m
    unfold mapV at ih ⊢
    rw [List.map_cons]
    unfold setV mset
    simp only [Instr.sameNow, if_true]
    cases k == p.1 with
    | true => rfl
    | false => simp only [ih]; rfl
theorem getD_map {g : ν → Value} {d : ν} {z : Value} (h : g d = z) (o : Option ν) : g (o.getD d) = (o.map g).getD z := by cases o <;> simp [h]
theorem isSome_map {g : ν → Value} (o : Option ν) : o.isSome = (o.map g).isSome := by cases o <;> rfl
theorem clr_map {α β : Type} {c : α → β} {z : α} {e : β} {l : List α} {k : Nat} (hc : c z = e) : (l.take k ++ List.replicate (l.length - k) z).map c = (l.map c).take k ++ List.replicate ((l.map c).length - k) e := by rw [List.map_append, List.map_take, List.map_replicate, List.length_map, hc]
theorem cut_own {α β : Type} {c : α → β} {l : List α} {k : Nat} : (l.take k).map c = (l.map c).take k := List.map_take
theorem len_own {α β : Type} {c : α → β} {l : List α} {k : Nat} : l.length - k = (l.map c).length - k := by rw [List.length_map]
theorem rep_map {α β : Type} {c : α → β} {z : α} {e : β} {n m : Nat} (h : n = m) (hc : c z = e) : (List.replicate n z).map c = List.replicate m e := by rw [List.map_replicate, h, hc]
end

theorem flat_map {α : Type} {f : α → Value} {l : List α} (h : ∀ x : α, ∃ v, (IV.val (f x)) = .val v) : ∀ e ∈ l.map (fun x => [IV.val (f x)]), ∀ x ∈ e, ∃ v, x = .val v := fun e he x hx => by
  obtain ⟨y, _, rfl⟩ := List.mem_map.1 he
  rcases List.mem_singleton.1 hx with rfl
  exact ⟨_, rfl⟩
theorem flat_row {e : TypeId} {k : Nat} {es : List (List IV)} (h : ∀ e ∈ es, ∀ x ∈ e, ∃ v, x = .val v) : flatRs (.mk false [.ow (.row e k es)] []) := ⟨fun c hc => by rcases List.mem_singleton.1 hc with rfl; exact h, fun y hy => by cases hy⟩
theorem flat_one {v : Value} : flatRs (.mk false [.im (.val v)] []) := ⟨fun c hc => by rcases List.mem_singleton.1 hc with rfl; exact ⟨v, rfl⟩, fun y hy => by cases hy⟩
theorem ok_len {α : Type} {c : α → List IV} {l : List α} (h : Ok (.sl (l.map c))) : l.length ≤ 17592186044416 := by have := h.sl.1; rwa [List.length_map] at this
theorem okl_len {α : Type} {c : α → List IV} {l : List α} (h : OkL (l.map c)) : l.length ≤ 17592186044416 := by have := h.1; rwa [List.length_map] at this
theorem Holds.avl {σ : St} {α : Type} {c : α → List IV} {l : List α} (t : Nat) (h : σ.av t = .im (.sl (l.map c))) : Holds σ (l.length ≤ 17592186044416) := (Holds.av t h).mono ok_len
theorem Holds.cel {σ : St} {α : Type} {c : α → List IV} {l : List α} (o i : Nat) {t : TypeId} {m : Nat} (hk : σ.kd o = .box t m) (hi : i < m) (h : σ.ce o i = .im (.sl (l.map c))) : Holds σ (l.length ≤ 17592186044416) := (Holds.ce o i hk hi h).mono ok_len
theorem Holds.kdl {σ : St} {α : Type} {c : α → List IV} {l : List α} (o : Nat) {t : TypeId} {k : Nat} (hk : σ.kd o = .row t k (l.map c)) : Holds σ (l.length ≤ 17592186044416) := (Holds.kd o hk).mono okl_len

/-- The value that several ways lead to, if they do. -/
def JoinS {Y Z : Type} (oc : Y ⊕ Z) (st : Y → St) (σ' : St) : Prop := ∃ y, oc = .inl y ∧ Ent σ' (st y)
theorem JoinS.mk0 {Y Z : Type} {oc : Y ⊕ Z} {st : Y → St} {σ' : St} (y : Y) (h : oc = .inl y) (e : Ent σ' (st y)) : JoinS oc st σ' := ⟨y, h, e⟩
theorem Cut.mkS {Y Z : Type} (oc : Y ⊕ Z) (st : Y → St) (φ : Y → Prop) {body : (St → Prop) → Prop} {rest : St → Prop} (hφ : ∀ y, Holds (st y) (φ y)) (h : body (JoinS oc st)) (k : ∀ y, oc = .inl y → φ y → rest (st y)) : Cut body rest := by
  unfold Cut
  have e : JoinS oc st = fun σ' => ∃ σ1, Ent σ' σ1 ∧ ∃ y, oc = .inl y ∧ σ1 = st y := funext fun σ' => propext ⟨fun ⟨y, h1, h2⟩ => ⟨_, h2, y, h1, rfl⟩, fun ⟨σ1, h1, y, h2, h3⟩ => ⟨y, h2, h3 ▸ h1⟩⟩
  rw [e] at h
  refine ⟨fun σ1 => ∃ y, oc = .inl y ∧ σ1 = st y, h, ?_⟩
  rintro σ ⟨y, h1, rfl⟩
  exact ⟨φ y, hφ y, k y h1⟩
attribute [irreducible] JoinS
theorem JoinS.mk' {Y Z : Type} {oc : Y ⊕ Z} {st : Y → St} {σ' : St} (y : Y) (h : oc = .inl y) (e : Ent σ' (st y)) : JoinS oc st σ' := by unfold JoinS; exact ⟨y, h, e⟩

end Go.Proofs.YthahbiahlpcgeaaGreatDoor.Sym
