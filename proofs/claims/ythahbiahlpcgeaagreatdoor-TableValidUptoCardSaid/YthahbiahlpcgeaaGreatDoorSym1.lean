/-
  A plain reading of the program's code: states without memory. What a piece of code does is said of values that read as lists; a later text shows that the model does the same, in whatever order it carries out a region. No function of the program in sight.
-/
import Derived.Test.YthahbiahlpcgeaaGreatDoorSym0
namespace Go.Proofs.YthahbiahlpcgeaaGreatDoor.Sym
open Go.RowKit

/-- A value whose memory nobody turns any more. -/
inductive IV where
  | val (v : Value)
  | ex (v : Value)
  | any
  | sl (es : List (List IV))
  | agg (cs : List IV)
  | ref (cs : List IV)
  | fn (f : FuncId) (caps : List IV)

/-- A value in a frame: it may lead to memory that the frame itself turns. -/
inductive AV where
  | im (x : IV)
  | own (o g i : Nat)
  | osl (o g : Nat)
  | elt (o g k i j : Nat)
  | sub (o g i : Nat)
  | elt2 (o g i k j c : Nat)
  | osv (o g k m : Nat)
  | fn (f : FuncId) (caps : List AV)
  | agg (cs : List AV)
  | tup (cs : List AV)

inductive Kd where
  | dead
  | box (t : TypeId) (m : Nat)
  | row (e : TypeId) (k : Nat) (es : List (List IV))
  | grid (e e' : TypeId) (k : Nat) (gs : List (List IV)) (hole : Option Nat)
  | map (l : List (Value × Value))

inductive Loc where
  | tmp (t : Nat)
  | gen (o : Nat)
  | ign (o : Nat)
  | knd (o : Nat)
  | cel (o i : Nat)
  deriving DecidableEq

def Loc.eqb : Loc → Loc → Bool
  | .tmp a, .tmp b => Nat.beq a b
  | .gen a, .gen b => Nat.beq a b
  | .ign a, .ign b => Nat.beq a b
  | .knd a, .knd b => Nat.beq a b
  | .cel a i, .cel b j => Nat.beq a b && Nat.beq i j
  | _, _ => false
theorem Loc.eqb_iff (a b : Loc) : a.eqb b = true ↔ a = b := by
  cases a <;> cases b <;> simp [Loc.eqb]
def Loc.code : Loc → Nat
  | .tmp t => Nat.mul 5 t
  | .gen t => Nat.succ (Nat.mul 5 t)
  | .knd t => Nat.add (Nat.mul 5 t) 2
  | .cel t j => Nat.add (Nat.mul 5 (Nat.add (Nat.mul 16 t) j)) 3
  | .ign t => Nat.add (Nat.mul 5 t) 4

inductive Ct where
  | av (a : AV)
  | n (g : Nat)
  | kd (k : Kd)

def St : Type := Loc → Ct
def upd (σ : St) (l : Loc) (c : Ct) : St := fun l' => match l'.eqb l with | true => c | false => σ l'
theorem upd_at (σ : St) (l : Loc) (c : Ct) (l' : Loc) : upd σ l c l' = if l' = l then c else σ l' := by
  unfold upd
  by_cases h : l' = l
  · rw [if_pos h, (Loc.eqb_iff l' l).2 h]
  · rw [if_neg h]
    cases e : l'.eqb l with
    | true => exact absurd ((Loc.eqb_iff l' l).1 e) h
    | false => rfl
def app (σ : St) : List (Loc × Ct) → St
  | [] => σ
  | (l, c) :: wr => app (upd σ l c) wr

def St.av (σ : St) (t : Nat) : AV := match σ (.tmp t) with | .av a => a | _ => .im .any
def St.gn (σ : St) (o : Nat) : Nat := match σ (.gen o) with | .n g => g | _ => 0
def St.ig (σ : St) (o : Nat) : Nat := match σ (.ign o) with | .n g => g | _ => 0
def St.kd (σ : St) (o : Nat) : Kd := match σ (.knd o) with | .kd k => k | _ => .dead
def St.ce (σ : St) (o i : Nat) : AV := match σ (.cel o i) with | .av a => a | _ => .im .any

section
variable (σ : St)
theorem app_nil : app σ [] = σ := rfl
theorem app_cons (p : Loc × Ct) (wr : List (Loc × Ct)) : app σ (p :: wr) = app (upd σ p.1 p.2) wr := rfl
theorem av_tmp (d t : Nat) (v : AV) : (upd σ (.tmp d) (.av v)).av t = if t = d then v else σ.av t := by
  unfold St.av
  rw [upd_at]
  by_cases h : t = d
  · subst h; simp
  · simp [h]
theorem av_gen (o t : Nat) (c : Ct) : (upd σ (.gen o) c).av t = σ.av t := by simp [St.av, upd_at]
theorem av_ign (o t : Nat) (c : Ct) : (upd σ (.ign o) c).av t = σ.av t := by simp [St.av, upd_at]
theorem ig_ign (o t g : Nat) : (upd σ (.ign o) (.n g)).ig t = if t = o then g else σ.ig t := by
  unfold St.ig
  rw [upd_at]
  by_cases h : t = o
  · subst h; simp
  · simp [h]
theorem ig_tmp (d t : Nat) (c : Ct) : (upd σ (.tmp d) c).ig t = σ.ig t := by simp [St.ig, upd_at]
theorem ig_gen (d t : Nat) (c : Ct) : (upd σ (.gen d) c).ig t = σ.ig t := by simp [St.ig, upd_at]
theorem ig_knd (d t : Nat) (c : Ct) : (upd σ (.knd d) c).ig t = σ.ig t := by simp [St.ig, upd_at]
theorem ig_cel (d i t : Nat) (c : Ct) : (upd σ (.cel d i) c).ig t = σ.ig t := by simp [St.ig, upd_at]
theorem gn_ign (d t : Nat) (c : Ct) : (upd σ (.ign d) c).gn t = σ.gn t := by simp [St.gn, upd_at]
theorem kd_ign (d t : Nat) (c : Ct) : (upd σ (.ign d) c).kd t = σ.kd t := by simp [St.kd, upd_at]
theorem ce_ign (d p j : Nat) (c : Ct) : (upd σ (.ign d) c).ce p j = σ.ce p j := by simp [St.ce, upd_at]
theorem av_knd (o t : Nat) (c : Ct) : (upd σ (.knd o) c).av t = σ.av t := by simp [St.av, upd_at]
theorem av_cel (o i t : Nat) (c : Ct) : (upd σ (.cel o i) c).av t = σ.av t := by simp [St.av, upd_at]
theorem gn_gen (o t g : Nat) : (upd σ (.gen o) (.n g)).gn t = if t = o then g else σ.gn t := by
  unfold St.gn
  rw [upd_at]
  by_cases h : t = o
  · subst h; simp
  · simp [h]
theorem gn_tmp (d t : Nat) (c : Ct) : (upd σ (.tmp d) c).gn t = σ.gn t := by simp [St.gn, upd_at]
theorem gn_knd (d t : Nat) (c : Ct) : (upd σ (.knd d) c).gn t = σ.gn t := by simp [St.gn, upd_at]
theorem gn_cel (d i t : Nat) (c : Ct) : (upd σ (.cel d i) c).gn t = σ.gn t := by simp [St.gn, upd_at]
theorem kd_knd (o t : Nat) (k : Kd) : (upd σ (.knd o) (.kd k)).kd t = if t = o then k else σ.kd t := by
  unfold St.kd
  rw [upd_at]
  by_cases h : t = o
  · subst h; simp
  · simp [h]
theorem kd_tmp (d t : Nat) (c : Ct) : (upd σ (.tmp d) c).kd t = σ.kd t := by simp [St.kd, upd_at]
theorem kd_gen (d t : Nat) (c : Ct) : (upd σ (.gen d) c).kd t = σ.kd t := by simp [St.kd, upd_at]
theorem kd_cel (d i t : Nat) (c : Ct) : (upd σ (.cel d i) c).kd t = σ.kd t := by simp [St.kd, upd_at]
theorem ce_cel (o i p j : Nat) (v : AV) : (upd σ (.cel o i) (.av v)).ce p j = if p = o ∧ j = i then v else σ.ce p j := by
  unfold St.ce
  rw [upd_at]
  by_cases h : p = o ∧ j = i
  · obtain ⟨rfl, rfl⟩ := h; simp
  · simp [h]
theorem ce_tmp (d p j : Nat) (c : Ct) : (upd σ (.tmp d) c).ce p j = σ.ce p j := by simp [St.ce, upd_at]
theorem ce_gen (d p j : Nat) (c : Ct) : (upd σ (.gen d) c).ce p j = σ.ce p j := by simp [St.ce, upd_at]
theorem ce_knd (d p j : Nat) (c : Ct) : (upd σ (.knd d) c).ce p j = σ.ce p j := by simp [St.ce, upd_at]
end

/-- How a value reads; the blocks in S are those that nobody turns. -/
inductive RepI (w : World) (S : Nat → Prop) : Value → IV → Prop
  | val (v : Value) : RepI w S v (.val v)
  | ex (v : Value) (h1 : v.oneCell' = true) : RepI w S v (.ex v)
  | any (v : Value) : RepI w S v .any
  | emp (A : Option Addr) (c : Nat) : RepI w S (.slice A 0 c) (.sl [])
  | sl (b o c k n : Nat) (es : List (List IV)) (us : List Value) (hn : es.length = n) (hk : ∀ e ∈ es, e.length = k) (hc : n ≤ c) (hs : n ≤ 17592186044416) (hS : S b)
      (hl : us.length = es.flatten.length) (h1 : ∀ u ∈ us, u.oneCell' = true) (hu : ∀ (i : Nat) u, us[i]? = some u → w.cell? ⟨b, o + i, none⟩ = some u)
      (hr : ∀ (i : Nat) u x, us[i]? = some u → es.flatten[i]? = some x → RepI w S u x) : RepI w S (.slice (some ⟨b, o, none⟩) n c) (.sl es)
  | agg (us : List Value) (cs : List IV) (hl : us.length = cs.length) (h1 : ∀ u ∈ us, u.oneCell' = true) (hr : ∀ (i : Nat) u x, us[i]? = some u → cs[i]? = some x → RepI w S u x) : RepI w S (.agg us.toArray) (.agg cs)
  | ref (b o : Nat) (us : List Value) (cs : List IV) (hS : S b) (hl : us.length = cs.length) (h1 : ∀ u ∈ us, u.oneCell' = true) (hu : ∀ (i : Nat) u, us[i]? = some u → w.cell? ⟨b, o + i, none⟩ = some u)
      (hr : ∀ (i : Nat) u x, us[i]? = some u → cs[i]? = some x → RepI w S u x) : RepI w S (.pointer (some ⟨b, o, none⟩)) (.ref cs)
  | fn (f : FuncId) (us : List Value) (cs : List IV) (hl : us.length = cs.length) (hr : ∀ (i : Nat) u x, us[i]? = some u → cs[i]? = some x → RepI w S u x) : RepI w S (.func (.func f) #[] us.toArray) (.fn f cs)

/-- Where a frame's objects lie: their root values; the rows inside a grid, and how often these have changed place. -/
structure Ly where
  root : Nat → Value
  inn : Nat → List Value
  ig : Nat → Nat
instance : CoeFun Ly (fun _ => Nat → Value) := ⟨Ly.root⟩

/-- The same of a value that may lead to the frame's own objects: ρ says where they lie, γ which are the newest. -/
inductive RepA (w : World) (S : Nat → Prop) (ρ : Ly) (γ : Nat → Nat) : Value → AV → Prop
  | im (v : Value) (x : IV) (h : RepI w S v x) : RepA w S ρ γ v (.im x)
  | own (v : Value) (o g i : Nat) (h1 : v.oneCell' = true) (hg : g ≤ γ o) (h : γ o = g → ∃ b, ρ o = .pointer (some ⟨b, 0, none⟩) ∧ v = .pointer (some ⟨b, i, none⟩)) : RepA w S ρ γ v (.own o g i)
  | osl (v : Value) (o g : Nat) (h1 : v.oneCell' = true) (hg : g ≤ γ o) (h : γ o = g → v = ρ o) : RepA w S ρ γ v (.osl o g)
  | elt (v : Value) (o g k i j : Nat) (h1 : v.oneCell' = true) (hg : g ≤ γ o) (h : γ o = g → ∃ b n c, ρ o = .slice (some ⟨b, 0, none⟩) n c ∧ v = .pointer (some ⟨b, i * k + j, none⟩)) : RepA w S ρ γ v (.elt o g k i j)
  | sub (v : Value) (o g i : Nat) (h1 : v.oneCell' = true) (hg : g ≤ ρ.ig o) (h : ρ.ig o = g → (ρ.inn o)[i]? = some v) : RepA w S ρ γ v (.sub o g i)
  | elt2 (v : Value) (o g i k j c : Nat) (h1 : v.oneCell' = true) (hg : g ≤ ρ.ig o) (h : ρ.ig o = g → ∃ b n cp, (ρ.inn o)[i]? = some (.slice (some ⟨b, 0, none⟩) n cp) ∧ v = .pointer (some ⟨b, j * k + c, none⟩)) : RepA w S ρ γ v (.elt2 o g i k j c)
  | osv (v : Value) (o g k m : Nat) (h1 : v.oneCell' = true) (hg : g ≤ γ o) (h : γ o = g → ∃ b n c, ρ o = .slice (some ⟨b, 0, none⟩) n c ∧ k ≤ n ∧ v = .slice (if c = k then some ⟨b, 0, none⟩ else some ⟨b, k * m, none⟩) (n - k) (c - k)) : RepA w S ρ γ v (.osv o g k m)
  | fn (f : FuncId) (us : List Value) (cs : List AV) (hl : us.length = cs.length) (hr : ∀ (i : Nat) u x, us[i]? = some u → cs[i]? = some x → RepA w S ρ γ u x) : RepA w S ρ γ (.func (.func f) #[] us.toArray) (.fn f cs)
  | agg (us : List Value) (cs : List AV) (hl : us.length = cs.length) (h1 : ∀ u ∈ us, u.oneCell' = true) (hr : ∀ (i : Nat) u x, us[i]? = some u → cs[i]? = some x → RepA w S ρ γ u x) : RepA w S ρ γ (.agg us.toArray) (.agg cs)
  | tup (us : List Value) (cs : List AV) (hl : us.length = cs.length) (hr : ∀ (i : Nat) u x, us[i]? = some u → cs[i]? = some x → RepA w S ρ γ u x) : RepA w S ρ γ (.tuple us.toArray) (.tup cs)

/-- Where a frame began. -/
structure Base where
  w0 : World
  S0 : Nat → Prop
  n : Nat
  /-- Blocks that were there and that the frame may turn. -/
  G : Nat → Prop
  /-- Blocks that are the frame's, and no object's yet. -/
  Z : Nat → Prop
  /-- The boxes that were lent, by the names that they keep. -/
  L : Nat → Option Value
def Mine (B : Base) (b : Nat) : Prop := B.w0.heap.size ≤ b ∨ B.G b
/-- Nothing below n has turned, but for what was given. -/
structure Belo (G : Nat → Prop) (n : Nat) (w w' : World) : Prop where
  os : w'.os = w.os
  tape : w'.tape = w.tape
  output : w'.output = w.output
  size : w.heap.size ≤ w'.heap.size
  block : ∀ k, k < n → ¬ G k → w'.heap[k]? = w.heap[k]?
theorem Belo.of {G : Nat → Prop} {n : Nat} {w w' : World} (h : Below n w w') : Belo G n w w' := ⟨h.os, h.tape, h.output, h.size, fun k hk _ => h.block k hk⟩
theorem Belo.below {G : Nat → Prop} {n : Nat} {w w' : World} (h : Belo G n w w') (hG : ∀ b, ¬ G b) : Below n w w' := ⟨h.os, h.tape, h.output, h.size, fun k hk => h.block k hk (hG k)⟩
theorem Belo.refl (G : Nat → Prop) (n : Nat) (w : World) : Belo G n w w := .of (Below.refl n w)
theorem Belo.trans {G : Nat → Prop} {n : Nat} {a b c : World} (h : Belo G n a b) (k : Belo G n b c) : Belo G n a c :=
  ⟨k.os.trans h.os, k.tape.trans h.tape, k.output.trans h.output, Nat.le_trans h.size k.size, fun i hi hg => (k.block i hi hg).trans (h.block i hi hg)⟩
theorem Belo.grown {G : Nat → Prop} {n : Nat} {a w w' : World} {row : Option Nat} (h : Belo G n a w) (hg : w.grownBy w' row) (hB : n ≤ w.heap.size) (hr : ∀ k, row = some k → n ≤ k ∨ G k) : Belo G n a w' :=
  h.trans ⟨hg.os, hg.tape, hg.output, hg.size, fun k hk hgk => hg.block k (by omega) fun e => by
    rcases hr k e.symm with h1 | h1
    · omega
    · exact hgk h1⟩

def blkOf : Value → Option Nat
  | .pointer (some a) => some a.block
  | .slice (some a) _ _ => some a.block
  | .map (some b) => some b
  | _ => none

def live (σ : St) (o : Nat) : Prop := σ.kd o ≠ .dead
def fpv (v : Value) (inn : List Value) : List Nat := (v :: inn).filterMap blkOf
/-- The blocks of an object. -/
def fpk (v : Value) (inn : List Value) : Kd → List Nat
  | .dead => []
  | .grid _ _ _ _ _ => fpv v inn
  | _ => (blkOf v).toList
def Owns (σ : St) (ρ : Ly) (o b : Nat) : Prop := b ∈ fpk (ρ o) (ρ.inn o) (σ.kd o)
/-- The blocks that nobody turns. -/
def Imm (B : Base) (σ : St) (ρ : Ly) (w : World) (b : Nat) : Prop :=
  (B.S0 b ∨ Mine B b) ∧ b < w.heap.size ∧ (∀ o, ¬ Owns σ ρ o b) ∧ ¬ B.Z b

/-- How a row of one's own lies in memory. -/
def RowOk (w : World) (S : Nat → Prop) (v : Value) (e : TypeId) (k : Nat) (es : List (List IV)) : Prop :=
  ∃ us : List Value, 0 < k ∧ (∀ x ∈ es, x.length = k) ∧ es.length ≤ 17592186044416 ∧ w.ownsRow 0 e k v es.length us ∧ us.length = es.flatten.length ∧ (∀ u ∈ us, u.oneCell' = true) ∧
    ∀ (i : Nat) u x, us[i]? = some u → es.flatten[i]? = some x → RepI w S u x
/-- A row of rows of one's own; the row at the hole has been taken out. -/
def GridOk (w : World) (S : Nat → Prop) (v : Value) (inn : List Value) (e e' : TypeId) (k : Nat) (gs : List (List IV)) (hole : Option Nat) : Prop :=
  (fpv v inn).Nodup ∧ inn.length = gs.length ∧ ∃ us : List Value, gs.length ≤ 17592186044416 ∧ w.ownsRow 0 e 1 v gs.length us ∧ (∀ u ∈ us, u.oneCell' = true) ∧
    ∀ (i : Nat) u, inn[i]? = some u → (hole = some i ∧ u = undef) ∨ (us[i]? = some u ∧ ∃ es, gs[i]? = some [.sl es] ∧ RowOk w S u e' k es)
/-- How an object lies that is no box. -/
def HoldOk (w : World) (S : Nat → Prop) (v : Value) (inn : List Value) : Kd → Prop
  | .row e k es => RowOk w S v e k es
  | .grid e e' k gs hole => GridOk w S v inn e e' k gs hole
  | .map l => ∃ (b clock : Nat) (es : Array MapEntry), v = .map (some b) ∧ w.heap[b]? = some (.map es clock) ∧ es.toList.map (fun e => (e.key, e.val)) = l
  | _ => False

/-- What holds of an object. -/
def ObjOk (B : Base) (σ : St) (ρ : Ly) (w : World) (o : Nat) : Kd → Prop
  | .dead => True
  | .box t m => ∃ (b : Nat) (us : List Value), ρ o = .pointer (some ⟨b, 0, none⟩) ∧ w.heap[b]? = some (.cells us.toArray t (0, 0)) ∧ us.length = m ∧ (∀ u ∈ us, u.oneCell' = true) ∧
      ∀ (i : Nat) u, us[i]? = some u → RepA w (Imm B σ ρ w) ρ σ.gn u (σ.ce o i)
  | k => HoldOk w (Imm B σ ρ w) (ρ o) (ρ.inn o) k

/-- A frame and its memory are as the state says. -/
structure SatR (B : Base) (σ : St) (a : Act) (w : World) (ρ : Ly) : Prop where
  bel : Belo B.G B.w0.heap.size B.w0 w
  obs : ∀ o, ObjOk B σ ρ w o (σ.kd o)
  own : ∀ o b, Owns σ ρ o b → Mine B b ∧ b < w.heap.size
  dis : ∀ o p b, Owns σ ρ o b → Owns σ ρ p b → o = p
  tms : ∀ t, RepA w (Imm B σ ρ w) ρ σ.gn (a.tmps.getD t undef) (σ.av t)
  igs : ∀ o, ρ.ig o = σ.ig o
  res : ∀ b, B.Z b → (Mine B b ∧ b < w.heap.size) ∧ ∀ o, ¬ Owns σ ρ o b
  rt : ∀ o v, B.L o = some v → σ.gn o = 0 → ρ o = v
  siz : a.tmps.size = B.n
  dfr : a.defers = []
def Sat (B : Base) (σ : St) (a : Act) (w : World) : Prop := ∃ ρ, SatR B σ a w ρ
/-- What holds in the one state holds in the other. -/
def Ent (σ σ' : St) : Prop := ∀ B a w, Sat B σ a w → Sat B σ' a w
/-- What follows from a state. -/
def Holds (σ : St) (φ : Prop) : Prop := ∀ B a w, Sat B σ a w → φ
/-- A loop. -/
def Loops (body : (Exit → St → Prop) → St → Prop) (K : Exit → St → Prop) (σ : St) : Prop :=
  ∃ (I : Nat → St → Prop) (m : Nat), I m σ ∧ ∀ m σ, I m σ → ∃ σ1 φ, Ent σ σ1 ∧ Holds σ1 φ ∧ (φ → body (fun e σ' => match e with | .normal => ∃ m', m' < m ∧ I m' σ' | e => K e σ') σ1)

/-- What an operation looks at, and what it writes. -/
structure Fx where
  rd : List Loc
  wr : List (Loc × Ct)

abbrev vI (n : Int) : AV := .im (.val (.int .i64 n))
abbrev vB (b : Bool) : AV := .im (.val (.bool b))
def ints (xs : List Int) : IV := .sl (xs.map fun x => [.val (.int .i64 x)])
def wrds (l : List (List Int)) : IV := .sl (l.map fun x => [ints x])
def lsts (l : List (List (List Int))) : IV := .sl (l.map fun x => [wrds x])
def trcs (l : List (List Int × List Int)) : IV := .sl (l.map fun t => [ints t.1, ints t.2])

/-- A part of a list that is written over. -/
def splice {α : Type} (e : List α) (j : Nat) (xs : List α) : List α := e.take j ++ xs ++ e.drop (j + xs.length)
/-- A condition on the side. -/
def Side (A B : Prop) : Prop := A ∧ B
/-- Both ways of a test. -/
def Both (b : Bool) (A B : Prop) : Prop := (b = true → A) ∧ (b = false → B)
/-- A check that computes. -/
def Chk (b : Bool) (A : Prop) : Prop := match b with | true => A | false => False
/-- In another spelling. -/
def Nf {α : Type} (a : α) (F : α → Prop) : Prop := ∃ b, b = a ∧ F b
/-- Where several ways meet. -/
def Cut (body : (St → Prop) → Prop) (rest : St → Prop) : Prop := ∃ Post : St → Prop, body (fun σ' => ∃ σ1, Ent σ' σ1 ∧ Post σ1) ∧ ∀ σ, Post σ → ∃ φ, Holds σ φ ∧ (φ → rest σ)
theorem Nf.mk {α : Type} {a : α} {F : α → Prop} (b : α) (h : b = a) (k : F b) : Nf a F := ⟨b, h, k⟩
theorem Side.mk {A B : Prop} (a : A) (b : B) : Side A B := ⟨a, b⟩
theorem Both.mk {b : Bool} {A B : Prop} (h : b = true → A) (k : b = false → B) : Both b A B := ⟨h, k⟩
theorem Both.yes {b : Bool} {A B : Prop} (e : b = true) (h : A) : Both b A B := ⟨fun _ => h, fun e' => absurd (e.symm.trans e') (by decide)⟩
theorem Both.no {b : Bool} {A B : Prop} (e : b = false) (h : B) : Both b A B := ⟨fun e' => absurd (e.symm.trans e') (by decide), fun _ => h⟩
theorem Chk.ok {b : Bool} {A : Prop} (h : Chk b A) : b = true ∧ A := by
  cases b with
  | true => exact ⟨rfl, h⟩
  | false => exact False.elim h

def opd : Operand → List Loc
  | .tmp t => [.tmp t]
  | _ => []
def evA (σ : St) : Operand → AV
  | .tmp t => σ.av t
  | .const v => .im (.val v)
  | .func f => .im (.fn f [])
  | .global _ => .im .any
def wrT : Option Tmp → AV → List (Loc × Ct)
  | some d, v => [(.tmp d, .av v)]
  | none, _ => []

def toIVs : List AV → Option (List IV)
  | [] => some []
  | .im x :: l => (toIVs l).map (x :: ·)
  | _ :: _ => none
/-- An aggregate out of its cells. -/
def aggA (cs : List AV) : AV := match toIVs cs with | some l => .im (.agg l) | none => .agg cs
/-- The cells of a value. -/
def cellsA : AV → Option (List AV)
  | .im (.agg cs) => some (cs.map .im)
  | .im (.val v) => if v.cells.toList.all (·.oneCell') = true then some (v.cells.toList.map fun u => .im (.val u)) else none
  | .agg cs => some cs
  | .im .any => none
  | .tup _ => none
  | v => some [v]

/-- The cells of a struct. -/
def aggCs : AV → Option (List AV)
  | .im (.agg cs) => some (cs.map .im)
  | .im (.val (.agg vs)) => if vs.toList.all (·.oneCell') = true then some (vs.toList.map fun u => .im (.val u)) else none
  | .agg cs => some cs
  | _ => none

def szOf (P : Program) (t : TypeId) : Option Nat := (P.info? t).map (·.size)
def aggOf (P : Program) (t : TypeId) : Option Bool := (P.underlying t).map fun d => match d with | .struct _ | .array .. => true | _ => false
def fldOf (P : Program) (t : TypeId) (f : Nat) : Option (Nat × TypeId) := match P.underlying t with | some (.struct fs) => (fs[f]?).map fun x => (x.offset, x.type) | _ => none
def elmOf (P : Program) (t : TypeId) : Option TypeId := match P.underlying t with | some (.slice e) => some e | _ => none
def zeroOf (P : Program) (t : TypeId) : Option (List Value) := match P.info? t with | some i => i.zero.map fun z => z.cells.toList | _ => none
def byteOf (P : Program) (t : TypeId) : Option Nat := (P.info? t).map (·.bytes)

/-- The numbers of an int. -/
def inR (n : Int) : Prop := -9223372036854775808 ≤ n ∧ n ≤ 9223372036854775807

/-- A part of what changes hands: a value that nobody turns, or an object. -/
inductive Oc where
  | im (x : IV)
  | ow (k : Kd)
/-- What a call is given: a value that nobody turns; an object that is given away; a box that is lent to be turned. -/
inductive Arg where
  | im (x : IV)
  | ow (k : Kd)
  | box (t : TypeId) (cs : List Oc)
  | lent (k : Kd)
instance : Coe IV Arg := ⟨.im⟩
@[match_pattern] abbrev Arg.row (e : TypeId) (k : Nat) (es : List (List IV)) : Arg := .ow (.row e k es)
/-- What a call hands back: a result or several, and what the boxes hold afterwards. -/
inductive Rs where
  | mk (tp : Bool) (l : List Oc) (ys : List Arg)
abbrev Rs.im (x : IV) : Rs := .mk false [.im x] []
abbrev Rs.row (e : TypeId) (k : Nat) (es : List (List IV)) : Rs := .mk false [.ow (.row e k es)] []
abbrev Rs.tup (l : List IV) : Rs := .mk true (l.map .im) []

/-- A result that leads to no memory but its own. -/
def flatOc : Oc → Prop
  | .im x => ∃ v, x = .val v
  | .ow (.row _ _ es) => ∀ e ∈ es, ∀ x ∈ e, ∃ v, x = .val v
  | .ow (.map _) => True
  | _ => False
def flatArg : Arg → Prop
  | .box _ cs => ∀ c ∈ cs, flatOc c
  | .lent k => flatOc (.ow k)
  | _ => False
def flatRs : Rs → Prop
  | .mk _ l ys => (∀ c ∈ l, flatOc c) ∧ ∀ y ∈ ys, flatArg y

/-- A new object's name is the slot. -/
def mkObj (σ : St) (o : Nat) (k : Kd) : List (Loc × Ct) := [(.gen o, .n (σ.gn o + 1)), (.knd o, .kd k)]
def mkObjK (σ : St) (o : Nat) (k : Kd) : List (Loc × Ct) := match k with
  | .grid _ _ _ _ _ => (.ign o, .n (σ.ig o + 1)) :: mkObj σ o k
  | _ => mkObj σ o k
/-- Names of objects inside a box that is given (to a function, and by it), and of a tuple's parts. -/
def nmB (i j : Nat) : Nat := Nat.add (Nat.add 2000 (Nat.mul 64 i)) j
def nmC (i j : Nat) : Nat := Nat.add (Nat.add 5000 (Nat.mul 64 i)) j
def nmR (d i : Nat) : Nat := Nat.add (Nat.add 3100 (Nat.mul 4 d)) i
/-- Where the parts are placed. -/
def ocPl (σ : St) (nm : Nat) : Oc → AV × List (Nat × Kd)
  | .im x => (.im x, [])
  | .ow k => (.osl nm (σ.gn nm + 1), [(nm, k)])
def ocsPl (σ : St) (f : Nat → Nat) : Nat → List Oc → List AV × List (Nat × Kd)
  | _, [] => ([], [])
  | i, c :: l => match ocPl σ (f i) c, ocsPl σ f (i + 1) l with | (a, s), (al, ss) => (a :: al, s ++ ss)
def insWr (σ : St) : List (Nat × Kd) → List (Loc × Ct)
  | [] => []
  | p :: l => mkObjK σ p.1 p.2 ++ insWr σ l
def insRd : List (Nat × Kd) → List Loc
  | [] => []
  | p :: l => .gen p.1 :: .ign p.1 :: insRd l

/-- nil read as a list. -/
def nz1 : IV → IV
  | .val (.slice none 0 0) => .sl []
  | .val (.map none) => .any
  | x => x
def nz : IV → IV
  | .agg cs => .agg (cs.map nz1)
  | .val (.agg vs) => if vs.toList.all (·.oneCell') = true then .agg (vs.toList.map fun v => nz1 (.val v)) else .any
  | x => nz1 x

/-- What a value reads as when nobody turns its memory any more; and the objects that are given up. -/
def fz1 (σ : St) : AV → Option (IV × List (Nat × Nat))
  | .im x => some (nz1 x, [])
  | .osl b g => match σ.kd b with | .row _ _ es => some (.sl es, [(b, g)]) | .grid _ _ _ gs none => some (.sl gs, [(b, g)]) | .map _ => some (.any, [(b, g)]) | _ => none
  | _ => none
def fzL (σ : St) : List AV → Option (List IV × List (Nat × Nat))
  | [] => some ([], [])
  | a :: l => match fz1 σ a, fzL σ l with | some (x, b), some (xs, bs) => some (x :: xs, b ++ bs) | _, _ => none
def boxLen (σ : St) (b : Nat) : Nat := match σ.kd b with | .box _ m => m | _ => 0
def boxCs (σ : St) (b : Nat) : List AV := (List.range (boxLen σ b)).map fun i => σ.ce b i
def fz2 (σ : St) : AV → Option (IV × List (Nat × Nat))
  | .im x => some (nz x, [])
  | .agg cs => (fzL σ cs).map fun p => (.agg p.1, p.2)
  | .own b g i => match σ.kd b with | .box _ _ => (fzL σ (boxCs σ b)).map fun p => (.ref (p.1.drop i), (b, g) :: p.2) | _ => none
  | a => fz1 σ a
def fzM (σ : St) : List AV → Option (List IV × List (Nat × Nat))
  | [] => some ([], [])
  | a :: l => match fz2 σ a, fzM σ l with | some (x, b), some (xs, bs) => some (x :: xs, b ++ bs) | _, _ => none
def fz (σ : St) : AV → Option (IV × List (Nat × Nat))
  | .fn f caps => (fzM σ caps).map fun p => (.fn f p.1, p.2)
  | a => fz2 σ a
def fzA (σ : St) : List AV → Option (List IV × List (Nat × Nat))
  | [] => some ([], [])
  | a :: l => match fz σ a, fzA σ l with | some (x, b), some (xs, bs) => some (x :: xs, b ++ bs) | _, _ => none
/-- What freezing looks at. -/
def boxRd (σ : St) (b : Nat) : List Loc := (List.range (boxLen σ b)).map fun i => .cel b i
def frd (σ : St) (bs : List (Nat × Nat)) : List Loc := bs.flatMap fun b => .gen b.1 :: .knd b.1 :: boxRd σ b.1
def fwr (bs : List (Nat × Nat)) : List (Loc × Ct) := bs.map fun b => (.knd b.1, .kd .dead)
/-- The names are the newest. -/
def gok (σ : St) : List (Nat × Nat) → Prop
  | [] => True
  | (b, g) :: bs => σ.gn b = g ∧ gok σ bs
def SideG (σ : St) (bs : List (Nat × Nat)) (A : Prop) : Prop := match bs with | [] => A | _ :: _ => Side (gok σ bs) A

def asInt : AV → Option (IntKind × Int)
  | .im (.val (.int k n)) => some (k, n)
  | _ => none
def asBool : AV → Option Bool
  | .im (.val (.bool b)) => some b
  | _ => none
def asStr : AV → Option ByteArray
  | .im (.val (.string s)) => some s
  | _ => none
def rng : IntKind → Int → Prop
  | .i64, n => inR n
  | .u8, n => 0 ≤ n ∧ n ≤ 255
  | .u64, n => 0 ≤ n ∧ n ≤ 18446744073709551615
  | _, _ => False
def capOk (n bytes : Nat) : Prop := n * bytes ≤ 140737488355328 ∧ n ≤ 17592186044416

section
variable (P : Program) (own : List Nat) (o : Oper) (σ : St) (K : Fx → Prop)

def aPick (c a b : Operand) : Prop :=
  match asBool (evA σ c) with
  | some t => Both t (K ⟨opd c ++ opd a ++ opd b, wrT o.dst (evA σ a)⟩) (K ⟨opd c ++ opd a ++ opd b, wrT o.dst (evA σ b)⟩)
  | none => False

def aLoad (t : TypeId) (p : Operand) : Prop :=
  match aggOf P t with
  | some false => match evA σ p with
    | .im (.ref (c :: _)) => K ⟨opd p, wrT o.dst (.im c)⟩
    | .own b g i => Chk (Nat.blt i (boxLen σ b)) (Side (σ.gn b = g) (K ⟨opd p ++ [.gen b, .knd b, .cel b i], wrT o.dst (σ.ce b i)⟩))
    | .elt b g k i j => match σ.kd b with
      | .row _ _ es => ∃ e c, (σ.gn b = g ∧ es[i]? = some e ∧ e[j]? = some c ∧ e.length = k) ∧ K ⟨opd p ++ [.gen b, .knd b], wrT o.dst (.im c)⟩
      | _ => False
    | _ => False
  | some true => match szOf P t with
    | some m => match evA σ p with
      | .im (.ref cs) => Chk (Nat.ble m cs.length) (K ⟨opd p, wrT o.dst (.im (.agg (cs.take m)))⟩)
      | .own b g i => Chk (Nat.blt 0 m && Nat.ble (i + m) (boxLen σ b)) (Side (σ.gn b = g) (K ⟨opd p ++ [.gen b, .knd b] ++ (List.range m).map (fun j => .cel b (i + j)), wrT o.dst (aggA ((List.range m).map fun j => σ.ce b (i + j)))⟩))
      | .elt b g k i j => match σ.kd b with
        | .row _ _ es => ∃ e, (σ.gn b = g ∧ es[i]? = some e ∧ j + m ≤ e.length ∧ e.length = k) ∧ K ⟨opd p ++ [.gen b, .knd b], wrT o.dst (.im (.agg ((e.drop j).take m)))⟩
        | _ => False
      | _ => False
    | none => False
  | none => False

/-- The cells of an object from a place on. -/
def celWr (b : Nat) : Nat → List AV → List (Loc × Ct)
  | _, [] => []
  | i, c :: cs => (.cel b i, .av c) :: celWr b (i + 1) cs

def aStore (t : TypeId) (p x : Operand) : Prop :=
  match szOf P t, cellsA (evA σ x) with
  | some m, some cs => Chk (Nat.beq cs.length m) (match evA σ p with
    | .own b g i => Chk (Nat.blt 0 m && Nat.ble (i + m) (boxLen σ b)) (Side (σ.gn b = g) (K ⟨opd p ++ opd x ++ [.gen b, .knd b], celWr b i cs ++ wrT o.dst (.im (.val undef))⟩))
    | _ => False)
  | _, _ => False

def aBox (t : TypeId) (x : Operand) : Prop :=
  match o.dst, cellsA (evA σ x) with
  | some d, some cs => match own.contains (700000 + d) with
    | true => match fzL σ cs with
      | some (xs, bs) => SideG σ bs (K ⟨opd x ++ frd σ bs, fwr bs ++ [(.tmp d, .av (.im (.ref xs)))]⟩)
      | none => False
    | false => K ⟨opd x ++ [.gen d], mkObj σ d (.box t cs.length) ++ celWr d 0 cs ++ [(.tmp d, .av (.own d (σ.gn d + 1) 0))]⟩
  | _, _ => False

def aAlloc (t : TypeId) : Prop :=
  match o.dst, zeroOf P t with
  | some d, some cs => Chk (cs.all (·.oneCell')) (K ⟨[.gen d], mkObj σ d (.box t cs.length) ++ celWr d 0 (cs.map fun v => .im (.val v)) ++ [(.tmp d, .av (.own d (σ.gn d + 1) 0))]⟩)
  | _, _ => False

def aFieldAddr (t : TypeId) (p : Operand) (f : Nat) : Prop :=
  match fldOf P t f with
  | some (off, ft) => match szOf P ft with
    | some m => Chk (Nat.blt 0 m) (match evA σ p with
      | .im (.ref cs) => K ⟨opd p, wrT o.dst (.im (.ref (cs.drop off)))⟩
      | .own b g i => Side (σ.gn b = g) (K ⟨opd p ++ [.gen b], wrT o.dst (.own b g (i + off))⟩)
      | .elt b g k i j => Side (σ.gn b = g) (K ⟨opd p ++ [.gen b], wrT o.dst (.elt b g k i (j + off))⟩)
      | _ => False)
    | none => False
  | none => False

def aField (t : TypeId) (x : Operand) (f : Nat) : Prop :=
  match fldOf P t f with
  | some (off, ft) => match aggCs (evA σ x) with
    | some cs => match aggOf P ft with
      | some false => match cs[off]? with
        | some c => K ⟨opd x, wrT o.dst c⟩
        | none => False
      | some true => match szOf P ft with
        | some m => Chk (Nat.ble (off + m) cs.length) (K ⟨opd x, wrT o.dst (aggA ((cs.drop off).take m))⟩)
        | none => False
      | none => False
    | none => False
  | none => False

def aIndexAddr (t : TypeId) (x i : Operand) : Prop :=
  match asInt (evA σ i), elmOf P t with
  | some (_, n), some et => match evA σ x with
    | .im (.sl es) => ∃ e, (0 ≤ n ∧ es[n.toNat]? = some e ∧ szOf P et = some e.length) ∧ K ⟨opd x ++ opd i, wrT o.dst (.im (.ref e))⟩
    | .osl b g => match σ.kd b with
      | .row _ _ es => match szOf P et with
        | some k => Side (0 ≤ n ∧ σ.gn b = g ∧ n.toNat < es.length) (K ⟨opd x ++ opd i ++ [.gen b, .knd b], wrT o.dst (.elt b g k n.toNat 0)⟩)
        | none => False
      | _ => False
    | _ => False
  | _, _ => False

def optI (σ : St) (d : Int) : Option Operand → Option Int
  | none => some d
  | some x => (asInt (evA σ x)).map (·.2)
def aSlice (t : TypeId) (x : Operand) (lo hi : Option Operand) : Prop :=
  match elmOf P t with
  | some et => match szOf P et with
    | some k => match nz (match evA σ x with | .im y => y | _ => .any) with
      | .sl es => match optI σ 0 lo, optI σ es.length hi with
        | some l, some h => Side (0 ≤ l ∧ l ≤ h ∧ h ≤ es.length ∧ ∀ e ∈ es, e.length = k) (Nf ((es.take h.toNat).drop l.toNat) fun r => K ⟨opd x ++ (lo.map opd).getD [] ++ (hi.map opd).getD [], wrT o.dst (.im (.sl r))⟩)
        | _, _ => False
      | _ => False
    | none => False
  | none => False

/-- The end of a row of one's own, beside the row itself. -/
def aSliceV (t : TypeId) (x : Operand) (b g : Nat) (lo : Operand) : Prop :=
  match elmOf P t, asInt (evA σ lo), σ.kd b with
  | some et, some (_, l), .row _ k es => match szOf P et with
    | some k' => Chk (Nat.beq k k') (Side (σ.gn b = g ∧ 0 ≤ l ∧ l.toNat ≤ es.length ∧ 0 < es.length) (K ⟨opd x ++ opd lo ++ [.gen b, .knd b], wrT o.dst (.osv b g l.toNat k)⟩))
    | none => False
  | _, _, _ => False
/-- A row of one's own is cut short. -/
def aSliceT (t : TypeId) (x : Operand) (b g : Nat) (hi : Operand) : Prop :=
  match elmOf P t, asInt (evA σ hi), σ.kd b, o.dst with
  | some et, some (_, l), .row et' k es, some d => match szOf P et with
    | some k' => Chk (Nat.beq k k') (Side (σ.gn b = g ∧ 0 ≤ l ∧ l.toNat ≤ es.length ∧ 0 < es.length)
      (Nf (es.take l.toNat) fun r => K ⟨opd x ++ opd hi ++ [.gen b, .knd b], (.knd b, .kd .dead) :: (mkObj σ b (.row et' k r) ++ [(.tmp d, .av (.osl b (σ.gn b + 1)))])⟩))
    | none => False
  | _, _, _, _ => False
def aLenV (x : Operand) (b g k : Nat) : Prop :=
  match σ.kd b with
  | .row _ _ es => Side (σ.gn b = g) (Nf (es.length - k) fun n => K ⟨opd x ++ [.gen b, .knd b], wrT o.dst (vI n)⟩)
  | _ => False
def aIndexV (t : TypeId) (x i : Operand) (b g k m : Nat) : Prop :=
  match asInt (evA σ i), elmOf P t, σ.kd b with
  | some (_, n), some et, .row _ _ es => match szOf P et with
    | some m' => Chk (Nat.beq m m') (Side (0 ≤ n ∧ σ.gn b = g ∧ k + n.toNat < es.length) (Nf (k + n.toNat) fun j => K ⟨opd x ++ opd i ++ [.gen b, .knd b], wrT o.dst (.elt b g m j 0)⟩))
    | none => False
  | _, _, _ => False
/-- The end of a row becomes zero. -/
def aClear (t : TypeId) (x : Operand) : Prop :=
  match elmOf P t, evA σ x with
  | some et, .osv b g k m => match σ.kd b, szOf P et, zeroOf P et with
    | .row et' k' es, some m', some z => Chk (Nat.beq m m' && Nat.beq k' m' && Nat.blt 0 m' && Nat.beq z.length m' && z.all (·.oneCell')) (Side (σ.gn b = g ∧ k ≤ es.length)
      (Nf (es.take k ++ List.replicate (es.length - k) (z.map fun v => nz1 (.val v))) fun r => K ⟨opd x ++ [.gen b, .knd b], (.knd b, .kd (.row et' k' r)) :: wrT o.dst (.im .any)⟩))
    | _, _, _ => False
  | _, _ => False
def aSlices (t : TypeId) (x : Operand) (lo hi : Option Operand) : Prop :=
  match evA σ x with
  | .osl b g => match lo, hi with
    | some l, none => aSliceV P o σ K t x b g l
    | none, some h => aSliceT P o σ K t x b g h
    | _, _ => False
  | _ => aSlice P o σ K t x lo hi
def aIndexes (t : TypeId) (x i : Operand) : Prop :=
  match evA σ x with
  | .osv b g k m => aIndexV P o σ K t x i b g k m
  | _ => aIndexAddr P o σ K t x i
def isStr (P : Program) (t : TypeId) : Bool := match P.underlying t with | some .string => true | _ => false
def aLen (t : TypeId) (x : Operand) : Prop :=
  match elmOf P t with
  | some _ => match evA σ x with
    | .im (.sl es) => Nf es.length fun n => K ⟨opd x, wrT o.dst (vI n)⟩
    | .im (.val (.slice _ n _)) => K ⟨opd x, wrT o.dst (vI n)⟩
    | .osl b g => match σ.kd b with
      | .row _ _ es => Side (σ.gn b = g) (Nf es.length fun n => K ⟨opd x ++ [.gen b, .knd b], wrT o.dst (vI n)⟩)
      | _ => False
    | _ => False
  | none => match asStr (evA σ x) with
    | some s => Chk (isStr P t) (K ⟨opd x, wrT o.dst (vI s.size)⟩)
    | none => False

def aLens (t : TypeId) (x : Operand) : Prop :=
  match evA σ x with
  | .osv b g k _ => match elmOf P t with
    | some _ => aLenV o σ K x b g k
    | none => False
  | _ => aLen P o σ K t x
def zOk (P : Program) (t : TypeId) (k : Nat) : Bool := match zeroOf P t with | some z => Nat.beq z.length k | none => false
def aAppend (t : TypeId) (x y : Operand) : Prop :=
  match o.dst, elmOf P t with
  | some d, some et => match szOf P et, byteOf P et, fz σ (evA σ y) with
    | some k, some by_, some (.sl new, []) => match evA σ x with
      | .im (.val (.slice none 0 0)) => Chk (Nat.blt 0 k && zOk P et k) (Side ((∀ e ∈ new, e.length = k) ∧ capOk new.length by_)
          (Nf new fun r => K ⟨opd x ++ opd y ++ [.gen d], mkObj σ d (.row et k r) ++ [(.tmp d, .av (.osl d (σ.gn d + 1)))]⟩))
      | .osl b g => match σ.kd b with
        | .row et' k' es => Chk (Nat.blt 0 k && Nat.beq et' et && Nat.beq k' k && zOk P et k) (Side (σ.gn b = g ∧ (∀ e ∈ new, e.length = k) ∧ capOk (es.length + new.length) by_)
            (Nf (es ++ new) fun r => K ⟨opd x ++ opd y ++ [.gen b, .knd b], (.knd b, .kd .dead) :: (mkObj σ b (.row et k r) ++ [(.tmp d, .av (.osl b (σ.gn b + 1)))])⟩))
        | _ => False
      | _ => False
    | _, _, _ => False
  | _, _ => False

/-- The cells of an element. -/
def cellsI : IV → List IV
  | .agg cs => cs
  | .any => []
  | .val v => if v.oneCell' = true then [.val v] else []
  | x => [x]
def partsAt (σ : St) : Nat → List (Nat × Operand) → Option (List IV × List (Nat × Nat))
  | _, [] => some ([], [])
  | i, (j, x) :: l => if i = j then match fz σ (evA σ x), partsAt σ (i + 1) l with | some (v, b), some (vs, bs) => some (v :: vs, b ++ bs) | _, _ => none else none
def opdL (l : List Operand) : List Loc := l.flatMap opd
def aBuildSlice (t : TypeId) (len : Nat) (parts : Array (Nat × Operand)) : Prop :=
  match o.dst, elmOf P t with
  | some d, some et => match szOf P et, partsAt σ 0 parts.toList with
    | some k, some (vs, bs) => Chk (Nat.beq vs.length len && Nat.ble (len * k) 65536 && Nat.blt 0 k && zOk P et k && vs.all fun v => Nat.beq (cellsI v).length k)
      (SideG σ bs (if own.contains d = true then K ⟨opdL (parts.toList.map (·.2)) ++ frd σ bs ++ [.gen d], fwr bs ++ (mkObj σ d (.row et k (vs.map cellsI)) ++ [(.tmp d, .av (.osl d (σ.gn d + 1)))])⟩
       else K ⟨opdL (parts.toList.map (·.2)) ++ frd σ bs, fwr bs ++ [(.tmp d, .av (.im (.sl (vs.map cellsI))))]⟩))
    | _, _ => False
  | _, _ => False

def setFrom {α : Type} (cs : List α) : Nat → List α → List α
  | _, [] => cs
  | i, c :: r => setFrom (cs.set i c) (i + 1) r
def buildA (P : Program) (t : TypeId) (σ : St) : List (Nat × Operand) → List AV → Option (List AV)
  | [], cs => some cs
  | (i, x) :: l, cs => match fldOf P t i, cellsA (evA σ x) with
    | some (off, ft), some vs => match szOf P ft with | some m => if (Nat.beq m vs.length && Nat.ble (off + vs.length) cs.length) = true then buildA P t σ l (setFrom cs off vs) else none | none => none
    | _, _ => none
def plcOf (P : Program) (t : TypeId) : Option (List (Nat × Nat)) := match P.underlying t with | some (.struct fs) => fs.toList.mapM (fun f => (P.info? f.type).map fun i => (f.offset, i.size)) | _ => none
def aBuild (t : TypeId) (parts : Array (Nat × Operand)) : Prop :=
  match zeroOf P t with
  | some z => match buildA P t σ parts.toList (z.map fun v => .im (.val v)) with
    | some cs => Chk ((plcOf P t).isSome && z.all (·.oneCell')) (K ⟨opdL (parts.toList.map (·.2)), wrT o.dst (aggA cs)⟩)
    | none => False
  | none => False

def aExtract (x : Operand) (i : Nat) : Prop :=
  match evA σ x with
  | .tup l => match l[i]? with
    | some v => K ⟨opd x, wrT o.dst v⟩
    | none => False
  | _ => False

def isBl (P : Program) (t : TypeId) : Bool := match P.underlying t with | some .bool => true | _ => false
def isShr : BinOp → Bool
  | .shr => true
  | _ => false
def isAdd : BinOp → Bool
  | .add => true
  | _ => false
def aBin (op : BinOp) (t : TypeId) (x y : Operand) : Prop :=
  match isShr op with
  | true => match asInt (evA σ x), asInt (evA σ y), P.underlying t with
    | some (k, a), some (_, b), some (.int k') => Chk (decide (k = k') && decide (k = .u64)) (Side (rng k (a / 2 ^ b.toNat) ∧ 0 ≤ a ∧ 0 ≤ b ∧ b ≤ 62) (K ⟨opd x ++ opd y, wrT o.dst (.im (.val (.int k (a / 2 ^ b.toNat))))⟩))
    | _, _, _ => False
  | false => match asStr (evA σ x), asStr (evA σ y) with
  | some a, some b => Chk (isStr P t && isAdd op) (Side (a.size + b.size ≤ 9223372036854775807) (K ⟨opd x ++ opd y, wrT o.dst (.im (.val (.string (a ++ b))))⟩))
  | _, _ => match asInt (evA σ x), asInt (evA σ y) with
  | some (k, a), some (k', b) => Chk (decide (k = k')) (match op with
    | .add => Side (rng k (a + b)) (K ⟨opd x ++ opd y, wrT o.dst (.im (.val (.int k (a + b))))⟩)
    | .sub => Side (rng k (a - b)) (K ⟨opd x ++ opd y, wrT o.dst (.im (.val (.int k (a - b))))⟩)
    | .mul => Side (rng k (a * b)) (K ⟨opd x ++ opd y, wrT o.dst (.im (.val (.int k (a * b))))⟩)
    | .quo => Side (rng k (a / b) ∧ 0 ≤ a ∧ 1 ≤ b) (K ⟨opd x ++ opd y, wrT o.dst (.im (.val (.int k (a / b))))⟩)
    | .rem => Side (rng k (a % b) ∧ 0 ≤ a ∧ 1 ≤ b) (K ⟨opd x ++ opd y, wrT o.dst (.im (.val (.int k (a % b))))⟩)
    | .eql => K ⟨opd x ++ opd y, wrT o.dst (vB (decide (a = b)))⟩
    | .neq => K ⟨opd x ++ opd y, wrT o.dst (vB (decide (a ≠ b)))⟩
    | .lss => K ⟨opd x ++ opd y, wrT o.dst (vB (decide (a < b)))⟩
    | .leq => K ⟨opd x ++ opd y, wrT o.dst (vB (decide (a ≤ b)))⟩
    | .gtr => K ⟨opd x ++ opd y, wrT o.dst (vB (decide (b < a)))⟩
    | .geq => K ⟨opd x ++ opd y, wrT o.dst (vB (decide (b ≤ a)))⟩
    | _ => False)
  | _, _ => match asBool (evA σ x), asBool (evA σ y) with
    | some a, some b => match op with
      | .eql => Chk (isBl P t) (K ⟨opd x ++ opd y, wrT o.dst (vB (a == b))⟩)
      | .neq => Chk (isBl P t) (K ⟨opd x ++ opd y, wrT o.dst (vB (!(a == b)))⟩)
      | _ => False
    | _, _ => False

def aUn (op : UnOp) (x : Operand) : Prop :=
  match op, asBool (evA σ x) with
  | .not, some b => K ⟨opd x, wrT o.dst (vB (!b))⟩
  | _, _ => False

def aConvert (dst : TypeId) (x : Operand) : Prop :=
  match asInt (evA σ x), P.underlying dst with
  | some (_, n), some (.int k) => Side (rng k n) (K ⟨opd x, wrT o.dst (.im (.val (.int k n)))⟩)
  | _, _ => False

def aMax (x y : Operand) : Prop :=
  match asInt (evA σ x), asInt (evA σ y) with
  | some (k, a), some (k', b) => Chk (decide (k = k')) (K ⟨opd x ++ opd y, wrT o.dst (.im (.val (.int k (max a b))))⟩)
  | _, _ => False
def aMin (x y : Operand) : Prop :=
  match asInt (evA σ x), asInt (evA σ y) with
  | some (k, a), some (k', b) => Chk (decide (k = k')) (K ⟨opd x ++ opd y, wrT o.dst (.im (.val (.int k (min a b))))⟩)
  | _, _ => False

variable (C : FuncId → List Arg → Rs → Prop)
def ndB : List Nat → List Nat → Bool
  | [], _ => true
  | a :: l, bs => !(l.contains a) && !(bs.contains a) && ndB l bs
/-- A store into an element of a row of one's own. -/
def aStoreE (t : TypeId) (p x : Operand) (b g k i j : Nat) : Prop :=
  match szOf P t, cellsA (evA σ x), σ.kd b with
  | some m, some cs, .row et k' es => match fzL σ cs with
    | some (xs, bs) => Chk (Nat.beq cs.length m && Nat.blt 0 m && Nat.ble (j + m) k && Nat.beq k' k && ndB [b] (bs.map (·.1)))
      (SideG σ ((b, g) :: bs) (∃ e, es[i]? = some e ∧ Nf (es.set i (splice e j xs)) fun r => K ⟨opd p ++ opd x ++ frd σ ((b, g) :: bs), fwr bs ++ ((.knd b, .kd (.row et k r)) :: wrT o.dst (.im (.val undef)))⟩))
    | none => False
  | _, _, _ => False

/-- A row that is nil, where an object is wanted: its element's type and size. -/
def nilF : List Nat → Nat → Option (Nat × Nat)
  | [], _ => none
  | x :: l, key => match Nat.beq (Nat.div x 1000000000) key with
    | true => some (Nat.div (Nat.mod x 1000000000) 100, Nat.mod x 100)
    | false => nilF l key
def nilH (own : List Nat) (d i j : Nat) : Option (Nat × Nat) := nilF own (Nat.succ (Nat.add (Nat.mul (Nat.add (Nat.mul d 16) i) 64) j))
def nilRow (x : IV) (e k : Nat) : Option Kd := match x with
  | .val (.slice none 0 0) => match k with
    | 0 => none
    | k + 1 => some (.row e (k + 1) [])
  | _ => none
/-- An object that changes hands. -/
def objG (σ : St) (p : Nat) : Option Kd := match σ.kd p with
  | .dead => none
  | .box _ _ => none
  | k => some k
def cellG0 (σ : St) (own : List Nat) (d i j : Nat) : AV → Option (Oc × List (Nat × Nat))
  | .im x => match nilH own d i j with
    | some (e, k) => match nilRow x e k with
      | some q => some (.ow q, [])
      | none => none
    | none => some (.im (nz1 x), [])
  | .osl p g => match objG σ p with
    | some k => some (.ow k, [(p, g)])
    | none => none
  | _ => none
/-- Cells of a lent box that the call does not look at: its contract is asked for whatever they hold. -/
def holeH (own : List Nat) (d i j : Nat) : Bool := own.contains (Nat.add 1000000000000000000 (Nat.add (Nat.mul (Nat.add (Nat.mul d 16) i) 64) j))
def cellG (σ : St) (own : List Nat) (d i j : Nat) (a : AV) : Option (Oc × List (Nat × Nat)) := match holeH own d i j with
  | true => some (.im .any, [])
  | false => cellG0 σ own d i j a
def isAny : Oc → Bool
  | .im .any => true
  | _ => false
def fillC (v : Value) (h : Bool) (c : Oc) : Oc := match h with
  | true => match isAny c with
    | true => .im (.ex v)
    | false => c
  | false => c
def fillCs (h : Nat → Bool) (V : Nat → Value) : Nat → List Oc → List Oc
  | _, [] => []
  | j, c :: l => fillC (V j) (h j) c :: fillCs h V (j + 1) l
def fillA (own : List Nat) (d i : Nat) (V : Nat → Nat → Value) : Arg → Arg
  | .box t cs => .box t (fillCs (holeH own d i) (V i) 0 cs)
  | x => x
def fillX (own : List Nat) (d : Nat) (V : Nat → Nat → Value) : Nat → List Arg → List Arg
  | _, [] => []
  | i, x :: l => fillA own d i V x :: fillX own d V (i + 1) l
def fillY (own : List Nat) (d : Nat) (V : Nat → Nat → Value) : List (Nat × Nat) → List Arg → List Arg
  | [], l => l
  | _, [] => []
  | (_, i) :: bx, x :: l => fillA own d i V x :: fillY own d V bx l
def hlC (own : List Nat) (d i b : Nat) : Nat → List Oc → List (Nat × Nat)
  | _, [] => []
  | j, c :: l => match holeH own d i j, isAny c with
    | true, true => (b, j) :: hlC own d i b (j + 1) l
    | _, _ => hlC own d i b (j + 1) l
def hlY (own : List Nat) (d : Nat) : List (Nat × Nat) → List Arg → List (Nat × Nat)
  | (b, i) :: bx, y :: l => match y with
    | .box _ cs => hlC own d i b 0 cs ++ hlY own d bx l
    | _ => hlY own d bx l
  | _, _ => []
def memB (b : Nat) : List Nat → Bool
  | [] => false
  | x :: l => match Nat.beq x b with
    | true => true
    | false => memB b l
def memC (b j : Nat) : List (Nat × Nat) → Bool
  | [] => false
  | x :: l => match Nat.beq x.1 b && Nat.beq x.2 j with
    | true => true
    | false => memC b j l
def keepL (bs : List Nat) (hs : List (Nat × Nat)) : Loc → Bool
  | .knd b => !memB b bs
  | .cel b j => !memC b j hs
  | _ => true
def cellsG (σ : St) (own : List Nat) (d i : Nat) : Nat → List AV → Option (List Oc × List (Nat × Nat))
  | _, [] => some ([], [])
  | j, c :: l => match cellG σ own d i j c, cellsG σ own d i (j + 1) l with
    | some (x, gs), some (xs, gs') => some (x :: xs, gs ++ gs')
    | _, _ => none
/-- An argument: given away, or given up; or a box that is lent. -/
def lentG (own : List Nat) (d i : Nat) (k : Kd) : Arg := match own.contains (2000000 + (1000 * (d + 1) + i)) with
  | true => .lent k
  | false => .ow k
def argG (σ : St) (own : List Nat) (d i : Nat) (a : AV) : Option (Arg × List (Nat × Nat) × List (Nat × Nat)) := match own.contains (1000 * (d + 1) + i) with
  | true => match a with
    | .osl b g => match objG σ b with
      | some k => some (lentG own d i k, [], [(b, g)])
      | none => none
    | .own b g 0 => match σ.kd b with
      | .box t _ => match cellsG σ own d i 0 (boxCs σ b) with
        | some (cs, gs) => some (.box t cs, [], (b, g) :: gs)
        | none => none
      | _ => none
    | .im x => match nilH own d i 63 with
      | some (e, k) => match nilRow x e k with
        | some q => some (.ow q, [], [])
        | none => none
      | none => none
    | _ => none
  | false => match own.contains (4000000 + (1000 * (d + 1) + i)) with
    | true => match a with
      | .im x => some (.im x, [], [])
      | _ => none
    | false => match fz σ a with
      | some (x, bs) => some (.im x, bs, [])
      | none => none
def argsG (σ : St) (own : List Nat) (d : Nat) : Nat → List AV → Option (List Arg × List (Nat × Nat) × List (Nat × Nat))
  | _, [] => some ([], [], [])
  | i, a :: l => match argG σ own d i a, argsG σ own d (i + 1) l with
    | some (x, bs, gs), some (xs, bs', gs') => some (x :: xs, bs ++ bs', gs ++ gs')
    | _, _ => none
/-- The boxes that are lent, and their places among the arguments. -/
def bxG (own : List Nat) (d : Nat) : Nat → List AV → List (Nat × Nat)
  | _, [] => []
  | i, a :: l => match own.contains (1000 * (d + 1) + i) with
    | true => match a with
      | .own b _ _ => (b, i) :: bxG own d (i + 1) l
      | .osl b _ => match own.contains (2000000 + (1000 * (d + 1) + i)) with
        | true => (b, i) :: bxG own d (i + 1) l
        | false => bxG own d (i + 1) l
      | _ => bxG own d (i + 1) l
    | false => bxG own d (i + 1) l
def cellNm (σ : St) (b i j : Nat) : Nat := match σ.ce b j with
  | .osl p _ => p
  | _ => nmC i j
/-- What was lent, as it comes back. -/
inductive LK where
  | box (t : TypeId) (al : List AV)
  | obj (k : Kd)
def flatK : Kd → Bool
  | .row _ _ _ => true
  | .map _ => true
  | _ => false
/-- What the boxes hold afterwards. -/
def bxPl (σ : St) : List (Nat × Nat) → List Arg → Option (List (Nat × LK) × List (Nat × Kd))
  | [], [] => some ([], [])
  | (b, i) :: bx, .box t cs :: ys => match ocsPl σ (cellNm σ b i) 0 cs, bxPl σ bx ys with
    | (al, ss), some (l, ss') => some ((b, .box t al) :: l, ss ++ ss')
    | _, none => none
  | (b, _) :: bx, .lent k :: ys => match flatK k, bxPl σ bx ys with
    | true, some (l, ss') => some ((b, .obj k) :: l, ss')
    | _, _ => none
  | _, _ => none
def lkWr (b : Nat) : LK → List (Loc × Ct)
  | .box t al => (.knd b, .kd (.box t al.length)) :: celWr b 0 al
  | .obj k => [(.knd b, .kd k)]
def bxWr : List (Nat × LK) → List (Loc × Ct)
  | [] => []
  | (b, x) :: l => lkWr b x ++ bxWr l
def resV (tp : Bool) (al : List AV) : Option AV := match tp with
  | true => some (.tup al)
  | false => match al with
    | [a] => some a
    | _ => none
def resNm (tp : Bool) (d i : Nat) : Nat := match tp with
  | true => nmR d i
  | false => d
def aCall (f : Operand) (args : List Operand) : Prop :=
  match o.dst, (match evA σ f with | .im (.fn g caps) => some (g, caps.map AV.im) | .fn g caps => some (g, caps) | _ => none) with
  | some d, some (g, caps) => match argsG σ own d 0 (args.map (evA σ) ++ caps) with
    | some (xs, bs, gs) => Chk (ndB (gs.map (·.1)) (bs.map (·.1))) (SideG σ (bs ++ gs) (∃ r, C g xs r ∧ match r with
      | .mk tp l ys => match ocsPl σ (resNm tp d) 0 l, bxPl σ (bxG own d 0 (args.map (evA σ) ++ caps)) ys with
        | (al, ss), some (bl, ss') => match resV tp al with
          | some v => Chk (ndB ((ss ++ ss').map (·.1)) (bl.map (·.1))) (match own.contains (500000 + d) with
            | true => Side (flatRs (.mk tp l ys)) (K ⟨opd f ++ opdL args ++ frd σ (bs ++ gs) ++ insRd (ss ++ ss'), fwr gs ++ (insWr σ (ss ++ ss') ++ (bxWr bl ++ [(.tmp d, .av v)]))⟩)
            | false => K ⟨opd f ++ opdL args ++ frd σ (bs ++ gs) ++ insRd (ss ++ ss'), fwr bs ++ (fwr gs ++ (insWr σ (ss ++ ss') ++ (bxWr bl ++ [(.tmp d, .av v)])))⟩)
          | none => False
        | _, none => False))
    | none => False
  | _, _ => False

def bxN : List (Nat × LK) → List Nat
  | [] => []
  | (b, .box _ _) :: l => b :: bxN l
  | (_, .obj _) :: l => bxN l
def sameBx (σ : St) : List (Nat × LK) → Bool
  | [] => true
  | (b, .box t al) :: l => (match σ.kd b with | .box t' m => Nat.beq t' t && Nat.beq m al.length | _ => false) && sameBx σ l
  | (_, .obj _) :: l => sameBx σ l
def keepW (bs : List Nat) (hs : List (Nat × Nat)) : List (Loc × Ct) → List (Loc × Ct)
  | [] => []
  | p :: l => match keepL bs hs p.1 with
    | true => p :: keepW bs hs l
    | false => keepW bs hs l
/-- A call that does not look at all cells of the boxes that it is lent. -/
def aCallH (f : Operand) (args : List Operand) : Prop :=
  match o.dst, (match evA σ f with | .im (.fn g caps) => some (g, caps.map AV.im) | .fn g caps => some (g, caps) | _ => none) with
  | some d, some (g, caps) => match argsG σ own d 0 (args.map (evA σ) ++ caps) with
    | some (xs, bs, gs) => Chk (ndB (gs.map (·.1)) (bs.map (·.1))) (SideG σ (bs ++ gs) (∃ (tp : Bool) (l : List Oc) (ys : List Arg), (∀ V : Nat → Nat → Value, C g (fillX own d V 0 xs) (.mk tp l (fillY own d V (bxG own d 0 (args.map (evA σ) ++ caps)) ys))) ∧
      match ocsPl σ (resNm tp d) 0 l, bxPl σ (bxG own d 0 (args.map (evA σ) ++ caps)) ys with
        | (al, ss), some (bl, ss') => match resV tp al with
          | some v => Chk (ndB ((ss ++ ss').map (·.1)) (bl.map (·.1)) && sameBx σ bl) (K ⟨opd f ++ opdL args ++ frd σ (bs ++ gs) ++ insRd (ss ++ ss'),
              keepW (bxN bl) (hlY own d (bxG own d 0 (args.map (evA σ) ++ caps)) ys) (fwr bs ++ (fwr gs ++ (insWr σ (ss ++ ss') ++ bxWr bl))) ++ [(.tmp d, .av v)]⟩)
          | none => False
        | _, none => False))
    | none => False
  | _, _ => False

/-- Is there an object behind it? -/
def aNilCheck (x : Operand) : Prop :=
  match evA σ x with
  | .own b g i => Side (σ.gn b = g) (K ⟨opd x ++ [.gen b], wrT o.dst (.own b g i)⟩)
  | .im (.ref cs) => K ⟨opd x, wrT o.dst (.im (.ref cs))⟩
  | .im (.fn f caps) => K ⟨opd x, wrT o.dst (.im (.fn f caps))⟩
  | .fn f caps => K ⟨opd x, wrT o.dst (.fn f caps)⟩
  | _ => False
/-- A row of zero values. -/
def aMakeSlice (t : TypeId) (len cap : Operand) : Prop :=
  match o.dst, elmOf P t with
  | some d, some et => match asInt (evA σ len), asInt (evA σ cap), szOf P et, zeroOf P et, byteOf P et with
    | some (.i64, l), some (.i64, c), some k, some z, some by_ => Chk (Nat.blt 0 k && zOk P et k && z.all (·.oneCell')) (Side (0 ≤ l ∧ l ≤ c ∧ capOk c.toNat by_) (match own.contains (600000 + d) with
      | true => match elmOf P et with
        | some e' => match szOf P e' with
          | some k' => Chk (Nat.beq k 1 && (match z with | [.slice none 0 0] => true | _ => false) && Nat.blt 0 k') (Nf (List.replicate l.toNat [IV.sl []]) fun r => K ⟨opd len ++ opd cap ++ [.gen d, .ign d], mkObjK σ d (.grid et e' k' r none) ++ [(.tmp d, .av (.osl d (σ.gn d + 1)))]⟩)
          | none => False
        | none => False
      | false => Nf (List.replicate l.toNat (z.map fun v => nz1 (.val v))) fun r => K ⟨opd len ++ opd cap ++ [.gen d], mkObj σ d (.row et k r) ++ [(.tmp d, .av (.osl d (σ.gn d + 1)))]⟩))
    | _, _, _, _, _ => False
  | _, _ => False

/-- A key that can be held against another by its value. -/
def keyD (P : Program) (kt : TypeId) : Option TypeDesc := match P.underlying kt with
  | some (.int k) => some (.int k)
  | some .string => some .string
  | some .bool => some .bool
  | _ => none
/-- What a map holds at a key. -/
def findV (D : TypeDesc) (k : Value) : List (Value × Value) → Option (Option Value)
  | [] => some none
  | p :: l => match Instr.sameNow D k p.1 with
    | some true => some (some p.2)
    | some false => findV D k l
    | none => none
def setV (D : TypeDesc) (k v : Value) : List (Value × Value) → Option (List (Value × Value))
  | [] => some [(k, v)]
  | p :: l => match Instr.sameNow D k p.1 with
    | some true => some ((k, v) :: l)
    | some false => (setV D k v l).map (p :: ·)
    | none => none
def asVal : AV → Option Value
  | .im (.val v) => some v
  | _ => none
def zeroV (P : Program) (t : TypeId) : Option Value := match P.info? t with | some i => i.zero | none => none
def mapTy (P : Program) (t : TypeId) : Option (TypeId × TypeId) := match P.underlying t with
  | some (.map k e) => some (k, e)
  | _ => none
def aMakeMap (t : TypeId) (r : Option Operand) : Prop :=
  match o.dst, r with
  | some d, none => K ⟨[.gen d], mkObj σ d (.map []) ++ [(.tmp d, .av (.osl d (σ.gn d + 1)))]⟩
  | _, _ => False
def aLookup (t : TypeId) (x i : Operand) (ok : Bool) : Prop :=
  match mapTy P t, evA σ x, asVal (evA σ i) with
  | some (kt, et), .osl b g, some kv => match σ.kd b, keyD P kt, zeroV P et with
    | .map l, some D, some z => Side (σ.gn b = g) (∃ r, findV D kv l = some r ∧ Nf (r.getD z) fun v => match ok with
      | true => Nf r.isSome fun is => K ⟨opd x ++ opd i ++ [.gen b, .knd b], wrT o.dst (.tup [.im (.val v), vB is])⟩
      | false => K ⟨opd x ++ opd i ++ [.gen b, .knd b], wrT o.dst (.im (.val v))⟩)
    | _, _, _ => False
  | _, _, _ => False
def aMapUpdate (t : TypeId) (x i y : Operand) : Prop :=
  match mapTy P t, evA σ x, asVal (evA σ i), asVal (evA σ y) with
  | some (kt, _), .osl b g, some kv, some v => match σ.kd b, keyD P kt with
    | .map l, some D => Side (σ.gn b = g) (∃ l', setV D kv v l = some l' ∧ K ⟨opd x ++ opd i ++ opd y ++ [.gen b, .knd b], (.knd b, .kd (.map l')) :: wrT o.dst (.im (.val undef))⟩)
    | _, _ => False
  | _, _, _, _ => False

/-- What a closure holds; a box that is hinted at is not written any more, and its slot reads so from now on. -/
def capF (σ : St) (own : List Nat) : List Operand → Option (List AV × List (Nat × Nat) × List (Nat × IV))
  | [] => some ([], [], [])
  | x :: l => match capF σ own l with
    | some (vs, bs, ws) => match x with
      | .tmp t => match own.contains (800000 + t) with
        | true => match fz2 σ (σ.av t) with
          | some (y, b) => some (.im y :: vs, b ++ bs, (t, y) :: ws)
          | none => none
        | false => some (σ.av t :: vs, bs, ws)
      | x => some (evA σ x :: vs, bs, ws)
    | none => none
def wrI (ws : List (Nat × IV)) : List (Loc × Ct) := ws.map fun p => (.tmp p.1, .av (.im p.2))
def aMakeFunc (fn : Fn) (first captured : Array Operand) : Prop :=
  match fn with
  | .func g => match capF σ own captured.toList with
    | some (vs, bs, ws) => Chk first.isEmpty (SideG σ bs (K ⟨opdL captured.toList ++ frd σ bs, fwr bs ++ (wrI ws ++ wrT o.dst (.fn g vs))⟩))
    | none => False
  | _ => False

def aBuiltin (b : Builtin) (args : List Operand) (ts : List TypeId) : Prop :=
  match b with
  | .len => match args with
    | [x] => match ts with
      | t :: _ => aLens P o σ K t x
      | [] => False
    | _ => False
  | .append => match args with
    | [x, y] => match ts with
      | [t, t'] => Chk (Nat.beq t' t) (aAppend P o σ K t x y)
      | _ => False
    | _ => False
  | .max => match args with
    | [x, y] => aMax o σ K x y
    | _ => False
  | .min => match args with
    | [x, y] => aMin o σ K x y
    | _ => False
  | .clear => match args, ts with
    | [x], t :: _ => aClear P o σ K t x
    | _, _ => False
  | _ => False
def aCalls (c : Call) : Prop :=
  match c.callee with
  | .builtin b => aBuiltin P o σ K b c.args.toList c.argTypes.toList
  | .value f => match o.dst with
    | some d => match own.contains (900000 + d) with
      | true => aCallH own o σ K C f c.args.toList
      | false => aCall own o σ K C f c.args.toList
    | none => False
  | _ => False

/-- One operation. -/
def aOp : Prop :=
  match o.op with
  | .move x | .assign x => K ⟨opd x, wrT o.dst (evA σ x)⟩
  | .pick c a b => aPick o σ K c a b
  | .load t p => aLoad P o σ K t p
  | .store t p x => match evA σ p with
    | .elt b g k i j => aStoreE P o σ K t p x b g k i j
    | _ => aStore P o σ K t p x
  | .box t x => aBox own o σ K t x
  | .alloc t => aAlloc P o σ K t
  | .fieldAddr t p f => aFieldAddr P o σ K t p f
  | .field t x f => aField P o σ K t x f
  | .indexAddr t x i => aIndexes P o σ K t x i
  | .slice t x lo hi mx => Chk mx.isNone (aSlices P o σ K t x lo hi)
  | .build t parts => aBuild P o σ K t parts
  | .buildSlice t len parts => aBuildSlice P own o σ K t len parts
  | .extract x i => aExtract o σ K x i
  | .binOp op t x y _ => aBin P o σ K op t x y
  | .unOp op _ x => aUn o σ K op x
  | .convert src dst x => Chk (P.underlying src).isSome (aConvert P o σ K dst x)
  | .makeFunc fn first captured => aMakeFunc own o σ K fn first captured
  | .nilCheck x => aNilCheck o σ K x
  | .makeSlice t len cap => aMakeSlice P own o σ K t len cap
  | .makeMap t r => aMakeMap o σ K t r
  | .lookup t x i ok => aLookup P o σ K t x i ok
  | .mapUpdate t x i y => aMapUpdate P o σ K t x i y
  | .call c => aCalls P own o σ K C c
  | _ => False
end

/-- Is the slot one of the frame's? -/
def dstOk (n : Nat) (o : Oper) : Bool := match o.dst with | some d => decide (d < n) | none => true

def notBool : Value → Bool
  | .bool _ => false
  | _ => true
/-- An operation under its guard. -/
def aGuard (P : Program) (C : FuncId → List Arg → Rs → Prop) (n : Nat) (own : List Nat) (ops : List Oper) (o : Oper) (σ : St) (K : Fx → Prop) : Prop :=
  Chk (dstOk n o) (match o.guard with
  | none => aOp P own o σ K C
  | some (j, want) => match (ops[j]?).bind (·.dst) with
    | some t => match asBool (σ.av t) with
      | some b => Both (b == want) (aOp P own o σ (fun fx => K ⟨.tmp t :: fx.rd, fx.wr⟩) C) (K ⟨[.tmp t], wrT o.dst (.im (.val undef))⟩)
      | none => match σ.av t with
        | .im (.val v) => Chk (notBool v) (K ⟨[.tmp t], wrT o.dst (.im (.val undef))⟩)
        | _ => False
    | none => False)

/-- A number is counted out before one goes on. -/
def frcN {α : Sort _} (n : Nat) (K : Nat → α) : α := match n with
  | 0 => K 0
  | m + 1 => K (m + 1)
def frcL {α : Sort _} (l : Loc) (K : Loc → α) : α := match l with
  | .tmp t => frcN t fun t => K (.tmp t)
  | .gen t => frcN t fun t => K (.gen t)
  | .ign t => frcN t fun t => K (.ign t)
  | .knd t => frcN t fun t => K (.knd t)
  | .cel t i => frcN t fun t => frcN i fun i => K (.cel t i)
def frcA {α : Sort _} (a : AV) (K : AV → α) : α := match a with
  | .im x => K (.im x)
  | .own o g i => frcN o fun o => frcN i fun i => K (.own o g i)
  | .osl o g => frcN o fun o => K (.osl o g)
  | .elt o g k i j => frcN o fun o => frcN k fun k => frcN j fun j => K (.elt o g k i j)
  | .sub o g i => frcN o fun o => K (.sub o g i)
  | .elt2 o g i k j c => frcN o fun o => frcN k fun k => frcN c fun c => K (.elt2 o g i k j c)
  | .osv o g k m => K (.osv o g k m)
  | .fn f caps => K (.fn f caps)
  | .agg cs => K (.agg cs)
  | .tup cs => K (.tup cs)
def frcC {α : Sort _} (c : Ct) (K : Ct → α) : α := match c with
  | .av a => frcA a fun a => K (.av a)
  | .n g => K (.n g)
  | .kd k => match k with
    | .dead => K (.kd .dead)
    | .box t m => frcN m fun m => K (.kd (.box t m))
    | .row e k es => K (.kd (.row e k es))
    | .grid e e' k gs hole => K (.kd (.grid e e' k gs hole))
    | .map l => K (.kd (.map l))
theorem frcN_eq {α : Sort _} (n : Nat) (K : Nat → α) : frcN n K = K n := by cases n <;> rfl
theorem frcL_eq {α : Sort _} (l : Loc) (K : Loc → α) : frcL l K = K l := by cases l <;> simp only [frcL, frcN_eq]
theorem frcA_eq {α : Sort _} (l : AV) (K : AV → α) : frcA l K = K l := by cases l <;> simp only [frcA, frcN_eq]
theorem frcC_eq {α : Sort _} (l : Ct) (K : Ct → α) : frcC l K = K l := by
  cases l with
  | av a => simp only [frcC, frcA_eq]
  | n g => rfl
  | kd k => cases k <;> simp only [frcC, frcN_eq]
/-- The places that are read and written, as a number's bits. -/
abbrev Mk := Nat × Nat
/-- 2 to the power of n, by small powers. -/
def p2 (n : Nat) : Nat := Nat.mul (Nat.pow 340282366920938463463374607431768211456 (Nat.div n 128)) (Nat.pow 2 (Nat.mod n 128))
theorem p2_eq (n : Nat) : p2 n = 2 ^ n := by
  show (340282366920938463463374607431768211456 ^ (n / 128)) * 2 ^ (n % 128) = 2 ^ n
  rw [show (340282366920938463463374607431768211456 : Nat) = 2 ^ 128 from by decide, ← Nat.pow_mul, ← Nat.pow_add, Nat.div_add_mod]
def bit1 (m : Nat) (l : Loc) : Nat := Nat.lor m (p2 l.code)
def mskR : List Loc → Nat → Nat
  | [], m => m
  | l :: r, m => mskR r (bit1 m l)
def mskW : List (Loc × Ct) → Nat → Nat
  | [], m => m
  | p :: r, m => mskW r (bit1 m p.1)
def fxm (f : Fx) : Mk := (mskR f.rd 0, mskW f.wr 0)
def frcR {α : Sort _} : List Loc → Nat → (Nat → α) → α
  | [], m, K => K m
  | l :: r, m, K => frcL l fun l => frcN (bit1 m l) fun m => frcR r m K
def frcW {α : Sort _} : List (Loc × Ct) → Nat → St → (Nat → St → α) → α
  | [], m, σ, K => K m σ
  | p :: r, m, σ, K => frcL p.1 fun l => frcC p.2 fun c => frcN (bit1 m l) fun m => frcW r m (upd σ l c) K
theorem frcR_eq {α : Sort _} (l : List Loc) : ∀ (m : Nat) (K : Nat → α), frcR l m K = K (mskR l m) := by
  induction l with
  | nil => intro m K; rfl
  | cons l r ih => intro m K; simp only [frcR, frcL_eq, frcN_eq, ih, mskR]
theorem frcW_eq {α : Sort _} (l : List (Loc × Ct)) : ∀ (m : Nat) (σ : St) (K : Nat → St → α), frcW l m σ K = K (mskW l m) (app σ l) := by
  induction l with
  | nil => intro m σ K; rfl
  | cons p r ih => intro m σ K; simp only [frcW, frcL_eq, frcC_eq, frcN_eq, ih, mskW]; rfl
def frcF {α : Sort _} (fx : Fx) (σ : St) (K : Mk → St → α) : α := frcR fx.rd 0 fun r => frcW fx.wr 0 σ fun m σ' => K (r, m) σ'
theorem frcF_eq {α : Sort _} (fx : Fx) (σ : St) (K : Mk → St → α) : frcF fx σ K = K (fxm fx) (app σ fx.wr) := by
  unfold frcF fxm
  rw [frcR_eq, frcW_eq]

/-- The operations of a region, in the text's order. -/
def aOps (P : Program) (C : FuncId → List Arg → Rs → Prop) (n : Nat) (own : List Nat) (ops : List Oper) : List Oper → List Mk → St → (List Mk → St → Prop) → Prop
  | [], fs, σ, K => K fs σ
  | o :: l, fs, σ, K => aGuard P C n own ops o σ fun fx => frcF fx σ fun m σ' => aOps P C n own ops l (fs ++ [m]) σ' K

/-- Two operations that may stand in either order. -/
def indepM (f g : Mk) : Bool := Nat.beq (Nat.lor (Nat.lor (Nat.land f.2 g.1) (Nat.land f.2 g.2)) (Nat.land g.2 f.1)) 0
def indep (f g : Fx) : Bool := indepM (fxm f) (fxm g)
/-- The operations that must have gone before, as a number's bits. -/
def befStep (acc : List Nat) (o : Oper) : Nat := o.after.toList.foldl (fun s e => if Region.binds .any e = true then s ||| 2 ^ e.on ||| acc.getD e.on 0 else s) 0
def befs (ops : List Oper) : List Nat := ops.foldl (fun acc o => acc ++ [befStep acc o]) []
def drawRow (bs : List Nat) (f : Mk) (i : Nat) : Nat → List Mk → Bool
  | _, [] => true
  | j, g :: gs => (indepM f g || (bs.getD j 0).testBit i) && drawRow bs f i (j + 1) gs
def drawAll (bs : List Nat) : Nat → List Mk → Bool
  | _, [] => true
  | i, f :: fs => drawRow bs f i (i + 1) fs && drawAll bs (i + 1) fs
def edgeOk : Nat → List Oper → Bool
  | _, [] => true
  | i, o :: l => (o.after.toList.all fun e => !Region.binds .any e || Nat.blt e.on i) && edgeOk (i + 1) l
def drawOk (ops : List Oper) (fs : List Mk) : Bool := edgeOk 0 ops && drawAll (befs ops) 0 fs

section
variable (P : Program) (C : FuncId → List Arg → Rs → Prop) (n : Nat) (own : List Nat)
attribute [irreducible] Side Both Loops Nf Cut

def anyGuard : List Oper → Bool
  | [] => false
  | o :: l => match o.guard with | some _ => true | none => match o.op with | .pick _ _ _ => true | _ => anyGuard l
def cntE (id : Nat) : List Nat → Nat
  | [] => 0
  | j :: l => match Nat.beq j id with | true => cntE id l + 1 | false => cntE id l
def remE (id : Nat) : List Nat → List Nat
  | [] => []
  | j :: l => match Nat.beq j id with | true => remE id l | false => j :: remE id l
/-- How many ways lead to the end, and which exits are taken. -/
def paths : Code → Nat × List Nat
  | .skip => (1, [])
  | .region _ ops _ => (match anyGuard ops.toList with | true => 2 | false => 1, [])
  | .seq a b => match paths a with
    | (0, e) => (0, e)
    | (_, e) => match paths b with | (m, f) => (m, e ++ f)
  | .cond _ a b => match paths a, paths b with | (n, e), (m, f) => (n + m, e ++ f)
  | .block id body => match paths body with
    | (n, e) => (match n + cntE id e with | 0 => 0 | _ => 1, remE id e)
  | .loop body => (0, (paths body).2)
  | .exit id => (0, [id])
  | _ => (0, [])
def one (a : Code) : Bool := Nat.ble (paths a).1 1
def oneB (id : Nat) (a : Code) : Bool := Nat.beq (cntE id (paths a).2) 0

/-- A piece of code. -/
def aCode : Code → (Exit → St → Prop) → St → Prop
  | .skip, K, σ => K .normal σ
  | .region _ ops draw, K, σ => aOps P C n own ops.toList ops.toList [] σ fun fs σ' => Chk (!draw || drawOk ops.toList fs) (K .normal σ')
  | .seq a b, K, σ => match one a with
    | true => aCode a (fun e σ' => match e with | .normal => aCode b K σ' | e => K e σ') σ
    | false => Cut (fun J => aCode a (fun e σ' => match e with | .normal => J σ' | e => K e σ') σ) fun σ' => aCode b K σ'
  | .cond c a b, K, σ => match asBool (evA σ c) with
    | some t => Both t (aCode a K σ) (aCode b K σ)
    | none => False
  | .block id body, K, σ => match oneB id body with
    | true => aCode body (fun e σ' => match e with | .exit j => if j = id then K .normal σ' else K (.exit j) σ' | e => K e σ') σ
    | false => Cut (fun J => aCode body (fun e σ' => match e with | .normal => J σ' | .exit j => if j = id then J σ' else K (.exit j) σ' | e => K e σ') σ) fun σ' => K .normal σ'
  | .loop body, K, σ => Loops (fun K' σ' => aCode body K' σ') K σ
  | .exit id, K, σ => K (.exit id) σ
  | .ret, K, σ => K .ret σ
  | _, _, _ => False
end

end Go.Proofs.YthahbiahlpcgeaaGreatDoor.Sym
