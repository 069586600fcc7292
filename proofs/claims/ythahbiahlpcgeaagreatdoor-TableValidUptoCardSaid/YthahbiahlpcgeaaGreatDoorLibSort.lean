/-
  The contract of slices.SortFunc under a total comparison.
-/
import Derived.Test.YthahbiahlpcgeaaGreatDoorSym15
import Derived.Test.YthahbiahlpcgeaaGreatDoorOwn
import Derived.Shelf.SlSortCmp.NoneTotal
import Derived.Lib.OwnBridge
namespace Go.Proofs.YthahbiahlpcgeaaGreatDoor.Sym
open Go.RowKit Go.Sort

section plain
variable {α : Type}
def totB [DecidableEq α] (f : α → α → Option Int) (l : List α) : Bool :=
  l.all fun a => l.all fun b => match f a b, f b a with
    | some m, some n => (decide (m = 0) == decide (a = b)) && (decide (m < 0) == decide (0 < n)) && (decide (-1 ≤ m ∧ m ≤ 1)) && l.all fun c => !(decide (m < 0) && (match f b c with | some x => decide (x < 0) | none => false)) || (match f a c with | some x => decide (x < 0) | none => false)
    | _, _ => false
def insF (f : α → α → Option Int) (x : α) : List α → List α
  | [] => [x]
  | y :: l => match f x y with
    | some m => cond (decide (m ≤ 0)) (x :: y :: l) (y :: insF f x l)
    | none => x :: y :: l
def isortF (f : α → α → Option Int) : List α → List α
  | [] => []
  | x :: l => insF f x (isortF f l)
def libSort [DecidableEq α] (l : List α) (f : α → α → Option Int) : Option (List α) := chk (l.length ≤ 1000000000) (cond (totB f l) (some (isortF f l)) none)

def cfv (f : α → α → Option Int) (a b : α) : Int := (f a b).getD 0
/-- A total order on the elements of a list. -/
structure TotF (f : α → α → Option Int) (l : List α) : Prop where
  get : ∀ a ∈ l, ∀ b ∈ l, f a b = some (cfv f a b)
  zero : ∀ a ∈ l, ∀ b ∈ l, cfv f a b = 0 → a = b
  self : ∀ a ∈ l, cfv f a a = 0
  swap : ∀ a ∈ l, ∀ b ∈ l, (cfv f a b < 0 ↔ 0 < cfv f b a)
  trans : ∀ a ∈ l, ∀ b ∈ l, ∀ c ∈ l, cfv f a b < 0 → cfv f b c < 0 → cfv f a c < 0

theorem totB_iff [DecidableEq α] {f : α → α → Option Int} {l : List α} (h : totB f l = true) : TotF f l := by
  have key : ∀ a ∈ l, ∀ b ∈ l, ∃ m n, f a b = some m ∧ f b a = some n ∧ (m = 0 ↔ a = b) ∧ (m < 0 ↔ 0 < n) ∧ ∀ c ∈ l, m < 0 → (∃ x, f b c = some x ∧ x < 0) → ∃ x, f a c = some x ∧ x < 0 := by
    intro a ha b hb
    have h1 := List.all_eq_true.1 (List.all_eq_true.1 h a ha) b hb
    cases e1 : f a b with
    | none => rw [e1] at h1; cases h1
    | some m =>
      cases e2 : f b a with
      | none => rw [e1, e2] at h1; cases h1
      | some n =>
        rw [e1, e2] at h1
        simp only [Bool.and_eq_true] at h1
        obtain ⟨⟨⟨h2, h3⟩, _⟩, h5⟩ := h1
        refine ⟨m, n, rfl, rfl, ?_, ?_, fun c hc hm ⟨x, hx, hx0⟩ => ?_⟩
        · have h2 := eq_of_beq h2
          simpa using h2
        · have h3 := eq_of_beq h3
          simpa using h3
        · have h6 := List.all_eq_true.1 h5 c hc
          rw [hx] at h6
          simp only [hm, hx0, decide_true, Bool.and_self, Bool.not_true, Bool.false_or] at h6
          cases e3 : f a c with
          | none => rw [e3] at h6; cases h6
          | some y => rw [e3] at h6; exact ⟨y, rfl, by simpa using h6⟩
  have get : ∀ a ∈ l, ∀ b ∈ l, f a b = some (cfv f a b) := fun a ha b hb => by
    obtain ⟨m, n, e1, _⟩ := key a ha b hb
    unfold cfv
    rw [e1]
    rfl
  refine ⟨get, fun a ha b hb => ?_, fun a ha => ?_, fun a ha b hb => ?_, fun a ha b hb c hc h1 h2 => ?_⟩
  · obtain ⟨m, n, e1, e2, h3, _⟩ := key a ha b hb
    rw [get a ha b hb] at e1
    injection e1 with e1
    rw [e1]
    exact h3.1
  · obtain ⟨m, n, e1, e2, h3, _⟩ := key a ha a ha
    rw [get a ha a ha] at e1
    injection e1 with e1
    rw [e1]
    exact h3.2 rfl
  · obtain ⟨m, n, e1, e2, h3, h4, _⟩ := key a ha b hb
    rw [get a ha b hb] at e1
    rw [get b hb a ha] at e2
    injection e1 with e1
    injection e2 with e2
    rw [e1, e2]
    exact h4
  · obtain ⟨m, n, e1, e2, h3, h4, h5⟩ := key a ha b hb
    rw [get a ha b hb] at e1
    injection e1 with e1
    obtain ⟨x, hx, hx0⟩ := h5 c hc (by omega) ⟨_, get b hb c hc, h2⟩
    rw [get a ha c hc] at hx
    injection hx with hx
    omega

theorem TotF.sub {f : α → α → Option Int} {l l' : List α} (T : TotF f l) (h : ∀ x ∈ l', x ∈ l) : TotF f l' :=
  ⟨fun a ha b hb => T.get a (h a ha) b (h b hb), fun a ha b hb => T.zero a (h a ha) b (h b hb), fun a ha => T.self a (h a ha), fun a ha b hb => T.swap a (h a ha) b (h b hb), fun a ha b hb c hc => T.trans a (h a ha) b (h b hb) c (h c hc)⟩

/-- Not greater. -/
def NGt (f : α → α → Option Int) (a b : α) : Prop := ¬ cfv f b a < 0

theorem TotF.ngt_trans {f : α → α → Option Int} {l : List α} (T : TotF f l) {a b c : α} (ha : a ∈ l) (hb : b ∈ l) (hc : c ∈ l) (h1 : NGt f a b) (h2 : NGt f b c) : NGt f a c := by
  intro h3
  have s1 := T.swap a ha b hb
  have s2 := T.swap b hb c hc
  have s3 := T.swap c hc a ha
  have t1 := T.swap b hb a ha
  have t2 := T.swap c hc b hb
  unfold NGt at h1 h2
  by_cases e1 : cfv f b a = 0
  · have := T.zero b hb a ha e1
    subst this
    exact h2 h3
  · by_cases e2 : cfv f c b = 0
    · have := T.zero c hc b hb e2
      subst this
      exact h1 h3
    · have h4 : cfv f a b < 0 := s1.2 (by omega)
      have h5 := T.trans c hc a ha b hb h3 h4
      exact h2 h5

theorem insF_le {f : α → α → Option Int} {x y : α} {l : List α} {m : Int} (h : f x y = some m) (hm : m ≤ 0) : insF f x (y :: l) = x :: y :: l := by
  simp [insF, h, hm]
theorem insF_gt {f : α → α → Option Int} {x y : α} {l : List α} {m : Int} (h : f x y = some m) (hm : ¬ m ≤ 0) : insF f x (y :: l) = y :: insF f x l := by
  simp [insF, h, hm]
theorem insF_perm (f : α → α → Option Int) (x : α) : ∀ l : List α, (insF f x l).Perm (x :: l)
  | [] => List.Perm.refl _
  | y :: l => by
    cases h : f x y with
    | none => simp [insF, h]
    | some m =>
      by_cases hm : m ≤ 0
      · rw [insF_le h hm]
      · rw [insF_gt h hm]
        exact ((insF_perm f x l).cons y).trans (List.Perm.swap x y l)
theorem isortF_perm (f : α → α → Option Int) : ∀ l : List α, (isortF f l).Perm l
  | [] => List.Perm.refl _
  | x :: l => (insF_perm f x _).trans ((isortF_perm f l).cons x)
theorem insF_sorted {f : α → α → Option Int} {x : α} : ∀ {l : List α}, TotF f (x :: l) → l.Pairwise (NGt f) → (insF f x l).Pairwise (NGt f)
  | [], _, _ => List.pairwise_singleton _ _
  | y :: l, T, h => by
    have hx : x ∈ x :: y :: l := by simp
    have hy : y ∈ x :: y :: l := by simp
    have hc := List.pairwise_cons.1 h
    by_cases hd : cfv f x y ≤ 0
    · rw [insF_le (T.get x hx y hy) hd]
      have hxy : NGt f x y := fun h0 => by
        have := (T.swap y hy x hx).1 h0
        omega
      exact List.pairwise_cons.2 ⟨fun z hz => by
        rcases List.mem_cons.1 hz with rfl | hz'
        · exact hxy
        · exact T.ngt_trans hx hy (by simp [hz']) hxy (hc.1 z hz'), h⟩
    · rw [insF_gt (T.get x hx y hy) hd]
      have hyx : NGt f y x := by unfold NGt; omega
      refine List.pairwise_cons.2 ⟨fun z hz => ?_, insF_sorted (T.sub fun z hz => ?_) hc.2⟩
      · rcases List.mem_cons.1 ((insF_perm f x l).mem_iff.1 hz) with rfl | hz'
        · exact hyx
        · exact hc.1 z hz'
      · rcases List.mem_cons.1 hz with rfl | hz'
        · simp
        · simp [hz']
theorem isortF_sorted {f : α → α → Option Int} : ∀ {l : List α}, TotF f l → (isortF f l).Pairwise (NGt f)
  | [], _ => List.Pairwise.nil
  | x :: l, T => insF_sorted (T.sub fun z hz => by
      rcases List.mem_cons.1 hz with rfl | hz'
      · simp
      · exact List.mem_cons_of_mem _ ((isortF_perm f l).mem_iff.1 hz')) (isortF_sorted (T.sub fun z hz => List.mem_cons_of_mem _ hz))

theorem sorted_uniq {f : α → α → Option Int} : ∀ {l1 l2 : List α}, TotF f l1 → l1.Perm l2 → l1.Pairwise (NGt f) → l2.Pairwise (NGt f) → l1 = l2
  | [], l2, _, hp, _, _ => (List.nil_perm.1 hp).symm
  | x :: l1, [], _, hp, _, _ => absurd hp.length_eq (by simp)
  | x :: l1, y :: l2, T, hp, h1, h2 => by
    have p1 := List.pairwise_cons.1 h1
    have p2 := List.pairwise_cons.1 h2
    have hx : x ∈ x :: l1 := by simp
    have hy : y ∈ x :: l1 := hp.mem_iff.2 (by simp)
    have e : x = y := by
      rcases List.mem_cons.1 hy with e | hy'
      · exact e.symm
      · have hxy := p1.1 y hy'
        rcases List.mem_cons.1 (hp.mem_iff.1 hx) with e | hx'
        · exact e
        · have hyx := p2.1 x hx'
          have s1 := T.swap y hy x hx
          have s2 := T.swap x hx y hy
          unfold NGt at hxy hyx
          exact T.zero x hx y hy (by omega)
    subst e
    rw [sorted_uniq (T.sub fun z hz => List.mem_cons_of_mem _ hz) (List.Perm.cons_inv hp) p1.2 p2.2]
end plain

section model
variable {α : Type}
/-- What is asked of a comparison: the elements read, it only lays blocks of its own. -/
def CmpG (P : Program) (g : FuncId) (X : α → IV) (f : α → α → Option Int) : Prop :=
  ∀ (W : World) (S : Nat → Prop) (u u' : Value) (x y : α) (r : Int), f x y = some r → RepI W S u (X x) → RepI W S u' (X y) →
    Calls P g #[u, u'] W fun e w' => e = .returned (.int .i64 r) ∧ ∃ q os, w' = Sort.grow (W.drewN q) os

/-- The cells of an element in memory that nobody turns, with the element. -/
def El (w : World) (S : Nat → Prop) (k : Nat) (c : α → List IV) (l : List α) : Type := { p : List Value × α // p.1.length = k ∧ (∀ v ∈ p.1, v.oneCell' = true) ∧ RepIs w S p.1 (c p.2) ∧ p.2 ∈ l }
variable {w : World} {S : Nat → Prop} {k : Nat} {c : α → List IV} {l : List α}
def El.enc (x : El w S k c l) : List Value := x.val.1
def El.wd (x : El w S k c l) : α := x.val.2

def El.of (us : List Value) (x : α) (h1 : us.length = k) (h2 : ∀ v ∈ us, v.oneCell' = true) (h3 : RepIs w S us (c x)) (h4 : x ∈ l) : El w S k c l := ⟨(us, x), h1, h2, h3, h4⟩
theorem el_list (hk : ∀ x, (c x).length = k) : ∀ (l0 : List α) (us : List Value), (∀ x ∈ l0, x ∈ l) → us.length = (l0.map c).flatten.length → (∀ u ∈ us, u.oneCell' = true) →
    (∀ (i : Nat) u x, us[i]? = some u → (l0.map c).flatten[i]? = some x → RepI w S u x) → ∃ zs : List (El w S k c l), (zs.map El.enc).flatten = us ∧ zs.map El.wd = l0
  | [], us, _, hl, _, _ => ⟨[], (List.eq_nil_of_length_eq_zero hl).symm, rfl⟩
  | x :: l0, us, hm, hl, h1, hr => by
    rw [List.map_cons, List.flatten_cons] at hl hr
    rw [List.length_append, hk] at hl
    obtain ⟨zs, e1, e2⟩ := el_list hk l0 (us.drop k) (fun y hy => hm y (List.mem_cons_of_mem _ hy)) (by rw [List.length_drop]; omega) (fun u hu => h1 u (List.mem_of_mem_drop hu)) fun i u y hu hy => by
      rw [List.getElem?_drop] at hu
      refine hr (k + i) u y hu ?_
      rw [List.getElem?_append, if_neg (by rw [hk]; omega), hk]
      rwa [Nat.add_sub_cancel_left]
    have hx1 : (us.take k).length = k := by rw [List.length_take]; omega
    have hx2 : ∀ v ∈ us.take k, v.oneCell' = true := fun u hu => h1 u (List.mem_of_mem_take hu)
    have hx3 : RepIs w S (us.take k) (c x) := ⟨by rw [hx1, hk], fun i u y hu hy => by
      have hi : i < k := by
        rw [← hk x]
        exact (List.getElem?_eq_some_iff.1 hy).1
      rw [List.getElem?_take, if_pos hi] at hu
      exact hr i u y hu (by rw [List.getElem?_append, if_pos (by rw [hk]; exact hi)]; exact hy)⟩
    refine ⟨El.of (us.take k) x hx1 hx2 hx3 (hm x (by simp)) :: zs, ?_, ?_⟩
    · rw [List.map_cons, List.flatten_cons, e1]
      exact List.take_append_drop k us
    · rw [List.map_cons, e2]
      rfl

theorem el_swo {f : α → α → Option Int} (T : TotF f l) : SWO (ltOf fun x y : El w S k c l => cfv f x.wd y.wd) where
  irrefl x := by
    have := T.self x.wd x.property.2.2.2
    simp [ltOf, this]
  trans x y z h1 h2 := by
    simp only [ltOf, decide_eq_true_eq] at *
    exact T.trans _ x.property.2.2.2 _ y.property.2.2.2 _ z.property.2.2.2 h1 h2
  ntrans x y z h1 h2 := by
    simp only [ltOf, decide_eq_false_iff_not] at *
    exact T.ngt_trans z.property.2.2.2 y.property.2.2.2 x.property.2.2.2 h2 h1

/-- The sort's own contract: at elements of k cells, handed to the comparison in a form. -/
def SortC (P : Program) (sg : FuncId) (k : Nat) (mk : List Value → Value) : Prop :=
  (∀ (p : Option Addr) (cap : Nat) (fv : Value) (w : World), Calls P sg #[.slice p 0 cap, fv] w fun e w' => e = .returned (.tuple #[]) ∧ w' = w) ∧
  ∀ (E : Type) [Inhabited E] (enc : E → List Value) (cf : E → E → Int) (g blk cap : Nat) (d : Array E) (w : World), (∀ x, (enc x).length = k) → (∀ x, ∀ v ∈ enc x, v.oneCell' = true) → SWO (ltOf cf) →
    (∀ args w, (callFunc g args).run P w = .ok (.enter g args) w) →
    (∀ (m : Nat) (os : Array Obj) (dk : Array E), dk.size = d.size → ∀ x y : E, Calls P g #[mk (enc x), mk (enc y)] (Sort.grow (putRow id (Sort.ahead w m) blk 0 (Go.Sort.flatK enc k dk)) os) fun e w' =>
      e = .returned (.int .i64 (cf x y)) ∧ ∃ q os', w' = Sort.grow ((Sort.grow (putRow id (Sort.ahead w m) blk 0 (Go.Sort.flatK enc k dk)) os).drewN q) os') →
    Go.Sort.Holds id w blk 0 (Go.Sort.flatK enc k d) → blk < w.heap.size → d.size < 4611686018427387904 →
    Calls P sg #[.slice (some ⟨blk, 0, none⟩) d.size cap, .func (.func g) #[] #[]] w fun e w' =>
      e = .returned (.tuple #[]) ∧ ∃ d' n os, PermIn 0 d.size d d' ∧ SortedIn (ltOf cf) 0 d.size d' ∧ w' = Sort.grow (putRow id (Sort.ahead w n) blk 0 (Go.Sort.flatK enc k d')) os

theorem perm_of_in' {β : Type} [Inhabited β] {d d' : Array β} (h : PermIn 0 d.size d d') : d'.toList.Perm d.toList := by
  obtain ⟨hs, _, hp⟩ := h
  have e1 : d'.extract 0 d.size = d' := by rw [← hs]; simp
  have e2 : d.extract 0 d.size = d := by simp
  rwa [e1, e2] at hp
theorem pairwise_of_in' {β : Type} [Inhabited β] {lt : β → β → Bool} {d : Array β} {n : Nat} (hn : d.size = n) (h : SortedIn lt 0 n d) : d.toList.Pairwise fun a b => lt b a = false := by
  rw [List.pairwise_iff_getElem]
  intro i j hi hj hij
  have := h i j (Nat.zero_le _) hij (by rw [← hn]; simpa using hj)
  simp at hi hj
  simpa [getElem!_pos, hi, hj] using this

theorem flatK_list {β : Type} [Inhabited β] {enc : β → List Value} {k : Nat} (hk : ∀ x, (enc x).length = k) (d : Array β) : Go.Sort.flatK enc k d = (d.toList.map enc).flatten.toArray := by
  have hl : ((d.toList.map enc).flatten).length = d.size * k := by
    rw [flat_length (k := k) fun x hx => by obtain ⟨y, _, rfl⟩ := List.mem_map.1 hx; exact hk y]
    simp
  refine ext_get! (by simp [hl]) fun t ht => ?_
  rw [size_flatK] at ht
  rw [get_flatK _ _ _ t ht]
  have k0 : 0 < k := by
    rcases Nat.eq_zero_or_pos k with h | h
    · subst h; simp at ht
    · exact h
  have hq : t / k < d.size := Nat.div_lt_of_lt_mul (by rwa [Nat.mul_comm] at ht)
  have hm : t % k < k := Nat.mod_lt _ k0
  have hg := flat_get (es := d.toList.map enc) (i := t / k) (j := t % k) (e := enc (d[t / k]'hq)) (fun x hx => by obtain ⟨y, _, rfl⟩ := List.mem_map.1 hx; exact hk y) (by simp [hq]) hm
  rw [show t / k * k + t % k = t by rw [Nat.mul_comm]; exact Nat.div_add_mod t k] at hg
  have hm2 : t % k < (enc (d[t / k]'hq)).length := by rw [hk]; exact hm
  rw [List.getElem?_eq_getElem hm2, List.getElem?_eq_getElem (by rw [hl]; exact ht)] at hg
  injection hg with hg
  rw [getElem!_pos d _ hq, getElem!_pos (enc (d[t / k]'hq)) (t % k) hm2, getElem!_pos ((d.toList.map enc).flatten.toArray) t (by simpa [hl] using ht)]
  simpa using hg.symm

/-- An owned row whose cells are laid anew. -/
theorem own_put {w : World} {base : Nat} {e : TypeId} {g n cap k q : Nat} {us us' : List Value} {os : Array Obj} (h : w.ownsRow base e k (.slice (some ⟨g, 0, none⟩) n cap) n us) (hl : us'.length = n * k) :
    (Sort.grow (putRow id (Sort.ahead w q) g 0 us'.toArray) os).ownsRow base e k (.slice (some ⟨g, 0, none⟩) n cap) n us' := by
  rcases h.2 with ⟨e0, _⟩ | ⟨g', cap', cur, e0, hb, hg, hn, hm, hs, ht⟩
  · cases e0
  · injection e0 with e1 _ e3
    injection e1 with e1
    injection e1 with e1
    subst e1; subst e3
    have hlt : g < w.heap.size := by
      rcases Nat.lt_or_ge g w.heap.size with h' | h'
      · exact h'
      · rw [Array.getElem?_eq_none h'] at hg; cases hg
    refine ⟨hl, .inr ⟨g, cap, putCells id 0 us'.toArray cur, rfl, hb, ?_, hn, hm, by simpa [putCells] using hs, ?_⟩⟩
    · have : g < (putRow id (Sort.ahead w q) g 0 us'.toArray).heap.size := by simpa [putRow, mapBlock, Sort.ahead] using hlt
      simp only [Sort.grow, Array.getElem?_append, if_pos this]
      simp [putRow, mapBlock, Sort.ahead, Array.getElem?_modify, hg, onCells]
    · have hle : n * k ≤ cap * k := Nat.mul_le_mul_right k hn
      apply List.ext_getElem?
      intro j
      rw [List.getElem?_take, Array.getElem?_toList]
      by_cases hj : j < n * k
      · have hjc : j < cur.size := by omega
        rw [if_pos hj]
        simp only [putCells, Array.getElem?_mapIdx, Array.getElem?_eq_getElem hjc, Option.map_some]
        rw [if_pos (by simp; omega), List.getElem?_eq_getElem (by omega)]
        simp [getElem!_pos, show j < us'.length by omega]
      · rw [if_neg hj, List.getElem?_eq_none (by omega)]

theorem holds_own {w : World} {base : Nat} {e : TypeId} {g n cap k : Nat} {us : List Value} (h : w.ownsRow base e k (.slice (some ⟨g, 0, none⟩) n cap) n us) : Go.Sort.Holds id w g 0 us.toArray := by
  rcases h.2 with ⟨e0, _⟩ | ⟨g', cap', cur, e0, hb, hg, hn, hm, hs, ht⟩
  · cases e0
  · injection e0 with e1 _ e3
    injection e1 with e1
    injection e1 with e1
    subst e1; subst e3
    intro j hj
    have hj' : j < us.length := by simpa using hj
    have hjn : j < n * k := by rw [← h.1]; exact hj'
    have hle : n * k ≤ cap * k := Nat.mul_le_mul_right k hn
    have hjc : j < cur.size := by omega
    have e1 : (cur.toList.take (n * k))[j]? = us[j]? := by rw [ht]
    rw [List.getElem?_take, if_pos hjn, Array.getElem?_toList, List.getElem?_eq_getElem hj'] at e1
    refine ⟨?_, by simp [World.frozen?, hg]⟩
    simp only [World.cell?, hg, Nat.zero_add, Option.isSome_none, Bool.false_eq_true, if_false]
    rw [e1]
    simp [getElem!_pos, hj']

theorem put_block {w : World} {g q : Nat} {F : Array Value} {os : Array Obj} {b : Nat} (hb : b < w.heap.size) (hne : b ≠ g) : (Sort.grow (putRow id (Sort.ahead w q) g 0 F) os).heap[b]? = w.heap[b]? := by
  have : b < (putRow id (Sort.ahead w q) g 0 F).heap.size := by simpa [putRow, mapBlock, Sort.ahead] using hb
  simp only [Sort.grow, Array.getElem?_append, if_pos this]
  simp [putRow, mapBlock, Sort.ahead, Array.getElem?_modify, Ne.symm hne]
theorem put_cell {w : World} {g q : Nat} {F : Array Value} {os : Array Obj} {p : Addr} {u : Value} (hne : p.block ≠ g) (h : w.cell? p = some u) : (Sort.grow (putRow id (Sort.ahead w q) g 0 F) os).cell? p = some u := by
  have hlt := World.block_lt_of_cell? w _ h
  unfold World.cell? at h ⊢
  rw [put_block hlt hne]
  exact h

theorem sp_of_sort [DecidableEq α] {P : Program} {sg : FuncId} {mk : List Value → Value} {t : TypeId} {X : α → IV} (he : ∀ args w, (callFunc sg args).run P w = .ok (.enter sg args) w) (C : SortC P sg k mk) (hk0 : 0 < k) (hk : ∀ x, (c x).length = k)
    (hX : ∀ (W : World) (S : Nat → Prop) us x, us.length = k → (∀ v ∈ us, v.oneCell' = true) → RepIs W S us (c x) → RepI W S (mk us) (X x))
    {f : α → α → Option Int} {g : FuncId} (eg : ∀ args w, (callFunc g args).run P w = .ok (.enter g args) w) (hg : CmpG P g X f) {l r : List α} (h : libSort l f = some r) :
    Sp P sg [.lent (.row t k (l.map c)), .im (.fn g [])] (.mk true [] [.lent (.row t k (r.map c))]) := by
  obtain ⟨hlen, h⟩ := chk_some h
  cases hT : totB f l with
  | false => rw [hT] at h; cases h
  | true =>
  rw [hT] at h
  injection h with h
  subst h
  have T := totB_iff hT
  refine ⟨he, fun w S vs F hS hv hn hF => ?_⟩
  match vs, hv with
  | [v, u], ⟨F1, F2, ⟨hv1, inn, hrow, e1⟩, ⟨F3, F4, ⟨h4, e2⟩, h5, e3⟩, e4⟩ =>
    have h5 : F4 = [] := h5
    have e1 : F1 = (blkOf v).toList := e1
    subst e1 e2 h5 e3
    have e4 : F = (blkOf v).toList := by rw [e4]; simp
    subst e4
    obtain ⟨us, _, _, hlim, hown, hul, h1, hr⟩ := hrow
    rw [List.length_map] at hown hlim
    have hu : u = .func (.func g) #[] #[] := by
      generalize hx : IV.fn g [] = x at h4
      cases h4 with
      | fn f us cs hl hr =>
        injection hx with hx1 hx2
        subst hx1 hx2
        have := List.eq_nil_of_length_eq_zero hl
        subst this
        rfl
      | _ => cases hx
    subst hu
    have fin : ∀ (w' : World) (us' : List Value), w'.ownsRow 0 t k v l.length us' → us'.length = ((isortF f l).map c).flatten.length → (∀ u ∈ us', u.oneCell' = true) →
        Belo (fun b => b ∈ (blkOf v).toList) w.heap.size w w' → (∀ (i : Nat) u x, us'[i]? = some u → ((isortF f l).map c).flatten[i]? = some x → RepI w' (fun b => (S b ∨ w.heap.size ≤ b ∨ b ∈ (blkOf v).toList) ∧ b < w'.heap.size ∧ b ∉ (blkOf v).toList) u x) →
        ∃ (v1 : Value) (F' : List Nat), Ending.returned (.tuple #[]) = .returned v1 ∧ Belo (fun b => b ∈ (blkOf v).toList) w.heap.size w w' ∧
          ResOk w' (fun b => (S b ∨ w.heap.size ≤ b ∨ b ∈ (blkOf v).toList) ∧ b < w'.heap.size ∧ b ∉ F') v1 (bxVs [v, .func (.func g) #[] #[]] [.lent (.row t k (l.map c)), .im (.fn g [])]) (.mk true [] [.lent (.row t k ((isortF f l).map c))]) F' ∧ F'.Nodup ∧ ∀ b ∈ F', (w.heap.size ≤ b ∨ b ∈ (blkOf v).toList) ∧ b < w'.heap.size := by
      intro w' us' ho hl' h1' hb hr'
      refine ⟨_, (blkOf v).toList, rfl, hb, ⟨[], [], (blkOf v).toList, rfl, rfl, ⟨(blkOf v).toList, [], ⟨hv1, inn, ⟨us', hk0, fun x hx => ?_, ?_, ?_, hl', h1', hr'⟩, rfl⟩, rfl, by simp⟩, by simp⟩, hn, fun b hb' => ⟨.inr hb', Nat.lt_of_lt_of_le (hF b hb').2 hb.size⟩⟩
      · obtain ⟨y, _, rfl⟩ := List.mem_map.1 hx
        exact hk y
      · rw [List.length_map, (isortF_perm f l).length_eq]
        exact hlim
      · rw [List.length_map, (isortF_perm f l).length_eq]
        exact ho
    by_cases hnil : v = .slice none 0 0
    · subst hnil
      have hl0 : l.length = 0 := by
        rcases hown.2 with ⟨_, h0⟩ | ⟨_, _, _, e, _⟩
        · exact h0
        · cases e
      have hl0 : l = [] := List.eq_nil_of_length_eq_zero hl0
      subst hl0
      refine (C.1 none 0 _ w).mono ?_
      rintro e w' ⟨rfl, rfl⟩
      have hus : us = [] := List.eq_nil_of_length_eq_zero (by rw [hul]; rfl)
      subst hus
      exact fin w' [] hown rfl (fun u hu => by cases hu) (Belo.refl _ _ _) fun i u x hu => by simp at hu
    · obtain ⟨blk, cap, rfl⟩ : ∃ blk cap, v = .slice (some ⟨blk, 0, none⟩) l.length cap := by
        rcases hown.2 with ⟨e0, _⟩ | ⟨g, cap, cur, e, _⟩
        · exact absurd e0 hnil
        · exact ⟨g, cap, e⟩
      have hblk : blk < w.heap.size := (hF blk (by simp [blkOf])).2
      have hnS : ¬ S blk := (hF blk (by simp [blkOf])).1
      obtain ⟨zs, hz1, hz2⟩ := el_list (w := w) (S := S) (l := l) hk l us (fun x hx => hx) hul h1 hr
      by_cases hl0 : l = []
      · subst hl0
        refine (C.1 (some ⟨blk, 0, none⟩) cap _ w).mono ?_
        rintro e w' ⟨rfl, rfl⟩
        have hus : us = [] := List.eq_nil_of_length_eq_zero (by rw [hul]; rfl)
        subst hus
        exact fin w' [] hown rfl (fun u hu => by cases hu) (Belo.refl _ _ _) fun i u x hu => by simp at hu
      · have hzl : zs.length = l.length := by have := congrArg List.length hz2; simpa using this
        obtain ⟨z0, hz0⟩ : ∃ z, z ∈ zs := by
          cases zs with
          | nil => exact absurd (by simpa using hz2.symm) hl0
          | cons z zs => exact ⟨z, by simp⟩
        haveI : Inhabited (El w S k c l) := ⟨z0⟩
        have henc : ∀ x : El w S k c l, (El.enc x).length = k := fun x => x.property.1
        have hflat : ∀ d : Array (El w S k c l), Go.Sort.flatK El.enc k d = (d.toList.map El.enc).flatten.toArray := flatK_list henc
        have hcall := C.2 (El w S k c l) El.enc (fun x y => cfv f x.wd y.wd) g blk cap zs.toArray w henc (fun x => x.property.2.1) (el_swo T) eg (fun m os dk _ x y => by
            refine hg _ S _ _ x.wd y.wd _ (T.get _ x.property.2.2.2 _ y.property.2.2.2) (hX _ _ _ _ x.property.1 x.property.2.1 ⟨x.property.2.2.1.1, fun i u z hu hz => ?_⟩) (hX _ _ _ _ y.property.1 y.property.2.1 ⟨y.property.2.2.1.1, fun i u z hu hz => ?_⟩)
            · exact (x.property.2.2.1.2 i u z hu hz).mono (fun _ h => h) fun p u hp hu => put_cell (fun e => hnS (by rw [← e]; exact hp)) hu
            · exact (y.property.2.2.1.2 i u z hu hz).mono (fun _ h => h) fun p u hp hu => put_cell (fun e => hnS (by rw [← e]; exact hp)) hu)
          (by rw [hflat]; show Go.Sort.Holds id w blk 0 ((zs.map El.enc).flatten).toArray; rw [hz1]; exact holds_own hown) hblk (by simp; omega)
        have hsz : zs.toArray.size = l.length := by simpa using hzl
        rw [hsz] at hcall
        refine hcall.mono ?_
        rintro e w' ⟨rfl, d', n, os, hp, hs, rfl⟩
        have hd' : d'.size = l.length := by rw [hp.1]; exact hsz
        have hperm := perm_of_in' (d := zs.toArray) (by rw [hsz]; exact hp)
        have hpw := pairwise_of_in' hd' hs
        have hwd : d'.toList.map El.wd = isortF f l := by
          have hp1 : (d'.toList.map El.wd).Perm l := (hperm.map El.wd).trans (List.Perm.of_eq hz2)
          refine sorted_uniq (T.sub fun x hx => hp1.mem_iff.1 hx) (hp1.trans (isortF_perm f l).symm) ?_ (isortF_sorted T)
          rw [List.pairwise_map]
          refine hpw.imp fun {a b} hab => ?_
          have hab2 : ¬ cfv f b.wd a.wd < 0 := by simpa only [ltOf, decide_eq_false_iff_not] using hab
          exact hab2
        rw [hflat]
        have hlen' : ((d'.toList.map El.enc).flatten).length = l.length * k := by
          rw [flat_length (k := k) fun x hx => by obtain ⟨y, _, rfl⟩ := List.mem_map.1 hx; exact henc y]
          simp [hd']
        have hflen : ((isortF f l).map c).flatten.length = l.length * k := by
          rw [flat_length (k := k) fun x hx => by obtain ⟨y, _, rfl⟩ := List.mem_map.1 hx; exact hk y, List.length_map, (isortF_perm f l).length_eq]
        refine fin _ _ (own_put hown hlen') (by rw [hlen', hflen]) (fun u hu => ?_) ⟨rfl, rfl, rfl, ?_, fun b hb hnb => put_block hb fun e => hnb (by simp [blkOf, e])⟩ fun i u x hu hx => ?_
        · obtain ⟨us2, h2, h3⟩ := List.mem_flatten.1 hu
          obtain ⟨y, _, rfl⟩ := List.mem_map.1 h2
          exact y.property.2.1 u h3
        · simp [Sort.grow, putRow, mapBlock, Sort.ahead]
        · have hi : i < l.length * k := by rw [← hlen']; exact (List.getElem?_eq_some_iff.1 hu).1
          have hq : i / k < l.length := Nat.div_lt_of_lt_mul (by rwa [Nat.mul_comm] at hi)
          have hm : i % k < k := Nat.mod_lt _ hk0
          have hik : i / k * k + i % k = i := by rw [Nat.mul_comm]; exact Nat.div_add_mod i k
          have hq' : i / k < d'.size := by rw [hd']; exact hq
          have g1 := flat_get (es := d'.toList.map El.enc) (i := i / k) (j := i % k) (e := El.enc (d'[i / k]'hq')) (fun x hx => by obtain ⟨y, _, rfl⟩ := List.mem_map.1 hx; exact henc y) (by simp [hq']) hm
          have g2 := flat_get (es := (isortF f l).map c) (i := i / k) (j := i % k) (e := c (El.wd (d'[i / k]'hq'))) (fun x hx => by obtain ⟨y, _, rfl⟩ := List.mem_map.1 hx; exact hk y) (by rw [← hwd]; simp [hq']) hm
          rw [hik, hu] at g1
          rw [hik, hx] at g2
          refine ((d'[i / k]'hq').property.2.2.1.2 _ _ _ g1.symm g2.symm).mono (fun b hb => ⟨.inl hb, ?_, ?_⟩) fun p u hp hu => put_cell (fun e => hnS (by rw [← e]; exact hp)) hu
          · have : w.heap.size ≤ (Sort.grow (putRow id (Sort.ahead w n) blk 0 ((d'.toList.map El.enc).flatten).toArray) os).heap.size := by simp [Sort.grow, putRow, mapBlock, Sort.ahead]
            exact Nat.lt_of_lt_of_le (hS b hb) this
          · intro hb'
            have : b = blk := by simpa [blkOf] using hb'
            subst this
            exact hnS hb
end model
end Go.Proofs.YthahbiahlpcgeaaGreatDoor.Sym
