/-
  The sort at this program's types, and the comparisons that it is handed.
-/
import Derived.Test.YthahbiahlpcgeaaGreatDoorLibSort
import Derived.Test.YthahbiahlpcgeaaGreatDoorLibKey
import Derived.Test.YthahbiahlpcgeaaGreatDoorKCmp
import Derived.Test.YthahbiahlpcgeaaGreatDoorShelf
namespace Go.Proofs.YthahbiahlpcgeaaGreatDoor.Sym
open Go.RowKit Go.Sort
set_option maxRecDepth 100000

theorem putRow_map {E : Type} [Inhabited E] (enc : E → Value) (w : World) (blk off : Nat) (d : Array E) : putRow enc w blk off d = putRow id w blk off (d.map enc) := by
  unfold putRow
  congr 1
  funext c
  unfold putCells
  congr 1
  funext k x
  rw [Array.size_map]
  by_cases h : off ≤ k ∧ k < off + d.size
  · have h1 : k - off < d.size := by omega
    rw [if_pos h, if_pos h, getElem!_pos d _ h1, getElem!_pos (d.map enc) _ (by simpa using h1)]
    simp
  · rw [if_neg h, if_neg h]
theorem holds_map {E : Type} [Inhabited E] {enc : E → Value} {w : World} {blk off : Nat} {d : Array E} (h : Go.Sort.Holds id w blk off (d.map enc)) : Go.Sort.Holds enc w blk off d := fun j hj => by
  have := h j (by simpa using hj)
  rw [getElem!_pos (d.map enc) _ (by simpa using hj)] at this
  rw [getElem!_pos d _ hj]
  simpa using this
def one1 (us : List Value) : Value := us.headD undef
theorem flat_one1 {E : Type} [Inhabited E] {enc : E → List Value} (hk : ∀ x, (enc x).length = 1) (d : Array E) : Go.Sort.flatK enc 1 d = d.map fun x => one1 (enc x) := by
  rw [flatK_list hk]
  have : (d.toList.map enc).flatten = d.toList.map fun x => one1 (enc x) := by
    generalize d.toList = l
    induction l with
    | nil => rfl
    | cons x l ih =>
      rw [List.map_cons, List.flatten_cons, ih, List.map_cons]
      have := hk x
      match h : enc x, this with
      | [v], _ => rfl
  rw [this]
  apply Array.ext'
  simp

theorem sortC_words : SortC Tryz.prog 135 1 one1 := by
  refine ⟨fun p cap fv w => AnyF.slices_SortFunc_none { Tryz.sortW with } p cap fv w, ?_⟩
  intro E _ enc cf g blk cap d w hk h1 hO eg hcmp hH hblk hsz
  have e1 : ∀ m (dk : Array E), putRow (fun x => one1 (enc x)) (Sort.ahead w m) blk 0 dk = putRow id (Sort.ahead w m) blk 0 (Go.Sort.flatK enc 1 dk) := fun m dk => by rw [flat_one1 hk, putRow_map]
  have hone : OneCell fun x => one1 (enc x) := fun x => by
    have h2 := hk x
    have h3 := h1 x
    match h : enc x, h2 with
    | [v], _ =>
      show (one1 (enc x)).oneCell' = true
      rw [h] at h3 ⊢
      exact h3 v (by simp)
  refine (Any.slices_SortFunc Tryz.sortW (fun x => one1 (enc x)) hone cf hO g #[] blk 0 cap d w eg (fun m os dk hs x y => ?_) (holds_map (by rw [← flat_one1 hk]; exact hH)) hblk hsz).mono ?_
  · have := hcmp m os dk hs x y
    unfold sortWorld
    rw [e1]
    simpa using this
  · rintro e w' ⟨he, d', n, os, hp, hs, hw⟩
    exact ⟨he, d', n, os, hp, hs, by rw [hw]; unfold sortWorld; rw [e1]⟩

theorem aggF : ∀ w, (isAgg (Tryz.sortF_ren.t 24)).run Tryz.prog w = .ok true w := Tryz.isAgg83
theorem sizF : ∀ w, (Go.sizeOf (Tryz.sortF_ren.t 24)).run Tryz.prog w = .ok 2 w := Tryz.sizeOf83

set_option maxHeartbeats 2000000 in
theorem sortC_finder : SortC Tryz.prog 105 2 (fun us => .agg us.toArray) := by
  refine ⟨fun p cap fv w => ?_, ?_⟩
  · have hp := fun lim W => AnyF.pdqsortCmpFunc_none (P := Tryz.prog) (ρ := Tryz.sortF_ren) Tryz.sortF p cap lim fv W
    have hl : ∀ W, Calls Tryz.prog 130 #[.int .u64 0] W fun e w' => e = .returned (.int .i64 (Lib.bitLen 0 : Nat)) ∧ w' = W := fun W => by
      have h := Any.bits_Len (SlLaysF0.n15.bits (P := Tryz.prog) (ρ := Tryz.sortF_ren) { Tryz.sortF with }) 0 W (by omega) (by omega)
      exact h
    go_enter Tryz.func105, Tryz.ntmps105
    go_wp2_with (first | (go_at_call 130; refine (hl _).mono ?_; rintro e w' ⟨rfl, rfl⟩) | (go_at_call 129; refine (hp _ _).mono ?_; rintro e w' ⟨rfl, rfl⟩))
    go_end0
    exact ⟨rfl, rfl⟩
  · intro E _ enc cf g blk cap d w hk h1 hO eg hcmp hH hblk hsz
    have hlim : Lib.bitLen d.size < 4611686018427387904 := Nat.lt_of_le_of_lt (Lib.bitLen_le d.size 62 (by omega) (by omega)) (by omega)
    have hcmp' : CmpLays Tryz.prog g #[] enc 2 cf blk 0 d.size w := fun m os dk hs x y => by
      unfold sortWorldK putRowK
      simpa using hcmp m os dk hs x y
    have hp := AnyQ.pdqsortCmpFunc_all (P := Tryz.prog) (ρ := Tryz.sortF_ren) Tryz.sortF 2 aggF sizF enc cf g #[] hO blk 0 cap d w eg hcmp' ⟨hk, h1, hH, hblk⟩ (d.size + 1) 0 d.size (Lib.bitLen d.size) d w (by omega) rfl (SWK.start hH) (Nat.zero_le _) (Nat.le_refl _) hsz hlim (Or.inl rfl)
    have hl : Calls Tryz.prog 130 #[.int .u64 (d.size : Int)] w fun e w' => e = .returned (.int .i64 (Lib.bitLen d.size : Nat)) ∧ w' = w := by
      have h := Any.bits_Len (SlLaysF0.n15.bits (P := Tryz.prog) (ρ := Tryz.sortF_ren) { Tryz.sortF with }) (d.size : Int) w (by omega) (by omega)
      rwa [Int.toNat_natCast] at h
    have wr : IntKind.u64.wrap (d.size : Int) = d.size := by simp [IntKind.wrap, IntKind.bits, IntKind.signed]; omega
    have hps := pdq_sorts (ltOf cf) hO d 0 d.size (Lib.bitLen d.size) true true (Nat.zero_le _) (Nat.le_refl _) (Or.inl rfl)
    clear hH hcmp hcmp' hk h1
    go_enter Tryz.func105, Tryz.ntmps105
    go_wp2_with (first | (go_at_call 130; refine hl.mono ?_; rintro e w' ⟨rfl, rfl⟩) | (go_at_call 129; refine hp.mono ?_; rintro e w' ⟨rfl, n, os, rfl⟩))
    go_end0
    exact ⟨rfl, _, n, os, hps.1, hps.2, rfl⟩

/-- The comparisons. -/
theorem cmpG_lex {f : List Int → List Int → Option Int} (hf : ∀ x y r, x.length ≤ 17592186044416 → f x y = some r → r = lexI x y) : CmpG Tryz.prog 107 (nL cI) f := by
  intro W S u u' x y r h hu hu'
  obtain ⟨A, n, c, rfl, h1⟩ := rowOf_ints hu
  have := hf x y r (by rw [h1.len]; exact h1.small) h
  subst this
  obtain ⟨B, m, c', rfl, h2⟩ := rowOf_ints hu'
  refine (wordLex_any h1 h2).mono fun e w' ⟨he, hw⟩ => ⟨he, 0, #[], ?_⟩
  rw [← hw, Sort.grow_empty]
  rfl
theorem cmpG_compare {f : List Int → List Int → Option Int} (hf : ∀ x y r, x.length ≤ 17592186044416 → f x y = some r → r = cmpW x y) : CmpG Tryz.prog 99 (nL cI) f := by
  intro W S u u' x y r h hu hu'
  obtain ⟨A, n, c, rfl, h1⟩ := rowOf_ints hu
  have := hf x y r (by rw [h1.len]; exact h1.small) h
  subst this
  obtain ⟨B, m, c', rfl, h2⟩ := rowOf_ints hu'
  refine (wordCompare_any h1 h2).mono fun e w' ⟨he, hw⟩ => ⟨he, 0, #[.cells #[.int .i64 (cmpI x.length y.length), .int .i64 (lexI x y)] 3], ?_⟩
  rw [← hw, Sort.alloc_eq_grow]
  rfl

theorem rep_two {w : World} {S : Nat → Prop} {u : Value} {x y : IV} (h : RepI w S u (.agg [x, y])) : ∃ a b, u = .agg #[a, b] ∧ RepI w S a x ∧ RepI w S b y := by
  generalize hz : IV.agg [x, y] = z at h
  cases h with
  | agg us cs hl h1 hr =>
    injection hz with hz
    subst hz
    match us, hl with
    | [a, b], _ => exact ⟨a, b, rfl, hr 0 a x rfl rfl, hr 1 b y rfl rfl⟩
  | _ => cases hz

set_option maxHeartbeats 400000 in
theorem find1_any {A A' B B' : Option Addr} {n c m c' p q p' q' : Nat} {xs ys : List Int} {w : World} (hx : RowOf w IsInt A n c xs) (hy : RowOf w IsInt B m c' ys) :
    Calls Tryz.prog 106 #[.agg #[.slice A n c, .slice A' p q], .agg #[.slice B m c', .slice B' p' q']] w fun e w' => e = .returned (.int .i64 (lexI xs ys)) ∧ ∃ q os, w' = Sort.grow (w.drewN q) os := by
  have key : ∀ o o', ∃ q os, (w.alloc o).alloc o' = Sort.grow (w.drewN q) os := fun o o' => ⟨0, #[o] ++ #[o'], by
    rw [Sort.alloc_eq_grow, Sort.alloc_eq_grow, Sort.grow_grow]
    rfl⟩
  have hx' : ∀ o o', RowOf ((w.alloc o).alloc o') IsInt A n c xs := fun o o' => (hx.kept (grown_keeps (World.grownBy_alloc w o none))).kept (grown_keeps (World.grownBy_alloc _ o' none))
  have hy' : ∀ o o', RowOf ((w.alloc o).alloc o') IsInt B m c' ys := fun o o' => (hy.kept (grown_keeps (World.grownBy_alloc w o none))).kept (grown_keeps (World.grownBy_alloc _ o' none))
  go_enter Tryz.func106, Tryz.ntmps106
  go_wp2_with (go_at_call 107; refine (wordLex_any (hx' _ _) (hy' _ _)).mono ?_; rintro e w' ⟨rfl, rfl⟩)
  go_ret
  exact ⟨rfl, key _ _⟩
theorem cmpG_find1 {T : Type} {X : T → IV} {i o : T → List Int} (hX : ∀ x, X x = .agg [nL cI (i x), nL cI (o x)]) {f : T → T → Option Int} (hf : ∀ x y r, (i x).length ≤ 17592186044416 → f x y = some r → r = lexI (i x) (i y)) : CmpG Tryz.prog 106 X f := by
  intro W S u u' x y r h hu hu'
  rw [hX] at hu hu'
  obtain ⟨a, b, rfl, ha, hb⟩ := rep_two hu
  obtain ⟨a', b', rfl, ha', hb'⟩ := rep_two hu'
  obtain ⟨A, n, c, rfl, h1⟩ := rowOf_ints ha
  have := hf x y r (by rw [h1.len]; exact h1.small) h
  subst this
  obtain ⟨B, m, c', rfl, h2⟩ := rowOf_ints ha'
  obtain ⟨_, _, _, rfl, _⟩ := rowOf_ints hb
  obtain ⟨_, _, _, rfl, _⟩ := rowOf_ints hb'
  exact find1_any h1 h2
theorem rep_of_one {W : World} {S : Nat → Prop} {us : List Value} {x : IV} (hl : us.length = 1) (hr : RepIs W S us [x]) : RepI W S (one1 us) x := by
  match us, hl with
  | [u], _ => exact hr.2 0 u x rfl rfl
/-- A comparison that may be handed to a sort. -/
def CmpE {T : Type} (P : Program) (g : FuncId) (X : T → IV) (f : T → T → Option Int) : Prop := (∀ args w, (callFunc g args).run P w = .ok (.enter g args) w) ∧ CmpG P g X f
end Go.Proofs.YthahbiahlpcgeaaGreatDoor.Sym
