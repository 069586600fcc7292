/-
  Walk of wordset.Product: the known words in a map of their keys.
-/
import Derived.Test.YtmlghnfbjkcelaaDoorW17
import Derived.Maps.OwnSet
import Derived.Maps.OwnOps
import Derived.Maps.Views
namespace Go.Proofs.YtmlghnfbjkcelaaDoor
open Go.RowKit Go.Maps Go.WideMaps

/-- One more word, if it is new. -/
def nubS (acc : List (List Int)) (x : List Int) : List (List Int) := if x ∈ acc then acc else acc ++ [x]
def nubW (l : List (List Int)) : List (List Int) := l.foldl nubS []
theorem nubW_snoc (l : List (List Int)) (x : List Int) : nubW (l ++ [x]) = nubS (nubW l) x := by simp [nubW]

theorem insW_length_new {l : List (List Int)} {x : List Int} (h : x ∉ l) : (insW l x).length = l.length + 1 := by
  have := placeL_le l x
  unfold insW
  rw [if_neg h]
  simp
  omega

theorem nub_fold : ∀ (l a b : List (List Int)), a.Nodup → (∀ x, x ∈ a ↔ x ∈ b) → a.length = b.length →
    (l.foldl nubS a).Nodup ∧ (∀ x, x ∈ l.foldl nubS a ↔ x ∈ a ∨ x ∈ l) ∧ (l.foldl nubS a).length = (l.foldl insW b).length
  | [], a, b, h1, _, h3 => ⟨h1, by simp, h3⟩
  | y :: l, a, b, h1, h2, h3 => by
    by_cases hy : y ∈ a
    · have e1 : nubS a y = a := by unfold nubS; rw [if_pos hy]
      have e2 : insW b y = b := by unfold insW; rw [if_pos ((h2 y).1 hy)]
      obtain ⟨r1, r2, r3⟩ := nub_fold l a b h1 h2 h3
      rw [List.foldl_cons, List.foldl_cons, e1, e2]
      refine ⟨r1, fun x => ?_, r3⟩
      rw [r2 x, List.mem_cons]
      constructor
      · rintro (h | h)
        · exact .inl h
        · exact .inr (.inr h)
      · rintro (h | h | h)
        · exact .inl h
        · rw [h]; exact .inl hy
        · exact .inr h
    · have e1 : nubS a y = a ++ [y] := by unfold nubS; rw [if_neg hy]
      have hyb : y ∉ b := fun h => hy ((h2 y).2 h)
      obtain ⟨r1, r2, r3⟩ := nub_fold l (a ++ [y]) (insW b y) (by
        rw [List.nodup_append]
        refine ⟨h1, by simp, fun u hu v hv => ?_⟩
        simp at hv
        rw [hv]
        exact fun e => hy (e ▸ hu)) (fun x => by rw [mem_insW, List.mem_append, h2 x]; simp) (by rw [insW_length_new hyb]; simp [h3])
      rw [List.foldl_cons, List.foldl_cons, e1]
      refine ⟨r1, fun x => ?_, r3⟩
      rw [r2 x, List.mem_append, List.mem_cons]
      simp only [List.mem_cons, List.not_mem_nil, or_false]
      exact or_assoc

theorem nubW_nodup (l : List (List Int)) : (nubW l).Nodup := (nub_fold l [] [] List.nodup_nil (by simp) rfl).1
theorem mem_nubW (l : List (List Int)) (x : List Int) : x ∈ nubW l ↔ x ∈ l := by
  have := (nub_fold l [] [] List.nodup_nil (by simp) rfl).2.1 x
  unfold nubW
  rw [this]; simp
theorem nubW_length (l : List (List Int)) : (nubW l).length = (sortW l).length := (nub_fold l [] [] List.nodup_nil (by simp) rfl).2.2
theorem nubW_old {l : List (List Int)} {x : List Int} (h : x ∈ nubW l) : nubW (l ++ [x]) = nubW l := by rw [nubW_snoc, nubS, if_pos h]
theorem nubW_new {l : List (List Int)} {x : List Int} (h : x ∉ nubW l) : nubW (l ++ [x]) = nubW l ++ [x] := by rw [nubW_snoc, nubS, if_neg h]

theorem nub_sorted {l' l : List (List Int)} (hp : l'.Perm (nubW l)) (hw : l'.Pairwise fun a b => 0 ≤ cmpW b a) : l' = sortW l := by
  have hn : l'.Nodup := hp.symm.nodup (nubW_nodup l)
  refine asc_ext ?_ (sortW_asc l) fun x => ?_
  · unfold Asc
    refine (hw.and hn).imp fun {a b} h => ?_
    have h1 := cmpW_swap a b
    have h2 := cmpW_zero a b
    have h3 := cmpW_range a b
    have h4 : cmpW a b ≠ 0 := fun e => h.2 (h2.1 e)
    have h5 := h.1
    omega
  · rw [hp.mem_iff, mem_nubW, mem_sortW]

/-- The map holds the keys of just these words. -/
def MapOf (D : DataW Unit) (out : List (List Int)) : Prop :=
  Maps.IsMap D ∧ ∀ x, D.atKey (.string (keyL x)) (.lit (.bool false)) = .lit (.bool (decide (x ∈ out)))

theorem MapOf.nil_ : MapOf (.map []) [] := ⟨Maps.isMap_empty, fun x => by simp [DataW.atKey]⟩
theorem MapOf.put_ {D : DataW Unit} {out : List (List Int)} (h : MapOf D out) (x : List Int) : MapOf (D.put (.string (keyL x)) (.lit (.bool true))) (out ++ [x]) := by
  refine ⟨h.1.put _ _, fun y => ?_⟩
  by_cases hy : y = x
  · subst hy
    rw [Maps.atKey_put_same (k := .string (keyL y)) h.1 (by simp [WideAt.IsKeyLit])]
    simp
  · rw [Maps.atKey_put_other (fun e => hy (keyL_inj (by injection e))), h.2 y]
    congr 2
    simp [hy]

/-- A look-up in a map of bools that the call made. -/
theorem wpList_lookup_own_bool {P : Program} (w : World) {ops : Array Oper} {rest : List Oper} {o : Oper} {a : Act} {Q : Exit → Act → World → Prop}
    (hg : o.guard = none) (m x : Operand) (t : TypeId) (hop : o.op = Op.lookup t m x false)
    (k e : TypeId) (K : Keyed P k) (ht : P.underlying t = some (.map k e)) (he : P.underlying e = some .bool) (hz : (zeroValue e).run P w = .ok (.bool false) w) (b n : Nat) (D : DataW Unit)
    (hm : a.eval m = .map (some b)) (hown : w.ownsMap P k (plainElem P e) b n D) (key : Value) (kl : Lit) (hx : a.eval x = key) (hkey : keyOf P k key = some kl)
    (c : Bool) (hat : D.atKey kl (.lit (.bool false)) = .lit (.bool c)) (hK : wpList P ops Q rest (a.put o.dst (.bool c)) w) :
    wpList P ops Q (o :: rest) a w := by
  refine wpList_plain hg fun K' hK' => ?_
  obtain ⟨v, ps, hrun, hv⟩ := hown.lookup K ht hz (plainElem_bool he false) hkey
  rw [hat] at hv
  obtain rfl : v = .bool c := by
    unfold plainElem at hv
    rw [he] at hv
    cases v <;> simp at hv
    rw [hv.1]
  unfold Oper.wp
  simp [execOp, hop, hm, hx, hrun, Result.andThen]
  exact hK' _ _ hK

theorem Tryd.zeroBool (w : World) : (zeroValue 4).run Tryd.prog w = .ok (.bool false) w := by kernel_rfl
theorem Tryd.lawString : Keyed Tryd.prog 9 := string_keyed Tryd.underlying9

theorem hkeyL (x : List Int) (h : (keyL x).length ≤ maxLen) : keyOf Tryd.prog 9 (.string ⟨(keyL x).toArray⟩) = some (.string (keyL x)) := by
  have := keyOf_string_mk (P := Tryd.prog) Tryd.underlying9 (s := ⟨(keyL x).toArray⟩) (by simpa [ByteArray.size] using h)
  simpa using this

/-- No cell lies in a map's block. -/
theorem ownsMap_keeps {P : Program} {k : TypeId} {R : Value → Option (DataW Unit × List MemPlace)} {w w' : World} {b n : Nat} {D : DataW Unit} (h : w.ownsMap P k R b n D) (hg : w.grownBy w' (some b)) : Keeps w w' := by
  intro a u hu
  refine hg.cell hu fun e => ?_
  injection e with e
  obtain ⟨es, clock, hb, _⟩ := h
  unfold World.cell? at hu
  rw [e, hb] at hu
  simp at hu

theorem OwnW.keptMap {w w' : World} {base b : Nat} {v : Value} {l : List (List Int)} (h : OwnW w base v l) (hk : Keeps w w') (hg : w.grownBy w' (some b)) (hb : b < base) : OwnW w' base v l := by
  have hlt := h.lt
  obtain ⟨us, hl, hown, hel⟩ := h
  refine ⟨us, hl, hown.kept hg ?_, fun i x hx => ?_⟩
  · cases hv : v.ownBlock with
    | none => exact .inl rfl
    | some g =>
      right
      intro e
      injection e with e
      have := (hlt g hv).1
      omega
  · obtain ⟨u, hu, hi, ho⟩ := hel i x hx
    exact ⟨u, hu, hi.keep hk, ho⟩

theorem prodW_nil {a b : List (List Int)} (h : a = [] ∨ b = []) : prodW a b = ([], 0) := by
  have e : prodL (sortW a) (sortW b) = [] := by
    rcases h with rfl | rfl
    · rfl
    · simp [prodL, sortW]
  unfold prodW
  rw [if_neg (by rcases h with h | h <;> simp [h]), e, if_neg (by simp [sortW])]
  rfl

def BoolMap (w : World) (b n : Nat) (D : DataW Unit) : Prop := w.ownsMap Tryd.prog 9 (plainElem Tryd.prog 4) b n D

/-- What holds between two rounds: L the words made so far, with repeats. -/
def ProdInv (w2 wr : World) (v : Value) (L : List (List Int)) : Prop :=
  ∃ D, BoolMap wr w2.heap.size (nubW L).length D ∧ MapOf D (nubW L) ∧ OwnW wr (w2.heap.size + 1) v (nubW L) ∧ Below w2.heap.size w2 wr ∧ (nubW L).length ≤ 10000

theorem ProdInv.kept {w2 wr w' : World} {v : Value} {L : List (List Int)} (h : ProdInv w2 wr v L) (hb : Below wr.heap.size wr w') : ProdInv w2 w' v L := by
  obtain ⟨D, h1, h2, h3, h4, h5⟩ := h
  exact ⟨D, h1.kept (grown_none hb) (by simp), h2, h3.kept (grown_none hb), h4.trans (hb.mono h4.size), h5⟩

theorem ProdInv.join {w2 wr w3 : World} {o : Obj} {v jv : Value} {L : List (List Int)} {z : List Int} (h : ProdInv w2 wr v L) (hjo : OwnI w3 (wr.alloc o).heap.size jv z) (hjb : Below (wr.alloc o).heap.size (wr.alloc o) w3) (hz : z.length ≤ 1024) :
    ProdInv w2 w3 v L ∧ Off jv v.ownBlock ∧ IsI w3 jv z := by
  refine ⟨h.kept (((Below.refl _ wr).alloc (Nat.le_refl _) o).trans (hjb.mono (by simp))), hjo.off fun g e => ?_, hjo.isI (by omega)⟩
  obtain ⟨D, h1, h2, h3, h4, h5⟩ := h
  have := (h3.lt g e).2
  simp
  omega

/-- A new word: its key into the map, itself behind the words. -/
theorem ProdInv.push {w2 w4 w5 w6 : World} {v v' jv : Value} {t : TypeId} {L : List (List Int)} {z : List Int} {D : DataW Unit} {us : List Value} (hmap : BoolMap w5 w2.heap.size ((nubW L).length + 1) (D.put (.string (keyL z)) (.lit (.bool true)))) (hmo : MapOf D (nubW L))
    (hul : us.length = (nubW L).length) (hel : ∀ (i : Nat) x, (nubW L)[i]? = some x → ∃ u, us[i]? = some u ∧ IsI w5 u x ∧ Off u v.ownBlock) (hlt : ∀ k, v.ownBlock = some k → w2.heap.size + 1 ≤ k ∧ k < w4.heap.size) (h45 : w4.grownBy w5 (some w2.heap.size))
    (hbel : Below w2.heap.size w2 w4) (hI : IsI w5 jv z) (hoff : Off jv v.ownBlock) (hnew : z ∉ nubW L) (h6 : (nubW L).length < 10000)
    (hown6 : w6.ownsRow (w2.heap.size + 1) 38 1 v' (us.length + 1) (us ++ [jv])) (hg6 : (w5.alloc (.cells #[jv] t)).grownBy w6 v.ownBlock) (hb6 : v'.ownBlock = v.ownBlock ∨ v'.ownBlock = some (w5.alloc (.cells #[jv] t)).heap.size) :
    ProdInv w2 w6 v' (L ++ [z]) := by
  have hpush := OwnW.push hul hel hI hoff (World.grownBy_alloc w5 _ none) hown6 hg6 hb6
  unfold ProdInv
  rw [nubW_new hnew]
  refine ⟨_, ?_, hmo.put_ z, hpush, ?_, by simp; omega⟩
  · have e : (nubW L ++ [z]).length = (nubW L).length + 1 := by simp
    rw [e]
    exact (World.ownsMap.alloc hmap _).kept hg6 (fun e => by have := (hlt _ e.symm).1; omega)
  · have hb5 : Below w2.heap.size w2 w5 := hbel.grown h45 hbel.size (fun g e => by injection e with e; omega)
    exact (hb5.alloc hb5.size _).grown hg6 (by have := hb5.size; simp; omega) fun g e => by have := (hlt g e).1; omega

set_option maxRecDepth 100000 in
set_option maxHeartbeats 3200000 in
theorem wordsetProduct_any {A B : Option Addr} {n c m c' : Nat} {a b : List (List Int)} {w : World} (ha : RowOf w (IsI w) A n c a) (hb : RowOf w (IsI w) B m c' b) (hn : n ≤ 1000) (hm : m ≤ 1000)
    (hra : ∀ x ∈ a, ∀ y ∈ x, Rng y) (hrb : ∀ x ∈ b, ∀ y ∈ x, Rng y) :
    Calls Tryd.prog 14 #[.slice A n c, .slice B m c'] w (PairW w (prodW a b)) := by
  have hla := ha.longest_le
  have hlb := hb.longest_le
  have hal := ha.len
  have hbl := hb.len
  by_cases h0 : n = 0
  · subst h0
    rw [prodW_nil (.inl (List.eq_nil_of_length_eq_zero hal))]
    clear ha hb hra hrb
    go_enter Tryd.func14, Tryd.ntmps14
    go_wp2
    go_ret2
    exact ⟨_, rfl, OwnW.nil_ _ _, Below.refl _ _⟩
  by_cases h1 : m = 0
  · subst h1
    rw [prodW_nil (.inr (List.eq_nil_of_length_eq_zero hbl))]
    have hd0 : ((n : Int) == 0) = false := by simp; omega
    clear ha hb hra hrb
    go_enter Tryd.func14, Tryd.ntmps14
    go_wp2
    go_ret2
    exact ⟨_, rfl, OwnW.nil_ _ _, Below.refl _ _⟩
  have hd0 : ((n : Int) == 0) = false := by simp; omega
  have hd1 : ((m : Int) == 0) = false := by simp; omega
  have hanil : a ≠ [] := fun e => by rw [e] at hal; simp at hal; omega
  have hbnil : b ≠ [] := fun e => by rw [e] at hbl; simp at hbl; omega
  have HcA := Lib.hid (wordsetlongest_any ha)
  have HcB := Lib.hid (wordsetlongest_any hb)
  by_cases hlong : 1024 < longestL a + longestL b
  · have hres : prodW a b = ([], 3) := by unfold prodW; rw [if_pos ⟨⟨hanil, hbnil⟩, hlong⟩]
    rw [hres]
    have hd : decide ((longestL a : Int) + (longestL b : Int) > 1024) = true := decide_eq_true (by omega)
    generalize longestL a = la at hla hd HcA
    generalize longestL b = lb at hlb hd HcB
    have hw : wrap64 ((la : Int) + (lb : Int)) = (la : Int) + (lb : Int) := by unfold wrap64; omega
    clear hlong ha hb hra hrb
    go_enter Tryd.func14, Tryd.ntmps14
    go_wp2_with (first | (go_at_call_of 34 (Value.slice A n c); refine HcA.out.mono ?_; rintro e w' ⟨rfl, rfl⟩) | (go_at_call_of 34 (Value.slice B m c'); refine HcB.out.mono ?_; rintro e w' ⟨rfl, rfl⟩))
    go_ret2
    exact ⟨_, rfl, OwnW.nil_ _ _, Below.refl _ _⟩
  · have hsum : longestL a + longestL b ≤ 1024 := by omega
    have hd : decide ((longestL a : Int) + (longestL b : Int) > 1024) = false := decide_eq_false (by omega)
    have hxy : ∀ x ∈ sortW a, ∀ y ∈ sortW b, x.length + y.length ≤ 1024 := fun x hx y hy => by
      rw [mem_sortW] at hx hy
      have h1 := (longestL_le a _).1 (Nat.le_refl _) x hx
      have h2 := (longestL_le b _).1 (Nat.le_refl _) y hy
      omega
    have hrg : ∀ x ∈ sortW a, ∀ y ∈ sortW b, ∀ z ∈ [x, y].flatten, Rng z := fun x hx y hy z hz => by
      rw [mem_sortW] at hx hy
      simp at hz
      rcases hz with hz | hz
      · exact hra x hx z hz
      · exact hrb y hy z hz
    have HRES := Lib.hid (show prodW a b = if 10000 < (sortW (prodL (sortW a) (sortW b))).length then ([], 11) else (sortW (prodL (sortW a) (sortW b)), 0) by
      unfold prodW
      rw [if_neg (fun h => hlong h.2)])
    have HSA := Lib.hid (wordsetSorted_any ha (by omega))
    have HSB := Lib.hid (fun W (hk : Keeps w W) => wordsetSorted_any (hb.words hk) (by omega))
    have hpl := sortW_length a
    have hql := sortW_length b
    rw [hal] at hpl
    rw [hbl] at hql
    generalize hp : sortW a = p at hpl hxy hrg
    generalize hq : sortW b = q at hql hxy hrg
    rw [hp, hq] at HRES
    rw [hp] at HSA
    rw [hq] at HSB
    generalize longestL a = la at hla hd HcA hsum
    generalize longestL b = lb at hlb hd HcB hsum
    have hw : wrap64 ((la : Int) + (lb : Int)) = (la : Int) + (lb : Int) := by unfold wrap64; omega
    have hmax : decide (max (p.length : Int) (q.length : Int) > 10000) = false := decide_eq_false (by omega)
    have HXY := Lib.hid (And.intro hxy hrg)
    have hmm := @run_makeMap Tryd.prog
    clear hlong ha hb hra hrb hal hbl hanil hbnil hxy hrg hp hq
    obtain ⟨i0, hi, hz0, hz1, hz2⟩ := info_parts Tryd.infoWord
    go_enter Tryd.func14, Tryd.ntmps14
    go_wp2_with (first | (go_at_call_of 34 (Value.slice A n c); refine HcA.out.mono ?_; rintro e w' ⟨rfl, rfl⟩) | (go_at_call_of 34 (Value.slice B m c'); refine HcB.out.mono ?_; rintro e w' ⟨rfl, rfl⟩) | (go_at_call_of 22 (Value.slice A n c); refine HSA.out.mono ?_; rintro e w1 ⟨pv, rfl, hpo, hpb⟩; obtain ⟨Ap, cp, rfl, hpr⟩ := hpo.rowOf (by omega)) | (go_at_call_of 22 (Value.slice B m c'); refine (HSB.out w1 (Below.to_keeps hpb)).mono ?_; rintro e w2 ⟨qv, rfl, hqo, hqb⟩; obtain ⟨Aq, cq, rfl, hqr⟩ := hqo.rowOf (by omega)))
    have hbw := hpb.trans (hqb.mono hpb.size)
    have hpr2 := hpr.words (Below.to_keeps hqb)
    have HW := Lib.hid hbw
    have hsz := hbw.size
    clear hpo hpb hpr hqo hqb hbw HSA HSB HcA HcB
    go_loopw [7, 41] (fun v i wr => ∃ k : Nat, k ≤ p.length ∧ i = .int .i64 k ∧ Hid (ProdInv w2 wr v (prodL (p.take k) q))) (fun _ i _ => p.length - (intOf i).toNat)
    case atStart => exact ⟨0, by omega, rfl, Lib.hid ⟨_, World.ownsMap_made _ _ _ _, MapOf.nil_, OwnW.nil_ _ _, (Below.refl _ _).alloc (Nat.le_refl _) _, by simp [prodL, nubW]⟩⟩
    case round =>
      obtain ⟨k, hk, rfl, HI⟩ := hrel
      by_cases h1 : k < p.length
      · obtain ⟨b1, o1, A1, n1, c1, x, rfl, hx1, hx2, hx3⟩ := hpr2.word_at h1
        have HX := Lib.hid hx1
        have hcx := (let ⟨_, _, _, _, hb, _⟩ := HI.out; Below.to_keeps hb _ _ hx2 : wr.cell? ⟨b1, o1 + k, none⟩ = some (.slice A1 n1 c1))
        clear hx1
        go_wp2
        obtain ⟨wo, rfl⟩ : ∃ wo : World, wo = wr := ⟨_, rfl⟩
        clear hcx
        go_loopw [7, 47] (fun v j wi => ∃ t : Nat, t ≤ q.length ∧ j = .int .i64 t ∧ Hid (ProdInv w2 wi v (prodL (p.take k) q ++ (q.take t).map (x ++ ·)))) (fun _ j _ => q.length - (intOf j).toNat)
        case atStart => exact ⟨0, by omega, rfl, by simpa using HI⟩
        case round =>
          obtain ⟨t, ht, rfl, HJ⟩ := hrel
          clear HI
          by_cases h2 : t < q.length
          · obtain ⟨b2, o2, A2, n2, c2, y, rfl, hy1, hy2, hy3⟩ := hqr.word_at h2
            have HY := Lib.hid hy1
            clear hy1
            have hst : (prodL (p.take k) q ++ (q.take t).map (x ++ ·)) ++ [[x, y].flatten] = prodL (p.take k) q ++ (q.take (t + 1)).map (x ++ ·) := by
              rw [take_step HY.out, List.map_append, List.append_assoc]; simp
            have HOV := Lib.hid (fun h => prodL_over (p := p) (q := q) (k := t + 1) HX.out h)
            rw [← hst] at HOV
            have HST := Lib.hid hst
            have hxl : ([x, y].flatten).length ≤ 1024 := by
              have := HXY.out.1 x (List.mem_of_getElem? HX.out) y (List.mem_of_getElem? HY.out)
              simp; omega
            have HRG := Lib.hid (HXY.out.2 x (List.mem_of_getElem? HX.out) y (List.mem_of_getElem? HY.out))
            generalize hL : prodL (p.take k) q ++ (q.take t).map (x ++ ·) = L at HJ HST HOV
            generalize hz : [x, y].flatten = z at hxl HRG HST HOV
            have hbel : Below w2.heap.size w2 wr := let ⟨_, _, _, _, hb, _⟩ := HJ.out; hb
            have hcx := Below.to_keeps hbel _ _ hx2
            have hcy := Below.to_keeps hbel _ _ hy2
            have hu : IsI wr (.slice A1 n1 c1) x := hx3.isI.below hbel
            have hv : IsI wr (.slice A2 n2 c2) y := hy3.isI.below hbel
            have hjc := fun T => wordJoin_any (pair_row hu hv T) (by rw [hz]; omega)
            rw [hz] at hjc
            have HC := Lib.hid hjc
            have hkl : (keyL z).length ≤ 15360 := by
              have := keyL_len (xs := z) fun u hu => HRG.out u hu
              omega
            have hkey := hkeyL z (by unfold maxLen; omega)
            clear hst hbel hx2 hy2 hu hv hjc hz hL
            by_cases hold : z ∈ nubW L
            · have hdec : decide (z ∈ nubW L) = true := decide_eq_true hold
              have HOLD := Lib.hid (And.intro hold hdec)
              clear hold hdec
              go_wp2_with (first | (go_at_call 35; refine (HC.out _).mono ?_; rintro e w3 ⟨jv, rfl, hjo, hjb⟩; obtain ⟨hP3, hF3, hI3⟩ := HJ.out.join hjo hjb hxl; obtain ⟨Aj, nj, cj, rfl, hjr⟩ := hI3; have HK := Lib.hid (key_any hjr HRG.out (by rw [← hjr.len]; omega)); have HP3 := Lib.hid hP3; clear hjo hjb hjr hP3 hF3) | (go_at_call 36; refine HK.out.mono ?_; rintro e w4 ⟨rfl, hb4⟩; have HP4 := Lib.hid (HP3.out.kept hb4); obtain ⟨D, hmap, hmo, hO, hbel, hle⟩ := HP4.out; have hat := hmo.2 z; rw [HOLD.out.2] at hat; clear hmo hO hbel hle hb4) | (at_lookup; refine wpList_lookup_own_bool _ rfl _ _ 49 rfl 9 4 Tryd.lawString Tryd.underlying49 Tryd.underlying4 (Tryd.zeroBool _) w2.heap.size _ D rfl hmap _ _ rfl hkey true hat ?_))
              go_roundw
              case rel => exact ⟨t + 1, by omega, by go_num, Lib.hid (by
                have h6 := HP4.out
                rw [← HST.out]
                unfold ProdInv at h6 ⊢
                rw [nubW_old HOLD.out.1]
                exact h6)⟩
              case measure => simp [intOf] <;> omega
            · have hdec : decide (z ∈ nubW L) = false := decide_eq_false hold
              have HNEW := Lib.hid (And.intro hold hdec)
              clear hold hdec
              obtain ⟨Av, cv, rfl⟩ : ∃ Av cv, u7 = .slice Av (nubW L).length cv := by
                obtain ⟨_, _, _, hO, _, hle⟩ := HJ.out
                obtain ⟨Av, cv, e, _⟩ := hO.rowOf (by omega)
                exact ⟨Av, cv, e⟩
              have hle10 : (nubW L).length ≤ 10000 := let ⟨_, _, _, _, _, hle⟩ := HJ.out; hle
              by_cases hfull : (nubW L).length = 10000
              · have hd10 : (((nubW L).length : Int) == 10000) = true := by simp; omega
                have hres : prodW a b = ([], 11) := by
                  rw [HRES.out, if_pos (HOV.out (by rw [← nubW_length, nubW_new HNEW.out.1]; simp; omega))]
                have HR11 := Lib.hid hres
                clear hres hfull
                go_wp2_with (first | (go_at_call 35; refine (HC.out _).mono ?_; rintro e w3 ⟨jv, rfl, hjo, hjb⟩; obtain ⟨hP3, hF3, hI3⟩ := HJ.out.join hjo hjb hxl; obtain ⟨Aj, nj, cj, rfl, hjr⟩ := hI3; have HK := Lib.hid (key_any hjr HRG.out (by rw [← hjr.len]; omega)); have HP3 := Lib.hid (And.intro hP3 (And.intro hF3 hjr.isI)); clear hjo hjb hjr hP3 hF3) | (go_at_call 36; refine HK.out.mono ?_; rintro e w4 ⟨rfl, hb4⟩; have hi4 := HP3.out.2.2.below hb4; obtain ⟨D, hmap, hmo, hO, hbel, hle⟩ := HP3.out.1.kept hb4; have hat := hmo.2 z; rw [HNEW.out.2] at hat; have HP4 := Lib.hid (And.intro hmo (And.intro hbel (And.intro hi4 hO))); clear hmo hbel hle hb4 hi4 hO) | (at_lookup; refine wpList_lookup_own_bool _ rfl _ _ 49 rfl 9 4 Tryd.lawString Tryd.underlying49 Tryd.underlying4 (Tryd.zeroBool _) w2.heap.size _ D rfl hmap _ _ rfl hkey false hat ?_))
                go_ret2
                rw [HR11.out]
                exact ⟨_, rfl, OwnW.nil_ _ _, HW.out.trans (HP4.out.2.1.mono hsz)⟩
              · have hd10 : (((nubW L).length : Int) == 10000) = false := by simp; omega
                go_wp2_with (first | (go_at_call 35; refine (HC.out _).mono ?_; rintro e w3 ⟨jv, rfl, hjo, hjb⟩; obtain ⟨hP3, hF3, hI3⟩ := HJ.out.join hjo hjb hxl; obtain ⟨Aj, nj, cj, rfl, hjr⟩ := hI3; have HK := Lib.hid (key_any hjr HRG.out (by rw [← hjr.len]; omega)); have HP3 := Lib.hid (And.intro hP3 (And.intro hF3 hjr.isI)); clear hjo hjb hjr hP3 hF3) | (go_at_call 36; refine HK.out.mono ?_; rintro e w4 ⟨rfl, hb4⟩; have hi4 := HP3.out.2.2.below hb4; obtain ⟨D, hmap, hmo, hO, hbel, hle⟩ := HP3.out.1.kept hb4; have hat := hmo.2 z; rw [HNEW.out.2] at hat; have HP4 := Lib.hid (And.intro hmo (And.intro hbel (And.intro hi4 hO))); clear hmo hbel hle hb4 hi4 hO) | (at_lookup; refine wpList_lookup_own_bool _ rfl _ _ 49 rfl 9 4 Tryd.lawString Tryd.underlying49 Tryd.underlying4 (Tryd.zeroBool _) w2.heap.size _ D rfl hmap _ _ rfl hkey false hat ?_) | (at_mapUpdate; refine wpList_mapUpdate_own _ rfl _ _ _ 49 rfl 9 4 Tryd.lawString Tryd.underlying49 _ w2.heap.size _ D rfl hmap (by unfold maxLen; omega) _ _ _ rfl rfl hkey (.lit (.bool true)) [] (plainElem_bool Tryd.underlying4 true) ?_; intro w5 hown5 hgrow5; have hkp := ownsMap_keeps hmap hgrow5; have hlt := HP4.out.2.2.2.lt; obtain ⟨us, hul, hrow, hel⟩ := HP4.out.2.2.2.keptMap hkp hgrow5 (Nat.lt_succ_self _); have hi5 := HP4.out.2.2.1.keep hkp; have HP5 := Lib.hid (And.intro hown5 (And.intro hgrow5 (And.intro hlt (And.intro hul (And.intro hel hi5))))); have hrowB : ∀ o, (w5.alloc o).ownsRow (w2.heap.size + 1) 38 1 (.slice Av (nubW L).length cv) us.length us := (fun o => hrow.alloc o); have hc1 : us.length + 1 ≤ maxLen := (by unfold maxLen; omega); have hc2 : (us.length + 1) * 24 ≤ 140737488355328 := (by omega); have hc3 : ∀ o, w2.heap.size + 1 ≤ (w5.alloc o).heap.size := (fun o => by have := hown5.lt; simp; omega); clear hown5 hgrow5 hkp hlt hul hel hi5 hrow) | (at_builtin; refine wpList_append_row rfl (.tmp 65) (.tmp 67) 25 rfl (w2.heap.size + 1) 38 i0 (.slice none 0 0) 24 Tryd.underlying25 hi hz0 hz1 hz2 rfl (.slice Av (nubW L).length cv) _ us rfl (hrowB _) _ 1 1 [.slice Aj nj cj] rfl (src_one _ _ _) (one_cell _) hc1 hc2 (hc3 _) ?_; intro v6 w6 hown6 hg6 hb6))
                have hfin := ProdInv.push HP5.out.1 HP4.out.1 HP5.out.2.2.2.1 HP5.out.2.2.2.2.1 HP5.out.2.2.1 HP5.out.2.1 HP4.out.2.1 HP5.out.2.2.2.2.2 HP3.out.2.1 HNEW.out.1 (by omega) hown6 hg6 hb6
                rw [HST.out] at hfin
                have HFIN := Lib.hid hfin
                clear hfin hown6 hg6 hb6 hrowB hc3
                go_roundw
                case rel => exact ⟨t + 1, by omega, by go_num, HFIN⟩
                case measure => simp [intOf] <;> omega
          · go_wp2
            go_roundw
            case rel =>
              have h3 := HJ.out
              rw [List.take_of_length_le (l := q) (by omega), ← prodL_step q HX.out] at h3
              exact ⟨k + 1, by omega, by go_num, Lib.hid h3⟩
            case measure => simp [intOf] <;> omega
      · have hPI := HI.out
        rw [List.take_of_length_le (by omega)] at hPI
        obtain ⟨D, _, _, hO, hbel, hle⟩ := hPI
        have HS := Lib.hid (sortFunc_any cmpW_total eg38 cmp38 hO (by omega))
        have HB := Lib.hid hbel
        have hres : prodW a b = (sortW (prodL p q), 0) := by rw [HRES.out, if_neg (by rw [← nubW_length]; omega)]
        have HR0 := Lib.hid hres
        have hlt := hO.lt
        clear hO hbel hres
        go_wp2_with (go_at_call 37; refine HS.out.mono ?_; rintro e w5 ⟨rfl, l', hperm, hpw, hO5, hg5⟩)
        go_ret2
        rw [HR0.out]
        have hb5 : Below w2.heap.size w2 w5 := HB.out.grown hg5 HB.out.size fun g e => by have := (hlt g e).1; omega
        refine ⟨_, rfl, ?_, HW.out.trans (hb5.mono hsz)⟩
        rw [nub_sorted hperm hpw] at hO5
        exact hO5.base (by omega)

end Go.Proofs.YtmlghnfbjkcelaaDoor
