/-
  Walk of the reference's Product.
-/
import Derived.Deep.RegionHeld3
import Derived.WalkSmall
import Derived.Deep.RegionWith
import Derived.Test.YtmlghnfbjkcelaaDoorW7
namespace Go.Proofs.YtmlghnfbjkcelaaDoor
open Go.RowKit

def prodL (p q : List (List Int)) : List (List Int) := p.flatMap fun x => q.map (x ++ ·)

def prodW (a b : List (List Int)) : List (List Int) × Int :=
  if (a ≠ [] ∧ b ≠ []) ∧ 1024 < longestL a + longestL b then ([], 3) else
  if 10000 < (sortW (prodL (sortW a) (sortW b))).length then ([], 11) else (sortW (prodL (sortW a) (sortW b)), 0)

theorem foldl_insW_mono : ∀ (l a : List (List Int)), a.length ≤ (l.foldl insW a).length
  | [], _ => Nat.le_refl _
  | y :: l, a => by
    have h := foldl_insW_mono l (insW a y)
    have h2 : a.length ≤ (insW a y).length := by
      unfold insW
      split
      · omega
      · simp; omega
    rw [List.foldl_cons]
    omega
theorem sortW_mono (l m : List (List Int)) : (sortW l).length ≤ (sortW (l ++ m)).length := by
  unfold sortW
  rw [List.foldl_append]
  exact foldl_insW_mono _ _
theorem prodL_step {p : List (List Int)} {i : Nat} {x : List Int} (q : List (List Int)) (h : p[i]? = some x) : prodL (p.take (i + 1)) q = prodL (p.take i) q ++ q.map (x ++ ·) := by rw [take_step h]; simp [prodL]
theorem prodL_split (p q : List (List Int)) (i : Nat) : prodL p q = prodL (p.take i) q ++ prodL (p.drop i) q := by
  rw [prodL, prodL, prodL, ← List.flatMap_append, List.take_append_drop]
theorem prodL_over {p q : List (List Int)} {i k : Nat} {x : List Int} (h : p[i]? = some x) (hl : 10000 < (sortW (prodL (p.take i) q ++ (q.take k).map (x ++ ·))).length) : 10000 < (sortW (prodL p q)).length := by
  have e : prodL p q = (prodL (p.take i) q ++ (q.take k).map (x ++ ·)) ++ ((q.drop k).map (x ++ ·) ++ prodL (p.drop (i + 1)) q) := by
    rw [prodL_split p q (i + 1), prodL_step q h]
    simp only [List.append_assoc, List.append_cancel_left_eq]
    rw [← List.append_assoc, ← List.map_append, List.take_append_drop]
  rw [e]
  exact Nat.lt_of_lt_of_le hl (sortW_mono _ _)
theorem prodL_length (p q : List (List Int)) : (prodL p q).length = p.length * q.length := by
  induction p with
  | nil => simp [prodL]
  | cons x p ih =>
    have : prodL (x :: p) q = q.map (x ++ ·) ++ prodL p q := by simp [prodL]
    rw [this, List.length_append, ih, List.length_map, List.length_cons, Nat.add_mul, Nat.one_mul, Nat.add_comm]

theorem RowOf.longest_le {w : World} {A : Option Addr} {n c : Nat} {l : List (List Int)} (h : RowOf w (IsI w) A n c l) : longestL l ≤ 17592186044416 := by
  rw [longestL_le]
  intro x hx
  obtain ⟨i, hi⟩ := List.getElem?_of_mem hx
  have hlt : i < n := by rw [← h.len]; exact (List.getElem?_eq_some_iff.1 hi).1
  obtain ⟨_, _, _, _, _, y, _, hy, _, hr⟩ := h.word_at hlt
  rw [hi] at hy
  injection hy with hy
  rw [hy, hr.len]
  exact hr.small

theorem OwnW.rowOf {w : World} {base : Nat} {v : Value} {l : List (List Int)} (h : OwnW w base v l) (hs : l.length ≤ 17592186044416) : ∃ A c, v = .slice A l.length c ∧ RowOf w (IsI w) A l.length c l := by
  obtain ⟨A, n, c, e, hr⟩ := h.isW hs
  have := hr.len
  subst this
  exact ⟨A, c, e, hr⟩

theorem src_two {w : World} (x y : Value) (t : TypeId) : Src (w.alloc (.cells #[x, y] t)) (some ⟨w.heap.size, 0, none⟩) 2 [x, y] :=
  ⟨rfl, fun _ => ⟨_, _, rfl, fun j u hu => by
    have := cell_two_new w x y t j u hu
    rwa [addr_add] at this⟩⟩

/-- Two words laid into a new block read as a list of two. -/
theorem pair_row {w : World} {u v : Value} {x y : List Int} (hu : IsI w u x) (hv : IsI w v y) (t : TypeId) : RowOf (w.alloc (.cells #[u, v] t)) (IsI (w.alloc (.cells #[u, v] t))) (some ⟨w.heap.size, 0, none⟩) 2 2 [x, y] := by
  have hk := grown_keeps (World.grownBy_alloc w (.cells #[u, v] t) none)
  refine ⟨rfl, Nat.le_refl _, by omega, fun _ => ⟨_, _, rfl, fun i z hz => ?_⟩⟩
  obtain ⟨_, hc⟩ := src_two (w := w) u v t
  obtain ⟨b, o, e, hcc⟩ := hc (by omega)
  injection e with e
  injection e with e1 e2
  subst e1 e2
  match i, hz with
  | 0, hz =>
    simp at hz
    subst hz
    exact ⟨u, hcc 0 u rfl, hu.keep hk⟩
  | 1, hz =>
    simp at hz
    subst hz
    exact ⟨v, hcc 1 v rfl, hv.keep hk⟩

/-- Behind a call that made a word: the owned list is as it was; the word lies outside it. -/
theorem join_after {w2 wd W w3 : World} {base : Nat} {v jv : Value} {l : List (List Int)} {x y : List Int} (hW : wd.grownBy W none) (hown : OwnW wd base v l) (hbel : Below base w2 wd) (hjo : OwnI w3 W.heap.size jv [x, y].flatten)
    (hjb : Below W.heap.size W w3) (hxl : x.length + y.length ≤ 1024) (hb : base ≤ wd.heap.size) : OwnW w3 base v l ∧ Below base w2 w3 ∧ Off jv v.ownBlock ∧ IsI w3 jv [x, y].flatten :=
  ⟨(hown.kept hW).kept (grown_none hjb), (hbel.grown hW hb fun g e => by cases e).trans (hjb.mono (Nat.le_trans hb hW.size)), hjo.off fun g e => Nat.lt_of_lt_of_le (hown.lt g e).2 hW.size, hjo.isI (by simp; omega)⟩

set_option maxRecDepth 100000 in
set_option maxHeartbeats 3200000 in
theorem R02Product_loops {A B : Option Addr} {n c m c' : Nat} {a b : List (List Int)} {w : World} (ha : RowOf w (IsI w) A n c a) (hb : RowOf w (IsI w) B m c' b) (hn : n ≤ 1000) (hm : m ≤ 1000)
    (hlong : ¬ ((a ≠ [] ∧ b ≠ []) ∧ 1024 < longestL a + longestL b)) :
    Calls Tryd.prog 15 #[.slice A n c, .slice B m c'] w (PairW w (prodW a b)) := by
  have hla := ha.longest_le
  have hlb := hb.longest_le
  have hal := ha.len
  have hbl := hb.len
  have hne : (0 < n ∧ 0 < m) → longestL a + longestL b ≤ 1024 := fun h => by
    rcases Nat.lt_or_ge 1024 (longestL a + longestL b) with h3 | h3
    · refine absurd ⟨⟨?_, ?_⟩, h3⟩ hlong
      · intro e; rw [e] at hal; simp at hal; omega
      · intro e; rw [e] at hbl; simp at hbl; omega
    · exact h3
  have hxy : ∀ x ∈ sortW a, ∀ y ∈ sortW b, x.length + y.length ≤ 1024 := fun x hx y hy => by
    rw [mem_sortW] at hx hy
    have h1 := (longestL_le a _).1 (Nat.le_refl _) x hx
    have h2 := (longestL_le b _).1 (Nat.le_refl _) y hy
    have h3 : 0 < n := by rw [← hal]; exact List.length_pos_of_mem hx
    have h4 : 0 < m := by rw [← hbl]; exact List.length_pos_of_mem hy
    have := hne ⟨h3, h4⟩
    omega
  have hd1 : (0 < n ∧ 0 < m) → decide (1024 < (longestL a : Int) + (longestL b : Int)) = false := fun h => by
    apply decide_eq_false
    have := hne h
    omega
  have HRES := Lib.hid (show prodW a b = if 10000 < (sortW (prodL (sortW a) (sortW b))).length then ([], 11) else (sortW (prodL (sortW a) (sortW b)), 0) by
    unfold prodW
    rw [if_neg hlong])
  have hcA : ∀ W, Keeps w W → Calls Tryd.prog 39 #[.slice A n c] W fun e w' => e = .returned (.int .i64 (longestL a : Nat)) ∧ W = w' := fun W hk => R02longest_any (ha.words hk)
  have hcB : ∀ W, Keeps w W → Calls Tryd.prog 39 #[.slice B m c'] W fun e w' => e = .returned (.int .i64 (longestL b : Nat)) ∧ W = w' := fun W hk => R02longest_any (hb.words hk)
  have HcA := Lib.hid hcA
  have HcB := Lib.hid hcB
  have HSA := Lib.hid (R02Sorted_any ha (by omega))
  have HSB := Lib.hid (fun W (hk : Keeps w W) => R02Sorted_any (hb.words hk) (by omega))
  have hpl := sortW_length a
  have hql := sortW_length b
  rw [hal] at hpl
  rw [hbl] at hql
  generalize hp : sortW a = p at hpl hxy
  generalize hq : sortW b = q at hql hxy
  rw [hp, hq] at HRES
  rw [hp] at HSA
  rw [hq] at HSB
  generalize longestL a = la at hla hd1 HcA
  generalize longestL b = lb at hlb hd1 HcB
  have HXY := Lib.hid hxy
  clear hlong hal hbl hcA hcB hne ha hb hxy hp hq
  have hcase : (0 < n ∧ 0 < m) ∨ (¬ 0 < n) ∨ (0 < n ∧ ¬ 0 < m) := by omega
  obtain ⟨h1, h2, hd⟩ : ∃ d1 d2 : Bool, decide (0 < n) = d1 ∧ decide (0 < m) = d2 ∧ (d1 = true → d2 = true → decide (1024 < (la : Int) + (lb : Int)) = false) := ⟨_, _, rfl, rfl, fun e1 e2 => hd1 ⟨of_decide_eq_true e1, of_decide_eq_true e2⟩⟩
  clear hd1
  obtain ⟨q1, q2, q3⟩ := hd
  rcases hcase with ⟨e1, e2⟩ | e1 | ⟨e1, e2⟩
  · have d3 := q3 (by rw [← q1]; exact decide_eq_true e1) (by rw [← q2]; exact decide_eq_true e2)
    have d1 : decide (0 < n) = true := decide_eq_true e1
    have d2 : decide (0 < m) = true := decide_eq_true e2
    clear q1 q2 q3
    go_enter Tryd.func15, Tryd.ntmps15
    go_wp2_with (first | (go_at_call_of 39 (Value.slice A n c); refine (HcA.out _ (Keeps.refl _)).mono ?_; rintro e w' ⟨rfl, rfl⟩) | (go_at_call_of 39 (Value.slice B m c'); refine (HcB.out _ (Keeps.refl _)).mono ?_; rintro e w' ⟨rfl, rfl⟩) | (go_at_call_of 25 (Value.slice A n c); refine HSA.out.mono ?_; rintro e w1 ⟨pv, rfl, hpo, hpb⟩; obtain ⟨Ap, cp, rfl, hpr⟩ := hpo.rowOf (by omega)) | (go_at_call_of 25 (Value.slice B m c'); refine (HSB.out w1 (Below.to_keeps hpb)).mono ?_; rintro e w2 ⟨qv, rfl, hqo, hqb⟩; obtain ⟨Aq, cq, rfl, hqr⟩ := hqo.rowOf (by omega)))
    have hbw := hpb.trans (hqb.mono hpb.size)
    have hpr2 := hpr.words (Below.to_keeps hqb)
    have HW := Lib.hid hbw
    have hsz := hbw.size
    clear hpo hpb hpr hqo hqb hbw HSA HSB HcA HcB
    go_loopw [8, 9, 10] (fun v i _ wr => ∃ k : Nat, k ≤ p.length ∧ i = .int .i64 k ∧ OwnW wr w2.heap.size v (sortW (prodL (p.take k) q)) ∧ Below w2.heap.size w2 wr ∧ Hid ((sortW (prodL (p.take k) q)).length ≤ 10000)) (fun _ i _ _ => p.length - (intOf i).toNat)
    case atStart => exact ⟨0, by omega, rfl, OwnW.nil_ _ _, Below.refl _ _, Lib.hid (by simp [prodL, sortW])⟩
    case round =>
      obtain ⟨k, hk, rfl, hown, hbel, HL1⟩ := hrel
      by_cases h1 : k < p.length
      · obtain ⟨b1, o1, A1, n1, c1, x, rfl, hx1, hx2, hx3⟩ := hpr2.word_at h1
        have HX := Lib.hid hx1
        clear hx1
        have HO := Lib.hid (And.intro hown hbel)
        clear hown hbel
        go_wp2
        obtain ⟨wo, rfl⟩ : ∃ wo : World, wo = wr := ⟨_, rfl⟩
        go_loopw [8, 10] (fun v j wi => ∃ t : Nat, t ≤ q.length ∧ j = .int .i64 t ∧ OwnW wi w2.heap.size v (sortW (prodL (p.take k) q ++ (q.take t).map (x ++ ·))) ∧ Below w2.heap.size w2 wi ∧ Hid ((sortW (prodL (p.take k) q ++ (q.take t).map (x ++ ·))).length ≤ 10000)) (fun _ j _ => q.length - (intOf j).toNat)
        case atStart => exact ⟨0, by omega, rfl, by simpa using HO.out.1, HO.out.2, Lib.hid (by simpa using HL1.out)⟩
        case round =>
          obtain ⟨t, ht, rfl, hown, hbel, HL2⟩ := hrel
          by_cases h2 : t < q.length
          · obtain ⟨b2, o2, A2, n2, c2, y, rfl, hy1, hy2, hy3⟩ := hqr.word_at h2
            have HY := Lib.hid hy1
            clear hy1
            have hxl := HXY.out x (List.mem_of_getElem? HX.out) y (List.mem_of_getElem? HY.out)
            have hcx := Below.to_keeps hbel _ _ hx2
            have hcy := Below.to_keeps hbel _ _ hy2
            have hu : IsI wr (.slice A1 n1 c1) x := hx3.isI.below hbel
            have hv : IsI wr (.slice A2 n2 c2) y := hy3.isI.below hbel
            have hjl : [x, y].flatten.length ≤ 1000000000 := by simp; omega
            have HJ := Lib.hid (fun T q => R01Join_any ((pair_row hu hv T).words (Keeps.drewN _ q)) hjl)
            have HD := Lib.hid (And.intro hown hbel)
            have hbz := hbel.size
            clear hu hv hjl hown hbel
            go_wp2
            go_region_held3 (fun w' => w'.cell? ⟨b1, o1 + k, none⟩ = some (.slice A1 n1 c1) ∧ w'.cell? ⟨b2, o2 + t, none⟩ = some (.slice A2 n2 c2)) (first | go_keep | exact ⟨k3, k4⟩ | exact ⟨k1, k2⟩) (first | (go_at_call 19; refine (HJ.out _ 1).mono ?_; rintro e w3 ⟨jv, rfl, hjo, hjb⟩; obtain ⟨hO3, hB3, hF3, hI3⟩ := join_after (grown_drewN (World.grownBy_alloc wr _ none) 1) HD.out.1 HD.out.2 hjo hjb hxl hbz; have k1 := Below.to_keeps hB3 _ _ hx2; have k2 := Below.to_keeps hB3 _ _ hy2; clear hjo hjb) | (go_at_call 40; refine (R02with_any (sortW_asc _) hO3 hI3 hF3 hB3.size (Nat.le_trans HL2.out (by omega))).mono ?_; rintro e w4 ⟨v', rfl, hown', hg', hb'⟩; have hbel' := with_step (v' := v') (row := none) hB3 hO3.lt hg'; have k3 := Below.to_keeps hbel' _ _ hx2; have k4 := Below.to_keeps hbel' _ _ hy2; obtain ⟨Av, nv, cv, rfl, hvr⟩ := hown'.isW (by have := insW_length (sortW (prodL (p.take k) q ++ (q.take t).map (x ++ ·))) [x, y].flatten; have := HL2.out; omega)))
            have hnv := hvr.len
            rw [← sortW_snoc] at hnv
            have hst : (prodL (p.take k) q ++ (q.take t).map (x ++ ·)) ++ [[x, y].flatten] = prodL (p.take k) q ++ (q.take (t + 1)).map (x ++ ·) := by
              rw [take_step HY.out, List.map_append, List.append_assoc]; simp
            rw [hst] at hnv
            rw [← sortW_snoc, hst] at hown'
            have HN := Lib.hid hnv
            have HF := Lib.hid (And.intro hown' hbel')
            clear hnv hown' hbel' hb' hg' hvr hO3 hB3 hF3 hI3 k1 k2 k3 k4 hst
            by_cases h3 : 10000 < nv
            · go_wp2
              go_ret2
              have hres : prodW a b = ([], 11) := by rw [HRES.out, if_pos (prodL_over (k := t + 1) HX.out (by rw [HN.out]; exact h3))]
              rw [hres]
              exact ⟨_, rfl, OwnW.nil_ _ _, HW.out.trans (HF.out.2.mono hsz)⟩
            · go_wp2
              go_roundw
              case rel => exact ⟨t + 1, by omega, by go_num, HF.out.1, HF.out.2, Lib.hid (by rw [HN.out]; omega)⟩
              case measure => simp [intOf] <;> omega
          · have HF := Lib.hid (And.intro hown hbel)
            clear hown hbel hx2
            go_wp2
            go_roundw
            case rel =>
              have h3 := HF.out.1
              have h4 := HL2.out
              rw [List.take_of_length_le (l := q) (by omega), ← prodL_step q HX.out] at h3 h4
              exact ⟨k + 1, by omega, by go_num, h3, HF.out.2, Lib.hid h4⟩
            case measure => simp [intOf] <;> omega
      · have HF := Lib.hid (And.intro hown hbel)
        clear hown hbel
        have h3 := HF.out.1
        have h4 := HL1.out
        rw [List.take_of_length_le (by omega)] at h3 h4
        have HG := Lib.hid (And.intro h3 h4)
        clear h3 h4
        go_wp2
        go_ret2
        have hres : prodW a b = (sortW (prodL p q), 0) := by rw [HRES.out, if_neg (by have := HG.out.2; omega)]
        rw [hres]
        exact ⟨_, rfl, HG.out.1.base hsz, HW.out.trans (HF.out.2.mono hsz)⟩
  · have d1 : decide (0 < n) = false := decide_eq_false e1
    clear q1 q2 q3
    go_enter Tryd.func15, Tryd.ntmps15
    go_wp2_with (first | (go_at_call_of 39 (Value.slice A n c); refine (HcA.out _ (Keeps.refl _)).mono ?_; rintro e w' ⟨rfl, rfl⟩) | (go_at_call_of 39 (Value.slice B m c'); refine (HcB.out _ (Keeps.refl _)).mono ?_; rintro e w' ⟨rfl, rfl⟩) | (go_at_call_of 25 (Value.slice A n c); refine HSA.out.mono ?_; rintro e w1 ⟨pv, rfl, hpo, hpb⟩; obtain ⟨Ap, cp, rfl, hpr⟩ := hpo.rowOf (by omega)) | (go_at_call_of 25 (Value.slice B m c'); refine (HSB.out w1 (Below.to_keeps hpb)).mono ?_; rintro e w2 ⟨qv, rfl, hqo, hqb⟩; obtain ⟨Aq, cq, rfl, hqr⟩ := hqo.rowOf (by omega)))
    have hbw := hpb.trans (hqb.mono hpb.size)
    have hpr2 := hpr.words (Below.to_keeps hqb)
    have HW := Lib.hid hbw
    have hsz := hbw.size
    clear hpo hpb hpr hqo hqb hbw HSA HSB HcA HcB
    go_loopw [8, 9, 10] (fun v i _ wr => ∃ k : Nat, k ≤ p.length ∧ i = .int .i64 k ∧ OwnW wr w2.heap.size v (sortW (prodL (p.take k) q)) ∧ Below w2.heap.size w2 wr ∧ Hid ((sortW (prodL (p.take k) q)).length ≤ 10000)) (fun _ i _ _ => p.length - (intOf i).toNat)
    case atStart => exact ⟨0, by omega, rfl, OwnW.nil_ _ _, Below.refl _ _, Lib.hid (by simp [prodL, sortW])⟩
    case round =>
      obtain ⟨k, hk, rfl, hown, hbel, HL1⟩ := hrel
      by_cases h1 : k < p.length
      · exact absurd h1 (by omega)
      · have HF := Lib.hid (And.intro hown hbel)
        clear hown hbel
        have h3 := HF.out.1
        have h4 := HL1.out
        rw [List.take_of_length_le (by omega)] at h3 h4
        have HG := Lib.hid (And.intro h3 h4)
        clear h3 h4
        go_wp2
        go_ret2
        have hres : prodW a b = (sortW (prodL p q), 0) := by rw [HRES.out, if_neg (by have := HG.out.2; omega)]
        rw [hres]
        exact ⟨_, rfl, HG.out.1.base hsz, HW.out.trans (HF.out.2.mono hsz)⟩
  · have d1 : decide (0 < n) = true := decide_eq_true e1
    have d2 : decide (0 < m) = false := decide_eq_false e2
    clear q1 q2 q3
    go_enter Tryd.func15, Tryd.ntmps15
    go_wp2_with (first | (go_at_call_of 39 (Value.slice A n c); refine (HcA.out _ (Keeps.refl _)).mono ?_; rintro e w' ⟨rfl, rfl⟩) | (go_at_call_of 39 (Value.slice B m c'); refine (HcB.out _ (Keeps.refl _)).mono ?_; rintro e w' ⟨rfl, rfl⟩) | (go_at_call_of 25 (Value.slice A n c); refine HSA.out.mono ?_; rintro e w1 ⟨pv, rfl, hpo, hpb⟩; obtain ⟨Ap, cp, rfl, hpr⟩ := hpo.rowOf (by omega)) | (go_at_call_of 25 (Value.slice B m c'); refine (HSB.out w1 (Below.to_keeps hpb)).mono ?_; rintro e w2 ⟨qv, rfl, hqo, hqb⟩; obtain ⟨Aq, cq, rfl, hqr⟩ := hqo.rowOf (by omega)))
    have hbw := hpb.trans (hqb.mono hpb.size)
    have hpr2 := hpr.words (Below.to_keeps hqb)
    have HW := Lib.hid hbw
    have hsz := hbw.size
    clear hpo hpb hpr hqo hqb hbw HSA HSB HcA HcB
    go_loopw [8, 9, 10] (fun v i _ wr => ∃ k : Nat, k ≤ p.length ∧ i = .int .i64 k ∧ OwnW wr w2.heap.size v (sortW (prodL (p.take k) q)) ∧ Below w2.heap.size w2 wr ∧ Hid ((sortW (prodL (p.take k) q)).length ≤ 10000)) (fun _ i _ _ => p.length - (intOf i).toNat)
    case atStart => exact ⟨0, by omega, rfl, OwnW.nil_ _ _, Below.refl _ _, Lib.hid (by simp [prodL, sortW])⟩
    case round =>
      obtain ⟨k, hk, rfl, hown, hbel, HL1⟩ := hrel
      by_cases h1 : k < p.length
      · obtain ⟨b1, o1, A1, n1, c1, x, rfl, hx1, hx2, hx3⟩ := hpr2.word_at h1
        have HX := Lib.hid hx1
        clear hx1
        have HO := Lib.hid (And.intro hown hbel)
        clear hown hbel
        go_wp2
        obtain ⟨wo, rfl⟩ : ∃ wo : World, wo = wr := ⟨_, rfl⟩
        go_loopw [8, 10] (fun v j wi => ∃ t : Nat, t ≤ q.length ∧ j = .int .i64 t ∧ OwnW wi w2.heap.size v (sortW (prodL (p.take k) q ++ (q.take t).map (x ++ ·))) ∧ Below w2.heap.size w2 wi ∧ Hid ((sortW (prodL (p.take k) q ++ (q.take t).map (x ++ ·))).length ≤ 10000)) (fun _ j _ => q.length - (intOf j).toNat)
        case atStart => exact ⟨0, by omega, rfl, by simpa using HO.out.1, HO.out.2, Lib.hid (by simpa using HL1.out)⟩
        case round =>
          obtain ⟨t, ht, rfl, hown, hbel, HL2⟩ := hrel
          by_cases h2 : t < q.length
          · exact absurd h2 (by omega)
          · have HF := Lib.hid (And.intro hown hbel)
            clear hown hbel hx2
            go_wp2
            go_roundw
            case rel =>
              have h3 := HF.out.1
              have h4 := HL2.out
              rw [List.take_of_length_le (l := q) (by omega), ← prodL_step q HX.out] at h3 h4
              exact ⟨k + 1, by omega, by go_num, h3, HF.out.2, Lib.hid h4⟩
            case measure => simp [intOf] <;> omega
      · have HF := Lib.hid (And.intro hown hbel)
        clear hown hbel
        have h3 := HF.out.1
        have h4 := HL1.out
        rw [List.take_of_length_le (by omega)] at h3 h4
        have HG := Lib.hid (And.intro h3 h4)
        clear h3 h4
        go_wp2
        go_ret2
        have hres : prodW a b = (sortW (prodL p q), 0) := by rw [HRES.out, if_neg (by have := HG.out.2; omega)]
        rw [hres]
        exact ⟨_, rfl, HG.out.1.base hsz, HW.out.trans (HF.out.2.mono hsz)⟩

set_option maxRecDepth 100000 in
set_option maxHeartbeats 800000 in
theorem R02Product_any {A B : Option Addr} {n c m c' : Nat} {a b : List (List Int)} {w : World} (ha : RowOf w (IsI w) A n c a) (hb : RowOf w (IsI w) B m c' b) (hn : n ≤ 1000) (hm : m ≤ 1000) :
    Calls Tryd.prog 15 #[.slice A n c, .slice B m c'] w (PairW w (prodW a b)) := by
  by_cases hlong : (a ≠ [] ∧ b ≠ []) ∧ 1024 < longestL a + longestL b
  · have hres : prodW a b = ([], 3) := by unfold prodW; rw [if_pos hlong]
    rw [hres]
    have hal := ha.len
    have hbl := hb.len
    have h1 : 0 < n := by rw [← hal]; exact List.length_pos_iff.2 hlong.1.1
    have h2 : 0 < m := by rw [← hbl]; exact List.length_pos_iff.2 hlong.1.2
    have h3 := hlong.2
    have hla := ha.longest_le
    have hlb := hb.longest_le
    have d1 : decide (0 < n) = true := decide_eq_true h1
    have d2 : decide (0 < m) = true := decide_eq_true h2
    have d3 : decide (1024 < (longestL a : Int) + (longestL b : Int)) = true := decide_eq_true (by omega)
    have HcA := Lib.hid (R02longest_any ha)
    have HcB := Lib.hid (R02longest_any hb)
    clear hlong hres hal hbl
    generalize longestL a = la at *
    generalize longestL b = lb at *
    go_enter Tryd.func15, Tryd.ntmps15
    go_wp2_with (first | (go_at_call_of 39 (Value.slice A n c); refine HcA.out.mono ?_; rintro e w' ⟨rfl, rfl⟩) | (go_at_call_of 39 (Value.slice B m c'); refine HcB.out.mono ?_; rintro e w' ⟨rfl, rfl⟩))
    go_ret2
    exact ⟨_, rfl, OwnW.nil_ _ _, Below.refl _ _⟩
  · exact R02Product_loops ha hb hn hm hlong

end Go.Proofs.YtmlghnfbjkcelaaDoor
