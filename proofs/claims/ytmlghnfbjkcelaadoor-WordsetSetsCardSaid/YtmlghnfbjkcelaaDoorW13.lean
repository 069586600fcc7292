/-
  slices.CompactFunc on a list of words that the call owns.
-/
import Derived.Test.YtmlghnfbjkcelaaDoorW12
import Derived.Lib.SliceRun
namespace Go.Proofs.YtmlghnfbjkcelaaDoor
open Go.RowKit

/-- Of equal neighbours one stays. -/
def dedupA (l : List (List Int)) : List (List Int) := l.foldl (fun acc x => if acc.getLast? = some x then acc else acc ++ [x]) []

theorem dedupA_snoc (l : List (List Int)) (x : List Int) : dedupA (l ++ [x]) = if (dedupA l).getLast? = some x then dedupA l else dedupA l ++ [x] := by
  unfold dedupA
  rw [List.foldl_append]
  rfl

theorem dedup_foldl : ∀ (l acc : List (List Int)), (l.foldl (fun acc x => if acc.getLast? = some x then acc else acc ++ [x]) acc).getLast? = if l = [] then acc.getLast? else l.getLast?
  | [], acc => by rw [if_pos rfl]; rfl
  | x :: l, acc => by
    have hx : (if acc.getLast? = some x then acc else acc ++ [x]).getLast? = some x := by
      split
      · assumption
      · simp
    rw [List.foldl_cons, dedup_foldl l, if_neg (show ¬ x :: l = [] by simp)]
    cases l with
    | nil => rw [if_pos rfl, hx]; rfl
    | cons y l =>
      rw [if_neg (show ¬ y :: l = [] by simp), List.getLast?_cons_cons]
theorem dedupA_last (l : List (List Int)) : (dedupA l).getLast? = l.getLast? := by
  unfold dedupA
  rw [dedup_foldl]
  split
  · rename_i h; rw [h]
  · rfl

theorem dedupA_step {l : List (List Int)} {k : Nat} {x y : List Int} (hy : l[k]? = some y) (hx : l[k + 1]? = some x) :
    dedupA (l.take (k + 1 + 1)) = if x = y then dedupA (l.take (k + 1)) else dedupA (l.take (k + 1)) ++ [x] := by
  rw [take_step hx, dedupA_snoc, dedupA_last, take_step hy]
  simp only [List.getLast?_append, List.getLast?_singleton, Option.some_or]
  by_cases h : y = x
  · subst h; simp
  · have h' : ¬ x = y := fun e => h e.symm
    simp [h, h']

theorem dedupA_short {l : List (List Int)} (h : l.length ≤ 1) : dedupA l = l := by
  match l, h with
  | [], _ => rfl
  | [x], _ => rfl

theorem ownsRow_shrink {w : World} {base : Nat} {e : TypeId} {g n cap k : Nat} {us : List Value} (h : w.ownsRow base e 1 (.slice (some ⟨g, 0, none⟩) n cap) n us) (hk : k ≤ n) :
    w.ownsRow base e 1 (.slice (some ⟨g, 0, none⟩) k cap) k (us.take k) := by
  have hl := h.1
  rcases h.2 with ⟨e0, _⟩ | ⟨g', cap', cur, e0, hb, hg, hn, hm, hs, ht⟩
  · cases e0
  · injection e0 with e1 _ e3
    injection e1 with e1
    injection e1 with e1
    subst e1; subst e3
    refine ⟨by rw [List.length_take]; omega, .inr ⟨g, cap, cur, rfl, hb, hg, by omega, hm, hs, ?_⟩⟩
    rw [← ht, List.take_take]
    congr 1
    omega

theorem ownsRow_setCells {base : Nat} {e : TypeId} {g k cap : Nat} {us : List Value} : ∀ (vs : List Value) (o : Nat) (w : World), k ≤ o → w.ownsRow base e 1 (.slice (some ⟨g, 0, none⟩) k cap) k us →
    (w.setCells g o vs).ownsRow base e 1 (.slice (some ⟨g, 0, none⟩) k cap) k us ∧ w.grownBy (w.setCells g o vs) (some g)
  | [], _, w, _, h => ⟨h, World.grownBy.refl _ _⟩
  | v :: vs, o, w, ho, h => by
    have hl : us.length = k := by simpa using h.1
    have hs := h.stored o v
    rw [List.set_eq_of_length_le (by omega)] at hs
    obtain ⟨h1, h2⟩ := ownsRow_setCells vs (o + 1) (w.setCell ⟨g, o, none⟩ v) (by omega) hs.1
    exact ⟨h1, grown_step hs.2 h2 (.inl rfl)⟩

def CompactPost (w : World) (base : Nat) (v : Value) (l : List (List Int)) (e : Ending) (w' : World) : Prop :=
  ∃ v', e = .returned v' ∧ OwnW w' base v' l ∧ w.grownBy w' v.ownBlock ∧ v'.ownBlock = v.ownBlock

theorem int_le_of (a b : Nat) (h : a ≤ b) : (a : Int) ≤ b := by omega

set_option maxRecDepth 100000 in
set_option maxHeartbeats 3200000 in
theorem compact_any {base B : Nat} {w : World} {v F : Value} {l : List (List Int)} (h : OwnW w base v l) (hF : w.cell? ⟨B, 0, none⟩ = some F) (hne : v.ownBlock ≠ some B) (hlen : l.length ≤ 1000000000)
    (hclos : ∀ (W : World) (u u' : Value) (x y : List Int), W.cell? ⟨B, 0, none⟩ = some F → IsI W u x → IsI W u' y →
      Calls Tryd.prog 75 #[u, u', .pointer (some ⟨B, 0, none⟩)] W fun e w' => e = .returned (.bool (decide (x = y))) ∧ Below W.heap.size W w') :
    Calls Tryd.prog 74 #[v, .func (.func 75) #[] #[.pointer (some ⟨B, 0, none⟩)]] w (CompactPost w base v (dedupA l)) := by
  have hO := h
  obtain ⟨us, hul, hown, hel⟩ := h
  obtain ⟨A, n, c, rfl, hrow⟩ := hO.isW (by omega)
  have hnl := hrow.len
  have hun : us.length = n := by rw [hul, hnl]
  rw [hun] at hown
  have HCL := Lib.hid hclos
  have HEL := Lib.hid hel
  have HUL := Lib.hid hul
  have HNL := Lib.hid hnl
  have HUN := Lib.hid hun
  clear hclos hel hul hrow
  by_cases hn2 : n < 2
  · have HOO := Lib.hid hO
    clear hO hown hF
    go_enter Tryd.func74, Tryd.ntmps74
    go_wp2
    go_ret
    rw [dedupA_short (by rw [HNL.out]; omega)]
    exact ⟨_, rfl, HOO.out, World.grownBy.refl _ _, rfl⟩
  · obtain ⟨g, cap, he, hbg, hlt⟩ := hown.form (by omega)
    injection he with he1 _ he3
    subst he1 he3
    have hgB : g ≠ B := fun e => hne (by rw [← e]; rfl)
    have hcapn : n ≤ c := by
      rcases hown.2 with ⟨e, _⟩ | ⟨_, _, _, e, _, _, hnc, _⟩
      · cases e
      · injection e with _ _ e3
        subst e3
        exact hnc
    have HW := Lib.hid (And.intro hown hF)
    have HG := Lib.hid (And.intro hbg hgB)
    have hn9 : n ≤ 1000000000 := by rw [← hnl]; exact hlen
    clear hO hown hF hne hbg hgB hnl hun hlen
    -- a word of the list and its value, by place
    have hel' : ∀ t, t < n → ∃ A2 n2 c2 x, l[t]? = some x ∧ us[t]? = some (.slice A2 n2 c2) ∧ IsI w (.slice A2 n2 c2) x ∧ Off (.slice A2 n2 c2) (some g) := fun t ht => by
      have hlt' : t < l.length := by rw [HNL.out]; exact ht
      obtain ⟨u, hu, hi, ho⟩ := HEL.out t l[t] (List.getElem?_eq_getElem hlt')
      obtain ⟨A2, n2, c2, rfl, hr⟩ := hi
      exact ⟨A2, n2, c2, l[t], List.getElem?_eq_getElem hlt', hu, ⟨A2, n2, c2, rfl, hr⟩, ho⟩
    have HE := Lib.hid hel'
    clear hel'
    go_enter Tryd.func74, Tryd.ntmps74
    go_wp2
    go_loopw [5, 6, 7] (fun s5 _ _ wr => ∃ k : Nat, k + 1 ≤ n ∧ s5 = .int .i64 ((k + 1 : Nat) : Int) ∧ w.grownBy wr none ∧ Hid (dedupA (l.take (k + 1)) = l.take (k + 1))) (fun s5 _ _ _ => n - (intOf s5).toNat)
    case atStart => exact ⟨0, by omega, rfl, World.grownBy.refl _ _, Lib.hid (dedupA_short (by simp; omega))⟩
    case round =>
      obtain ⟨k, hk, rfl, hgr, HD⟩ := hrel
      have e1 : ((k + 1 : Nat) : Int) - 1 = (k : Int) := by omega
      by_cases h1 : k + 1 < n
      · obtain ⟨A2, n2, c2, x, hx1, hx2, hx3, hx4⟩ := HE.out (k + 1) h1
        obtain ⟨A3, n3, c3, y, hy1, hy2, hy3, hy4⟩ := HE.out k (by omega)
        have hownr := HW.out.1.kept hgr (by simp [Value.ownBlock])
        have hFr := grown_keeps hgr _ _ HW.out.2
        have q1 : wr.cell? ⟨g, k + 1, none⟩ = some (.slice A2 n2 c2) := by rw [hownr.cellAt _ (by omega), hx2]
        have q2 : wr.cell? ⟨g, k, none⟩ = some (.slice A3 n3 c3) := by rw [hownr.cellAt _ (by omega), hy2]
        have HXY := Lib.hid (And.intro hx1 hy1)
        have hcall := HCL.out wr.drew _ _ x y hFr (hx3.keep (grown_keeps (grown_drewN hgr 1))) (hy3.keep (grown_keeps (grown_drewN hgr 1)))
        have HC := Lib.hid hcall
        have HR := Lib.hid (And.intro hownr (And.intro hFr (And.intro (And.intro hx2 hx3) (And.intro hx4 (And.intro (And.intro hy2 hy3) hy4)))))
        have hkn0 : (0 : Int) ≤ (k : Int) := by omega
        have hkn1 : (k : Int) + 1 < n := by omega
        have hkn2 : (k : Int) < n := by omega
        clear hx1 hy1 hx2 hx3 hx4 hy2 hy3 hy4 hcall hownr hFr
        by_cases hxy : x = y
        · have hd : decide (x = y) = true := decide_eq_true hxy
          have HXE := Lib.hid hxy
          have hck : ¬ c = k + 1 := by omega
          clear hxy
          go_wp2
          have z1 : (0 : Int) ≤ (k : Int) + 1 := by omega
          have z2 : ((k : Int) + 1).toNat = k + 1 := by omega
          have z3 : IntKind.i64.wrap (k : Int) = k := IntWalk.i64_in _ (by omega)
          go_region_held3 (fun w' => w'.cell? ⟨g, k + 1, none⟩ = some (.slice A2 n2 c2) ∧ w'.cell? ⟨g, k, none⟩ = some (.slice A3 n3 c3)) (first | go_keep | exact ⟨k1, k2⟩) (first | (go_at_call 75; refine HC.out.mono ?_; rintro e w3 ⟨rfl, hb3⟩; have hg3 := grown_step (grown_drewN hgr 1) (grown_none hb3) (.inl rfl); have hown3 := HW.out.1.kept hg3 (by simp [Value.ownBlock]); have k1 : w3.cell? ⟨g, k + 1, none⟩ = some (.slice A2 n2 c2) := (by rw [hown3.cellAt _ (by omega), HR.out.2.2.1.1]); have k2 : w3.cell? ⟨g, k, none⟩ = some (.slice A3 n3 c3) := (by rw [hown3.cellAt _ (by omega), HR.out.2.2.2.2.1.1])))
          clear z1 z2 z3
          go_wp2
          have hstart : dedupA (l.take (k + 1 + 0 + 1)) = l.take (k + 1) := by
            rw [Nat.add_zero, dedupA_step HXY.out.2 HXY.out.1, if_pos HXE.out, HD.out]
          have HST := Lib.hid (And.intro hstart (And.intro hown3 hg3))
          clear hstart hown3 hg3 hb3 k1 k2 q1 q2 hgr e1 hkn0 hkn1 hkn2 hck
          obtain ⟨wo, rfl⟩ : ∃ wo : World, wo = w3 := ⟨_, rfl⟩
          go_loopw [5, 7] (fun s5 s7 wi => ∃ (kk t : Nat) (us' : List Value), s5 = .int .i64 kk ∧ s7 = .int .i64 ((t + 1 : Nat) : Int) ∧ k + 1 + t < n ∧ 1 ≤ kk ∧ kk ≤ k + 1 + t ∧ wi.ownsRow base 38 1 (.slice (some ⟨g, 0, none⟩) n c) n us' ∧ w.grownBy wi (some g) ∧
              Hid ((∀ j, kk ≤ j → us'[j]? = us[j]?) ∧ (dedupA (l.take (k + 1 + t + 1))).length = kk ∧ ∀ (i : Nat) x, (dedupA (l.take (k + 1 + t + 1)))[i]? = some x → ∃ u, us'[i]? = some u ∧ IsI w u x ∧ Off u (some g))) (fun _ s7 _ => n - (intOf s7).toNat)
          case atStart =>
            refine ⟨k + 1, 0, us, by go_num, rfl, by omega, by omega, by omega, HST.out.2.1, grown_mono HST.out.2.2 _, Lib.hid ⟨fun _ _ => rfl, ?_, fun i x hx => ?_⟩⟩
            · rw [HST.out.1, List.length_take, HNL.out]; omega
            · rw [HST.out.1, List.getElem?_take] at hx
              split at hx
              · exact HEL.out i x hx
              · cases hx
          case round =>
            obtain ⟨kk, t, us', rfl, rfl, ht, hk1, hk2, hrw, hgr, HT⟩ := hrel
            have hul' : us'.length = n := by simpa using hrw.1
            have HUL' := Lib.hid hul'
            clear hul'
            by_cases h2 : k + 1 + (t + 1) < n
            · obtain ⟨A4, n4, c4, x2, hx1, hx2, hx3, hx4⟩ := HE.out (k + 1 + (t + 1)) h2
              obtain ⟨A5, n5, c5, y2, hy1, hy2, hy3, hy4⟩ := HE.out (k + 1 + t) (by omega)
              have hgd := grown_drewN hgr 1
              have hx3' := hx3.grown hgd hx4
              have hy3' := hy3.grown hgd hy4
              have hFr : wr.cell? ⟨B, 0, none⟩ = some F := hgr.cell HW.out.2 (fun e => HG.out.2 (by injection e with e; exact e.symm))
              have hu1 : us'[k + 1 + (t + 1)]? = some (.slice A4 n4 c4) := by rw [HT.out.1 _ (by omega)]; exact hx2
              have hu2 : us'[k + 1 + t]? = some (.slice A5 n5 c5) := by rw [HT.out.1 _ (by omega)]; exact hy2
              have q1 : wr.cell? ⟨g, k + 1 + (t + 1), none⟩ = some (.slice A4 n4 c4) := by rw [hrw.cellAt _ (by omega), hu1]
              have q2 : wr.cell? ⟨g, k + 1 + t, none⟩ = some (.slice A5 n5 c5) := by rw [hrw.cellAt _ (by omega), hu2]
              have HC2 := Lib.hid (HCL.out wr.drew _ _ x2 y2 hFr hx3' hy3')
              have HXY2 := Lib.hid (And.intro hx1 hy1)
              have HUU := Lib.hid (And.intro hu1 hu2)
              have HXX := Lib.hid (And.intro hx3 hx4)
              have HRW := Lib.hid (And.intro hrw hgr)
              have HSTEP := Lib.hid (dedupA_step (l := l) (k := k + 1 + t) hy1 (by rw [show k + 1 + t + 1 = k + 1 + (t + 1) by omega]; exact hx1))
              clear hx1 hx2 hx3 hx4 hy1 hy2 hy3 hy4 hx3' hy3' hFr hu1 hu2 hrw hgr hgd
              have b1 : (t : Int) + 1 < ((n - (k + 1) : Nat) : Int) := by omega
              have b2 : (t : Int) < ((n - (k + 1) : Nat) : Int) := by omega
              by_cases hxy2 : x2 = y2
              · have hd2 : decide (x2 = y2) = true := decide_eq_true hxy2
                have HXE2 := Lib.hid hxy2
                clear hxy2
                go_wp2
                have z1 : (0 : Int) ≤ (t : Int) + 1 := by omega
                have z2 : ((t : Int) + 1).toNat = t + 1 := by omega
                have z4 : (0 : Int) ≤ (t : Int) := by omega
                have z3 : IntKind.i64.wrap (t : Int) = t := IntWalk.i64_in _ (by omega)
                go_region_held3 (fun w' => w'.cell? ⟨g, k + 1 + (t + 1), none⟩ = some (.slice A4 n4 c4) ∧ w'.cell? ⟨g, k + 1 + t, none⟩ = some (.slice A5 n5 c5)) (first | go_keep | exact ⟨k1, k2'⟩) (first | (go_at_call 75; refine HC2.out.mono ?_; rintro e w4 ⟨rfl, hb4⟩; have hgn4 := grown_drewN (World.grownBy.refl wr none) 1; have hg4 := grown_step hgn4 (grown_none hb4) (.inl rfl); have hown4 := HRW.out.1.kept hg4 (by simp [Value.ownBlock]); have k1 : w4.cell? ⟨g, k + 1 + (t + 1), none⟩ = some (.slice A4 n4 c4) := (by rw [hown4.cellAt _ (by omega), HUU.out.1]); have k2' : w4.cell? ⟨g, k + 1 + t, none⟩ = some (.slice A5 n5 c5) := (by rw [hown4.cellAt _ (by omega), HUU.out.2])))
                clear z1 z2 z3 z4
                have HF := Lib.hid (And.intro hown4 (grown_step HRW.out.2 hg4 (.inr fun g e => by cases e)))
                clear hown4 hg4 hgn4 hb4 k1 k2' q1 q2
                go_wp2
                go_roundw
                case rel =>
                  have hs := HSTEP.out
                  rw [if_pos HXE2.out] at hs
                  refine ⟨kk, t + 1, us', rfl, by go_num, by omega, hk1, by omega, HF.out.1, HF.out.2, Lib.hid ⟨HT.out.1, ?_, ?_⟩⟩
                  · rw [show k + 1 + (t + 1) + 1 = k + 1 + t + 1 + 1 by omega, hs]; exact HT.out.2.1
                  · rw [show k + 1 + (t + 1) + 1 = k + 1 + t + 1 + 1 by omega, hs]; exact HT.out.2.2
                case measure => simp [intOf] <;> omega
              · have hd2 : decide (x2 = y2) = false := decide_eq_false hxy2
                go_wp2
                have z1 : (0 : Int) ≤ (t : Int) + 1 := by omega
                have z2 : ((t : Int) + 1).toNat = t + 1 := by omega
                have z4 : (0 : Int) ≤ (t : Int) := by omega
                have z3 : IntKind.i64.wrap (t : Int) = t := IntWalk.i64_in _ (by omega)
                go_region_held3 (fun w' => w'.cell? ⟨g, k + 1 + (t + 1), none⟩ = some (.slice A4 n4 c4) ∧ w'.cell? ⟨g, k + 1 + t, none⟩ = some (.slice A5 n5 c5)) (first | go_keep | exact ⟨k1, k2'⟩) (first | (go_at_call 75; refine HC2.out.mono ?_; rintro e w4 ⟨rfl, hb4⟩; have hgn4 := grown_drewN (World.grownBy.refl wr none) 1; have hg4 := grown_step hgn4 (grown_none hb4) (.inl rfl); have hown4 := HRW.out.1.kept hg4 (by simp [Value.ownBlock]); have k1 : w4.cell? ⟨g, k + 1 + (t + 1), none⟩ = some (.slice A4 n4 c4) := (by rw [hown4.cellAt _ (by omega), HUU.out.1]); have k2' : w4.cell? ⟨g, k + 1 + t, none⟩ = some (.slice A5 n5 c5) := (by rw [hown4.cellAt _ (by omega), HUU.out.2])))
                clear z1 z2 z3 z4
                obtain ⟨old, hold⟩ : ∃ old, us'[kk]? = some old := ⟨us'[kk]'(by rw [HUL'.out]; omega), List.getElem?_eq_getElem _⟩
                have q3 : w4.cell? ⟨g, kk, none⟩ = some old := by rw [hown4.cellAt _ (by omega), hold]
                have q4 : w4.frozen? ⟨g, kk, none⟩ = false := hown4.frozenAt _
                have hgA := grown_step HRW.out.2 hg4 (.inr fun g e => by cases e)
                have hset := hown4.stored kk (.slice A4 n4 c4)
                have HF := Lib.hid (And.intro hset.1 (grown_step hgA hset.2 (.inl rfl)))
                clear hown4 hg4 hgn4 hb4 k2' q1 q2 hgA hset hold
                go_wp2
                go_roundw
                case rel =>
                  have hs := HSTEP.out
                  rw [if_neg hxy2] at hs
                  have hkl := HT.out.2.1
                  refine ⟨kk + 1, t + 1, us'.set kk (.slice A4 n4 c4), by go_num, by go_num, by omega, by omega, by omega, HF.out.1, HF.out.2, Lib.hid ⟨fun j hj => ?_, ?_, fun i z hz => ?_⟩⟩
                  · rw [List.getElem?_set_ne (by omega)]; exact HT.out.1 j (by omega)
                  · rw [show k + 1 + (t + 1) + 1 = k + 1 + t + 1 + 1 by omega, hs, List.length_append, hkl]; rfl
                  · rw [show k + 1 + (t + 1) + 1 = k + 1 + t + 1 + 1 by omega, hs, List.getElem?_append] at hz
                    split at hz
                    · rename_i hik
                      obtain ⟨u, hu, r⟩ := HT.out.2.2 i z hz
                      exact ⟨u, by rw [List.getElem?_set_ne (by omega)]; exact hu, r⟩
                    · rename_i hik
                      have hik' : i = kk := by
                        rcases Nat.lt_or_ge kk i with h3 | h3
                        · rw [List.getElem?_eq_none (by simp; omega)] at hz; cases hz
                        · omega
                      subst hik'
                      rw [hkl, Nat.sub_self] at hz
                      simp at hz
                      subst hz
                      exact ⟨_, List.getElem?_set_self (by rw [HUL'.out]; omega), HXX.out.1, HXX.out.2⟩
                case measure => simp [intOf] <;> omega
            · have hend : k + 1 + t + 1 = n := by omega
              have HEND := Lib.hid hend
              have hck2 : ¬ c = kk := by omega
              have b3 : ¬ ((t : Int) + 1 < ((n - (k + 1) : Nat) : Int)) := by omega
              have hkc : kk ≤ n := by omega
              have hcl : ∀ ty, (Builtin.clear_ #[25] ty #[.slice (some ⟨g, kk, none⟩) (n - kk) (c - kk)]).run Tryd.prog wr = .ok (.tuple #[]) (wr.setCells g kk (List.replicate (n - kk) (.slice none 0 0))) := fun ty =>
                Lib.run_clear_slice wr 25 38 ty (.slice none 0 0) Tryd.underlying25 Tryd.zeroValue38 rfl rfl g kk _ _ (by omega) (fun j hj => by
                  rw [hrw.cellAt _ (by omega)]
                  have : kk + j < us'.length := by rw [HUL'.out]; omega
                  rw [List.getElem?_eq_getElem this]; rfl) (fun j _ => hrw.frozenAt _)
              have HRW := Lib.hid (And.intro hrw hgr)
              clear hrw hgr hend
              go_wp2
              go_ret
              have hsh := ownsRow_shrink HRW.out.1 hkc
              have hfin := ownsRow_setCells (List.replicate (n - kk) (.slice none 0 0)) kk wr (Nat.le_refl _) hsh
              have hgf := grown_step HRW.out.2 hfin.2 (.inl rfl)
              have hd3 := HT.out.2
              rw [HEND.out, List.take_of_length_le (by rw [HNL.out]; exact Nat.le_refl _)] at hd3
              refine ⟨.slice (some ⟨g, 0, none⟩) kk c, rfl, ⟨us'.take kk, by rw [List.length_take, HUL'.out, hd3.1]; omega, ?_, fun i x hx => ?_⟩, hgf, rfl⟩
              · rw [List.length_take, HUL'.out, Nat.min_eq_left hkc]; exact hfin.1
              · obtain ⟨u, hu, hi, ho⟩ := hd3.2 i x hx
                have hik : i < kk := by rw [← hd3.1]; exact (List.getElem?_eq_some_iff.1 hx).1
                exact ⟨u, by rw [List.getElem?_take, if_pos hik]; exact hu, hi.grown hgf ho, ho⟩
        · have hd : decide (x = y) = false := decide_eq_false hxy
          go_wp2
          have z1 : (0 : Int) ≤ (k : Int) + 1 := by omega
          have z2 : ((k : Int) + 1).toNat = k + 1 := by omega
          have z3 : IntKind.i64.wrap (k : Int) = k := IntWalk.i64_in _ (by omega)
          go_region_held3 (fun w' => w'.cell? ⟨g, k + 1, none⟩ = some (.slice A2 n2 c2) ∧ w'.cell? ⟨g, k, none⟩ = some (.slice A3 n3 c3)) (first | go_keep | exact ⟨k1, k2⟩) (first | (go_at_call 75; refine HC.out.mono ?_; rintro e w3 ⟨rfl, hb3⟩; have hg3 := grown_step (grown_drewN hgr 1) (grown_none hb3) (.inl rfl); have hown3 := HW.out.1.kept hg3 (by simp [Value.ownBlock]); have k1 : w3.cell? ⟨g, k + 1, none⟩ = some (.slice A2 n2 c2) := (by rw [hown3.cellAt _ (by omega), HR.out.2.2.1.1]); have k2 : w3.cell? ⟨g, k, none⟩ = some (.slice A3 n3 c3) := (by rw [hown3.cellAt _ (by omega), HR.out.2.2.2.2.1.1])))
          clear z1 z2 z3
          go_wp2
          go_roundw
          case rel => exact ⟨k + 1, by omega, by go_num, hg3, Lib.hid (by rw [dedupA_step HXY.out.2 HXY.out.1, if_neg hxy, HD.out, ← take_step HXY.out.1])⟩
          case measure => simp [intOf] <;> omega
      · have hkn : k + 1 = n := by omega
        have HK := Lib.hid hkn
        clear hkn
        go_wp2
        go_ret
        have hd := HD.out
        rw [HK.out, List.take_of_length_le (by rw [HNL.out]; exact Nat.le_refl _)] at hd
        rw [hd]
        refine ⟨_, rfl, ?_, grown_mono hgr _, rfl⟩
        have : OwnW w base (.slice (some ⟨g, 0, none⟩) n c) l := ⟨us, HUL.out, by rw [HUN.out]; exact HW.out.1, HEL.out⟩
        exact this.kept hgr

end Go.Proofs.YtmlghnfbjkcelaaDoor
