/-
  Walks of the reference's Maximal and Size.
-/
import Derived.Test.YtmlghnfbjkcelaaDoorW8
namespace Go.Proofs.YtmlghnfbjkcelaaDoor
open Go.RowKit

/-- A word is no proper prefix of another one of the list. -/
def topB (all : List (List Int)) (x : List Int) : Bool := all.all fun y => decide (y = x ∨ ¬ x <+: y)
/-- 'Maximal'. -/
def maxR (l : List (List Int)) : List (List Int) := (sortW l).filter (topB (sortW l))
def tailB (x : List Int) (l : List (List Int)) : Bool := l.all fun y => decide (y.length = x.length ∨ ¬ x <+: y)

theorem top_eq {all : List (List Int)} (hs : Asc all) {k : Nat} {x : List Int} (hx : all[k]? = some x) : tailB x (all.drop (k + 1)) = topB all x := by
  rw [Bool.eq_iff_iff, tailB, topB, List.all_eq_true, List.all_eq_true]
  simp only [decide_eq_true_eq]
  constructor
  · intro h y hy
    obtain ⟨i, hi⟩ := List.getElem?_of_mem hy
    rcases Nat.lt_trichotomy i k with hik | hik | hik
    · right
      intro hp
      have hc := hs.get hik hi hx
      have hl := hp.length_le
      have : x = y := hp.eq_of_length_le (by
        unfold cmpW at hc
        split at hc
        · omega
        · split at hc
          · omega
          · omega)
      rw [this, cmpW_refl] at hc
      omega
    · left
      rw [hik, hx] at hi
      injection hi with hi
      exact hi.symm
    · have hmem : y ∈ all.drop (k + 1) := by
        have : (all.drop (k + 1))[i - (k + 1)]? = some y := by rw [List.getElem?_drop, show k + 1 + (i - (k + 1)) = i by omega]; exact hi
        exact List.mem_of_getElem? this
      rcases h y hmem with h1 | h1
      · by_cases hp : x <+: y
        · left
          exact (hp.eq_of_length h1.symm).symm
        · exact Or.inr hp
      · exact Or.inr h1
  · intro h y hy
    obtain ⟨i, hi⟩ := List.getElem?_of_mem hy
    rw [List.getElem?_drop] at hi
    rcases h y (List.mem_of_getElem? hi) with h1 | h1
    · have hc := hs.get (show k < k + 1 + i by omega) hx hi
      rw [h1, cmpW_refl] at hc
      omega
    · exact Or.inr h1

theorem tailB_step {x y : List Int} {all : List (List Int)} {k j : Nat} (hk : k + 1 ≤ j) (hy : all[j]? = some y) :
    tailB x ((all.take (j + 1)).drop (k + 1)) = (tailB x ((all.take j).drop (k + 1)) && decide (y.length = x.length ∨ ¬ x <+: y)) := by
  have hj : j < all.length := (List.getElem?_eq_some_iff.1 hy).1
  rw [take_step hy, List.drop_append_of_le_length (by rw [List.length_take]; omega)]
  simp [tailB, List.all_append]

theorem filter_step {p : List Int → Bool} {all : List (List Int)} {k : Nat} {x : List Int} (h : all[k]? = some x) : (all.take (k + 1)).filter p = (all.take k).filter p ++ (if p x = true then [x] else []) := by
  rw [take_step h, List.filter_append]
  by_cases hp : p x = true <;> simp [hp]

set_option maxRecDepth 100000 in
set_option maxHeartbeats 3200000 in
theorem R02Maximal_any {A : Option Addr} {n c : Nat} {l : List (List Int)} {w : World} (hx : RowOf w (IsI w) A n c l) (hn : n ≤ 1000000000) :
    Calls Tryd.prog 32 #[.slice A n c] w (NewW w (maxR l)) := by
  obtain ⟨i0, hi, hz0, hz1, hz2⟩ := info_parts Tryd.infoWord
  have hpl := sortW_length l
  rw [hx.len] at hpl
  have HS := Lib.hid (R02Sorted_any hx hn)
  have HAS := Lib.hid (sortW_asc l)
  unfold maxR
  generalize sortW l = p at hpl HS HAS
  clear hx
  go_enter Tryd.func32, Tryd.ntmps32
  go_wp2_with (go_at_call 25; refine HS.out.mono ?_; rintro e w1 ⟨pv, rfl, hpo, hpb⟩; obtain ⟨Ap, cp, rfl, hpr⟩ := hpo.rowOf (by omega))
  have HB := Lib.hid hpb
  have hsz := hpb.size
  clear hpo hpb HS
  go_loopw [4, 5, 6, 7] (fun v i _ _ wr => ∃ k : Nat, k ≤ p.length ∧ i = .int .i64 k ∧ OwnW wr w1.heap.size v ((p.take k).filter (topB p)) ∧ Below w1.heap.size w1 wr) (fun _ i _ _ _ => p.length - (intOf i).toNat)
  case atStart => exact ⟨0, by omega, rfl, OwnW.nil_ _ _, Below.refl _ _⟩
  case round =>
    obtain ⟨k, hk, rfl, hown, hbel⟩ := hrel
    by_cases h1 : k < p.length
    · obtain ⟨b1, o1, A1, n1, c1, x, rfl, hx1, hx2, hx3⟩ := hpr.word_at h1
      have HX := Lib.hid hx1
      clear hx1
      have hlt := hown.lt
      have HO := Lib.hid (And.intro hown hbel)
      have hbz := hbel.size
      have hnx := hx3.len
      have HNX := Lib.hid hnx
      clear hown hbel hnx
      go_wp2
      obtain ⟨wo, rfl⟩ : ∃ wo : World, wo = wr := ⟨_, rfl⟩
      go_loopw [6, 7] (fun tp j wi => ∃ (t : Nat) (b : Bool), k + 1 ≤ t ∧ t ≤ p.length ∧ j = .int .i64 t ∧ tp = .bool b ∧ Qt wo wi ∧ Hid (b = tailB x ((p.take t).drop (k + 1)))) (fun _ j _ => p.length - (intOf j).toNat)
      case atStart => exact ⟨k + 1, true, Nat.le_refl _, by omega, by go_num, rfl, Qt.refl _, Lib.hid (by rw [List.drop_eq_nil_of_le (by rw [List.length_take]; omega)]; rfl)⟩
      case round =>
        obtain ⟨t, b, ht1, ht2, rfl, rfl, hq, HT⟩ := hrel
        have HQ := Lib.hid hq
        by_cases h2 : t < p.length
        · obtain ⟨A2, y, hy1, hy2, A2, n2, c2, rfl, hy3⟩ := hpr.at_some h2
          have HY := Lib.hid hy1
          clear hy1
          have HNY := Lib.hid hy3.len
          have hkeep : Keeps w1 wr := (Below.to_keeps HO.out.2).trans hq.keeps
          have hcx := hkeep _ _ hx2
          have hcy := hkeep _ _ hy2
          have hrx := hx3.kept hkeep
          have hry := hy3.kept hkeep
          have HST := Lib.hid (tailB_step (x := x) (k := k) ht1 HY.out)
          clear hkeep hq
          cases b with
          | false =>
            go_wp2
            go_quiet (fail)
            go_wp2
            go_roundw
            case rel => exact ⟨t + 1, false, by omega, by omega, by go_num, rfl, HQ.out.drewN _, Lib.hid (by rw [HST.out, ← HT.out]; rfl)⟩
            case measure => simp [intOf] <;> omega
          | true =>
            by_cases h3 : n2 = n1
            · have d3 : ((n2 : Int) == n1) = true := by simp; omega
              have H3 := Lib.hid h3
              clear h3
              go_wp2
              go_quiet (fail)
              go_wp2
              go_roundw
              case rel => exact ⟨t + 1, true, by omega, by omega, by go_num, rfl, HQ.out.drewN _, Lib.hid (by rw [HST.out, ← HT.out, HNY.out, HNX.out, H3.out]; simp)⟩
              case measure => simp [intOf] <;> omega
            · have d3 : ((n2 : Int) == n1) = false := by simp; omega
              by_cases h4 : x <+: y
              · have d4 : decide (x <+: y) = true := decide_eq_true h4
                have H4 := Lib.hid (And.intro h3 h4)
                clear h4 h3
                go_wp2
                go_quiet ((go_at_call 56; exact Calls.quiet_of (R01HasPrefix_any (hry.kept (Keeps.drewN _ _)) (hrx.kept (Keeps.drewN _ _)))))
                go_wp2
                go_roundw
                case rel => exact ⟨t + 1, false, by omega, by omega, by go_num, by first | rfl | simp, HQ.out.drewN _, Lib.hid (by rw [HST.out, ← HT.out, HNY.out, HNX.out]; simp [H4.out.1, H4.out.2])⟩
                case measure => simp [intOf] <;> omega
              · have d4 : decide (x <+: y) = false := decide_eq_false h4
                have H4 := Lib.hid (And.intro h3 h4)
                clear h4 h3
                go_wp2
                go_quiet ((go_at_call 56; exact Calls.quiet_of (R01HasPrefix_any (hry.kept (Keeps.drewN _ _)) (hrx.kept (Keeps.drewN _ _)))))
                go_wp2
                go_roundw
                case rel => exact ⟨t + 1, true, by omega, by omega, by go_num, by first | rfl | simp, HQ.out.drewN _, Lib.hid (by rw [HST.out, ← HT.out, HNY.out, HNX.out]; simp [H4.out.2])⟩
                case measure => simp [intOf] <;> omega
        · have htop := top_eq HAS.out HX.out
          have hb := HT.out
          rw [List.take_of_length_le (by omega), htop] at hb
          have hfs := filter_step (p := topB p) HX.out
          rw [← hb] at hfs
          have hownI : OwnW wr w1.heap.size u4 ((p.take k).filter (topB p)) := by
            obtain ⟨q, rfl⟩ := hq
            exact HO.out.1
          have hbelI : Below w1.heap.size w1 wr := by
            obtain ⟨q, rfl⟩ := hq
            exact ⟨HO.out.2.os, HO.out.2.tape, HO.out.2.output, HO.out.2.size, HO.out.2.block⟩
          have hcx := Below.to_keeps hbelI _ _ hx2
          have HFS := Lib.hid hfs
          clear htop hb hfs hq
          cases b with
          | false =>
            have HF := Lib.hid (And.intro hownI hbelI)
            clear hownI hbelI
            go_wp2
            go_roundw
            case rel => exact ⟨k + 1, by omega, by go_num, by rw [HFS.out]; simpa using HF.out.1, HF.out.2⟩
            case measure => simp [intOf] <;> omega
          | true =>
            have hu : IsI wr (.slice A1 n1 c1) x := hx3.isI.below hbelI
            have hoff : Off (.slice A1 n1 c1) u4.ownBlock := hx3.isI.off_old fun g e => (hlt g e).1
            obtain ⟨us, hul, hrow, hel⟩ := hownI
            have hfl : us.length ≤ p.length := by
              rw [hul]
              exact Nat.le_trans (List.length_filter_le _ _) (by rw [List.length_take]; omega)
            have hrowA : ∀ o, (wr.alloc o).ownsRow w1.heap.size 38 1 u4 us.length us := fun o => hrow.alloc o
            have hc1 : us.length + 1 ≤ maxLen := by unfold maxLen; omega
            have hc2 : (us.length + 1) * 24 ≤ 140737488355328 := by omega
            have hc3 : ∀ o, w1.heap.size ≤ (wr.alloc o).heap.size := fun o => by have := hbelI.size; simp; omega
            have HU := Lib.hid hul
            have HE := Lib.hid hel
            have HBI := Lib.hid hbelI
            have HUU := Lib.hid (And.intro hu hoff)
            clear hul hel hrow hbelI hu hoff
            go_wp2_with (at_builtin; refine wpList_append_row rfl (.tmp 51) (.tmp 56) 25 rfl w1.heap.size 38 i0 (.slice none 0 0) 24 Tryd.underlying25 hi hz0 hz1 hz2 rfl u4 _ us rfl (hrowA _) _ 1 1 [.slice A1 n1 c1] rfl (src_one _ _ _) (one_cell _) hc1 hc2 (hc3 _) ?_; intro v1 w2 hown1 hg1 hb1)
            have hpush := OwnW.push HU.out HE.out HUU.out.1 HUU.out.2 (World.grownBy_alloc wr _ none) hown1 hg1 hb1
            have hbel1 := (HBI.out.alloc HBI.out.size _).grown hg1 (hc3 _) (fun g e => (hlt g e).1)
            clear hown1 hg1 hb1
            have HF := Lib.hid (And.intro hpush hbel1)
            clear hpush hbel1
            go_roundw
            case rel => exact ⟨k + 1, by omega, by go_num, by rw [HFS.out]; simpa using HF.out.1, HF.out.2⟩
            case measure => simp [intOf] <;> omega
    · go_wp2
      go_ret
      rw [List.take_of_length_le (by omega)] at hown
      exact ⟨_, rfl, hown.base hsz, HB.out.trans (hbel.mono hsz)⟩

def sumLen (l : List (List Int)) : Nat := (l.map List.length).sum
theorem sumLen_step {l : List (List Int)} {k : Nat} {x : List Int} (h : l[k]? = some x) : sumLen (l.take (k + 1)) = sumLen (l.take k) + x.length := by
  rw [take_step h]; simp [sumLen, List.sum_append]
theorem sumLen_le {b : Nat} : ∀ {l : List (List Int)}, (∀ x ∈ l, x.length ≤ b) → sumLen l ≤ l.length * b
  | [], _ => by simp [sumLen]
  | x :: l, h => by
    have h1 := sumLen_le (l := l) fun y hy => h y (List.mem_cons_of_mem _ hy)
    have h2 := h x (by simp)
    simp only [sumLen, List.map_cons, List.sum_cons, List.length_cons] at h1 ⊢
    rw [Nat.add_mul, Nat.one_mul]
    omega

/-- Two numbers; nothing that was there has turned. -/
def TwoN (w : World) (a b : Nat) (e : Ending) (w' : World) : Prop := e = .returned (.tuple #[.int .i64 (a : Int), .int .i64 (b : Int)]) ∧ Below w.heap.size w w'

theorem mem_maxR {l : List (List Int)} {x : List Int} (h : x ∈ maxR l) : x ∈ l := by
  unfold maxR at h
  exact (mem_sortW l x).1 (List.mem_filter.1 h).1
theorem maxR_length (l : List (List Int)) : (maxR l).length ≤ l.length := Nat.le_trans (List.length_filter_le _ _) (sortW_length l)

set_option maxRecDepth 100000 in
set_option maxHeartbeats 800000 in
theorem R02Size_any {A : Option Addr} {n c : Nat} {l : List (List Int)} {w : World} (hx : RowOf w (IsI w) A n c l) (hn : n ≤ 1000000) (hl : ∀ x ∈ l, x.length ≤ 1000000) :
    Calls Tryd.prog 24 #[.slice A n c] w (TwoN w (maxR l).length (sumLen (maxR l))) := by
  have hpl := maxR_length l
  rw [hx.len] at hpl
  have hml : ∀ x ∈ maxR l, x.length ≤ 1000000 := fun x hx => hl x (mem_maxR hx)
  have HS := Lib.hid (R02Maximal_any hx (by omega))
  generalize maxR l = p at hpl HS hml
  have HML := Lib.hid hml
  clear hx hml hl
  go_enter Tryd.func24, Tryd.ntmps24
  go_wp2_with (go_at_call 32; refine HS.out.mono ?_; rintro e w1 ⟨pv, rfl, hpo, hpb⟩; obtain ⟨Ap, cp, rfl, hpr⟩ := hpo.rowOf (by omega))
  have HB := Lib.hid hpb
  clear hpo hpb HS
  go_loop [5, 6] (fun v i => ∃ k m : Nat, k ≤ p.length ∧ i = .int .i64 k ∧ v = .int .i64 m ∧ m ≤ k * 1000000 ∧ Hid (m = sumLen (p.take k))) (fun _ i => p.length - (intOf i).toNat)
  case atStart => exact ⟨0, 0, by omega, rfl, rfl, by omega, Lib.hid (by simp [sumLen])⟩
  case round =>
    obtain ⟨k, m, hk, rfl, rfl, hm, HT⟩ := hrel
    by_cases h1 : k < p.length
    · obtain ⟨b, o, A1, n1, c1, x, rfl, hx1, hx2, hx3⟩ := hpr.word_at h1
      have hxl := HML.out x (List.mem_of_getElem? hx1)
      rw [hx3.len] at hxl
      have HX := Lib.hid hx1
      clear hx1
      have HN := Lib.hid hx3.len
      go_wp2
      go_round
      case rel => exact ⟨k + 1, m + n1, by omega, by go_num, by first | rfl | go_num, by omega, Lib.hid (by rw [sumLen_step HX.out, HT.out, HN.out])⟩
      case measure => simp [intOf] <;> omega
    · go_wp2
      go_ret2
      have ht := HT.out
      rw [List.take_of_length_le (by omega)] at ht
      exact ⟨by rw [← ht]; rfl, HB.out⟩

end Go.Proofs.YtmlghnfbjkcelaaDoor
