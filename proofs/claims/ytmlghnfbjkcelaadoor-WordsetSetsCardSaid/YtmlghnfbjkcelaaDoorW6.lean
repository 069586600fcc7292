/-
  Walks of the reference's Join, Next and Upto.
-/
import Derived.Test.YtmlghnfbjkcelaaDoorW5
namespace Go.Proofs.YtmlghnfbjkcelaaDoor
open Go.RowKit

/-- It hands back a word in memory of its own; nothing that was there has turned. -/
def NewI (w : World) (x : List Int) (e : Ending) (w' : World) : Prop := ∃ v', e = .returned v' ∧ OwnI w' w.heap.size v' x ∧ Below w.heap.size w w'

theorem OwnI.base {w : World} {base base' : Nat} {v : Value} {l : List Int} (h : OwnI w base v l) (hb : base' ≤ base) : OwnI w base' v l := by
  refine ⟨h.1, ?_⟩
  rcases h.2 with h | ⟨g, cap, cur, h4, h5, h6⟩
  · exact .inl h
  · exact .inr ⟨g, cap, cur, h4, Nat.le_trans hb h5, h6⟩

theorem flatten_take_le {α : Type} (ls : List (List α)) (k : Nat) : (ls.take k).flatten.length ≤ ls.flatten.length := by
  have h := congrArg List.flatten (List.take_append_drop k ls)
  rw [List.flatten_append] at h
  rw [← h, List.length_append]
  omega
theorem flatten_snoc {α : Type} {ls : List (List α)} {k : Nat} {m : List α} (h : ls[k]? = some m) : (ls.take (k + 1)).flatten = (ls.take k).flatten ++ m := by
  rw [take_step h, List.flatten_append]; simp

set_option maxRecDepth 100000 in
set_option maxHeartbeats 400000 in
theorem R01Join_any {A : Option Addr} {n c : Nat} {l : List (List Int)} {w : World} (hx : RowOf w (IsI w) A n c l) (hn : l.flatten.length ≤ 1000000000) :
    Calls Tryd.prog 19 #[.slice A n c] w (NewI w l.flatten) := by
  have HL := Lib.hid hx.len
  have hns := hx.small
  obtain ⟨j0, ji, jz0, jz1, jz2⟩ := info_parts Tryd.infoInt
  go_enter Tryd.func19, Tryd.ntmps19
  go_wp2
  go_loopw [3, 4] (fun v i wr => ∃ k : Nat, k ≤ n ∧ i = .int .i64 k ∧ OwnI wr w.heap.size v (l.take k).flatten ∧ Below w.heap.size w wr) (fun _ i _ => n - (intOf i).toNat)
  case atStart => exact ⟨0, by omega, rfl, OwnI.nil_ _ _, Below.refl _ _⟩
  case round =>
    obtain ⟨k, hk, rfl, hown, hbel⟩ := hrel
    by_cases h1 : k < n
    · obtain ⟨b, o, A1, n1, c1, x, rfl, hx1, hx2, hx3⟩ := hx.word_at h1
      have HX := Lib.hid hx1
      clear hx1
      have hc := Below.to_keeps hbel _ _ hx2
      have hsrc := (hx3.kept (Below.to_keeps hbel)).src
      have hlt := hown.lt
      have hlen : (l.take k).flatten.length + n1 ≤ 1000000000 := by
        have := flatten_take_le l (k + 1)
        rw [flatten_snoc HX.out, List.length_append, hx3.len] at this
        omega
      have hc1 : (l.take k).flatten.length + n1 ≤ maxLen := by unfold maxLen; omega
      have hc2 : ((l.take k).flatten.length + n1) * 8 ≤ 140737488355328 := by omega
      have hc3 := hbel.size
      have HXL := Lib.hid hx3.len
      have HO := Lib.hid hown
      have HB := Lib.hid hbel
      clear hx2 hx3 hown hbel
      go_wp2_with (at_builtin; refine wpList_append_row rfl (.tmp 11) (.tmp 15) 38 rfl w.heap.size 3 j0 (.int .i64 0) 8 Tryd.underlying38 ji jz0 jz1 jz2 rfl u3 _ _ rfl HO.out A1 n1 c1 _ rfl hsrc (ints_oneCell _ _) hc1 hc2 hc3 ?_; intro v1 w1 hown1 hg1 hb1)
      have hfin : OwnI w1 w.heap.size v1 (l.take (k + 1)).flatten := by
        rw [flatten_snoc HX.out]
        unfold OwnI
        rw [List.length_append, List.map_append, HXL.out]
        exact hown1
      have hbel' := with_step (v' := v1) (row := none) HB.out hlt hg1
      clear hown1 hg1 hb1 hc1 hc2 hc3 hsrc
      go_roundw
      case rel => exact ⟨k + 1, by omega, by go_num, hfin, hbel'⟩
      case measure => simp [intOf] <;> omega
    · go_wp2
      go_ret
      rw [List.take_of_length_le (by rw [HL.out]; omega)] at hown
      exact ⟨_, rfl, hown, hbel⟩

/-- The next word of the same length, if only the first i symbols may still be raised; those behind are 0 by then. -/
def nextGo (xs : List Int) (inputs : Int) : Nat → Option (List Int)
  | 0 => none
  | i + 1 => if xs.getD i 0 < inputs - 1 then some (xs.take i ++ (xs.getD i 0 + 1) :: List.replicate (xs.length - 1 - i) 0) else nextGo xs inputs i

/-- The next word. -/
def nextW (xs : List Int) (inputs : Int) : Option (List Int) :=
  if checkI xs inputs = 0 then
    match nextGo xs inputs xs.length with
    | some ys => some ys
    | none => if xs.length = 1024 then none else some (List.replicate (xs.length + 1) 0)
  else none

def NextPost (w : World) (r : Option (List Int)) (e : Ending) (w' : World) : Prop :=
  ∃ v', e = .returned (.tuple #[v', .bool r.isSome]) ∧ OwnI w' w.heap.size v' (r.getD []) ∧ Below w.heap.size w w'

theorem zero_at {xs : List Int} {n t : Nat} {x : Int} (h : xs[t]? = some x) (hn : xs.length = n) (u : Int) :
    (xs.take (t + 1) ++ List.replicate (n - (t + 1)) 0).set t u = xs.take t ++ u :: List.replicate (n - (t + 1)) 0 := by
  have ht : t < xs.length := (List.getElem?_eq_some_iff.1 h).1
  rw [take_step h, List.append_assoc, List.set_append, if_neg (by rw [List.length_take]; omega)]
  have : t - (xs.take t).length = 0 := by rw [List.length_take]; omega
  rw [this]
  rfl

theorem zeros_step (xs : List Int) {n t : Nat} (ht : t < n) : xs.take t ++ (0 : Int) :: List.replicate (n - (t + 1)) 0 = xs.take t ++ List.replicate (n - t) 0 := by
  have : n - t = (n - (t + 1)) + 1 := by omega
  rw [this, List.replicate_succ]

theorem OwnI.at_ {w : World} {base g n cap k : Nat} {xs : List Int} {x : Int} (h : OwnI w base (.slice (some ⟨g, 0, none⟩) n cap) xs) (hn : xs.length = n) (hx : xs[k]? = some x) :
    w.cell? ⟨g, k, none⟩ = some (.int .i64 x) ∧ w.frozen? ⟨g, k, none⟩ = false := by
  unfold OwnI at h
  rw [hn] at h
  have hk : k < n := by rw [← hn]; exact (List.getElem?_eq_some_iff.1 hx).1
  exact ⟨by rw [h.cellAt k (by omega)]; simp [hx], h.frozenAt k⟩

theorem OwnI.set_ {w : World} {base g n cap : Nat} {xs : List Int} (h : OwnI w base (.slice (some ⟨g, 0, none⟩) n cap) xs) (hn : xs.length = n) (k : Nat) (x : Int) :
    OwnI (w.setCell ⟨g, k, none⟩ (.int .i64 x)) base (.slice (some ⟨g, 0, none⟩) n cap) (xs.set k x) := by
  unfold OwnI at h ⊢
  rw [hn] at h
  have := (h.stored k (.int .i64 x)).1
  rw [List.length_set, hn, List.map_set]
  exact this

theorem OwnI.form {w : World} {base : Nat} {v : Value} {xs : List Int} (h : OwnI w base v xs) (hn : 0 < xs.length) : ∃ g cap, v = .slice (some ⟨g, 0, none⟩) xs.length cap ∧ base ≤ g ∧ g < w.heap.size := World.ownsRow.form h hn

/-- A fresh copy of a word, of which the row may be written. -/
theorem own_fresh {w w1 w2 : World} {base m : Nat} {v : Value} {x : List Int} (h1 : w.grownBy w1 none) (hown : w2.ownsRow base 3 1 v (0 + m) ([] ++ x.map (Value.int .i64))) (hm : x.length = m) (hg : w1.grownBy w2 (some w.heap.size)) :
    OwnI w2 base v x ∧ Below w.heap.size w w2 := by
  refine ⟨?_, ?_⟩
  · unfold OwnI
    rw [hm]
    simpa using hown
  · exact (grown_below h1 (Nat.le_refl _) (fun g e => by cases e)).grown hg h1.size (fun g e => by injection e with e; omega)

set_option maxRecDepth 100000 in
set_option maxHeartbeats 1600000 in
theorem R01Next_any {A : Option Addr} {n c : Nat} {xs : List Int} {inputs : Int} {w : World} (hx : RowOf w IsInt A n c xs) :
    Calls Tryd.prog 44 #[.slice A n c, .int .i64 inputs] w (NextPost w (nextW xs inputs)) := by
  have hns := hx.small
  have hxl := hx.len
  have HXL := Lib.hid hxl
  obtain ⟨j0, ji, jz0, jz1, jz2⟩ := info_parts Tryd.infoInt
  by_cases hck : checkI xs inputs = 0
  · have HK := Lib.hid hck
    have hin : 1 ≤ inputs ∧ inputs ≤ 1024 := by
      unfold checkI at hck
      split at hck
      · assumption
      · omega
    have hn1 : n ≤ 1024 := by
      unfold checkI at hck
      rw [if_pos hin, hxl] at hck
      split at hck
      · omega
      · omega
    have hall : ∀ x ∈ xs, 0 ≤ x ∧ x < inputs := by
      unfold checkI at hck
      rw [if_pos hin, hxl, if_neg (by omega)] at hck
      split at hck
      · rename_i h
        intro x hx
        have := List.all_eq_true.1 h x hx
        simpa using this
      · omega
    have HALL := Lib.hid hall
    obtain ⟨hin1, hin2⟩ := hin
    have hd : (checkI xs inputs != 0) = false := by simp [hck]
    have hcall := R01Check_any (inputs := inputs) hx
    have hsrc : ∀ o, Src (w.alloc o) A n (xs.map (Value.int .i64)) := fun o => (hx.kept (grown_keeps (World.grownBy_alloc w o none))).src
    have hl : ∀ t, (w.alloc (.cells #[] t)).ownsRow w.heap.size t 1 (.slice (some ⟨w.heap.size, 0, none⟩) 0 0) 0 [] := fun t => World.ownsRow_lit w #[] 0 (Nat.le_refl _) (by unfold maxLen; omega) (by simp)
    have hc6 : 0 + n ≤ maxLen := by unfold maxLen; omega
    have hc7 : (0 + n) * 8 ≤ 140737488355328 := by omega
    have hc8 : ∀ o, w.heap.size ≤ (w.alloc o).heap.size := fun o => by simp
    clear hck hall hxl
    go_enter Tryd.func44, Tryd.ntmps44
    go_wp2_with (first | (go_at_call 70; refine hcall.mono ?_; rintro e w' ⟨rfl, rfl⟩) | (at_builtin; refine wpList_append_row rfl (.tmp 12) (.tmp 13) 38 rfl w.heap.size 3 j0 (.int .i64 0) 8 Tryd.underlying38 ji jz0 jz1 jz2 rfl (.slice (some ⟨w.heap.size, 0, none⟩) 0 0) 0 _ rfl (hl _) _ _ _ _ rfl (hsrc _) (ints_oneCell _ _) hc6 hc7 (hc8 _) ?_; intro v1 w1 hown1 hg1 hb1; obtain ⟨hO, hB⟩ := own_fresh (World.grownBy_alloc w _ none) hown1 HXL.out hg1; obtain ⟨A1, n1, c1, rfl, hr1⟩ := hO.isI (by rw [HXL.out]; exact hns); obtain rfl : n = n1 := by rw [← hr1.len]; exact HXL.out.symm))
    have hA : 0 < n → ∃ g, A1 = some ⟨g, 0, none⟩ ∧ w.heap.size ≤ g := fun h0 => by
      obtain ⟨g, cap, e, hg, _⟩ := hO.form (by rw [HXL.out]; exact h0)
      injection e with e1
      exact ⟨g, e1, hg⟩
    have H0 := Lib.hid (And.intro hO hB)
    clear hO hB hown1 hg1 hb1 hl hsrc hc6 hc7 hc8 hcall hr1
    go_loopw [7] (fun i wr => ∃ j : Nat, j ≤ n ∧ i = .int .i64 ((j : Int) - 1) ∧ OwnI wr w.heap.size (.slice A1 n c1) (xs.take j ++ List.replicate (n - j) 0) ∧ Below w.heap.size w wr ∧ Hid (nextGo xs inputs n = nextGo xs inputs j)) (fun i _ => (intOf i + 1).toNat)
    case atStart => exact ⟨n, Nat.le_refl _, rfl, by rw [Nat.sub_self, List.take_of_length_le (by rw [HXL.out]; exact Nat.le_refl _)]; simpa using H0.out.1, H0.out.2, Lib.hid rfl⟩
    case round =>
      obtain ⟨j, hj, hi, hown, hbel, HN⟩ := hrel
      cases j with
      | zero =>
        obtain rfl : u7 = .int .i64 (-1) := by rw [hi]; rfl
        have hn0 : xs.take 0 ++ List.replicate (n - 0) (0 : Int) = List.replicate n 0 := by simp
        rw [hn0] at hown
        clear hi hn0
        have HN' := Lib.hid (show nextGo xs inputs n = none by rw [HN.out]; rfl)
        by_cases h2 : n = 1024
        · have hd2 : ((n : Int) == 1024) = true := by simp; omega
          have HN2 := Lib.hid h2
          clear h2
          go_wp2
          go_ret2
          have hres : nextW xs inputs = none := by unfold nextW; rw [if_pos HK.out, HXL.out, HN'.out, if_pos HN2.out]
          rw [hres]
          exact ⟨_, rfl, OwnI.nil_ _ _, hbel⟩
        · have hd2 : ((n : Int) == 1024) = false := by simp; omega
          have HN2 := Lib.hid h2
          clear h2
          have hlen : (List.replicate n (0 : Int)).length = n := by simp
          have hown' : wr.ownsRow w.heap.size 3 1 (.slice A1 n c1) n ((List.replicate n (0 : Int)).map (Value.int .i64)) := by unfold OwnI at hown; rw [hlen] at hown; exact hown
          have hownA : ∀ o, (wr.alloc o).ownsRow w.heap.size 3 1 (.slice A1 n c1) n ((List.replicate n (0 : Int)).map (Value.int .i64)) := fun o => hown'.alloc o
          have hlt := hown.lt
          have hs1 : ∀ t, Src (wr.alloc (.cells #[.int .i64 0] t)) (some ⟨wr.heap.size, 0, none⟩) 1 [.int .i64 0] := fun t => src_one wr _ t
          have hone : ∀ u ∈ [Value.int .i64 0], u.oneCell' = true := by intro u hu; simp at hu; subst hu; rfl
          have hc1 : n + 1 ≤ maxLen := by unfold maxLen; omega
          have hc2 : (n + 1) * 8 ≤ 140737488355328 := by omega
          have hc3 : ∀ o, w.heap.size ≤ (wr.alloc o).heap.size := fun o => by have := hbel.size; simp; omega
          have HB := Lib.hid hbel
          clear hown hown' hbel hlen
          go_wp2_with (at_builtin; refine wpList_append_row rfl (.tmp 44) (.tmp 45) 38 rfl w.heap.size 3 j0 (.int .i64 0) 8 Tryd.underlying38 ji jz0 jz1 jz2 rfl (.slice A1 n c1) _ _ rfl (hownA _) _ 1 1 [.int .i64 0] rfl (hs1 _) hone hc1 hc2 (hc3 _) ?_; intro v2 w2 hown2 hg2 hb2)
          go_ret2
          have hres : nextW xs inputs = some (List.replicate (n + 1) 0) := by unfold nextW; rw [if_pos HK.out, HXL.out, HN'.out, if_neg HN2.out]
          rw [hres]
          refine ⟨_, rfl, ?_, (HB.out.alloc HB.out.size _).grown hg2 (hc3 _) fun g e => (hlt g e).1⟩
          unfold OwnI
          have e1 : ((some (List.replicate (n + 1) (0 : Int))).getD []).length = n + 1 := by simp
          have e2 : ((some (List.replicate (n + 1) (0 : Int))).getD []).map (Value.int .i64) = (List.replicate n (0 : Int)).map (Value.int .i64) ++ [Value.int .i64 0] := by
            rw [Option.getD_some, List.replicate_succ', List.map_append]; rfl
          rw [e1, e2]
          exact hown2
      | succ t =>
        obtain rfl : u7 = .int .i64 (t : Int) := by rw [hi]; congr 1; omega
        clear hi
        obtain ⟨g, rfl, hgw⟩ := hA (by omega)
        have htl : t < xs.length := by rw [HXL.out]; omega
        obtain ⟨x, hx1⟩ : ∃ x, xs[t]? = some x := ⟨xs[t], List.getElem?_eq_getElem htl⟩
        have hx2 := HALL.out x (List.mem_of_getElem? hx1)
        obtain ⟨hx3, hx4⟩ := hx2
        have hin : (xs.take (t + 1) ++ List.replicate (n - (t + 1)) (0 : Int))[t]? = some x := by
          rw [List.getElem?_append, if_pos (by rw [List.length_take]; omega), List.getElem?_take, if_pos (by omega), hx1]
        have hln : (xs.take (t + 1) ++ List.replicate (n - (t + 1)) (0 : Int)).length = n := by
          rw [List.length_append, List.length_take, List.length_replicate, HXL.out]; omega
        obtain ⟨q1, q2⟩ := hown.at_ hln hin
        have HT := Lib.hid (And.intro hx1 hln)
        have HNG := Lib.hid (show nextGo xs inputs (t + 1) = if x < inputs - 1 then some (xs.take t ++ (x + 1) :: List.replicate (n - 1 - t) 0) else nextGo xs inputs t by
          rw [nextGo, getD_of_some hx1, HXL.out])
        have HO := Lib.hid hown
        have HB := Lib.hid hbel
        clear hx1 hin hln hown hbel htl
        by_cases h2 : x < inputs - 1
        · go_wp2
          go_ret2
          have hres : nextW xs inputs = some (xs.take t ++ (x + 1) :: List.replicate (n - (t + 1)) 0) := by
            unfold nextW
            rw [if_pos HK.out, HXL.out, HN.out, HNG.out, if_pos h2, show n - 1 - t = n - (t + 1) by omega]
          rw [hres]
          have hset := HO.out.set_ HT.out.2 t (x + 1)
          rw [zero_at HT.out.1 HXL.out] at hset
          exact ⟨_, rfl, hset, HB.out.setCell (p := ⟨g, t, none⟩) hgw _⟩
        · go_wp2
          go_roundw
          case rel =>
            have hset := HO.out.set_ HT.out.2 t 0
            rw [zero_at HT.out.1 HXL.out, zeros_step xs (by omega)] at hset
            exact ⟨t, by omega, rfl, hset, HB.out.setCell (p := ⟨g, t, none⟩) hgw _, Lib.hid (by rw [HN.out, HNG.out, if_neg (by omega)])⟩
          case measure => simp [intOf] <;> omega
  · have hd : (checkI xs inputs != 0) = true := by simp [hck]
    have hcall := R01Check_any (inputs := inputs) hx
    go_enter Tryd.func44, Tryd.ntmps44
    go_wp2_with (go_at_call 70; refine hcall.mono ?_; rintro e w' ⟨rfl, rfl⟩)
    go_ret2
    have hres : nextW xs inputs = none := by unfold nextW; rw [if_neg hck]
    rw [hres]
    exact ⟨_, rfl, OwnI.nil_ _ _, Below.refl _ _⟩

end Go.Proofs.YtmlghnfbjkcelaaDoor
