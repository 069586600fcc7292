/-
  Walks of cmp.Compare, slices.Compare, word.Lex, cmp.Or, word.Compare.
-/
import Derived.Test.YthahbiahlpcgeaaGreatDoorOwn
import Derived.Lib.Hide
import Derived.WalkSmall
namespace Go.Proofs.YthahbiahlpcgeaaGreatDoor
open Go.RowKit

def cmpI (x y : Int) : Int := if x < y then -1 else if y < x then 1 else 0

theorem cmpCompare_any (x y : Int) (w : World) :
    Calls Tryz.prog 127 #[.int .i64 x, .int .i64 y] w fun e w' => e = .returned (.int .i64 (cmpI x y)) ∧ w = w' := by
  by_cases h1 : x < y
  · go_enter Tryz.func127, Tryz.ntmps127
    go_wp2
    go_ret
    exact ⟨ret_int (by unfold cmpI; rw [if_pos h1]), rfl⟩
  · by_cases h2 : y < x
    · go_enter Tryz.func127, Tryz.ntmps127
      go_wp2
      go_ret
      exact ⟨ret_int (by unfold cmpI; rw [if_neg (by omega), if_pos h2]), rfl⟩
    · go_enter Tryz.func127, Tryz.ntmps127
      go_wp2
      go_ret
      exact ⟨ret_int (by unfold cmpI; rw [if_neg (by omega), if_neg (by omega)]), rfl⟩

theorem lexI_step {xs ys : List Int} {k : Nat} {x y : Int} (hx : xs[k]? = some x) (hy : ys[k]? = some y) :
    lexI (xs.drop k) (ys.drop k) = if cmpI x y = 0 then lexI (xs.drop (k + 1)) (ys.drop (k + 1)) else cmpI x y := by
  obtain ⟨h1, h1'⟩ := List.getElem?_eq_some_iff.1 hx
  obtain ⟨h2, h2'⟩ := List.getElem?_eq_some_iff.1 hy
  rw [List.drop_eq_getElem_cons h1, List.drop_eq_getElem_cons h2, h1', h2']
  simp only [lexI, cmpI]
  by_cases a : x < y
  · simp [a]
  · by_cases b : y < x
    · simp [a, b]
    · simp [a, b]

theorem lexI_long {xs ys : List Int} {k : Nat} (h1 : k < xs.length) (h2 : ys.length ≤ k) : lexI (xs.drop k) (ys.drop k) = 1 := by
  rw [List.drop_eq_getElem_cons h1, List.drop_eq_nil_of_le h2]; rfl

theorem lexI_end {xs ys : List Int} {k : Nat} (h1 : xs.length ≤ k) : lexI (xs.drop k) (ys.drop k) = if k < ys.length then -1 else 0 := by
  rw [List.drop_eq_nil_of_le h1]
  by_cases h2 : k < ys.length
  · rw [if_pos h2, List.drop_eq_getElem_cons h2]; rfl
  · rw [if_neg h2, List.drop_eq_nil_of_le (by omega)]; rfl

set_option maxHeartbeats 800000 in
theorem slicesCompare_any {A B : Option Addr} {n c m c' : Nat} {xs ys : List Int} {w : World} (hx : RowOf w IsInt A n c xs) (hy : RowOf w IsInt B m c' ys) :
    Calls Tryz.prog 128 #[.slice A n c, .slice B m c'] w fun e w' => e = .returned (.int .i64 (lexI xs ys)) ∧ w = w' := by
  have hn := hx.small
  have hm := hy.small
  have HL := Lib.hid (And.intro hx.len hy.len)
  go_enter Tryz.func128, Tryz.ntmps128
  go_wp2
  go_loop [5, 6, 7, 8, 11] (fun _ _ _ _ i => ∃ k : Nat, k ≤ n ∧ k ≤ m ∧ i = .int .i64 k ∧ Hid (lexI xs ys = lexI (xs.drop k) (ys.drop k))) (fun _ _ _ _ i => n - (intOf i).toNat)
  case atStart => exact ⟨0, by omega, by omega, rfl, Lib.hid (by simp)⟩
  case round =>
    obtain ⟨k, hk, hk', rfl, HT⟩ := hrel
    by_cases h1 : k < n
    · obtain ⟨b, o, x, rfl, hx1, hx2⟩ := hx.int_at h1
      have HX := Lib.hid hx1
      clear hx1
      by_cases h2 : k < m
      · obtain ⟨b', o', y, rfl, hy1, hy2⟩ := hy.int_at h2
        have HY := Lib.hid hy1
        clear hy1
        have hst := lexI_step HX.out HY.out
        by_cases h3 : cmpI x y = 0
        · rw [if_pos h3] at hst
          have HST := Lib.hid hst
          have d3 : (cmpI x y != 0) = false := by simp [h3]
          have H3 := Lib.hid h3
          clear h3 hst
          go_wp2_with (go_at_call 127; refine (cmpCompare_any _ _ _).mono ?_; rintro e w' ⟨rfl, rfl⟩)
          go_round
          case rel => exact ⟨k + 1, by omega, by omega, by go_num, Lib.hid (by rw [HT.out, HST.out])⟩
          case measure => simp [intOf]; omega
        · rw [if_neg h3] at hst
          have HST := Lib.hid hst
          have d3 : (cmpI x y != 0) = true := by simp [h3]
          clear h3 hst
          go_wp2_with (go_at_call 127; refine (cmpCompare_any _ _ _).mono ?_; rintro e w' ⟨rfl, rfl⟩)
          go_ret
          exact ⟨ret_int (by rw [HT.out, HST.out]), rfl⟩
      · go_wp2
        go_ret
        obtain ⟨h3, h4⟩ := HL.out
        exact ⟨ret_int (by rw [HT.out, lexI_long (by omega) (by omega)]), rfl⟩
    · obtain ⟨h3, h4⟩ := HL.out
      have HE := Lib.hid (lexI_end (xs := xs) (ys := ys) (k := k) (by omega))
      clear h3 h4
      by_cases h2 : n < m
      · go_wp2
        go_ret
        obtain ⟨h3, h4⟩ := HL.out
        exact ⟨ret_int (by rw [HT.out, HE.out, if_pos (by omega)]), rfl⟩
      · go_wp2
        go_ret
        obtain ⟨h3, h4⟩ := HL.out
        exact ⟨ret_int (by rw [HT.out, HE.out, if_neg (by omega)]), rfl⟩

theorem wordLex_any {A B : Option Addr} {n c m c' : Nat} {xs ys : List Int} {w : World} (hx : RowOf w IsInt A n c xs) (hy : RowOf w IsInt B m c' ys) :
    Calls Tryz.prog 107 #[.slice A n c, .slice B m c'] w fun e w' => e = .returned (.int .i64 (lexI xs ys)) ∧ w = w' := by
  go_enter Tryz.func107, Tryz.ntmps107
  go_wp2_with (go_at_call 128; refine (slicesCompare_any hx hy).mono ?_; rintro e w' ⟨rfl, rfl⟩)
  go_ret
  exact ⟨rfl, rfl⟩

/-- The first number that is not 0. -/
def orI (xs : List Int) : Int := (xs.find? fun a => a != 0).getD 0

set_option maxHeartbeats 400000 in
theorem cmpOr_any {A : Option Addr} {n c : Nat} {xs : List Int} {w : World} (hx : RowOf w IsInt A n c xs) :
    Calls Tryz.prog 126 #[.slice A n c] w fun e w' => e = .returned (.int .i64 (orI xs)) ∧ w = w' := by
  have hns := hx.small
  have HL := Lib.hid hx.len
  go_enter Tryz.func126, Tryz.ntmps126
  go_wp2
  go_loop [5, 8] (fun _ i => ∃ k : Nat, k ≤ n ∧ i = .int .i64 k ∧ Hid (((xs.take k).find? fun a => a != 0) = none)) (fun _ i => n - (intOf i).toNat)
  case atStart => exact ⟨0, by omega, rfl, Lib.hid (by simp)⟩
  case round =>
    obtain ⟨k, hk, rfl, HT⟩ := hrel
    by_cases h1 : k < n
    · obtain ⟨b, o, x, rfl, hx1, hx2⟩ := hx.int_at h1
      have HX := Lib.hid hx1
      clear hx1
      by_cases h2 : x = 0
      · have d2 : (x != 0) = false := by simp [h2]
        have H2 := Lib.hid h2
        clear h2
        go_wp2
        go_round
        case rel => exact ⟨k + 1, by omega, by go_num, Lib.hid (by rw [take_step HX.out, List.find?_append, HT.out, H2.out]; rfl)⟩
        case measure => simp [intOf] <;> omega
      · have d2 : (x != 0) = true := by simp [h2]
        go_wp2
        go_ret
        refine ⟨ret_int ?_, rfl⟩
        have hsp := List.take_append_drop (k + 1) xs
        unfold orI
        rw [← hsp, List.find?_append, take_step HX.out, List.find?_append, HT.out]
        simp [h2]
    · go_wp2
      go_ret
      have ht := HT.out
      rw [List.take_of_length_le (by rw [HL.out]; omega)] at ht
      exact ⟨ret_int (by unfold orI; rw [ht]; rfl), rfl⟩

theorem orI_cmp (xs ys : List Int) : orI [cmpI xs.length ys.length, lexI xs ys] = cmpW xs ys := by
  unfold orI cmpI cmpW
  by_cases h1 : xs.length < ys.length
  · rw [if_pos (by omega), if_pos h1]; rfl
  · by_cases h2 : ys.length < xs.length
    · rw [if_neg (by omega), if_pos (by omega), if_neg h1, if_pos h2]; rfl
    · rw [if_neg (by omega), if_neg (by omega), if_neg h1, if_neg h2]
      by_cases h3 : lexI xs ys = 0
      · simp [h3]
      · simp [h3]

theorem src_two {w : World} (x y : Value) (t : TypeId) : Src (w.alloc (.cells #[x, y] t)) (some ⟨w.heap.size, 0, none⟩) 2 [x, y] :=
  ⟨rfl, fun _ => ⟨_, _, rfl, fun j u hu => by
    have := cell_two_new w x y t j u hu
    rwa [addr_add] at this⟩⟩

theorem ints_row {w : World} (x y : Int) (t : TypeId) : RowOf (w.alloc (.cells #[.int .i64 x, .int .i64 y] t)) IsInt (some ⟨w.heap.size, 0, none⟩) 2 2 [x, y] := by
  refine ⟨rfl, Nat.le_refl _, by omega, fun _ => ⟨_, _, rfl, fun i z hz => ?_⟩⟩
  obtain ⟨_, hc⟩ := src_two (w := w) (.int .i64 x) (.int .i64 y) t
  obtain ⟨b, o, e, hcc⟩ := hc (by omega)
  injection e with e
  injection e with e1 e2
  subst e1 e2
  match i, hz with
  | 0, hz =>
    simp at hz
    subst hz
    exact ⟨_, hcc 0 _ rfl, rfl⟩
  | 1, hz =>
    simp at hz
    subst hz
    exact ⟨_, hcc 1 _ rfl, rfl⟩

set_option maxHeartbeats 400000 in
/-- word.Compare: one block of its own stays behind. -/
theorem wordCompare_any {A B : Option Addr} {n c m c' : Nat} {xs ys : List Int} {w : World} (hx : RowOf w IsInt A n c xs) (hy : RowOf w IsInt B m c' ys) :
    Calls Tryz.prog 99 #[.slice A n c, .slice B m c'] w fun e w' => e = .returned (.int .i64 (cmpW xs ys)) ∧ w.alloc (.cells #[.int .i64 (cmpI xs.length ys.length), .int .i64 (lexI xs ys)] 3) = w' := by
  have hn := hx.small
  have hm := hy.small
  have hc1 := Lib.hid (slicesCompare_any hx hy)
  have HE := Lib.hid (orI_cmp xs ys)
  have h1 := hx.len
  have h2 := hy.len
  have HO := Lib.hid (fun t => cmpOr_any (ints_row (w := w) (cmpI xs.length ys.length) (lexI xs ys) t))
  rw [h1, h2] at HE HO
  rw [h1, h2]
  clear h1 h2 hx hy
  go_enter Tryz.func99, Tryz.ntmps99
  go_wp2_with (first | (go_at_call 127; refine (cmpCompare_any _ _ _).mono ?_; rintro e w' ⟨rfl, rfl⟩) | (go_at_call 128; refine hc1.out.mono ?_; rintro e w' ⟨rfl, rfl⟩) | (go_at_call 126; refine (HO.out _).mono ?_; rintro e w' ⟨rfl, rfl⟩))
  go_ret
  exact ⟨ret_int HE.out, rfl⟩

end Go.Proofs.YthahbiahlpcgeaaGreatDoor
