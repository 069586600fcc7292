/-
  Walk of the law WordsetUnions: it returns true whatever the arguments.
-/
import Derived.Test.YtmlghnfbjkcelaaDoorL5
import Derived.Test.YtmlghnfbjkcelaaDoorOpen
namespace Go.Proofs.YtmlghnfbjkcelaaDoor
open Go.RowKit

theorem flatten_length_le {α : Type} {k : Nat} : ∀ {ls : List (List α)}, (∀ x ∈ ls, x.length ≤ k) → ls.flatten.length ≤ ls.length * k
  | [], _ => by simp
  | x :: ls, h => by
    have h1 := flatten_length_le (ls := ls) fun y hy => h y (by simp [hy])
    have h2 := h x (by simp)
    rw [List.flatten_cons, List.length_append, List.length_cons, Nat.add_mul, Nat.one_mul]
    omega

/-- The first lists are small. -/
def SmallTo (ls : List (List (List Int))) (k : Nat) : Prop := ∀ x ∈ ls.take k, x.length ≤ 20

set_option maxRecDepth 100000 in
set_option maxHeartbeats 1600000 in
theorem unions_any {A : Option Addr} {n c : Nat} {ls : List (List (List Int))} {w : World} (ha : RowOf w (IsW w) A n c ls) :
    Calls Tryd.prog 3 #[.slice A n c] w (BoolB w true) := by
  have hns := ha.small
  have HNL := Lib.hid ha.len
  by_cases hn : n > 8
  · have hd : decide ((n : Int) > 8) = true := decide_eq_true (by omega)
    clear ha
    go_enter Tryd.func3, Tryd.ntmps3
    go_wp2_with (go_at_call 9; refine (awake_any _).mono ?_; rintro _ x4 ⟨rfl, hb4⟩)
    go_ret
    exact ⟨rfl, hb4⟩
  · have hd : decide ((n : Int) > 8) = false := decide_eq_false (by omega)
    go_enter Tryd.func3, Tryd.ntmps3
    go_wp2
    go_loop [3] (fun i => ∃ k : Nat, k ≤ n ∧ i = .int .i64 k ∧ Hid (SmallTo ls k)) (fun i => n - (intOf i).toNat)
    case atStart => exact ⟨0, by omega, rfl, Lib.hid (by intro x hx; simp at hx)⟩
    case round =>
      obtain ⟨k, hk, rfl, HS⟩ := hrel
      by_cases h1 : k < n
      · obtain ⟨b, o, A1, n1, c1, x, rfl, hx1, hx2, hx3⟩ := ha.list_at h1
        have HX := Lib.hid hx1
        have HG := Lib.hid (R02Great_any (W := 20) (S := 30) hx3 (by decide))
        clear hx1 hx3
        cases hg : greatL x 20 30 with
        | true =>
          rw [hg] at HG
          go_wp2_with (first | (go_at_call 10; refine HG.out.mono ?_; rintro _ x1 ⟨rfl, rfl⟩) | (go_at_call 9; refine (awake_any _).mono ?_; rintro _ x4 ⟨rfl, hb4⟩))
          go_ret
          exact ⟨rfl, hb4⟩
        | false =>
          rw [hg] at HG
          have hsm := (greatL_false hg).1
          have HSM := Lib.hid hsm
          go_wp2_with (go_at_call 10; refine HG.out.mono ?_; rintro _ x1 ⟨rfl, rfl⟩)
          go_round
          case rel => exact ⟨k + 1, by omega, by go_num, Lib.hid (by
            intro z hz
            rw [take_step HX.out, List.mem_append] at hz
            rcases hz with hz | hz
            · exact HS.out z hz
            · simp at hz
              rw [hz]
              have := HSM.out
              omega)⟩
          case measure => simp [intOf] <;> omega
      · have hfl : ls.flatten.length ≤ 160 := by
          have h3 : ∀ x ∈ ls, x.length ≤ 20 := by
            have h4 := HS.out
            unfold SmallTo at h4
            rw [List.take_of_length_le (by rw [HNL.out]; omega)] at h4
            exact h4
          have h5 := flatten_length_le h3
          have h6 := HNL.out
          omega
        have HU := Lib.hid (wordsetUnion_any ha (by omega))
        have HV := Lib.hid (fun W (hk : Keeps w W) => R02Union_any (ha.lists hk) (by omega))
        have hbl := sortW_length ls.flatten
        have hb : (sortW ls.flatten).length ≤ 17592186044416 := by omega
        clear ha hbl hfl
        generalize sortW ls.flatten = r at HU HV hb
        go_wp2_with (first | (go_at_call 12; refine HU.out.mono ?_; rintro _ x1 ⟨v1, rfl, hO1, hb1⟩; obtain ⟨A1, n1, c1, rfl, hr1⟩ := hO1.isW hb) | (go_at_call 13; refine (HV.out _ (Below.to_keeps hb1)).mono ?_; rintro _ x2 ⟨v2, rfl, hO2, hb2⟩; obtain ⟨A2, n2, c2, rfl, hr2⟩ := hO2.isW hb) | (go_at_call 11; refine (same_true (hr1.words (Below.to_keeps hb2)) hr2).mono ?_; rintro _ x3 ⟨rfl, hb3⟩) | (go_at_call 9; refine (awake_any _).mono ?_; rintro _ x4 ⟨rfl, hb4⟩))
        go_ret
        exact ⟨rfl, (((show Bel w x1 from hb1).tr hb2).tr hb3).tr hb4⟩

end Go.Proofs.YtmlghnfbjkcelaaDoor
