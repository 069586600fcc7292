/-
  Walks of strconv.AppendInt at base 36 (internal/strconv.AppendInt, AppendUint, formatBits).
-/
import Derived.Test.YthahbiahlpcgeaaGreatDoorOwn
import Derived.Test.YthahbiahlpcgeaaGreatDoorKey
import Derived.Laws.OwnMore
import Derived.Lib.BufferRead
namespace Go.Proofs.YthahbiahlpcgeaaGreatDoor
open Go.RowKit

theorem Tryz.infoByte : (Tryz.prog.info? 5).map (fun i => (i.zero, i.size, i.bytes)) = some (some (.int .u8 0), 1, 1) := by kernel_rfl

/-- The cells of bytes. -/
def bcells (l : List UInt8) : List Value := l.map fun b => .int .u8 (b.toNat : Int)
theorem bcells_length (l : List UInt8) : (bcells l).length = l.length := by simp [bcells]
theorem bcells_append (l m : List UInt8) : bcells (l ++ m) = bcells l ++ bcells m := by simp [bcells]
theorem bcells_one (l : List UInt8) : ∀ u ∈ bcells l, u.oneCell' = true := by
  intro u hu
  simp only [bcells, List.mem_map] at hu
  obtain ⟨b, _, rfl⟩ := hu
  rfl

/-- The call's own row of bytes. -/
def OwnB (w : World) (base : Nat) (v : Value) (l : List UInt8) : Prop := w.ownsRow base 5 1 v l.length (bcells l)
theorem OwnB.lt {w : World} {base : Nat} {v : Value} {l : List UInt8} (h : OwnB w base v l) : ∀ k, v.ownBlock = some k → base ≤ k ∧ k < w.heap.size := World.ownsRow.lt h
theorem OwnB.nil_ (w : World) (base : Nat) : OwnB w base (.slice none 0 0) [] := World.ownsRow_nil _ _ _ _

/-- It hands back the call's own row, with more bytes. -/
def MoreB (w : World) (base : Nat) (l : List UInt8) (e : Ending) (w' : World) : Prop := ∃ v', e = .returned v' ∧ OwnB w' base v' l ∧ Below base w w'

theorem idx36 (k : IntKind) (z : Int) (d : Nat) (hz : z = (d : Int)) (hd : d < 36) (w : World) :
    (Instr.index 9 (.string { data := #[48, 49, 50, 51, 52, 53, 54, 55, 56, 57, 97, 98, 99, 100, 101, 102, 103, 104, 105, 106, 107, 108, 109, 110, 111, 112, 113, 114, 115, 116, 117, 118, 119, 120, 121, 122] }) (.int k z)).run Tryz.prog w = .ok (.int .u8 ((dig36 d).toNat : Int)) w := by
  subst hz
  rw [run_index_string w 9 _ k _ Tryz.underlying9, dif_pos ⟨by omega, by show (d : Int) < ((36 : Nat) : Int); omega⟩]
  have : ∀ d : Fin 36, (({ data := #[48, 49, 50, 51, 52, 53, 54, 55, 56, 57, 97, 98, 99, 100, 101, 102, 103, 104, 105, 106, 107, 108, 109, 110, 111, 112, 113, 114, 115, 116, 117, 118, 119, 120, 121, 122] } : ByteArray)[d.1]'(by show d.1 < 36; exact d.2)) = dig36 d.1 := by decide
  have h := this ⟨d, hd⟩
  simp only [Int.toNat_natCast]
  rw [h]

/-- The digits that the array holds behind place i. -/
def Dig (zs : List Value) (i : Nat) (l : List UInt8) : Prop := zs.length = 65 ∧ zs.drop i = bcells l

theorem Dig.push {zs : List Value} {j : Nat} {m : List UInt8} (h : Dig zs (j + 1) m) (hj : j < 65) (c : UInt8) : Dig (zs.set j (.int .u8 (c.toNat : Int))) j (c :: m) := by
  obtain ⟨h1, h2⟩ := h
  refine ⟨by simpa using h1, ?_⟩
  rw [List.drop_eq_getElem_cons (by simp; omega), List.getElem_set_self, List.drop_set_of_lt (by omega), h2]
  rfl

set_option maxRecDepth 100000 in
set_option maxHeartbeats 1600000 in
theorem formatBits_any {B u : Nat} {sv : Value} {l : List UInt8} {w : World} (hu : u < 18446744073709551616) (hown : OwnB w B sv l) (hB : B ≤ w.heap.size) (hl : l.length ≤ 1000000000) :
    Calls Tryz.prog 159 #[sv, .int .u64 u, .int .i64 36, .bool false, .bool true] w (fun e w' => ∃ v', e = .returned (.tuple #[v', .string ByteArray.empty]) ∧ OwnB w' B v' (l ++ digs u) ∧ Below B w w') := by
  obtain ⟨i0, hi, hz0, hz1, hz2⟩ := info_parts Tryz.infoByte
  have HOWN := Lib.hid hown
  clear hown
  have hbits : (bits BinOp.and IntKind.i64 36 35 == 0) = false := by decide
  go_enter Tryz.func159, Tryz.ntmps159
  go_wp2
  go_loopw [1, 13, 18] (fun v i _ wr => ∃ k j : Nat, ∃ m : List UInt8, ∃ zs, v = .int .u64 k ∧ i = .int .i64 j ∧ k < 18446744073709551616 ∧ j + m.length = 65 ∧ Hid (digs k ++ m = digs u) ∧ Hid (Dig zs j m) ∧ wr.ownsRow w.heap.size 184 1 (.slice (some ⟨w.heap.size, 0, none⟩) 65 65) 65 zs ∧ Below w.heap.size w wr) (fun v _ _ _ => (intOf v).toNat)
  case atStart => exact ⟨u, 65, [], _, rfl, rfl, hu, rfl, Lib.hid (by simp), Lib.hid ⟨rfl, rfl⟩, World.ownsRow_lit w _ 65 (Nat.le_refl _) (by unfold maxLen; omega) rfl, (Below.refl _ _).alloc (Nat.le_refl _) _⟩
  case round =>
    obtain ⟨k, j, m, zs, rfl, rfl, hk, hj, HD, HZ, hrow, hbel⟩ := hrel
    have hlen : m.length ≤ 12 := by
      have h1 := congrArg List.length HD.out
      rw [List.length_append] at h1
      have h2 := digs_pos k
      have h3 := digs_len13 hu
      omega
    obtain ⟨j, rfl⟩ : ∃ j' : Nat, j = j' + 1 := ⟨j - 1, by omega⟩
    have hzl : j < zs.length := by rw [HZ.out.1]; omega
    have q1 : wr.cell? ⟨w.heap.size, j, none⟩ = some (zs[j]) := by rw [hrow.cellAt j (by omega)]; exact List.getElem?_eq_getElem hzl
    have q2 : wr.frozen? ⟨w.heap.size, j, none⟩ = false := hrow.frozenAt j
    generalize zs[j] = z0 at q1
    have HR := Lib.hid hrow
    have HB := Lib.hid hbel
    clear hrow hbel hzl
    by_cases h1 : 36 ≤ k
    · have e0 : ((j + 1 : Nat) : Int) - 1 = (j : Int) := by omega
      have hix := fun W => idx36 .u64 ((k : Int) - (k : Int) / 36 * 36) (k % 36) (by omega) (by omega) W
      go_wp2
      go_roundw
      case rel =>
        obtain ⟨s1, s2⟩ := HR.out.stored j (.int .u8 ((dig36 (k % 36)).toNat : Int))
        exact ⟨k / 36, j, dig36 (k % 36) :: m, _, by go_num, rfl, by omega, by simp; omega, Lib.hid (by rw [← HD.out, digs_big h1]; simp), Lib.hid (HZ.out.push (by omega) _), s1, HB.out.grown s2 HB.out.size (fun g e => by injection e with e; omega)⟩
      case measure => simp [intOf] <;> omega
    · have e0 : ((j + 1 : Nat) : Int) - 1 = (j : Int) := by omega
      have hix := fun W => idx36 .u64 (k : Int) k rfl (by omega) W
      have hal : Tryz.prog.arrayLen 184 = 65 := by simp [Program.arrayLen, Tryz.underlying184]
      have hsl : ∀ W, (Instr.sliceAt 184 (.pointer (some ⟨w.heap.size, 0, none⟩)) (some (.int .i64 (j : Int))) none none).run Tryz.prog W = .ok (.slice (some ⟨w.heap.size, j, none⟩) (65 - j) (65 - j)) W := fun W => by
        rw [run_sliceAt_array_l W 184 ⟨w.heap.size, 0, none⟩ (by simp [Program.arrayLen, Program.elem, Tryz.underlying184]) .i64 (j : Int) (by omega) (by rw [hal]; omega)]
        go_simp
        omega
      obtain ⟨s1, s2⟩ := HR.out.stored j (.int .u8 ((dig36 k).toNat : Int))
      have hb2 : Below w.heap.size w (wr.setCell ⟨w.heap.size, j, none⟩ (.int .u8 ((dig36 k).toNat : Int))) := HB.out.grown s2 HB.out.size (fun g e => by injection e with e; omega)
      have hown2 : OwnB (wr.setCell ⟨w.heap.size, j, none⟩ (.int .u8 ((dig36 k).toNat : Int))) B sv l := World.ownsRow.kept HOWN.out (grown_none hb2) (by cases sv.ownBlock <;> simp)
      have hdz := HZ.out.push (by omega) (dig36 k)
      have hsrc : Src (wr.setCell ⟨w.heap.size, j, none⟩ (.int .u8 ((dig36 k).toNat : Int))) (some ⟨w.heap.size, j, none⟩) (65 - j) (bcells (dig36 k :: m)) := by
        refine ⟨by rw [bcells_length]; simp; omega, fun _ => ⟨_, _, rfl, fun i v hv => ?_⟩⟩
        have hi : i < (bcells (dig36 k :: m)).length := (List.getElem?_eq_some_iff.1 hv).1
        rw [bcells_length, List.length_cons] at hi
        rw [s1.cellAt (j + i) (by omega), ← hv, ← hdz.2, List.getElem?_drop]
      have hone := bcells_one (dig36 k :: m)
      have hc1 : l.length + (65 - j) ≤ maxLen := by unfold maxLen; omega
      have hc2 : (l.length + (65 - j)) * 1 ≤ 140737488355328 := by omega
      have hc3 : B ≤ (wr.setCell ⟨w.heap.size, j, none⟩ (.int .u8 ((dig36 k).toNat : Int))).heap.size := Nat.le_trans hB hb2.size
      have hfull : bcells l ++ bcells (dig36 k :: m) = bcells (l ++ digs u) := by
        rw [← bcells_append, ← HD.out, digs_small (by omega)]; rfl
      have hfl : l.length + (65 - j) = (l ++ digs u).length := by
        rw [← HD.out, digs_small (by omega)]; simp; omega
      have HF := Lib.hid (And.intro hfull hfl)
      have HB2 := Lib.hid hb2
      clear s1 s2 hdz hb2 hfull hfl hal
      unfold OwnB at hown2
      go_wp2_with (at_builtin; refine wpList_append_row rfl (.tmp 95) (.tmp 97) 123 rfl B 5 i0 (.int .u8 0) 1 Tryz.underlying123 hi hz0 hz1 hz2 rfl sv _ _ rfl hown2 _ (65 - j) (65 - j) _ rfl hsrc hone hc1 hc2 hc3 ?_; intro v1 w1 hown1 hg1 hb1)
      go_ret2
      have hlt := hown2
      refine ⟨_, rfl, ?_, ?_⟩
      · unfold OwnB
        rw [← HF.out.1, ← HF.out.2]
        exact hown1
      · exact (HB2.out.mono hB).grown hg1 hc3 fun g e => (OwnB.lt hown2 g e).1

set_option maxRecDepth 100000 in
set_option maxHeartbeats 800000 in
theorem appendUint_any {B u : Nat} {sv : Value} {l : List UInt8} {w : World} (hu : u < 18446744073709551616) (hown : OwnB w B sv l) (hB : B ≤ w.heap.size) (hl : l.length ≤ 1000000000) :
    Calls Tryz.prog 142 #[sv, .int .u64 u, .int .i64 36] w (MoreB w B (l ++ digs u)) := by
  have hcall := formatBits_any hu hown hB hl
  clear hown
  go_enter Tryz.func142, Tryz.ntmps142
  go_wp2_with (go_at_call 159; refine hcall.mono ?_; rintro e w' ⟨v', rfl, hown', hb'⟩)
  go_ret
  exact ⟨_, rfl, hown', hb'⟩

set_option maxRecDepth 100000 in
set_option maxHeartbeats 800000 in
theorem appendInt_any {B : Nat} {a : Int} {sv : Value} {l : List UInt8} {w : World} (ha1 : -9223372036854775808 ≤ a) (ha2 : a ≤ 9223372036854775807) (hown : OwnB w B sv l) (hB : B ≤ w.heap.size) (hl : l.length ≤ 100000000) :
    Calls Tryz.prog 124 #[sv, .int .i64 a, .int .i64 36] w (MoreB w B (l ++ enc36 a)) := by
  obtain ⟨i0, hi, hz0, hz1, hz2⟩ := info_parts Tryz.infoByte
  by_cases h1 : a < 0
  · have hs1 : ∀ t, Src (w.alloc (.cells #[.int .u8 45] t)) (some ⟨w.heap.size, 0, none⟩) 1 [.int .u8 45] := fun t => src_one w _ t
    have hone : ∀ u ∈ [Value.int .u8 45], u.oneCell' = true := by intro u hu; simp at hu; subst hu; rfl
    have hownA : ∀ o, (w.alloc o).ownsRow B 5 1 sv l.length (bcells l) := fun o => World.ownsRow.alloc hown o
    have hc1 : l.length + 1 ≤ maxLen := by unfold maxLen; omega
    have hc2 : (l.length + 1) * 1 ≤ 140737488355328 := by omega
    have hc3 : ∀ o, B ≤ (w.alloc o).heap.size := fun o => by simp; omega
    have hlt := OwnB.lt hown
    have hB1 : ∀ o, Below B w (w.alloc o) := fun o => (Below.refl B w).alloc hB o
    have HOWN := Lib.hid hown
    clear hown
    have e1 : (enc36 a) = 45 :: digs a.natAbs := by unfold enc36; rw [if_pos h1]
    have HE := Lib.hid e1
    clear e1
    go_enter Tryz.func124, Tryz.ntmps124
    go_wp2_with (at_builtin; refine wpList_append_row rfl (.tmp 12) (.tmp 13) 123 rfl B 5 i0 (.int .u8 0) 1 Tryz.underlying123 hi hz0 hz1 hz2 rfl sv _ _ rfl (hownA _) _ 1 1 [.int .u8 45] rfl (hs1 _) hone hc1 hc2 (hc3 _) ?_; intro v1 w1 hown1 hg1 hb1)
    have hw : IntKind.u64.wrap (-IntKind.u64.wrap a) = ((a.natAbs : Nat) : Int) := by
      rw [IntKind.wrap_u64, IntKind.wrap_u64]; omega
    rw [hw]
    have hown2 : OwnB w1 B v1 (l ++ [45]) := by
      unfold OwnB
      rw [bcells_append, List.length_append]
      exact hown1
    have hb2 : Below B w w1 := (hB1 _).grown hg1 (hc3 _) fun g e => (hlt g e).1
    have hcall := appendUint_any (u := a.natAbs) (by omega) hown2 (Nat.le_trans hB (by have := hg1.size; simp at this; omega)) (by simp; omega)
    clear hown1 hg1 hb1 hown2 hownA hs1 hc3
    refine hcall.mono ?_
    rintro e w' ⟨v', rfl, hown', hb'⟩
    go_wp2
    go_ret
    refine ⟨_, rfl, ?_, hb2.trans hb'⟩
    rw [HE.out]
    simpa using hown'
  · have HOWN := Lib.hid hown
    have e1 : (enc36 a) = digs a.natAbs := by unfold enc36; rw [if_neg h1]
    have hw : IntKind.u64.wrap a = ((a.natAbs : Nat) : Int) := by
      rw [IntKind.wrap_u64]; omega
    have hcall := appendUint_any (u := a.natAbs) (by omega) hown hB (by omega)
    clear hown
    go_enter Tryz.func124, Tryz.ntmps124
    go_wp2_with (go_at_call 142; refine hcall.mono ?_; rintro e w' ⟨v', rfl, hown', hb'⟩)
    go_ret
    exact ⟨_, rfl, by rw [e1]; exact hown', hb'⟩

set_option maxRecDepth 100000 in
theorem strconvAppendInt_any {B : Nat} {a : Int} {sv : Value} {l : List UInt8} {w : World} (ha1 : -9223372036854775808 ≤ a) (ha2 : a ≤ 9223372036854775807) (hown : OwnB w B sv l) (hB : B ≤ w.heap.size) (hl : l.length ≤ 100000000) :
    Calls Tryz.prog 95 #[sv, .int .i64 a, .int .i64 36] w (MoreB w B (l ++ enc36 a)) := by
  have hcall := appendInt_any ha1 ha2 hown hB hl
  clear hown
  go_enter Tryz.func95, Tryz.ntmps95
  go_wp2_with (go_at_call 124; refine hcall.mono ?_; rintro e w' ⟨v', rfl, hown', hb'⟩)
  go_ret
  exact ⟨_, rfl, hown', hb'⟩

theorem keyL_take {xs : List Int} {k : Nat} {x : Int} (h : xs[k]? = some x) : keyL (xs.take (k + 1)) = (keyL (xs.take k) ++ enc36 x) ++ [32] := by
  rw [take_step h, keyL_append]; simp [keyL]

def Rng (x : Int) : Prop := -9223372036854775808 ≤ x ∧ x ≤ 9223372036854775807

/-- wordset.key. -/
def KeyPost (w : World) (l : List UInt8) (e : Ending) (w' : World) : Prop := e = .returned (.string ⟨l.toArray⟩) ∧ Below w.heap.size w w'

set_option maxRecDepth 100000 in
set_option maxHeartbeats 1600000 in
theorem key_any {A : Option Addr} {n c : Nat} {xs : List Int} {w : World} (hx : RowOf w IsInt A n c xs) (hr : ∀ x ∈ xs, Rng x) (hn : n ≤ 2000000) :
    Calls Tryz.prog 46 #[.slice A n c] w (KeyPost w (keyL xs)) := by
  have HL := Lib.hid hx.len
  have HR := Lib.hid hr
  obtain ⟨i0, hi, hz0, hz1, hz2⟩ := info_parts Tryz.infoByte
  clear hr
  go_enter Tryz.func46, Tryz.ntmps46
  go_wp2
  go_loopw [3, 5, 8] (fun v _ i wr => ∃ k : Nat, k ≤ n ∧ i = .int .i64 k ∧ OwnB wr w.heap.size v (keyL (xs.take k)) ∧ Below w.heap.size w wr) (fun _ _ i _ => n - (intOf i).toNat)
  case atStart => exact ⟨0, by omega, rfl, OwnB.nil_ _ _, Below.refl _ _⟩
  case round =>
    obtain ⟨k, hk, rfl, hown, hbel⟩ := hrel
    have hkl : (keyL (xs.take k)).length ≤ 15 * k := by
      have := keyL_len (xs := xs.take k) fun x hx => HR.out x (List.mem_of_mem_take hx)
      rw [List.length_take] at this
      omega
    by_cases h1 : k < n
    · obtain ⟨b, o, x, rfl, hx1, hx2⟩ := hx.int_at h1
      have hc := Keeps.of_below hbel _ _ hx2
      have hrx := HR.out x (List.mem_of_getElem? hx1)
      have HX := Lib.hid hx1
      have HC := Lib.hid (strconvAppendInt_any hrx.1 hrx.2 hown hbel.size (by omega))
      have hlen := enc36_len hrx.1 hrx.2
      have HB := Lib.hid hbel
      clear hx1 hx2 hrx hown hbel
      have hone : ∀ u ∈ [Value.int .u8 32], u.oneCell' = true := by intro u hu; simp at hu; subst hu; rfl
      have hc1 : (keyL (xs.take k) ++ enc36 x).length + 1 ≤ maxLen := by unfold maxLen; simp; omega
      have hc2 : ((keyL (xs.take k) ++ enc36 x).length + 1) * 1 ≤ 140737488355328 := by simp; omega
      go_wp2_with (first | (go_at_call 95; refine HC.out.mono ?_; rintro e w1 ⟨v1, rfl, hown1, hb1⟩; have HH := Lib.hid (And.intro hown1 hb1); have hs1 := fun t => src_one w1 (.int .u8 32) t; have hownA := fun o => World.ownsRow.alloc hown1 o; have hc3 : ∀ o, w.heap.size ≤ (w1.alloc o).heap.size := (fun o => by have := HB.out.size; have := hb1.size; simp; omega); clear hown1 hb1) | (at_builtin; refine wpList_append_row rfl (.tmp 14) (.tmp 15) 123 rfl w.heap.size 5 i0 (.int .u8 0) 1 Tryz.underlying123 hi hz0 hz1 hz2 rfl v1 _ _ rfl (hownA _) _ 1 1 [.int .u8 32] rfl (hs1 _) hone hc1 hc2 (hc3 _) ?_; intro v2 w2 hown2 hg2 hb2))
      have hfin : OwnB w2 w.heap.size v2 (keyL (xs.take (k + 1))) := by
        unfold OwnB
        rw [keyL_take HX.out, bcells_append, List.length_append]
        exact hown2
      have hbel' : Below w.heap.size w w2 := ((HB.out.trans (HH.out.2.mono (Nat.le_refl _))).alloc (by have := HB.out.size; have := HH.out.2.size; omega) _).grown hg2 (hc3 _) fun g e => (OwnB.lt HH.out.1 g e).1
      clear hown2 hg2 hb2 hs1 hownA hc3
      go_roundw
      case rel => exact ⟨k + 1, by omega, by go_num, hfin, hbel'⟩
      case measure => simp [intOf] <;> omega
    · rw [List.take_of_length_le (by rw [HL.out]; omega)] at hown
      have hconv : (convert 123 9 u3).run Tryz.prog wr = .ok (.string ⟨(keyL xs).toArray⟩) wr := by
        rcases hown.2 with ⟨rfl, h0⟩ | ⟨g, cap, cur, rfl, _, _, _⟩
        · have h00 : keyL xs = [] := List.eq_nil_of_length_eq_zero h0
          rw [h00]
          exact Lib.run_convert_nil_bytes wr _ _ _ 0 Tryz.underlying123 Tryz.underlying5 Tryz.underlying9
        · refine run_convert_bytes_back wr _ _ _ ⟨g, 0, none⟩ cap (keyL xs) Tryz.underlying123 Tryz.underlying5 Tryz.underlying9 fun j hj => ?_
          rw [hown.cells (g := g) rfl j (.int .u8 ((keyL xs)[j].toNat : Int)) (by simp [bcells, hj])]
      clear hown
      go_wp2
      go_ret
      exact ⟨rfl, hbel⟩

end Go.Proofs.YthahbiahlpcgeaaGreatDoor
