/-
  The plain reading's operations are the model's: appends, calls.
-/
import Derived.Test.YthahbiahlpcgeaaGreatDoorSym7
namespace Go.Proofs.YthahbiahlpcgeaaGreatDoor.Sym
open Go.RowKit

section
variable {P : Program} {B : Base} {o : Oper} {σ : St} {K : Fx → Prop}

theorem zOk_spec {t : TypeId} {k by_ : Nat} (hz : zOk P t k = true) (hk : szOf P t = some k) (hb : byteOf P t = some by_) : ∃ i z, P.info? t = some i ∧ i.zero = some z ∧ i.size = k ∧ i.bytes = by_ ∧ z.cells.size = k := by
  unfold szOf at hk
  unfold byteOf at hb
  cases hi : P.info? t with
  | none => rw [hi] at hk; cases hk
  | some i =>
    rw [hi] at hk hb
    simp only [Option.map_some, Option.some.injEq] at hk hb
    unfold zOk at hz
    split at hz
    · rename_i zs hzs
      unfold zeroOf at hzs
      simp only [hi] at hzs
      cases hz0 : i.zero with
      | none => rw [hz0] at hzs; cases hzs
      | some z =>
        rw [hz0] at hzs
        simp only [Option.map_some, Option.some.injEq] at hzs
        refine ⟨i, z, rfl, hz0, hk, hb, ?_⟩
        rw [← hzs] at hz
        simpa using hz
    · cases hz

/-- What a slice holds, ready to be appended. -/
theorem sl_src {w : World} {S : Nat → Prop} {v : Value} {es : List (List IV)} {k : Nat} (h : RepI w S v (.sl es)) (hk : ∀ e ∈ es, e.length = k) :
    ∃ (A : Option Addr) (c : Nat) (us : List Value), v = .slice A es.length c ∧ us.length = es.flatten.length ∧ (∀ u ∈ us, u.oneCell' = true) ∧ es.length ≤ 17592186044416 ∧
      (0 < es.length → ∃ b q, A = some ⟨b, q, none⟩ ∧ ∀ (j : Nat) u, us[j]? = some u → w.cell? ⟨b, q + j, none⟩ = some u) ∧ ∀ (i : Nat) u x, us[i]? = some u → es.flatten[i]? = some x → RepI w S u x := by
  cases h with
  | emp A c => exact ⟨A, c, [], rfl, rfl, by simp, by simp, fun h => by simp at h, by simp⟩
  | sl b q c k' n _ us hn hkk hcap hs hS hl h1 hu hr => exact ⟨_, c, us, by rw [hn], hl, h1, by omega, fun _ => ⟨b, q, rfl, hu⟩, hr⟩

theorem run_append_k {w : World} (base : Nat) (t ty e : TypeId) (i : TypeInfo) (z : Value) (size bytes : Nat) (ht : P.underlying t = some (.slice e)) (hi : P.info? e = some i) (hz : i.zero = some z)
    (hsize : i.size = size) (hby : i.bytes = bytes) (hzs : z.cells.size = size) (hsz : 0 < size) (v : Value) (n : Nat) (xs : List Value) (hown : w.ownsRow base e size v n xs)
    (A : Option Addr) (m c : Nat) (news : List Value) (hl : news.length = m * size) (hs : 0 < m → ∃ b q, A = some ⟨b, q, none⟩ ∧ ∀ (j : Nat) u, news[j]? = some u → w.cell? ⟨b, q + j, none⟩ = some u) (h1 : ∀ u ∈ news, u.oneCell' = true)
    (h63 : n + m ≤ maxLen) (hbytes : (n + m) * bytes ≤ 140737488355328) (hbase : base ≤ w.heap.size) :
    ∃ v' w', (Builtin.append_ #[t, t] ty #[v, .slice A m c]).run P w = .ok v' w' ∧ w'.ownsRow base e size v' (n + m) (xs ++ news) ∧ w.grownBy w' v.ownBlock ∧
      (v'.ownBlock = v.ownBlock ∨ v'.ownBlock = some w.heap.size) := by
  cases A with
  | none =>
    have hm : m = 0 := by
      rcases Nat.eq_zero_or_pos m with h0 | h0
      · exact h0
      · obtain ⟨b, q, h, _⟩ := hs h0; cases h
    subst hm
    have hn : news = [] := List.eq_nil_of_length_eq_zero (by simpa using hl)
    subst hn
    refine ⟨v, w, ?_, by simpa using hown, World.grownBy.refl w _, .inl rfl⟩
    rcases hown.2 with ⟨rfl, rfl⟩ | ⟨g, cap, cur, rfl, _, _, hnc, _⟩
    · simp [Builtin.append_, run_underlying ht, sizeOf, typeInfo, hi, Builtin.lenOf, Builtin.firstCells]
    · simp [Builtin.append_, run_underlying ht, sizeOf, typeInfo, hi, Builtin.lenOf, Builtin.firstCells, hnc, storeCells]
  | some ad =>
    have hcells : ∀ (j : Nat) u, news[j]? = some u → w.cell? (ad.add j) = some u := by
      intro j u hu
      rcases Nat.eq_zero_or_pos m with h0 | h0
      · subst h0
        have hn : news = [] := List.eq_nil_of_length_eq_zero (by simpa using hl)
        subst hn
        simp at hu
      · obtain ⟨b, q, h, hcc⟩ := hs h0
        injection h with h
        subst h
        rw [addr_add]
        exact hcc j u hu
    obtain ⟨v', w', hrun, h2, h3, _, h5⟩ := run_append_own_at (P := P) w base t ty e i z size bytes ht hi hz hsize hby hzs hsz v n xs hown ad m c news hl hcells h1 h63 hbytes hbase
    exact ⟨v', w', hrun, h2, h3, h5⟩

theorem row_one {w : World} {base : Nat} {e : TypeId} {k n : Nat} {v : Value} {us : List Value} (h : w.ownsRow base e k v n us) : v.oneCell' = true := by
  rcases h.2 with ⟨rfl, _⟩ | ⟨_, _, _, rfl, _⟩ <;> rfl

/-- A row that has grown, or is new. -/
theorem SatR.rowed {a : Act} {w w' : World} {ρ : Ly} (h : SatR B σ a w ρ) {used : Option Nat} {d k : Nat} {e : TypeId} {es new : List (List IV)} {v v' : Value} {us news : List Value} (hu : ∀ q, blkOf v = some q → ∃ b, used = some b ∧ Owns σ ρ b q)
    (hk0 : 0 < k) (hes : ∀ x ∈ es, x.length = k) (hnew : ∀ x ∈ new, x.length = k) (hlim : es.length + new.length ≤ 17592186044416) (hown0 : w.ownsRow 0 e k v es.length us)
    (hown : w'.ownsRow 0 e k v' (es.length + new.length) (us ++ news)) (hg : w.grownBy w' v.ownBlock) (hlie : v'.ownBlock = v.ownBlock ∨ v'.ownBlock = some w.heap.size)
    (hl : us.length = es.flatten.length) (hl2 : news.length = new.flatten.length) (h1 : ∀ u ∈ us, u.oneCell' = true) (h2 : ∀ u ∈ news, u.oneCell' = true)
    (hr : ∀ (i : Nat) u x, us[i]? = some u → es.flatten[i]? = some x → RepI w (Imm B σ ρ w) u x) (hr2 : ∀ (i : Nat) u x, news[i]? = some u → new.flatten[i]? = some x → RepI w (Imm B σ ρ w) u x) :
    SatR B (newSt σ used d (.row e k (es ++ new)) []) a w' (setρ ρ d v') := by
  have m : Making σ w w' ρ used v' v.ownBlock := by
    refine ⟨hg, fun b hb => ?_, fun b hb => ?_⟩
    · rw [row_blk hown0] at hb
      exact hu b hb
    · rw [← row_blk hown] at hb
      rcases hlie with e1 | e1
      · exact .inl (by rw [← e1]; exact hb)
      · rw [e1] at hb
        injection hb with hb
        exact .inr (by omega)
  refine h.new m (fun _ _ _ _ _ e => by cases e) fun hI _ => ⟨us ++ news, hk0, fun x hx => ?_, by simpa using hlim, ?_, by simp [hl, hl2], fun u hu' => ?_, fun i u x hu' hx => ?_⟩
  · rcases List.mem_append.1 hx with hx | hx
    · exact hes x hx
    · exact hnew x hx
  · simpa [setρ] using hown
  · rcases List.mem_append.1 hu' with hu' | hu'
    · exact h1 u hu'
    · exact h2 u hu'
  · rw [List.flatten_append, List.getElem?_append] at hx
    rw [List.getElem?_append, hl] at hu'
    split at hu'
    · rename_i hlt
      rw [if_pos hlt] at hx
      exact hI _ _ (hr i u x hu' hx)
    · rename_i hlt
      rw [if_neg hlt] at hx
      exact hI _ _ (hr2 _ u x hu' hx)

theorem live_row {b k : Nat} {t : TypeId} {es : List (List IV)} (hk : σ.kd b = .row t k es) : live σ b := by unfold live; rw [hk]; exact fun z => by cases z

theorem aAppend_ok {c : Call} {t : TypeId} {x y : Operand} (hop : o.op = .call c) (hc : c.callee = .builtin .append) (hargs : c.args = #[x, y]) (hts : c.argTypes = #[t, t]) (hd : dstOk B.n o = true) (h : aAppend P o σ K t x y) : ∃ fx, K fx ∧ Eff P B o fx.rd σ fx.wr := by
  unfold aAppend at h
  split at h
  · rename_i d et hdst het
    have hund := elm_spec het
    split at h
    · rename_i k by_ new hk hby hy
      have exec : ∀ (a : Act) w v' w', (Builtin.append_ #[t, t] o.type #[a.eval x, a.eval y]).run P w = .ok v' w' → (execOp a.eval o).run P w = .ok (.value v') w' := fun a w v' w' hv => by
        simp [execOp, hop, resolve, hc, hargs, hts, invoke, builtin, hv]
      split at h
      · rename_i hx
        obtain ⟨hchk, h⟩ := h.ok
        rw [Bool.and_eq_true] at hchk
        have hk0 := blt_spec hchk.1
        obtain ⟨i, z, hi, hz, hsize, hbytes, hzs⟩ := zOk_spec hchk.2 hk hby
        obtain ⟨⟨hnew, hcap⟩, h⟩ := h.out
        have h := h.out
        refine ⟨_, h, fun σ' hag a w ⟨ρ, hs⟩ K' Q hK => ?_⟩
        have h1 := evA_ok hs x
        have h2 := evA_ok hs y
        rw [evA_same (agree_l (agree_l hag)), hx] at h1
        have h1 := h1.im_inv
        have hy' : fz σ' (evA σ' y) = some (.sl new, []) := by
          rw [evA_same (agree_r (agree_l hag))]
          exact fz_same hy fun l hl => by simp [frd] at hl
        have h2 := fz_ok hs (bs' := []) (by simp) h2 hy' (by simp)
        have hg := gn_same (agree_r hag (.gen d) (by simp))
        obtain ⟨A, cp, news, hv, hnl, hn1, hnlim, hcells, hrep⟩ := sl_src h2 hnew
        have hxv : a.eval x = .slice none 0 0 := by
          generalize a.eval x = v at h1
          cases h1 with
          | val _ => rfl
        have hfl := flat_length hnew
        obtain ⟨v', w', hrun, hown, hgrow, hlie⟩ := run_append_k (P := P) (w := w) 0 t o.type et i z k by_ hund hi hz hsize hbytes hzs hk0 (.slice none 0 0) 0 [] (World.ownsRow_nil _ _ _ _) A new.length cp news (by rw [hnl, hfl]) hcells hn1 (by unfold maxLen; unfold capOk at hcap; omega) (by simpa using hcap.1) (Nat.zero_le _)
        unfold Oper.wp
        rw [exec a w v' w' (by rw [hxv, hv]; exact hrun), Oper.upon_value, hdst]
        refine hK _ _ ⟨setρ ρ d v', ?_⟩
        have hst := hs.rowed (used := none) (d := d) (es := []) (us := []) (fun q hq => by cases hq) hk0 (by simp) hnew (by simpa using hcap.2) (World.ownsRow_nil _ _ _ _) (by simpa using hown) hgrow hlie rfl hnl (by simp) hn1 (by simp) hrep
        show SatR B (app σ' (mkObj σ d (.row et k new) ++ [(.tmp d, .av (.osl d (σ.gn d + 1)))])) _ _ _
        have := app_new (k := .row et k new) (cs := []) (v := .osl d (σ.gn d + 1)) hg
        simp only [celWr, List.append_nil] at this
        rw [this, ← hg]
        exact newObj_osl hst (row_one hown) (dst_some hd hdst)
      · rename_i b g hx
        split at h
        · rename_i et' k' es hkd
          obtain ⟨hchk, h⟩ := h.ok
          simp only [Bool.and_eq_true] at hchk
          have hk0 := blt_spec hchk.1.1.1
          have het' : et' = et := by simpa using hchk.1.1.2
          have hkk : k' = k := by simpa using hchk.1.2
          subst het' hkk
          obtain ⟨i, z, hi, hz, hsize, hbytes, hzs⟩ := zOk_spec hchk.2 hk hby
          obtain ⟨⟨hg0, hnew, hcap⟩, h⟩ := h.out
          have h := h.out
          refine ⟨_, h, fun σ' hag a w ⟨ρ, hs⟩ K' Q hK => ?_⟩
          obtain ⟨ha, hg', hk', hr'⟩ := agree_gb hag
          have h1 := evA_ok hs x
          have h2 := evA_ok hs y
          rw [evA_same (agree_l ha), hx] at h1
          have hy' : fz σ' (evA σ' y) = some (.sl new, []) := by
            rw [evA_same (agree_r ha)]
            exact fz_same hy fun l hl => by simp [frd] at hl
          have h2 := fz_ok hs (bs' := []) (by simp) h2 hy' (by simp)
          obtain ⟨A, cp, news, hv, hnl, hn1, hnlim, hcells, hrep⟩ := sl_src h2 hnew
          have hfl := flat_length hnew
          have ho := hs.obs b
          rw [hk'.trans hkd] at ho
          obtain ⟨us, _, hes, _, hown0, hul, hu1, hur⟩ := ho
          have hxv : a.eval x = ρ b := by
            generalize a.eval x = v at h1
            cases h1 with
            | osl _ _ _ _ _ hh => exact hh (hg'.trans hg0)
          obtain ⟨v', w', hrun, hown, hgrow, hlie⟩ := run_append_k (P := P) (w := w) 0 t o.type et' i z k' by_ hund hi hz hsize hbytes hzs hk0 (ρ b) es.length us hown0 A new.length cp news (by rw [hnl, hfl]) hcells hn1 (by unfold maxLen; unfold capOk at hcap; omega) hcap.1 (Nat.zero_le _)
          unfold Oper.wp
          rw [exec a w v' w' (by rw [hxv, hv]; exact hrun), Oper.upon_value, hdst]
          refine hK _ _ ⟨setρ ρ b v', ?_⟩
          have hst := hs.rowed (used := some b) (d := b) (fun q hq => ⟨b, rfl, .root (live_row (hk'.trans hkd)) hq⟩) hk0 hes hnew hcap.2 hown0 hown hgrow hlie hul hnl hu1 hn1 hur hrep
          have hap : app σ' ((.knd b, .kd .dead) :: (mkObj σ b (.row et' k' (es ++ new)) ++ [(.tmp d, .av (.osl b (σ.gn b + 1)))])) = app (newSt σ' (some b) b (.row et' k' (es ++ new)) []) [(.tmp d, .av (.osl b (σ'.gn b + 1)))] := by
            rw [app_cons, app_append]
            unfold newSt mkObj
            rw [hg']
            rfl
          show SatR B (app σ' ((.knd b, .kd .dead) :: (mkObj σ b (.row et' k' (es ++ new)) ++ [(.tmp d, .av (.osl b (σ.gn b + 1)))]))) _ _ _
          rw [hap]
          exact newObj_osl2 hst (row_one hown) (dst_some hd hdst)
        · exact h.elim
      · exact h.elim
    · exact h.elim
  · exact h.elim

/-- One object's memory has turned. -/
theorem SatR.turn {a : Act} {w w' : World} {ρ : Ly} (h : SatR B σ a w ρ) {b q : Nat} {k' : Kd} (hl : live σ b) (hq : blkOf (ρ b) = some q) (hg : w.grownBy w' (some q)) (hk' : ∀ c, c ∈ fpk (ρ b) (ρ.inn b) k' → Owns σ ρ b c)
    (hob : (∀ v x, RepI w (Imm B σ ρ w) v x → RepI w' (Imm B (upd σ (.knd b) (.kd k')) ρ w') v x) → ObjOk B (upd σ (.knd b) (.kd k')) ρ w' b k') : SatR B (upd σ (.knd b) (.kd k')) a w' ρ := by
  refine (h.step (fun o => o = b) (fun t => av_knd σ b t _) (fun o hd => ⟨by rw [kd_knd, if_neg hd], gn_knd σ b o _, fun i => ce_knd σ b o i _, rfl, rfl, rfl⟩) (fun o _ => ⟨⟨by rw [gn_knd]; exact Nat.le_refl _, fun _ => rfl⟩, Nat.le_refl _, fun _ => rfl⟩)
    (fun o => by rw [ig_knd]; exact h.igs o) ⟨hg.os, hg.tape, hg.output, hg.size, fun c hc hn => hg.block c hc fun e => ?_⟩ (fun o c hd ho => ?_) (fun o p c hd hp _ _ => hd.trans hp.symm) fun hI hA o hd => ?_).1
  · injection e with e
    subst e
    exact hn ⟨b, rfl, .root hl hq⟩
  · subst hd
    unfold Owns at ho
    rw [kd_knd, if_pos rfl] at ho
    exact .inr ⟨o, rfl, hk' c ho⟩
  · subst hd
    rw [kd_knd, if_pos rfl]
    exact hob hI

theorem splice_length {α : Type} (e : List α) (j : Nat) (xs : List α) (h : j + xs.length ≤ e.length) : (splice e j xs).length = e.length := by
  unfold splice
  simp
  omega
theorem flat_set {α : Type} {k : Nat} : ∀ {es : List (List α)} {i j : Nat} {e xs : List α}, (∀ x ∈ es, x.length = k) → es[i]? = some e → j + xs.length ≤ k → (es.set i (splice e j xs)).flatten = splice es.flatten (i * k + j) xs
  | [], i, j, e, xs, _, h, _ => by simp at h
  | x :: es, 0, j, e, xs, hk, h, hj => by
    simp at h
    subst h
    have := hk x (by simp)
    simp only [List.set_cons_zero, List.flatten_cons, splice, Nat.zero_mul, Nat.zero_add]
    rw [List.take_append_of_le_length (by omega), List.drop_append_of_le_length (by omega)]
    simp
  | x :: es, i + 1, j, e, xs, hk, h, hj => by
    have hx := hk x (by simp)
    have ih := flat_set (es := es) (i := i) (j := j) (e := e) (xs := xs) (fun y hy => hk y (by simp [hy])) (by simpa using h) hj
    have e1 : (i + 1) * k + j = x.length + (i * k + j) := by rw [Nat.add_mul, hx]; omega
    rw [List.set_cons_succ, List.flatten_cons, ih, e1, List.flatten_cons]
    unfold splice
    rw [List.take_append, List.take_of_length_le (l := x) (by omega), show x.length + (i * k + j) - x.length = i * k + j from by omega]
    have hd0 : x.drop (x.length + (i * k + j + xs.length)) = [] := List.drop_eq_nil_of_le (by omega)
    rw [Nat.add_assoc x.length, List.drop_append, hd0]
    rw [show x.length + (i * k + j + xs.length) - x.length = i * k + j + xs.length from by omega]
    simp

theorem take_splice {α : Type} (l : List α) (o n : Nat) (vs : List α) (h : o + vs.length ≤ n) (hl : n ≤ l.length) : (splice l o vs).take n = splice (l.take n) o vs := by
  unfold splice
  rw [List.take_take, Nat.min_eq_left (by omega), List.drop_take, List.take_append, List.take_of_length_le (by simp; omega)]
  congr 2
  simp
  omega
theorem splice_pair {α β : Type} {us : List α} {fs : List β} {vs : List α} {xs : List β} {o n : Nat} {u : α} {x : β} (h1 : us.length = fs.length) (h2 : vs.length = xs.length) (ho : o ≤ us.length) (hu : (splice us o vs)[n]? = some u) (hx : (splice fs o xs)[n]? = some x) :
    (∃ n' : Nat, us[n']? = some u ∧ fs[n']? = some x) ∨ ∃ n' : Nat, vs[n']? = some u ∧ xs[n']? = some x := by
  unfold splice at hu hx
  rw [List.append_assoc, List.getElem?_append, List.length_take, Nat.min_eq_left (by omega)] at hu hx
  by_cases hn : n < o
  · rw [if_pos hn, List.getElem?_take, if_pos hn] at hu hx
    exact .inl ⟨n, hu, hx⟩
  · rw [if_neg hn, List.getElem?_append] at hu hx
    by_cases hv : n - o < vs.length
    · rw [if_pos hv] at hu
      rw [if_pos (by omega)] at hx
      exact .inr ⟨_, hu, hx⟩
    · rw [if_neg hv, List.getElem?_drop] at hu
      rw [if_neg (by omega), List.getElem?_drop, ← h2] at hx
      exact .inl ⟨_, hu, hx⟩

theorem aStoreE_ok {t : TypeId} {p x : Operand} {b g k i j : Nat} (hop : o.op = .store t p x) (hd : dstOk B.n o = true) (hp : evA σ p = .elt b g k i j) (h : aStoreE P o σ K t p x b g k i j) : ∃ fx, K fx ∧ Eff P B o fx.rd σ fx.wr := by
  unfold aStoreE at h
  split at h
  · rename_i m cs et k' es hm hcs hkd
    split at h
    · rename_i xs bs hxs
      obtain ⟨hchk, h⟩ := h.ok
      simp only [Bool.and_eq_true] at hchk
      obtain ⟨⟨⟨⟨c1, c2⟩, c3⟩, c4⟩, c5⟩ := hchk
      have hlen : cs.length = m := by simpa using c1
      have hm0 := blt_spec c2
      have hjm := ble_spec c3
      have hkk : k' = k := by simpa using c4
      subst hkk
      have hbn : b ∉ bs.map (·.1) := by
        simp only [ndB, Bool.and_eq_true, Bool.not_eq_true', List.contains_eq_mem, decide_eq_false_iff_not] at c5
        exact c5.1.2
      obtain ⟨hgk0, e, he, h⟩ := h.out
      have h := h.out
      refine ⟨_, h, fun σ' hag a w ⟨ρ, hs⟩ K' Q hK => ?_⟩
      have hap := agree_l (agree_l hag)
      have hax := agree_r (agree_l hag)
      have hag3 : SameOn σ σ' ((b, g) :: bs) := agree_r hag
      have hgk : ∀ q ∈ (b, g) :: bs, σ'.gn q.1 = q.2 := fun q hq => by
        rw [← hgk0 q hq]
        exact gn_same (hag3 (.gen q.1) (by unfold frd; exact List.mem_flatMap.2 ⟨q, hq, by simp⟩))
      have hk' : σ'.kd b = σ.kd b := kd_same (hag3 (.knd b) (by unfold frd; simp))
      have h1 := evA_ok hs p
      have h2 := evA_ok hs x
      rw [evA_same hap, hp] at h1
      rw [evA_same hax] at h2
      have hr := cellsA_rep hcs h2
      have hone := cellsA_one hcs h2
      have hfz := fzL_ok hs (bs' := bs) (fun q hq => hgk q (by simp [hq])) hr (fzL_same hxs fun l hl => hag3 l (by unfold frd at *; rw [List.flatMap_cons]; exact List.mem_append_right _ hl)) fun _ h => h
      obtain ⟨hsk, _⟩ := hs.kills bs
      have hkd1 : (app σ' (fwr bs)).kd b = .row et k' es := by rw [fwr_kd, if_neg hbn, hk', hkd]
      have hl := live_row hkd1
      have ho := hsk.obs b
      rw [hkd1] at ho
      obtain ⟨us, hk0, hes, hlim, hown, hul, hu1, hur⟩ := ho
      have hin : i < es.length := (List.getElem?_eq_some_iff.1 he).1
      rcases hown.2 with ⟨_, hn⟩ | ⟨q, cap, cur, e1, _, e3, hnc, hcap, hcsz, htk⟩
      · omega
      have hpv : a.eval p = .pointer (some ⟨q, i * k' + j, none⟩) := by
        generalize a.eval p = v at h1
        cases h1 with
        | elt _ _ _ _ _ _ _ _ hh =>
          obtain ⟨b', n, c, f1, f2⟩ := hh (hgk (b, g) (by simp))
          rw [e1] at f1
          injection f1 with f1
          injection f1 with f1
          injection f1 with f1
          rw [f2, f1]
      have hvl : (a.eval x).cells.toList.length = m := by rw [hr.1, hlen]
      have hxl : xs.length = m := by rw [← hfz.1, hvl]
      have hmul : (i + 1) * k' ≤ es.length * k' := Nat.mul_le_mul_right _ hin
      have hmul2 : es.length * k' ≤ cap * k' := Nat.mul_le_mul_right _ hnc
      rw [Nat.add_mul, Nat.one_mul] at hmul
      have hrow := run_storeCells_at (P := P) q (i * k' + j) et (a.eval x).cells.toList 0 cur w e3 (by omega) hone
      simp only [Nat.add_zero] at hrow
      have hz := sz_run hm w
      have hsz : (a.eval x).cells.size = m := by rw [← hvl]; simp
      have run : (execOp a.eval o).run P w = .ok .skip (w.setRow q (splice cur.toList (i * k' + j) (a.eval x).cells.toList).toArray) := by
        simp only [execOp, hop, Instr.storeAt, hpv, Instr.sureAddr, storeVar, Sem.run_bind, Sem.run_pure, Result.andThen_ok, hz, hsz]
        rw [if_neg (by simp), hrow]
        rfl
      unfold Oper.wp
      rw [run, Oper.upon_skip]
      refine hK _ _ ⟨ρ, ?_⟩
      have husl : us.length = es.length * k' := by rw [hul, flat_length hes]
      have hel : e.length = k' := hes e (List.mem_of_getElem? he)
      have hst := hsk.turn (w' := w.setRow q (splice cur.toList (i * k' + j) (a.eval x).cells.toList).toArray) (k' := .row et k' (es.set i (splice e j xs))) hl (q := q) (by rw [e1]; rfl)
        ⟨rfl, rfl, rfl, by simp, fun k _ hk => setRow_other w q k _ (fun e => hk (by rw [e]))⟩ (fun c hc => by unfold Owns; rw [hkd1]; exact hc) fun hI => by
          refine ⟨splice us (i * k' + j) (a.eval x).cells.toList, hk0, fun y hy => ?_, by rw [List.length_set]; exact hlim, ?_, ?_, fun u hu => ?_, fun n u y hu hy => ?_⟩
          · rcases List.mem_or_eq_of_mem_set hy with hy | hy
            · exact hes y hy
            · rw [hy, splice_length _ _ _ (by omega), hel]
          · rw [List.length_set]
            refine ⟨by rw [splice_length _ _ _ (by omega), husl], .inr ⟨q, cap, _, e1, Nat.zero_le _, setRow_heap w q cur _ et _ e3, hnc, hcap, ?_, ?_⟩⟩
            · rw [List.size_toArray, splice_length _ _ _ (by simp; omega)]
              simpa using hcsz
            · rw [List.toList_toArray, take_splice _ _ _ _ (by omega) (by simp; omega), htk]
          · rw [flat_set hes he (by omega), splice_length _ _ _ (by omega), splice_length _ _ _ (by omega), hul]
          · unfold splice at hu
            rcases List.mem_append.1 hu with hu | hu
            · rcases List.mem_append.1 hu with hu | hu
              · exact hu1 u (List.mem_of_mem_take hu)
              · exact hone u hu
            · exact hu1 u (List.mem_of_mem_drop hu)
          · rw [flat_set hes he (by omega)] at hy
            rcases splice_pair hul (by rw [hvl, hxl]) (by omega) hu hy with ⟨n', h3, h4⟩ | ⟨n', h3, h4⟩
            · exact hI _ _ (hur n' u y h3 h4)
            · exact hI _ _ (hfz.2 n' u y h3 h4)
      rw [app_append, app_cons]
      exact hst.put (dst_lt hd) (val_rep _)
    · exact h.elim
  · exact h.elim
end

end Go.Proofs.YthahbiahlpcgeaaGreatDoor.Sym
