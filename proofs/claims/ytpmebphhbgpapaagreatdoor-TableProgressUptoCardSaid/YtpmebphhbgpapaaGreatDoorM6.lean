/-
  The contracts of the functions, read from the code by a program (ext.py): each function has its plain twin as its contract.
-/
import Derived.Test.YtpmebphhbgpapaaGreatDoorM5
namespace Go.Proofs.YtpmebphhbgpapaaGreatDoor.Sym
open Go.RowKit
set_option maxRecDepth 100000
set_option linter.unusedVariables false
set_option maxHeartbeats 4000000
theorem sp_R16_Valid (o_ : T_api_Obs) (r : Int) (h : Ok (.agg (c_api_Obs o_)) → R16_Valid o_ = some r) : Sp Tryz.prog 21 [.im (.agg (c_api_Obs o_))] (.im (nI r)) := by
 refine sp_of rfl [700001] rfl rfl rfl (Nat.le_of_ble_eq_true rfl) rfl fun hk => ?_
 replace h := h hk.1
 have z1 : List.length o_.Traces ≤ 17592186044416 := ok_len (Ok.agg_at hk.1 1 rfl)
 unfold R16_Valid at h
 conv => whnf
 obtain ⟨y54, hc, hk52⟩ := bind_some h
 clear h
 have h := hc
 clear hc
 refine Cut.mk (mkSt [(1, .im (.ref (c_api_Obs o_))), (14, .im (nB y54))] [] []) (True) (Holds.true_ _) ?_ (fun hp => ?_)
 ·conv => whnf
  refine Both.mk (fun b55 => ?_) (fun b55 => ?_)
  ·replace b55 := beq_ff b55
   replace h := cond_f b55 h
   have b55d := of_decide_eq_false b55
   conv => whnf
   iterate 2 (refine Both.yes (ff_beq b55) ?_; (conv => whnf))
   refine Both.no b55 ?_
   conv => whnf
   cases h
   exact Join.mk (Ent.mk [] rfl ⟨eI rfl rfl, eI rfl rfl, trivial⟩ trivial trivial)
  ·replace b55 := beq_ft b55
   replace h := cond_t b55 h
   have b55d := of_decide_eq_true b55
   conv => whnf
   iterate 2 (refine Both.no (tf_beq b55) ?_; (conv => whnf))
   refine Both.yes b55 ?_
   conv => whnf
   cases h
   exact Join.mk (Ent.mk [] rfl ⟨eI rfl rfl, eI rfl rfl, trivial⟩ trivial trivial)
 ·replace h := hk52
  conv => whnf
  refine Both.mk (fun b56 => ?_) (fun b56 => ?_)
  ·replace h := cond_t b56 h
   conv => whnf
   obtain rfl := Option.some.inj h
   conv => whnf
   exact ⟨rfl, rfl⟩
  ·replace h := cond_f b56 h
   conv => whnf
   refine Nf.mk (List.length o_.Traces) len_map ?_
   conv => whnf
   refine Both.mk (fun b57 => ?_) (fun b57 => ?_)
   ·replace h := cond_t b57 h
    have b57d := of_decide_eq_true b57
    conv => whnf
    obtain rfl := Option.some.inj h
    conv => whnf
    exact ⟨rfl, rfl⟩
   ·replace h := cond_f b57 h
    have b57d := of_decide_eq_false b57
    conv => whnf
    obtain ⟨oc, hc, hk58⟩ := bind_some h
    clear h
    have h := hc
    clear hc
    refine Cut.mkS oc (Y := Unit) (fun (_ : Unit) => mkSt [(1, .im (.ref (c_api_Obs o_)))] [] []) (fun (_ : Unit) => True) (by rintro ⟨⟩; exact (Holds.true_ _)) ?_ ?_
    ·conv => whnf
     refine Loops.iter (fun (s : Nat) => R16_Valid.s2 o_ s) (fun i129 => mkSt [(1, .im (.ref (c_api_Obs o_))), (3, .im (nI (↑i129 : Int)))] [] []) (fun i129 => True) h (Ent.mk [] rfl ⟨eI rfl rfl, eI rfl rfl, trivial⟩ trivial trivial) (by rintro i129; exact (Holds.true_ _)) ?_
     clear h
     rintro k i129 o hp h ho147
     replace h : R16_Valid.s2 o_ i129 = some o := h
     unfold R16_Valid.s2 at h
     conv => whnf
     refine Nf.mk (List.length o_.Traces) len_map ?_
     conv => whnf
     refine Both.mk (fun b148 => ?_) (fun b148 => ?_)
     ·replace h := cond_t b148 h
      have b148d := of_decide_eq_true b148
      conv => whnf
      obtain ⟨e149, he149, h⟩ := idxn_some h
      refine ⟨_, ⟨(by omega), map_at he149, rfl⟩, ?_⟩
      conv => whnf
      refine Side.mk rfl ?_
      conv => whnf
      refine Side.mk rfl ?_
      conv => whnf
      refine Side.mk rfl ?_
      conv => whnf
      obtain ⟨c150, hc150, h⟩ := bind_some h
      refine ⟨_, (sp_R01_Check e149.In o_.Inputs c150 (fun _ _ => hc150)), ?_⟩
      conv => whnf
      refine Both.mk (fun b151 => ?_) (fun b151 => ?_)
      ·replace h := cond_t b151 h
       have b151d := of_decide_eq_true b151
       conv => whnf
       obtain rfl := Option.some.inj h
       have ho147 : _ = _ := ho147
       cases ho147
       replace h : some _ = some _ := hk58
       obtain rfl := Option.some.inj h
       conv => whnf
       exact ⟨rfl, rfl⟩
      ·replace h := cond_f b151 h
       have b151d := of_decide_eq_false b151
       conv => whnf
       refine Side.mk rfl ?_
       conv => whnf
       refine Side.mk rfl ?_
       conv => whnf
       refine Nf.mk (List.length e149.In) len_map ?_
       conv => whnf
       refine Both.mk (fun b152 => ?_) (fun b152 => ?_)
       ·replace h := cond_t b152 h
        have b152d := of_decide_eq_true b152
        conv => whnf
        obtain rfl := Option.some.inj h
        have ho147 : _ = _ := ho147
        cases ho147
        replace h : some _ = some _ := hk58
        obtain rfl := Option.some.inj h
        conv => whnf
        exact ⟨rfl, rfl⟩
       ·replace h := cond_f b152 h
        have b152d := of_decide_eq_false b152
        conv => whnf
        refine Side.mk rfl ?_
        conv => whnf
        obtain ⟨c153, hc153, h⟩ := bind_some h
        refine ⟨_, (sp_R16_Proper e149 o_.Inputs c153 (fun _ _ => hc153)), ?_⟩
        conv => whnf
        refine Both.mk (fun b154 => ?_) (fun b154 => ?_)
        ·replace h := cond_t b154 h
         have b154d := of_decide_eq_true b154
         conv => whnf
         obtain rfl := Option.some.inj h
         have ho147 : _ = _ := ho147
         cases ho147
         replace h : some _ = some _ := hk58
         obtain rfl := Option.some.inj h
         conv => whnf
         exact ⟨rfl, rfl⟩
        ·replace h := cond_f b154 h
         have b154d := of_decide_eq_false b154
         conv => whnf
         obtain ⟨y160, hc, hk156⟩ := bind_some h
         clear h
         have h := hc
         clear hc
         refine Cut.mk (mkSt [(1, .im (.ref (c_api_Obs o_))), (3, .im (nI (↑i129 : Int))), (64, .im (nB y160))] [] []) (True) (Holds.true_ _) ?_ (fun hp => ?_)
         ·conv => whnf
          refine Both.mk (fun b161 => ?_) (fun b161 => ?_)
          ·replace b161 := beq_tt b161
           replace h := cond_t b161 h
           have b161d := of_decide_eq_true b161
           conv => whnf
           iterate 3 (refine Both.yes (tt_beq b161) ?_; (conv => whnf))
           refine Side.mk (by show inR _; unfold inR; omega) ?_
           conv => whnf
           refine Both.yes (tt_beq b161) ?_
           conv => whnf
           obtain ⟨e162, he162z, he162, h⟩ := idx_some h
           refine ⟨_, ⟨he162z, map_at he162, rfl⟩, ?_⟩
           conv => whnf
           iterate 3 (refine Both.yes (tt_beq b161) ?_; (conv => whnf))
           refine Side.mk rfl ?_
           conv => whnf
           refine Both.yes (tt_beq b161) ?_
           conv => whnf
           refine Side.mk rfl ?_
           conv => whnf
           refine Both.yes (tt_beq b161) ?_
           conv => whnf
           obtain ⟨c163, hc163, h⟩ := bind_some h
           refine ⟨_, (sp_R01_Compare e162.In e149.In c163 (fun _ _ => hc163)), ?_⟩
           conv => whnf
           refine Both.yes (tt_beq b161) ?_
           conv => whnf
           refine Both.yes b161 ?_
           conv => whnf
           cases h
           exact Join.mk (Ent.mk [] rfl ⟨eI rfl rfl, eI rfl rfl, eI rfl rfl, trivial⟩ trivial trivial)
          ·replace b161 := beq_tf b161
           replace h := cond_f b161 h
           have b161d := of_decide_eq_false b161
           conv => whnf
           iterate 10 (refine Both.no (ft_beq b161) ?_; (conv => whnf))
           refine Both.no b161 ?_
           conv => whnf
           cases h
           exact Join.mk (Ent.mk [] rfl ⟨eI rfl rfl, eI rfl rfl, eI rfl rfl, trivial⟩ trivial trivial)
         ·replace h := hk156
          conv => whnf
          refine Both.mk (fun b164 => ?_) (fun b164 => ?_)
          ·replace h := cond_t b164 h
           conv => whnf
           obtain rfl := Option.some.inj h
           have ho147 : _ = _ := ho147
           cases ho147
           replace h : some _ = some _ := hk58
           obtain rfl := Option.some.inj h
           conv => whnf
           exact ⟨rfl, rfl⟩
          ·replace h := cond_f b164 h
           conv => whnf
           refine Side.mk (by show inR _; unfold inR; omega) ?_
           conv => whnf
           obtain rfl := Option.some.inj h
           exact Nxt.mk _ ho147 (Ent.mk [] rfl ⟨eI rfl rfl, eI rfl rfl, trivial⟩ trivial trivial)
     ·replace h := cond_f b148 h
      have b148d := of_decide_eq_false b148
      conv => whnf
      obtain rfl := Option.some.inj h
      have ho147 : _ = _ := ho147
      cases ho147
      exact JoinS.mk' _ rfl (Ent.mk [] rfl ⟨eI rfl rfl, trivial⟩ trivial trivial)
    ·rintro ⟨⟩ rfl hp
     replace h := sum_inl hk58
     conv => whnf
     obtain ⟨c165, hc165, h⟩ := bind_some h
     refine ⟨_, (sp_R16_apart o_ c165 (fun _ => hc165)), ?_⟩
     conv => whnf
     obtain rfl := Option.some.inj h
     conv => whnf
     exact ⟨rfl, rfl⟩
theorem sp_slices_Equal_Sint_int (s1_ : List Int) (s2_ : List Int) (r : Bool) (h : Ok (nL cI s1_) → Ok (nL cI s2_) → slices_Equal_Sint_int s1_ s2_ = some r) : Sp Tryz.prog 128 [.im (nL cI s1_), .im (nL cI s2_)] (.im (nB r)) := by
 refine sp_of rfl [] rfl rfl rfl (Nat.le_of_ble_eq_true rfl) rfl fun hk => ?_
 replace h := h hk.1 hk.2.1
 have z1 : List.length s1_ ≤ 17592186044416 := ok_len hk.1
 have z2 : List.length s2_ ≤ 17592186044416 := ok_len hk.2.1
 unfold slices_Equal_Sint_int at h
 conv => whnf
 refine Nf.mk (List.length s1_) len_map ?_
 conv => whnf
 refine Nf.mk (List.length s2_) len_map ?_
 conv => whnf
 refine Both.mk (fun b51 => ?_) (fun b51 => ?_)
 ·replace h := cond_t b51 h
  have b51d := of_decide_eq_true b51
  conv => whnf
  obtain rfl := Option.some.inj h
  conv => whnf
  exact ⟨rfl, rfl⟩
 ·replace h := cond_f b51 h
  have b51d := of_decide_eq_false b51
  conv => whnf
  refine Nf.mk (List.length s1_) len_map ?_
  conv => whnf
  obtain ⟨oc, hc, hk52⟩ := bind_some h
  clear h
  have h := hc
  clear hc
  refine Cut.mkS oc (Y := Unit) (fun (_ : Unit) => mkSt [] [] []) (fun (_ : Unit) => True) (by rintro ⟨⟩; exact (Holds.true_ _)) ?_ ?_
  ·conv => whnf
   refine Loops.iter (fun (s : Nat) => slices_Equal_Sint_int.s2 s1_ s2_ s) (fun y73 => mkSt [(0, .im (nL cI s1_)), (1, .im (nL cI s2_)), (12, .im (nI (↑(List.length s1_) : Int))), (13, .im (nI (↑y73 : Int)))] [] []) (fun y73 => List.length s1_ ≤ 17592186044416 ∧ List.length s2_ ≤ 17592186044416 ∧ True) h (Ent.mk [] rfl ⟨eI rfl rfl, eI rfl rfl, eI rfl rfl, eI rfl rfl, trivial⟩ trivial trivial) (by rintro y73; exact ((Holds.avl 0 rfl).and ((Holds.avl 1 rfl).and (Holds.true_ _)))) ?_
   clear h
   rintro k y73 o hp h ho78
   replace h : slices_Equal_Sint_int.s2 s1_ s2_ y73 = some o := h
   unfold slices_Equal_Sint_int.s2 at h
   obtain ⟨z83, z84, _⟩ := hp
   conv => whnf
   refine Both.mk (fun b79 => ?_) (fun b79 => ?_)
   ·replace h := cond_t b79 h
    have b79d := of_decide_eq_true b79
    conv => whnf
    obtain ⟨e80, he80, h⟩ := idxn_some h
    refine ⟨_, ⟨(by omega), map_at he80, rfl⟩, ?_⟩
    conv => whnf
    obtain ⟨e81, he81, h⟩ := idxn_some h
    refine ⟨_, ⟨(by omega), map_at he81, rfl⟩, ?_⟩
    conv => whnf
    refine Both.mk (fun b82 => ?_) (fun b82 => ?_)
    ·replace h := cond_t b82 h
     have b82d := of_decide_eq_true b82
     conv => whnf
     obtain rfl := Option.some.inj h
     have ho78 : _ = _ := ho78
     cases ho78
     replace h : some _ = some _ := hk52
     obtain rfl := Option.some.inj h
     conv => whnf
     exact ⟨rfl, rfl⟩
    ·replace h := cond_f b82 h
     have b82d := of_decide_eq_false b82
     conv => whnf
     refine Side.mk (by show inR _; unfold inR; omega) ?_
     conv => whnf
     obtain rfl := Option.some.inj h
     exact Nxt.mk _ ho78 (Ent.mk [] rfl ⟨eI rfl rfl, eI rfl rfl, eI rfl rfl, eI rfl rfl, trivial⟩ trivial trivial)
   ·replace h := cond_f b79 h
    have b79d := of_decide_eq_false b79
    conv => whnf
    obtain rfl := Option.some.inj h
    have ho78 : _ = _ := ho78
    cases ho78
    exact JoinS.mk' _ rfl (Ent.mk [] rfl trivial trivial trivial)
  ·rintro ⟨⟩ rfl hp
   replace h := sum_inl hk52
   conv => whnf
   obtain rfl := Option.some.inj h
   conv => whnf
   exact ⟨rfl, rfl⟩
theorem sp_table_view_inconsistent (v_ : T_table_view) (r : Int × Int × Bool) (h : Ok (.agg (c_table_view v_)) → table_view_inconsistent v_ = some r) : Sp Tryz.prog 87 [.im (.agg (c_table_view v_))] (.tup [nI r.1, nI r.2.1, nB r.2.2]) := by
 refine sp_of rfl [700001] rfl rfl rfl (Nat.le_of_ble_eq_true rfl) rfl fun hk => ?_
 replace h := h hk.1
 have z1 : List.length v_.rows ≤ 17592186044416 := ok_len (Ok.agg_at hk.1 0 rfl)
 have z2 : List.length v_.prefixes ≤ 17592186044416 := ok_len (Ok.agg_at hk.1 1 rfl)
 have z3 : List.length v_.next ≤ 17592186044416 := ok_len (Ok.agg_at hk.1 2 rfl)
 unfold table_view_inconsistent at h
 conv => whnf
 refine Nf.mk (List.length v_.prefixes) len_map ?_
 conv => whnf
 obtain ⟨oc, hc, hk51⟩ := bind_some h
 clear h
 have h := hc
 clear hc
 refine Cut.mkS oc (Y := Unit) (fun (_ : Unit) => mkSt [] [] []) (fun (_ : Unit) => True) (by rintro ⟨⟩; exact (Holds.true_ _)) ?_ ?_
 ·conv => whnf
  refine Loops.iter (fun (s : Nat) => table_view_inconsistent.s1022 v_ s) (fun y14999 => mkSt [(1, .im (.ref (c_table_view v_))), (13, .im (nL cI v_.prefixes)), (14, .im (nI (↑(List.length v_.prefixes) : Int))), (15, .im (nI (↑y14999 : Int)))] [] []) (fun y14999 => List.length v_.prefixes ≤ 17592186044416 ∧ True) h (Ent.mk [] rfl ⟨eI rfl rfl, eI rfl rfl, eI rfl rfl, eI rfl rfl, trivial⟩ trivial trivial) (by rintro y14999; exact ((Holds.avl 13 rfl).and (Holds.true_ _))) ?_
  clear h
  rintro k y14999 o hp h ho18736
  replace h : table_view_inconsistent.s1022 v_ y14999 = some o := h
  unfold table_view_inconsistent.s1022 at h
  obtain ⟨z22473, _⟩ := hp
  conv => whnf
  refine Both.mk (fun b18737 => ?_) (fun b18737 => ?_)
  ·replace h := cond_t b18737 h
   have b18737d := of_decide_eq_true b18737
   conv => whnf
   obtain ⟨e18738, he18738, h⟩ := idxn_some h
   refine ⟨_, ⟨(by omega), map_at he18738, rfl⟩, ?_⟩
   conv => whnf
   refine Side.mk (by show inR _; unfold inR; omega) ?_
   conv => whnf
   obtain ⟨oc, hc, hk18739⟩ := bind_some h
   clear h
   have h := hc
   clear hc
   refine Cut.mkS oc (Y := Unit) (fun (_ : Unit) => mkSt [(1, .im (.ref (c_table_view v_))), (13, .im (nL cI v_.prefixes)), (14, .im (nI (↑(List.length v_.prefixes) : Int))), (15, .im (nI (↑y14999 : Int)))] [] []) (fun (_ : Unit) => List.length v_.prefixes ≤ 17592186044416 ∧ True) (by rintro ⟨⟩; exact ((Holds.avl 13 rfl).and (Holds.true_ _))) ?_ ?_
   ·conv => whnf
    refine Loops.iter (fun (s : Nat) => table_view_inconsistent.s1021 v_ y14999 e18738 s) (fun k21227 => mkSt [(1, .im (.ref (c_table_view v_))), (5, .im (nI (↑y14999 : Int))), (6, .im (nI e18738)), (7, .im (nI (↑k21227 : Int))), (13, .im (nL cI v_.prefixes)), (14, .im (nI (↑(List.length v_.prefixes) : Int))), (15, .im (nI (↑y14999 : Int)))] [] []) (fun k21227 => List.length v_.prefixes ≤ 17592186044416 ∧ True) h (Ent.mk [] rfl ⟨eI rfl rfl, eI rfl rfl, eI rfl rfl, eI rfl rfl, eI rfl rfl, eI rfl rfl, eI rfl rfl, trivial⟩ trivial trivial) (by rintro k21227; exact ((Holds.avl 13 rfl).and (Holds.true_ _))) ?_
    clear h
    rintro k k21227 o hp h ho21849
    replace h : table_view_inconsistent.s1021 v_ y14999 e18738 k21227 = some o := h
    unfold table_view_inconsistent.s1021 at h
    obtain ⟨z22471, _⟩ := hp
    conv => whnf
    refine Nf.mk (List.length v_.prefixes) len_map ?_
    conv => whnf
    refine Both.mk (fun b21850 => ?_) (fun b21850 => ?_)
    ·replace h := cond_t b21850 h
     have b21850d := of_decide_eq_true b21850
     conv => whnf
     obtain ⟨oc, hc, hk21851⟩ := bind_some h
     clear h
     have h := hc
     clear hc
     refine Cut.mkS oc (Y := Unit) (fun (_ : Unit) => mkSt [(1, .im (.ref (c_table_view v_))), (5, .im (nI (↑y14999 : Int))), (6, .im (nI e18738)), (7, .im (nI (↑k21227 : Int))), (13, .im (nL cI v_.prefixes)), (14, .im (nI (↑(List.length v_.prefixes) : Int))), (15, .im (nI (↑y14999 : Int)))] [] []) (fun (_ : Unit) => List.length v_.prefixes ≤ 17592186044416 ∧ True) (by rintro ⟨⟩; exact ((Holds.avl 13 rfl).and (Holds.true_ _))) ?_ ?_
     ·conv => whnf
      obtain ⟨e22161, he22161, h⟩ := idxn_some h
      refine ⟨_, ⟨(by omega), map_at he22161, rfl⟩, ?_⟩
      conv => whnf
      refine Both.mk (fun b22162 => ?_) (fun b22162 => ?_)
      ·replace h := cond_t b22162 h
       have b22162d := of_decide_eq_true b22162
       conv => whnf
       obtain rfl := Option.some.inj h
       exact JoinS.mk' _ rfl (Ent.mk [] rfl ⟨eI rfl rfl, eI rfl rfl, eI rfl rfl, eI rfl rfl, eI rfl rfl, eI rfl rfl, eI rfl rfl, trivial⟩ trivial trivial)
      ·replace h := cond_f b22162 h
       have b22162d := of_decide_eq_false b22162
       conv => whnf
       obtain ⟨e22163, he22163, h⟩ := idxn_some h
       refine ⟨_, ⟨(by omega), map_at he22163, rfl⟩, ?_⟩
       conv => whnf
       refine Nf.mk (List.length e22163) len_map ?_
       conv => whnf
       obtain ⟨oc, hc, hk22164⟩ := bind_some h
       clear h
       have h := hc
       clear hc
       refine Cut.mkS oc (Y := Unit) (fun (_ : Unit) => mkSt [(1, .im (.ref (c_table_view v_))), (5, .im (nI (↑y14999 : Int))), (6, .im (nI e18738)), (7, .im (nI (↑k21227 : Int))), (13, .im (nL cI v_.prefixes)), (14, .im (nI (↑(List.length v_.prefixes) : Int))), (15, .im (nI (↑y14999 : Int)))] [] []) (fun (_ : Unit) => List.length v_.prefixes ≤ 17592186044416 ∧ True) (by rintro ⟨⟩; exact ((Holds.avl 13 rfl).and (Holds.true_ _))) ?_ ?_
       ·conv => whnf
        refine Loops.iter (fun (s : Nat) => table_view_inconsistent.s1020 v_ y14999 k21227 e22163 s) (fun y22366 => mkSt [(1, .im (.ref (c_table_view v_))), (5, .im (nI (↑y14999 : Int))), (6, .im (nI e18738)), (7, .im (nI (↑k21227 : Int))), (13, .im (nL cI v_.prefixes)), (14, .im (nI (↑(List.length v_.prefixes) : Int))), (15, .im (nI (↑y14999 : Int))), (41, .im (nI (↑(List.length e22163) : Int))), (42, .im (nI (↑y22366 : Int)))] [] []) (fun y22366 => List.length v_.prefixes ≤ 17592186044416 ∧ True) h (Ent.mk [] rfl ⟨eI rfl rfl, eI rfl rfl, eI rfl rfl, eI rfl rfl, eI rfl rfl, eI rfl rfl, eI rfl rfl, eI rfl rfl, eI rfl rfl, trivial⟩ trivial trivial) (by rintro y22366; exact ((Holds.avl 13 rfl).and (Holds.true_ _))) ?_
        clear h
        rintro k y22366 o hp h ho22417
        replace h : table_view_inconsistent.s1020 v_ y14999 k21227 e22163 y22366 = some o := h
        unfold table_view_inconsistent.s1020 at h
        obtain ⟨z22468, _⟩ := hp
        conv => whnf
        refine Both.mk (fun b22418 => ?_) (fun b22418 => ?_)
        ·replace h := cond_t b22418 h
         have b22418d := of_decide_eq_true b22418
         conv => whnf
         obtain ⟨e22419, he22419, h⟩ := idxn_some h
         refine ⟨_, ⟨(by omega), map_at he22419, rfl⟩, ?_⟩
         conv => whnf
         obtain ⟨e22420, he22420, h⟩ := idxn_some h
         refine ⟨_, ⟨(by omega), map_at he22420, rfl⟩, ?_⟩
         conv => whnf
         obtain ⟨e22421, he22421z, he22421, h⟩ := idx_some h
         refine ⟨_, ⟨he22421z, map_at he22421, rfl⟩, ?_⟩
         conv => whnf
         obtain ⟨e22422, he22422, h⟩ := idxn_some h
         refine ⟨_, ⟨(by omega), map_at he22422, rfl⟩, ?_⟩
         conv => whnf
         obtain ⟨e22423, he22423, h⟩ := idxn_some h
         refine ⟨_, ⟨(by omega), map_at he22423, rfl⟩, ?_⟩
         conv => whnf
         obtain ⟨e22424, he22424z, he22424, h⟩ := idx_some h
         refine ⟨_, ⟨he22424z, map_at he22424, rfl⟩, ?_⟩
         conv => whnf
         refine Nf.mk (List.length e22421) len_map ?_
         conv => whnf
         obtain ⟨oc, hc, hk22425⟩ := bind_some h
         clear h
         have h := hc
         clear hc
         refine Cut.mkS oc (Y := Unit) (fun (_ : Unit) => mkSt [(1, .im (.ref (c_table_view v_))), (5, .im (nI (↑y14999 : Int))), (6, .im (nI e18738)), (7, .im (nI (↑k21227 : Int))), (13, .im (nL cI v_.prefixes)), (14, .im (nI (↑(List.length v_.prefixes) : Int))), (15, .im (nI (↑y14999 : Int))), (41, .im (nI (↑(List.length e22163) : Int))), (42, .im (nI (↑y22366 : Int)))] [] []) (fun (_ : Unit) => List.length v_.prefixes ≤ 17592186044416 ∧ True) (by rintro ⟨⟩; exact ((Holds.avl 13 rfl).and (Holds.true_ _))) ?_ ?_
         ·conv => whnf
          refine Loops.iter (fun (s : Nat) => table_view_inconsistent.s1019 y22366 e22421 e22424 s) (fun y22451 => mkSt [(1, .im (.ref (c_table_view v_))), (5, .im (nI (↑y14999 : Int))), (6, .im (nI e18738)), (7, .im (nI (↑k21227 : Int))), (8, .im (nI (↑y22366 : Int))), (9, .im (nL (cL cI) e22421)), (10, .im (nL (cL cI) e22424)), (13, .im (nL cI v_.prefixes)), (14, .im (nI (↑(List.length v_.prefixes) : Int))), (15, .im (nI (↑y14999 : Int))), (41, .im (nI (↑(List.length e22163) : Int))), (42, .im (nI (↑y22366 : Int))), (70, .im (nI (↑(List.length e22421) : Int))), (71, .im (nI (↑y22451 : Int)))] [] []) (fun y22451 => List.length e22421 ≤ 17592186044416 ∧ List.length e22424 ≤ 17592186044416 ∧ List.length v_.prefixes ≤ 17592186044416 ∧ True) h (Ent.mk [] rfl ⟨eI rfl rfl, eI rfl rfl, eI rfl rfl, eI rfl rfl, eI rfl rfl, eI rfl rfl, eI rfl rfl, eI rfl rfl, eI rfl rfl, eI rfl rfl, eI rfl rfl, eI rfl rfl, eI rfl rfl, eI rfl rfl, trivial⟩ trivial trivial) (by rintro y22451; exact ((Holds.avl 9 rfl).and ((Holds.avl 10 rfl).and ((Holds.avl 13 rfl).and (Holds.true_ _))))) ?_
          clear h
          rintro k y22451 o hp h ho22457
          replace h : table_view_inconsistent.s1019 y22366 e22421 e22424 y22451 = some o := h
          unfold table_view_inconsistent.s1019 at h
          obtain ⟨z22463, z22464, z22465, _⟩ := hp
          conv => whnf
          refine Both.mk (fun b22458 => ?_) (fun b22458 => ?_)
          ·replace h := cond_t b22458 h
           have b22458d := of_decide_eq_true b22458
           conv => whnf
           obtain ⟨e22459, he22459, h⟩ := idxn_some h
           refine ⟨_, ⟨(by omega), map_at he22459, rfl⟩, ?_⟩
           conv => whnf
           obtain ⟨e22460, he22460, h⟩ := idxn_some h
           refine ⟨_, ⟨(by omega), map_at he22460, rfl⟩, ?_⟩
           conv => whnf
           obtain ⟨c22461, hc22461, h⟩ := bind_some h
           refine ⟨_, (sp_slices_Equal_Sint_int e22459 e22460 c22461 (fun _ _ => hc22461)), ?_⟩
           conv => whnf
           refine Both.mk (fun b22462 => ?_) (fun b22462 => ?_)
           ·replace h := cond_t b22462 h
            conv => whnf
            obtain rfl := Option.some.inj h
            have ho22457 : _ = _ := ho22457
            cases ho22457
            replace h : some _ = some _ := hk22425
            obtain rfl := Option.some.inj h
            have ho22417 : _ = _ := ho22417
            cases ho22417
            replace h : some _ = some _ := hk22164
            obtain rfl := Option.some.inj h
            replace h : some _ = some _ := hk21851
            obtain rfl := Option.some.inj h
            have ho21849 : _ = _ := ho21849
            cases ho21849
            replace h : some _ = some _ := hk18739
            obtain rfl := Option.some.inj h
            have ho18736 : _ = _ := ho18736
            cases ho18736
            replace h : some _ = some _ := hk51
            obtain rfl := Option.some.inj h
            conv => whnf
            exact ⟨rfl, rfl⟩
           ·replace h := cond_f b22462 h
            conv => whnf
            refine Side.mk (by show inR _; unfold inR; omega) ?_
            conv => whnf
            obtain rfl := Option.some.inj h
            exact Nxt.mk _ ho22457 (Ent.mk [] rfl ⟨eI rfl rfl, eI rfl rfl, eI rfl rfl, eI rfl rfl, eI rfl rfl, eI rfl rfl, eI rfl rfl, eI rfl rfl, eI rfl rfl, eI rfl rfl, eI rfl rfl, eI rfl rfl, eI rfl rfl, eI rfl rfl, trivial⟩ trivial trivial)
          ·replace h := cond_f b22458 h
           have b22458d := of_decide_eq_false b22458
           conv => whnf
           obtain rfl := Option.some.inj h
           have ho22457 : _ = _ := ho22457
           cases ho22457
           exact JoinS.mk' _ rfl (Ent.mk [] rfl ⟨eI rfl rfl, eI rfl rfl, eI rfl rfl, eI rfl rfl, eI rfl rfl, eI rfl rfl, eI rfl rfl, eI rfl rfl, eI rfl rfl, trivial⟩ trivial trivial)
         ·rintro ⟨⟩ rfl hp
          replace h := sum_inl hk22425
          obtain ⟨z22466, _⟩ := hp
          conv => whnf
          obtain ⟨c22467, h⟩ := chk_some h
          refine Side.mk c22467 ?_
          conv => whnf
          obtain rfl := Option.some.inj h
          exact Nxt.mk _ ho22417 (Ent.mk [] rfl ⟨eI rfl rfl, eI rfl rfl, eI rfl rfl, eI rfl rfl, eI rfl rfl, eI rfl rfl, eI rfl rfl, eI rfl rfl, eI rfl rfl, trivial⟩ trivial trivial)
        ·replace h := cond_f b22418 h
         have b22418d := of_decide_eq_false b22418
         conv => whnf
         obtain rfl := Option.some.inj h
         have ho22417 : _ = _ := ho22417
         cases ho22417
         exact JoinS.mk' _ rfl (Ent.mk [] rfl ⟨eI rfl rfl, eI rfl rfl, eI rfl rfl, eI rfl rfl, eI rfl rfl, eI rfl rfl, eI rfl rfl, trivial⟩ trivial trivial)
       ·rintro ⟨⟩ rfl hp
        replace h := sum_inl hk22164
        obtain ⟨z22469, _⟩ := hp
        conv => whnf
        obtain rfl := Option.some.inj h
        exact JoinS.mk' _ rfl (Ent.mk [] rfl ⟨eI rfl rfl, eI rfl rfl, eI rfl rfl, eI rfl rfl, eI rfl rfl, eI rfl rfl, eI rfl rfl, trivial⟩ trivial trivial)
     ·rintro ⟨⟩ rfl hp
      replace h := sum_inl hk21851
      obtain ⟨z22470, _⟩ := hp
      conv => whnf
      refine Side.mk (by show inR _; unfold inR; omega) ?_
      conv => whnf
      obtain rfl := Option.some.inj h
      exact Nxt.mk _ ho21849 (Ent.mk [] rfl ⟨eI rfl rfl, eI rfl rfl, eI rfl rfl, eI rfl rfl, eI rfl rfl, eI rfl rfl, eI rfl rfl, trivial⟩ trivial trivial)
    ·replace h := cond_f b21850 h
     have b21850d := of_decide_eq_false b21850
     conv => whnf
     obtain rfl := Option.some.inj h
     have ho21849 : _ = _ := ho21849
     cases ho21849
     exact JoinS.mk' _ rfl (Ent.mk [] rfl ⟨eI rfl rfl, eI rfl rfl, eI rfl rfl, eI rfl rfl, trivial⟩ trivial trivial)
   ·rintro ⟨⟩ rfl hp
    replace h := sum_inl hk18739
    obtain ⟨z22472, _⟩ := hp
    conv => whnf
    refine Side.mk (by show inR _; unfold inR; omega) ?_
    conv => whnf
    obtain rfl := Option.some.inj h
    exact Nxt.mk _ ho18736 (Ent.mk [] rfl ⟨eI rfl rfl, eI rfl rfl, eI rfl rfl, eI rfl rfl, trivial⟩ trivial trivial)
  ·replace h := cond_f b18737 h
   have b18737d := of_decide_eq_false b18737
   conv => whnf
   obtain rfl := Option.some.inj h
   have ho18736 : _ = _ := ho18736
   cases ho18736
   exact JoinS.mk' _ rfl (Ent.mk [] rfl trivial trivial trivial)
 ·rintro ⟨⟩ rfl hp
  replace h := sum_inl hk51
  conv => whnf
  obtain rfl := Option.some.inj h
  conv => whnf
  exact ⟨rfl, rfl⟩
theorem sp_table_Inconsistent (t_ : T_api_Table) (o_ : T_api_Obs) (r : List Int × Bool × Int) (h : Ok (.agg (c_api_Table t_)) → Ok (.agg (c_api_Obs o_)) → table_Inconsistent t_ o_ = some r) : Sp Tryz.prog 31 [.im (.agg (c_api_Table t_)), .im (.agg (c_api_Obs o_))] (.tup [nL cI r.1, nB r.2.1, nI r.2.2]) := by
 refine sp_of rfl [700002, 700003] rfl rfl rfl (Nat.le_of_ble_eq_true rfl) rfl fun hk => ?_
 replace h := h hk.1 hk.2.1
 have z1 : List.length t_.Prefixes ≤ 17592186044416 := ok_len (Ok.agg_at hk.1 1 rfl)
 have z2 : List.length t_.Suffixes ≤ 17592186044416 := ok_len (Ok.agg_at hk.1 2 rfl)
 have z3 : List.length o_.Traces ≤ 17592186044416 := ok_len (Ok.agg_at hk.2.1 1 rfl)
 unfold table_Inconsistent at h
 conv => whnf
 obtain ⟨c51, hc51, h⟩ := bind_some h
 refine ⟨_, (sp_table_look t_ o_ c51 (fun _ _ => hc51)), ?_⟩
 conv => whnf
 refine Side.mk rfl ?_
 conv => whnf
 refine Both.mk (fun b52 => ?_) (fun b52 => ?_)
 ·replace h := cond_t b52 h
  have b52d := of_decide_eq_true b52
  conv => whnf
  obtain rfl := Option.some.inj h
  conv => whnf
  exact ⟨rfl, rfl⟩
 ·replace h := cond_f b52 h
  have b52d := of_decide_eq_false b52
  conv => whnf
  refine Side.mk rfl ?_
  conv => whnf
  obtain ⟨c53, hc53, h⟩ := bind_some h
  refine ⟨_, (sp_table_view_inconsistent c51.1 c53 (fun _ => hc53)), ?_⟩
  conv => whnf
  refine Both.mk (fun b54 => ?_) (fun b54 => ?_)
  ·replace h := cond_t b54 h
   conv => whnf
   obtain rfl := Option.some.inj h
   conv => whnf
   exact ⟨rfl, rfl⟩
  ·replace h := cond_f b54 h
   conv => whnf
   obtain ⟨e55, he55z, he55, h⟩ := idx_some h
   refine ⟨_, ⟨he55z, map_at he55, rfl⟩, ?_⟩
   conv => whnf
   obtain ⟨c56, hc56, h⟩ := bind_some h
   refine ⟨_, (sp_word_Join [[c53.1], e55] c56 (fun _ => hc56)), ?_⟩
   conv => whnf
   obtain rfl := Option.some.inj h
   conv => whnf
   exact ⟨rfl, rfl⟩
theorem sp_wordset_parts (l_ : List (List Int)) (part_ : (List Int) → Int → Option (List Int)) (f1_ : FuncId) (hf1 : ∀ x0 x1 r, part_ x0 x1 = some r → Sp Tryz.prog f1_ [.im (nL cI x0), .im (nI x1)] (.im (nL cI r))) (r : List (List Int)) (h : Ok (nL (cL cI) l_) → Ok (.fn f1_ []) → wordset_parts l_ part_ = some r) : Sp Tryz.prog 130 [.im (nL (cL cI) l_), .im (.fn f1_ [])] (.im (nL (cL cI) r)) := by
 refine sp_of rfl [] rfl rfl rfl (Nat.le_of_ble_eq_true rfl) rfl fun hk => ?_
 replace h := h hk.1 hk.2.1
 have z1 : List.length l_ ≤ 17592186044416 := ok_len hk.1
 unfold wordset_parts at h
 conv => whnf
 refine Nf.mk (List.length l_) len_map ?_
 conv => whnf
 obtain ⟨y178, hc, hk51⟩ := bind_some h
 clear h
 have h := hc
 clear hc
 refine Cut.mk (mkSt [(5, .osl 64 1)] [(64, .row 38 1 (List.map (cL cI) y178))] []) (List.length y178 ≤ 17592186044416 ∧ True) ((Holds.kdl 64 rfl).and (Holds.true_ _)) ?_ (fun hp => ?_)
 ·conv => whnf
  refine Loops.iter (fun (s : List (List Int) × Nat) => wordset_parts.s14 l_ part_ s.1 s.2) (fun (y218, y219) => mkSt [(1, .im (.fn f1_ [])), (5, .osl 64 1), (9, .im (nL (cL cI) l_)), (10, .im (nI (↑(List.length l_) : Int))), (11, .im (nI (↑y219 : Int)))] [(64, .row 38 1 (List.map (cL cI) y218))] []) (fun (y218, y219) => List.length l_ ≤ 17592186044416 ∧ List.length y218 ≤ 17592186044416 ∧ True) h (Ent.mk [(64, none)] rfl ⟨eI rfl rfl, ⟨.im (.val (.slice none 0 0)), rfl, .made rfl rfl⟩, eI rfl rfl, eI rfl rfl, eI rfl rfl, trivial⟩ ⟨.inr ⟨rfl, rfl, .inl ⟨_, _, rfl, by decide⟩⟩, trivial⟩ trivial) (by rintro ⟨y218, y219⟩; exact ((Holds.avl 9 rfl).and ((Holds.kdl 64 rfl).and (Holds.true_ _)))) ?_
  clear h
  rintro k ⟨y218, y219⟩ o hp h ho261
  replace h : wordset_parts.s14 l_ part_ y218 y219 = some o := h
  unfold wordset_parts.s14 at h
  obtain ⟨z303, z304, _⟩ := hp
  conv => whnf
  refine Both.mk (fun b262 => ?_) (fun b262 => ?_)
  ·replace h := cond_t b262 h
   have b262d := of_decide_eq_true b262
   conv => whnf
   obtain ⟨e263, he263, h⟩ := idxn_some h
   refine ⟨_, ⟨(by omega), map_at he263, rfl⟩, ?_⟩
   conv => whnf
   refine Nf.mk (List.length e263) len_map ?_
   conv => whnf
   obtain ⟨c264, h⟩ := chk_some h
   refine Side.mk c264 ?_
   conv => whnf
   obtain ⟨y283, hc, hk265⟩ := bind_some h
   clear h
   have h := hc
   clear hc
   refine Cut.mk (mkSt [(1, .im (.fn f1_ [])), (5, .osl 64 1), (9, .im (nL (cL cI) l_)), (10, .im (nI (↑(List.length l_) : Int))), (11, .im (nI (↑y219 : Int)))] [(64, .row 38 1 (List.map (cL cI) y283))] []) (List.length l_ ≤ 17592186044416 ∧ List.length y283 ≤ 17592186044416 ∧ True) ((Holds.avl 9 rfl).and ((Holds.kdl 64 rfl).and (Holds.true_ _))) ?_ (fun hp => ?_)
   ·conv => whnf
    refine Loops.iter (fun (s : List (List Int) × Nat) => wordset_parts.s13 part_ e263 s.1 s.2) (fun (y287, y288) => mkSt [(1, .im (.fn f1_ [])), (5, .osl 64 1), (7, .im (nL cI e263)), (9, .im (nL (cL cI) l_)), (10, .im (nI (↑(List.length l_) : Int))), (11, .im (nI (↑y219 : Int))), (17, .im (nI ((↑(List.length e263) : Int) + 1))), (18, .im (nI (↑y288 : Int)))] [(64, .row 38 1 (List.map (cL cI) y287))] []) (fun (y287, y288) => List.length e263 ≤ 17592186044416 ∧ List.length l_ ≤ 17592186044416 ∧ List.length y287 ≤ 17592186044416 ∧ True) h (Ent.mk [(64, some 64)] rfl ⟨eI rfl rfl, ⟨.osl 64 _, rfl, .osl rfl rfl rfl⟩, eI rfl rfl, eI rfl rfl, eI rfl rfl, eI rfl rfl, eI rfl rfl, eI rfl rfl, trivial⟩ ⟨.inl ⟨64, rfl, rfl, trivial⟩, trivial⟩ trivial) (by rintro ⟨y287, y288⟩; exact ((Holds.avl 7 rfl).and ((Holds.avl 9 rfl).and ((Holds.kdl 64 rfl).and (Holds.true_ _))))) ?_
    clear h
    rintro k ⟨y287, y288⟩ o hp h ho293
    replace h : wordset_parts.s13 part_ e263 y287 y288 = some o := h
    unfold wordset_parts.s13 at h
    obtain ⟨z298, z299, z300, _⟩ := hp
    conv => whnf
    refine Both.mk (fun b294 => ?_) (fun b294 => ?_)
    ·replace h := cond_t b294 h
     have b294d := of_decide_eq_true b294
     conv => whnf
     obtain ⟨c295, hc295, h⟩ := bind_some h
     refine ⟨_, hf1 e263 (↑y288 : Int) c295 hc295, ?_⟩
     conv => whnf
     obtain ⟨c296, h⟩ := chk_some h
     refine Side.mk ⟨rfl, map_len (l := [c295]) (c := cL cI) fun _ => rfl, show capOk _ 24 by simpa only [List.length_map, List.length_cons, List.length_nil, Nat.zero_add] using c296⟩ ?_
     conv => whnf
     refine Nf.mk (List.map (cL cI) (y287 ++ [c295])) (app_map (l := y287) (m := [c295]) (c := cL cI)) ?_
     conv => whnf
     obtain ⟨c297, h⟩ := chk_some h
     refine Side.mk c297 ?_
     conv => whnf
     obtain rfl := Option.some.inj h
     exact Nxt.mk _ ho293 (Ent.mk [(64, some 64)] rfl ⟨eI rfl rfl, ⟨.osl 64 _, rfl, .osl rfl rfl rfl⟩, eI rfl rfl, eI rfl rfl, eI rfl rfl, eI rfl rfl, eI rfl rfl, eI rfl rfl, trivial⟩ ⟨.inl ⟨64, rfl, rfl, trivial⟩, trivial⟩ trivial)
    ·replace h := cond_f b294 h
     have b294d := of_decide_eq_false b294
     conv => whnf
     obtain rfl := Option.some.inj h
     have ho293 : _ = _ := ho293
     cases ho293
     exact Join.mk (Ent.mk [(64, some 64)] rfl ⟨eI rfl rfl, ⟨.osl 64 _, rfl, .osl rfl rfl rfl⟩, eI rfl rfl, eI rfl rfl, eI rfl rfl, trivial⟩ ⟨.inl ⟨64, rfl, rfl, trivial⟩, trivial⟩ trivial)
   ·replace h := hk265
    obtain ⟨z301, z302, _⟩ := hp
    conv => whnf
    refine Side.mk (by show inR _; unfold inR; omega) ?_
    conv => whnf
    obtain rfl := Option.some.inj h
    exact Nxt.mk _ ho261 (Ent.mk [(64, some 64)] rfl ⟨eI rfl rfl, ⟨.osl 64 _, rfl, .osl rfl rfl rfl⟩, eI rfl rfl, eI rfl rfl, eI rfl rfl, trivial⟩ ⟨.inl ⟨64, rfl, rfl, trivial⟩, trivial⟩ trivial)
  ·replace h := cond_f b262 h
   have b262d := of_decide_eq_false b262
   conv => whnf
   obtain rfl := Option.some.inj h
   have ho261 : _ = _ := ho261
   cases ho261
   exact Join.mk (Ent.mk [(64, some 64)] rfl ⟨⟨.osl 64 _, rfl, .osl rfl rfl rfl⟩, trivial⟩ ⟨.inl ⟨64, rfl, rfl, trivial⟩, trivial⟩ trivial)
 ·replace h := hk51
  obtain ⟨z305, _⟩ := hp
  conv => whnf
  refine Side.mk ⟨rfl, trivial⟩ ?_
  conv => whnf
  obtain ⟨c306, hc306, h⟩ := bind_some h
  refine ⟨_, (sp_wordset_Sorted y178 c306 (fun _ => hc306)).im, ?_⟩
  conv => whnf
  obtain rfl := Option.some.inj h
  conv => whnf
  exact ⟨rfl, rfl⟩
theorem sp_wordset_Prefixes_1 (w_ : List Int) (i_ : Int) (r : List Int) (h : Ok (nL cI w_) → Ok (nI i_) → wordset_Prefixes_1 w_ i_ = some r) : Sp Tryz.prog 131 [.im (nL cI w_), .im (nI i_)] (.im (nL cI r)) := by
 refine sp_of rfl [] rfl rfl rfl (Nat.le_of_ble_eq_true rfl) rfl fun hk => ?_
 replace h := h hk.1 hk.2.1
 have z1 : List.length w_ ≤ 17592186044416 := ok_len hk.1
 unfold wordset_Prefixes_1 at h
 conv => whnf
 obtain ⟨c51, h⟩ := chk_some h
 refine Side.mk (show (0 : Int) ≤ (0 : Int) ∧ (0 : Int) ≤ i_ ∧ i_ ≤ (↑(List.length (List.map cI w_)) : Int) ∧ (∀ e ∈ List.map cI w_, List.length e = 1) from ⟨by omega, by first | omega | (simp only [List.length_map]; omega), by first | omega | (simp only [List.length_map]; omega), map_len fun _ => rfl⟩) ?_
 conv => whnf
 refine Nf.mk (List.map cI (List.take (Int.toNat i_) w_)) take_map ?_
 conv => whnf
 obtain rfl := Option.some.inj h
 conv => whnf
 exact ⟨rfl, rfl⟩
theorem sp_wordset_Prefixes (l_ : List (List Int)) (r : List (List Int)) (h : Ok (nL (cL cI) l_) → wordset_Prefixes l_ = some r) : Sp Tryz.prog 91 [.im (nL (cL cI) l_)] (.im (nL (cL cI) r)) := by
 refine sp_of rfl [] rfl rfl rfl (Nat.le_of_ble_eq_true rfl) rfl fun hk => ?_
 replace h := h hk.1
 have z1 : List.length l_ ≤ 17592186044416 := ok_len hk.1
 unfold wordset_Prefixes at h
 conv => whnf
 obtain ⟨c51, hc51, h⟩ := bind_some h
 refine ⟨_, (sp_wordset_parts l_ (fun u0 u1 => wordset_Prefixes_1 u0 u1) 131 (fun u0 u1 r h => (sp_wordset_Prefixes_1 u0 u1 r (fun _ _ => h))) c51 (fun _ _ => hc51)), ?_⟩
 conv => whnf
 obtain rfl := Option.some.inj h
 conv => whnf
 exact ⟨rfl, rfl⟩
theorem sp_slices_Concat_SSint_Sint (slices_ : List (List (List Int))) (r : List (List Int)) (h : Ok (nL (cL (cL cI)) slices_) → slices_Concat_SSint_Sint slices_ = some r) : Sp Tryz.prog 129 [.im (nL (cL (cL cI)) slices_)] (.row 38 1 (List.map (cL cI) r)) := by
 refine sp_of rfl [4025000] rfl rfl rfl (Nat.le_of_ble_eq_true rfl) rfl fun hk => ?_
 replace h := h hk.1
 have z1 : List.length slices_ ≤ 17592186044416 := ok_len hk.1
 unfold slices_Concat_SSint_Sint at h
 conv => whnf
 refine Nf.mk (List.length slices_) len_map ?_
 conv => whnf
 obtain ⟨size68, hc, hk51⟩ := bind_some h
 clear h
 have h := hc
 clear hc
 refine Cut.mk (mkSt [(0, .im (nL (cL (cL cI)) slices_)), (3, .im (nI (↑size68 : Int)))] [] []) (List.length slices_ ≤ 17592186044416 ∧ True) ((Holds.avl 0 rfl).and (Holds.true_ _)) ?_ (fun hp => ?_)
 ·conv => whnf
  refine Loops.iter (fun (s : Nat × Nat) => slices_Concat_SSint_Sint.s2 slices_ s.1 s.2) (fun (size73, y74) => mkSt [(0, .im (nL (cL (cL cI)) slices_)), (3, .im (nI (↑size73 : Int))), (9, .im (nL (cL (cL cI)) slices_)), (10, .im (nI (↑(List.length slices_) : Int))), (11, .im (nI (↑y74 : Int)))] [] []) (fun (size73, y74) => List.length slices_ ≤ 17592186044416 ∧ True) h (Ent.mk [] rfl ⟨eI rfl rfl, eI rfl rfl, eI rfl rfl, eI rfl rfl, eI rfl rfl, trivial⟩ trivial trivial) (by rintro ⟨size73, y74⟩; exact ((Holds.avl 0 rfl).and (Holds.true_ _))) ?_
  clear h
  rintro k ⟨size73, y74⟩ o hp h ho79
  replace h : slices_Concat_SSint_Sint.s2 slices_ size73 y74 = some o := h
  unfold slices_Concat_SSint_Sint.s2 at h
  obtain ⟨z84, _⟩ := hp
  conv => whnf
  refine Both.mk (fun b80 => ?_) (fun b80 => ?_)
  ·replace h := cond_t b80 h
   have b80d := of_decide_eq_true b80
   conv => whnf
   obtain ⟨e81, he81, h⟩ := idxn_some h
   refine ⟨_, ⟨(by omega), map_at he81, rfl⟩, ?_⟩
   conv => whnf
   refine Nf.mk (List.length e81) len_map ?_
   conv => whnf
   obtain ⟨c82, h⟩ := chk_some h
   refine Side.mk c82 ?_
   conv => whnf
   refine Both.mk (fun b83 => ?_) (fun b83 => ?_)
   ·replace h := cond_t b83 h
    have b83d := of_decide_eq_true b83
    conv => whnf
    cases h
   ·replace h := cond_f b83 h
    have b83d := of_decide_eq_false b83
    conv => whnf
    refine Side.mk (by show inR _; unfold inR; omega) ?_
    conv => whnf
    obtain rfl := Option.some.inj h
    exact Nxt.mk _ ho79 (Ent.mk [] rfl ⟨eI rfl rfl, eI rfl rfl, eI rfl rfl, eI rfl rfl, eI rfl rfl, trivial⟩ trivial trivial)
  ·replace h := cond_f b80 h
   have b80d := of_decide_eq_false b80
   conv => whnf
   obtain rfl := Option.some.inj h
   have ho79 : _ = _ := ho79
   cases ho79
   exact Join.mk (Ent.mk [] rfl ⟨eI rfl rfl, eI rfl rfl, trivial⟩ trivial trivial)
 ·replace h := hk51
  obtain ⟨z85, _⟩ := hp
  conv => whnf
  obtain ⟨c86, hc86, h⟩ := bind_some h
  refine ⟨_, (sp_lib_Grow_words (↑size68 : Int) c86 (hc86)), ?_⟩
  conv => whnf
  refine Nf.mk (List.length slices_) len_map ?_
  conv => whnf
  obtain ⟨y102, hc, hk87⟩ := bind_some h
  clear h
  have h := hc
  clear hc
  refine Cut.mk (mkSt [(6, .osl 64 1)] [(64, .row 38 1 (List.map (cL cI) y102))] []) (List.length y102 ≤ 17592186044416 ∧ True) ((Holds.kdl 64 rfl).and (Holds.true_ _)) ?_ (fun hp => ?_)
  ·conv => whnf
   refine Loops.iter (fun (s : List (List Int) × Nat) => slices_Concat_SSint_Sint.s4 slices_ s.1 s.2) (fun (y106, y107) => mkSt [(6, .osl 64 1), (25, .im (nL (cL (cL cI)) slices_)), (26, .im (nI (↑(List.length slices_) : Int))), (27, .im (nI (↑y107 : Int)))] [(64, .row 38 1 (List.map (cL cI) y106))] []) (fun (y106, y107) => List.length slices_ ≤ 17592186044416 ∧ List.length y106 ≤ 17592186044416 ∧ True) h (Ent.mk [(64, some 24)] rfl ⟨⟨.osl 24 _, rfl, .osl rfl rfl rfl⟩, eI rfl rfl, eI rfl rfl, eI rfl rfl, trivial⟩ ⟨.inl ⟨24, rfl, rfl, trivial⟩, trivial⟩ trivial) (by rintro ⟨y106, y107⟩; exact ((Holds.avl 25 rfl).and ((Holds.kdl 64 rfl).and (Holds.true_ _)))) ?_
   clear h
   rintro k ⟨y106, y107⟩ o hp h ho111
   replace h : slices_Concat_SSint_Sint.s4 slices_ y106 y107 = some o := h
   unfold slices_Concat_SSint_Sint.s4 at h
   obtain ⟨z115, z116, _⟩ := hp
   conv => whnf
   refine Both.mk (fun b112 => ?_) (fun b112 => ?_)
   ·replace h := cond_t b112 h
    have b112d := of_decide_eq_true b112
    conv => whnf
    obtain ⟨e113, he113, h⟩ := idxn_some h
    refine ⟨_, ⟨(by omega), map_at he113, rfl⟩, ?_⟩
    conv => whnf
    obtain ⟨c114, h⟩ := chk_some h
    refine Side.mk ⟨rfl, map_len (l := e113) (c := cL cI) fun _ => rfl, show capOk _ 24 by simpa only [List.length_map, List.length_cons, List.length_nil, Nat.zero_add] using c114⟩ ?_
    conv => whnf
    refine Nf.mk (List.map (cL cI) (y106 ++ e113)) (app_map (l := y106) (m := e113) (c := cL cI)) ?_
    conv => whnf
    refine Side.mk (by show inR _; unfold inR; omega) ?_
    conv => whnf
    obtain rfl := Option.some.inj h
    exact Nxt.mk _ ho111 (Ent.mk [(64, some 64)] rfl ⟨⟨.osl 64 _, rfl, .osl rfl rfl rfl⟩, eI rfl rfl, eI rfl rfl, eI rfl rfl, trivial⟩ ⟨.inl ⟨64, rfl, rfl, trivial⟩, trivial⟩ trivial)
   ·replace h := cond_f b112 h
    have b112d := of_decide_eq_false b112
    conv => whnf
    obtain rfl := Option.some.inj h
    have ho111 : _ = _ := ho111
    cases ho111
    exact Join.mk (Ent.mk [(64, some 64)] rfl ⟨⟨.osl 64 _, rfl, .osl rfl rfl rfl⟩, trivial⟩ ⟨.inl ⟨64, rfl, rfl, trivial⟩, trivial⟩ trivial)
  ·replace h := hk87
   obtain ⟨z117, _⟩ := hp
   conv => whnf
   obtain rfl := Option.some.inj h
   conv => whnf
   exact Side.mk ⟨rfl, trivial⟩ ⟨rfl, rfl⟩
theorem sp_wordset_Union (lists_ : List (List (List Int))) (r : List (List Int)) (h : Ok (nL (cL (cL cI)) lists_) → wordset_Union lists_ = some r) : Sp Tryz.prog 90 [.im (nL (cL (cL cI)) lists_)] (.im (nL (cL cI) r)) := by
 refine sp_of rfl [] rfl rfl rfl (Nat.le_of_ble_eq_true rfl) rfl fun hk => ?_
 replace h := h hk.1
 have z1 : List.length lists_ ≤ 17592186044416 := ok_len hk.1
 unfold wordset_Union at h
 conv => whnf
 obtain ⟨c51, hc51, h⟩ := bind_some h
 refine ⟨_, (sp_slices_Concat_SSint_Sint lists_ c51 (fun _ => hc51)).im, ?_⟩
 conv => whnf
 obtain ⟨c52, hc52, h⟩ := bind_some h
 refine ⟨_, (sp_wordset_Sorted c51 c52 (fun _ => hc52)).im, ?_⟩
 conv => whnf
 obtain rfl := Option.some.inj h
 conv => whnf
 exact ⟨rfl, rfl⟩
theorem sp_table_checked (t_ : T_api_Table) (next_ : T_api_Table) (r : T_api_Table × Int) (h : Ok (.agg (c_api_Table t_)) → Ok (.agg (c_api_Table next_)) → table_checked t_ next_ = some r) : Sp Tryz.prog 89 [.im (.agg (c_api_Table t_)), .im (.agg (c_api_Table next_))] (.tup [.agg (c_api_Table r.1), nI r.2]) := by
 refine sp_of rfl [700002, 700003] rfl rfl rfl (Nat.le_of_ble_eq_true rfl) rfl fun hk => ?_
 replace h := h hk.1 hk.2.1
 have z1 : List.length t_.Prefixes ≤ 17592186044416 := ok_len (Ok.agg_at hk.1 1 rfl)
 have z2 : List.length t_.Suffixes ≤ 17592186044416 := ok_len (Ok.agg_at hk.1 2 rfl)
 have z3 : List.length next_.Prefixes ≤ 17592186044416 := ok_len (Ok.agg_at hk.2.1 1 rfl)
 have z4 : List.length next_.Suffixes ≤ 17592186044416 := ok_len (Ok.agg_at hk.2.1 2 rfl)
 unfold table_checked at h
 conv => whnf
 obtain ⟨c51, hc51, h⟩ := bind_some h
 refine ⟨_, (sp_table_Valid next_ c51 (fun _ => hc51)), ?_⟩
 conv => whnf
 refine Both.mk (fun b52 => ?_) (fun b52 => ?_)
 ·replace h := cond_t b52 h
  have b52d := of_decide_eq_true b52
  conv => whnf
  refine Side.mk rfl ?_
  conv => whnf
  obtain rfl := Option.some.inj h
  conv => whnf
  refine Side.mk ⟨rfl, trivial⟩ ?_
  conv => whnf
  exact ⟨rfl, rfl⟩
 ·replace h := cond_f b52 h
  have b52d := of_decide_eq_false b52
  conv => whnf
  refine Side.mk rfl ?_
  conv => whnf
  obtain rfl := Option.some.inj h
  conv => whnf
  refine Side.mk ⟨rfl, trivial⟩ ?_
  conv => whnf
  exact ⟨rfl, rfl⟩
theorem sp_table_Prefix (t_ : T_api_Table) (w_ : List Int) (r : T_api_Table × Int) (h : Ok (.agg (c_api_Table t_)) → Ok (nL cI w_) → table_Prefix t_ w_ = some r) : Sp Tryz.prog 33 [.im (.agg (c_api_Table t_)), .im (nL cI w_)] (.tup [.agg (c_api_Table r.1), nI r.2]) := by
 refine sp_of rfl [700002] rfl rfl rfl (Nat.le_of_ble_eq_true rfl) rfl fun hk => ?_
 replace h := h hk.1 hk.2.1
 have z1 : List.length t_.Prefixes ≤ 17592186044416 := ok_len (Ok.agg_at hk.1 1 rfl)
 have z2 : List.length t_.Suffixes ≤ 17592186044416 := ok_len (Ok.agg_at hk.1 2 rfl)
 have z3 : List.length w_ ≤ 17592186044416 := ok_len hk.2.1
 unfold table_Prefix at h
 conv => whnf
 obtain ⟨c51, hc51, h⟩ := bind_some h
 refine ⟨_, (sp_table_Valid t_ c51 (fun _ => hc51)), ?_⟩
 conv => whnf
 refine Both.mk (fun b52 => ?_) (fun b52 => ?_)
 ·replace h := cond_t b52 h
  have b52d := of_decide_eq_true b52
  conv => whnf
  refine Side.mk rfl ?_
  conv => whnf
  obtain rfl := Option.some.inj h
  conv => whnf
  refine Side.mk ⟨rfl, trivial⟩ ?_
  conv => whnf
  exact ⟨rfl, rfl⟩
 ·replace h := cond_f b52 h
  have b52d := of_decide_eq_false b52
  conv => whnf
  obtain ⟨c53, hc53, h⟩ := bind_some h
  refine ⟨_, (sp_word_Check w_ t_.Inputs c53 (fun _ _ => hc53)), ?_⟩
  conv => whnf
  refine Both.mk (fun b54 => ?_) (fun b54 => ?_)
  ·replace h := cond_t b54 h
   have b54d := of_decide_eq_true b54
   conv => whnf
   refine Side.mk rfl ?_
   conv => whnf
   obtain rfl := Option.some.inj h
   conv => whnf
   refine Side.mk ⟨rfl, trivial⟩ ?_
   conv => whnf
   exact ⟨rfl, rfl⟩
  ·replace h := cond_f b54 h
   have b54d := of_decide_eq_false b54
   conv => whnf
   obtain ⟨c55, hc55, h⟩ := bind_some h
   refine ⟨_, (sp_wordset_Prefixes [w_] c55 (fun _ => hc55)), ?_⟩
   conv => whnf
   obtain ⟨c56, hc56, h⟩ := bind_some h
   refine ⟨_, (sp_wordset_Union [t_.Prefixes, c55] c56 (fun _ => hc56)), ?_⟩
   conv => whnf
   obtain ⟨c57, hc57, h⟩ := bind_some h
   refine ⟨_, (sp_wordset_Sorted t_.Suffixes c57 (fun _ => hc57)).im, ?_⟩
   conv => whnf
   obtain ⟨c58, hc58, h⟩ := bind_some h
   refine ⟨_, (sp_table_checked t_ (⟨t_.Inputs, c56, c57⟩ : T_api_Table) c58 (fun _ _ => hc58)), ?_⟩
   conv => whnf
   refine Side.mk rfl ?_
   conv => whnf
   obtain rfl := Option.some.inj h
   conv => whnf
   refine Side.mk ⟨rfl, trivial⟩ ?_
   conv => whnf
   exact ⟨rfl, rfl⟩
theorem sp_table_Suffix (t_ : T_api_Table) (w_ : List Int) (r : T_api_Table × Int) (h : Ok (.agg (c_api_Table t_)) → Ok (nL cI w_) → table_Suffix t_ w_ = some r) : Sp Tryz.prog 35 [.im (.agg (c_api_Table t_)), .im (nL cI w_)] (.tup [.agg (c_api_Table r.1), nI r.2]) := by
 refine sp_of rfl [700002] rfl rfl rfl (Nat.le_of_ble_eq_true rfl) rfl fun hk => ?_
 replace h := h hk.1 hk.2.1
 have z1 : List.length t_.Prefixes ≤ 17592186044416 := ok_len (Ok.agg_at hk.1 1 rfl)
 have z2 : List.length t_.Suffixes ≤ 17592186044416 := ok_len (Ok.agg_at hk.1 2 rfl)
 have z3 : List.length w_ ≤ 17592186044416 := ok_len hk.2.1
 unfold table_Suffix at h
 conv => whnf
 obtain ⟨c51, hc51, h⟩ := bind_some h
 refine ⟨_, (sp_table_Valid t_ c51 (fun _ => hc51)), ?_⟩
 conv => whnf
 refine Both.mk (fun b52 => ?_) (fun b52 => ?_)
 ·replace h := cond_t b52 h
  have b52d := of_decide_eq_true b52
  conv => whnf
  refine Side.mk rfl ?_
  conv => whnf
  obtain rfl := Option.some.inj h
  conv => whnf
  refine Side.mk ⟨rfl, trivial⟩ ?_
  conv => whnf
  exact ⟨rfl, rfl⟩
 ·replace h := cond_f b52 h
  have b52d := of_decide_eq_false b52
  conv => whnf
  refine Nf.mk (List.length w_) len_map ?_
  conv => whnf
  refine Both.mk (fun b53 => ?_) (fun b53 => ?_)
  ·replace h := cond_t b53 h
   have b53d := of_decide_eq_true b53
   conv => whnf
   refine Side.mk rfl ?_
   conv => whnf
   obtain rfl := Option.some.inj h
   conv => whnf
   refine Side.mk ⟨rfl, trivial⟩ ?_
   conv => whnf
   exact ⟨rfl, rfl⟩
  ·replace h := cond_f b53 h
   have b53d := of_decide_eq_false b53
   conv => whnf
   obtain ⟨c54, hc54, h⟩ := bind_some h
   refine ⟨_, (sp_word_Check w_ t_.Inputs c54 (fun _ _ => hc54)), ?_⟩
   conv => whnf
   refine Both.mk (fun b55 => ?_) (fun b55 => ?_)
   ·replace h := cond_t b55 h
    have b55d := of_decide_eq_true b55
    conv => whnf
    refine Side.mk rfl ?_
    conv => whnf
    obtain rfl := Option.some.inj h
    conv => whnf
    refine Side.mk ⟨rfl, trivial⟩ ?_
    conv => whnf
    exact ⟨rfl, rfl⟩
   ·replace h := cond_f b55 h
    have b55d := of_decide_eq_false b55
    conv => whnf
    obtain ⟨c56, hc56, h⟩ := bind_some h
    refine ⟨_, (sp_wordset_Sorted t_.Prefixes c56 (fun _ => hc56)).im, ?_⟩
    conv => whnf
    obtain ⟨c57, hc57, h⟩ := bind_some h
    refine ⟨_, (sp_wordset_Union [t_.Suffixes, [w_]] c57 (fun _ => hc57)), ?_⟩
    conv => whnf
    obtain ⟨c58, hc58, h⟩ := bind_some h
    refine ⟨_, (sp_table_checked t_ (⟨t_.Inputs, c56, c57⟩ : T_api_Table) c58 (fun _ _ => hc58)), ?_⟩
    conv => whnf
    refine Side.mk rfl ?_
    conv => whnf
    obtain rfl := Option.some.inj h
    conv => whnf
    refine Side.mk ⟨rfl, trivial⟩ ?_
    conv => whnf
    exact ⟨rfl, rfl⟩
theorem sp_L23_TableProgress (t_ : T_api_Table) (o_ : T_api_Obs) (r : Bool) (h : Ok (.agg (c_api_Table t_)) → Ok (.agg (c_api_Obs o_)) → L23_TableProgress t_ o_ = some r) : Sp Tryz.prog 10 [.im (.agg (c_api_Table t_)), .im (.agg (c_api_Obs o_))] (.im (nB r)) := by
 refine sp_of rfl [700002, 700003] rfl rfl rfl (Nat.le_of_ble_eq_true rfl) rfl fun hk => ?_
 replace h := h hk.1 hk.2.1
 have z1 : List.length t_.Prefixes ≤ 17592186044416 := ok_len (Ok.agg_at hk.1 1 rfl)
 have z2 : List.length t_.Suffixes ≤ 17592186044416 := ok_len (Ok.agg_at hk.1 2 rfl)
 have z3 : List.length o_.Traces ≤ 17592186044416 := ok_len (Ok.agg_at hk.2.1 1 rfl)
 unfold L23_TableProgress at h
 conv => whnf
 obtain ⟨y56, hc, hk52⟩ := bind_some h
 clear h
 have h := hc
 clear hc
 refine Cut.mk (mkSt [(2, .im (.ref (c_api_Table t_))), (3, .im (.ref (c_api_Obs o_))), (22, .im (nB y56))] [] []) (True) (Holds.true_ _) ?_ (fun hp => ?_)
 ·conv => whnf
  obtain ⟨c57, hc57, h⟩ := bind_some h
  refine ⟨_, (sp_L23_Great t_ o_ c57 (fun _ _ => hc57)), ?_⟩
  conv => whnf
  refine Both.mk (fun b58 => ?_) (fun b58 => ?_)
  ·replace b58 := beq_ff b58
   replace h := cond_f b58 h
   conv => whnf
   refine Both.yes (ff_beq b58) ?_
   conv => whnf
   obtain ⟨c59, hc59, h⟩ := bind_some h
   refine ⟨_, (sp_R16_Valid o_ c59 (fun _ => hc59)), ?_⟩
   conv => whnf
   refine Both.yes (ff_beq b58) ?_
   conv => whnf
   refine Both.no b58 ?_
   conv => whnf
   cases h
   exact Join.mk (Ent.mk [] rfl ⟨eI rfl rfl, eI rfl rfl, eI rfl rfl, trivial⟩ trivial trivial)
  ·replace b58 := beq_ft b58
   replace h := cond_t b58 h
   conv => whnf
   iterate 2 (refine Both.no (tf_beq b58) ?_; (conv => whnf))
   refine Both.yes b58 ?_
   conv => whnf
   cases h
   exact Join.mk (Ent.mk [] rfl ⟨eI rfl rfl, eI rfl rfl, eI rfl rfl, trivial⟩ trivial trivial)
 ·replace h := hk52
  conv => whnf
  refine Both.mk (fun b60 => ?_) (fun b60 => ?_)
  ·replace h := cond_t b60 h
   conv => whnf
   obtain ⟨c61, hc61, h⟩ := bind_some h
   refine ⟨_, (sp_L23_awake  c61 (hc61)), ?_⟩
   conv => whnf
   obtain rfl := Option.some.inj h
   conv => whnf
   exact ⟨rfl, rfl⟩
  ·replace h := cond_f b60 h
   conv => whnf
   obtain ⟨oc, hc, hk63⟩ := bind_some h
   clear h
   have h := hc
   clear hc
   refine Cut.mkS oc (Y := Unit) (fun (_ : Unit) => mkSt [(2, .im (.ref (c_api_Table t_))), (3, .im (.ref (c_api_Obs o_)))] [] []) (fun (_ : Unit) => True) (by rintro ⟨⟩; exact (Holds.true_ _)) ?_ ?_
   ·conv => whnf
    obtain ⟨c85, hc85, h⟩ := bind_some h
    refine ⟨_, (sp_table_Unclosed t_ o_ c85 (fun _ _ => hc85)), ?_⟩
    conv => whnf
    refine Both.mk (fun b86 => ?_) (fun b86 => ?_)
    ·replace h := cond_t b86 h
     conv => whnf
     obtain ⟨c87, hc87, h⟩ := bind_some h
     refine ⟨_, (sp_table_Prefix t_ c85.1 c87 (fun _ _ => hc87)), ?_⟩
     conv => whnf
     refine Side.mk rfl ?_
     conv => whnf
     obtain ⟨y97, hc, hk89⟩ := bind_some h
     clear h
     have h := hc
     clear hc
     refine Cut.mk (mkSt [(2, .im (.ref (c_api_Table t_))), (3, .im (.ref (c_api_Obs o_))), (75, .im (nB y97))] [] []) (True) (Holds.true_ _) ?_ (fun hp => ?_)
     ·conv => whnf
      refine Both.mk (fun b98 => ?_) (fun b98 => ?_)
      ·replace b98 := beq_ff b98
       replace h := cond_f b98 h
       have b98d := of_decide_eq_false b98
       conv => whnf
       refine Both.yes (ff_beq b98) ?_
       conv => whnf
       refine Both.no b98 ?_
       conv => whnf
       refine Both.mk (fun b99 => ?_) (fun b99 => ?_)
       ·replace b99 := beq_ff b99
        replace h := cond_f b99 h
        have b99d := of_decide_eq_false b99
        conv => whnf
        iterate 3 (refine Both.yes (ff_beq b99) ?_; (conv => whnf))
        obtain ⟨c100, hc100, h⟩ := bind_some h
        refine ⟨_, (sp_R02_Has t_.Prefixes c85.1 c100 (fun _ _ => hc100)), ?_⟩
        conv => whnf
        refine Both.no b99 ?_
        conv => whnf
        refine Both.mk (fun b101 => ?_) (fun b101 => ?_)
        ·replace b101 := beq_ff b101
         replace h := cond_f b101 h
         conv => whnf
         refine Side.mk rfl ?_
         conv => whnf
         refine Both.yes (ff_beq b101) ?_
         conv => whnf
         refine Side.mk rfl ?_
         conv => whnf
         iterate 2 (refine Both.yes (ff_beq b101) ?_; (conv => whnf))
         obtain ⟨c102, hc102, h⟩ := bind_some h
         refine ⟨_, (sp_R02_Has c87.1.Prefixes c85.1 c102 (fun _ _ => hc102)), ?_⟩
         conv => whnf
         refine Both.yes (ff_beq b101) ?_
         conv => whnf
         refine Both.no b101 ?_
         conv => whnf
         refine Both.mk (fun b103 => ?_) (fun b103 => ?_)
         ·replace b103 := beq_ff b103
          replace h := cond_f b103 h
          conv => whnf
          refine Side.mk rfl ?_
          conv => whnf
          refine Both.yes (ff_beq b103) ?_
          conv => whnf
          refine Side.mk rfl ?_
          conv => whnf
          refine Both.yes (ff_beq b103) ?_
          conv => whnf
          refine Nf.mk (List.length c87.1.Prefixes) len_map ?_
          conv => whnf
          iterate 3 (refine Both.yes (ff_beq b103) ?_; (conv => whnf))
          refine Nf.mk (List.length t_.Prefixes) len_map ?_
          conv => whnf
          refine Both.yes (ff_beq b103) ?_
          conv => whnf
          refine Side.mk (by show inR _; unfold inR; omega) ?_
          conv => whnf
          refine Both.yes (ff_beq b103) ?_
          conv => whnf
          refine Both.no b103 ?_
          conv => whnf
          refine Both.mk (fun b104 => ?_) (fun b104 => ?_)
          ·replace b104 := beq_ff b104
           replace h := cond_f b104 h
           have b104d := of_decide_eq_false b104
           conv => whnf
           refine Side.mk rfl ?_
           conv => whnf
           refine Both.yes (ff_beq b104) ?_
           conv => whnf
           refine Side.mk rfl ?_
           conv => whnf
           refine Both.yes (ff_beq b104) ?_
           conv => whnf
           refine Nf.mk (List.length c87.1.Suffixes) len_map ?_
           conv => whnf
           iterate 3 (refine Both.yes (ff_beq b104) ?_; (conv => whnf))
           refine Nf.mk (List.length t_.Suffixes) len_map ?_
           conv => whnf
           refine Both.yes (ff_beq b104) ?_
           conv => whnf
           refine Both.no b104 ?_
           conv => whnf
           cases h
           exact Join.mk (Ent.mk [] rfl ⟨eI rfl rfl, eI rfl rfl, eI rfl rfl, trivial⟩ trivial trivial)
          ·replace b104 := beq_ft b104
           replace h := cond_t b104 h
           have b104d := of_decide_eq_true b104
           conv => whnf
           iterate 6 (refine Both.no (tf_beq b104) ?_; (conv => whnf))
           refine Both.yes b104 ?_
           conv => whnf
           cases h
           exact Join.mk (Ent.mk [] rfl ⟨eI rfl rfl, eI rfl rfl, eI rfl rfl, trivial⟩ trivial trivial)
         ·replace b103 := beq_ft b103
          replace h := cond_t b103 h
          conv => whnf
          iterate 7 (refine Both.no (tf_beq b103) ?_; (conv => whnf))
          refine Both.yes b103 ?_
          conv => whnf
          iterate 7 (refine Both.no rfl ?_; (conv => whnf))
          refine Both.yes rfl ?_
          conv => whnf
          cases h
          exact Join.mk (Ent.mk [] rfl ⟨eI rfl rfl, eI rfl rfl, eI rfl rfl, trivial⟩ trivial trivial)
        ·replace b101 := beq_ft b101
         replace h := cond_t b101 h
         conv => whnf
         iterate 4 (refine Both.no (tf_beq b101) ?_; (conv => whnf))
         refine Both.yes b101 ?_
         conv => whnf
         iterate 8 (refine Both.no rfl ?_; (conv => whnf))
         refine Both.yes rfl ?_
         conv => whnf
         iterate 7 (refine Both.no rfl ?_; (conv => whnf))
         refine Both.yes rfl ?_
         conv => whnf
         cases h
         exact Join.mk (Ent.mk [] rfl ⟨eI rfl rfl, eI rfl rfl, eI rfl rfl, trivial⟩ trivial trivial)
       ·replace b99 := beq_ft b99
        replace h := cond_t b99 h
        have b99d := of_decide_eq_true b99
        conv => whnf
        iterate 3 (refine Both.no (tf_beq b99) ?_; (conv => whnf))
        refine Both.yes b99 ?_
        conv => whnf
        iterate 5 (refine Both.no rfl ?_; (conv => whnf))
        refine Both.yes rfl ?_
        conv => whnf
        iterate 8 (refine Both.no rfl ?_; (conv => whnf))
        refine Both.yes rfl ?_
        conv => whnf
        iterate 7 (refine Both.no rfl ?_; (conv => whnf))
        refine Both.yes rfl ?_
        conv => whnf
        cases h
        exact Join.mk (Ent.mk [] rfl ⟨eI rfl rfl, eI rfl rfl, eI rfl rfl, trivial⟩ trivial trivial)
      ·replace b98 := beq_ft b98
       replace h := cond_t b98 h
       have b98d := of_decide_eq_true b98
       conv => whnf
       refine Both.no (tf_beq b98) ?_
       conv => whnf
       refine Both.yes b98 ?_
       conv => whnf
       iterate 4 (refine Both.no rfl ?_; (conv => whnf))
       refine Both.yes rfl ?_
       conv => whnf
       iterate 5 (refine Both.no rfl ?_; (conv => whnf))
       refine Both.yes rfl ?_
       conv => whnf
       iterate 8 (refine Both.no rfl ?_; (conv => whnf))
       refine Both.yes rfl ?_
       conv => whnf
       iterate 7 (refine Both.no rfl ?_; (conv => whnf))
       refine Both.yes rfl ?_
       conv => whnf
       cases h
       exact Join.mk (Ent.mk [] rfl ⟨eI rfl rfl, eI rfl rfl, eI rfl rfl, trivial⟩ trivial trivial)
     ·replace h := hk89
      conv => whnf
      refine Both.mk (fun b105 => ?_) (fun b105 => ?_)
      ·replace h := cond_t b105 h
       conv => whnf
       obtain rfl := Option.some.inj h
       replace h : some _ = some _ := hk63
       obtain rfl := Option.some.inj h
       conv => whnf
       exact ⟨rfl, rfl⟩
      ·replace h := cond_f b105 h
       conv => whnf
       obtain rfl := Option.some.inj h
       exact JoinS.mk' _ rfl (Ent.mk [] rfl ⟨eI rfl rfl, eI rfl rfl, trivial⟩ trivial trivial)
    ·replace h := cond_f b86 h
     conv => whnf
     obtain rfl := Option.some.inj h
     exact JoinS.mk' _ rfl (Ent.mk [] rfl ⟨eI rfl rfl, eI rfl rfl, trivial⟩ trivial trivial)
   ·rintro ⟨⟩ rfl hp
    replace h := sum_inl hk63
    conv => whnf
    obtain ⟨oc, hc, hk107⟩ := bind_some h
    clear h
    have h := hc
    clear hc
    refine Cut.mkS oc (Y := Unit) (fun (_ : Unit) => mkSt [] [] []) (fun (_ : Unit) => True) (by rintro ⟨⟩; exact (Holds.true_ _)) ?_ ?_
    ·conv => whnf
     obtain ⟨c129, hc129, h⟩ := bind_some h
     refine ⟨_, (sp_table_Inconsistent t_ o_ c129 (fun _ _ => hc129)), ?_⟩
     conv => whnf
     refine Both.mk (fun b130 => ?_) (fun b130 => ?_)
     ·replace h := cond_t b130 h
      conv => whnf
      obtain ⟨c131, hc131, h⟩ := bind_some h
      refine ⟨_, (sp_table_Suffix t_ c129.1 c131 (fun _ _ => hc131)), ?_⟩
      conv => whnf
      refine Side.mk rfl ?_
      conv => whnf
      obtain ⟨y141, hc, hk133⟩ := bind_some h
      clear h
      have h := hc
      clear hc
      refine Cut.mk (mkSt [(127, .im (nB y141))] [] []) (True) (Holds.true_ _) ?_ (fun hp => ?_)
      ·conv => whnf
       refine Both.mk (fun b142 => ?_) (fun b142 => ?_)
       ·replace b142 := beq_ff b142
        replace h := cond_f b142 h
        have b142d := of_decide_eq_false b142
        conv => whnf
        refine Both.yes (ff_beq b142) ?_
        conv => whnf
        refine Both.no b142 ?_
        conv => whnf
        refine Both.mk (fun b143 => ?_) (fun b143 => ?_)
        ·replace b143 := beq_ff b143
         replace h := cond_f b143 h
         have b143d := of_decide_eq_false b143
         conv => whnf
         iterate 3 (refine Both.yes (ff_beq b143) ?_; (conv => whnf))
         obtain ⟨c144, hc144, h⟩ := bind_some h
         refine ⟨_, (sp_R02_Has t_.Suffixes c129.1 c144 (fun _ _ => hc144)), ?_⟩
         conv => whnf
         refine Both.no b143 ?_
         conv => whnf
         refine Both.mk (fun b145 => ?_) (fun b145 => ?_)
         ·replace b145 := beq_ff b145
          replace h := cond_f b145 h
          conv => whnf
          refine Side.mk rfl ?_
          conv => whnf
          refine Both.yes (ff_beq b145) ?_
          conv => whnf
          refine Side.mk rfl ?_
          conv => whnf
          iterate 2 (refine Both.yes (ff_beq b145) ?_; (conv => whnf))
          obtain ⟨c146, hc146, h⟩ := bind_some h
          refine ⟨_, (sp_R02_Has c131.1.Suffixes c129.1 c146 (fun _ _ => hc146)), ?_⟩
          conv => whnf
          refine Both.yes (ff_beq b145) ?_
          conv => whnf
          refine Both.no b145 ?_
          conv => whnf
          refine Both.mk (fun b147 => ?_) (fun b147 => ?_)
          ·replace b147 := beq_ff b147
           replace h := cond_f b147 h
           conv => whnf
           refine Side.mk rfl ?_
           conv => whnf
           refine Both.yes (ff_beq b147) ?_
           conv => whnf
           refine Side.mk rfl ?_
           conv => whnf
           refine Both.yes (ff_beq b147) ?_
           conv => whnf
           refine Nf.mk (List.length c131.1.Suffixes) len_map ?_
           conv => whnf
           iterate 3 (refine Both.yes (ff_beq b147) ?_; (conv => whnf))
           refine Nf.mk (List.length t_.Suffixes) len_map ?_
           conv => whnf
           refine Both.yes (ff_beq b147) ?_
           conv => whnf
           refine Side.mk (by show inR _; unfold inR; omega) ?_
           conv => whnf
           refine Both.yes (ff_beq b147) ?_
           conv => whnf
           refine Both.no b147 ?_
           conv => whnf
           refine Both.mk (fun b148 => ?_) (fun b148 => ?_)
           ·replace b148 := beq_ff b148
            replace h := cond_f b148 h
            have b148d := of_decide_eq_false b148
            conv => whnf
            refine Side.mk rfl ?_
            conv => whnf
            refine Both.yes (ff_beq b148) ?_
            conv => whnf
            refine Side.mk rfl ?_
            conv => whnf
            refine Both.yes (ff_beq b148) ?_
            conv => whnf
            refine Nf.mk (List.length c131.1.Prefixes) len_map ?_
            conv => whnf
            iterate 3 (refine Both.yes (ff_beq b148) ?_; (conv => whnf))
            refine Nf.mk (List.length t_.Prefixes) len_map ?_
            conv => whnf
            refine Both.yes (ff_beq b148) ?_
            conv => whnf
            refine Both.no b148 ?_
            conv => whnf
            cases h
            exact Join.mk (Ent.mk [] rfl ⟨eI rfl rfl, trivial⟩ trivial trivial)
           ·replace b148 := beq_ft b148
            replace h := cond_t b148 h
            have b148d := of_decide_eq_true b148
            conv => whnf
            iterate 6 (refine Both.no (tf_beq b148) ?_; (conv => whnf))
            refine Both.yes b148 ?_
            conv => whnf
            cases h
            exact Join.mk (Ent.mk [] rfl ⟨eI rfl rfl, trivial⟩ trivial trivial)
          ·replace b147 := beq_ft b147
           replace h := cond_t b147 h
           conv => whnf
           iterate 7 (refine Both.no (tf_beq b147) ?_; (conv => whnf))
           refine Both.yes b147 ?_
           conv => whnf
           iterate 7 (refine Both.no rfl ?_; (conv => whnf))
           refine Both.yes rfl ?_
           conv => whnf
           cases h
           exact Join.mk (Ent.mk [] rfl ⟨eI rfl rfl, trivial⟩ trivial trivial)
         ·replace b145 := beq_ft b145
          replace h := cond_t b145 h
          conv => whnf
          iterate 4 (refine Both.no (tf_beq b145) ?_; (conv => whnf))
          refine Both.yes b145 ?_
          conv => whnf
          iterate 8 (refine Both.no rfl ?_; (conv => whnf))
          refine Both.yes rfl ?_
          conv => whnf
          iterate 7 (refine Both.no rfl ?_; (conv => whnf))
          refine Both.yes rfl ?_
          conv => whnf
          cases h
          exact Join.mk (Ent.mk [] rfl ⟨eI rfl rfl, trivial⟩ trivial trivial)
        ·replace b143 := beq_ft b143
         replace h := cond_t b143 h
         have b143d := of_decide_eq_true b143
         conv => whnf
         iterate 3 (refine Both.no (tf_beq b143) ?_; (conv => whnf))
         refine Both.yes b143 ?_
         conv => whnf
         iterate 5 (refine Both.no rfl ?_; (conv => whnf))
         refine Both.yes rfl ?_
         conv => whnf
         iterate 8 (refine Both.no rfl ?_; (conv => whnf))
         refine Both.yes rfl ?_
         conv => whnf
         iterate 7 (refine Both.no rfl ?_; (conv => whnf))
         refine Both.yes rfl ?_
         conv => whnf
         cases h
         exact Join.mk (Ent.mk [] rfl ⟨eI rfl rfl, trivial⟩ trivial trivial)
       ·replace b142 := beq_ft b142
        replace h := cond_t b142 h
        have b142d := of_decide_eq_true b142
        conv => whnf
        refine Both.no (tf_beq b142) ?_
        conv => whnf
        refine Both.yes b142 ?_
        conv => whnf
        iterate 4 (refine Both.no rfl ?_; (conv => whnf))
        refine Both.yes rfl ?_
        conv => whnf
        iterate 5 (refine Both.no rfl ?_; (conv => whnf))
        refine Both.yes rfl ?_
        conv => whnf
        iterate 8 (refine Both.no rfl ?_; (conv => whnf))
        refine Both.yes rfl ?_
        conv => whnf
        iterate 7 (refine Both.no rfl ?_; (conv => whnf))
        refine Both.yes rfl ?_
        conv => whnf
        cases h
        exact Join.mk (Ent.mk [] rfl ⟨eI rfl rfl, trivial⟩ trivial trivial)
      ·replace h := hk133
       conv => whnf
       refine Both.mk (fun b149 => ?_) (fun b149 => ?_)
       ·replace h := cond_t b149 h
        conv => whnf
        obtain rfl := Option.some.inj h
        replace h : some _ = some _ := hk107
        obtain rfl := Option.some.inj h
        conv => whnf
        exact ⟨rfl, rfl⟩
       ·replace h := cond_f b149 h
        conv => whnf
        obtain rfl := Option.some.inj h
        exact JoinS.mk' _ rfl (Ent.mk [] rfl trivial trivial trivial)
     ·replace h := cond_f b130 h
      conv => whnf
      obtain rfl := Option.some.inj h
      exact JoinS.mk' _ rfl (Ent.mk [] rfl trivial trivial trivial)
    ·rintro ⟨⟩ rfl hp
     replace h := sum_inl hk107
     conv => whnf
     obtain ⟨c150, hc150, h⟩ := bind_some h
     refine ⟨_, (sp_L23_awake  c150 (hc150)), ?_⟩
     conv => whnf
     obtain rfl := Option.some.inj h
     conv => whnf
     exact ⟨rfl, rfl⟩
end Go.Proofs.YtpmebphhbgpapaaGreatDoor.Sym
