/-
  The contracts of the functions, read from the code by a program (ext.py): each function has its plain twin as its contract.
-/
import Derived.Test.YtpmebphhbgpapaaGreatDoorM5
set_option linter.all false
namespace Go.Proofs.YtpmebphhbgpapaaGreatDoor.Sym
open Go.RowKit
set_option maxRecDepth 100000
set_option linter.unusedVariables false
set_option maxHeartbeats 4000000
theorem sp_R16_Valid (o_ : T_api_Obs) (r : Int) (h : Ok (.agg (c_api_Obs o_)) → R16_Valid o_ = some r) : Sp Tryz.prog 21 [.im (.agg (c_api_Obs o_))] (.im (nI r)) := by
 refine sp_of rfl [700001] rfl rfl rfl (Nat.le_of_ble_eq_true rfl) rfl fun hk => ?_
 replace h := h hk.1
 have z1 : List.length o_.Traces ≤ 17592186044416 := ok_len (Ok.agg_at hk.1 1 rfl)
 unfold R16_Valid at h
 conv=>whnf
 obtain ⟨y54, hc, hk52⟩ := bind_some h
 clear h
 have h := hc
 clear hc
 refine Cut.mk (mkSt [(1, .im (.ref (c_api_Obs o_))), (14, .im (nB y54))] [] []) (True) (Holds.true_ _) ?_ (fun hp => ?_)
 ·conv=>whnf
  refine Both.mk ?_ ?_<;>intro b55
  ·replace b55 := beq_ff b55
   replace h := cond_f b55 h
   have b55d := odf b55
   conv=>whnf
   iterate 2 (refine Both.yes (ff_beq b55) ?_; (conv=>whnf))
   refine Both.no b55 ?_
   conv=>whnf
   cases h
   exact Join.mk (Ent.mk [] rfl ⟨eI rfl rfl, eI rfl rfl, trivial⟩ trivial trivial)
  ·replace b55 := beq_ft b55
   replace h := cond_t b55 h
   have b55d := odt b55
   conv=>whnf
   iterate 2 (refine Both.no (tf_beq b55) ?_; (conv=>whnf))
   refine Both.yes b55 ?_
   conv=>whnf
   cases h
   exact Join.mk (Ent.mk [] rfl ⟨eI rfl rfl, eI rfl rfl, trivial⟩ trivial trivial)
 ·replace h := hk52
  conv=>whnf
  refine Both.mk ?_ ?_<;>intro b56
  ·replace h := cond_t b56 h
   conv=>whnf
   cases h
   conv=>whnf
   exact ⟨rfl, rfl⟩
  ·replace h := cond_f b56 h
   conv=>whnf
   refine Nf.mk (List.length o_.Traces) len_map ?_
   conv=>whnf
   refine Both.mk ?_ ?_<;>intro b57
   ·replace h := cond_t b57 h
    have b57d := odt b57
    conv=>whnf
    cases h
    conv=>whnf
    exact ⟨rfl, rfl⟩
   ·replace h := cond_f b57 h
    have b57d := odf b57
    conv=>whnf
    obtain ⟨oc, hc, hk58⟩ := bind_some h
    clear h
    have h := hc
    clear hc
    refine Cut.mkS oc (Y := Unit) (fun (_ : Unit) => mkSt [(1, .im (.ref (c_api_Obs o_)))] [] []) (fun (_ : Unit) => True) (by rintro ⟨⟩; exact (Holds.true_ _)) ?_ ?_
    ·conv=>whnf
     refine Loops.iter (fun (s : Nat) => R16_Valid.s2 o_ s) (fun i129 => mkSt [(1, .im (.ref (c_api_Obs o_))), (3, .im (nI (↑i129 : Int)))] [] []) (fun i129 => True) h (Ent.mk [] rfl ⟨eI rfl rfl, eI rfl rfl, trivial⟩ trivial trivial) (by rintro i129; exact (Holds.true_ _)) ?_
     clear h
     rintro k i129 o hp h ho147
     replace h : R16_Valid.s2 o_ i129 = some o := h
     unfold R16_Valid.s2 at h
     conv=>whnf
     refine Nf.mk (List.length o_.Traces) len_map ?_
     conv=>whnf
     refine Both.mk ?_ ?_<;>intro b148
     ·replace h := cond_t b148 h
      have b148d := odt b148
      conv=>whnf
      obtain ⟨e149, he149, h⟩ := idxn_some h
      refine ⟨_, ⟨(by omega), map_at he149, rfl⟩, ?_⟩
      conv=>whnf
      refine Side.mk rfl ?_
      conv=>whnf
      refine Side.mk rfl ?_
      conv=>whnf
      refine Side.mk rfl ?_
      conv=>whnf
      obtain ⟨c150, hc150, h⟩ := bind_some h
      refine ⟨_, (sp_R01_Check e149.In o_.Inputs c150 (fun _ _ => hc150)), ?_⟩
      conv=>whnf
      refine Both.mk ?_ ?_<;>intro b151
      ·replace h := cond_t b151 h
       have b151d := odt b151
       conv=>whnf
       cases h
       have ho147 : _ = _ := ho147
       cases ho147
       replace h : some _ = some _ := hk58
       cases h
       conv=>whnf
       exact ⟨rfl, rfl⟩
      ·replace h := cond_f b151 h
       have b151d := odf b151
       conv=>whnf
       refine Side.mk rfl ?_
       conv=>whnf
       refine Side.mk rfl ?_
       conv=>whnf
       refine Nf.mk (List.length e149.In) len_map ?_
       conv=>whnf
       refine Both.mk ?_ ?_<;>intro b152
       ·replace h := cond_t b152 h
        have b152d := odt b152
        conv=>whnf
        cases h
        have ho147 : _ = _ := ho147
        cases ho147
        replace h : some _ = some _ := hk58
        cases h
        conv=>whnf
        exact ⟨rfl, rfl⟩
       ·replace h := cond_f b152 h
        have b152d := odf b152
        conv=>whnf
        refine Side.mk rfl ?_
        conv=>whnf
        obtain ⟨c153, hc153, h⟩ := bind_some h
        refine ⟨_, (sp_R16_Proper e149 o_.Inputs c153 (fun _ _ => hc153)), ?_⟩
        conv=>whnf
        refine Both.mk ?_ ?_<;>intro b154
        ·replace h := cond_t b154 h
         have b154d := odt b154
         conv=>whnf
         cases h
         have ho147 : _ = _ := ho147
         cases ho147
         replace h : some _ = some _ := hk58
         cases h
         conv=>whnf
         exact ⟨rfl, rfl⟩
        ·replace h := cond_f b154 h
         have b154d := odf b154
         conv=>whnf
         obtain ⟨y160, hc, hk156⟩ := bind_some h
         clear h
         have h := hc
         clear hc
         refine Cut.mk (mkSt [(1, .im (.ref (c_api_Obs o_))), (3, .im (nI (↑i129 : Int))), (64, .im (nB y160))] [] []) (True) (Holds.true_ _) ?_ (fun hp => ?_)
         ·conv=>whnf
          refine Both.mk ?_ ?_<;>intro b161
          ·replace b161 := beq_tt b161
           replace h := cond_t b161 h
           have b161d := odt b161
           conv=>whnf
           iterate 3 (refine Both.yes (tt_beq b161) ?_; (conv=>whnf))
           refine Side.mk (by show inR _; unfold inR; omega) ?_
           conv=>whnf
           refine Both.yes (tt_beq b161) ?_
           conv=>whnf
           obtain ⟨e162, he162z, he162, h⟩ := idx_some h
           refine ⟨_, ⟨he162z, map_at he162, rfl⟩, ?_⟩
           conv=>whnf
           iterate 3 (refine Both.yes (tt_beq b161) ?_; (conv=>whnf))
           refine Side.mk rfl ?_
           conv=>whnf
           refine Both.yes (tt_beq b161) ?_
           conv=>whnf
           refine Side.mk rfl ?_
           conv=>whnf
           refine Both.yes (tt_beq b161) ?_
           conv=>whnf
           obtain ⟨c163, hc163, h⟩ := bind_some h
           refine ⟨_, (sp_R01_Compare e162.In e149.In c163 (fun _ _ => hc163)), ?_⟩
           conv=>whnf
           refine Both.yes (tt_beq b161) ?_
           conv=>whnf
           refine Both.yes b161 ?_
           conv=>whnf
           cases h
           exact Join.mk (Ent.mk [] rfl ⟨eI rfl rfl, eI rfl rfl, eI rfl rfl, trivial⟩ trivial trivial)
          ·replace b161 := beq_tf b161
           replace h := cond_f b161 h
           have b161d := odf b161
           conv=>whnf
           iterate 10 (refine Both.no (ft_beq b161) ?_; (conv=>whnf))
           refine Both.no b161 ?_
           conv=>whnf
           cases h
           exact Join.mk (Ent.mk [] rfl ⟨eI rfl rfl, eI rfl rfl, eI rfl rfl, trivial⟩ trivial trivial)
         ·replace h := hk156
          conv=>whnf
          refine Both.mk ?_ ?_<;>intro b164
          ·replace h := cond_t b164 h
           conv=>whnf
           cases h
           have ho147 : _ = _ := ho147
           cases ho147
           replace h : some _ = some _ := hk58
           cases h
           conv=>whnf
           exact ⟨rfl, rfl⟩
          ·replace h := cond_f b164 h
           conv=>whnf
           refine Side.mk (by show inR _; unfold inR; omega) ?_
           conv=>whnf
           cases h
           exact Nxt.mk _ ho147 (Ent.mk [] rfl ⟨eI rfl rfl, eI rfl rfl, trivial⟩ trivial trivial)
     ·replace h := cond_f b148 h
      have b148d := odf b148
      conv=>whnf
      cases h
      have ho147 : _ = _ := ho147
      cases ho147
      exact JoinS.mk' _ rfl (Ent.mk [] rfl ⟨eI rfl rfl, trivial⟩ trivial trivial)
    ·rintro ⟨⟩ rfl hp
     replace h := sum_inl hk58
     conv=>whnf
     obtain ⟨c165, hc165, h⟩ := bind_some h
     refine ⟨_, (sp_R16_apart o_ c165 (fun _ => hc165)), ?_⟩
     conv=>whnf
     cases h
     conv=>whnf
     exact ⟨rfl, rfl⟩
theorem sp_slices_Equal_Sint_int (s1_ : List Int) (s2_ : List Int) (r : Bool) (h : Ok (nL cI s1_) → Ok (nL cI s2_) → slices_Equal_Sint_int s1_ s2_ = some r) : Sp Tryz.prog 128 [.im (nL cI s1_), .im (nL cI s2_)] (.im (nB r)) := by
 refine sp_of rfl [] rfl rfl rfl (Nat.le_of_ble_eq_true rfl) rfl fun hk => ?_
 replace h := h hk.1 hk.2.1
 have z1 : List.length s1_ ≤ 17592186044416 := ok_len hk.1
 have z2 : List.length s2_ ≤ 17592186044416 := ok_len hk.2.1
 unfold slices_Equal_Sint_int at h
 conv=>whnf
 refine Nf.mk (List.length s1_) len_map ?_
 conv=>whnf
 refine Nf.mk (List.length s2_) len_map ?_
 conv=>whnf
 refine Both.mk ?_ ?_<;>intro b51
 ·replace h := cond_t b51 h
  have b51d := odt b51
  conv=>whnf
  cases h
  conv=>whnf
  exact ⟨rfl, rfl⟩
 ·replace h := cond_f b51 h
  have b51d := odf b51
  conv=>whnf
  refine Nf.mk (List.length s1_) len_map ?_
  conv=>whnf
  obtain ⟨oc, hc, hk52⟩ := bind_some h
  clear h
  have h := hc
  clear hc
  refine Cut.mkS oc (Y := Unit) (fun (_ : Unit) => mkSt [] [] []) (fun (_ : Unit) => True) (by rintro ⟨⟩; exact (Holds.true_ _)) ?_ ?_
  ·conv=>whnf
   refine Loops.iter (fun (s : Nat) => slices_Equal_Sint_int.s2 s1_ s2_ s) (fun y73 => mkSt [(0, .im (nL cI s1_)), (1, .im (nL cI s2_)), (12, .im (nI (↑(List.length s1_) : Int))), (13, .im (nI (↑y73 : Int)))] [] []) (fun y73 => List.length s1_ ≤ 17592186044416 ∧ List.length s2_ ≤ 17592186044416 ∧ True) h (Ent.mk [] rfl ⟨eI rfl rfl, eI rfl rfl, eI rfl rfl, eI rfl rfl, trivial⟩ trivial trivial) (by rintro y73; exact ((Holds.avl 0 rfl).and ((Holds.avl 1 rfl).and (Holds.true_ _)))) ?_
   clear h
   rintro k y73 o hp h ho78
   replace h : slices_Equal_Sint_int.s2 s1_ s2_ y73 = some o := h
   unfold slices_Equal_Sint_int.s2 at h
   obtain ⟨z83, z84, _⟩ := hp
   conv=>whnf
   refine Both.mk ?_ ?_<;>intro b79
   ·replace h := cond_t b79 h
    have b79d := odt b79
    conv=>whnf
    obtain ⟨e80, he80, h⟩ := idxn_some h
    refine ⟨_, ⟨(by omega), map_at he80, rfl⟩, ?_⟩
    conv=>whnf
    obtain ⟨e81, he81, h⟩ := idxn_some h
    refine ⟨_, ⟨(by omega), map_at he81, rfl⟩, ?_⟩
    conv=>whnf
    refine Both.mk ?_ ?_<;>intro b82
    ·replace h := cond_t b82 h
     have b82d := odt b82
     conv=>whnf
     cases h
     have ho78 : _ = _ := ho78
     cases ho78
     replace h : some _ = some _ := hk52
     cases h
     conv=>whnf
     exact ⟨rfl, rfl⟩
    ·replace h := cond_f b82 h
     have b82d := odf b82
     conv=>whnf
     refine Side.mk (by show inR _; unfold inR; omega) ?_
     conv=>whnf
     cases h
     exact Nxt.mk _ ho78 (Ent.mk [] rfl ⟨eI rfl rfl, eI rfl rfl, eI rfl rfl, eI rfl rfl, trivial⟩ trivial trivial)
   ·replace h := cond_f b79 h
    have b79d := odf b79
    conv=>whnf
    cases h
    have ho78 : _ = _ := ho78
    cases ho78
    exact JoinS.mk' _ rfl (Ent.mk [] rfl trivial trivial trivial)
  ·rintro ⟨⟩ rfl hp
   replace h := sum_inl hk52
   conv=>whnf
   cases h
   conv=>whnf
   exact ⟨rfl, rfl⟩
theorem sp_table_view_inconsistent (v_ : T_table_view) (r : Int × Int × Bool) (h : Ok (.agg (c_table_view v_)) → table_view_inconsistent v_ = some r) : Sp Tryz.prog 87 [.im (.agg (c_table_view v_))] (.tup [nI r.1, nI r.2.1, nB r.2.2]) := by
 refine sp_of rfl [700001] rfl rfl rfl (Nat.le_of_ble_eq_true rfl) rfl fun hk => ?_
 replace h := h hk.1
 have z1 : List.length v_.rows ≤ 17592186044416 := ok_len (Ok.agg_at hk.1 0 rfl)
 have z2 : List.length v_.prefixes ≤ 17592186044416 := ok_len (Ok.agg_at hk.1 1 rfl)
 have z3 : List.length v_.next ≤ 17592186044416 := ok_len (Ok.agg_at hk.1 2 rfl)
 unfold table_view_inconsistent at h
 conv=>whnf
 refine Nf.mk (List.length v_.prefixes) len_map ?_
 conv=>whnf
 obtain ⟨oc, hc, hk51⟩ := bind_some h
 clear h
 have h := hc
 clear hc
 refine Cut.mkS oc (Y := Unit) (fun (_ : Unit) => mkSt [] [] []) (fun (_ : Unit) => True) (by rintro ⟨⟩; exact (Holds.true_ _)) ?_ ?_
 ·conv=>whnf
  refine Loops.iter (fun (s : Nat) => table_view_inconsistent.s1022 v_ s) (fun y14999 => mkSt [(1, .im (.ref (c_table_view v_))), (13, .im (nL cI v_.prefixes)), (14, .im (nI (↑(List.length v_.prefixes) : Int))), (15, .im (nI (↑y14999 : Int)))] [] []) (fun y14999 => List.length v_.prefixes ≤ 17592186044416 ∧ True) h (Ent.mk [] rfl ⟨eI rfl rfl, eI rfl rfl, eI rfl rfl, eI rfl rfl, trivial⟩ trivial trivial) (by rintro y14999; exact ((Holds.avl 13 rfl).and (Holds.true_ _))) ?_
  clear h
  rintro k y14999 o hp h ho18736
  replace h : table_view_inconsistent.s1022 v_ y14999 = some o := h
  unfold table_view_inconsistent.s1022 at h
  obtain ⟨z22473, _⟩ := hp
  conv=>whnf
  refine Both.mk ?_ ?_<;>intro b18737
  ·replace h := cond_t b18737 h
   have b18737d := odt b18737
   conv=>whnf
   obtain ⟨e18738, he18738, h⟩ := idxn_some h
   refine ⟨_, ⟨(by omega), map_at he18738, rfl⟩, ?_⟩
   conv=>whnf
   refine Side.mk (by show inR _; unfold inR; omega) ?_
   conv=>whnf
   obtain ⟨oc, hc, hk18739⟩ := bind_some h
   clear h
   have h := hc
   clear hc
   refine Cut.mkS oc (Y := Unit) (fun (_ : Unit) => mkSt [(1, .im (.ref (c_table_view v_))), (13, .im (nL cI v_.prefixes)), (14, .im (nI (↑(List.length v_.prefixes) : Int))), (15, .im (nI (↑y14999 : Int)))] [] []) (fun (_ : Unit) => List.length v_.prefixes ≤ 17592186044416 ∧ True) (by rintro ⟨⟩; exact ((Holds.avl 13 rfl).and (Holds.true_ _))) ?_ ?_
   ·conv=>whnf
    refine Loops.iter (fun (s : Nat) => table_view_inconsistent.s1021 v_ y14999 e18738 s) (fun k21227 => mkSt [(1, .im (.ref (c_table_view v_))), (5, .im (nI (↑y14999 : Int))), (6, .im (nI e18738)), (7, .im (nI (↑k21227 : Int))), (13, .im (nL cI v_.prefixes)), (14, .im (nI (↑(List.length v_.prefixes) : Int))), (15, .im (nI (↑y14999 : Int)))] [] []) (fun k21227 => List.length v_.prefixes ≤ 17592186044416 ∧ True) h (Ent.mk [] rfl ⟨eI rfl rfl, eI rfl rfl, eI rfl rfl, eI rfl rfl, eI rfl rfl, eI rfl rfl, eI rfl rfl, trivial⟩ trivial trivial) (by rintro k21227; exact ((Holds.avl 13 rfl).and (Holds.true_ _))) ?_
    clear h
    rintro k k21227 o hp h ho21849
    replace h : table_view_inconsistent.s1021 v_ y14999 e18738 k21227 = some o := h
    unfold table_view_inconsistent.s1021 at h
    obtain ⟨z22471, _⟩ := hp
    conv=>whnf
    refine Nf.mk (List.length v_.prefixes) len_map ?_
    conv=>whnf
    refine Both.mk ?_ ?_<;>intro b21850
    ·replace h := cond_t b21850 h
     have b21850d := odt b21850
     conv=>whnf
     obtain ⟨oc, hc, hk21851⟩ := bind_some h
     clear h
     have h := hc
     clear hc
     refine Cut.mkS oc (Y := Unit) (fun (_ : Unit) => mkSt [(1, .im (.ref (c_table_view v_))), (5, .im (nI (↑y14999 : Int))), (6, .im (nI e18738)), (7, .im (nI (↑k21227 : Int))), (13, .im (nL cI v_.prefixes)), (14, .im (nI (↑(List.length v_.prefixes) : Int))), (15, .im (nI (↑y14999 : Int)))] [] []) (fun (_ : Unit) => List.length v_.prefixes ≤ 17592186044416 ∧ True) (by rintro ⟨⟩; exact ((Holds.avl 13 rfl).and (Holds.true_ _))) ?_ ?_
     ·conv=>whnf
      obtain ⟨e22161, he22161, h⟩ := idxn_some h
      refine ⟨_, ⟨(by omega), map_at he22161, rfl⟩, ?_⟩
      conv=>whnf
      refine Both.mk ?_ ?_<;>intro b22162
      ·replace h := cond_t b22162 h
       have b22162d := odt b22162
       conv=>whnf
       cases h
       exact JoinS.mk' _ rfl (Ent.mk [] rfl ⟨eI rfl rfl, eI rfl rfl, eI rfl rfl, eI rfl rfl, eI rfl rfl, eI rfl rfl, eI rfl rfl, trivial⟩ trivial trivial)
      ·replace h := cond_f b22162 h
       have b22162d := odf b22162
       conv=>whnf
       obtain ⟨e22163, he22163, h⟩ := idxn_some h
       refine ⟨_, ⟨(by omega), map_at he22163, rfl⟩, ?_⟩
       conv=>whnf
       refine Nf.mk (List.length e22163) len_map ?_
       conv=>whnf
       obtain ⟨oc, hc, hk22164⟩ := bind_some h
       clear h
       have h := hc
       clear hc
       refine Cut.mkS oc (Y := Unit) (fun (_ : Unit) => mkSt [(1, .im (.ref (c_table_view v_))), (5, .im (nI (↑y14999 : Int))), (6, .im (nI e18738)), (7, .im (nI (↑k21227 : Int))), (13, .im (nL cI v_.prefixes)), (14, .im (nI (↑(List.length v_.prefixes) : Int))), (15, .im (nI (↑y14999 : Int)))] [] []) (fun (_ : Unit) => List.length v_.prefixes ≤ 17592186044416 ∧ True) (by rintro ⟨⟩; exact ((Holds.avl 13 rfl).and (Holds.true_ _))) ?_ ?_
       ·conv=>whnf
        refine Loops.iter (fun (s : Nat) => table_view_inconsistent.s1020 v_ y14999 k21227 e22163 s) (fun y22366 => mkSt [(1, .im (.ref (c_table_view v_))), (5, .im (nI (↑y14999 : Int))), (6, .im (nI e18738)), (7, .im (nI (↑k21227 : Int))), (13, .im (nL cI v_.prefixes)), (14, .im (nI (↑(List.length v_.prefixes) : Int))), (15, .im (nI (↑y14999 : Int))), (41, .im (nI (↑(List.length e22163) : Int))), (42, .im (nI (↑y22366 : Int)))] [] []) (fun y22366 => List.length v_.prefixes ≤ 17592186044416 ∧ True) h (Ent.mk [] rfl ⟨eI rfl rfl, eI rfl rfl, eI rfl rfl, eI rfl rfl, eI rfl rfl, eI rfl rfl, eI rfl rfl, eI rfl rfl, eI rfl rfl, trivial⟩ trivial trivial) (by rintro y22366; exact ((Holds.avl 13 rfl).and (Holds.true_ _))) ?_
        clear h
        rintro k y22366 o hp h ho22417
        replace h : table_view_inconsistent.s1020 v_ y14999 k21227 e22163 y22366 = some o := h
        unfold table_view_inconsistent.s1020 at h
        obtain ⟨z22468, _⟩ := hp
        conv=>whnf
        refine Both.mk ?_ ?_<;>intro b22418
        ·replace h := cond_t b22418 h
         have b22418d := odt b22418
         conv=>whnf
         obtain ⟨e22419, he22419, h⟩ := idxn_some h
         refine ⟨_, ⟨(by omega), map_at he22419, rfl⟩, ?_⟩
         conv=>whnf
         obtain ⟨e22420, he22420, h⟩ := idxn_some h
         refine ⟨_, ⟨(by omega), map_at he22420, rfl⟩, ?_⟩
         conv=>whnf
         obtain ⟨e22421, he22421z, he22421, h⟩ := idx_some h
         refine ⟨_, ⟨he22421z, map_at he22421, rfl⟩, ?_⟩
         conv=>whnf
         obtain ⟨e22422, he22422, h⟩ := idxn_some h
         refine ⟨_, ⟨(by omega), map_at he22422, rfl⟩, ?_⟩
         conv=>whnf
         obtain ⟨e22423, he22423, h⟩ := idxn_some h
         refine ⟨_, ⟨(by omega), map_at he22423, rfl⟩, ?_⟩
         conv=>whnf
         obtain ⟨e22424, he22424z, he22424, h⟩ := idx_some h
         refine ⟨_, ⟨he22424z, map_at he22424, rfl⟩, ?_⟩
         conv=>whnf
         refine Nf.mk (List.length e22421) len_map ?_
         conv=>whnf
         obtain ⟨oc, hc, hk22425⟩ := bind_some h
         clear h
         have h := hc
         clear hc
         refine Cut.mkS oc (Y := Unit) (fun (_ : Unit) => mkSt [(1, .im (.ref (c_table_view v_))), (5, .im (nI (↑y14999 : Int))), (6, .im (nI e18738)), (7, .im (nI (↑k21227 : Int))), (13, .im (nL cI v_.prefixes)), (14, .im (nI (↑(List.length v_.prefixes) : Int))), (15, .im (nI (↑y14999 : Int))), (41, .im (nI (↑(List.length e22163) : Int))), (42, .im (nI (↑y22366 : Int)))] [] []) (fun (_ : Unit) => List.length v_.prefixes ≤ 17592186044416 ∧ True) (by rintro ⟨⟩; exact ((Holds.avl 13 rfl).and (Holds.true_ _))) ?_ ?_
         ·conv=>whnf
          refine Loops.iter (fun (s : Nat) => table_view_inconsistent.s1019 y22366 e22421 e22424 s) (fun y22451 => mkSt [(1, .im (.ref (c_table_view v_))), (5, .im (nI (↑y14999 : Int))), (6, .im (nI e18738)), (7, .im (nI (↑k21227 : Int))), (8, .im (nI (↑y22366 : Int))), (9, .im (nL (cL cI) e22421)), (10, .im (nL (cL cI) e22424)), (13, .im (nL cI v_.prefixes)), (14, .im (nI (↑(List.length v_.prefixes) : Int))), (15, .im (nI (↑y14999 : Int))), (41, .im (nI (↑(List.length e22163) : Int))), (42, .im (nI (↑y22366 : Int))), (70, .im (nI (↑(List.length e22421) : Int))), (71, .im (nI (↑y22451 : Int)))] [] []) (fun y22451 => List.length e22421 ≤ 17592186044416 ∧ List.length e22424 ≤ 17592186044416 ∧ List.length v_.prefixes ≤ 17592186044416 ∧ True) h (Ent.mk [] rfl ⟨eI rfl rfl, eI rfl rfl, eI rfl rfl, eI rfl rfl, eI rfl rfl, eI rfl rfl, eI rfl rfl, eI rfl rfl, eI rfl rfl, eI rfl rfl, eI rfl rfl, eI rfl rfl, eI rfl rfl, eI rfl rfl, trivial⟩ trivial trivial) (by rintro y22451; exact ((Holds.avl 9 rfl).and ((Holds.avl 10 rfl).and ((Holds.avl 13 rfl).and (Holds.true_ _))))) ?_
          clear h
          rintro k y22451 o hp h ho22457
          replace h : table_view_inconsistent.s1019 y22366 e22421 e22424 y22451 = some o := h
          unfold table_view_inconsistent.s1019 at h
          obtain ⟨z22463, z22464, z22465, _⟩ := hp
          conv=>whnf
          refine Both.mk ?_ ?_<;>intro b22458
          ·replace h := cond_t b22458 h
           have b22458d := odt b22458
           conv=>whnf
           obtain ⟨e22459, he22459, h⟩ := idxn_some h
           refine ⟨_, ⟨(by omega), map_at he22459, rfl⟩, ?_⟩
           conv=>whnf
           obtain ⟨e22460, he22460, h⟩ := idxn_some h
           refine ⟨_, ⟨(by omega), map_at he22460, rfl⟩, ?_⟩
           conv=>whnf
           obtain ⟨c22461, hc22461, h⟩ := bind_some h
           refine ⟨_, (sp_slices_Equal_Sint_int e22459 e22460 c22461 (fun _ _ => hc22461)), ?_⟩
           conv=>whnf
           refine Both.mk ?_ ?_<;>intro b22462
           ·replace h := cond_t b22462 h
            conv=>whnf
            cases h
            have ho22457 : _ = _ := ho22457
            cases ho22457
            replace h : some _ = some _ := hk22425
            cases h
            have ho22417 : _ = _ := ho22417
            cases ho22417
            replace h : some _ = some _ := hk22164
            cases h
            replace h : some _ = some _ := hk21851
            cases h
            have ho21849 : _ = _ := ho21849
            cases ho21849
            replace h : some _ = some _ := hk18739
            cases h
            have ho18736 : _ = _ := ho18736
            cases ho18736
            replace h : some _ = some _ := hk51
            cases h
            conv=>whnf
            exact ⟨rfl, rfl⟩
           ·replace h := cond_f b22462 h
            conv=>whnf
            refine Side.mk (by show inR _; unfold inR; omega) ?_
            conv=>whnf
            cases h
            exact Nxt.mk _ ho22457 (Ent.mk [] rfl ⟨eI rfl rfl, eI rfl rfl, eI rfl rfl, eI rfl rfl, eI rfl rfl, eI rfl rfl, eI rfl rfl, eI rfl rfl, eI rfl rfl, eI rfl rfl, eI rfl rfl, eI rfl rfl, eI rfl rfl, eI rfl rfl, trivial⟩ trivial trivial)
          ·replace h := cond_f b22458 h
           have b22458d := odf b22458
           conv=>whnf
           cases h
           have ho22457 : _ = _ := ho22457
           cases ho22457
           exact JoinS.mk' _ rfl (Ent.mk [] rfl ⟨eI rfl rfl, eI rfl rfl, eI rfl rfl, eI rfl rfl, eI rfl rfl, eI rfl rfl, eI rfl rfl, eI rfl rfl, eI rfl rfl, trivial⟩ trivial trivial)
         ·rintro ⟨⟩ rfl hp
          replace h := sum_inl hk22425
          obtain ⟨z22466, _⟩ := hp
          conv=>whnf
          obtain ⟨c22467, h⟩ := chk_some h
          refine Side.mk c22467 ?_
          conv=>whnf
          cases h
          exact Nxt.mk _ ho22417 (Ent.mk [] rfl ⟨eI rfl rfl, eI rfl rfl, eI rfl rfl, eI rfl rfl, eI rfl rfl, eI rfl rfl, eI rfl rfl, eI rfl rfl, eI rfl rfl, trivial⟩ trivial trivial)
        ·replace h := cond_f b22418 h
         have b22418d := odf b22418
         conv=>whnf
         cases h
         have ho22417 : _ = _ := ho22417
         cases ho22417
         exact JoinS.mk' _ rfl (Ent.mk [] rfl ⟨eI rfl rfl, eI rfl rfl, eI rfl rfl, eI rfl rfl, eI rfl rfl, eI rfl rfl, eI rfl rfl, trivial⟩ trivial trivial)
       ·rintro ⟨⟩ rfl hp
        replace h := sum_inl hk22164
        obtain ⟨z22469, _⟩ := hp
        conv=>whnf
        cases h
        exact JoinS.mk' _ rfl (Ent.mk [] rfl ⟨eI rfl rfl, eI rfl rfl, eI rfl rfl, eI rfl rfl, eI rfl rfl, eI rfl rfl, eI rfl rfl, trivial⟩ trivial trivial)
     ·rintro ⟨⟩ rfl hp
      replace h := sum_inl hk21851
      obtain ⟨z22470, _⟩ := hp
      conv=>whnf
      refine Side.mk (by show inR _; unfold inR; omega) ?_
      conv=>whnf
      cases h
      exact Nxt.mk _ ho21849 (Ent.mk [] rfl ⟨eI rfl rfl, eI rfl rfl, eI rfl rfl, eI rfl rfl, eI rfl rfl, eI rfl rfl, eI rfl rfl, trivial⟩ trivial trivial)
    ·replace h := cond_f b21850 h
     have b21850d := odf b21850
     conv=>whnf
     cases h
     have ho21849 : _ = _ := ho21849
     cases ho21849
     exact JoinS.mk' _ rfl (Ent.mk [] rfl ⟨eI rfl rfl, eI rfl rfl, eI rfl rfl, eI rfl rfl, trivial⟩ trivial trivial)
   ·rintro ⟨⟩ rfl hp
    replace h := sum_inl hk18739
    obtain ⟨z22472, _⟩ := hp
    conv=>whnf
    refine Side.mk (by show inR _; unfold inR; omega) ?_
    conv=>whnf
    cases h
    exact Nxt.mk _ ho18736 (Ent.mk [] rfl ⟨eI rfl rfl, eI rfl rfl, eI rfl rfl, eI rfl rfl, trivial⟩ trivial trivial)
  ·replace h := cond_f b18737 h
   have b18737d := odf b18737
   conv=>whnf
   cases h
   have ho18736 : _ = _ := ho18736
   cases ho18736
   exact JoinS.mk' _ rfl (Ent.mk [] rfl trivial trivial trivial)
 ·rintro ⟨⟩ rfl hp
  replace h := sum_inl hk51
  conv=>whnf
  cases h
  conv=>whnf
  exact ⟨rfl, rfl⟩
theorem sp_table_Hypothesis (t_ : T_api_Table) (o_ : T_api_Obs) (r : T_api_Hyp × Int) (h : Ok (.agg (c_api_Table t_)) → Ok (.agg (c_api_Obs o_)) → table_Hypothesis t_ o_ = some r) : Sp Tryz.prog 37 [.im (.agg (c_api_Table t_)), .im (.agg (c_api_Obs o_))] (.tup [.agg (c_api_Hyp r.1), nI r.2]) := by
 refine sp_of rfl [700002, 700003] rfl rfl rfl (Nat.le_of_ble_eq_true rfl) rfl fun hk => ?_
 replace h := h hk.1 hk.2.1
 have z1 : List.length t_.Prefixes ≤ 17592186044416 := ok_len (Ok.agg_at hk.1 1 rfl)
 have z2 : List.length t_.Suffixes ≤ 17592186044416 := ok_len (Ok.agg_at hk.1 2 rfl)
 have z3 : List.length o_.Traces ≤ 17592186044416 := ok_len (Ok.agg_at hk.2.1 1 rfl)
 unfold table_Hypothesis at h
 conv=>whnf
 obtain ⟨c51, hc51, h⟩ := bind_some h
 refine ⟨_, (sp_table_look t_ o_ c51 (fun _ _ => hc51)), ?_⟩
 conv=>whnf
 refine Side.mk rfl ?_
 conv=>whnf
 refine Both.mk ?_ ?_<;>intro b52
 ·replace h := cond_t b52 h
  have b52d := odt b52
  conv=>whnf
  refine Side.mk rfl ?_
  conv=>whnf
  cases h
  conv=>whnf
  refine Side.mk ⟨rfl, trivial⟩ ?_
  conv=>whnf
  exact ⟨rfl, rfl⟩
 ·replace h := cond_f b52 h
  have b52d := odf b52
  conv=>whnf
  refine Side.mk rfl ?_
  conv=>whnf
  obtain ⟨c53, hc53, h⟩ := bind_some h
  refine ⟨_, (sp_table_view_unclosed c51.1 c53 (fun _ => hc53)), ?_⟩
  conv=>whnf
  refine Side.mk rfl ?_
  conv=>whnf
  obtain ⟨c54, hc54, h⟩ := bind_some h
  refine ⟨_, (sp_table_view_inconsistent c51.1 c54 (fun _ => hc54)), ?_⟩
  conv=>whnf
  obtain ⟨y58, hc, hk56⟩ := bind_some h
  clear h
  have h := hc
  clear hc
  refine Cut.mk (mkSt [(2, .im (.ref (c_api_Table t_))), (4, .own 121 1 0), (6, .own 122 1 0), (44, .im (nB y58))] [(121, .box 60 5), (122, .box 111 4)] [(121, 0, .im (nI 0)), (121, 1, .im (nI 0)), (121, 2, .im (.val (.slice none 0 0))), (121, 3, .im (.val (.slice none 0 0))), (121, 4, .im (.val (.slice none 0 0))), (122, 0, .im (nL (cL (cL cI)) c51.1.rows)), (122, 1, .im (nL cI c51.1.prefixes)), (122, 2, .im (nL (cL cI) c51.1.next)), (122, 3, .im (.any))]) (List.length c51.1.rows ≤ 17592186044416 ∧ List.length c51.1.prefixes ≤ 17592186044416 ∧ List.length c51.1.next ≤ 17592186044416 ∧ True) ((Holds.cel 122 0 rfl (by decide) rfl).and ((Holds.cel 122 1 rfl (by decide) rfl).and ((Holds.cel 122 2 rfl (by decide) rfl).and (Holds.true_ _)))) ?_ (fun hp => ?_)
  ·conv=>whnf
   refine Both.mk ?_ ?_<;>intro b59
   ·replace b59 := beq_ff b59
    replace h := cond_f b59 h
    conv=>whnf
    refine Both.no b59 ?_
    conv=>whnf
    cases h
    exact Join.mk (Ent.mk [(121, some 4), (122, some 6)] rfl ⟨eI rfl rfl, ⟨.own 4 _ 0, rfl, .own rfl rfl rfl⟩, ⟨.own 6 _ 0, rfl, .own rfl rfl rfl⟩, eI rfl rfl, trivial⟩ ⟨.inl ⟨4, rfl, rfl, trivial⟩, .inl ⟨6, rfl, rfl, trivial⟩, trivial⟩ ⟨⟨4, .im _, rfl, rfl, .im (Sub.rfl' rfl)⟩, ⟨4, .im _, rfl, rfl, .im (Sub.rfl' rfl)⟩, ⟨4, .im (.val (.slice none 0 0)), rfl, rfl, .im (Sub.rfl' rfl)⟩, ⟨4, .im (.val (.slice none 0 0)), rfl, rfl, .im (Sub.rfl' rfl)⟩, ⟨4, .im (.val (.slice none 0 0)), rfl, rfl, .im (Sub.rfl' rfl)⟩, ⟨6, .im _, rfl, rfl, .im (Sub.rfl' rfl)⟩, ⟨6, .im _, rfl, rfl, .im (Sub.rfl' rfl)⟩, ⟨6, .im _, rfl, rfl, .im (Sub.rfl' rfl)⟩, ⟨6, .im _, rfl, rfl, .im (Sub.rfl' rfl)⟩, trivial⟩)
   ·replace b59 := beq_ft b59
    replace h := cond_t b59 h
    conv=>whnf
    refine Both.yes b59 ?_
    conv=>whnf
    cases h
    exact Join.mk (Ent.mk [(121, some 4), (122, some 6)] rfl ⟨eI rfl rfl, ⟨.own 4 _ 0, rfl, .own rfl rfl rfl⟩, ⟨.own 6 _ 0, rfl, .own rfl rfl rfl⟩, eI rfl rfl, trivial⟩ ⟨.inl ⟨4, rfl, rfl, trivial⟩, .inl ⟨6, rfl, rfl, trivial⟩, trivial⟩ ⟨⟨4, .im _, rfl, rfl, .im (Sub.rfl' rfl)⟩, ⟨4, .im _, rfl, rfl, .im (Sub.rfl' rfl)⟩, ⟨4, .im (.val (.slice none 0 0)), rfl, rfl, .im (Sub.rfl' rfl)⟩, ⟨4, .im (.val (.slice none 0 0)), rfl, rfl, .im (Sub.rfl' rfl)⟩, ⟨4, .im (.val (.slice none 0 0)), rfl, rfl, .im (Sub.rfl' rfl)⟩, ⟨6, .im _, rfl, rfl, .im (Sub.rfl' rfl)⟩, ⟨6, .im _, rfl, rfl, .im (Sub.rfl' rfl)⟩, ⟨6, .im _, rfl, rfl, .im (Sub.rfl' rfl)⟩, ⟨6, .im _, rfl, rfl, .im (Sub.rfl' rfl)⟩, trivial⟩)
  ·replace h := hk56
   obtain ⟨z60, z61, z62, _⟩ := hp
   conv=>whnf
   refine Both.mk ?_ ?_<;>intro b63
   ·replace h := cond_t b63 h
    conv=>whnf
    refine Side.mk rfl ?_
    conv=>whnf
    cases h
    conv=>whnf
    refine Side.mk ⟨rfl, trivial⟩ ?_
    conv=>whnf
    exact ⟨rfl, rfl⟩
   ·replace h := cond_f b63 h
    conv=>whnf
    refine Side.mk rfl ?_
    conv=>whnf
    refine Side.mk rfl ?_
    conv=>whnf
    refine Nf.mk (List.length c51.1.rows) len_map ?_
    conv=>whnf
    refine Both.mk ?_ ?_<;>intro b64
    ·replace h := cond_t b64 h
     have b64d := odt b64
     conv=>whnf
     refine Side.mk rfl ?_
     conv=>whnf
     cases h
     conv=>whnf
     refine Side.mk ⟨rfl, trivial⟩ ?_
     conv=>whnf
     exact ⟨rfl, rfl⟩
    ·replace h := cond_f b64 h
     have b64d := odf b64
     conv=>whnf
     refine Side.mk rfl ?_
     conv=>whnf
     refine Side.mk rfl ?_
     conv=>whnf
     refine Side.mk rfl ?_
     conv=>whnf
     refine Nf.mk (List.length c51.1.prefixes) len_map ?_
     conv=>whnf
     obtain ⟨⟨y506, y507, y508⟩, hc, hk65⟩ := bind_some h
     clear h
     have h := hc
     clear hc
     refine Cut.mk (mkSt [(4, .own 121 1 0), (14, .own 122 1 0)] [(121, .box 60 5), (122, .box 60 5), (123, .row 38 1 (List.map (cL cI) y506)), (124, .row 38 1 (List.map (cL cI) y507)), (125, .row 38 1 (List.map (cL cI) y508))] [(121, 0, .im (nI 0)), (121, 1, .im (nI 0)), (121, 2, .im (.val (.slice none 0 0))), (121, 3, .im (.val (.slice none 0 0))), (121, 4, .im (.val (.slice none 0 0))), (122, 0, .im (nI t_.Inputs)), (122, 1, .im (nI 0)), (122, 2, .osl 123 1), (122, 3, .osl 124 1), (122, 4, .osl 125 1)]) (List.length y506 ≤ 17592186044416 ∧ List.length y507 ≤ 17592186044416 ∧ List.length y508 ≤ 17592186044416 ∧ True) ((Holds.kdl 123 rfl).and ((Holds.kdl 124 rfl).and ((Holds.kdl 125 rfl).and (Holds.true_ _)))) ?_ (fun hp => ?_)
     ·conv=>whnf
      refine Loops.iter (fun (s : List (List Int) × List (List Int) × List (List Int) × Nat) => table_Hypothesis.s32 t_ c51 s.1 s.2.1 s.2.2.1 s.2.2.2) (fun (y636, y637, y638, y639) => mkSt [(2, .im (.ref (c_api_Table t_))), (4, .own 121 1 0), (6, .own 122 1 0), (14, .own 123 1 0), (56, .im (nL cI c51.1.prefixes)), (57, .im (nI (↑(List.length c51.1.prefixes) : Int))), (58, .im (nI (↑y639 : Int)))] [(121, .box 60 5), (122, .box 111 4), (123, .box 60 5), (124, .row 38 1 (List.map (cL cI) y636)), (125, .row 38 1 (List.map (cL cI) y637)), (126, .row 38 1 (List.map (cL cI) y638))] [(121, 0, .im (nI 0)), (121, 1, .im (nI 0)), (121, 2, .im (.val (.slice none 0 0))), (121, 3, .im (.val (.slice none 0 0))), (121, 4, .im (.val (.slice none 0 0))), (122, 0, .im (nL (cL (cL cI)) c51.1.rows)), (122, 1, .im (nL cI c51.1.prefixes)), (122, 2, .im (nL (cL cI) c51.1.next)), (122, 3, .im (.any)), (123, 0, .im (nI t_.Inputs)), (123, 1, .im (nI 0)), (123, 2, .osl 124 1), (123, 3, .osl 125 1), (123, 4, .osl 126 1)]) (fun (y636, y637, y638, y639) => List.length c51.1.prefixes ≤ 17592186044416 ∧ List.length c51.1.rows ≤ 17592186044416 ∧ List.length c51.1.next ≤ 17592186044416 ∧ List.length y636 ≤ 17592186044416 ∧ List.length y637 ≤ 17592186044416 ∧ List.length y638 ≤ 17592186044416 ∧ True) h (Ent.mk [(121, some 121), (122, some 122), (123, some 14), (124, none), (125, none), (126, none)] rfl ⟨eI rfl rfl, ⟨.own 121 _ 0, rfl, .own rfl rfl rfl⟩, ⟨.own 122 _ 0, rfl, .own rfl rfl rfl⟩, ⟨.own 14 _ 0, rfl, .own rfl rfl rfl⟩, eI rfl rfl, eI rfl rfl, eI rfl rfl, trivial⟩ ⟨.inl ⟨121, rfl, rfl, trivial⟩, .inl ⟨122, rfl, rfl, trivial⟩, .inl ⟨14, rfl, rfl, trivial⟩, .inr ⟨rfl, rfl, .inl ⟨_, _, rfl, by decide⟩⟩, .inr ⟨rfl, rfl, .inl ⟨_, _, rfl, by decide⟩⟩, .inr ⟨rfl, rfl, .inl ⟨_, _, rfl, by decide⟩⟩, trivial⟩ ⟨⟨121, .im _, rfl, rfl, .im (Sub.rfl' rfl)⟩, ⟨121, .im _, rfl, rfl, .im (Sub.rfl' rfl)⟩, ⟨121, .im (.val (.slice none 0 0)), rfl, rfl, .im (Sub.rfl' rfl)⟩, ⟨121, .im (.val (.slice none 0 0)), rfl, rfl, .im (Sub.rfl' rfl)⟩, ⟨121, .im (.val (.slice none 0 0)), rfl, rfl, .im (Sub.rfl' rfl)⟩, ⟨122, .im _, rfl, rfl, .im (Sub.rfl' rfl)⟩, ⟨122, .im _, rfl, rfl, .im (Sub.rfl' rfl)⟩, ⟨122, .im _, rfl, rfl, .im (Sub.rfl' rfl)⟩, ⟨122, .im _, rfl, rfl, .im (Sub.rfl' rfl)⟩, ⟨14, .im _, rfl, rfl, .im (Sub.rfl' rfl)⟩, ⟨14, .im _, rfl, rfl, .im (Sub.rfl' rfl)⟩, ⟨14, .im (.val (.slice none 0 0)), rfl, rfl, .made rfl rfl⟩, ⟨14, .im (.val (.slice none 0 0)), rfl, rfl, .made rfl rfl⟩, ⟨14, .im (.val (.slice none 0 0)), rfl, rfl, .made rfl rfl⟩, trivial⟩) (by rintro ⟨y636, y637, y638, y639⟩; exact ((Holds.avl 56 rfl).and ((Holds.cel 122 0 rfl (by decide) rfl).and ((Holds.cel 122 2 rfl (by decide) rfl).and ((Holds.kdl 124 rfl).and ((Holds.kdl 125 rfl).and ((Holds.kdl 126 rfl).and (Holds.true_ _)))))))) ?_
      clear h
      rintro k ⟨y636, y637, y638, y639⟩ o hp h ho791
      replace h : table_Hypothesis.s32 t_ c51 y636 y637 y638 y639 = some o := h
      unfold table_Hypothesis.s32 at h
      obtain ⟨z943, z944, z945, z946, z947, z948, _⟩ := hp
      conv=>whnf
      refine Both.mk ?_ ?_<;>intro b792
      ·replace h := cond_t b792 h
       have b792d := odt b792
       conv=>whnf
       obtain ⟨⟨y864, y865, y866⟩, hc, hk793⟩ := bind_some h
       clear h
       have h := hc
       clear hc
       refine Cut.mk (mkSt [(2, .im (.ref (c_api_Table t_))), (4, .own 121 1 0), (6, .own 122 1 0), (14, .own 123 1 0), (56, .im (nL cI c51.1.prefixes)), (57, .im (nI (↑(List.length c51.1.prefixes) : Int))), (58, .im (nI (↑y639 : Int)))] [(121, .box 60 5), (122, .box 111 4), (123, .box 60 5), (124, .row 38 1 (List.map (cL cI) y864)), (125, .row 38 1 (List.map (cL cI) y865)), (126, .row 38 1 (List.map (cL cI) y866))] [(121, 0, .im (nI 0)), (121, 1, .im (nI 0)), (121, 2, .im (.val (.slice none 0 0))), (121, 3, .im (.val (.slice none 0 0))), (121, 4, .im (.val (.slice none 0 0))), (122, 0, .im (nL (cL (cL cI)) c51.1.rows)), (122, 1, .im (nL cI c51.1.prefixes)), (122, 2, .im (nL (cL cI) c51.1.next)), (122, 3, .im (.any)), (123, 0, .im (nI t_.Inputs)), (123, 1, .im (nI 0)), (123, 2, .osl 124 1), (123, 3, .osl 125 1), (123, 4, .osl 126 1)]) (List.length c51.1.prefixes ≤ 17592186044416 ∧ List.length c51.1.rows ≤ 17592186044416 ∧ List.length c51.1.next ≤ 17592186044416 ∧ List.length y864 ≤ 17592186044416 ∧ List.length y865 ≤ 17592186044416 ∧ List.length y866 ≤ 17592186044416 ∧ True) ((Holds.avl 56 rfl).and ((Holds.cel 122 0 rfl (by decide) rfl).and ((Holds.cel 122 2 rfl (by decide) rfl).and ((Holds.kdl 124 rfl).and ((Holds.kdl 125 rfl).and ((Holds.kdl 126 rfl).and (Holds.true_ _))))))) ?_ (fun hp => ?_)
       ·conv=>whnf
        obtain ⟨e867, he867, h⟩ := idxn_some h
        refine ⟨_, ⟨(by omega), map_at he867, rfl⟩, ?_⟩
        conv=>whnf
        refine Side.mk rfl ?_
        conv=>whnf
        refine Side.mk rfl ?_
        conv=>whnf
        refine Side.mk rfl ?_
        conv=>whnf
        refine Nf.mk (List.length y638) len_map ?_
        conv=>whnf
        refine Both.mk ?_ ?_<;>intro b868
        ·replace h := cond_t b868 h
         have b868d := odt b868
         conv=>whnf
         cases h
         exact Join.mk (Ent.mk [(121, some 121), (122, some 122), (123, some 123), (124, some 124), (125, some 125), (126, some 126)] rfl ⟨eI rfl rfl, ⟨.own 121 _ 0, rfl, .own rfl rfl rfl⟩, ⟨.own 122 _ 0, rfl, .own rfl rfl rfl⟩, ⟨.own 123 _ 0, rfl, .own rfl rfl rfl⟩, eI rfl rfl, eI rfl rfl, eI rfl rfl, trivial⟩ ⟨.inl ⟨121, rfl, rfl, trivial⟩, .inl ⟨122, rfl, rfl, trivial⟩, .inl ⟨123, rfl, rfl, trivial⟩, .inl ⟨124, rfl, rfl, trivial⟩, .inl ⟨125, rfl, rfl, trivial⟩, .inl ⟨126, rfl, rfl, trivial⟩, trivial⟩ ⟨⟨121, .im _, rfl, rfl, .im (Sub.rfl' rfl)⟩, ⟨121, .im _, rfl, rfl, .im (Sub.rfl' rfl)⟩, ⟨121, .im (.val (.slice none 0 0)), rfl, rfl, .im (Sub.rfl' rfl)⟩, ⟨121, .im (.val (.slice none 0 0)), rfl, rfl, .im (Sub.rfl' rfl)⟩, ⟨121, .im (.val (.slice none 0 0)), rfl, rfl, .im (Sub.rfl' rfl)⟩, ⟨122, .im _, rfl, rfl, .im (Sub.rfl' rfl)⟩, ⟨122, .im _, rfl, rfl, .im (Sub.rfl' rfl)⟩, ⟨122, .im _, rfl, rfl, .im (Sub.rfl' rfl)⟩, ⟨122, .im _, rfl, rfl, .im (Sub.rfl' rfl)⟩, ⟨123, .im _, rfl, rfl, .im (Sub.rfl' rfl)⟩, ⟨123, .im _, rfl, rfl, .im (Sub.rfl' rfl)⟩, ⟨123, .osl 124 _, rfl, rfl, .osl rfl rfl rfl⟩, ⟨123, .osl 125 _, rfl, rfl, .osl rfl rfl rfl⟩, ⟨123, .osl 126 _, rfl, rfl, .osl rfl rfl rfl⟩, trivial⟩)
        ·replace h := cond_f b868 h
         have b868d := odf b868
         conv=>whnf
         obtain ⟨y896, hc, hk869⟩ := bind_some h
         clear h
         have h := hc
         clear hc
         refine Cut.mk (mkSt [(2, .im (.ref (c_api_Table t_))), (4, .own 121 1 0), (6, .own 122 1 0), (14, .own 123 1 0), (15, .im (nI (↑y639 : Int))), (17, .osl 127 1), (56, .im (nL cI c51.1.prefixes)), (57, .im (nI (↑(List.length c51.1.prefixes) : Int))), (58, .im (nI (↑y639 : Int)))] [(121, .box 60 5), (122, .box 111 4), (123, .box 60 5), (124, .row 38 1 (List.map (cL cI) y636)), (125, .row 38 1 (List.map (cL cI) y637)), (126, .row 38 1 (List.map (cL cI) y638)), (127, .row 3 1 (List.map cI y896))] [(121, 0, .im (nI 0)), (121, 1, .im (nI 0)), (121, 2, .im (.val (.slice none 0 0))), (121, 3, .im (.val (.slice none 0 0))), (121, 4, .im (.val (.slice none 0 0))), (122, 0, .im (nL (cL (cL cI)) c51.1.rows)), (122, 1, .im (nL cI c51.1.prefixes)), (122, 2, .im (nL (cL cI) c51.1.next)), (122, 3, .im (.any)), (123, 0, .im (nI t_.Inputs)), (123, 1, .im (nI 0)), (123, 2, .osl 124 1), (123, 3, .osl 125 1), (123, 4, .osl 126 1)]) (List.length c51.1.prefixes ≤ 17592186044416 ∧ List.length c51.1.rows ≤ 17592186044416 ∧ List.length c51.1.next ≤ 17592186044416 ∧ List.length y636 ≤ 17592186044416 ∧ List.length y637 ≤ 17592186044416 ∧ List.length y638 ≤ 17592186044416 ∧ List.length y896 ≤ 17592186044416 ∧ True) ((Holds.avl 56 rfl).and ((Holds.cel 122 0 rfl (by decide) rfl).and ((Holds.cel 122 2 rfl (by decide) rfl).and ((Holds.kdl 124 rfl).and ((Holds.kdl 125 rfl).and ((Holds.kdl 126 rfl).and ((Holds.kdl 127 rfl).and (Holds.true_ _)))))))) ?_ (fun hp => ?_)
         ·conv=>whnf
          refine Loops.iter (fun (s : List Int × Nat) => table_Hypothesis.s30 t_ c51 e867 s.1 s.2) (fun (y901, y902) => mkSt [(2, .im (.ref (c_api_Table t_))), (4, .own 121 1 0), (6, .own 122 1 0), (14, .own 123 1 0), (15, .im (nI (↑y639 : Int))), (16, .im (nI e867)), (17, .osl 127 1), (56, .im (nL cI c51.1.prefixes)), (57, .im (nI (↑(List.length c51.1.prefixes) : Int))), (58, .im (nI (↑y639 : Int))), (69, .im (nI t_.Inputs)), (70, .im (nI (↑y902 : Int)))] [(121, .box 60 5), (122, .box 111 4), (123, .box 60 5), (124, .row 38 1 (List.map (cL cI) y636)), (125, .row 38 1 (List.map (cL cI) y637)), (126, .row 38 1 (List.map (cL cI) y638)), (127, .row 3 1 (List.map cI y901))] [(121, 0, .im (nI 0)), (121, 1, .im (nI 0)), (121, 2, .im (.val (.slice none 0 0))), (121, 3, .im (.val (.slice none 0 0))), (121, 4, .im (.val (.slice none 0 0))), (122, 0, .im (nL (cL (cL cI)) c51.1.rows)), (122, 1, .im (nL cI c51.1.prefixes)), (122, 2, .im (nL (cL cI) c51.1.next)), (122, 3, .im (.any)), (123, 0, .im (nI t_.Inputs)), (123, 1, .im (nI 0)), (123, 2, .osl 124 1), (123, 3, .osl 125 1), (123, 4, .osl 126 1)]) (fun (y901, y902) => List.length c51.1.prefixes ≤ 17592186044416 ∧ List.length c51.1.rows ≤ 17592186044416 ∧ List.length c51.1.next ≤ 17592186044416 ∧ List.length y636 ≤ 17592186044416 ∧ List.length y637 ≤ 17592186044416 ∧ List.length y638 ≤ 17592186044416 ∧ List.length y901 ≤ 17592186044416 ∧ True) h (Ent.mk [(121, some 121), (122, some 122), (123, some 123), (124, some 124), (125, some 125), (126, some 126), (127, none)] rfl ⟨eI rfl rfl, ⟨.own 121 _ 0, rfl, .own rfl rfl rfl⟩, ⟨.own 122 _ 0, rfl, .own rfl rfl rfl⟩, ⟨.own 123 _ 0, rfl, .own rfl rfl rfl⟩, eI rfl rfl, eI rfl rfl, ⟨.im (.val (.slice none 0 0)), rfl, .made rfl rfl⟩, eI rfl rfl, eI rfl rfl, eI rfl rfl, eI rfl rfl, eI rfl rfl, trivial⟩ ⟨.inl ⟨121, rfl, rfl, trivial⟩, .inl ⟨122, rfl, rfl, trivial⟩, .inl ⟨123, rfl, rfl, trivial⟩, .inl ⟨124, rfl, rfl, trivial⟩, .inl ⟨125, rfl, rfl, trivial⟩, .inl ⟨126, rfl, rfl, trivial⟩, .inr ⟨rfl, rfl, .inl ⟨_, _, rfl, by decide⟩⟩, trivial⟩ ⟨⟨121, .im _, rfl, rfl, .im (Sub.rfl' rfl)⟩, ⟨121, .im _, rfl, rfl, .im (Sub.rfl' rfl)⟩, ⟨121, .im (.val (.slice none 0 0)), rfl, rfl, .im (Sub.rfl' rfl)⟩, ⟨121, .im (.val (.slice none 0 0)), rfl, rfl, .im (Sub.rfl' rfl)⟩, ⟨121, .im (.val (.slice none 0 0)), rfl, rfl, .im (Sub.rfl' rfl)⟩, ⟨122, .im _, rfl, rfl, .im (Sub.rfl' rfl)⟩, ⟨122, .im _, rfl, rfl, .im (Sub.rfl' rfl)⟩, ⟨122, .im _, rfl, rfl, .im (Sub.rfl' rfl)⟩, ⟨122, .im _, rfl, rfl, .im (Sub.rfl' rfl)⟩, ⟨123, .im _, rfl, rfl, .im (Sub.rfl' rfl)⟩, ⟨123, .im _, rfl, rfl, .im (Sub.rfl' rfl)⟩, ⟨123, .osl 124 _, rfl, rfl, .osl rfl rfl rfl⟩, ⟨123, .osl 125 _, rfl, rfl, .osl rfl rfl rfl⟩, ⟨123, .osl 126 _, rfl, rfl, .osl rfl rfl rfl⟩, trivial⟩) (by rintro ⟨y901, y902⟩; exact ((Holds.avl 56 rfl).and ((Holds.cel 122 0 rfl (by decide) rfl).and ((Holds.cel 122 2 rfl (by decide) rfl).and ((Holds.kdl 124 rfl).and ((Holds.kdl 125 rfl).and ((Holds.kdl 126 rfl).and ((Holds.kdl 127 rfl).and (Holds.true_ _))))))))) ?_
          clear h
          rintro k ⟨y901, y902⟩ o hp h ho909
          replace h : table_Hypothesis.s30 t_ c51 e867 y901 y902 = some o := h
          unfold table_Hypothesis.s30 at h
          obtain ⟨z916, z917, z918, z919, z920, z921, z922, _⟩ := hp
          conv=>whnf
          refine Both.mk ?_ ?_<;>intro b910
          ·replace h := cond_t b910 h
           have b910d := odt b910
           conv=>whnf
           refine Side.mk rfl ?_
           conv=>whnf
           refine Side.mk rfl ?_
           conv=>whnf
           obtain ⟨e911, he911z, he911, h⟩ := idx_some h
           refine ⟨_, ⟨he911z, map_at he911, rfl⟩, ?_⟩
           conv=>whnf
           obtain ⟨e912, he912, h⟩ := idxn_some h
           refine ⟨_, ⟨(by omega), map_at he912, rfl⟩, ?_⟩
           conv=>whnf
           obtain ⟨e913, he913, h⟩ := idxn_some h
           refine ⟨_, ⟨(by omega), map_at he913, rfl⟩, ?_⟩
           conv=>whnf
           obtain ⟨c914, h⟩ := chk_some h
           refine Side.mk ⟨rfl, map_len (l := [e913]) (c := cI) fun _ => rfl, show capOk _ 8 by simpa only [List.length_map, List.length_cons, List.length_nil, Nat.zero_add] using c914⟩ ?_
           conv=>whnf
           refine Nf.mk (List.map cI (y901 ++ [e913])) (app_map (l := y901) (m := [e913]) (c := cI)) ?_
           conv=>whnf
           obtain ⟨c915, h⟩ := chk_some h
           refine Side.mk c915 ?_
           conv=>whnf
           cases h
           exact Nxt.mk _ ho909 (Ent.mk [(121, some 121), (122, some 122), (123, some 123), (124, some 124), (125, some 125), (126, some 126), (127, some 127)] rfl ⟨eI rfl rfl, ⟨.own 121 _ 0, rfl, .own rfl rfl rfl⟩, ⟨.own 122 _ 0, rfl, .own rfl rfl rfl⟩, ⟨.own 123 _ 0, rfl, .own rfl rfl rfl⟩, eI rfl rfl, eI rfl rfl, ⟨.osl 127 _, rfl, .osl rfl rfl rfl⟩, eI rfl rfl, eI rfl rfl, eI rfl rfl, eI rfl rfl, eI rfl rfl, trivial⟩ ⟨.inl ⟨121, rfl, rfl, trivial⟩, .inl ⟨122, rfl, rfl, trivial⟩, .inl ⟨123, rfl, rfl, trivial⟩, .inl ⟨124, rfl, rfl, trivial⟩, .inl ⟨125, rfl, rfl, trivial⟩, .inl ⟨126, rfl, rfl, trivial⟩, .inl ⟨127, rfl, rfl, trivial⟩, trivial⟩ ⟨⟨121, .im _, rfl, rfl, .im (Sub.rfl' rfl)⟩, ⟨121, .im _, rfl, rfl, .im (Sub.rfl' rfl)⟩, ⟨121, .im (.val (.slice none 0 0)), rfl, rfl, .im (Sub.rfl' rfl)⟩, ⟨121, .im (.val (.slice none 0 0)), rfl, rfl, .im (Sub.rfl' rfl)⟩, ⟨121, .im (.val (.slice none 0 0)), rfl, rfl, .im (Sub.rfl' rfl)⟩, ⟨122, .im _, rfl, rfl, .im (Sub.rfl' rfl)⟩, ⟨122, .im _, rfl, rfl, .im (Sub.rfl' rfl)⟩, ⟨122, .im _, rfl, rfl, .im (Sub.rfl' rfl)⟩, ⟨122, .im _, rfl, rfl, .im (Sub.rfl' rfl)⟩, ⟨123, .im _, rfl, rfl, .im (Sub.rfl' rfl)⟩, ⟨123, .im _, rfl, rfl, .im (Sub.rfl' rfl)⟩, ⟨123, .osl 124 _, rfl, rfl, .osl rfl rfl rfl⟩, ⟨123, .osl 125 _, rfl, rfl, .osl rfl rfl rfl⟩, ⟨123, .osl 126 _, rfl, rfl, .osl rfl rfl rfl⟩, trivial⟩)
          ·replace h := cond_f b910 h
           have b910d := odf b910
           conv=>whnf
           cases h
           have ho909 : _ = _ := ho909
           cases ho909
           exact Join.mk (Ent.mk [(121, some 121), (122, some 122), (123, some 123), (124, some 124), (125, some 125), (126, some 126), (127, some 127)] rfl ⟨eI rfl rfl, ⟨.own 121 _ 0, rfl, .own rfl rfl rfl⟩, ⟨.own 122 _ 0, rfl, .own rfl rfl rfl⟩, ⟨.own 123 _ 0, rfl, .own rfl rfl rfl⟩, eI rfl rfl, ⟨.osl 127 _, rfl, .osl rfl rfl rfl⟩, eI rfl rfl, eI rfl rfl, eI rfl rfl, trivial⟩ ⟨.inl ⟨121, rfl, rfl, trivial⟩, .inl ⟨122, rfl, rfl, trivial⟩, .inl ⟨123, rfl, rfl, trivial⟩, .inl ⟨124, rfl, rfl, trivial⟩, .inl ⟨125, rfl, rfl, trivial⟩, .inl ⟨126, rfl, rfl, trivial⟩, .inl ⟨127, rfl, rfl, trivial⟩, trivial⟩ ⟨⟨121, .im _, rfl, rfl, .im (Sub.rfl' rfl)⟩, ⟨121, .im _, rfl, rfl, .im (Sub.rfl' rfl)⟩, ⟨121, .im (.val (.slice none 0 0)), rfl, rfl, .im (Sub.rfl' rfl)⟩, ⟨121, .im (.val (.slice none 0 0)), rfl, rfl, .im (Sub.rfl' rfl)⟩, ⟨121, .im (.val (.slice none 0 0)), rfl, rfl, .im (Sub.rfl' rfl)⟩, ⟨122, .im _, rfl, rfl, .im (Sub.rfl' rfl)⟩, ⟨122, .im _, rfl, rfl, .im (Sub.rfl' rfl)⟩, ⟨122, .im _, rfl, rfl, .im (Sub.rfl' rfl)⟩, ⟨122, .im _, rfl, rfl, .im (Sub.rfl' rfl)⟩, ⟨123, .im _, rfl, rfl, .im (Sub.rfl' rfl)⟩, ⟨123, .im _, rfl, rfl, .im (Sub.rfl' rfl)⟩, ⟨123, .osl 124 _, rfl, rfl, .osl rfl rfl rfl⟩, ⟨123, .osl 125 _, rfl, rfl, .osl rfl rfl rfl⟩, ⟨123, .osl 126 _, rfl, rfl, .osl rfl rfl rfl⟩, trivial⟩)
         ·replace h := hk869
          obtain ⟨z923, z924, z925, z926, z927, z928, z929, _⟩ := hp
          conv=>whnf
          refine Side.mk rfl ?_
          conv=>whnf
          refine Side.mk rfl ?_
          conv=>whnf
          refine Side.mk rfl ?_
          conv=>whnf
          refine Side.mk rfl ?_
          conv=>whnf
          refine Side.mk rfl ?_
          conv=>whnf
          obtain ⟨e930, he930, h⟩ := idxn_some h
          refine ⟨_, ⟨(by omega), map_at he930, rfl⟩, ?_⟩
          conv=>whnf
          obtain ⟨c931, hc931, h⟩ := bind_some h
          refine ⟨_, (sp_lib_Clone_int e930 c931 (hc931)).im, ?_⟩
          conv=>whnf
          obtain ⟨c932, h⟩ := chk_some h
          refine Side.mk ⟨rfl, map_len (l := [c931]) (c := cL cI) fun _ => rfl, show capOk _ 24 by simpa only [List.length_map, List.length_cons, List.length_nil, Nat.zero_add] using c932⟩ ?_
          conv=>whnf
          refine Nf.mk (List.map (cL cI) (y636 ++ [c931])) (app_map (l := y636) (m := [c931]) (c := cL cI)) ?_
          conv=>whnf
          refine Side.mk rfl ?_
          conv=>whnf
          refine Side.mk rfl ?_
          conv=>whnf
          refine Side.mk rfl ?_
          conv=>whnf
          refine Side.mk rfl ?_
          conv=>whnf
          refine Side.mk rfl ?_
          conv=>whnf
          refine Side.mk rfl ?_
          conv=>whnf
          refine Side.mk ⟨rfl, trivial⟩ ?_
          conv=>whnf
          obtain ⟨c933, h⟩ := chk_some h
          refine Side.mk ⟨rfl, map_len (l := [y896]) (c := cL cI) fun _ => rfl, show capOk _ 24 by simpa only [List.length_map, List.length_cons, List.length_nil, Nat.zero_add] using c933⟩ ?_
          conv=>whnf
          refine Nf.mk (List.map (cL cI) (y637 ++ [y896])) (app_map (l := y637) (m := [y896]) (c := cL cI)) ?_
          conv=>whnf
          refine Side.mk rfl ?_
          conv=>whnf
          refine Side.mk rfl ?_
          conv=>whnf
          refine Side.mk rfl ?_
          conv=>whnf
          refine Side.mk rfl ?_
          conv=>whnf
          refine Side.mk rfl ?_
          conv=>whnf
          obtain ⟨e934, he934, h⟩ := idxn_some h
          refine ⟨_, ⟨(by omega), map_at he934, rfl⟩, ?_⟩
          conv=>whnf
          obtain ⟨c935, hc935, h⟩ := bind_some h
          refine ⟨_, (sp_lib_Clone_int e934 c935 (hc935)).im, ?_⟩
          conv=>whnf
          obtain ⟨c936, h⟩ := chk_some h
          refine Side.mk ⟨rfl, map_len (l := [c935]) (c := cL cI) fun _ => rfl, show capOk _ 24 by simpa only [List.length_map, List.length_cons, List.length_nil, Nat.zero_add] using c936⟩ ?_
          conv=>whnf
          refine Nf.mk (List.map (cL cI) (y638 ++ [c935])) (app_map (l := y638) (m := [c935]) (c := cL cI)) ?_
          conv=>whnf
          refine Side.mk rfl ?_
          conv=>whnf
          refine Side.mk rfl ?_
          conv=>whnf
          cases h
          exact Join.mk (Ent.mk [(121, some 121), (122, some 122), (123, some 123), (124, some 124), (125, some 125), (126, some 126)] rfl ⟨eI rfl rfl, ⟨.own 121 _ 0, rfl, .own rfl rfl rfl⟩, ⟨.own 122 _ 0, rfl, .own rfl rfl rfl⟩, ⟨.own 123 _ 0, rfl, .own rfl rfl rfl⟩, eI rfl rfl, eI rfl rfl, eI rfl rfl, trivial⟩ ⟨.inl ⟨121, rfl, rfl, trivial⟩, .inl ⟨122, rfl, rfl, trivial⟩, .inl ⟨123, rfl, rfl, trivial⟩, .inl ⟨124, rfl, rfl, trivial⟩, .inl ⟨125, rfl, rfl, trivial⟩, .inl ⟨126, rfl, rfl, trivial⟩, trivial⟩ ⟨⟨121, .im _, rfl, rfl, .im (Sub.rfl' rfl)⟩, ⟨121, .im _, rfl, rfl, .im (Sub.rfl' rfl)⟩, ⟨121, .im (.val (.slice none 0 0)), rfl, rfl, .im (Sub.rfl' rfl)⟩, ⟨121, .im (.val (.slice none 0 0)), rfl, rfl, .im (Sub.rfl' rfl)⟩, ⟨121, .im (.val (.slice none 0 0)), rfl, rfl, .im (Sub.rfl' rfl)⟩, ⟨122, .im _, rfl, rfl, .im (Sub.rfl' rfl)⟩, ⟨122, .im _, rfl, rfl, .im (Sub.rfl' rfl)⟩, ⟨122, .im _, rfl, rfl, .im (Sub.rfl' rfl)⟩, ⟨122, .im _, rfl, rfl, .im (Sub.rfl' rfl)⟩, ⟨123, .im _, rfl, rfl, .im (Sub.rfl' rfl)⟩, ⟨123, .im _, rfl, rfl, .im (Sub.rfl' rfl)⟩, ⟨123, .osl 124 _, rfl, rfl, .osl rfl rfl rfl⟩, ⟨123, .osl 125 _, rfl, rfl, .osl rfl rfl rfl⟩, ⟨123, .osl 126 _, rfl, rfl, .osl rfl rfl rfl⟩, trivial⟩)
       ·replace h : table_Hypothesis.k31 y639 y864 y865 y866 = some _ := hk793
        unfold table_Hypothesis.k31 at h
        obtain ⟨z937, z938, z939, z940, z941, z942, _⟩ := hp
        conv=>whnf
        refine Side.mk (by show inR _; unfold inR; omega) ?_
        conv=>whnf
        cases h
        exact Nxt.mk _ ho791 (Ent.mk [(121, some 121), (122, some 122), (123, some 123), (124, some 124), (125, some 125), (126, some 126)] rfl ⟨eI rfl rfl, ⟨.own 121 _ 0, rfl, .own rfl rfl rfl⟩, ⟨.own 122 _ 0, rfl, .own rfl rfl rfl⟩, ⟨.own 123 _ 0, rfl, .own rfl rfl rfl⟩, eI rfl rfl, eI rfl rfl, eI rfl rfl, trivial⟩ ⟨.inl ⟨121, rfl, rfl, trivial⟩, .inl ⟨122, rfl, rfl, trivial⟩, .inl ⟨123, rfl, rfl, trivial⟩, .inl ⟨124, rfl, rfl, trivial⟩, .inl ⟨125, rfl, rfl, trivial⟩, .inl ⟨126, rfl, rfl, trivial⟩, trivial⟩ ⟨⟨121, .im _, rfl, rfl, .im (Sub.rfl' rfl)⟩, ⟨121, .im _, rfl, rfl, .im (Sub.rfl' rfl)⟩, ⟨121, .im (.val (.slice none 0 0)), rfl, rfl, .im (Sub.rfl' rfl)⟩, ⟨121, .im (.val (.slice none 0 0)), rfl, rfl, .im (Sub.rfl' rfl)⟩, ⟨121, .im (.val (.slice none 0 0)), rfl, rfl, .im (Sub.rfl' rfl)⟩, ⟨122, .im _, rfl, rfl, .im (Sub.rfl' rfl)⟩, ⟨122, .im _, rfl, rfl, .im (Sub.rfl' rfl)⟩, ⟨122, .im _, rfl, rfl, .im (Sub.rfl' rfl)⟩, ⟨122, .im _, rfl, rfl, .im (Sub.rfl' rfl)⟩, ⟨123, .im _, rfl, rfl, .im (Sub.rfl' rfl)⟩, ⟨123, .im _, rfl, rfl, .im (Sub.rfl' rfl)⟩, ⟨123, .osl 124 _, rfl, rfl, .osl rfl rfl rfl⟩, ⟨123, .osl 125 _, rfl, rfl, .osl rfl rfl rfl⟩, ⟨123, .osl 126 _, rfl, rfl, .osl rfl rfl rfl⟩, trivial⟩)
      ·replace h := cond_f b792 h
       have b792d := odf b792
       conv=>whnf
       cases h
       have ho791 : _ = _ := ho791
       cases ho791
       exact Join.mk (Ent.mk [(121, some 121), (122, some 123), (123, some 124), (124, some 125), (125, some 126)] rfl ⟨⟨.own 121 _ 0, rfl, .own rfl rfl rfl⟩, ⟨.own 123 _ 0, rfl, .own rfl rfl rfl⟩, trivial⟩ ⟨.inl ⟨121, rfl, rfl, trivial⟩, .inl ⟨123, rfl, rfl, trivial⟩, .inl ⟨124, rfl, rfl, trivial⟩, .inl ⟨125, rfl, rfl, trivial⟩, .inl ⟨126, rfl, rfl, trivial⟩, trivial⟩ ⟨⟨121, .im _, rfl, rfl, .im (Sub.rfl' rfl)⟩, ⟨121, .im _, rfl, rfl, .im (Sub.rfl' rfl)⟩, ⟨121, .im (.val (.slice none 0 0)), rfl, rfl, .im (Sub.rfl' rfl)⟩, ⟨121, .im (.val (.slice none 0 0)), rfl, rfl, .im (Sub.rfl' rfl)⟩, ⟨121, .im (.val (.slice none 0 0)), rfl, rfl, .im (Sub.rfl' rfl)⟩, ⟨123, .im _, rfl, rfl, .im (Sub.rfl' rfl)⟩, ⟨123, .im _, rfl, rfl, .im (Sub.rfl' rfl)⟩, ⟨123, .osl 124 _, rfl, rfl, .osl rfl rfl rfl⟩, ⟨123, .osl 125 _, rfl, rfl, .osl rfl rfl rfl⟩, ⟨123, .osl 126 _, rfl, rfl, .osl rfl rfl rfl⟩, trivial⟩)
     ·replace h : table_Hypothesis.k33 t_ y506 y507 y508 = some _ := hk65
      unfold table_Hypothesis.k33 at h
      obtain ⟨z949, z950, z951, _⟩ := hp
      conv=>whnf
      refine Side.mk rfl ?_
      conv=>whnf
      refine Side.mk rfl ?_
      conv=>whnf
      cases h
      conv=>whnf
      refine Side.mk ⟨rfl, trivial⟩ ?_
      conv=>whnf
      exact Side.mk ⟨rfl, rfl, rfl, trivial⟩ ⟨rfl, rfl⟩
theorem sp_R06_Outs (m_ : T_api_Mealy) (s_ : Int) (w_ : List Int) (r : List Int × Int) (h : Ok (.agg (c_api_Mealy m_)) → Ok (nI s_) → Ok (nL cI w_) → R06_Outs m_ s_ w_ = some r) : Sp Tryz.prog 41 [.im (.agg (c_api_Mealy m_)), .im (nI s_), .im (nL cI w_)] (.tup [nL cI r.1, nI r.2]) := by
 refine sp_of rfl [700003] rfl rfl rfl (Nat.le_of_ble_eq_true rfl) rfl fun hk => ?_
 replace h := h hk.1 hk.2.1 hk.2.2.1
 have z1 : List.length m_.Next ≤ 17592186044416 := ok_len (Ok.agg_at hk.1 2 rfl)
 have z2 : List.length m_.Out ≤ 17592186044416 := ok_len (Ok.agg_at hk.1 3 rfl)
 have z3 : List.length w_ ≤ 17592186044416 := ok_len hk.2.2.1
 unfold R06_Outs at h
 conv=>whnf
 obtain ⟨⟨s81, y82⟩, hc, hk51⟩ := bind_some h
 clear h
 have h := hc
 clear hc
 refine Cut.mk (mkSt [(1, .im (nI s81)), (8, .osl 64 1)] [(64, .row 3 1 (List.map cI y82))] []) (List.length y82 ≤ 17592186044416 ∧ True) ((Holds.kdl 64 rfl).and (Holds.true_ _)) ?_ (fun hp => ?_)
 ·conv=>whnf
  refine Loops.iter (fun (s : Int × List Int × Nat) => R06_Outs.s2 m_ w_ s.1 s.2.1 s.2.2) (fun (s90, y91, i92) => mkSt [(1, .im (nI s90)), (2, .im (nL cI w_)), (3, .im (.ref (c_api_Mealy m_))), (8, .osl 64 1), (9, .im (nI (↑i92 : Int)))] [(64, .row 3 1 (List.map cI y91))] []) (fun (s90, y91, i92) => List.length w_ ≤ 17592186044416 ∧ List.length y91 ≤ 17592186044416 ∧ True) h (Ent.mk [(64, none)] rfl ⟨eI rfl rfl, eI rfl rfl, eI rfl rfl, ⟨.im (.val (.slice none 0 0)), rfl, .made rfl rfl⟩, eI rfl rfl, trivial⟩ ⟨.inr ⟨rfl, rfl, .inl ⟨_, _, rfl, by decide⟩⟩, trivial⟩ trivial) (by rintro ⟨s90, y91, i92⟩; exact ((Holds.avl 2 rfl).and ((Holds.kdl 64 rfl).and (Holds.true_ _)))) ?_
  clear h
  rintro k ⟨s90, y91, i92⟩ o hp h ho101
  replace h : R06_Outs.s2 m_ w_ s90 y91 i92 = some o := h
  unfold R06_Outs.s2 at h
  obtain ⟨z110, z111, _⟩ := hp
  conv=>whnf
  refine Nf.mk (List.length w_) len_map ?_
  conv=>whnf
  refine Both.mk ?_ ?_<;>intro b102
  ·replace h := cond_t b102 h
   have b102d := odt b102
   conv=>whnf
   obtain ⟨e103, he103z, he103, h⟩ := idx_some h
   refine ⟨_, ⟨he103z, map_at he103, rfl⟩, ?_⟩
   conv=>whnf
   obtain ⟨e104, he104, h⟩ := idxn_some h
   refine ⟨_, ⟨(by omega), map_at he104, rfl⟩, ?_⟩
   conv=>whnf
   obtain ⟨e105, he105z, he105, h⟩ := idx_some h
   refine ⟨_, ⟨he105z, map_at he105, rfl⟩, ?_⟩
   conv=>whnf
   obtain ⟨c106, h⟩ := chk_some h
   refine Side.mk ⟨rfl, map_len (l := [e105]) (c := cI) fun _ => rfl, show capOk _ 8 by simpa only [List.length_map, List.length_cons, List.length_nil, Nat.zero_add] using c106⟩ ?_
   conv=>whnf
   refine Nf.mk (List.map cI (y91 ++ [e105])) (app_map (l := y91) (m := [e105]) (c := cI)) ?_
   conv=>whnf
   obtain ⟨e107, he107z, he107, h⟩ := idx_some h
   refine ⟨_, ⟨he107z, map_at he107, rfl⟩, ?_⟩
   conv=>whnf
   obtain ⟨e108, he108, h⟩ := idxn_some h
   refine ⟨_, ⟨(by omega), map_at he108, rfl⟩, ?_⟩
   conv=>whnf
   obtain ⟨e109, he109z, he109, h⟩ := idx_some h
   refine ⟨_, ⟨he109z, map_at he109, rfl⟩, ?_⟩
   conv=>whnf
   refine Side.mk (by show inR _; unfold inR; omega) ?_
   conv=>whnf
   cases h
   exact Nxt.mk _ ho101 (Ent.mk [(64, some 64)] rfl ⟨eI rfl rfl, eI rfl rfl, eI rfl rfl, ⟨.osl 64 _, rfl, .osl rfl rfl rfl⟩, eI rfl rfl, trivial⟩ ⟨.inl ⟨64, rfl, rfl, trivial⟩, trivial⟩ trivial)
  ·replace h := cond_f b102 h
   have b102d := odf b102
   conv=>whnf
   cases h
   have ho101 : _ = _ := ho101
   cases ho101
   exact Join.mk (Ent.mk [(64, some 64)] rfl ⟨eI rfl rfl, ⟨.osl 64 _, rfl, .osl rfl rfl rfl⟩, trivial⟩ ⟨.inl ⟨64, rfl, rfl, trivial⟩, trivial⟩ trivial)
 ·replace h : R06_Outs.k3 s81 y82 = some _ := hk51
  unfold R06_Outs.k3 at h
  obtain ⟨z112, _⟩ := hp
  conv=>whnf
  cases h
  conv=>whnf
  exact Side.mk ⟨rfl, trivial⟩ ⟨rfl, rfl⟩
theorem sp_R06_row (m_ : T_api_Mealy) (s_ : Int) (r : Int) (h : Ok (.agg (c_api_Mealy m_)) → Ok (nI s_) → R06_row m_ s_ = some r) : Sp Tryz.prog 100 [.im (.agg (c_api_Mealy m_)), .im (nI s_)] (.im (nI r)) := by
 refine sp_of rfl [700002] rfl rfl rfl (Nat.le_of_ble_eq_true rfl) rfl fun hk => ?_
 replace h := h hk.1 hk.2.1
 have z1 : List.length m_.Next ≤ 17592186044416 := ok_len (Ok.agg_at hk.1 2 rfl)
 have z2 : List.length m_.Out ≤ 17592186044416 := ok_len (Ok.agg_at hk.1 3 rfl)
 unfold R06_row at h
 conv=>whnf
 obtain ⟨y56, hc, hk52⟩ := bind_some h
 clear h
 have h := hc
 clear hc
 refine Cut.mk (mkSt [(1, .im (nI s_)), (2, .im (.ref (c_api_Mealy m_))), (25, .im (nB y56))] [] []) (True) (Holds.true_ _) ?_ (fun hp => ?_)
 ·conv=>whnf
  obtain ⟨e57, he57z, he57, h⟩ := idx_some h
  refine ⟨_, ⟨he57z, map_at he57, rfl⟩, ?_⟩
  conv=>whnf
  refine Nf.mk (List.length e57) len_map ?_
  conv=>whnf
  refine Both.mk ?_ ?_<;>intro b58
  ·replace b58 := beq_ff b58
   replace h := cond_f b58 h
   have b58d := odf b58
   conv=>whnf
   iterate 3 (refine Both.yes (ff_beq b58) ?_; (conv=>whnf))
   obtain ⟨e59, he59z, he59, h⟩ := idx_some h
   refine ⟨_, ⟨he59z, map_at he59, rfl⟩, ?_⟩
   conv=>whnf
   iterate 2 (refine Both.yes (ff_beq b58) ?_; (conv=>whnf))
   refine Nf.mk (List.length e59) len_map ?_
   conv=>whnf
   iterate 3 (refine Both.yes (ff_beq b58) ?_; (conv=>whnf))
   refine Both.no b58 ?_
   conv=>whnf
   cases h
   exact Join.mk (Ent.mk [] rfl ⟨eI rfl rfl, eI rfl rfl, eI rfl rfl, trivial⟩ trivial trivial)
  ·replace b58 := beq_ft b58
   replace h := cond_t b58 h
   have b58d := odt b58
   conv=>whnf
   iterate 8 (refine Both.no (tf_beq b58) ?_; (conv=>whnf))
   refine Both.yes b58 ?_
   conv=>whnf
   cases h
   exact Join.mk (Ent.mk [] rfl ⟨eI rfl rfl, eI rfl rfl, eI rfl rfl, trivial⟩ trivial trivial)
 ·replace h := hk52
  conv=>whnf
  refine Both.mk ?_ ?_<;>intro b60
  ·replace h := cond_t b60 h
   conv=>whnf
   cases h
   conv=>whnf
   exact ⟨rfl, rfl⟩
  ·replace h := cond_f b60 h
   conv=>whnf
   obtain ⟨oc, hc, hk61⟩ := bind_some h
   clear h
   have h := hc
   clear hc
   refine Cut.mkS oc (Y := Unit) (fun (_ : Unit) => mkSt [] [] []) (fun (_ : Unit) => True) (by rintro ⟨⟩; exact (Holds.true_ _)) ?_ ?_
   ·conv=>whnf
    refine Loops.iter (fun (s : Nat) => R06_row.s2 m_ s_ s) (fun a174 => mkSt [(1, .im (nI s_)), (2, .im (.ref (c_api_Mealy m_))), (5, .im (nI (↑a174 : Int)))] [] []) (fun a174 => True) h (Ent.mk [] rfl ⟨eI rfl rfl, eI rfl rfl, eI rfl rfl, trivial⟩ trivial trivial) (by rintro a174; exact (Holds.true_ _)) ?_
    clear h
    rintro k a174 o hp h ho203
    replace h : R06_row.s2 m_ s_ a174 = some o := h
    unfold R06_row.s2 at h
    conv=>whnf
    refine Both.mk ?_ ?_<;>intro b204
    ·replace h := cond_t b204 h
     have b204d := odt b204
     conv=>whnf
     obtain ⟨y218, hc, hk206⟩ := bind_some h
     clear h
     have h := hc
     clear hc
     refine Cut.mk (mkSt [(1, .im (nI s_)), (2, .im (.ref (c_api_Mealy m_))), (5, .im (nI (↑a174 : Int))), (76, .im (nB y218))] [] []) (True) (Holds.true_ _) ?_ (fun hp => ?_)
     ·conv=>whnf
      obtain ⟨e219, he219z, he219, h⟩ := idx_some h
      refine ⟨_, ⟨he219z, map_at he219, rfl⟩, ?_⟩
      conv=>whnf
      obtain ⟨e220, he220, h⟩ := idxn_some h
      refine ⟨_, ⟨(by omega), map_at he220, rfl⟩, ?_⟩
      conv=>whnf
      refine Both.mk ?_ ?_<;>intro b221
      ·replace b221 := beq_ff b221
       replace h := cond_f b221 h
       have b221d := odf b221
       conv=>whnf
       iterate 3 (refine Both.yes (ff_beq b221) ?_; (conv=>whnf))
       obtain ⟨e222, he222z, he222, h⟩ := idx_some h
       refine ⟨_, ⟨he222z, map_at he222, rfl⟩, ?_⟩
       conv=>whnf
       iterate 3 (refine Both.yes (ff_beq b221) ?_; (conv=>whnf))
       obtain ⟨e223, he223, h⟩ := idxn_some h
       refine ⟨_, ⟨(by omega), map_at he223, rfl⟩, ?_⟩
       conv=>whnf
       iterate 4 (refine Both.yes (ff_beq b221) ?_; (conv=>whnf))
       refine Nf.mk (List.length m_.Next) len_map ?_
       conv=>whnf
       refine Both.yes (ff_beq b221) ?_
       conv=>whnf
       refine Both.no b221 ?_
       conv=>whnf
       refine Both.mk ?_ ?_<;>intro b224
       ·replace b224 := beq_ff b224
        replace h := cond_f b224 h
        have b224d := odf b224
        conv=>whnf
        iterate 3 (refine Both.yes (ff_beq b224) ?_; (conv=>whnf))
        obtain ⟨e225, he225z, he225, h⟩ := idx_some h
        refine ⟨_, ⟨he225z, map_at he225, rfl⟩, ?_⟩
        conv=>whnf
        iterate 3 (refine Both.yes (ff_beq b224) ?_; (conv=>whnf))
        obtain ⟨e226, he226, h⟩ := idxn_some h
        refine ⟨_, ⟨(by omega), map_at he226, rfl⟩, ?_⟩
        conv=>whnf
        iterate 2 (refine Both.yes (ff_beq b224) ?_; (conv=>whnf))
        refine Both.no b224 ?_
        conv=>whnf
        refine Both.mk ?_ ?_<;>intro b227
        ·replace b227 := beq_ff b227
         replace h := cond_f b227 h
         have b227d := odf b227
         conv=>whnf
         iterate 3 (refine Both.yes (ff_beq b227) ?_; (conv=>whnf))
         obtain ⟨e228, he228z, he228, h⟩ := idx_some h
         refine ⟨_, ⟨he228z, map_at he228, rfl⟩, ?_⟩
         conv=>whnf
         iterate 3 (refine Both.yes (ff_beq b227) ?_; (conv=>whnf))
         obtain ⟨e229, he229, h⟩ := idxn_some h
         refine ⟨_, ⟨(by omega), map_at he229, rfl⟩, ?_⟩
         conv=>whnf
         iterate 2 (refine Both.yes (ff_beq b227) ?_; (conv=>whnf))
         refine Both.no b227 ?_
         conv=>whnf
         cases h
         exact Join.mk (Ent.mk [] rfl ⟨eI rfl rfl, eI rfl rfl, eI rfl rfl, eI rfl rfl, trivial⟩ trivial trivial)
        ·replace b227 := beq_ft b227
         replace h := cond_t b227 h
         have b227d := odt b227
         conv=>whnf
         iterate 8 (refine Both.no (tf_beq b227) ?_; (conv=>whnf))
         refine Both.yes b227 ?_
         conv=>whnf
         cases h
         exact Join.mk (Ent.mk [] rfl ⟨eI rfl rfl, eI rfl rfl, eI rfl rfl, eI rfl rfl, trivial⟩ trivial trivial)
       ·replace b224 := beq_ft b224
        replace h := cond_t b224 h
        have b224d := odt b224
        conv=>whnf
        iterate 8 (refine Both.no (tf_beq b224) ?_; (conv=>whnf))
        refine Both.yes b224 ?_
        conv=>whnf
        iterate 9 (refine Both.no rfl ?_; (conv=>whnf))
        refine Both.yes rfl ?_
        conv=>whnf
        cases h
        exact Join.mk (Ent.mk [] rfl ⟨eI rfl rfl, eI rfl rfl, eI rfl rfl, eI rfl rfl, trivial⟩ trivial trivial)
      ·replace b221 := beq_ft b221
       replace h := cond_t b221 h
       have b221d := odt b221
       conv=>whnf
       iterate 11 (refine Both.no (tf_beq b221) ?_; (conv=>whnf))
       refine Both.yes b221 ?_
       conv=>whnf
       iterate 9 (refine Both.no rfl ?_; (conv=>whnf))
       refine Both.yes rfl ?_
       conv=>whnf
       iterate 9 (refine Both.no rfl ?_; (conv=>whnf))
       refine Both.yes rfl ?_
       conv=>whnf
       cases h
       exact Join.mk (Ent.mk [] rfl ⟨eI rfl rfl, eI rfl rfl, eI rfl rfl, eI rfl rfl, trivial⟩ trivial trivial)
     ·replace h := hk206
      conv=>whnf
      refine Both.mk ?_ ?_<;>intro b230
      ·replace h := cond_t b230 h
       conv=>whnf
       cases h
       have ho203 : _ = _ := ho203
       cases ho203
       replace h : some _ = some _ := hk61
       cases h
       conv=>whnf
       exact ⟨rfl, rfl⟩
      ·replace h := cond_f b230 h
       conv=>whnf
       obtain ⟨c231, h⟩ := chk_some h
       refine Side.mk c231 ?_
       conv=>whnf
       cases h
       exact Nxt.mk _ ho203 (Ent.mk [] rfl ⟨eI rfl rfl, eI rfl rfl, eI rfl rfl, trivial⟩ trivial trivial)
    ·replace h := cond_f b204 h
     have b204d := odf b204
     conv=>whnf
     cases h
     have ho203 : _ = _ := ho203
     cases ho203
     exact JoinS.mk' _ rfl (Ent.mk [] rfl trivial trivial trivial)
   ·rintro ⟨⟩ rfl hp
    replace h := sum_inl hk61
    conv=>whnf
    cases h
    conv=>whnf
    exact ⟨rfl, rfl⟩
theorem sp_R06_Valid (m_ : T_api_Mealy) (r : Int) (h : Ok (.agg (c_api_Mealy m_)) → R06_Valid m_ = some r) : Sp Tryz.prog 43 [.im (.agg (c_api_Mealy m_))] (.im (nI r)) := by
 refine sp_of rfl [700001] rfl rfl rfl (Nat.le_of_ble_eq_true rfl) rfl fun hk => ?_
 replace h := h hk.1
 have z1 : List.length m_.Next ≤ 17592186044416 := ok_len (Ok.agg_at hk.1 2 rfl)
 have z2 : List.length m_.Out ≤ 17592186044416 := ok_len (Ok.agg_at hk.1 3 rfl)
 unfold R06_Valid at h
 conv=>whnf
 obtain ⟨y54, hc, hk52⟩ := bind_some h
 clear h
 have h := hc
 clear hc
 refine Cut.mk (mkSt [(1, .im (.ref (c_api_Mealy m_))), (12, .im (nB y54))] [] []) (True) (Holds.true_ _) ?_ (fun hp => ?_)
 ·conv=>whnf
  refine Both.mk ?_ ?_<;>intro b55
  ·replace b55 := beq_ff b55
   replace h := cond_f b55 h
   have b55d := odf b55
   conv=>whnf
   iterate 2 (refine Both.yes (ff_beq b55) ?_; (conv=>whnf))
   refine Both.no b55 ?_
   conv=>whnf
   cases h
   exact Join.mk (Ent.mk [] rfl ⟨eI rfl rfl, eI rfl rfl, trivial⟩ trivial trivial)
  ·replace b55 := beq_ft b55
   replace h := cond_t b55 h
   have b55d := odt b55
   conv=>whnf
   iterate 2 (refine Both.no (tf_beq b55) ?_; (conv=>whnf))
   refine Both.yes b55 ?_
   conv=>whnf
   cases h
   exact Join.mk (Ent.mk [] rfl ⟨eI rfl rfl, eI rfl rfl, trivial⟩ trivial trivial)
 ·replace h := hk52
  conv=>whnf
  refine Both.mk ?_ ?_<;>intro b56
  ·replace h := cond_t b56 h
   conv=>whnf
   cases h
   conv=>whnf
   exact ⟨rfl, rfl⟩
  ·replace h := cond_f b56 h
   conv=>whnf
   refine Nf.mk (List.length m_.Next) len_map ?_
   conv=>whnf
   refine Both.mk ?_ ?_<;>intro b57
   ·replace h := cond_t b57 h
    have b57d := odt b57
    conv=>whnf
    cases h
    conv=>whnf
    exact ⟨rfl, rfl⟩
   ·replace h := cond_f b57 h
    have b57d := odf b57
    conv=>whnf
    refine Nf.mk (List.length m_.Next) len_map ?_
    conv=>whnf
    refine Both.mk ?_ ?_<;>intro b58
    ·replace h := cond_t b58 h
     have b58d := odt b58
     conv=>whnf
     cases h
     conv=>whnf
     exact ⟨rfl, rfl⟩
    ·replace h := cond_f b58 h
     have b58d := odf b58
     conv=>whnf
     obtain ⟨y62, hc, hk60⟩ := bind_some h
     clear h
     have h := hc
     clear hc
     refine Cut.mk (mkSt [(1, .im (.ref (c_api_Mealy m_))), (31, .im (nB y62))] [] []) (True) (Holds.true_ _) ?_ (fun hp => ?_)
     ·conv=>whnf
      refine Both.mk ?_ ?_<;>intro b63
      ·replace b63 := beq_ff b63
       replace h := cond_f b63 h
       have b63d := odf b63
       conv=>whnf
       iterate 4 (refine Both.yes (ff_beq b63) ?_; (conv=>whnf))
       refine Nf.mk (List.length m_.Next) len_map ?_
       conv=>whnf
       refine Both.yes (ff_beq b63) ?_
       conv=>whnf
       refine Both.no b63 ?_
       conv=>whnf
       cases h
       exact Join.mk (Ent.mk [] rfl ⟨eI rfl rfl, eI rfl rfl, trivial⟩ trivial trivial)
      ·replace b63 := beq_ft b63
       replace h := cond_t b63 h
       have b63d := odt b63
       conv=>whnf
       iterate 5 (refine Both.no (tf_beq b63) ?_; (conv=>whnf))
       refine Both.yes b63 ?_
       conv=>whnf
       cases h
       exact Join.mk (Ent.mk [] rfl ⟨eI rfl rfl, eI rfl rfl, trivial⟩ trivial trivial)
     ·replace h := hk60
      conv=>whnf
      refine Both.mk ?_ ?_<;>intro b64
      ·replace h := cond_t b64 h
       conv=>whnf
       cases h
       conv=>whnf
       exact ⟨rfl, rfl⟩
      ·replace h := cond_f b64 h
       conv=>whnf
       refine Nf.mk (List.length m_.Out) len_map ?_
       conv=>whnf
       refine Nf.mk (List.length m_.Next) len_map ?_
       conv=>whnf
       refine Both.mk ?_ ?_<;>intro b65
       ·replace h := cond_t b65 h
        have b65d := odt b65
        conv=>whnf
        cases h
        conv=>whnf
        exact ⟨rfl, rfl⟩
       ·replace h := cond_f b65 h
        have b65d := odf b65
        conv=>whnf
        obtain ⟨oc, hc, hk66⟩ := bind_some h
        clear h
        have h := hc
        clear hc
        refine Cut.mkS oc (Y := Unit) (fun (_ : Unit) => mkSt [] [] []) (fun (_ : Unit) => True) (by rintro ⟨⟩; exact (Holds.true_ _)) ?_ ?_
        ·conv=>whnf
         refine Loops.iter (fun (s : Nat) => R06_Valid.s2 m_ s) (fun s81 => mkSt [(1, .im (.ref (c_api_Mealy m_))), (3, .im (nI (↑s81 : Int)))] [] []) (fun s81 => True) h (Ent.mk [] rfl ⟨eI rfl rfl, eI rfl rfl, trivial⟩ trivial trivial) (by rintro s81; exact (Holds.true_ _)) ?_
         clear h
         rintro k s81 o hp h ho85
         replace h : R06_Valid.s2 m_ s81 = some o := h
         unfold R06_Valid.s2 at h
         conv=>whnf
         refine Nf.mk (List.length m_.Next) len_map ?_
         conv=>whnf
         refine Both.mk ?_ ?_<;>intro b86
         ·replace h := cond_t b86 h
          have b86d := odt b86
          conv=>whnf
          obtain ⟨c87, hc87, h⟩ := bind_some h
          refine ⟨_, (sp_R06_row m_ (↑s81 : Int) c87 (fun _ _ => hc87)), ?_⟩
          conv=>whnf
          refine Both.mk ?_ ?_<;>intro b88
          ·replace h := cond_t b88 h
           have b88d := odt b88
           conv=>whnf
           cases h
           have ho85 : _ = _ := ho85
           cases ho85
           replace h : some _ = some _ := hk66
           cases h
           conv=>whnf
           exact ⟨rfl, rfl⟩
          ·replace h := cond_f b88 h
           have b88d := odf b88
           conv=>whnf
           refine Side.mk (by show inR _; unfold inR; omega) ?_
           conv=>whnf
           cases h
           exact Nxt.mk _ ho85 (Ent.mk [] rfl ⟨eI rfl rfl, eI rfl rfl, trivial⟩ trivial trivial)
         ·replace h := cond_f b86 h
          have b86d := odf b86
          conv=>whnf
          cases h
          have ho85 : _ = _ := ho85
          cases ho85
          exact JoinS.mk' _ rfl (Ent.mk [] rfl trivial trivial trivial)
        ·rintro ⟨⟩ rfl hp
         replace h := sum_inl hk66
         conv=>whnf
         cases h
         conv=>whnf
         exact ⟨rfl, rfl⟩
theorem sp_R22_Valid (h_ : T_api_Hyp) (r : Int) (h : Ok (.agg (c_api_Hyp h_)) → R22_Valid h_ = some r) : Sp Tryz.prog 40 [.im (.agg (c_api_Hyp h_))] (.im (nI r)) := by
 refine sp_of rfl [700001] rfl rfl rfl (Nat.le_of_ble_eq_true rfl) rfl fun hk => ?_
 replace h := h hk.1
 have z1 : List.length h_.M.Next ≤ 17592186044416 := ok_len (Ok.agg_at hk.1 2 rfl)
 have z2 : List.length h_.M.Out ≤ 17592186044416 := ok_len (Ok.agg_at hk.1 3 rfl)
 have z3 : List.length h_.Access ≤ 17592186044416 := ok_len (Ok.agg_at hk.1 4 rfl)
 unfold R22_Valid at h
 conv=>whnf
 obtain ⟨c51, hc51, h⟩ := bind_some h
 refine ⟨_, (sp_R06_Valid h_.M c51 (fun _ => hc51)), ?_⟩
 conv=>whnf
 refine Both.mk ?_ ?_<;>intro b52
 ·replace h := cond_t b52 h
  have b52d := odt b52
  conv=>whnf
  cases h
  conv=>whnf
  exact ⟨rfl, rfl⟩
 ·replace h := cond_f b52 h
  have b52d := odf b52
  conv=>whnf
  refine Nf.mk (List.length h_.Access) len_map ?_
  conv=>whnf
  refine Nf.mk (List.length h_.M.Next) len_map ?_
  conv=>whnf
  refine Both.mk ?_ ?_<;>intro b53
  ·replace h := cond_t b53 h
   have b53d := odt b53
   conv=>whnf
   cases h
   conv=>whnf
   exact ⟨rfl, rfl⟩
  ·replace h := cond_f b53 h
   have b53d := odf b53
   conv=>whnf
   obtain ⟨oc, hc, hk54⟩ := bind_some h
   clear h
   have h := hc
   clear hc
   refine Cut.mkS oc (Y := Unit) (fun (_ : Unit) => mkSt [(1, .im (.ref (c_api_Hyp h_)))] [] []) (fun (_ : Unit) => True) (by rintro ⟨⟩; exact (Holds.true_ _)) ?_ ?_
   ·conv=>whnf
    refine Loops.iter (fun (s : Nat) => R22_Valid.s2 h_ s) (fun s81 => mkSt [(1, .im (.ref (c_api_Hyp h_))), (4, .im (nI (↑s81 : Int)))] [] []) (fun s81 => True) h (Ent.mk [] rfl ⟨eI rfl rfl, eI rfl rfl, trivial⟩ trivial trivial) (by rintro s81; exact (Holds.true_ _)) ?_
    clear h
    rintro k s81 o hp h ho88
    replace h : R22_Valid.s2 h_ s81 = some o := h
    unfold R22_Valid.s2 at h
    conv=>whnf
    refine Nf.mk (List.length h_.Access) len_map ?_
    conv=>whnf
    refine Both.mk ?_ ?_<;>intro b89
    ·replace h := cond_t b89 h
     have b89d := odt b89
     conv=>whnf
     obtain ⟨e90, he90, h⟩ := idxn_some h
     refine ⟨_, ⟨(by omega), map_at he90, rfl⟩, ?_⟩
     conv=>whnf
     obtain ⟨c91, hc91, h⟩ := bind_some h
     refine ⟨_, (sp_R01_Check e90 h_.M.Inputs c91 (fun _ _ => hc91)), ?_⟩
     conv=>whnf
     refine Both.mk ?_ ?_<;>intro b92
     ·replace h := cond_t b92 h
      have b92d := odt b92
      conv=>whnf
      cases h
      have ho88 : _ = _ := ho88
      cases ho88
      replace h : some _ = some _ := hk54
      cases h
      conv=>whnf
      exact ⟨rfl, rfl⟩
     ·replace h := cond_f b92 h
      have b92d := odf b92
      conv=>whnf
      obtain ⟨c93, hc93, h⟩ := bind_some h
      refine ⟨_, (sp_R06_Outs h_.M h_.M.Start e90 c93 (fun _ _ _ => hc93)), ?_⟩
      conv=>whnf
      refine Both.mk ?_ ?_<;>intro b94
      ·replace h := cond_t b94 h
       have b94d := odt b94
       conv=>whnf
       cases h
       have ho88 : _ = _ := ho88
       cases ho88
       replace h : some _ = some _ := hk54
       cases h
       conv=>whnf
       exact ⟨rfl, rfl⟩
      ·replace h := cond_f b94 h
       have b94d := odf b94
       conv=>whnf
       refine Side.mk (by show inR _; unfold inR; omega) ?_
       conv=>whnf
       cases h
       exact Nxt.mk _ ho88 (Ent.mk [] rfl ⟨eI rfl rfl, eI rfl rfl, trivial⟩ trivial trivial)
    ·replace h := cond_f b89 h
     have b89d := odf b89
     conv=>whnf
     cases h
     have ho88 : _ = _ := ho88
     cases ho88
     exact JoinS.mk' _ rfl (Ent.mk [] rfl ⟨eI rfl rfl, trivial⟩ trivial trivial)
   ·rintro ⟨⟩ rfl hp
    replace h := sum_inl hk54
    conv=>whnf
    obtain ⟨e95, he95z, he95, h⟩ := idx_some h
    refine ⟨_, ⟨he95z, map_at he95, rfl⟩, ?_⟩
    conv=>whnf
    refine Nf.mk (List.length e95) len_map ?_
    conv=>whnf
    refine Both.mk ?_ ?_<;>intro b96
    ·replace h := cond_t b96 h
     have b96d := odt b96
     conv=>whnf
     cases h
     conv=>whnf
     exact ⟨rfl, rfl⟩
    ·replace h := cond_f b96 h
     have b96d := odf b96
     conv=>whnf
     cases h
     conv=>whnf
     exact ⟨rfl, rfl⟩
theorem sp_L23_TableReaches (t_ : T_api_Table) (o_ : T_api_Obs) (r : Bool) (h : Ok (.agg (c_api_Table t_)) → Ok (.agg (c_api_Obs o_)) → L23_TableReaches t_ o_ = some r) : Sp Tryz.prog 8 [.im (.agg (c_api_Table t_)), .im (.agg (c_api_Obs o_))] (.im (nB r)) := by
 refine sp_of rfl [700002, 700003] rfl rfl rfl (Nat.le_of_ble_eq_true rfl) rfl fun hk => ?_
 replace h := h hk.1 hk.2.1
 have z1 : List.length t_.Prefixes ≤ 17592186044416 := ok_len (Ok.agg_at hk.1 1 rfl)
 have z2 : List.length t_.Suffixes ≤ 17592186044416 := ok_len (Ok.agg_at hk.1 2 rfl)
 have z3 : List.length o_.Traces ≤ 17592186044416 := ok_len (Ok.agg_at hk.2.1 1 rfl)
 unfold L23_TableReaches at h
 conv=>whnf
 obtain ⟨y56, hc, hk52⟩ := bind_some h
 clear h
 have h := hc
 clear hc
 refine Cut.mk (mkSt [(2, .im (.ref (c_api_Table t_))), (3, .im (.ref (c_api_Obs o_))), (24, .im (nB y56))] [] []) (True) (Holds.true_ _) ?_ (fun hp => ?_)
 ·conv=>whnf
  obtain ⟨c57, hc57, h⟩ := bind_some h
  refine ⟨_, (sp_L23_Great t_ o_ c57 (fun _ _ => hc57)), ?_⟩
  conv=>whnf
  refine Both.mk ?_ ?_<;>intro b58
  ·replace b58 := beq_ff b58
   replace h := cond_f b58 h
   conv=>whnf
   refine Both.yes (ff_beq b58) ?_
   conv=>whnf
   obtain ⟨c59, hc59, h⟩ := bind_some h
   refine ⟨_, (sp_R16_Valid o_ c59 (fun _ => hc59)), ?_⟩
   conv=>whnf
   refine Both.yes (ff_beq b58) ?_
   conv=>whnf
   refine Both.no b58 ?_
   conv=>whnf
   cases h
   exact Join.mk (Ent.mk [] rfl ⟨eI rfl rfl, eI rfl rfl, eI rfl rfl, trivial⟩ trivial trivial)
  ·replace b58 := beq_ft b58
   replace h := cond_t b58 h
   conv=>whnf
   iterate 2 (refine Both.no (tf_beq b58) ?_; (conv=>whnf))
   refine Both.yes b58 ?_
   conv=>whnf
   cases h
   exact Join.mk (Ent.mk [] rfl ⟨eI rfl rfl, eI rfl rfl, eI rfl rfl, trivial⟩ trivial trivial)
 ·replace h := hk52
  conv=>whnf
  refine Both.mk ?_ ?_<;>intro b60
  ·replace h := cond_t b60 h
   conv=>whnf
   obtain ⟨c61, hc61, h⟩ := bind_some h
   refine ⟨_, (sp_L23_awake  c61 (hc61)), ?_⟩
   conv=>whnf
   cases h
   conv=>whnf
   exact ⟨rfl, rfl⟩
  ·replace h := cond_f b60 h
   conv=>whnf
   obtain ⟨c62, hc62, h⟩ := bind_some h
   refine ⟨_, (sp_table_Hypothesis t_ o_ c62 (fun _ _ => hc62)), ?_⟩
   conv=>whnf
   refine Side.mk rfl ?_
   conv=>whnf
   refine Both.mk ?_ ?_<;>intro b63
   ·replace h := cond_t b63 h
    have b63d := odt b63
    conv=>whnf
    obtain ⟨y68, hc, hk65⟩ := bind_some h
    clear h
    have h := hc
    clear hc
    refine Cut.mk (mkSt [(4, .im (nB y68))] [] []) (True) (Holds.true_ _) ?_ (fun hp => ?_)
    ·conv=>whnf
     refine Side.mk rfl ?_
     conv=>whnf
     refine Side.mk rfl ?_
     conv=>whnf
     refine Nf.mk (List.length c62.1.Access) len_map ?_
     conv=>whnf
     refine Both.mk ?_ ?_<;>intro b69
     ·replace b69 := beq_tt b69
      replace h := cond_t b69 h
      have b69d := odt b69
      conv=>whnf
      obtain ⟨c70, hc70, h⟩ := bind_some h
      refine ⟨_, (sp_L23_awake  c70 (hc70)), ?_⟩
      conv=>whnf
      refine Both.yes b69 ?_
      conv=>whnf
      cases h
      exact Join.mk (Ent.mk [] rfl ⟨eI rfl rfl, trivial⟩ trivial trivial)
     ·replace b69 := beq_tf b69
      replace h := cond_f b69 h
      have b69d := odf b69
      conv=>whnf
      refine Both.no b69 ?_
      conv=>whnf
      cases h
      exact Join.mk (Ent.mk [] rfl ⟨eI rfl rfl, trivial⟩ trivial trivial)
    ·replace h := hk65
     conv=>whnf
     cases h
     conv=>whnf
     exact ⟨rfl, rfl⟩
   ·replace h := cond_f b63 h
    have b63d := odf b63
    conv=>whnf
    refine Side.mk rfl ?_
    conv=>whnf
    obtain ⟨c71, hc71, h⟩ := bind_some h
    refine ⟨_, (sp_R22_Valid c62.1 c71 (fun _ => hc71)), ?_⟩
    conv=>whnf
    refine Both.mk ?_ ?_<;>intro b72
    ·replace h := cond_t b72 h
     have b72d := odt b72
     conv=>whnf
     cases h
     conv=>whnf
     exact ⟨rfl, rfl⟩
    ·replace h := cond_f b72 h
     have b72d := odf b72
     conv=>whnf
     obtain ⟨oc, hc, hk73⟩ := bind_some h
     clear h
     have h := hc
     clear hc
     refine Cut.mkS oc (Y := Unit) (fun (_ : Unit) => mkSt [] [] []) (fun (_ : Unit) => True) (by rintro ⟨⟩; exact (Holds.true_ _)) ?_ ?_
     ·conv=>whnf
      refine Loops.iter (fun (s : Nat) => L23_TableReaches.s14 t_ o_ c62 s) (fun i615 => mkSt [(2, .im (.ref (c_api_Table t_))), (3, .im (.ref (c_api_Obs o_))), (5, .own 124 1 0), (7, .im (nI (↑i615 : Int)))] [(124, .box 60 5)] [(124, 0, .im (nI c62.1.M.Inputs)), (124, 1, .im (nI c62.1.M.Start)), (124, 2, .im (nL (cL cI) c62.1.M.Next)), (124, 3, .im (nL (cL cI) c62.1.M.Out)), (124, 4, .im (nL (cL cI) c62.1.Access))]) (fun i615 => List.length c62.1.M.Next ≤ 17592186044416 ∧ List.length c62.1.M.Out ≤ 17592186044416 ∧ List.length c62.1.Access ≤ 17592186044416 ∧ True) h (Ent.mk [(124, some 5)] rfl ⟨eI rfl rfl, eI rfl rfl, ⟨.own 5 _ 0, rfl, .own rfl rfl rfl⟩, eI rfl rfl, trivial⟩ ⟨.inl ⟨5, rfl, rfl, trivial⟩, trivial⟩ ⟨⟨5, .im _, rfl, rfl, .im (Sub.rfl' rfl)⟩, ⟨5, .im _, rfl, rfl, .im (Sub.rfl' rfl)⟩, ⟨5, .im _, rfl, rfl, .im (Sub.rfl' rfl)⟩, ⟨5, .im _, rfl, rfl, .im (Sub.rfl' rfl)⟩, ⟨5, .im _, rfl, rfl, .im (Sub.rfl' rfl)⟩, trivial⟩) (by rintro i615; exact ((Holds.cel 124 2 rfl (by decide) rfl).and ((Holds.cel 124 3 rfl (by decide) rfl).and ((Holds.cel 124 4 rfl (by decide) rfl).and (Holds.true_ _))))) ?_
      clear h
      rintro k i615 o hp h ho751
      replace h : L23_TableReaches.s14 t_ o_ c62 i615 = some o := h
      unfold L23_TableReaches.s14 at h
      obtain ⟨z887, z888, z889, _⟩ := hp
      conv=>whnf
      refine Nf.mk (List.length t_.Prefixes) len_map ?_
      conv=>whnf
      refine Both.mk ?_ ?_<;>intro b752
      ·replace h := cond_t b752 h
       have b752d := odt b752
       conv=>whnf
       refine Side.mk rfl ?_
       conv=>whnf
       refine Side.mk rfl ?_
       conv=>whnf
       refine Side.mk rfl ?_
       conv=>whnf
       refine Side.mk rfl ?_
       conv=>whnf
       refine Side.mk rfl ?_
       conv=>whnf
       obtain ⟨e753, he753, h⟩ := idxn_some h
       refine ⟨_, ⟨(by omega), map_at he753, rfl⟩, ?_⟩
       conv=>whnf
       obtain ⟨c754, hc754, h⟩ := bind_some h
       refine ⟨_, (sp_R06_Outs c62.1.M c62.1.M.Start e753 c754 (fun _ _ _ => hc754)), ?_⟩
       conv=>whnf
       obtain ⟨e755, he755, h⟩ := idxn_some h
       refine ⟨_, ⟨(by omega), map_at he755, rfl⟩, ?_⟩
       conv=>whnf
       obtain ⟨c756, hc756, h⟩ := bind_some h
       refine ⟨_, (sp_table_Row t_ o_ e755 c756 (fun _ _ _ => hc756)), ?_⟩
       conv=>whnf
       obtain ⟨oc, hc, hk757⟩ := bind_some h
       clear h
       have h := hc
       clear hc
       refine Cut.mkS oc (Y := Unit) (fun (_ : Unit) => mkSt [(2, .im (.ref (c_api_Table t_))), (3, .im (.ref (c_api_Obs o_))), (5, .own 124 1 0), (7, .im (nI (↑i615 : Int)))] [(124, .box 60 5)] [(124, 0, .im (nI c62.1.M.Inputs)), (124, 1, .im (nI c62.1.M.Start)), (124, 2, .im (nL (cL cI) c62.1.M.Next)), (124, 3, .im (nL (cL cI) c62.1.M.Out)), (124, 4, .im (nL (cL cI) c62.1.Access))]) (fun (_ : Unit) => List.length c62.1.M.Next ≤ 17592186044416 ∧ List.length c62.1.M.Out ≤ 17592186044416 ∧ List.length c62.1.Access ≤ 17592186044416 ∧ True) (by rintro ⟨⟩; exact ((Holds.cel 124 2 rfl (by decide) rfl).and ((Holds.cel 124 3 rfl (by decide) rfl).and ((Holds.cel 124 4 rfl (by decide) rfl).and (Holds.true_ _))))) ?_ ?_
       ·conv=>whnf
        refine Loops.iter (fun (s : Nat) => L23_TableReaches.s13 t_ o_ c62 c754 c756 s) (fun k840 => mkSt [(2, .im (.ref (c_api_Table t_))), (3, .im (.ref (c_api_Obs o_))), (5, .own 124 1 0), (7, .im (nI (↑i615 : Int))), (9, .im (nI c754.2)), (10, .im (nL (cL cI) c756.1)), (11, .im (nB c756.2)), (12, .im (nI (↑k840 : Int)))] [(124, .box 60 5)] [(124, 0, .im (nI c62.1.M.Inputs)), (124, 1, .im (nI c62.1.M.Start)), (124, 2, .im (nL (cL cI) c62.1.M.Next)), (124, 3, .im (nL (cL cI) c62.1.M.Out)), (124, 4, .im (nL (cL cI) c62.1.Access))]) (fun k840 => List.length c756.1 ≤ 17592186044416 ∧ List.length c62.1.M.Next ≤ 17592186044416 ∧ List.length c62.1.M.Out ≤ 17592186044416 ∧ List.length c62.1.Access ≤ 17592186044416 ∧ True) h (Ent.mk [(124, some 124)] rfl ⟨eI rfl rfl, eI rfl rfl, ⟨.own 124 _ 0, rfl, .own rfl rfl rfl⟩, eI rfl rfl, eI rfl rfl, eI rfl rfl, eI rfl rfl, eI rfl rfl, trivial⟩ ⟨.inl ⟨124, rfl, rfl, trivial⟩, trivial⟩ ⟨⟨124, .im _, rfl, rfl, .im (Sub.rfl' rfl)⟩, ⟨124, .im _, rfl, rfl, .im (Sub.rfl' rfl)⟩, ⟨124, .im _, rfl, rfl, .im (Sub.rfl' rfl)⟩, ⟨124, .im _, rfl, rfl, .im (Sub.rfl' rfl)⟩, ⟨124, .im _, rfl, rfl, .im (Sub.rfl' rfl)⟩, trivial⟩) (by rintro k840; exact ((Holds.avl 10 rfl).and ((Holds.cel 124 2 rfl (by decide) rfl).and ((Holds.cel 124 3 rfl (by decide) rfl).and ((Holds.cel 124 4 rfl (by decide) rfl).and (Holds.true_ _)))))) ?_
        clear h
        rintro k k840 o hp h ho860
        replace h : L23_TableReaches.s13 t_ o_ c62 c754 c756 k840 = some o := h
        unfold L23_TableReaches.s13 at h
        obtain ⟨z880, z881, z882, z883, _⟩ := hp
        conv=>whnf
        refine Nf.mk (List.length t_.Prefixes) len_map ?_
        conv=>whnf
        refine Both.mk ?_ ?_<;>intro b861
        ·replace h := cond_t b861 h
         have b861d := odt b861
         conv=>whnf
         refine Side.mk rfl ?_
         conv=>whnf
         refine Side.mk rfl ?_
         conv=>whnf
         refine Side.mk rfl ?_
         conv=>whnf
         refine Side.mk rfl ?_
         conv=>whnf
         refine Side.mk rfl ?_
         conv=>whnf
         obtain ⟨e862, he862, h⟩ := idxn_some h
         refine ⟨_, ⟨(by omega), map_at he862, rfl⟩, ?_⟩
         conv=>whnf
         obtain ⟨c863, hc863, h⟩ := bind_some h
         refine ⟨_, (sp_R06_Outs c62.1.M c62.1.M.Start e862 c863 (fun _ _ _ => hc863)), ?_⟩
         conv=>whnf
         obtain ⟨e864, he864, h⟩ := idxn_some h
         refine ⟨_, ⟨(by omega), map_at he864, rfl⟩, ?_⟩
         conv=>whnf
         obtain ⟨c865, hc865, h⟩ := bind_some h
         refine ⟨_, (sp_table_Row t_ o_ e864 c865 (fun _ _ _ => hc865)), ?_⟩
         conv=>whnf
         obtain ⟨y871, hc, hk867⟩ := bind_some h
         clear h
         have h := hc
         clear hc
         refine Cut.mk (mkSt [(2, .im (.ref (c_api_Table t_))), (3, .im (.ref (c_api_Obs o_))), (5, .own 124 1 0), (7, .im (nI (↑i615 : Int))), (9, .im (nI c754.2)), (10, .im (nL (cL cI) c756.1)), (11, .im (nB c756.2)), (12, .im (nI (↑k840 : Int))), (122, .im (nB y871))] [(124, .box 60 5)] [(124, 0, .im (nI c62.1.M.Inputs)), (124, 1, .im (nI c62.1.M.Start)), (124, 2, .im (nL (cL cI) c62.1.M.Next)), (124, 3, .im (nL (cL cI) c62.1.M.Out)), (124, 4, .im (nL (cL cI) c62.1.Access))]) (List.length c756.1 ≤ 17592186044416 ∧ List.length c62.1.M.Next ≤ 17592186044416 ∧ List.length c62.1.M.Out ≤ 17592186044416 ∧ List.length c62.1.Access ≤ 17592186044416 ∧ True) ((Holds.avl 10 rfl).and ((Holds.cel 124 2 rfl (by decide) rfl).and ((Holds.cel 124 3 rfl (by decide) rfl).and ((Holds.cel 124 4 rfl (by decide) rfl).and (Holds.true_ _))))) ?_ (fun hp => ?_)
         ·conv=>whnf
          refine Both.mk ?_ ?_<;>intro b872
          ·replace b872 := beq_ff b872
           replace h := cond_f b872 h
           conv=>whnf
           refine Both.yes (ff_beq b872) ?_
           conv=>whnf
           refine Both.no b872 ?_
           conv=>whnf
           refine Both.mk ?_ ?_<;>intro b873
           ·replace b873 := beq_ff b873
            replace h := cond_f b873 h
            conv=>whnf
            iterate 2 (refine Both.yes (ff_beq b873) ?_; (conv=>whnf))
            obtain ⟨c874, hc874, h⟩ := bind_some h
            refine ⟨_, (sp_R06_Lists c756.1 c865.1 c874 (fun _ _ => hc874)), ?_⟩
            conv=>whnf
            iterate 4 (refine Both.yes (ff_beq b873) ?_; (conv=>whnf))
            refine Both.no b873 ?_
            conv=>whnf
            cases h
            exact Join.mk (Ent.mk [(124, some 124)] rfl ⟨eI rfl rfl, eI rfl rfl, ⟨.own 124 _ 0, rfl, .own rfl rfl rfl⟩, eI rfl rfl, eI rfl rfl, eI rfl rfl, eI rfl rfl, eI rfl rfl, eI rfl rfl, trivial⟩ ⟨.inl ⟨124, rfl, rfl, trivial⟩, trivial⟩ ⟨⟨124, .im _, rfl, rfl, .im (Sub.rfl' rfl)⟩, ⟨124, .im _, rfl, rfl, .im (Sub.rfl' rfl)⟩, ⟨124, .im _, rfl, rfl, .im (Sub.rfl' rfl)⟩, ⟨124, .im _, rfl, rfl, .im (Sub.rfl' rfl)⟩, ⟨124, .im _, rfl, rfl, .im (Sub.rfl' rfl)⟩, trivial⟩)
           ·replace b873 := beq_ft b873
            replace h := cond_t b873 h
            conv=>whnf
            iterate 6 (refine Both.no (tf_beq b873) ?_; (conv=>whnf))
            refine Both.yes b873 ?_
            conv=>whnf
            cases h
            exact Join.mk (Ent.mk [(124, some 124)] rfl ⟨eI rfl rfl, eI rfl rfl, ⟨.own 124 _ 0, rfl, .own rfl rfl rfl⟩, eI rfl rfl, eI rfl rfl, eI rfl rfl, eI rfl rfl, eI rfl rfl, eI rfl rfl, trivial⟩ ⟨.inl ⟨124, rfl, rfl, trivial⟩, trivial⟩ ⟨⟨124, .im _, rfl, rfl, .im (Sub.rfl' rfl)⟩, ⟨124, .im _, rfl, rfl, .im (Sub.rfl' rfl)⟩, ⟨124, .im _, rfl, rfl, .im (Sub.rfl' rfl)⟩, ⟨124, .im _, rfl, rfl, .im (Sub.rfl' rfl)⟩, ⟨124, .im _, rfl, rfl, .im (Sub.rfl' rfl)⟩, trivial⟩)
          ·replace b872 := beq_ft b872
           replace h := cond_t b872 h
           conv=>whnf
           refine Both.no (tf_beq b872) ?_
           conv=>whnf
           refine Both.yes b872 ?_
           conv=>whnf
           iterate 7 (refine Both.no rfl ?_; (conv=>whnf))
           refine Both.yes rfl ?_
           conv=>whnf
           cases h
           exact Join.mk (Ent.mk [(124, some 124)] rfl ⟨eI rfl rfl, eI rfl rfl, ⟨.own 124 _ 0, rfl, .own rfl rfl rfl⟩, eI rfl rfl, eI rfl rfl, eI rfl rfl, eI rfl rfl, eI rfl rfl, eI rfl rfl, trivial⟩ ⟨.inl ⟨124, rfl, rfl, trivial⟩, trivial⟩ ⟨⟨124, .im _, rfl, rfl, .im (Sub.rfl' rfl)⟩, ⟨124, .im _, rfl, rfl, .im (Sub.rfl' rfl)⟩, ⟨124, .im _, rfl, rfl, .im (Sub.rfl' rfl)⟩, ⟨124, .im _, rfl, rfl, .im (Sub.rfl' rfl)⟩, ⟨124, .im _, rfl, rfl, .im (Sub.rfl' rfl)⟩, trivial⟩)
         ·replace h := hk867
          obtain ⟨z875, z876, z877, z878, _⟩ := hp
          conv=>whnf
          refine Both.mk ?_ ?_<;>intro b879
          ·replace h := cond_t b879 h
           conv=>whnf
           cases h
           have ho860 : _ = _ := ho860
           cases ho860
           replace h : some _ = some _ := hk757
           cases h
           have ho751 : _ = _ := ho751
           cases ho751
           replace h : some _ = some _ := hk73
           cases h
           conv=>whnf
           exact ⟨rfl, rfl⟩
          ·replace h := cond_f b879 h
           conv=>whnf
           refine Side.mk (by show inR _; unfold inR; omega) ?_
           conv=>whnf
           cases h
           exact Nxt.mk _ ho860 (Ent.mk [(124, some 124)] rfl ⟨eI rfl rfl, eI rfl rfl, ⟨.own 124 _ 0, rfl, .own rfl rfl rfl⟩, eI rfl rfl, eI rfl rfl, eI rfl rfl, eI rfl rfl, eI rfl rfl, trivial⟩ ⟨.inl ⟨124, rfl, rfl, trivial⟩, trivial⟩ ⟨⟨124, .im _, rfl, rfl, .im (Sub.rfl' rfl)⟩, ⟨124, .im _, rfl, rfl, .im (Sub.rfl' rfl)⟩, ⟨124, .im _, rfl, rfl, .im (Sub.rfl' rfl)⟩, ⟨124, .im _, rfl, rfl, .im (Sub.rfl' rfl)⟩, ⟨124, .im _, rfl, rfl, .im (Sub.rfl' rfl)⟩, trivial⟩)
        ·replace h := cond_f b861 h
         have b861d := odf b861
         conv=>whnf
         cases h
         have ho860 : _ = _ := ho860
         cases ho860
         exact JoinS.mk' _ rfl (Ent.mk [(124, some 124)] rfl ⟨eI rfl rfl, eI rfl rfl, ⟨.own 124 _ 0, rfl, .own rfl rfl rfl⟩, eI rfl rfl, trivial⟩ ⟨.inl ⟨124, rfl, rfl, trivial⟩, trivial⟩ ⟨⟨124, .im _, rfl, rfl, .im (Sub.rfl' rfl)⟩, ⟨124, .im _, rfl, rfl, .im (Sub.rfl' rfl)⟩, ⟨124, .im _, rfl, rfl, .im (Sub.rfl' rfl)⟩, ⟨124, .im _, rfl, rfl, .im (Sub.rfl' rfl)⟩, ⟨124, .im _, rfl, rfl, .im (Sub.rfl' rfl)⟩, trivial⟩)
       ·rintro ⟨⟩ rfl hp
        replace h := sum_inl hk757
        obtain ⟨z884, z885, z886, _⟩ := hp
        conv=>whnf
        refine Side.mk (by show inR _; unfold inR; omega) ?_
        conv=>whnf
        cases h
        exact Nxt.mk _ ho751 (Ent.mk [(124, some 124)] rfl ⟨eI rfl rfl, eI rfl rfl, ⟨.own 124 _ 0, rfl, .own rfl rfl rfl⟩, eI rfl rfl, trivial⟩ ⟨.inl ⟨124, rfl, rfl, trivial⟩, trivial⟩ ⟨⟨124, .im _, rfl, rfl, .im (Sub.rfl' rfl)⟩, ⟨124, .im _, rfl, rfl, .im (Sub.rfl' rfl)⟩, ⟨124, .im _, rfl, rfl, .im (Sub.rfl' rfl)⟩, ⟨124, .im _, rfl, rfl, .im (Sub.rfl' rfl)⟩, ⟨124, .im _, rfl, rfl, .im (Sub.rfl' rfl)⟩, trivial⟩)
      ·replace h := cond_f b752 h
       have b752d := odf b752
       conv=>whnf
       cases h
       have ho751 : _ = _ := ho751
       cases ho751
       exact JoinS.mk' _ rfl (Ent.mk [] rfl trivial trivial trivial)
     ·rintro ⟨⟩ rfl hp
      replace h := sum_inl hk73
      conv=>whnf
      obtain ⟨c890, hc890, h⟩ := bind_some h
      refine ⟨_, (sp_L23_awake  c890 (hc890)), ?_⟩
      conv=>whnf
      cases h
      conv=>whnf
      exact ⟨rfl, rfl⟩
end Go.Proofs.YtpmebphhbgpapaaGreatDoor.Sym
