/-
  The contracts of the functions, read from the code by a program (ext.py): each function has its plain twin as its contract.
-/
import Derived.Test.YtpmebphhbgpapaaGreatDoorM5
set_option linter.all false
namespace Go.Proofs.YtpmebphhbgpapaaGreatDoor.Sym
open Go.RowKit
set_option maxRecDepth 100000
set_option linter.unusedVariables false
set_option maxHeartbeats 4000000
theorem sp_table_view_inconsistent (v_ : T_table_view) (r : Int × Int × Bool) (h : Ok (.agg (c_table_view v_)) → table_view_inconsistent v_ = some r) : Sp Tryz.prog 87 [.im (.agg (c_table_view v_))] (.tup [nI r.1, nI r.2.1, nB r.2.2]) := by
 refine sp_of rfl [700001] rfl rfl rfl (Nat.le_of_ble_eq_true rfl) rfl fun hk => ?_
 replace h := h hk.1
 have z1 : List.length v_.rows ≤ 17592186044416 := ok_len (Ok.agg_at hk.1 0 rfl)
 have z2 : List.length v_.prefixes ≤ 17592186044416 := ok_len (Ok.agg_at hk.1 1 rfl)
 have z3 : List.length v_.next ≤ 17592186044416 := ok_len (Ok.agg_at hk.1 2 rfl)
 unfold table_view_inconsistent at h
 conv=>whnf
 refine Nf.mk (List.length v_.prefixes) len_map ?_
 conv=>whnf
 obtain ⟨oc, hc, hk51⟩ := bind_some h
 clear h
 have h := hc
 clear hc
 refine Cut.mkS oc (Y := Unit) (fun (_ : Unit) => mkSt [] [] []) (fun (_ : Unit) => True) (by rintro ⟨⟩; exact (Holds.true_ _)) ?_ ?_
 ·conv=>whnf
  refine Loops.iter (fun (s : Nat) => table_view_inconsistent.s1022 v_ s) (fun y14999 => mkSt [(1, .im (.ref (c_table_view v_))), (13, .im (nL cI v_.prefixes)), (14, .im (nI (↑(List.length v_.prefixes) : Int))), (15, .im (nI (↑y14999 : Int)))] [] []) (fun y14999 => List.length v_.prefixes ≤ 17592186044416 ∧ True) h (Ent.mk [] rfl ⟨eI rfl rfl, eI rfl rfl, eI rfl rfl, eI rfl rfl, trivial⟩ trivial trivial) (by rintro y14999; exact ((Holds.avl 13 rfl).and (Holds.true_ _))) ?_
  clear h
  rintro k y14999 o hp h ho18736
  replace h : table_view_inconsistent.s1022 v_ y14999 = some o := h
  unfold table_view_inconsistent.s1022 at h
  obtain ⟨z22473, _⟩ := hp
  conv=>whnf
  refine Both.mk ?_ ?_<;>intro b18737
  ·replace h := cond_t b18737 h
   have b18737d := odt b18737
   conv=>whnf
   obtain ⟨e18738, he18738, h⟩ := idxn_some h
   refine ⟨_, ⟨(by omega), map_at he18738, rfl⟩, ?_⟩
   conv=>whnf
   refine Side.mk (by show inR _; unfold inR; omega) ?_
   conv=>whnf
   obtain ⟨oc, hc, hk18739⟩ := bind_some h
   clear h
   have h := hc
   clear hc
   refine Cut.mkS oc (Y := Unit) (fun (_ : Unit) => mkSt [(1, .im (.ref (c_table_view v_))), (13, .im (nL cI v_.prefixes)), (14, .im (nI (↑(List.length v_.prefixes) : Int))), (15, .im (nI (↑y14999 : Int)))] [] []) (fun (_ : Unit) => List.length v_.prefixes ≤ 17592186044416 ∧ True) (by rintro ⟨⟩; exact ((Holds.avl 13 rfl).and (Holds.true_ _))) ?_ ?_
   ·conv=>whnf
    refine Loops.iter (fun (s : Nat) => table_view_inconsistent.s1021 v_ y14999 e18738 s) (fun k21227 => mkSt [(1, .im (.ref (c_table_view v_))), (5, .im (nI (↑y14999 : Int))), (6, .im (nI e18738)), (7, .im (nI (↑k21227 : Int))), (13, .im (nL cI v_.prefixes)), (14, .im (nI (↑(List.length v_.prefixes) : Int))), (15, .im (nI (↑y14999 : Int)))] [] []) (fun k21227 => List.length v_.prefixes ≤ 17592186044416 ∧ True) h (Ent.mk [] rfl ⟨eI rfl rfl, eI rfl rfl, eI rfl rfl, eI rfl rfl, eI rfl rfl, eI rfl rfl, eI rfl rfl, trivial⟩ trivial trivial) (by rintro k21227; exact ((Holds.avl 13 rfl).and (Holds.true_ _))) ?_
    clear h
    rintro k k21227 o hp h ho21849
    replace h : table_view_inconsistent.s1021 v_ y14999 e18738 k21227 = some o := h
    unfold table_view_inconsistent.s1021 at h
    obtain ⟨z22471, _⟩ := hp
    conv=>whnf
    refine Nf.mk (List.length v_.prefixes) len_map ?_
    conv=>whnf
    refine Both.mk ?_ ?_<;>intro b21850
    ·replace h := cond_t b21850 h
     have b21850d := odt b21850
     conv=>whnf
     obtain ⟨oc, hc, hk21851⟩ := bind_some h
     clear h
     have h := hc
     clear hc
     refine Cut.mkS oc (Y := Unit) (fun (_ : Unit) => mkSt [(1, .im (.ref (c_table_view v_))), (5, .im (nI (↑y14999 : Int))), (6, .im (nI e18738)), (7, .im (nI (↑k21227 : Int))), (13, .im (nL cI v_.prefixes)), (14, .im (nI (↑(List.length v_.prefixes) : Int))), (15, .im (nI (↑y14999 : Int)))] [] []) (fun (_ : Unit) => List.length v_.prefixes ≤ 17592186044416 ∧ True) (by rintro ⟨⟩; exact ((Holds.avl 13 rfl).and (Holds.true_ _))) ?_ ?_
     ·conv=>whnf
      obtain ⟨e22161, he22161, h⟩ := idxn_some h
      refine ⟨_, ⟨(by omega), map_at he22161, rfl⟩, ?_⟩
      conv=>whnf
      refine Both.mk ?_ ?_<;>intro b22162
      ·replace h := cond_t b22162 h
       have b22162d := odt b22162
       conv=>whnf
       cases h
       exact JoinS.mk' _ rfl (Ent.mk [] rfl ⟨eI rfl rfl, eI rfl rfl, eI rfl rfl, eI rfl rfl, eI rfl rfl, eI rfl rfl, eI rfl rfl, trivial⟩ trivial trivial)
      ·replace h := cond_f b22162 h
       have b22162d := odf b22162
       conv=>whnf
       obtain ⟨e22163, he22163, h⟩ := idxn_some h
       refine ⟨_, ⟨(by omega), map_at he22163, rfl⟩, ?_⟩
       conv=>whnf
       refine Nf.mk (List.length e22163) len_map ?_
       conv=>whnf
       obtain ⟨oc, hc, hk22164⟩ := bind_some h
       clear h
       have h := hc
       clear hc
       refine Cut.mkS oc (Y := Unit) (fun (_ : Unit) => mkSt [(1, .im (.ref (c_table_view v_))), (5, .im (nI (↑y14999 : Int))), (6, .im (nI e18738)), (7, .im (nI (↑k21227 : Int))), (13, .im (nL cI v_.prefixes)), (14, .im (nI (↑(List.length v_.prefixes) : Int))), (15, .im (nI (↑y14999 : Int)))] [] []) (fun (_ : Unit) => List.length v_.prefixes ≤ 17592186044416 ∧ True) (by rintro ⟨⟩; exact ((Holds.avl 13 rfl).and (Holds.true_ _))) ?_ ?_
       ·conv=>whnf
        refine Loops.iter (fun (s : Nat) => table_view_inconsistent.s1020 v_ y14999 k21227 e22163 s) (fun y22366 => mkSt [(1, .im (.ref (c_table_view v_))), (5, .im (nI (↑y14999 : Int))), (6, .im (nI e18738)), (7, .im (nI (↑k21227 : Int))), (13, .im (nL cI v_.prefixes)), (14, .im (nI (↑(List.length v_.prefixes) : Int))), (15, .im (nI (↑y14999 : Int))), (41, .im (nI (↑(List.length e22163) : Int))), (42, .im (nI (↑y22366 : Int)))] [] []) (fun y22366 => List.length v_.prefixes ≤ 17592186044416 ∧ True) h (Ent.mk [] rfl ⟨eI rfl rfl, eI rfl rfl, eI rfl rfl, eI rfl rfl, eI rfl rfl, eI rfl rfl, eI rfl rfl, eI rfl rfl, eI rfl rfl, trivial⟩ trivial trivial) (by rintro y22366; exact ((Holds.avl 13 rfl).and (Holds.true_ _))) ?_
        clear h
        rintro k y22366 o hp h ho22417
        replace h : table_view_inconsistent.s1020 v_ y14999 k21227 e22163 y22366 = some o := h
        unfold table_view_inconsistent.s1020 at h
        obtain ⟨z22468, _⟩ := hp
        conv=>whnf
        refine Both.mk ?_ ?_<;>intro b22418
        ·replace h := cond_t b22418 h
         have b22418d := odt b22418
         conv=>whnf
         obtain ⟨e22419, he22419, h⟩ := idxn_some h
         refine ⟨_, ⟨(by omega), map_at he22419, rfl⟩, ?_⟩
         conv=>whnf
         obtain ⟨e22420, he22420, h⟩ := idxn_some h
         refine ⟨_, ⟨(by omega), map_at he22420, rfl⟩, ?_⟩
         conv=>whnf
         obtain ⟨e22421, he22421z, he22421, h⟩ := idx_some h
         refine ⟨_, ⟨he22421z, map_at he22421, rfl⟩, ?_⟩
         conv=>whnf
         obtain ⟨e22422, he22422, h⟩ := idxn_some h
         refine ⟨_, ⟨(by omega), map_at he22422, rfl⟩, ?_⟩
         conv=>whnf
         obtain ⟨e22423, he22423, h⟩ := idxn_some h
         refine ⟨_, ⟨(by omega), map_at he22423, rfl⟩, ?_⟩
         conv=>whnf
         obtain ⟨e22424, he22424z, he22424, h⟩ := idx_some h
         refine ⟨_, ⟨he22424z, map_at he22424, rfl⟩, ?_⟩
         conv=>whnf
         refine Nf.mk (List.length e22421) len_map ?_
         conv=>whnf
         obtain ⟨oc, hc, hk22425⟩ := bind_some h
         clear h
         have h := hc
         clear hc
         refine Cut.mkS oc (Y := Unit) (fun (_ : Unit) => mkSt [(1, .im (.ref (c_table_view v_))), (5, .im (nI (↑y14999 : Int))), (6, .im (nI e18738)), (7, .im (nI (↑k21227 : Int))), (13, .im (nL cI v_.prefixes)), (14, .im (nI (↑(List.length v_.prefixes) : Int))), (15, .im (nI (↑y14999 : Int))), (41, .im (nI (↑(List.length e22163) : Int))), (42, .im (nI (↑y22366 : Int)))] [] []) (fun (_ : Unit) => List.length v_.prefixes ≤ 17592186044416 ∧ True) (by rintro ⟨⟩; exact ((Holds.avl 13 rfl).and (Holds.true_ _))) ?_ ?_
         ·conv=>whnf
          refine Loops.iter (fun (s : Nat) => table_view_inconsistent.s1019 y22366 e22421 e22424 s) (fun y22451 => mkSt [(1, .im (.ref (c_table_view v_))), (5, .im (nI (↑y14999 : Int))), (6, .im (nI e18738)), (7, .im (nI (↑k21227 : Int))), (8, .im (nI (↑y22366 : Int))), (9, .im (nL (cL cI) e22421)), (10, .im (nL (cL cI) e22424)), (13, .im (nL cI v_.prefixes)), (14, .im (nI (↑(List.length v_.prefixes) : Int))), (15, .im (nI (↑y14999 : Int))), (41, .im (nI (↑(List.length e22163) : Int))), (42, .im (nI (↑y22366 : Int))), (70, .im (nI (↑(List.length e22421) : Int))), (71, .im (nI (↑y22451 : Int)))] [] []) (fun y22451 => List.length e22421 ≤ 17592186044416 ∧ List.length e22424 ≤ 17592186044416 ∧ List.length v_.prefixes ≤ 17592186044416 ∧ True) h (Ent.mk [] rfl ⟨eI rfl rfl, eI rfl rfl, eI rfl rfl, eI rfl rfl, eI rfl rfl, eI rfl rfl, eI rfl rfl, eI rfl rfl, eI rfl rfl, eI rfl rfl, eI rfl rfl, eI rfl rfl, eI rfl rfl, eI rfl rfl, trivial⟩ trivial trivial) (by rintro y22451; exact ((Holds.avl 9 rfl).and ((Holds.avl 10 rfl).and ((Holds.avl 13 rfl).and (Holds.true_ _))))) ?_
          clear h
          rintro k y22451 o hp h ho22457
          replace h : table_view_inconsistent.s1019 y22366 e22421 e22424 y22451 = some o := h
          unfold table_view_inconsistent.s1019 at h
          obtain ⟨z22463, z22464, z22465, _⟩ := hp
          conv=>whnf
          refine Both.mk ?_ ?_<;>intro b22458
          ·replace h := cond_t b22458 h
           have b22458d := odt b22458
           conv=>whnf
           obtain ⟨e22459, he22459, h⟩ := idxn_some h
           refine ⟨_, ⟨(by omega), map_at he22459, rfl⟩, ?_⟩
           conv=>whnf
           obtain ⟨e22460, he22460, h⟩ := idxn_some h
           refine ⟨_, ⟨(by omega), map_at he22460, rfl⟩, ?_⟩
           conv=>whnf
           obtain ⟨c22461, hc22461, h⟩ := bind_some h
           refine ⟨_, (sp_slices_Equal_Sint_int e22459 e22460 c22461 (fun _ _ => hc22461)), ?_⟩
           conv=>whnf
           refine Both.mk ?_ ?_<;>intro b22462
           ·replace h := cond_t b22462 h
            conv=>whnf
            cases h
            have ho22457 : _ = _ := ho22457
            cases ho22457
            replace h : some _ = some _ := hk22425
            cases h
            have ho22417 : _ = _ := ho22417
            cases ho22417
            replace h : some _ = some _ := hk22164
            cases h
            replace h : some _ = some _ := hk21851
            cases h
            have ho21849 : _ = _ := ho21849
            cases ho21849
            replace h : some _ = some _ := hk18739
            cases h
            have ho18736 : _ = _ := ho18736
            cases ho18736
            replace h : some _ = some _ := hk51
            cases h
            conv=>whnf
            exact ⟨rfl, rfl⟩
           ·replace h := cond_f b22462 h
            conv=>whnf
            refine Side.mk (by show inR _; unfold inR; omega) ?_
            conv=>whnf
            cases h
            exact Nxt.mk _ ho22457 (Ent.mk [] rfl ⟨eI rfl rfl, eI rfl rfl, eI rfl rfl, eI rfl rfl, eI rfl rfl, eI rfl rfl, eI rfl rfl, eI rfl rfl, eI rfl rfl, eI rfl rfl, eI rfl rfl, eI rfl rfl, eI rfl rfl, eI rfl rfl, trivial⟩ trivial trivial)
          ·replace h := cond_f b22458 h
           have b22458d := odf b22458
           conv=>whnf
           cases h
           have ho22457 : _ = _ := ho22457
           cases ho22457
           exact JoinS.mk' _ rfl (Ent.mk [] rfl ⟨eI rfl rfl, eI rfl rfl, eI rfl rfl, eI rfl rfl, eI rfl rfl, eI rfl rfl, eI rfl rfl, eI rfl rfl, eI rfl rfl, trivial⟩ trivial trivial)
         ·rintro ⟨⟩ rfl hp
          replace h := sum_inl hk22425
          obtain ⟨z22466, _⟩ := hp
          conv=>whnf
          obtain ⟨c22467, h⟩ := chk_some h
          refine Side.mk c22467 ?_
          conv=>whnf
          cases h
          exact Nxt.mk _ ho22417 (Ent.mk [] rfl ⟨eI rfl rfl, eI rfl rfl, eI rfl rfl, eI rfl rfl, eI rfl rfl, eI rfl rfl, eI rfl rfl, eI rfl rfl, eI rfl rfl, trivial⟩ trivial trivial)
        ·replace h := cond_f b22418 h
         have b22418d := odf b22418
         conv=>whnf
         cases h
         have ho22417 : _ = _ := ho22417
         cases ho22417
         exact JoinS.mk' _ rfl (Ent.mk [] rfl ⟨eI rfl rfl, eI rfl rfl, eI rfl rfl, eI rfl rfl, eI rfl rfl, eI rfl rfl, eI rfl rfl, trivial⟩ trivial trivial)
       ·rintro ⟨⟩ rfl hp
        replace h := sum_inl hk22164
        obtain ⟨z22469, _⟩ := hp
        conv=>whnf
        cases h
        exact JoinS.mk' _ rfl (Ent.mk [] rfl ⟨eI rfl rfl, eI rfl rfl, eI rfl rfl, eI rfl rfl, eI rfl rfl, eI rfl rfl, eI rfl rfl, trivial⟩ trivial trivial)
     ·rintro ⟨⟩ rfl hp
      replace h := sum_inl hk21851
      obtain ⟨z22470, _⟩ := hp
      conv=>whnf
      refine Side.mk (by show inR _; unfold inR; omega) ?_
      conv=>whnf
      cases h
      exact Nxt.mk _ ho21849 (Ent.mk [] rfl ⟨eI rfl rfl, eI rfl rfl, eI rfl rfl, eI rfl rfl, eI rfl rfl, eI rfl rfl, eI rfl rfl, trivial⟩ trivial trivial)
    ·replace h := cond_f b21850 h
     have b21850d := odf b21850
     conv=>whnf
     cases h
     have ho21849 : _ = _ := ho21849
     cases ho21849
     exact JoinS.mk' _ rfl (Ent.mk [] rfl ⟨eI rfl rfl, eI rfl rfl, eI rfl rfl, eI rfl rfl, trivial⟩ trivial trivial)
   ·rintro ⟨⟩ rfl hp
    replace h := sum_inl hk18739
    obtain ⟨z22472, _⟩ := hp
    conv=>whnf
    refine Side.mk (by show inR _; unfold inR; omega) ?_
    conv=>whnf
    cases h
    exact Nxt.mk _ ho18736 (Ent.mk [] rfl ⟨eI rfl rfl, eI rfl rfl, eI rfl rfl, eI rfl rfl, trivial⟩ trivial trivial)
  ·replace h := cond_f b18737 h
   have b18737d := odf b18737
   conv=>whnf
   cases h
   have ho18736 : _ = _ := ho18736
   cases ho18736
   exact JoinS.mk' _ rfl (Ent.mk [] rfl trivial trivial trivial)
 ·rintro ⟨⟩ rfl hp
  replace h := sum_inl hk51
  conv=>whnf
  cases h
  conv=>whnf
  exact ⟨rfl, rfl⟩
theorem sp_table_Inconsistent (t_ : T_api_Table) (o_ : T_api_Obs) (r : List Int × Bool × Int) (h : Ok (.agg (c_api_Table t_)) → Ok (.agg (c_api_Obs o_)) → table_Inconsistent t_ o_ = some r) : Sp Tryz.prog 31 [.im (.agg (c_api_Table t_)), .im (.agg (c_api_Obs o_))] (.tup [nL cI r.1, nB r.2.1, nI r.2.2]) := by
 refine sp_of rfl [700002, 700003] rfl rfl rfl (Nat.le_of_ble_eq_true rfl) rfl fun hk => ?_
 replace h := h hk.1 hk.2.1
 have z1 : List.length t_.Prefixes ≤ 17592186044416 := ok_len (Ok.agg_at hk.1 1 rfl)
 have z2 : List.length t_.Suffixes ≤ 17592186044416 := ok_len (Ok.agg_at hk.1 2 rfl)
 have z3 : List.length o_.Traces ≤ 17592186044416 := ok_len (Ok.agg_at hk.2.1 1 rfl)
 unfold table_Inconsistent at h
 conv=>whnf
 obtain ⟨c51, hc51, h⟩ := bind_some h
 refine ⟨_, (sp_table_look t_ o_ c51 (fun _ _ => hc51)), ?_⟩
 conv=>whnf
 refine Side.mk rfl ?_
 conv=>whnf
 refine Both.mk ?_ ?_<;>intro b52
 ·replace h := cond_t b52 h
  have b52d := odt b52
  conv=>whnf
  cases h
  conv=>whnf
  exact ⟨rfl, rfl⟩
 ·replace h := cond_f b52 h
  have b52d := odf b52
  conv=>whnf
  refine Side.mk rfl ?_
  conv=>whnf
  obtain ⟨c53, hc53, h⟩ := bind_some h
  refine ⟨_, (sp_table_view_inconsistent c51.1 c53 (fun _ => hc53)), ?_⟩
  conv=>whnf
  refine Both.mk ?_ ?_<;>intro b54
  ·replace h := cond_t b54 h
   conv=>whnf
   cases h
   conv=>whnf
   exact ⟨rfl, rfl⟩
  ·replace h := cond_f b54 h
   conv=>whnf
   obtain ⟨e55, he55z, he55, h⟩ := idx_some h
   refine ⟨_, ⟨he55z, map_at he55, rfl⟩, ?_⟩
   conv=>whnf
   obtain ⟨c56, hc56, h⟩ := bind_some h
   refine ⟨_, (sp_word_Join [[c53.1], e55] c56 (fun _ => hc56)), ?_⟩
   conv=>whnf
   cases h
   conv=>whnf
   exact ⟨rfl, rfl⟩
theorem sp_wordset_parts (l_ : List (List Int)) (part_ : (List Int) → Int → Option (List Int)) (f1_ : FuncId) (hf1 : ∀ x0 x1 r, part_ x0 x1 = some r → Sp Tryz.prog f1_ [.im (nL cI x0), .im (nI x1)] (.im (nL cI r))) (r : List (List Int)) (h : Ok (nL (cL cI) l_) → Ok (.fn f1_ []) → wordset_parts l_ part_ = some r) : Sp Tryz.prog 130 [.im (nL (cL cI) l_), .im (.fn f1_ [])] (.im (nL (cL cI) r)) := by
 refine sp_of rfl [] rfl rfl rfl (Nat.le_of_ble_eq_true rfl) rfl fun hk => ?_
 replace h := h hk.1 hk.2.1
 have z1 : List.length l_ ≤ 17592186044416 := ok_len hk.1
 unfold wordset_parts at h
 conv=>whnf
 refine Nf.mk (List.length l_) len_map ?_
 conv=>whnf
 obtain ⟨y178, hc, hk51⟩ := bind_some h
 clear h
 have h := hc
 clear hc
 refine Cut.mk (mkSt [(5, .osl 64 1)] [(64, .row 38 1 (List.map (cL cI) y178))] []) (List.length y178 ≤ 17592186044416 ∧ True) ((Holds.kdl 64 rfl).and (Holds.true_ _)) ?_ (fun hp => ?_)
 ·conv=>whnf
  refine Loops.iter (fun (s : List (List Int) × Nat) => wordset_parts.s14 l_ part_ s.1 s.2) (fun (y218, y219) => mkSt [(1, .im (.fn f1_ [])), (5, .osl 64 1), (9, .im (nL (cL cI) l_)), (10, .im (nI (↑(List.length l_) : Int))), (11, .im (nI (↑y219 : Int)))] [(64, .row 38 1 (List.map (cL cI) y218))] []) (fun (y218, y219) => List.length l_ ≤ 17592186044416 ∧ List.length y218 ≤ 17592186044416 ∧ True) h (Ent.mk [(64, none)] rfl ⟨eI rfl rfl, ⟨.im (.val (.slice none 0 0)), rfl, .made rfl rfl⟩, eI rfl rfl, eI rfl rfl, eI rfl rfl, trivial⟩ ⟨.inr ⟨rfl, rfl, .inl ⟨_, _, rfl, by decide⟩⟩, trivial⟩ trivial) (by rintro ⟨y218, y219⟩; exact ((Holds.avl 9 rfl).and ((Holds.kdl 64 rfl).and (Holds.true_ _)))) ?_
  clear h
  rintro k ⟨y218, y219⟩ o hp h ho261
  replace h : wordset_parts.s14 l_ part_ y218 y219 = some o := h
  unfold wordset_parts.s14 at h
  obtain ⟨z303, z304, _⟩ := hp
  conv=>whnf
  refine Both.mk ?_ ?_<;>intro b262
  ·replace h := cond_t b262 h
   have b262d := odt b262
   conv=>whnf
   obtain ⟨e263, he263, h⟩ := idxn_some h
   refine ⟨_, ⟨(by omega), map_at he263, rfl⟩, ?_⟩
   conv=>whnf
   refine Nf.mk (List.length e263) len_map ?_
   conv=>whnf
   obtain ⟨c264, h⟩ := chk_some h
   refine Side.mk c264 ?_
   conv=>whnf
   obtain ⟨y283, hc, hk265⟩ := bind_some h
   clear h
   have h := hc
   clear hc
   refine Cut.mk (mkSt [(1, .im (.fn f1_ [])), (5, .osl 64 1), (9, .im (nL (cL cI) l_)), (10, .im (nI (↑(List.length l_) : Int))), (11, .im (nI (↑y219 : Int)))] [(64, .row 38 1 (List.map (cL cI) y283))] []) (List.length l_ ≤ 17592186044416 ∧ List.length y283 ≤ 17592186044416 ∧ True) ((Holds.avl 9 rfl).and ((Holds.kdl 64 rfl).and (Holds.true_ _))) ?_ (fun hp => ?_)
   ·conv=>whnf
    refine Loops.iter (fun (s : List (List Int) × Nat) => wordset_parts.s13 part_ e263 s.1 s.2) (fun (y287, y288) => mkSt [(1, .im (.fn f1_ [])), (5, .osl 64 1), (7, .im (nL cI e263)), (9, .im (nL (cL cI) l_)), (10, .im (nI (↑(List.length l_) : Int))), (11, .im (nI (↑y219 : Int))), (17, .im (nI ((↑(List.length e263) : Int) + 1))), (18, .im (nI (↑y288 : Int)))] [(64, .row 38 1 (List.map (cL cI) y287))] []) (fun (y287, y288) => List.length e263 ≤ 17592186044416 ∧ List.length l_ ≤ 17592186044416 ∧ List.length y287 ≤ 17592186044416 ∧ True) h (Ent.mk [(64, some 64)] rfl ⟨eI rfl rfl, ⟨.osl 64 _, rfl, .osl rfl rfl rfl⟩, eI rfl rfl, eI rfl rfl, eI rfl rfl, eI rfl rfl, eI rfl rfl, eI rfl rfl, trivial⟩ ⟨.inl ⟨64, rfl, rfl, trivial⟩, trivial⟩ trivial) (by rintro ⟨y287, y288⟩; exact ((Holds.avl 7 rfl).and ((Holds.avl 9 rfl).and ((Holds.kdl 64 rfl).and (Holds.true_ _))))) ?_
    clear h
    rintro k ⟨y287, y288⟩ o hp h ho293
    replace h : wordset_parts.s13 part_ e263 y287 y288 = some o := h
    unfold wordset_parts.s13 at h
    obtain ⟨z298, z299, z300, _⟩ := hp
    conv=>whnf
    refine Both.mk ?_ ?_<;>intro b294
    ·replace h := cond_t b294 h
     have b294d := odt b294
     conv=>whnf
     obtain ⟨c295, hc295, h⟩ := bind_some h
     refine ⟨_, hf1 e263 (↑y288 : Int) c295 hc295, ?_⟩
     conv=>whnf
     obtain ⟨c296, h⟩ := chk_some h
     refine Side.mk ⟨rfl, map_len (l := [c295]) (c := cL cI) fun _ => rfl, show capOk _ 24 by simpa only [List.length_map, List.length_cons, List.length_nil, Nat.zero_add] using c296⟩ ?_
     conv=>whnf
     refine Nf.mk (List.map (cL cI) (y287 ++ [c295])) (app_map (l := y287) (m := [c295]) (c := cL cI)) ?_
     conv=>whnf
     obtain ⟨c297, h⟩ := chk_some h
     refine Side.mk c297 ?_
     conv=>whnf
     cases h
     exact Nxt.mk _ ho293 (Ent.mk [(64, some 64)] rfl ⟨eI rfl rfl, ⟨.osl 64 _, rfl, .osl rfl rfl rfl⟩, eI rfl rfl, eI rfl rfl, eI rfl rfl, eI rfl rfl, eI rfl rfl, eI rfl rfl, trivial⟩ ⟨.inl ⟨64, rfl, rfl, trivial⟩, trivial⟩ trivial)
    ·replace h := cond_f b294 h
     have b294d := odf b294
     conv=>whnf
     cases h
     have ho293 : _ = _ := ho293
     cases ho293
     exact Join.mk (Ent.mk [(64, some 64)] rfl ⟨eI rfl rfl, ⟨.osl 64 _, rfl, .osl rfl rfl rfl⟩, eI rfl rfl, eI rfl rfl, eI rfl rfl, trivial⟩ ⟨.inl ⟨64, rfl, rfl, trivial⟩, trivial⟩ trivial)
   ·replace h := hk265
    obtain ⟨z301, z302, _⟩ := hp
    conv=>whnf
    refine Side.mk (by show inR _; unfold inR; omega) ?_
    conv=>whnf
    cases h
    exact Nxt.mk _ ho261 (Ent.mk [(64, some 64)] rfl ⟨eI rfl rfl, ⟨.osl 64 _, rfl, .osl rfl rfl rfl⟩, eI rfl rfl, eI rfl rfl, eI rfl rfl, trivial⟩ ⟨.inl ⟨64, rfl, rfl, trivial⟩, trivial⟩ trivial)
  ·replace h := cond_f b262 h
   have b262d := odf b262
   conv=>whnf
   cases h
   have ho261 : _ = _ := ho261
   cases ho261
   exact Join.mk (Ent.mk [(64, some 64)] rfl ⟨⟨.osl 64 _, rfl, .osl rfl rfl rfl⟩, trivial⟩ ⟨.inl ⟨64, rfl, rfl, trivial⟩, trivial⟩ trivial)
 ·replace h := hk51
  obtain ⟨z305, _⟩ := hp
  conv=>whnf
  refine Side.mk ⟨rfl, trivial⟩ ?_
  conv=>whnf
  obtain ⟨c306, hc306, h⟩ := bind_some h
  refine ⟨_, (sp_wordset_Sorted y178 c306 (fun _ => hc306)).im, ?_⟩
  conv=>whnf
  cases h
  conv=>whnf
  exact ⟨rfl, rfl⟩
theorem sp_wordset_Prefixes_1 (w_ : List Int) (i_ : Int) (r : List Int) (h : Ok (nL cI w_) → Ok (nI i_) → wordset_Prefixes_1 w_ i_ = some r) : Sp Tryz.prog 131 [.im (nL cI w_), .im (nI i_)] (.im (nL cI r)) := by
 refine sp_of rfl [] rfl rfl rfl (Nat.le_of_ble_eq_true rfl) rfl fun hk => ?_
 replace h := h hk.1 hk.2.1
 have z1 : List.length w_ ≤ 17592186044416 := ok_len hk.1
 unfold wordset_Prefixes_1 at h
 conv=>whnf
 obtain ⟨c51, h⟩ := chk_some h
 refine Side.mk (show (0 : Int) ≤ (0 : Int) ∧ (0 : Int) ≤ i_ ∧ i_ ≤ (↑(List.length (List.map cI w_)) : Int) ∧ (∀ e ∈ List.map cI w_, List.length e = 1) from ⟨by omega, by first | omega | (simp only [List.length_map]; omega), by first | omega | (simp only [List.length_map]; omega), map_len fun _ => rfl⟩) ?_
 conv=>whnf
 refine Nf.mk (List.map cI (List.take (Int.toNat i_) w_)) take_map ?_
 conv=>whnf
 cases h
 conv=>whnf
 exact ⟨rfl, rfl⟩
theorem sp_wordset_Prefixes (l_ : List (List Int)) (r : List (List Int)) (h : Ok (nL (cL cI) l_) → wordset_Prefixes l_ = some r) : Sp Tryz.prog 91 [.im (nL (cL cI) l_)] (.im (nL (cL cI) r)) := by
 refine sp_of rfl [] rfl rfl rfl (Nat.le_of_ble_eq_true rfl) rfl fun hk => ?_
 replace h := h hk.1
 have z1 : List.length l_ ≤ 17592186044416 := ok_len hk.1
 unfold wordset_Prefixes at h
 conv=>whnf
 obtain ⟨c51, hc51, h⟩ := bind_some h
 refine ⟨_, (sp_wordset_parts l_ (fun u0 u1 => wordset_Prefixes_1 u0 u1) 131 (fun u0 u1 r h => (sp_wordset_Prefixes_1 u0 u1 r (fun _ _ => h))) c51 (fun _ _ => hc51)), ?_⟩
 conv=>whnf
 cases h
 conv=>whnf
 exact ⟨rfl, rfl⟩
theorem sp_slices_Concat_SSint_Sint (slices_ : List (List (List Int))) (r : List (List Int)) (h : Ok (nL (cL (cL cI)) slices_) → slices_Concat_SSint_Sint slices_ = some r) : Sp Tryz.prog 129 [.im (nL (cL (cL cI)) slices_)] (.row 38 1 (List.map (cL cI) r)) := by
 refine sp_of rfl [4025000] rfl rfl rfl (Nat.le_of_ble_eq_true rfl) rfl fun hk => ?_
 replace h := h hk.1
 have z1 : List.length slices_ ≤ 17592186044416 := ok_len hk.1
 unfold slices_Concat_SSint_Sint at h
 conv=>whnf
 refine Nf.mk (List.length slices_) len_map ?_
 conv=>whnf
 obtain ⟨size68, hc, hk51⟩ := bind_some h
 clear h
 have h := hc
 clear hc
 refine Cut.mk (mkSt [(0, .im (nL (cL (cL cI)) slices_)), (3, .im (nI (↑size68 : Int)))] [] []) (List.length slices_ ≤ 17592186044416 ∧ True) ((Holds.avl 0 rfl).and (Holds.true_ _)) ?_ (fun hp => ?_)
 ·conv=>whnf
  refine Loops.iter (fun (s : Nat × Nat) => slices_Concat_SSint_Sint.s2 slices_ s.1 s.2) (fun (size73, y74) => mkSt [(0, .im (nL (cL (cL cI)) slices_)), (3, .im (nI (↑size73 : Int))), (9, .im (nL (cL (cL cI)) slices_)), (10, .im (nI (↑(List.length slices_) : Int))), (11, .im (nI (↑y74 : Int)))] [] []) (fun (size73, y74) => List.length slices_ ≤ 17592186044416 ∧ True) h (Ent.mk [] rfl ⟨eI rfl rfl, eI rfl rfl, eI rfl rfl, eI rfl rfl, eI rfl rfl, trivial⟩ trivial trivial) (by rintro ⟨size73, y74⟩; exact ((Holds.avl 0 rfl).and (Holds.true_ _))) ?_
  clear h
  rintro k ⟨size73, y74⟩ o hp h ho79
  replace h : slices_Concat_SSint_Sint.s2 slices_ size73 y74 = some o := h
  unfold slices_Concat_SSint_Sint.s2 at h
  obtain ⟨z84, _⟩ := hp
  conv=>whnf
  refine Both.mk ?_ ?_<;>intro b80
  ·replace h := cond_t b80 h
   have b80d := odt b80
   conv=>whnf
   obtain ⟨e81, he81, h⟩ := idxn_some h
   refine ⟨_, ⟨(by omega), map_at he81, rfl⟩, ?_⟩
   conv=>whnf
   refine Nf.mk (List.length e81) len_map ?_
   conv=>whnf
   obtain ⟨c82, h⟩ := chk_some h
   refine Side.mk c82 ?_
   conv=>whnf
   refine Both.mk ?_ ?_<;>intro b83
   ·replace h := cond_t b83 h
    have b83d := odt b83
    conv=>whnf
    cases h
   ·replace h := cond_f b83 h
    have b83d := odf b83
    conv=>whnf
    refine Side.mk (by show inR _; unfold inR; omega) ?_
    conv=>whnf
    cases h
    exact Nxt.mk _ ho79 (Ent.mk [] rfl ⟨eI rfl rfl, eI rfl rfl, eI rfl rfl, eI rfl rfl, eI rfl rfl, trivial⟩ trivial trivial)
  ·replace h := cond_f b80 h
   have b80d := odf b80
   conv=>whnf
   cases h
   have ho79 : _ = _ := ho79
   cases ho79
   exact Join.mk (Ent.mk [] rfl ⟨eI rfl rfl, eI rfl rfl, trivial⟩ trivial trivial)
 ·replace h := hk51
  obtain ⟨z85, _⟩ := hp
  conv=>whnf
  obtain ⟨c86, hc86, h⟩ := bind_some h
  refine ⟨_, (sp_lib_Grow_words (↑size68 : Int) c86 (hc86)), ?_⟩
  conv=>whnf
  refine Nf.mk (List.length slices_) len_map ?_
  conv=>whnf
  obtain ⟨y102, hc, hk87⟩ := bind_some h
  clear h
  have h := hc
  clear hc
  refine Cut.mk (mkSt [(6, .osl 64 1)] [(64, .row 38 1 (List.map (cL cI) y102))] []) (List.length y102 ≤ 17592186044416 ∧ True) ((Holds.kdl 64 rfl).and (Holds.true_ _)) ?_ (fun hp => ?_)
  ·conv=>whnf
   refine Loops.iter (fun (s : List (List Int) × Nat) => slices_Concat_SSint_Sint.s4 slices_ s.1 s.2) (fun (y106, y107) => mkSt [(6, .osl 64 1), (25, .im (nL (cL (cL cI)) slices_)), (26, .im (nI (↑(List.length slices_) : Int))), (27, .im (nI (↑y107 : Int)))] [(64, .row 38 1 (List.map (cL cI) y106))] []) (fun (y106, y107) => List.length slices_ ≤ 17592186044416 ∧ List.length y106 ≤ 17592186044416 ∧ True) h (Ent.mk [(64, some 24)] rfl ⟨⟨.osl 24 _, rfl, .osl rfl rfl rfl⟩, eI rfl rfl, eI rfl rfl, eI rfl rfl, trivial⟩ ⟨.inl ⟨24, rfl, rfl, trivial⟩, trivial⟩ trivial) (by rintro ⟨y106, y107⟩; exact ((Holds.avl 25 rfl).and ((Holds.kdl 64 rfl).and (Holds.true_ _)))) ?_
   clear h
   rintro k ⟨y106, y107⟩ o hp h ho111
   replace h : slices_Concat_SSint_Sint.s4 slices_ y106 y107 = some o := h
   unfold slices_Concat_SSint_Sint.s4 at h
   obtain ⟨z115, z116, _⟩ := hp
   conv=>whnf
   refine Both.mk ?_ ?_<;>intro b112
   ·replace h := cond_t b112 h
    have b112d := odt b112
    conv=>whnf
    obtain ⟨e113, he113, h⟩ := idxn_some h
    refine ⟨_, ⟨(by omega), map_at he113, rfl⟩, ?_⟩
    conv=>whnf
    obtain ⟨c114, h⟩ := chk_some h
    refine Side.mk ⟨rfl, map_len (l := e113) (c := cL cI) fun _ => rfl, show capOk _ 24 by simpa only [List.length_map, List.length_cons, List.length_nil, Nat.zero_add] using c114⟩ ?_
    conv=>whnf
    refine Nf.mk (List.map (cL cI) (y106 ++ e113)) (app_map (l := y106) (m := e113) (c := cL cI)) ?_
    conv=>whnf
    refine Side.mk (by show inR _; unfold inR; omega) ?_
    conv=>whnf
    cases h
    exact Nxt.mk _ ho111 (Ent.mk [(64, some 64)] rfl ⟨⟨.osl 64 _, rfl, .osl rfl rfl rfl⟩, eI rfl rfl, eI rfl rfl, eI rfl rfl, trivial⟩ ⟨.inl ⟨64, rfl, rfl, trivial⟩, trivial⟩ trivial)
   ·replace h := cond_f b112 h
    have b112d := odf b112
    conv=>whnf
    cases h
    have ho111 : _ = _ := ho111
    cases ho111
    exact Join.mk (Ent.mk [(64, some 64)] rfl ⟨⟨.osl 64 _, rfl, .osl rfl rfl rfl⟩, trivial⟩ ⟨.inl ⟨64, rfl, rfl, trivial⟩, trivial⟩ trivial)
  ·replace h := hk87
   obtain ⟨z117, _⟩ := hp
   conv=>whnf
   cases h
   conv=>whnf
   exact Side.mk ⟨rfl, trivial⟩ ⟨rfl, rfl⟩
theorem sp_wordset_Union (lists_ : List (List (List Int))) (r : List (List Int)) (h : Ok (nL (cL (cL cI)) lists_) → wordset_Union lists_ = some r) : Sp Tryz.prog 90 [.im (nL (cL (cL cI)) lists_)] (.im (nL (cL cI) r)) := by
 refine sp_of rfl [] rfl rfl rfl (Nat.le_of_ble_eq_true rfl) rfl fun hk => ?_
 replace h := h hk.1
 have z1 : List.length lists_ ≤ 17592186044416 := ok_len hk.1
 unfold wordset_Union at h
 conv=>whnf
 obtain ⟨c51, hc51, h⟩ := bind_some h
 refine ⟨_, (sp_slices_Concat_SSint_Sint lists_ c51 (fun _ => hc51)).im, ?_⟩
 conv=>whnf
 obtain ⟨c52, hc52, h⟩ := bind_some h
 refine ⟨_, (sp_wordset_Sorted c51 c52 (fun _ => hc52)).im, ?_⟩
 conv=>whnf
 cases h
 conv=>whnf
 exact ⟨rfl, rfl⟩
theorem sp_table_checked (t_ : T_api_Table) (next_ : T_api_Table) (r : T_api_Table × Int) (h : Ok (.agg (c_api_Table t_)) → Ok (.agg (c_api_Table next_)) → table_checked t_ next_ = some r) : Sp Tryz.prog 89 [.im (.agg (c_api_Table t_)), .im (.agg (c_api_Table next_))] (.tup [.agg (c_api_Table r.1), nI r.2]) := by
 refine sp_of rfl [700002, 700003] rfl rfl rfl (Nat.le_of_ble_eq_true rfl) rfl fun hk => ?_
 replace h := h hk.1 hk.2.1
 have z1 : List.length t_.Prefixes ≤ 17592186044416 := ok_len (Ok.agg_at hk.1 1 rfl)
 have z2 : List.length t_.Suffixes ≤ 17592186044416 := ok_len (Ok.agg_at hk.1 2 rfl)
 have z3 : List.length next_.Prefixes ≤ 17592186044416 := ok_len (Ok.agg_at hk.2.1 1 rfl)
 have z4 : List.length next_.Suffixes ≤ 17592186044416 := ok_len (Ok.agg_at hk.2.1 2 rfl)
 unfold table_checked at h
 conv=>whnf
 obtain ⟨c51, hc51, h⟩ := bind_some h
 refine ⟨_, (sp_table_Valid next_ c51 (fun _ => hc51)), ?_⟩
 conv=>whnf
 refine Both.mk ?_ ?_<;>intro b52
 ·replace h := cond_t b52 h
  have b52d := odt b52
  conv=>whnf
  refine Side.mk rfl ?_
  conv=>whnf
  cases h
  conv=>whnf
  refine Side.mk ⟨rfl, trivial⟩ ?_
  conv=>whnf
  exact ⟨rfl, rfl⟩
 ·replace h := cond_f b52 h
  have b52d := odf b52
  conv=>whnf
  refine Side.mk rfl ?_
  conv=>whnf
  cases h
  conv=>whnf
  refine Side.mk ⟨rfl, trivial⟩ ?_
  conv=>whnf
  exact ⟨rfl, rfl⟩
theorem sp_table_Prefix (t_ : T_api_Table) (w_ : List Int) (r : T_api_Table × Int) (h : Ok (.agg (c_api_Table t_)) → Ok (nL cI w_) → table_Prefix t_ w_ = some r) : Sp Tryz.prog 33 [.im (.agg (c_api_Table t_)), .im (nL cI w_)] (.tup [.agg (c_api_Table r.1), nI r.2]) := by
 refine sp_of rfl [700002] rfl rfl rfl (Nat.le_of_ble_eq_true rfl) rfl fun hk => ?_
 replace h := h hk.1 hk.2.1
 have z1 : List.length t_.Prefixes ≤ 17592186044416 := ok_len (Ok.agg_at hk.1 1 rfl)
 have z2 : List.length t_.Suffixes ≤ 17592186044416 := ok_len (Ok.agg_at hk.1 2 rfl)
 have z3 : List.length w_ ≤ 17592186044416 := ok_len hk.2.1
 unfold table_Prefix at h
 conv=>whnf
 obtain ⟨c51, hc51, h⟩ := bind_some h
 refine ⟨_, (sp_table_Valid t_ c51 (fun _ => hc51)), ?_⟩
 conv=>whnf
 refine Both.mk ?_ ?_<;>intro b52
 ·replace h := cond_t b52 h
  have b52d := odt b52
  conv=>whnf
  refine Side.mk rfl ?_
  conv=>whnf
  cases h
  conv=>whnf
  refine Side.mk ⟨rfl, trivial⟩ ?_
  conv=>whnf
  exact ⟨rfl, rfl⟩
 ·replace h := cond_f b52 h
  have b52d := odf b52
  conv=>whnf
  obtain ⟨c53, hc53, h⟩ := bind_some h
  refine ⟨_, (sp_word_Check w_ t_.Inputs c53 (fun _ _ => hc53)), ?_⟩
  conv=>whnf
  refine Both.mk ?_ ?_<;>intro b54
  ·replace h := cond_t b54 h
   have b54d := odt b54
   conv=>whnf
   refine Side.mk rfl ?_
   conv=>whnf
   cases h
   conv=>whnf
   refine Side.mk ⟨rfl, trivial⟩ ?_
   conv=>whnf
   exact ⟨rfl, rfl⟩
  ·replace h := cond_f b54 h
   have b54d := odf b54
   conv=>whnf
   obtain ⟨c55, hc55, h⟩ := bind_some h
   refine ⟨_, (sp_wordset_Prefixes [w_] c55 (fun _ => hc55)), ?_⟩
   conv=>whnf
   obtain ⟨c56, hc56, h⟩ := bind_some h
   refine ⟨_, (sp_wordset_Union [t_.Prefixes, c55] c56 (fun _ => hc56)), ?_⟩
   conv=>whnf
   obtain ⟨c57, hc57, h⟩ := bind_some h
   refine ⟨_, (sp_wordset_Sorted t_.Suffixes c57 (fun _ => hc57)).im, ?_⟩
   conv=>whnf
   obtain ⟨c58, hc58, h⟩ := bind_some h
   refine ⟨_, (sp_table_checked t_ (⟨t_.Inputs, c56, c57⟩ : T_api_Table) c58 (fun _ _ => hc58)), ?_⟩
   conv=>whnf
   refine Side.mk rfl ?_
   conv=>whnf
   cases h
   conv=>whnf
   refine Side.mk ⟨rfl, trivial⟩ ?_
   conv=>whnf
   exact ⟨rfl, rfl⟩
theorem sp_table_Suffix (t_ : T_api_Table) (w_ : List Int) (r : T_api_Table × Int) (h : Ok (.agg (c_api_Table t_)) → Ok (nL cI w_) → table_Suffix t_ w_ = some r) : Sp Tryz.prog 35 [.im (.agg (c_api_Table t_)), .im (nL cI w_)] (.tup [.agg (c_api_Table r.1), nI r.2]) := by
 refine sp_of rfl [700002] rfl rfl rfl (Nat.le_of_ble_eq_true rfl) rfl fun hk => ?_
 replace h := h hk.1 hk.2.1
 have z1 : List.length t_.Prefixes ≤ 17592186044416 := ok_len (Ok.agg_at hk.1 1 rfl)
 have z2 : List.length t_.Suffixes ≤ 17592186044416 := ok_len (Ok.agg_at hk.1 2 rfl)
 have z3 : List.length w_ ≤ 17592186044416 := ok_len hk.2.1
 unfold table_Suffix at h
 conv=>whnf
 obtain ⟨c51, hc51, h⟩ := bind_some h
 refine ⟨_, (sp_table_Valid t_ c51 (fun _ => hc51)), ?_⟩
 conv=>whnf
 refine Both.mk ?_ ?_<;>intro b52
 ·replace h := cond_t b52 h
  have b52d := odt b52
  conv=>whnf
  refine Side.mk rfl ?_
  conv=>whnf
  cases h
  conv=>whnf
  refine Side.mk ⟨rfl, trivial⟩ ?_
  conv=>whnf
  exact ⟨rfl, rfl⟩
 ·replace h := cond_f b52 h
  have b52d := odf b52
  conv=>whnf
  refine Nf.mk (List.length w_) len_map ?_
  conv=>whnf
  refine Both.mk ?_ ?_<;>intro b53
  ·replace h := cond_t b53 h
   have b53d := odt b53
   conv=>whnf
   refine Side.mk rfl ?_
   conv=>whnf
   cases h
   conv=>whnf
   refine Side.mk ⟨rfl, trivial⟩ ?_
   conv=>whnf
   exact ⟨rfl, rfl⟩
  ·replace h := cond_f b53 h
   have b53d := odf b53
   conv=>whnf
   obtain ⟨c54, hc54, h⟩ := bind_some h
   refine ⟨_, (sp_word_Check w_ t_.Inputs c54 (fun _ _ => hc54)), ?_⟩
   conv=>whnf
   refine Both.mk ?_ ?_<;>intro b55
   ·replace h := cond_t b55 h
    have b55d := odt b55
    conv=>whnf
    refine Side.mk rfl ?_
    conv=>whnf
    cases h
    conv=>whnf
    refine Side.mk ⟨rfl, trivial⟩ ?_
    conv=>whnf
    exact ⟨rfl, rfl⟩
   ·replace h := cond_f b55 h
    have b55d := odf b55
    conv=>whnf
    obtain ⟨c56, hc56, h⟩ := bind_some h
    refine ⟨_, (sp_wordset_Sorted t_.Prefixes c56 (fun _ => hc56)).im, ?_⟩
    conv=>whnf
    obtain ⟨c57, hc57, h⟩ := bind_some h
    refine ⟨_, (sp_wordset_Union [t_.Suffixes, [w_]] c57 (fun _ => hc57)), ?_⟩
    conv=>whnf
    obtain ⟨c58, hc58, h⟩ := bind_some h
    refine ⟨_, (sp_table_checked t_ (⟨t_.Inputs, c56, c57⟩ : T_api_Table) c58 (fun _ _ => hc58)), ?_⟩
    conv=>whnf
    refine Side.mk rfl ?_
    conv=>whnf
    cases h
    conv=>whnf
    refine Side.mk ⟨rfl, trivial⟩ ?_
    conv=>whnf
    exact ⟨rfl, rfl⟩
theorem sp_table_Hypothesis (t_ : T_api_Table) (o_ : T_api_Obs) (r : T_api_Hyp × Int) (h : Ok (.agg (c_api_Table t_)) → Ok (.agg (c_api_Obs o_)) → table_Hypothesis t_ o_ = some r) : Sp Tryz.prog 37 [.im (.agg (c_api_Table t_)), .im (.agg (c_api_Obs o_))] (.tup [.agg (c_api_Hyp r.1), nI r.2]) := by
 refine sp_of rfl [700002, 700003] rfl rfl rfl (Nat.le_of_ble_eq_true rfl) rfl fun hk => ?_
 replace h := h hk.1 hk.2.1
 have z1 : List.length t_.Prefixes ≤ 17592186044416 := ok_len (Ok.agg_at hk.1 1 rfl)
 have z2 : List.length t_.Suffixes ≤ 17592186044416 := ok_len (Ok.agg_at hk.1 2 rfl)
 have z3 : List.length o_.Traces ≤ 17592186044416 := ok_len (Ok.agg_at hk.2.1 1 rfl)
 unfold table_Hypothesis at h
 conv=>whnf
 obtain ⟨c51, hc51, h⟩ := bind_some h
 refine ⟨_, (sp_table_look t_ o_ c51 (fun _ _ => hc51)), ?_⟩
 conv=>whnf
 refine Side.mk rfl ?_
 conv=>whnf
 refine Both.mk ?_ ?_<;>intro b52
 ·replace h := cond_t b52 h
  have b52d := odt b52
  conv=>whnf
  refine Side.mk rfl ?_
  conv=>whnf
  cases h
  conv=>whnf
  refine Side.mk ⟨rfl, trivial⟩ ?_
  conv=>whnf
  exact ⟨rfl, rfl⟩
 ·replace h := cond_f b52 h
  have b52d := odf b52
  conv=>whnf
  refine Side.mk rfl ?_
  conv=>whnf
  obtain ⟨c53, hc53, h⟩ := bind_some h
  refine ⟨_, (sp_table_view_unclosed c51.1 c53 (fun _ => hc53)), ?_⟩
  conv=>whnf
  refine Side.mk rfl ?_
  conv=>whnf
  obtain ⟨c54, hc54, h⟩ := bind_some h
  refine ⟨_, (sp_table_view_inconsistent c51.1 c54 (fun _ => hc54)), ?_⟩
  conv=>whnf
  obtain ⟨y58, hc, hk56⟩ := bind_some h
  clear h
  have h := hc
  clear hc
  refine Cut.mk (mkSt [(2, .im (.ref (c_api_Table t_))), (4, .own 121 1 0), (6, .own 122 1 0), (44, .im (nB y58))] [(121, .box 60 5), (122, .box 111 4)] [(121, 0, .im (nI 0)), (121, 1, .im (nI 0)), (121, 2, .im (.val (.slice none 0 0))), (121, 3, .im (.val (.slice none 0 0))), (121, 4, .im (.val (.slice none 0 0))), (122, 0, .im (nL (cL (cL cI)) c51.1.rows)), (122, 1, .im (nL cI c51.1.prefixes)), (122, 2, .im (nL (cL cI) c51.1.next)), (122, 3, .im (.any))]) (List.length c51.1.rows ≤ 17592186044416 ∧ List.length c51.1.prefixes ≤ 17592186044416 ∧ List.length c51.1.next ≤ 17592186044416 ∧ True) ((Holds.cel 122 0 rfl (by decide) rfl).and ((Holds.cel 122 1 rfl (by decide) rfl).and ((Holds.cel 122 2 rfl (by decide) rfl).and (Holds.true_ _)))) ?_ (fun hp => ?_)
  ·conv=>whnf
   refine Both.mk ?_ ?_<;>intro b59
   ·replace b59 := beq_ff b59
    replace h := cond_f b59 h
    conv=>whnf
    refine Both.no b59 ?_
    conv=>whnf
    cases h
    exact Join.mk (Ent.mk [(121, some 4), (122, some 6)] rfl ⟨eI rfl rfl, ⟨.own 4 _ 0, rfl, .own rfl rfl rfl⟩, ⟨.own 6 _ 0, rfl, .own rfl rfl rfl⟩, eI rfl rfl, trivial⟩ ⟨.inl ⟨4, rfl, rfl, trivial⟩, .inl ⟨6, rfl, rfl, trivial⟩, trivial⟩ ⟨⟨4, .im _, rfl, rfl, .im (Sub.rfl' rfl)⟩, ⟨4, .im _, rfl, rfl, .im (Sub.rfl' rfl)⟩, ⟨4, .im (.val (.slice none 0 0)), rfl, rfl, .im (Sub.rfl' rfl)⟩, ⟨4, .im (.val (.slice none 0 0)), rfl, rfl, .im (Sub.rfl' rfl)⟩, ⟨4, .im (.val (.slice none 0 0)), rfl, rfl, .im (Sub.rfl' rfl)⟩, ⟨6, .im _, rfl, rfl, .im (Sub.rfl' rfl)⟩, ⟨6, .im _, rfl, rfl, .im (Sub.rfl' rfl)⟩, ⟨6, .im _, rfl, rfl, .im (Sub.rfl' rfl)⟩, ⟨6, .im _, rfl, rfl, .im (Sub.rfl' rfl)⟩, trivial⟩)
   ·replace b59 := beq_ft b59
    replace h := cond_t b59 h
    conv=>whnf
    refine Both.yes b59 ?_
    conv=>whnf
    cases h
    exact Join.mk (Ent.mk [(121, some 4), (122, some 6)] rfl ⟨eI rfl rfl, ⟨.own 4 _ 0, rfl, .own rfl rfl rfl⟩, ⟨.own 6 _ 0, rfl, .own rfl rfl rfl⟩, eI rfl rfl, trivial⟩ ⟨.inl ⟨4, rfl, rfl, trivial⟩, .inl ⟨6, rfl, rfl, trivial⟩, trivial⟩ ⟨⟨4, .im _, rfl, rfl, .im (Sub.rfl' rfl)⟩, ⟨4, .im _, rfl, rfl, .im (Sub.rfl' rfl)⟩, ⟨4, .im (.val (.slice none 0 0)), rfl, rfl, .im (Sub.rfl' rfl)⟩, ⟨4, .im (.val (.slice none 0 0)), rfl, rfl, .im (Sub.rfl' rfl)⟩, ⟨4, .im (.val (.slice none 0 0)), rfl, rfl, .im (Sub.rfl' rfl)⟩, ⟨6, .im _, rfl, rfl, .im (Sub.rfl' rfl)⟩, ⟨6, .im _, rfl, rfl, .im (Sub.rfl' rfl)⟩, ⟨6, .im _, rfl, rfl, .im (Sub.rfl' rfl)⟩, ⟨6, .im _, rfl, rfl, .im (Sub.rfl' rfl)⟩, trivial⟩)
  ·replace h := hk56
   obtain ⟨z60, z61, z62, _⟩ := hp
   conv=>whnf
   refine Both.mk ?_ ?_<;>intro b63
   ·replace h := cond_t b63 h
    conv=>whnf
    refine Side.mk rfl ?_
    conv=>whnf
    cases h
    conv=>whnf
    refine Side.mk ⟨rfl, trivial⟩ ?_
    conv=>whnf
    exact ⟨rfl, rfl⟩
   ·replace h := cond_f b63 h
    conv=>whnf
    refine Side.mk rfl ?_
    conv=>whnf
    refine Side.mk rfl ?_
    conv=>whnf
    refine Nf.mk (List.length c51.1.rows) len_map ?_
    conv=>whnf
    refine Both.mk ?_ ?_<;>intro b64
    ·replace h := cond_t b64 h
     have b64d := odt b64
     conv=>whnf
     refine Side.mk rfl ?_
     conv=>whnf
     cases h
     conv=>whnf
     refine Side.mk ⟨rfl, trivial⟩ ?_
     conv=>whnf
     exact ⟨rfl, rfl⟩
    ·replace h := cond_f b64 h
     have b64d := odf b64
     conv=>whnf
     refine Side.mk rfl ?_
     conv=>whnf
     refine Side.mk rfl ?_
     conv=>whnf
     refine Side.mk rfl ?_
     conv=>whnf
     refine Nf.mk (List.length c51.1.prefixes) len_map ?_
     conv=>whnf
     obtain ⟨⟨y506, y507, y508⟩, hc, hk65⟩ := bind_some h
     clear h
     have h := hc
     clear hc
     refine Cut.mk (mkSt [(4, .own 121 1 0), (14, .own 122 1 0)] [(121, .box 60 5), (122, .box 60 5), (123, .row 38 1 (List.map (cL cI) y506)), (124, .row 38 1 (List.map (cL cI) y507)), (125, .row 38 1 (List.map (cL cI) y508))] [(121, 0, .im (nI 0)), (121, 1, .im (nI 0)), (121, 2, .im (.val (.slice none 0 0))), (121, 3, .im (.val (.slice none 0 0))), (121, 4, .im (.val (.slice none 0 0))), (122, 0, .im (nI t_.Inputs)), (122, 1, .im (nI 0)), (122, 2, .osl 123 1), (122, 3, .osl 124 1), (122, 4, .osl 125 1)]) (List.length y506 ≤ 17592186044416 ∧ List.length y507 ≤ 17592186044416 ∧ List.length y508 ≤ 17592186044416 ∧ True) ((Holds.kdl 123 rfl).and ((Holds.kdl 124 rfl).and ((Holds.kdl 125 rfl).and (Holds.true_ _)))) ?_ (fun hp => ?_)
     ·conv=>whnf
      refine Loops.iter (fun (s : List (List Int) × List (List Int) × List (List Int) × Nat) => table_Hypothesis.s32 t_ c51 s.1 s.2.1 s.2.2.1 s.2.2.2) (fun (y636, y637, y638, y639) => mkSt [(2, .im (.ref (c_api_Table t_))), (4, .own 121 1 0), (6, .own 122 1 0), (14, .own 123 1 0), (56, .im (nL cI c51.1.prefixes)), (57, .im (nI (↑(List.length c51.1.prefixes) : Int))), (58, .im (nI (↑y639 : Int)))] [(121, .box 60 5), (122, .box 111 4), (123, .box 60 5), (124, .row 38 1 (List.map (cL cI) y636)), (125, .row 38 1 (List.map (cL cI) y637)), (126, .row 38 1 (List.map (cL cI) y638))] [(121, 0, .im (nI 0)), (121, 1, .im (nI 0)), (121, 2, .im (.val (.slice none 0 0))), (121, 3, .im (.val (.slice none 0 0))), (121, 4, .im (.val (.slice none 0 0))), (122, 0, .im (nL (cL (cL cI)) c51.1.rows)), (122, 1, .im (nL cI c51.1.prefixes)), (122, 2, .im (nL (cL cI) c51.1.next)), (122, 3, .im (.any)), (123, 0, .im (nI t_.Inputs)), (123, 1, .im (nI 0)), (123, 2, .osl 124 1), (123, 3, .osl 125 1), (123, 4, .osl 126 1)]) (fun (y636, y637, y638, y639) => List.length c51.1.prefixes ≤ 17592186044416 ∧ List.length c51.1.rows ≤ 17592186044416 ∧ List.length c51.1.next ≤ 17592186044416 ∧ List.length y636 ≤ 17592186044416 ∧ List.length y637 ≤ 17592186044416 ∧ List.length y638 ≤ 17592186044416 ∧ True) h (Ent.mk [(121, some 121), (122, some 122), (123, some 14), (124, none), (125, none), (126, none)] rfl ⟨eI rfl rfl, ⟨.own 121 _ 0, rfl, .own rfl rfl rfl⟩, ⟨.own 122 _ 0, rfl, .own rfl rfl rfl⟩, ⟨.own 14 _ 0, rfl, .own rfl rfl rfl⟩, eI rfl rfl, eI rfl rfl, eI rfl rfl, trivial⟩ ⟨.inl ⟨121, rfl, rfl, trivial⟩, .inl ⟨122, rfl, rfl, trivial⟩, .inl ⟨14, rfl, rfl, trivial⟩, .inr ⟨rfl, rfl, .inl ⟨_, _, rfl, by decide⟩⟩, .inr ⟨rfl, rfl, .inl ⟨_, _, rfl, by decide⟩⟩, .inr ⟨rfl, rfl, .inl ⟨_, _, rfl, by decide⟩⟩, trivial⟩ ⟨⟨121, .im _, rfl, rfl, .im (Sub.rfl' rfl)⟩, ⟨121, .im _, rfl, rfl, .im (Sub.rfl' rfl)⟩, ⟨121, .im (.val (.slice none 0 0)), rfl, rfl, .im (Sub.rfl' rfl)⟩, ⟨121, .im (.val (.slice none 0 0)), rfl, rfl, .im (Sub.rfl' rfl)⟩, ⟨121, .im (.val (.slice none 0 0)), rfl, rfl, .im (Sub.rfl' rfl)⟩, ⟨122, .im _, rfl, rfl, .im (Sub.rfl' rfl)⟩, ⟨122, .im _, rfl, rfl, .im (Sub.rfl' rfl)⟩, ⟨122, .im _, rfl, rfl, .im (Sub.rfl' rfl)⟩, ⟨122, .im _, rfl, rfl, .im (Sub.rfl' rfl)⟩, ⟨14, .im _, rfl, rfl, .im (Sub.rfl' rfl)⟩, ⟨14, .im _, rfl, rfl, .im (Sub.rfl' rfl)⟩, ⟨14, .im (.val (.slice none 0 0)), rfl, rfl, .made rfl rfl⟩, ⟨14, .im (.val (.slice none 0 0)), rfl, rfl, .made rfl rfl⟩, ⟨14, .im (.val (.slice none 0 0)), rfl, rfl, .made rfl rfl⟩, trivial⟩) (by rintro ⟨y636, y637, y638, y639⟩; exact ((Holds.avl 56 rfl).and ((Holds.cel 122 0 rfl (by decide) rfl).and ((Holds.cel 122 2 rfl (by decide) rfl).and ((Holds.kdl 124 rfl).and ((Holds.kdl 125 rfl).and ((Holds.kdl 126 rfl).and (Holds.true_ _)))))))) ?_
      clear h
      rintro k ⟨y636, y637, y638, y639⟩ o hp h ho791
      replace h : table_Hypothesis.s32 t_ c51 y636 y637 y638 y639 = some o := h
      unfold table_Hypothesis.s32 at h
      obtain ⟨z943, z944, z945, z946, z947, z948, _⟩ := hp
      conv=>whnf
      refine Both.mk ?_ ?_<;>intro b792
      ·replace h := cond_t b792 h
       have b792d := odt b792
       conv=>whnf
       obtain ⟨⟨y864, y865, y866⟩, hc, hk793⟩ := bind_some h
       clear h
       have h := hc
       clear hc
       refine Cut.mk (mkSt [(2, .im (.ref (c_api_Table t_))), (4, .own 121 1 0), (6, .own 122 1 0), (14, .own 123 1 0), (56, .im (nL cI c51.1.prefixes)), (57, .im (nI (↑(List.length c51.1.prefixes) : Int))), (58, .im (nI (↑y639 : Int)))] [(121, .box 60 5), (122, .box 111 4), (123, .box 60 5), (124, .row 38 1 (List.map (cL cI) y864)), (125, .row 38 1 (List.map (cL cI) y865)), (126, .row 38 1 (List.map (cL cI) y866))] [(121, 0, .im (nI 0)), (121, 1, .im (nI 0)), (121, 2, .im (.val (.slice none 0 0))), (121, 3, .im (.val (.slice none 0 0))), (121, 4, .im (.val (.slice none 0 0))), (122, 0, .im (nL (cL (cL cI)) c51.1.rows)), (122, 1, .im (nL cI c51.1.prefixes)), (122, 2, .im (nL (cL cI) c51.1.next)), (122, 3, .im (.any)), (123, 0, .im (nI t_.Inputs)), (123, 1, .im (nI 0)), (123, 2, .osl 124 1), (123, 3, .osl 125 1), (123, 4, .osl 126 1)]) (List.length c51.1.prefixes ≤ 17592186044416 ∧ List.length c51.1.rows ≤ 17592186044416 ∧ List.length c51.1.next ≤ 17592186044416 ∧ List.length y864 ≤ 17592186044416 ∧ List.length y865 ≤ 17592186044416 ∧ List.length y866 ≤ 17592186044416 ∧ True) ((Holds.avl 56 rfl).and ((Holds.cel 122 0 rfl (by decide) rfl).and ((Holds.cel 122 2 rfl (by decide) rfl).and ((Holds.kdl 124 rfl).and ((Holds.kdl 125 rfl).and ((Holds.kdl 126 rfl).and (Holds.true_ _))))))) ?_ (fun hp => ?_)
       ·conv=>whnf
        obtain ⟨e867, he867, h⟩ := idxn_some h
        refine ⟨_, ⟨(by omega), map_at he867, rfl⟩, ?_⟩
        conv=>whnf
        refine Side.mk rfl ?_
        conv=>whnf
        refine Side.mk rfl ?_
        conv=>whnf
        refine Side.mk rfl ?_
        conv=>whnf
        refine Nf.mk (List.length y638) len_map ?_
        conv=>whnf
        refine Both.mk ?_ ?_<;>intro b868
        ·replace h := cond_t b868 h
         have b868d := odt b868
         conv=>whnf
         cases h
         exact Join.mk (Ent.mk [(121, some 121), (122, some 122), (123, some 123), (124, some 124), (125, some 125), (126, some 126)] rfl ⟨eI rfl rfl, ⟨.own 121 _ 0, rfl, .own rfl rfl rfl⟩, ⟨.own 122 _ 0, rfl, .own rfl rfl rfl⟩, ⟨.own 123 _ 0, rfl, .own rfl rfl rfl⟩, eI rfl rfl, eI rfl rfl, eI rfl rfl, trivial⟩ ⟨.inl ⟨121, rfl, rfl, trivial⟩, .inl ⟨122, rfl, rfl, trivial⟩, .inl ⟨123, rfl, rfl, trivial⟩, .inl ⟨124, rfl, rfl, trivial⟩, .inl ⟨125, rfl, rfl, trivial⟩, .inl ⟨126, rfl, rfl, trivial⟩, trivial⟩ ⟨⟨121, .im _, rfl, rfl, .im (Sub.rfl' rfl)⟩, ⟨121, .im _, rfl, rfl, .im (Sub.rfl' rfl)⟩, ⟨121, .im (.val (.slice none 0 0)), rfl, rfl, .im (Sub.rfl' rfl)⟩, ⟨121, .im (.val (.slice none 0 0)), rfl, rfl, .im (Sub.rfl' rfl)⟩, ⟨121, .im (.val (.slice none 0 0)), rfl, rfl, .im (Sub.rfl' rfl)⟩, ⟨122, .im _, rfl, rfl, .im (Sub.rfl' rfl)⟩, ⟨122, .im _, rfl, rfl, .im (Sub.rfl' rfl)⟩, ⟨122, .im _, rfl, rfl, .im (Sub.rfl' rfl)⟩, ⟨122, .im _, rfl, rfl, .im (Sub.rfl' rfl)⟩, ⟨123, .im _, rfl, rfl, .im (Sub.rfl' rfl)⟩, ⟨123, .im _, rfl, rfl, .im (Sub.rfl' rfl)⟩, ⟨123, .osl 124 _, rfl, rfl, .osl rfl rfl rfl⟩, ⟨123, .osl 125 _, rfl, rfl, .osl rfl rfl rfl⟩, ⟨123, .osl 126 _, rfl, rfl, .osl rfl rfl rfl⟩, trivial⟩)
        ·replace h := cond_f b868 h
         have b868d := odf b868
         conv=>whnf
         obtain ⟨y896, hc, hk869⟩ := bind_some h
         clear h
         have h := hc
         clear hc
         refine Cut.mk (mkSt [(2, .im (.ref (c_api_Table t_))), (4, .own 121 1 0), (6, .own 122 1 0), (14, .own 123 1 0), (15, .im (nI (↑y639 : Int))), (17, .osl 127 1), (56, .im (nL cI c51.1.prefixes)), (57, .im (nI (↑(List.length c51.1.prefixes) : Int))), (58, .im (nI (↑y639 : Int)))] [(121, .box 60 5), (122, .box 111 4), (123, .box 60 5), (124, .row 38 1 (List.map (cL cI) y636)), (125, .row 38 1 (List.map (cL cI) y637)), (126, .row 38 1 (List.map (cL cI) y638)), (127, .row 3 1 (List.map cI y896))] [(121, 0, .im (nI 0)), (121, 1, .im (nI 0)), (121, 2, .im (.val (.slice none 0 0))), (121, 3, .im (.val (.slice none 0 0))), (121, 4, .im (.val (.slice none 0 0))), (122, 0, .im (nL (cL (cL cI)) c51.1.rows)), (122, 1, .im (nL cI c51.1.prefixes)), (122, 2, .im (nL (cL cI) c51.1.next)), (122, 3, .im (.any)), (123, 0, .im (nI t_.Inputs)), (123, 1, .im (nI 0)), (123, 2, .osl 124 1), (123, 3, .osl 125 1), (123, 4, .osl 126 1)]) (List.length c51.1.prefixes ≤ 17592186044416 ∧ List.length c51.1.rows ≤ 17592186044416 ∧ List.length c51.1.next ≤ 17592186044416 ∧ List.length y636 ≤ 17592186044416 ∧ List.length y637 ≤ 17592186044416 ∧ List.length y638 ≤ 17592186044416 ∧ List.length y896 ≤ 17592186044416 ∧ True) ((Holds.avl 56 rfl).and ((Holds.cel 122 0 rfl (by decide) rfl).and ((Holds.cel 122 2 rfl (by decide) rfl).and ((Holds.kdl 124 rfl).and ((Holds.kdl 125 rfl).and ((Holds.kdl 126 rfl).and ((Holds.kdl 127 rfl).and (Holds.true_ _)))))))) ?_ (fun hp => ?_)
         ·conv=>whnf
          refine Loops.iter (fun (s : List Int × Nat) => table_Hypothesis.s30 t_ c51 e867 s.1 s.2) (fun (y901, y902) => mkSt [(2, .im (.ref (c_api_Table t_))), (4, .own 121 1 0), (6, .own 122 1 0), (14, .own 123 1 0), (15, .im (nI (↑y639 : Int))), (16, .im (nI e867)), (17, .osl 127 1), (56, .im (nL cI c51.1.prefixes)), (57, .im (nI (↑(List.length c51.1.prefixes) : Int))), (58, .im (nI (↑y639 : Int))), (69, .im (nI t_.Inputs)), (70, .im (nI (↑y902 : Int)))] [(121, .box 60 5), (122, .box 111 4), (123, .box 60 5), (124, .row 38 1 (List.map (cL cI) y636)), (125, .row 38 1 (List.map (cL cI) y637)), (126, .row 38 1 (List.map (cL cI) y638)), (127, .row 3 1 (List.map cI y901))] [(121, 0, .im (nI 0)), (121, 1, .im (nI 0)), (121, 2, .im (.val (.slice none 0 0))), (121, 3, .im (.val (.slice none 0 0))), (121, 4, .im (.val (.slice none 0 0))), (122, 0, .im (nL (cL (cL cI)) c51.1.rows)), (122, 1, .im (nL cI c51.1.prefixes)), (122, 2, .im (nL (cL cI) c51.1.next)), (122, 3, .im (.any)), (123, 0, .im (nI t_.Inputs)), (123, 1, .im (nI 0)), (123, 2, .osl 124 1), (123, 3, .osl 125 1), (123, 4, .osl 126 1)]) (fun (y901, y902) => List.length c51.1.prefixes ≤ 17592186044416 ∧ List.length c51.1.rows ≤ 17592186044416 ∧ List.length c51.1.next ≤ 17592186044416 ∧ List.length y636 ≤ 17592186044416 ∧ List.length y637 ≤ 17592186044416 ∧ List.length y638 ≤ 17592186044416 ∧ List.length y901 ≤ 17592186044416 ∧ True) h (Ent.mk [(121, some 121), (122, some 122), (123, some 123), (124, some 124), (125, some 125), (126, some 126), (127, none)] rfl ⟨eI rfl rfl, ⟨.own 121 _ 0, rfl, .own rfl rfl rfl⟩, ⟨.own 122 _ 0, rfl, .own rfl rfl rfl⟩, ⟨.own 123 _ 0, rfl, .own rfl rfl rfl⟩, eI rfl rfl, eI rfl rfl, ⟨.im (.val (.slice none 0 0)), rfl, .made rfl rfl⟩, eI rfl rfl, eI rfl rfl, eI rfl rfl, eI rfl rfl, eI rfl rfl, trivial⟩ ⟨.inl ⟨121, rfl, rfl, trivial⟩, .inl ⟨122, rfl, rfl, trivial⟩, .inl ⟨123, rfl, rfl, trivial⟩, .inl ⟨124, rfl, rfl, trivial⟩, .inl ⟨125, rfl, rfl, trivial⟩, .inl ⟨126, rfl, rfl, trivial⟩, .inr ⟨rfl, rfl, .inl ⟨_, _, rfl, by decide⟩⟩, trivial⟩ ⟨⟨121, .im _, rfl, rfl, .im (Sub.rfl' rfl)⟩, ⟨121, .im _, rfl, rfl, .im (Sub.rfl' rfl)⟩, ⟨121, .im (.val (.slice none 0 0)), rfl, rfl, .im (Sub.rfl' rfl)⟩, ⟨121, .im (.val (.slice none 0 0)), rfl, rfl, .im (Sub.rfl' rfl)⟩, ⟨121, .im (.val (.slice none 0 0)), rfl, rfl, .im (Sub.rfl' rfl)⟩, ⟨122, .im _, rfl, rfl, .im (Sub.rfl' rfl)⟩, ⟨122, .im _, rfl, rfl, .im (Sub.rfl' rfl)⟩, ⟨122, .im _, rfl, rfl, .im (Sub.rfl' rfl)⟩, ⟨122, .im _, rfl, rfl, .im (Sub.rfl' rfl)⟩, ⟨123, .im _, rfl, rfl, .im (Sub.rfl' rfl)⟩, ⟨123, .im _, rfl, rfl, .im (Sub.rfl' rfl)⟩, ⟨123, .osl 124 _, rfl, rfl, .osl rfl rfl rfl⟩, ⟨123, .osl 125 _, rfl, rfl, .osl rfl rfl rfl⟩, ⟨123, .osl 126 _, rfl, rfl, .osl rfl rfl rfl⟩, trivial⟩) (by rintro ⟨y901, y902⟩; exact ((Holds.avl 56 rfl).and ((Holds.cel 122 0 rfl (by decide) rfl).and ((Holds.cel 122 2 rfl (by decide) rfl).and ((Holds.kdl 124 rfl).and ((Holds.kdl 125 rfl).and ((Holds.kdl 126 rfl).and ((Holds.kdl 127 rfl).and (Holds.true_ _))))))))) ?_
          clear h
          rintro k ⟨y901, y902⟩ o hp h ho909
          replace h : table_Hypothesis.s30 t_ c51 e867 y901 y902 = some o := h
          unfold table_Hypothesis.s30 at h
          obtain ⟨z916, z917, z918, z919, z920, z921, z922, _⟩ := hp
          conv=>whnf
          refine Both.mk ?_ ?_<;>intro b910
          ·replace h := cond_t b910 h
           have b910d := odt b910
           conv=>whnf
           refine Side.mk rfl ?_
           conv=>whnf
           refine Side.mk rfl ?_
           conv=>whnf
           obtain ⟨e911, he911z, he911, h⟩ := idx_some h
           refine ⟨_, ⟨he911z, map_at he911, rfl⟩, ?_⟩
           conv=>whnf
           obtain ⟨e912, he912, h⟩ := idxn_some h
           refine ⟨_, ⟨(by omega), map_at he912, rfl⟩, ?_⟩
           conv=>whnf
           obtain ⟨e913, he913, h⟩ := idxn_some h
           refine ⟨_, ⟨(by omega), map_at he913, rfl⟩, ?_⟩
           conv=>whnf
           obtain ⟨c914, h⟩ := chk_some h
           refine Side.mk ⟨rfl, map_len (l := [e913]) (c := cI) fun _ => rfl, show capOk _ 8 by simpa only [List.length_map, List.length_cons, List.length_nil, Nat.zero_add] using c914⟩ ?_
           conv=>whnf
           refine Nf.mk (List.map cI (y901 ++ [e913])) (app_map (l := y901) (m := [e913]) (c := cI)) ?_
           conv=>whnf
           obtain ⟨c915, h⟩ := chk_some h
           refine Side.mk c915 ?_
           conv=>whnf
           cases h
           exact Nxt.mk _ ho909 (Ent.mk [(121, some 121), (122, some 122), (123, some 123), (124, some 124), (125, some 125), (126, some 126), (127, some 127)] rfl ⟨eI rfl rfl, ⟨.own 121 _ 0, rfl, .own rfl rfl rfl⟩, ⟨.own 122 _ 0, rfl, .own rfl rfl rfl⟩, ⟨.own 123 _ 0, rfl, .own rfl rfl rfl⟩, eI rfl rfl, eI rfl rfl, ⟨.osl 127 _, rfl, .osl rfl rfl rfl⟩, eI rfl rfl, eI rfl rfl, eI rfl rfl, eI rfl rfl, eI rfl rfl, trivial⟩ ⟨.inl ⟨121, rfl, rfl, trivial⟩, .inl ⟨122, rfl, rfl, trivial⟩, .inl ⟨123, rfl, rfl, trivial⟩, .inl ⟨124, rfl, rfl, trivial⟩, .inl ⟨125, rfl, rfl, trivial⟩, .inl ⟨126, rfl, rfl, trivial⟩, .inl ⟨127, rfl, rfl, trivial⟩, trivial⟩ ⟨⟨121, .im _, rfl, rfl, .im (Sub.rfl' rfl)⟩, ⟨121, .im _, rfl, rfl, .im (Sub.rfl' rfl)⟩, ⟨121, .im (.val (.slice none 0 0)), rfl, rfl, .im (Sub.rfl' rfl)⟩, ⟨121, .im (.val (.slice none 0 0)), rfl, rfl, .im (Sub.rfl' rfl)⟩, ⟨121, .im (.val (.slice none 0 0)), rfl, rfl, .im (Sub.rfl' rfl)⟩, ⟨122, .im _, rfl, rfl, .im (Sub.rfl' rfl)⟩, ⟨122, .im _, rfl, rfl, .im (Sub.rfl' rfl)⟩, ⟨122, .im _, rfl, rfl, .im (Sub.rfl' rfl)⟩, ⟨122, .im _, rfl, rfl, .im (Sub.rfl' rfl)⟩, ⟨123, .im _, rfl, rfl, .im (Sub.rfl' rfl)⟩, ⟨123, .im _, rfl, rfl, .im (Sub.rfl' rfl)⟩, ⟨123, .osl 124 _, rfl, rfl, .osl rfl rfl rfl⟩, ⟨123, .osl 125 _, rfl, rfl, .osl rfl rfl rfl⟩, ⟨123, .osl 126 _, rfl, rfl, .osl rfl rfl rfl⟩, trivial⟩)
          ·replace h := cond_f b910 h
           have b910d := odf b910
           conv=>whnf
           cases h
           have ho909 : _ = _ := ho909
           cases ho909
           exact Join.mk (Ent.mk [(121, some 121), (122, some 122), (123, some 123), (124, some 124), (125, some 125), (126, some 126), (127, some 127)] rfl ⟨eI rfl rfl, ⟨.own 121 _ 0, rfl, .own rfl rfl rfl⟩, ⟨.own 122 _ 0, rfl, .own rfl rfl rfl⟩, ⟨.own 123 _ 0, rfl, .own rfl rfl rfl⟩, eI rfl rfl, ⟨.osl 127 _, rfl, .osl rfl rfl rfl⟩, eI rfl rfl, eI rfl rfl, eI rfl rfl, trivial⟩ ⟨.inl ⟨121, rfl, rfl, trivial⟩, .inl ⟨122, rfl, rfl, trivial⟩, .inl ⟨123, rfl, rfl, trivial⟩, .inl ⟨124, rfl, rfl, trivial⟩, .inl ⟨125, rfl, rfl, trivial⟩, .inl ⟨126, rfl, rfl, trivial⟩, .inl ⟨127, rfl, rfl, trivial⟩, trivial⟩ ⟨⟨121, .im _, rfl, rfl, .im (Sub.rfl' rfl)⟩, ⟨121, .im _, rfl, rfl, .im (Sub.rfl' rfl)⟩, ⟨121, .im (.val (.slice none 0 0)), rfl, rfl, .im (Sub.rfl' rfl)⟩, ⟨121, .im (.val (.slice none 0 0)), rfl, rfl, .im (Sub.rfl' rfl)⟩, ⟨121, .im (.val (.slice none 0 0)), rfl, rfl, .im (Sub.rfl' rfl)⟩, ⟨122, .im _, rfl, rfl, .im (Sub.rfl' rfl)⟩, ⟨122, .im _, rfl, rfl, .im (Sub.rfl' rfl)⟩, ⟨122, .im _, rfl, rfl, .im (Sub.rfl' rfl)⟩, ⟨122, .im _, rfl, rfl, .im (Sub.rfl' rfl)⟩, ⟨123, .im _, rfl, rfl, .im (Sub.rfl' rfl)⟩, ⟨123, .im _, rfl, rfl, .im (Sub.rfl' rfl)⟩, ⟨123, .osl 124 _, rfl, rfl, .osl rfl rfl rfl⟩, ⟨123, .osl 125 _, rfl, rfl, .osl rfl rfl rfl⟩, ⟨123, .osl 126 _, rfl, rfl, .osl rfl rfl rfl⟩, trivial⟩)
         ·replace h := hk869
          obtain ⟨z923, z924, z925, z926, z927, z928, z929, _⟩ := hp
          conv=>whnf
          refine Side.mk rfl ?_
          conv=>whnf
          refine Side.mk rfl ?_
          conv=>whnf
          refine Side.mk rfl ?_
          conv=>whnf
          refine Side.mk rfl ?_
          conv=>whnf
          refine Side.mk rfl ?_
          conv=>whnf
          obtain ⟨e930, he930, h⟩ := idxn_some h
          refine ⟨_, ⟨(by omega), map_at he930, rfl⟩, ?_⟩
          conv=>whnf
          obtain ⟨c931, hc931, h⟩ := bind_some h
          refine ⟨_, (sp_lib_Clone_int e930 c931 (hc931)).im, ?_⟩
          conv=>whnf
          obtain ⟨c932, h⟩ := chk_some h
          refine Side.mk ⟨rfl, map_len (l := [c931]) (c := cL cI) fun _ => rfl, show capOk _ 24 by simpa only [List.length_map, List.length_cons, List.length_nil, Nat.zero_add] using c932⟩ ?_
          conv=>whnf
          refine Nf.mk (List.map (cL cI) (y636 ++ [c931])) (app_map (l := y636) (m := [c931]) (c := cL cI)) ?_
          conv=>whnf
          refine Side.mk rfl ?_
          conv=>whnf
          refine Side.mk rfl ?_
          conv=>whnf
          refine Side.mk rfl ?_
          conv=>whnf
          refine Side.mk rfl ?_
          conv=>whnf
          refine Side.mk rfl ?_
          conv=>whnf
          refine Side.mk rfl ?_
          conv=>whnf
          refine Side.mk ⟨rfl, trivial⟩ ?_
          conv=>whnf
          obtain ⟨c933, h⟩ := chk_some h
          refine Side.mk ⟨rfl, map_len (l := [y896]) (c := cL cI) fun _ => rfl, show capOk _ 24 by simpa only [List.length_map, List.length_cons, List.length_nil, Nat.zero_add] using c933⟩ ?_
          conv=>whnf
          refine Nf.mk (List.map (cL cI) (y637 ++ [y896])) (app_map (l := y637) (m := [y896]) (c := cL cI)) ?_
          conv=>whnf
          refine Side.mk rfl ?_
          conv=>whnf
          refine Side.mk rfl ?_
          conv=>whnf
          refine Side.mk rfl ?_
          conv=>whnf
          refine Side.mk rfl ?_
          conv=>whnf
          refine Side.mk rfl ?_
          conv=>whnf
          obtain ⟨e934, he934, h⟩ := idxn_some h
          refine ⟨_, ⟨(by omega), map_at he934, rfl⟩, ?_⟩
          conv=>whnf
          obtain ⟨c935, hc935, h⟩ := bind_some h
          refine ⟨_, (sp_lib_Clone_int e934 c935 (hc935)).im, ?_⟩
          conv=>whnf
          obtain ⟨c936, h⟩ := chk_some h
          refine Side.mk ⟨rfl, map_len (l := [c935]) (c := cL cI) fun _ => rfl, show capOk _ 24 by simpa only [List.length_map, List.length_cons, List.length_nil, Nat.zero_add] using c936⟩ ?_
          conv=>whnf
          refine Nf.mk (List.map (cL cI) (y638 ++ [c935])) (app_map (l := y638) (m := [c935]) (c := cL cI)) ?_
          conv=>whnf
          refine Side.mk rfl ?_
          conv=>whnf
          refine Side.mk rfl ?_
          conv=>whnf
          cases h
          exact Join.mk (Ent.mk [(121, some 121), (122, some 122), (123, some 123), (124, some 124), (125, some 125), (126, some 126)] rfl ⟨eI rfl rfl, ⟨.own 121 _ 0, rfl, .own rfl rfl rfl⟩, ⟨.own 122 _ 0, rfl, .own rfl rfl rfl⟩, ⟨.own 123 _ 0, rfl, .own rfl rfl rfl⟩, eI rfl rfl, eI rfl rfl, eI rfl rfl, trivial⟩ ⟨.inl ⟨121, rfl, rfl, trivial⟩, .inl ⟨122, rfl, rfl, trivial⟩, .inl ⟨123, rfl, rfl, trivial⟩, .inl ⟨124, rfl, rfl, trivial⟩, .inl ⟨125, rfl, rfl, trivial⟩, .inl ⟨126, rfl, rfl, trivial⟩, trivial⟩ ⟨⟨121, .im _, rfl, rfl, .im (Sub.rfl' rfl)⟩, ⟨121, .im _, rfl, rfl, .im (Sub.rfl' rfl)⟩, ⟨121, .im (.val (.slice none 0 0)), rfl, rfl, .im (Sub.rfl' rfl)⟩, ⟨121, .im (.val (.slice none 0 0)), rfl, rfl, .im (Sub.rfl' rfl)⟩, ⟨121, .im (.val (.slice none 0 0)), rfl, rfl, .im (Sub.rfl' rfl)⟩, ⟨122, .im _, rfl, rfl, .im (Sub.rfl' rfl)⟩, ⟨122, .im _, rfl, rfl, .im (Sub.rfl' rfl)⟩, ⟨122, .im _, rfl, rfl, .im (Sub.rfl' rfl)⟩, ⟨122, .im _, rfl, rfl, .im (Sub.rfl' rfl)⟩, ⟨123, .im _, rfl, rfl, .im (Sub.rfl' rfl)⟩, ⟨123, .im _, rfl, rfl, .im (Sub.rfl' rfl)⟩, ⟨123, .osl 124 _, rfl, rfl, .osl rfl rfl rfl⟩, ⟨123, .osl 125 _, rfl, rfl, .osl rfl rfl rfl⟩, ⟨123, .osl 126 _, rfl, rfl, .osl rfl rfl rfl⟩, trivial⟩)
       ·replace h : table_Hypothesis.k31 y639 y864 y865 y866 = some _ := hk793
        unfold table_Hypothesis.k31 at h
        obtain ⟨z937, z938, z939, z940, z941, z942, _⟩ := hp
        conv=>whnf
        refine Side.mk (by show inR _; unfold inR; omega) ?_
        conv=>whnf
        cases h
        exact Nxt.mk _ ho791 (Ent.mk [(121, some 121), (122, some 122), (123, some 123), (124, some 124), (125, some 125), (126, some 126)] rfl ⟨eI rfl rfl, ⟨.own 121 _ 0, rfl, .own rfl rfl rfl⟩, ⟨.own 122 _ 0, rfl, .own rfl rfl rfl⟩, ⟨.own 123 _ 0, rfl, .own rfl rfl rfl⟩, eI rfl rfl, eI rfl rfl, eI rfl rfl, trivial⟩ ⟨.inl ⟨121, rfl, rfl, trivial⟩, .inl ⟨122, rfl, rfl, trivial⟩, .inl ⟨123, rfl, rfl, trivial⟩, .inl ⟨124, rfl, rfl, trivial⟩, .inl ⟨125, rfl, rfl, trivial⟩, .inl ⟨126, rfl, rfl, trivial⟩, trivial⟩ ⟨⟨121, .im _, rfl, rfl, .im (Sub.rfl' rfl)⟩, ⟨121, .im _, rfl, rfl, .im (Sub.rfl' rfl)⟩, ⟨121, .im (.val (.slice none 0 0)), rfl, rfl, .im (Sub.rfl' rfl)⟩, ⟨121, .im (.val (.slice none 0 0)), rfl, rfl, .im (Sub.rfl' rfl)⟩, ⟨121, .im (.val (.slice none 0 0)), rfl, rfl, .im (Sub.rfl' rfl)⟩, ⟨122, .im _, rfl, rfl, .im (Sub.rfl' rfl)⟩, ⟨122, .im _, rfl, rfl, .im (Sub.rfl' rfl)⟩, ⟨122, .im _, rfl, rfl, .im (Sub.rfl' rfl)⟩, ⟨122, .im _, rfl, rfl, .im (Sub.rfl' rfl)⟩, ⟨123, .im _, rfl, rfl, .im (Sub.rfl' rfl)⟩, ⟨123, .im _, rfl, rfl, .im (Sub.rfl' rfl)⟩, ⟨123, .osl 124 _, rfl, rfl, .osl rfl rfl rfl⟩, ⟨123, .osl 125 _, rfl, rfl, .osl rfl rfl rfl⟩, ⟨123, .osl 126 _, rfl, rfl, .osl rfl rfl rfl⟩, trivial⟩)
      ·replace h := cond_f b792 h
       have b792d := odf b792
       conv=>whnf
       cases h
       have ho791 : _ = _ := ho791
       cases ho791
       exact Join.mk (Ent.mk [(121, some 121), (122, some 123), (123, some 124), (124, some 125), (125, some 126)] rfl ⟨⟨.own 121 _ 0, rfl, .own rfl rfl rfl⟩, ⟨.own 123 _ 0, rfl, .own rfl rfl rfl⟩, trivial⟩ ⟨.inl ⟨121, rfl, rfl, trivial⟩, .inl ⟨123, rfl, rfl, trivial⟩, .inl ⟨124, rfl, rfl, trivial⟩, .inl ⟨125, rfl, rfl, trivial⟩, .inl ⟨126, rfl, rfl, trivial⟩, trivial⟩ ⟨⟨121, .im _, rfl, rfl, .im (Sub.rfl' rfl)⟩, ⟨121, .im _, rfl, rfl, .im (Sub.rfl' rfl)⟩, ⟨121, .im (.val (.slice none 0 0)), rfl, rfl, .im (Sub.rfl' rfl)⟩, ⟨121, .im (.val (.slice none 0 0)), rfl, rfl, .im (Sub.rfl' rfl)⟩, ⟨121, .im (.val (.slice none 0 0)), rfl, rfl, .im (Sub.rfl' rfl)⟩, ⟨123, .im _, rfl, rfl, .im (Sub.rfl' rfl)⟩, ⟨123, .im _, rfl, rfl, .im (Sub.rfl' rfl)⟩, ⟨123, .osl 124 _, rfl, rfl, .osl rfl rfl rfl⟩, ⟨123, .osl 125 _, rfl, rfl, .osl rfl rfl rfl⟩, ⟨123, .osl 126 _, rfl, rfl, .osl rfl rfl rfl⟩, trivial⟩)
     ·replace h : table_Hypothesis.k33 t_ y506 y507 y508 = some _ := hk65
      unfold table_Hypothesis.k33 at h
      obtain ⟨z949, z950, z951, _⟩ := hp
      conv=>whnf
      refine Side.mk rfl ?_
      conv=>whnf
      refine Side.mk rfl ?_
      conv=>whnf
      cases h
      conv=>whnf
      refine Side.mk ⟨rfl, trivial⟩ ?_
      conv=>whnf
      exact Side.mk ⟨rfl, rfl, rfl, trivial⟩ ⟨rfl, rfl⟩
theorem sp_wordset_Suffixes_1 (w_ : List Int) (i_ : Int) (r : List Int) (h : Ok (nL cI w_) → Ok (nI i_) → wordset_Suffixes_1 w_ i_ = some r) : Sp Tryz.prog 136 [.im (nL cI w_), .im (nI i_)] (.im (nL cI r)) := by
 refine sp_of rfl [] rfl rfl rfl (Nat.le_of_ble_eq_true rfl) rfl fun hk => ?_
 replace h := h hk.1 hk.2.1
 have z1 : List.length w_ ≤ 17592186044416 := ok_len hk.1
 unfold wordset_Suffixes_1 at h
 conv=>whnf
 obtain ⟨c51, h⟩ := chk_some h
 refine Side.mk (show (0 : Int) ≤ i_ ∧ i_ ≤ (↑(List.length (List.map cI w_)) : Int) ∧ (↑(List.length (List.map cI w_)) : Int) ≤ (↑(List.length (List.map cI w_)) : Int) ∧ (∀ e ∈ List.map cI w_, List.length e = 1) from ⟨by omega, by first | omega | (simp only [List.length_map]; omega), by first | omega | (simp only [List.length_map]; omega), map_len fun _ => rfl⟩) ?_
 conv=>whnf
 refine Nf.mk (List.map cI (List.drop (Int.toNat i_) w_)) drop_map ?_
 conv=>whnf
 cases h
 conv=>whnf
 exact ⟨rfl, rfl⟩
theorem sp_wordset_Suffixes (l_ : List (List Int)) (r : List (List Int)) (h : Ok (nL (cL cI) l_) → wordset_Suffixes l_ = some r) : Sp Tryz.prog 105 [.im (nL (cL cI) l_)] (.im (nL (cL cI) r)) := by
 refine sp_of rfl [] rfl rfl rfl (Nat.le_of_ble_eq_true rfl) rfl fun hk => ?_
 replace h := h hk.1
 have z1 : List.length l_ ≤ 17592186044416 := ok_len hk.1
 unfold wordset_Suffixes at h
 conv=>whnf
 obtain ⟨c51, hc51, h⟩ := bind_some h
 refine ⟨_, (sp_wordset_parts l_ (fun u0 u1 => wordset_Suffixes_1 u0 u1) 136 (fun u0 u1 r h => (sp_wordset_Suffixes_1 u0 u1 r (fun _ _ => h))) c51 (fun _ _ => hc51)), ?_⟩
 conv=>whnf
 cases h
 conv=>whnf
 exact ⟨rfl, rfl⟩
theorem sp_lstar_Refine (t_ : T_api_Table) (w_ : List Int) (mode_ : Int) (r : T_api_Table × Int) (h : Ok (.agg (c_api_Table t_)) → Ok (nL cI w_) → Ok (nI mode_) → lstar_Refine t_ w_ mode_ = some r) : Sp Tryz.prog 51 [.im (.agg (c_api_Table t_)), .im (nL cI w_), .im (nI mode_)] (.tup [.agg (c_api_Table r.1), nI r.2]) := by
 refine sp_of rfl [500070, 700003] rfl rfl rfl (Nat.le_of_ble_eq_true rfl) rfl fun hk => ?_
 replace h := h hk.1 hk.2.1 hk.2.2.1
 have z1 : List.length t_.Prefixes ≤ 17592186044416 := ok_len (Ok.agg_at hk.1 1 rfl)
 have z2 : List.length t_.Suffixes ≤ 17592186044416 := ok_len (Ok.agg_at hk.1 2 rfl)
 have z3 : List.length w_ ≤ 17592186044416 := ok_len hk.2.1
 unfold lstar_Refine at h
 conv=>whnf
 obtain ⟨c51, hc51, h⟩ := bind_some h
 refine ⟨_, (sp_table_Valid t_ c51 (fun _ => hc51)), ?_⟩
 conv=>whnf
 refine Both.mk ?_ ?_<;>intro b52
 ·replace h := cond_t b52 h
  have b52d := odt b52
  conv=>whnf
  refine Side.mk rfl ?_
  conv=>whnf
  cases h
  conv=>whnf
  refine Side.mk ⟨rfl, trivial⟩ ?_
  conv=>whnf
  exact ⟨rfl, rfl⟩
 ·replace h := cond_f b52 h
  have b52d := odf b52
  conv=>whnf
  obtain ⟨c53, hc53, h⟩ := bind_some h
  refine ⟨_, (sp_word_Check w_ t_.Inputs c53 (fun _ _ => hc53)), ?_⟩
  conv=>whnf
  refine Both.mk ?_ ?_<;>intro b54
  ·replace h := cond_t b54 h
   have b54d := odt b54
   conv=>whnf
   refine Side.mk rfl ?_
   conv=>whnf
   cases h
   conv=>whnf
   refine Side.mk ⟨rfl, trivial⟩ ?_
   conv=>whnf
   exact ⟨rfl, rfl⟩
  ·replace h := cond_f b54 h
   have b54d := odf b54
   conv=>whnf
   refine Both.mk ?_ ?_<;>intro b55
   ·replace h := cond_t b55 h
    have b55d := odt b55
    conv=>whnf
    obtain ⟨c56, hc56, h⟩ := bind_some h
    refine ⟨_, (sp_table_Prefix t_ w_ c56 (fun _ _ => hc56)), ?_⟩
    conv=>whnf
    refine Side.mk rfl ?_
    conv=>whnf
    cases h
    conv=>whnf
    refine Side.mk ⟨rfl, trivial⟩ ?_
    conv=>whnf
    exact ⟨rfl, rfl⟩
   ·replace h := cond_f b55 h
    have b55d := odf b55
    conv=>whnf
    refine Both.mk ?_ ?_<;>intro b57
    ·replace h := cond_t b57 h
     have b57d := odt b57
     conv=>whnf
     obtain ⟨c58, hc58, h⟩ := bind_some h
     refine ⟨_, (sp_wordset_Sorted t_.Prefixes c58 (fun _ => hc58)).im, ?_⟩
     conv=>whnf
     obtain ⟨c59, hc59, h⟩ := bind_some h
     refine ⟨_, (sp_wordset_Sorted t_.Suffixes c59 (fun _ => hc59)), ?_⟩
     conv=>whnf
     refine Side.mk rfl ?_
     conv=>whnf
     obtain ⟨c60, hc60, h⟩ := bind_some h
     refine ⟨_, (sp_wordset_Suffixes [w_] c60 (fun _ => hc60)), ?_⟩
     conv=>whnf
     refine Nf.mk (List.length c60) len_map ?_
     conv=>whnf
     obtain ⟨y80, hc, hk61⟩ := bind_some h
     clear h
     have h := hc
     clear hc
     refine Cut.mk (mkSt [(3, .im (.ref (c_api_Table t_))), (6, .own 77 1 0), (10, .own 78 1 0)] [(77, .box 24 3), (78, .box 24 3), (79, .row 38 1 (List.map (cL cI) y80))] [(77, 0, .im (nI 0)), (77, 1, .im (.val (.slice none 0 0))), (77, 2, .im (.val (.slice none 0 0))), (78, 0, .im (nI t_.Inputs)), (78, 1, .im (nL (cL cI) c58)), (78, 2, .osl 79 1)]) (List.length c58 ≤ 17592186044416 ∧ List.length y80 ≤ 17592186044416 ∧ True) ((Holds.cel 78 1 rfl (by decide) rfl).and ((Holds.kdl 79 rfl).and (Holds.true_ _))) ?_ (fun hp => ?_)
     ·conv=>whnf
      refine Loops.iter (fun (s : List (List Int) × Nat) => lstar_Refine.s2 c60 s.1 s.2) (fun (y85, y86) => mkSt [(3, .im (.ref (c_api_Table t_))), (6, .own 77 1 0), (10, .own 78 1 0), (49, .im (nL (cL cI) c60)), (50, .im (nI (↑(List.length c60) : Int))), (51, .im (nI (↑y86 : Int)))] [(77, .box 24 3), (78, .box 24 3), (79, .row 38 1 (List.map (cL cI) y85))] [(77, 0, .im (nI 0)), (77, 1, .im (.val (.slice none 0 0))), (77, 2, .im (.val (.slice none 0 0))), (78, 0, .im (nI t_.Inputs)), (78, 1, .im (nL (cL cI) c58)), (78, 2, .osl 79 1)]) (fun (y85, y86) => List.length c60 ≤ 17592186044416 ∧ List.length c58 ≤ 17592186044416 ∧ List.length y85 ≤ 17592186044416 ∧ True) h (Ent.mk [(77, some 6), (78, some 10), (79, some 45)] rfl ⟨eI rfl rfl, ⟨.own 6 _ 0, rfl, .own rfl rfl rfl⟩, ⟨.own 10 _ 0, rfl, .own rfl rfl rfl⟩, eI rfl rfl, eI rfl rfl, eI rfl rfl, trivial⟩ ⟨.inl ⟨6, rfl, rfl, trivial⟩, .inl ⟨10, rfl, rfl, trivial⟩, .inl ⟨45, rfl, rfl, trivial⟩, trivial⟩ ⟨⟨6, .im _, rfl, rfl, .im (Sub.rfl' rfl)⟩, ⟨6, .im (.val (.slice none 0 0)), rfl, rfl, .im (Sub.rfl' rfl)⟩, ⟨6, .im (.val (.slice none 0 0)), rfl, rfl, .im (Sub.rfl' rfl)⟩, ⟨10, .im _, rfl, rfl, .im (Sub.rfl' rfl)⟩, ⟨10, .im _, rfl, rfl, .im (Sub.rfl' rfl)⟩, ⟨10, .osl 45 _, rfl, rfl, .osl rfl rfl rfl⟩, trivial⟩) (by rintro ⟨y85, y86⟩; exact ((Holds.avl 49 rfl).and ((Holds.cel 78 1 rfl (by decide) rfl).and ((Holds.kdl 79 rfl).and (Holds.true_ _))))) ?_
      clear h
      rintro k ⟨y85, y86⟩ o hp h ho91
      replace h : lstar_Refine.s2 c60 y85 y86 = some o := h
      unfold lstar_Refine.s2 at h
      obtain ⟨z96, z97, z98, _⟩ := hp
      conv=>whnf
      refine Both.mk ?_ ?_<;>intro b92
      ·replace h := cond_t b92 h
       have b92d := odt b92
       conv=>whnf
       obtain ⟨e93, he93, h⟩ := idxn_some h
       refine ⟨_, ⟨(by omega), map_at he93, rfl⟩, ?_⟩
       conv=>whnf
       refine Nf.mk (List.length e93) len_map ?_
       conv=>whnf
       refine Both.mk ?_ ?_<;>intro b94
       ·replace h := cond_t b94 h
        have b94d := odt b94
        conv=>whnf
        refine Side.mk rfl ?_
        conv=>whnf
        refine Side.mk rfl ?_
        conv=>whnf
        obtain ⟨c95, h⟩ := chk_some h
        refine Side.mk ⟨rfl, map_len (l := [e93]) (c := cL cI) fun _ => rfl, show capOk _ 24 by simpa only [List.length_map, List.length_cons, List.length_nil, Nat.zero_add] using c95⟩ ?_
        conv=>whnf
        refine Nf.mk (List.map (cL cI) (y85 ++ [e93])) (app_map (l := y85) (m := [e93]) (c := cL cI)) ?_
        conv=>whnf
        refine Side.mk rfl ?_
        conv=>whnf
        refine Side.mk rfl ?_
        conv=>whnf
        refine Side.mk (by show inR _; unfold inR; omega) ?_
        conv=>whnf
        cases h
        exact Nxt.mk _ ho91 (Ent.mk [(77, some 77), (78, some 78), (79, some 79)] rfl ⟨eI rfl rfl, ⟨.own 77 _ 0, rfl, .own rfl rfl rfl⟩, ⟨.own 78 _ 0, rfl, .own rfl rfl rfl⟩, eI rfl rfl, eI rfl rfl, eI rfl rfl, trivial⟩ ⟨.inl ⟨77, rfl, rfl, trivial⟩, .inl ⟨78, rfl, rfl, trivial⟩, .inl ⟨79, rfl, rfl, trivial⟩, trivial⟩ ⟨⟨77, .im _, rfl, rfl, .im (Sub.rfl' rfl)⟩, ⟨77, .im (.val (.slice none 0 0)), rfl, rfl, .im (Sub.rfl' rfl)⟩, ⟨77, .im (.val (.slice none 0 0)), rfl, rfl, .im (Sub.rfl' rfl)⟩, ⟨78, .im _, rfl, rfl, .im (Sub.rfl' rfl)⟩, ⟨78, .im _, rfl, rfl, .im (Sub.rfl' rfl)⟩, ⟨78, .osl 79 _, rfl, rfl, .osl rfl rfl rfl⟩, trivial⟩)
       ·replace h := cond_f b94 h
        have b94d := odf b94
        conv=>whnf
        refine Side.mk (by show inR _; unfold inR; omega) ?_
        conv=>whnf
        cases h
        exact Nxt.mk _ ho91 (Ent.mk [(77, some 77), (78, some 78), (79, some 79)] rfl ⟨eI rfl rfl, ⟨.own 77 _ 0, rfl, .own rfl rfl rfl⟩, ⟨.own 78 _ 0, rfl, .own rfl rfl rfl⟩, eI rfl rfl, eI rfl rfl, eI rfl rfl, trivial⟩ ⟨.inl ⟨77, rfl, rfl, trivial⟩, .inl ⟨78, rfl, rfl, trivial⟩, .inl ⟨79, rfl, rfl, trivial⟩, trivial⟩ ⟨⟨77, .im _, rfl, rfl, .im (Sub.rfl' rfl)⟩, ⟨77, .im (.val (.slice none 0 0)), rfl, rfl, .im (Sub.rfl' rfl)⟩, ⟨77, .im (.val (.slice none 0 0)), rfl, rfl, .im (Sub.rfl' rfl)⟩, ⟨78, .im _, rfl, rfl, .im (Sub.rfl' rfl)⟩, ⟨78, .im _, rfl, rfl, .im (Sub.rfl' rfl)⟩, ⟨78, .osl 79 _, rfl, rfl, .osl rfl rfl rfl⟩, trivial⟩)
      ·replace h := cond_f b92 h
       have b92d := odf b92
       conv=>whnf
       cases h
       have ho91 : _ = _ := ho91
       cases ho91
       exact Join.mk (Ent.mk [(77, some 77), (78, some 78), (79, some 79)] rfl ⟨eI rfl rfl, ⟨.own 77 _ 0, rfl, .own rfl rfl rfl⟩, ⟨.own 78 _ 0, rfl, .own rfl rfl rfl⟩, trivial⟩ ⟨.inl ⟨77, rfl, rfl, trivial⟩, .inl ⟨78, rfl, rfl, trivial⟩, .inl ⟨79, rfl, rfl, trivial⟩, trivial⟩ ⟨⟨77, .im _, rfl, rfl, .im (Sub.rfl' rfl)⟩, ⟨77, .im (.val (.slice none 0 0)), rfl, rfl, .im (Sub.rfl' rfl)⟩, ⟨77, .im (.val (.slice none 0 0)), rfl, rfl, .im (Sub.rfl' rfl)⟩, ⟨78, .im _, rfl, rfl, .im (Sub.rfl' rfl)⟩, ⟨78, .im _, rfl, rfl, .im (Sub.rfl' rfl)⟩, ⟨78, .osl 79 _, rfl, rfl, .osl rfl rfl rfl⟩, trivial⟩)
     ·replace h := hk61
      obtain ⟨z99, z100, _⟩ := hp
      conv=>whnf
      refine Side.mk rfl ?_
      conv=>whnf
      refine Side.mk rfl ?_
      conv=>whnf
      refine Side.mk ⟨rfl, trivial⟩ ?_
      conv=>whnf
      obtain ⟨c101, hc101, h⟩ := bind_some h
      refine ⟨_, (sp_wordset_Sorted y80 c101 (fun _ => hc101)), ?_⟩
      conv=>whnf
      refine Side.mk rfl ?_
      conv=>whnf
      refine Side.mk rfl ?_
      conv=>whnf
      refine Side.mk rfl ?_
      conv=>whnf
      refine Side.mk ⟨rfl, trivial⟩ ?_
      conv=>whnf
      obtain ⟨c102, hc102, h⟩ := bind_some h
      refine ⟨_, (sp_table_Valid (⟨t_.Inputs, c58, c101⟩ : T_api_Table) c102 (fun _ => hc102)), ?_⟩
      conv=>whnf
      refine Side.mk flat_one ?_
      conv=>whnf
      refine Both.mk ?_ ?_<;>intro b103
      ·replace h := cond_t b103 h
       have b103d := odt b103
       conv=>whnf
       refine Side.mk rfl ?_
       conv=>whnf
       cases h
       conv=>whnf
       refine Side.mk ⟨rfl, trivial⟩ ?_
       conv=>whnf
       exact ⟨rfl, rfl⟩
      ·replace h := cond_f b103 h
       have b103d := odf b103
       conv=>whnf
       refine Side.mk rfl ?_
       conv=>whnf
       refine Side.mk rfl ?_
       conv=>whnf
       cases h
       conv=>whnf
       refine Side.mk ⟨rfl, trivial⟩ ?_
       conv=>whnf
       exact Side.mk ⟨rfl, trivial⟩ ⟨rfl, rfl⟩
    ·replace h := cond_f b57 h
     have b57d := odf b57
     conv=>whnf
     refine Side.mk rfl ?_
     conv=>whnf
     cases h
     conv=>whnf
     refine Side.mk ⟨rfl, trivial⟩ ?_
     conv=>whnf
     exact ⟨rfl, rfl⟩
theorem sp_L24_first (r : T_api_Table) (h : L24_first = some r) : Sp Tryz.prog 104 [] (.im (.agg (c_api_Table r))) := by
 refine sp_of rfl [] rfl rfl rfl (Nat.le_of_ble_eq_true rfl) rfl fun hk => ?_
 unfold L24_first at h
 conv=>whnf
 refine Side.mk rfl ?_
 conv=>whnf
 cases h
 conv=>whnf
 refine Side.mk ⟨rfl, trivial⟩ ?_
 conv=>whnf
 exact ⟨rfl, rfl⟩
theorem sp_lstar_Step (t_ : T_api_Table) (o_ : T_api_Obs) (r : T_api_Table × List (List Int) × Bool × Int) (h : Ok (.agg (c_api_Table t_)) → Ok (.agg (c_api_Obs o_)) → lstar_Step t_ o_ = some r) : Sp Tryz.prog 49 [.im (.agg (c_api_Table t_)), .im (.agg (c_api_Obs o_))] (.tup [.agg (c_api_Table r.1), nL (cL cI) r.2.1, nB r.2.2.1, nI r.2.2.2]) := by
 refine sp_of rfl [700002, 700003] rfl rfl rfl (Nat.le_of_ble_eq_true rfl) rfl fun hk => ?_
 replace h := h hk.1 hk.2.1
 have z1 : List.length t_.Prefixes ≤ 17592186044416 := ok_len (Ok.agg_at hk.1 1 rfl)
 have z2 : List.length t_.Suffixes ≤ 17592186044416 := ok_len (Ok.agg_at hk.1 2 rfl)
 have z3 : List.length o_.Traces ≤ 17592186044416 := ok_len (Ok.agg_at hk.2.1 1 rfl)
 unfold lstar_Step at h
 conv=>whnf
 obtain ⟨oc, hc, hk51⟩ := bind_some h
 clear h
 have h := hc
 clear hc
 refine Cut.mkS oc (Y := Unit) (fun (_ : Unit) => mkSt [(2, .im (.ref (c_api_Table t_))), (4, .own 85 1 0)] [(85, .box 24 3)] [(85, 0, .im (nI 0)), (85, 1, .im (.val (.slice none 0 0))), (85, 2, .im (.val (.slice none 0 0)))]) (fun (_ : Unit) => True) (by rintro ⟨⟩; exact (Holds.true_ _)) ?_ ?_
 ·conv=>whnf
  obtain ⟨oc, hc, hk127⟩ := bind_some h
  clear h
  have h := hc
  clear hc
  refine Cut.mkS oc (Y := Unit) (fun (_ : Unit) => mkSt [(2, .im (.ref (c_api_Table t_))), (3, .im (.ref (c_api_Obs o_))), (4, .own 85 1 0)] [(85, .box 24 3)] [(85, 0, .im (nI 0)), (85, 1, .im (.val (.slice none 0 0))), (85, 2, .im (.val (.slice none 0 0)))]) (fun (_ : Unit) => True) (by rintro ⟨⟩; exact (Holds.true_ _)) ?_ ?_
  ·conv=>whnf
   obtain ⟨oc, hc, hk163⟩ := bind_some h
   clear h
   have h := hc
   clear hc
   refine Cut.mkS oc (Y := Unit) (fun (_ : Unit) => mkSt [(2, .im (.ref (c_api_Table t_))), (3, .im (.ref (c_api_Obs o_))), (4, .own 85 1 0)] [(85, .box 24 3)] [(85, 0, .im (nI 0)), (85, 1, .im (.val (.slice none 0 0))), (85, 2, .im (.val (.slice none 0 0)))]) (fun (_ : Unit) => True) (by rintro ⟨⟩; exact (Holds.true_ _)) ?_ ?_
   ·conv=>whnf
    obtain ⟨oc, hc, hk179⟩ := bind_some h
    clear h
    have h := hc
    clear hc
    refine Cut.mkS oc (Y := Unit) (fun (_ : Unit) => mkSt [(2, .im (.ref (c_api_Table t_))), (3, .im (.ref (c_api_Obs o_))), (4, .own 85 1 0)] [(85, .box 24 3)] [(85, 0, .im (nI 0)), (85, 1, .im (.val (.slice none 0 0))), (85, 2, .im (.val (.slice none 0 0)))]) (fun (_ : Unit) => True) (by rintro ⟨⟩; exact (Holds.true_ _)) ?_ ?_
    ·conv=>whnf
     refine Both.mk ?_ ?_<;>intro b183
     ·replace h := cond_t b183 h
      have b183d := odt b183
      conv=>whnf
      cases h
      exact JoinS.mk' _ rfl (Ent.mk [(85, some 4)] rfl ⟨eI rfl rfl, eI rfl rfl, ⟨.own 4 _ 0, rfl, .own rfl rfl rfl⟩, trivial⟩ ⟨.inl ⟨4, rfl, rfl, trivial⟩, trivial⟩ ⟨⟨4, .im _, rfl, rfl, .im (Sub.rfl' rfl)⟩, ⟨4, .im (.val (.slice none 0 0)), rfl, rfl, .im (Sub.rfl' rfl)⟩, ⟨4, .im (.val (.slice none 0 0)), rfl, rfl, .im (Sub.rfl' rfl)⟩, trivial⟩)
     ·replace h := cond_f b183 h
      have b183d := odf b183
      conv=>whnf
      refine Both.mk ?_ ?_<;>intro b184
      ·replace h := cond_t b184 h
       have b184d := odt b184
       conv=>whnf
       cases h
       replace h : some _ = some _ := hk179
       cases h
       exact JoinS.mk' _ rfl (Ent.mk [(85, some 4)] rfl ⟨eI rfl rfl, eI rfl rfl, ⟨.own 4 _ 0, rfl, .own rfl rfl rfl⟩, trivial⟩ ⟨.inl ⟨4, rfl, rfl, trivial⟩, trivial⟩ ⟨⟨4, .im _, rfl, rfl, .im (Sub.rfl' rfl)⟩, ⟨4, .im (.val (.slice none 0 0)), rfl, rfl, .im (Sub.rfl' rfl)⟩, ⟨4, .im (.val (.slice none 0 0)), rfl, rfl, .im (Sub.rfl' rfl)⟩, trivial⟩)
      ·replace h := cond_f b184 h
       have b184d := odf b184
       conv=>whnf
       refine Both.mk ?_ ?_<;>intro b185
       ·replace h := cond_t b185 h
        have b185d := odt b185
        conv=>whnf
        cases h
        replace h : some _ = some _ := hk179
        cases h
        replace h : some _ = some _ := hk163
        cases h
        exact JoinS.mk' _ rfl (Ent.mk [(85, some 4)] rfl ⟨eI rfl rfl, eI rfl rfl, ⟨.own 4 _ 0, rfl, .own rfl rfl rfl⟩, trivial⟩ ⟨.inl ⟨4, rfl, rfl, trivial⟩, trivial⟩ ⟨⟨4, .im _, rfl, rfl, .im (Sub.rfl' rfl)⟩, ⟨4, .im (.val (.slice none 0 0)), rfl, rfl, .im (Sub.rfl' rfl)⟩, ⟨4, .im (.val (.slice none 0 0)), rfl, rfl, .im (Sub.rfl' rfl)⟩, trivial⟩)
       ·replace h := cond_f b185 h
        have b185d := odf b185
        conv=>whnf
        cases h
        replace h : some _ = some _ := hk179
        cases h
        replace h : some _ = some _ := hk163
        cases h
        replace h : some _ = some _ := hk127
        cases h
        exact JoinS.mk' _ rfl (Ent.mk [(85, some 4)] rfl ⟨eI rfl rfl, ⟨.own 4 _ 0, rfl, .own rfl rfl rfl⟩, trivial⟩ ⟨.inl ⟨4, rfl, rfl, trivial⟩, trivial⟩ ⟨⟨4, .im _, rfl, rfl, .im (Sub.rfl' rfl)⟩, ⟨4, .im (.val (.slice none 0 0)), rfl, rfl, .im (Sub.rfl' rfl)⟩, ⟨4, .im (.val (.slice none 0 0)), rfl, rfl, .im (Sub.rfl' rfl)⟩, trivial⟩)
    ·rintro ⟨⟩ rfl hp
     replace h := sum_inl hk179
     conv=>whnf
     obtain ⟨c186, hc186, h⟩ := bind_some h
     refine ⟨_, (sp_table_Needed t_ o_ c186 (fun _ _ => hc186)), ?_⟩
     conv=>whnf
     obtain ⟨y190, hc, hk188⟩ := bind_some h
     clear h
     have h := hc
     clear hc
     refine Cut.mk (mkSt [(2, .im (.ref (c_api_Table t_))), (3, .im (.ref (c_api_Obs o_))), (4, .own 85 1 0), (9, .im (nL (cL cI) c186.1)), (10, .im (nI c186.2)), (40, .im (nB y190))] [(85, .box 24 3)] [(85, 0, .im (nI 0)), (85, 1, .im (.val (.slice none 0 0))), (85, 2, .im (.val (.slice none 0 0)))]) (List.length c186.1 ≤ 17592186044416 ∧ True) ((Holds.avl 9 rfl).and (Holds.true_ _)) ?_ (fun hp => ?_)
     ·conv=>whnf
      refine Both.mk ?_ ?_<;>intro b191
      ·replace b191 := beq_ff b191
       replace h := cond_f b191 h
       have b191d := odf b191
       conv=>whnf
       refine Both.yes (ff_beq b191) ?_
       conv=>whnf
       refine Nf.mk (List.length c186.1) len_map ?_
       conv=>whnf
       refine Both.yes (ff_beq b191) ?_
       conv=>whnf
       refine Both.no b191 ?_
       conv=>whnf
       cases h
       exact Join.mk (Ent.mk [(85, some 85)] rfl ⟨eI rfl rfl, eI rfl rfl, ⟨.own 85 _ 0, rfl, .own rfl rfl rfl⟩, eI rfl rfl, eI rfl rfl, eI rfl rfl, trivial⟩ ⟨.inl ⟨85, rfl, rfl, trivial⟩, trivial⟩ ⟨⟨85, .im _, rfl, rfl, .im (Sub.rfl' rfl)⟩, ⟨85, .im (.val (.slice none 0 0)), rfl, rfl, .im (Sub.rfl' rfl)⟩, ⟨85, .im (.val (.slice none 0 0)), rfl, rfl, .im (Sub.rfl' rfl)⟩, trivial⟩)
      ·replace b191 := beq_ft b191
       replace h := cond_t b191 h
       have b191d := odt b191
       conv=>whnf
       iterate 2 (refine Both.no (tf_beq b191) ?_; (conv=>whnf))
       refine Both.yes b191 ?_
       conv=>whnf
       cases h
       exact Join.mk (Ent.mk [(85, some 85)] rfl ⟨eI rfl rfl, eI rfl rfl, ⟨.own 85 _ 0, rfl, .own rfl rfl rfl⟩, eI rfl rfl, eI rfl rfl, eI rfl rfl, trivial⟩ ⟨.inl ⟨85, rfl, rfl, trivial⟩, trivial⟩ ⟨⟨85, .im _, rfl, rfl, .im (Sub.rfl' rfl)⟩, ⟨85, .im (.val (.slice none 0 0)), rfl, rfl, .im (Sub.rfl' rfl)⟩, ⟨85, .im (.val (.slice none 0 0)), rfl, rfl, .im (Sub.rfl' rfl)⟩, trivial⟩)
     ·replace h := hk188
      obtain ⟨z192, _⟩ := hp
      conv=>whnf
      refine Both.mk ?_ ?_<;>intro b193
      ·replace h := cond_t b193 h
       conv=>whnf
       refine Side.mk rfl ?_
       conv=>whnf
       cases h
       replace h : some _ = some _ := hk163
       cases h
       replace h : some _ = some _ := hk127
       cases h
       replace h : some _ = some _ := hk51
       cases h
       conv=>whnf
       refine Side.mk ⟨rfl, trivial⟩ ?_
       conv=>whnf
       exact ⟨rfl, rfl⟩
      ·replace h := cond_f b193 h
       conv=>whnf
       cases h
       exact JoinS.mk' _ rfl (Ent.mk [(85, some 85)] rfl ⟨eI rfl rfl, eI rfl rfl, ⟨.own 85 _ 0, rfl, .own rfl rfl rfl⟩, trivial⟩ ⟨.inl ⟨85, rfl, rfl, trivial⟩, trivial⟩ ⟨⟨85, .im _, rfl, rfl, .im (Sub.rfl' rfl)⟩, ⟨85, .im (.val (.slice none 0 0)), rfl, rfl, .im (Sub.rfl' rfl)⟩, ⟨85, .im (.val (.slice none 0 0)), rfl, rfl, .im (Sub.rfl' rfl)⟩, trivial⟩)
   ·rintro ⟨⟩ rfl hp
    replace h := sum_inl hk163
    conv=>whnf
    obtain ⟨c194, hc194, h⟩ := bind_some h
    refine ⟨_, (sp_table_Unclosed t_ o_ c194 (fun _ _ => hc194)), ?_⟩
    conv=>whnf
    refine Both.mk ?_ ?_<;>intro b195
    ·replace h := cond_t b195 h
     have b195d := odt b195
     conv=>whnf
     refine Side.mk rfl ?_
     conv=>whnf
     cases h
     replace h : some _ = some _ := hk127
     cases h
     replace h : some _ = some _ := hk51
     cases h
     conv=>whnf
     refine Side.mk ⟨rfl, trivial⟩ ?_
     conv=>whnf
     exact ⟨rfl, rfl⟩
    ·replace h := cond_f b195 h
     have b195d := odf b195
     conv=>whnf
     refine Both.mk ?_ ?_<;>intro b196
     ·replace h := cond_t b196 h
      conv=>whnf
      obtain ⟨c197, hc197, h⟩ := bind_some h
      refine ⟨_, (sp_table_Prefix t_ c194.1 c197 (fun _ _ => hc197)), ?_⟩
      conv=>whnf
      refine Side.mk rfl ?_
      conv=>whnf
      refine Side.mk rfl ?_
      conv=>whnf
      refine Side.mk rfl ?_
      conv=>whnf
      cases h
      replace h : some _ = some _ := hk127
      cases h
      replace h : some _ = some _ := hk51
      cases h
      conv=>whnf
      refine Side.mk ⟨rfl, trivial⟩ ?_
      conv=>whnf
      exact ⟨rfl, rfl⟩
     ·replace h := cond_f b196 h
      conv=>whnf
      cases h
      exact JoinS.mk' _ rfl (Ent.mk [(85, some 85)] rfl ⟨eI rfl rfl, eI rfl rfl, ⟨.own 85 _ 0, rfl, .own rfl rfl rfl⟩, trivial⟩ ⟨.inl ⟨85, rfl, rfl, trivial⟩, trivial⟩ ⟨⟨85, .im _, rfl, rfl, .im (Sub.rfl' rfl)⟩, ⟨85, .im (.val (.slice none 0 0)), rfl, rfl, .im (Sub.rfl' rfl)⟩, ⟨85, .im (.val (.slice none 0 0)), rfl, rfl, .im (Sub.rfl' rfl)⟩, trivial⟩)
  ·rintro ⟨⟩ rfl hp
   replace h := sum_inl hk127
   conv=>whnf
   obtain ⟨c198, hc198, h⟩ := bind_some h
   refine ⟨_, (sp_table_Inconsistent t_ o_ c198 (fun _ _ => hc198)), ?_⟩
   conv=>whnf
   refine Both.mk ?_ ?_<;>intro b199
   ·replace h := cond_t b199 h
    have b199d := odt b199
    conv=>whnf
    refine Side.mk rfl ?_
    conv=>whnf
    cases h
    replace h : some _ = some _ := hk51
    cases h
    conv=>whnf
    refine Side.mk ⟨rfl, trivial⟩ ?_
    conv=>whnf
    exact ⟨rfl, rfl⟩
   ·replace h := cond_f b199 h
    have b199d := odf b199
    conv=>whnf
    refine Both.mk ?_ ?_<;>intro b200
    ·replace h := cond_t b200 h
     conv=>whnf
     obtain ⟨c201, hc201, h⟩ := bind_some h
     refine ⟨_, (sp_table_Suffix t_ c198.1 c201 (fun _ _ => hc201)), ?_⟩
     conv=>whnf
     refine Side.mk rfl ?_
     conv=>whnf
     refine Side.mk rfl ?_
     conv=>whnf
     refine Side.mk rfl ?_
     conv=>whnf
     cases h
     replace h : some _ = some _ := hk51
     cases h
     conv=>whnf
     refine Side.mk ⟨rfl, trivial⟩ ?_
     conv=>whnf
     exact ⟨rfl, rfl⟩
    ·replace h := cond_f b200 h
     conv=>whnf
     cases h
     exact JoinS.mk' _ rfl (Ent.mk [(85, some 85)] rfl ⟨eI rfl rfl, ⟨.own 85 _ 0, rfl, .own rfl rfl rfl⟩, trivial⟩ ⟨.inl ⟨85, rfl, rfl, trivial⟩, trivial⟩ ⟨⟨85, .im _, rfl, rfl, .im (Sub.rfl' rfl)⟩, ⟨85, .im (.val (.slice none 0 0)), rfl, rfl, .im (Sub.rfl' rfl)⟩, ⟨85, .im (.val (.slice none 0 0)), rfl, rfl, .im (Sub.rfl' rfl)⟩, trivial⟩)
 ·rintro ⟨⟩ rfl hp
  replace h := sum_inl hk51
  conv=>whnf
  refine Side.mk rfl ?_
  conv=>whnf
  cases h
  conv=>whnf
  refine Side.mk ⟨rfl, trivial⟩ ?_
  conv=>whnf
  exact ⟨rfl, rfl⟩
theorem sp_L24_awake (r : Bool) (h : L24_awake = some r) : Sp Tryz.prog 48 [] (.im (nB r)) := by
 refine sp_of rfl [] rfl rfl rfl (Nat.le_of_ble_eq_true rfl) rfl fun hk => ?_
 unfold L24_awake at h
 conv=>whnf
 obtain ⟨c51, hc51, h⟩ := bind_some h
 refine ⟨_, (sp_L24_first  c51 (hc51)), ?_⟩
 conv=>whnf
 obtain ⟨c52, hc52, h⟩ := bind_some h
 refine ⟨_, (sp_L23_Gate  c52 (hc52)), ?_⟩
 conv=>whnf
 obtain ⟨c53, hc53, h⟩ := bind_some h
 refine ⟨_, (sp_lstar_Step c51 c52 c53 (fun _ _ => hc53)), ?_⟩
 conv=>whnf
 refine Side.mk rfl ?_
 conv=>whnf
 obtain ⟨c54, hc54, h⟩ := bind_some h
 refine ⟨_, (sp_L24_first  c54 (hc54)), ?_⟩
 conv=>whnf
 obtain ⟨c55, hc55, h⟩ := bind_some h
 refine ⟨_, (sp_lstar_Step c54 (⟨2, []⟩ : T_api_Obs) c55 (fun _ _ => hc55)), ?_⟩
 conv=>whnf
 refine Side.mk rfl ?_
 conv=>whnf
 obtain ⟨c56, hc56, h⟩ := bind_some h
 refine ⟨_, (sp_L24_first  c56 (hc56)), ?_⟩
 conv=>whnf
 obtain ⟨c57, hc57, h⟩ := bind_some h
 refine ⟨_, (sp_lstar_Refine c56 [0, 1] 0 c57 (fun _ _ _ => hc57)), ?_⟩
 conv=>whnf
 refine Side.mk rfl ?_
 conv=>whnf
 obtain ⟨c58, hc58, h⟩ := bind_some h
 refine ⟨_, (sp_L24_first  c58 (hc58)), ?_⟩
 conv=>whnf
 obtain ⟨c59, hc59, h⟩ := bind_some h
 refine ⟨_, (sp_lstar_Refine c58 [0, 1] 1 c59 (fun _ _ _ => hc59)), ?_⟩
 conv=>whnf
 refine Side.mk rfl ?_
 conv=>whnf
 obtain ⟨y70, hc, hk61⟩ := bind_some h
 clear h
 have h := hc
 clear hc
 refine Cut.mk (mkSt [(1, .own 101 1 0), (9, .own 102 1 0), (11, .own 103 1 0), (76, .im (nB y70))] [(101, .box 24 3), (102, .box 24 3), (103, .box 24 3)] [(101, 0, .im (nI c53.1.Inputs)), (101, 1, .im (nL (cL cI) c53.1.Prefixes)), (101, 2, .im (nL (cL cI) c53.1.Suffixes)), (102, 0, .im (nI c57.1.Inputs)), (102, 1, .im (nL (cL cI) c57.1.Prefixes)), (102, 2, .im (nL (cL cI) c57.1.Suffixes)), (103, 0, .im (nI c59.1.Inputs)), (103, 1, .im (nL (cL cI) c59.1.Prefixes)), (103, 2, .im (nL (cL cI) c59.1.Suffixes))]) (List.length c53.1.Prefixes ≤ 17592186044416 ∧ List.length c53.1.Suffixes ≤ 17592186044416 ∧ List.length c57.1.Prefixes ≤ 17592186044416 ∧ List.length c57.1.Suffixes ≤ 17592186044416 ∧ List.length c59.1.Prefixes ≤ 17592186044416 ∧ List.length c59.1.Suffixes ≤ 17592186044416 ∧ True) ((Holds.cel 101 1 rfl (by decide) rfl).and ((Holds.cel 101 2 rfl (by decide) rfl).and ((Holds.cel 102 1 rfl (by decide) rfl).and ((Holds.cel 102 2 rfl (by decide) rfl).and ((Holds.cel 103 1 rfl (by decide) rfl).and ((Holds.cel 103 2 rfl (by decide) rfl).and (Holds.true_ _))))))) ?_ (fun hp => ?_)
 ·conv=>whnf
  refine Both.mk ?_ ?_<;>intro b71
  ·replace b71 := beq_ff b71
   replace h := cond_f b71 h
   have b71d := odf b71
   conv=>whnf
   refine Both.no b71 ?_
   conv=>whnf
   refine Both.mk ?_ ?_<;>intro b72
   ·replace b72 := beq_ff b72
    replace h := cond_f b72 h
    conv=>whnf
    refine Both.yes (ff_beq b72) ?_
    conv=>whnf
    refine Nf.mk (List.length c53.2.1) len_map ?_
    conv=>whnf
    refine Both.yes (ff_beq b72) ?_
    conv=>whnf
    refine Both.no b72 ?_
    conv=>whnf
    refine Both.mk ?_ ?_<;>intro b73
    ·replace b73 := beq_ff b73
     replace h := cond_f b73 h
     have b73d := odf b73
     conv=>whnf
     refine Both.yes (ff_beq b73) ?_
     conv=>whnf
     refine Both.no b73 ?_
     conv=>whnf
     refine Both.mk ?_ ?_<;>intro b74
     ·replace b74 := beq_ff b74
      replace h := cond_f b74 h
      have b74d := odf b74
      conv=>whnf
      refine Both.no b74 ?_
      conv=>whnf
      refine Both.mk ?_ ?_<;>intro b75
      ·replace b75 := beq_ff b75
       replace h := cond_f b75 h
       conv=>whnf
       refine Both.yes (ff_beq b75) ?_
       conv=>whnf
       refine Nf.mk (List.length c55.2.1) len_map ?_
       conv=>whnf
       refine Both.yes (ff_beq b75) ?_
       conv=>whnf
       refine Both.no b75 ?_
       conv=>whnf
       refine Both.mk ?_ ?_<;>intro b76
       ·replace b76 := beq_ff b76
        replace h := cond_f b76 h
        have b76d := odf b76
        conv=>whnf
        refine Both.yes (ff_beq b76) ?_
        conv=>whnf
        refine Both.no b76 ?_
        conv=>whnf
        refine Both.mk ?_ ?_<;>intro b77
        ·replace b77 := beq_ff b77
         replace h := cond_f b77 h
         have b77d := odf b77
         conv=>whnf
         refine Both.yes (ff_beq b77) ?_
         conv=>whnf
         refine Both.no b77 ?_
         conv=>whnf
         refine Both.mk ?_ ?_<;>intro b78
         ·replace b78 := beq_ff b78
          replace h := cond_f b78 h
          have b78d := odf b78
          conv=>whnf
          refine Side.mk rfl ?_
          conv=>whnf
          refine Both.yes (ff_beq b78) ?_
          conv=>whnf
          refine Side.mk rfl ?_
          conv=>whnf
          refine Both.yes (ff_beq b78) ?_
          conv=>whnf
          refine Nf.mk (List.length c55.1.Prefixes) len_map ?_
          conv=>whnf
          refine Both.yes (ff_beq b78) ?_
          conv=>whnf
          refine Both.no b78 ?_
          conv=>whnf
          cases h
          exact Join.mk (Ent.mk [(101, some 1), (102, some 9), (103, some 11)] rfl ⟨⟨.own 1 _ 0, rfl, .own rfl rfl rfl⟩, ⟨.own 9 _ 0, rfl, .own rfl rfl rfl⟩, ⟨.own 11 _ 0, rfl, .own rfl rfl rfl⟩, eI rfl rfl, trivial⟩ ⟨.inl ⟨1, rfl, rfl, trivial⟩, .inl ⟨9, rfl, rfl, trivial⟩, .inl ⟨11, rfl, rfl, trivial⟩, trivial⟩ ⟨⟨1, .im _, rfl, rfl, .im (Sub.rfl' rfl)⟩, ⟨1, .im _, rfl, rfl, .im (Sub.rfl' rfl)⟩, ⟨1, .im _, rfl, rfl, .im (Sub.rfl' rfl)⟩, ⟨9, .im _, rfl, rfl, .im (Sub.rfl' rfl)⟩, ⟨9, .im _, rfl, rfl, .im (Sub.rfl' rfl)⟩, ⟨9, .im _, rfl, rfl, .im (Sub.rfl' rfl)⟩, ⟨11, .im _, rfl, rfl, .im (Sub.rfl' rfl)⟩, ⟨11, .im _, rfl, rfl, .im (Sub.rfl' rfl)⟩, ⟨11, .im _, rfl, rfl, .im (Sub.rfl' rfl)⟩, trivial⟩)
         ·replace b78 := beq_ft b78
          replace h := cond_t b78 h
          have b78d := odt b78
          conv=>whnf
          iterate 3 (refine Both.no (tf_beq b78) ?_; (conv=>whnf))
          refine Both.yes b78 ?_
          conv=>whnf
          cases h
          exact Join.mk (Ent.mk [(101, some 1), (102, some 9), (103, some 11)] rfl ⟨⟨.own 1 _ 0, rfl, .own rfl rfl rfl⟩, ⟨.own 9 _ 0, rfl, .own rfl rfl rfl⟩, ⟨.own 11 _ 0, rfl, .own rfl rfl rfl⟩, eI rfl rfl, trivial⟩ ⟨.inl ⟨1, rfl, rfl, trivial⟩, .inl ⟨9, rfl, rfl, trivial⟩, .inl ⟨11, rfl, rfl, trivial⟩, trivial⟩ ⟨⟨1, .im _, rfl, rfl, .im (Sub.rfl' rfl)⟩, ⟨1, .im _, rfl, rfl, .im (Sub.rfl' rfl)⟩, ⟨1, .im _, rfl, rfl, .im (Sub.rfl' rfl)⟩, ⟨9, .im _, rfl, rfl, .im (Sub.rfl' rfl)⟩, ⟨9, .im _, rfl, rfl, .im (Sub.rfl' rfl)⟩, ⟨9, .im _, rfl, rfl, .im (Sub.rfl' rfl)⟩, ⟨11, .im _, rfl, rfl, .im (Sub.rfl' rfl)⟩, ⟨11, .im _, rfl, rfl, .im (Sub.rfl' rfl)⟩, ⟨11, .im _, rfl, rfl, .im (Sub.rfl' rfl)⟩, trivial⟩)
        ·replace b77 := beq_ft b77
         replace h := cond_t b77 h
         have b77d := odt b77
         conv=>whnf
         refine Both.no (tf_beq b77) ?_
         conv=>whnf
         refine Both.yes b77 ?_
         conv=>whnf
         iterate 4 (refine Both.no rfl ?_; (conv=>whnf))
         refine Both.yes rfl ?_
         conv=>whnf
         cases h
         exact Join.mk (Ent.mk [(101, some 1), (102, some 9), (103, some 11)] rfl ⟨⟨.own 1 _ 0, rfl, .own rfl rfl rfl⟩, ⟨.own 9 _ 0, rfl, .own rfl rfl rfl⟩, ⟨.own 11 _ 0, rfl, .own rfl rfl rfl⟩, eI rfl rfl, trivial⟩ ⟨.inl ⟨1, rfl, rfl, trivial⟩, .inl ⟨9, rfl, rfl, trivial⟩, .inl ⟨11, rfl, rfl, trivial⟩, trivial⟩ ⟨⟨1, .im _, rfl, rfl, .im (Sub.rfl' rfl)⟩, ⟨1, .im _, rfl, rfl, .im (Sub.rfl' rfl)⟩, ⟨1, .im _, rfl, rfl, .im (Sub.rfl' rfl)⟩, ⟨9, .im _, rfl, rfl, .im (Sub.rfl' rfl)⟩, ⟨9, .im _, rfl, rfl, .im (Sub.rfl' rfl)⟩, ⟨9, .im _, rfl, rfl, .im (Sub.rfl' rfl)⟩, ⟨11, .im _, rfl, rfl, .im (Sub.rfl' rfl)⟩, ⟨11, .im _, rfl, rfl, .im (Sub.rfl' rfl)⟩, ⟨11, .im _, rfl, rfl, .im (Sub.rfl' rfl)⟩, trivial⟩)
       ·replace b76 := beq_ft b76
        replace h := cond_t b76 h
        have b76d := odt b76
        conv=>whnf
        refine Both.no (tf_beq b76) ?_
        conv=>whnf
        refine Both.yes b76 ?_
        conv=>whnf
        iterate 2 (refine Both.no rfl ?_; (conv=>whnf))
        refine Both.yes rfl ?_
        conv=>whnf
        iterate 4 (refine Both.no rfl ?_; (conv=>whnf))
        refine Both.yes rfl ?_
        conv=>whnf
        cases h
        exact Join.mk (Ent.mk [(101, some 1), (102, some 9), (103, some 11)] rfl ⟨⟨.own 1 _ 0, rfl, .own rfl rfl rfl⟩, ⟨.own 9 _ 0, rfl, .own rfl rfl rfl⟩, ⟨.own 11 _ 0, rfl, .own rfl rfl rfl⟩, eI rfl rfl, trivial⟩ ⟨.inl ⟨1, rfl, rfl, trivial⟩, .inl ⟨9, rfl, rfl, trivial⟩, .inl ⟨11, rfl, rfl, trivial⟩, trivial⟩ ⟨⟨1, .im _, rfl, rfl, .im (Sub.rfl' rfl)⟩, ⟨1, .im _, rfl, rfl, .im (Sub.rfl' rfl)⟩, ⟨1, .im _, rfl, rfl, .im (Sub.rfl' rfl)⟩, ⟨9, .im _, rfl, rfl, .im (Sub.rfl' rfl)⟩, ⟨9, .im _, rfl, rfl, .im (Sub.rfl' rfl)⟩, ⟨9, .im _, rfl, rfl, .im (Sub.rfl' rfl)⟩, ⟨11, .im _, rfl, rfl, .im (Sub.rfl' rfl)⟩, ⟨11, .im _, rfl, rfl, .im (Sub.rfl' rfl)⟩, ⟨11, .im _, rfl, rfl, .im (Sub.rfl' rfl)⟩, trivial⟩)
      ·replace b75 := beq_ft b75
       replace h := cond_t b75 h
       conv=>whnf
       iterate 2 (refine Both.no (tf_beq b75) ?_; (conv=>whnf))
       refine Both.yes b75 ?_
       conv=>whnf
       iterate 2 (refine Both.no rfl ?_; (conv=>whnf))
       refine Both.yes rfl ?_
       conv=>whnf
       iterate 2 (refine Both.no rfl ?_; (conv=>whnf))
       refine Both.yes rfl ?_
       conv=>whnf
       iterate 4 (refine Both.no rfl ?_; (conv=>whnf))
       refine Both.yes rfl ?_
       conv=>whnf
       cases h
       exact Join.mk (Ent.mk [(101, some 1), (102, some 9), (103, some 11)] rfl ⟨⟨.own 1 _ 0, rfl, .own rfl rfl rfl⟩, ⟨.own 9 _ 0, rfl, .own rfl rfl rfl⟩, ⟨.own 11 _ 0, rfl, .own rfl rfl rfl⟩, eI rfl rfl, trivial⟩ ⟨.inl ⟨1, rfl, rfl, trivial⟩, .inl ⟨9, rfl, rfl, trivial⟩, .inl ⟨11, rfl, rfl, trivial⟩, trivial⟩ ⟨⟨1, .im _, rfl, rfl, .im (Sub.rfl' rfl)⟩, ⟨1, .im _, rfl, rfl, .im (Sub.rfl' rfl)⟩, ⟨1, .im _, rfl, rfl, .im (Sub.rfl' rfl)⟩, ⟨9, .im _, rfl, rfl, .im (Sub.rfl' rfl)⟩, ⟨9, .im _, rfl, rfl, .im (Sub.rfl' rfl)⟩, ⟨9, .im _, rfl, rfl, .im (Sub.rfl' rfl)⟩, ⟨11, .im _, rfl, rfl, .im (Sub.rfl' rfl)⟩, ⟨11, .im _, rfl, rfl, .im (Sub.rfl' rfl)⟩, ⟨11, .im _, rfl, rfl, .im (Sub.rfl' rfl)⟩, trivial⟩)
     ·replace b74 := beq_ft b74
      replace h := cond_t b74 h
      have b74d := odt b74
      conv=>whnf
      refine Both.yes b74 ?_
      conv=>whnf
      iterate 3 (refine Both.no rfl ?_; (conv=>whnf))
      refine Both.yes rfl ?_
      conv=>whnf
      iterate 2 (refine Both.no rfl ?_; (conv=>whnf))
      refine Both.yes rfl ?_
      conv=>whnf
      iterate 2 (refine Both.no rfl ?_; (conv=>whnf))
      refine Both.yes rfl ?_
      conv=>whnf
      iterate 4 (refine Both.no rfl ?_; (conv=>whnf))
      refine Both.yes rfl ?_
      conv=>whnf
      cases h
      exact Join.mk (Ent.mk [(101, some 1), (102, some 9), (103, some 11)] rfl ⟨⟨.own 1 _ 0, rfl, .own rfl rfl rfl⟩, ⟨.own 9 _ 0, rfl, .own rfl rfl rfl⟩, ⟨.own 11 _ 0, rfl, .own rfl rfl rfl⟩, eI rfl rfl, trivial⟩ ⟨.inl ⟨1, rfl, rfl, trivial⟩, .inl ⟨9, rfl, rfl, trivial⟩, .inl ⟨11, rfl, rfl, trivial⟩, trivial⟩ ⟨⟨1, .im _, rfl, rfl, .im (Sub.rfl' rfl)⟩, ⟨1, .im _, rfl, rfl, .im (Sub.rfl' rfl)⟩, ⟨1, .im _, rfl, rfl, .im (Sub.rfl' rfl)⟩, ⟨9, .im _, rfl, rfl, .im (Sub.rfl' rfl)⟩, ⟨9, .im _, rfl, rfl, .im (Sub.rfl' rfl)⟩, ⟨9, .im _, rfl, rfl, .im (Sub.rfl' rfl)⟩, ⟨11, .im _, rfl, rfl, .im (Sub.rfl' rfl)⟩, ⟨11, .im _, rfl, rfl, .im (Sub.rfl' rfl)⟩, ⟨11, .im _, rfl, rfl, .im (Sub.rfl' rfl)⟩, trivial⟩)
    ·replace b73 := beq_ft b73
     replace h := cond_t b73 h
     have b73d := odt b73
     conv=>whnf
     refine Both.no (tf_beq b73) ?_
     conv=>whnf
     refine Both.yes b73 ?_
     conv=>whnf
     refine Both.no rfl ?_
     conv=>whnf
     refine Both.yes rfl ?_
     conv=>whnf
     iterate 3 (refine Both.no rfl ?_; (conv=>whnf))
     refine Both.yes rfl ?_
     conv=>whnf
     iterate 2 (refine Both.no rfl ?_; (conv=>whnf))
     refine Both.yes rfl ?_
     conv=>whnf
     iterate 2 (refine Both.no rfl ?_; (conv=>whnf))
     refine Both.yes rfl ?_
     conv=>whnf
     iterate 4 (refine Both.no rfl ?_; (conv=>whnf))
     refine Both.yes rfl ?_
     conv=>whnf
     cases h
     exact Join.mk (Ent.mk [(101, some 1), (102, some 9), (103, some 11)] rfl ⟨⟨.own 1 _ 0, rfl, .own rfl rfl rfl⟩, ⟨.own 9 _ 0, rfl, .own rfl rfl rfl⟩, ⟨.own 11 _ 0, rfl, .own rfl rfl rfl⟩, eI rfl rfl, trivial⟩ ⟨.inl ⟨1, rfl, rfl, trivial⟩, .inl ⟨9, rfl, rfl, trivial⟩, .inl ⟨11, rfl, rfl, trivial⟩, trivial⟩ ⟨⟨1, .im _, rfl, rfl, .im (Sub.rfl' rfl)⟩, ⟨1, .im _, rfl, rfl, .im (Sub.rfl' rfl)⟩, ⟨1, .im _, rfl, rfl, .im (Sub.rfl' rfl)⟩, ⟨9, .im _, rfl, rfl, .im (Sub.rfl' rfl)⟩, ⟨9, .im _, rfl, rfl, .im (Sub.rfl' rfl)⟩, ⟨9, .im _, rfl, rfl, .im (Sub.rfl' rfl)⟩, ⟨11, .im _, rfl, rfl, .im (Sub.rfl' rfl)⟩, ⟨11, .im _, rfl, rfl, .im (Sub.rfl' rfl)⟩, ⟨11, .im _, rfl, rfl, .im (Sub.rfl' rfl)⟩, trivial⟩)
   ·replace b72 := beq_ft b72
    replace h := cond_t b72 h
    conv=>whnf
    iterate 2 (refine Both.no (tf_beq b72) ?_; (conv=>whnf))
    refine Both.yes b72 ?_
    conv=>whnf
    iterate 2 (refine Both.no rfl ?_; (conv=>whnf))
    refine Both.yes rfl ?_
    conv=>whnf
    refine Both.no rfl ?_
    conv=>whnf
    refine Both.yes rfl ?_
    conv=>whnf
    iterate 3 (refine Both.no rfl ?_; (conv=>whnf))
    refine Both.yes rfl ?_
    conv=>whnf
    iterate 2 (refine Both.no rfl ?_; (conv=>whnf))
    refine Both.yes rfl ?_
    conv=>whnf
    iterate 2 (refine Both.no rfl ?_; (conv=>whnf))
    refine Both.yes rfl ?_
    conv=>whnf
    iterate 4 (refine Both.no rfl ?_; (conv=>whnf))
    refine Both.yes rfl ?_
    conv=>whnf
    cases h
    exact Join.mk (Ent.mk [(101, some 1), (102, some 9), (103, some 11)] rfl ⟨⟨.own 1 _ 0, rfl, .own rfl rfl rfl⟩, ⟨.own 9 _ 0, rfl, .own rfl rfl rfl⟩, ⟨.own 11 _ 0, rfl, .own rfl rfl rfl⟩, eI rfl rfl, trivial⟩ ⟨.inl ⟨1, rfl, rfl, trivial⟩, .inl ⟨9, rfl, rfl, trivial⟩, .inl ⟨11, rfl, rfl, trivial⟩, trivial⟩ ⟨⟨1, .im _, rfl, rfl, .im (Sub.rfl' rfl)⟩, ⟨1, .im _, rfl, rfl, .im (Sub.rfl' rfl)⟩, ⟨1, .im _, rfl, rfl, .im (Sub.rfl' rfl)⟩, ⟨9, .im _, rfl, rfl, .im (Sub.rfl' rfl)⟩, ⟨9, .im _, rfl, rfl, .im (Sub.rfl' rfl)⟩, ⟨9, .im _, rfl, rfl, .im (Sub.rfl' rfl)⟩, ⟨11, .im _, rfl, rfl, .im (Sub.rfl' rfl)⟩, ⟨11, .im _, rfl, rfl, .im (Sub.rfl' rfl)⟩, ⟨11, .im _, rfl, rfl, .im (Sub.rfl' rfl)⟩, trivial⟩)
  ·replace b71 := beq_ft b71
   replace h := cond_t b71 h
   have b71d := odt b71
   conv=>whnf
   refine Both.yes b71 ?_
   conv=>whnf
   iterate 3 (refine Both.no rfl ?_; (conv=>whnf))
   refine Both.yes rfl ?_
   conv=>whnf
   iterate 2 (refine Both.no rfl ?_; (conv=>whnf))
   refine Both.yes rfl ?_
   conv=>whnf
   refine Both.no rfl ?_
   conv=>whnf
   refine Both.yes rfl ?_
   conv=>whnf
   iterate 3 (refine Both.no rfl ?_; (conv=>whnf))
   refine Both.yes rfl ?_
   conv=>whnf
   iterate 2 (refine Both.no rfl ?_; (conv=>whnf))
   refine Both.yes rfl ?_
   conv=>whnf
   iterate 2 (refine Both.no rfl ?_; (conv=>whnf))
   refine Both.yes rfl ?_
   conv=>whnf
   iterate 4 (refine Both.no rfl ?_; (conv=>whnf))
   refine Both.yes rfl ?_
   conv=>whnf
   cases h
   exact Join.mk (Ent.mk [(101, some 1), (102, some 9), (103, some 11)] rfl ⟨⟨.own 1 _ 0, rfl, .own rfl rfl rfl⟩, ⟨.own 9 _ 0, rfl, .own rfl rfl rfl⟩, ⟨.own 11 _ 0, rfl, .own rfl rfl rfl⟩, eI rfl rfl, trivial⟩ ⟨.inl ⟨1, rfl, rfl, trivial⟩, .inl ⟨9, rfl, rfl, trivial⟩, .inl ⟨11, rfl, rfl, trivial⟩, trivial⟩ ⟨⟨1, .im _, rfl, rfl, .im (Sub.rfl' rfl)⟩, ⟨1, .im _, rfl, rfl, .im (Sub.rfl' rfl)⟩, ⟨1, .im _, rfl, rfl, .im (Sub.rfl' rfl)⟩, ⟨9, .im _, rfl, rfl, .im (Sub.rfl' rfl)⟩, ⟨9, .im _, rfl, rfl, .im (Sub.rfl' rfl)⟩, ⟨9, .im _, rfl, rfl, .im (Sub.rfl' rfl)⟩, ⟨11, .im _, rfl, rfl, .im (Sub.rfl' rfl)⟩, ⟨11, .im _, rfl, rfl, .im (Sub.rfl' rfl)⟩, ⟨11, .im _, rfl, rfl, .im (Sub.rfl' rfl)⟩, trivial⟩)
 ·replace h := hk61
  obtain ⟨z79, z80, z81, z82, z83, z84, _⟩ := hp
  conv=>whnf
  refine Both.mk ?_ ?_<;>intro b85
  ·replace h := cond_t b85 h
   conv=>whnf
   cases h
   conv=>whnf
   exact ⟨rfl, rfl⟩
  ·replace h := cond_f b85 h
   conv=>whnf
   obtain ⟨y93, hc, hk87⟩ := bind_some h
   clear h
   have h := hc
   clear hc
   refine Cut.mk (mkSt [(0, .im (nB y93))] [] []) (True) (Holds.true_ _) ?_ (fun hp => ?_)
   ·conv=>whnf
    refine Side.mk rfl ?_
    conv=>whnf
    refine Side.mk rfl ?_
    conv=>whnf
    obtain ⟨c94, hc94, h⟩ := bind_some h
    refine ⟨_, (sp_R01_SameWords c53.1.Prefixes [[], [0]] c94 (fun _ _ => hc94)), ?_⟩
    conv=>whnf
    refine Both.mk ?_ ?_<;>intro b95
    ·replace b95 := beq_tt b95
     replace h := cond_t b95 h
     conv=>whnf
     refine Side.mk rfl ?_
     conv=>whnf
     refine Both.yes (tt_beq b95) ?_
     conv=>whnf
     refine Side.mk rfl ?_
     conv=>whnf
     iterate 5 (refine Both.yes (tt_beq b95) ?_; (conv=>whnf))
     obtain ⟨c96, hc96, h⟩ := bind_some h
     refine ⟨_, (sp_R01_SameWords c57.1.Prefixes [[], [0], [0, 1]] c96 (fun _ _ => hc96)), ?_⟩
     conv=>whnf
     refine Both.yes b95 ?_
     conv=>whnf
     refine Both.mk ?_ ?_<;>intro b97
     ·replace b97 := beq_tt b97
      replace h := cond_t b97 h
      conv=>whnf
      refine Side.mk rfl ?_
      conv=>whnf
      refine Both.yes (tt_beq b97) ?_
      conv=>whnf
      refine Side.mk rfl ?_
      conv=>whnf
      iterate 5 (refine Both.yes (tt_beq b97) ?_; (conv=>whnf))
      obtain ⟨c98, hc98, h⟩ := bind_some h
      refine ⟨_, (sp_R01_SameWords c59.1.Suffixes [[0], [1], [0, 1]] c98 (fun _ _ => hc98)), ?_⟩
      conv=>whnf
      refine Both.yes b97 ?_
      conv=>whnf
      cases h
      exact Join.mk (Ent.mk [] rfl ⟨eI rfl rfl, trivial⟩ trivial trivial)
     ·replace b97 := beq_tf b97
      replace h := cond_f b97 h
      conv=>whnf
      iterate 6 (refine Both.no (ft_beq b97) ?_; (conv=>whnf))
      refine Both.no b97 ?_
      conv=>whnf
      cases h
      exact Join.mk (Ent.mk [] rfl ⟨eI rfl rfl, trivial⟩ trivial trivial)
    ·replace b95 := beq_tf b95
     replace h := cond_f b95 h
     conv=>whnf
     iterate 6 (refine Both.no (ft_beq b95) ?_; (conv=>whnf))
     refine Both.no b95 ?_
     conv=>whnf
     iterate 8 (refine Both.no rfl ?_; (conv=>whnf))
     cases h
     exact Join.mk (Ent.mk [] rfl ⟨eI rfl rfl, trivial⟩ trivial trivial)
   ·replace h := hk87
    conv=>whnf
    cases h
    conv=>whnf
    exact ⟨rfl, rfl⟩
theorem sp_L24_kept (t_ : T_api_Table) (u_ : T_api_Table) (r : Bool) (h : Ok (.agg (c_api_Table t_)) → Ok (.agg (c_api_Table u_)) → L24_kept t_ u_ = some r) : Sp Tryz.prog 53 [.im (.agg (c_api_Table t_)), .im (.agg (c_api_Table u_))] (.im (nB r)) := by
 refine sp_of rfl [700002, 700003] rfl rfl rfl (Nat.le_of_ble_eq_true rfl) rfl fun hk => ?_
 replace h := h hk.1 hk.2.1
 have z1 : List.length t_.Prefixes ≤ 17592186044416 := ok_len (Ok.agg_at hk.1 1 rfl)
 have z2 : List.length t_.Suffixes ≤ 17592186044416 := ok_len (Ok.agg_at hk.1 2 rfl)
 have z3 : List.length u_.Prefixes ≤ 17592186044416 := ok_len (Ok.agg_at hk.2.1 1 rfl)
 have z4 : List.length u_.Suffixes ≤ 17592186044416 := ok_len (Ok.agg_at hk.2.1 2 rfl)
 unfold L24_kept at h
 conv=>whnf
 obtain ⟨oc, hc, hk51⟩ := bind_some h
 clear h
 have h := hc
 clear hc
 refine Cut.mkS oc (Y := Unit) (fun (_ : Unit) => mkSt [(2, .im (.ref (c_api_Table t_))), (3, .im (.ref (c_api_Table u_)))] [] []) (fun (_ : Unit) => True) (by rintro ⟨⟩; exact (Holds.true_ _)) ?_ ?_
 ·conv=>whnf
  refine Loops.iter (fun (s : Nat) => L24_kept.s2 t_ u_ s) (fun i70 => mkSt [(2, .im (.ref (c_api_Table t_))), (3, .im (.ref (c_api_Table u_))), (5, .im (nI (↑i70 : Int)))] [] []) (fun i70 => True) h (Ent.mk [] rfl ⟨eI rfl rfl, eI rfl rfl, eI rfl rfl, trivial⟩ trivial trivial) (by rintro i70; exact (Holds.true_ _)) ?_
  clear h
  rintro k i70 o hp h ho75
  replace h : L24_kept.s2 t_ u_ i70 = some o := h
  unfold L24_kept.s2 at h
  conv=>whnf
  refine Nf.mk (List.length t_.Prefixes) len_map ?_
  conv=>whnf
  refine Both.mk ?_ ?_<;>intro b76
  ·replace h := cond_t b76 h
   have b76d := odt b76
   conv=>whnf
   obtain ⟨e77, he77, h⟩ := idxn_some h
   refine ⟨_, ⟨(by omega), map_at he77, rfl⟩, ?_⟩
   conv=>whnf
   obtain ⟨c78, hc78, h⟩ := bind_some h
   refine ⟨_, (sp_R02_Has u_.Prefixes e77 c78 (fun _ _ => hc78)), ?_⟩
   conv=>whnf
   refine Both.mk ?_ ?_<;>intro b79
   ·replace h := cond_t b79 h
    conv=>whnf
    cases h
    have ho75 : _ = _ := ho75
    cases ho75
    replace h : some _ = some _ := hk51
    cases h
    conv=>whnf
    exact ⟨rfl, rfl⟩
   ·replace h := cond_f b79 h
    conv=>whnf
    refine Side.mk (by show inR _; unfold inR; omega) ?_
    conv=>whnf
    cases h
    exact Nxt.mk _ ho75 (Ent.mk [] rfl ⟨eI rfl rfl, eI rfl rfl, eI rfl rfl, trivial⟩ trivial trivial)
  ·replace h := cond_f b76 h
   have b76d := odf b76
   conv=>whnf
   cases h
   have ho75 : _ = _ := ho75
   cases ho75
   exact JoinS.mk' _ rfl (Ent.mk [] rfl ⟨eI rfl rfl, eI rfl rfl, trivial⟩ trivial trivial)
 ·rintro ⟨⟩ rfl hp
  replace h := sum_inl hk51
  conv=>whnf
  obtain ⟨oc, hc, hk80⟩ := bind_some h
  clear h
  have h := hc
  clear hc
  refine Cut.mkS oc (Y := Unit) (fun (_ : Unit) => mkSt [(2, .im (.ref (c_api_Table t_))), (3, .im (.ref (c_api_Table u_)))] [] []) (fun (_ : Unit) => True) (by rintro ⟨⟩; exact (Holds.true_ _)) ?_ ?_
  ·conv=>whnf
   refine Loops.iter (fun (s : Nat) => L24_kept.s4 t_ u_ s) (fun i99 => mkSt [(2, .im (.ref (c_api_Table t_))), (3, .im (.ref (c_api_Table u_))), (6, .im (nI (↑i99 : Int)))] [] []) (fun i99 => True) h (Ent.mk [] rfl ⟨eI rfl rfl, eI rfl rfl, eI rfl rfl, trivial⟩ trivial trivial) (by rintro i99; exact (Holds.true_ _)) ?_
   clear h
   rintro k i99 o hp h ho104
   replace h : L24_kept.s4 t_ u_ i99 = some o := h
   unfold L24_kept.s4 at h
   conv=>whnf
   refine Nf.mk (List.length t_.Suffixes) len_map ?_
   conv=>whnf
   refine Both.mk ?_ ?_<;>intro b105
   ·replace h := cond_t b105 h
    have b105d := odt b105
    conv=>whnf
    obtain ⟨e106, he106, h⟩ := idxn_some h
    refine ⟨_, ⟨(by omega), map_at he106, rfl⟩, ?_⟩
    conv=>whnf
    obtain ⟨c107, hc107, h⟩ := bind_some h
    refine ⟨_, (sp_R02_Has u_.Suffixes e106 c107 (fun _ _ => hc107)), ?_⟩
    conv=>whnf
    refine Both.mk ?_ ?_<;>intro b108
    ·replace h := cond_t b108 h
     conv=>whnf
     cases h
     have ho104 : _ = _ := ho104
     cases ho104
     replace h : some _ = some _ := hk80
     cases h
     conv=>whnf
     exact ⟨rfl, rfl⟩
    ·replace h := cond_f b108 h
     conv=>whnf
     refine Side.mk (by show inR _; unfold inR; omega) ?_
     conv=>whnf
     cases h
     exact Nxt.mk _ ho104 (Ent.mk [] rfl ⟨eI rfl rfl, eI rfl rfl, eI rfl rfl, trivial⟩ trivial trivial)
   ·replace h := cond_f b105 h
    have b105d := odf b105
    conv=>whnf
    cases h
    have ho104 : _ = _ := ho104
    cases ho104
    exact JoinS.mk' _ rfl (Ent.mk [] rfl ⟨eI rfl rfl, eI rfl rfl, trivial⟩ trivial trivial)
  ·rintro ⟨⟩ rfl hp
   replace h := sum_inl hk80
   conv=>whnf
   cases h
   conv=>whnf
   exact ⟨rfl, rfl⟩
theorem sp_L24_LstarGrows (t_ : T_api_Table) (o_ : T_api_Obs) (w_ : List Int) (r : Bool) (h : Ok (.agg (c_api_Table t_)) → Ok (.agg (c_api_Obs o_)) → Ok (nL cI w_) → L24_LstarGrows t_ o_ w_ = some r) : Sp Tryz.prog 13 [.im (.agg (c_api_Table t_)), .im (.agg (c_api_Obs o_)), .im (nL cI w_)] (.im (nB r)) := by
 refine sp_of rfl [700003, 700004] rfl rfl rfl (Nat.le_of_ble_eq_true rfl) rfl fun hk => ?_
 replace h := h hk.1 hk.2.1 hk.2.2.1
 have z1 : List.length t_.Prefixes ≤ 17592186044416 := ok_len (Ok.agg_at hk.1 1 rfl)
 have z2 : List.length t_.Suffixes ≤ 17592186044416 := ok_len (Ok.agg_at hk.1 2 rfl)
 have z3 : List.length o_.Traces ≤ 17592186044416 := ok_len (Ok.agg_at hk.2.1 1 rfl)
 have z4 : List.length w_ ≤ 17592186044416 := ok_len hk.2.2.1
 unfold L24_LstarGrows at h
 conv=>whnf
 obtain ⟨y57, hc, hk52⟩ := bind_some h
 clear h
 have h := hc
 clear hc
 refine Cut.mk (mkSt [(2, .im (nL cI w_)), (3, .im (.ref (c_api_Table t_))), (4, .im (.ref (c_api_Obs o_))), (27, .im (nB y57))] [] []) (List.length w_ ≤ 17592186044416 ∧ True) ((Holds.avl 2 rfl).and (Holds.true_ _)) ?_ (fun hp => ?_)
 ·conv=>whnf
  obtain ⟨c58, hc58, h⟩ := bind_some h
  refine ⟨_, (sp_L23_Great t_ o_ c58 (fun _ _ => hc58)), ?_⟩
  conv=>whnf
  refine Both.mk ?_ ?_<;>intro b59
  ·replace b59 := beq_ff b59
   replace h := cond_f b59 h
   conv=>whnf
   refine Both.yes (ff_beq b59) ?_
   conv=>whnf
   obtain ⟨c60, hc60, h⟩ := bind_some h
   refine ⟨_, (sp_R16_Valid o_ c60 (fun _ => hc60)), ?_⟩
   conv=>whnf
   refine Both.yes (ff_beq b59) ?_
   conv=>whnf
   refine Both.no b59 ?_
   conv=>whnf
   refine Both.mk ?_ ?_<;>intro b61
   ·replace b61 := beq_ff b61
    replace h := cond_f b61 h
    have b61d := odf b61
    conv=>whnf
    refine Both.yes (ff_beq b61) ?_
    conv=>whnf
    refine Nf.mk (List.length w_) len_map ?_
    conv=>whnf
    refine Both.yes (ff_beq b61) ?_
    conv=>whnf
    refine Both.no b61 ?_
    conv=>whnf
    cases h
    exact Join.mk (Ent.mk [] rfl ⟨eI rfl rfl, eI rfl rfl, eI rfl rfl, eI rfl rfl, trivial⟩ trivial trivial)
   ·replace b61 := beq_ft b61
    replace h := cond_t b61 h
    have b61d := odt b61
    conv=>whnf
    iterate 2 (refine Both.no (tf_beq b61) ?_; (conv=>whnf))
    refine Both.yes b61 ?_
    conv=>whnf
    cases h
    exact Join.mk (Ent.mk [] rfl ⟨eI rfl rfl, eI rfl rfl, eI rfl rfl, eI rfl rfl, trivial⟩ trivial trivial)
  ·replace b59 := beq_ft b59
   replace h := cond_t b59 h
   conv=>whnf
   iterate 2 (refine Both.no (tf_beq b59) ?_; (conv=>whnf))
   refine Both.yes b59 ?_
   conv=>whnf
   iterate 3 (refine Both.no rfl ?_; (conv=>whnf))
   refine Both.yes rfl ?_
   conv=>whnf
   cases h
   exact Join.mk (Ent.mk [] rfl ⟨eI rfl rfl, eI rfl rfl, eI rfl rfl, eI rfl rfl, trivial⟩ trivial trivial)
 ·replace h := hk52
  obtain ⟨z62, _⟩ := hp
  conv=>whnf
  refine Both.mk ?_ ?_<;>intro b63
  ·replace h := cond_t b63 h
   conv=>whnf
   obtain ⟨c64, hc64, h⟩ := bind_some h
   refine ⟨_, (sp_L24_awake  c64 (hc64)), ?_⟩
   conv=>whnf
   cases h
   conv=>whnf
   exact ⟨rfl, rfl⟩
  ·replace h := cond_f b63 h
   conv=>whnf
   obtain ⟨c65, hc65, h⟩ := bind_some h
   refine ⟨_, (sp_lstar_Step t_ o_ c65 (fun _ _ => hc65)), ?_⟩
   conv=>whnf
   refine Side.mk rfl ?_
   conv=>whnf
   refine Nf.mk (List.length w_) len_map ?_
   conv=>whnf
   obtain ⟨c66, h⟩ := chk_some h
   refine Side.mk c66 ?_
   conv=>whnf
   obtain ⟨c67, hc67, h⟩ := bind_some h
   refine ⟨_, (sp_lstar_Refine t_ w_ ((↑(List.length w_) : Int) % 2) c67 (fun _ _ _ => hc67)), ?_⟩
   conv=>whnf
   refine Side.mk rfl ?_
   conv=>whnf
   obtain ⟨c68, hc68, h⟩ := bind_some h
   refine ⟨_, (sp_table_Hypothesis t_ o_ c68 (fun _ _ => hc68)), ?_⟩
   conv=>whnf
   refine Side.mk rfl ?_
   conv=>whnf
   obtain ⟨y76, hc, hk70⟩ := bind_some h
   clear h
   have h := hc
   clear hc
   refine Cut.mk (mkSt [(3, .im (.ref (c_api_Table t_))), (7, .own 97 1 0), (10, .im (nI c65.2.2.2)), (11, .own 98 1 0), (12, .im (nI c67.2)), (77, .im (nB y76))] [(97, .box 24 3), (98, .box 24 3)] [(97, 0, .im (nI c65.1.Inputs)), (97, 1, .im (nL (cL cI) c65.1.Prefixes)), (97, 2, .im (nL (cL cI) c65.1.Suffixes)), (98, 0, .im (nI c67.1.Inputs)), (98, 1, .im (nL (cL cI) c67.1.Prefixes)), (98, 2, .im (nL (cL cI) c67.1.Suffixes))]) (List.length c65.1.Prefixes ≤ 17592186044416 ∧ List.length c65.1.Suffixes ≤ 17592186044416 ∧ List.length c67.1.Prefixes ≤ 17592186044416 ∧ List.length c67.1.Suffixes ≤ 17592186044416 ∧ True) ((Holds.cel 97 1 rfl (by decide) rfl).and ((Holds.cel 97 2 rfl (by decide) rfl).and ((Holds.cel 98 1 rfl (by decide) rfl).and ((Holds.cel 98 2 rfl (by decide) rfl).and (Holds.true_ _))))) ?_ (fun hp => ?_)
   ·conv=>whnf
    refine Both.mk ?_ ?_<;>intro b77
    ·replace b77 := beq_tt b77
     replace h := cond_t b77 h
     conv=>whnf
     iterate 2 (refine Both.yes (tt_beq b77) ?_; (conv=>whnf))
     refine Both.mk ?_ ?_<;>intro b78
     ·replace b78 := beq_ff b78
      replace h := cond_f b78 h
      have b78d := odf b78
      conv=>whnf
      refine Both.yes (ff_beq b78) ?_
      conv=>whnf
      refine Both.yes (tt_beq b77) ?_
      conv=>whnf
      refine Both.no b78 ?_
      conv=>whnf
      refine Both.yes b77 ?_
      conv=>whnf
      refine Both.mk ?_ ?_<;>intro b79
      ·replace b79 := beq_ff b79
       replace h := cond_f b79 h
       have b79d := odf b79
       conv=>whnf
       refine Side.mk rfl ?_
       conv=>whnf
       refine Both.yes (ff_beq b79) ?_
       conv=>whnf
       refine Side.mk rfl ?_
       conv=>whnf
       refine Both.yes (ff_beq b79) ?_
       conv=>whnf
       refine Nf.mk (List.length c65.1.Prefixes) len_map ?_
       conv=>whnf
       refine Both.yes (ff_beq b79) ?_
       conv=>whnf
       refine Side.mk rfl ?_
       conv=>whnf
       refine Both.yes (ff_beq b79) ?_
       conv=>whnf
       refine Side.mk rfl ?_
       conv=>whnf
       refine Both.yes (ff_beq b79) ?_
       conv=>whnf
       refine Nf.mk (List.length c65.1.Suffixes) len_map ?_
       conv=>whnf
       refine Both.yes (ff_beq b79) ?_
       conv=>whnf
       obtain ⟨c80, h⟩ := chk_some h
       refine Side.mk c80 ?_
       conv=>whnf
       iterate 3 (refine Both.yes (ff_beq b79) ?_; (conv=>whnf))
       refine Nf.mk (List.length t_.Prefixes) len_map ?_
       conv=>whnf
       iterate 3 (refine Both.yes (ff_beq b79) ?_; (conv=>whnf))
       refine Nf.mk (List.length t_.Suffixes) len_map ?_
       conv=>whnf
       refine Both.yes (ff_beq b79) ?_
       conv=>whnf
       refine Side.mk (by show inR _; unfold inR; omega) ?_
       conv=>whnf
       refine Both.yes (ff_beq b79) ?_
       conv=>whnf
       refine Both.no b79 ?_
       conv=>whnf
       cases h
       exact Join.mk (Ent.mk [(97, some 7), (98, some 11)] rfl ⟨eI rfl rfl, ⟨.own 7 _ 0, rfl, .own rfl rfl rfl⟩, eI rfl rfl, ⟨.own 11 _ 0, rfl, .own rfl rfl rfl⟩, eI rfl rfl, eI rfl rfl, trivial⟩ ⟨.inl ⟨7, rfl, rfl, trivial⟩, .inl ⟨11, rfl, rfl, trivial⟩, trivial⟩ ⟨⟨7, .im _, rfl, rfl, .im (Sub.rfl' rfl)⟩, ⟨7, .im _, rfl, rfl, .im (Sub.rfl' rfl)⟩, ⟨7, .im _, rfl, rfl, .im (Sub.rfl' rfl)⟩, ⟨11, .im _, rfl, rfl, .im (Sub.rfl' rfl)⟩, ⟨11, .im _, rfl, rfl, .im (Sub.rfl' rfl)⟩, ⟨11, .im _, rfl, rfl, .im (Sub.rfl' rfl)⟩, trivial⟩)
      ·replace b79 := beq_ft b79
       replace h := cond_t b79 h
       have b79d := odt b79
       conv=>whnf
       iterate 14 (refine Both.no (tf_beq b79) ?_; (conv=>whnf))
       refine Both.yes b79 ?_
       conv=>whnf
       cases h
       exact Join.mk (Ent.mk [(97, some 7), (98, some 11)] rfl ⟨eI rfl rfl, ⟨.own 7 _ 0, rfl, .own rfl rfl rfl⟩, eI rfl rfl, ⟨.own 11 _ 0, rfl, .own rfl rfl rfl⟩, eI rfl rfl, eI rfl rfl, trivial⟩ ⟨.inl ⟨7, rfl, rfl, trivial⟩, .inl ⟨11, rfl, rfl, trivial⟩, trivial⟩ ⟨⟨7, .im _, rfl, rfl, .im (Sub.rfl' rfl)⟩, ⟨7, .im _, rfl, rfl, .im (Sub.rfl' rfl)⟩, ⟨7, .im _, rfl, rfl, .im (Sub.rfl' rfl)⟩, ⟨11, .im _, rfl, rfl, .im (Sub.rfl' rfl)⟩, ⟨11, .im _, rfl, rfl, .im (Sub.rfl' rfl)⟩, ⟨11, .im _, rfl, rfl, .im (Sub.rfl' rfl)⟩, trivial⟩)
     ·replace b78 := beq_ft b78
      replace h := cond_t b78 h
      have b78d := odt b78
      conv=>whnf
      refine Both.no (tf_beq b78) ?_
      conv=>whnf
      refine Both.yes (tt_beq b77) ?_
      conv=>whnf
      refine Both.yes b78 ?_
      conv=>whnf
      refine Both.yes b77 ?_
      conv=>whnf
      iterate 15 (refine Both.no rfl ?_; (conv=>whnf))
      refine Both.yes rfl ?_
      conv=>whnf
      cases h
      exact Join.mk (Ent.mk [(97, some 7), (98, some 11)] rfl ⟨eI rfl rfl, ⟨.own 7 _ 0, rfl, .own rfl rfl rfl⟩, eI rfl rfl, ⟨.own 11 _ 0, rfl, .own rfl rfl rfl⟩, eI rfl rfl, eI rfl rfl, trivial⟩ ⟨.inl ⟨7, rfl, rfl, trivial⟩, .inl ⟨11, rfl, rfl, trivial⟩, trivial⟩ ⟨⟨7, .im _, rfl, rfl, .im (Sub.rfl' rfl)⟩, ⟨7, .im _, rfl, rfl, .im (Sub.rfl' rfl)⟩, ⟨7, .im _, rfl, rfl, .im (Sub.rfl' rfl)⟩, ⟨11, .im _, rfl, rfl, .im (Sub.rfl' rfl)⟩, ⟨11, .im _, rfl, rfl, .im (Sub.rfl' rfl)⟩, ⟨11, .im _, rfl, rfl, .im (Sub.rfl' rfl)⟩, trivial⟩)
    ·replace b77 := beq_tf b77
     replace h := cond_f b77 h
     conv=>whnf
     iterate 3 (refine Both.no (ft_beq b77) ?_; (conv=>whnf))
     refine Both.no b77 ?_
     conv=>whnf
     refine Both.yes rfl ?_
     conv=>whnf
     refine Side.mk rfl ?_
     conv=>whnf
     refine Both.yes rfl ?_
     conv=>whnf
     refine Side.mk rfl ?_
     conv=>whnf
     refine Both.yes rfl ?_
     conv=>whnf
     refine Nf.mk (List.length c65.1.Prefixes) len_map ?_
     conv=>whnf
     refine Both.yes rfl ?_
     conv=>whnf
     refine Side.mk rfl ?_
     conv=>whnf
     refine Both.yes rfl ?_
     conv=>whnf
     refine Side.mk rfl ?_
     conv=>whnf
     refine Both.yes rfl ?_
     conv=>whnf
     refine Nf.mk (List.length c65.1.Suffixes) len_map ?_
     conv=>whnf
     refine Both.yes rfl ?_
     conv=>whnf
     obtain ⟨c81, h⟩ := chk_some h
     refine Side.mk c81 ?_
     conv=>whnf
     iterate 3 (refine Both.yes rfl ?_; (conv=>whnf))
     refine Nf.mk (List.length t_.Prefixes) len_map ?_
     conv=>whnf
     iterate 3 (refine Both.yes rfl ?_; (conv=>whnf))
     refine Nf.mk (List.length t_.Suffixes) len_map ?_
     conv=>whnf
     refine Both.yes rfl ?_
     conv=>whnf
     refine Side.mk (by show inR _; unfold inR; omega) ?_
     conv=>whnf
     refine Both.yes rfl ?_
     conv=>whnf
     refine Both.no rfl ?_
     conv=>whnf
     cases h
     exact Join.mk (Ent.mk [(97, some 7), (98, some 11)] rfl ⟨eI rfl rfl, ⟨.own 7 _ 0, rfl, .own rfl rfl rfl⟩, eI rfl rfl, ⟨.own 11 _ 0, rfl, .own rfl rfl rfl⟩, eI rfl rfl, eI rfl rfl, trivial⟩ ⟨.inl ⟨7, rfl, rfl, trivial⟩, .inl ⟨11, rfl, rfl, trivial⟩, trivial⟩ ⟨⟨7, .im _, rfl, rfl, .im (Sub.rfl' rfl)⟩, ⟨7, .im _, rfl, rfl, .im (Sub.rfl' rfl)⟩, ⟨7, .im _, rfl, rfl, .im (Sub.rfl' rfl)⟩, ⟨11, .im _, rfl, rfl, .im (Sub.rfl' rfl)⟩, ⟨11, .im _, rfl, rfl, .im (Sub.rfl' rfl)⟩, ⟨11, .im _, rfl, rfl, .im (Sub.rfl' rfl)⟩, trivial⟩)
   ·replace h := hk70
    obtain ⟨z82, z83, z84, z85, _⟩ := hp
    conv=>whnf
    refine Both.mk ?_ ?_<;>intro b86
    ·replace h := cond_t b86 h
     conv=>whnf
     cases h
     conv=>whnf
     exact ⟨rfl, rfl⟩
    ·replace h := cond_f b86 h
     conv=>whnf
     obtain ⟨y96, hc, hk88⟩ := bind_some h
     clear h
     have h := hc
     clear hc
     refine Cut.mk (mkSt [(95, .im (nB y96))] [] []) (True) (Holds.true_ _) ?_ (fun hp => ?_)
     ·conv=>whnf
      refine Both.mk ?_ ?_<;>intro b97
      ·replace b97 := beq_tt b97
       replace h := cond_t b97 h
       have b97d := odt b97
       conv=>whnf
       refine Both.yes (tt_beq b97) ?_
       conv=>whnf
       refine Side.mk rfl ?_
       conv=>whnf
       refine Both.yes (tt_beq b97) ?_
       conv=>whnf
       obtain ⟨c98, hc98, h⟩ := bind_some h
       refine ⟨_, (sp_L24_kept t_ c65.1 c98 (fun _ _ => hc98)), ?_⟩
       conv=>whnf
       refine Both.yes (tt_beq b97) ?_
       conv=>whnf
       refine Both.yes b97 ?_
       conv=>whnf
       refine Both.mk ?_ ?_<;>intro b99
       ·replace b99 := beq_ff b99
        replace h := cond_f b99 h
        conv=>whnf
        iterate 2 (refine Both.yes (ff_beq b99) ?_; (conv=>whnf))
        refine Both.mk ?_ ?_<;>intro b100
        ·replace b100 := beq_tt b100
         replace h := cond_t b100 h
         have b100d := odt b100
         conv=>whnf
         refine Both.yes (tt_beq b100) ?_
         conv=>whnf
         refine Side.mk rfl ?_
         conv=>whnf
         refine Both.yes (tt_beq b100) ?_
         conv=>whnf
         obtain ⟨c101, hc101, h⟩ := bind_some h
         refine ⟨_, (sp_L24_kept t_ c67.1 c101 (fun _ _ => hc101)), ?_⟩
         conv=>whnf
         refine Both.yes (tt_beq b100) ?_
         conv=>whnf
         refine Both.yes (ff_beq b99) ?_
         conv=>whnf
         refine Both.yes b100 ?_
         conv=>whnf
         refine Both.no b99 ?_
         conv=>whnf
         cases h
         exact Join.mk (Ent.mk [] rfl ⟨eI rfl rfl, trivial⟩ trivial trivial)
        ·replace b100 := beq_tf b100
         replace h := cond_f b100 h
         have b100d := odf b100
         conv=>whnf
         iterate 3 (refine Both.no (ft_beq b100) ?_; (conv=>whnf))
         refine Both.yes (ff_beq b99) ?_
         conv=>whnf
         refine Both.no b100 ?_
         conv=>whnf
         refine Both.no b99 ?_
         conv=>whnf
         cases h
         exact Join.mk (Ent.mk [] rfl ⟨eI rfl rfl, trivial⟩ trivial trivial)
       ·replace b99 := beq_ft b99
        replace h := cond_t b99 h
        conv=>whnf
        iterate 3 (refine Both.no (tf_beq b99) ?_; (conv=>whnf))
        refine Both.yes b99 ?_
        conv=>whnf
        cases h
        exact Join.mk (Ent.mk [] rfl ⟨eI rfl rfl, trivial⟩ trivial trivial)
      ·replace b97 := beq_tf b97
       replace h := cond_f b97 h
       have b97d := odf b97
       conv=>whnf
       iterate 3 (refine Both.no (ft_beq b97) ?_; (conv=>whnf))
       refine Both.no b97 ?_
       conv=>whnf
       iterate 3 (refine Both.yes rfl ?_; (conv=>whnf))
       refine Both.mk ?_ ?_<;>intro b102
       ·replace b102 := beq_tt b102
        replace h := cond_t b102 h
        have b102d := odt b102
        conv=>whnf
        refine Both.yes (tt_beq b102) ?_
        conv=>whnf
        refine Side.mk rfl ?_
        conv=>whnf
        refine Both.yes (tt_beq b102) ?_
        conv=>whnf
        obtain ⟨c103, hc103, h⟩ := bind_some h
        refine ⟨_, (sp_L24_kept t_ c67.1 c103 (fun _ _ => hc103)), ?_⟩
        conv=>whnf
        refine Both.yes (tt_beq b102) ?_
        conv=>whnf
        refine Both.yes rfl ?_
        conv=>whnf
        refine Both.yes b102 ?_
        conv=>whnf
        refine Both.no rfl ?_
        conv=>whnf
        cases h
        exact Join.mk (Ent.mk [] rfl ⟨eI rfl rfl, trivial⟩ trivial trivial)
       ·replace b102 := beq_tf b102
        replace h := cond_f b102 h
        have b102d := odf b102
        conv=>whnf
        iterate 3 (refine Both.no (ft_beq b102) ?_; (conv=>whnf))
        refine Both.yes rfl ?_
        conv=>whnf
        refine Both.no b102 ?_
        conv=>whnf
        refine Both.no rfl ?_
        conv=>whnf
        cases h
        exact Join.mk (Ent.mk [] rfl ⟨eI rfl rfl, trivial⟩ trivial trivial)
     ·replace h := hk88
      conv=>whnf
      refine Both.mk ?_ ?_<;>intro b104
      ·replace h := cond_t b104 h
       conv=>whnf
       cases h
       conv=>whnf
       exact ⟨rfl, rfl⟩
      ·replace h := cond_f b104 h
       conv=>whnf
       obtain ⟨c105, hc105, h⟩ := bind_some h
       refine ⟨_, (sp_L24_awake  c105 (hc105)), ?_⟩
       conv=>whnf
       cases h
       conv=>whnf
       exact ⟨rfl, rfl⟩
end Go.Proofs.YtpmebphhbgpapaaGreatDoor.Sym
