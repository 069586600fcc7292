/-
  The contracts of the functions, read from the code by a program (ext.py): each function has its plain twin as its contract.
-/
import Derived.Test.YtpmebphhbgpapaaGreatDoorM5
set_option linter.all false
namespace Go.Proofs.YtpmebphhbgpapaaGreatDoor.Sym
open Go.RowKit
set_option maxRecDepth 100000
set_option linter.unusedVariables false
set_option maxHeartbeats 4000000
theorem sp_R23_Check (t_ : T_api_Table) (o_ : T_api_Obs) (r : Int) (h : Ok (.agg (c_api_Table t_)) → Ok (.agg (c_api_Obs o_)) → R23_Check t_ o_ = some r) : Sp Tryz.prog 75 [.im (.agg (c_api_Table t_)), .im (.agg (c_api_Obs o_))] (.im (nI r)) := by
 refine sp_of rfl [700002, 700003] rfl rfl rfl (Nat.le_of_ble_eq_true rfl) rfl fun hk => ?_
 replace h := h hk.1 hk.2.1
 have z1 : lZ t_.Prefixes := ok_len (Ok.agg_at hk.1 1 rfl)
 have z2 : lZ t_.Suffixes := ok_len (Ok.agg_at hk.1 2 rfl)
 have z3 : lZ o_.Traces := ok_len (Ok.agg_at hk.2.1 1 rfl)
 unfold R23_Check at h
 conv=>whnf
 obtain ⟨c51, hc51, h⟩ := bind_some h
 refine ⟨_, (sp_R23_Valid t_ c51 (fun _ => hc51)), ?_⟩
 conv=>whnf
 refine Both.mk ?_ ?_<;>intro b52
 ·obtain ⟨h, b52d⟩ := ctd b52 h
  conv=>whnf
  cases h
  conv=>whnf
  exact ⟨rfl, rfl⟩
 ·obtain ⟨h, b52d⟩ := cfd b52 h
  conv=>whnf
  refine Both.mk ?_ ?_<;>intro b53
  ·obtain ⟨h, b53d⟩ := ctd b53 h
   conv=>whnf
   cases h
   conv=>whnf
   exact ⟨rfl, rfl⟩
  ·obtain ⟨h, b53d⟩ := cfd b53 h
   conv=>whnf
   cases h
   conv=>whnf
   exact ⟨rfl, rfl⟩
theorem sp_L23_Long (l_ : List (List Int)) (most_ : Int) (r : Bool) (h : Ok (nL (cL cI) l_) → Ok (nI most_) → L23_Long l_ most_ = some r) : Sp Tryz.prog 63 [.im (nL (cL cI) l_), .im (nI most_)] (.im (nB r)) := by
 refine sp_of rfl [] rfl rfl rfl (Nat.le_of_ble_eq_true rfl) rfl fun hk => ?_
 replace h := h hk.1 hk.2.1
 have z1 : lZ l_ := ok_len hk.1
 unfold L23_Long at h
 conv=>whnf
 refine Nf.mk (List.length l_) len_map ?_
 conv=>whnf
 refine Both.mk ?_ ?_<;>intro b51
 ·obtain ⟨h, b51d⟩ := ctd b51 h
  conv=>whnf
  cases h
  conv=>whnf
  exact ⟨rfl, rfl⟩
 ·obtain ⟨h, b51d⟩ := cfd b51 h
  conv=>whnf
  obtain ⟨oc, hc, hk52⟩ := bind_some h
  clear h
  have h := hc
  clear hc
  refine Cut.mkS oc (Y := Unit) (fun (_ : Unit) => mkSt [] [] []) (fun (_ : Unit) => True) (by rintro ⟨⟩; exact (hT)) ?_ ?_
  ·conv=>whnf
   refine Loops.iter (fun (s : Nat) => L23_Long.s2 l_ s) (fun i68 => mkSt [(0, .im (nL (cL cI) l_)), (5, .im (nI (↑i68 : Int)))] [] []) (fun i68 => lZ l_ ∧ True) h (eA []) (by rintro i68; exact ((Holds.avl 0 rfl).and (hT))) ?_
   clear h
   rintro k i68 o hp h ho72
   replace h : L23_Long.s2 l_ i68 = some o := h
   unfold L23_Long.s2 at h
   obtain ⟨z76, _⟩ := hp
   conv=>whnf
   refine Nf.mk (List.length l_) len_map ?_
   conv=>whnf
   refine Both.mk ?_ ?_<;>intro b73
   ·obtain ⟨h, b73d⟩ := ctd b73 h
    conv=>whnf
    obtain ⟨e74, he74, h⟩ := idxn_some h
    refine ⟨_, ⟨(by omega), map_at he74, rfl⟩, ?_⟩
    conv=>whnf
    refine Nf.mk (List.length e74) len_map ?_
    conv=>whnf
    refine Both.mk ?_ ?_<;>intro b75
    ·obtain ⟨h, b75d⟩ := ctd b75 h
     conv=>whnf
     cases h
     have ho72 : _ = _ := ho72
     cases ho72
     replace h : some _ = some _ := hk52
     cases h
     conv=>whnf
     exact ⟨rfl, rfl⟩
    ·obtain ⟨h, b75d⟩ := cfd b75 h
     conv=>whnf
     refine Side.mk (by show inR _; unfold inR; omega) ?_
     conv=>whnf
     cases h
     exact Nxt.mk _ ho72 (eA [])
   ·obtain ⟨h, b73d⟩ := cfd b73 h
    conv=>whnf
    cases h
    have ho72 : _ = _ := ho72
    cases ho72
    exact JoinS.mk' _ rfl (eA [])
  ·rintro ⟨⟩ rfl hp
   replace h := sum_inl hk52
   conv=>whnf
   cases h
   conv=>whnf
   exact ⟨rfl, rfl⟩
theorem sp_L23_Great (t_ : T_api_Table) (o_ : T_api_Obs) (r : Bool) (h : Ok (.agg (c_api_Table t_)) → Ok (.agg (c_api_Obs o_)) → L23_Great t_ o_ = some r) : Sp Tryz.prog 20 [.im (.agg (c_api_Table t_)), .im (.agg (c_api_Obs o_))] (.im (nB r)) := by
 refine sp_of rfl [700002, 700003] rfl rfl rfl (Nat.le_of_ble_eq_true rfl) rfl fun hk => ?_
 replace h := h hk.1 hk.2.1
 have z1 : lZ t_.Prefixes := ok_len (Ok.agg_at hk.1 1 rfl)
 have z2 : lZ t_.Suffixes := ok_len (Ok.agg_at hk.1 2 rfl)
 have z3 : lZ o_.Traces := ok_len (Ok.agg_at hk.2.1 1 rfl)
 unfold L23_Great at h
 conv=>whnf
 obtain ⟨y58, hc, hk52⟩ := bind_some h
 clear h
 have h := hc
 clear hc
 refine Cut.mk (mkSt [(3, .im (.ref (c_api_Obs o_))), (24, .im (nB y58))] [] []) (True) (hT) ?_ (fun hp => ?_)
 ·conv=>whnf
  refine Both.mk ?_ ?_<;>intro b59
  ·replace b59 := beq_ff b59
   obtain ⟨h, b59d⟩ := cfd b59 h
   conv=>whnf
   iterate 2 (refine Both.yes (ff_beq b59) ?_; (conv=>whnf))
   obtain ⟨c60, hc60, h⟩ := bind_some h
   refine ⟨_, (sp_L23_Long t_.Prefixes 30 c60 (fun _ _ => hc60)), ?_⟩
   conv=>whnf
   refine Both.no b59 ?_
   conv=>whnf
   refine Both.mk ?_ ?_<;>intro b61
   ·replace b61 := beq_ff b61
    replace h := cond_f b61 h
    conv=>whnf
    iterate 2 (refine Both.yes (ff_beq b61) ?_; (conv=>whnf))
    obtain ⟨c62, hc62, h⟩ := bind_some h
    refine ⟨_, (sp_L23_Long t_.Suffixes 12 c62 (fun _ _ => hc62)), ?_⟩
    conv=>whnf
    refine Both.no b61 ?_
    conv=>whnf
    refine Both.mk ?_ ?_<;>intro b63
    ·replace b63 := beq_ff b63
     replace h := cond_f b63 h
     conv=>whnf
     iterate 2 (refine Both.yes (ff_beq b63) ?_; (conv=>whnf))
     refine Nf.mk (List.length o_.Traces) len_map ?_
     conv=>whnf
     refine Both.yes (ff_beq b63) ?_
     conv=>whnf
     refine Both.no b63 ?_
     conv=>whnf
     cases h
     exact Join.mk (eA [])
    ·replace b63 := beq_ft b63
     replace h := cond_t b63 h
     conv=>whnf
     iterate 3 (refine Both.no (tf_beq b63) ?_; (conv=>whnf))
     refine Both.yes b63 ?_
     conv=>whnf
     cases h
     exact Join.mk (eA [])
   ·replace b61 := beq_ft b61
    replace h := cond_t b61 h
    conv=>whnf
    iterate 2 (refine Both.no (tf_beq b61) ?_; (conv=>whnf))
    refine Both.yes b61 ?_
    conv=>whnf
    iterate 4 (refine Both.no rfl ?_; (conv=>whnf))
    refine Both.yes rfl ?_
    conv=>whnf
    cases h
    exact Join.mk (eA [])
  ·replace b59 := beq_ft b59
   obtain ⟨h, b59d⟩ := ctd b59 h
   conv=>whnf
   iterate 2 (refine Both.no (tf_beq b59) ?_; (conv=>whnf))
   refine Both.yes b59 ?_
   conv=>whnf
   iterate 3 (refine Both.no rfl ?_; (conv=>whnf))
   refine Both.yes rfl ?_
   conv=>whnf
   iterate 4 (refine Both.no rfl ?_; (conv=>whnf))
   refine Both.yes rfl ?_
   conv=>whnf
   cases h
   exact Join.mk (eA [])
 ·replace h := hk52
  conv=>whnf
  refine Both.mk ?_ ?_<;>intro b64
  ·replace h := cond_t b64 h
   conv=>whnf
   cases h
   conv=>whnf
   exact ⟨rfl, rfl⟩
  ·replace h := cond_f b64 h
   conv=>whnf
   obtain ⟨oc, hc, hk65⟩ := bind_some h
   clear h
   have h := hc
   clear hc
   refine Cut.mkS oc (Y := Unit) (fun (_ : Unit) => mkSt [] [] []) (fun (_ : Unit) => True) (by rintro ⟨⟩; exact (hT)) ?_ ?_
   ·conv=>whnf
    refine Loops.iter (fun (s : Nat) => L23_Great.s2 o_ s) (fun i80 => mkSt [(3, .im (.ref (c_api_Obs o_))), (5, .im (nI (↑i80 : Int)))] [] []) (fun i80 => True) h (eA []) (by rintro i80; exact (hT)) ?_
    clear h
    rintro k i80 o hp h ho84
    replace h : L23_Great.s2 o_ i80 = some o := h
    unfold L23_Great.s2 at h
    conv=>whnf
    refine Nf.mk (List.length o_.Traces) len_map ?_
    conv=>whnf
    refine Both.mk ?_ ?_<;>intro b85
    ·obtain ⟨h, b85d⟩ := ctd b85 h
     conv=>whnf
     obtain ⟨e86, he86, h⟩ := idxn_some h
     refine ⟨_, ⟨(by omega), map_at he86, rfl⟩, ?_⟩
     conv=>whnf
     refine Nf.mk (List.length e86.In) len_map ?_
     conv=>whnf
     refine Both.mk ?_ ?_<;>intro b87
     ·obtain ⟨h, b87d⟩ := ctd b87 h
      conv=>whnf
      cases h
      have ho84 : _ = _ := ho84
      cases ho84
      replace h : some _ = some _ := hk65
      cases h
      conv=>whnf
      exact ⟨rfl, rfl⟩
     ·obtain ⟨h, b87d⟩ := cfd b87 h
      conv=>whnf
      refine Side.mk (by show inR _; unfold inR; omega) ?_
      conv=>whnf
      cases h
      exact Nxt.mk _ ho84 (eA [])
    ·obtain ⟨h, b85d⟩ := cfd b85 h
     conv=>whnf
     cases h
     have ho84 : _ = _ := ho84
     cases ho84
     exact JoinS.mk' _ rfl (eA [])
   ·rintro ⟨⟩ rfl hp
    replace h := sum_inl hk65
    conv=>whnf
    cases h
    conv=>whnf
    exact ⟨rfl, rfl⟩
theorem sp_R16_Proper (t_ : T_api_Trace) (inputs_ : Int) (r : Int) (h : Ok (.agg (c_api_Trace t_)) → Ok (nI inputs_) → R16_Proper t_ inputs_ = some r) : Sp Tryz.prog 65 [.im (.agg (c_api_Trace t_)), .im (nI inputs_)] (.im (nI r)) := by
 refine sp_of rfl [700002] rfl rfl rfl (Nat.le_of_ble_eq_true rfl) rfl fun hk => ?_
 replace h := h hk.1 hk.2.1
 have z1 : lZ t_.In := ok_len (Ok.agg_at hk.1 0 rfl)
 have z2 : lZ t_.Out := ok_len (Ok.agg_at hk.1 1 rfl)
 unfold R16_Proper at h
 conv=>whnf
 obtain ⟨c51, hc51, h⟩ := bind_some h
 refine ⟨_, (sp_R01_Check t_.In inputs_ c51 (fun _ _ => hc51)), ?_⟩
 conv=>whnf
 refine Both.mk ?_ ?_<;>intro b52
 ·obtain ⟨h, b52d⟩ := ctd b52 h
  conv=>whnf
  cases h
  conv=>whnf
  exact ⟨rfl, rfl⟩
 ·obtain ⟨h, b52d⟩ := cfd b52 h
  conv=>whnf
  refine Nf.mk (List.length t_.Out) len_map ?_
  conv=>whnf
  refine Nf.mk (List.length t_.In) len_map ?_
  conv=>whnf
  refine Both.mk ?_ ?_<;>intro b53
  ·obtain ⟨h, b53d⟩ := ctd b53 h
   conv=>whnf
   cases h
   conv=>whnf
   exact ⟨rfl, rfl⟩
  ·obtain ⟨h, b53d⟩ := cfd b53 h
   conv=>whnf
   obtain ⟨oc, hc, hk54⟩ := bind_some h
   clear h
   have h := hc
   clear hc
   refine Cut.mkS oc (Y := Unit) (fun (_ : Unit) => mkSt [] [] []) (fun (_ : Unit) => True) (by rintro ⟨⟩; exact (hT)) ?_ ?_
   ·conv=>whnf
    refine Loops.iter (fun (s : Nat) => R16_Proper.s2 t_ s) (fun i101 => mkSt [(2, .im (.ref (c_api_Trace t_))), (6, .im (nI (↑i101 : Int)))] [] []) (fun i101 => True) h (eA []) (by rintro i101; exact (hT)) ?_
    clear h
    rintro k i101 o hp h ho113
    replace h : R16_Proper.s2 t_ i101 = some o := h
    unfold R16_Proper.s2 at h
    conv=>whnf
    refine Nf.mk (List.length t_.Out) len_map ?_
    conv=>whnf
    refine Both.mk ?_ ?_<;>intro b114
    ·obtain ⟨h, b114d⟩ := ctd b114 h
     conv=>whnf
     obtain ⟨y120, hc, hk116⟩ := bind_some h
     clear h
     have h := hc
     clear hc
     refine Cut.mk (mkSt [(2, .im (.ref (c_api_Trace t_))), (6, .im (nI (↑i101 : Int))), (41, .im (nB y120))] [] []) (True) (hT) ?_ (fun hp => ?_)
     ·conv=>whnf
      obtain ⟨e121, he121, h⟩ := idxn_some h
      refine ⟨_, ⟨(by omega), map_at he121, rfl⟩, ?_⟩
      conv=>whnf
      refine Both.mk ?_ ?_<;>intro b122
      ·replace b122 := beq_ff b122
       obtain ⟨h, b122d⟩ := cfd b122 h
       conv=>whnf
       iterate 3 (refine Both.yes (ff_beq b122) ?_; (conv=>whnf))
       obtain ⟨e123, he123, h⟩ := idxn_some h
       refine ⟨_, ⟨(by omega), map_at he123, rfl⟩, ?_⟩
       conv=>whnf
       iterate 2 (refine Both.yes (ff_beq b122) ?_; (conv=>whnf))
       refine Both.no b122 ?_
       conv=>whnf
       cases h
       exact Join.mk (eA [])
      ·replace b122 := beq_ft b122
       obtain ⟨h, b122d⟩ := ctd b122 h
       conv=>whnf
       iterate 5 (refine Both.no (tf_beq b122) ?_; (conv=>whnf))
       refine Both.yes b122 ?_
       conv=>whnf
       cases h
       exact Join.mk (eA [])
     ·replace h := hk116
      conv=>whnf
      refine Both.mk ?_ ?_<;>intro b124
      ·replace h := cond_t b124 h
       conv=>whnf
       cases h
       have ho113 : _ = _ := ho113
       cases ho113
       replace h : some _ = some _ := hk54
       cases h
       conv=>whnf
       exact ⟨rfl, rfl⟩
      ·replace h := cond_f b124 h
       conv=>whnf
       refine Side.mk (by show inR _; unfold inR; omega) ?_
       conv=>whnf
       cases h
       exact Nxt.mk _ ho113 (eA [])
    ·obtain ⟨h, b114d⟩ := cfd b114 h
     conv=>whnf
     cases h
     have ho113 : _ = _ := ho113
     cases ho113
     exact JoinS.mk' _ rfl (eA [])
   ·rintro ⟨⟩ rfl hp
    replace h := sum_inl hk54
    conv=>whnf
    cases h
    conv=>whnf
    exact ⟨rfl, rfl⟩
theorem sp_R16_Differ (a_ : T_api_Trace) (b_ : T_api_Trace) (r : Int) (h : Ok (.agg (c_api_Trace a_)) → Ok (.agg (c_api_Trace b_)) → R16_Differ a_ b_ = some r) : Sp Tryz.prog 115 [.im (.agg (c_api_Trace a_)), .im (.agg (c_api_Trace b_))] (.im (nI r)) := by
 refine sp_of rfl [700002, 700003] rfl rfl rfl (Nat.le_of_ble_eq_true rfl) rfl fun hk => ?_
 replace h := h hk.1 hk.2.1
 have z1 : lZ a_.In := ok_len (Ok.agg_at hk.1 0 rfl)
 have z2 : lZ a_.Out := ok_len (Ok.agg_at hk.1 1 rfl)
 have z3 : lZ b_.In := ok_len (Ok.agg_at hk.2.1 0 rfl)
 have z4 : lZ b_.Out := ok_len (Ok.agg_at hk.2.1 1 rfl)
 unfold R16_Differ at h
 conv=>whnf
 obtain ⟨c51, hc51, h⟩ := bind_some h
 refine ⟨_, (sp_R01_Common a_.In b_.In c51 (fun _ _ => hc51)), ?_⟩
 conv=>whnf
 obtain ⟨oc, hc, hk52⟩ := bind_some h
 clear h
 have h := hc
 clear hc
 refine Cut.mkS oc (Y := Unit) (fun (_ : Unit) => mkSt [] [] []) (fun (_ : Unit) => True) (by rintro ⟨⟩; exact (hT)) ?_ ?_
 ·conv=>whnf
  refine Loops.iter (fun (s : Nat) => R16_Differ.s2 a_ b_ c51 s) (fun i73 => mkSt [(2, .im (.ref (c_api_Trace a_))), (3, .im (.ref (c_api_Trace b_))), (5, .im (nI c51)), (6, .im (nI (↑i73 : Int)))] [] []) (fun i73 => True) h (eA []) (by rintro i73; exact (hT)) ?_
  clear h
  rintro k i73 o hp h ho79
  replace h : R16_Differ.s2 a_ b_ c51 i73 = some o := h
  unfold R16_Differ.s2 at h
  conv=>whnf
  refine Both.mk ?_ ?_<;>intro b80
  ·obtain ⟨h, b80d⟩ := ctd b80 h
   conv=>whnf
   obtain ⟨e81, he81, h⟩ := idxn_some h
   refine ⟨_, ⟨(by omega), map_at he81, rfl⟩, ?_⟩
   conv=>whnf
   obtain ⟨e82, he82, h⟩ := idxn_some h
   refine ⟨_, ⟨(by omega), map_at he82, rfl⟩, ?_⟩
   conv=>whnf
   refine Both.mk ?_ ?_<;>intro b83
   ·obtain ⟨h, b83d⟩ := ctd b83 h
    conv=>whnf
    cases h
    have ho79 : _ = _ := ho79
    cases ho79
    replace h : some _ = some _ := hk52
    cases h
    conv=>whnf
    exact ⟨rfl, rfl⟩
   ·obtain ⟨h, b83d⟩ := cfd b83 h
    conv=>whnf
    obtain ⟨c84, h⟩ := chk_some h
    refine Side.mk c84 ?_
    conv=>whnf
    cases h
    exact Nxt.mk _ ho79 (eA [])
  ·obtain ⟨h, b80d⟩ := cfd b80 h
   conv=>whnf
   cases h
   have ho79 : _ = _ := ho79
   cases ho79
   exact JoinS.mk' _ rfl (eA [])
 ·rintro ⟨⟩ rfl hp
  replace h := sum_inl hk52
  conv=>whnf
  cases h
  conv=>whnf
  exact ⟨rfl, rfl⟩
theorem sp_R16_apart (o_ : T_api_Obs) (r : Int) (h : Ok (.agg (c_api_Obs o_)) → R16_apart o_ = some r) : Sp Tryz.prog 67 [.im (.agg (c_api_Obs o_))] (.im (nI r)) := by
 refine sp_of rfl [700001] rfl rfl rfl (Nat.le_of_ble_eq_true rfl) rfl fun hk => ?_
 replace h := h hk.1
 have z1 : lZ o_.Traces := ok_len (Ok.agg_at hk.1 1 rfl)
 unfold R16_apart at h
 conv=>whnf
 obtain ⟨oc, hc, hk51⟩ := bind_some h
 clear h
 have h := hc
 clear hc
 refine Cut.mkS oc (Y := Unit) (fun (_ : Unit) => mkSt [] [] []) (fun (_ : Unit) => True) (by rintro ⟨⟩; exact (hT)) ?_ ?_
 ·conv=>whnf
  refine Loops.iter (fun (s : Nat) => R16_apart.s32 o_ s) (fun i518 => mkSt [(1, .im (.ref (c_api_Obs o_))), (3, .im (nI (↑i518 : Int)))] [] []) (fun i518 => True) h (eA []) (by rintro i518; exact (hT)) ?_
  clear h
  rintro k i518 o hp h ho635
  replace h : R16_apart.s32 o_ i518 = some o := h
  unfold R16_apart.s32 at h
  conv=>whnf
  refine Nf.mk (List.length o_.Traces) len_map ?_
  conv=>whnf
  refine Both.mk ?_ ?_<;>intro b636
  ·obtain ⟨h, b636d⟩ := ctd b636 h
   conv=>whnf
   refine Side.mk (by show inR _; unfold inR; omega) ?_
   conv=>whnf
   obtain ⟨⟨prefix693, clash694⟩, hc, hk637⟩ := bind_some h
   clear h
   have h := hc
   clear hc
   refine Cut.mk (mkSt [(1, .im (.ref (c_api_Obs o_))), (3, .im (nI (↑i518 : Int))), (4, .im (nB prefix693)), (5, .im (nB clash694))] [] []) (True) (hT) ?_ (fun hp => ?_)
   ·conv=>whnf
    refine Loops.iter (fun (s : Bool × Bool × Nat) => R16_apart.s30 o_ i518 s.1 s.2.1 s.2.2) (fun (prefix714, clash715, k716) => mkSt [(1, .im (.ref (c_api_Obs o_))), (3, .im (nI (↑i518 : Int))), (4, .im (nB prefix714)), (5, .im (nB clash715)), (6, .im (nI (↑k716 : Int)))] [] []) (fun (prefix714, clash715, k716) => True) h (eA []) (by rintro ⟨prefix714, clash715, k716⟩; exact (hT)) ?_
    clear h
    rintro k ⟨prefix714, clash715, k716⟩ o hp h ho733
    replace h : R16_apart.s30 o_ i518 prefix714 clash715 k716 = some o := h
    unfold R16_apart.s30 at h
    conv=>whnf
    refine Nf.mk (List.length o_.Traces) len_map ?_
    conv=>whnf
    refine Both.mk ?_ ?_<;>intro b734
    ·obtain ⟨h, b734d⟩ := ctd b734 h
     conv=>whnf
     obtain ⟨prefix741, hc, hk736⟩ := bind_some h
     clear h
     have h := hc
     clear hc
     refine Cut.mk (mkSt [(1, .im (.ref (c_api_Obs o_))), (3, .im (nI (↑i518 : Int))), (4, .im (nB prefix741)), (5, .im (nB clash715)), (6, .im (nI (↑k716 : Int)))] [] []) (True) (hT) ?_ (fun hp => ?_)
     ·conv=>whnf
      refine Both.mk ?_ ?_<;>intro b742
      ·replace b742 := beq_ff b742
       replace h := cond_f b742 h
       conv=>whnf
       iterate 3 (refine Both.yes (ff_beq b742) ?_; (conv=>whnf))
       obtain ⟨e743, he743, h⟩ := idxn_some h
       refine ⟨_, ⟨(by omega), map_at he743, rfl⟩, ?_⟩
       conv=>whnf
       iterate 6 (refine Both.yes (ff_beq b742) ?_; (conv=>whnf))
       obtain ⟨e744, he744, h⟩ := idxn_some h
       refine ⟨_, ⟨(by omega), map_at he744, rfl⟩, ?_⟩
       conv=>whnf
       iterate 3 (refine Both.yes (ff_beq b742) ?_; (conv=>whnf))
       obtain ⟨c745, hc745, h⟩ := bind_some h
       refine ⟨_, (sp_R01_HasPrefix e743.In e744.In c745 (fun _ _ => hc745)), ?_⟩
       conv=>whnf
       refine Both.no b742 ?_
       conv=>whnf
       cases h
       exact Join.mk (eA [])
      ·replace b742 := beq_ft b742
       replace h := cond_t b742 h
       conv=>whnf
       iterate 12 (refine Both.no (tf_beq b742) ?_; (conv=>whnf))
       refine Both.yes b742 ?_
       conv=>whnf
       cases h
       exact Join.mk (eA [])
     ·replace h := hk736
      conv=>whnf
      refine Both.mk ?_ ?_<;>intro b746
      ·replace b746 := beq_ff b746
       replace h := cond_f b746 h
       conv=>whnf
       iterate 3 (refine Both.yes (ff_beq b746) ?_; (conv=>whnf))
       obtain ⟨e747, he747, h⟩ := idxn_some h
       refine ⟨_, ⟨(by omega), map_at he747, rfl⟩, ?_⟩
       conv=>whnf
       iterate 5 (refine Both.yes (ff_beq b746) ?_; (conv=>whnf))
       obtain ⟨e748, he748, h⟩ := idxn_some h
       refine ⟨_, ⟨(by omega), map_at he748, rfl⟩, ?_⟩
       conv=>whnf
       iterate 2 (refine Both.yes (ff_beq b746) ?_; (conv=>whnf))
       obtain ⟨c749, hc749, h⟩ := bind_some h
       refine ⟨_, (sp_R16_Differ e747 e748 c749 (fun _ _ => hc749)), ?_⟩
       conv=>whnf
       refine Both.yes (ff_beq b746) ?_
       conv=>whnf
       refine Both.no b746 ?_
       conv=>whnf
       refine Side.mk (by show inR _; unfold inR; omega) ?_
       conv=>whnf
       cases h
       exact Nxt.mk _ ho733 (eA [])
      ·replace b746 := beq_ft b746
       replace h := cond_t b746 h
       conv=>whnf
       iterate 11 (refine Both.no (tf_beq b746) ?_; (conv=>whnf))
       refine Both.yes b746 ?_
       conv=>whnf
       refine Side.mk (by show inR _; unfold inR; omega) ?_
       conv=>whnf
       cases h
       exact Nxt.mk _ ho733 (eA [])
    ·obtain ⟨h, b734d⟩ := cfd b734 h
     conv=>whnf
     cases h
     have ho733 : _ = _ := ho733
     cases ho733
     exact Join.mk (eA [])
   ·replace h : R16_apart.k31 i518 prefix693 clash694 = some _ := hk637
    unfold R16_apart.k31 at h
    conv=>whnf
    refine Both.mk ?_ ?_<;>intro b750
    ·replace h := cond_t b750 h
     conv=>whnf
     cases h
     have ho635 : _ = _ := ho635
     cases ho635
     replace h : some _ = some _ := hk51
     cases h
     conv=>whnf
     exact ⟨rfl, rfl⟩
    ·replace h := cond_f b750 h
     conv=>whnf
     refine Both.mk ?_ ?_<;>intro b751
     ·replace h := cond_t b751 h
      conv=>whnf
      cases h
      have ho635 : _ = _ := ho635
      cases ho635
      replace h : some _ = some _ := hk51
      cases h
      conv=>whnf
      exact ⟨rfl, rfl⟩
     ·replace h := cond_f b751 h
      conv=>whnf
      refine Side.mk (by show inR _; unfold inR; omega) ?_
      conv=>whnf
      cases h
      exact Nxt.mk _ ho635 (eA [])
  ·obtain ⟨h, b636d⟩ := cfd b636 h
   conv=>whnf
   cases h
   have ho635 : _ = _ := ho635
   cases ho635
   exact JoinS.mk' _ rfl (eA [])
 ·rintro ⟨⟩ rfl hp
  replace h := sum_inl hk51
  conv=>whnf
  cases h
  conv=>whnf
  exact ⟨rfl, rfl⟩
theorem sp_R16_Valid (o_ : T_api_Obs) (r : Int) (h : Ok (.agg (c_api_Obs o_)) → R16_Valid o_ = some r) : Sp Tryz.prog 21 [.im (.agg (c_api_Obs o_))] (.im (nI r)) := by
 refine sp_of rfl [700001] rfl rfl rfl (Nat.le_of_ble_eq_true rfl) rfl fun hk => ?_
 replace h := h hk.1
 have z1 : lZ o_.Traces := ok_len (Ok.agg_at hk.1 1 rfl)
 unfold R16_Valid at h
 conv=>whnf
 obtain ⟨y54, hc, hk52⟩ := bind_some h
 clear h
 have h := hc
 clear hc
 refine Cut.mk (mkSt [(1, .im (.ref (c_api_Obs o_))), (14, .im (nB y54))] [] []) (True) (hT) ?_ (fun hp => ?_)
 ·conv=>whnf
  refine Both.mk ?_ ?_<;>intro b55
  ·replace b55 := beq_ff b55
   obtain ⟨h, b55d⟩ := cfd b55 h
   conv=>whnf
   iterate 2 (refine Both.yes (ff_beq b55) ?_; (conv=>whnf))
   refine Both.no b55 ?_
   conv=>whnf
   cases h
   exact Join.mk (eA [])
  ·replace b55 := beq_ft b55
   obtain ⟨h, b55d⟩ := ctd b55 h
   conv=>whnf
   iterate 2 (refine Both.no (tf_beq b55) ?_; (conv=>whnf))
   refine Both.yes b55 ?_
   conv=>whnf
   cases h
   exact Join.mk (eA [])
 ·replace h := hk52
  conv=>whnf
  refine Both.mk ?_ ?_<;>intro b56
  ·replace h := cond_t b56 h
   conv=>whnf
   cases h
   conv=>whnf
   exact ⟨rfl, rfl⟩
  ·replace h := cond_f b56 h
   conv=>whnf
   refine Nf.mk (List.length o_.Traces) len_map ?_
   conv=>whnf
   refine Both.mk ?_ ?_<;>intro b57
   ·obtain ⟨h, b57d⟩ := ctd b57 h
    conv=>whnf
    cases h
    conv=>whnf
    exact ⟨rfl, rfl⟩
   ·obtain ⟨h, b57d⟩ := cfd b57 h
    conv=>whnf
    obtain ⟨oc, hc, hk58⟩ := bind_some h
    clear h
    have h := hc
    clear hc
    refine Cut.mkS oc (Y := Unit) (fun (_ : Unit) => mkSt [(1, .im (.ref (c_api_Obs o_)))] [] []) (fun (_ : Unit) => True) (by rintro ⟨⟩; exact (hT)) ?_ ?_
    ·conv=>whnf
     refine Loops.iter (fun (s : Nat) => R16_Valid.s2 o_ s) (fun i129 => mkSt [(1, .im (.ref (c_api_Obs o_))), (3, .im (nI (↑i129 : Int)))] [] []) (fun i129 => True) h (eA []) (by rintro i129; exact (hT)) ?_
     clear h
     rintro k i129 o hp h ho147
     replace h : R16_Valid.s2 o_ i129 = some o := h
     unfold R16_Valid.s2 at h
     conv=>whnf
     refine Nf.mk (List.length o_.Traces) len_map ?_
     conv=>whnf
     refine Both.mk ?_ ?_<;>intro b148
     ·obtain ⟨h, b148d⟩ := ctd b148 h
      conv=>whnf
      obtain ⟨e149, he149, h⟩ := idxn_some h
      refine ⟨_, ⟨(by omega), map_at he149, rfl⟩, ?_⟩
      conv=>whnf
      refine Side.mk rfl ?_
      conv=>whnf
      refine Side.mk rfl ?_
      conv=>whnf
      refine Side.mk rfl ?_
      conv=>whnf
      obtain ⟨c150, hc150, h⟩ := bind_some h
      refine ⟨_, (sp_R01_Check e149.In o_.Inputs c150 (fun _ _ => hc150)), ?_⟩
      conv=>whnf
      refine Both.mk ?_ ?_<;>intro b151
      ·obtain ⟨h, b151d⟩ := ctd b151 h
       conv=>whnf
       cases h
       have ho147 : _ = _ := ho147
       cases ho147
       replace h : some _ = some _ := hk58
       cases h
       conv=>whnf
       exact ⟨rfl, rfl⟩
      ·obtain ⟨h, b151d⟩ := cfd b151 h
       conv=>whnf
       refine Side.mk rfl ?_
       conv=>whnf
       refine Side.mk rfl ?_
       conv=>whnf
       refine Nf.mk (List.length e149.In) len_map ?_
       conv=>whnf
       refine Both.mk ?_ ?_<;>intro b152
       ·obtain ⟨h, b152d⟩ := ctd b152 h
        conv=>whnf
        cases h
        have ho147 : _ = _ := ho147
        cases ho147
        replace h : some _ = some _ := hk58
        cases h
        conv=>whnf
        exact ⟨rfl, rfl⟩
       ·obtain ⟨h, b152d⟩ := cfd b152 h
        conv=>whnf
        refine Side.mk rfl ?_
        conv=>whnf
        obtain ⟨c153, hc153, h⟩ := bind_some h
        refine ⟨_, (sp_R16_Proper e149 o_.Inputs c153 (fun _ _ => hc153)), ?_⟩
        conv=>whnf
        refine Both.mk ?_ ?_<;>intro b154
        ·obtain ⟨h, b154d⟩ := ctd b154 h
         conv=>whnf
         cases h
         have ho147 : _ = _ := ho147
         cases ho147
         replace h : some _ = some _ := hk58
         cases h
         conv=>whnf
         exact ⟨rfl, rfl⟩
        ·obtain ⟨h, b154d⟩ := cfd b154 h
         conv=>whnf
         obtain ⟨y160, hc, hk156⟩ := bind_some h
         clear h
         have h := hc
         clear hc
         refine Cut.mk (mkSt [(1, .im (.ref (c_api_Obs o_))), (3, .im (nI (↑i129 : Int))), (64, .im (nB y160))] [] []) (True) (hT) ?_ (fun hp => ?_)
         ·conv=>whnf
          refine Both.mk ?_ ?_<;>intro b161
          ·replace b161 := beq_tt b161
           obtain ⟨h, b161d⟩ := ctd b161 h
           conv=>whnf
           iterate 3 (refine Both.yes (tt_beq b161) ?_; (conv=>whnf))
           refine Side.mk (by show inR _; unfold inR; omega) ?_
           conv=>whnf
           refine Both.yes (tt_beq b161) ?_
           conv=>whnf
           obtain ⟨e162, he162z, he162, h⟩ := idx_some h
           refine ⟨_, ⟨he162z, map_at he162, rfl⟩, ?_⟩
           conv=>whnf
           iterate 3 (refine Both.yes (tt_beq b161) ?_; (conv=>whnf))
           refine Side.mk rfl ?_
           conv=>whnf
           refine Both.yes (tt_beq b161) ?_
           conv=>whnf
           refine Side.mk rfl ?_
           conv=>whnf
           refine Both.yes (tt_beq b161) ?_
           conv=>whnf
           obtain ⟨c163, hc163, h⟩ := bind_some h
           refine ⟨_, (sp_R01_Compare e162.In e149.In c163 (fun _ _ => hc163)), ?_⟩
           conv=>whnf
           refine Both.yes (tt_beq b161) ?_
           conv=>whnf
           refine Both.yes b161 ?_
           conv=>whnf
           cases h
           exact Join.mk (eA [])
          ·replace b161 := beq_tf b161
           obtain ⟨h, b161d⟩ := cfd b161 h
           conv=>whnf
           iterate 10 (refine Both.no (ft_beq b161) ?_; (conv=>whnf))
           refine Both.no b161 ?_
           conv=>whnf
           cases h
           exact Join.mk (eA [])
         ·replace h := hk156
          conv=>whnf
          refine Both.mk ?_ ?_<;>intro b164
          ·replace h := cond_t b164 h
           conv=>whnf
           cases h
           have ho147 : _ = _ := ho147
           cases ho147
           replace h : some _ = some _ := hk58
           cases h
           conv=>whnf
           exact ⟨rfl, rfl⟩
          ·replace h := cond_f b164 h
           conv=>whnf
           refine Side.mk (by show inR _; unfold inR; omega) ?_
           conv=>whnf
           cases h
           exact Nxt.mk _ ho147 (eA [])
     ·obtain ⟨h, b148d⟩ := cfd b148 h
      conv=>whnf
      cases h
      have ho147 : _ = _ := ho147
      cases ho147
      exact JoinS.mk' _ rfl (eA [])
    ·rintro ⟨⟩ rfl hp
     replace h := sum_inl hk58
     conv=>whnf
     obtain ⟨c165, hc165, h⟩ := bind_some h
     refine ⟨_, (sp_R16_apart o_ c165 (fun _ => hc165)), ?_⟩
     conv=>whnf
     cases h
     conv=>whnf
     exact ⟨rfl, rfl⟩
theorem sp_R02_place (l_ : List (List Int)) (w_ : List Int) (r : Int) (h : Ok (nL (cL cI) l_) → Ok (nL cI w_) → R02_place l_ w_ = some r) : Sp Tryz.prog 134 [.im (nL (cL cI) l_), .im (nL cI w_)] (.im (nI r)) := by
 refine sp_of rfl [] rfl rfl rfl (Nat.le_of_ble_eq_true rfl) rfl fun hk => ?_
 replace h := h hk.1 hk.2.1
 have z1 : lZ l_ := ok_len hk.1
 have z2 : lZ w_ := ok_len hk.2.1
 unfold R02_place at h
 conv=>whnf
 refine Nf.mk (List.length l_) len_map ?_
 conv=>whnf
 obtain ⟨low77, hc, hk51⟩ := bind_some h
 clear h
 have h := hc
 clear hc
 refine Cut.mk (mkSt [(5, .im (nI (↑low77 : Int)))] [] []) (True) (hT) ?_ (fun hp => ?_)
 ·conv=>whnf
  refine Loops.iter (fun (s : Nat × Nat) => R02_place.s2 l_ w_ s.1 s.2) (fun (low84, high85) => mkSt [(0, .im (nL (cL cI) l_)), (1, .im (nL cI w_)), (5, .im (nI (↑low84 : Int))), (6, .im (nI (↑high85 : Int)))] [] []) (fun (low84, high85) => lZ l_ ∧ lZ w_ ∧ True) h (eA []) (by rintro ⟨low84, high85⟩; exact ((Holds.avl 0 rfl).and ((Holds.avl 1 rfl).and (hT)))) ?_
  clear h
  rintro k ⟨low84, high85⟩ o hp h ho93
  replace h : R02_place.s2 l_ w_ low84 high85 = some o := h
  unfold R02_place.s2 at h
  obtain ⟨z101, z102, _⟩ := hp
  conv=>whnf
  refine Both.mk ?_ ?_<;>intro b94
  ·obtain ⟨h, b94d⟩ := ctd b94 h
   conv=>whnf
   obtain ⟨c95, h⟩ := chk_some h
   refine Side.mk c95 ?_
   conv=>whnf
   obtain ⟨c96, h⟩ := chk_some h
   refine Side.mk c96 ?_
   conv=>whnf
   obtain ⟨e97, he97, h⟩ := idxn_some h
   refine ⟨_, ⟨(by omega), map_at he97, rfl⟩, ?_⟩
   conv=>whnf
   obtain ⟨c98, hc98, h⟩ := bind_some h
   refine ⟨_, (sp_R01_Compare e97 w_ c98 (fun _ _ => hc98)), ?_⟩
   conv=>whnf
   refine Both.mk ?_ ?_<;>intro b99
   ·obtain ⟨h, b99d⟩ := ctd b99 h
    conv=>whnf
    obtain ⟨c100, h⟩ := chk_some h
    refine Side.mk c100 ?_
    conv=>whnf
    cases h
    exact Nxt.mk _ ho93 (eA [])
   ·obtain ⟨h, b99d⟩ := cfd b99 h
    conv=>whnf
    cases h
    exact Nxt.mk _ ho93 (eA [])
  ·obtain ⟨h, b94d⟩ := cfd b94 h
   conv=>whnf
   cases h
   have ho93 : _ = _ := ho93
   cases ho93
   exact Join.mk (eA [])
 ·replace h := hk51
  conv=>whnf
  cases h
  conv=>whnf
  exact ⟨rfl, rfl⟩
theorem sp_R02_with (l_ : List (List Int)) (w_ : List Int) (r : List (List Int)) (h : OkL (List.map (cL cI) l_) → Ok (nL cI w_) → R02_with l_ w_ = some r) : Sp Tryz.prog 99 [.row 38 1 (List.map (cL cI) l_), .im (nL cI w_)] (.row 38 1 (List.map (cL cI) r)) := by
 refine sp_of rfl [44, 500009] rfl rfl rfl (Nat.le_of_ble_eq_true rfl) rfl fun hk => ?_
 replace h := h hk.1 hk.2.1
 have z1 : lZ l_ := okl_len hk.1
 have z2 : lZ w_ := ok_len hk.2.1
 unfold R02_with at h
 conv=>whnf
 refine Side.mk ⟨rfl, trivial⟩ ?_
 conv=>whnf
 obtain ⟨c51, hc51, h⟩ := bind_some h
 refine ⟨_, (sp_R02_place l_ w_ c51 (fun _ _ => hc51)), ?_⟩
 conv=>whnf
 refine Side.mk flat_one ?_
 conv=>whnf
 obtain ⟨y57, hc, hk53⟩ := bind_some h
 clear h
 have h := hc
 clear hc
 refine Cut.mk (mkSt [(0, .osl 64 1), (1, .im (nL cI w_)), (5, .im (nI c51)), (21, .im (nB y57))] [(64, .row 38 1 (List.map (cL cI) l_))] []) (lZ w_ ∧ lZ l_ ∧ True) ((Holds.avl 1 rfl).and ((Holds.kdl 64 rfl).and (hT))) ?_ (fun hp => ?_)
 ·conv=>whnf
  refine Side.mk rfl ?_
  conv=>whnf
  refine Nf.mk (List.length l_) len_map ?_
  conv=>whnf
  refine Both.mk ?_ ?_<;>intro b58
  ·replace b58 := beq_tt b58
   obtain ⟨h, b58d⟩ := ctd b58 h
   conv=>whnf
   iterate 2 (refine Both.yes (tt_beq b58) ?_; (conv=>whnf))
   obtain ⟨e59, he59z, he59, h⟩ := idx_some h
   refine Side.mk ⟨he59z, rfl, map_lt he59⟩ ?_
   conv=>whnf
   refine Both.yes (tt_beq b58) ?_
   conv=>whnf
   refine ⟨_, _, ⟨rfl, map_at he59, rfl, rfl⟩, ?_⟩
   conv=>whnf
   iterate 2 (refine Both.yes (tt_beq b58) ?_; (conv=>whnf))
   obtain ⟨c60, hc60, h⟩ := bind_some h
   refine ⟨_, (sp_R01_Same e59 w_ c60 (fun _ _ => hc60)), ?_⟩
   conv=>whnf
   refine Both.yes b58 ?_
   conv=>whnf
   cases h
   exact Join.mk (eA [(64, some 0)])
  ·replace b58 := beq_tf b58
   obtain ⟨h, b58d⟩ := cfd b58 h
   conv=>whnf
   iterate 5 (refine Both.no (ft_beq b58) ?_; (conv=>whnf))
   refine Both.no b58 ?_
   conv=>whnf
   cases h
   exact Join.mk (eA [(64, some 0)])
 ·replace h := hk53
  obtain ⟨z61, z62, _⟩ := hp
  conv=>whnf
  refine Both.mk ?_ ?_<;>intro b63
  ·replace h := cond_t b63 h
   conv=>whnf
   cases h
   conv=>whnf
   exact Side.mk ⟨rfl, trivial⟩ ⟨rfl, rfl⟩
  ·replace h := cond_f b63 h
   conv=>whnf
   obtain ⟨c64, h⟩ := chk_some h
   refine Side.mk ⟨rfl, map_len (l := [[]]) (c := cL cI) fun _ => rfl, show capOk _ 24 by simpa only [List.length_map, List.length_cons, List.length_nil, Nat.zero_add] using c64⟩ ?_
   conv=>whnf
   refine Nf.mk (List.map (cL cI) (l_ ++ [[]])) (app_map (l := l_) (m := [[]]) (c := cL cI)) ?_
   conv=>whnf
   refine Side.mk rfl ?_
   conv=>whnf
   refine Nf.mk (List.length (l_ ++ [[]])) len_map ?_
   conv=>whnf
   obtain ⟨c65, h⟩ := chk_some h
   refine Side.mk c65 ?_
   conv=>whnf
   obtain ⟨y87, hc, hk66⟩ := bind_some h
   clear h
   have h := hc
   clear hc
   refine Cut.mk (mkSt [(0, .osl 64 1), (1, .im (nL cI w_)), (5, .im (nI c51))] [(64, .row 38 1 (List.map (cL cI) y87))] []) (lZ w_ ∧ lZ y87 ∧ True) ((Holds.avl 1 rfl).and ((Holds.kdl 64 rfl).and (hT))) ?_ (fun hp => ?_)
   ·conv=>whnf
    refine Loops.iter (fun (s : List (List Int) × Int) => R02_with.s2 c51 s.1 s.2) (fun (y93, i94) => mkSt [(0, .osl 64 1), (1, .im (nL cI w_)), (5, .im (nI c51)), (6, .im (nI i94))] [(64, .row 38 1 (List.map (cL cI) y93))] []) (fun (y93, i94) => lZ w_ ∧ lZ y93 ∧ True) h (eA [(64, some 64)]) (by rintro ⟨y93, i94⟩; exact ((Holds.avl 1 rfl).and ((Holds.kdl 64 rfl).and (hT)))) ?_
    clear h
    rintro k ⟨y93, i94⟩ o hp h ho100
    replace h : R02_with.s2 c51 y93 i94 = some o := h
    unfold R02_with.s2 at h
    obtain ⟨z106, z107, _⟩ := hp
    conv=>whnf
    refine Both.mk ?_ ?_<;>intro b101
    ·obtain ⟨h, b101d⟩ := ctd b101 h
     conv=>whnf
     obtain ⟨c102, h⟩ := chk_some h
     refine Side.mk c102 ?_
     conv=>whnf
     obtain ⟨e103, he103z, he103, h⟩ := idx_some h
     refine Side.mk ⟨he103z, rfl, map_lt he103⟩ ?_
     conv=>whnf
     refine ⟨_, _, ⟨rfl, map_at he103, rfl, rfl⟩, ?_⟩
     conv=>whnf
     obtain ⟨e104, he104z, he104, h⟩ := idx_some h
     refine Side.mk ⟨he104z, rfl, map_lt he104⟩ ?_
     conv=>whnf
     refine Side.mk ⟨rfl, trivial⟩ ?_
     conv=>whnf
     refine ⟨_, map_at he104, ?_⟩
     conv=>whnf
     refine Nf.mk (List.map (cL cI) (List.set y93 i94.toNat e103)) (set_map rfl) ?_
     conv=>whnf
     obtain ⟨c105, h⟩ := chk_some h
     refine Side.mk c105 ?_
     conv=>whnf
     cases h
     exact Nxt.mk _ ho100 (eA [(64, some 64)])
    ·obtain ⟨h, b101d⟩ := cfd b101 h
     conv=>whnf
     cases h
     have ho100 : _ = _ := ho100
     cases ho100
     exact Join.mk (eA [(64, some 64)])
   ·replace h := hk66
    obtain ⟨z108, z109, _⟩ := hp
    conv=>whnf
    obtain ⟨c110, h⟩ := chk_some h
    refine Side.mk ⟨rfl, map_len (l := w_) (c := cI) fun _ => rfl, show capOk _ 8 by simpa only [List.length_map, List.length_cons, List.length_nil, Nat.zero_add] using c110⟩ ?_
    conv=>whnf
    refine Nf.mk (List.map cI ([] ++ w_)) (app_map (l := []) (m := w_) (c := cI)) ?_
    conv=>whnf
    obtain ⟨e111, he111z, he111, h⟩ := idx_some h
    refine Side.mk ⟨he111z, rfl, map_lt he111⟩ ?_
    conv=>whnf
    refine Side.mk ⟨rfl, rfl, trivial⟩ ?_
    conv=>whnf
    refine ⟨_, map_at he111, ?_⟩
    conv=>whnf
    refine Nf.mk (List.map (cL cI) (List.set y87 c51.toNat ([] ++ w_))) (set_map rfl) ?_
    conv=>whnf
    cases h
    conv=>whnf
    exact Side.mk ⟨rfl, trivial⟩ ⟨rfl, rfl⟩
theorem sp_R02_Sorted (l_ : List (List Int)) (r : List (List Int)) (h : Ok (nL (cL cI) l_) → R02_Sorted l_ = some r) : Sp Tryz.prog 103 [.im (nL (cL cI) l_)] (.row 38 1 (List.map (cL cI) r)) := by
 refine sp_of rfl [17000] rfl rfl rfl (Nat.le_of_ble_eq_true rfl) rfl fun hk => ?_
 replace h := h hk.1
 have z1 : lZ l_ := ok_len hk.1
 unfold R02_Sorted at h
 conv=>whnf
 obtain ⟨y66, hc, hk51⟩ := bind_some h
 clear h
 have h := hc
 clear hc
 refine Cut.mk (mkSt [(3, .osl 64 1)] [(64, .row 38 1 (List.map (cL cI) y66))] []) (lZ y66 ∧ True) ((Holds.kdl 64 rfl).and (hT)) ?_ (fun hp => ?_)
 ·conv=>whnf
  refine Loops.iter (fun (s : List (List Int) × Nat) => R02_Sorted.s2 l_ s.1 s.2) (fun (y70, i71) => mkSt [(0, .im (nL (cL cI) l_)), (3, .osl 64 1), (4, .im (nI (↑i71 : Int)))] [(64, .row 38 1 (List.map (cL cI) y70))] []) (fun (y70, i71) => lZ l_ ∧ lZ y70 ∧ True) h (eA [(64, none)]) (by rintro ⟨y70, i71⟩; exact ((Holds.avl 0 rfl).and ((Holds.kdl 64 rfl).and (hT)))) ?_
  clear h
  rintro k ⟨y70, i71⟩ o hp h ho75
  replace h : R02_Sorted.s2 l_ y70 i71 = some o := h
  unfold R02_Sorted.s2 at h
  obtain ⟨z79, z80, _⟩ := hp
  conv=>whnf
  refine Nf.mk (List.length l_) len_map ?_
  conv=>whnf
  refine Both.mk ?_ ?_<;>intro b76
  ·obtain ⟨h, b76d⟩ := ctd b76 h
   conv=>whnf
   obtain ⟨e77, he77, h⟩ := idxn_some h
   refine ⟨_, ⟨(by omega), map_at he77, rfl⟩, ?_⟩
   conv=>whnf
   refine Side.mk ⟨rfl, trivial⟩ ?_
   conv=>whnf
   obtain ⟨c78, hc78, h⟩ := bind_some h
   refine ⟨_, (sp_R02_with y70 e77 c78 (fun _ _ => hc78)), ?_⟩
   conv=>whnf
   refine Side.mk (by show inR _; unfold inR; omega) ?_
   conv=>whnf
   cases h
   exact Nxt.mk _ ho75 (eA [(64, some 16)])
  ·obtain ⟨h, b76d⟩ := cfd b76 h
   conv=>whnf
   cases h
   have ho75 : _ = _ := ho75
   cases ho75
   exact Join.mk (eA [(64, some 64)])
 ·replace h := hk51
  obtain ⟨z81, _⟩ := hp
  conv=>whnf
  cases h
  conv=>whnf
  exact Side.mk ⟨rfl, trivial⟩ ⟨rfl, rfl⟩
theorem sp_R02_Union (lists_ : List (List (List Int))) (r : List (List Int)) (h : Ok (nL (cL (cL cI)) lists_) → R02_Union lists_ = some r) : Sp Tryz.prog 76 [.im (nL (cL (cL cI)) lists_)] (.im (nL (cL cI) r)) := by
 refine sp_of rfl [] rfl rfl rfl (Nat.le_of_ble_eq_true rfl) rfl fun hk => ?_
 replace h := h hk.1
 have z1 : lZ lists_ := ok_len hk.1
 unfold R02_Union at h
 conv=>whnf
 obtain ⟨y66, hc, hk51⟩ := bind_some h
 clear h
 have h := hc
 clear hc
 refine Cut.mk (mkSt [(3, .osl 64 1)] [(64, .row 38 1 (List.map (cL cI) y66))] []) (lZ y66 ∧ True) ((Holds.kdl 64 rfl).and (hT)) ?_ (fun hp => ?_)
 ·conv=>whnf
  refine Loops.iter (fun (s : List (List Int) × Nat) => R02_Union.s2 lists_ s.1 s.2) (fun (y70, i71) => mkSt [(0, .im (nL (cL (cL cI)) lists_)), (3, .osl 64 1), (4, .im (nI (↑i71 : Int)))] [(64, .row 38 1 (List.map (cL cI) y70))] []) (fun (y70, i71) => lZ lists_ ∧ lZ y70 ∧ True) h (eA [(64, none)]) (by rintro ⟨y70, i71⟩; exact ((Holds.avl 0 rfl).and ((Holds.kdl 64 rfl).and (hT)))) ?_
  clear h
  rintro k ⟨y70, i71⟩ o hp h ho75
  replace h : R02_Union.s2 lists_ y70 i71 = some o := h
  unfold R02_Union.s2 at h
  obtain ⟨z79, z80, _⟩ := hp
  conv=>whnf
  refine Nf.mk (List.length lists_) len_map ?_
  conv=>whnf
  refine Both.mk ?_ ?_<;>intro b76
  ·obtain ⟨h, b76d⟩ := ctd b76 h
   conv=>whnf
   obtain ⟨e77, he77, h⟩ := idxn_some h
   refine ⟨_, ⟨(by omega), map_at he77, rfl⟩, ?_⟩
   conv=>whnf
   obtain ⟨c78, h⟩ := chk_some h
   refine Side.mk ⟨rfl, map_len (l := e77) (c := cL cI) fun _ => rfl, show capOk _ 24 by simpa only [List.length_map, List.length_cons, List.length_nil, Nat.zero_add] using c78⟩ ?_
   conv=>whnf
   refine Nf.mk (List.map (cL cI) (y70 ++ e77)) (app_map (l := y70) (m := e77) (c := cL cI)) ?_
   conv=>whnf
   refine Side.mk (by show inR _; unfold inR; omega) ?_
   conv=>whnf
   cases h
   exact Nxt.mk _ ho75 (eA [(64, some 64)])
  ·obtain ⟨h, b76d⟩ := cfd b76 h
   conv=>whnf
   cases h
   have ho75 : _ = _ := ho75
   cases ho75
   exact Join.mk (eA [(64, some 64)])
 ·replace h := hk51
  obtain ⟨z81, _⟩ := hp
  conv=>whnf
  refine Side.mk ⟨rfl, trivial⟩ ?_
  conv=>whnf
  obtain ⟨c82, hc82, h⟩ := bind_some h
  refine ⟨_, (sp_R02_Sorted y66 c82 (fun _ => hc82)).im, ?_⟩
  conv=>whnf
  cases h
  conv=>whnf
  exact ⟨rfl, rfl⟩
theorem sp_R02_Maximal (l_ : List (List Int)) (r : List (List Int)) (h : Ok (nL (cL cI) l_) → R02_Maximal l_ = some r) : Sp Tryz.prog 79 [.im (nL (cL cI) l_)] (.row 38 1 (List.map (cL cI) r)) := by
 refine sp_of rfl [] rfl rfl rfl (Nat.le_of_ble_eq_true rfl) rfl fun hk => ?_
 replace h := h hk.1
 have z1 : lZ l_ := ok_len hk.1
 unfold R02_Maximal at h
 conv=>whnf
 obtain ⟨c51, hc51, h⟩ := bind_some h
 refine ⟨_, (sp_R02_Sorted l_ c51 (fun _ => hc51)).im, ?_⟩
 conv=>whnf
 obtain ⟨y246, hc, hk52⟩ := bind_some h
 clear h
 have h := hc
 clear hc
 refine Cut.mk (mkSt [(4, .osl 64 1)] [(64, .row 38 1 (List.map (cL cI) y246))] []) (lZ y246 ∧ True) ((Holds.kdl 64 rfl).and (hT)) ?_ (fun hp => ?_)
 ·conv=>whnf
  refine Loops.iter (fun (s : List (List Int) × Nat) => R02_Maximal.s14 c51 s.1 s.2) (fun (y307, i308) => mkSt [(3, .im (nL (cL cI) c51)), (4, .osl 64 1), (5, .im (nI (↑i308 : Int)))] [(64, .row 38 1 (List.map (cL cI) y307))] []) (fun (y307, i308) => lZ c51 ∧ lZ y307 ∧ True) h (eA [(64, none)]) (by rintro ⟨y307, i308⟩; exact ((Holds.avl 3 rfl).and ((Holds.kdl 64 rfl).and (hT)))) ?_
  clear h
  rintro k ⟨y307, i308⟩ o hp h ho373
  replace h : R02_Maximal.s14 c51 y307 i308 = some o := h
  unfold R02_Maximal.s14 at h
  obtain ⟨z438, z439, _⟩ := hp
  conv=>whnf
  refine Nf.mk (List.length c51) len_map ?_
  conv=>whnf
  refine Both.mk ?_ ?_<;>intro b374
  ·obtain ⟨h, b374d⟩ := ctd b374 h
   conv=>whnf
   refine Side.mk (by show inR _; unfold inR; omega) ?_
   conv=>whnf
   obtain ⟨top404, hc, hk375⟩ := bind_some h
   clear h
   have h := hc
   clear hc
   refine Cut.mk (mkSt [(3, .im (nL (cL cI) c51)), (4, .osl 64 1), (5, .im (nI (↑i308 : Int))), (6, .im (nB top404))] [(64, .row 38 1 (List.map (cL cI) y307))] []) (lZ c51 ∧ lZ y307 ∧ True) ((Holds.avl 3 rfl).and ((Holds.kdl 64 rfl).and (hT))) ?_ (fun hp => ?_)
   ·conv=>whnf
    refine Loops.iter (fun (s : Bool × Nat) => R02_Maximal.s13 c51 i308 s.1 s.2) (fun (top412, k413) => mkSt [(3, .im (nL (cL cI) c51)), (4, .osl 64 1), (5, .im (nI (↑i308 : Int))), (6, .im (nB top412)), (7, .im (nI (↑k413 : Int)))] [(64, .row 38 1 (List.map (cL cI) y307))] []) (fun (top412, k413) => lZ c51 ∧ lZ y307 ∧ True) h (eA [(64, some 64)]) (by rintro ⟨top412, k413⟩; exact ((Holds.avl 3 rfl).and ((Holds.kdl 64 rfl).and (hT)))) ?_
    clear h
    rintro k ⟨top412, k413⟩ o hp h ho422
    replace h : R02_Maximal.s13 c51 i308 top412 k413 = some o := h
    unfold R02_Maximal.s13 at h
    obtain ⟨z431, z432, _⟩ := hp
    conv=>whnf
    refine Nf.mk (List.length c51) len_map ?_
    conv=>whnf
    refine Both.mk ?_ ?_<;>intro b423
    ·obtain ⟨h, b423d⟩ := ctd b423 h
     conv=>whnf
     refine Both.mk ?_ ?_<;>intro b424
     ·replace b424 := beq_tt b424
      replace h := cond_t b424 h
      conv=>whnf
      iterate 2 (refine Both.yes (tt_beq b424) ?_; (conv=>whnf))
      obtain ⟨e425, he425, h⟩ := idxn_some h
      refine ⟨_, ⟨(by omega), map_at he425, rfl⟩, ?_⟩
      conv=>whnf
      iterate 2 (refine Both.yes (tt_beq b424) ?_; (conv=>whnf))
      refine Nf.mk (List.length e425) len_map ?_
      conv=>whnf
      iterate 3 (refine Both.yes (tt_beq b424) ?_; (conv=>whnf))
      obtain ⟨e426, he426, h⟩ := idxn_some h
      refine ⟨_, ⟨(by omega), map_at he426, rfl⟩, ?_⟩
      conv=>whnf
      iterate 2 (refine Both.yes (tt_beq b424) ?_; (conv=>whnf))
      refine Nf.mk (List.length e426) len_map ?_
      conv=>whnf
      iterate 2 (refine Both.yes (tt_beq b424) ?_; (conv=>whnf))
      refine Both.mk ?_ ?_<;>intro b427
      ·replace b427 := beq_ff b427
       obtain ⟨h, b427d⟩ := cfd b427 h
       conv=>whnf
       iterate 2 (refine Both.yes (ff_beq b427) ?_; (conv=>whnf))
       obtain ⟨e428, he428, h⟩ := idxn_some h
       refine ⟨_, ⟨(by omega), map_at he428, rfl⟩, ?_⟩
       conv=>whnf
       iterate 4 (refine Both.yes (ff_beq b427) ?_; (conv=>whnf))
       obtain ⟨e429, he429, h⟩ := idxn_some h
       refine ⟨_, ⟨(by omega), map_at he429, rfl⟩, ?_⟩
       conv=>whnf
       iterate 2 (refine Both.yes (ff_beq b427) ?_; (conv=>whnf))
       obtain ⟨c430, hc430, h⟩ := bind_some h
       refine ⟨_, (sp_R01_HasPrefix e428 e429 c430 (fun _ _ => hc430)), ?_⟩
       conv=>whnf
       refine Both.yes (ff_beq b427) ?_
       conv=>whnf
       refine Both.yes (tt_beq b424) ?_
       conv=>whnf
       refine Both.no b427 ?_
       conv=>whnf
       refine Both.yes b424 ?_
       conv=>whnf
       refine Side.mk (by show inR _; unfold inR; omega) ?_
       conv=>whnf
       cases h
       exact Nxt.mk _ ho422 (eA [(64, some 64)])
      ·replace b427 := beq_ft b427
       obtain ⟨h, b427d⟩ := ctd b427 h
       conv=>whnf
       iterate 9 (refine Both.no (tf_beq b427) ?_; (conv=>whnf))
       refine Both.yes (tt_beq b424) ?_
       conv=>whnf
       refine Both.yes b427 ?_
       conv=>whnf
       refine Both.yes b424 ?_
       conv=>whnf
       refine Side.mk (by show inR _; unfold inR; omega) ?_
       conv=>whnf
       cases h
       exact Nxt.mk _ ho422 (eA [(64, some 64)])
     ·replace b424 := beq_tf b424
      replace h := cond_f b424 h
      conv=>whnf
      iterate 12 (refine Both.no (ft_beq b424) ?_; (conv=>whnf))
      refine Both.no b424 ?_
      conv=>whnf
      refine Side.mk (by show inR _; unfold inR; omega) ?_
      conv=>whnf
      cases h
      exact Nxt.mk _ ho422 (eA [(64, some 64)])
    ·obtain ⟨h, b423d⟩ := cfd b423 h
     conv=>whnf
     cases h
     have ho422 : _ = _ := ho422
     cases ho422
     exact Join.mk (eA [(64, some 64)])
   ·replace h := hk375
    obtain ⟨z433, z434, _⟩ := hp
    conv=>whnf
    refine Both.mk ?_ ?_<;>intro b435
    ·replace h := cond_t b435 h
     conv=>whnf
     obtain ⟨e436, he436, h⟩ := idxn_some h
     refine ⟨_, ⟨(by omega), map_at he436, rfl⟩, ?_⟩
     conv=>whnf
     obtain ⟨c437, h⟩ := chk_some h
     refine Side.mk ⟨rfl, map_len (l := [e436]) (c := cL cI) fun _ => rfl, show capOk _ 24 by simpa only [List.length_map, List.length_cons, List.length_nil, Nat.zero_add] using c437⟩ ?_
     conv=>whnf
     refine Nf.mk (List.map (cL cI) (y307 ++ [e436])) (app_map (l := y307) (m := [e436]) (c := cL cI)) ?_
     conv=>whnf
     refine Side.mk (by show inR _; unfold inR; omega) ?_
     conv=>whnf
     cases h
     exact Nxt.mk _ ho373 (eA [(64, some 64)])
    ·replace h := cond_f b435 h
     conv=>whnf
     refine Side.mk (by show inR _; unfold inR; omega) ?_
     conv=>whnf
     cases h
     exact Nxt.mk _ ho373 (eA [(64, some 64)])
  ·obtain ⟨h, b374d⟩ := cfd b374 h
   conv=>whnf
   cases h
   have ho373 : _ = _ := ho373
   cases ho373
   exact Join.mk (eA [(64, some 64)])
 ·replace h := hk52
  obtain ⟨z440, _⟩ := hp
  conv=>whnf
  cases h
  conv=>whnf
  exact Side.mk ⟨rfl, trivial⟩ ⟨rfl, rfl⟩
theorem sp_R23_Extensions (t_ : T_api_Table) (r : List (List Int)) (h : Ok (.agg (c_api_Table t_)) → R23_Extensions t_ = some r) : Sp Tryz.prog 46 [.im (.agg (c_api_Table t_))] (.im (nL (cL cI) r)) := by
 refine sp_of rfl [700001] rfl rfl rfl (Nat.le_of_ble_eq_true rfl) rfl fun hk => ?_
 replace h := h hk.1
 have z1 : lZ t_.Prefixes := ok_len (Ok.agg_at hk.1 1 rfl)
 have z2 : lZ t_.Suffixes := ok_len (Ok.agg_at hk.1 2 rfl)
 unfold R23_Extensions at h
 conv=>whnf
 obtain ⟨y174, hc, hk51⟩ := bind_some h
 clear h
 have h := hc
 clear hc
 refine Cut.mk (mkSt [(3, .osl 64 1)] [(64, .row 38 1 (List.map (cL cI) y174))] []) (lZ y174 ∧ True) ((Holds.kdl 64 rfl).and (hT)) ?_ (fun hp => ?_)
 ·conv=>whnf
  refine Loops.iter (fun (s : List (List Int) × Nat) => R23_Extensions.s14 t_ s.1 s.2) (fun (y213, i214) => mkSt [(1, .im (.ref (c_api_Table t_))), (3, .osl 64 1), (4, .im (nI (↑i214 : Int)))] [(64, .row 38 1 (List.map (cL cI) y213))] []) (fun (y213, i214) => lZ y213 ∧ True) h (eA [(64, none)]) (by rintro ⟨y213, i214⟩; exact ((Holds.kdl 64 rfl).and (hT))) ?_
  clear h
  rintro k ⟨y213, i214⟩ o hp h ho255
  replace h : R23_Extensions.s14 t_ y213 i214 = some o := h
  unfold R23_Extensions.s14 at h
  obtain ⟨z296, _⟩ := hp
  conv=>whnf
  refine Nf.mk (List.length t_.Prefixes) len_map ?_
  conv=>whnf
  refine Both.mk ?_ ?_<;>intro b256
  ·obtain ⟨h, b256d⟩ := ctd b256 h
   conv=>whnf
   obtain ⟨y276, hc, hk257⟩ := bind_some h
   clear h
   have h := hc
   clear hc
   refine Cut.mk (mkSt [(1, .im (.ref (c_api_Table t_))), (3, .osl 64 1), (4, .im (nI (↑i214 : Int)))] [(64, .row 38 1 (List.map (cL cI) y276))] []) (lZ y276 ∧ True) ((Holds.kdl 64 rfl).and (hT)) ?_ (fun hp => ?_)
   ·conv=>whnf
    refine Loops.iter (fun (s : List (List Int) × Nat) => R23_Extensions.s13 t_ i214 s.1 s.2) (fun (y281, a282) => mkSt [(1, .im (.ref (c_api_Table t_))), (3, .osl 64 1), (4, .im (nI (↑i214 : Int))), (5, .im (nI (↑a282 : Int)))] [(64, .row 38 1 (List.map (cL cI) y281))] []) (fun (y281, a282) => lZ y281 ∧ True) h (eA [(64, some 64)]) (by rintro ⟨y281, a282⟩; exact ((Holds.kdl 64 rfl).and (hT))) ?_
    clear h
    rintro k ⟨y281, a282⟩ o hp h ho288
    replace h : R23_Extensions.s13 t_ i214 y281 a282 = some o := h
    unfold R23_Extensions.s13 at h
    obtain ⟨z294, _⟩ := hp
    conv=>whnf
    refine Both.mk ?_ ?_<;>intro b289
    ·obtain ⟨h, b289d⟩ := ctd b289 h
     conv=>whnf
     obtain ⟨e290, he290, h⟩ := idxn_some h
     refine ⟨_, ⟨(by omega), map_at he290, rfl⟩, ?_⟩
     conv=>whnf
     obtain ⟨c291, hc291, h⟩ := bind_some h
     refine ⟨_, (sp_R23_Joined e290 [(↑a282 : Int)] c291 (fun _ _ => hc291)), ?_⟩
     conv=>whnf
     obtain ⟨c292, h⟩ := chk_some h
     refine Side.mk ⟨rfl, map_len (l := [c291]) (c := cL cI) fun _ => rfl, show capOk _ 24 by simpa only [List.length_map, List.length_cons, List.length_nil, Nat.zero_add] using c292⟩ ?_
     conv=>whnf
     refine Nf.mk (List.map (cL cI) (y281 ++ [c291])) (app_map (l := y281) (m := [c291]) (c := cL cI)) ?_
     conv=>whnf
     obtain ⟨c293, h⟩ := chk_some h
     refine Side.mk c293 ?_
     conv=>whnf
     cases h
     exact Nxt.mk _ ho288 (eA [(64, some 64)])
    ·obtain ⟨h, b289d⟩ := cfd b289 h
     conv=>whnf
     cases h
     have ho288 : _ = _ := ho288
     cases ho288
     exact Join.mk (eA [(64, some 64)])
   ·replace h := hk257
    obtain ⟨z295, _⟩ := hp
    conv=>whnf
    refine Side.mk (by show inR _; unfold inR; omega) ?_
    conv=>whnf
    cases h
    exact Nxt.mk _ ho255 (eA [(64, some 64)])
  ·obtain ⟨h, b256d⟩ := cfd b256 h
   conv=>whnf
   cases h
   have ho255 : _ = _ := ho255
   cases ho255
   exact Join.mk (eA [(64, some 64)])
 ·replace h := hk51
  obtain ⟨z297, _⟩ := hp
  conv=>whnf
  refine Side.mk ⟨rfl, trivial⟩ ?_
  conv=>whnf
  obtain ⟨c298, hc298, h⟩ := bind_some h
  refine ⟨_, (sp_R02_Sorted y174 c298 (fun _ => hc298)).im, ?_⟩
  conv=>whnf
  cases h
  conv=>whnf
  exact ⟨rfl, rfl⟩
theorem sp_R23_Needed (t_ : T_api_Table) (o_ : T_api_Obs) (r : List (List Int) × Int) (h : Ok (.agg (c_api_Table t_)) → Ok (.agg (c_api_Obs o_)) → R23_Needed t_ o_ = some r) : Sp Tryz.prog 23 [.im (.agg (c_api_Table t_)), .im (.agg (c_api_Obs o_))] (.tup [nL (cL cI) r.1, nI r.2]) := by
 refine sp_of rfl [700002, 700003] rfl rfl rfl (Nat.le_of_ble_eq_true rfl) rfl fun hk => ?_
 replace h := h hk.1 hk.2.1
 have z1 : lZ t_.Prefixes := ok_len (Ok.agg_at hk.1 1 rfl)
 have z2 : lZ t_.Suffixes := ok_len (Ok.agg_at hk.1 2 rfl)
 have z3 : lZ o_.Traces := ok_len (Ok.agg_at hk.2.1 1 rfl)
 unfold R23_Needed at h
 conv=>whnf
 obtain ⟨c51, hc51, h⟩ := bind_some h
 refine ⟨_, (sp_R23_Check t_ o_ c51 (fun _ _ => hc51)), ?_⟩
 conv=>whnf
 refine Both.mk ?_ ?_<;>intro b52
 ·obtain ⟨h, b52d⟩ := ctd b52 h
  conv=>whnf
  cases h
  conv=>whnf
  exact ⟨rfl, rfl⟩
 ·obtain ⟨h, b52d⟩ := cfd b52 h
  conv=>whnf
  obtain ⟨c53, hc53, h⟩ := bind_some h
  refine ⟨_, (sp_R23_Extensions t_ c53 (fun _ => hc53)), ?_⟩
  conv=>whnf
  obtain ⟨c54, hc54, h⟩ := bind_some h
  refine ⟨_, (sp_R02_Union [t_.Prefixes, c53] c54 (fun _ => hc54)), ?_⟩
  conv=>whnf
  obtain ⟨y230, hc, hk55⟩ := bind_some h
  clear h
  have h := hc
  clear hc
  refine Cut.mk (mkSt [(8, .osl 64 1)] [(64, .row 38 1 (List.map (cL cI) y230))] []) (lZ y230 ∧ True) ((Holds.kdl 64 rfl).and (hT)) ?_ (fun hp => ?_)
  ·conv=>whnf
   refine Loops.iter (fun (s : List (List Int) × Nat) => R23_Needed.s14 t_ o_ c54 s.1 s.2) (fun (y286, i287) => mkSt [(2, .im (.ref (c_api_Table t_))), (3, .im (.ref (c_api_Obs o_))), (7, .im (nL (cL cI) c54)), (8, .osl 64 1), (9, .im (nI (↑i287 : Int)))] [(64, .row 38 1 (List.map (cL cI) y286))] []) (fun (y286, i287) => lZ c54 ∧ lZ y286 ∧ True) h (eA [(64, none)]) (by rintro ⟨y286, i287⟩; exact ((Holds.avl 7 rfl).and ((Holds.kdl 64 rfl).and (hT)))) ?_
   clear h
   rintro k ⟨y286, i287⟩ o hp h ho345
   replace h : R23_Needed.s14 t_ o_ c54 y286 i287 = some o := h
   unfold R23_Needed.s14 at h
   obtain ⟨z403, z404, _⟩ := hp
   conv=>whnf
   refine Nf.mk (List.length c54) len_map ?_
   conv=>whnf
   refine Both.mk ?_ ?_<;>intro b346
   ·obtain ⟨h, b346d⟩ := ctd b346 h
    conv=>whnf
    obtain ⟨y374, hc, hk347⟩ := bind_some h
    clear h
    have h := hc
    clear hc
    refine Cut.mk (mkSt [(2, .im (.ref (c_api_Table t_))), (3, .im (.ref (c_api_Obs o_))), (7, .im (nL (cL cI) c54)), (8, .osl 64 1), (9, .im (nI (↑i287 : Int)))] [(64, .row 38 1 (List.map (cL cI) y374))] []) (lZ c54 ∧ lZ y374 ∧ True) ((Holds.avl 7 rfl).and ((Holds.kdl 64 rfl).and (hT))) ?_ (fun hp => ?_)
    ·conv=>whnf
     refine Loops.iter (fun (s : List (List Int) × Nat) => R23_Needed.s13 t_ o_ c54 i287 s.1 s.2) (fun (y382, k383) => mkSt [(2, .im (.ref (c_api_Table t_))), (3, .im (.ref (c_api_Obs o_))), (7, .im (nL (cL cI) c54)), (8, .osl 64 1), (9, .im (nI (↑i287 : Int))), (10, .im (nI (↑k383 : Int)))] [(64, .row 38 1 (List.map (cL cI) y382))] []) (fun (y382, k383) => lZ c54 ∧ lZ y382 ∧ True) h (eA [(64, some 64)]) (by rintro ⟨y382, k383⟩; exact ((Holds.avl 7 rfl).and ((Holds.kdl 64 rfl).and (hT)))) ?_
     clear h
     rintro k ⟨y382, k383⟩ o hp h ho391
     replace h : R23_Needed.s13 t_ o_ c54 i287 y382 k383 = some o := h
     unfold R23_Needed.s13 at h
     obtain ⟨z399, z400, _⟩ := hp
     conv=>whnf
     refine Nf.mk (List.length t_.Suffixes) len_map ?_
     conv=>whnf
     refine Both.mk ?_ ?_<;>intro b392
     ·obtain ⟨h, b392d⟩ := ctd b392 h
      conv=>whnf
      obtain ⟨e393, he393, h⟩ := idxn_some h
      refine ⟨_, ⟨(by omega), map_at he393, rfl⟩, ?_⟩
      conv=>whnf
      obtain ⟨e394, he394, h⟩ := idxn_some h
      refine ⟨_, ⟨(by omega), map_at he394, rfl⟩, ?_⟩
      conv=>whnf
      obtain ⟨c395, hc395, h⟩ := bind_some h
      refine ⟨_, (sp_R23_Joined e393 e394 c395 (fun _ _ => hc395)), ?_⟩
      conv=>whnf
      obtain ⟨c396, hc396, h⟩ := bind_some h
      refine ⟨_, (sp_R16_Answer o_ c395 c396 (fun _ _ => hc396)), ?_⟩
      conv=>whnf
      refine Both.mk ?_ ?_<;>intro b397
      ·replace h := cond_t b397 h
       conv=>whnf
       obtain ⟨c398, h⟩ := chk_some h
       refine Side.mk ⟨rfl, map_len (l := [c395]) (c := cL cI) fun _ => rfl, show capOk _ 24 by simpa only [List.length_map, List.length_cons, List.length_nil, Nat.zero_add] using c398⟩ ?_
       conv=>whnf
       refine Nf.mk (List.map (cL cI) (y382 ++ [c395])) (app_map (l := y382) (m := [c395]) (c := cL cI)) ?_
       conv=>whnf
       refine Side.mk (by show inR _; unfold inR; omega) ?_
       conv=>whnf
       cases h
       exact Nxt.mk _ ho391 (eA [(64, some 64)])
      ·replace h := cond_f b397 h
       conv=>whnf
       refine Side.mk (by show inR _; unfold inR; omega) ?_
       conv=>whnf
       cases h
       exact Nxt.mk _ ho391 (eA [(64, some 64)])
     ·obtain ⟨h, b392d⟩ := cfd b392 h
      conv=>whnf
      cases h
      have ho391 : _ = _ := ho391
      cases ho391
      exact Join.mk (eA [(64, some 64)])
    ·replace h := hk347
     obtain ⟨z401, z402, _⟩ := hp
     conv=>whnf
     refine Side.mk (by show inR _; unfold inR; omega) ?_
     conv=>whnf
     cases h
     exact Nxt.mk _ ho345 (eA [(64, some 64)])
   ·obtain ⟨h, b346d⟩ := cfd b346 h
    conv=>whnf
    cases h
    have ho345 : _ = _ := ho345
    cases ho345
    exact Join.mk (eA [(64, some 64)])
  ·replace h := hk55
   obtain ⟨z405, _⟩ := hp
   conv=>whnf
   refine Side.mk ⟨rfl, trivial⟩ ?_
   conv=>whnf
   obtain ⟨c406, hc406, h⟩ := bind_some h
   refine ⟨_, (sp_R02_Maximal y230 c406 (fun _ => hc406)).im, ?_⟩
   conv=>whnf
   cases h
   conv=>whnf
   exact ⟨rfl, rfl⟩
theorem sp_R23_find (t_ : T_api_Table) (o_ : T_api_Obs) (w_ : List Int) (r : Int) (h : Ok (.agg (c_api_Table t_)) → Ok (.agg (c_api_Obs o_)) → Ok (nL cI w_) → R23_find t_ o_ w_ = some r) : Sp Tryz.prog 86 [.im (.agg (c_api_Table t_)), .im (.agg (c_api_Obs o_)), .im (nL cI w_)] (.im (nI r)) := by
 refine sp_of rfl [700003, 700004] rfl rfl rfl (Nat.le_of_ble_eq_true rfl) rfl fun hk => ?_
 replace h := h hk.1 hk.2.1 hk.2.2.1
 have z1 : lZ t_.Prefixes := ok_len (Ok.agg_at hk.1 1 rfl)
 have z2 : lZ t_.Suffixes := ok_len (Ok.agg_at hk.1 2 rfl)
 have z3 : lZ o_.Traces := ok_len (Ok.agg_at hk.2.1 1 rfl)
 have z4 : lZ w_ := ok_len hk.2.2.1
 unfold R23_find at h
 conv=>whnf
 obtain ⟨c51, hc51, h⟩ := bind_some h
 refine ⟨_, (sp_R23_row o_ t_.Suffixes w_ c51 (fun _ _ _ => hc51)), ?_⟩
 conv=>whnf
 obtain ⟨oc, hc, hk52⟩ := bind_some h
 clear h
 have h := hc
 clear hc
 refine Cut.mkS oc (Y := Unit) (fun (_ : Unit) => mkSt [] [] []) (fun (_ : Unit) => True) (by rintro ⟨⟩; exact (hT)) ?_ ?_
 ·conv=>whnf
  refine Loops.iter (fun (s : Nat) => R23_find.s2 t_ o_ c51 s) (fun i76 => mkSt [(3, .im (.ref (c_api_Table t_))), (4, .im (.ref (c_api_Obs o_))), (7, .im (nL (cL cI) c51.1)), (9, .im (nI (↑i76 : Int)))] [] []) (fun i76 => lZ c51.1 ∧ True) h (eA []) (by rintro i76; exact ((Holds.avl 7 rfl).and (hT))) ?_
  clear h
  rintro k i76 o hp h ho82
  replace h : R23_find.s2 t_ o_ c51 i76 = some o := h
  unfold R23_find.s2 at h
  obtain ⟨z88, _⟩ := hp
  conv=>whnf
  refine Nf.mk (List.length t_.Prefixes) len_map ?_
  conv=>whnf
  refine Both.mk ?_ ?_<;>intro b83
  ·obtain ⟨h, b83d⟩ := ctd b83 h
   conv=>whnf
   obtain ⟨e84, he84, h⟩ := idxn_some h
   refine ⟨_, ⟨(by omega), map_at he84, rfl⟩, ?_⟩
   conv=>whnf
   obtain ⟨c85, hc85, h⟩ := bind_some h
   refine ⟨_, (sp_R23_row o_ t_.Suffixes e84 c85 (fun _ _ _ => hc85)), ?_⟩
   conv=>whnf
   obtain ⟨c86, hc86, h⟩ := bind_some h
   refine ⟨_, (sp_R06_Lists c85.1 c51.1 c86 (fun _ _ => hc86)), ?_⟩
   conv=>whnf
   refine Both.mk ?_ ?_<;>intro b87
   ·replace h := cond_t b87 h
    conv=>whnf
    cases h
    have ho82 : _ = _ := ho82
    cases ho82
    replace h : some _ = some _ := hk52
    cases h
    conv=>whnf
    exact ⟨rfl, rfl⟩
   ·replace h := cond_f b87 h
    conv=>whnf
    refine Side.mk (by show inR _; unfold inR; omega) ?_
    conv=>whnf
    cases h
    exact Nxt.mk _ ho82 (eA [])
  ·obtain ⟨h, b83d⟩ := cfd b83 h
   conv=>whnf
   cases h
   have ho82 : _ = _ := ho82
   cases ho82
   exact JoinS.mk' _ rfl (eA [])
 ·rintro ⟨⟩ rfl hp
  replace h := sum_inl hk52
  conv=>whnf
  cases h
  conv=>whnf
  exact ⟨rfl, rfl⟩
theorem sp_R23_complete (t_ : T_api_Table) (o_ : T_api_Obs) (r : Int) (h : Ok (.agg (c_api_Table t_)) → Ok (.agg (c_api_Obs o_)) → R23_complete t_ o_ = some r) : Sp Tryz.prog 85 [.im (.agg (c_api_Table t_)), .im (.agg (c_api_Obs o_))] (.im (nI r)) := by
 refine sp_of rfl [700002, 700003] rfl rfl rfl (Nat.le_of_ble_eq_true rfl) rfl fun hk => ?_
 replace h := h hk.1 hk.2.1
 have z1 : lZ t_.Prefixes := ok_len (Ok.agg_at hk.1 1 rfl)
 have z2 : lZ t_.Suffixes := ok_len (Ok.agg_at hk.1 2 rfl)
 have z3 : lZ o_.Traces := ok_len (Ok.agg_at hk.2.1 1 rfl)
 unfold R23_complete at h
 conv=>whnf
 obtain ⟨c51, hc51, h⟩ := bind_some h
 refine ⟨_, (sp_R23_Needed t_ o_ c51 (fun _ _ => hc51)), ?_⟩
 conv=>whnf
 refine Both.mk ?_ ?_<;>intro b52
 ·obtain ⟨h, b52d⟩ := ctd b52 h
  conv=>whnf
  cases h
  conv=>whnf
  exact ⟨rfl, rfl⟩
 ·obtain ⟨h, b52d⟩ := cfd b52 h
  conv=>whnf
  refine Nf.mk (List.length c51.1) len_map ?_
  conv=>whnf
  refine Both.mk ?_ ?_<;>intro b53
  ·obtain ⟨h, b53d⟩ := ctd b53 h
   conv=>whnf
   cases h
   conv=>whnf
   exact ⟨rfl, rfl⟩
  ·obtain ⟨h, b53d⟩ := cfd b53 h
   conv=>whnf
   cases h
   conv=>whnf
   exact ⟨rfl, rfl⟩
theorem sp_R23_Unclosed (t_ : T_api_Table) (o_ : T_api_Obs) (r : List Int × Bool × Int) (h : Ok (.agg (c_api_Table t_)) → Ok (.agg (c_api_Obs o_)) → R23_Unclosed t_ o_ = some r) : Sp Tryz.prog 29 [.im (.agg (c_api_Table t_)), .im (.agg (c_api_Obs o_))] (.tup [nL cI r.1, nB r.2.1, nI r.2.2]) := by
 refine sp_of rfl [700002, 700003] rfl rfl rfl (Nat.le_of_ble_eq_true rfl) rfl fun hk => ?_
 replace h := h hk.1 hk.2.1
 have z1 : lZ t_.Prefixes := ok_len (Ok.agg_at hk.1 1 rfl)
 have z2 : lZ t_.Suffixes := ok_len (Ok.agg_at hk.1 2 rfl)
 have z3 : lZ o_.Traces := ok_len (Ok.agg_at hk.2.1 1 rfl)
 unfold R23_Unclosed at h
 conv=>whnf
 obtain ⟨c51, hc51, h⟩ := bind_some h
 refine ⟨_, (sp_R23_complete t_ o_ c51 (fun _ _ => hc51)), ?_⟩
 conv=>whnf
 refine Both.mk ?_ ?_<;>intro b52
 ·obtain ⟨h, b52d⟩ := ctd b52 h
  conv=>whnf
  cases h
  conv=>whnf
  exact ⟨rfl, rfl⟩
 ·obtain ⟨h, b52d⟩ := cfd b52 h
  conv=>whnf
  obtain ⟨c53, hc53, h⟩ := bind_some h
  refine ⟨_, (sp_R23_Extensions t_ c53 (fun _ => hc53)), ?_⟩
  conv=>whnf
  obtain ⟨oc, hc, hk54⟩ := bind_some h
  clear h
  have h := hc
  clear hc
  refine Cut.mkS oc (Y := Unit) (fun (_ : Unit) => mkSt [] [] []) (fun (_ : Unit) => True) (by rintro ⟨⟩; exact (hT)) ?_ ?_
  ·conv=>whnf
   refine Loops.iter (fun (s : Nat) => R23_Unclosed.s2 t_ o_ c53 s) (fun i78 => mkSt [(2, .im (.ref (c_api_Table t_))), (3, .im (.ref (c_api_Obs o_))), (8, .im (nL (cL cI) c53)), (9, .im (nI (↑i78 : Int)))] [] []) (fun i78 => lZ c53 ∧ True) h (eA []) (by rintro i78; exact ((Holds.avl 8 rfl).and (hT))) ?_
   clear h
   rintro k i78 o hp h ho84
   replace h : R23_Unclosed.s2 t_ o_ c53 i78 = some o := h
   unfold R23_Unclosed.s2 at h
   obtain ⟨z90, _⟩ := hp
   conv=>whnf
   refine Nf.mk (List.length c53) len_map ?_
   conv=>whnf
   refine Both.mk ?_ ?_<;>intro b85
   ·obtain ⟨h, b85d⟩ := ctd b85 h
    conv=>whnf
    obtain ⟨e86, he86, h⟩ := idxn_some h
    refine ⟨_, ⟨(by omega), map_at he86, rfl⟩, ?_⟩
    conv=>whnf
    obtain ⟨c87, hc87, h⟩ := bind_some h
    refine ⟨_, (sp_R23_find t_ o_ e86 c87 (fun _ _ _ => hc87)), ?_⟩
    conv=>whnf
    refine Both.mk ?_ ?_<;>intro b88
    ·obtain ⟨h, b88d⟩ := ctd b88 h
     conv=>whnf
     obtain ⟨e89, he89, h⟩ := idxn_some h
     refine ⟨_, ⟨(by omega), map_at he89, rfl⟩, ?_⟩
     conv=>whnf
     cases h
     have ho84 : _ = _ := ho84
     cases ho84
     replace h : some _ = some _ := hk54
     cases h
     conv=>whnf
     exact ⟨rfl, rfl⟩
    ·obtain ⟨h, b88d⟩ := cfd b88 h
     conv=>whnf
     refine Side.mk (by show inR _; unfold inR; omega) ?_
     conv=>whnf
     cases h
     exact Nxt.mk _ ho84 (eA [])
   ·obtain ⟨h, b85d⟩ := cfd b85 h
    conv=>whnf
    cases h
    have ho84 : _ = _ := ho84
    cases ho84
    exact JoinS.mk' _ rfl (eA [])
  ·rintro ⟨⟩ rfl hp
   replace h := sum_inl hk54
   conv=>whnf
   cases h
   conv=>whnf
   exact ⟨rfl, rfl⟩
theorem sp_slices_Equal_Sint_int (s1_ : List Int) (s2_ : List Int) (r : Bool) (h : Ok (nL cI s1_) → Ok (nL cI s2_) → slices_Equal_Sint_int s1_ s2_ = some r) : Sp Tryz.prog 128 [.im (nL cI s1_), .im (nL cI s2_)] (.im (nB r)) := by
 refine sp_of rfl [] rfl rfl rfl (Nat.le_of_ble_eq_true rfl) rfl fun hk => ?_
 replace h := h hk.1 hk.2.1
 have z1 : lZ s1_ := ok_len hk.1
 have z2 : lZ s2_ := ok_len hk.2.1
 unfold slices_Equal_Sint_int at h
 conv=>whnf
 refine Nf.mk (List.length s1_) len_map ?_
 conv=>whnf
 refine Nf.mk (List.length s2_) len_map ?_
 conv=>whnf
 refine Both.mk ?_ ?_<;>intro b51
 ·obtain ⟨h, b51d⟩ := ctd b51 h
  conv=>whnf
  cases h
  conv=>whnf
  exact ⟨rfl, rfl⟩
 ·obtain ⟨h, b51d⟩ := cfd b51 h
  conv=>whnf
  refine Nf.mk (List.length s1_) len_map ?_
  conv=>whnf
  obtain ⟨oc, hc, hk52⟩ := bind_some h
  clear h
  have h := hc
  clear hc
  refine Cut.mkS oc (Y := Unit) (fun (_ : Unit) => mkSt [] [] []) (fun (_ : Unit) => True) (by rintro ⟨⟩; exact (hT)) ?_ ?_
  ·conv=>whnf
   refine Loops.iter (fun (s : Nat) => slices_Equal_Sint_int.s2 s1_ s2_ s) (fun y73 => mkSt [(0, .im (nL cI s1_)), (1, .im (nL cI s2_)), (12, .im (nI (↑(List.length s1_) : Int))), (13, .im (nI (↑y73 : Int)))] [] []) (fun y73 => lZ s1_ ∧ lZ s2_ ∧ True) h (eA []) (by rintro y73; exact ((Holds.avl 0 rfl).and ((Holds.avl 1 rfl).and (hT)))) ?_
   clear h
   rintro k y73 o hp h ho78
   replace h : slices_Equal_Sint_int.s2 s1_ s2_ y73 = some o := h
   unfold slices_Equal_Sint_int.s2 at h
   obtain ⟨z83, z84, _⟩ := hp
   conv=>whnf
   refine Both.mk ?_ ?_<;>intro b79
   ·obtain ⟨h, b79d⟩ := ctd b79 h
    conv=>whnf
    obtain ⟨e80, he80, h⟩ := idxn_some h
    refine ⟨_, ⟨(by omega), map_at he80, rfl⟩, ?_⟩
    conv=>whnf
    obtain ⟨e81, he81, h⟩ := idxn_some h
    refine ⟨_, ⟨(by omega), map_at he81, rfl⟩, ?_⟩
    conv=>whnf
    refine Both.mk ?_ ?_<;>intro b82
    ·obtain ⟨h, b82d⟩ := ctd b82 h
     conv=>whnf
     cases h
     have ho78 : _ = _ := ho78
     cases ho78
     replace h : some _ = some _ := hk52
     cases h
     conv=>whnf
     exact ⟨rfl, rfl⟩
    ·obtain ⟨h, b82d⟩ := cfd b82 h
     conv=>whnf
     refine Side.mk (by show inR _; unfold inR; omega) ?_
     conv=>whnf
     cases h
     exact Nxt.mk _ ho78 (eA [])
   ·obtain ⟨h, b79d⟩ := cfd b79 h
    conv=>whnf
    cases h
    have ho78 : _ = _ := ho78
    cases ho78
    exact JoinS.mk' _ rfl (eA [])
  ·rintro ⟨⟩ rfl hp
   replace h := sum_inl hk52
   conv=>whnf
   cases h
   conv=>whnf
   exact ⟨rfl, rfl⟩
theorem sp_table_view_inconsistent (v_ : T_table_view) (r : Int × Int × Bool) (h : Ok (.agg (c_table_view v_)) → table_view_inconsistent v_ = some r) : Sp Tryz.prog 87 [.im (.agg (c_table_view v_))] (.tup [nI r.1, nI r.2.1, nB r.2.2]) := by
 refine sp_of rfl [700001] rfl rfl rfl (Nat.le_of_ble_eq_true rfl) rfl fun hk => ?_
 replace h := h hk.1
 have z1 : lZ v_.rows := ok_len (Ok.agg_at hk.1 0 rfl)
 have z2 : lZ v_.prefixes := ok_len (Ok.agg_at hk.1 1 rfl)
 have z3 : lZ v_.next := ok_len (Ok.agg_at hk.1 2 rfl)
 unfold table_view_inconsistent at h
 conv=>whnf
 refine Nf.mk (List.length v_.prefixes) len_map ?_
 conv=>whnf
 obtain ⟨oc, hc, hk51⟩ := bind_some h
 clear h
 have h := hc
 clear hc
 refine Cut.mkS oc (Y := Unit) (fun (_ : Unit) => mkSt [] [] []) (fun (_ : Unit) => True) (by rintro ⟨⟩; exact (hT)) ?_ ?_
 ·conv=>whnf
  refine Loops.iter (fun (s : Nat) => table_view_inconsistent.s1022 v_ s) (fun y14999 => mkSt [(1, .im (.ref (c_table_view v_))), (13, .im (nL cI v_.prefixes)), (14, .im (nI (↑(List.length v_.prefixes) : Int))), (15, .im (nI (↑y14999 : Int)))] [] []) (fun y14999 => lZ v_.prefixes ∧ True) h (eA []) (by rintro y14999; exact ((Holds.avl 13 rfl).and (hT))) ?_
  clear h
  rintro k y14999 o hp h ho18736
  replace h : table_view_inconsistent.s1022 v_ y14999 = some o := h
  unfold table_view_inconsistent.s1022 at h
  obtain ⟨z22473, _⟩ := hp
  conv=>whnf
  refine Both.mk ?_ ?_<;>intro b18737
  ·obtain ⟨h, b18737d⟩ := ctd b18737 h
   conv=>whnf
   obtain ⟨e18738, he18738, h⟩ := idxn_some h
   refine ⟨_, ⟨(by omega), map_at he18738, rfl⟩, ?_⟩
   conv=>whnf
   refine Side.mk (by show inR _; unfold inR; omega) ?_
   conv=>whnf
   obtain ⟨oc, hc, hk18739⟩ := bind_some h
   clear h
   have h := hc
   clear hc
   refine Cut.mkS oc (Y := Unit) (fun (_ : Unit) => mkSt [(1, .im (.ref (c_table_view v_))), (13, .im (nL cI v_.prefixes)), (14, .im (nI (↑(List.length v_.prefixes) : Int))), (15, .im (nI (↑y14999 : Int)))] [] []) (fun (_ : Unit) => lZ v_.prefixes ∧ True) (by rintro ⟨⟩; exact ((Holds.avl 13 rfl).and (hT))) ?_ ?_
   ·conv=>whnf
    refine Loops.iter (fun (s : Nat) => table_view_inconsistent.s1021 v_ y14999 e18738 s) (fun k21227 => mkSt [(1, .im (.ref (c_table_view v_))), (5, .im (nI (↑y14999 : Int))), (6, .im (nI e18738)), (7, .im (nI (↑k21227 : Int))), (13, .im (nL cI v_.prefixes)), (14, .im (nI (↑(List.length v_.prefixes) : Int))), (15, .im (nI (↑y14999 : Int)))] [] []) (fun k21227 => lZ v_.prefixes ∧ True) h (eA []) (by rintro k21227; exact ((Holds.avl 13 rfl).and (hT))) ?_
    clear h
    rintro k k21227 o hp h ho21849
    replace h : table_view_inconsistent.s1021 v_ y14999 e18738 k21227 = some o := h
    unfold table_view_inconsistent.s1021 at h
    obtain ⟨z22471, _⟩ := hp
    conv=>whnf
    refine Nf.mk (List.length v_.prefixes) len_map ?_
    conv=>whnf
    refine Both.mk ?_ ?_<;>intro b21850
    ·obtain ⟨h, b21850d⟩ := ctd b21850 h
     conv=>whnf
     obtain ⟨oc, hc, hk21851⟩ := bind_some h
     clear h
     have h := hc
     clear hc
     refine Cut.mkS oc (Y := Unit) (fun (_ : Unit) => mkSt [(1, .im (.ref (c_table_view v_))), (5, .im (nI (↑y14999 : Int))), (6, .im (nI e18738)), (7, .im (nI (↑k21227 : Int))), (13, .im (nL cI v_.prefixes)), (14, .im (nI (↑(List.length v_.prefixes) : Int))), (15, .im (nI (↑y14999 : Int)))] [] []) (fun (_ : Unit) => lZ v_.prefixes ∧ True) (by rintro ⟨⟩; exact ((Holds.avl 13 rfl).and (hT))) ?_ ?_
     ·conv=>whnf
      obtain ⟨e22161, he22161, h⟩ := idxn_some h
      refine ⟨_, ⟨(by omega), map_at he22161, rfl⟩, ?_⟩
      conv=>whnf
      refine Both.mk ?_ ?_<;>intro b22162
      ·obtain ⟨h, b22162d⟩ := ctd b22162 h
       conv=>whnf
       cases h
       exact JoinS.mk' _ rfl (eA [])
      ·obtain ⟨h, b22162d⟩ := cfd b22162 h
       conv=>whnf
       obtain ⟨e22163, he22163, h⟩ := idxn_some h
       refine ⟨_, ⟨(by omega), map_at he22163, rfl⟩, ?_⟩
       conv=>whnf
       refine Nf.mk (List.length e22163) len_map ?_
       conv=>whnf
       obtain ⟨oc, hc, hk22164⟩ := bind_some h
       clear h
       have h := hc
       clear hc
       refine Cut.mkS oc (Y := Unit) (fun (_ : Unit) => mkSt [(1, .im (.ref (c_table_view v_))), (5, .im (nI (↑y14999 : Int))), (6, .im (nI e18738)), (7, .im (nI (↑k21227 : Int))), (13, .im (nL cI v_.prefixes)), (14, .im (nI (↑(List.length v_.prefixes) : Int))), (15, .im (nI (↑y14999 : Int)))] [] []) (fun (_ : Unit) => lZ v_.prefixes ∧ True) (by rintro ⟨⟩; exact ((Holds.avl 13 rfl).and (hT))) ?_ ?_
       ·conv=>whnf
        refine Loops.iter (fun (s : Nat) => table_view_inconsistent.s1020 v_ y14999 k21227 e22163 s) (fun y22366 => mkSt [(1, .im (.ref (c_table_view v_))), (5, .im (nI (↑y14999 : Int))), (6, .im (nI e18738)), (7, .im (nI (↑k21227 : Int))), (13, .im (nL cI v_.prefixes)), (14, .im (nI (↑(List.length v_.prefixes) : Int))), (15, .im (nI (↑y14999 : Int))), (41, .im (nI (↑(List.length e22163) : Int))), (42, .im (nI (↑y22366 : Int)))] [] []) (fun y22366 => lZ v_.prefixes ∧ True) h (eA []) (by rintro y22366; exact ((Holds.avl 13 rfl).and (hT))) ?_
        clear h
        rintro k y22366 o hp h ho22417
        replace h : table_view_inconsistent.s1020 v_ y14999 k21227 e22163 y22366 = some o := h
        unfold table_view_inconsistent.s1020 at h
        obtain ⟨z22468, _⟩ := hp
        conv=>whnf
        refine Both.mk ?_ ?_<;>intro b22418
        ·obtain ⟨h, b22418d⟩ := ctd b22418 h
         conv=>whnf
         obtain ⟨e22419, he22419, h⟩ := idxn_some h
         refine ⟨_, ⟨(by omega), map_at he22419, rfl⟩, ?_⟩
         conv=>whnf
         obtain ⟨e22420, he22420, h⟩ := idxn_some h
         refine ⟨_, ⟨(by omega), map_at he22420, rfl⟩, ?_⟩
         conv=>whnf
         obtain ⟨e22421, he22421z, he22421, h⟩ := idx_some h
         refine ⟨_, ⟨he22421z, map_at he22421, rfl⟩, ?_⟩
         conv=>whnf
         obtain ⟨e22422, he22422, h⟩ := idxn_some h
         refine ⟨_, ⟨(by omega), map_at he22422, rfl⟩, ?_⟩
         conv=>whnf
         obtain ⟨e22423, he22423, h⟩ := idxn_some h
         refine ⟨_, ⟨(by omega), map_at he22423, rfl⟩, ?_⟩
         conv=>whnf
         obtain ⟨e22424, he22424z, he22424, h⟩ := idx_some h
         refine ⟨_, ⟨he22424z, map_at he22424, rfl⟩, ?_⟩
         conv=>whnf
         refine Nf.mk (List.length e22421) len_map ?_
         conv=>whnf
         obtain ⟨oc, hc, hk22425⟩ := bind_some h
         clear h
         have h := hc
         clear hc
         refine Cut.mkS oc (Y := Unit) (fun (_ : Unit) => mkSt [(1, .im (.ref (c_table_view v_))), (5, .im (nI (↑y14999 : Int))), (6, .im (nI e18738)), (7, .im (nI (↑k21227 : Int))), (13, .im (nL cI v_.prefixes)), (14, .im (nI (↑(List.length v_.prefixes) : Int))), (15, .im (nI (↑y14999 : Int))), (41, .im (nI (↑(List.length e22163) : Int))), (42, .im (nI (↑y22366 : Int)))] [] []) (fun (_ : Unit) => lZ v_.prefixes ∧ True) (by rintro ⟨⟩; exact ((Holds.avl 13 rfl).and (hT))) ?_ ?_
         ·conv=>whnf
          refine Loops.iter (fun (s : Nat) => table_view_inconsistent.s1019 y22366 e22421 e22424 s) (fun y22451 => mkSt [(1, .im (.ref (c_table_view v_))), (5, .im (nI (↑y14999 : Int))), (6, .im (nI e18738)), (7, .im (nI (↑k21227 : Int))), (8, .im (nI (↑y22366 : Int))), (9, .im (nL (cL cI) e22421)), (10, .im (nL (cL cI) e22424)), (13, .im (nL cI v_.prefixes)), (14, .im (nI (↑(List.length v_.prefixes) : Int))), (15, .im (nI (↑y14999 : Int))), (41, .im (nI (↑(List.length e22163) : Int))), (42, .im (nI (↑y22366 : Int))), (70, .im (nI (↑(List.length e22421) : Int))), (71, .im (nI (↑y22451 : Int)))] [] []) (fun y22451 => lZ e22421 ∧ lZ e22424 ∧ lZ v_.prefixes ∧ True) h (eA []) (by rintro y22451; exact ((Holds.avl 9 rfl).and ((Holds.avl 10 rfl).and ((Holds.avl 13 rfl).and (hT))))) ?_
          clear h
          rintro k y22451 o hp h ho22457
          replace h : table_view_inconsistent.s1019 y22366 e22421 e22424 y22451 = some o := h
          unfold table_view_inconsistent.s1019 at h
          obtain ⟨z22463, z22464, z22465, _⟩ := hp
          conv=>whnf
          refine Both.mk ?_ ?_<;>intro b22458
          ·obtain ⟨h, b22458d⟩ := ctd b22458 h
           conv=>whnf
           obtain ⟨e22459, he22459, h⟩ := idxn_some h
           refine ⟨_, ⟨(by omega), map_at he22459, rfl⟩, ?_⟩
           conv=>whnf
           obtain ⟨e22460, he22460, h⟩ := idxn_some h
           refine ⟨_, ⟨(by omega), map_at he22460, rfl⟩, ?_⟩
           conv=>whnf
           obtain ⟨c22461, hc22461, h⟩ := bind_some h
           refine ⟨_, (sp_slices_Equal_Sint_int e22459 e22460 c22461 (fun _ _ => hc22461)), ?_⟩
           conv=>whnf
           refine Both.mk ?_ ?_<;>intro b22462
           ·replace h := cond_t b22462 h
            conv=>whnf
            cases h
            have ho22457 : _ = _ := ho22457
            cases ho22457
            replace h : some _ = some _ := hk22425
            cases h
            have ho22417 : _ = _ := ho22417
            cases ho22417
            replace h : some _ = some _ := hk22164
            cases h
            replace h : some _ = some _ := hk21851
            cases h
            have ho21849 : _ = _ := ho21849
            cases ho21849
            replace h : some _ = some _ := hk18739
            cases h
            have ho18736 : _ = _ := ho18736
            cases ho18736
            replace h : some _ = some _ := hk51
            cases h
            conv=>whnf
            exact ⟨rfl, rfl⟩
           ·replace h := cond_f b22462 h
            conv=>whnf
            refine Side.mk (by show inR _; unfold inR; omega) ?_
            conv=>whnf
            cases h
            exact Nxt.mk _ ho22457 (eA [])
          ·obtain ⟨h, b22458d⟩ := cfd b22458 h
           conv=>whnf
           cases h
           have ho22457 : _ = _ := ho22457
           cases ho22457
           exact JoinS.mk' _ rfl (eA [])
         ·rintro ⟨⟩ rfl hp
          replace h := sum_inl hk22425
          obtain ⟨z22466, _⟩ := hp
          conv=>whnf
          obtain ⟨c22467, h⟩ := chk_some h
          refine Side.mk c22467 ?_
          conv=>whnf
          cases h
          exact Nxt.mk _ ho22417 (eA [])
        ·obtain ⟨h, b22418d⟩ := cfd b22418 h
         conv=>whnf
         cases h
         have ho22417 : _ = _ := ho22417
         cases ho22417
         exact JoinS.mk' _ rfl (eA [])
       ·rintro ⟨⟩ rfl hp
        replace h := sum_inl hk22164
        obtain ⟨z22469, _⟩ := hp
        conv=>whnf
        cases h
        exact JoinS.mk' _ rfl (eA [])
     ·rintro ⟨⟩ rfl hp
      replace h := sum_inl hk21851
      obtain ⟨z22470, _⟩ := hp
      conv=>whnf
      refine Side.mk (by show inR _; unfold inR; omega) ?_
      conv=>whnf
      cases h
      exact Nxt.mk _ ho21849 (eA [])
    ·obtain ⟨h, b21850d⟩ := cfd b21850 h
     conv=>whnf
     cases h
     have ho21849 : _ = _ := ho21849
     cases ho21849
     exact JoinS.mk' _ rfl (eA [])
   ·rintro ⟨⟩ rfl hp
    replace h := sum_inl hk18739
    obtain ⟨z22472, _⟩ := hp
    conv=>whnf
    refine Side.mk (by show inR _; unfold inR; omega) ?_
    conv=>whnf
    cases h
    exact Nxt.mk _ ho18736 (eA [])
  ·obtain ⟨h, b18737d⟩ := cfd b18737 h
   conv=>whnf
   cases h
   have ho18736 : _ = _ := ho18736
   cases ho18736
   exact JoinS.mk' _ rfl (eA [])
 ·rintro ⟨⟩ rfl hp
  replace h := sum_inl hk51
  conv=>whnf
  cases h
  conv=>whnf
  exact ⟨rfl, rfl⟩
theorem sp_table_Inconsistent (t_ : T_api_Table) (o_ : T_api_Obs) (r : List Int × Bool × Int) (h : Ok (.agg (c_api_Table t_)) → Ok (.agg (c_api_Obs o_)) → table_Inconsistent t_ o_ = some r) : Sp Tryz.prog 31 [.im (.agg (c_api_Table t_)), .im (.agg (c_api_Obs o_))] (.tup [nL cI r.1, nB r.2.1, nI r.2.2]) := by
 refine sp_of rfl [700002, 700003] rfl rfl rfl (Nat.le_of_ble_eq_true rfl) rfl fun hk => ?_
 replace h := h hk.1 hk.2.1
 have z1 : lZ t_.Prefixes := ok_len (Ok.agg_at hk.1 1 rfl)
 have z2 : lZ t_.Suffixes := ok_len (Ok.agg_at hk.1 2 rfl)
 have z3 : lZ o_.Traces := ok_len (Ok.agg_at hk.2.1 1 rfl)
 unfold table_Inconsistent at h
 conv=>whnf
 obtain ⟨c51, hc51, h⟩ := bind_some h
 refine ⟨_, (sp_table_look t_ o_ c51 (fun _ _ => hc51)), ?_⟩
 conv=>whnf
 refine Side.mk rfl ?_
 conv=>whnf
 refine Both.mk ?_ ?_<;>intro b52
 ·obtain ⟨h, b52d⟩ := ctd b52 h
  conv=>whnf
  cases h
  conv=>whnf
  exact ⟨rfl, rfl⟩
 ·obtain ⟨h, b52d⟩ := cfd b52 h
  conv=>whnf
  refine Side.mk rfl ?_
  conv=>whnf
  obtain ⟨c53, hc53, h⟩ := bind_some h
  refine ⟨_, (sp_table_view_inconsistent c51.1 c53 (fun _ => hc53)), ?_⟩
  conv=>whnf
  refine Both.mk ?_ ?_<;>intro b54
  ·replace h := cond_t b54 h
   conv=>whnf
   cases h
   conv=>whnf
   exact ⟨rfl, rfl⟩
  ·replace h := cond_f b54 h
   conv=>whnf
   obtain ⟨e55, he55z, he55, h⟩ := idx_some h
   refine ⟨_, ⟨he55z, map_at he55, rfl⟩, ?_⟩
   conv=>whnf
   obtain ⟨c56, hc56, h⟩ := bind_some h
   refine ⟨_, (sp_word_Join [[c53.1], e55] c56 (fun _ => hc56)), ?_⟩
   conv=>whnf
   cases h
   conv=>whnf
   exact ⟨rfl, rfl⟩
theorem sp_R23_parting (t_ : T_api_Table) (o_ : T_api_Obs) (p_ : List Int) (q_ : List Int) (r : List Int × Bool) (h : Ok (.agg (c_api_Table t_)) → Ok (.agg (c_api_Obs o_)) → Ok (nL cI p_) → Ok (nL cI q_) → R23_parting t_ o_ p_ q_ = some r) : Sp Tryz.prog 88 [.im (.agg (c_api_Table t_)), .im (.agg (c_api_Obs o_)), .im (nL cI p_), .im (nL cI q_)] (.tup [nL cI r.1, nB r.2]) := by
 refine sp_of rfl [700004, 700005] rfl rfl rfl (Nat.le_of_ble_eq_true rfl) rfl fun hk => ?_
 replace h := h hk.1 hk.2.1 hk.2.2.1 hk.2.2.2.1
 have z1 : lZ t_.Prefixes := ok_len (Ok.agg_at hk.1 1 rfl)
 have z2 : lZ t_.Suffixes := ok_len (Ok.agg_at hk.1 2 rfl)
 have z3 : lZ o_.Traces := ok_len (Ok.agg_at hk.2.1 1 rfl)
 have z4 : lZ p_ := ok_len hk.2.2.1
 have z5 : lZ q_ := ok_len hk.2.2.2.1
 unfold R23_parting at h
 conv=>whnf
 obtain ⟨oc, hc, hk51⟩ := bind_some h
 clear h
 have h := hc
 clear hc
 refine Cut.mkS oc (Y := Unit) (fun (_ : Unit) => mkSt [] [] []) (fun (_ : Unit) => True) (by rintro ⟨⟩; exact (hT)) ?_ ?_
 ·conv=>whnf
  refine Loops.iter (fun (s : Nat) => R23_parting.s14 t_ o_ p_ q_ s) (fun a306 => mkSt [(2, .im (nL cI p_)), (3, .im (nL cI q_)), (4, .im (.ref (c_api_Table t_))), (5, .im (.ref (c_api_Obs o_))), (10, .im (nI (↑a306 : Int)))] [] []) (fun a306 => lZ p_ ∧ lZ q_ ∧ True) h (eA []) (by rintro a306; exact ((Holds.avl 2 rfl).and ((Holds.avl 3 rfl).and (hT)))) ?_
  clear h
  rintro k a306 o hp h ho370
  replace h : R23_parting.s14 t_ o_ p_ q_ a306 = some o := h
  unfold R23_parting.s14 at h
  obtain ⟨z434, z435, _⟩ := hp
  conv=>whnf
  refine Both.mk ?_ ?_<;>intro b371
  ·obtain ⟨h, b371d⟩ := ctd b371 h
   conv=>whnf
   obtain ⟨c372, hc372, h⟩ := bind_some h
   refine ⟨_, (sp_R23_Joined p_ [(↑a306 : Int)] c372 (fun _ _ => hc372)), ?_⟩
   conv=>whnf
   obtain ⟨c373, hc373, h⟩ := bind_some h
   refine ⟨_, (sp_R23_row o_ t_.Suffixes c372 c373 (fun _ _ _ => hc373)), ?_⟩
   conv=>whnf
   obtain ⟨c374, hc374, h⟩ := bind_some h
   refine ⟨_, (sp_R23_Joined q_ [(↑a306 : Int)] c374 (fun _ _ => hc374)), ?_⟩
   conv=>whnf
   obtain ⟨c375, hc375, h⟩ := bind_some h
   refine ⟨_, (sp_R23_row o_ t_.Suffixes c374 c375 (fun _ _ _ => hc375)), ?_⟩
   conv=>whnf
   obtain ⟨oc, hc, hk376⟩ := bind_some h
   clear h
   have h := hc
   clear hc
   refine Cut.mkS oc (Y := Unit) (fun (_ : Unit) => mkSt [(2, .im (nL cI p_)), (3, .im (nL cI q_)), (4, .im (.ref (c_api_Table t_))), (5, .im (.ref (c_api_Obs o_))), (10, .im (nI (↑a306 : Int)))] [] []) (fun (_ : Unit) => lZ p_ ∧ lZ q_ ∧ True) (by rintro ⟨⟩; exact ((Holds.avl 2 rfl).and ((Holds.avl 3 rfl).and (hT)))) ?_ ?_
   ·conv=>whnf
    refine Loops.iter (fun (s : Nat) => R23_parting.s13 t_ a306 c373 c375 s) (fun k411 => mkSt [(2, .im (nL cI p_)), (3, .im (nL cI q_)), (4, .im (.ref (c_api_Table t_))), (5, .im (.ref (c_api_Obs o_))), (10, .im (nI (↑a306 : Int))), (11, .im (nL (cL cI) c373.1)), (13, .im (nL (cL cI) c375.1)), (15, .im (nI (↑k411 : Int)))] [] []) (fun k411 => lZ p_ ∧ lZ q_ ∧ lZ c373.1 ∧ lZ c375.1 ∧ True) h (eA []) (by rintro k411; exact ((Holds.avl 2 rfl).and ((Holds.avl 3 rfl).and ((Holds.avl 11 rfl).and ((Holds.avl 13 rfl).and (hT)))))) ?_
    clear h
    rintro k k411 o hp h ho419
    replace h : R23_parting.s13 t_ a306 c373 c375 k411 = some o := h
    unfold R23_parting.s13 at h
    obtain ⟨z427, z428, z429, z430, _⟩ := hp
    conv=>whnf
    refine Nf.mk (List.length c373.1) len_map ?_
    conv=>whnf
    refine Both.mk ?_ ?_<;>intro b420
    ·obtain ⟨h, b420d⟩ := ctd b420 h
     conv=>whnf
     obtain ⟨e421, he421, h⟩ := idxn_some h
     refine ⟨_, ⟨(by omega), map_at he421, rfl⟩, ?_⟩
     conv=>whnf
     obtain ⟨e422, he422, h⟩ := idxn_some h
     refine ⟨_, ⟨(by omega), map_at he422, rfl⟩, ?_⟩
     conv=>whnf
     obtain ⟨c423, hc423, h⟩ := bind_some h
     refine ⟨_, (sp_R06_Ints e421 e422 c423 (fun _ _ => hc423)), ?_⟩
     conv=>whnf
     refine Both.mk ?_ ?_<;>intro b424
     ·replace h := cond_t b424 h
      conv=>whnf
      obtain ⟨e425, he425, h⟩ := idxn_some h
      refine ⟨_, ⟨(by omega), map_at he425, rfl⟩, ?_⟩
      conv=>whnf
      obtain ⟨c426, hc426, h⟩ := bind_some h
      refine ⟨_, (sp_R23_Joined [(↑a306 : Int)] e425 c426 (fun _ _ => hc426)), ?_⟩
      conv=>whnf
      cases h
      have ho419 : _ = _ := ho419
      cases ho419
      replace h : some _ = some _ := hk376
      cases h
      have ho370 : _ = _ := ho370
      cases ho370
      replace h : some _ = some _ := hk51
      cases h
      conv=>whnf
      exact ⟨rfl, rfl⟩
     ·replace h := cond_f b424 h
      conv=>whnf
      refine Side.mk (by show inR _; unfold inR; omega) ?_
      conv=>whnf
      cases h
      exact Nxt.mk _ ho419 (eA [])
    ·obtain ⟨h, b420d⟩ := cfd b420 h
     conv=>whnf
     cases h
     have ho419 : _ = _ := ho419
     cases ho419
     exact JoinS.mk' _ rfl (eA [])
   ·rintro ⟨⟩ rfl hp
    replace h := sum_inl hk376
    obtain ⟨z431, z432, _⟩ := hp
    conv=>whnf
    obtain ⟨c433, h⟩ := chk_some h
    refine Side.mk c433 ?_
    conv=>whnf
    cases h
    exact Nxt.mk _ ho370 (eA [])
  ·obtain ⟨h, b371d⟩ := cfd b371 h
   conv=>whnf
   cases h
   have ho370 : _ = _ := ho370
   cases ho370
   exact JoinS.mk' _ rfl (eA [])
 ·rintro ⟨⟩ rfl hp
  replace h := sum_inl hk51
  conv=>whnf
  cases h
  conv=>whnf
  exact ⟨rfl, rfl⟩
theorem sp_R23_Inconsistent (t_ : T_api_Table) (o_ : T_api_Obs) (r : List Int × Bool × Int) (h : Ok (.agg (c_api_Table t_)) → Ok (.agg (c_api_Obs o_)) → R23_Inconsistent t_ o_ = some r) : Sp Tryz.prog 32 [.im (.agg (c_api_Table t_)), .im (.agg (c_api_Obs o_))] (.tup [nL cI r.1, nB r.2.1, nI r.2.2]) := by
 refine sp_of rfl [700002, 700003] rfl rfl rfl (Nat.le_of_ble_eq_true rfl) rfl fun hk => ?_
 replace h := h hk.1 hk.2.1
 have z1 : lZ t_.Prefixes := ok_len (Ok.agg_at hk.1 1 rfl)
 have z2 : lZ t_.Suffixes := ok_len (Ok.agg_at hk.1 2 rfl)
 have z3 : lZ o_.Traces := ok_len (Ok.agg_at hk.2.1 1 rfl)
 unfold R23_Inconsistent at h
 conv=>whnf
 obtain ⟨c51, hc51, h⟩ := bind_some h
 refine ⟨_, (sp_R23_complete t_ o_ c51 (fun _ _ => hc51)), ?_⟩
 conv=>whnf
 refine Both.mk ?_ ?_<;>intro b52
 ·obtain ⟨h, b52d⟩ := ctd b52 h
  conv=>whnf
  cases h
  conv=>whnf
  exact ⟨rfl, rfl⟩
 ·obtain ⟨h, b52d⟩ := cfd b52 h
  conv=>whnf
  obtain ⟨oc, hc, hk53⟩ := bind_some h
  clear h
  have h := hc
  clear hc
  refine Cut.mkS oc (Y := Unit) (fun (_ : Unit) => mkSt [] [] []) (fun (_ : Unit) => True) (by rintro ⟨⟩; exact (hT)) ?_ ?_
  ·conv=>whnf
   refine Loops.iter (fun (s : Nat) => R23_Inconsistent.s14 t_ o_ s) (fun i608 => mkSt [(2, .im (.ref (c_api_Table t_))), (3, .im (.ref (c_api_Obs o_))), (8, .im (nI (↑i608 : Int)))] [] []) (fun i608 => True) h (eA []) (by rintro i608; exact (hT)) ?_
   clear h
   rintro k i608 o hp h ho747
   replace h : R23_Inconsistent.s14 t_ o_ i608 = some o := h
   unfold R23_Inconsistent.s14 at h
   conv=>whnf
   refine Nf.mk (List.length t_.Prefixes) len_map ?_
   conv=>whnf
   refine Both.mk ?_ ?_<;>intro b748
   ·obtain ⟨h, b748d⟩ := ctd b748 h
    conv=>whnf
    refine Side.mk (by show inR _; unfold inR; omega) ?_
    conv=>whnf
    obtain ⟨oc, hc, hk749⟩ := bind_some h
    clear h
    have h := hc
    clear hc
    refine Cut.mkS oc (Y := Unit) (fun (_ : Unit) => mkSt [(2, .im (.ref (c_api_Table t_))), (3, .im (.ref (c_api_Obs o_))), (8, .im (nI (↑i608 : Int)))] [] []) (fun (_ : Unit) => True) (by rintro ⟨⟩; exact (hT)) ?_ ?_
    ·conv=>whnf
     refine Loops.iter (fun (s : Nat) => R23_Inconsistent.s13 t_ o_ i608 s) (fun k840 => mkSt [(2, .im (.ref (c_api_Table t_))), (3, .im (.ref (c_api_Obs o_))), (8, .im (nI (↑i608 : Int))), (9, .im (nI (↑k840 : Int)))] [] []) (fun k840 => True) h (eA []) (by rintro k840; exact (hT)) ?_
     clear h
     rintro k k840 o hp h ho863
     replace h : R23_Inconsistent.s13 t_ o_ i608 k840 = some o := h
     unfold R23_Inconsistent.s13 at h
     conv=>whnf
     refine Nf.mk (List.length t_.Prefixes) len_map ?_
     conv=>whnf
     refine Both.mk ?_ ?_<;>intro b864
     ·obtain ⟨h, b864d⟩ := ctd b864 h
      conv=>whnf
      obtain ⟨oc, hc, hk865⟩ := bind_some h
      clear h
      have h := hc
      clear hc
      refine Cut.mkS oc (Y := Unit) (fun (_ : Unit) => mkSt [(2, .im (.ref (c_api_Table t_))), (3, .im (.ref (c_api_Obs o_))), (8, .im (nI (↑i608 : Int))), (9, .im (nI (↑k840 : Int)))] [] []) (fun (_ : Unit) => True) (by rintro ⟨⟩; exact (hT)) ?_ ?_
      ·conv=>whnf
       obtain ⟨e876, he876, h⟩ := idxn_some h
       refine ⟨_, ⟨(by omega), map_at he876, rfl⟩, ?_⟩
       conv=>whnf
       obtain ⟨c877, hc877, h⟩ := bind_some h
       refine ⟨_, (sp_R23_row o_ t_.Suffixes e876 c877 (fun _ _ _ => hc877)), ?_⟩
       conv=>whnf
       obtain ⟨e878, he878, h⟩ := idxn_some h
       refine ⟨_, ⟨(by omega), map_at he878, rfl⟩, ?_⟩
       conv=>whnf
       obtain ⟨c879, hc879, h⟩ := bind_some h
       refine ⟨_, (sp_R23_row o_ t_.Suffixes e878 c879 (fun _ _ _ => hc879)), ?_⟩
       conv=>whnf
       obtain ⟨c880, hc880, h⟩ := bind_some h
       refine ⟨_, (sp_R06_Lists c877.1 c879.1 c880 (fun _ _ => hc880)), ?_⟩
       conv=>whnf
       refine Both.mk ?_ ?_<;>intro b881
       ·replace h := cond_t b881 h
        conv=>whnf
        cases h
        exact JoinS.mk' _ rfl (eA [])
       ·replace h := cond_f b881 h
        conv=>whnf
        obtain ⟨e882, he882, h⟩ := idxn_some h
        refine ⟨_, ⟨(by omega), map_at he882, rfl⟩, ?_⟩
        conv=>whnf
        obtain ⟨e883, he883, h⟩ := idxn_some h
        refine ⟨_, ⟨(by omega), map_at he883, rfl⟩, ?_⟩
        conv=>whnf
        obtain ⟨c884, hc884, h⟩ := bind_some h
        refine ⟨_, (sp_R23_parting t_ o_ e882 e883 c884 (fun _ _ _ _ => hc884)), ?_⟩
        conv=>whnf
        refine Both.mk ?_ ?_<;>intro b885
        ·replace h := cond_t b885 h
         conv=>whnf
         cases h
         replace h : some _ = some _ := hk865
         cases h
         have ho863 : _ = _ := ho863
         cases ho863
         replace h : some _ = some _ := hk749
         cases h
         have ho747 : _ = _ := ho747
         cases ho747
         replace h : some _ = some _ := hk53
         cases h
         conv=>whnf
         exact ⟨rfl, rfl⟩
        ·replace h := cond_f b885 h
         conv=>whnf
         cases h
         exact JoinS.mk' _ rfl (eA [])
      ·rintro ⟨⟩ rfl hp
       replace h := sum_inl hk865
       conv=>whnf
       refine Side.mk (by show inR _; unfold inR; omega) ?_
       conv=>whnf
       cases h
       exact Nxt.mk _ ho863 (eA [])
     ·obtain ⟨h, b864d⟩ := cfd b864 h
      conv=>whnf
      cases h
      have ho863 : _ = _ := ho863
      cases ho863
      exact JoinS.mk' _ rfl (eA [])
    ·rintro ⟨⟩ rfl hp
     replace h := sum_inl hk749
     conv=>whnf
     refine Side.mk (by show inR _; unfold inR; omega) ?_
     conv=>whnf
     cases h
     exact Nxt.mk _ ho747 (eA [])
   ·obtain ⟨h, b748d⟩ := cfd b748 h
    conv=>whnf
    cases h
    have ho747 : _ = _ := ho747
    cases ho747
    exact JoinS.mk' _ rfl (eA [])
  ·rintro ⟨⟩ rfl hp
   replace h := sum_inl hk53
   conv=>whnf
   cases h
   conv=>whnf
   exact ⟨rfl, rfl⟩
theorem sp_wordset_parts (l_ : List (List Int)) (part_ : (List Int) → Int → Option (List Int)) (f1_ : FuncId) (hf1 : ∀ x0 x1 r, part_ x0 x1 = some r → Sp Tryz.prog f1_ [.im (nL cI x0), .im (nI x1)] (.im (nL cI r))) (r : List (List Int)) (h : Ok (nL (cL cI) l_) → Ok (.fn f1_ []) → wordset_parts l_ part_ = some r) : Sp Tryz.prog 130 [.im (nL (cL cI) l_), .im (.fn f1_ [])] (.im (nL (cL cI) r)) := by
 refine sp_of rfl [] rfl rfl rfl (Nat.le_of_ble_eq_true rfl) rfl fun hk => ?_
 replace h := h hk.1 hk.2.1
 have z1 : lZ l_ := ok_len hk.1
 unfold wordset_parts at h
 conv=>whnf
 refine Nf.mk (List.length l_) len_map ?_
 conv=>whnf
 obtain ⟨y178, hc, hk51⟩ := bind_some h
 clear h
 have h := hc
 clear hc
 refine Cut.mk (mkSt [(5, .osl 64 1)] [(64, .row 38 1 (List.map (cL cI) y178))] []) (lZ y178 ∧ True) ((Holds.kdl 64 rfl).and (hT)) ?_ (fun hp => ?_)
 ·conv=>whnf
  refine Loops.iter (fun (s : List (List Int) × Nat) => wordset_parts.s14 l_ part_ s.1 s.2) (fun (y218, y219) => mkSt [(1, .im (.fn f1_ [])), (5, .osl 64 1), (9, .im (nL (cL cI) l_)), (10, .im (nI (↑(List.length l_) : Int))), (11, .im (nI (↑y219 : Int)))] [(64, .row 38 1 (List.map (cL cI) y218))] []) (fun (y218, y219) => lZ l_ ∧ lZ y218 ∧ True) h (eA [(64, none)]) (by rintro ⟨y218, y219⟩; exact ((Holds.avl 9 rfl).and ((Holds.kdl 64 rfl).and (hT)))) ?_
  clear h
  rintro k ⟨y218, y219⟩ o hp h ho261
  replace h : wordset_parts.s14 l_ part_ y218 y219 = some o := h
  unfold wordset_parts.s14 at h
  obtain ⟨z303, z304, _⟩ := hp
  conv=>whnf
  refine Both.mk ?_ ?_<;>intro b262
  ·obtain ⟨h, b262d⟩ := ctd b262 h
   conv=>whnf
   obtain ⟨e263, he263, h⟩ := idxn_some h
   refine ⟨_, ⟨(by omega), map_at he263, rfl⟩, ?_⟩
   conv=>whnf
   refine Nf.mk (List.length e263) len_map ?_
   conv=>whnf
   obtain ⟨c264, h⟩ := chk_some h
   refine Side.mk c264 ?_
   conv=>whnf
   obtain ⟨y283, hc, hk265⟩ := bind_some h
   clear h
   have h := hc
   clear hc
   refine Cut.mk (mkSt [(1, .im (.fn f1_ [])), (5, .osl 64 1), (9, .im (nL (cL cI) l_)), (10, .im (nI (↑(List.length l_) : Int))), (11, .im (nI (↑y219 : Int)))] [(64, .row 38 1 (List.map (cL cI) y283))] []) (lZ l_ ∧ lZ y283 ∧ True) ((Holds.avl 9 rfl).and ((Holds.kdl 64 rfl).and (hT))) ?_ (fun hp => ?_)
   ·conv=>whnf
    refine Loops.iter (fun (s : List (List Int) × Nat) => wordset_parts.s13 part_ e263 s.1 s.2) (fun (y287, y288) => mkSt [(1, .im (.fn f1_ [])), (5, .osl 64 1), (7, .im (nL cI e263)), (9, .im (nL (cL cI) l_)), (10, .im (nI (↑(List.length l_) : Int))), (11, .im (nI (↑y219 : Int))), (17, .im (nI ((↑(List.length e263) : Int) + 1))), (18, .im (nI (↑y288 : Int)))] [(64, .row 38 1 (List.map (cL cI) y287))] []) (fun (y287, y288) => lZ e263 ∧ lZ l_ ∧ lZ y287 ∧ True) h (eA [(64, some 64)]) (by rintro ⟨y287, y288⟩; exact ((Holds.avl 7 rfl).and ((Holds.avl 9 rfl).and ((Holds.kdl 64 rfl).and (hT))))) ?_
    clear h
    rintro k ⟨y287, y288⟩ o hp h ho293
    replace h : wordset_parts.s13 part_ e263 y287 y288 = some o := h
    unfold wordset_parts.s13 at h
    obtain ⟨z298, z299, z300, _⟩ := hp
    conv=>whnf
    refine Both.mk ?_ ?_<;>intro b294
    ·obtain ⟨h, b294d⟩ := ctd b294 h
     conv=>whnf
     obtain ⟨c295, hc295, h⟩ := bind_some h
     refine ⟨_, hf1 e263 (↑y288 : Int) c295 hc295, ?_⟩
     conv=>whnf
     obtain ⟨c296, h⟩ := chk_some h
     refine Side.mk ⟨rfl, map_len (l := [c295]) (c := cL cI) fun _ => rfl, show capOk _ 24 by simpa only [List.length_map, List.length_cons, List.length_nil, Nat.zero_add] using c296⟩ ?_
     conv=>whnf
     refine Nf.mk (List.map (cL cI) (y287 ++ [c295])) (app_map (l := y287) (m := [c295]) (c := cL cI)) ?_
     conv=>whnf
     obtain ⟨c297, h⟩ := chk_some h
     refine Side.mk c297 ?_
     conv=>whnf
     cases h
     exact Nxt.mk _ ho293 (eA [(64, some 64)])
    ·obtain ⟨h, b294d⟩ := cfd b294 h
     conv=>whnf
     cases h
     have ho293 : _ = _ := ho293
     cases ho293
     exact Join.mk (eA [(64, some 64)])
   ·replace h := hk265
    obtain ⟨z301, z302, _⟩ := hp
    conv=>whnf
    refine Side.mk (by show inR _; unfold inR; omega) ?_
    conv=>whnf
    cases h
    exact Nxt.mk _ ho261 (eA [(64, some 64)])
  ·obtain ⟨h, b262d⟩ := cfd b262 h
   conv=>whnf
   cases h
   have ho261 : _ = _ := ho261
   cases ho261
   exact Join.mk (eA [(64, some 64)])
 ·replace h := hk51
  obtain ⟨z305, _⟩ := hp
  conv=>whnf
  refine Side.mk ⟨rfl, trivial⟩ ?_
  conv=>whnf
  obtain ⟨c306, hc306, h⟩ := bind_some h
  refine ⟨_, (sp_wordset_Sorted y178 c306 (fun _ => hc306)).im, ?_⟩
  conv=>whnf
  cases h
  conv=>whnf
  exact ⟨rfl, rfl⟩
theorem sp_wordset_Prefixes_1 (w_ : List Int) (i_ : Int) (r : List Int) (h : Ok (nL cI w_) → Ok (nI i_) → wordset_Prefixes_1 w_ i_ = some r) : Sp Tryz.prog 131 [.im (nL cI w_), .im (nI i_)] (.im (nL cI r)) := by
 refine sp_of rfl [] rfl rfl rfl (Nat.le_of_ble_eq_true rfl) rfl fun hk => ?_
 replace h := h hk.1 hk.2.1
 have z1 : lZ w_ := ok_len hk.1
 unfold wordset_Prefixes_1 at h
 conv=>whnf
 obtain ⟨c51, h⟩ := chk_some h
 refine Side.mk (show (0 : Int) ≤ (0 : Int) ∧ (0 : Int) ≤ i_ ∧ i_ ≤ (↑(List.length (List.map cI w_)) : Int) ∧ (∀ e ∈ List.map cI w_, List.length e = 1) from ⟨by omega, by first | omega | (simp only [List.length_map]; omega), by first | omega | (simp only [List.length_map]; omega), map_len fun _ => rfl⟩) ?_
 conv=>whnf
 refine Nf.mk (List.map cI (List.take (Int.toNat i_) w_)) take_map ?_
 conv=>whnf
 cases h
 conv=>whnf
 exact ⟨rfl, rfl⟩
theorem sp_wordset_Prefixes (l_ : List (List Int)) (r : List (List Int)) (h : Ok (nL (cL cI) l_) → wordset_Prefixes l_ = some r) : Sp Tryz.prog 91 [.im (nL (cL cI) l_)] (.im (nL (cL cI) r)) := by
 refine sp_of rfl [] rfl rfl rfl (Nat.le_of_ble_eq_true rfl) rfl fun hk => ?_
 replace h := h hk.1
 have z1 : lZ l_ := ok_len hk.1
 unfold wordset_Prefixes at h
 conv=>whnf
 obtain ⟨c51, hc51, h⟩ := bind_some h
 refine ⟨_, (sp_wordset_parts l_ (fun u0 u1 => wordset_Prefixes_1 u0 u1) 131 (fun u0 u1 r h => (sp_wordset_Prefixes_1 u0 u1 r (fun _ _ => h))) c51 (fun _ _ => hc51)), ?_⟩
 conv=>whnf
 cases h
 conv=>whnf
 exact ⟨rfl, rfl⟩
theorem sp_slices_Concat_SSint_Sint (slices_ : List (List (List Int))) (r : List (List Int)) (h : Ok (nL (cL (cL cI)) slices_) → slices_Concat_SSint_Sint slices_ = some r) : Sp Tryz.prog 129 [.im (nL (cL (cL cI)) slices_)] (.row 38 1 (List.map (cL cI) r)) := by
 refine sp_of rfl [4025000] rfl rfl rfl (Nat.le_of_ble_eq_true rfl) rfl fun hk => ?_
 replace h := h hk.1
 have z1 : lZ slices_ := ok_len hk.1
 unfold slices_Concat_SSint_Sint at h
 conv=>whnf
 refine Nf.mk (List.length slices_) len_map ?_
 conv=>whnf
 obtain ⟨size68, hc, hk51⟩ := bind_some h
 clear h
 have h := hc
 clear hc
 refine Cut.mk (mkSt [(0, .im (nL (cL (cL cI)) slices_)), (3, .im (nI (↑size68 : Int)))] [] []) (lZ slices_ ∧ True) ((Holds.avl 0 rfl).and (hT)) ?_ (fun hp => ?_)
 ·conv=>whnf
  refine Loops.iter (fun (s : Nat × Nat) => slices_Concat_SSint_Sint.s2 slices_ s.1 s.2) (fun (size73, y74) => mkSt [(0, .im (nL (cL (cL cI)) slices_)), (3, .im (nI (↑size73 : Int))), (9, .im (nL (cL (cL cI)) slices_)), (10, .im (nI (↑(List.length slices_) : Int))), (11, .im (nI (↑y74 : Int)))] [] []) (fun (size73, y74) => lZ slices_ ∧ True) h (eA []) (by rintro ⟨size73, y74⟩; exact ((Holds.avl 0 rfl).and (hT))) ?_
  clear h
  rintro k ⟨size73, y74⟩ o hp h ho79
  replace h : slices_Concat_SSint_Sint.s2 slices_ size73 y74 = some o := h
  unfold slices_Concat_SSint_Sint.s2 at h
  obtain ⟨z84, _⟩ := hp
  conv=>whnf
  refine Both.mk ?_ ?_<;>intro b80
  ·obtain ⟨h, b80d⟩ := ctd b80 h
   conv=>whnf
   obtain ⟨e81, he81, h⟩ := idxn_some h
   refine ⟨_, ⟨(by omega), map_at he81, rfl⟩, ?_⟩
   conv=>whnf
   refine Nf.mk (List.length e81) len_map ?_
   conv=>whnf
   obtain ⟨c82, h⟩ := chk_some h
   refine Side.mk c82 ?_
   conv=>whnf
   refine Both.mk ?_ ?_<;>intro b83
   ·obtain ⟨h, b83d⟩ := ctd b83 h
    conv=>whnf
    cases h
   ·obtain ⟨h, b83d⟩ := cfd b83 h
    conv=>whnf
    refine Side.mk (by show inR _; unfold inR; omega) ?_
    conv=>whnf
    cases h
    exact Nxt.mk _ ho79 (eA [])
  ·obtain ⟨h, b80d⟩ := cfd b80 h
   conv=>whnf
   cases h
   have ho79 : _ = _ := ho79
   cases ho79
   exact Join.mk (eA [])
 ·replace h := hk51
  obtain ⟨z85, _⟩ := hp
  conv=>whnf
  obtain ⟨c86, hc86, h⟩ := bind_some h
  refine ⟨_, (sp_lib_Grow_words (↑size68 : Int) c86 (hc86)), ?_⟩
  conv=>whnf
  refine Nf.mk (List.length slices_) len_map ?_
  conv=>whnf
  obtain ⟨y102, hc, hk87⟩ := bind_some h
  clear h
  have h := hc
  clear hc
  refine Cut.mk (mkSt [(6, .osl 64 1)] [(64, .row 38 1 (List.map (cL cI) y102))] []) (lZ y102 ∧ True) ((Holds.kdl 64 rfl).and (hT)) ?_ (fun hp => ?_)
  ·conv=>whnf
   refine Loops.iter (fun (s : List (List Int) × Nat) => slices_Concat_SSint_Sint.s4 slices_ s.1 s.2) (fun (y106, y107) => mkSt [(6, .osl 64 1), (25, .im (nL (cL (cL cI)) slices_)), (26, .im (nI (↑(List.length slices_) : Int))), (27, .im (nI (↑y107 : Int)))] [(64, .row 38 1 (List.map (cL cI) y106))] []) (fun (y106, y107) => lZ slices_ ∧ lZ y106 ∧ True) h (eA [(64, some 24)]) (by rintro ⟨y106, y107⟩; exact ((Holds.avl 25 rfl).and ((Holds.kdl 64 rfl).and (hT)))) ?_
   clear h
   rintro k ⟨y106, y107⟩ o hp h ho111
   replace h : slices_Concat_SSint_Sint.s4 slices_ y106 y107 = some o := h
   unfold slices_Concat_SSint_Sint.s4 at h
   obtain ⟨z115, z116, _⟩ := hp
   conv=>whnf
   refine Both.mk ?_ ?_<;>intro b112
   ·obtain ⟨h, b112d⟩ := ctd b112 h
    conv=>whnf
    obtain ⟨e113, he113, h⟩ := idxn_some h
    refine ⟨_, ⟨(by omega), map_at he113, rfl⟩, ?_⟩
    conv=>whnf
    obtain ⟨c114, h⟩ := chk_some h
    refine Side.mk ⟨rfl, map_len (l := e113) (c := cL cI) fun _ => rfl, show capOk _ 24 by simpa only [List.length_map, List.length_cons, List.length_nil, Nat.zero_add] using c114⟩ ?_
    conv=>whnf
    refine Nf.mk (List.map (cL cI) (y106 ++ e113)) (app_map (l := y106) (m := e113) (c := cL cI)) ?_
    conv=>whnf
    refine Side.mk (by show inR _; unfold inR; omega) ?_
    conv=>whnf
    cases h
    exact Nxt.mk _ ho111 (eA [(64, some 64)])
   ·obtain ⟨h, b112d⟩ := cfd b112 h
    conv=>whnf
    cases h
    have ho111 : _ = _ := ho111
    cases ho111
    exact Join.mk (eA [(64, some 64)])
  ·replace h := hk87
   obtain ⟨z117, _⟩ := hp
   conv=>whnf
   cases h
   conv=>whnf
   exact Side.mk ⟨rfl, trivial⟩ ⟨rfl, rfl⟩
theorem sp_wordset_Union (lists_ : List (List (List Int))) (r : List (List Int)) (h : Ok (nL (cL (cL cI)) lists_) → wordset_Union lists_ = some r) : Sp Tryz.prog 90 [.im (nL (cL (cL cI)) lists_)] (.im (nL (cL cI) r)) := by
 refine sp_of rfl [] rfl rfl rfl (Nat.le_of_ble_eq_true rfl) rfl fun hk => ?_
 replace h := h hk.1
 have z1 : lZ lists_ := ok_len hk.1
 unfold wordset_Union at h
 conv=>whnf
 obtain ⟨c51, hc51, h⟩ := bind_some h
 refine ⟨_, (sp_slices_Concat_SSint_Sint lists_ c51 (fun _ => hc51)).im, ?_⟩
 conv=>whnf
 obtain ⟨c52, hc52, h⟩ := bind_some h
 refine ⟨_, (sp_wordset_Sorted c51 c52 (fun _ => hc52)).im, ?_⟩
 conv=>whnf
 cases h
 conv=>whnf
 exact ⟨rfl, rfl⟩
theorem sp_table_checked (t_ : T_api_Table) (next_ : T_api_Table) (r : T_api_Table × Int) (h : Ok (.agg (c_api_Table t_)) → Ok (.agg (c_api_Table next_)) → table_checked t_ next_ = some r) : Sp Tryz.prog 89 [.im (.agg (c_api_Table t_)), .im (.agg (c_api_Table next_))] (.tup [.agg (c_api_Table r.1), nI r.2]) := by
 refine sp_of rfl [700002, 700003] rfl rfl rfl (Nat.le_of_ble_eq_true rfl) rfl fun hk => ?_
 replace h := h hk.1 hk.2.1
 have z1 : lZ t_.Prefixes := ok_len (Ok.agg_at hk.1 1 rfl)
 have z2 : lZ t_.Suffixes := ok_len (Ok.agg_at hk.1 2 rfl)
 have z3 : lZ next_.Prefixes := ok_len (Ok.agg_at hk.2.1 1 rfl)
 have z4 : lZ next_.Suffixes := ok_len (Ok.agg_at hk.2.1 2 rfl)
 unfold table_checked at h
 conv=>whnf
 obtain ⟨c51, hc51, h⟩ := bind_some h
 refine ⟨_, (sp_table_Valid next_ c51 (fun _ => hc51)), ?_⟩
 conv=>whnf
 refine Both.mk ?_ ?_<;>intro b52
 ·obtain ⟨h, b52d⟩ := ctd b52 h
  conv=>whnf
  refine Side.mk rfl ?_
  conv=>whnf
  cases h
  conv=>whnf
  refine Side.mk ⟨rfl, trivial⟩ ?_
  conv=>whnf
  exact ⟨rfl, rfl⟩
 ·obtain ⟨h, b52d⟩ := cfd b52 h
  conv=>whnf
  refine Side.mk rfl ?_
  conv=>whnf
  cases h
  conv=>whnf
  refine Side.mk ⟨rfl, trivial⟩ ?_
  conv=>whnf
  exact ⟨rfl, rfl⟩
theorem sp_table_Prefix (t_ : T_api_Table) (w_ : List Int) (r : T_api_Table × Int) (h : Ok (.agg (c_api_Table t_)) → Ok (nL cI w_) → table_Prefix t_ w_ = some r) : Sp Tryz.prog 33 [.im (.agg (c_api_Table t_)), .im (nL cI w_)] (.tup [.agg (c_api_Table r.1), nI r.2]) := by
 refine sp_of rfl [700002] rfl rfl rfl (Nat.le_of_ble_eq_true rfl) rfl fun hk => ?_
 replace h := h hk.1 hk.2.1
 have z1 : lZ t_.Prefixes := ok_len (Ok.agg_at hk.1 1 rfl)
 have z2 : lZ t_.Suffixes := ok_len (Ok.agg_at hk.1 2 rfl)
 have z3 : lZ w_ := ok_len hk.2.1
 unfold table_Prefix at h
 conv=>whnf
 obtain ⟨c51, hc51, h⟩ := bind_some h
 refine ⟨_, (sp_table_Valid t_ c51 (fun _ => hc51)), ?_⟩
 conv=>whnf
 refine Both.mk ?_ ?_<;>intro b52
 ·obtain ⟨h, b52d⟩ := ctd b52 h
  conv=>whnf
  refine Side.mk rfl ?_
  conv=>whnf
  cases h
  conv=>whnf
  refine Side.mk ⟨rfl, trivial⟩ ?_
  conv=>whnf
  exact ⟨rfl, rfl⟩
 ·obtain ⟨h, b52d⟩ := cfd b52 h
  conv=>whnf
  obtain ⟨c53, hc53, h⟩ := bind_some h
  refine ⟨_, (sp_word_Check w_ t_.Inputs c53 (fun _ _ => hc53)), ?_⟩
  conv=>whnf
  refine Both.mk ?_ ?_<;>intro b54
  ·obtain ⟨h, b54d⟩ := ctd b54 h
   conv=>whnf
   refine Side.mk rfl ?_
   conv=>whnf
   cases h
   conv=>whnf
   refine Side.mk ⟨rfl, trivial⟩ ?_
   conv=>whnf
   exact ⟨rfl, rfl⟩
  ·obtain ⟨h, b54d⟩ := cfd b54 h
   conv=>whnf
   obtain ⟨c55, hc55, h⟩ := bind_some h
   refine ⟨_, (sp_wordset_Prefixes [w_] c55 (fun _ => hc55)), ?_⟩
   conv=>whnf
   obtain ⟨c56, hc56, h⟩ := bind_some h
   refine ⟨_, (sp_wordset_Union [t_.Prefixes, c55] c56 (fun _ => hc56)), ?_⟩
   conv=>whnf
   obtain ⟨c57, hc57, h⟩ := bind_some h
   refine ⟨_, (sp_wordset_Sorted t_.Suffixes c57 (fun _ => hc57)).im, ?_⟩
   conv=>whnf
   obtain ⟨c58, hc58, h⟩ := bind_some h
   refine ⟨_, (sp_table_checked t_ (⟨t_.Inputs, c56, c57⟩ : T_api_Table) c58 (fun _ _ => hc58)), ?_⟩
   conv=>whnf
   refine Side.mk rfl ?_
   conv=>whnf
   cases h
   conv=>whnf
   refine Side.mk ⟨rfl, trivial⟩ ?_
   conv=>whnf
   exact ⟨rfl, rfl⟩
theorem sp_R02_Prefixes (l_ : List (List Int)) (r : List (List Int)) (h : Ok (nL (cL cI) l_) → R02_Prefixes l_ = some r) : Sp Tryz.prog 94 [.im (nL (cL cI) l_)] (.row 38 1 (List.map (cL cI) r)) := by
 refine sp_of rfl [29000] rfl rfl rfl (Nat.le_of_ble_eq_true rfl) rfl fun hk => ?_
 replace h := h hk.1
 have z1 : lZ l_ := ok_len hk.1
 unfold R02_Prefixes at h
 conv=>whnf
 obtain ⟨y204, hc, hk51⟩ := bind_some h
 clear h
 have h := hc
 clear hc
 refine Cut.mk (mkSt [(3, .osl 64 1)] [(64, .row 38 1 (List.map (cL cI) y204))] []) (lZ y204 ∧ True) ((Holds.kdl 64 rfl).and (hT)) ?_ (fun hp => ?_)
 ·conv=>whnf
  refine Loops.iter (fun (s : List (List Int) × Nat) => R02_Prefixes.s14 l_ s.1 s.2) (fun (y254, i255) => mkSt [(0, .im (nL (cL cI) l_)), (3, .osl 64 1), (4, .im (nI (↑i255 : Int)))] [(64, .row 38 1 (List.map (cL cI) y254))] []) (fun (y254, i255) => lZ l_ ∧ lZ y254 ∧ True) h (eA [(64, none)]) (by rintro ⟨y254, i255⟩; exact ((Holds.avl 0 rfl).and ((Holds.kdl 64 rfl).and (hT)))) ?_
  clear h
  rintro k ⟨y254, i255⟩ o hp h ho305
  replace h : R02_Prefixes.s14 l_ y254 i255 = some o := h
  unfold R02_Prefixes.s14 at h
  obtain ⟨z355, z356, _⟩ := hp
  conv=>whnf
  refine Nf.mk (List.length l_) len_map ?_
  conv=>whnf
  refine Both.mk ?_ ?_<;>intro b306
  ·obtain ⟨h, b306d⟩ := ctd b306 h
   conv=>whnf
   obtain ⟨y330, hc, hk307⟩ := bind_some h
   clear h
   have h := hc
   clear hc
   refine Cut.mk (mkSt [(0, .im (nL (cL cI) l_)), (3, .osl 64 1), (4, .im (nI (↑i255 : Int)))] [(64, .row 38 1 (List.map (cL cI) y330))] []) (lZ l_ ∧ lZ y330 ∧ True) ((Holds.avl 0 rfl).and ((Holds.kdl 64 rfl).and (hT))) ?_ (fun hp => ?_)
   ·conv=>whnf
    refine Loops.iter (fun (s : List (List Int) × Nat) => R02_Prefixes.s13 l_ i255 s.1 s.2) (fun (y336, k337) => mkSt [(0, .im (nL (cL cI) l_)), (3, .osl 64 1), (4, .im (nI (↑i255 : Int))), (5, .im (nI (↑k337 : Int)))] [(64, .row 38 1 (List.map (cL cI) y336))] []) (fun (y336, k337) => lZ l_ ∧ lZ y336 ∧ True) h (eA [(64, some 64)]) (by rintro ⟨y336, k337⟩; exact ((Holds.avl 0 rfl).and ((Holds.kdl 64 rfl).and (hT)))) ?_
    clear h
    rintro k ⟨y336, k337⟩ o hp h ho344
    replace h : R02_Prefixes.s13 l_ i255 y336 k337 = some o := h
    unfold R02_Prefixes.s13 at h
    obtain ⟨z351, z352, _⟩ := hp
    conv=>whnf
    obtain ⟨e345, he345, h⟩ := idxn_some h
    refine ⟨_, ⟨(by omega), map_at he345, rfl⟩, ?_⟩
    conv=>whnf
    refine Nf.mk (List.length e345) len_map ?_
    conv=>whnf
    refine Both.mk ?_ ?_<;>intro b346
    ·obtain ⟨h, b346d⟩ := ctd b346 h
     conv=>whnf
     obtain ⟨e347, he347, h⟩ := idxn_some h
     refine ⟨_, ⟨(by omega), map_at he347, rfl⟩, ?_⟩
     conv=>whnf
     obtain ⟨c348, h⟩ := chk_some h
     refine Side.mk (show (0 : Int) ≤ (0 : Int) ∧ (0 : Int) ≤ (↑k337 : Int) ∧ (↑k337 : Int) ≤ (↑(List.length (List.map cI e347)) : Int) ∧ (∀ e ∈ List.map cI e347, List.length e = 1) from ⟨by omega, by first | omega | (simp only [List.length_map]; omega), by first | omega | (simp only [List.length_map]; omega), map_len fun _ => rfl⟩) ?_
     conv=>whnf
     refine Nf.mk (List.map cI (List.take k337 e347)) take_map ?_
     conv=>whnf
     refine Side.mk ⟨rfl, trivial⟩ ?_
     conv=>whnf
     obtain ⟨c349, hc349, h⟩ := bind_some h
     refine ⟨_, (sp_R02_with y336 (List.take k337 e347) c349 (fun _ _ => hc349)), ?_⟩
     conv=>whnf
     obtain ⟨c350, h⟩ := chk_some h
     refine Side.mk c350 ?_
     conv=>whnf
     cases h
     exact Nxt.mk _ ho344 (eA [(64, some 28)])
    ·obtain ⟨h, b346d⟩ := cfd b346 h
     conv=>whnf
     cases h
     have ho344 : _ = _ := ho344
     cases ho344
     exact Join.mk (eA [(64, some 64)])
   ·replace h := hk307
    obtain ⟨z353, z354, _⟩ := hp
    conv=>whnf
    refine Side.mk (by show inR _; unfold inR; omega) ?_
    conv=>whnf
    cases h
    exact Nxt.mk _ ho305 (eA [(64, some 64)])
  ·obtain ⟨h, b306d⟩ := cfd b306 h
   conv=>whnf
   cases h
   have ho305 : _ = _ := ho305
   cases ho305
   exact Join.mk (eA [(64, some 64)])
 ·replace h := hk51
  obtain ⟨z357, _⟩ := hp
  conv=>whnf
  cases h
  conv=>whnf
  exact Side.mk ⟨rfl, trivial⟩ ⟨rfl, rfl⟩
theorem sp_R23_copied (l_ : List (List Int)) (r : List (List Int)) (h : Ok (nL (cL cI) l_) → R23_copied l_ = some r) : Sp Tryz.prog 132 [.im (nL (cL cI) l_)] (.row 38 1 (List.map (cL cI) r)) := by
 refine sp_of rfl [] rfl rfl rfl (Nat.le_of_ble_eq_true rfl) rfl fun hk => ?_
 replace h := h hk.1
 have z1 : lZ l_ := ok_len hk.1
 unfold R23_copied at h
 conv=>whnf
 obtain ⟨y68, hc, hk51⟩ := bind_some h
 clear h
 have h := hc
 clear hc
 refine Cut.mk (mkSt [(3, .osl 64 1)] [(64, .row 38 1 (List.map (cL cI) y68))] []) (lZ y68 ∧ True) ((Holds.kdl 64 rfl).and (hT)) ?_ (fun hp => ?_)
 ·conv=>whnf
  refine Loops.iter (fun (s : List (List Int) × Nat) => R23_copied.s2 l_ s.1 s.2) (fun (y72, i73) => mkSt [(0, .im (nL (cL cI) l_)), (3, .osl 64 1), (4, .im (nI (↑i73 : Int)))] [(64, .row 38 1 (List.map (cL cI) y72))] []) (fun (y72, i73) => lZ l_ ∧ lZ y72 ∧ True) h (eA [(64, none)]) (by rintro ⟨y72, i73⟩; exact ((Holds.avl 0 rfl).and ((Holds.kdl 64 rfl).and (hT)))) ?_
  clear h
  rintro k ⟨y72, i73⟩ o hp h ho78
  replace h : R23_copied.s2 l_ y72 i73 = some o := h
  unfold R23_copied.s2 at h
  obtain ⟨z83, z84, _⟩ := hp
  conv=>whnf
  refine Nf.mk (List.length l_) len_map ?_
  conv=>whnf
  refine Both.mk ?_ ?_<;>intro b79
  ·obtain ⟨h, b79d⟩ := ctd b79 h
   conv=>whnf
   obtain ⟨e80, he80, h⟩ := idxn_some h
   refine ⟨_, ⟨(by omega), map_at he80, rfl⟩, ?_⟩
   conv=>whnf
   obtain ⟨c81, hc81, h⟩ := bind_some h
   refine ⟨_, (sp_R23_Joined e80 [] c81 (fun _ _ => hc81)), ?_⟩
   conv=>whnf
   obtain ⟨c82, h⟩ := chk_some h
   refine Side.mk ⟨rfl, map_len (l := [c81]) (c := cL cI) fun _ => rfl, show capOk _ 24 by simpa only [List.length_map, List.length_cons, List.length_nil, Nat.zero_add] using c82⟩ ?_
   conv=>whnf
   refine Nf.mk (List.map (cL cI) (y72 ++ [c81])) (app_map (l := y72) (m := [c81]) (c := cL cI)) ?_
   conv=>whnf
   refine Side.mk (by show inR _; unfold inR; omega) ?_
   conv=>whnf
   cases h
   exact Nxt.mk _ ho78 (eA [(64, some 64)])
  ·obtain ⟨h, b79d⟩ := cfd b79 h
   conv=>whnf
   cases h
   have ho78 : _ = _ := ho78
   cases ho78
   exact Join.mk (eA [(64, some 64)])
 ·replace h := hk51
  obtain ⟨z85, _⟩ := hp
  conv=>whnf
  cases h
  conv=>whnf
  exact Side.mk ⟨rfl, trivial⟩ ⟨rfl, rfl⟩
theorem sp_R23_With (t_ : T_api_Table) (prefixes_ : List (List Int)) (suffixes_ : List (List Int)) (r : T_api_Table) (h : Ok (.agg (c_api_Table t_)) → Ok (nL (cL cI) prefixes_) → Ok (nL (cL cI) suffixes_) → R23_With t_ prefixes_ suffixes_ = some r) : Sp Tryz.prog 93 [.im (.agg (c_api_Table t_)), .im (nL (cL cI) prefixes_), .im (nL (cL cI) suffixes_)] (.im (.agg (c_api_Table r))) := by
 refine sp_of rfl [700003] rfl rfl rfl (Nat.le_of_ble_eq_true rfl) rfl fun hk => ?_
 replace h := h hk.1 hk.2.1 hk.2.2.1
 have z1 : lZ t_.Prefixes := ok_len (Ok.agg_at hk.1 1 rfl)
 have z2 : lZ t_.Suffixes := ok_len (Ok.agg_at hk.1 2 rfl)
 have z3 : lZ prefixes_ := ok_len hk.2.1
 have z4 : lZ suffixes_ := ok_len hk.2.2.1
 unfold R23_With at h
 conv=>whnf
 obtain ⟨c51, hc51, h⟩ := bind_some h
 refine ⟨_, (sp_R23_copied t_.Prefixes c51 (fun _ => hc51)).im, ?_⟩
 conv=>whnf
 obtain ⟨c52, hc52, h⟩ := bind_some h
 refine ⟨_, (sp_R23_copied prefixes_ c52 (fun _ => hc52)).im, ?_⟩
 conv=>whnf
 obtain ⟨c53, hc53, h⟩ := bind_some h
 refine ⟨_, (sp_R02_Union [c51, c52] c53 (fun _ => hc53)), ?_⟩
 conv=>whnf
 obtain ⟨c54, hc54, h⟩ := bind_some h
 refine ⟨_, (sp_R23_copied t_.Suffixes c54 (fun _ => hc54)).im, ?_⟩
 conv=>whnf
 obtain ⟨c55, hc55, h⟩ := bind_some h
 refine ⟨_, (sp_R23_copied suffixes_ c55 (fun _ => hc55)).im, ?_⟩
 conv=>whnf
 obtain ⟨c56, hc56, h⟩ := bind_some h
 refine ⟨_, (sp_R02_Union [c54, c55] c56 (fun _ => hc56)), ?_⟩
 conv=>whnf
 refine Side.mk rfl ?_
 conv=>whnf
 cases h
 conv=>whnf
 refine Side.mk ⟨rfl, trivial⟩ ?_
 conv=>whnf
 exact ⟨rfl, rfl⟩
theorem sp_R23_Prefix (t_ : T_api_Table) (w_ : List Int) (r : T_api_Table × Int) (h : Ok (.agg (c_api_Table t_)) → Ok (nL cI w_) → R23_Prefix t_ w_ = some r) : Sp Tryz.prog 34 [.im (.agg (c_api_Table t_)), .im (nL cI w_)] (.tup [.agg (c_api_Table r.1), nI r.2]) := by
 refine sp_of rfl [700002] rfl rfl rfl (Nat.le_of_ble_eq_true rfl) rfl fun hk => ?_
 replace h := h hk.1 hk.2.1
 have z1 : lZ t_.Prefixes := ok_len (Ok.agg_at hk.1 1 rfl)
 have z2 : lZ t_.Suffixes := ok_len (Ok.agg_at hk.1 2 rfl)
 have z3 : lZ w_ := ok_len hk.2.1
 unfold R23_Prefix at h
 conv=>whnf
 obtain ⟨c51, hc51, h⟩ := bind_some h
 refine ⟨_, (sp_R23_Valid t_ c51 (fun _ => hc51)), ?_⟩
 conv=>whnf
 refine Both.mk ?_ ?_<;>intro b52
 ·obtain ⟨h, b52d⟩ := ctd b52 h
  conv=>whnf
  refine Side.mk rfl ?_
  conv=>whnf
  cases h
  conv=>whnf
  refine Side.mk ⟨rfl, trivial⟩ ?_
  conv=>whnf
  exact ⟨rfl, rfl⟩
 ·obtain ⟨h, b52d⟩ := cfd b52 h
  conv=>whnf
  obtain ⟨c53, hc53, h⟩ := bind_some h
  refine ⟨_, (sp_R01_Check w_ t_.Inputs c53 (fun _ _ => hc53)), ?_⟩
  conv=>whnf
  refine Both.mk ?_ ?_<;>intro b54
  ·obtain ⟨h, b54d⟩ := ctd b54 h
   conv=>whnf
   refine Side.mk rfl ?_
   conv=>whnf
   cases h
   conv=>whnf
   refine Side.mk ⟨rfl, trivial⟩ ?_
   conv=>whnf
   exact ⟨rfl, rfl⟩
  ·obtain ⟨h, b54d⟩ := cfd b54 h
   conv=>whnf
   obtain ⟨c55, hc55, h⟩ := bind_some h
   refine ⟨_, (sp_R02_Prefixes [w_] c55 (fun _ => hc55)).im, ?_⟩
   conv=>whnf
   obtain ⟨c56, hc56, h⟩ := bind_some h
   refine ⟨_, (sp_R23_With t_ c55 [] c56 (fun _ _ _ => hc56)), ?_⟩
   conv=>whnf
   refine Side.mk rfl ?_
   conv=>whnf
   refine Side.mk rfl ?_
   conv=>whnf
   obtain ⟨c57, hc57, h⟩ := bind_some h
   refine ⟨_, (sp_R23_Valid c56 c57 (fun _ => hc57)), ?_⟩
   conv=>whnf
   refine Both.mk ?_ ?_<;>intro b58
   ·obtain ⟨h, b58d⟩ := ctd b58 h
    conv=>whnf
    refine Side.mk rfl ?_
    conv=>whnf
    cases h
    conv=>whnf
    refine Side.mk ⟨rfl, trivial⟩ ?_
    conv=>whnf
    exact ⟨rfl, rfl⟩
   ·obtain ⟨h, b58d⟩ := cfd b58 h
    conv=>whnf
    refine Side.mk rfl ?_
    conv=>whnf
    refine Side.mk rfl ?_
    conv=>whnf
    cases h
    conv=>whnf
    refine Side.mk ⟨rfl, trivial⟩ ?_
    conv=>whnf
    exact ⟨rfl, rfl⟩
theorem sp_table_Suffix (t_ : T_api_Table) (w_ : List Int) (r : T_api_Table × Int) (h : Ok (.agg (c_api_Table t_)) → Ok (nL cI w_) → table_Suffix t_ w_ = some r) : Sp Tryz.prog 35 [.im (.agg (c_api_Table t_)), .im (nL cI w_)] (.tup [.agg (c_api_Table r.1), nI r.2]) := by
 refine sp_of rfl [700002] rfl rfl rfl (Nat.le_of_ble_eq_true rfl) rfl fun hk => ?_
 replace h := h hk.1 hk.2.1
 have z1 : lZ t_.Prefixes := ok_len (Ok.agg_at hk.1 1 rfl)
 have z2 : lZ t_.Suffixes := ok_len (Ok.agg_at hk.1 2 rfl)
 have z3 : lZ w_ := ok_len hk.2.1
 unfold table_Suffix at h
 conv=>whnf
 obtain ⟨c51, hc51, h⟩ := bind_some h
 refine ⟨_, (sp_table_Valid t_ c51 (fun _ => hc51)), ?_⟩
 conv=>whnf
 refine Both.mk ?_ ?_<;>intro b52
 ·obtain ⟨h, b52d⟩ := ctd b52 h
  conv=>whnf
  refine Side.mk rfl ?_
  conv=>whnf
  cases h
  conv=>whnf
  refine Side.mk ⟨rfl, trivial⟩ ?_
  conv=>whnf
  exact ⟨rfl, rfl⟩
 ·obtain ⟨h, b52d⟩ := cfd b52 h
  conv=>whnf
  refine Nf.mk (List.length w_) len_map ?_
  conv=>whnf
  refine Both.mk ?_ ?_<;>intro b53
  ·obtain ⟨h, b53d⟩ := ctd b53 h
   conv=>whnf
   refine Side.mk rfl ?_
   conv=>whnf
   cases h
   conv=>whnf
   refine Side.mk ⟨rfl, trivial⟩ ?_
   conv=>whnf
   exact ⟨rfl, rfl⟩
  ·obtain ⟨h, b53d⟩ := cfd b53 h
   conv=>whnf
   obtain ⟨c54, hc54, h⟩ := bind_some h
   refine ⟨_, (sp_word_Check w_ t_.Inputs c54 (fun _ _ => hc54)), ?_⟩
   conv=>whnf
   refine Both.mk ?_ ?_<;>intro b55
   ·obtain ⟨h, b55d⟩ := ctd b55 h
    conv=>whnf
    refine Side.mk rfl ?_
    conv=>whnf
    cases h
    conv=>whnf
    refine Side.mk ⟨rfl, trivial⟩ ?_
    conv=>whnf
    exact ⟨rfl, rfl⟩
   ·obtain ⟨h, b55d⟩ := cfd b55 h
    conv=>whnf
    obtain ⟨c56, hc56, h⟩ := bind_some h
    refine ⟨_, (sp_wordset_Sorted t_.Prefixes c56 (fun _ => hc56)).im, ?_⟩
    conv=>whnf
    obtain ⟨c57, hc57, h⟩ := bind_some h
    refine ⟨_, (sp_wordset_Union [t_.Suffixes, [w_]] c57 (fun _ => hc57)), ?_⟩
    conv=>whnf
    obtain ⟨c58, hc58, h⟩ := bind_some h
    refine ⟨_, (sp_table_checked t_ (⟨t_.Inputs, c56, c57⟩ : T_api_Table) c58 (fun _ _ => hc58)), ?_⟩
    conv=>whnf
    refine Side.mk rfl ?_
    conv=>whnf
    cases h
    conv=>whnf
    refine Side.mk ⟨rfl, trivial⟩ ?_
    conv=>whnf
    exact ⟨rfl, rfl⟩
theorem sp_R23_Suffix (t_ : T_api_Table) (w_ : List Int) (r : T_api_Table × Int) (h : Ok (.agg (c_api_Table t_)) → Ok (nL cI w_) → R23_Suffix t_ w_ = some r) : Sp Tryz.prog 36 [.im (.agg (c_api_Table t_)), .im (nL cI w_)] (.tup [.agg (c_api_Table r.1), nI r.2]) := by
 refine sp_of rfl [700002] rfl rfl rfl (Nat.le_of_ble_eq_true rfl) rfl fun hk => ?_
 replace h := h hk.1 hk.2.1
 have z1 : lZ t_.Prefixes := ok_len (Ok.agg_at hk.1 1 rfl)
 have z2 : lZ t_.Suffixes := ok_len (Ok.agg_at hk.1 2 rfl)
 have z3 : lZ w_ := ok_len hk.2.1
 unfold R23_Suffix at h
 conv=>whnf
 obtain ⟨c51, hc51, h⟩ := bind_some h
 refine ⟨_, (sp_R23_Valid t_ c51 (fun _ => hc51)), ?_⟩
 conv=>whnf
 refine Both.mk ?_ ?_<;>intro b52
 ·obtain ⟨h, b52d⟩ := ctd b52 h
  conv=>whnf
  refine Side.mk rfl ?_
  conv=>whnf
  cases h
  conv=>whnf
  refine Side.mk ⟨rfl, trivial⟩ ?_
  conv=>whnf
  exact ⟨rfl, rfl⟩
 ·obtain ⟨h, b52d⟩ := cfd b52 h
  conv=>whnf
  refine Nf.mk (List.length w_) len_map ?_
  conv=>whnf
  refine Both.mk ?_ ?_<;>intro b53
  ·obtain ⟨h, b53d⟩ := ctd b53 h
   conv=>whnf
   refine Side.mk rfl ?_
   conv=>whnf
   cases h
   conv=>whnf
   refine Side.mk ⟨rfl, trivial⟩ ?_
   conv=>whnf
   exact ⟨rfl, rfl⟩
  ·obtain ⟨h, b53d⟩ := cfd b53 h
   conv=>whnf
   obtain ⟨c54, hc54, h⟩ := bind_some h
   refine ⟨_, (sp_R01_Check w_ t_.Inputs c54 (fun _ _ => hc54)), ?_⟩
   conv=>whnf
   refine Both.mk ?_ ?_<;>intro b55
   ·obtain ⟨h, b55d⟩ := ctd b55 h
    conv=>whnf
    refine Side.mk rfl ?_
    conv=>whnf
    cases h
    conv=>whnf
    refine Side.mk ⟨rfl, trivial⟩ ?_
    conv=>whnf
    exact ⟨rfl, rfl⟩
   ·obtain ⟨h, b55d⟩ := cfd b55 h
    conv=>whnf
    obtain ⟨c56, hc56, h⟩ := bind_some h
    refine ⟨_, (sp_R23_With t_ [] [w_] c56 (fun _ _ _ => hc56)), ?_⟩
    conv=>whnf
    refine Side.mk rfl ?_
    conv=>whnf
    refine Side.mk rfl ?_
    conv=>whnf
    obtain ⟨c57, hc57, h⟩ := bind_some h
    refine ⟨_, (sp_R23_Valid c56 c57 (fun _ => hc57)), ?_⟩
    conv=>whnf
    refine Both.mk ?_ ?_<;>intro b58
    ·obtain ⟨h, b58d⟩ := ctd b58 h
     conv=>whnf
     refine Side.mk rfl ?_
     conv=>whnf
     cases h
     conv=>whnf
     refine Side.mk ⟨rfl, trivial⟩ ?_
     conv=>whnf
     exact ⟨rfl, rfl⟩
    ·obtain ⟨h, b58d⟩ := cfd b58 h
     conv=>whnf
     refine Side.mk rfl ?_
     conv=>whnf
     refine Side.mk rfl ?_
     conv=>whnf
     cases h
     conv=>whnf
     refine Side.mk ⟨rfl, trivial⟩ ?_
     conv=>whnf
     exact ⟨rfl, rfl⟩
theorem sp_wordset_Suffixes_1 (w_ : List Int) (i_ : Int) (r : List Int) (h : Ok (nL cI w_) → Ok (nI i_) → wordset_Suffixes_1 w_ i_ = some r) : Sp Tryz.prog 136 [.im (nL cI w_), .im (nI i_)] (.im (nL cI r)) := by
 refine sp_of rfl [] rfl rfl rfl (Nat.le_of_ble_eq_true rfl) rfl fun hk => ?_
 replace h := h hk.1 hk.2.1
 have z1 : lZ w_ := ok_len hk.1
 unfold wordset_Suffixes_1 at h
 conv=>whnf
 obtain ⟨c51, h⟩ := chk_some h
 refine Side.mk (show (0 : Int) ≤ i_ ∧ i_ ≤ (↑(List.length (List.map cI w_)) : Int) ∧ (↑(List.length (List.map cI w_)) : Int) ≤ (↑(List.length (List.map cI w_)) : Int) ∧ (∀ e ∈ List.map cI w_, List.length e = 1) from ⟨by omega, by first | omega | (simp only [List.length_map]; omega), by first | omega | (simp only [List.length_map]; omega), map_len fun _ => rfl⟩) ?_
 conv=>whnf
 refine Nf.mk (List.map cI (List.drop (Int.toNat i_) w_)) drop_map ?_
 conv=>whnf
 cases h
 conv=>whnf
 exact ⟨rfl, rfl⟩
theorem sp_wordset_Suffixes (l_ : List (List Int)) (r : List (List Int)) (h : Ok (nL (cL cI) l_) → wordset_Suffixes l_ = some r) : Sp Tryz.prog 105 [.im (nL (cL cI) l_)] (.im (nL (cL cI) r)) := by
 refine sp_of rfl [] rfl rfl rfl (Nat.le_of_ble_eq_true rfl) rfl fun hk => ?_
 replace h := h hk.1
 have z1 : lZ l_ := ok_len hk.1
 unfold wordset_Suffixes at h
 conv=>whnf
 obtain ⟨c51, hc51, h⟩ := bind_some h
 refine ⟨_, (sp_wordset_parts l_ (fun u0 u1 => wordset_Suffixes_1 u0 u1) 136 (fun u0 u1 r h => (sp_wordset_Suffixes_1 u0 u1 r (fun _ _ => h))) c51 (fun _ _ => hc51)), ?_⟩
 conv=>whnf
 cases h
 conv=>whnf
 exact ⟨rfl, rfl⟩
theorem sp_lstar_Refine (t_ : T_api_Table) (w_ : List Int) (mode_ : Int) (r : T_api_Table × Int) (h : Ok (.agg (c_api_Table t_)) → Ok (nL cI w_) → Ok (nI mode_) → lstar_Refine t_ w_ mode_ = some r) : Sp Tryz.prog 51 [.im (.agg (c_api_Table t_)), .im (nL cI w_), .im (nI mode_)] (.tup [.agg (c_api_Table r.1), nI r.2]) := by
 refine sp_of rfl [500070, 700003] rfl rfl rfl (Nat.le_of_ble_eq_true rfl) rfl fun hk => ?_
 replace h := h hk.1 hk.2.1 hk.2.2.1
 have z1 : lZ t_.Prefixes := ok_len (Ok.agg_at hk.1 1 rfl)
 have z2 : lZ t_.Suffixes := ok_len (Ok.agg_at hk.1 2 rfl)
 have z3 : lZ w_ := ok_len hk.2.1
 unfold lstar_Refine at h
 conv=>whnf
 obtain ⟨c51, hc51, h⟩ := bind_some h
 refine ⟨_, (sp_table_Valid t_ c51 (fun _ => hc51)), ?_⟩
 conv=>whnf
 refine Both.mk ?_ ?_<;>intro b52
 ·obtain ⟨h, b52d⟩ := ctd b52 h
  conv=>whnf
  refine Side.mk rfl ?_
  conv=>whnf
  cases h
  conv=>whnf
  refine Side.mk ⟨rfl, trivial⟩ ?_
  conv=>whnf
  exact ⟨rfl, rfl⟩
 ·obtain ⟨h, b52d⟩ := cfd b52 h
  conv=>whnf
  obtain ⟨c53, hc53, h⟩ := bind_some h
  refine ⟨_, (sp_word_Check w_ t_.Inputs c53 (fun _ _ => hc53)), ?_⟩
  conv=>whnf
  refine Both.mk ?_ ?_<;>intro b54
  ·obtain ⟨h, b54d⟩ := ctd b54 h
   conv=>whnf
   refine Side.mk rfl ?_
   conv=>whnf
   cases h
   conv=>whnf
   refine Side.mk ⟨rfl, trivial⟩ ?_
   conv=>whnf
   exact ⟨rfl, rfl⟩
  ·obtain ⟨h, b54d⟩ := cfd b54 h
   conv=>whnf
   refine Both.mk ?_ ?_<;>intro b55
   ·obtain ⟨h, b55d⟩ := ctd b55 h
    conv=>whnf
    obtain ⟨c56, hc56, h⟩ := bind_some h
    refine ⟨_, (sp_table_Prefix t_ w_ c56 (fun _ _ => hc56)), ?_⟩
    conv=>whnf
    refine Side.mk rfl ?_
    conv=>whnf
    cases h
    conv=>whnf
    refine Side.mk ⟨rfl, trivial⟩ ?_
    conv=>whnf
    exact ⟨rfl, rfl⟩
   ·obtain ⟨h, b55d⟩ := cfd b55 h
    conv=>whnf
    refine Both.mk ?_ ?_<;>intro b57
    ·obtain ⟨h, b57d⟩ := ctd b57 h
     conv=>whnf
     obtain ⟨c58, hc58, h⟩ := bind_some h
     refine ⟨_, (sp_wordset_Sorted t_.Prefixes c58 (fun _ => hc58)).im, ?_⟩
     conv=>whnf
     obtain ⟨c59, hc59, h⟩ := bind_some h
     refine ⟨_, (sp_wordset_Sorted t_.Suffixes c59 (fun _ => hc59)), ?_⟩
     conv=>whnf
     refine Side.mk rfl ?_
     conv=>whnf
     obtain ⟨c60, hc60, h⟩ := bind_some h
     refine ⟨_, (sp_wordset_Suffixes [w_] c60 (fun _ => hc60)), ?_⟩
     conv=>whnf
     refine Nf.mk (List.length c60) len_map ?_
     conv=>whnf
     obtain ⟨y80, hc, hk61⟩ := bind_some h
     clear h
     have h := hc
     clear hc
     refine Cut.mk (mkSt [(3, .im (.ref (c_api_Table t_))), (6, .own 77 1 0), (10, .own 78 1 0)] [(77, .box 24 3), (78, .box 24 3), (79, .row 38 1 (List.map (cL cI) y80))] [(77, 0, .im (nI 0)), (77, 1, .im (.val (.slice none 0 0))), (77, 2, .im (.val (.slice none 0 0))), (78, 0, .im (nI t_.Inputs)), (78, 1, .im (nL (cL cI) c58)), (78, 2, .osl 79 1)]) (lZ c58 ∧ lZ y80 ∧ True) ((Holds.cel 78 1 rfl (by decide) rfl).and ((Holds.kdl 79 rfl).and (hT))) ?_ (fun hp => ?_)
     ·conv=>whnf
      refine Loops.iter (fun (s : List (List Int) × Nat) => lstar_Refine.s2 c60 s.1 s.2) (fun (y85, y86) => mkSt [(3, .im (.ref (c_api_Table t_))), (6, .own 77 1 0), (10, .own 78 1 0), (49, .im (nL (cL cI) c60)), (50, .im (nI (↑(List.length c60) : Int))), (51, .im (nI (↑y86 : Int)))] [(77, .box 24 3), (78, .box 24 3), (79, .row 38 1 (List.map (cL cI) y85))] [(77, 0, .im (nI 0)), (77, 1, .im (.val (.slice none 0 0))), (77, 2, .im (.val (.slice none 0 0))), (78, 0, .im (nI t_.Inputs)), (78, 1, .im (nL (cL cI) c58)), (78, 2, .osl 79 1)]) (fun (y85, y86) => lZ c60 ∧ lZ c58 ∧ lZ y85 ∧ True) h (eA [(77, some 6), (78, some 10), (79, some 45)]) (by rintro ⟨y85, y86⟩; exact ((Holds.avl 49 rfl).and ((Holds.cel 78 1 rfl (by decide) rfl).and ((Holds.kdl 79 rfl).and (hT))))) ?_
      clear h
      rintro k ⟨y85, y86⟩ o hp h ho91
      replace h : lstar_Refine.s2 c60 y85 y86 = some o := h
      unfold lstar_Refine.s2 at h
      obtain ⟨z96, z97, z98, _⟩ := hp
      conv=>whnf
      refine Both.mk ?_ ?_<;>intro b92
      ·obtain ⟨h, b92d⟩ := ctd b92 h
       conv=>whnf
       obtain ⟨e93, he93, h⟩ := idxn_some h
       refine ⟨_, ⟨(by omega), map_at he93, rfl⟩, ?_⟩
       conv=>whnf
       refine Nf.mk (List.length e93) len_map ?_
       conv=>whnf
       refine Both.mk ?_ ?_<;>intro b94
       ·obtain ⟨h, b94d⟩ := ctd b94 h
        conv=>whnf
        refine Side.mk rfl ?_
        conv=>whnf
        refine Side.mk rfl ?_
        conv=>whnf
        obtain ⟨c95, h⟩ := chk_some h
        refine Side.mk ⟨rfl, map_len (l := [e93]) (c := cL cI) fun _ => rfl, show capOk _ 24 by simpa only [List.length_map, List.length_cons, List.length_nil, Nat.zero_add] using c95⟩ ?_
        conv=>whnf
        refine Nf.mk (List.map (cL cI) (y85 ++ [e93])) (app_map (l := y85) (m := [e93]) (c := cL cI)) ?_
        conv=>whnf
        refine Side.mk rfl ?_
        conv=>whnf
        refine Side.mk rfl ?_
        conv=>whnf
        refine Side.mk (by show inR _; unfold inR; omega) ?_
        conv=>whnf
        cases h
        exact Nxt.mk _ ho91 (eA [(77, some 77), (78, some 78), (79, some 79)])
       ·obtain ⟨h, b94d⟩ := cfd b94 h
        conv=>whnf
        refine Side.mk (by show inR _; unfold inR; omega) ?_
        conv=>whnf
        cases h
        exact Nxt.mk _ ho91 (eA [(77, some 77), (78, some 78), (79, some 79)])
      ·obtain ⟨h, b92d⟩ := cfd b92 h
       conv=>whnf
       cases h
       have ho91 : _ = _ := ho91
       cases ho91
       exact Join.mk (eA [(77, some 77), (78, some 78), (79, some 79)])
     ·replace h := hk61
      obtain ⟨z99, z100, _⟩ := hp
      conv=>whnf
      refine Side.mk rfl ?_
      conv=>whnf
      refine Side.mk rfl ?_
      conv=>whnf
      refine Side.mk ⟨rfl, trivial⟩ ?_
      conv=>whnf
      obtain ⟨c101, hc101, h⟩ := bind_some h
      refine ⟨_, (sp_wordset_Sorted y80 c101 (fun _ => hc101)), ?_⟩
      conv=>whnf
      refine Side.mk rfl ?_
      conv=>whnf
      refine Side.mk rfl ?_
      conv=>whnf
      refine Side.mk rfl ?_
      conv=>whnf
      refine Side.mk ⟨rfl, trivial⟩ ?_
      conv=>whnf
      obtain ⟨c102, hc102, h⟩ := bind_some h
      refine ⟨_, (sp_table_Valid (⟨t_.Inputs, c58, c101⟩ : T_api_Table) c102 (fun _ => hc102)), ?_⟩
      conv=>whnf
      refine Side.mk flat_one ?_
      conv=>whnf
      refine Both.mk ?_ ?_<;>intro b103
      ·obtain ⟨h, b103d⟩ := ctd b103 h
       conv=>whnf
       refine Side.mk rfl ?_
       conv=>whnf
       cases h
       conv=>whnf
       refine Side.mk ⟨rfl, trivial⟩ ?_
       conv=>whnf
       exact ⟨rfl, rfl⟩
      ·obtain ⟨h, b103d⟩ := cfd b103 h
       conv=>whnf
       refine Side.mk rfl ?_
       conv=>whnf
       refine Side.mk rfl ?_
       conv=>whnf
       cases h
       conv=>whnf
       refine Side.mk ⟨rfl, trivial⟩ ?_
       conv=>whnf
       exact Side.mk ⟨rfl, trivial⟩ ⟨rfl, rfl⟩
    ·obtain ⟨h, b57d⟩ := cfd b57 h
     conv=>whnf
     refine Side.mk rfl ?_
     conv=>whnf
     cases h
     conv=>whnf
     refine Side.mk ⟨rfl, trivial⟩ ?_
     conv=>whnf
     exact ⟨rfl, rfl⟩
theorem sp_L24_first (r : T_api_Table) (h : L24_first = some r) : Sp Tryz.prog 104 [] (.im (.agg (c_api_Table r))) := by
 refine sp_of rfl [] rfl rfl rfl (Nat.le_of_ble_eq_true rfl) rfl fun hk => ?_
 unfold L24_first at h
 conv=>whnf
 refine Side.mk rfl ?_
 conv=>whnf
 cases h
 conv=>whnf
 refine Side.mk ⟨rfl, trivial⟩ ?_
 conv=>whnf
 exact ⟨rfl, rfl⟩
theorem sp_lstar_Step (t_ : T_api_Table) (o_ : T_api_Obs) (r : T_api_Table × List (List Int) × Bool × Int) (h : Ok (.agg (c_api_Table t_)) → Ok (.agg (c_api_Obs o_)) → lstar_Step t_ o_ = some r) : Sp Tryz.prog 49 [.im (.agg (c_api_Table t_)), .im (.agg (c_api_Obs o_))] (.tup [.agg (c_api_Table r.1), nL (cL cI) r.2.1, nB r.2.2.1, nI r.2.2.2]) := by
 refine sp_of rfl [700002, 700003] rfl rfl rfl (Nat.le_of_ble_eq_true rfl) rfl fun hk => ?_
 replace h := h hk.1 hk.2.1
 have z1 : lZ t_.Prefixes := ok_len (Ok.agg_at hk.1 1 rfl)
 have z2 : lZ t_.Suffixes := ok_len (Ok.agg_at hk.1 2 rfl)
 have z3 : lZ o_.Traces := ok_len (Ok.agg_at hk.2.1 1 rfl)
 unfold lstar_Step at h
 conv=>whnf
 obtain ⟨oc, hc, hk51⟩ := bind_some h
 clear h
 have h := hc
 clear hc
 refine Cut.mkS oc (Y := Unit) (fun (_ : Unit) => mkSt [(2, .im (.ref (c_api_Table t_))), (4, .own 85 1 0)] [(85, .box 24 3)] [(85, 0, .im (nI 0)), (85, 1, .im (.val (.slice none 0 0))), (85, 2, .im (.val (.slice none 0 0)))]) (fun (_ : Unit) => True) (by rintro ⟨⟩; exact (hT)) ?_ ?_
 ·conv=>whnf
  obtain ⟨oc, hc, hk127⟩ := bind_some h
  clear h
  have h := hc
  clear hc
  refine Cut.mkS oc (Y := Unit) (fun (_ : Unit) => mkSt [(2, .im (.ref (c_api_Table t_))), (3, .im (.ref (c_api_Obs o_))), (4, .own 85 1 0)] [(85, .box 24 3)] [(85, 0, .im (nI 0)), (85, 1, .im (.val (.slice none 0 0))), (85, 2, .im (.val (.slice none 0 0)))]) (fun (_ : Unit) => True) (by rintro ⟨⟩; exact (hT)) ?_ ?_
  ·conv=>whnf
   obtain ⟨oc, hc, hk163⟩ := bind_some h
   clear h
   have h := hc
   clear hc
   refine Cut.mkS oc (Y := Unit) (fun (_ : Unit) => mkSt [(2, .im (.ref (c_api_Table t_))), (3, .im (.ref (c_api_Obs o_))), (4, .own 85 1 0)] [(85, .box 24 3)] [(85, 0, .im (nI 0)), (85, 1, .im (.val (.slice none 0 0))), (85, 2, .im (.val (.slice none 0 0)))]) (fun (_ : Unit) => True) (by rintro ⟨⟩; exact (hT)) ?_ ?_
   ·conv=>whnf
    obtain ⟨oc, hc, hk179⟩ := bind_some h
    clear h
    have h := hc
    clear hc
    refine Cut.mkS oc (Y := Unit) (fun (_ : Unit) => mkSt [(2, .im (.ref (c_api_Table t_))), (3, .im (.ref (c_api_Obs o_))), (4, .own 85 1 0)] [(85, .box 24 3)] [(85, 0, .im (nI 0)), (85, 1, .im (.val (.slice none 0 0))), (85, 2, .im (.val (.slice none 0 0)))]) (fun (_ : Unit) => True) (by rintro ⟨⟩; exact (hT)) ?_ ?_
    ·conv=>whnf
     refine Both.mk ?_ ?_<;>intro b183
     ·obtain ⟨h, b183d⟩ := ctd b183 h
      conv=>whnf
      cases h
      exact JoinS.mk' _ rfl (eA [(85, some 4)])
     ·obtain ⟨h, b183d⟩ := cfd b183 h
      conv=>whnf
      refine Both.mk ?_ ?_<;>intro b184
      ·obtain ⟨h, b184d⟩ := ctd b184 h
       conv=>whnf
       cases h
       replace h : some _ = some _ := hk179
       cases h
       exact JoinS.mk' _ rfl (eA [(85, some 4)])
      ·obtain ⟨h, b184d⟩ := cfd b184 h
       conv=>whnf
       refine Both.mk ?_ ?_<;>intro b185
       ·obtain ⟨h, b185d⟩ := ctd b185 h
        conv=>whnf
        cases h
        replace h : some _ = some _ := hk179
        cases h
        replace h : some _ = some _ := hk163
        cases h
        exact JoinS.mk' _ rfl (eA [(85, some 4)])
       ·obtain ⟨h, b185d⟩ := cfd b185 h
        conv=>whnf
        cases h
        replace h : some _ = some _ := hk179
        cases h
        replace h : some _ = some _ := hk163
        cases h
        replace h : some _ = some _ := hk127
        cases h
        exact JoinS.mk' _ rfl (eA [(85, some 4)])
    ·rintro ⟨⟩ rfl hp
     replace h := sum_inl hk179
     conv=>whnf
     obtain ⟨c186, hc186, h⟩ := bind_some h
     refine ⟨_, (sp_table_Needed t_ o_ c186 (fun _ _ => hc186)), ?_⟩
     conv=>whnf
     obtain ⟨y190, hc, hk188⟩ := bind_some h
     clear h
     have h := hc
     clear hc
     refine Cut.mk (mkSt [(2, .im (.ref (c_api_Table t_))), (3, .im (.ref (c_api_Obs o_))), (4, .own 85 1 0), (9, .im (nL (cL cI) c186.1)), (10, .im (nI c186.2)), (40, .im (nB y190))] [(85, .box 24 3)] [(85, 0, .im (nI 0)), (85, 1, .im (.val (.slice none 0 0))), (85, 2, .im (.val (.slice none 0 0)))]) (lZ c186.1 ∧ True) ((Holds.avl 9 rfl).and (hT)) ?_ (fun hp => ?_)
     ·conv=>whnf
      refine Both.mk ?_ ?_<;>intro b191
      ·replace b191 := beq_ff b191
       obtain ⟨h, b191d⟩ := cfd b191 h
       conv=>whnf
       refine Both.yes (ff_beq b191) ?_
       conv=>whnf
       refine Nf.mk (List.length c186.1) len_map ?_
       conv=>whnf
       refine Both.yes (ff_beq b191) ?_
       conv=>whnf
       refine Both.no b191 ?_
       conv=>whnf
       cases h
       exact Join.mk (eA [(85, some 85)])
      ·replace b191 := beq_ft b191
       obtain ⟨h, b191d⟩ := ctd b191 h
       conv=>whnf
       iterate 2 (refine Both.no (tf_beq b191) ?_; (conv=>whnf))
       refine Both.yes b191 ?_
       conv=>whnf
       cases h
       exact Join.mk (eA [(85, some 85)])
     ·replace h := hk188
      obtain ⟨z192, _⟩ := hp
      conv=>whnf
      refine Both.mk ?_ ?_<;>intro b193
      ·replace h := cond_t b193 h
       conv=>whnf
       refine Side.mk rfl ?_
       conv=>whnf
       cases h
       replace h : some _ = some _ := hk163
       cases h
       replace h : some _ = some _ := hk127
       cases h
       replace h : some _ = some _ := hk51
       cases h
       conv=>whnf
       refine Side.mk ⟨rfl, trivial⟩ ?_
       conv=>whnf
       exact ⟨rfl, rfl⟩
      ·replace h := cond_f b193 h
       conv=>whnf
       cases h
       exact JoinS.mk' _ rfl (eA [(85, some 85)])
   ·rintro ⟨⟩ rfl hp
    replace h := sum_inl hk163
    conv=>whnf
    obtain ⟨c194, hc194, h⟩ := bind_some h
    refine ⟨_, (sp_table_Unclosed t_ o_ c194 (fun _ _ => hc194)), ?_⟩
    conv=>whnf
    refine Both.mk ?_ ?_<;>intro b195
    ·obtain ⟨h, b195d⟩ := ctd b195 h
     conv=>whnf
     refine Side.mk rfl ?_
     conv=>whnf
     cases h
     replace h : some _ = some _ := hk127
     cases h
     replace h : some _ = some _ := hk51
     cases h
     conv=>whnf
     refine Side.mk ⟨rfl, trivial⟩ ?_
     conv=>whnf
     exact ⟨rfl, rfl⟩
    ·obtain ⟨h, b195d⟩ := cfd b195 h
     conv=>whnf
     refine Both.mk ?_ ?_<;>intro b196
     ·replace h := cond_t b196 h
      conv=>whnf
      obtain ⟨c197, hc197, h⟩ := bind_some h
      refine ⟨_, (sp_table_Prefix t_ c194.1 c197 (fun _ _ => hc197)), ?_⟩
      conv=>whnf
      refine Side.mk rfl ?_
      conv=>whnf
      refine Side.mk rfl ?_
      conv=>whnf
      refine Side.mk rfl ?_
      conv=>whnf
      cases h
      replace h : some _ = some _ := hk127
      cases h
      replace h : some _ = some _ := hk51
      cases h
      conv=>whnf
      refine Side.mk ⟨rfl, trivial⟩ ?_
      conv=>whnf
      exact ⟨rfl, rfl⟩
     ·replace h := cond_f b196 h
      conv=>whnf
      cases h
      exact JoinS.mk' _ rfl (eA [(85, some 85)])
  ·rintro ⟨⟩ rfl hp
   replace h := sum_inl hk127
   conv=>whnf
   obtain ⟨c198, hc198, h⟩ := bind_some h
   refine ⟨_, (sp_table_Inconsistent t_ o_ c198 (fun _ _ => hc198)), ?_⟩
   conv=>whnf
   refine Both.mk ?_ ?_<;>intro b199
   ·obtain ⟨h, b199d⟩ := ctd b199 h
    conv=>whnf
    refine Side.mk rfl ?_
    conv=>whnf
    cases h
    replace h : some _ = some _ := hk51
    cases h
    conv=>whnf
    refine Side.mk ⟨rfl, trivial⟩ ?_
    conv=>whnf
    exact ⟨rfl, rfl⟩
   ·obtain ⟨h, b199d⟩ := cfd b199 h
    conv=>whnf
    refine Both.mk ?_ ?_<;>intro b200
    ·replace h := cond_t b200 h
     conv=>whnf
     obtain ⟨c201, hc201, h⟩ := bind_some h
     refine ⟨_, (sp_table_Suffix t_ c198.1 c201 (fun _ _ => hc201)), ?_⟩
     conv=>whnf
     refine Side.mk rfl ?_
     conv=>whnf
     refine Side.mk rfl ?_
     conv=>whnf
     refine Side.mk rfl ?_
     conv=>whnf
     cases h
     replace h : some _ = some _ := hk51
     cases h
     conv=>whnf
     refine Side.mk ⟨rfl, trivial⟩ ?_
     conv=>whnf
     exact ⟨rfl, rfl⟩
    ·replace h := cond_f b200 h
     conv=>whnf
     cases h
     exact JoinS.mk' _ rfl (eA [(85, some 85)])
 ·rintro ⟨⟩ rfl hp
  replace h := sum_inl hk51
  conv=>whnf
  refine Side.mk rfl ?_
  conv=>whnf
  cases h
  conv=>whnf
  refine Side.mk ⟨rfl, trivial⟩ ?_
  conv=>whnf
  exact ⟨rfl, rfl⟩
theorem sp_L24_awake (r : Bool) (h : L24_awake = some r) : Sp Tryz.prog 48 [] (.im (nB r)) := by
 refine sp_of rfl [] rfl rfl rfl (Nat.le_of_ble_eq_true rfl) rfl fun hk => ?_
 unfold L24_awake at h
 conv=>whnf
 obtain ⟨c51, hc51, h⟩ := bind_some h
 refine ⟨_, (sp_L24_first  c51 (hc51)), ?_⟩
 conv=>whnf
 obtain ⟨c52, hc52, h⟩ := bind_some h
 refine ⟨_, (sp_L23_Gate  c52 (hc52)), ?_⟩
 conv=>whnf
 obtain ⟨c53, hc53, h⟩ := bind_some h
 refine ⟨_, (sp_lstar_Step c51 c52 c53 (fun _ _ => hc53)), ?_⟩
 conv=>whnf
 refine Side.mk rfl ?_
 conv=>whnf
 obtain ⟨c54, hc54, h⟩ := bind_some h
 refine ⟨_, (sp_L24_first  c54 (hc54)), ?_⟩
 conv=>whnf
 obtain ⟨c55, hc55, h⟩ := bind_some h
 refine ⟨_, (sp_lstar_Step c54 (⟨2, []⟩ : T_api_Obs) c55 (fun _ _ => hc55)), ?_⟩
 conv=>whnf
 refine Side.mk rfl ?_
 conv=>whnf
 obtain ⟨c56, hc56, h⟩ := bind_some h
 refine ⟨_, (sp_L24_first  c56 (hc56)), ?_⟩
 conv=>whnf
 obtain ⟨c57, hc57, h⟩ := bind_some h
 refine ⟨_, (sp_lstar_Refine c56 [0, 1] 0 c57 (fun _ _ _ => hc57)), ?_⟩
 conv=>whnf
 refine Side.mk rfl ?_
 conv=>whnf
 obtain ⟨c58, hc58, h⟩ := bind_some h
 refine ⟨_, (sp_L24_first  c58 (hc58)), ?_⟩
 conv=>whnf
 obtain ⟨c59, hc59, h⟩ := bind_some h
 refine ⟨_, (sp_lstar_Refine c58 [0, 1] 1 c59 (fun _ _ _ => hc59)), ?_⟩
 conv=>whnf
 refine Side.mk rfl ?_
 conv=>whnf
 obtain ⟨y70, hc, hk61⟩ := bind_some h
 clear h
 have h := hc
 clear hc
 refine Cut.mk (mkSt [(1, .own 101 1 0), (9, .own 102 1 0), (11, .own 103 1 0), (76, .im (nB y70))] [(101, .box 24 3), (102, .box 24 3), (103, .box 24 3)] [(101, 0, .im (nI c53.1.Inputs)), (101, 1, .im (nL (cL cI) c53.1.Prefixes)), (101, 2, .im (nL (cL cI) c53.1.Suffixes)), (102, 0, .im (nI c57.1.Inputs)), (102, 1, .im (nL (cL cI) c57.1.Prefixes)), (102, 2, .im (nL (cL cI) c57.1.Suffixes)), (103, 0, .im (nI c59.1.Inputs)), (103, 1, .im (nL (cL cI) c59.1.Prefixes)), (103, 2, .im (nL (cL cI) c59.1.Suffixes))]) (lZ c53.1.Prefixes ∧ lZ c53.1.Suffixes ∧ lZ c57.1.Prefixes ∧ lZ c57.1.Suffixes ∧ lZ c59.1.Prefixes ∧ lZ c59.1.Suffixes ∧ True) ((Holds.cel 101 1 rfl (by decide) rfl).and ((Holds.cel 101 2 rfl (by decide) rfl).and ((Holds.cel 102 1 rfl (by decide) rfl).and ((Holds.cel 102 2 rfl (by decide) rfl).and ((Holds.cel 103 1 rfl (by decide) rfl).and ((Holds.cel 103 2 rfl (by decide) rfl).and (hT))))))) ?_ (fun hp => ?_)
 ·conv=>whnf
  refine Both.mk ?_ ?_<;>intro b71
  ·replace b71 := beq_ff b71
   obtain ⟨h, b71d⟩ := cfd b71 h
   conv=>whnf
   refine Both.no b71 ?_
   conv=>whnf
   refine Both.mk ?_ ?_<;>intro b72
   ·replace b72 := beq_ff b72
    replace h := cond_f b72 h
    conv=>whnf
    refine Both.yes (ff_beq b72) ?_
    conv=>whnf
    refine Nf.mk (List.length c53.2.1) len_map ?_
    conv=>whnf
    refine Both.yes (ff_beq b72) ?_
    conv=>whnf
    refine Both.no b72 ?_
    conv=>whnf
    refine Both.mk ?_ ?_<;>intro b73
    ·replace b73 := beq_ff b73
     obtain ⟨h, b73d⟩ := cfd b73 h
     conv=>whnf
     refine Both.yes (ff_beq b73) ?_
     conv=>whnf
     refine Both.no b73 ?_
     conv=>whnf
     refine Both.mk ?_ ?_<;>intro b74
     ·replace b74 := beq_ff b74
      obtain ⟨h, b74d⟩ := cfd b74 h
      conv=>whnf
      refine Both.no b74 ?_
      conv=>whnf
      refine Both.mk ?_ ?_<;>intro b75
      ·replace b75 := beq_ff b75
       replace h := cond_f b75 h
       conv=>whnf
       refine Both.yes (ff_beq b75) ?_
       conv=>whnf
       refine Nf.mk (List.length c55.2.1) len_map ?_
       conv=>whnf
       refine Both.yes (ff_beq b75) ?_
       conv=>whnf
       refine Both.no b75 ?_
       conv=>whnf
       refine Both.mk ?_ ?_<;>intro b76
       ·replace b76 := beq_ff b76
        obtain ⟨h, b76d⟩ := cfd b76 h
        conv=>whnf
        refine Both.yes (ff_beq b76) ?_
        conv=>whnf
        refine Both.no b76 ?_
        conv=>whnf
        refine Both.mk ?_ ?_<;>intro b77
        ·replace b77 := beq_ff b77
         obtain ⟨h, b77d⟩ := cfd b77 h
         conv=>whnf
         refine Both.yes (ff_beq b77) ?_
         conv=>whnf
         refine Both.no b77 ?_
         conv=>whnf
         refine Both.mk ?_ ?_<;>intro b78
         ·replace b78 := beq_ff b78
          obtain ⟨h, b78d⟩ := cfd b78 h
          conv=>whnf
          refine Side.mk rfl ?_
          conv=>whnf
          refine Both.yes (ff_beq b78) ?_
          conv=>whnf
          refine Side.mk rfl ?_
          conv=>whnf
          refine Both.yes (ff_beq b78) ?_
          conv=>whnf
          refine Nf.mk (List.length c55.1.Prefixes) len_map ?_
          conv=>whnf
          refine Both.yes (ff_beq b78) ?_
          conv=>whnf
          refine Both.no b78 ?_
          conv=>whnf
          cases h
          exact Join.mk (eA [(101, some 1), (102, some 9), (103, some 11)])
         ·replace b78 := beq_ft b78
          obtain ⟨h, b78d⟩ := ctd b78 h
          conv=>whnf
          iterate 3 (refine Both.no (tf_beq b78) ?_; (conv=>whnf))
          refine Both.yes b78 ?_
          conv=>whnf
          cases h
          exact Join.mk (eA [(101, some 1), (102, some 9), (103, some 11)])
        ·replace b77 := beq_ft b77
         obtain ⟨h, b77d⟩ := ctd b77 h
         conv=>whnf
         refine Both.no (tf_beq b77) ?_
         conv=>whnf
         refine Both.yes b77 ?_
         conv=>whnf
         iterate 4 (refine Both.no rfl ?_; (conv=>whnf))
         refine Both.yes rfl ?_
         conv=>whnf
         cases h
         exact Join.mk (eA [(101, some 1), (102, some 9), (103, some 11)])
       ·replace b76 := beq_ft b76
        obtain ⟨h, b76d⟩ := ctd b76 h
        conv=>whnf
        refine Both.no (tf_beq b76) ?_
        conv=>whnf
        refine Both.yes b76 ?_
        conv=>whnf
        iterate 2 (refine Both.no rfl ?_; (conv=>whnf))
        refine Both.yes rfl ?_
        conv=>whnf
        iterate 4 (refine Both.no rfl ?_; (conv=>whnf))
        refine Both.yes rfl ?_
        conv=>whnf
        cases h
        exact Join.mk (eA [(101, some 1), (102, some 9), (103, some 11)])
      ·replace b75 := beq_ft b75
       replace h := cond_t b75 h
       conv=>whnf
       iterate 2 (refine Both.no (tf_beq b75) ?_; (conv=>whnf))
       refine Both.yes b75 ?_
       conv=>whnf
       iterate 2 (refine Both.no rfl ?_; (conv=>whnf))
       refine Both.yes rfl ?_
       conv=>whnf
       iterate 2 (refine Both.no rfl ?_; (conv=>whnf))
       refine Both.yes rfl ?_
       conv=>whnf
       iterate 4 (refine Both.no rfl ?_; (conv=>whnf))
       refine Both.yes rfl ?_
       conv=>whnf
       cases h
       exact Join.mk (eA [(101, some 1), (102, some 9), (103, some 11)])
     ·replace b74 := beq_ft b74
      obtain ⟨h, b74d⟩ := ctd b74 h
      conv=>whnf
      refine Both.yes b74 ?_
      conv=>whnf
      iterate 3 (refine Both.no rfl ?_; (conv=>whnf))
      refine Both.yes rfl ?_
      conv=>whnf
      iterate 2 (refine Both.no rfl ?_; (conv=>whnf))
      refine Both.yes rfl ?_
      conv=>whnf
      iterate 2 (refine Both.no rfl ?_; (conv=>whnf))
      refine Both.yes rfl ?_
      conv=>whnf
      iterate 4 (refine Both.no rfl ?_; (conv=>whnf))
      refine Both.yes rfl ?_
      conv=>whnf
      cases h
      exact Join.mk (eA [(101, some 1), (102, some 9), (103, some 11)])
    ·replace b73 := beq_ft b73
     obtain ⟨h, b73d⟩ := ctd b73 h
     conv=>whnf
     refine Both.no (tf_beq b73) ?_
     conv=>whnf
     refine Both.yes b73 ?_
     conv=>whnf
     refine Both.no rfl ?_
     conv=>whnf
     refine Both.yes rfl ?_
     conv=>whnf
     iterate 3 (refine Both.no rfl ?_; (conv=>whnf))
     refine Both.yes rfl ?_
     conv=>whnf
     iterate 2 (refine Both.no rfl ?_; (conv=>whnf))
     refine Both.yes rfl ?_
     conv=>whnf
     iterate 2 (refine Both.no rfl ?_; (conv=>whnf))
     refine Both.yes rfl ?_
     conv=>whnf
     iterate 4 (refine Both.no rfl ?_; (conv=>whnf))
     refine Both.yes rfl ?_
     conv=>whnf
     cases h
     exact Join.mk (eA [(101, some 1), (102, some 9), (103, some 11)])
   ·replace b72 := beq_ft b72
    replace h := cond_t b72 h
    conv=>whnf
    iterate 2 (refine Both.no (tf_beq b72) ?_; (conv=>whnf))
    refine Both.yes b72 ?_
    conv=>whnf
    iterate 2 (refine Both.no rfl ?_; (conv=>whnf))
    refine Both.yes rfl ?_
    conv=>whnf
    refine Both.no rfl ?_
    conv=>whnf
    refine Both.yes rfl ?_
    conv=>whnf
    iterate 3 (refine Both.no rfl ?_; (conv=>whnf))
    refine Both.yes rfl ?_
    conv=>whnf
    iterate 2 (refine Both.no rfl ?_; (conv=>whnf))
    refine Both.yes rfl ?_
    conv=>whnf
    iterate 2 (refine Both.no rfl ?_; (conv=>whnf))
    refine Both.yes rfl ?_
    conv=>whnf
    iterate 4 (refine Both.no rfl ?_; (conv=>whnf))
    refine Both.yes rfl ?_
    conv=>whnf
    cases h
    exact Join.mk (eA [(101, some 1), (102, some 9), (103, some 11)])
  ·replace b71 := beq_ft b71
   obtain ⟨h, b71d⟩ := ctd b71 h
   conv=>whnf
   refine Both.yes b71 ?_
   conv=>whnf
   iterate 3 (refine Both.no rfl ?_; (conv=>whnf))
   refine Both.yes rfl ?_
   conv=>whnf
   iterate 2 (refine Both.no rfl ?_; (conv=>whnf))
   refine Both.yes rfl ?_
   conv=>whnf
   refine Both.no rfl ?_
   conv=>whnf
   refine Both.yes rfl ?_
   conv=>whnf
   iterate 3 (refine Both.no rfl ?_; (conv=>whnf))
   refine Both.yes rfl ?_
   conv=>whnf
   iterate 2 (refine Both.no rfl ?_; (conv=>whnf))
   refine Both.yes rfl ?_
   conv=>whnf
   iterate 2 (refine Both.no rfl ?_; (conv=>whnf))
   refine Both.yes rfl ?_
   conv=>whnf
   iterate 4 (refine Both.no rfl ?_; (conv=>whnf))
   refine Both.yes rfl ?_
   conv=>whnf
   cases h
   exact Join.mk (eA [(101, some 1), (102, some 9), (103, some 11)])
 ·replace h := hk61
  obtain ⟨z79, z80, z81, z82, z83, z84, _⟩ := hp
  conv=>whnf
  refine Both.mk ?_ ?_<;>intro b85
  ·replace h := cond_t b85 h
   conv=>whnf
   cases h
   conv=>whnf
   exact ⟨rfl, rfl⟩
  ·replace h := cond_f b85 h
   conv=>whnf
   obtain ⟨y93, hc, hk87⟩ := bind_some h
   clear h
   have h := hc
   clear hc
   refine Cut.mk (mkSt [(0, .im (nB y93))] [] []) (True) (hT) ?_ (fun hp => ?_)
   ·conv=>whnf
    refine Side.mk rfl ?_
    conv=>whnf
    refine Side.mk rfl ?_
    conv=>whnf
    obtain ⟨c94, hc94, h⟩ := bind_some h
    refine ⟨_, (sp_R01_SameWords c53.1.Prefixes [[], [0]] c94 (fun _ _ => hc94)), ?_⟩
    conv=>whnf
    refine Both.mk ?_ ?_<;>intro b95
    ·replace b95 := beq_tt b95
     replace h := cond_t b95 h
     conv=>whnf
     refine Side.mk rfl ?_
     conv=>whnf
     refine Both.yes (tt_beq b95) ?_
     conv=>whnf
     refine Side.mk rfl ?_
     conv=>whnf
     iterate 5 (refine Both.yes (tt_beq b95) ?_; (conv=>whnf))
     obtain ⟨c96, hc96, h⟩ := bind_some h
     refine ⟨_, (sp_R01_SameWords c57.1.Prefixes [[], [0], [0, 1]] c96 (fun _ _ => hc96)), ?_⟩
     conv=>whnf
     refine Both.yes b95 ?_
     conv=>whnf
     refine Both.mk ?_ ?_<;>intro b97
     ·replace b97 := beq_tt b97
      replace h := cond_t b97 h
      conv=>whnf
      refine Side.mk rfl ?_
      conv=>whnf
      refine Both.yes (tt_beq b97) ?_
      conv=>whnf
      refine Side.mk rfl ?_
      conv=>whnf
      iterate 5 (refine Both.yes (tt_beq b97) ?_; (conv=>whnf))
      obtain ⟨c98, hc98, h⟩ := bind_some h
      refine ⟨_, (sp_R01_SameWords c59.1.Suffixes [[0], [1], [0, 1]] c98 (fun _ _ => hc98)), ?_⟩
      conv=>whnf
      refine Both.yes b97 ?_
      conv=>whnf
      cases h
      exact Join.mk (eA [])
     ·replace b97 := beq_tf b97
      replace h := cond_f b97 h
      conv=>whnf
      iterate 6 (refine Both.no (ft_beq b97) ?_; (conv=>whnf))
      refine Both.no b97 ?_
      conv=>whnf
      cases h
      exact Join.mk (eA [])
    ·replace b95 := beq_tf b95
     replace h := cond_f b95 h
     conv=>whnf
     iterate 6 (refine Both.no (ft_beq b95) ?_; (conv=>whnf))
     refine Both.no b95 ?_
     conv=>whnf
     iterate 8 (refine Both.no rfl ?_; (conv=>whnf))
     cases h
     exact Join.mk (eA [])
   ·replace h := hk87
    conv=>whnf
    cases h
    conv=>whnf
    exact ⟨rfl, rfl⟩
theorem sp_R24_Step (t_ : T_api_Table) (o_ : T_api_Obs) (r : T_api_Table × List (List Int) × Bool × Int) (h : Ok (.agg (c_api_Table t_)) → Ok (.agg (c_api_Obs o_)) → R24_Step t_ o_ = some r) : Sp Tryz.prog 50 [.im (.agg (c_api_Table t_)), .im (.agg (c_api_Obs o_))] (.tup [.agg (c_api_Table r.1), nL (cL cI) r.2.1, nB r.2.2.1, nI r.2.2.2]) := by
 refine sp_of rfl [700002, 700003] rfl rfl rfl (Nat.le_of_ble_eq_true rfl) rfl fun hk => ?_
 replace h := h hk.1 hk.2.1
 have z1 : lZ t_.Prefixes := ok_len (Ok.agg_at hk.1 1 rfl)
 have z2 : lZ t_.Suffixes := ok_len (Ok.agg_at hk.1 2 rfl)
 have z3 : lZ o_.Traces := ok_len (Ok.agg_at hk.2.1 1 rfl)
 unfold R24_Step at h
 conv=>whnf
 obtain ⟨c51, hc51, h⟩ := bind_some h
 refine ⟨_, (sp_R23_Needed t_ o_ c51 (fun _ _ => hc51)), ?_⟩
 conv=>whnf
 obtain ⟨y55, hc, hk53⟩ := bind_some h
 clear h
 have h := hc
 clear hc
 refine Cut.mk (mkSt [(2, .im (.ref (c_api_Table t_))), (3, .im (.ref (c_api_Obs o_))), (4, .own 69 1 0), (8, .im (nL (cL cI) c51.1)), (9, .im (nI c51.2)), (32, .im (nB y55))] [(69, .box 24 3)] [(69, 0, .im (nI 0)), (69, 1, .im (.val (.slice none 0 0))), (69, 2, .im (.val (.slice none 0 0)))]) (lZ c51.1 ∧ True) ((Holds.avl 8 rfl).and (hT)) ?_ (fun hp => ?_)
 ·conv=>whnf
  refine Both.mk ?_ ?_<;>intro b56
  ·replace b56 := beq_ff b56
   obtain ⟨h, b56d⟩ := cfd b56 h
   conv=>whnf
   refine Both.yes (ff_beq b56) ?_
   conv=>whnf
   refine Nf.mk (List.length c51.1) len_map ?_
   conv=>whnf
   refine Both.yes (ff_beq b56) ?_
   conv=>whnf
   refine Both.no b56 ?_
   conv=>whnf
   cases h
   exact Join.mk (eA [(69, some 4)])
  ·replace b56 := beq_ft b56
   obtain ⟨h, b56d⟩ := ctd b56 h
   conv=>whnf
   iterate 2 (refine Both.no (tf_beq b56) ?_; (conv=>whnf))
   refine Both.yes b56 ?_
   conv=>whnf
   cases h
   exact Join.mk (eA [(69, some 4)])
 ·replace h := hk53
  obtain ⟨z57, _⟩ := hp
  conv=>whnf
  refine Both.mk ?_ ?_<;>intro b58
  ·replace h := cond_t b58 h
   conv=>whnf
   refine Side.mk rfl ?_
   conv=>whnf
   cases h
   conv=>whnf
   refine Side.mk ⟨rfl, trivial⟩ ?_
   conv=>whnf
   exact ⟨rfl, rfl⟩
  ·replace h := cond_f b58 h
   conv=>whnf
   obtain ⟨c59, hc59, h⟩ := bind_some h
   refine ⟨_, (sp_R23_Unclosed t_ o_ c59 (fun _ _ => hc59)), ?_⟩
   conv=>whnf
   refine Both.mk ?_ ?_<;>intro b60
   ·replace h := cond_t b60 h
    conv=>whnf
    obtain ⟨c61, hc61, h⟩ := bind_some h
    refine ⟨_, (sp_R23_Prefix t_ c59.1 c61 (fun _ _ => hc61)), ?_⟩
    conv=>whnf
    refine Side.mk rfl ?_
    conv=>whnf
    refine Side.mk rfl ?_
    conv=>whnf
    refine Side.mk rfl ?_
    conv=>whnf
    cases h
    conv=>whnf
    refine Side.mk ⟨rfl, trivial⟩ ?_
    conv=>whnf
    exact ⟨rfl, rfl⟩
   ·replace h := cond_f b60 h
    conv=>whnf
    obtain ⟨c62, hc62, h⟩ := bind_some h
    refine ⟨_, (sp_R23_Inconsistent t_ o_ c62 (fun _ _ => hc62)), ?_⟩
    conv=>whnf
    refine Both.mk ?_ ?_<;>intro b63
    ·replace h := cond_t b63 h
     conv=>whnf
     obtain ⟨c64, hc64, h⟩ := bind_some h
     refine ⟨_, (sp_R23_Suffix t_ c62.1 c64 (fun _ _ => hc64)), ?_⟩
     conv=>whnf
     refine Side.mk rfl ?_
     conv=>whnf
     refine Side.mk rfl ?_
     conv=>whnf
     refine Side.mk rfl ?_
     conv=>whnf
     cases h
     conv=>whnf
     refine Side.mk ⟨rfl, trivial⟩ ?_
     conv=>whnf
     exact ⟨rfl, rfl⟩
    ·replace h := cond_f b63 h
     conv=>whnf
     refine Side.mk rfl ?_
     conv=>whnf
     cases h
     conv=>whnf
     refine Side.mk ⟨rfl, trivial⟩ ?_
     conv=>whnf
     exact ⟨rfl, rfl⟩
theorem sp_L24_LstarSteps (t_ : T_api_Table) (o_ : T_api_Obs) (r : Bool) (h : Ok (.agg (c_api_Table t_)) → Ok (.agg (c_api_Obs o_)) → L24_LstarSteps t_ o_ = some r) : Sp Tryz.prog 11 [.im (.agg (c_api_Table t_)), .im (.agg (c_api_Obs o_))] (.im (nB r)) := by
 refine sp_of rfl [700002, 700003] rfl rfl rfl (Nat.le_of_ble_eq_true rfl) rfl fun hk => ?_
 replace h := h hk.1 hk.2.1
 have z1 : lZ t_.Prefixes := ok_len (Ok.agg_at hk.1 1 rfl)
 have z2 : lZ t_.Suffixes := ok_len (Ok.agg_at hk.1 2 rfl)
 have z3 : lZ o_.Traces := ok_len (Ok.agg_at hk.2.1 1 rfl)
 unfold L24_LstarSteps at h
 conv=>whnf
 obtain ⟨y56, hc, hk52⟩ := bind_some h
 clear h
 have h := hc
 clear hc
 refine Cut.mk (mkSt [(2, .im (.ref (c_api_Table t_))), (3, .im (.ref (c_api_Obs o_))), (20, .im (nB y56))] [] []) (True) (hT) ?_ (fun hp => ?_)
 ·conv=>whnf
  obtain ⟨c57, hc57, h⟩ := bind_some h
  refine ⟨_, (sp_L23_Great t_ o_ c57 (fun _ _ => hc57)), ?_⟩
  conv=>whnf
  refine Both.mk ?_ ?_<;>intro b58
  ·replace b58 := beq_ff b58
   replace h := cond_f b58 h
   conv=>whnf
   refine Both.yes (ff_beq b58) ?_
   conv=>whnf
   obtain ⟨c59, hc59, h⟩ := bind_some h
   refine ⟨_, (sp_R16_Valid o_ c59 (fun _ => hc59)), ?_⟩
   conv=>whnf
   refine Both.yes (ff_beq b58) ?_
   conv=>whnf
   refine Both.no b58 ?_
   conv=>whnf
   cases h
   exact Join.mk (eA [])
  ·replace b58 := beq_ft b58
   replace h := cond_t b58 h
   conv=>whnf
   iterate 2 (refine Both.no (tf_beq b58) ?_; (conv=>whnf))
   refine Both.yes b58 ?_
   conv=>whnf
   cases h
   exact Join.mk (eA [])
 ·replace h := hk52
  conv=>whnf
  refine Both.mk ?_ ?_<;>intro b60
  ·replace h := cond_t b60 h
   conv=>whnf
   obtain ⟨c61, hc61, h⟩ := bind_some h
   refine ⟨_, (sp_L24_awake  c61 (hc61)), ?_⟩
   conv=>whnf
   cases h
   conv=>whnf
   exact ⟨rfl, rfl⟩
  ·replace h := cond_f b60 h
   conv=>whnf
   obtain ⟨c62, hc62, h⟩ := bind_some h
   refine ⟨_, (sp_lstar_Step t_ o_ c62 (fun _ _ => hc62)), ?_⟩
   conv=>whnf
   refine Side.mk rfl ?_
   conv=>whnf
   obtain ⟨c63, hc63, h⟩ := bind_some h
   refine ⟨_, (sp_R24_Step t_ o_ c63 (fun _ _ => hc63)), ?_⟩
   conv=>whnf
   refine Side.mk rfl ?_
   conv=>whnf
   obtain ⟨y73, hc, hk65⟩ := bind_some h
   clear h
   have h := hc
   clear hc
   refine Cut.mk (mkSt [(4, .im (nB y73))] [] []) (True) (hT) ?_ (fun hp => ?_)
   ·conv=>whnf
    refine Side.mk rfl ?_
    conv=>whnf
    refine Side.mk rfl ?_
    conv=>whnf
    obtain ⟨c74, hc74, h⟩ := bind_some h
    refine ⟨_, (sp_R23_Same c62.1 c63.1 c74 (fun _ _ => hc74)), ?_⟩
    conv=>whnf
    refine Both.mk ?_ ?_<;>intro b75
    ·replace b75 := beq_tt b75
     replace h := cond_t b75 h
     conv=>whnf
     iterate 2 (refine Both.yes (tt_beq b75) ?_; (conv=>whnf))
     obtain ⟨c76, hc76, h⟩ := bind_some h
     refine ⟨_, (sp_R01_SameWords c62.2.1 c63.2.1 c76 (fun _ _ => hc76)), ?_⟩
     conv=>whnf
     refine Both.yes b75 ?_
     conv=>whnf
     refine Both.mk ?_ ?_<;>intro b77
     ·replace b77 := beq_tt b77
      replace h := cond_t b77 h
      conv=>whnf
      iterate 2 (refine Both.yes (tt_beq b77) ?_; (conv=>whnf))
      refine Both.yes b77 ?_
      conv=>whnf
      refine Both.mk ?_ ?_<;>intro b78
      ·replace b78 := beq_tt b78
       replace h := cond_t b78 h
       conv=>whnf
       iterate 2 (refine Both.yes (tt_beq b78) ?_; (conv=>whnf))
       refine Both.yes b78 ?_
       conv=>whnf
       refine Both.mk ?_ ?_<;>intro b79
       ·replace b79 := beq_tt b79
        obtain ⟨h, b79d⟩ := ctd b79 h
        conv=>whnf
        obtain ⟨c80, hc80, h⟩ := bind_some h
        refine ⟨_, (sp_L24_awake  c80 (hc80)), ?_⟩
        conv=>whnf
        refine Both.yes b79 ?_
        conv=>whnf
        cases h
        exact Join.mk (eA [])
       ·replace b79 := beq_tf b79
        obtain ⟨h, b79d⟩ := cfd b79 h
        conv=>whnf
        refine Both.no b79 ?_
        conv=>whnf
        cases h
        exact Join.mk (eA [])
      ·replace b78 := beq_tf b78
       replace h := cond_f b78 h
       conv=>whnf
       iterate 2 (refine Both.no (ft_beq b78) ?_; (conv=>whnf))
       refine Both.no b78 ?_
       conv=>whnf
       iterate 2 (refine Both.no rfl ?_; (conv=>whnf))
       cases h
       exact Join.mk (eA [])
     ·replace b77 := beq_tf b77
      replace h := cond_f b77 h
      conv=>whnf
      iterate 2 (refine Both.no (ft_beq b77) ?_; (conv=>whnf))
      refine Both.no b77 ?_
      conv=>whnf
      iterate 6 (refine Both.no rfl ?_; (conv=>whnf))
      cases h
      exact Join.mk (eA [])
    ·replace b75 := beq_tf b75
     replace h := cond_f b75 h
     conv=>whnf
     iterate 2 (refine Both.no (ft_beq b75) ?_; (conv=>whnf))
     refine Both.no b75 ?_
     conv=>whnf
     iterate 10 (refine Both.no rfl ?_; (conv=>whnf))
     cases h
     exact Join.mk (eA [])
   ·replace h := hk65
    conv=>whnf
    cases h
    conv=>whnf
    exact ⟨rfl, rfl⟩
end Go.Proofs.YtpmebphhbgpapaaGreatDoor.Sym
