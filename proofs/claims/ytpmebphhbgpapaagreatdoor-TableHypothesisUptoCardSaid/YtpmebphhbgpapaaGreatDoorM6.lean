/-
  The contracts of the functions, read from the code by a program (ext.py): each function has its plain twin as its contract.
-/
import Derived.Test.YtpmebphhbgpapaaGreatDoorM5
set_option linter.all false
namespace Go.Proofs.YtpmebphhbgpapaaGreatDoor.Sym
open Go.RowKit
set_option maxRecDepth 100000
set_option linter.unusedVariables false
set_option maxHeartbeats 4000000
theorem sp_R01_Join (parts_ : List (List Int)) (r : List Int) (h : Ok (nL (cL cI) parts_) → R01_Join parts_ = some r) : Sp Tryz.prog 102 [.im (nL (cL cI) parts_)] (.row 3 1 (List.map cI r)) := by
 refine sp_of rfl [] rfl rfl rfl (Nat.le_of_ble_eq_true rfl) rfl fun hk => ?_
 replace h := h hk.1
 have z1 : List.length parts_ ≤ 17592186044416 := ok_len hk.1
 unfold R01_Join at h
 conv=>whnf
 obtain ⟨y66, hc, hk51⟩ := bind_some h
 clear h
 have h := hc
 clear hc
 refine Cut.mk (mkSt [(3, .osl 64 1)] [(64, .row 3 1 (List.map cI y66))] []) (List.length y66 ≤ 17592186044416 ∧ True) ((Holds.kdl 64 rfl).and (Holds.true_ _)) ?_ (fun hp => ?_)
 ·conv=>whnf
  refine Loops.iter (fun (s : List Int × Nat) => R01_Join.s2 parts_ s.1 s.2) (fun (y70, i71) => mkSt [(0, .im (nL (cL cI) parts_)), (3, .osl 64 1), (4, .im (nI (↑i71 : Int)))] [(64, .row 3 1 (List.map cI y70))] []) (fun (y70, i71) => List.length parts_ ≤ 17592186044416 ∧ List.length y70 ≤ 17592186044416 ∧ True) h (Ent.mk [(64, none)] rfl ⟨eI rfl rfl, ⟨.im (.val (.slice none 0 0)), rfl, .made rfl rfl⟩, eI rfl rfl, trivial⟩ ⟨.inr ⟨rfl, rfl, .inl ⟨_, _, rfl, by decide⟩⟩, trivial⟩ trivial) (by rintro ⟨y70, i71⟩; exact ((Holds.avl 0 rfl).and ((Holds.kdl 64 rfl).and (Holds.true_ _)))) ?_
  clear h
  rintro k ⟨y70, i71⟩ o hp h ho75
  replace h : R01_Join.s2 parts_ y70 i71 = some o := h
  unfold R01_Join.s2 at h
  obtain ⟨z79, z80, _⟩ := hp
  conv=>whnf
  refine Nf.mk (List.length parts_) len_map ?_
  conv=>whnf
  refine Both.mk ?_ ?_<;>intro b76
  ·replace h := cond_t b76 h
   have b76d := odt b76
   conv=>whnf
   obtain ⟨e77, he77, h⟩ := idxn_some h
   refine ⟨_, ⟨(by omega), map_at he77, rfl⟩, ?_⟩
   conv=>whnf
   obtain ⟨c78, h⟩ := chk_some h
   refine Side.mk ⟨rfl, map_len (l := e77) (c := cI) fun _ => rfl, show capOk _ 8 by simpa only [List.length_map, List.length_cons, List.length_nil, Nat.zero_add] using c78⟩ ?_
   conv=>whnf
   refine Nf.mk (List.map cI (y70 ++ e77)) (app_map (l := y70) (m := e77) (c := cI)) ?_
   conv=>whnf
   refine Side.mk (by show inR _; unfold inR; omega) ?_
   conv=>whnf
   cases h
   exact Nxt.mk _ ho75 (Ent.mk [(64, some 64)] rfl ⟨eI rfl rfl, ⟨.osl 64 _, rfl, .osl rfl rfl rfl⟩, eI rfl rfl, trivial⟩ ⟨.inl ⟨64, rfl, rfl, trivial⟩, trivial⟩ trivial)
  ·replace h := cond_f b76 h
   have b76d := odf b76
   conv=>whnf
   cases h
   have ho75 : _ = _ := ho75
   cases ho75
   exact Join.mk (Ent.mk [(64, some 64)] rfl ⟨⟨.osl 64 _, rfl, .osl rfl rfl rfl⟩, trivial⟩ ⟨.inl ⟨64, rfl, rfl, trivial⟩, trivial⟩ trivial)
 ·replace h := hk51
  obtain ⟨z81, _⟩ := hp
  conv=>whnf
  cases h
  conv=>whnf
  exact Side.mk ⟨rfl, trivial⟩ ⟨rfl, rfl⟩
theorem sp_R23_Joined (u_ : List Int) (v_ : List Int) (r : List Int) (h : Ok (nL cI u_) → Ok (nL cI v_) → R23_Joined u_ v_ = some r) : Sp Tryz.prog 77 [.im (nL cI u_), .im (nL cI v_)] (.im (nL cI r)) := by
 refine sp_of rfl [] rfl rfl rfl (Nat.le_of_ble_eq_true rfl) rfl fun hk => ?_
 replace h := h hk.1 hk.2.1
 have z1 : List.length u_ ≤ 17592186044416 := ok_len hk.1
 have z2 : List.length v_ ≤ 17592186044416 := ok_len hk.2.1
 unfold R23_Joined at h
 conv=>whnf
 obtain ⟨c51, hc51, h⟩ := bind_some h
 refine ⟨_, (sp_R01_Join [u_, v_] c51 (fun _ => hc51)).im, ?_⟩
 conv=>whnf
 cases h
 conv=>whnf
 exact ⟨rfl, rfl⟩
theorem sp_R01_HasPrefix (w_ : List Int) (p_ : List Int) (r : Bool) (h : Ok (nL cI w_) → Ok (nL cI p_) → R01_HasPrefix w_ p_ = some r) : Sp Tryz.prog 114 [.im (nL cI w_), .im (nL cI p_)] (.im (nB r)) := by
 refine sp_of rfl [] rfl rfl rfl (Nat.le_of_ble_eq_true rfl) rfl fun hk => ?_
 replace h := h hk.1 hk.2.1
 have z1 : List.length w_ ≤ 17592186044416 := ok_len hk.1
 have z2 : List.length p_ ≤ 17592186044416 := ok_len hk.2.1
 unfold R01_HasPrefix at h
 conv=>whnf
 obtain ⟨c51, hc51, h⟩ := bind_some h
 refine ⟨_, (sp_R01_Common w_ p_ c51 (fun _ _ => hc51)), ?_⟩
 conv=>whnf
 refine Nf.mk (List.length p_) len_map ?_
 conv=>whnf
 cases h
 conv=>whnf
 exact ⟨rfl, rfl⟩
theorem sp_R16_Answer (o_ : T_api_Obs) (w_ : List Int) (r : List Int × Bool) (h : Ok (.agg (c_api_Obs o_)) → Ok (nL cI w_) → R16_Answer o_ w_ = some r) : Sp Tryz.prog 78 [.im (.agg (c_api_Obs o_)), .im (nL cI w_)] (.tup [nL cI r.1, nB r.2]) := by
 refine sp_of rfl [700002] rfl rfl rfl (Nat.le_of_ble_eq_true rfl) rfl fun hk => ?_
 replace h := h hk.1 hk.2.1
 have z1 : List.length o_.Traces ≤ 17592186044416 := ok_len (Ok.agg_at hk.1 1 rfl)
 have z2 : List.length w_ ≤ 17592186044416 := ok_len hk.2.1
 unfold R16_Answer at h
 conv=>whnf
 refine Nf.mk (List.length w_) len_map ?_
 conv=>whnf
 refine Both.mk ?_ ?_<;>intro b51
 ·replace h := cond_t b51 h
  have b51d := odt b51
  conv=>whnf
  cases h
  conv=>whnf
  exact ⟨rfl, rfl⟩
 ·replace h := cond_f b51 h
  have b51d := odf b51
  conv=>whnf
  obtain ⟨oc, hc, hk52⟩ := bind_some h
  clear h
  have h := hc
  clear hc
  refine Cut.mkS oc (Y := Unit) (fun (_ : Unit) => mkSt [] [] []) (fun (_ : Unit) => True) (by rintro ⟨⟩; exact (Holds.true_ _)) ?_ ?_
  ·conv=>whnf
   refine Loops.iter (fun (s : Nat) => R16_Answer.s2 o_ w_ s) (fun i84 => mkSt [(1, .im (nL cI w_)), (2, .im (.ref (c_api_Obs o_))), (6, .im (nI (↑i84 : Int)))] [] []) (fun i84 => List.length w_ ≤ 17592186044416 ∧ True) h (Ent.mk [] rfl ⟨eI rfl rfl, eI rfl rfl, eI rfl rfl, trivial⟩ trivial trivial) (by rintro i84; exact ((Holds.avl 1 rfl).and (Holds.true_ _))) ?_
   clear h
   rintro k i84 o hp h ho92
   replace h : R16_Answer.s2 o_ w_ i84 = some o := h
   unfold R16_Answer.s2 at h
   obtain ⟨z100, _⟩ := hp
   conv=>whnf
   refine Nf.mk (List.length o_.Traces) len_map ?_
   conv=>whnf
   refine Both.mk ?_ ?_<;>intro b93
   ·replace h := cond_t b93 h
    have b93d := odt b93
    conv=>whnf
    obtain ⟨e94, he94, h⟩ := idxn_some h
    refine ⟨_, ⟨(by omega), map_at he94, rfl⟩, ?_⟩
    conv=>whnf
    obtain ⟨c95, hc95, h⟩ := bind_some h
    refine ⟨_, (sp_R01_HasPrefix e94.In w_ c95 (fun _ _ => hc95)), ?_⟩
    conv=>whnf
    refine Both.mk ?_ ?_<;>intro b96
    ·replace h := cond_t b96 h
     conv=>whnf
     obtain ⟨e97, he97, h⟩ := idxn_some h
     refine ⟨_, ⟨(by omega), map_at he97, rfl⟩, ?_⟩
     conv=>whnf
     refine Nf.mk (List.length w_) len_map ?_
     conv=>whnf
     obtain ⟨c98, h⟩ := chk_some h
     refine Side.mk (show (0 : Int) ≤ (0 : Int) ∧ (0 : Int) ≤ (↑(List.length w_) : Int) ∧ (↑(List.length w_) : Int) ≤ (↑(List.length (List.map cI e97.Out)) : Int) ∧ (∀ e ∈ List.map cI e97.Out, List.length e = 1) from ⟨by omega, by first | omega | (simp only [List.length_map]; omega), by first | omega | (simp only [List.length_map]; omega), map_len fun _ => rfl⟩) ?_
     conv=>whnf
     refine Nf.mk (List.map cI (List.take (List.length w_) e97.Out)) take_map ?_
     conv=>whnf
     obtain ⟨c99, hc99, h⟩ := bind_some h
     refine ⟨_, (sp_R01_Join [(List.take (List.length w_) e97.Out)] c99 (fun _ => hc99)).im, ?_⟩
     conv=>whnf
     cases h
     have ho92 : _ = _ := ho92
     cases ho92
     replace h : some _ = some _ := hk52
     cases h
     conv=>whnf
     exact ⟨rfl, rfl⟩
    ·replace h := cond_f b96 h
     conv=>whnf
     refine Side.mk (by show inR _; unfold inR; omega) ?_
     conv=>whnf
     cases h
     exact Nxt.mk _ ho92 (Ent.mk [] rfl ⟨eI rfl rfl, eI rfl rfl, eI rfl rfl, trivial⟩ trivial trivial)
   ·replace h := cond_f b93 h
    have b93d := odf b93
    conv=>whnf
    cases h
    have ho92 : _ = _ := ho92
    cases ho92
    exact JoinS.mk' _ rfl (Ent.mk [] rfl trivial trivial trivial)
  ·rintro ⟨⟩ rfl hp
   replace h := sum_inl hk52
   conv=>whnf
   cases h
   conv=>whnf
   exact ⟨rfl, rfl⟩
theorem sp_R23_After (o_ : T_api_Obs) (w_ : List Int) (e_ : List Int) (r : List Int × Bool) (h : Ok (.agg (c_api_Obs o_)) → Ok (nL cI w_) → Ok (nL cI e_) → R23_After o_ w_ e_ = some r) : Sp Tryz.prog 124 [.im (.agg (c_api_Obs o_)), .im (nL cI w_), .im (nL cI e_)] (.tup [nL cI r.1, nB r.2]) := by
 refine sp_of rfl [700003] rfl rfl rfl (Nat.le_of_ble_eq_true rfl) rfl fun hk => ?_
 replace h := h hk.1 hk.2.1 hk.2.2.1
 have z1 : List.length o_.Traces ≤ 17592186044416 := ok_len (Ok.agg_at hk.1 1 rfl)
 have z2 : List.length w_ ≤ 17592186044416 := ok_len hk.2.1
 have z3 : List.length e_ ≤ 17592186044416 := ok_len hk.2.2.1
 unfold R23_After at h
 conv=>whnf
 obtain ⟨c51, hc51, h⟩ := bind_some h
 refine ⟨_, (sp_R23_Joined w_ e_ c51 (fun _ _ => hc51)), ?_⟩
 conv=>whnf
 obtain ⟨c52, hc52, h⟩ := bind_some h
 refine ⟨_, (sp_R16_Answer o_ c51 c52 (fun _ _ => hc52)), ?_⟩
 conv=>whnf
 refine Both.mk ?_ ?_<;>intro b53
 ·replace h := cond_t b53 h
  conv=>whnf
  cases h
  conv=>whnf
  exact ⟨rfl, rfl⟩
 ·replace h := cond_f b53 h
  conv=>whnf
  refine Nf.mk (List.length w_) len_map ?_
  conv=>whnf
  obtain ⟨c54, h⟩ := chk_some h
  refine Side.mk (show (0 : Int) ≤ (↑(List.length w_) : Int) ∧ (↑(List.length w_) : Int) ≤ (↑(List.length (List.map cI c52.1)) : Int) ∧ (↑(List.length (List.map cI c52.1)) : Int) ≤ (↑(List.length (List.map cI c52.1)) : Int) ∧ (∀ e ∈ List.map cI c52.1, List.length e = 1) from ⟨by omega, by first | omega | (simp only [List.length_map]; omega), by first | omega | (simp only [List.length_map]; omega), map_len fun _ => rfl⟩) ?_
  conv=>whnf
  refine Nf.mk (List.map cI (List.drop (List.length w_) c52.1)) drop_map ?_
  conv=>whnf
  cases h
  conv=>whnf
  exact ⟨rfl, rfl⟩
theorem sp_R23_row (o_ : T_api_Obs) (suffixes_ : List (List Int)) (w_ : List Int) (r : List (List Int) × Bool) (h : Ok (.agg (c_api_Obs o_)) → Ok (nL (cL cI) suffixes_) → Ok (nL cI w_) → R23_row o_ suffixes_ w_ = some r) : Sp Tryz.prog 81 [.im (.agg (c_api_Obs o_)), .im (nL (cL cI) suffixes_), .im (nL cI w_)] (.tup [nL (cL cI) r.1, nB r.2]) := by
 refine sp_of rfl [700003] rfl rfl rfl (Nat.le_of_ble_eq_true rfl) rfl fun hk => ?_
 replace h := h hk.1 hk.2.1 hk.2.2.1
 have z1 : List.length o_.Traces ≤ 17592186044416 := ok_len (Ok.agg_at hk.1 1 rfl)
 have z2 : List.length suffixes_ ≤ 17592186044416 := ok_len hk.2.1
 have z3 : List.length w_ ≤ 17592186044416 := ok_len hk.2.2.1
 unfold R23_row at h
 conv=>whnf
 obtain ⟨oc, hc, hk51⟩ := bind_some h
 clear h
 have h := hc
 clear hc
 refine Cut.mkS oc (Y := List (List Int)) (fun y72 => mkSt [(8, .osl 64 1)] [(64, .row 38 1 (List.map (cL cI) y72))] []) (fun y72 => List.length y72 ≤ 17592186044416 ∧ True) (by rintro y72; exact ((Holds.kdl 64 rfl).and (Holds.true_ _))) ?_ ?_
 ·conv=>whnf
  refine Loops.iter (fun (s : List (List Int) × Nat) => R23_row.s2 o_ suffixes_ w_ s.1 s.2) (fun (y77, k78) => mkSt [(1, .im (nL (cL cI) suffixes_)), (2, .im (nL cI w_)), (3, .im (.ref (c_api_Obs o_))), (8, .osl 64 1), (9, .im (nI (↑k78 : Int)))] [(64, .row 38 1 (List.map (cL cI) y77))] []) (fun (y77, k78) => List.length suffixes_ ≤ 17592186044416 ∧ List.length w_ ≤ 17592186044416 ∧ List.length y77 ≤ 17592186044416 ∧ True) h (Ent.mk [(64, none)] rfl ⟨eI rfl rfl, eI rfl rfl, eI rfl rfl, ⟨.im (.val (.slice none 0 0)), rfl, .made rfl rfl⟩, eI rfl rfl, trivial⟩ ⟨.inr ⟨rfl, rfl, .inl ⟨_, _, rfl, by decide⟩⟩, trivial⟩ trivial) (by rintro ⟨y77, k78⟩; exact ((Holds.avl 1 rfl).and ((Holds.avl 2 rfl).and ((Holds.kdl 64 rfl).and (Holds.true_ _))))) ?_
  clear h
  rintro k ⟨y77, k78⟩ o hp h ho84
  replace h : R23_row.s2 o_ suffixes_ w_ y77 k78 = some o := h
  unfold R23_row.s2 at h
  obtain ⟨z90, z91, z92, _⟩ := hp
  conv=>whnf
  refine Nf.mk (List.length suffixes_) len_map ?_
  conv=>whnf
  refine Both.mk ?_ ?_<;>intro b85
  ·replace h := cond_t b85 h
   have b85d := odt b85
   conv=>whnf
   obtain ⟨e86, he86, h⟩ := idxn_some h
   refine ⟨_, ⟨(by omega), map_at he86, rfl⟩, ?_⟩
   conv=>whnf
   obtain ⟨c87, hc87, h⟩ := bind_some h
   refine ⟨_, (sp_R23_After o_ w_ e86 c87 (fun _ _ _ => hc87)), ?_⟩
   conv=>whnf
   refine Both.mk ?_ ?_<;>intro b88
   ·replace h := cond_t b88 h
    conv=>whnf
    cases h
    have ho84 : _ = _ := ho84
    cases ho84
    replace h : some _ = some _ := hk51
    cases h
    conv=>whnf
    exact ⟨rfl, rfl⟩
   ·replace h := cond_f b88 h
    conv=>whnf
    obtain ⟨c89, h⟩ := chk_some h
    refine Side.mk ⟨rfl, map_len (l := [c87.1]) (c := cL cI) fun _ => rfl, show capOk _ 24 by simpa only [List.length_map, List.length_cons, List.length_nil, Nat.zero_add] using c89⟩ ?_
    conv=>whnf
    refine Nf.mk (List.map (cL cI) (y77 ++ [c87.1])) (app_map (l := y77) (m := [c87.1]) (c := cL cI)) ?_
    conv=>whnf
    refine Side.mk (by show inR _; unfold inR; omega) ?_
    conv=>whnf
    cases h
    exact Nxt.mk _ ho84 (Ent.mk [(64, some 64)] rfl ⟨eI rfl rfl, eI rfl rfl, eI rfl rfl, ⟨.osl 64 _, rfl, .osl rfl rfl rfl⟩, eI rfl rfl, trivial⟩ ⟨.inl ⟨64, rfl, rfl, trivial⟩, trivial⟩ trivial)
  ·replace h := cond_f b85 h
   have b85d := odf b85
   conv=>whnf
   cases h
   have ho84 : _ = _ := ho84
   cases ho84
   exact JoinS.mk' _ rfl (Ent.mk [(64, some 64)] rfl ⟨⟨.osl 64 _, rfl, .osl rfl rfl rfl⟩, trivial⟩ ⟨.inl ⟨64, rfl, rfl, trivial⟩, trivial⟩ trivial)
 ·rintro y72 rfl hp
  replace h := sum_inl hk51
  obtain ⟨z93, _⟩ := hp
  conv=>whnf
  cases h
  conv=>whnf
  exact Side.mk ⟨rfl, trivial⟩ ⟨rfl, rfl⟩
theorem sp_R23_Check (t_ : T_api_Table) (o_ : T_api_Obs) (r : Int) (h : Ok (.agg (c_api_Table t_)) → Ok (.agg (c_api_Obs o_)) → R23_Check t_ o_ = some r) : Sp Tryz.prog 75 [.im (.agg (c_api_Table t_)), .im (.agg (c_api_Obs o_))] (.im (nI r)) := by
 refine sp_of rfl [700002, 700003] rfl rfl rfl (Nat.le_of_ble_eq_true rfl) rfl fun hk => ?_
 replace h := h hk.1 hk.2.1
 have z1 : List.length t_.Prefixes ≤ 17592186044416 := ok_len (Ok.agg_at hk.1 1 rfl)
 have z2 : List.length t_.Suffixes ≤ 17592186044416 := ok_len (Ok.agg_at hk.1 2 rfl)
 have z3 : List.length o_.Traces ≤ 17592186044416 := ok_len (Ok.agg_at hk.2.1 1 rfl)
 unfold R23_Check at h
 conv=>whnf
 obtain ⟨c51, hc51, h⟩ := bind_some h
 refine ⟨_, (sp_R23_Valid t_ c51 (fun _ => hc51)), ?_⟩
 conv=>whnf
 refine Both.mk ?_ ?_<;>intro b52
 ·replace h := cond_t b52 h
  have b52d := odt b52
  conv=>whnf
  cases h
  conv=>whnf
  exact ⟨rfl, rfl⟩
 ·replace h := cond_f b52 h
  have b52d := odf b52
  conv=>whnf
  refine Both.mk ?_ ?_<;>intro b53
  ·replace h := cond_t b53 h
   have b53d := odt b53
   conv=>whnf
   cases h
   conv=>whnf
   exact ⟨rfl, rfl⟩
  ·replace h := cond_f b53 h
   have b53d := odf b53
   conv=>whnf
   cases h
   conv=>whnf
   exact ⟨rfl, rfl⟩
theorem sp_L23_Long (l_ : List (List Int)) (most_ : Int) (r : Bool) (h : Ok (nL (cL cI) l_) → Ok (nI most_) → L23_Long l_ most_ = some r) : Sp Tryz.prog 63 [.im (nL (cL cI) l_), .im (nI most_)] (.im (nB r)) := by
 refine sp_of rfl [] rfl rfl rfl (Nat.le_of_ble_eq_true rfl) rfl fun hk => ?_
 replace h := h hk.1 hk.2.1
 have z1 : List.length l_ ≤ 17592186044416 := ok_len hk.1
 unfold L23_Long at h
 conv=>whnf
 refine Nf.mk (List.length l_) len_map ?_
 conv=>whnf
 refine Both.mk ?_ ?_<;>intro b51
 ·replace h := cond_t b51 h
  have b51d := odt b51
  conv=>whnf
  cases h
  conv=>whnf
  exact ⟨rfl, rfl⟩
 ·replace h := cond_f b51 h
  have b51d := odf b51
  conv=>whnf
  obtain ⟨oc, hc, hk52⟩ := bind_some h
  clear h
  have h := hc
  clear hc
  refine Cut.mkS oc (Y := Unit) (fun (_ : Unit) => mkSt [] [] []) (fun (_ : Unit) => True) (by rintro ⟨⟩; exact (Holds.true_ _)) ?_ ?_
  ·conv=>whnf
   refine Loops.iter (fun (s : Nat) => L23_Long.s2 l_ s) (fun i68 => mkSt [(0, .im (nL (cL cI) l_)), (5, .im (nI (↑i68 : Int)))] [] []) (fun i68 => List.length l_ ≤ 17592186044416 ∧ True) h (Ent.mk [] rfl ⟨eI rfl rfl, eI rfl rfl, trivial⟩ trivial trivial) (by rintro i68; exact ((Holds.avl 0 rfl).and (Holds.true_ _))) ?_
   clear h
   rintro k i68 o hp h ho72
   replace h : L23_Long.s2 l_ i68 = some o := h
   unfold L23_Long.s2 at h
   obtain ⟨z76, _⟩ := hp
   conv=>whnf
   refine Nf.mk (List.length l_) len_map ?_
   conv=>whnf
   refine Both.mk ?_ ?_<;>intro b73
   ·replace h := cond_t b73 h
    have b73d := odt b73
    conv=>whnf
    obtain ⟨e74, he74, h⟩ := idxn_some h
    refine ⟨_, ⟨(by omega), map_at he74, rfl⟩, ?_⟩
    conv=>whnf
    refine Nf.mk (List.length e74) len_map ?_
    conv=>whnf
    refine Both.mk ?_ ?_<;>intro b75
    ·replace h := cond_t b75 h
     have b75d := odt b75
     conv=>whnf
     cases h
     have ho72 : _ = _ := ho72
     cases ho72
     replace h : some _ = some _ := hk52
     cases h
     conv=>whnf
     exact ⟨rfl, rfl⟩
    ·replace h := cond_f b75 h
     have b75d := odf b75
     conv=>whnf
     refine Side.mk (by show inR _; unfold inR; omega) ?_
     conv=>whnf
     cases h
     exact Nxt.mk _ ho72 (Ent.mk [] rfl ⟨eI rfl rfl, eI rfl rfl, trivial⟩ trivial trivial)
   ·replace h := cond_f b73 h
    have b73d := odf b73
    conv=>whnf
    cases h
    have ho72 : _ = _ := ho72
    cases ho72
    exact JoinS.mk' _ rfl (Ent.mk [] rfl trivial trivial trivial)
  ·rintro ⟨⟩ rfl hp
   replace h := sum_inl hk52
   conv=>whnf
   cases h
   conv=>whnf
   exact ⟨rfl, rfl⟩
theorem sp_L23_Great (t_ : T_api_Table) (o_ : T_api_Obs) (r : Bool) (h : Ok (.agg (c_api_Table t_)) → Ok (.agg (c_api_Obs o_)) → L23_Great t_ o_ = some r) : Sp Tryz.prog 20 [.im (.agg (c_api_Table t_)), .im (.agg (c_api_Obs o_))] (.im (nB r)) := by
 refine sp_of rfl [700002, 700003] rfl rfl rfl (Nat.le_of_ble_eq_true rfl) rfl fun hk => ?_
 replace h := h hk.1 hk.2.1
 have z1 : List.length t_.Prefixes ≤ 17592186044416 := ok_len (Ok.agg_at hk.1 1 rfl)
 have z2 : List.length t_.Suffixes ≤ 17592186044416 := ok_len (Ok.agg_at hk.1 2 rfl)
 have z3 : List.length o_.Traces ≤ 17592186044416 := ok_len (Ok.agg_at hk.2.1 1 rfl)
 unfold L23_Great at h
 conv=>whnf
 obtain ⟨y58, hc, hk52⟩ := bind_some h
 clear h
 have h := hc
 clear hc
 refine Cut.mk (mkSt [(3, .im (.ref (c_api_Obs o_))), (24, .im (nB y58))] [] []) (True) (Holds.true_ _) ?_ (fun hp => ?_)
 ·conv=>whnf
  refine Both.mk ?_ ?_<;>intro b59
  ·replace b59 := beq_ff b59
   replace h := cond_f b59 h
   have b59d := odf b59
   conv=>whnf
   iterate 2 (refine Both.yes (ff_beq b59) ?_; (conv=>whnf))
   obtain ⟨c60, hc60, h⟩ := bind_some h
   refine ⟨_, (sp_L23_Long t_.Prefixes 30 c60 (fun _ _ => hc60)), ?_⟩
   conv=>whnf
   refine Both.no b59 ?_
   conv=>whnf
   refine Both.mk ?_ ?_<;>intro b61
   ·replace b61 := beq_ff b61
    replace h := cond_f b61 h
    conv=>whnf
    iterate 2 (refine Both.yes (ff_beq b61) ?_; (conv=>whnf))
    obtain ⟨c62, hc62, h⟩ := bind_some h
    refine ⟨_, (sp_L23_Long t_.Suffixes 12 c62 (fun _ _ => hc62)), ?_⟩
    conv=>whnf
    refine Both.no b61 ?_
    conv=>whnf
    refine Both.mk ?_ ?_<;>intro b63
    ·replace b63 := beq_ff b63
     replace h := cond_f b63 h
     conv=>whnf
     iterate 2 (refine Both.yes (ff_beq b63) ?_; (conv=>whnf))
     refine Nf.mk (List.length o_.Traces) len_map ?_
     conv=>whnf
     refine Both.yes (ff_beq b63) ?_
     conv=>whnf
     refine Both.no b63 ?_
     conv=>whnf
     cases h
     exact Join.mk (Ent.mk [] rfl ⟨eI rfl rfl, eI rfl rfl, trivial⟩ trivial trivial)
    ·replace b63 := beq_ft b63
     replace h := cond_t b63 h
     conv=>whnf
     iterate 3 (refine Both.no (tf_beq b63) ?_; (conv=>whnf))
     refine Both.yes b63 ?_
     conv=>whnf
     cases h
     exact Join.mk (Ent.mk [] rfl ⟨eI rfl rfl, eI rfl rfl, trivial⟩ trivial trivial)
   ·replace b61 := beq_ft b61
    replace h := cond_t b61 h
    conv=>whnf
    iterate 2 (refine Both.no (tf_beq b61) ?_; (conv=>whnf))
    refine Both.yes b61 ?_
    conv=>whnf
    iterate 4 (refine Both.no rfl ?_; (conv=>whnf))
    refine Both.yes rfl ?_
    conv=>whnf
    cases h
    exact Join.mk (Ent.mk [] rfl ⟨eI rfl rfl, eI rfl rfl, trivial⟩ trivial trivial)
  ·replace b59 := beq_ft b59
   replace h := cond_t b59 h
   have b59d := odt b59
   conv=>whnf
   iterate 2 (refine Both.no (tf_beq b59) ?_; (conv=>whnf))
   refine Both.yes b59 ?_
   conv=>whnf
   iterate 3 (refine Both.no rfl ?_; (conv=>whnf))
   refine Both.yes rfl ?_
   conv=>whnf
   iterate 4 (refine Both.no rfl ?_; (conv=>whnf))
   refine Both.yes rfl ?_
   conv=>whnf
   cases h
   exact Join.mk (Ent.mk [] rfl ⟨eI rfl rfl, eI rfl rfl, trivial⟩ trivial trivial)
 ·replace h := hk52
  conv=>whnf
  refine Both.mk ?_ ?_<;>intro b64
  ·replace h := cond_t b64 h
   conv=>whnf
   cases h
   conv=>whnf
   exact ⟨rfl, rfl⟩
  ·replace h := cond_f b64 h
   conv=>whnf
   obtain ⟨oc, hc, hk65⟩ := bind_some h
   clear h
   have h := hc
   clear hc
   refine Cut.mkS oc (Y := Unit) (fun (_ : Unit) => mkSt [] [] []) (fun (_ : Unit) => True) (by rintro ⟨⟩; exact (Holds.true_ _)) ?_ ?_
   ·conv=>whnf
    refine Loops.iter (fun (s : Nat) => L23_Great.s2 o_ s) (fun i80 => mkSt [(3, .im (.ref (c_api_Obs o_))), (5, .im (nI (↑i80 : Int)))] [] []) (fun i80 => True) h (Ent.mk [] rfl ⟨eI rfl rfl, eI rfl rfl, trivial⟩ trivial trivial) (by rintro i80; exact (Holds.true_ _)) ?_
    clear h
    rintro k i80 o hp h ho84
    replace h : L23_Great.s2 o_ i80 = some o := h
    unfold L23_Great.s2 at h
    conv=>whnf
    refine Nf.mk (List.length o_.Traces) len_map ?_
    conv=>whnf
    refine Both.mk ?_ ?_<;>intro b85
    ·replace h := cond_t b85 h
     have b85d := odt b85
     conv=>whnf
     obtain ⟨e86, he86, h⟩ := idxn_some h
     refine ⟨_, ⟨(by omega), map_at he86, rfl⟩, ?_⟩
     conv=>whnf
     refine Nf.mk (List.length e86.In) len_map ?_
     conv=>whnf
     refine Both.mk ?_ ?_<;>intro b87
     ·replace h := cond_t b87 h
      have b87d := odt b87
      conv=>whnf
      cases h
      have ho84 : _ = _ := ho84
      cases ho84
      replace h : some _ = some _ := hk65
      cases h
      conv=>whnf
      exact ⟨rfl, rfl⟩
     ·replace h := cond_f b87 h
      have b87d := odf b87
      conv=>whnf
      refine Side.mk (by show inR _; unfold inR; omega) ?_
      conv=>whnf
      cases h
      exact Nxt.mk _ ho84 (Ent.mk [] rfl ⟨eI rfl rfl, eI rfl rfl, trivial⟩ trivial trivial)
    ·replace h := cond_f b85 h
     have b85d := odf b85
     conv=>whnf
     cases h
     have ho84 : _ = _ := ho84
     cases ho84
     exact JoinS.mk' _ rfl (Ent.mk [] rfl trivial trivial trivial)
   ·rintro ⟨⟩ rfl hp
    replace h := sum_inl hk65
    conv=>whnf
    cases h
    conv=>whnf
    exact ⟨rfl, rfl⟩
theorem sp_R16_Proper (t_ : T_api_Trace) (inputs_ : Int) (r : Int) (h : Ok (.agg (c_api_Trace t_)) → Ok (nI inputs_) → R16_Proper t_ inputs_ = some r) : Sp Tryz.prog 65 [.im (.agg (c_api_Trace t_)), .im (nI inputs_)] (.im (nI r)) := by
 refine sp_of rfl [700002] rfl rfl rfl (Nat.le_of_ble_eq_true rfl) rfl fun hk => ?_
 replace h := h hk.1 hk.2.1
 have z1 : List.length t_.In ≤ 17592186044416 := ok_len (Ok.agg_at hk.1 0 rfl)
 have z2 : List.length t_.Out ≤ 17592186044416 := ok_len (Ok.agg_at hk.1 1 rfl)
 unfold R16_Proper at h
 conv=>whnf
 obtain ⟨c51, hc51, h⟩ := bind_some h
 refine ⟨_, (sp_R01_Check t_.In inputs_ c51 (fun _ _ => hc51)), ?_⟩
 conv=>whnf
 refine Both.mk ?_ ?_<;>intro b52
 ·replace h := cond_t b52 h
  have b52d := odt b52
  conv=>whnf
  cases h
  conv=>whnf
  exact ⟨rfl, rfl⟩
 ·replace h := cond_f b52 h
  have b52d := odf b52
  conv=>whnf
  refine Nf.mk (List.length t_.Out) len_map ?_
  conv=>whnf
  refine Nf.mk (List.length t_.In) len_map ?_
  conv=>whnf
  refine Both.mk ?_ ?_<;>intro b53
  ·replace h := cond_t b53 h
   have b53d := odt b53
   conv=>whnf
   cases h
   conv=>whnf
   exact ⟨rfl, rfl⟩
  ·replace h := cond_f b53 h
   have b53d := odf b53
   conv=>whnf
   obtain ⟨oc, hc, hk54⟩ := bind_some h
   clear h
   have h := hc
   clear hc
   refine Cut.mkS oc (Y := Unit) (fun (_ : Unit) => mkSt [] [] []) (fun (_ : Unit) => True) (by rintro ⟨⟩; exact (Holds.true_ _)) ?_ ?_
   ·conv=>whnf
    refine Loops.iter (fun (s : Nat) => R16_Proper.s2 t_ s) (fun i101 => mkSt [(2, .im (.ref (c_api_Trace t_))), (6, .im (nI (↑i101 : Int)))] [] []) (fun i101 => True) h (Ent.mk [] rfl ⟨eI rfl rfl, eI rfl rfl, trivial⟩ trivial trivial) (by rintro i101; exact (Holds.true_ _)) ?_
    clear h
    rintro k i101 o hp h ho113
    replace h : R16_Proper.s2 t_ i101 = some o := h
    unfold R16_Proper.s2 at h
    conv=>whnf
    refine Nf.mk (List.length t_.Out) len_map ?_
    conv=>whnf
    refine Both.mk ?_ ?_<;>intro b114
    ·replace h := cond_t b114 h
     have b114d := odt b114
     conv=>whnf
     obtain ⟨y120, hc, hk116⟩ := bind_some h
     clear h
     have h := hc
     clear hc
     refine Cut.mk (mkSt [(2, .im (.ref (c_api_Trace t_))), (6, .im (nI (↑i101 : Int))), (41, .im (nB y120))] [] []) (True) (Holds.true_ _) ?_ (fun hp => ?_)
     ·conv=>whnf
      obtain ⟨e121, he121, h⟩ := idxn_some h
      refine ⟨_, ⟨(by omega), map_at he121, rfl⟩, ?_⟩
      conv=>whnf
      refine Both.mk ?_ ?_<;>intro b122
      ·replace b122 := beq_ff b122
       replace h := cond_f b122 h
       have b122d := odf b122
       conv=>whnf
       iterate 3 (refine Both.yes (ff_beq b122) ?_; (conv=>whnf))
       obtain ⟨e123, he123, h⟩ := idxn_some h
       refine ⟨_, ⟨(by omega), map_at he123, rfl⟩, ?_⟩
       conv=>whnf
       iterate 2 (refine Both.yes (ff_beq b122) ?_; (conv=>whnf))
       refine Both.no b122 ?_
       conv=>whnf
       cases h
       exact Join.mk (Ent.mk [] rfl ⟨eI rfl rfl, eI rfl rfl, eI rfl rfl, trivial⟩ trivial trivial)
      ·replace b122 := beq_ft b122
       replace h := cond_t b122 h
       have b122d := odt b122
       conv=>whnf
       iterate 5 (refine Both.no (tf_beq b122) ?_; (conv=>whnf))
       refine Both.yes b122 ?_
       conv=>whnf
       cases h
       exact Join.mk (Ent.mk [] rfl ⟨eI rfl rfl, eI rfl rfl, eI rfl rfl, trivial⟩ trivial trivial)
     ·replace h := hk116
      conv=>whnf
      refine Both.mk ?_ ?_<;>intro b124
      ·replace h := cond_t b124 h
       conv=>whnf
       cases h
       have ho113 : _ = _ := ho113
       cases ho113
       replace h : some _ = some _ := hk54
       cases h
       conv=>whnf
       exact ⟨rfl, rfl⟩
      ·replace h := cond_f b124 h
       conv=>whnf
       refine Side.mk (by show inR _; unfold inR; omega) ?_
       conv=>whnf
       cases h
       exact Nxt.mk _ ho113 (Ent.mk [] rfl ⟨eI rfl rfl, eI rfl rfl, trivial⟩ trivial trivial)
    ·replace h := cond_f b114 h
     have b114d := odf b114
     conv=>whnf
     cases h
     have ho113 : _ = _ := ho113
     cases ho113
     exact JoinS.mk' _ rfl (Ent.mk [] rfl trivial trivial trivial)
   ·rintro ⟨⟩ rfl hp
    replace h := sum_inl hk54
    conv=>whnf
    cases h
    conv=>whnf
    exact ⟨rfl, rfl⟩
theorem sp_R16_Differ (a_ : T_api_Trace) (b_ : T_api_Trace) (r : Int) (h : Ok (.agg (c_api_Trace a_)) → Ok (.agg (c_api_Trace b_)) → R16_Differ a_ b_ = some r) : Sp Tryz.prog 115 [.im (.agg (c_api_Trace a_)), .im (.agg (c_api_Trace b_))] (.im (nI r)) := by
 refine sp_of rfl [700002, 700003] rfl rfl rfl (Nat.le_of_ble_eq_true rfl) rfl fun hk => ?_
 replace h := h hk.1 hk.2.1
 have z1 : List.length a_.In ≤ 17592186044416 := ok_len (Ok.agg_at hk.1 0 rfl)
 have z2 : List.length a_.Out ≤ 17592186044416 := ok_len (Ok.agg_at hk.1 1 rfl)
 have z3 : List.length b_.In ≤ 17592186044416 := ok_len (Ok.agg_at hk.2.1 0 rfl)
 have z4 : List.length b_.Out ≤ 17592186044416 := ok_len (Ok.agg_at hk.2.1 1 rfl)
 unfold R16_Differ at h
 conv=>whnf
 obtain ⟨c51, hc51, h⟩ := bind_some h
 refine ⟨_, (sp_R01_Common a_.In b_.In c51 (fun _ _ => hc51)), ?_⟩
 conv=>whnf
 obtain ⟨oc, hc, hk52⟩ := bind_some h
 clear h
 have h := hc
 clear hc
 refine Cut.mkS oc (Y := Unit) (fun (_ : Unit) => mkSt [] [] []) (fun (_ : Unit) => True) (by rintro ⟨⟩; exact (Holds.true_ _)) ?_ ?_
 ·conv=>whnf
  refine Loops.iter (fun (s : Nat) => R16_Differ.s2 a_ b_ c51 s) (fun i73 => mkSt [(2, .im (.ref (c_api_Trace a_))), (3, .im (.ref (c_api_Trace b_))), (5, .im (nI c51)), (6, .im (nI (↑i73 : Int)))] [] []) (fun i73 => True) h (Ent.mk [] rfl ⟨eI rfl rfl, eI rfl rfl, eI rfl rfl, eI rfl rfl, trivial⟩ trivial trivial) (by rintro i73; exact (Holds.true_ _)) ?_
  clear h
  rintro k i73 o hp h ho79
  replace h : R16_Differ.s2 a_ b_ c51 i73 = some o := h
  unfold R16_Differ.s2 at h
  conv=>whnf
  refine Both.mk ?_ ?_<;>intro b80
  ·replace h := cond_t b80 h
   have b80d := odt b80
   conv=>whnf
   obtain ⟨e81, he81, h⟩ := idxn_some h
   refine ⟨_, ⟨(by omega), map_at he81, rfl⟩, ?_⟩
   conv=>whnf
   obtain ⟨e82, he82, h⟩ := idxn_some h
   refine ⟨_, ⟨(by omega), map_at he82, rfl⟩, ?_⟩
   conv=>whnf
   refine Both.mk ?_ ?_<;>intro b83
   ·replace h := cond_t b83 h
    have b83d := odt b83
    conv=>whnf
    cases h
    have ho79 : _ = _ := ho79
    cases ho79
    replace h : some _ = some _ := hk52
    cases h
    conv=>whnf
    exact ⟨rfl, rfl⟩
   ·replace h := cond_f b83 h
    have b83d := odf b83
    conv=>whnf
    obtain ⟨c84, h⟩ := chk_some h
    refine Side.mk c84 ?_
    conv=>whnf
    cases h
    exact Nxt.mk _ ho79 (Ent.mk [] rfl ⟨eI rfl rfl, eI rfl rfl, eI rfl rfl, eI rfl rfl, trivial⟩ trivial trivial)
  ·replace h := cond_f b80 h
   have b80d := odf b80
   conv=>whnf
   cases h
   have ho79 : _ = _ := ho79
   cases ho79
   exact JoinS.mk' _ rfl (Ent.mk [] rfl trivial trivial trivial)
 ·rintro ⟨⟩ rfl hp
  replace h := sum_inl hk52
  conv=>whnf
  cases h
  conv=>whnf
  exact ⟨rfl, rfl⟩
theorem sp_R16_apart (o_ : T_api_Obs) (r : Int) (h : Ok (.agg (c_api_Obs o_)) → R16_apart o_ = some r) : Sp Tryz.prog 67 [.im (.agg (c_api_Obs o_))] (.im (nI r)) := by
 refine sp_of rfl [700001] rfl rfl rfl (Nat.le_of_ble_eq_true rfl) rfl fun hk => ?_
 replace h := h hk.1
 have z1 : List.length o_.Traces ≤ 17592186044416 := ok_len (Ok.agg_at hk.1 1 rfl)
 unfold R16_apart at h
 conv=>whnf
 obtain ⟨oc, hc, hk51⟩ := bind_some h
 clear h
 have h := hc
 clear hc
 refine Cut.mkS oc (Y := Unit) (fun (_ : Unit) => mkSt [] [] []) (fun (_ : Unit) => True) (by rintro ⟨⟩; exact (Holds.true_ _)) ?_ ?_
 ·conv=>whnf
  refine Loops.iter (fun (s : Nat) => R16_apart.s32 o_ s) (fun i518 => mkSt [(1, .im (.ref (c_api_Obs o_))), (3, .im (nI (↑i518 : Int)))] [] []) (fun i518 => True) h (Ent.mk [] rfl ⟨eI rfl rfl, eI rfl rfl, trivial⟩ trivial trivial) (by rintro i518; exact (Holds.true_ _)) ?_
  clear h
  rintro k i518 o hp h ho635
  replace h : R16_apart.s32 o_ i518 = some o := h
  unfold R16_apart.s32 at h
  conv=>whnf
  refine Nf.mk (List.length o_.Traces) len_map ?_
  conv=>whnf
  refine Both.mk ?_ ?_<;>intro b636
  ·replace h := cond_t b636 h
   have b636d := odt b636
   conv=>whnf
   refine Side.mk (by show inR _; unfold inR; omega) ?_
   conv=>whnf
   obtain ⟨⟨prefix693, clash694⟩, hc, hk637⟩ := bind_some h
   clear h
   have h := hc
   clear hc
   refine Cut.mk (mkSt [(1, .im (.ref (c_api_Obs o_))), (3, .im (nI (↑i518 : Int))), (4, .im (nB prefix693)), (5, .im (nB clash694))] [] []) (True) (Holds.true_ _) ?_ (fun hp => ?_)
   ·conv=>whnf
    refine Loops.iter (fun (s : Bool × Bool × Nat) => R16_apart.s30 o_ i518 s.1 s.2.1 s.2.2) (fun (prefix714, clash715, k716) => mkSt [(1, .im (.ref (c_api_Obs o_))), (3, .im (nI (↑i518 : Int))), (4, .im (nB prefix714)), (5, .im (nB clash715)), (6, .im (nI (↑k716 : Int)))] [] []) (fun (prefix714, clash715, k716) => True) h (Ent.mk [] rfl ⟨eI rfl rfl, eI rfl rfl, eI rfl rfl, eI rfl rfl, eI rfl rfl, trivial⟩ trivial trivial) (by rintro ⟨prefix714, clash715, k716⟩; exact (Holds.true_ _)) ?_
    clear h
    rintro k ⟨prefix714, clash715, k716⟩ o hp h ho733
    replace h : R16_apart.s30 o_ i518 prefix714 clash715 k716 = some o := h
    unfold R16_apart.s30 at h
    conv=>whnf
    refine Nf.mk (List.length o_.Traces) len_map ?_
    conv=>whnf
    refine Both.mk ?_ ?_<;>intro b734
    ·replace h := cond_t b734 h
     have b734d := odt b734
     conv=>whnf
     obtain ⟨prefix741, hc, hk736⟩ := bind_some h
     clear h
     have h := hc
     clear hc
     refine Cut.mk (mkSt [(1, .im (.ref (c_api_Obs o_))), (3, .im (nI (↑i518 : Int))), (4, .im (nB prefix741)), (5, .im (nB clash715)), (6, .im (nI (↑k716 : Int)))] [] []) (True) (Holds.true_ _) ?_ (fun hp => ?_)
     ·conv=>whnf
      refine Both.mk ?_ ?_<;>intro b742
      ·replace b742 := beq_ff b742
       replace h := cond_f b742 h
       conv=>whnf
       iterate 3 (refine Both.yes (ff_beq b742) ?_; (conv=>whnf))
       obtain ⟨e743, he743, h⟩ := idxn_some h
       refine ⟨_, ⟨(by omega), map_at he743, rfl⟩, ?_⟩
       conv=>whnf
       iterate 6 (refine Both.yes (ff_beq b742) ?_; (conv=>whnf))
       obtain ⟨e744, he744, h⟩ := idxn_some h
       refine ⟨_, ⟨(by omega), map_at he744, rfl⟩, ?_⟩
       conv=>whnf
       iterate 3 (refine Both.yes (ff_beq b742) ?_; (conv=>whnf))
       obtain ⟨c745, hc745, h⟩ := bind_some h
       refine ⟨_, (sp_R01_HasPrefix e743.In e744.In c745 (fun _ _ => hc745)), ?_⟩
       conv=>whnf
       refine Both.no b742 ?_
       conv=>whnf
       cases h
       exact Join.mk (Ent.mk [] rfl ⟨eI rfl rfl, eI rfl rfl, eI rfl rfl, eI rfl rfl, eI rfl rfl, trivial⟩ trivial trivial)
      ·replace b742 := beq_ft b742
       replace h := cond_t b742 h
       conv=>whnf
       iterate 12 (refine Both.no (tf_beq b742) ?_; (conv=>whnf))
       refine Both.yes b742 ?_
       conv=>whnf
       cases h
       exact Join.mk (Ent.mk [] rfl ⟨eI rfl rfl, eI rfl rfl, eI rfl rfl, eI rfl rfl, eI rfl rfl, trivial⟩ trivial trivial)
     ·replace h := hk736
      conv=>whnf
      refine Both.mk ?_ ?_<;>intro b746
      ·replace b746 := beq_ff b746
       replace h := cond_f b746 h
       conv=>whnf
       iterate 3 (refine Both.yes (ff_beq b746) ?_; (conv=>whnf))
       obtain ⟨e747, he747, h⟩ := idxn_some h
       refine ⟨_, ⟨(by omega), map_at he747, rfl⟩, ?_⟩
       conv=>whnf
       iterate 5 (refine Both.yes (ff_beq b746) ?_; (conv=>whnf))
       obtain ⟨e748, he748, h⟩ := idxn_some h
       refine ⟨_, ⟨(by omega), map_at he748, rfl⟩, ?_⟩
       conv=>whnf
       iterate 2 (refine Both.yes (ff_beq b746) ?_; (conv=>whnf))
       obtain ⟨c749, hc749, h⟩ := bind_some h
       refine ⟨_, (sp_R16_Differ e747 e748 c749 (fun _ _ => hc749)), ?_⟩
       conv=>whnf
       refine Both.yes (ff_beq b746) ?_
       conv=>whnf
       refine Both.no b746 ?_
       conv=>whnf
       refine Side.mk (by show inR _; unfold inR; omega) ?_
       conv=>whnf
       cases h
       exact Nxt.mk _ ho733 (Ent.mk [] rfl ⟨eI rfl rfl, eI rfl rfl, eI rfl rfl, eI rfl rfl, eI rfl rfl, trivial⟩ trivial trivial)
      ·replace b746 := beq_ft b746
       replace h := cond_t b746 h
       conv=>whnf
       iterate 11 (refine Both.no (tf_beq b746) ?_; (conv=>whnf))
       refine Both.yes b746 ?_
       conv=>whnf
       refine Side.mk (by show inR _; unfold inR; omega) ?_
       conv=>whnf
       cases h
       exact Nxt.mk _ ho733 (Ent.mk [] rfl ⟨eI rfl rfl, eI rfl rfl, eI rfl rfl, eI rfl rfl, eI rfl rfl, trivial⟩ trivial trivial)
    ·replace h := cond_f b734 h
     have b734d := odf b734
     conv=>whnf
     cases h
     have ho733 : _ = _ := ho733
     cases ho733
     exact Join.mk (Ent.mk [] rfl ⟨eI rfl rfl, eI rfl rfl, eI rfl rfl, eI rfl rfl, trivial⟩ trivial trivial)
   ·replace h : R16_apart.k31 i518 prefix693 clash694 = some _ := hk637
    unfold R16_apart.k31 at h
    conv=>whnf
    refine Both.mk ?_ ?_<;>intro b750
    ·replace h := cond_t b750 h
     conv=>whnf
     cases h
     have ho635 : _ = _ := ho635
     cases ho635
     replace h : some _ = some _ := hk51
     cases h
     conv=>whnf
     exact ⟨rfl, rfl⟩
    ·replace h := cond_f b750 h
     conv=>whnf
     refine Both.mk ?_ ?_<;>intro b751
     ·replace h := cond_t b751 h
      conv=>whnf
      cases h
      have ho635 : _ = _ := ho635
      cases ho635
      replace h : some _ = some _ := hk51
      cases h
      conv=>whnf
      exact ⟨rfl, rfl⟩
     ·replace h := cond_f b751 h
      conv=>whnf
      refine Side.mk (by show inR _; unfold inR; omega) ?_
      conv=>whnf
      cases h
      exact Nxt.mk _ ho635 (Ent.mk [] rfl ⟨eI rfl rfl, eI rfl rfl, trivial⟩ trivial trivial)
  ·replace h := cond_f b636 h
   have b636d := odf b636
   conv=>whnf
   cases h
   have ho635 : _ = _ := ho635
   cases ho635
   exact JoinS.mk' _ rfl (Ent.mk [] rfl trivial trivial trivial)
 ·rintro ⟨⟩ rfl hp
  replace h := sum_inl hk51
  conv=>whnf
  cases h
  conv=>whnf
  exact ⟨rfl, rfl⟩
theorem sp_R16_Valid (o_ : T_api_Obs) (r : Int) (h : Ok (.agg (c_api_Obs o_)) → R16_Valid o_ = some r) : Sp Tryz.prog 21 [.im (.agg (c_api_Obs o_))] (.im (nI r)) := by
 refine sp_of rfl [700001] rfl rfl rfl (Nat.le_of_ble_eq_true rfl) rfl fun hk => ?_
 replace h := h hk.1
 have z1 : List.length o_.Traces ≤ 17592186044416 := ok_len (Ok.agg_at hk.1 1 rfl)
 unfold R16_Valid at h
 conv=>whnf
 obtain ⟨y54, hc, hk52⟩ := bind_some h
 clear h
 have h := hc
 clear hc
 refine Cut.mk (mkSt [(1, .im (.ref (c_api_Obs o_))), (14, .im (nB y54))] [] []) (True) (Holds.true_ _) ?_ (fun hp => ?_)
 ·conv=>whnf
  refine Both.mk ?_ ?_<;>intro b55
  ·replace b55 := beq_ff b55
   replace h := cond_f b55 h
   have b55d := odf b55
   conv=>whnf
   iterate 2 (refine Both.yes (ff_beq b55) ?_; (conv=>whnf))
   refine Both.no b55 ?_
   conv=>whnf
   cases h
   exact Join.mk (Ent.mk [] rfl ⟨eI rfl rfl, eI rfl rfl, trivial⟩ trivial trivial)
  ·replace b55 := beq_ft b55
   replace h := cond_t b55 h
   have b55d := odt b55
   conv=>whnf
   iterate 2 (refine Both.no (tf_beq b55) ?_; (conv=>whnf))
   refine Both.yes b55 ?_
   conv=>whnf
   cases h
   exact Join.mk (Ent.mk [] rfl ⟨eI rfl rfl, eI rfl rfl, trivial⟩ trivial trivial)
 ·replace h := hk52
  conv=>whnf
  refine Both.mk ?_ ?_<;>intro b56
  ·replace h := cond_t b56 h
   conv=>whnf
   cases h
   conv=>whnf
   exact ⟨rfl, rfl⟩
  ·replace h := cond_f b56 h
   conv=>whnf
   refine Nf.mk (List.length o_.Traces) len_map ?_
   conv=>whnf
   refine Both.mk ?_ ?_<;>intro b57
   ·replace h := cond_t b57 h
    have b57d := odt b57
    conv=>whnf
    cases h
    conv=>whnf
    exact ⟨rfl, rfl⟩
   ·replace h := cond_f b57 h
    have b57d := odf b57
    conv=>whnf
    obtain ⟨oc, hc, hk58⟩ := bind_some h
    clear h
    have h := hc
    clear hc
    refine Cut.mkS oc (Y := Unit) (fun (_ : Unit) => mkSt [(1, .im (.ref (c_api_Obs o_)))] [] []) (fun (_ : Unit) => True) (by rintro ⟨⟩; exact (Holds.true_ _)) ?_ ?_
    ·conv=>whnf
     refine Loops.iter (fun (s : Nat) => R16_Valid.s2 o_ s) (fun i129 => mkSt [(1, .im (.ref (c_api_Obs o_))), (3, .im (nI (↑i129 : Int)))] [] []) (fun i129 => True) h (Ent.mk [] rfl ⟨eI rfl rfl, eI rfl rfl, trivial⟩ trivial trivial) (by rintro i129; exact (Holds.true_ _)) ?_
     clear h
     rintro k i129 o hp h ho147
     replace h : R16_Valid.s2 o_ i129 = some o := h
     unfold R16_Valid.s2 at h
     conv=>whnf
     refine Nf.mk (List.length o_.Traces) len_map ?_
     conv=>whnf
     refine Both.mk ?_ ?_<;>intro b148
     ·replace h := cond_t b148 h
      have b148d := odt b148
      conv=>whnf
      obtain ⟨e149, he149, h⟩ := idxn_some h
      refine ⟨_, ⟨(by omega), map_at he149, rfl⟩, ?_⟩
      conv=>whnf
      refine Side.mk rfl ?_
      conv=>whnf
      refine Side.mk rfl ?_
      conv=>whnf
      refine Side.mk rfl ?_
      conv=>whnf
      obtain ⟨c150, hc150, h⟩ := bind_some h
      refine ⟨_, (sp_R01_Check e149.In o_.Inputs c150 (fun _ _ => hc150)), ?_⟩
      conv=>whnf
      refine Both.mk ?_ ?_<;>intro b151
      ·replace h := cond_t b151 h
       have b151d := odt b151
       conv=>whnf
       cases h
       have ho147 : _ = _ := ho147
       cases ho147
       replace h : some _ = some _ := hk58
       cases h
       conv=>whnf
       exact ⟨rfl, rfl⟩
      ·replace h := cond_f b151 h
       have b151d := odf b151
       conv=>whnf
       refine Side.mk rfl ?_
       conv=>whnf
       refine Side.mk rfl ?_
       conv=>whnf
       refine Nf.mk (List.length e149.In) len_map ?_
       conv=>whnf
       refine Both.mk ?_ ?_<;>intro b152
       ·replace h := cond_t b152 h
        have b152d := odt b152
        conv=>whnf
        cases h
        have ho147 : _ = _ := ho147
        cases ho147
        replace h : some _ = some _ := hk58
        cases h
        conv=>whnf
        exact ⟨rfl, rfl⟩
       ·replace h := cond_f b152 h
        have b152d := odf b152
        conv=>whnf
        refine Side.mk rfl ?_
        conv=>whnf
        obtain ⟨c153, hc153, h⟩ := bind_some h
        refine ⟨_, (sp_R16_Proper e149 o_.Inputs c153 (fun _ _ => hc153)), ?_⟩
        conv=>whnf
        refine Both.mk ?_ ?_<;>intro b154
        ·replace h := cond_t b154 h
         have b154d := odt b154
         conv=>whnf
         cases h
         have ho147 : _ = _ := ho147
         cases ho147
         replace h : some _ = some _ := hk58
         cases h
         conv=>whnf
         exact ⟨rfl, rfl⟩
        ·replace h := cond_f b154 h
         have b154d := odf b154
         conv=>whnf
         obtain ⟨y160, hc, hk156⟩ := bind_some h
         clear h
         have h := hc
         clear hc
         refine Cut.mk (mkSt [(1, .im (.ref (c_api_Obs o_))), (3, .im (nI (↑i129 : Int))), (64, .im (nB y160))] [] []) (True) (Holds.true_ _) ?_ (fun hp => ?_)
         ·conv=>whnf
          refine Both.mk ?_ ?_<;>intro b161
          ·replace b161 := beq_tt b161
           replace h := cond_t b161 h
           have b161d := odt b161
           conv=>whnf
           iterate 3 (refine Both.yes (tt_beq b161) ?_; (conv=>whnf))
           refine Side.mk (by show inR _; unfold inR; omega) ?_
           conv=>whnf
           refine Both.yes (tt_beq b161) ?_
           conv=>whnf
           obtain ⟨e162, he162z, he162, h⟩ := idx_some h
           refine ⟨_, ⟨he162z, map_at he162, rfl⟩, ?_⟩
           conv=>whnf
           iterate 3 (refine Both.yes (tt_beq b161) ?_; (conv=>whnf))
           refine Side.mk rfl ?_
           conv=>whnf
           refine Both.yes (tt_beq b161) ?_
           conv=>whnf
           refine Side.mk rfl ?_
           conv=>whnf
           refine Both.yes (tt_beq b161) ?_
           conv=>whnf
           obtain ⟨c163, hc163, h⟩ := bind_some h
           refine ⟨_, (sp_R01_Compare e162.In e149.In c163 (fun _ _ => hc163)), ?_⟩
           conv=>whnf
           refine Both.yes (tt_beq b161) ?_
           conv=>whnf
           refine Both.yes b161 ?_
           conv=>whnf
           cases h
           exact Join.mk (Ent.mk [] rfl ⟨eI rfl rfl, eI rfl rfl, eI rfl rfl, trivial⟩ trivial trivial)
          ·replace b161 := beq_tf b161
           replace h := cond_f b161 h
           have b161d := odf b161
           conv=>whnf
           iterate 10 (refine Both.no (ft_beq b161) ?_; (conv=>whnf))
           refine Both.no b161 ?_
           conv=>whnf
           cases h
           exact Join.mk (Ent.mk [] rfl ⟨eI rfl rfl, eI rfl rfl, eI rfl rfl, trivial⟩ trivial trivial)
         ·replace h := hk156
          conv=>whnf
          refine Both.mk ?_ ?_<;>intro b164
          ·replace h := cond_t b164 h
           conv=>whnf
           cases h
           have ho147 : _ = _ := ho147
           cases ho147
           replace h : some _ = some _ := hk58
           cases h
           conv=>whnf
           exact ⟨rfl, rfl⟩
          ·replace h := cond_f b164 h
           conv=>whnf
           refine Side.mk (by show inR _; unfold inR; omega) ?_
           conv=>whnf
           cases h
           exact Nxt.mk _ ho147 (Ent.mk [] rfl ⟨eI rfl rfl, eI rfl rfl, trivial⟩ trivial trivial)
     ·replace h := cond_f b148 h
      have b148d := odf b148
      conv=>whnf
      cases h
      have ho147 : _ = _ := ho147
      cases ho147
      exact JoinS.mk' _ rfl (Ent.mk [] rfl ⟨eI rfl rfl, trivial⟩ trivial trivial)
    ·rintro ⟨⟩ rfl hp
     replace h := sum_inl hk58
     conv=>whnf
     obtain ⟨c165, hc165, h⟩ := bind_some h
     refine ⟨_, (sp_R16_apart o_ c165 (fun _ => hc165)), ?_⟩
     conv=>whnf
     cases h
     conv=>whnf
     exact ⟨rfl, rfl⟩
theorem sp_R02_place (l_ : List (List Int)) (w_ : List Int) (r : Int) (h : Ok (nL (cL cI) l_) → Ok (nL cI w_) → R02_place l_ w_ = some r) : Sp Tryz.prog 134 [.im (nL (cL cI) l_), .im (nL cI w_)] (.im (nI r)) := by
 refine sp_of rfl [] rfl rfl rfl (Nat.le_of_ble_eq_true rfl) rfl fun hk => ?_
 replace h := h hk.1 hk.2.1
 have z1 : List.length l_ ≤ 17592186044416 := ok_len hk.1
 have z2 : List.length w_ ≤ 17592186044416 := ok_len hk.2.1
 unfold R02_place at h
 conv=>whnf
 refine Nf.mk (List.length l_) len_map ?_
 conv=>whnf
 obtain ⟨low77, hc, hk51⟩ := bind_some h
 clear h
 have h := hc
 clear hc
 refine Cut.mk (mkSt [(5, .im (nI (↑low77 : Int)))] [] []) (True) (Holds.true_ _) ?_ (fun hp => ?_)
 ·conv=>whnf
  refine Loops.iter (fun (s : Nat × Nat) => R02_place.s2 l_ w_ s.1 s.2) (fun (low84, high85) => mkSt [(0, .im (nL (cL cI) l_)), (1, .im (nL cI w_)), (5, .im (nI (↑low84 : Int))), (6, .im (nI (↑high85 : Int)))] [] []) (fun (low84, high85) => List.length l_ ≤ 17592186044416 ∧ List.length w_ ≤ 17592186044416 ∧ True) h (Ent.mk [] rfl ⟨eI rfl rfl, eI rfl rfl, eI rfl rfl, eI rfl rfl, trivial⟩ trivial trivial) (by rintro ⟨low84, high85⟩; exact ((Holds.avl 0 rfl).and ((Holds.avl 1 rfl).and (Holds.true_ _)))) ?_
  clear h
  rintro k ⟨low84, high85⟩ o hp h ho93
  replace h : R02_place.s2 l_ w_ low84 high85 = some o := h
  unfold R02_place.s2 at h
  obtain ⟨z101, z102, _⟩ := hp
  conv=>whnf
  refine Both.mk ?_ ?_<;>intro b94
  ·replace h := cond_t b94 h
   have b94d := odt b94
   conv=>whnf
   obtain ⟨c95, h⟩ := chk_some h
   refine Side.mk c95 ?_
   conv=>whnf
   obtain ⟨c96, h⟩ := chk_some h
   refine Side.mk c96 ?_
   conv=>whnf
   obtain ⟨e97, he97, h⟩ := idxn_some h
   refine ⟨_, ⟨(by omega), map_at he97, rfl⟩, ?_⟩
   conv=>whnf
   obtain ⟨c98, hc98, h⟩ := bind_some h
   refine ⟨_, (sp_R01_Compare e97 w_ c98 (fun _ _ => hc98)), ?_⟩
   conv=>whnf
   refine Both.mk ?_ ?_<;>intro b99
   ·replace h := cond_t b99 h
    have b99d := odt b99
    conv=>whnf
    obtain ⟨c100, h⟩ := chk_some h
    refine Side.mk c100 ?_
    conv=>whnf
    cases h
    exact Nxt.mk _ ho93 (Ent.mk [] rfl ⟨eI rfl rfl, eI rfl rfl, eI rfl rfl, eI rfl rfl, trivial⟩ trivial trivial)
   ·replace h := cond_f b99 h
    have b99d := odf b99
    conv=>whnf
    cases h
    exact Nxt.mk _ ho93 (Ent.mk [] rfl ⟨eI rfl rfl, eI rfl rfl, eI rfl rfl, eI rfl rfl, trivial⟩ trivial trivial)
  ·replace h := cond_f b94 h
   have b94d := odf b94
   conv=>whnf
   cases h
   have ho93 : _ = _ := ho93
   cases ho93
   exact Join.mk (Ent.mk [] rfl ⟨eI rfl rfl, trivial⟩ trivial trivial)
 ·replace h := hk51
  conv=>whnf
  cases h
  conv=>whnf
  exact ⟨rfl, rfl⟩
theorem sp_R02_with (l_ : List (List Int)) (w_ : List Int) (r : List (List Int)) (h : OkL (List.map (cL cI) l_) → Ok (nL cI w_) → R02_with l_ w_ = some r) : Sp Tryz.prog 99 [.row 38 1 (List.map (cL cI) l_), .im (nL cI w_)] (.row 38 1 (List.map (cL cI) r)) := by
 refine sp_of rfl [44, 500009] rfl rfl rfl (Nat.le_of_ble_eq_true rfl) rfl fun hk => ?_
 replace h := h hk.1 hk.2.1
 have z1 : List.length l_ ≤ 17592186044416 := okl_len hk.1
 have z2 : List.length w_ ≤ 17592186044416 := ok_len hk.2.1
 unfold R02_with at h
 conv=>whnf
 refine Side.mk ⟨rfl, trivial⟩ ?_
 conv=>whnf
 obtain ⟨c51, hc51, h⟩ := bind_some h
 refine ⟨_, (sp_R02_place l_ w_ c51 (fun _ _ => hc51)), ?_⟩
 conv=>whnf
 refine Side.mk flat_one ?_
 conv=>whnf
 obtain ⟨y57, hc, hk53⟩ := bind_some h
 clear h
 have h := hc
 clear hc
 refine Cut.mk (mkSt [(0, .osl 64 1), (1, .im (nL cI w_)), (5, .im (nI c51)), (21, .im (nB y57))] [(64, .row 38 1 (List.map (cL cI) l_))] []) (List.length w_ ≤ 17592186044416 ∧ List.length l_ ≤ 17592186044416 ∧ True) ((Holds.avl 1 rfl).and ((Holds.kdl 64 rfl).and (Holds.true_ _))) ?_ (fun hp => ?_)
 ·conv=>whnf
  refine Side.mk rfl ?_
  conv=>whnf
  refine Nf.mk (List.length l_) len_map ?_
  conv=>whnf
  refine Both.mk ?_ ?_<;>intro b58
  ·replace b58 := beq_tt b58
   replace h := cond_t b58 h
   have b58d := odt b58
   conv=>whnf
   iterate 2 (refine Both.yes (tt_beq b58) ?_; (conv=>whnf))
   obtain ⟨e59, he59z, he59, h⟩ := idx_some h
   refine Side.mk ⟨he59z, rfl, map_lt he59⟩ ?_
   conv=>whnf
   refine Both.yes (tt_beq b58) ?_
   conv=>whnf
   refine ⟨_, _, ⟨rfl, map_at he59, rfl, rfl⟩, ?_⟩
   conv=>whnf
   iterate 2 (refine Both.yes (tt_beq b58) ?_; (conv=>whnf))
   obtain ⟨c60, hc60, h⟩ := bind_some h
   refine ⟨_, (sp_R01_Same e59 w_ c60 (fun _ _ => hc60)), ?_⟩
   conv=>whnf
   refine Both.yes b58 ?_
   conv=>whnf
   cases h
   exact Join.mk (Ent.mk [(64, some 0)] rfl ⟨⟨.osl 0 _, rfl, .osl rfl rfl rfl⟩, eI rfl rfl, eI rfl rfl, eI rfl rfl, trivial⟩ ⟨.inl ⟨0, rfl, rfl, trivial⟩, trivial⟩ trivial)
  ·replace b58 := beq_tf b58
   replace h := cond_f b58 h
   have b58d := odf b58
   conv=>whnf
   iterate 5 (refine Both.no (ft_beq b58) ?_; (conv=>whnf))
   refine Both.no b58 ?_
   conv=>whnf
   cases h
   exact Join.mk (Ent.mk [(64, some 0)] rfl ⟨⟨.osl 0 _, rfl, .osl rfl rfl rfl⟩, eI rfl rfl, eI rfl rfl, eI rfl rfl, trivial⟩ ⟨.inl ⟨0, rfl, rfl, trivial⟩, trivial⟩ trivial)
 ·replace h := hk53
  obtain ⟨z61, z62, _⟩ := hp
  conv=>whnf
  refine Both.mk ?_ ?_<;>intro b63
  ·replace h := cond_t b63 h
   conv=>whnf
   cases h
   conv=>whnf
   exact Side.mk ⟨rfl, trivial⟩ ⟨rfl, rfl⟩
  ·replace h := cond_f b63 h
   conv=>whnf
   obtain ⟨c64, h⟩ := chk_some h
   refine Side.mk ⟨rfl, map_len (l := [[]]) (c := cL cI) fun _ => rfl, show capOk _ 24 by simpa only [List.length_map, List.length_cons, List.length_nil, Nat.zero_add] using c64⟩ ?_
   conv=>whnf
   refine Nf.mk (List.map (cL cI) (l_ ++ [[]])) (app_map (l := l_) (m := [[]]) (c := cL cI)) ?_
   conv=>whnf
   refine Side.mk rfl ?_
   conv=>whnf
   refine Nf.mk (List.length (l_ ++ [[]])) len_map ?_
   conv=>whnf
   obtain ⟨c65, h⟩ := chk_some h
   refine Side.mk c65 ?_
   conv=>whnf
   obtain ⟨y87, hc, hk66⟩ := bind_some h
   clear h
   have h := hc
   clear hc
   refine Cut.mk (mkSt [(0, .osl 64 1), (1, .im (nL cI w_)), (5, .im (nI c51))] [(64, .row 38 1 (List.map (cL cI) y87))] []) (List.length w_ ≤ 17592186044416 ∧ List.length y87 ≤ 17592186044416 ∧ True) ((Holds.avl 1 rfl).and ((Holds.kdl 64 rfl).and (Holds.true_ _))) ?_ (fun hp => ?_)
   ·conv=>whnf
    refine Loops.iter (fun (s : List (List Int) × Int) => R02_with.s2 c51 s.1 s.2) (fun (y93, i94) => mkSt [(0, .osl 64 1), (1, .im (nL cI w_)), (5, .im (nI c51)), (6, .im (nI i94))] [(64, .row 38 1 (List.map (cL cI) y93))] []) (fun (y93, i94) => List.length w_ ≤ 17592186044416 ∧ List.length y93 ≤ 17592186044416 ∧ True) h (Ent.mk [(64, some 64)] rfl ⟨⟨.osl 64 _, rfl, .osl rfl rfl rfl⟩, eI rfl rfl, eI rfl rfl, eI rfl rfl, trivial⟩ ⟨.inl ⟨64, rfl, rfl, trivial⟩, trivial⟩ trivial) (by rintro ⟨y93, i94⟩; exact ((Holds.avl 1 rfl).and ((Holds.kdl 64 rfl).and (Holds.true_ _)))) ?_
    clear h
    rintro k ⟨y93, i94⟩ o hp h ho100
    replace h : R02_with.s2 c51 y93 i94 = some o := h
    unfold R02_with.s2 at h
    obtain ⟨z106, z107, _⟩ := hp
    conv=>whnf
    refine Both.mk ?_ ?_<;>intro b101
    ·replace h := cond_t b101 h
     have b101d := odt b101
     conv=>whnf
     obtain ⟨c102, h⟩ := chk_some h
     refine Side.mk c102 ?_
     conv=>whnf
     obtain ⟨e103, he103z, he103, h⟩ := idx_some h
     refine Side.mk ⟨he103z, rfl, map_lt he103⟩ ?_
     conv=>whnf
     refine ⟨_, _, ⟨rfl, map_at he103, rfl, rfl⟩, ?_⟩
     conv=>whnf
     obtain ⟨e104, he104z, he104, h⟩ := idx_some h
     refine Side.mk ⟨he104z, rfl, map_lt he104⟩ ?_
     conv=>whnf
     refine Side.mk ⟨rfl, trivial⟩ ?_
     conv=>whnf
     refine ⟨_, map_at he104, ?_⟩
     conv=>whnf
     refine Nf.mk (List.map (cL cI) (List.set y93 i94.toNat e103)) (set_map rfl) ?_
     conv=>whnf
     obtain ⟨c105, h⟩ := chk_some h
     refine Side.mk c105 ?_
     conv=>whnf
     cases h
     exact Nxt.mk _ ho100 (Ent.mk [(64, some 64)] rfl ⟨⟨.osl 64 _, rfl, .osl rfl rfl rfl⟩, eI rfl rfl, eI rfl rfl, eI rfl rfl, trivial⟩ ⟨.inl ⟨64, rfl, rfl, trivial⟩, trivial⟩ trivial)
    ·replace h := cond_f b101 h
     have b101d := odf b101
     conv=>whnf
     cases h
     have ho100 : _ = _ := ho100
     cases ho100
     exact Join.mk (Ent.mk [(64, some 64)] rfl ⟨⟨.osl 64 _, rfl, .osl rfl rfl rfl⟩, eI rfl rfl, eI rfl rfl, trivial⟩ ⟨.inl ⟨64, rfl, rfl, trivial⟩, trivial⟩ trivial)
   ·replace h := hk66
    obtain ⟨z108, z109, _⟩ := hp
    conv=>whnf
    obtain ⟨c110, h⟩ := chk_some h
    refine Side.mk ⟨rfl, map_len (l := w_) (c := cI) fun _ => rfl, show capOk _ 8 by simpa only [List.length_map, List.length_cons, List.length_nil, Nat.zero_add] using c110⟩ ?_
    conv=>whnf
    refine Nf.mk (List.map cI ([] ++ w_)) (app_map (l := []) (m := w_) (c := cI)) ?_
    conv=>whnf
    obtain ⟨e111, he111z, he111, h⟩ := idx_some h
    refine Side.mk ⟨he111z, rfl, map_lt he111⟩ ?_
    conv=>whnf
    refine Side.mk ⟨rfl, rfl, trivial⟩ ?_
    conv=>whnf
    refine ⟨_, map_at he111, ?_⟩
    conv=>whnf
    refine Nf.mk (List.map (cL cI) (List.set y87 c51.toNat ([] ++ w_))) (set_map rfl) ?_
    conv=>whnf
    cases h
    conv=>whnf
    exact Side.mk ⟨rfl, trivial⟩ ⟨rfl, rfl⟩
theorem sp_R02_Sorted (l_ : List (List Int)) (r : List (List Int)) (h : Ok (nL (cL cI) l_) → R02_Sorted l_ = some r) : Sp Tryz.prog 103 [.im (nL (cL cI) l_)] (.row 38 1 (List.map (cL cI) r)) := by
 refine sp_of rfl [17000] rfl rfl rfl (Nat.le_of_ble_eq_true rfl) rfl fun hk => ?_
 replace h := h hk.1
 have z1 : List.length l_ ≤ 17592186044416 := ok_len hk.1
 unfold R02_Sorted at h
 conv=>whnf
 obtain ⟨y66, hc, hk51⟩ := bind_some h
 clear h
 have h := hc
 clear hc
 refine Cut.mk (mkSt [(3, .osl 64 1)] [(64, .row 38 1 (List.map (cL cI) y66))] []) (List.length y66 ≤ 17592186044416 ∧ True) ((Holds.kdl 64 rfl).and (Holds.true_ _)) ?_ (fun hp => ?_)
 ·conv=>whnf
  refine Loops.iter (fun (s : List (List Int) × Nat) => R02_Sorted.s2 l_ s.1 s.2) (fun (y70, i71) => mkSt [(0, .im (nL (cL cI) l_)), (3, .osl 64 1), (4, .im (nI (↑i71 : Int)))] [(64, .row 38 1 (List.map (cL cI) y70))] []) (fun (y70, i71) => List.length l_ ≤ 17592186044416 ∧ List.length y70 ≤ 17592186044416 ∧ True) h (Ent.mk [(64, none)] rfl ⟨eI rfl rfl, ⟨.im (.val (.slice none 0 0)), rfl, .made rfl rfl⟩, eI rfl rfl, trivial⟩ ⟨.inr ⟨rfl, rfl, .inl ⟨_, _, rfl, by decide⟩⟩, trivial⟩ trivial) (by rintro ⟨y70, i71⟩; exact ((Holds.avl 0 rfl).and ((Holds.kdl 64 rfl).and (Holds.true_ _)))) ?_
  clear h
  rintro k ⟨y70, i71⟩ o hp h ho75
  replace h : R02_Sorted.s2 l_ y70 i71 = some o := h
  unfold R02_Sorted.s2 at h
  obtain ⟨z79, z80, _⟩ := hp
  conv=>whnf
  refine Nf.mk (List.length l_) len_map ?_
  conv=>whnf
  refine Both.mk ?_ ?_<;>intro b76
  ·replace h := cond_t b76 h
   have b76d := odt b76
   conv=>whnf
   obtain ⟨e77, he77, h⟩ := idxn_some h
   refine ⟨_, ⟨(by omega), map_at he77, rfl⟩, ?_⟩
   conv=>whnf
   refine Side.mk ⟨rfl, trivial⟩ ?_
   conv=>whnf
   obtain ⟨c78, hc78, h⟩ := bind_some h
   refine ⟨_, (sp_R02_with y70 e77 c78 (fun _ _ => hc78)), ?_⟩
   conv=>whnf
   refine Side.mk (by show inR _; unfold inR; omega) ?_
   conv=>whnf
   cases h
   exact Nxt.mk _ ho75 (Ent.mk [(64, some 16)] rfl ⟨eI rfl rfl, ⟨.osl 16 _, rfl, .osl rfl rfl rfl⟩, eI rfl rfl, trivial⟩ ⟨.inl ⟨16, rfl, rfl, trivial⟩, trivial⟩ trivial)
  ·replace h := cond_f b76 h
   have b76d := odf b76
   conv=>whnf
   cases h
   have ho75 : _ = _ := ho75
   cases ho75
   exact Join.mk (Ent.mk [(64, some 64)] rfl ⟨⟨.osl 64 _, rfl, .osl rfl rfl rfl⟩, trivial⟩ ⟨.inl ⟨64, rfl, rfl, trivial⟩, trivial⟩ trivial)
 ·replace h := hk51
  obtain ⟨z81, _⟩ := hp
  conv=>whnf
  cases h
  conv=>whnf
  exact Side.mk ⟨rfl, trivial⟩ ⟨rfl, rfl⟩
theorem sp_R02_Union (lists_ : List (List (List Int))) (r : List (List Int)) (h : Ok (nL (cL (cL cI)) lists_) → R02_Union lists_ = some r) : Sp Tryz.prog 76 [.im (nL (cL (cL cI)) lists_)] (.im (nL (cL cI) r)) := by
 refine sp_of rfl [] rfl rfl rfl (Nat.le_of_ble_eq_true rfl) rfl fun hk => ?_
 replace h := h hk.1
 have z1 : List.length lists_ ≤ 17592186044416 := ok_len hk.1
 unfold R02_Union at h
 conv=>whnf
 obtain ⟨y66, hc, hk51⟩ := bind_some h
 clear h
 have h := hc
 clear hc
 refine Cut.mk (mkSt [(3, .osl 64 1)] [(64, .row 38 1 (List.map (cL cI) y66))] []) (List.length y66 ≤ 17592186044416 ∧ True) ((Holds.kdl 64 rfl).and (Holds.true_ _)) ?_ (fun hp => ?_)
 ·conv=>whnf
  refine Loops.iter (fun (s : List (List Int) × Nat) => R02_Union.s2 lists_ s.1 s.2) (fun (y70, i71) => mkSt [(0, .im (nL (cL (cL cI)) lists_)), (3, .osl 64 1), (4, .im (nI (↑i71 : Int)))] [(64, .row 38 1 (List.map (cL cI) y70))] []) (fun (y70, i71) => List.length lists_ ≤ 17592186044416 ∧ List.length y70 ≤ 17592186044416 ∧ True) h (Ent.mk [(64, none)] rfl ⟨eI rfl rfl, ⟨.im (.val (.slice none 0 0)), rfl, .made rfl rfl⟩, eI rfl rfl, trivial⟩ ⟨.inr ⟨rfl, rfl, .inl ⟨_, _, rfl, by decide⟩⟩, trivial⟩ trivial) (by rintro ⟨y70, i71⟩; exact ((Holds.avl 0 rfl).and ((Holds.kdl 64 rfl).and (Holds.true_ _)))) ?_
  clear h
  rintro k ⟨y70, i71⟩ o hp h ho75
  replace h : R02_Union.s2 lists_ y70 i71 = some o := h
  unfold R02_Union.s2 at h
  obtain ⟨z79, z80, _⟩ := hp
  conv=>whnf
  refine Nf.mk (List.length lists_) len_map ?_
  conv=>whnf
  refine Both.mk ?_ ?_<;>intro b76
  ·replace h := cond_t b76 h
   have b76d := odt b76
   conv=>whnf
   obtain ⟨e77, he77, h⟩ := idxn_some h
   refine ⟨_, ⟨(by omega), map_at he77, rfl⟩, ?_⟩
   conv=>whnf
   obtain ⟨c78, h⟩ := chk_some h
   refine Side.mk ⟨rfl, map_len (l := e77) (c := cL cI) fun _ => rfl, show capOk _ 24 by simpa only [List.length_map, List.length_cons, List.length_nil, Nat.zero_add] using c78⟩ ?_
   conv=>whnf
   refine Nf.mk (List.map (cL cI) (y70 ++ e77)) (app_map (l := y70) (m := e77) (c := cL cI)) ?_
   conv=>whnf
   refine Side.mk (by show inR _; unfold inR; omega) ?_
   conv=>whnf
   cases h
   exact Nxt.mk _ ho75 (Ent.mk [(64, some 64)] rfl ⟨eI rfl rfl, ⟨.osl 64 _, rfl, .osl rfl rfl rfl⟩, eI rfl rfl, trivial⟩ ⟨.inl ⟨64, rfl, rfl, trivial⟩, trivial⟩ trivial)
  ·replace h := cond_f b76 h
   have b76d := odf b76
   conv=>whnf
   cases h
   have ho75 : _ = _ := ho75
   cases ho75
   exact Join.mk (Ent.mk [(64, some 64)] rfl ⟨⟨.osl 64 _, rfl, .osl rfl rfl rfl⟩, trivial⟩ ⟨.inl ⟨64, rfl, rfl, trivial⟩, trivial⟩ trivial)
 ·replace h := hk51
  obtain ⟨z81, _⟩ := hp
  conv=>whnf
  refine Side.mk ⟨rfl, trivial⟩ ?_
  conv=>whnf
  obtain ⟨c82, hc82, h⟩ := bind_some h
  refine ⟨_, (sp_R02_Sorted y66 c82 (fun _ => hc82)).im, ?_⟩
  conv=>whnf
  cases h
  conv=>whnf
  exact ⟨rfl, rfl⟩
theorem sp_R02_Maximal (l_ : List (List Int)) (r : List (List Int)) (h : Ok (nL (cL cI) l_) → R02_Maximal l_ = some r) : Sp Tryz.prog 79 [.im (nL (cL cI) l_)] (.row 38 1 (List.map (cL cI) r)) := by
 refine sp_of rfl [] rfl rfl rfl (Nat.le_of_ble_eq_true rfl) rfl fun hk => ?_
 replace h := h hk.1
 have z1 : List.length l_ ≤ 17592186044416 := ok_len hk.1
 unfold R02_Maximal at h
 conv=>whnf
 obtain ⟨c51, hc51, h⟩ := bind_some h
 refine ⟨_, (sp_R02_Sorted l_ c51 (fun _ => hc51)).im, ?_⟩
 conv=>whnf
 obtain ⟨y246, hc, hk52⟩ := bind_some h
 clear h
 have h := hc
 clear hc
 refine Cut.mk (mkSt [(4, .osl 64 1)] [(64, .row 38 1 (List.map (cL cI) y246))] []) (List.length y246 ≤ 17592186044416 ∧ True) ((Holds.kdl 64 rfl).and (Holds.true_ _)) ?_ (fun hp => ?_)
 ·conv=>whnf
  refine Loops.iter (fun (s : List (List Int) × Nat) => R02_Maximal.s14 c51 s.1 s.2) (fun (y307, i308) => mkSt [(3, .im (nL (cL cI) c51)), (4, .osl 64 1), (5, .im (nI (↑i308 : Int)))] [(64, .row 38 1 (List.map (cL cI) y307))] []) (fun (y307, i308) => List.length c51 ≤ 17592186044416 ∧ List.length y307 ≤ 17592186044416 ∧ True) h (Ent.mk [(64, none)] rfl ⟨eI rfl rfl, ⟨.im (.val (.slice none 0 0)), rfl, .made rfl rfl⟩, eI rfl rfl, trivial⟩ ⟨.inr ⟨rfl, rfl, .inl ⟨_, _, rfl, by decide⟩⟩, trivial⟩ trivial) (by rintro ⟨y307, i308⟩; exact ((Holds.avl 3 rfl).and ((Holds.kdl 64 rfl).and (Holds.true_ _)))) ?_
  clear h
  rintro k ⟨y307, i308⟩ o hp h ho373
  replace h : R02_Maximal.s14 c51 y307 i308 = some o := h
  unfold R02_Maximal.s14 at h
  obtain ⟨z438, z439, _⟩ := hp
  conv=>whnf
  refine Nf.mk (List.length c51) len_map ?_
  conv=>whnf
  refine Both.mk ?_ ?_<;>intro b374
  ·replace h := cond_t b374 h
   have b374d := odt b374
   conv=>whnf
   refine Side.mk (by show inR _; unfold inR; omega) ?_
   conv=>whnf
   obtain ⟨top404, hc, hk375⟩ := bind_some h
   clear h
   have h := hc
   clear hc
   refine Cut.mk (mkSt [(3, .im (nL (cL cI) c51)), (4, .osl 64 1), (5, .im (nI (↑i308 : Int))), (6, .im (nB top404))] [(64, .row 38 1 (List.map (cL cI) y307))] []) (List.length c51 ≤ 17592186044416 ∧ List.length y307 ≤ 17592186044416 ∧ True) ((Holds.avl 3 rfl).and ((Holds.kdl 64 rfl).and (Holds.true_ _))) ?_ (fun hp => ?_)
   ·conv=>whnf
    refine Loops.iter (fun (s : Bool × Nat) => R02_Maximal.s13 c51 i308 s.1 s.2) (fun (top412, k413) => mkSt [(3, .im (nL (cL cI) c51)), (4, .osl 64 1), (5, .im (nI (↑i308 : Int))), (6, .im (nB top412)), (7, .im (nI (↑k413 : Int)))] [(64, .row 38 1 (List.map (cL cI) y307))] []) (fun (top412, k413) => List.length c51 ≤ 17592186044416 ∧ List.length y307 ≤ 17592186044416 ∧ True) h (Ent.mk [(64, some 64)] rfl ⟨eI rfl rfl, ⟨.osl 64 _, rfl, .osl rfl rfl rfl⟩, eI rfl rfl, eI rfl rfl, eI rfl rfl, trivial⟩ ⟨.inl ⟨64, rfl, rfl, trivial⟩, trivial⟩ trivial) (by rintro ⟨top412, k413⟩; exact ((Holds.avl 3 rfl).and ((Holds.kdl 64 rfl).and (Holds.true_ _)))) ?_
    clear h
    rintro k ⟨top412, k413⟩ o hp h ho422
    replace h : R02_Maximal.s13 c51 i308 top412 k413 = some o := h
    unfold R02_Maximal.s13 at h
    obtain ⟨z431, z432, _⟩ := hp
    conv=>whnf
    refine Nf.mk (List.length c51) len_map ?_
    conv=>whnf
    refine Both.mk ?_ ?_<;>intro b423
    ·replace h := cond_t b423 h
     have b423d := odt b423
     conv=>whnf
     refine Both.mk ?_ ?_<;>intro b424
     ·replace b424 := beq_tt b424
      replace h := cond_t b424 h
      conv=>whnf
      iterate 2 (refine Both.yes (tt_beq b424) ?_; (conv=>whnf))
      obtain ⟨e425, he425, h⟩ := idxn_some h
      refine ⟨_, ⟨(by omega), map_at he425, rfl⟩, ?_⟩
      conv=>whnf
      iterate 2 (refine Both.yes (tt_beq b424) ?_; (conv=>whnf))
      refine Nf.mk (List.length e425) len_map ?_
      conv=>whnf
      iterate 3 (refine Both.yes (tt_beq b424) ?_; (conv=>whnf))
      obtain ⟨e426, he426, h⟩ := idxn_some h
      refine ⟨_, ⟨(by omega), map_at he426, rfl⟩, ?_⟩
      conv=>whnf
      iterate 2 (refine Both.yes (tt_beq b424) ?_; (conv=>whnf))
      refine Nf.mk (List.length e426) len_map ?_
      conv=>whnf
      iterate 2 (refine Both.yes (tt_beq b424) ?_; (conv=>whnf))
      refine Both.mk ?_ ?_<;>intro b427
      ·replace b427 := beq_ff b427
       replace h := cond_f b427 h
       have b427d := odf b427
       conv=>whnf
       iterate 2 (refine Both.yes (ff_beq b427) ?_; (conv=>whnf))
       obtain ⟨e428, he428, h⟩ := idxn_some h
       refine ⟨_, ⟨(by omega), map_at he428, rfl⟩, ?_⟩
       conv=>whnf
       iterate 4 (refine Both.yes (ff_beq b427) ?_; (conv=>whnf))
       obtain ⟨e429, he429, h⟩ := idxn_some h
       refine ⟨_, ⟨(by omega), map_at he429, rfl⟩, ?_⟩
       conv=>whnf
       iterate 2 (refine Both.yes (ff_beq b427) ?_; (conv=>whnf))
       obtain ⟨c430, hc430, h⟩ := bind_some h
       refine ⟨_, (sp_R01_HasPrefix e428 e429 c430 (fun _ _ => hc430)), ?_⟩
       conv=>whnf
       refine Both.yes (ff_beq b427) ?_
       conv=>whnf
       refine Both.yes (tt_beq b424) ?_
       conv=>whnf
       refine Both.no b427 ?_
       conv=>whnf
       refine Both.yes b424 ?_
       conv=>whnf
       refine Side.mk (by show inR _; unfold inR; omega) ?_
       conv=>whnf
       cases h
       exact Nxt.mk _ ho422 (Ent.mk [(64, some 64)] rfl ⟨eI rfl rfl, ⟨.osl 64 _, rfl, .osl rfl rfl rfl⟩, eI rfl rfl, eI rfl rfl, eI rfl rfl, trivial⟩ ⟨.inl ⟨64, rfl, rfl, trivial⟩, trivial⟩ trivial)
      ·replace b427 := beq_ft b427
       replace h := cond_t b427 h
       have b427d := odt b427
       conv=>whnf
       iterate 9 (refine Both.no (tf_beq b427) ?_; (conv=>whnf))
       refine Both.yes (tt_beq b424) ?_
       conv=>whnf
       refine Both.yes b427 ?_
       conv=>whnf
       refine Both.yes b424 ?_
       conv=>whnf
       refine Side.mk (by show inR _; unfold inR; omega) ?_
       conv=>whnf
       cases h
       exact Nxt.mk _ ho422 (Ent.mk [(64, some 64)] rfl ⟨eI rfl rfl, ⟨.osl 64 _, rfl, .osl rfl rfl rfl⟩, eI rfl rfl, eI rfl rfl, eI rfl rfl, trivial⟩ ⟨.inl ⟨64, rfl, rfl, trivial⟩, trivial⟩ trivial)
     ·replace b424 := beq_tf b424
      replace h := cond_f b424 h
      conv=>whnf
      iterate 12 (refine Both.no (ft_beq b424) ?_; (conv=>whnf))
      refine Both.no b424 ?_
      conv=>whnf
      refine Side.mk (by show inR _; unfold inR; omega) ?_
      conv=>whnf
      cases h
      exact Nxt.mk _ ho422 (Ent.mk [(64, some 64)] rfl ⟨eI rfl rfl, ⟨.osl 64 _, rfl, .osl rfl rfl rfl⟩, eI rfl rfl, eI rfl rfl, eI rfl rfl, trivial⟩ ⟨.inl ⟨64, rfl, rfl, trivial⟩, trivial⟩ trivial)
    ·replace h := cond_f b423 h
     have b423d := odf b423
     conv=>whnf
     cases h
     have ho422 : _ = _ := ho422
     cases ho422
     exact Join.mk (Ent.mk [(64, some 64)] rfl ⟨eI rfl rfl, ⟨.osl 64 _, rfl, .osl rfl rfl rfl⟩, eI rfl rfl, eI rfl rfl, trivial⟩ ⟨.inl ⟨64, rfl, rfl, trivial⟩, trivial⟩ trivial)
   ·replace h := hk375
    obtain ⟨z433, z434, _⟩ := hp
    conv=>whnf
    refine Both.mk ?_ ?_<;>intro b435
    ·replace h := cond_t b435 h
     conv=>whnf
     obtain ⟨e436, he436, h⟩ := idxn_some h
     refine ⟨_, ⟨(by omega), map_at he436, rfl⟩, ?_⟩
     conv=>whnf
     obtain ⟨c437, h⟩ := chk_some h
     refine Side.mk ⟨rfl, map_len (l := [e436]) (c := cL cI) fun _ => rfl, show capOk _ 24 by simpa only [List.length_map, List.length_cons, List.length_nil, Nat.zero_add] using c437⟩ ?_
     conv=>whnf
     refine Nf.mk (List.map (cL cI) (y307 ++ [e436])) (app_map (l := y307) (m := [e436]) (c := cL cI)) ?_
     conv=>whnf
     refine Side.mk (by show inR _; unfold inR; omega) ?_
     conv=>whnf
     cases h
     exact Nxt.mk _ ho373 (Ent.mk [(64, some 64)] rfl ⟨eI rfl rfl, ⟨.osl 64 _, rfl, .osl rfl rfl rfl⟩, eI rfl rfl, trivial⟩ ⟨.inl ⟨64, rfl, rfl, trivial⟩, trivial⟩ trivial)
    ·replace h := cond_f b435 h
     conv=>whnf
     refine Side.mk (by show inR _; unfold inR; omega) ?_
     conv=>whnf
     cases h
     exact Nxt.mk _ ho373 (Ent.mk [(64, some 64)] rfl ⟨eI rfl rfl, ⟨.osl 64 _, rfl, .osl rfl rfl rfl⟩, eI rfl rfl, trivial⟩ ⟨.inl ⟨64, rfl, rfl, trivial⟩, trivial⟩ trivial)
  ·replace h := cond_f b374 h
   have b374d := odf b374
   conv=>whnf
   cases h
   have ho373 : _ = _ := ho373
   cases ho373
   exact Join.mk (Ent.mk [(64, some 64)] rfl ⟨⟨.osl 64 _, rfl, .osl rfl rfl rfl⟩, trivial⟩ ⟨.inl ⟨64, rfl, rfl, trivial⟩, trivial⟩ trivial)
 ·replace h := hk52
  obtain ⟨z440, _⟩ := hp
  conv=>whnf
  cases h
  conv=>whnf
  exact Side.mk ⟨rfl, trivial⟩ ⟨rfl, rfl⟩
theorem sp_R23_Extensions (t_ : T_api_Table) (r : List (List Int)) (h : Ok (.agg (c_api_Table t_)) → R23_Extensions t_ = some r) : Sp Tryz.prog 46 [.im (.agg (c_api_Table t_))] (.im (nL (cL cI) r)) := by
 refine sp_of rfl [700001] rfl rfl rfl (Nat.le_of_ble_eq_true rfl) rfl fun hk => ?_
 replace h := h hk.1
 have z1 : List.length t_.Prefixes ≤ 17592186044416 := ok_len (Ok.agg_at hk.1 1 rfl)
 have z2 : List.length t_.Suffixes ≤ 17592186044416 := ok_len (Ok.agg_at hk.1 2 rfl)
 unfold R23_Extensions at h
 conv=>whnf
 obtain ⟨y174, hc, hk51⟩ := bind_some h
 clear h
 have h := hc
 clear hc
 refine Cut.mk (mkSt [(3, .osl 64 1)] [(64, .row 38 1 (List.map (cL cI) y174))] []) (List.length y174 ≤ 17592186044416 ∧ True) ((Holds.kdl 64 rfl).and (Holds.true_ _)) ?_ (fun hp => ?_)
 ·conv=>whnf
  refine Loops.iter (fun (s : List (List Int) × Nat) => R23_Extensions.s14 t_ s.1 s.2) (fun (y213, i214) => mkSt [(1, .im (.ref (c_api_Table t_))), (3, .osl 64 1), (4, .im (nI (↑i214 : Int)))] [(64, .row 38 1 (List.map (cL cI) y213))] []) (fun (y213, i214) => List.length y213 ≤ 17592186044416 ∧ True) h (Ent.mk [(64, none)] rfl ⟨eI rfl rfl, ⟨.im (.val (.slice none 0 0)), rfl, .made rfl rfl⟩, eI rfl rfl, trivial⟩ ⟨.inr ⟨rfl, rfl, .inl ⟨_, _, rfl, by decide⟩⟩, trivial⟩ trivial) (by rintro ⟨y213, i214⟩; exact ((Holds.kdl 64 rfl).and (Holds.true_ _))) ?_
  clear h
  rintro k ⟨y213, i214⟩ o hp h ho255
  replace h : R23_Extensions.s14 t_ y213 i214 = some o := h
  unfold R23_Extensions.s14 at h
  obtain ⟨z296, _⟩ := hp
  conv=>whnf
  refine Nf.mk (List.length t_.Prefixes) len_map ?_
  conv=>whnf
  refine Both.mk ?_ ?_<;>intro b256
  ·replace h := cond_t b256 h
   have b256d := odt b256
   conv=>whnf
   obtain ⟨y276, hc, hk257⟩ := bind_some h
   clear h
   have h := hc
   clear hc
   refine Cut.mk (mkSt [(1, .im (.ref (c_api_Table t_))), (3, .osl 64 1), (4, .im (nI (↑i214 : Int)))] [(64, .row 38 1 (List.map (cL cI) y276))] []) (List.length y276 ≤ 17592186044416 ∧ True) ((Holds.kdl 64 rfl).and (Holds.true_ _)) ?_ (fun hp => ?_)
   ·conv=>whnf
    refine Loops.iter (fun (s : List (List Int) × Nat) => R23_Extensions.s13 t_ i214 s.1 s.2) (fun (y281, a282) => mkSt [(1, .im (.ref (c_api_Table t_))), (3, .osl 64 1), (4, .im (nI (↑i214 : Int))), (5, .im (nI (↑a282 : Int)))] [(64, .row 38 1 (List.map (cL cI) y281))] []) (fun (y281, a282) => List.length y281 ≤ 17592186044416 ∧ True) h (Ent.mk [(64, some 64)] rfl ⟨eI rfl rfl, ⟨.osl 64 _, rfl, .osl rfl rfl rfl⟩, eI rfl rfl, eI rfl rfl, trivial⟩ ⟨.inl ⟨64, rfl, rfl, trivial⟩, trivial⟩ trivial) (by rintro ⟨y281, a282⟩; exact ((Holds.kdl 64 rfl).and (Holds.true_ _))) ?_
    clear h
    rintro k ⟨y281, a282⟩ o hp h ho288
    replace h : R23_Extensions.s13 t_ i214 y281 a282 = some o := h
    unfold R23_Extensions.s13 at h
    obtain ⟨z294, _⟩ := hp
    conv=>whnf
    refine Both.mk ?_ ?_<;>intro b289
    ·replace h := cond_t b289 h
     have b289d := odt b289
     conv=>whnf
     obtain ⟨e290, he290, h⟩ := idxn_some h
     refine ⟨_, ⟨(by omega), map_at he290, rfl⟩, ?_⟩
     conv=>whnf
     obtain ⟨c291, hc291, h⟩ := bind_some h
     refine ⟨_, (sp_R23_Joined e290 [(↑a282 : Int)] c291 (fun _ _ => hc291)), ?_⟩
     conv=>whnf
     obtain ⟨c292, h⟩ := chk_some h
     refine Side.mk ⟨rfl, map_len (l := [c291]) (c := cL cI) fun _ => rfl, show capOk _ 24 by simpa only [List.length_map, List.length_cons, List.length_nil, Nat.zero_add] using c292⟩ ?_
     conv=>whnf
     refine Nf.mk (List.map (cL cI) (y281 ++ [c291])) (app_map (l := y281) (m := [c291]) (c := cL cI)) ?_
     conv=>whnf
     obtain ⟨c293, h⟩ := chk_some h
     refine Side.mk c293 ?_
     conv=>whnf
     cases h
     exact Nxt.mk _ ho288 (Ent.mk [(64, some 64)] rfl ⟨eI rfl rfl, ⟨.osl 64 _, rfl, .osl rfl rfl rfl⟩, eI rfl rfl, eI rfl rfl, trivial⟩ ⟨.inl ⟨64, rfl, rfl, trivial⟩, trivial⟩ trivial)
    ·replace h := cond_f b289 h
     have b289d := odf b289
     conv=>whnf
     cases h
     have ho288 : _ = _ := ho288
     cases ho288
     exact Join.mk (Ent.mk [(64, some 64)] rfl ⟨eI rfl rfl, ⟨.osl 64 _, rfl, .osl rfl rfl rfl⟩, eI rfl rfl, trivial⟩ ⟨.inl ⟨64, rfl, rfl, trivial⟩, trivial⟩ trivial)
   ·replace h := hk257
    obtain ⟨z295, _⟩ := hp
    conv=>whnf
    refine Side.mk (by show inR _; unfold inR; omega) ?_
    conv=>whnf
    cases h
    exact Nxt.mk _ ho255 (Ent.mk [(64, some 64)] rfl ⟨eI rfl rfl, ⟨.osl 64 _, rfl, .osl rfl rfl rfl⟩, eI rfl rfl, trivial⟩ ⟨.inl ⟨64, rfl, rfl, trivial⟩, trivial⟩ trivial)
  ·replace h := cond_f b256 h
   have b256d := odf b256
   conv=>whnf
   cases h
   have ho255 : _ = _ := ho255
   cases ho255
   exact Join.mk (Ent.mk [(64, some 64)] rfl ⟨⟨.osl 64 _, rfl, .osl rfl rfl rfl⟩, trivial⟩ ⟨.inl ⟨64, rfl, rfl, trivial⟩, trivial⟩ trivial)
 ·replace h := hk51
  obtain ⟨z297, _⟩ := hp
  conv=>whnf
  refine Side.mk ⟨rfl, trivial⟩ ?_
  conv=>whnf
  obtain ⟨c298, hc298, h⟩ := bind_some h
  refine ⟨_, (sp_R02_Sorted y174 c298 (fun _ => hc298)).im, ?_⟩
  conv=>whnf
  cases h
  conv=>whnf
  exact ⟨rfl, rfl⟩
theorem sp_R23_Needed (t_ : T_api_Table) (o_ : T_api_Obs) (r : List (List Int) × Int) (h : Ok (.agg (c_api_Table t_)) → Ok (.agg (c_api_Obs o_)) → R23_Needed t_ o_ = some r) : Sp Tryz.prog 23 [.im (.agg (c_api_Table t_)), .im (.agg (c_api_Obs o_))] (.tup [nL (cL cI) r.1, nI r.2]) := by
 refine sp_of rfl [700002, 700003] rfl rfl rfl (Nat.le_of_ble_eq_true rfl) rfl fun hk => ?_
 replace h := h hk.1 hk.2.1
 have z1 : List.length t_.Prefixes ≤ 17592186044416 := ok_len (Ok.agg_at hk.1 1 rfl)
 have z2 : List.length t_.Suffixes ≤ 17592186044416 := ok_len (Ok.agg_at hk.1 2 rfl)
 have z3 : List.length o_.Traces ≤ 17592186044416 := ok_len (Ok.agg_at hk.2.1 1 rfl)
 unfold R23_Needed at h
 conv=>whnf
 obtain ⟨c51, hc51, h⟩ := bind_some h
 refine ⟨_, (sp_R23_Check t_ o_ c51 (fun _ _ => hc51)), ?_⟩
 conv=>whnf
 refine Both.mk ?_ ?_<;>intro b52
 ·replace h := cond_t b52 h
  have b52d := odt b52
  conv=>whnf
  cases h
  conv=>whnf
  exact ⟨rfl, rfl⟩
 ·replace h := cond_f b52 h
  have b52d := odf b52
  conv=>whnf
  obtain ⟨c53, hc53, h⟩ := bind_some h
  refine ⟨_, (sp_R23_Extensions t_ c53 (fun _ => hc53)), ?_⟩
  conv=>whnf
  obtain ⟨c54, hc54, h⟩ := bind_some h
  refine ⟨_, (sp_R02_Union [t_.Prefixes, c53] c54 (fun _ => hc54)), ?_⟩
  conv=>whnf
  obtain ⟨y230, hc, hk55⟩ := bind_some h
  clear h
  have h := hc
  clear hc
  refine Cut.mk (mkSt [(8, .osl 64 1)] [(64, .row 38 1 (List.map (cL cI) y230))] []) (List.length y230 ≤ 17592186044416 ∧ True) ((Holds.kdl 64 rfl).and (Holds.true_ _)) ?_ (fun hp => ?_)
  ·conv=>whnf
   refine Loops.iter (fun (s : List (List Int) × Nat) => R23_Needed.s14 t_ o_ c54 s.1 s.2) (fun (y286, i287) => mkSt [(2, .im (.ref (c_api_Table t_))), (3, .im (.ref (c_api_Obs o_))), (7, .im (nL (cL cI) c54)), (8, .osl 64 1), (9, .im (nI (↑i287 : Int)))] [(64, .row 38 1 (List.map (cL cI) y286))] []) (fun (y286, i287) => List.length c54 ≤ 17592186044416 ∧ List.length y286 ≤ 17592186044416 ∧ True) h (Ent.mk [(64, none)] rfl ⟨eI rfl rfl, eI rfl rfl, eI rfl rfl, ⟨.im (.val (.slice none 0 0)), rfl, .made rfl rfl⟩, eI rfl rfl, trivial⟩ ⟨.inr ⟨rfl, rfl, .inl ⟨_, _, rfl, by decide⟩⟩, trivial⟩ trivial) (by rintro ⟨y286, i287⟩; exact ((Holds.avl 7 rfl).and ((Holds.kdl 64 rfl).and (Holds.true_ _)))) ?_
   clear h
   rintro k ⟨y286, i287⟩ o hp h ho345
   replace h : R23_Needed.s14 t_ o_ c54 y286 i287 = some o := h
   unfold R23_Needed.s14 at h
   obtain ⟨z403, z404, _⟩ := hp
   conv=>whnf
   refine Nf.mk (List.length c54) len_map ?_
   conv=>whnf
   refine Both.mk ?_ ?_<;>intro b346
   ·replace h := cond_t b346 h
    have b346d := odt b346
    conv=>whnf
    obtain ⟨y374, hc, hk347⟩ := bind_some h
    clear h
    have h := hc
    clear hc
    refine Cut.mk (mkSt [(2, .im (.ref (c_api_Table t_))), (3, .im (.ref (c_api_Obs o_))), (7, .im (nL (cL cI) c54)), (8, .osl 64 1), (9, .im (nI (↑i287 : Int)))] [(64, .row 38 1 (List.map (cL cI) y374))] []) (List.length c54 ≤ 17592186044416 ∧ List.length y374 ≤ 17592186044416 ∧ True) ((Holds.avl 7 rfl).and ((Holds.kdl 64 rfl).and (Holds.true_ _))) ?_ (fun hp => ?_)
    ·conv=>whnf
     refine Loops.iter (fun (s : List (List Int) × Nat) => R23_Needed.s13 t_ o_ c54 i287 s.1 s.2) (fun (y382, k383) => mkSt [(2, .im (.ref (c_api_Table t_))), (3, .im (.ref (c_api_Obs o_))), (7, .im (nL (cL cI) c54)), (8, .osl 64 1), (9, .im (nI (↑i287 : Int))), (10, .im (nI (↑k383 : Int)))] [(64, .row 38 1 (List.map (cL cI) y382))] []) (fun (y382, k383) => List.length c54 ≤ 17592186044416 ∧ List.length y382 ≤ 17592186044416 ∧ True) h (Ent.mk [(64, some 64)] rfl ⟨eI rfl rfl, eI rfl rfl, eI rfl rfl, ⟨.osl 64 _, rfl, .osl rfl rfl rfl⟩, eI rfl rfl, eI rfl rfl, trivial⟩ ⟨.inl ⟨64, rfl, rfl, trivial⟩, trivial⟩ trivial) (by rintro ⟨y382, k383⟩; exact ((Holds.avl 7 rfl).and ((Holds.kdl 64 rfl).and (Holds.true_ _)))) ?_
     clear h
     rintro k ⟨y382, k383⟩ o hp h ho391
     replace h : R23_Needed.s13 t_ o_ c54 i287 y382 k383 = some o := h
     unfold R23_Needed.s13 at h
     obtain ⟨z399, z400, _⟩ := hp
     conv=>whnf
     refine Nf.mk (List.length t_.Suffixes) len_map ?_
     conv=>whnf
     refine Both.mk ?_ ?_<;>intro b392
     ·replace h := cond_t b392 h
      have b392d := odt b392
      conv=>whnf
      obtain ⟨e393, he393, h⟩ := idxn_some h
      refine ⟨_, ⟨(by omega), map_at he393, rfl⟩, ?_⟩
      conv=>whnf
      obtain ⟨e394, he394, h⟩ := idxn_some h
      refine ⟨_, ⟨(by omega), map_at he394, rfl⟩, ?_⟩
      conv=>whnf
      obtain ⟨c395, hc395, h⟩ := bind_some h
      refine ⟨_, (sp_R23_Joined e393 e394 c395 (fun _ _ => hc395)), ?_⟩
      conv=>whnf
      obtain ⟨c396, hc396, h⟩ := bind_some h
      refine ⟨_, (sp_R16_Answer o_ c395 c396 (fun _ _ => hc396)), ?_⟩
      conv=>whnf
      refine Both.mk ?_ ?_<;>intro b397
      ·replace h := cond_t b397 h
       conv=>whnf
       obtain ⟨c398, h⟩ := chk_some h
       refine Side.mk ⟨rfl, map_len (l := [c395]) (c := cL cI) fun _ => rfl, show capOk _ 24 by simpa only [List.length_map, List.length_cons, List.length_nil, Nat.zero_add] using c398⟩ ?_
       conv=>whnf
       refine Nf.mk (List.map (cL cI) (y382 ++ [c395])) (app_map (l := y382) (m := [c395]) (c := cL cI)) ?_
       conv=>whnf
       refine Side.mk (by show inR _; unfold inR; omega) ?_
       conv=>whnf
       cases h
       exact Nxt.mk _ ho391 (Ent.mk [(64, some 64)] rfl ⟨eI rfl rfl, eI rfl rfl, eI rfl rfl, ⟨.osl 64 _, rfl, .osl rfl rfl rfl⟩, eI rfl rfl, eI rfl rfl, trivial⟩ ⟨.inl ⟨64, rfl, rfl, trivial⟩, trivial⟩ trivial)
      ·replace h := cond_f b397 h
       conv=>whnf
       refine Side.mk (by show inR _; unfold inR; omega) ?_
       conv=>whnf
       cases h
       exact Nxt.mk _ ho391 (Ent.mk [(64, some 64)] rfl ⟨eI rfl rfl, eI rfl rfl, eI rfl rfl, ⟨.osl 64 _, rfl, .osl rfl rfl rfl⟩, eI rfl rfl, eI rfl rfl, trivial⟩ ⟨.inl ⟨64, rfl, rfl, trivial⟩, trivial⟩ trivial)
     ·replace h := cond_f b392 h
      have b392d := odf b392
      conv=>whnf
      cases h
      have ho391 : _ = _ := ho391
      cases ho391
      exact Join.mk (Ent.mk [(64, some 64)] rfl ⟨eI rfl rfl, eI rfl rfl, eI rfl rfl, ⟨.osl 64 _, rfl, .osl rfl rfl rfl⟩, eI rfl rfl, trivial⟩ ⟨.inl ⟨64, rfl, rfl, trivial⟩, trivial⟩ trivial)
    ·replace h := hk347
     obtain ⟨z401, z402, _⟩ := hp
     conv=>whnf
     refine Side.mk (by show inR _; unfold inR; omega) ?_
     conv=>whnf
     cases h
     exact Nxt.mk _ ho345 (Ent.mk [(64, some 64)] rfl ⟨eI rfl rfl, eI rfl rfl, eI rfl rfl, ⟨.osl 64 _, rfl, .osl rfl rfl rfl⟩, eI rfl rfl, trivial⟩ ⟨.inl ⟨64, rfl, rfl, trivial⟩, trivial⟩ trivial)
   ·replace h := cond_f b346 h
    have b346d := odf b346
    conv=>whnf
    cases h
    have ho345 : _ = _ := ho345
    cases ho345
    exact Join.mk (Ent.mk [(64, some 64)] rfl ⟨⟨.osl 64 _, rfl, .osl rfl rfl rfl⟩, trivial⟩ ⟨.inl ⟨64, rfl, rfl, trivial⟩, trivial⟩ trivial)
  ·replace h := hk55
   obtain ⟨z405, _⟩ := hp
   conv=>whnf
   refine Side.mk ⟨rfl, trivial⟩ ?_
   conv=>whnf
   obtain ⟨c406, hc406, h⟩ := bind_some h
   refine ⟨_, (sp_R02_Maximal y230 c406 (fun _ => hc406)).im, ?_⟩
   conv=>whnf
   cases h
   conv=>whnf
   exact ⟨rfl, rfl⟩
theorem sp_R23_find (t_ : T_api_Table) (o_ : T_api_Obs) (w_ : List Int) (r : Int) (h : Ok (.agg (c_api_Table t_)) → Ok (.agg (c_api_Obs o_)) → Ok (nL cI w_) → R23_find t_ o_ w_ = some r) : Sp Tryz.prog 86 [.im (.agg (c_api_Table t_)), .im (.agg (c_api_Obs o_)), .im (nL cI w_)] (.im (nI r)) := by
 refine sp_of rfl [700003, 700004] rfl rfl rfl (Nat.le_of_ble_eq_true rfl) rfl fun hk => ?_
 replace h := h hk.1 hk.2.1 hk.2.2.1
 have z1 : List.length t_.Prefixes ≤ 17592186044416 := ok_len (Ok.agg_at hk.1 1 rfl)
 have z2 : List.length t_.Suffixes ≤ 17592186044416 := ok_len (Ok.agg_at hk.1 2 rfl)
 have z3 : List.length o_.Traces ≤ 17592186044416 := ok_len (Ok.agg_at hk.2.1 1 rfl)
 have z4 : List.length w_ ≤ 17592186044416 := ok_len hk.2.2.1
 unfold R23_find at h
 conv=>whnf
 obtain ⟨c51, hc51, h⟩ := bind_some h
 refine ⟨_, (sp_R23_row o_ t_.Suffixes w_ c51 (fun _ _ _ => hc51)), ?_⟩
 conv=>whnf
 obtain ⟨oc, hc, hk52⟩ := bind_some h
 clear h
 have h := hc
 clear hc
 refine Cut.mkS oc (Y := Unit) (fun (_ : Unit) => mkSt [] [] []) (fun (_ : Unit) => True) (by rintro ⟨⟩; exact (Holds.true_ _)) ?_ ?_
 ·conv=>whnf
  refine Loops.iter (fun (s : Nat) => R23_find.s2 t_ o_ c51 s) (fun i76 => mkSt [(3, .im (.ref (c_api_Table t_))), (4, .im (.ref (c_api_Obs o_))), (7, .im (nL (cL cI) c51.1)), (9, .im (nI (↑i76 : Int)))] [] []) (fun i76 => List.length c51.1 ≤ 17592186044416 ∧ True) h (Ent.mk [] rfl ⟨eI rfl rfl, eI rfl rfl, eI rfl rfl, eI rfl rfl, trivial⟩ trivial trivial) (by rintro i76; exact ((Holds.avl 7 rfl).and (Holds.true_ _))) ?_
  clear h
  rintro k i76 o hp h ho82
  replace h : R23_find.s2 t_ o_ c51 i76 = some o := h
  unfold R23_find.s2 at h
  obtain ⟨z88, _⟩ := hp
  conv=>whnf
  refine Nf.mk (List.length t_.Prefixes) len_map ?_
  conv=>whnf
  refine Both.mk ?_ ?_<;>intro b83
  ·replace h := cond_t b83 h
   have b83d := odt b83
   conv=>whnf
   obtain ⟨e84, he84, h⟩ := idxn_some h
   refine ⟨_, ⟨(by omega), map_at he84, rfl⟩, ?_⟩
   conv=>whnf
   obtain ⟨c85, hc85, h⟩ := bind_some h
   refine ⟨_, (sp_R23_row o_ t_.Suffixes e84 c85 (fun _ _ _ => hc85)), ?_⟩
   conv=>whnf
   obtain ⟨c86, hc86, h⟩ := bind_some h
   refine ⟨_, (sp_R06_Lists c85.1 c51.1 c86 (fun _ _ => hc86)), ?_⟩
   conv=>whnf
   refine Both.mk ?_ ?_<;>intro b87
   ·replace h := cond_t b87 h
    conv=>whnf
    cases h
    have ho82 : _ = _ := ho82
    cases ho82
    replace h : some _ = some _ := hk52
    cases h
    conv=>whnf
    exact ⟨rfl, rfl⟩
   ·replace h := cond_f b87 h
    conv=>whnf
    refine Side.mk (by show inR _; unfold inR; omega) ?_
    conv=>whnf
    cases h
    exact Nxt.mk _ ho82 (Ent.mk [] rfl ⟨eI rfl rfl, eI rfl rfl, eI rfl rfl, eI rfl rfl, trivial⟩ trivial trivial)
  ·replace h := cond_f b83 h
   have b83d := odf b83
   conv=>whnf
   cases h
   have ho82 : _ = _ := ho82
   cases ho82
   exact JoinS.mk' _ rfl (Ent.mk [] rfl trivial trivial trivial)
 ·rintro ⟨⟩ rfl hp
  replace h := sum_inl hk52
  conv=>whnf
  cases h
  conv=>whnf
  exact ⟨rfl, rfl⟩
theorem sp_R23_complete (t_ : T_api_Table) (o_ : T_api_Obs) (r : Int) (h : Ok (.agg (c_api_Table t_)) → Ok (.agg (c_api_Obs o_)) → R23_complete t_ o_ = some r) : Sp Tryz.prog 85 [.im (.agg (c_api_Table t_)), .im (.agg (c_api_Obs o_))] (.im (nI r)) := by
 refine sp_of rfl [700002, 700003] rfl rfl rfl (Nat.le_of_ble_eq_true rfl) rfl fun hk => ?_
 replace h := h hk.1 hk.2.1
 have z1 : List.length t_.Prefixes ≤ 17592186044416 := ok_len (Ok.agg_at hk.1 1 rfl)
 have z2 : List.length t_.Suffixes ≤ 17592186044416 := ok_len (Ok.agg_at hk.1 2 rfl)
 have z3 : List.length o_.Traces ≤ 17592186044416 := ok_len (Ok.agg_at hk.2.1 1 rfl)
 unfold R23_complete at h
 conv=>whnf
 obtain ⟨c51, hc51, h⟩ := bind_some h
 refine ⟨_, (sp_R23_Needed t_ o_ c51 (fun _ _ => hc51)), ?_⟩
 conv=>whnf
 refine Both.mk ?_ ?_<;>intro b52
 ·replace h := cond_t b52 h
  have b52d := odt b52
  conv=>whnf
  cases h
  conv=>whnf
  exact ⟨rfl, rfl⟩
 ·replace h := cond_f b52 h
  have b52d := odf b52
  conv=>whnf
  refine Nf.mk (List.length c51.1) len_map ?_
  conv=>whnf
  refine Both.mk ?_ ?_<;>intro b53
  ·replace h := cond_t b53 h
   have b53d := odt b53
   conv=>whnf
   cases h
   conv=>whnf
   exact ⟨rfl, rfl⟩
  ·replace h := cond_f b53 h
   have b53d := odf b53
   conv=>whnf
   cases h
   conv=>whnf
   exact ⟨rfl, rfl⟩
theorem sp_R23_Unclosed (t_ : T_api_Table) (o_ : T_api_Obs) (r : List Int × Bool × Int) (h : Ok (.agg (c_api_Table t_)) → Ok (.agg (c_api_Obs o_)) → R23_Unclosed t_ o_ = some r) : Sp Tryz.prog 29 [.im (.agg (c_api_Table t_)), .im (.agg (c_api_Obs o_))] (.tup [nL cI r.1, nB r.2.1, nI r.2.2]) := by
 refine sp_of rfl [700002, 700003] rfl rfl rfl (Nat.le_of_ble_eq_true rfl) rfl fun hk => ?_
 replace h := h hk.1 hk.2.1
 have z1 : List.length t_.Prefixes ≤ 17592186044416 := ok_len (Ok.agg_at hk.1 1 rfl)
 have z2 : List.length t_.Suffixes ≤ 17592186044416 := ok_len (Ok.agg_at hk.1 2 rfl)
 have z3 : List.length o_.Traces ≤ 17592186044416 := ok_len (Ok.agg_at hk.2.1 1 rfl)
 unfold R23_Unclosed at h
 conv=>whnf
 obtain ⟨c51, hc51, h⟩ := bind_some h
 refine ⟨_, (sp_R23_complete t_ o_ c51 (fun _ _ => hc51)), ?_⟩
 conv=>whnf
 refine Both.mk ?_ ?_<;>intro b52
 ·replace h := cond_t b52 h
  have b52d := odt b52
  conv=>whnf
  cases h
  conv=>whnf
  exact ⟨rfl, rfl⟩
 ·replace h := cond_f b52 h
  have b52d := odf b52
  conv=>whnf
  obtain ⟨c53, hc53, h⟩ := bind_some h
  refine ⟨_, (sp_R23_Extensions t_ c53 (fun _ => hc53)), ?_⟩
  conv=>whnf
  obtain ⟨oc, hc, hk54⟩ := bind_some h
  clear h
  have h := hc
  clear hc
  refine Cut.mkS oc (Y := Unit) (fun (_ : Unit) => mkSt [] [] []) (fun (_ : Unit) => True) (by rintro ⟨⟩; exact (Holds.true_ _)) ?_ ?_
  ·conv=>whnf
   refine Loops.iter (fun (s : Nat) => R23_Unclosed.s2 t_ o_ c53 s) (fun i78 => mkSt [(2, .im (.ref (c_api_Table t_))), (3, .im (.ref (c_api_Obs o_))), (8, .im (nL (cL cI) c53)), (9, .im (nI (↑i78 : Int)))] [] []) (fun i78 => List.length c53 ≤ 17592186044416 ∧ True) h (Ent.mk [] rfl ⟨eI rfl rfl, eI rfl rfl, eI rfl rfl, eI rfl rfl, trivial⟩ trivial trivial) (by rintro i78; exact ((Holds.avl 8 rfl).and (Holds.true_ _))) ?_
   clear h
   rintro k i78 o hp h ho84
   replace h : R23_Unclosed.s2 t_ o_ c53 i78 = some o := h
   unfold R23_Unclosed.s2 at h
   obtain ⟨z90, _⟩ := hp
   conv=>whnf
   refine Nf.mk (List.length c53) len_map ?_
   conv=>whnf
   refine Both.mk ?_ ?_<;>intro b85
   ·replace h := cond_t b85 h
    have b85d := odt b85
    conv=>whnf
    obtain ⟨e86, he86, h⟩ := idxn_some h
    refine ⟨_, ⟨(by omega), map_at he86, rfl⟩, ?_⟩
    conv=>whnf
    obtain ⟨c87, hc87, h⟩ := bind_some h
    refine ⟨_, (sp_R23_find t_ o_ e86 c87 (fun _ _ _ => hc87)), ?_⟩
    conv=>whnf
    refine Both.mk ?_ ?_<;>intro b88
    ·replace h := cond_t b88 h
     have b88d := odt b88
     conv=>whnf
     obtain ⟨e89, he89, h⟩ := idxn_some h
     refine ⟨_, ⟨(by omega), map_at he89, rfl⟩, ?_⟩
     conv=>whnf
     cases h
     have ho84 : _ = _ := ho84
     cases ho84
     replace h : some _ = some _ := hk54
     cases h
     conv=>whnf
     exact ⟨rfl, rfl⟩
    ·replace h := cond_f b88 h
     have b88d := odf b88
     conv=>whnf
     refine Side.mk (by show inR _; unfold inR; omega) ?_
     conv=>whnf
     cases h
     exact Nxt.mk _ ho84 (Ent.mk [] rfl ⟨eI rfl rfl, eI rfl rfl, eI rfl rfl, eI rfl rfl, trivial⟩ trivial trivial)
   ·replace h := cond_f b85 h
    have b85d := odf b85
    conv=>whnf
    cases h
    have ho84 : _ = _ := ho84
    cases ho84
    exact JoinS.mk' _ rfl (Ent.mk [] rfl trivial trivial trivial)
  ·rintro ⟨⟩ rfl hp
   replace h := sum_inl hk54
   conv=>whnf
   cases h
   conv=>whnf
   exact ⟨rfl, rfl⟩
theorem sp_slices_Equal_Sint_int (s1_ : List Int) (s2_ : List Int) (r : Bool) (h : Ok (nL cI s1_) → Ok (nL cI s2_) → slices_Equal_Sint_int s1_ s2_ = some r) : Sp Tryz.prog 128 [.im (nL cI s1_), .im (nL cI s2_)] (.im (nB r)) := by
 refine sp_of rfl [] rfl rfl rfl (Nat.le_of_ble_eq_true rfl) rfl fun hk => ?_
 replace h := h hk.1 hk.2.1
 have z1 : List.length s1_ ≤ 17592186044416 := ok_len hk.1
 have z2 : List.length s2_ ≤ 17592186044416 := ok_len hk.2.1
 unfold slices_Equal_Sint_int at h
 conv=>whnf
 refine Nf.mk (List.length s1_) len_map ?_
 conv=>whnf
 refine Nf.mk (List.length s2_) len_map ?_
 conv=>whnf
 refine Both.mk ?_ ?_<;>intro b51
 ·replace h := cond_t b51 h
  have b51d := odt b51
  conv=>whnf
  cases h
  conv=>whnf
  exact ⟨rfl, rfl⟩
 ·replace h := cond_f b51 h
  have b51d := odf b51
  conv=>whnf
  refine Nf.mk (List.length s1_) len_map ?_
  conv=>whnf
  obtain ⟨oc, hc, hk52⟩ := bind_some h
  clear h
  have h := hc
  clear hc
  refine Cut.mkS oc (Y := Unit) (fun (_ : Unit) => mkSt [] [] []) (fun (_ : Unit) => True) (by rintro ⟨⟩; exact (Holds.true_ _)) ?_ ?_
  ·conv=>whnf
   refine Loops.iter (fun (s : Nat) => slices_Equal_Sint_int.s2 s1_ s2_ s) (fun y73 => mkSt [(0, .im (nL cI s1_)), (1, .im (nL cI s2_)), (12, .im (nI (↑(List.length s1_) : Int))), (13, .im (nI (↑y73 : Int)))] [] []) (fun y73 => List.length s1_ ≤ 17592186044416 ∧ List.length s2_ ≤ 17592186044416 ∧ True) h (Ent.mk [] rfl ⟨eI rfl rfl, eI rfl rfl, eI rfl rfl, eI rfl rfl, trivial⟩ trivial trivial) (by rintro y73; exact ((Holds.avl 0 rfl).and ((Holds.avl 1 rfl).and (Holds.true_ _)))) ?_
   clear h
   rintro k y73 o hp h ho78
   replace h : slices_Equal_Sint_int.s2 s1_ s2_ y73 = some o := h
   unfold slices_Equal_Sint_int.s2 at h
   obtain ⟨z83, z84, _⟩ := hp
   conv=>whnf
   refine Both.mk ?_ ?_<;>intro b79
   ·replace h := cond_t b79 h
    have b79d := odt b79
    conv=>whnf
    obtain ⟨e80, he80, h⟩ := idxn_some h
    refine ⟨_, ⟨(by omega), map_at he80, rfl⟩, ?_⟩
    conv=>whnf
    obtain ⟨e81, he81, h⟩ := idxn_some h
    refine ⟨_, ⟨(by omega), map_at he81, rfl⟩, ?_⟩
    conv=>whnf
    refine Both.mk ?_ ?_<;>intro b82
    ·replace h := cond_t b82 h
     have b82d := odt b82
     conv=>whnf
     cases h
     have ho78 : _ = _ := ho78
     cases ho78
     replace h : some _ = some _ := hk52
     cases h
     conv=>whnf
     exact ⟨rfl, rfl⟩
    ·replace h := cond_f b82 h
     have b82d := odf b82
     conv=>whnf
     refine Side.mk (by show inR _; unfold inR; omega) ?_
     conv=>whnf
     cases h
     exact Nxt.mk _ ho78 (Ent.mk [] rfl ⟨eI rfl rfl, eI rfl rfl, eI rfl rfl, eI rfl rfl, trivial⟩ trivial trivial)
   ·replace h := cond_f b79 h
    have b79d := odf b79
    conv=>whnf
    cases h
    have ho78 : _ = _ := ho78
    cases ho78
    exact JoinS.mk' _ rfl (Ent.mk [] rfl trivial trivial trivial)
  ·rintro ⟨⟩ rfl hp
   replace h := sum_inl hk52
   conv=>whnf
   cases h
   conv=>whnf
   exact ⟨rfl, rfl⟩
theorem sp_table_view_inconsistent (v_ : T_table_view) (r : Int × Int × Bool) (h : Ok (.agg (c_table_view v_)) → table_view_inconsistent v_ = some r) : Sp Tryz.prog 87 [.im (.agg (c_table_view v_))] (.tup [nI r.1, nI r.2.1, nB r.2.2]) := by
 refine sp_of rfl [700001] rfl rfl rfl (Nat.le_of_ble_eq_true rfl) rfl fun hk => ?_
 replace h := h hk.1
 have z1 : List.length v_.rows ≤ 17592186044416 := ok_len (Ok.agg_at hk.1 0 rfl)
 have z2 : List.length v_.prefixes ≤ 17592186044416 := ok_len (Ok.agg_at hk.1 1 rfl)
 have z3 : List.length v_.next ≤ 17592186044416 := ok_len (Ok.agg_at hk.1 2 rfl)
 unfold table_view_inconsistent at h
 conv=>whnf
 refine Nf.mk (List.length v_.prefixes) len_map ?_
 conv=>whnf
 obtain ⟨oc, hc, hk51⟩ := bind_some h
 clear h
 have h := hc
 clear hc
 refine Cut.mkS oc (Y := Unit) (fun (_ : Unit) => mkSt [] [] []) (fun (_ : Unit) => True) (by rintro ⟨⟩; exact (Holds.true_ _)) ?_ ?_
 ·conv=>whnf
  refine Loops.iter (fun (s : Nat) => table_view_inconsistent.s1022 v_ s) (fun y14999 => mkSt [(1, .im (.ref (c_table_view v_))), (13, .im (nL cI v_.prefixes)), (14, .im (nI (↑(List.length v_.prefixes) : Int))), (15, .im (nI (↑y14999 : Int)))] [] []) (fun y14999 => List.length v_.prefixes ≤ 17592186044416 ∧ True) h (Ent.mk [] rfl ⟨eI rfl rfl, eI rfl rfl, eI rfl rfl, eI rfl rfl, trivial⟩ trivial trivial) (by rintro y14999; exact ((Holds.avl 13 rfl).and (Holds.true_ _))) ?_
  clear h
  rintro k y14999 o hp h ho18736
  replace h : table_view_inconsistent.s1022 v_ y14999 = some o := h
  unfold table_view_inconsistent.s1022 at h
  obtain ⟨z22473, _⟩ := hp
  conv=>whnf
  refine Both.mk ?_ ?_<;>intro b18737
  ·replace h := cond_t b18737 h
   have b18737d := odt b18737
   conv=>whnf
   obtain ⟨e18738, he18738, h⟩ := idxn_some h
   refine ⟨_, ⟨(by omega), map_at he18738, rfl⟩, ?_⟩
   conv=>whnf
   refine Side.mk (by show inR _; unfold inR; omega) ?_
   conv=>whnf
   obtain ⟨oc, hc, hk18739⟩ := bind_some h
   clear h
   have h := hc
   clear hc
   refine Cut.mkS oc (Y := Unit) (fun (_ : Unit) => mkSt [(1, .im (.ref (c_table_view v_))), (13, .im (nL cI v_.prefixes)), (14, .im (nI (↑(List.length v_.prefixes) : Int))), (15, .im (nI (↑y14999 : Int)))] [] []) (fun (_ : Unit) => List.length v_.prefixes ≤ 17592186044416 ∧ True) (by rintro ⟨⟩; exact ((Holds.avl 13 rfl).and (Holds.true_ _))) ?_ ?_
   ·conv=>whnf
    refine Loops.iter (fun (s : Nat) => table_view_inconsistent.s1021 v_ y14999 e18738 s) (fun k21227 => mkSt [(1, .im (.ref (c_table_view v_))), (5, .im (nI (↑y14999 : Int))), (6, .im (nI e18738)), (7, .im (nI (↑k21227 : Int))), (13, .im (nL cI v_.prefixes)), (14, .im (nI (↑(List.length v_.prefixes) : Int))), (15, .im (nI (↑y14999 : Int)))] [] []) (fun k21227 => List.length v_.prefixes ≤ 17592186044416 ∧ True) h (Ent.mk [] rfl ⟨eI rfl rfl, eI rfl rfl, eI rfl rfl, eI rfl rfl, eI rfl rfl, eI rfl rfl, eI rfl rfl, trivial⟩ trivial trivial) (by rintro k21227; exact ((Holds.avl 13 rfl).and (Holds.true_ _))) ?_
    clear h
    rintro k k21227 o hp h ho21849
    replace h : table_view_inconsistent.s1021 v_ y14999 e18738 k21227 = some o := h
    unfold table_view_inconsistent.s1021 at h
    obtain ⟨z22471, _⟩ := hp
    conv=>whnf
    refine Nf.mk (List.length v_.prefixes) len_map ?_
    conv=>whnf
    refine Both.mk ?_ ?_<;>intro b21850
    ·replace h := cond_t b21850 h
     have b21850d := odt b21850
     conv=>whnf
     obtain ⟨oc, hc, hk21851⟩ := bind_some h
     clear h
     have h := hc
     clear hc
     refine Cut.mkS oc (Y := Unit) (fun (_ : Unit) => mkSt [(1, .im (.ref (c_table_view v_))), (5, .im (nI (↑y14999 : Int))), (6, .im (nI e18738)), (7, .im (nI (↑k21227 : Int))), (13, .im (nL cI v_.prefixes)), (14, .im (nI (↑(List.length v_.prefixes) : Int))), (15, .im (nI (↑y14999 : Int)))] [] []) (fun (_ : Unit) => List.length v_.prefixes ≤ 17592186044416 ∧ True) (by rintro ⟨⟩; exact ((Holds.avl 13 rfl).and (Holds.true_ _))) ?_ ?_
     ·conv=>whnf
      obtain ⟨e22161, he22161, h⟩ := idxn_some h
      refine ⟨_, ⟨(by omega), map_at he22161, rfl⟩, ?_⟩
      conv=>whnf
      refine Both.mk ?_ ?_<;>intro b22162
      ·replace h := cond_t b22162 h
       have b22162d := odt b22162
       conv=>whnf
       cases h
       exact JoinS.mk' _ rfl (Ent.mk [] rfl ⟨eI rfl rfl, eI rfl rfl, eI rfl rfl, eI rfl rfl, eI rfl rfl, eI rfl rfl, eI rfl rfl, trivial⟩ trivial trivial)
      ·replace h := cond_f b22162 h
       have b22162d := odf b22162
       conv=>whnf
       obtain ⟨e22163, he22163, h⟩ := idxn_some h
       refine ⟨_, ⟨(by omega), map_at he22163, rfl⟩, ?_⟩
       conv=>whnf
       refine Nf.mk (List.length e22163) len_map ?_
       conv=>whnf
       obtain ⟨oc, hc, hk22164⟩ := bind_some h
       clear h
       have h := hc
       clear hc
       refine Cut.mkS oc (Y := Unit) (fun (_ : Unit) => mkSt [(1, .im (.ref (c_table_view v_))), (5, .im (nI (↑y14999 : Int))), (6, .im (nI e18738)), (7, .im (nI (↑k21227 : Int))), (13, .im (nL cI v_.prefixes)), (14, .im (nI (↑(List.length v_.prefixes) : Int))), (15, .im (nI (↑y14999 : Int)))] [] []) (fun (_ : Unit) => List.length v_.prefixes ≤ 17592186044416 ∧ True) (by rintro ⟨⟩; exact ((Holds.avl 13 rfl).and (Holds.true_ _))) ?_ ?_
       ·conv=>whnf
        refine Loops.iter (fun (s : Nat) => table_view_inconsistent.s1020 v_ y14999 k21227 e22163 s) (fun y22366 => mkSt [(1, .im (.ref (c_table_view v_))), (5, .im (nI (↑y14999 : Int))), (6, .im (nI e18738)), (7, .im (nI (↑k21227 : Int))), (13, .im (nL cI v_.prefixes)), (14, .im (nI (↑(List.length v_.prefixes) : Int))), (15, .im (nI (↑y14999 : Int))), (41, .im (nI (↑(List.length e22163) : Int))), (42, .im (nI (↑y22366 : Int)))] [] []) (fun y22366 => List.length v_.prefixes ≤ 17592186044416 ∧ True) h (Ent.mk [] rfl ⟨eI rfl rfl, eI rfl rfl, eI rfl rfl, eI rfl rfl, eI rfl rfl, eI rfl rfl, eI rfl rfl, eI rfl rfl, eI rfl rfl, trivial⟩ trivial trivial) (by rintro y22366; exact ((Holds.avl 13 rfl).and (Holds.true_ _))) ?_
        clear h
        rintro k y22366 o hp h ho22417
        replace h : table_view_inconsistent.s1020 v_ y14999 k21227 e22163 y22366 = some o := h
        unfold table_view_inconsistent.s1020 at h
        obtain ⟨z22468, _⟩ := hp
        conv=>whnf
        refine Both.mk ?_ ?_<;>intro b22418
        ·replace h := cond_t b22418 h
         have b22418d := odt b22418
         conv=>whnf
         obtain ⟨e22419, he22419, h⟩ := idxn_some h
         refine ⟨_, ⟨(by omega), map_at he22419, rfl⟩, ?_⟩
         conv=>whnf
         obtain ⟨e22420, he22420, h⟩ := idxn_some h
         refine ⟨_, ⟨(by omega), map_at he22420, rfl⟩, ?_⟩
         conv=>whnf
         obtain ⟨e22421, he22421z, he22421, h⟩ := idx_some h
         refine ⟨_, ⟨he22421z, map_at he22421, rfl⟩, ?_⟩
         conv=>whnf
         obtain ⟨e22422, he22422, h⟩ := idxn_some h
         refine ⟨_, ⟨(by omega), map_at he22422, rfl⟩, ?_⟩
         conv=>whnf
         obtain ⟨e22423, he22423, h⟩ := idxn_some h
         refine ⟨_, ⟨(by omega), map_at he22423, rfl⟩, ?_⟩
         conv=>whnf
         obtain ⟨e22424, he22424z, he22424, h⟩ := idx_some h
         refine ⟨_, ⟨he22424z, map_at he22424, rfl⟩, ?_⟩
         conv=>whnf
         refine Nf.mk (List.length e22421) len_map ?_
         conv=>whnf
         obtain ⟨oc, hc, hk22425⟩ := bind_some h
         clear h
         have h := hc
         clear hc
         refine Cut.mkS oc (Y := Unit) (fun (_ : Unit) => mkSt [(1, .im (.ref (c_table_view v_))), (5, .im (nI (↑y14999 : Int))), (6, .im (nI e18738)), (7, .im (nI (↑k21227 : Int))), (13, .im (nL cI v_.prefixes)), (14, .im (nI (↑(List.length v_.prefixes) : Int))), (15, .im (nI (↑y14999 : Int))), (41, .im (nI (↑(List.length e22163) : Int))), (42, .im (nI (↑y22366 : Int)))] [] []) (fun (_ : Unit) => List.length v_.prefixes ≤ 17592186044416 ∧ True) (by rintro ⟨⟩; exact ((Holds.avl 13 rfl).and (Holds.true_ _))) ?_ ?_
         ·conv=>whnf
          refine Loops.iter (fun (s : Nat) => table_view_inconsistent.s1019 y22366 e22421 e22424 s) (fun y22451 => mkSt [(1, .im (.ref (c_table_view v_))), (5, .im (nI (↑y14999 : Int))), (6, .im (nI e18738)), (7, .im (nI (↑k21227 : Int))), (8, .im (nI (↑y22366 : Int))), (9, .im (nL (cL cI) e22421)), (10, .im (nL (cL cI) e22424)), (13, .im (nL cI v_.prefixes)), (14, .im (nI (↑(List.length v_.prefixes) : Int))), (15, .im (nI (↑y14999 : Int))), (41, .im (nI (↑(List.length e22163) : Int))), (42, .im (nI (↑y22366 : Int))), (70, .im (nI (↑(List.length e22421) : Int))), (71, .im (nI (↑y22451 : Int)))] [] []) (fun y22451 => List.length e22421 ≤ 17592186044416 ∧ List.length e22424 ≤ 17592186044416 ∧ List.length v_.prefixes ≤ 17592186044416 ∧ True) h (Ent.mk [] rfl ⟨eI rfl rfl, eI rfl rfl, eI rfl rfl, eI rfl rfl, eI rfl rfl, eI rfl rfl, eI rfl rfl, eI rfl rfl, eI rfl rfl, eI rfl rfl, eI rfl rfl, eI rfl rfl, eI rfl rfl, eI rfl rfl, trivial⟩ trivial trivial) (by rintro y22451; exact ((Holds.avl 9 rfl).and ((Holds.avl 10 rfl).and ((Holds.avl 13 rfl).and (Holds.true_ _))))) ?_
          clear h
          rintro k y22451 o hp h ho22457
          replace h : table_view_inconsistent.s1019 y22366 e22421 e22424 y22451 = some o := h
          unfold table_view_inconsistent.s1019 at h
          obtain ⟨z22463, z22464, z22465, _⟩ := hp
          conv=>whnf
          refine Both.mk ?_ ?_<;>intro b22458
          ·replace h := cond_t b22458 h
           have b22458d := odt b22458
           conv=>whnf
           obtain ⟨e22459, he22459, h⟩ := idxn_some h
           refine ⟨_, ⟨(by omega), map_at he22459, rfl⟩, ?_⟩
           conv=>whnf
           obtain ⟨e22460, he22460, h⟩ := idxn_some h
           refine ⟨_, ⟨(by omega), map_at he22460, rfl⟩, ?_⟩
           conv=>whnf
           obtain ⟨c22461, hc22461, h⟩ := bind_some h
           refine ⟨_, (sp_slices_Equal_Sint_int e22459 e22460 c22461 (fun _ _ => hc22461)), ?_⟩
           conv=>whnf
           refine Both.mk ?_ ?_<;>intro b22462
           ·replace h := cond_t b22462 h
            conv=>whnf
            cases h
            have ho22457 : _ = _ := ho22457
            cases ho22457
            replace h : some _ = some _ := hk22425
            cases h
            have ho22417 : _ = _ := ho22417
            cases ho22417
            replace h : some _ = some _ := hk22164
            cases h
            replace h : some _ = some _ := hk21851
            cases h
            have ho21849 : _ = _ := ho21849
            cases ho21849
            replace h : some _ = some _ := hk18739
            cases h
            have ho18736 : _ = _ := ho18736
            cases ho18736
            replace h : some _ = some _ := hk51
            cases h
            conv=>whnf
            exact ⟨rfl, rfl⟩
           ·replace h := cond_f b22462 h
            conv=>whnf
            refine Side.mk (by show inR _; unfold inR; omega) ?_
            conv=>whnf
            cases h
            exact Nxt.mk _ ho22457 (Ent.mk [] rfl ⟨eI rfl rfl, eI rfl rfl, eI rfl rfl, eI rfl rfl, eI rfl rfl, eI rfl rfl, eI rfl rfl, eI rfl rfl, eI rfl rfl, eI rfl rfl, eI rfl rfl, eI rfl rfl, eI rfl rfl, eI rfl rfl, trivial⟩ trivial trivial)
          ·replace h := cond_f b22458 h
           have b22458d := odf b22458
           conv=>whnf
           cases h
           have ho22457 : _ = _ := ho22457
           cases ho22457
           exact JoinS.mk' _ rfl (Ent.mk [] rfl ⟨eI rfl rfl, eI rfl rfl, eI rfl rfl, eI rfl rfl, eI rfl rfl, eI rfl rfl, eI rfl rfl, eI rfl rfl, eI rfl rfl, trivial⟩ trivial trivial)
         ·rintro ⟨⟩ rfl hp
          replace h := sum_inl hk22425
          obtain ⟨z22466, _⟩ := hp
          conv=>whnf
          obtain ⟨c22467, h⟩ := chk_some h
          refine Side.mk c22467 ?_
          conv=>whnf
          cases h
          exact Nxt.mk _ ho22417 (Ent.mk [] rfl ⟨eI rfl rfl, eI rfl rfl, eI rfl rfl, eI rfl rfl, eI rfl rfl, eI rfl rfl, eI rfl rfl, eI rfl rfl, eI rfl rfl, trivial⟩ trivial trivial)
        ·replace h := cond_f b22418 h
         have b22418d := odf b22418
         conv=>whnf
         cases h
         have ho22417 : _ = _ := ho22417
         cases ho22417
         exact JoinS.mk' _ rfl (Ent.mk [] rfl ⟨eI rfl rfl, eI rfl rfl, eI rfl rfl, eI rfl rfl, eI rfl rfl, eI rfl rfl, eI rfl rfl, trivial⟩ trivial trivial)
       ·rintro ⟨⟩ rfl hp
        replace h := sum_inl hk22164
        obtain ⟨z22469, _⟩ := hp
        conv=>whnf
        cases h
        exact JoinS.mk' _ rfl (Ent.mk [] rfl ⟨eI rfl rfl, eI rfl rfl, eI rfl rfl, eI rfl rfl, eI rfl rfl, eI rfl rfl, eI rfl rfl, trivial⟩ trivial trivial)
     ·rintro ⟨⟩ rfl hp
      replace h := sum_inl hk21851
      obtain ⟨z22470, _⟩ := hp
      conv=>whnf
      refine Side.mk (by show inR _; unfold inR; omega) ?_
      conv=>whnf
      cases h
      exact Nxt.mk _ ho21849 (Ent.mk [] rfl ⟨eI rfl rfl, eI rfl rfl, eI rfl rfl, eI rfl rfl, eI rfl rfl, eI rfl rfl, eI rfl rfl, trivial⟩ trivial trivial)
    ·replace h := cond_f b21850 h
     have b21850d := odf b21850
     conv=>whnf
     cases h
     have ho21849 : _ = _ := ho21849
     cases ho21849
     exact JoinS.mk' _ rfl (Ent.mk [] rfl ⟨eI rfl rfl, eI rfl rfl, eI rfl rfl, eI rfl rfl, trivial⟩ trivial trivial)
   ·rintro ⟨⟩ rfl hp
    replace h := sum_inl hk18739
    obtain ⟨z22472, _⟩ := hp
    conv=>whnf
    refine Side.mk (by show inR _; unfold inR; omega) ?_
    conv=>whnf
    cases h
    exact Nxt.mk _ ho18736 (Ent.mk [] rfl ⟨eI rfl rfl, eI rfl rfl, eI rfl rfl, eI rfl rfl, trivial⟩ trivial trivial)
  ·replace h := cond_f b18737 h
   have b18737d := odf b18737
   conv=>whnf
   cases h
   have ho18736 : _ = _ := ho18736
   cases ho18736
   exact JoinS.mk' _ rfl (Ent.mk [] rfl trivial trivial trivial)
 ·rintro ⟨⟩ rfl hp
  replace h := sum_inl hk51
  conv=>whnf
  cases h
  conv=>whnf
  exact ⟨rfl, rfl⟩
theorem sp_R23_parting (t_ : T_api_Table) (o_ : T_api_Obs) (p_ : List Int) (q_ : List Int) (r : List Int × Bool) (h : Ok (.agg (c_api_Table t_)) → Ok (.agg (c_api_Obs o_)) → Ok (nL cI p_) → Ok (nL cI q_) → R23_parting t_ o_ p_ q_ = some r) : Sp Tryz.prog 88 [.im (.agg (c_api_Table t_)), .im (.agg (c_api_Obs o_)), .im (nL cI p_), .im (nL cI q_)] (.tup [nL cI r.1, nB r.2]) := by
 refine sp_of rfl [700004, 700005] rfl rfl rfl (Nat.le_of_ble_eq_true rfl) rfl fun hk => ?_
 replace h := h hk.1 hk.2.1 hk.2.2.1 hk.2.2.2.1
 have z1 : List.length t_.Prefixes ≤ 17592186044416 := ok_len (Ok.agg_at hk.1 1 rfl)
 have z2 : List.length t_.Suffixes ≤ 17592186044416 := ok_len (Ok.agg_at hk.1 2 rfl)
 have z3 : List.length o_.Traces ≤ 17592186044416 := ok_len (Ok.agg_at hk.2.1 1 rfl)
 have z4 : List.length p_ ≤ 17592186044416 := ok_len hk.2.2.1
 have z5 : List.length q_ ≤ 17592186044416 := ok_len hk.2.2.2.1
 unfold R23_parting at h
 conv=>whnf
 obtain ⟨oc, hc, hk51⟩ := bind_some h
 clear h
 have h := hc
 clear hc
 refine Cut.mkS oc (Y := Unit) (fun (_ : Unit) => mkSt [] [] []) (fun (_ : Unit) => True) (by rintro ⟨⟩; exact (Holds.true_ _)) ?_ ?_
 ·conv=>whnf
  refine Loops.iter (fun (s : Nat) => R23_parting.s14 t_ o_ p_ q_ s) (fun a306 => mkSt [(2, .im (nL cI p_)), (3, .im (nL cI q_)), (4, .im (.ref (c_api_Table t_))), (5, .im (.ref (c_api_Obs o_))), (10, .im (nI (↑a306 : Int)))] [] []) (fun a306 => List.length p_ ≤ 17592186044416 ∧ List.length q_ ≤ 17592186044416 ∧ True) h (Ent.mk [] rfl ⟨eI rfl rfl, eI rfl rfl, eI rfl rfl, eI rfl rfl, eI rfl rfl, trivial⟩ trivial trivial) (by rintro a306; exact ((Holds.avl 2 rfl).and ((Holds.avl 3 rfl).and (Holds.true_ _)))) ?_
  clear h
  rintro k a306 o hp h ho370
  replace h : R23_parting.s14 t_ o_ p_ q_ a306 = some o := h
  unfold R23_parting.s14 at h
  obtain ⟨z434, z435, _⟩ := hp
  conv=>whnf
  refine Both.mk ?_ ?_<;>intro b371
  ·replace h := cond_t b371 h
   have b371d := odt b371
   conv=>whnf
   obtain ⟨c372, hc372, h⟩ := bind_some h
   refine ⟨_, (sp_R23_Joined p_ [(↑a306 : Int)] c372 (fun _ _ => hc372)), ?_⟩
   conv=>whnf
   obtain ⟨c373, hc373, h⟩ := bind_some h
   refine ⟨_, (sp_R23_row o_ t_.Suffixes c372 c373 (fun _ _ _ => hc373)), ?_⟩
   conv=>whnf
   obtain ⟨c374, hc374, h⟩ := bind_some h
   refine ⟨_, (sp_R23_Joined q_ [(↑a306 : Int)] c374 (fun _ _ => hc374)), ?_⟩
   conv=>whnf
   obtain ⟨c375, hc375, h⟩ := bind_some h
   refine ⟨_, (sp_R23_row o_ t_.Suffixes c374 c375 (fun _ _ _ => hc375)), ?_⟩
   conv=>whnf
   obtain ⟨oc, hc, hk376⟩ := bind_some h
   clear h
   have h := hc
   clear hc
   refine Cut.mkS oc (Y := Unit) (fun (_ : Unit) => mkSt [(2, .im (nL cI p_)), (3, .im (nL cI q_)), (4, .im (.ref (c_api_Table t_))), (5, .im (.ref (c_api_Obs o_))), (10, .im (nI (↑a306 : Int)))] [] []) (fun (_ : Unit) => List.length p_ ≤ 17592186044416 ∧ List.length q_ ≤ 17592186044416 ∧ True) (by rintro ⟨⟩; exact ((Holds.avl 2 rfl).and ((Holds.avl 3 rfl).and (Holds.true_ _)))) ?_ ?_
   ·conv=>whnf
    refine Loops.iter (fun (s : Nat) => R23_parting.s13 t_ a306 c373 c375 s) (fun k411 => mkSt [(2, .im (nL cI p_)), (3, .im (nL cI q_)), (4, .im (.ref (c_api_Table t_))), (5, .im (.ref (c_api_Obs o_))), (10, .im (nI (↑a306 : Int))), (11, .im (nL (cL cI) c373.1)), (13, .im (nL (cL cI) c375.1)), (15, .im (nI (↑k411 : Int)))] [] []) (fun k411 => List.length p_ ≤ 17592186044416 ∧ List.length q_ ≤ 17592186044416 ∧ List.length c373.1 ≤ 17592186044416 ∧ List.length c375.1 ≤ 17592186044416 ∧ True) h (Ent.mk [] rfl ⟨eI rfl rfl, eI rfl rfl, eI rfl rfl, eI rfl rfl, eI rfl rfl, eI rfl rfl, eI rfl rfl, eI rfl rfl, trivial⟩ trivial trivial) (by rintro k411; exact ((Holds.avl 2 rfl).and ((Holds.avl 3 rfl).and ((Holds.avl 11 rfl).and ((Holds.avl 13 rfl).and (Holds.true_ _)))))) ?_
    clear h
    rintro k k411 o hp h ho419
    replace h : R23_parting.s13 t_ a306 c373 c375 k411 = some o := h
    unfold R23_parting.s13 at h
    obtain ⟨z427, z428, z429, z430, _⟩ := hp
    conv=>whnf
    refine Nf.mk (List.length c373.1) len_map ?_
    conv=>whnf
    refine Both.mk ?_ ?_<;>intro b420
    ·replace h := cond_t b420 h
     have b420d := odt b420
     conv=>whnf
     obtain ⟨e421, he421, h⟩ := idxn_some h
     refine ⟨_, ⟨(by omega), map_at he421, rfl⟩, ?_⟩
     conv=>whnf
     obtain ⟨e422, he422, h⟩ := idxn_some h
     refine ⟨_, ⟨(by omega), map_at he422, rfl⟩, ?_⟩
     conv=>whnf
     obtain ⟨c423, hc423, h⟩ := bind_some h
     refine ⟨_, (sp_R06_Ints e421 e422 c423 (fun _ _ => hc423)), ?_⟩
     conv=>whnf
     refine Both.mk ?_ ?_<;>intro b424
     ·replace h := cond_t b424 h
      conv=>whnf
      obtain ⟨e425, he425, h⟩ := idxn_some h
      refine ⟨_, ⟨(by omega), map_at he425, rfl⟩, ?_⟩
      conv=>whnf
      obtain ⟨c426, hc426, h⟩ := bind_some h
      refine ⟨_, (sp_R23_Joined [(↑a306 : Int)] e425 c426 (fun _ _ => hc426)), ?_⟩
      conv=>whnf
      cases h
      have ho419 : _ = _ := ho419
      cases ho419
      replace h : some _ = some _ := hk376
      cases h
      have ho370 : _ = _ := ho370
      cases ho370
      replace h : some _ = some _ := hk51
      cases h
      conv=>whnf
      exact ⟨rfl, rfl⟩
     ·replace h := cond_f b424 h
      conv=>whnf
      refine Side.mk (by show inR _; unfold inR; omega) ?_
      conv=>whnf
      cases h
      exact Nxt.mk _ ho419 (Ent.mk [] rfl ⟨eI rfl rfl, eI rfl rfl, eI rfl rfl, eI rfl rfl, eI rfl rfl, eI rfl rfl, eI rfl rfl, eI rfl rfl, trivial⟩ trivial trivial)
    ·replace h := cond_f b420 h
     have b420d := odf b420
     conv=>whnf
     cases h
     have ho419 : _ = _ := ho419
     cases ho419
     exact JoinS.mk' _ rfl (Ent.mk [] rfl ⟨eI rfl rfl, eI rfl rfl, eI rfl rfl, eI rfl rfl, eI rfl rfl, trivial⟩ trivial trivial)
   ·rintro ⟨⟩ rfl hp
    replace h := sum_inl hk376
    obtain ⟨z431, z432, _⟩ := hp
    conv=>whnf
    obtain ⟨c433, h⟩ := chk_some h
    refine Side.mk c433 ?_
    conv=>whnf
    cases h
    exact Nxt.mk _ ho370 (Ent.mk [] rfl ⟨eI rfl rfl, eI rfl rfl, eI rfl rfl, eI rfl rfl, eI rfl rfl, trivial⟩ trivial trivial)
  ·replace h := cond_f b371 h
   have b371d := odf b371
   conv=>whnf
   cases h
   have ho370 : _ = _ := ho370
   cases ho370
   exact JoinS.mk' _ rfl (Ent.mk [] rfl trivial trivial trivial)
 ·rintro ⟨⟩ rfl hp
  replace h := sum_inl hk51
  conv=>whnf
  cases h
  conv=>whnf
  exact ⟨rfl, rfl⟩
theorem sp_R23_Inconsistent (t_ : T_api_Table) (o_ : T_api_Obs) (r : List Int × Bool × Int) (h : Ok (.agg (c_api_Table t_)) → Ok (.agg (c_api_Obs o_)) → R23_Inconsistent t_ o_ = some r) : Sp Tryz.prog 32 [.im (.agg (c_api_Table t_)), .im (.agg (c_api_Obs o_))] (.tup [nL cI r.1, nB r.2.1, nI r.2.2]) := by
 refine sp_of rfl [700002, 700003] rfl rfl rfl (Nat.le_of_ble_eq_true rfl) rfl fun hk => ?_
 replace h := h hk.1 hk.2.1
 have z1 : List.length t_.Prefixes ≤ 17592186044416 := ok_len (Ok.agg_at hk.1 1 rfl)
 have z2 : List.length t_.Suffixes ≤ 17592186044416 := ok_len (Ok.agg_at hk.1 2 rfl)
 have z3 : List.length o_.Traces ≤ 17592186044416 := ok_len (Ok.agg_at hk.2.1 1 rfl)
 unfold R23_Inconsistent at h
 conv=>whnf
 obtain ⟨c51, hc51, h⟩ := bind_some h
 refine ⟨_, (sp_R23_complete t_ o_ c51 (fun _ _ => hc51)), ?_⟩
 conv=>whnf
 refine Both.mk ?_ ?_<;>intro b52
 ·replace h := cond_t b52 h
  have b52d := odt b52
  conv=>whnf
  cases h
  conv=>whnf
  exact ⟨rfl, rfl⟩
 ·replace h := cond_f b52 h
  have b52d := odf b52
  conv=>whnf
  obtain ⟨oc, hc, hk53⟩ := bind_some h
  clear h
  have h := hc
  clear hc
  refine Cut.mkS oc (Y := Unit) (fun (_ : Unit) => mkSt [] [] []) (fun (_ : Unit) => True) (by rintro ⟨⟩; exact (Holds.true_ _)) ?_ ?_
  ·conv=>whnf
   refine Loops.iter (fun (s : Nat) => R23_Inconsistent.s14 t_ o_ s) (fun i608 => mkSt [(2, .im (.ref (c_api_Table t_))), (3, .im (.ref (c_api_Obs o_))), (8, .im (nI (↑i608 : Int)))] [] []) (fun i608 => True) h (Ent.mk [] rfl ⟨eI rfl rfl, eI rfl rfl, eI rfl rfl, trivial⟩ trivial trivial) (by rintro i608; exact (Holds.true_ _)) ?_
   clear h
   rintro k i608 o hp h ho747
   replace h : R23_Inconsistent.s14 t_ o_ i608 = some o := h
   unfold R23_Inconsistent.s14 at h
   conv=>whnf
   refine Nf.mk (List.length t_.Prefixes) len_map ?_
   conv=>whnf
   refine Both.mk ?_ ?_<;>intro b748
   ·replace h := cond_t b748 h
    have b748d := odt b748
    conv=>whnf
    refine Side.mk (by show inR _; unfold inR; omega) ?_
    conv=>whnf
    obtain ⟨oc, hc, hk749⟩ := bind_some h
    clear h
    have h := hc
    clear hc
    refine Cut.mkS oc (Y := Unit) (fun (_ : Unit) => mkSt [(2, .im (.ref (c_api_Table t_))), (3, .im (.ref (c_api_Obs o_))), (8, .im (nI (↑i608 : Int)))] [] []) (fun (_ : Unit) => True) (by rintro ⟨⟩; exact (Holds.true_ _)) ?_ ?_
    ·conv=>whnf
     refine Loops.iter (fun (s : Nat) => R23_Inconsistent.s13 t_ o_ i608 s) (fun k840 => mkSt [(2, .im (.ref (c_api_Table t_))), (3, .im (.ref (c_api_Obs o_))), (8, .im (nI (↑i608 : Int))), (9, .im (nI (↑k840 : Int)))] [] []) (fun k840 => True) h (Ent.mk [] rfl ⟨eI rfl rfl, eI rfl rfl, eI rfl rfl, eI rfl rfl, trivial⟩ trivial trivial) (by rintro k840; exact (Holds.true_ _)) ?_
     clear h
     rintro k k840 o hp h ho863
     replace h : R23_Inconsistent.s13 t_ o_ i608 k840 = some o := h
     unfold R23_Inconsistent.s13 at h
     conv=>whnf
     refine Nf.mk (List.length t_.Prefixes) len_map ?_
     conv=>whnf
     refine Both.mk ?_ ?_<;>intro b864
     ·replace h := cond_t b864 h
      have b864d := odt b864
      conv=>whnf
      obtain ⟨oc, hc, hk865⟩ := bind_some h
      clear h
      have h := hc
      clear hc
      refine Cut.mkS oc (Y := Unit) (fun (_ : Unit) => mkSt [(2, .im (.ref (c_api_Table t_))), (3, .im (.ref (c_api_Obs o_))), (8, .im (nI (↑i608 : Int))), (9, .im (nI (↑k840 : Int)))] [] []) (fun (_ : Unit) => True) (by rintro ⟨⟩; exact (Holds.true_ _)) ?_ ?_
      ·conv=>whnf
       obtain ⟨e876, he876, h⟩ := idxn_some h
       refine ⟨_, ⟨(by omega), map_at he876, rfl⟩, ?_⟩
       conv=>whnf
       obtain ⟨c877, hc877, h⟩ := bind_some h
       refine ⟨_, (sp_R23_row o_ t_.Suffixes e876 c877 (fun _ _ _ => hc877)), ?_⟩
       conv=>whnf
       obtain ⟨e878, he878, h⟩ := idxn_some h
       refine ⟨_, ⟨(by omega), map_at he878, rfl⟩, ?_⟩
       conv=>whnf
       obtain ⟨c879, hc879, h⟩ := bind_some h
       refine ⟨_, (sp_R23_row o_ t_.Suffixes e878 c879 (fun _ _ _ => hc879)), ?_⟩
       conv=>whnf
       obtain ⟨c880, hc880, h⟩ := bind_some h
       refine ⟨_, (sp_R06_Lists c877.1 c879.1 c880 (fun _ _ => hc880)), ?_⟩
       conv=>whnf
       refine Both.mk ?_ ?_<;>intro b881
       ·replace h := cond_t b881 h
        conv=>whnf
        cases h
        exact JoinS.mk' _ rfl (Ent.mk [] rfl ⟨eI rfl rfl, eI rfl rfl, eI rfl rfl, eI rfl rfl, trivial⟩ trivial trivial)
       ·replace h := cond_f b881 h
        conv=>whnf
        obtain ⟨e882, he882, h⟩ := idxn_some h
        refine ⟨_, ⟨(by omega), map_at he882, rfl⟩, ?_⟩
        conv=>whnf
        obtain ⟨e883, he883, h⟩ := idxn_some h
        refine ⟨_, ⟨(by omega), map_at he883, rfl⟩, ?_⟩
        conv=>whnf
        obtain ⟨c884, hc884, h⟩ := bind_some h
        refine ⟨_, (sp_R23_parting t_ o_ e882 e883 c884 (fun _ _ _ _ => hc884)), ?_⟩
        conv=>whnf
        refine Both.mk ?_ ?_<;>intro b885
        ·replace h := cond_t b885 h
         conv=>whnf
         cases h
         replace h : some _ = some _ := hk865
         cases h
         have ho863 : _ = _ := ho863
         cases ho863
         replace h : some _ = some _ := hk749
         cases h
         have ho747 : _ = _ := ho747
         cases ho747
         replace h : some _ = some _ := hk53
         cases h
         conv=>whnf
         exact ⟨rfl, rfl⟩
        ·replace h := cond_f b885 h
         conv=>whnf
         cases h
         exact JoinS.mk' _ rfl (Ent.mk [] rfl ⟨eI rfl rfl, eI rfl rfl, eI rfl rfl, eI rfl rfl, trivial⟩ trivial trivial)
      ·rintro ⟨⟩ rfl hp
       replace h := sum_inl hk865
       conv=>whnf
       refine Side.mk (by show inR _; unfold inR; omega) ?_
       conv=>whnf
       cases h
       exact Nxt.mk _ ho863 (Ent.mk [] rfl ⟨eI rfl rfl, eI rfl rfl, eI rfl rfl, eI rfl rfl, trivial⟩ trivial trivial)
     ·replace h := cond_f b864 h
      have b864d := odf b864
      conv=>whnf
      cases h
      have ho863 : _ = _ := ho863
      cases ho863
      exact JoinS.mk' _ rfl (Ent.mk [] rfl ⟨eI rfl rfl, eI rfl rfl, eI rfl rfl, trivial⟩ trivial trivial)
    ·rintro ⟨⟩ rfl hp
     replace h := sum_inl hk749
     conv=>whnf
     refine Side.mk (by show inR _; unfold inR; omega) ?_
     conv=>whnf
     cases h
     exact Nxt.mk _ ho747 (Ent.mk [] rfl ⟨eI rfl rfl, eI rfl rfl, eI rfl rfl, trivial⟩ trivial trivial)
   ·replace h := cond_f b748 h
    have b748d := odf b748
    conv=>whnf
    cases h
    have ho747 : _ = _ := ho747
    cases ho747
    exact JoinS.mk' _ rfl (Ent.mk [] rfl trivial trivial trivial)
  ·rintro ⟨⟩ rfl hp
   replace h := sum_inl hk53
   conv=>whnf
   cases h
   conv=>whnf
   exact ⟨rfl, rfl⟩
theorem sp_table_Hypothesis (t_ : T_api_Table) (o_ : T_api_Obs) (r : T_api_Hyp × Int) (h : Ok (.agg (c_api_Table t_)) → Ok (.agg (c_api_Obs o_)) → table_Hypothesis t_ o_ = some r) : Sp Tryz.prog 37 [.im (.agg (c_api_Table t_)), .im (.agg (c_api_Obs o_))] (.tup [.agg (c_api_Hyp r.1), nI r.2]) := by
 refine sp_of rfl [700002, 700003] rfl rfl rfl (Nat.le_of_ble_eq_true rfl) rfl fun hk => ?_
 replace h := h hk.1 hk.2.1
 have z1 : List.length t_.Prefixes ≤ 17592186044416 := ok_len (Ok.agg_at hk.1 1 rfl)
 have z2 : List.length t_.Suffixes ≤ 17592186044416 := ok_len (Ok.agg_at hk.1 2 rfl)
 have z3 : List.length o_.Traces ≤ 17592186044416 := ok_len (Ok.agg_at hk.2.1 1 rfl)
 unfold table_Hypothesis at h
 conv=>whnf
 obtain ⟨c51, hc51, h⟩ := bind_some h
 refine ⟨_, (sp_table_look t_ o_ c51 (fun _ _ => hc51)), ?_⟩
 conv=>whnf
 refine Side.mk rfl ?_
 conv=>whnf
 refine Both.mk ?_ ?_<;>intro b52
 ·replace h := cond_t b52 h
  have b52d := odt b52
  conv=>whnf
  refine Side.mk rfl ?_
  conv=>whnf
  cases h
  conv=>whnf
  refine Side.mk ⟨rfl, trivial⟩ ?_
  conv=>whnf
  exact ⟨rfl, rfl⟩
 ·replace h := cond_f b52 h
  have b52d := odf b52
  conv=>whnf
  refine Side.mk rfl ?_
  conv=>whnf
  obtain ⟨c53, hc53, h⟩ := bind_some h
  refine ⟨_, (sp_table_view_unclosed c51.1 c53 (fun _ => hc53)), ?_⟩
  conv=>whnf
  refine Side.mk rfl ?_
  conv=>whnf
  obtain ⟨c54, hc54, h⟩ := bind_some h
  refine ⟨_, (sp_table_view_inconsistent c51.1 c54 (fun _ => hc54)), ?_⟩
  conv=>whnf
  obtain ⟨y58, hc, hk56⟩ := bind_some h
  clear h
  have h := hc
  clear hc
  refine Cut.mk (mkSt [(2, .im (.ref (c_api_Table t_))), (4, .own 121 1 0), (6, .own 122 1 0), (44, .im (nB y58))] [(121, .box 60 5), (122, .box 111 4)] [(121, 0, .im (nI 0)), (121, 1, .im (nI 0)), (121, 2, .im (.val (.slice none 0 0))), (121, 3, .im (.val (.slice none 0 0))), (121, 4, .im (.val (.slice none 0 0))), (122, 0, .im (nL (cL (cL cI)) c51.1.rows)), (122, 1, .im (nL cI c51.1.prefixes)), (122, 2, .im (nL (cL cI) c51.1.next)), (122, 3, .im (.any))]) (List.length c51.1.rows ≤ 17592186044416 ∧ List.length c51.1.prefixes ≤ 17592186044416 ∧ List.length c51.1.next ≤ 17592186044416 ∧ True) ((Holds.cel 122 0 rfl (by decide) rfl).and ((Holds.cel 122 1 rfl (by decide) rfl).and ((Holds.cel 122 2 rfl (by decide) rfl).and (Holds.true_ _)))) ?_ (fun hp => ?_)
  ·conv=>whnf
   refine Both.mk ?_ ?_<;>intro b59
   ·replace b59 := beq_ff b59
    replace h := cond_f b59 h
    conv=>whnf
    refine Both.no b59 ?_
    conv=>whnf
    cases h
    exact Join.mk (Ent.mk [(121, some 4), (122, some 6)] rfl ⟨eI rfl rfl, ⟨.own 4 _ 0, rfl, .own rfl rfl rfl⟩, ⟨.own 6 _ 0, rfl, .own rfl rfl rfl⟩, eI rfl rfl, trivial⟩ ⟨.inl ⟨4, rfl, rfl, trivial⟩, .inl ⟨6, rfl, rfl, trivial⟩, trivial⟩ ⟨⟨4, .im _, rfl, rfl, .im (Sub.rfl' rfl)⟩, ⟨4, .im _, rfl, rfl, .im (Sub.rfl' rfl)⟩, ⟨4, .im (.val (.slice none 0 0)), rfl, rfl, .im (Sub.rfl' rfl)⟩, ⟨4, .im (.val (.slice none 0 0)), rfl, rfl, .im (Sub.rfl' rfl)⟩, ⟨4, .im (.val (.slice none 0 0)), rfl, rfl, .im (Sub.rfl' rfl)⟩, ⟨6, .im _, rfl, rfl, .im (Sub.rfl' rfl)⟩, ⟨6, .im _, rfl, rfl, .im (Sub.rfl' rfl)⟩, ⟨6, .im _, rfl, rfl, .im (Sub.rfl' rfl)⟩, ⟨6, .im _, rfl, rfl, .im (Sub.rfl' rfl)⟩, trivial⟩)
   ·replace b59 := beq_ft b59
    replace h := cond_t b59 h
    conv=>whnf
    refine Both.yes b59 ?_
    conv=>whnf
    cases h
    exact Join.mk (Ent.mk [(121, some 4), (122, some 6)] rfl ⟨eI rfl rfl, ⟨.own 4 _ 0, rfl, .own rfl rfl rfl⟩, ⟨.own 6 _ 0, rfl, .own rfl rfl rfl⟩, eI rfl rfl, trivial⟩ ⟨.inl ⟨4, rfl, rfl, trivial⟩, .inl ⟨6, rfl, rfl, trivial⟩, trivial⟩ ⟨⟨4, .im _, rfl, rfl, .im (Sub.rfl' rfl)⟩, ⟨4, .im _, rfl, rfl, .im (Sub.rfl' rfl)⟩, ⟨4, .im (.val (.slice none 0 0)), rfl, rfl, .im (Sub.rfl' rfl)⟩, ⟨4, .im (.val (.slice none 0 0)), rfl, rfl, .im (Sub.rfl' rfl)⟩, ⟨4, .im (.val (.slice none 0 0)), rfl, rfl, .im (Sub.rfl' rfl)⟩, ⟨6, .im _, rfl, rfl, .im (Sub.rfl' rfl)⟩, ⟨6, .im _, rfl, rfl, .im (Sub.rfl' rfl)⟩, ⟨6, .im _, rfl, rfl, .im (Sub.rfl' rfl)⟩, ⟨6, .im _, rfl, rfl, .im (Sub.rfl' rfl)⟩, trivial⟩)
  ·replace h := hk56
   obtain ⟨z60, z61, z62, _⟩ := hp
   conv=>whnf
   refine Both.mk ?_ ?_<;>intro b63
   ·replace h := cond_t b63 h
    conv=>whnf
    refine Side.mk rfl ?_
    conv=>whnf
    cases h
    conv=>whnf
    refine Side.mk ⟨rfl, trivial⟩ ?_
    conv=>whnf
    exact ⟨rfl, rfl⟩
   ·replace h := cond_f b63 h
    conv=>whnf
    refine Side.mk rfl ?_
    conv=>whnf
    refine Side.mk rfl ?_
    conv=>whnf
    refine Nf.mk (List.length c51.1.rows) len_map ?_
    conv=>whnf
    refine Both.mk ?_ ?_<;>intro b64
    ·replace h := cond_t b64 h
     have b64d := odt b64
     conv=>whnf
     refine Side.mk rfl ?_
     conv=>whnf
     cases h
     conv=>whnf
     refine Side.mk ⟨rfl, trivial⟩ ?_
     conv=>whnf
     exact ⟨rfl, rfl⟩
    ·replace h := cond_f b64 h
     have b64d := odf b64
     conv=>whnf
     refine Side.mk rfl ?_
     conv=>whnf
     refine Side.mk rfl ?_
     conv=>whnf
     refine Side.mk rfl ?_
     conv=>whnf
     refine Nf.mk (List.length c51.1.prefixes) len_map ?_
     conv=>whnf
     obtain ⟨⟨y506, y507, y508⟩, hc, hk65⟩ := bind_some h
     clear h
     have h := hc
     clear hc
     refine Cut.mk (mkSt [(4, .own 121 1 0), (14, .own 122 1 0)] [(121, .box 60 5), (122, .box 60 5), (123, .row 38 1 (List.map (cL cI) y506)), (124, .row 38 1 (List.map (cL cI) y507)), (125, .row 38 1 (List.map (cL cI) y508))] [(121, 0, .im (nI 0)), (121, 1, .im (nI 0)), (121, 2, .im (.val (.slice none 0 0))), (121, 3, .im (.val (.slice none 0 0))), (121, 4, .im (.val (.slice none 0 0))), (122, 0, .im (nI t_.Inputs)), (122, 1, .im (nI 0)), (122, 2, .osl 123 1), (122, 3, .osl 124 1), (122, 4, .osl 125 1)]) (List.length y506 ≤ 17592186044416 ∧ List.length y507 ≤ 17592186044416 ∧ List.length y508 ≤ 17592186044416 ∧ True) ((Holds.kdl 123 rfl).and ((Holds.kdl 124 rfl).and ((Holds.kdl 125 rfl).and (Holds.true_ _)))) ?_ (fun hp => ?_)
     ·conv=>whnf
      refine Loops.iter (fun (s : List (List Int) × List (List Int) × List (List Int) × Nat) => table_Hypothesis.s32 t_ c51 s.1 s.2.1 s.2.2.1 s.2.2.2) (fun (y636, y637, y638, y639) => mkSt [(2, .im (.ref (c_api_Table t_))), (4, .own 121 1 0), (6, .own 122 1 0), (14, .own 123 1 0), (56, .im (nL cI c51.1.prefixes)), (57, .im (nI (↑(List.length c51.1.prefixes) : Int))), (58, .im (nI (↑y639 : Int)))] [(121, .box 60 5), (122, .box 111 4), (123, .box 60 5), (124, .row 38 1 (List.map (cL cI) y636)), (125, .row 38 1 (List.map (cL cI) y637)), (126, .row 38 1 (List.map (cL cI) y638))] [(121, 0, .im (nI 0)), (121, 1, .im (nI 0)), (121, 2, .im (.val (.slice none 0 0))), (121, 3, .im (.val (.slice none 0 0))), (121, 4, .im (.val (.slice none 0 0))), (122, 0, .im (nL (cL (cL cI)) c51.1.rows)), (122, 1, .im (nL cI c51.1.prefixes)), (122, 2, .im (nL (cL cI) c51.1.next)), (122, 3, .im (.any)), (123, 0, .im (nI t_.Inputs)), (123, 1, .im (nI 0)), (123, 2, .osl 124 1), (123, 3, .osl 125 1), (123, 4, .osl 126 1)]) (fun (y636, y637, y638, y639) => List.length c51.1.prefixes ≤ 17592186044416 ∧ List.length c51.1.rows ≤ 17592186044416 ∧ List.length c51.1.next ≤ 17592186044416 ∧ List.length y636 ≤ 17592186044416 ∧ List.length y637 ≤ 17592186044416 ∧ List.length y638 ≤ 17592186044416 ∧ True) h (Ent.mk [(121, some 121), (122, some 122), (123, some 14), (124, none), (125, none), (126, none)] rfl ⟨eI rfl rfl, ⟨.own 121 _ 0, rfl, .own rfl rfl rfl⟩, ⟨.own 122 _ 0, rfl, .own rfl rfl rfl⟩, ⟨.own 14 _ 0, rfl, .own rfl rfl rfl⟩, eI rfl rfl, eI rfl rfl, eI rfl rfl, trivial⟩ ⟨.inl ⟨121, rfl, rfl, trivial⟩, .inl ⟨122, rfl, rfl, trivial⟩, .inl ⟨14, rfl, rfl, trivial⟩, .inr ⟨rfl, rfl, .inl ⟨_, _, rfl, by decide⟩⟩, .inr ⟨rfl, rfl, .inl ⟨_, _, rfl, by decide⟩⟩, .inr ⟨rfl, rfl, .inl ⟨_, _, rfl, by decide⟩⟩, trivial⟩ ⟨⟨121, .im _, rfl, rfl, .im (Sub.rfl' rfl)⟩, ⟨121, .im _, rfl, rfl, .im (Sub.rfl' rfl)⟩, ⟨121, .im (.val (.slice none 0 0)), rfl, rfl, .im (Sub.rfl' rfl)⟩, ⟨121, .im (.val (.slice none 0 0)), rfl, rfl, .im (Sub.rfl' rfl)⟩, ⟨121, .im (.val (.slice none 0 0)), rfl, rfl, .im (Sub.rfl' rfl)⟩, ⟨122, .im _, rfl, rfl, .im (Sub.rfl' rfl)⟩, ⟨122, .im _, rfl, rfl, .im (Sub.rfl' rfl)⟩, ⟨122, .im _, rfl, rfl, .im (Sub.rfl' rfl)⟩, ⟨122, .im _, rfl, rfl, .im (Sub.rfl' rfl)⟩, ⟨14, .im _, rfl, rfl, .im (Sub.rfl' rfl)⟩, ⟨14, .im _, rfl, rfl, .im (Sub.rfl' rfl)⟩, ⟨14, .im (.val (.slice none 0 0)), rfl, rfl, .made rfl rfl⟩, ⟨14, .im (.val (.slice none 0 0)), rfl, rfl, .made rfl rfl⟩, ⟨14, .im (.val (.slice none 0 0)), rfl, rfl, .made rfl rfl⟩, trivial⟩) (by rintro ⟨y636, y637, y638, y639⟩; exact ((Holds.avl 56 rfl).and ((Holds.cel 122 0 rfl (by decide) rfl).and ((Holds.cel 122 2 rfl (by decide) rfl).and ((Holds.kdl 124 rfl).and ((Holds.kdl 125 rfl).and ((Holds.kdl 126 rfl).and (Holds.true_ _)))))))) ?_
      clear h
      rintro k ⟨y636, y637, y638, y639⟩ o hp h ho791
      replace h : table_Hypothesis.s32 t_ c51 y636 y637 y638 y639 = some o := h
      unfold table_Hypothesis.s32 at h
      obtain ⟨z943, z944, z945, z946, z947, z948, _⟩ := hp
      conv=>whnf
      refine Both.mk ?_ ?_<;>intro b792
      ·replace h := cond_t b792 h
       have b792d := odt b792
       conv=>whnf
       obtain ⟨⟨y864, y865, y866⟩, hc, hk793⟩ := bind_some h
       clear h
       have h := hc
       clear hc
       refine Cut.mk (mkSt [(2, .im (.ref (c_api_Table t_))), (4, .own 121 1 0), (6, .own 122 1 0), (14, .own 123 1 0), (56, .im (nL cI c51.1.prefixes)), (57, .im (nI (↑(List.length c51.1.prefixes) : Int))), (58, .im (nI (↑y639 : Int)))] [(121, .box 60 5), (122, .box 111 4), (123, .box 60 5), (124, .row 38 1 (List.map (cL cI) y864)), (125, .row 38 1 (List.map (cL cI) y865)), (126, .row 38 1 (List.map (cL cI) y866))] [(121, 0, .im (nI 0)), (121, 1, .im (nI 0)), (121, 2, .im (.val (.slice none 0 0))), (121, 3, .im (.val (.slice none 0 0))), (121, 4, .im (.val (.slice none 0 0))), (122, 0, .im (nL (cL (cL cI)) c51.1.rows)), (122, 1, .im (nL cI c51.1.prefixes)), (122, 2, .im (nL (cL cI) c51.1.next)), (122, 3, .im (.any)), (123, 0, .im (nI t_.Inputs)), (123, 1, .im (nI 0)), (123, 2, .osl 124 1), (123, 3, .osl 125 1), (123, 4, .osl 126 1)]) (List.length c51.1.prefixes ≤ 17592186044416 ∧ List.length c51.1.rows ≤ 17592186044416 ∧ List.length c51.1.next ≤ 17592186044416 ∧ List.length y864 ≤ 17592186044416 ∧ List.length y865 ≤ 17592186044416 ∧ List.length y866 ≤ 17592186044416 ∧ True) ((Holds.avl 56 rfl).and ((Holds.cel 122 0 rfl (by decide) rfl).and ((Holds.cel 122 2 rfl (by decide) rfl).and ((Holds.kdl 124 rfl).and ((Holds.kdl 125 rfl).and ((Holds.kdl 126 rfl).and (Holds.true_ _))))))) ?_ (fun hp => ?_)
       ·conv=>whnf
        obtain ⟨e867, he867, h⟩ := idxn_some h
        refine ⟨_, ⟨(by omega), map_at he867, rfl⟩, ?_⟩
        conv=>whnf
        refine Side.mk rfl ?_
        conv=>whnf
        refine Side.mk rfl ?_
        conv=>whnf
        refine Side.mk rfl ?_
        conv=>whnf
        refine Nf.mk (List.length y638) len_map ?_
        conv=>whnf
        refine Both.mk ?_ ?_<;>intro b868
        ·replace h := cond_t b868 h
         have b868d := odt b868
         conv=>whnf
         cases h
         exact Join.mk (Ent.mk [(121, some 121), (122, some 122), (123, some 123), (124, some 124), (125, some 125), (126, some 126)] rfl ⟨eI rfl rfl, ⟨.own 121 _ 0, rfl, .own rfl rfl rfl⟩, ⟨.own 122 _ 0, rfl, .own rfl rfl rfl⟩, ⟨.own 123 _ 0, rfl, .own rfl rfl rfl⟩, eI rfl rfl, eI rfl rfl, eI rfl rfl, trivial⟩ ⟨.inl ⟨121, rfl, rfl, trivial⟩, .inl ⟨122, rfl, rfl, trivial⟩, .inl ⟨123, rfl, rfl, trivial⟩, .inl ⟨124, rfl, rfl, trivial⟩, .inl ⟨125, rfl, rfl, trivial⟩, .inl ⟨126, rfl, rfl, trivial⟩, trivial⟩ ⟨⟨121, .im _, rfl, rfl, .im (Sub.rfl' rfl)⟩, ⟨121, .im _, rfl, rfl, .im (Sub.rfl' rfl)⟩, ⟨121, .im (.val (.slice none 0 0)), rfl, rfl, .im (Sub.rfl' rfl)⟩, ⟨121, .im (.val (.slice none 0 0)), rfl, rfl, .im (Sub.rfl' rfl)⟩, ⟨121, .im (.val (.slice none 0 0)), rfl, rfl, .im (Sub.rfl' rfl)⟩, ⟨122, .im _, rfl, rfl, .im (Sub.rfl' rfl)⟩, ⟨122, .im _, rfl, rfl, .im (Sub.rfl' rfl)⟩, ⟨122, .im _, rfl, rfl, .im (Sub.rfl' rfl)⟩, ⟨122, .im _, rfl, rfl, .im (Sub.rfl' rfl)⟩, ⟨123, .im _, rfl, rfl, .im (Sub.rfl' rfl)⟩, ⟨123, .im _, rfl, rfl, .im (Sub.rfl' rfl)⟩, ⟨123, .osl 124 _, rfl, rfl, .osl rfl rfl rfl⟩, ⟨123, .osl 125 _, rfl, rfl, .osl rfl rfl rfl⟩, ⟨123, .osl 126 _, rfl, rfl, .osl rfl rfl rfl⟩, trivial⟩)
        ·replace h := cond_f b868 h
         have b868d := odf b868
         conv=>whnf
         obtain ⟨y896, hc, hk869⟩ := bind_some h
         clear h
         have h := hc
         clear hc
         refine Cut.mk (mkSt [(2, .im (.ref (c_api_Table t_))), (4, .own 121 1 0), (6, .own 122 1 0), (14, .own 123 1 0), (15, .im (nI (↑y639 : Int))), (17, .osl 127 1), (56, .im (nL cI c51.1.prefixes)), (57, .im (nI (↑(List.length c51.1.prefixes) : Int))), (58, .im (nI (↑y639 : Int)))] [(121, .box 60 5), (122, .box 111 4), (123, .box 60 5), (124, .row 38 1 (List.map (cL cI) y636)), (125, .row 38 1 (List.map (cL cI) y637)), (126, .row 38 1 (List.map (cL cI) y638)), (127, .row 3 1 (List.map cI y896))] [(121, 0, .im (nI 0)), (121, 1, .im (nI 0)), (121, 2, .im (.val (.slice none 0 0))), (121, 3, .im (.val (.slice none 0 0))), (121, 4, .im (.val (.slice none 0 0))), (122, 0, .im (nL (cL (cL cI)) c51.1.rows)), (122, 1, .im (nL cI c51.1.prefixes)), (122, 2, .im (nL (cL cI) c51.1.next)), (122, 3, .im (.any)), (123, 0, .im (nI t_.Inputs)), (123, 1, .im (nI 0)), (123, 2, .osl 124 1), (123, 3, .osl 125 1), (123, 4, .osl 126 1)]) (List.length c51.1.prefixes ≤ 17592186044416 ∧ List.length c51.1.rows ≤ 17592186044416 ∧ List.length c51.1.next ≤ 17592186044416 ∧ List.length y636 ≤ 17592186044416 ∧ List.length y637 ≤ 17592186044416 ∧ List.length y638 ≤ 17592186044416 ∧ List.length y896 ≤ 17592186044416 ∧ True) ((Holds.avl 56 rfl).and ((Holds.cel 122 0 rfl (by decide) rfl).and ((Holds.cel 122 2 rfl (by decide) rfl).and ((Holds.kdl 124 rfl).and ((Holds.kdl 125 rfl).and ((Holds.kdl 126 rfl).and ((Holds.kdl 127 rfl).and (Holds.true_ _)))))))) ?_ (fun hp => ?_)
         ·conv=>whnf
          refine Loops.iter (fun (s : List Int × Nat) => table_Hypothesis.s30 t_ c51 e867 s.1 s.2) (fun (y901, y902) => mkSt [(2, .im (.ref (c_api_Table t_))), (4, .own 121 1 0), (6, .own 122 1 0), (14, .own 123 1 0), (15, .im (nI (↑y639 : Int))), (16, .im (nI e867)), (17, .osl 127 1), (56, .im (nL cI c51.1.prefixes)), (57, .im (nI (↑(List.length c51.1.prefixes) : Int))), (58, .im (nI (↑y639 : Int))), (69, .im (nI t_.Inputs)), (70, .im (nI (↑y902 : Int)))] [(121, .box 60 5), (122, .box 111 4), (123, .box 60 5), (124, .row 38 1 (List.map (cL cI) y636)), (125, .row 38 1 (List.map (cL cI) y637)), (126, .row 38 1 (List.map (cL cI) y638)), (127, .row 3 1 (List.map cI y901))] [(121, 0, .im (nI 0)), (121, 1, .im (nI 0)), (121, 2, .im (.val (.slice none 0 0))), (121, 3, .im (.val (.slice none 0 0))), (121, 4, .im (.val (.slice none 0 0))), (122, 0, .im (nL (cL (cL cI)) c51.1.rows)), (122, 1, .im (nL cI c51.1.prefixes)), (122, 2, .im (nL (cL cI) c51.1.next)), (122, 3, .im (.any)), (123, 0, .im (nI t_.Inputs)), (123, 1, .im (nI 0)), (123, 2, .osl 124 1), (123, 3, .osl 125 1), (123, 4, .osl 126 1)]) (fun (y901, y902) => List.length c51.1.prefixes ≤ 17592186044416 ∧ List.length c51.1.rows ≤ 17592186044416 ∧ List.length c51.1.next ≤ 17592186044416 ∧ List.length y636 ≤ 17592186044416 ∧ List.length y637 ≤ 17592186044416 ∧ List.length y638 ≤ 17592186044416 ∧ List.length y901 ≤ 17592186044416 ∧ True) h (Ent.mk [(121, some 121), (122, some 122), (123, some 123), (124, some 124), (125, some 125), (126, some 126), (127, none)] rfl ⟨eI rfl rfl, ⟨.own 121 _ 0, rfl, .own rfl rfl rfl⟩, ⟨.own 122 _ 0, rfl, .own rfl rfl rfl⟩, ⟨.own 123 _ 0, rfl, .own rfl rfl rfl⟩, eI rfl rfl, eI rfl rfl, ⟨.im (.val (.slice none 0 0)), rfl, .made rfl rfl⟩, eI rfl rfl, eI rfl rfl, eI rfl rfl, eI rfl rfl, eI rfl rfl, trivial⟩ ⟨.inl ⟨121, rfl, rfl, trivial⟩, .inl ⟨122, rfl, rfl, trivial⟩, .inl ⟨123, rfl, rfl, trivial⟩, .inl ⟨124, rfl, rfl, trivial⟩, .inl ⟨125, rfl, rfl, trivial⟩, .inl ⟨126, rfl, rfl, trivial⟩, .inr ⟨rfl, rfl, .inl ⟨_, _, rfl, by decide⟩⟩, trivial⟩ ⟨⟨121, .im _, rfl, rfl, .im (Sub.rfl' rfl)⟩, ⟨121, .im _, rfl, rfl, .im (Sub.rfl' rfl)⟩, ⟨121, .im (.val (.slice none 0 0)), rfl, rfl, .im (Sub.rfl' rfl)⟩, ⟨121, .im (.val (.slice none 0 0)), rfl, rfl, .im (Sub.rfl' rfl)⟩, ⟨121, .im (.val (.slice none 0 0)), rfl, rfl, .im (Sub.rfl' rfl)⟩, ⟨122, .im _, rfl, rfl, .im (Sub.rfl' rfl)⟩, ⟨122, .im _, rfl, rfl, .im (Sub.rfl' rfl)⟩, ⟨122, .im _, rfl, rfl, .im (Sub.rfl' rfl)⟩, ⟨122, .im _, rfl, rfl, .im (Sub.rfl' rfl)⟩, ⟨123, .im _, rfl, rfl, .im (Sub.rfl' rfl)⟩, ⟨123, .im _, rfl, rfl, .im (Sub.rfl' rfl)⟩, ⟨123, .osl 124 _, rfl, rfl, .osl rfl rfl rfl⟩, ⟨123, .osl 125 _, rfl, rfl, .osl rfl rfl rfl⟩, ⟨123, .osl 126 _, rfl, rfl, .osl rfl rfl rfl⟩, trivial⟩) (by rintro ⟨y901, y902⟩; exact ((Holds.avl 56 rfl).and ((Holds.cel 122 0 rfl (by decide) rfl).and ((Holds.cel 122 2 rfl (by decide) rfl).and ((Holds.kdl 124 rfl).and ((Holds.kdl 125 rfl).and ((Holds.kdl 126 rfl).and ((Holds.kdl 127 rfl).and (Holds.true_ _))))))))) ?_
          clear h
          rintro k ⟨y901, y902⟩ o hp h ho909
          replace h : table_Hypothesis.s30 t_ c51 e867 y901 y902 = some o := h
          unfold table_Hypothesis.s30 at h
          obtain ⟨z916, z917, z918, z919, z920, z921, z922, _⟩ := hp
          conv=>whnf
          refine Both.mk ?_ ?_<;>intro b910
          ·replace h := cond_t b910 h
           have b910d := odt b910
           conv=>whnf
           refine Side.mk rfl ?_
           conv=>whnf
           refine Side.mk rfl ?_
           conv=>whnf
           obtain ⟨e911, he911z, he911, h⟩ := idx_some h
           refine ⟨_, ⟨he911z, map_at he911, rfl⟩, ?_⟩
           conv=>whnf
           obtain ⟨e912, he912, h⟩ := idxn_some h
           refine ⟨_, ⟨(by omega), map_at he912, rfl⟩, ?_⟩
           conv=>whnf
           obtain ⟨e913, he913, h⟩ := idxn_some h
           refine ⟨_, ⟨(by omega), map_at he913, rfl⟩, ?_⟩
           conv=>whnf
           obtain ⟨c914, h⟩ := chk_some h
           refine Side.mk ⟨rfl, map_len (l := [e913]) (c := cI) fun _ => rfl, show capOk _ 8 by simpa only [List.length_map, List.length_cons, List.length_nil, Nat.zero_add] using c914⟩ ?_
           conv=>whnf
           refine Nf.mk (List.map cI (y901 ++ [e913])) (app_map (l := y901) (m := [e913]) (c := cI)) ?_
           conv=>whnf
           obtain ⟨c915, h⟩ := chk_some h
           refine Side.mk c915 ?_
           conv=>whnf
           cases h
           exact Nxt.mk _ ho909 (Ent.mk [(121, some 121), (122, some 122), (123, some 123), (124, some 124), (125, some 125), (126, some 126), (127, some 127)] rfl ⟨eI rfl rfl, ⟨.own 121 _ 0, rfl, .own rfl rfl rfl⟩, ⟨.own 122 _ 0, rfl, .own rfl rfl rfl⟩, ⟨.own 123 _ 0, rfl, .own rfl rfl rfl⟩, eI rfl rfl, eI rfl rfl, ⟨.osl 127 _, rfl, .osl rfl rfl rfl⟩, eI rfl rfl, eI rfl rfl, eI rfl rfl, eI rfl rfl, eI rfl rfl, trivial⟩ ⟨.inl ⟨121, rfl, rfl, trivial⟩, .inl ⟨122, rfl, rfl, trivial⟩, .inl ⟨123, rfl, rfl, trivial⟩, .inl ⟨124, rfl, rfl, trivial⟩, .inl ⟨125, rfl, rfl, trivial⟩, .inl ⟨126, rfl, rfl, trivial⟩, .inl ⟨127, rfl, rfl, trivial⟩, trivial⟩ ⟨⟨121, .im _, rfl, rfl, .im (Sub.rfl' rfl)⟩, ⟨121, .im _, rfl, rfl, .im (Sub.rfl' rfl)⟩, ⟨121, .im (.val (.slice none 0 0)), rfl, rfl, .im (Sub.rfl' rfl)⟩, ⟨121, .im (.val (.slice none 0 0)), rfl, rfl, .im (Sub.rfl' rfl)⟩, ⟨121, .im (.val (.slice none 0 0)), rfl, rfl, .im (Sub.rfl' rfl)⟩, ⟨122, .im _, rfl, rfl, .im (Sub.rfl' rfl)⟩, ⟨122, .im _, rfl, rfl, .im (Sub.rfl' rfl)⟩, ⟨122, .im _, rfl, rfl, .im (Sub.rfl' rfl)⟩, ⟨122, .im _, rfl, rfl, .im (Sub.rfl' rfl)⟩, ⟨123, .im _, rfl, rfl, .im (Sub.rfl' rfl)⟩, ⟨123, .im _, rfl, rfl, .im (Sub.rfl' rfl)⟩, ⟨123, .osl 124 _, rfl, rfl, .osl rfl rfl rfl⟩, ⟨123, .osl 125 _, rfl, rfl, .osl rfl rfl rfl⟩, ⟨123, .osl 126 _, rfl, rfl, .osl rfl rfl rfl⟩, trivial⟩)
          ·replace h := cond_f b910 h
           have b910d := odf b910
           conv=>whnf
           cases h
           have ho909 : _ = _ := ho909
           cases ho909
           exact Join.mk (Ent.mk [(121, some 121), (122, some 122), (123, some 123), (124, some 124), (125, some 125), (126, some 126), (127, some 127)] rfl ⟨eI rfl rfl, ⟨.own 121 _ 0, rfl, .own rfl rfl rfl⟩, ⟨.own 122 _ 0, rfl, .own rfl rfl rfl⟩, ⟨.own 123 _ 0, rfl, .own rfl rfl rfl⟩, eI rfl rfl, ⟨.osl 127 _, rfl, .osl rfl rfl rfl⟩, eI rfl rfl, eI rfl rfl, eI rfl rfl, trivial⟩ ⟨.inl ⟨121, rfl, rfl, trivial⟩, .inl ⟨122, rfl, rfl, trivial⟩, .inl ⟨123, rfl, rfl, trivial⟩, .inl ⟨124, rfl, rfl, trivial⟩, .inl ⟨125, rfl, rfl, trivial⟩, .inl ⟨126, rfl, rfl, trivial⟩, .inl ⟨127, rfl, rfl, trivial⟩, trivial⟩ ⟨⟨121, .im _, rfl, rfl, .im (Sub.rfl' rfl)⟩, ⟨121, .im _, rfl, rfl, .im (Sub.rfl' rfl)⟩, ⟨121, .im (.val (.slice none 0 0)), rfl, rfl, .im (Sub.rfl' rfl)⟩, ⟨121, .im (.val (.slice none 0 0)), rfl, rfl, .im (Sub.rfl' rfl)⟩, ⟨121, .im (.val (.slice none 0 0)), rfl, rfl, .im (Sub.rfl' rfl)⟩, ⟨122, .im _, rfl, rfl, .im (Sub.rfl' rfl)⟩, ⟨122, .im _, rfl, rfl, .im (Sub.rfl' rfl)⟩, ⟨122, .im _, rfl, rfl, .im (Sub.rfl' rfl)⟩, ⟨122, .im _, rfl, rfl, .im (Sub.rfl' rfl)⟩, ⟨123, .im _, rfl, rfl, .im (Sub.rfl' rfl)⟩, ⟨123, .im _, rfl, rfl, .im (Sub.rfl' rfl)⟩, ⟨123, .osl 124 _, rfl, rfl, .osl rfl rfl rfl⟩, ⟨123, .osl 125 _, rfl, rfl, .osl rfl rfl rfl⟩, ⟨123, .osl 126 _, rfl, rfl, .osl rfl rfl rfl⟩, trivial⟩)
         ·replace h := hk869
          obtain ⟨z923, z924, z925, z926, z927, z928, z929, _⟩ := hp
          conv=>whnf
          refine Side.mk rfl ?_
          conv=>whnf
          refine Side.mk rfl ?_
          conv=>whnf
          refine Side.mk rfl ?_
          conv=>whnf
          refine Side.mk rfl ?_
          conv=>whnf
          refine Side.mk rfl ?_
          conv=>whnf
          obtain ⟨e930, he930, h⟩ := idxn_some h
          refine ⟨_, ⟨(by omega), map_at he930, rfl⟩, ?_⟩
          conv=>whnf
          obtain ⟨c931, hc931, h⟩ := bind_some h
          refine ⟨_, (sp_lib_Clone_int e930 c931 (hc931)).im, ?_⟩
          conv=>whnf
          obtain ⟨c932, h⟩ := chk_some h
          refine Side.mk ⟨rfl, map_len (l := [c931]) (c := cL cI) fun _ => rfl, show capOk _ 24 by simpa only [List.length_map, List.length_cons, List.length_nil, Nat.zero_add] using c932⟩ ?_
          conv=>whnf
          refine Nf.mk (List.map (cL cI) (y636 ++ [c931])) (app_map (l := y636) (m := [c931]) (c := cL cI)) ?_
          conv=>whnf
          refine Side.mk rfl ?_
          conv=>whnf
          refine Side.mk rfl ?_
          conv=>whnf
          refine Side.mk rfl ?_
          conv=>whnf
          refine Side.mk rfl ?_
          conv=>whnf
          refine Side.mk rfl ?_
          conv=>whnf
          refine Side.mk rfl ?_
          conv=>whnf
          refine Side.mk ⟨rfl, trivial⟩ ?_
          conv=>whnf
          obtain ⟨c933, h⟩ := chk_some h
          refine Side.mk ⟨rfl, map_len (l := [y896]) (c := cL cI) fun _ => rfl, show capOk _ 24 by simpa only [List.length_map, List.length_cons, List.length_nil, Nat.zero_add] using c933⟩ ?_
          conv=>whnf
          refine Nf.mk (List.map (cL cI) (y637 ++ [y896])) (app_map (l := y637) (m := [y896]) (c := cL cI)) ?_
          conv=>whnf
          refine Side.mk rfl ?_
          conv=>whnf
          refine Side.mk rfl ?_
          conv=>whnf
          refine Side.mk rfl ?_
          conv=>whnf
          refine Side.mk rfl ?_
          conv=>whnf
          refine Side.mk rfl ?_
          conv=>whnf
          obtain ⟨e934, he934, h⟩ := idxn_some h
          refine ⟨_, ⟨(by omega), map_at he934, rfl⟩, ?_⟩
          conv=>whnf
          obtain ⟨c935, hc935, h⟩ := bind_some h
          refine ⟨_, (sp_lib_Clone_int e934 c935 (hc935)).im, ?_⟩
          conv=>whnf
          obtain ⟨c936, h⟩ := chk_some h
          refine Side.mk ⟨rfl, map_len (l := [c935]) (c := cL cI) fun _ => rfl, show capOk _ 24 by simpa only [List.length_map, List.length_cons, List.length_nil, Nat.zero_add] using c936⟩ ?_
          conv=>whnf
          refine Nf.mk (List.map (cL cI) (y638 ++ [c935])) (app_map (l := y638) (m := [c935]) (c := cL cI)) ?_
          conv=>whnf
          refine Side.mk rfl ?_
          conv=>whnf
          refine Side.mk rfl ?_
          conv=>whnf
          cases h
          exact Join.mk (Ent.mk [(121, some 121), (122, some 122), (123, some 123), (124, some 124), (125, some 125), (126, some 126)] rfl ⟨eI rfl rfl, ⟨.own 121 _ 0, rfl, .own rfl rfl rfl⟩, ⟨.own 122 _ 0, rfl, .own rfl rfl rfl⟩, ⟨.own 123 _ 0, rfl, .own rfl rfl rfl⟩, eI rfl rfl, eI rfl rfl, eI rfl rfl, trivial⟩ ⟨.inl ⟨121, rfl, rfl, trivial⟩, .inl ⟨122, rfl, rfl, trivial⟩, .inl ⟨123, rfl, rfl, trivial⟩, .inl ⟨124, rfl, rfl, trivial⟩, .inl ⟨125, rfl, rfl, trivial⟩, .inl ⟨126, rfl, rfl, trivial⟩, trivial⟩ ⟨⟨121, .im _, rfl, rfl, .im (Sub.rfl' rfl)⟩, ⟨121, .im _, rfl, rfl, .im (Sub.rfl' rfl)⟩, ⟨121, .im (.val (.slice none 0 0)), rfl, rfl, .im (Sub.rfl' rfl)⟩, ⟨121, .im (.val (.slice none 0 0)), rfl, rfl, .im (Sub.rfl' rfl)⟩, ⟨121, .im (.val (.slice none 0 0)), rfl, rfl, .im (Sub.rfl' rfl)⟩, ⟨122, .im _, rfl, rfl, .im (Sub.rfl' rfl)⟩, ⟨122, .im _, rfl, rfl, .im (Sub.rfl' rfl)⟩, ⟨122, .im _, rfl, rfl, .im (Sub.rfl' rfl)⟩, ⟨122, .im _, rfl, rfl, .im (Sub.rfl' rfl)⟩, ⟨123, .im _, rfl, rfl, .im (Sub.rfl' rfl)⟩, ⟨123, .im _, rfl, rfl, .im (Sub.rfl' rfl)⟩, ⟨123, .osl 124 _, rfl, rfl, .osl rfl rfl rfl⟩, ⟨123, .osl 125 _, rfl, rfl, .osl rfl rfl rfl⟩, ⟨123, .osl 126 _, rfl, rfl, .osl rfl rfl rfl⟩, trivial⟩)
       ·replace h : table_Hypothesis.k31 y639 y864 y865 y866 = some _ := hk793
        unfold table_Hypothesis.k31 at h
        obtain ⟨z937, z938, z939, z940, z941, z942, _⟩ := hp
        conv=>whnf
        refine Side.mk (by show inR _; unfold inR; omega) ?_
        conv=>whnf
        cases h
        exact Nxt.mk _ ho791 (Ent.mk [(121, some 121), (122, some 122), (123, some 123), (124, some 124), (125, some 125), (126, some 126)] rfl ⟨eI rfl rfl, ⟨.own 121 _ 0, rfl, .own rfl rfl rfl⟩, ⟨.own 122 _ 0, rfl, .own rfl rfl rfl⟩, ⟨.own 123 _ 0, rfl, .own rfl rfl rfl⟩, eI rfl rfl, eI rfl rfl, eI rfl rfl, trivial⟩ ⟨.inl ⟨121, rfl, rfl, trivial⟩, .inl ⟨122, rfl, rfl, trivial⟩, .inl ⟨123, rfl, rfl, trivial⟩, .inl ⟨124, rfl, rfl, trivial⟩, .inl ⟨125, rfl, rfl, trivial⟩, .inl ⟨126, rfl, rfl, trivial⟩, trivial⟩ ⟨⟨121, .im _, rfl, rfl, .im (Sub.rfl' rfl)⟩, ⟨121, .im _, rfl, rfl, .im (Sub.rfl' rfl)⟩, ⟨121, .im (.val (.slice none 0 0)), rfl, rfl, .im (Sub.rfl' rfl)⟩, ⟨121, .im (.val (.slice none 0 0)), rfl, rfl, .im (Sub.rfl' rfl)⟩, ⟨121, .im (.val (.slice none 0 0)), rfl, rfl, .im (Sub.rfl' rfl)⟩, ⟨122, .im _, rfl, rfl, .im (Sub.rfl' rfl)⟩, ⟨122, .im _, rfl, rfl, .im (Sub.rfl' rfl)⟩, ⟨122, .im _, rfl, rfl, .im (Sub.rfl' rfl)⟩, ⟨122, .im _, rfl, rfl, .im (Sub.rfl' rfl)⟩, ⟨123, .im _, rfl, rfl, .im (Sub.rfl' rfl)⟩, ⟨123, .im _, rfl, rfl, .im (Sub.rfl' rfl)⟩, ⟨123, .osl 124 _, rfl, rfl, .osl rfl rfl rfl⟩, ⟨123, .osl 125 _, rfl, rfl, .osl rfl rfl rfl⟩, ⟨123, .osl 126 _, rfl, rfl, .osl rfl rfl rfl⟩, trivial⟩)
      ·replace h := cond_f b792 h
       have b792d := odf b792
       conv=>whnf
       cases h
       have ho791 : _ = _ := ho791
       cases ho791
       exact Join.mk (Ent.mk [(121, some 121), (122, some 123), (123, some 124), (124, some 125), (125, some 126)] rfl ⟨⟨.own 121 _ 0, rfl, .own rfl rfl rfl⟩, ⟨.own 123 _ 0, rfl, .own rfl rfl rfl⟩, trivial⟩ ⟨.inl ⟨121, rfl, rfl, trivial⟩, .inl ⟨123, rfl, rfl, trivial⟩, .inl ⟨124, rfl, rfl, trivial⟩, .inl ⟨125, rfl, rfl, trivial⟩, .inl ⟨126, rfl, rfl, trivial⟩, trivial⟩ ⟨⟨121, .im _, rfl, rfl, .im (Sub.rfl' rfl)⟩, ⟨121, .im _, rfl, rfl, .im (Sub.rfl' rfl)⟩, ⟨121, .im (.val (.slice none 0 0)), rfl, rfl, .im (Sub.rfl' rfl)⟩, ⟨121, .im (.val (.slice none 0 0)), rfl, rfl, .im (Sub.rfl' rfl)⟩, ⟨121, .im (.val (.slice none 0 0)), rfl, rfl, .im (Sub.rfl' rfl)⟩, ⟨123, .im _, rfl, rfl, .im (Sub.rfl' rfl)⟩, ⟨123, .im _, rfl, rfl, .im (Sub.rfl' rfl)⟩, ⟨123, .osl 124 _, rfl, rfl, .osl rfl rfl rfl⟩, ⟨123, .osl 125 _, rfl, rfl, .osl rfl rfl rfl⟩, ⟨123, .osl 126 _, rfl, rfl, .osl rfl rfl rfl⟩, trivial⟩)
     ·replace h : table_Hypothesis.k33 t_ y506 y507 y508 = some _ := hk65
      unfold table_Hypothesis.k33 at h
      obtain ⟨z949, z950, z951, _⟩ := hp
      conv=>whnf
      refine Side.mk rfl ?_
      conv=>whnf
      refine Side.mk rfl ?_
      conv=>whnf
      cases h
      conv=>whnf
      refine Side.mk ⟨rfl, trivial⟩ ?_
      conv=>whnf
      exact Side.mk ⟨rfl, rfl, rfl, trivial⟩ ⟨rfl, rfl⟩
theorem sp_R23_place (l_ : List Int) (n_ : Int) (r : Int) (h : Ok (nL cI l_) → Ok (nI n_) → R23_place l_ n_ = some r) : Sp Tryz.prog 133 [.im (nL cI l_), .im (nI n_)] (.im (nI r)) := by
 refine sp_of rfl [] rfl rfl rfl (Nat.le_of_ble_eq_true rfl) rfl fun hk => ?_
 replace h := h hk.1 hk.2.1
 have z1 : List.length l_ ≤ 17592186044416 := ok_len hk.1
 unfold R23_place at h
 conv=>whnf
 obtain ⟨oc, hc, hk51⟩ := bind_some h
 clear h
 have h := hc
 clear hc
 refine Cut.mkS oc (Y := Unit) (fun (_ : Unit) => mkSt [] [] []) (fun (_ : Unit) => True) (by rintro ⟨⟩; exact (Holds.true_ _)) ?_ ?_
 ·conv=>whnf
  refine Loops.iter (fun (s : Nat) => R23_place.s2 l_ n_ s) (fun i67 => mkSt [(0, .im (nL cI l_)), (1, .im (nI n_)), (5, .im (nI (↑i67 : Int)))] [] []) (fun i67 => List.length l_ ≤ 17592186044416 ∧ True) h (Ent.mk [] rfl ⟨eI rfl rfl, eI rfl rfl, eI rfl rfl, trivial⟩ trivial trivial) (by rintro i67; exact ((Holds.avl 0 rfl).and (Holds.true_ _))) ?_
  clear h
  rintro k i67 o hp h ho71
  replace h : R23_place.s2 l_ n_ i67 = some o := h
  unfold R23_place.s2 at h
  obtain ⟨z75, _⟩ := hp
  conv=>whnf
  refine Nf.mk (List.length l_) len_map ?_
  conv=>whnf
  refine Both.mk ?_ ?_<;>intro b72
  ·replace h := cond_t b72 h
   have b72d := odt b72
   conv=>whnf
   obtain ⟨e73, he73, h⟩ := idxn_some h
   refine ⟨_, ⟨(by omega), map_at he73, rfl⟩, ?_⟩
   conv=>whnf
   refine Both.mk ?_ ?_<;>intro b74
   ·replace h := cond_t b74 h
    have b74d := odt b74
    conv=>whnf
    cases h
    have ho71 : _ = _ := ho71
    cases ho71
    replace h : some _ = some _ := hk51
    cases h
    conv=>whnf
    exact ⟨rfl, rfl⟩
   ·replace h := cond_f b74 h
    have b74d := odf b74
    conv=>whnf
    refine Side.mk (by show inR _; unfold inR; omega) ?_
    conv=>whnf
    cases h
    exact Nxt.mk _ ho71 (Ent.mk [] rfl ⟨eI rfl rfl, eI rfl rfl, eI rfl rfl, trivial⟩ trivial trivial)
  ·replace h := cond_f b72 h
   have b72d := odf b72
   conv=>whnf
   cases h
   have ho71 : _ = _ := ho71
   cases ho71
   exact JoinS.mk' _ rfl (Ent.mk [] rfl trivial trivial trivial)
 ·rintro ⟨⟩ rfl hp
  replace h := sum_inl hk51
  conv=>whnf
  cases h
  conv=>whnf
  exact ⟨rfl, rfl⟩
theorem sp_R23_built (t_ : T_api_Table) (o_ : T_api_Obs) (l_ : List Int) (r : T_api_Hyp) (h : Ok (.agg (c_api_Table t_)) → Ok (.agg (c_api_Obs o_)) → Ok (nL cI l_) → R23_built t_ o_ l_ = some r) : Sp Tryz.prog 97 [.im (.agg (c_api_Table t_)), .im (.agg (c_api_Obs o_)), .im (nL cI l_)] (.im (.agg (c_api_Hyp r))) := by
 refine sp_of rfl [700003, 700004] rfl rfl rfl (Nat.le_of_ble_eq_true rfl) rfl fun hk => ?_
 replace h := h hk.1 hk.2.1 hk.2.2.1
 have z1 : List.length t_.Prefixes ≤ 17592186044416 := ok_len (Ok.agg_at hk.1 1 rfl)
 have z2 : List.length t_.Suffixes ≤ 17592186044416 := ok_len (Ok.agg_at hk.1 2 rfl)
 have z3 : List.length o_.Traces ≤ 17592186044416 := ok_len (Ok.agg_at hk.2.1 1 rfl)
 have z4 : List.length l_ ≤ 17592186044416 := ok_len hk.2.2.1
 unfold R23_built at h
 conv=>whnf
 refine Side.mk rfl ?_
 conv=>whnf
 obtain ⟨⟨y310, y311, y312⟩, hc, hk51⟩ := bind_some h
 clear h
 have h := hc
 clear hc
 refine Cut.mk (mkSt [(6, .own 89 1 0), (7, .own 90 1 0)] [(89, .box 60 5), (90, .box 60 5), (91, .row 38 1 (List.map (cL cI) y310)), (92, .row 38 1 (List.map (cL cI) y311)), (93, .row 38 1 (List.map (cL cI) y312))] [(89, 0, .im (nI 0)), (89, 1, .im (nI 0)), (89, 2, .im (.val (.slice none 0 0))), (89, 3, .im (.val (.slice none 0 0))), (89, 4, .im (.val (.slice none 0 0))), (90, 0, .im (nI t_.Inputs)), (90, 1, .im (nI 0)), (90, 2, .osl 91 1), (90, 3, .osl 92 1), (90, 4, .osl 93 1)]) (List.length y310 ≤ 17592186044416 ∧ List.length y311 ≤ 17592186044416 ∧ List.length y312 ≤ 17592186044416 ∧ True) ((Holds.kdl 91 rfl).and ((Holds.kdl 92 rfl).and ((Holds.kdl 93 rfl).and (Holds.true_ _)))) ?_ (fun hp => ?_)
 ·conv=>whnf
  refine Loops.iter (fun (s : List (List Int) × List (List Int) × List (List Int) × Nat) => R23_built.s20 t_ o_ l_ s.1 s.2.1 s.2.2.1 s.2.2.2) (fun (y388, y389, y390, i391) => mkSt [(2, .im (nL cI l_)), (3, .im (.ref (c_api_Table t_))), (4, .im (.ref (c_api_Obs o_))), (6, .own 89 1 0), (7, .own 90 1 0), (8, .im (nI (↑i391 : Int)))] [(89, .box 60 5), (90, .box 60 5), (91, .row 38 1 (List.map (cL cI) y388)), (92, .row 38 1 (List.map (cL cI) y389)), (93, .row 38 1 (List.map (cL cI) y390))] [(89, 0, .im (nI 0)), (89, 1, .im (nI 0)), (89, 2, .im (.val (.slice none 0 0))), (89, 3, .im (.val (.slice none 0 0))), (89, 4, .im (.val (.slice none 0 0))), (90, 0, .im (nI t_.Inputs)), (90, 1, .im (nI 0)), (90, 2, .osl 91 1), (90, 3, .osl 92 1), (90, 4, .osl 93 1)]) (fun (y388, y389, y390, i391) => List.length l_ ≤ 17592186044416 ∧ List.length y388 ≤ 17592186044416 ∧ List.length y389 ≤ 17592186044416 ∧ List.length y390 ≤ 17592186044416 ∧ True) h (Ent.mk [(89, some 6), (90, some 7), (91, none), (92, none), (93, none)] rfl ⟨eI rfl rfl, eI rfl rfl, eI rfl rfl, ⟨.own 6 _ 0, rfl, .own rfl rfl rfl⟩, ⟨.own 7 _ 0, rfl, .own rfl rfl rfl⟩, eI rfl rfl, trivial⟩ ⟨.inl ⟨6, rfl, rfl, trivial⟩, .inl ⟨7, rfl, rfl, trivial⟩, .inr ⟨rfl, rfl, .inl ⟨_, _, rfl, by decide⟩⟩, .inr ⟨rfl, rfl, .inl ⟨_, _, rfl, by decide⟩⟩, .inr ⟨rfl, rfl, .inl ⟨_, _, rfl, by decide⟩⟩, trivial⟩ ⟨⟨6, .im _, rfl, rfl, .im (Sub.rfl' rfl)⟩, ⟨6, .im _, rfl, rfl, .im (Sub.rfl' rfl)⟩, ⟨6, .im (.val (.slice none 0 0)), rfl, rfl, .im (Sub.rfl' rfl)⟩, ⟨6, .im (.val (.slice none 0 0)), rfl, rfl, .im (Sub.rfl' rfl)⟩, ⟨6, .im (.val (.slice none 0 0)), rfl, rfl, .im (Sub.rfl' rfl)⟩, ⟨7, .im _, rfl, rfl, .im (Sub.rfl' rfl)⟩, ⟨7, .im _, rfl, rfl, .im (Sub.rfl' rfl)⟩, ⟨7, .im (.val (.slice none 0 0)), rfl, rfl, .made rfl rfl⟩, ⟨7, .im (.val (.slice none 0 0)), rfl, rfl, .made rfl rfl⟩, ⟨7, .im (.val (.slice none 0 0)), rfl, rfl, .made rfl rfl⟩, trivial⟩) (by rintro ⟨y388, y389, y390, i391⟩; exact ((Holds.avl 2 rfl).and ((Holds.kdl 91 rfl).and ((Holds.kdl 92 rfl).and ((Holds.kdl 93 rfl).and (Holds.true_ _)))))) ?_
  clear h
  rintro k ⟨y388, y389, y390, i391⟩ o hp h ho479
  replace h : R23_built.s20 t_ o_ l_ y388 y389 y390 i391 = some o := h
  unfold R23_built.s20 at h
  obtain ⟨z567, z568, z569, z570, _⟩ := hp
  conv=>whnf
  refine Nf.mk (List.length l_) len_map ?_
  conv=>whnf
  refine Both.mk ?_ ?_<;>intro b480
  ·replace h := cond_t b480 h
   have b480d := odt b480
   conv=>whnf
   obtain ⟨e481, he481, h⟩ := idxn_some h
   refine ⟨_, ⟨(by omega), map_at he481, rfl⟩, ?_⟩
   conv=>whnf
   obtain ⟨e482, he482z, he482, h⟩ := idx_some h
   refine ⟨_, ⟨he482z, map_at he482, rfl⟩, ?_⟩
   conv=>whnf
   obtain ⟨⟨y519, y520⟩, hc, hk483⟩ := bind_some h
   clear h
   have h := hc
   clear hc
   refine Cut.mk (mkSt [(2, .im (nL cI l_)), (3, .im (.ref (c_api_Table t_))), (4, .im (.ref (c_api_Obs o_))), (6, .own 89 1 0), (7, .own 90 1 0), (8, .im (nI (↑i391 : Int))), (9, .im (nL cI e482)), (10, .osl 94 1), (11, .osl 95 1)] [(89, .box 60 5), (90, .box 60 5), (91, .row 38 1 (List.map (cL cI) y388)), (92, .row 38 1 (List.map (cL cI) y389)), (93, .row 38 1 (List.map (cL cI) y390)), (94, .row 3 1 (List.map cI y519)), (95, .row 3 1 (List.map cI y520))] [(89, 0, .im (nI 0)), (89, 1, .im (nI 0)), (89, 2, .im (.val (.slice none 0 0))), (89, 3, .im (.val (.slice none 0 0))), (89, 4, .im (.val (.slice none 0 0))), (90, 0, .im (nI t_.Inputs)), (90, 1, .im (nI 0)), (90, 2, .osl 91 1), (90, 3, .osl 92 1), (90, 4, .osl 93 1)]) (List.length l_ ≤ 17592186044416 ∧ List.length e482 ≤ 17592186044416 ∧ List.length y388 ≤ 17592186044416 ∧ List.length y389 ≤ 17592186044416 ∧ List.length y390 ≤ 17592186044416 ∧ List.length y519 ≤ 17592186044416 ∧ List.length y520 ≤ 17592186044416 ∧ True) ((Holds.avl 2 rfl).and ((Holds.avl 9 rfl).and ((Holds.kdl 91 rfl).and ((Holds.kdl 92 rfl).and ((Holds.kdl 93 rfl).and ((Holds.kdl 94 rfl).and ((Holds.kdl 95 rfl).and (Holds.true_ _)))))))) ?_ (fun hp => ?_)
   ·conv=>whnf
    refine Loops.iter (fun (s : List Int × List Int × Nat) => R23_built.s18 t_ o_ l_ e482 s.1 s.2.1 s.2.2) (fun (y527, y528, a529) => mkSt [(2, .im (nL cI l_)), (3, .im (.ref (c_api_Table t_))), (4, .im (.ref (c_api_Obs o_))), (6, .own 89 1 0), (7, .own 90 1 0), (8, .im (nI (↑i391 : Int))), (9, .im (nL cI e482)), (10, .osl 94 1), (11, .osl 95 1), (12, .im (nI (↑a529 : Int)))] [(89, .box 60 5), (90, .box 60 5), (91, .row 38 1 (List.map (cL cI) y388)), (92, .row 38 1 (List.map (cL cI) y389)), (93, .row 38 1 (List.map (cL cI) y390)), (94, .row 3 1 (List.map cI y527)), (95, .row 3 1 (List.map cI y528))] [(89, 0, .im (nI 0)), (89, 1, .im (nI 0)), (89, 2, .im (.val (.slice none 0 0))), (89, 3, .im (.val (.slice none 0 0))), (89, 4, .im (.val (.slice none 0 0))), (90, 0, .im (nI t_.Inputs)), (90, 1, .im (nI 0)), (90, 2, .osl 91 1), (90, 3, .osl 92 1), (90, 4, .osl 93 1)]) (fun (y527, y528, a529) => List.length l_ ≤ 17592186044416 ∧ List.length e482 ≤ 17592186044416 ∧ List.length y388 ≤ 17592186044416 ∧ List.length y389 ≤ 17592186044416 ∧ List.length y390 ≤ 17592186044416 ∧ List.length y527 ≤ 17592186044416 ∧ List.length y528 ≤ 17592186044416 ∧ True) h (Ent.mk [(89, some 89), (90, some 90), (91, some 91), (92, some 92), (93, some 93), (94, none), (95, none)] rfl ⟨eI rfl rfl, eI rfl rfl, eI rfl rfl, ⟨.own 89 _ 0, rfl, .own rfl rfl rfl⟩, ⟨.own 90 _ 0, rfl, .own rfl rfl rfl⟩, eI rfl rfl, eI rfl rfl, ⟨.im (.val (.slice none 0 0)), rfl, .made rfl rfl⟩, ⟨.im (.val (.slice none 0 0)), rfl, .made rfl rfl⟩, eI rfl rfl, trivial⟩ ⟨.inl ⟨89, rfl, rfl, trivial⟩, .inl ⟨90, rfl, rfl, trivial⟩, .inl ⟨91, rfl, rfl, trivial⟩, .inl ⟨92, rfl, rfl, trivial⟩, .inl ⟨93, rfl, rfl, trivial⟩, .inr ⟨rfl, rfl, .inl ⟨_, _, rfl, by decide⟩⟩, .inr ⟨rfl, rfl, .inl ⟨_, _, rfl, by decide⟩⟩, trivial⟩ ⟨⟨89, .im _, rfl, rfl, .im (Sub.rfl' rfl)⟩, ⟨89, .im _, rfl, rfl, .im (Sub.rfl' rfl)⟩, ⟨89, .im (.val (.slice none 0 0)), rfl, rfl, .im (Sub.rfl' rfl)⟩, ⟨89, .im (.val (.slice none 0 0)), rfl, rfl, .im (Sub.rfl' rfl)⟩, ⟨89, .im (.val (.slice none 0 0)), rfl, rfl, .im (Sub.rfl' rfl)⟩, ⟨90, .im _, rfl, rfl, .im (Sub.rfl' rfl)⟩, ⟨90, .im _, rfl, rfl, .im (Sub.rfl' rfl)⟩, ⟨90, .osl 91 _, rfl, rfl, .osl rfl rfl rfl⟩, ⟨90, .osl 92 _, rfl, rfl, .osl rfl rfl rfl⟩, ⟨90, .osl 93 _, rfl, rfl, .osl rfl rfl rfl⟩, trivial⟩) (by rintro ⟨y527, y528, a529⟩; exact ((Holds.avl 2 rfl).and ((Holds.avl 9 rfl).and ((Holds.kdl 91 rfl).and ((Holds.kdl 92 rfl).and ((Holds.kdl 93 rfl).and ((Holds.kdl 94 rfl).and ((Holds.kdl 95 rfl).and (Holds.true_ _))))))))) ?_
    clear h
    rintro k ⟨y527, y528, a529⟩ o hp h ho539
    replace h : R23_built.s18 t_ o_ l_ e482 y527 y528 a529 = some o := h
    unfold R23_built.s18 at h
    obtain ⟨z549, z550, z551, z552, z553, z554, z555, _⟩ := hp
    conv=>whnf
    refine Both.mk ?_ ?_<;>intro b540
    ·replace h := cond_t b540 h
     have b540d := odt b540
     conv=>whnf
     obtain ⟨c541, hc541, h⟩ := bind_some h
     refine ⟨_, (sp_R23_After o_ e482 [(↑a529 : Int)] c541 (fun _ _ _ => hc541)), ?_⟩
     conv=>whnf
     obtain ⟨c542, hc542, h⟩ := bind_some h
     refine ⟨_, (sp_R23_Joined e482 [(↑a529 : Int)] c542 (fun _ _ => hc542)), ?_⟩
     conv=>whnf
     obtain ⟨c543, hc543, h⟩ := bind_some h
     refine ⟨_, (sp_R23_find t_ o_ c542 c543 (fun _ _ _ => hc543)), ?_⟩
     conv=>whnf
     obtain ⟨c544, hc544, h⟩ := bind_some h
     refine ⟨_, (sp_R23_place l_ c543 c544 (fun _ _ => hc544)), ?_⟩
     conv=>whnf
     obtain ⟨c545, h⟩ := chk_some h
     refine Side.mk ⟨rfl, map_len (l := [c544]) (c := cI) fun _ => rfl, show capOk _ 8 by simpa only [List.length_map, List.length_cons, List.length_nil, Nat.zero_add] using c545⟩ ?_
     conv=>whnf
     refine Nf.mk (List.map cI (y527 ++ [c544])) (app_map (l := y527) (m := [c544]) (c := cI)) ?_
     conv=>whnf
     obtain ⟨e546, he546, h⟩ := idxn_some h
     refine ⟨_, ⟨(by omega), map_at he546, rfl⟩, ?_⟩
     conv=>whnf
     obtain ⟨c547, h⟩ := chk_some h
     refine Side.mk ⟨rfl, map_len (l := [e546]) (c := cI) fun _ => rfl, show capOk _ 8 by simpa only [List.length_map, List.length_cons, List.length_nil, Nat.zero_add] using c547⟩ ?_
     conv=>whnf
     refine Nf.mk (List.map cI (y528 ++ [e546])) (app_map (l := y528) (m := [e546]) (c := cI)) ?_
     conv=>whnf
     obtain ⟨c548, h⟩ := chk_some h
     refine Side.mk c548 ?_
     conv=>whnf
     cases h
     exact Nxt.mk _ ho539 (Ent.mk [(89, some 89), (90, some 90), (91, some 91), (92, some 92), (93, some 93), (94, some 94), (95, some 95)] rfl ⟨eI rfl rfl, eI rfl rfl, eI rfl rfl, ⟨.own 89 _ 0, rfl, .own rfl rfl rfl⟩, ⟨.own 90 _ 0, rfl, .own rfl rfl rfl⟩, eI rfl rfl, eI rfl rfl, ⟨.osl 94 _, rfl, .osl rfl rfl rfl⟩, ⟨.osl 95 _, rfl, .osl rfl rfl rfl⟩, eI rfl rfl, trivial⟩ ⟨.inl ⟨89, rfl, rfl, trivial⟩, .inl ⟨90, rfl, rfl, trivial⟩, .inl ⟨91, rfl, rfl, trivial⟩, .inl ⟨92, rfl, rfl, trivial⟩, .inl ⟨93, rfl, rfl, trivial⟩, .inl ⟨94, rfl, rfl, trivial⟩, .inl ⟨95, rfl, rfl, trivial⟩, trivial⟩ ⟨⟨89, .im _, rfl, rfl, .im (Sub.rfl' rfl)⟩, ⟨89, .im _, rfl, rfl, .im (Sub.rfl' rfl)⟩, ⟨89, .im (.val (.slice none 0 0)), rfl, rfl, .im (Sub.rfl' rfl)⟩, ⟨89, .im (.val (.slice none 0 0)), rfl, rfl, .im (Sub.rfl' rfl)⟩, ⟨89, .im (.val (.slice none 0 0)), rfl, rfl, .im (Sub.rfl' rfl)⟩, ⟨90, .im _, rfl, rfl, .im (Sub.rfl' rfl)⟩, ⟨90, .im _, rfl, rfl, .im (Sub.rfl' rfl)⟩, ⟨90, .osl 91 _, rfl, rfl, .osl rfl rfl rfl⟩, ⟨90, .osl 92 _, rfl, rfl, .osl rfl rfl rfl⟩, ⟨90, .osl 93 _, rfl, rfl, .osl rfl rfl rfl⟩, trivial⟩)
    ·replace h := cond_f b540 h
     have b540d := odf b540
     conv=>whnf
     cases h
     have ho539 : _ = _ := ho539
     cases ho539
     exact Join.mk (Ent.mk [(89, some 89), (90, some 90), (91, some 91), (92, some 92), (93, some 93), (94, some 94), (95, some 95)] rfl ⟨eI rfl rfl, eI rfl rfl, eI rfl rfl, ⟨.own 89 _ 0, rfl, .own rfl rfl rfl⟩, ⟨.own 90 _ 0, rfl, .own rfl rfl rfl⟩, eI rfl rfl, eI rfl rfl, ⟨.osl 94 _, rfl, .osl rfl rfl rfl⟩, ⟨.osl 95 _, rfl, .osl rfl rfl rfl⟩, trivial⟩ ⟨.inl ⟨89, rfl, rfl, trivial⟩, .inl ⟨90, rfl, rfl, trivial⟩, .inl ⟨91, rfl, rfl, trivial⟩, .inl ⟨92, rfl, rfl, trivial⟩, .inl ⟨93, rfl, rfl, trivial⟩, .inl ⟨94, rfl, rfl, trivial⟩, .inl ⟨95, rfl, rfl, trivial⟩, trivial⟩ ⟨⟨89, .im _, rfl, rfl, .im (Sub.rfl' rfl)⟩, ⟨89, .im _, rfl, rfl, .im (Sub.rfl' rfl)⟩, ⟨89, .im (.val (.slice none 0 0)), rfl, rfl, .im (Sub.rfl' rfl)⟩, ⟨89, .im (.val (.slice none 0 0)), rfl, rfl, .im (Sub.rfl' rfl)⟩, ⟨89, .im (.val (.slice none 0 0)), rfl, rfl, .im (Sub.rfl' rfl)⟩, ⟨90, .im _, rfl, rfl, .im (Sub.rfl' rfl)⟩, ⟨90, .im _, rfl, rfl, .im (Sub.rfl' rfl)⟩, ⟨90, .osl 91 _, rfl, rfl, .osl rfl rfl rfl⟩, ⟨90, .osl 92 _, rfl, rfl, .osl rfl rfl rfl⟩, ⟨90, .osl 93 _, rfl, rfl, .osl rfl rfl rfl⟩, trivial⟩)
   ·replace h : R23_built.k19 y388 y389 y390 i391 e482 y519 y520 = some _ := hk483
    unfold R23_built.k19 at h
    obtain ⟨z556, z557, z558, z559, z560, z561, z562, _⟩ := hp
    conv=>whnf
    refine Side.mk rfl ?_
    conv=>whnf
    refine Side.mk rfl ?_
    conv=>whnf
    refine Side.mk rfl ?_
    conv=>whnf
    refine Side.mk ⟨rfl, trivial⟩ ?_
    conv=>whnf
    obtain ⟨c563, h⟩ := chk_some h
    refine Side.mk ⟨rfl, map_len (l := [y519]) (c := cL cI) fun _ => rfl, show capOk _ 24 by simpa only [List.length_map, List.length_cons, List.length_nil, Nat.zero_add] using c563⟩ ?_
    conv=>whnf
    refine Nf.mk (List.map (cL cI) (y388 ++ [y519])) (app_map (l := y388) (m := [y519]) (c := cL cI)) ?_
    conv=>whnf
    refine Side.mk rfl ?_
    conv=>whnf
    refine Side.mk rfl ?_
    conv=>whnf
    refine Side.mk rfl ?_
    conv=>whnf
    refine Side.mk rfl ?_
    conv=>whnf
    refine Side.mk rfl ?_
    conv=>whnf
    refine Side.mk rfl ?_
    conv=>whnf
    refine Side.mk ⟨rfl, trivial⟩ ?_
    conv=>whnf
    obtain ⟨c564, h⟩ := chk_some h
    refine Side.mk ⟨rfl, map_len (l := [y520]) (c := cL cI) fun _ => rfl, show capOk _ 24 by simpa only [List.length_map, List.length_cons, List.length_nil, Nat.zero_add] using c564⟩ ?_
    conv=>whnf
    refine Nf.mk (List.map (cL cI) (y389 ++ [y520])) (app_map (l := y389) (m := [y520]) (c := cL cI)) ?_
    conv=>whnf
    refine Side.mk rfl ?_
    conv=>whnf
    refine Side.mk rfl ?_
    conv=>whnf
    refine Side.mk rfl ?_
    conv=>whnf
    refine Side.mk rfl ?_
    conv=>whnf
    refine Side.mk rfl ?_
    conv=>whnf
    obtain ⟨c565, hc565, h⟩ := bind_some h
    refine ⟨_, (sp_R23_Joined e482 [] c565 (fun _ _ => hc565)), ?_⟩
    conv=>whnf
    obtain ⟨c566, h⟩ := chk_some h
    refine Side.mk ⟨rfl, map_len (l := [c565]) (c := cL cI) fun _ => rfl, show capOk _ 24 by simpa only [List.length_map, List.length_cons, List.length_nil, Nat.zero_add] using c566⟩ ?_
    conv=>whnf
    refine Nf.mk (List.map (cL cI) (y390 ++ [c565])) (app_map (l := y390) (m := [c565]) (c := cL cI)) ?_
    conv=>whnf
    refine Side.mk rfl ?_
    conv=>whnf
    refine Side.mk rfl ?_
    conv=>whnf
    refine Side.mk (by show inR _; unfold inR; omega) ?_
    conv=>whnf
    cases h
    exact Nxt.mk _ ho479 (Ent.mk [(89, some 89), (90, some 90), (91, some 91), (92, some 92), (93, some 93)] rfl ⟨eI rfl rfl, eI rfl rfl, eI rfl rfl, ⟨.own 89 _ 0, rfl, .own rfl rfl rfl⟩, ⟨.own 90 _ 0, rfl, .own rfl rfl rfl⟩, eI rfl rfl, trivial⟩ ⟨.inl ⟨89, rfl, rfl, trivial⟩, .inl ⟨90, rfl, rfl, trivial⟩, .inl ⟨91, rfl, rfl, trivial⟩, .inl ⟨92, rfl, rfl, trivial⟩, .inl ⟨93, rfl, rfl, trivial⟩, trivial⟩ ⟨⟨89, .im _, rfl, rfl, .im (Sub.rfl' rfl)⟩, ⟨89, .im _, rfl, rfl, .im (Sub.rfl' rfl)⟩, ⟨89, .im (.val (.slice none 0 0)), rfl, rfl, .im (Sub.rfl' rfl)⟩, ⟨89, .im (.val (.slice none 0 0)), rfl, rfl, .im (Sub.rfl' rfl)⟩, ⟨89, .im (.val (.slice none 0 0)), rfl, rfl, .im (Sub.rfl' rfl)⟩, ⟨90, .im _, rfl, rfl, .im (Sub.rfl' rfl)⟩, ⟨90, .im _, rfl, rfl, .im (Sub.rfl' rfl)⟩, ⟨90, .osl 91 _, rfl, rfl, .osl rfl rfl rfl⟩, ⟨90, .osl 92 _, rfl, rfl, .osl rfl rfl rfl⟩, ⟨90, .osl 93 _, rfl, rfl, .osl rfl rfl rfl⟩, trivial⟩)
  ·replace h := cond_f b480 h
   have b480d := odf b480
   conv=>whnf
   cases h
   have ho479 : _ = _ := ho479
   cases ho479
   exact Join.mk (Ent.mk [(89, some 89), (90, some 90), (91, some 91), (92, some 92), (93, some 93)] rfl ⟨⟨.own 89 _ 0, rfl, .own rfl rfl rfl⟩, ⟨.own 90 _ 0, rfl, .own rfl rfl rfl⟩, trivial⟩ ⟨.inl ⟨89, rfl, rfl, trivial⟩, .inl ⟨90, rfl, rfl, trivial⟩, .inl ⟨91, rfl, rfl, trivial⟩, .inl ⟨92, rfl, rfl, trivial⟩, .inl ⟨93, rfl, rfl, trivial⟩, trivial⟩ ⟨⟨89, .im _, rfl, rfl, .im (Sub.rfl' rfl)⟩, ⟨89, .im _, rfl, rfl, .im (Sub.rfl' rfl)⟩, ⟨89, .im (.val (.slice none 0 0)), rfl, rfl, .im (Sub.rfl' rfl)⟩, ⟨89, .im (.val (.slice none 0 0)), rfl, rfl, .im (Sub.rfl' rfl)⟩, ⟨89, .im (.val (.slice none 0 0)), rfl, rfl, .im (Sub.rfl' rfl)⟩, ⟨90, .im _, rfl, rfl, .im (Sub.rfl' rfl)⟩, ⟨90, .im _, rfl, rfl, .im (Sub.rfl' rfl)⟩, ⟨90, .osl 91 _, rfl, rfl, .osl rfl rfl rfl⟩, ⟨90, .osl 92 _, rfl, rfl, .osl rfl rfl rfl⟩, ⟨90, .osl 93 _, rfl, rfl, .osl rfl rfl rfl⟩, trivial⟩)
 ·replace h : R23_built.k21 t_ y310 y311 y312 = some _ := hk51
  unfold R23_built.k21 at h
  obtain ⟨z571, z572, z573, _⟩ := hp
  conv=>whnf
  refine Side.mk rfl ?_
  conv=>whnf
  refine Side.mk rfl ?_
  conv=>whnf
  cases h
  conv=>whnf
  refine Side.mk ⟨rfl, trivial⟩ ?_
  conv=>whnf
  exact Side.mk ⟨rfl, rfl, rfl, trivial⟩ ⟨rfl, rfl⟩
theorem sp_R23_firsts (t_ : T_api_Table) (o_ : T_api_Obs) (r : List Int) (h : Ok (.agg (c_api_Table t_)) → Ok (.agg (c_api_Obs o_)) → R23_firsts t_ o_ = some r) : Sp Tryz.prog 96 [.im (.agg (c_api_Table t_)), .im (.agg (c_api_Obs o_))] (.row 3 1 (List.map cI r)) := by
 refine sp_of rfl [700002, 700003] rfl rfl rfl (Nat.le_of_ble_eq_true rfl) rfl fun hk => ?_
 replace h := h hk.1 hk.2.1
 have z1 : List.length t_.Prefixes ≤ 17592186044416 := ok_len (Ok.agg_at hk.1 1 rfl)
 have z2 : List.length t_.Suffixes ≤ 17592186044416 := ok_len (Ok.agg_at hk.1 2 rfl)
 have z3 : List.length o_.Traces ≤ 17592186044416 := ok_len (Ok.agg_at hk.2.1 1 rfl)
 unfold R23_firsts at h
 conv=>whnf
 obtain ⟨y70, hc, hk51⟩ := bind_some h
 clear h
 have h := hc
 clear hc
 refine Cut.mk (mkSt [(5, .osl 64 1)] [(64, .row 3 1 (List.map cI y70))] []) (List.length y70 ≤ 17592186044416 ∧ True) ((Holds.kdl 64 rfl).and (Holds.true_ _)) ?_ (fun hp => ?_)
 ·conv=>whnf
  refine Loops.iter (fun (s : List Int × Nat) => R23_firsts.s2 t_ o_ s.1 s.2) (fun (y75, i76) => mkSt [(2, .im (.ref (c_api_Table t_))), (3, .im (.ref (c_api_Obs o_))), (5, .osl 64 1), (6, .im (nI (↑i76 : Int)))] [(64, .row 3 1 (List.map cI y75))] []) (fun (y75, i76) => List.length y75 ≤ 17592186044416 ∧ True) h (Ent.mk [(64, none)] rfl ⟨eI rfl rfl, eI rfl rfl, ⟨.im (.val (.slice none 0 0)), rfl, .made rfl rfl⟩, eI rfl rfl, trivial⟩ ⟨.inr ⟨rfl, rfl, .inl ⟨_, _, rfl, by decide⟩⟩, trivial⟩ trivial) (by rintro ⟨y75, i76⟩; exact ((Holds.kdl 64 rfl).and (Holds.true_ _))) ?_
  clear h
  rintro k ⟨y75, i76⟩ o hp h ho82
  replace h : R23_firsts.s2 t_ o_ y75 i76 = some o := h
  unfold R23_firsts.s2 at h
  obtain ⟨z88, _⟩ := hp
  conv=>whnf
  refine Nf.mk (List.length t_.Prefixes) len_map ?_
  conv=>whnf
  refine Both.mk ?_ ?_<;>intro b83
  ·replace h := cond_t b83 h
   have b83d := odt b83
   conv=>whnf
   obtain ⟨e84, he84, h⟩ := idxn_some h
   refine ⟨_, ⟨(by omega), map_at he84, rfl⟩, ?_⟩
   conv=>whnf
   obtain ⟨c85, hc85, h⟩ := bind_some h
   refine ⟨_, (sp_R23_find t_ o_ e84 c85 (fun _ _ _ => hc85)), ?_⟩
   conv=>whnf
   refine Both.mk ?_ ?_<;>intro b86
   ·replace h := cond_t b86 h
    have b86d := odt b86
    conv=>whnf
    obtain ⟨c87, h⟩ := chk_some h
    refine Side.mk ⟨rfl, map_len (l := [(↑i76 : Int)]) (c := cI) fun _ => rfl, show capOk _ 8 by simpa only [List.length_map, List.length_cons, List.length_nil, Nat.zero_add] using c87⟩ ?_
    conv=>whnf
    refine Nf.mk (List.map cI (y75 ++ [(↑i76 : Int)])) (app_map (l := y75) (m := [(↑i76 : Int)]) (c := cI)) ?_
    conv=>whnf
    refine Side.mk (by show inR _; unfold inR; omega) ?_
    conv=>whnf
    cases h
    exact Nxt.mk _ ho82 (Ent.mk [(64, some 64)] rfl ⟨eI rfl rfl, eI rfl rfl, ⟨.osl 64 _, rfl, .osl rfl rfl rfl⟩, eI rfl rfl, trivial⟩ ⟨.inl ⟨64, rfl, rfl, trivial⟩, trivial⟩ trivial)
   ·replace h := cond_f b86 h
    have b86d := odf b86
    conv=>whnf
    refine Side.mk (by show inR _; unfold inR; omega) ?_
    conv=>whnf
    cases h
    exact Nxt.mk _ ho82 (Ent.mk [(64, some 64)] rfl ⟨eI rfl rfl, eI rfl rfl, ⟨.osl 64 _, rfl, .osl rfl rfl rfl⟩, eI rfl rfl, trivial⟩ ⟨.inl ⟨64, rfl, rfl, trivial⟩, trivial⟩ trivial)
  ·replace h := cond_f b83 h
   have b83d := odf b83
   conv=>whnf
   cases h
   have ho82 : _ = _ := ho82
   cases ho82
   exact Join.mk (Ent.mk [(64, some 64)] rfl ⟨⟨.osl 64 _, rfl, .osl rfl rfl rfl⟩, trivial⟩ ⟨.inl ⟨64, rfl, rfl, trivial⟩, trivial⟩ trivial)
 ·replace h := hk51
  obtain ⟨z89, _⟩ := hp
  conv=>whnf
  cases h
  conv=>whnf
  exact Side.mk ⟨rfl, trivial⟩ ⟨rfl, rfl⟩
theorem sp_R23_Hypothesis (t_ : T_api_Table) (o_ : T_api_Obs) (r : T_api_Hyp × Int) (h : Ok (.agg (c_api_Table t_)) → Ok (.agg (c_api_Obs o_)) → R23_Hypothesis t_ o_ = some r) : Sp Tryz.prog 38 [.im (.agg (c_api_Table t_)), .im (.agg (c_api_Obs o_))] (.tup [.agg (c_api_Hyp r.1), nI r.2]) := by
 refine sp_of rfl [700002, 700003] rfl rfl rfl (Nat.le_of_ble_eq_true rfl) rfl fun hk => ?_
 replace h := h hk.1 hk.2.1
 have z1 : List.length t_.Prefixes ≤ 17592186044416 := ok_len (Ok.agg_at hk.1 1 rfl)
 have z2 : List.length t_.Suffixes ≤ 17592186044416 := ok_len (Ok.agg_at hk.1 2 rfl)
 have z3 : List.length o_.Traces ≤ 17592186044416 := ok_len (Ok.agg_at hk.2.1 1 rfl)
 unfold R23_Hypothesis at h
 conv=>whnf
 obtain ⟨c51, hc51, h⟩ := bind_some h
 refine ⟨_, (sp_R23_Unclosed t_ o_ c51 (fun _ _ => hc51)), ?_⟩
 conv=>whnf
 refine Both.mk ?_ ?_<;>intro b52
 ·replace h := cond_t b52 h
  have b52d := odt b52
  conv=>whnf
  refine Side.mk rfl ?_
  conv=>whnf
  cases h
  conv=>whnf
  refine Side.mk ⟨rfl, trivial⟩ ?_
  conv=>whnf
  exact ⟨rfl, rfl⟩
 ·replace h := cond_f b52 h
  have b52d := odf b52
  conv=>whnf
  obtain ⟨c53, hc53, h⟩ := bind_some h
  refine ⟨_, (sp_R23_Inconsistent t_ o_ c53 (fun _ _ => hc53)), ?_⟩
  conv=>whnf
  obtain ⟨y57, hc, hk55⟩ := bind_some h
  clear h
  have h := hc
  clear hc
  refine Cut.mk (mkSt [(2, .im (.ref (c_api_Table t_))), (3, .im (.ref (c_api_Obs o_))), (4, .own 64 1 0), (34, .im (nB y57))] [(64, .box 60 5)] [(64, 0, .im (nI 0)), (64, 1, .im (nI 0)), (64, 2, .im (.val (.slice none 0 0))), (64, 3, .im (.val (.slice none 0 0))), (64, 4, .im (.val (.slice none 0 0)))]) (True) (Holds.true_ _) ?_ (fun hp => ?_)
  ·conv=>whnf
   refine Both.mk ?_ ?_<;>intro b58
   ·replace b58 := beq_ff b58
    replace h := cond_f b58 h
    conv=>whnf
    refine Both.no b58 ?_
    conv=>whnf
    cases h
    exact Join.mk (Ent.mk [(64, some 4)] rfl ⟨eI rfl rfl, eI rfl rfl, ⟨.own 4 _ 0, rfl, .own rfl rfl rfl⟩, eI rfl rfl, trivial⟩ ⟨.inl ⟨4, rfl, rfl, trivial⟩, trivial⟩ ⟨⟨4, .im _, rfl, rfl, .im (Sub.rfl' rfl)⟩, ⟨4, .im _, rfl, rfl, .im (Sub.rfl' rfl)⟩, ⟨4, .im (.val (.slice none 0 0)), rfl, rfl, .im (Sub.rfl' rfl)⟩, ⟨4, .im (.val (.slice none 0 0)), rfl, rfl, .im (Sub.rfl' rfl)⟩, ⟨4, .im (.val (.slice none 0 0)), rfl, rfl, .im (Sub.rfl' rfl)⟩, trivial⟩)
   ·replace b58 := beq_ft b58
    replace h := cond_t b58 h
    conv=>whnf
    refine Both.yes b58 ?_
    conv=>whnf
    cases h
    exact Join.mk (Ent.mk [(64, some 4)] rfl ⟨eI rfl rfl, eI rfl rfl, ⟨.own 4 _ 0, rfl, .own rfl rfl rfl⟩, eI rfl rfl, trivial⟩ ⟨.inl ⟨4, rfl, rfl, trivial⟩, trivial⟩ ⟨⟨4, .im _, rfl, rfl, .im (Sub.rfl' rfl)⟩, ⟨4, .im _, rfl, rfl, .im (Sub.rfl' rfl)⟩, ⟨4, .im (.val (.slice none 0 0)), rfl, rfl, .im (Sub.rfl' rfl)⟩, ⟨4, .im (.val (.slice none 0 0)), rfl, rfl, .im (Sub.rfl' rfl)⟩, ⟨4, .im (.val (.slice none 0 0)), rfl, rfl, .im (Sub.rfl' rfl)⟩, trivial⟩)
  ·replace h := hk55
   conv=>whnf
   refine Both.mk ?_ ?_<;>intro b59
   ·replace h := cond_t b59 h
    conv=>whnf
    refine Side.mk rfl ?_
    conv=>whnf
    cases h
    conv=>whnf
    refine Side.mk ⟨rfl, trivial⟩ ?_
    conv=>whnf
    exact ⟨rfl, rfl⟩
   ·replace h := cond_f b59 h
    conv=>whnf
    obtain ⟨c60, hc60, h⟩ := bind_some h
    refine ⟨_, (sp_R23_firsts t_ o_ c60 (fun _ _ => hc60)).im, ?_⟩
    conv=>whnf
    refine Nf.mk (List.length c60) len_map ?_
    conv=>whnf
    refine Both.mk ?_ ?_<;>intro b61
    ·replace h := cond_t b61 h
     have b61d := odt b61
     conv=>whnf
     refine Side.mk rfl ?_
     conv=>whnf
     cases h
     conv=>whnf
     refine Side.mk ⟨rfl, trivial⟩ ?_
     conv=>whnf
     exact ⟨rfl, rfl⟩
    ·replace h := cond_f b61 h
     have b61d := odf b61
     conv=>whnf
     obtain ⟨c62, hc62, h⟩ := bind_some h
     refine ⟨_, (sp_R23_built t_ o_ c60 c62 (fun _ _ _ => hc62)), ?_⟩
     conv=>whnf
     refine Side.mk rfl ?_
     conv=>whnf
     cases h
     conv=>whnf
     refine Side.mk ⟨rfl, trivial⟩ ?_
     conv=>whnf
     exact ⟨rfl, rfl⟩
theorem sp_R06_Same (a_ : T_api_Mealy) (b_ : T_api_Mealy) (r : Bool) (h : Ok (.agg (c_api_Mealy a_)) → Ok (.agg (c_api_Mealy b_)) → R06_Same a_ b_ = some r) : Sp Tryz.prog 98 [.im (.agg (c_api_Mealy a_)), .im (.agg (c_api_Mealy b_))] (.im (nB r)) := by
 refine sp_of rfl [700002, 700003] rfl rfl rfl (Nat.le_of_ble_eq_true rfl) rfl fun hk => ?_
 replace h := h hk.1 hk.2.1
 have z1 : List.length a_.Next ≤ 17592186044416 := ok_len (Ok.agg_at hk.1 2 rfl)
 have z2 : List.length a_.Out ≤ 17592186044416 := ok_len (Ok.agg_at hk.1 3 rfl)
 have z3 : List.length b_.Next ≤ 17592186044416 := ok_len (Ok.agg_at hk.2.1 2 rfl)
 have z4 : List.length b_.Out ≤ 17592186044416 := ok_len (Ok.agg_at hk.2.1 3 rfl)
 unfold R06_Same at h
 conv=>whnf
 obtain ⟨y58, hc, hk52⟩ := bind_some h
 clear h
 have h := hc
 clear hc
 refine Cut.mk (mkSt [(4, .im (nB y58))] [] []) (True) (Holds.true_ _) ?_ (fun hp => ?_)
 ·conv=>whnf
  refine Both.mk ?_ ?_<;>intro b59
  ·replace b59 := beq_tt b59
   replace h := cond_t b59 h
   have b59d := odt b59
   conv=>whnf
   iterate 4 (refine Both.yes (tt_beq b59) ?_; (conv=>whnf))
   refine Both.yes b59 ?_
   conv=>whnf
   refine Both.mk ?_ ?_<;>intro b60
   ·replace b60 := beq_tt b60
    replace h := cond_t b60 h
    have b60d := odt b60
    conv=>whnf
    iterate 4 (refine Both.yes (tt_beq b60) ?_; (conv=>whnf))
    obtain ⟨c61, hc61, h⟩ := bind_some h
    refine ⟨_, (sp_R06_Lists a_.Next b_.Next c61 (fun _ _ => hc61)), ?_⟩
    conv=>whnf
    refine Both.yes b60 ?_
    conv=>whnf
    refine Both.mk ?_ ?_<;>intro b62
    ·replace b62 := beq_tt b62
     replace h := cond_t b62 h
     conv=>whnf
     iterate 4 (refine Both.yes (tt_beq b62) ?_; (conv=>whnf))
     obtain ⟨c63, hc63, h⟩ := bind_some h
     refine ⟨_, (sp_R06_Lists a_.Out b_.Out c63 (fun _ _ => hc63)), ?_⟩
     conv=>whnf
     refine Both.yes b62 ?_
     conv=>whnf
     cases h
     exact Join.mk (Ent.mk [] rfl ⟨eI rfl rfl, trivial⟩ trivial trivial)
    ·replace b62 := beq_tf b62
     replace h := cond_f b62 h
     conv=>whnf
     iterate 4 (refine Both.no (ft_beq b62) ?_; (conv=>whnf))
     refine Both.no b62 ?_
     conv=>whnf
     cases h
     exact Join.mk (Ent.mk [] rfl ⟨eI rfl rfl, trivial⟩ trivial trivial)
   ·replace b60 := beq_tf b60
    replace h := cond_f b60 h
    have b60d := odf b60
    conv=>whnf
    iterate 4 (refine Both.no (ft_beq b60) ?_; (conv=>whnf))
    refine Both.no b60 ?_
    conv=>whnf
    iterate 6 (refine Both.no rfl ?_; (conv=>whnf))
    cases h
    exact Join.mk (Ent.mk [] rfl ⟨eI rfl rfl, trivial⟩ trivial trivial)
  ·replace b59 := beq_tf b59
   replace h := cond_f b59 h
   have b59d := odf b59
   conv=>whnf
   iterate 4 (refine Both.no (ft_beq b59) ?_; (conv=>whnf))
   refine Both.no b59 ?_
   conv=>whnf
   iterate 12 (refine Both.no rfl ?_; (conv=>whnf))
   cases h
   exact Join.mk (Ent.mk [] rfl ⟨eI rfl rfl, trivial⟩ trivial trivial)
 ·replace h := hk52
  conv=>whnf
  cases h
  conv=>whnf
  exact ⟨rfl, rfl⟩
theorem sp_R22_Same (a_ : T_api_Hyp) (b_ : T_api_Hyp) (r : Bool) (h : Ok (.agg (c_api_Hyp a_)) → Ok (.agg (c_api_Hyp b_)) → R22_Same a_ b_ = some r) : Sp Tryz.prog 39 [.im (.agg (c_api_Hyp a_)), .im (.agg (c_api_Hyp b_))] (.im (nB r)) := by
 refine sp_of rfl [700002, 700003] rfl rfl rfl (Nat.le_of_ble_eq_true rfl) rfl fun hk => ?_
 replace h := h hk.1 hk.2.1
 have z1 : List.length a_.M.Next ≤ 17592186044416 := ok_len (Ok.agg_at hk.1 2 rfl)
 have z2 : List.length a_.M.Out ≤ 17592186044416 := ok_len (Ok.agg_at hk.1 3 rfl)
 have z3 : List.length a_.Access ≤ 17592186044416 := ok_len (Ok.agg_at hk.1 4 rfl)
 have z4 : List.length b_.M.Next ≤ 17592186044416 := ok_len (Ok.agg_at hk.2.1 2 rfl)
 have z5 : List.length b_.M.Out ≤ 17592186044416 := ok_len (Ok.agg_at hk.2.1 3 rfl)
 have z6 : List.length b_.Access ≤ 17592186044416 := ok_len (Ok.agg_at hk.2.1 4 rfl)
 unfold R22_Same at h
 conv=>whnf
 obtain ⟨y56, hc, hk52⟩ := bind_some h
 clear h
 have h := hc
 clear hc
 refine Cut.mk (mkSt [(4, .im (nB y56))] [] []) (True) (Holds.true_ _) ?_ (fun hp => ?_)
 ·conv=>whnf
  obtain ⟨c57, hc57, h⟩ := bind_some h
  refine ⟨_, (sp_R06_Same a_.M b_.M c57 (fun _ _ => hc57)), ?_⟩
  conv=>whnf
  refine Both.mk ?_ ?_<;>intro b58
  ·replace b58 := beq_tt b58
   replace h := cond_t b58 h
   conv=>whnf
   iterate 4 (refine Both.yes (tt_beq b58) ?_; (conv=>whnf))
   obtain ⟨c59, hc59, h⟩ := bind_some h
   refine ⟨_, (sp_R06_Lists a_.Access b_.Access c59 (fun _ _ => hc59)), ?_⟩
   conv=>whnf
   refine Both.yes b58 ?_
   conv=>whnf
   cases h
   exact Join.mk (Ent.mk [] rfl ⟨eI rfl rfl, trivial⟩ trivial trivial)
  ·replace b58 := beq_tf b58
   replace h := cond_f b58 h
   conv=>whnf
   iterate 4 (refine Both.no (ft_beq b58) ?_; (conv=>whnf))
   refine Both.no b58 ?_
   conv=>whnf
   cases h
   exact Join.mk (Ent.mk [] rfl ⟨eI rfl rfl, trivial⟩ trivial trivial)
 ·replace h := hk52
  conv=>whnf
  cases h
  conv=>whnf
  exact ⟨rfl, rfl⟩
theorem sp_L23_TableHypothesis (t_ : T_api_Table) (o_ : T_api_Obs) (r : Bool) (h : Ok (.agg (c_api_Table t_)) → Ok (.agg (c_api_Obs o_)) → L23_TableHypothesis t_ o_ = some r) : Sp Tryz.prog 7 [.im (.agg (c_api_Table t_)), .im (.agg (c_api_Obs o_))] (.im (nB r)) := by
 refine sp_of rfl [700002, 700003] rfl rfl rfl (Nat.le_of_ble_eq_true rfl) rfl fun hk => ?_
 replace h := h hk.1 hk.2.1
 have z1 : List.length t_.Prefixes ≤ 17592186044416 := ok_len (Ok.agg_at hk.1 1 rfl)
 have z2 : List.length t_.Suffixes ≤ 17592186044416 := ok_len (Ok.agg_at hk.1 2 rfl)
 have z3 : List.length o_.Traces ≤ 17592186044416 := ok_len (Ok.agg_at hk.2.1 1 rfl)
 unfold L23_TableHypothesis at h
 conv=>whnf
 obtain ⟨y56, hc, hk52⟩ := bind_some h
 clear h
 have h := hc
 clear hc
 refine Cut.mk (mkSt [(2, .im (.ref (c_api_Table t_))), (3, .im (.ref (c_api_Obs o_))), (16, .im (nB y56))] [] []) (True) (Holds.true_ _) ?_ (fun hp => ?_)
 ·conv=>whnf
  obtain ⟨c57, hc57, h⟩ := bind_some h
  refine ⟨_, (sp_L23_Great t_ o_ c57 (fun _ _ => hc57)), ?_⟩
  conv=>whnf
  refine Both.mk ?_ ?_<;>intro b58
  ·replace b58 := beq_ff b58
   replace h := cond_f b58 h
   conv=>whnf
   refine Both.yes (ff_beq b58) ?_
   conv=>whnf
   obtain ⟨c59, hc59, h⟩ := bind_some h
   refine ⟨_, (sp_R16_Valid o_ c59 (fun _ => hc59)), ?_⟩
   conv=>whnf
   refine Both.yes (ff_beq b58) ?_
   conv=>whnf
   refine Both.no b58 ?_
   conv=>whnf
   cases h
   exact Join.mk (Ent.mk [] rfl ⟨eI rfl rfl, eI rfl rfl, eI rfl rfl, trivial⟩ trivial trivial)
  ·replace b58 := beq_ft b58
   replace h := cond_t b58 h
   conv=>whnf
   iterate 2 (refine Both.no (tf_beq b58) ?_; (conv=>whnf))
   refine Both.yes b58 ?_
   conv=>whnf
   cases h
   exact Join.mk (Ent.mk [] rfl ⟨eI rfl rfl, eI rfl rfl, eI rfl rfl, trivial⟩ trivial trivial)
 ·replace h := hk52
  conv=>whnf
  refine Both.mk ?_ ?_<;>intro b60
  ·replace h := cond_t b60 h
   conv=>whnf
   obtain ⟨c61, hc61, h⟩ := bind_some h
   refine ⟨_, (sp_L23_awake  c61 (hc61)), ?_⟩
   conv=>whnf
   cases h
   conv=>whnf
   exact ⟨rfl, rfl⟩
  ·replace h := cond_f b60 h
   conv=>whnf
   obtain ⟨c62, hc62, h⟩ := bind_some h
   refine ⟨_, (sp_table_Hypothesis t_ o_ c62 (fun _ _ => hc62)), ?_⟩
   conv=>whnf
   refine Side.mk rfl ?_
   conv=>whnf
   obtain ⟨c63, hc63, h⟩ := bind_some h
   refine ⟨_, (sp_R23_Hypothesis t_ o_ c63 (fun _ _ => hc63)), ?_⟩
   conv=>whnf
   refine Side.mk rfl ?_
   conv=>whnf
   obtain ⟨y70, hc, hk65⟩ := bind_some h
   clear h
   have h := hc
   clear hc
   refine Cut.mk (mkSt [(4, .im (nB y70))] [] []) (True) (Holds.true_ _) ?_ (fun hp => ?_)
   ·conv=>whnf
    refine Side.mk rfl ?_
    conv=>whnf
    refine Side.mk rfl ?_
    conv=>whnf
    obtain ⟨c71, hc71, h⟩ := bind_some h
    refine ⟨_, (sp_R22_Same c62.1 c63.1 c71 (fun _ _ => hc71)), ?_⟩
    conv=>whnf
    refine Both.mk ?_ ?_<;>intro b72
    ·replace b72 := beq_tt b72
     replace h := cond_t b72 h
     conv=>whnf
     iterate 2 (refine Both.yes (tt_beq b72) ?_; (conv=>whnf))
     refine Both.yes b72 ?_
     conv=>whnf
     refine Both.mk ?_ ?_<;>intro b73
     ·replace b73 := beq_tt b73
      replace h := cond_t b73 h
      have b73d := odt b73
      conv=>whnf
      obtain ⟨c74, hc74, h⟩ := bind_some h
      refine ⟨_, (sp_L23_awake  c74 (hc74)), ?_⟩
      conv=>whnf
      refine Both.yes b73 ?_
      conv=>whnf
      cases h
      exact Join.mk (Ent.mk [] rfl ⟨eI rfl rfl, trivial⟩ trivial trivial)
     ·replace b73 := beq_tf b73
      replace h := cond_f b73 h
      have b73d := odf b73
      conv=>whnf
      refine Both.no b73 ?_
      conv=>whnf
      cases h
      exact Join.mk (Ent.mk [] rfl ⟨eI rfl rfl, trivial⟩ trivial trivial)
    ·replace b72 := beq_tf b72
     replace h := cond_f b72 h
     conv=>whnf
     iterate 2 (refine Both.no (ft_beq b72) ?_; (conv=>whnf))
     refine Both.no b72 ?_
     conv=>whnf
     iterate 2 (refine Both.no rfl ?_; (conv=>whnf))
     cases h
     exact Join.mk (Ent.mk [] rfl ⟨eI rfl rfl, trivial⟩ trivial trivial)
   ·replace h := hk65
    conv=>whnf
    cases h
    conv=>whnf
    exact ⟨rfl, rfl⟩
end Go.Proofs.YtpmebphhbgpapaaGreatDoor.Sym
