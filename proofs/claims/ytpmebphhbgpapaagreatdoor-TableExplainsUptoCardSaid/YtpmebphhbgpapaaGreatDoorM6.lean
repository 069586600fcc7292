/-
  The contracts of the functions, read from the code by a program (ext.py): each function has its plain twin as its contract.
-/
import Derived.Test.YtpmebphhbgpapaaGreatDoorM5
set_option linter.all false
namespace Go.Proofs.YtpmebphhbgpapaaGreatDoor.Sym
open Go.RowKit
set_option maxRecDepth 100000
set_option linter.unusedVariables false
set_option maxHeartbeats 4000000
theorem sp_R01_Join (parts_ : List (List Int)) (r : List Int) (h : Ok (nL (cL cI) parts_) → R01_Join parts_ = some r) : Sp Tryz.prog 102 [.im (nL (cL cI) parts_)] (.row 3 1 (List.map cI r)) := by
 refine sp_of rfl [] rfl rfl rfl (Nat.le_of_ble_eq_true rfl) rfl fun hk => ?_
 replace h := h hk.1
 have z1 : List.length parts_ ≤ 17592186044416 := ok_len hk.1
 unfold R01_Join at h
 conv=>whnf
 obtain ⟨y66, hc, hk51⟩ := bind_some h
 clear h
 have h := hc
 clear hc
 refine Cut.mk (mkSt [(3, .osl 64 1)] [(64, .row 3 1 (List.map cI y66))] []) (List.length y66 ≤ 17592186044416 ∧ True) ((Holds.kdl 64 rfl).and (Holds.true_ _)) ?_ (fun hp => ?_)
 ·conv=>whnf
  refine Loops.iter (fun (s : List Int × Nat) => R01_Join.s2 parts_ s.1 s.2) (fun (y70, i71) => mkSt [(0, .im (nL (cL cI) parts_)), (3, .osl 64 1), (4, .im (nI (↑i71 : Int)))] [(64, .row 3 1 (List.map cI y70))] []) (fun (y70, i71) => List.length parts_ ≤ 17592186044416 ∧ List.length y70 ≤ 17592186044416 ∧ True) h (Ent.mk [(64, none)] rfl ⟨eI rfl rfl, ⟨.im (.val (.slice none 0 0)), rfl, .made rfl rfl⟩, eI rfl rfl, trivial⟩ ⟨.inr ⟨rfl, rfl, .inl ⟨_, _, rfl, by decide⟩⟩, trivial⟩ trivial) (by rintro ⟨y70, i71⟩; exact ((Holds.avl 0 rfl).and ((Holds.kdl 64 rfl).and (Holds.true_ _)))) ?_
  clear h
  rintro k ⟨y70, i71⟩ o hp h ho75
  replace h : R01_Join.s2 parts_ y70 i71 = some o := h
  unfold R01_Join.s2 at h
  obtain ⟨z79, z80, _⟩ := hp
  conv=>whnf
  refine Nf.mk (List.length parts_) len_map ?_
  conv=>whnf
  refine Both.mk ?_ ?_<;>intro b76
  ·replace h := cond_t b76 h
   have b76d := odt b76
   conv=>whnf
   obtain ⟨e77, he77, h⟩ := idxn_some h
   refine ⟨_, ⟨(by omega), map_at he77, rfl⟩, ?_⟩
   conv=>whnf
   obtain ⟨c78, h⟩ := chk_some h
   refine Side.mk ⟨rfl, map_len (l := e77) (c := cI) fun _ => rfl, show capOk _ 8 by simpa only [List.length_map, List.length_cons, List.length_nil, Nat.zero_add] using c78⟩ ?_
   conv=>whnf
   refine Nf.mk (List.map cI (y70 ++ e77)) (app_map (l := y70) (m := e77) (c := cI)) ?_
   conv=>whnf
   refine Side.mk (by show inR _; unfold inR; omega) ?_
   conv=>whnf
   cases h
   exact Nxt.mk _ ho75 (Ent.mk [(64, some 64)] rfl ⟨eI rfl rfl, ⟨.osl 64 _, rfl, .osl rfl rfl rfl⟩, eI rfl rfl, trivial⟩ ⟨.inl ⟨64, rfl, rfl, trivial⟩, trivial⟩ trivial)
  ·replace h := cond_f b76 h
   have b76d := odf b76
   conv=>whnf
   cases h
   have ho75 : _ = _ := ho75
   cases ho75
   exact Join.mk (Ent.mk [(64, some 64)] rfl ⟨⟨.osl 64 _, rfl, .osl rfl rfl rfl⟩, trivial⟩ ⟨.inl ⟨64, rfl, rfl, trivial⟩, trivial⟩ trivial)
 ·replace h := hk51
  obtain ⟨z81, _⟩ := hp
  conv=>whnf
  cases h
  conv=>whnf
  exact Side.mk ⟨rfl, trivial⟩ ⟨rfl, rfl⟩
theorem sp_R23_Joined (u_ : List Int) (v_ : List Int) (r : List Int) (h : Ok (nL cI u_) → Ok (nL cI v_) → R23_Joined u_ v_ = some r) : Sp Tryz.prog 77 [.im (nL cI u_), .im (nL cI v_)] (.im (nL cI r)) := by
 refine sp_of rfl [] rfl rfl rfl (Nat.le_of_ble_eq_true rfl) rfl fun hk => ?_
 replace h := h hk.1 hk.2.1
 have z1 : List.length u_ ≤ 17592186044416 := ok_len hk.1
 have z2 : List.length v_ ≤ 17592186044416 := ok_len hk.2.1
 unfold R23_Joined at h
 conv=>whnf
 obtain ⟨c51, hc51, h⟩ := bind_some h
 refine ⟨_, (sp_R01_Join [u_, v_] c51 (fun _ => hc51)).im, ?_⟩
 conv=>whnf
 cases h
 conv=>whnf
 exact ⟨rfl, rfl⟩
theorem sp_R01_HasPrefix (w_ : List Int) (p_ : List Int) (r : Bool) (h : Ok (nL cI w_) → Ok (nL cI p_) → R01_HasPrefix w_ p_ = some r) : Sp Tryz.prog 114 [.im (nL cI w_), .im (nL cI p_)] (.im (nB r)) := by
 refine sp_of rfl [] rfl rfl rfl (Nat.le_of_ble_eq_true rfl) rfl fun hk => ?_
 replace h := h hk.1 hk.2.1
 have z1 : List.length w_ ≤ 17592186044416 := ok_len hk.1
 have z2 : List.length p_ ≤ 17592186044416 := ok_len hk.2.1
 unfold R01_HasPrefix at h
 conv=>whnf
 obtain ⟨c51, hc51, h⟩ := bind_some h
 refine ⟨_, (sp_R01_Common w_ p_ c51 (fun _ _ => hc51)), ?_⟩
 conv=>whnf
 refine Nf.mk (List.length p_) len_map ?_
 conv=>whnf
 cases h
 conv=>whnf
 exact ⟨rfl, rfl⟩
theorem sp_R16_Answer (o_ : T_api_Obs) (w_ : List Int) (r : List Int × Bool) (h : Ok (.agg (c_api_Obs o_)) → Ok (nL cI w_) → R16_Answer o_ w_ = some r) : Sp Tryz.prog 78 [.im (.agg (c_api_Obs o_)), .im (nL cI w_)] (.tup [nL cI r.1, nB r.2]) := by
 refine sp_of rfl [700002] rfl rfl rfl (Nat.le_of_ble_eq_true rfl) rfl fun hk => ?_
 replace h := h hk.1 hk.2.1
 have z1 : List.length o_.Traces ≤ 17592186044416 := ok_len (Ok.agg_at hk.1 1 rfl)
 have z2 : List.length w_ ≤ 17592186044416 := ok_len hk.2.1
 unfold R16_Answer at h
 conv=>whnf
 refine Nf.mk (List.length w_) len_map ?_
 conv=>whnf
 refine Both.mk ?_ ?_<;>intro b51
 ·replace h := cond_t b51 h
  have b51d := odt b51
  conv=>whnf
  cases h
  conv=>whnf
  exact ⟨rfl, rfl⟩
 ·replace h := cond_f b51 h
  have b51d := odf b51
  conv=>whnf
  obtain ⟨oc, hc, hk52⟩ := bind_some h
  clear h
  have h := hc
  clear hc
  refine Cut.mkS oc (Y := Unit) (fun (_ : Unit) => mkSt [] [] []) (fun (_ : Unit) => True) (by rintro ⟨⟩; exact (Holds.true_ _)) ?_ ?_
  ·conv=>whnf
   refine Loops.iter (fun (s : Nat) => R16_Answer.s2 o_ w_ s) (fun i84 => mkSt [(1, .im (nL cI w_)), (2, .im (.ref (c_api_Obs o_))), (6, .im (nI (↑i84 : Int)))] [] []) (fun i84 => List.length w_ ≤ 17592186044416 ∧ True) h (Ent.mk [] rfl ⟨eI rfl rfl, eI rfl rfl, eI rfl rfl, trivial⟩ trivial trivial) (by rintro i84; exact ((Holds.avl 1 rfl).and (Holds.true_ _))) ?_
   clear h
   rintro k i84 o hp h ho92
   replace h : R16_Answer.s2 o_ w_ i84 = some o := h
   unfold R16_Answer.s2 at h
   obtain ⟨z100, _⟩ := hp
   conv=>whnf
   refine Nf.mk (List.length o_.Traces) len_map ?_
   conv=>whnf
   refine Both.mk ?_ ?_<;>intro b93
   ·replace h := cond_t b93 h
    have b93d := odt b93
    conv=>whnf
    obtain ⟨e94, he94, h⟩ := idxn_some h
    refine ⟨_, ⟨(by omega), map_at he94, rfl⟩, ?_⟩
    conv=>whnf
    obtain ⟨c95, hc95, h⟩ := bind_some h
    refine ⟨_, (sp_R01_HasPrefix e94.In w_ c95 (fun _ _ => hc95)), ?_⟩
    conv=>whnf
    refine Both.mk ?_ ?_<;>intro b96
    ·replace h := cond_t b96 h
     conv=>whnf
     obtain ⟨e97, he97, h⟩ := idxn_some h
     refine ⟨_, ⟨(by omega), map_at he97, rfl⟩, ?_⟩
     conv=>whnf
     refine Nf.mk (List.length w_) len_map ?_
     conv=>whnf
     obtain ⟨c98, h⟩ := chk_some h
     refine Side.mk (show (0 : Int) ≤ (0 : Int) ∧ (0 : Int) ≤ (↑(List.length w_) : Int) ∧ (↑(List.length w_) : Int) ≤ (↑(List.length (List.map cI e97.Out)) : Int) ∧ (∀ e ∈ List.map cI e97.Out, List.length e = 1) from ⟨by omega, by first | omega | (simp only [List.length_map]; omega), by first | omega | (simp only [List.length_map]; omega), map_len fun _ => rfl⟩) ?_
     conv=>whnf
     refine Nf.mk (List.map cI (List.take (List.length w_) e97.Out)) take_map ?_
     conv=>whnf
     obtain ⟨c99, hc99, h⟩ := bind_some h
     refine ⟨_, (sp_R01_Join [(List.take (List.length w_) e97.Out)] c99 (fun _ => hc99)).im, ?_⟩
     conv=>whnf
     cases h
     have ho92 : _ = _ := ho92
     cases ho92
     replace h : some _ = some _ := hk52
     cases h
     conv=>whnf
     exact ⟨rfl, rfl⟩
    ·replace h := cond_f b96 h
     conv=>whnf
     refine Side.mk (by show inR _; unfold inR; omega) ?_
     conv=>whnf
     cases h
     exact Nxt.mk _ ho92 (Ent.mk [] rfl ⟨eI rfl rfl, eI rfl rfl, eI rfl rfl, trivial⟩ trivial trivial)
   ·replace h := cond_f b93 h
    have b93d := odf b93
    conv=>whnf
    cases h
    have ho92 : _ = _ := ho92
    cases ho92
    exact JoinS.mk' _ rfl (Ent.mk [] rfl trivial trivial trivial)
  ·rintro ⟨⟩ rfl hp
   replace h := sum_inl hk52
   conv=>whnf
   cases h
   conv=>whnf
   exact ⟨rfl, rfl⟩
theorem sp_L23_Long (l_ : List (List Int)) (most_ : Int) (r : Bool) (h : Ok (nL (cL cI) l_) → Ok (nI most_) → L23_Long l_ most_ = some r) : Sp Tryz.prog 63 [.im (nL (cL cI) l_), .im (nI most_)] (.im (nB r)) := by
 refine sp_of rfl [] rfl rfl rfl (Nat.le_of_ble_eq_true rfl) rfl fun hk => ?_
 replace h := h hk.1 hk.2.1
 have z1 : List.length l_ ≤ 17592186044416 := ok_len hk.1
 unfold L23_Long at h
 conv=>whnf
 refine Nf.mk (List.length l_) len_map ?_
 conv=>whnf
 refine Both.mk ?_ ?_<;>intro b51
 ·replace h := cond_t b51 h
  have b51d := odt b51
  conv=>whnf
  cases h
  conv=>whnf
  exact ⟨rfl, rfl⟩
 ·replace h := cond_f b51 h
  have b51d := odf b51
  conv=>whnf
  obtain ⟨oc, hc, hk52⟩ := bind_some h
  clear h
  have h := hc
  clear hc
  refine Cut.mkS oc (Y := Unit) (fun (_ : Unit) => mkSt [] [] []) (fun (_ : Unit) => True) (by rintro ⟨⟩; exact (Holds.true_ _)) ?_ ?_
  ·conv=>whnf
   refine Loops.iter (fun (s : Nat) => L23_Long.s2 l_ s) (fun i68 => mkSt [(0, .im (nL (cL cI) l_)), (5, .im (nI (↑i68 : Int)))] [] []) (fun i68 => List.length l_ ≤ 17592186044416 ∧ True) h (Ent.mk [] rfl ⟨eI rfl rfl, eI rfl rfl, trivial⟩ trivial trivial) (by rintro i68; exact ((Holds.avl 0 rfl).and (Holds.true_ _))) ?_
   clear h
   rintro k i68 o hp h ho72
   replace h : L23_Long.s2 l_ i68 = some o := h
   unfold L23_Long.s2 at h
   obtain ⟨z76, _⟩ := hp
   conv=>whnf
   refine Nf.mk (List.length l_) len_map ?_
   conv=>whnf
   refine Both.mk ?_ ?_<;>intro b73
   ·replace h := cond_t b73 h
    have b73d := odt b73
    conv=>whnf
    obtain ⟨e74, he74, h⟩ := idxn_some h
    refine ⟨_, ⟨(by omega), map_at he74, rfl⟩, ?_⟩
    conv=>whnf
    refine Nf.mk (List.length e74) len_map ?_
    conv=>whnf
    refine Both.mk ?_ ?_<;>intro b75
    ·replace h := cond_t b75 h
     have b75d := odt b75
     conv=>whnf
     cases h
     have ho72 : _ = _ := ho72
     cases ho72
     replace h : some _ = some _ := hk52
     cases h
     conv=>whnf
     exact ⟨rfl, rfl⟩
    ·replace h := cond_f b75 h
     have b75d := odf b75
     conv=>whnf
     refine Side.mk (by show inR _; unfold inR; omega) ?_
     conv=>whnf
     cases h
     exact Nxt.mk _ ho72 (Ent.mk [] rfl ⟨eI rfl rfl, eI rfl rfl, trivial⟩ trivial trivial)
   ·replace h := cond_f b73 h
    have b73d := odf b73
    conv=>whnf
    cases h
    have ho72 : _ = _ := ho72
    cases ho72
    exact JoinS.mk' _ rfl (Ent.mk [] rfl trivial trivial trivial)
  ·rintro ⟨⟩ rfl hp
   replace h := sum_inl hk52
   conv=>whnf
   cases h
   conv=>whnf
   exact ⟨rfl, rfl⟩
theorem sp_L23_Great (t_ : T_api_Table) (o_ : T_api_Obs) (r : Bool) (h : Ok (.agg (c_api_Table t_)) → Ok (.agg (c_api_Obs o_)) → L23_Great t_ o_ = some r) : Sp Tryz.prog 20 [.im (.agg (c_api_Table t_)), .im (.agg (c_api_Obs o_))] (.im (nB r)) := by
 refine sp_of rfl [700002, 700003] rfl rfl rfl (Nat.le_of_ble_eq_true rfl) rfl fun hk => ?_
 replace h := h hk.1 hk.2.1
 have z1 : List.length t_.Prefixes ≤ 17592186044416 := ok_len (Ok.agg_at hk.1 1 rfl)
 have z2 : List.length t_.Suffixes ≤ 17592186044416 := ok_len (Ok.agg_at hk.1 2 rfl)
 have z3 : List.length o_.Traces ≤ 17592186044416 := ok_len (Ok.agg_at hk.2.1 1 rfl)
 unfold L23_Great at h
 conv=>whnf
 obtain ⟨y58, hc, hk52⟩ := bind_some h
 clear h
 have h := hc
 clear hc
 refine Cut.mk (mkSt [(3, .im (.ref (c_api_Obs o_))), (24, .im (nB y58))] [] []) (True) (Holds.true_ _) ?_ (fun hp => ?_)
 ·conv=>whnf
  refine Both.mk ?_ ?_<;>intro b59
  ·replace b59 := beq_ff b59
   replace h := cond_f b59 h
   have b59d := odf b59
   conv=>whnf
   iterate 2 (refine Both.yes (ff_beq b59) ?_; (conv=>whnf))
   obtain ⟨c60, hc60, h⟩ := bind_some h
   refine ⟨_, (sp_L23_Long t_.Prefixes 30 c60 (fun _ _ => hc60)), ?_⟩
   conv=>whnf
   refine Both.no b59 ?_
   conv=>whnf
   refine Both.mk ?_ ?_<;>intro b61
   ·replace b61 := beq_ff b61
    replace h := cond_f b61 h
    conv=>whnf
    iterate 2 (refine Both.yes (ff_beq b61) ?_; (conv=>whnf))
    obtain ⟨c62, hc62, h⟩ := bind_some h
    refine ⟨_, (sp_L23_Long t_.Suffixes 12 c62 (fun _ _ => hc62)), ?_⟩
    conv=>whnf
    refine Both.no b61 ?_
    conv=>whnf
    refine Both.mk ?_ ?_<;>intro b63
    ·replace b63 := beq_ff b63
     replace h := cond_f b63 h
     conv=>whnf
     iterate 2 (refine Both.yes (ff_beq b63) ?_; (conv=>whnf))
     refine Nf.mk (List.length o_.Traces) len_map ?_
     conv=>whnf
     refine Both.yes (ff_beq b63) ?_
     conv=>whnf
     refine Both.no b63 ?_
     conv=>whnf
     cases h
     exact Join.mk (Ent.mk [] rfl ⟨eI rfl rfl, eI rfl rfl, trivial⟩ trivial trivial)
    ·replace b63 := beq_ft b63
     replace h := cond_t b63 h
     conv=>whnf
     iterate 3 (refine Both.no (tf_beq b63) ?_; (conv=>whnf))
     refine Both.yes b63 ?_
     conv=>whnf
     cases h
     exact Join.mk (Ent.mk [] rfl ⟨eI rfl rfl, eI rfl rfl, trivial⟩ trivial trivial)
   ·replace b61 := beq_ft b61
    replace h := cond_t b61 h
    conv=>whnf
    iterate 2 (refine Both.no (tf_beq b61) ?_; (conv=>whnf))
    refine Both.yes b61 ?_
    conv=>whnf
    iterate 4 (refine Both.no rfl ?_; (conv=>whnf))
    refine Both.yes rfl ?_
    conv=>whnf
    cases h
    exact Join.mk (Ent.mk [] rfl ⟨eI rfl rfl, eI rfl rfl, trivial⟩ trivial trivial)
  ·replace b59 := beq_ft b59
   replace h := cond_t b59 h
   have b59d := odt b59
   conv=>whnf
   iterate 2 (refine Both.no (tf_beq b59) ?_; (conv=>whnf))
   refine Both.yes b59 ?_
   conv=>whnf
   iterate 3 (refine Both.no rfl ?_; (conv=>whnf))
   refine Both.yes rfl ?_
   conv=>whnf
   iterate 4 (refine Both.no rfl ?_; (conv=>whnf))
   refine Both.yes rfl ?_
   conv=>whnf
   cases h
   exact Join.mk (Ent.mk [] rfl ⟨eI rfl rfl, eI rfl rfl, trivial⟩ trivial trivial)
 ·replace h := hk52
  conv=>whnf
  refine Both.mk ?_ ?_<;>intro b64
  ·replace h := cond_t b64 h
   conv=>whnf
   cases h
   conv=>whnf
   exact ⟨rfl, rfl⟩
  ·replace h := cond_f b64 h
   conv=>whnf
   obtain ⟨oc, hc, hk65⟩ := bind_some h
   clear h
   have h := hc
   clear hc
   refine Cut.mkS oc (Y := Unit) (fun (_ : Unit) => mkSt [] [] []) (fun (_ : Unit) => True) (by rintro ⟨⟩; exact (Holds.true_ _)) ?_ ?_
   ·conv=>whnf
    refine Loops.iter (fun (s : Nat) => L23_Great.s2 o_ s) (fun i80 => mkSt [(3, .im (.ref (c_api_Obs o_))), (5, .im (nI (↑i80 : Int)))] [] []) (fun i80 => True) h (Ent.mk [] rfl ⟨eI rfl rfl, eI rfl rfl, trivial⟩ trivial trivial) (by rintro i80; exact (Holds.true_ _)) ?_
    clear h
    rintro k i80 o hp h ho84
    replace h : L23_Great.s2 o_ i80 = some o := h
    unfold L23_Great.s2 at h
    conv=>whnf
    refine Nf.mk (List.length o_.Traces) len_map ?_
    conv=>whnf
    refine Both.mk ?_ ?_<;>intro b85
    ·replace h := cond_t b85 h
     have b85d := odt b85
     conv=>whnf
     obtain ⟨e86, he86, h⟩ := idxn_some h
     refine ⟨_, ⟨(by omega), map_at he86, rfl⟩, ?_⟩
     conv=>whnf
     refine Nf.mk (List.length e86.In) len_map ?_
     conv=>whnf
     refine Both.mk ?_ ?_<;>intro b87
     ·replace h := cond_t b87 h
      have b87d := odt b87
      conv=>whnf
      cases h
      have ho84 : _ = _ := ho84
      cases ho84
      replace h : some _ = some _ := hk65
      cases h
      conv=>whnf
      exact ⟨rfl, rfl⟩
     ·replace h := cond_f b87 h
      have b87d := odf b87
      conv=>whnf
      refine Side.mk (by show inR _; unfold inR; omega) ?_
      conv=>whnf
      cases h
      exact Nxt.mk _ ho84 (Ent.mk [] rfl ⟨eI rfl rfl, eI rfl rfl, trivial⟩ trivial trivial)
    ·replace h := cond_f b85 h
     have b85d := odf b85
     conv=>whnf
     cases h
     have ho84 : _ = _ := ho84
     cases ho84
     exact JoinS.mk' _ rfl (Ent.mk [] rfl trivial trivial trivial)
   ·rintro ⟨⟩ rfl hp
    replace h := sum_inl hk65
    conv=>whnf
    cases h
    conv=>whnf
    exact ⟨rfl, rfl⟩
theorem sp_R16_Proper (t_ : T_api_Trace) (inputs_ : Int) (r : Int) (h : Ok (.agg (c_api_Trace t_)) → Ok (nI inputs_) → R16_Proper t_ inputs_ = some r) : Sp Tryz.prog 65 [.im (.agg (c_api_Trace t_)), .im (nI inputs_)] (.im (nI r)) := by
 refine sp_of rfl [700002] rfl rfl rfl (Nat.le_of_ble_eq_true rfl) rfl fun hk => ?_
 replace h := h hk.1 hk.2.1
 have z1 : List.length t_.In ≤ 17592186044416 := ok_len (Ok.agg_at hk.1 0 rfl)
 have z2 : List.length t_.Out ≤ 17592186044416 := ok_len (Ok.agg_at hk.1 1 rfl)
 unfold R16_Proper at h
 conv=>whnf
 obtain ⟨c51, hc51, h⟩ := bind_some h
 refine ⟨_, (sp_R01_Check t_.In inputs_ c51 (fun _ _ => hc51)), ?_⟩
 conv=>whnf
 refine Both.mk ?_ ?_<;>intro b52
 ·replace h := cond_t b52 h
  have b52d := odt b52
  conv=>whnf
  cases h
  conv=>whnf
  exact ⟨rfl, rfl⟩
 ·replace h := cond_f b52 h
  have b52d := odf b52
  conv=>whnf
  refine Nf.mk (List.length t_.Out) len_map ?_
  conv=>whnf
  refine Nf.mk (List.length t_.In) len_map ?_
  conv=>whnf
  refine Both.mk ?_ ?_<;>intro b53
  ·replace h := cond_t b53 h
   have b53d := odt b53
   conv=>whnf
   cases h
   conv=>whnf
   exact ⟨rfl, rfl⟩
  ·replace h := cond_f b53 h
   have b53d := odf b53
   conv=>whnf
   obtain ⟨oc, hc, hk54⟩ := bind_some h
   clear h
   have h := hc
   clear hc
   refine Cut.mkS oc (Y := Unit) (fun (_ : Unit) => mkSt [] [] []) (fun (_ : Unit) => True) (by rintro ⟨⟩; exact (Holds.true_ _)) ?_ ?_
   ·conv=>whnf
    refine Loops.iter (fun (s : Nat) => R16_Proper.s2 t_ s) (fun i101 => mkSt [(2, .im (.ref (c_api_Trace t_))), (6, .im (nI (↑i101 : Int)))] [] []) (fun i101 => True) h (Ent.mk [] rfl ⟨eI rfl rfl, eI rfl rfl, trivial⟩ trivial trivial) (by rintro i101; exact (Holds.true_ _)) ?_
    clear h
    rintro k i101 o hp h ho113
    replace h : R16_Proper.s2 t_ i101 = some o := h
    unfold R16_Proper.s2 at h
    conv=>whnf
    refine Nf.mk (List.length t_.Out) len_map ?_
    conv=>whnf
    refine Both.mk ?_ ?_<;>intro b114
    ·replace h := cond_t b114 h
     have b114d := odt b114
     conv=>whnf
     obtain ⟨y120, hc, hk116⟩ := bind_some h
     clear h
     have h := hc
     clear hc
     refine Cut.mk (mkSt [(2, .im (.ref (c_api_Trace t_))), (6, .im (nI (↑i101 : Int))), (41, .im (nB y120))] [] []) (True) (Holds.true_ _) ?_ (fun hp => ?_)
     ·conv=>whnf
      obtain ⟨e121, he121, h⟩ := idxn_some h
      refine ⟨_, ⟨(by omega), map_at he121, rfl⟩, ?_⟩
      conv=>whnf
      refine Both.mk ?_ ?_<;>intro b122
      ·replace b122 := beq_ff b122
       replace h := cond_f b122 h
       have b122d := odf b122
       conv=>whnf
       iterate 3 (refine Both.yes (ff_beq b122) ?_; (conv=>whnf))
       obtain ⟨e123, he123, h⟩ := idxn_some h
       refine ⟨_, ⟨(by omega), map_at he123, rfl⟩, ?_⟩
       conv=>whnf
       iterate 2 (refine Both.yes (ff_beq b122) ?_; (conv=>whnf))
       refine Both.no b122 ?_
       conv=>whnf
       cases h
       exact Join.mk (Ent.mk [] rfl ⟨eI rfl rfl, eI rfl rfl, eI rfl rfl, trivial⟩ trivial trivial)
      ·replace b122 := beq_ft b122
       replace h := cond_t b122 h
       have b122d := odt b122
       conv=>whnf
       iterate 5 (refine Both.no (tf_beq b122) ?_; (conv=>whnf))
       refine Both.yes b122 ?_
       conv=>whnf
       cases h
       exact Join.mk (Ent.mk [] rfl ⟨eI rfl rfl, eI rfl rfl, eI rfl rfl, trivial⟩ trivial trivial)
     ·replace h := hk116
      conv=>whnf
      refine Both.mk ?_ ?_<;>intro b124
      ·replace h := cond_t b124 h
       conv=>whnf
       cases h
       have ho113 : _ = _ := ho113
       cases ho113
       replace h : some _ = some _ := hk54
       cases h
       conv=>whnf
       exact ⟨rfl, rfl⟩
      ·replace h := cond_f b124 h
       conv=>whnf
       refine Side.mk (by show inR _; unfold inR; omega) ?_
       conv=>whnf
       cases h
       exact Nxt.mk _ ho113 (Ent.mk [] rfl ⟨eI rfl rfl, eI rfl rfl, trivial⟩ trivial trivial)
    ·replace h := cond_f b114 h
     have b114d := odf b114
     conv=>whnf
     cases h
     have ho113 : _ = _ := ho113
     cases ho113
     exact JoinS.mk' _ rfl (Ent.mk [] rfl trivial trivial trivial)
   ·rintro ⟨⟩ rfl hp
    replace h := sum_inl hk54
    conv=>whnf
    cases h
    conv=>whnf
    exact ⟨rfl, rfl⟩
theorem sp_R16_Differ (a_ : T_api_Trace) (b_ : T_api_Trace) (r : Int) (h : Ok (.agg (c_api_Trace a_)) → Ok (.agg (c_api_Trace b_)) → R16_Differ a_ b_ = some r) : Sp Tryz.prog 115 [.im (.agg (c_api_Trace a_)), .im (.agg (c_api_Trace b_))] (.im (nI r)) := by
 refine sp_of rfl [700002, 700003] rfl rfl rfl (Nat.le_of_ble_eq_true rfl) rfl fun hk => ?_
 replace h := h hk.1 hk.2.1
 have z1 : List.length a_.In ≤ 17592186044416 := ok_len (Ok.agg_at hk.1 0 rfl)
 have z2 : List.length a_.Out ≤ 17592186044416 := ok_len (Ok.agg_at hk.1 1 rfl)
 have z3 : List.length b_.In ≤ 17592186044416 := ok_len (Ok.agg_at hk.2.1 0 rfl)
 have z4 : List.length b_.Out ≤ 17592186044416 := ok_len (Ok.agg_at hk.2.1 1 rfl)
 unfold R16_Differ at h
 conv=>whnf
 obtain ⟨c51, hc51, h⟩ := bind_some h
 refine ⟨_, (sp_R01_Common a_.In b_.In c51 (fun _ _ => hc51)), ?_⟩
 conv=>whnf
 obtain ⟨oc, hc, hk52⟩ := bind_some h
 clear h
 have h := hc
 clear hc
 refine Cut.mkS oc (Y := Unit) (fun (_ : Unit) => mkSt [] [] []) (fun (_ : Unit) => True) (by rintro ⟨⟩; exact (Holds.true_ _)) ?_ ?_
 ·conv=>whnf
  refine Loops.iter (fun (s : Nat) => R16_Differ.s2 a_ b_ c51 s) (fun i73 => mkSt [(2, .im (.ref (c_api_Trace a_))), (3, .im (.ref (c_api_Trace b_))), (5, .im (nI c51)), (6, .im (nI (↑i73 : Int)))] [] []) (fun i73 => True) h (Ent.mk [] rfl ⟨eI rfl rfl, eI rfl rfl, eI rfl rfl, eI rfl rfl, trivial⟩ trivial trivial) (by rintro i73; exact (Holds.true_ _)) ?_
  clear h
  rintro k i73 o hp h ho79
  replace h : R16_Differ.s2 a_ b_ c51 i73 = some o := h
  unfold R16_Differ.s2 at h
  conv=>whnf
  refine Both.mk ?_ ?_<;>intro b80
  ·replace h := cond_t b80 h
   have b80d := odt b80
   conv=>whnf
   obtain ⟨e81, he81, h⟩ := idxn_some h
   refine ⟨_, ⟨(by omega), map_at he81, rfl⟩, ?_⟩
   conv=>whnf
   obtain ⟨e82, he82, h⟩ := idxn_some h
   refine ⟨_, ⟨(by omega), map_at he82, rfl⟩, ?_⟩
   conv=>whnf
   refine Both.mk ?_ ?_<;>intro b83
   ·replace h := cond_t b83 h
    have b83d := odt b83
    conv=>whnf
    cases h
    have ho79 : _ = _ := ho79
    cases ho79
    replace h : some _ = some _ := hk52
    cases h
    conv=>whnf
    exact ⟨rfl, rfl⟩
   ·replace h := cond_f b83 h
    have b83d := odf b83
    conv=>whnf
    obtain ⟨c84, h⟩ := chk_some h
    refine Side.mk c84 ?_
    conv=>whnf
    cases h
    exact Nxt.mk _ ho79 (Ent.mk [] rfl ⟨eI rfl rfl, eI rfl rfl, eI rfl rfl, eI rfl rfl, trivial⟩ trivial trivial)
  ·replace h := cond_f b80 h
   have b80d := odf b80
   conv=>whnf
   cases h
   have ho79 : _ = _ := ho79
   cases ho79
   exact JoinS.mk' _ rfl (Ent.mk [] rfl trivial trivial trivial)
 ·rintro ⟨⟩ rfl hp
  replace h := sum_inl hk52
  conv=>whnf
  cases h
  conv=>whnf
  exact ⟨rfl, rfl⟩
theorem sp_R16_apart (o_ : T_api_Obs) (r : Int) (h : Ok (.agg (c_api_Obs o_)) → R16_apart o_ = some r) : Sp Tryz.prog 67 [.im (.agg (c_api_Obs o_))] (.im (nI r)) := by
 refine sp_of rfl [700001] rfl rfl rfl (Nat.le_of_ble_eq_true rfl) rfl fun hk => ?_
 replace h := h hk.1
 have z1 : List.length o_.Traces ≤ 17592186044416 := ok_len (Ok.agg_at hk.1 1 rfl)
 unfold R16_apart at h
 conv=>whnf
 obtain ⟨oc, hc, hk51⟩ := bind_some h
 clear h
 have h := hc
 clear hc
 refine Cut.mkS oc (Y := Unit) (fun (_ : Unit) => mkSt [] [] []) (fun (_ : Unit) => True) (by rintro ⟨⟩; exact (Holds.true_ _)) ?_ ?_
 ·conv=>whnf
  refine Loops.iter (fun (s : Nat) => R16_apart.s32 o_ s) (fun i518 => mkSt [(1, .im (.ref (c_api_Obs o_))), (3, .im (nI (↑i518 : Int)))] [] []) (fun i518 => True) h (Ent.mk [] rfl ⟨eI rfl rfl, eI rfl rfl, trivial⟩ trivial trivial) (by rintro i518; exact (Holds.true_ _)) ?_
  clear h
  rintro k i518 o hp h ho635
  replace h : R16_apart.s32 o_ i518 = some o := h
  unfold R16_apart.s32 at h
  conv=>whnf
  refine Nf.mk (List.length o_.Traces) len_map ?_
  conv=>whnf
  refine Both.mk ?_ ?_<;>intro b636
  ·replace h := cond_t b636 h
   have b636d := odt b636
   conv=>whnf
   refine Side.mk (by show inR _; unfold inR; omega) ?_
   conv=>whnf
   obtain ⟨⟨prefix693, clash694⟩, hc, hk637⟩ := bind_some h
   clear h
   have h := hc
   clear hc
   refine Cut.mk (mkSt [(1, .im (.ref (c_api_Obs o_))), (3, .im (nI (↑i518 : Int))), (4, .im (nB prefix693)), (5, .im (nB clash694))] [] []) (True) (Holds.true_ _) ?_ (fun hp => ?_)
   ·conv=>whnf
    refine Loops.iter (fun (s : Bool × Bool × Nat) => R16_apart.s30 o_ i518 s.1 s.2.1 s.2.2) (fun (prefix714, clash715, k716) => mkSt [(1, .im (.ref (c_api_Obs o_))), (3, .im (nI (↑i518 : Int))), (4, .im (nB prefix714)), (5, .im (nB clash715)), (6, .im (nI (↑k716 : Int)))] [] []) (fun (prefix714, clash715, k716) => True) h (Ent.mk [] rfl ⟨eI rfl rfl, eI rfl rfl, eI rfl rfl, eI rfl rfl, eI rfl rfl, trivial⟩ trivial trivial) (by rintro ⟨prefix714, clash715, k716⟩; exact (Holds.true_ _)) ?_
    clear h
    rintro k ⟨prefix714, clash715, k716⟩ o hp h ho733
    replace h : R16_apart.s30 o_ i518 prefix714 clash715 k716 = some o := h
    unfold R16_apart.s30 at h
    conv=>whnf
    refine Nf.mk (List.length o_.Traces) len_map ?_
    conv=>whnf
    refine Both.mk ?_ ?_<;>intro b734
    ·replace h := cond_t b734 h
     have b734d := odt b734
     conv=>whnf
     obtain ⟨prefix741, hc, hk736⟩ := bind_some h
     clear h
     have h := hc
     clear hc
     refine Cut.mk (mkSt [(1, .im (.ref (c_api_Obs o_))), (3, .im (nI (↑i518 : Int))), (4, .im (nB prefix741)), (5, .im (nB clash715)), (6, .im (nI (↑k716 : Int)))] [] []) (True) (Holds.true_ _) ?_ (fun hp => ?_)
     ·conv=>whnf
      refine Both.mk ?_ ?_<;>intro b742
      ·replace b742 := beq_ff b742
       replace h := cond_f b742 h
       conv=>whnf
       iterate 3 (refine Both.yes (ff_beq b742) ?_; (conv=>whnf))
       obtain ⟨e743, he743, h⟩ := idxn_some h
       refine ⟨_, ⟨(by omega), map_at he743, rfl⟩, ?_⟩
       conv=>whnf
       iterate 6 (refine Both.yes (ff_beq b742) ?_; (conv=>whnf))
       obtain ⟨e744, he744, h⟩ := idxn_some h
       refine ⟨_, ⟨(by omega), map_at he744, rfl⟩, ?_⟩
       conv=>whnf
       iterate 3 (refine Both.yes (ff_beq b742) ?_; (conv=>whnf))
       obtain ⟨c745, hc745, h⟩ := bind_some h
       refine ⟨_, (sp_R01_HasPrefix e743.In e744.In c745 (fun _ _ => hc745)), ?_⟩
       conv=>whnf
       refine Both.no b742 ?_
       conv=>whnf
       cases h
       exact Join.mk (Ent.mk [] rfl ⟨eI rfl rfl, eI rfl rfl, eI rfl rfl, eI rfl rfl, eI rfl rfl, trivial⟩ trivial trivial)
      ·replace b742 := beq_ft b742
       replace h := cond_t b742 h
       conv=>whnf
       iterate 12 (refine Both.no (tf_beq b742) ?_; (conv=>whnf))
       refine Both.yes b742 ?_
       conv=>whnf
       cases h
       exact Join.mk (Ent.mk [] rfl ⟨eI rfl rfl, eI rfl rfl, eI rfl rfl, eI rfl rfl, eI rfl rfl, trivial⟩ trivial trivial)
     ·replace h := hk736
      conv=>whnf
      refine Both.mk ?_ ?_<;>intro b746
      ·replace b746 := beq_ff b746
       replace h := cond_f b746 h
       conv=>whnf
       iterate 3 (refine Both.yes (ff_beq b746) ?_; (conv=>whnf))
       obtain ⟨e747, he747, h⟩ := idxn_some h
       refine ⟨_, ⟨(by omega), map_at he747, rfl⟩, ?_⟩
       conv=>whnf
       iterate 5 (refine Both.yes (ff_beq b746) ?_; (conv=>whnf))
       obtain ⟨e748, he748, h⟩ := idxn_some h
       refine ⟨_, ⟨(by omega), map_at he748, rfl⟩, ?_⟩
       conv=>whnf
       iterate 2 (refine Both.yes (ff_beq b746) ?_; (conv=>whnf))
       obtain ⟨c749, hc749, h⟩ := bind_some h
       refine ⟨_, (sp_R16_Differ e747 e748 c749 (fun _ _ => hc749)), ?_⟩
       conv=>whnf
       refine Both.yes (ff_beq b746) ?_
       conv=>whnf
       refine Both.no b746 ?_
       conv=>whnf
       refine Side.mk (by show inR _; unfold inR; omega) ?_
       conv=>whnf
       cases h
       exact Nxt.mk _ ho733 (Ent.mk [] rfl ⟨eI rfl rfl, eI rfl rfl, eI rfl rfl, eI rfl rfl, eI rfl rfl, trivial⟩ trivial trivial)
      ·replace b746 := beq_ft b746
       replace h := cond_t b746 h
       conv=>whnf
       iterate 11 (refine Both.no (tf_beq b746) ?_; (conv=>whnf))
       refine Both.yes b746 ?_
       conv=>whnf
       refine Side.mk (by show inR _; unfold inR; omega) ?_
       conv=>whnf
       cases h
       exact Nxt.mk _ ho733 (Ent.mk [] rfl ⟨eI rfl rfl, eI rfl rfl, eI rfl rfl, eI rfl rfl, eI rfl rfl, trivial⟩ trivial trivial)
    ·replace h := cond_f b734 h
     have b734d := odf b734
     conv=>whnf
     cases h
     have ho733 : _ = _ := ho733
     cases ho733
     exact Join.mk (Ent.mk [] rfl ⟨eI rfl rfl, eI rfl rfl, eI rfl rfl, eI rfl rfl, trivial⟩ trivial trivial)
   ·replace h : R16_apart.k31 i518 prefix693 clash694 = some _ := hk637
    unfold R16_apart.k31 at h
    conv=>whnf
    refine Both.mk ?_ ?_<;>intro b750
    ·replace h := cond_t b750 h
     conv=>whnf
     cases h
     have ho635 : _ = _ := ho635
     cases ho635
     replace h : some _ = some _ := hk51
     cases h
     conv=>whnf
     exact ⟨rfl, rfl⟩
    ·replace h := cond_f b750 h
     conv=>whnf
     refine Both.mk ?_ ?_<;>intro b751
     ·replace h := cond_t b751 h
      conv=>whnf
      cases h
      have ho635 : _ = _ := ho635
      cases ho635
      replace h : some _ = some _ := hk51
      cases h
      conv=>whnf
      exact ⟨rfl, rfl⟩
     ·replace h := cond_f b751 h
      conv=>whnf
      refine Side.mk (by show inR _; unfold inR; omega) ?_
      conv=>whnf
      cases h
      exact Nxt.mk _ ho635 (Ent.mk [] rfl ⟨eI rfl rfl, eI rfl rfl, trivial⟩ trivial trivial)
  ·replace h := cond_f b636 h
   have b636d := odf b636
   conv=>whnf
   cases h
   have ho635 : _ = _ := ho635
   cases ho635
   exact JoinS.mk' _ rfl (Ent.mk [] rfl trivial trivial trivial)
 ·rintro ⟨⟩ rfl hp
  replace h := sum_inl hk51
  conv=>whnf
  cases h
  conv=>whnf
  exact ⟨rfl, rfl⟩
theorem sp_R16_Valid (o_ : T_api_Obs) (r : Int) (h : Ok (.agg (c_api_Obs o_)) → R16_Valid o_ = some r) : Sp Tryz.prog 21 [.im (.agg (c_api_Obs o_))] (.im (nI r)) := by
 refine sp_of rfl [700001] rfl rfl rfl (Nat.le_of_ble_eq_true rfl) rfl fun hk => ?_
 replace h := h hk.1
 have z1 : List.length o_.Traces ≤ 17592186044416 := ok_len (Ok.agg_at hk.1 1 rfl)
 unfold R16_Valid at h
 conv=>whnf
 obtain ⟨y54, hc, hk52⟩ := bind_some h
 clear h
 have h := hc
 clear hc
 refine Cut.mk (mkSt [(1, .im (.ref (c_api_Obs o_))), (14, .im (nB y54))] [] []) (True) (Holds.true_ _) ?_ (fun hp => ?_)
 ·conv=>whnf
  refine Both.mk ?_ ?_<;>intro b55
  ·replace b55 := beq_ff b55
   replace h := cond_f b55 h
   have b55d := odf b55
   conv=>whnf
   iterate 2 (refine Both.yes (ff_beq b55) ?_; (conv=>whnf))
   refine Both.no b55 ?_
   conv=>whnf
   cases h
   exact Join.mk (Ent.mk [] rfl ⟨eI rfl rfl, eI rfl rfl, trivial⟩ trivial trivial)
  ·replace b55 := beq_ft b55
   replace h := cond_t b55 h
   have b55d := odt b55
   conv=>whnf
   iterate 2 (refine Both.no (tf_beq b55) ?_; (conv=>whnf))
   refine Both.yes b55 ?_
   conv=>whnf
   cases h
   exact Join.mk (Ent.mk [] rfl ⟨eI rfl rfl, eI rfl rfl, trivial⟩ trivial trivial)
 ·replace h := hk52
  conv=>whnf
  refine Both.mk ?_ ?_<;>intro b56
  ·replace h := cond_t b56 h
   conv=>whnf
   cases h
   conv=>whnf
   exact ⟨rfl, rfl⟩
  ·replace h := cond_f b56 h
   conv=>whnf
   refine Nf.mk (List.length o_.Traces) len_map ?_
   conv=>whnf
   refine Both.mk ?_ ?_<;>intro b57
   ·replace h := cond_t b57 h
    have b57d := odt b57
    conv=>whnf
    cases h
    conv=>whnf
    exact ⟨rfl, rfl⟩
   ·replace h := cond_f b57 h
    have b57d := odf b57
    conv=>whnf
    obtain ⟨oc, hc, hk58⟩ := bind_some h
    clear h
    have h := hc
    clear hc
    refine Cut.mkS oc (Y := Unit) (fun (_ : Unit) => mkSt [(1, .im (.ref (c_api_Obs o_)))] [] []) (fun (_ : Unit) => True) (by rintro ⟨⟩; exact (Holds.true_ _)) ?_ ?_
    ·conv=>whnf
     refine Loops.iter (fun (s : Nat) => R16_Valid.s2 o_ s) (fun i129 => mkSt [(1, .im (.ref (c_api_Obs o_))), (3, .im (nI (↑i129 : Int)))] [] []) (fun i129 => True) h (Ent.mk [] rfl ⟨eI rfl rfl, eI rfl rfl, trivial⟩ trivial trivial) (by rintro i129; exact (Holds.true_ _)) ?_
     clear h
     rintro k i129 o hp h ho147
     replace h : R16_Valid.s2 o_ i129 = some o := h
     unfold R16_Valid.s2 at h
     conv=>whnf
     refine Nf.mk (List.length o_.Traces) len_map ?_
     conv=>whnf
     refine Both.mk ?_ ?_<;>intro b148
     ·replace h := cond_t b148 h
      have b148d := odt b148
      conv=>whnf
      obtain ⟨e149, he149, h⟩ := idxn_some h
      refine ⟨_, ⟨(by omega), map_at he149, rfl⟩, ?_⟩
      conv=>whnf
      refine Side.mk rfl ?_
      conv=>whnf
      refine Side.mk rfl ?_
      conv=>whnf
      refine Side.mk rfl ?_
      conv=>whnf
      obtain ⟨c150, hc150, h⟩ := bind_some h
      refine ⟨_, (sp_R01_Check e149.In o_.Inputs c150 (fun _ _ => hc150)), ?_⟩
      conv=>whnf
      refine Both.mk ?_ ?_<;>intro b151
      ·replace h := cond_t b151 h
       have b151d := odt b151
       conv=>whnf
       cases h
       have ho147 : _ = _ := ho147
       cases ho147
       replace h : some _ = some _ := hk58
       cases h
       conv=>whnf
       exact ⟨rfl, rfl⟩
      ·replace h := cond_f b151 h
       have b151d := odf b151
       conv=>whnf
       refine Side.mk rfl ?_
       conv=>whnf
       refine Side.mk rfl ?_
       conv=>whnf
       refine Nf.mk (List.length e149.In) len_map ?_
       conv=>whnf
       refine Both.mk ?_ ?_<;>intro b152
       ·replace h := cond_t b152 h
        have b152d := odt b152
        conv=>whnf
        cases h
        have ho147 : _ = _ := ho147
        cases ho147
        replace h : some _ = some _ := hk58
        cases h
        conv=>whnf
        exact ⟨rfl, rfl⟩
       ·replace h := cond_f b152 h
        have b152d := odf b152
        conv=>whnf
        refine Side.mk rfl ?_
        conv=>whnf
        obtain ⟨c153, hc153, h⟩ := bind_some h
        refine ⟨_, (sp_R16_Proper e149 o_.Inputs c153 (fun _ _ => hc153)), ?_⟩
        conv=>whnf
        refine Both.mk ?_ ?_<;>intro b154
        ·replace h := cond_t b154 h
         have b154d := odt b154
         conv=>whnf
         cases h
         have ho147 : _ = _ := ho147
         cases ho147
         replace h : some _ = some _ := hk58
         cases h
         conv=>whnf
         exact ⟨rfl, rfl⟩
        ·replace h := cond_f b154 h
         have b154d := odf b154
         conv=>whnf
         obtain ⟨y160, hc, hk156⟩ := bind_some h
         clear h
         have h := hc
         clear hc
         refine Cut.mk (mkSt [(1, .im (.ref (c_api_Obs o_))), (3, .im (nI (↑i129 : Int))), (64, .im (nB y160))] [] []) (True) (Holds.true_ _) ?_ (fun hp => ?_)
         ·conv=>whnf
          refine Both.mk ?_ ?_<;>intro b161
          ·replace b161 := beq_tt b161
           replace h := cond_t b161 h
           have b161d := odt b161
           conv=>whnf
           iterate 3 (refine Both.yes (tt_beq b161) ?_; (conv=>whnf))
           refine Side.mk (by show inR _; unfold inR; omega) ?_
           conv=>whnf
           refine Both.yes (tt_beq b161) ?_
           conv=>whnf
           obtain ⟨e162, he162z, he162, h⟩ := idx_some h
           refine ⟨_, ⟨he162z, map_at he162, rfl⟩, ?_⟩
           conv=>whnf
           iterate 3 (refine Both.yes (tt_beq b161) ?_; (conv=>whnf))
           refine Side.mk rfl ?_
           conv=>whnf
           refine Both.yes (tt_beq b161) ?_
           conv=>whnf
           refine Side.mk rfl ?_
           conv=>whnf
           refine Both.yes (tt_beq b161) ?_
           conv=>whnf
           obtain ⟨c163, hc163, h⟩ := bind_some h
           refine ⟨_, (sp_R01_Compare e162.In e149.In c163 (fun _ _ => hc163)), ?_⟩
           conv=>whnf
           refine Both.yes (tt_beq b161) ?_
           conv=>whnf
           refine Both.yes b161 ?_
           conv=>whnf
           cases h
           exact Join.mk (Ent.mk [] rfl ⟨eI rfl rfl, eI rfl rfl, eI rfl rfl, trivial⟩ trivial trivial)
          ·replace b161 := beq_tf b161
           replace h := cond_f b161 h
           have b161d := odf b161
           conv=>whnf
           iterate 10 (refine Both.no (ft_beq b161) ?_; (conv=>whnf))
           refine Both.no b161 ?_
           conv=>whnf
           cases h
           exact Join.mk (Ent.mk [] rfl ⟨eI rfl rfl, eI rfl rfl, eI rfl rfl, trivial⟩ trivial trivial)
         ·replace h := hk156
          conv=>whnf
          refine Both.mk ?_ ?_<;>intro b164
          ·replace h := cond_t b164 h
           conv=>whnf
           cases h
           have ho147 : _ = _ := ho147
           cases ho147
           replace h : some _ = some _ := hk58
           cases h
           conv=>whnf
           exact ⟨rfl, rfl⟩
          ·replace h := cond_f b164 h
           conv=>whnf
           refine Side.mk (by show inR _; unfold inR; omega) ?_
           conv=>whnf
           cases h
           exact Nxt.mk _ ho147 (Ent.mk [] rfl ⟨eI rfl rfl, eI rfl rfl, trivial⟩ trivial trivial)
     ·replace h := cond_f b148 h
      have b148d := odf b148
      conv=>whnf
      cases h
      have ho147 : _ = _ := ho147
      cases ho147
      exact JoinS.mk' _ rfl (Ent.mk [] rfl ⟨eI rfl rfl, trivial⟩ trivial trivial)
    ·rintro ⟨⟩ rfl hp
     replace h := sum_inl hk58
     conv=>whnf
     obtain ⟨c165, hc165, h⟩ := bind_some h
     refine ⟨_, (sp_R16_apart o_ c165 (fun _ => hc165)), ?_⟩
     conv=>whnf
     cases h
     conv=>whnf
     exact ⟨rfl, rfl⟩
theorem sp_R02_place (l_ : List (List Int)) (w_ : List Int) (r : Int) (h : Ok (nL (cL cI) l_) → Ok (nL cI w_) → R02_place l_ w_ = some r) : Sp Tryz.prog 134 [.im (nL (cL cI) l_), .im (nL cI w_)] (.im (nI r)) := by
 refine sp_of rfl [] rfl rfl rfl (Nat.le_of_ble_eq_true rfl) rfl fun hk => ?_
 replace h := h hk.1 hk.2.1
 have z1 : List.length l_ ≤ 17592186044416 := ok_len hk.1
 have z2 : List.length w_ ≤ 17592186044416 := ok_len hk.2.1
 unfold R02_place at h
 conv=>whnf
 refine Nf.mk (List.length l_) len_map ?_
 conv=>whnf
 obtain ⟨low77, hc, hk51⟩ := bind_some h
 clear h
 have h := hc
 clear hc
 refine Cut.mk (mkSt [(5, .im (nI (↑low77 : Int)))] [] []) (True) (Holds.true_ _) ?_ (fun hp => ?_)
 ·conv=>whnf
  refine Loops.iter (fun (s : Nat × Nat) => R02_place.s2 l_ w_ s.1 s.2) (fun (low84, high85) => mkSt [(0, .im (nL (cL cI) l_)), (1, .im (nL cI w_)), (5, .im (nI (↑low84 : Int))), (6, .im (nI (↑high85 : Int)))] [] []) (fun (low84, high85) => List.length l_ ≤ 17592186044416 ∧ List.length w_ ≤ 17592186044416 ∧ True) h (Ent.mk [] rfl ⟨eI rfl rfl, eI rfl rfl, eI rfl rfl, eI rfl rfl, trivial⟩ trivial trivial) (by rintro ⟨low84, high85⟩; exact ((Holds.avl 0 rfl).and ((Holds.avl 1 rfl).and (Holds.true_ _)))) ?_
  clear h
  rintro k ⟨low84, high85⟩ o hp h ho93
  replace h : R02_place.s2 l_ w_ low84 high85 = some o := h
  unfold R02_place.s2 at h
  obtain ⟨z101, z102, _⟩ := hp
  conv=>whnf
  refine Both.mk ?_ ?_<;>intro b94
  ·replace h := cond_t b94 h
   have b94d := odt b94
   conv=>whnf
   obtain ⟨c95, h⟩ := chk_some h
   refine Side.mk c95 ?_
   conv=>whnf
   obtain ⟨c96, h⟩ := chk_some h
   refine Side.mk c96 ?_
   conv=>whnf
   obtain ⟨e97, he97, h⟩ := idxn_some h
   refine ⟨_, ⟨(by omega), map_at he97, rfl⟩, ?_⟩
   conv=>whnf
   obtain ⟨c98, hc98, h⟩ := bind_some h
   refine ⟨_, (sp_R01_Compare e97 w_ c98 (fun _ _ => hc98)), ?_⟩
   conv=>whnf
   refine Both.mk ?_ ?_<;>intro b99
   ·replace h := cond_t b99 h
    have b99d := odt b99
    conv=>whnf
    obtain ⟨c100, h⟩ := chk_some h
    refine Side.mk c100 ?_
    conv=>whnf
    cases h
    exact Nxt.mk _ ho93 (Ent.mk [] rfl ⟨eI rfl rfl, eI rfl rfl, eI rfl rfl, eI rfl rfl, trivial⟩ trivial trivial)
   ·replace h := cond_f b99 h
    have b99d := odf b99
    conv=>whnf
    cases h
    exact Nxt.mk _ ho93 (Ent.mk [] rfl ⟨eI rfl rfl, eI rfl rfl, eI rfl rfl, eI rfl rfl, trivial⟩ trivial trivial)
  ·replace h := cond_f b94 h
   have b94d := odf b94
   conv=>whnf
   cases h
   have ho93 : _ = _ := ho93
   cases ho93
   exact Join.mk (Ent.mk [] rfl ⟨eI rfl rfl, trivial⟩ trivial trivial)
 ·replace h := hk51
  conv=>whnf
  cases h
  conv=>whnf
  exact ⟨rfl, rfl⟩
theorem sp_R02_with (l_ : List (List Int)) (w_ : List Int) (r : List (List Int)) (h : OkL (List.map (cL cI) l_) → Ok (nL cI w_) → R02_with l_ w_ = some r) : Sp Tryz.prog 99 [.row 38 1 (List.map (cL cI) l_), .im (nL cI w_)] (.row 38 1 (List.map (cL cI) r)) := by
 refine sp_of rfl [44, 500009] rfl rfl rfl (Nat.le_of_ble_eq_true rfl) rfl fun hk => ?_
 replace h := h hk.1 hk.2.1
 have z1 : List.length l_ ≤ 17592186044416 := okl_len hk.1
 have z2 : List.length w_ ≤ 17592186044416 := ok_len hk.2.1
 unfold R02_with at h
 conv=>whnf
 refine Side.mk ⟨rfl, trivial⟩ ?_
 conv=>whnf
 obtain ⟨c51, hc51, h⟩ := bind_some h
 refine ⟨_, (sp_R02_place l_ w_ c51 (fun _ _ => hc51)), ?_⟩
 conv=>whnf
 refine Side.mk flat_one ?_
 conv=>whnf
 obtain ⟨y57, hc, hk53⟩ := bind_some h
 clear h
 have h := hc
 clear hc
 refine Cut.mk (mkSt [(0, .osl 64 1), (1, .im (nL cI w_)), (5, .im (nI c51)), (21, .im (nB y57))] [(64, .row 38 1 (List.map (cL cI) l_))] []) (List.length w_ ≤ 17592186044416 ∧ List.length l_ ≤ 17592186044416 ∧ True) ((Holds.avl 1 rfl).and ((Holds.kdl 64 rfl).and (Holds.true_ _))) ?_ (fun hp => ?_)
 ·conv=>whnf
  refine Side.mk rfl ?_
  conv=>whnf
  refine Nf.mk (List.length l_) len_map ?_
  conv=>whnf
  refine Both.mk ?_ ?_<;>intro b58
  ·replace b58 := beq_tt b58
   replace h := cond_t b58 h
   have b58d := odt b58
   conv=>whnf
   iterate 2 (refine Both.yes (tt_beq b58) ?_; (conv=>whnf))
   obtain ⟨e59, he59z, he59, h⟩ := idx_some h
   refine Side.mk ⟨he59z, rfl, map_lt he59⟩ ?_
   conv=>whnf
   refine Both.yes (tt_beq b58) ?_
   conv=>whnf
   refine ⟨_, _, ⟨rfl, map_at he59, rfl, rfl⟩, ?_⟩
   conv=>whnf
   iterate 2 (refine Both.yes (tt_beq b58) ?_; (conv=>whnf))
   obtain ⟨c60, hc60, h⟩ := bind_some h
   refine ⟨_, (sp_R01_Same e59 w_ c60 (fun _ _ => hc60)), ?_⟩
   conv=>whnf
   refine Both.yes b58 ?_
   conv=>whnf
   cases h
   exact Join.mk (Ent.mk [(64, some 0)] rfl ⟨⟨.osl 0 _, rfl, .osl rfl rfl rfl⟩, eI rfl rfl, eI rfl rfl, eI rfl rfl, trivial⟩ ⟨.inl ⟨0, rfl, rfl, trivial⟩, trivial⟩ trivial)
  ·replace b58 := beq_tf b58
   replace h := cond_f b58 h
   have b58d := odf b58
   conv=>whnf
   iterate 5 (refine Both.no (ft_beq b58) ?_; (conv=>whnf))
   refine Both.no b58 ?_
   conv=>whnf
   cases h
   exact Join.mk (Ent.mk [(64, some 0)] rfl ⟨⟨.osl 0 _, rfl, .osl rfl rfl rfl⟩, eI rfl rfl, eI rfl rfl, eI rfl rfl, trivial⟩ ⟨.inl ⟨0, rfl, rfl, trivial⟩, trivial⟩ trivial)
 ·replace h := hk53
  obtain ⟨z61, z62, _⟩ := hp
  conv=>whnf
  refine Both.mk ?_ ?_<;>intro b63
  ·replace h := cond_t b63 h
   conv=>whnf
   cases h
   conv=>whnf
   exact Side.mk ⟨rfl, trivial⟩ ⟨rfl, rfl⟩
  ·replace h := cond_f b63 h
   conv=>whnf
   obtain ⟨c64, h⟩ := chk_some h
   refine Side.mk ⟨rfl, map_len (l := [[]]) (c := cL cI) fun _ => rfl, show capOk _ 24 by simpa only [List.length_map, List.length_cons, List.length_nil, Nat.zero_add] using c64⟩ ?_
   conv=>whnf
   refine Nf.mk (List.map (cL cI) (l_ ++ [[]])) (app_map (l := l_) (m := [[]]) (c := cL cI)) ?_
   conv=>whnf
   refine Side.mk rfl ?_
   conv=>whnf
   refine Nf.mk (List.length (l_ ++ [[]])) len_map ?_
   conv=>whnf
   obtain ⟨c65, h⟩ := chk_some h
   refine Side.mk c65 ?_
   conv=>whnf
   obtain ⟨y87, hc, hk66⟩ := bind_some h
   clear h
   have h := hc
   clear hc
   refine Cut.mk (mkSt [(0, .osl 64 1), (1, .im (nL cI w_)), (5, .im (nI c51))] [(64, .row 38 1 (List.map (cL cI) y87))] []) (List.length w_ ≤ 17592186044416 ∧ List.length y87 ≤ 17592186044416 ∧ True) ((Holds.avl 1 rfl).and ((Holds.kdl 64 rfl).and (Holds.true_ _))) ?_ (fun hp => ?_)
   ·conv=>whnf
    refine Loops.iter (fun (s : List (List Int) × Int) => R02_with.s2 c51 s.1 s.2) (fun (y93, i94) => mkSt [(0, .osl 64 1), (1, .im (nL cI w_)), (5, .im (nI c51)), (6, .im (nI i94))] [(64, .row 38 1 (List.map (cL cI) y93))] []) (fun (y93, i94) => List.length w_ ≤ 17592186044416 ∧ List.length y93 ≤ 17592186044416 ∧ True) h (Ent.mk [(64, some 64)] rfl ⟨⟨.osl 64 _, rfl, .osl rfl rfl rfl⟩, eI rfl rfl, eI rfl rfl, eI rfl rfl, trivial⟩ ⟨.inl ⟨64, rfl, rfl, trivial⟩, trivial⟩ trivial) (by rintro ⟨y93, i94⟩; exact ((Holds.avl 1 rfl).and ((Holds.kdl 64 rfl).and (Holds.true_ _)))) ?_
    clear h
    rintro k ⟨y93, i94⟩ o hp h ho100
    replace h : R02_with.s2 c51 y93 i94 = some o := h
    unfold R02_with.s2 at h
    obtain ⟨z106, z107, _⟩ := hp
    conv=>whnf
    refine Both.mk ?_ ?_<;>intro b101
    ·replace h := cond_t b101 h
     have b101d := odt b101
     conv=>whnf
     obtain ⟨c102, h⟩ := chk_some h
     refine Side.mk c102 ?_
     conv=>whnf
     obtain ⟨e103, he103z, he103, h⟩ := idx_some h
     refine Side.mk ⟨he103z, rfl, map_lt he103⟩ ?_
     conv=>whnf
     refine ⟨_, _, ⟨rfl, map_at he103, rfl, rfl⟩, ?_⟩
     conv=>whnf
     obtain ⟨e104, he104z, he104, h⟩ := idx_some h
     refine Side.mk ⟨he104z, rfl, map_lt he104⟩ ?_
     conv=>whnf
     refine Side.mk ⟨rfl, trivial⟩ ?_
     conv=>whnf
     refine ⟨_, map_at he104, ?_⟩
     conv=>whnf
     refine Nf.mk (List.map (cL cI) (List.set y93 i94.toNat e103)) (set_map rfl) ?_
     conv=>whnf
     obtain ⟨c105, h⟩ := chk_some h
     refine Side.mk c105 ?_
     conv=>whnf
     cases h
     exact Nxt.mk _ ho100 (Ent.mk [(64, some 64)] rfl ⟨⟨.osl 64 _, rfl, .osl rfl rfl rfl⟩, eI rfl rfl, eI rfl rfl, eI rfl rfl, trivial⟩ ⟨.inl ⟨64, rfl, rfl, trivial⟩, trivial⟩ trivial)
    ·replace h := cond_f b101 h
     have b101d := odf b101
     conv=>whnf
     cases h
     have ho100 : _ = _ := ho100
     cases ho100
     exact Join.mk (Ent.mk [(64, some 64)] rfl ⟨⟨.osl 64 _, rfl, .osl rfl rfl rfl⟩, eI rfl rfl, eI rfl rfl, trivial⟩ ⟨.inl ⟨64, rfl, rfl, trivial⟩, trivial⟩ trivial)
   ·replace h := hk66
    obtain ⟨z108, z109, _⟩ := hp
    conv=>whnf
    obtain ⟨c110, h⟩ := chk_some h
    refine Side.mk ⟨rfl, map_len (l := w_) (c := cI) fun _ => rfl, show capOk _ 8 by simpa only [List.length_map, List.length_cons, List.length_nil, Nat.zero_add] using c110⟩ ?_
    conv=>whnf
    refine Nf.mk (List.map cI ([] ++ w_)) (app_map (l := []) (m := w_) (c := cI)) ?_
    conv=>whnf
    obtain ⟨e111, he111z, he111, h⟩ := idx_some h
    refine Side.mk ⟨he111z, rfl, map_lt he111⟩ ?_
    conv=>whnf
    refine Side.mk ⟨rfl, rfl, trivial⟩ ?_
    conv=>whnf
    refine ⟨_, map_at he111, ?_⟩
    conv=>whnf
    refine Nf.mk (List.map (cL cI) (List.set y87 c51.toNat ([] ++ w_))) (set_map rfl) ?_
    conv=>whnf
    cases h
    conv=>whnf
    exact Side.mk ⟨rfl, trivial⟩ ⟨rfl, rfl⟩
theorem sp_R02_Sorted (l_ : List (List Int)) (r : List (List Int)) (h : Ok (nL (cL cI) l_) → R02_Sorted l_ = some r) : Sp Tryz.prog 103 [.im (nL (cL cI) l_)] (.row 38 1 (List.map (cL cI) r)) := by
 refine sp_of rfl [17000] rfl rfl rfl (Nat.le_of_ble_eq_true rfl) rfl fun hk => ?_
 replace h := h hk.1
 have z1 : List.length l_ ≤ 17592186044416 := ok_len hk.1
 unfold R02_Sorted at h
 conv=>whnf
 obtain ⟨y66, hc, hk51⟩ := bind_some h
 clear h
 have h := hc
 clear hc
 refine Cut.mk (mkSt [(3, .osl 64 1)] [(64, .row 38 1 (List.map (cL cI) y66))] []) (List.length y66 ≤ 17592186044416 ∧ True) ((Holds.kdl 64 rfl).and (Holds.true_ _)) ?_ (fun hp => ?_)
 ·conv=>whnf
  refine Loops.iter (fun (s : List (List Int) × Nat) => R02_Sorted.s2 l_ s.1 s.2) (fun (y70, i71) => mkSt [(0, .im (nL (cL cI) l_)), (3, .osl 64 1), (4, .im (nI (↑i71 : Int)))] [(64, .row 38 1 (List.map (cL cI) y70))] []) (fun (y70, i71) => List.length l_ ≤ 17592186044416 ∧ List.length y70 ≤ 17592186044416 ∧ True) h (Ent.mk [(64, none)] rfl ⟨eI rfl rfl, ⟨.im (.val (.slice none 0 0)), rfl, .made rfl rfl⟩, eI rfl rfl, trivial⟩ ⟨.inr ⟨rfl, rfl, .inl ⟨_, _, rfl, by decide⟩⟩, trivial⟩ trivial) (by rintro ⟨y70, i71⟩; exact ((Holds.avl 0 rfl).and ((Holds.kdl 64 rfl).and (Holds.true_ _)))) ?_
  clear h
  rintro k ⟨y70, i71⟩ o hp h ho75
  replace h : R02_Sorted.s2 l_ y70 i71 = some o := h
  unfold R02_Sorted.s2 at h
  obtain ⟨z79, z80, _⟩ := hp
  conv=>whnf
  refine Nf.mk (List.length l_) len_map ?_
  conv=>whnf
  refine Both.mk ?_ ?_<;>intro b76
  ·replace h := cond_t b76 h
   have b76d := odt b76
   conv=>whnf
   obtain ⟨e77, he77, h⟩ := idxn_some h
   refine ⟨_, ⟨(by omega), map_at he77, rfl⟩, ?_⟩
   conv=>whnf
   refine Side.mk ⟨rfl, trivial⟩ ?_
   conv=>whnf
   obtain ⟨c78, hc78, h⟩ := bind_some h
   refine ⟨_, (sp_R02_with y70 e77 c78 (fun _ _ => hc78)), ?_⟩
   conv=>whnf
   refine Side.mk (by show inR _; unfold inR; omega) ?_
   conv=>whnf
   cases h
   exact Nxt.mk _ ho75 (Ent.mk [(64, some 16)] rfl ⟨eI rfl rfl, ⟨.osl 16 _, rfl, .osl rfl rfl rfl⟩, eI rfl rfl, trivial⟩ ⟨.inl ⟨16, rfl, rfl, trivial⟩, trivial⟩ trivial)
  ·replace h := cond_f b76 h
   have b76d := odf b76
   conv=>whnf
   cases h
   have ho75 : _ = _ := ho75
   cases ho75
   exact Join.mk (Ent.mk [(64, some 64)] rfl ⟨⟨.osl 64 _, rfl, .osl rfl rfl rfl⟩, trivial⟩ ⟨.inl ⟨64, rfl, rfl, trivial⟩, trivial⟩ trivial)
 ·replace h := hk51
  obtain ⟨z81, _⟩ := hp
  conv=>whnf
  cases h
  conv=>whnf
  exact Side.mk ⟨rfl, trivial⟩ ⟨rfl, rfl⟩
theorem sp_R23_Extensions (t_ : T_api_Table) (r : List (List Int)) (h : Ok (.agg (c_api_Table t_)) → R23_Extensions t_ = some r) : Sp Tryz.prog 46 [.im (.agg (c_api_Table t_))] (.im (nL (cL cI) r)) := by
 refine sp_of rfl [700001] rfl rfl rfl (Nat.le_of_ble_eq_true rfl) rfl fun hk => ?_
 replace h := h hk.1
 have z1 : List.length t_.Prefixes ≤ 17592186044416 := ok_len (Ok.agg_at hk.1 1 rfl)
 have z2 : List.length t_.Suffixes ≤ 17592186044416 := ok_len (Ok.agg_at hk.1 2 rfl)
 unfold R23_Extensions at h
 conv=>whnf
 obtain ⟨y174, hc, hk51⟩ := bind_some h
 clear h
 have h := hc
 clear hc
 refine Cut.mk (mkSt [(3, .osl 64 1)] [(64, .row 38 1 (List.map (cL cI) y174))] []) (List.length y174 ≤ 17592186044416 ∧ True) ((Holds.kdl 64 rfl).and (Holds.true_ _)) ?_ (fun hp => ?_)
 ·conv=>whnf
  refine Loops.iter (fun (s : List (List Int) × Nat) => R23_Extensions.s14 t_ s.1 s.2) (fun (y213, i214) => mkSt [(1, .im (.ref (c_api_Table t_))), (3, .osl 64 1), (4, .im (nI (↑i214 : Int)))] [(64, .row 38 1 (List.map (cL cI) y213))] []) (fun (y213, i214) => List.length y213 ≤ 17592186044416 ∧ True) h (Ent.mk [(64, none)] rfl ⟨eI rfl rfl, ⟨.im (.val (.slice none 0 0)), rfl, .made rfl rfl⟩, eI rfl rfl, trivial⟩ ⟨.inr ⟨rfl, rfl, .inl ⟨_, _, rfl, by decide⟩⟩, trivial⟩ trivial) (by rintro ⟨y213, i214⟩; exact ((Holds.kdl 64 rfl).and (Holds.true_ _))) ?_
  clear h
  rintro k ⟨y213, i214⟩ o hp h ho255
  replace h : R23_Extensions.s14 t_ y213 i214 = some o := h
  unfold R23_Extensions.s14 at h
  obtain ⟨z296, _⟩ := hp
  conv=>whnf
  refine Nf.mk (List.length t_.Prefixes) len_map ?_
  conv=>whnf
  refine Both.mk ?_ ?_<;>intro b256
  ·replace h := cond_t b256 h
   have b256d := odt b256
   conv=>whnf
   obtain ⟨y276, hc, hk257⟩ := bind_some h
   clear h
   have h := hc
   clear hc
   refine Cut.mk (mkSt [(1, .im (.ref (c_api_Table t_))), (3, .osl 64 1), (4, .im (nI (↑i214 : Int)))] [(64, .row 38 1 (List.map (cL cI) y276))] []) (List.length y276 ≤ 17592186044416 ∧ True) ((Holds.kdl 64 rfl).and (Holds.true_ _)) ?_ (fun hp => ?_)
   ·conv=>whnf
    refine Loops.iter (fun (s : List (List Int) × Nat) => R23_Extensions.s13 t_ i214 s.1 s.2) (fun (y281, a282) => mkSt [(1, .im (.ref (c_api_Table t_))), (3, .osl 64 1), (4, .im (nI (↑i214 : Int))), (5, .im (nI (↑a282 : Int)))] [(64, .row 38 1 (List.map (cL cI) y281))] []) (fun (y281, a282) => List.length y281 ≤ 17592186044416 ∧ True) h (Ent.mk [(64, some 64)] rfl ⟨eI rfl rfl, ⟨.osl 64 _, rfl, .osl rfl rfl rfl⟩, eI rfl rfl, eI rfl rfl, trivial⟩ ⟨.inl ⟨64, rfl, rfl, trivial⟩, trivial⟩ trivial) (by rintro ⟨y281, a282⟩; exact ((Holds.kdl 64 rfl).and (Holds.true_ _))) ?_
    clear h
    rintro k ⟨y281, a282⟩ o hp h ho288
    replace h : R23_Extensions.s13 t_ i214 y281 a282 = some o := h
    unfold R23_Extensions.s13 at h
    obtain ⟨z294, _⟩ := hp
    conv=>whnf
    refine Both.mk ?_ ?_<;>intro b289
    ·replace h := cond_t b289 h
     have b289d := odt b289
     conv=>whnf
     obtain ⟨e290, he290, h⟩ := idxn_some h
     refine ⟨_, ⟨(by omega), map_at he290, rfl⟩, ?_⟩
     conv=>whnf
     obtain ⟨c291, hc291, h⟩ := bind_some h
     refine ⟨_, (sp_R23_Joined e290 [(↑a282 : Int)] c291 (fun _ _ => hc291)), ?_⟩
     conv=>whnf
     obtain ⟨c292, h⟩ := chk_some h
     refine Side.mk ⟨rfl, map_len (l := [c291]) (c := cL cI) fun _ => rfl, show capOk _ 24 by simpa only [List.length_map, List.length_cons, List.length_nil, Nat.zero_add] using c292⟩ ?_
     conv=>whnf
     refine Nf.mk (List.map (cL cI) (y281 ++ [c291])) (app_map (l := y281) (m := [c291]) (c := cL cI)) ?_
     conv=>whnf
     obtain ⟨c293, h⟩ := chk_some h
     refine Side.mk c293 ?_
     conv=>whnf
     cases h
     exact Nxt.mk _ ho288 (Ent.mk [(64, some 64)] rfl ⟨eI rfl rfl, ⟨.osl 64 _, rfl, .osl rfl rfl rfl⟩, eI rfl rfl, eI rfl rfl, trivial⟩ ⟨.inl ⟨64, rfl, rfl, trivial⟩, trivial⟩ trivial)
    ·replace h := cond_f b289 h
     have b289d := odf b289
     conv=>whnf
     cases h
     have ho288 : _ = _ := ho288
     cases ho288
     exact Join.mk (Ent.mk [(64, some 64)] rfl ⟨eI rfl rfl, ⟨.osl 64 _, rfl, .osl rfl rfl rfl⟩, eI rfl rfl, trivial⟩ ⟨.inl ⟨64, rfl, rfl, trivial⟩, trivial⟩ trivial)
   ·replace h := hk257
    obtain ⟨z295, _⟩ := hp
    conv=>whnf
    refine Side.mk (by show inR _; unfold inR; omega) ?_
    conv=>whnf
    cases h
    exact Nxt.mk _ ho255 (Ent.mk [(64, some 64)] rfl ⟨eI rfl rfl, ⟨.osl 64 _, rfl, .osl rfl rfl rfl⟩, eI rfl rfl, trivial⟩ ⟨.inl ⟨64, rfl, rfl, trivial⟩, trivial⟩ trivial)
  ·replace h := cond_f b256 h
   have b256d := odf b256
   conv=>whnf
   cases h
   have ho255 : _ = _ := ho255
   cases ho255
   exact Join.mk (Ent.mk [(64, some 64)] rfl ⟨⟨.osl 64 _, rfl, .osl rfl rfl rfl⟩, trivial⟩ ⟨.inl ⟨64, rfl, rfl, trivial⟩, trivial⟩ trivial)
 ·replace h := hk51
  obtain ⟨z297, _⟩ := hp
  conv=>whnf
  refine Side.mk ⟨rfl, trivial⟩ ?_
  conv=>whnf
  obtain ⟨c298, hc298, h⟩ := bind_some h
  refine ⟨_, (sp_R02_Sorted y174 c298 (fun _ => hc298)).im, ?_⟩
  conv=>whnf
  cases h
  conv=>whnf
  exact ⟨rfl, rfl⟩
theorem sp_slices_Equal_Sint_int (s1_ : List Int) (s2_ : List Int) (r : Bool) (h : Ok (nL cI s1_) → Ok (nL cI s2_) → slices_Equal_Sint_int s1_ s2_ = some r) : Sp Tryz.prog 128 [.im (nL cI s1_), .im (nL cI s2_)] (.im (nB r)) := by
 refine sp_of rfl [] rfl rfl rfl (Nat.le_of_ble_eq_true rfl) rfl fun hk => ?_
 replace h := h hk.1 hk.2.1
 have z1 : List.length s1_ ≤ 17592186044416 := ok_len hk.1
 have z2 : List.length s2_ ≤ 17592186044416 := ok_len hk.2.1
 unfold slices_Equal_Sint_int at h
 conv=>whnf
 refine Nf.mk (List.length s1_) len_map ?_
 conv=>whnf
 refine Nf.mk (List.length s2_) len_map ?_
 conv=>whnf
 refine Both.mk ?_ ?_<;>intro b51
 ·replace h := cond_t b51 h
  have b51d := odt b51
  conv=>whnf
  cases h
  conv=>whnf
  exact ⟨rfl, rfl⟩
 ·replace h := cond_f b51 h
  have b51d := odf b51
  conv=>whnf
  refine Nf.mk (List.length s1_) len_map ?_
  conv=>whnf
  obtain ⟨oc, hc, hk52⟩ := bind_some h
  clear h
  have h := hc
  clear hc
  refine Cut.mkS oc (Y := Unit) (fun (_ : Unit) => mkSt [] [] []) (fun (_ : Unit) => True) (by rintro ⟨⟩; exact (Holds.true_ _)) ?_ ?_
  ·conv=>whnf
   refine Loops.iter (fun (s : Nat) => slices_Equal_Sint_int.s2 s1_ s2_ s) (fun y73 => mkSt [(0, .im (nL cI s1_)), (1, .im (nL cI s2_)), (12, .im (nI (↑(List.length s1_) : Int))), (13, .im (nI (↑y73 : Int)))] [] []) (fun y73 => List.length s1_ ≤ 17592186044416 ∧ List.length s2_ ≤ 17592186044416 ∧ True) h (Ent.mk [] rfl ⟨eI rfl rfl, eI rfl rfl, eI rfl rfl, eI rfl rfl, trivial⟩ trivial trivial) (by rintro y73; exact ((Holds.avl 0 rfl).and ((Holds.avl 1 rfl).and (Holds.true_ _)))) ?_
   clear h
   rintro k y73 o hp h ho78
   replace h : slices_Equal_Sint_int.s2 s1_ s2_ y73 = some o := h
   unfold slices_Equal_Sint_int.s2 at h
   obtain ⟨z83, z84, _⟩ := hp
   conv=>whnf
   refine Both.mk ?_ ?_<;>intro b79
   ·replace h := cond_t b79 h
    have b79d := odt b79
    conv=>whnf
    obtain ⟨e80, he80, h⟩ := idxn_some h
    refine ⟨_, ⟨(by omega), map_at he80, rfl⟩, ?_⟩
    conv=>whnf
    obtain ⟨e81, he81, h⟩ := idxn_some h
    refine ⟨_, ⟨(by omega), map_at he81, rfl⟩, ?_⟩
    conv=>whnf
    refine Both.mk ?_ ?_<;>intro b82
    ·replace h := cond_t b82 h
     have b82d := odt b82
     conv=>whnf
     cases h
     have ho78 : _ = _ := ho78
     cases ho78
     replace h : some _ = some _ := hk52
     cases h
     conv=>whnf
     exact ⟨rfl, rfl⟩
    ·replace h := cond_f b82 h
     have b82d := odf b82
     conv=>whnf
     refine Side.mk (by show inR _; unfold inR; omega) ?_
     conv=>whnf
     cases h
     exact Nxt.mk _ ho78 (Ent.mk [] rfl ⟨eI rfl rfl, eI rfl rfl, eI rfl rfl, eI rfl rfl, trivial⟩ trivial trivial)
   ·replace h := cond_f b79 h
    have b79d := odf b79
    conv=>whnf
    cases h
    have ho78 : _ = _ := ho78
    cases ho78
    exact JoinS.mk' _ rfl (Ent.mk [] rfl trivial trivial trivial)
  ·rintro ⟨⟩ rfl hp
   replace h := sum_inl hk52
   conv=>whnf
   cases h
   conv=>whnf
   exact ⟨rfl, rfl⟩
theorem sp_table_view_inconsistent (v_ : T_table_view) (r : Int × Int × Bool) (h : Ok (.agg (c_table_view v_)) → table_view_inconsistent v_ = some r) : Sp Tryz.prog 87 [.im (.agg (c_table_view v_))] (.tup [nI r.1, nI r.2.1, nB r.2.2]) := by
 refine sp_of rfl [700001] rfl rfl rfl (Nat.le_of_ble_eq_true rfl) rfl fun hk => ?_
 replace h := h hk.1
 have z1 : List.length v_.rows ≤ 17592186044416 := ok_len (Ok.agg_at hk.1 0 rfl)
 have z2 : List.length v_.prefixes ≤ 17592186044416 := ok_len (Ok.agg_at hk.1 1 rfl)
 have z3 : List.length v_.next ≤ 17592186044416 := ok_len (Ok.agg_at hk.1 2 rfl)
 unfold table_view_inconsistent at h
 conv=>whnf
 refine Nf.mk (List.length v_.prefixes) len_map ?_
 conv=>whnf
 obtain ⟨oc, hc, hk51⟩ := bind_some h
 clear h
 have h := hc
 clear hc
 refine Cut.mkS oc (Y := Unit) (fun (_ : Unit) => mkSt [] [] []) (fun (_ : Unit) => True) (by rintro ⟨⟩; exact (Holds.true_ _)) ?_ ?_
 ·conv=>whnf
  refine Loops.iter (fun (s : Nat) => table_view_inconsistent.s1022 v_ s) (fun y14999 => mkSt [(1, .im (.ref (c_table_view v_))), (13, .im (nL cI v_.prefixes)), (14, .im (nI (↑(List.length v_.prefixes) : Int))), (15, .im (nI (↑y14999 : Int)))] [] []) (fun y14999 => List.length v_.prefixes ≤ 17592186044416 ∧ True) h (Ent.mk [] rfl ⟨eI rfl rfl, eI rfl rfl, eI rfl rfl, eI rfl rfl, trivial⟩ trivial trivial) (by rintro y14999; exact ((Holds.avl 13 rfl).and (Holds.true_ _))) ?_
  clear h
  rintro k y14999 o hp h ho18736
  replace h : table_view_inconsistent.s1022 v_ y14999 = some o := h
  unfold table_view_inconsistent.s1022 at h
  obtain ⟨z22473, _⟩ := hp
  conv=>whnf
  refine Both.mk ?_ ?_<;>intro b18737
  ·replace h := cond_t b18737 h
   have b18737d := odt b18737
   conv=>whnf
   obtain ⟨e18738, he18738, h⟩ := idxn_some h
   refine ⟨_, ⟨(by omega), map_at he18738, rfl⟩, ?_⟩
   conv=>whnf
   refine Side.mk (by show inR _; unfold inR; omega) ?_
   conv=>whnf
   obtain ⟨oc, hc, hk18739⟩ := bind_some h
   clear h
   have h := hc
   clear hc
   refine Cut.mkS oc (Y := Unit) (fun (_ : Unit) => mkSt [(1, .im (.ref (c_table_view v_))), (13, .im (nL cI v_.prefixes)), (14, .im (nI (↑(List.length v_.prefixes) : Int))), (15, .im (nI (↑y14999 : Int)))] [] []) (fun (_ : Unit) => List.length v_.prefixes ≤ 17592186044416 ∧ True) (by rintro ⟨⟩; exact ((Holds.avl 13 rfl).and (Holds.true_ _))) ?_ ?_
   ·conv=>whnf
    refine Loops.iter (fun (s : Nat) => table_view_inconsistent.s1021 v_ y14999 e18738 s) (fun k21227 => mkSt [(1, .im (.ref (c_table_view v_))), (5, .im (nI (↑y14999 : Int))), (6, .im (nI e18738)), (7, .im (nI (↑k21227 : Int))), (13, .im (nL cI v_.prefixes)), (14, .im (nI (↑(List.length v_.prefixes) : Int))), (15, .im (nI (↑y14999 : Int)))] [] []) (fun k21227 => List.length v_.prefixes ≤ 17592186044416 ∧ True) h (Ent.mk [] rfl ⟨eI rfl rfl, eI rfl rfl, eI rfl rfl, eI rfl rfl, eI rfl rfl, eI rfl rfl, eI rfl rfl, trivial⟩ trivial trivial) (by rintro k21227; exact ((Holds.avl 13 rfl).and (Holds.true_ _))) ?_
    clear h
    rintro k k21227 o hp h ho21849
    replace h : table_view_inconsistent.s1021 v_ y14999 e18738 k21227 = some o := h
    unfold table_view_inconsistent.s1021 at h
    obtain ⟨z22471, _⟩ := hp
    conv=>whnf
    refine Nf.mk (List.length v_.prefixes) len_map ?_
    conv=>whnf
    refine Both.mk ?_ ?_<;>intro b21850
    ·replace h := cond_t b21850 h
     have b21850d := odt b21850
     conv=>whnf
     obtain ⟨oc, hc, hk21851⟩ := bind_some h
     clear h
     have h := hc
     clear hc
     refine Cut.mkS oc (Y := Unit) (fun (_ : Unit) => mkSt [(1, .im (.ref (c_table_view v_))), (5, .im (nI (↑y14999 : Int))), (6, .im (nI e18738)), (7, .im (nI (↑k21227 : Int))), (13, .im (nL cI v_.prefixes)), (14, .im (nI (↑(List.length v_.prefixes) : Int))), (15, .im (nI (↑y14999 : Int)))] [] []) (fun (_ : Unit) => List.length v_.prefixes ≤ 17592186044416 ∧ True) (by rintro ⟨⟩; exact ((Holds.avl 13 rfl).and (Holds.true_ _))) ?_ ?_
     ·conv=>whnf
      obtain ⟨e22161, he22161, h⟩ := idxn_some h
      refine ⟨_, ⟨(by omega), map_at he22161, rfl⟩, ?_⟩
      conv=>whnf
      refine Both.mk ?_ ?_<;>intro b22162
      ·replace h := cond_t b22162 h
       have b22162d := odt b22162
       conv=>whnf
       cases h
       exact JoinS.mk' _ rfl (Ent.mk [] rfl ⟨eI rfl rfl, eI rfl rfl, eI rfl rfl, eI rfl rfl, eI rfl rfl, eI rfl rfl, eI rfl rfl, trivial⟩ trivial trivial)
      ·replace h := cond_f b22162 h
       have b22162d := odf b22162
       conv=>whnf
       obtain ⟨e22163, he22163, h⟩ := idxn_some h
       refine ⟨_, ⟨(by omega), map_at he22163, rfl⟩, ?_⟩
       conv=>whnf
       refine Nf.mk (List.length e22163) len_map ?_
       conv=>whnf
       obtain ⟨oc, hc, hk22164⟩ := bind_some h
       clear h
       have h := hc
       clear hc
       refine Cut.mkS oc (Y := Unit) (fun (_ : Unit) => mkSt [(1, .im (.ref (c_table_view v_))), (5, .im (nI (↑y14999 : Int))), (6, .im (nI e18738)), (7, .im (nI (↑k21227 : Int))), (13, .im (nL cI v_.prefixes)), (14, .im (nI (↑(List.length v_.prefixes) : Int))), (15, .im (nI (↑y14999 : Int)))] [] []) (fun (_ : Unit) => List.length v_.prefixes ≤ 17592186044416 ∧ True) (by rintro ⟨⟩; exact ((Holds.avl 13 rfl).and (Holds.true_ _))) ?_ ?_
       ·conv=>whnf
        refine Loops.iter (fun (s : Nat) => table_view_inconsistent.s1020 v_ y14999 k21227 e22163 s) (fun y22366 => mkSt [(1, .im (.ref (c_table_view v_))), (5, .im (nI (↑y14999 : Int))), (6, .im (nI e18738)), (7, .im (nI (↑k21227 : Int))), (13, .im (nL cI v_.prefixes)), (14, .im (nI (↑(List.length v_.prefixes) : Int))), (15, .im (nI (↑y14999 : Int))), (41, .im (nI (↑(List.length e22163) : Int))), (42, .im (nI (↑y22366 : Int)))] [] []) (fun y22366 => List.length v_.prefixes ≤ 17592186044416 ∧ True) h (Ent.mk [] rfl ⟨eI rfl rfl, eI rfl rfl, eI rfl rfl, eI rfl rfl, eI rfl rfl, eI rfl rfl, eI rfl rfl, eI rfl rfl, eI rfl rfl, trivial⟩ trivial trivial) (by rintro y22366; exact ((Holds.avl 13 rfl).and (Holds.true_ _))) ?_
        clear h
        rintro k y22366 o hp h ho22417
        replace h : table_view_inconsistent.s1020 v_ y14999 k21227 e22163 y22366 = some o := h
        unfold table_view_inconsistent.s1020 at h
        obtain ⟨z22468, _⟩ := hp
        conv=>whnf
        refine Both.mk ?_ ?_<;>intro b22418
        ·replace h := cond_t b22418 h
         have b22418d := odt b22418
         conv=>whnf
         obtain ⟨e22419, he22419, h⟩ := idxn_some h
         refine ⟨_, ⟨(by omega), map_at he22419, rfl⟩, ?_⟩
         conv=>whnf
         obtain ⟨e22420, he22420, h⟩ := idxn_some h
         refine ⟨_, ⟨(by omega), map_at he22420, rfl⟩, ?_⟩
         conv=>whnf
         obtain ⟨e22421, he22421z, he22421, h⟩ := idx_some h
         refine ⟨_, ⟨he22421z, map_at he22421, rfl⟩, ?_⟩
         conv=>whnf
         obtain ⟨e22422, he22422, h⟩ := idxn_some h
         refine ⟨_, ⟨(by omega), map_at he22422, rfl⟩, ?_⟩
         conv=>whnf
         obtain ⟨e22423, he22423, h⟩ := idxn_some h
         refine ⟨_, ⟨(by omega), map_at he22423, rfl⟩, ?_⟩
         conv=>whnf
         obtain ⟨e22424, he22424z, he22424, h⟩ := idx_some h
         refine ⟨_, ⟨he22424z, map_at he22424, rfl⟩, ?_⟩
         conv=>whnf
         refine Nf.mk (List.length e22421) len_map ?_
         conv=>whnf
         obtain ⟨oc, hc, hk22425⟩ := bind_some h
         clear h
         have h := hc
         clear hc
         refine Cut.mkS oc (Y := Unit) (fun (_ : Unit) => mkSt [(1, .im (.ref (c_table_view v_))), (5, .im (nI (↑y14999 : Int))), (6, .im (nI e18738)), (7, .im (nI (↑k21227 : Int))), (13, .im (nL cI v_.prefixes)), (14, .im (nI (↑(List.length v_.prefixes) : Int))), (15, .im (nI (↑y14999 : Int))), (41, .im (nI (↑(List.length e22163) : Int))), (42, .im (nI (↑y22366 : Int)))] [] []) (fun (_ : Unit) => List.length v_.prefixes ≤ 17592186044416 ∧ True) (by rintro ⟨⟩; exact ((Holds.avl 13 rfl).and (Holds.true_ _))) ?_ ?_
         ·conv=>whnf
          refine Loops.iter (fun (s : Nat) => table_view_inconsistent.s1019 y22366 e22421 e22424 s) (fun y22451 => mkSt [(1, .im (.ref (c_table_view v_))), (5, .im (nI (↑y14999 : Int))), (6, .im (nI e18738)), (7, .im (nI (↑k21227 : Int))), (8, .im (nI (↑y22366 : Int))), (9, .im (nL (cL cI) e22421)), (10, .im (nL (cL cI) e22424)), (13, .im (nL cI v_.prefixes)), (14, .im (nI (↑(List.length v_.prefixes) : Int))), (15, .im (nI (↑y14999 : Int))), (41, .im (nI (↑(List.length e22163) : Int))), (42, .im (nI (↑y22366 : Int))), (70, .im (nI (↑(List.length e22421) : Int))), (71, .im (nI (↑y22451 : Int)))] [] []) (fun y22451 => List.length e22421 ≤ 17592186044416 ∧ List.length e22424 ≤ 17592186044416 ∧ List.length v_.prefixes ≤ 17592186044416 ∧ True) h (Ent.mk [] rfl ⟨eI rfl rfl, eI rfl rfl, eI rfl rfl, eI rfl rfl, eI rfl rfl, eI rfl rfl, eI rfl rfl, eI rfl rfl, eI rfl rfl, eI rfl rfl, eI rfl rfl, eI rfl rfl, eI rfl rfl, eI rfl rfl, trivial⟩ trivial trivial) (by rintro y22451; exact ((Holds.avl 9 rfl).and ((Holds.avl 10 rfl).and ((Holds.avl 13 rfl).and (Holds.true_ _))))) ?_
          clear h
          rintro k y22451 o hp h ho22457
          replace h : table_view_inconsistent.s1019 y22366 e22421 e22424 y22451 = some o := h
          unfold table_view_inconsistent.s1019 at h
          obtain ⟨z22463, z22464, z22465, _⟩ := hp
          conv=>whnf
          refine Both.mk ?_ ?_<;>intro b22458
          ·replace h := cond_t b22458 h
           have b22458d := odt b22458
           conv=>whnf
           obtain ⟨e22459, he22459, h⟩ := idxn_some h
           refine ⟨_, ⟨(by omega), map_at he22459, rfl⟩, ?_⟩
           conv=>whnf
           obtain ⟨e22460, he22460, h⟩ := idxn_some h
           refine ⟨_, ⟨(by omega), map_at he22460, rfl⟩, ?_⟩
           conv=>whnf
           obtain ⟨c22461, hc22461, h⟩ := bind_some h
           refine ⟨_, (sp_slices_Equal_Sint_int e22459 e22460 c22461 (fun _ _ => hc22461)), ?_⟩
           conv=>whnf
           refine Both.mk ?_ ?_<;>intro b22462
           ·replace h := cond_t b22462 h
            conv=>whnf
            cases h
            have ho22457 : _ = _ := ho22457
            cases ho22457
            replace h : some _ = some _ := hk22425
            cases h
            have ho22417 : _ = _ := ho22417
            cases ho22417
            replace h : some _ = some _ := hk22164
            cases h
            replace h : some _ = some _ := hk21851
            cases h
            have ho21849 : _ = _ := ho21849
            cases ho21849
            replace h : some _ = some _ := hk18739
            cases h
            have ho18736 : _ = _ := ho18736
            cases ho18736
            replace h : some _ = some _ := hk51
            cases h
            conv=>whnf
            exact ⟨rfl, rfl⟩
           ·replace h := cond_f b22462 h
            conv=>whnf
            refine Side.mk (by show inR _; unfold inR; omega) ?_
            conv=>whnf
            cases h
            exact Nxt.mk _ ho22457 (Ent.mk [] rfl ⟨eI rfl rfl, eI rfl rfl, eI rfl rfl, eI rfl rfl, eI rfl rfl, eI rfl rfl, eI rfl rfl, eI rfl rfl, eI rfl rfl, eI rfl rfl, eI rfl rfl, eI rfl rfl, eI rfl rfl, eI rfl rfl, trivial⟩ trivial trivial)
          ·replace h := cond_f b22458 h
           have b22458d := odf b22458
           conv=>whnf
           cases h
           have ho22457 : _ = _ := ho22457
           cases ho22457
           exact JoinS.mk' _ rfl (Ent.mk [] rfl ⟨eI rfl rfl, eI rfl rfl, eI rfl rfl, eI rfl rfl, eI rfl rfl, eI rfl rfl, eI rfl rfl, eI rfl rfl, eI rfl rfl, trivial⟩ trivial trivial)
         ·rintro ⟨⟩ rfl hp
          replace h := sum_inl hk22425
          obtain ⟨z22466, _⟩ := hp
          conv=>whnf
          obtain ⟨c22467, h⟩ := chk_some h
          refine Side.mk c22467 ?_
          conv=>whnf
          cases h
          exact Nxt.mk _ ho22417 (Ent.mk [] rfl ⟨eI rfl rfl, eI rfl rfl, eI rfl rfl, eI rfl rfl, eI rfl rfl, eI rfl rfl, eI rfl rfl, eI rfl rfl, eI rfl rfl, trivial⟩ trivial trivial)
        ·replace h := cond_f b22418 h
         have b22418d := odf b22418
         conv=>whnf
         cases h
         have ho22417 : _ = _ := ho22417
         cases ho22417
         exact JoinS.mk' _ rfl (Ent.mk [] rfl ⟨eI rfl rfl, eI rfl rfl, eI rfl rfl, eI rfl rfl, eI rfl rfl, eI rfl rfl, eI rfl rfl, trivial⟩ trivial trivial)
       ·rintro ⟨⟩ rfl hp
        replace h := sum_inl hk22164
        obtain ⟨z22469, _⟩ := hp
        conv=>whnf
        cases h
        exact JoinS.mk' _ rfl (Ent.mk [] rfl ⟨eI rfl rfl, eI rfl rfl, eI rfl rfl, eI rfl rfl, eI rfl rfl, eI rfl rfl, eI rfl rfl, trivial⟩ trivial trivial)
     ·rintro ⟨⟩ rfl hp
      replace h := sum_inl hk21851
      obtain ⟨z22470, _⟩ := hp
      conv=>whnf
      refine Side.mk (by show inR _; unfold inR; omega) ?_
      conv=>whnf
      cases h
      exact Nxt.mk _ ho21849 (Ent.mk [] rfl ⟨eI rfl rfl, eI rfl rfl, eI rfl rfl, eI rfl rfl, eI rfl rfl, eI rfl rfl, eI rfl rfl, trivial⟩ trivial trivial)
    ·replace h := cond_f b21850 h
     have b21850d := odf b21850
     conv=>whnf
     cases h
     have ho21849 : _ = _ := ho21849
     cases ho21849
     exact JoinS.mk' _ rfl (Ent.mk [] rfl ⟨eI rfl rfl, eI rfl rfl, eI rfl rfl, eI rfl rfl, trivial⟩ trivial trivial)
   ·rintro ⟨⟩ rfl hp
    replace h := sum_inl hk18739
    obtain ⟨z22472, _⟩ := hp
    conv=>whnf
    refine Side.mk (by show inR _; unfold inR; omega) ?_
    conv=>whnf
    cases h
    exact Nxt.mk _ ho18736 (Ent.mk [] rfl ⟨eI rfl rfl, eI rfl rfl, eI rfl rfl, eI rfl rfl, trivial⟩ trivial trivial)
  ·replace h := cond_f b18737 h
   have b18737d := odf b18737
   conv=>whnf
   cases h
   have ho18736 : _ = _ := ho18736
   cases ho18736
   exact JoinS.mk' _ rfl (Ent.mk [] rfl trivial trivial trivial)
 ·rintro ⟨⟩ rfl hp
  replace h := sum_inl hk51
  conv=>whnf
  cases h
  conv=>whnf
  exact ⟨rfl, rfl⟩
theorem sp_table_Hypothesis (t_ : T_api_Table) (o_ : T_api_Obs) (r : T_api_Hyp × Int) (h : Ok (.agg (c_api_Table t_)) → Ok (.agg (c_api_Obs o_)) → table_Hypothesis t_ o_ = some r) : Sp Tryz.prog 37 [.im (.agg (c_api_Table t_)), .im (.agg (c_api_Obs o_))] (.tup [.agg (c_api_Hyp r.1), nI r.2]) := by
 refine sp_of rfl [700002, 700003] rfl rfl rfl (Nat.le_of_ble_eq_true rfl) rfl fun hk => ?_
 replace h := h hk.1 hk.2.1
 have z1 : List.length t_.Prefixes ≤ 17592186044416 := ok_len (Ok.agg_at hk.1 1 rfl)
 have z2 : List.length t_.Suffixes ≤ 17592186044416 := ok_len (Ok.agg_at hk.1 2 rfl)
 have z3 : List.length o_.Traces ≤ 17592186044416 := ok_len (Ok.agg_at hk.2.1 1 rfl)
 unfold table_Hypothesis at h
 conv=>whnf
 obtain ⟨c51, hc51, h⟩ := bind_some h
 refine ⟨_, (sp_table_look t_ o_ c51 (fun _ _ => hc51)), ?_⟩
 conv=>whnf
 refine Side.mk rfl ?_
 conv=>whnf
 refine Both.mk ?_ ?_<;>intro b52
 ·replace h := cond_t b52 h
  have b52d := odt b52
  conv=>whnf
  refine Side.mk rfl ?_
  conv=>whnf
  cases h
  conv=>whnf
  refine Side.mk ⟨rfl, trivial⟩ ?_
  conv=>whnf
  exact ⟨rfl, rfl⟩
 ·replace h := cond_f b52 h
  have b52d := odf b52
  conv=>whnf
  refine Side.mk rfl ?_
  conv=>whnf
  obtain ⟨c53, hc53, h⟩ := bind_some h
  refine ⟨_, (sp_table_view_unclosed c51.1 c53 (fun _ => hc53)), ?_⟩
  conv=>whnf
  refine Side.mk rfl ?_
  conv=>whnf
  obtain ⟨c54, hc54, h⟩ := bind_some h
  refine ⟨_, (sp_table_view_inconsistent c51.1 c54 (fun _ => hc54)), ?_⟩
  conv=>whnf
  obtain ⟨y58, hc, hk56⟩ := bind_some h
  clear h
  have h := hc
  clear hc
  refine Cut.mk (mkSt [(2, .im (.ref (c_api_Table t_))), (4, .own 121 1 0), (6, .own 122 1 0), (44, .im (nB y58))] [(121, .box 60 5), (122, .box 111 4)] [(121, 0, .im (nI 0)), (121, 1, .im (nI 0)), (121, 2, .im (.val (.slice none 0 0))), (121, 3, .im (.val (.slice none 0 0))), (121, 4, .im (.val (.slice none 0 0))), (122, 0, .im (nL (cL (cL cI)) c51.1.rows)), (122, 1, .im (nL cI c51.1.prefixes)), (122, 2, .im (nL (cL cI) c51.1.next)), (122, 3, .im (.any))]) (List.length c51.1.rows ≤ 17592186044416 ∧ List.length c51.1.prefixes ≤ 17592186044416 ∧ List.length c51.1.next ≤ 17592186044416 ∧ True) ((Holds.cel 122 0 rfl (by decide) rfl).and ((Holds.cel 122 1 rfl (by decide) rfl).and ((Holds.cel 122 2 rfl (by decide) rfl).and (Holds.true_ _)))) ?_ (fun hp => ?_)
  ·conv=>whnf
   refine Both.mk ?_ ?_<;>intro b59
   ·replace b59 := beq_ff b59
    replace h := cond_f b59 h
    conv=>whnf
    refine Both.no b59 ?_
    conv=>whnf
    cases h
    exact Join.mk (Ent.mk [(121, some 4), (122, some 6)] rfl ⟨eI rfl rfl, ⟨.own 4 _ 0, rfl, .own rfl rfl rfl⟩, ⟨.own 6 _ 0, rfl, .own rfl rfl rfl⟩, eI rfl rfl, trivial⟩ ⟨.inl ⟨4, rfl, rfl, trivial⟩, .inl ⟨6, rfl, rfl, trivial⟩, trivial⟩ ⟨⟨4, .im _, rfl, rfl, .im (Sub.rfl' rfl)⟩, ⟨4, .im _, rfl, rfl, .im (Sub.rfl' rfl)⟩, ⟨4, .im (.val (.slice none 0 0)), rfl, rfl, .im (Sub.rfl' rfl)⟩, ⟨4, .im (.val (.slice none 0 0)), rfl, rfl, .im (Sub.rfl' rfl)⟩, ⟨4, .im (.val (.slice none 0 0)), rfl, rfl, .im (Sub.rfl' rfl)⟩, ⟨6, .im _, rfl, rfl, .im (Sub.rfl' rfl)⟩, ⟨6, .im _, rfl, rfl, .im (Sub.rfl' rfl)⟩, ⟨6, .im _, rfl, rfl, .im (Sub.rfl' rfl)⟩, ⟨6, .im _, rfl, rfl, .im (Sub.rfl' rfl)⟩, trivial⟩)
   ·replace b59 := beq_ft b59
    replace h := cond_t b59 h
    conv=>whnf
    refine Both.yes b59 ?_
    conv=>whnf
    cases h
    exact Join.mk (Ent.mk [(121, some 4), (122, some 6)] rfl ⟨eI rfl rfl, ⟨.own 4 _ 0, rfl, .own rfl rfl rfl⟩, ⟨.own 6 _ 0, rfl, .own rfl rfl rfl⟩, eI rfl rfl, trivial⟩ ⟨.inl ⟨4, rfl, rfl, trivial⟩, .inl ⟨6, rfl, rfl, trivial⟩, trivial⟩ ⟨⟨4, .im _, rfl, rfl, .im (Sub.rfl' rfl)⟩, ⟨4, .im _, rfl, rfl, .im (Sub.rfl' rfl)⟩, ⟨4, .im (.val (.slice none 0 0)), rfl, rfl, .im (Sub.rfl' rfl)⟩, ⟨4, .im (.val (.slice none 0 0)), rfl, rfl, .im (Sub.rfl' rfl)⟩, ⟨4, .im (.val (.slice none 0 0)), rfl, rfl, .im (Sub.rfl' rfl)⟩, ⟨6, .im _, rfl, rfl, .im (Sub.rfl' rfl)⟩, ⟨6, .im _, rfl, rfl, .im (Sub.rfl' rfl)⟩, ⟨6, .im _, rfl, rfl, .im (Sub.rfl' rfl)⟩, ⟨6, .im _, rfl, rfl, .im (Sub.rfl' rfl)⟩, trivial⟩)
  ·replace h := hk56
   obtain ⟨z60, z61, z62, _⟩ := hp
   conv=>whnf
   refine Both.mk ?_ ?_<;>intro b63
   ·replace h := cond_t b63 h
    conv=>whnf
    refine Side.mk rfl ?_
    conv=>whnf
    cases h
    conv=>whnf
    refine Side.mk ⟨rfl, trivial⟩ ?_
    conv=>whnf
    exact ⟨rfl, rfl⟩
   ·replace h := cond_f b63 h
    conv=>whnf
    refine Side.mk rfl ?_
    conv=>whnf
    refine Side.mk rfl ?_
    conv=>whnf
    refine Nf.mk (List.length c51.1.rows) len_map ?_
    conv=>whnf
    refine Both.mk ?_ ?_<;>intro b64
    ·replace h := cond_t b64 h
     have b64d := odt b64
     conv=>whnf
     refine Side.mk rfl ?_
     conv=>whnf
     cases h
     conv=>whnf
     refine Side.mk ⟨rfl, trivial⟩ ?_
     conv=>whnf
     exact ⟨rfl, rfl⟩
    ·replace h := cond_f b64 h
     have b64d := odf b64
     conv=>whnf
     refine Side.mk rfl ?_
     conv=>whnf
     refine Side.mk rfl ?_
     conv=>whnf
     refine Side.mk rfl ?_
     conv=>whnf
     refine Nf.mk (List.length c51.1.prefixes) len_map ?_
     conv=>whnf
     obtain ⟨⟨y506, y507, y508⟩, hc, hk65⟩ := bind_some h
     clear h
     have h := hc
     clear hc
     refine Cut.mk (mkSt [(4, .own 121 1 0), (14, .own 122 1 0)] [(121, .box 60 5), (122, .box 60 5), (123, .row 38 1 (List.map (cL cI) y506)), (124, .row 38 1 (List.map (cL cI) y507)), (125, .row 38 1 (List.map (cL cI) y508))] [(121, 0, .im (nI 0)), (121, 1, .im (nI 0)), (121, 2, .im (.val (.slice none 0 0))), (121, 3, .im (.val (.slice none 0 0))), (121, 4, .im (.val (.slice none 0 0))), (122, 0, .im (nI t_.Inputs)), (122, 1, .im (nI 0)), (122, 2, .osl 123 1), (122, 3, .osl 124 1), (122, 4, .osl 125 1)]) (List.length y506 ≤ 17592186044416 ∧ List.length y507 ≤ 17592186044416 ∧ List.length y508 ≤ 17592186044416 ∧ True) ((Holds.kdl 123 rfl).and ((Holds.kdl 124 rfl).and ((Holds.kdl 125 rfl).and (Holds.true_ _)))) ?_ (fun hp => ?_)
     ·conv=>whnf
      refine Loops.iter (fun (s : List (List Int) × List (List Int) × List (List Int) × Nat) => table_Hypothesis.s32 t_ c51 s.1 s.2.1 s.2.2.1 s.2.2.2) (fun (y636, y637, y638, y639) => mkSt [(2, .im (.ref (c_api_Table t_))), (4, .own 121 1 0), (6, .own 122 1 0), (14, .own 123 1 0), (56, .im (nL cI c51.1.prefixes)), (57, .im (nI (↑(List.length c51.1.prefixes) : Int))), (58, .im (nI (↑y639 : Int)))] [(121, .box 60 5), (122, .box 111 4), (123, .box 60 5), (124, .row 38 1 (List.map (cL cI) y636)), (125, .row 38 1 (List.map (cL cI) y637)), (126, .row 38 1 (List.map (cL cI) y638))] [(121, 0, .im (nI 0)), (121, 1, .im (nI 0)), (121, 2, .im (.val (.slice none 0 0))), (121, 3, .im (.val (.slice none 0 0))), (121, 4, .im (.val (.slice none 0 0))), (122, 0, .im (nL (cL (cL cI)) c51.1.rows)), (122, 1, .im (nL cI c51.1.prefixes)), (122, 2, .im (nL (cL cI) c51.1.next)), (122, 3, .im (.any)), (123, 0, .im (nI t_.Inputs)), (123, 1, .im (nI 0)), (123, 2, .osl 124 1), (123, 3, .osl 125 1), (123, 4, .osl 126 1)]) (fun (y636, y637, y638, y639) => List.length c51.1.prefixes ≤ 17592186044416 ∧ List.length c51.1.rows ≤ 17592186044416 ∧ List.length c51.1.next ≤ 17592186044416 ∧ List.length y636 ≤ 17592186044416 ∧ List.length y637 ≤ 17592186044416 ∧ List.length y638 ≤ 17592186044416 ∧ True) h (Ent.mk [(121, some 121), (122, some 122), (123, some 14), (124, none), (125, none), (126, none)] rfl ⟨eI rfl rfl, ⟨.own 121 _ 0, rfl, .own rfl rfl rfl⟩, ⟨.own 122 _ 0, rfl, .own rfl rfl rfl⟩, ⟨.own 14 _ 0, rfl, .own rfl rfl rfl⟩, eI rfl rfl, eI rfl rfl, eI rfl rfl, trivial⟩ ⟨.inl ⟨121, rfl, rfl, trivial⟩, .inl ⟨122, rfl, rfl, trivial⟩, .inl ⟨14, rfl, rfl, trivial⟩, .inr ⟨rfl, rfl, .inl ⟨_, _, rfl, by decide⟩⟩, .inr ⟨rfl, rfl, .inl ⟨_, _, rfl, by decide⟩⟩, .inr ⟨rfl, rfl, .inl ⟨_, _, rfl, by decide⟩⟩, trivial⟩ ⟨⟨121, .im _, rfl, rfl, .im (Sub.rfl' rfl)⟩, ⟨121, .im _, rfl, rfl, .im (Sub.rfl' rfl)⟩, ⟨121, .im (.val (.slice none 0 0)), rfl, rfl, .im (Sub.rfl' rfl)⟩, ⟨121, .im (.val (.slice none 0 0)), rfl, rfl, .im (Sub.rfl' rfl)⟩, ⟨121, .im (.val (.slice none 0 0)), rfl, rfl, .im (Sub.rfl' rfl)⟩, ⟨122, .im _, rfl, rfl, .im (Sub.rfl' rfl)⟩, ⟨122, .im _, rfl, rfl, .im (Sub.rfl' rfl)⟩, ⟨122, .im _, rfl, rfl, .im (Sub.rfl' rfl)⟩, ⟨122, .im _, rfl, rfl, .im (Sub.rfl' rfl)⟩, ⟨14, .im _, rfl, rfl, .im (Sub.rfl' rfl)⟩, ⟨14, .im _, rfl, rfl, .im (Sub.rfl' rfl)⟩, ⟨14, .im (.val (.slice none 0 0)), rfl, rfl, .made rfl rfl⟩, ⟨14, .im (.val (.slice none 0 0)), rfl, rfl, .made rfl rfl⟩, ⟨14, .im (.val (.slice none 0 0)), rfl, rfl, .made rfl rfl⟩, trivial⟩) (by rintro ⟨y636, y637, y638, y639⟩; exact ((Holds.avl 56 rfl).and ((Holds.cel 122 0 rfl (by decide) rfl).and ((Holds.cel 122 2 rfl (by decide) rfl).and ((Holds.kdl 124 rfl).and ((Holds.kdl 125 rfl).and ((Holds.kdl 126 rfl).and (Holds.true_ _)))))))) ?_
      clear h
      rintro k ⟨y636, y637, y638, y639⟩ o hp h ho791
      replace h : table_Hypothesis.s32 t_ c51 y636 y637 y638 y639 = some o := h
      unfold table_Hypothesis.s32 at h
      obtain ⟨z943, z944, z945, z946, z947, z948, _⟩ := hp
      conv=>whnf
      refine Both.mk ?_ ?_<;>intro b792
      ·replace h := cond_t b792 h
       have b792d := odt b792
       conv=>whnf
       obtain ⟨⟨y864, y865, y866⟩, hc, hk793⟩ := bind_some h
       clear h
       have h := hc
       clear hc
       refine Cut.mk (mkSt [(2, .im (.ref (c_api_Table t_))), (4, .own 121 1 0), (6, .own 122 1 0), (14, .own 123 1 0), (56, .im (nL cI c51.1.prefixes)), (57, .im (nI (↑(List.length c51.1.prefixes) : Int))), (58, .im (nI (↑y639 : Int)))] [(121, .box 60 5), (122, .box 111 4), (123, .box 60 5), (124, .row 38 1 (List.map (cL cI) y864)), (125, .row 38 1 (List.map (cL cI) y865)), (126, .row 38 1 (List.map (cL cI) y866))] [(121, 0, .im (nI 0)), (121, 1, .im (nI 0)), (121, 2, .im (.val (.slice none 0 0))), (121, 3, .im (.val (.slice none 0 0))), (121, 4, .im (.val (.slice none 0 0))), (122, 0, .im (nL (cL (cL cI)) c51.1.rows)), (122, 1, .im (nL cI c51.1.prefixes)), (122, 2, .im (nL (cL cI) c51.1.next)), (122, 3, .im (.any)), (123, 0, .im (nI t_.Inputs)), (123, 1, .im (nI 0)), (123, 2, .osl 124 1), (123, 3, .osl 125 1), (123, 4, .osl 126 1)]) (List.length c51.1.prefixes ≤ 17592186044416 ∧ List.length c51.1.rows ≤ 17592186044416 ∧ List.length c51.1.next ≤ 17592186044416 ∧ List.length y864 ≤ 17592186044416 ∧ List.length y865 ≤ 17592186044416 ∧ List.length y866 ≤ 17592186044416 ∧ True) ((Holds.avl 56 rfl).and ((Holds.cel 122 0 rfl (by decide) rfl).and ((Holds.cel 122 2 rfl (by decide) rfl).and ((Holds.kdl 124 rfl).and ((Holds.kdl 125 rfl).and ((Holds.kdl 126 rfl).and (Holds.true_ _))))))) ?_ (fun hp => ?_)
       ·conv=>whnf
        obtain ⟨e867, he867, h⟩ := idxn_some h
        refine ⟨_, ⟨(by omega), map_at he867, rfl⟩, ?_⟩
        conv=>whnf
        refine Side.mk rfl ?_
        conv=>whnf
        refine Side.mk rfl ?_
        conv=>whnf
        refine Side.mk rfl ?_
        conv=>whnf
        refine Nf.mk (List.length y638) len_map ?_
        conv=>whnf
        refine Both.mk ?_ ?_<;>intro b868
        ·replace h := cond_t b868 h
         have b868d := odt b868
         conv=>whnf
         cases h
         exact Join.mk (Ent.mk [(121, some 121), (122, some 122), (123, some 123), (124, some 124), (125, some 125), (126, some 126)] rfl ⟨eI rfl rfl, ⟨.own 121 _ 0, rfl, .own rfl rfl rfl⟩, ⟨.own 122 _ 0, rfl, .own rfl rfl rfl⟩, ⟨.own 123 _ 0, rfl, .own rfl rfl rfl⟩, eI rfl rfl, eI rfl rfl, eI rfl rfl, trivial⟩ ⟨.inl ⟨121, rfl, rfl, trivial⟩, .inl ⟨122, rfl, rfl, trivial⟩, .inl ⟨123, rfl, rfl, trivial⟩, .inl ⟨124, rfl, rfl, trivial⟩, .inl ⟨125, rfl, rfl, trivial⟩, .inl ⟨126, rfl, rfl, trivial⟩, trivial⟩ ⟨⟨121, .im _, rfl, rfl, .im (Sub.rfl' rfl)⟩, ⟨121, .im _, rfl, rfl, .im (Sub.rfl' rfl)⟩, ⟨121, .im (.val (.slice none 0 0)), rfl, rfl, .im (Sub.rfl' rfl)⟩, ⟨121, .im (.val (.slice none 0 0)), rfl, rfl, .im (Sub.rfl' rfl)⟩, ⟨121, .im (.val (.slice none 0 0)), rfl, rfl, .im (Sub.rfl' rfl)⟩, ⟨122, .im _, rfl, rfl, .im (Sub.rfl' rfl)⟩, ⟨122, .im _, rfl, rfl, .im (Sub.rfl' rfl)⟩, ⟨122, .im _, rfl, rfl, .im (Sub.rfl' rfl)⟩, ⟨122, .im _, rfl, rfl, .im (Sub.rfl' rfl)⟩, ⟨123, .im _, rfl, rfl, .im (Sub.rfl' rfl)⟩, ⟨123, .im _, rfl, rfl, .im (Sub.rfl' rfl)⟩, ⟨123, .osl 124 _, rfl, rfl, .osl rfl rfl rfl⟩, ⟨123, .osl 125 _, rfl, rfl, .osl rfl rfl rfl⟩, ⟨123, .osl 126 _, rfl, rfl, .osl rfl rfl rfl⟩, trivial⟩)
        ·replace h := cond_f b868 h
         have b868d := odf b868
         conv=>whnf
         obtain ⟨y896, hc, hk869⟩ := bind_some h
         clear h
         have h := hc
         clear hc
         refine Cut.mk (mkSt [(2, .im (.ref (c_api_Table t_))), (4, .own 121 1 0), (6, .own 122 1 0), (14, .own 123 1 0), (15, .im (nI (↑y639 : Int))), (17, .osl 127 1), (56, .im (nL cI c51.1.prefixes)), (57, .im (nI (↑(List.length c51.1.prefixes) : Int))), (58, .im (nI (↑y639 : Int)))] [(121, .box 60 5), (122, .box 111 4), (123, .box 60 5), (124, .row 38 1 (List.map (cL cI) y636)), (125, .row 38 1 (List.map (cL cI) y637)), (126, .row 38 1 (List.map (cL cI) y638)), (127, .row 3 1 (List.map cI y896))] [(121, 0, .im (nI 0)), (121, 1, .im (nI 0)), (121, 2, .im (.val (.slice none 0 0))), (121, 3, .im (.val (.slice none 0 0))), (121, 4, .im (.val (.slice none 0 0))), (122, 0, .im (nL (cL (cL cI)) c51.1.rows)), (122, 1, .im (nL cI c51.1.prefixes)), (122, 2, .im (nL (cL cI) c51.1.next)), (122, 3, .im (.any)), (123, 0, .im (nI t_.Inputs)), (123, 1, .im (nI 0)), (123, 2, .osl 124 1), (123, 3, .osl 125 1), (123, 4, .osl 126 1)]) (List.length c51.1.prefixes ≤ 17592186044416 ∧ List.length c51.1.rows ≤ 17592186044416 ∧ List.length c51.1.next ≤ 17592186044416 ∧ List.length y636 ≤ 17592186044416 ∧ List.length y637 ≤ 17592186044416 ∧ List.length y638 ≤ 17592186044416 ∧ List.length y896 ≤ 17592186044416 ∧ True) ((Holds.avl 56 rfl).and ((Holds.cel 122 0 rfl (by decide) rfl).and ((Holds.cel 122 2 rfl (by decide) rfl).and ((Holds.kdl 124 rfl).and ((Holds.kdl 125 rfl).and ((Holds.kdl 126 rfl).and ((Holds.kdl 127 rfl).and (Holds.true_ _)))))))) ?_ (fun hp => ?_)
         ·conv=>whnf
          refine Loops.iter (fun (s : List Int × Nat) => table_Hypothesis.s30 t_ c51 e867 s.1 s.2) (fun (y901, y902) => mkSt [(2, .im (.ref (c_api_Table t_))), (4, .own 121 1 0), (6, .own 122 1 0), (14, .own 123 1 0), (15, .im (nI (↑y639 : Int))), (16, .im (nI e867)), (17, .osl 127 1), (56, .im (nL cI c51.1.prefixes)), (57, .im (nI (↑(List.length c51.1.prefixes) : Int))), (58, .im (nI (↑y639 : Int))), (69, .im (nI t_.Inputs)), (70, .im (nI (↑y902 : Int)))] [(121, .box 60 5), (122, .box 111 4), (123, .box 60 5), (124, .row 38 1 (List.map (cL cI) y636)), (125, .row 38 1 (List.map (cL cI) y637)), (126, .row 38 1 (List.map (cL cI) y638)), (127, .row 3 1 (List.map cI y901))] [(121, 0, .im (nI 0)), (121, 1, .im (nI 0)), (121, 2, .im (.val (.slice none 0 0))), (121, 3, .im (.val (.slice none 0 0))), (121, 4, .im (.val (.slice none 0 0))), (122, 0, .im (nL (cL (cL cI)) c51.1.rows)), (122, 1, .im (nL cI c51.1.prefixes)), (122, 2, .im (nL (cL cI) c51.1.next)), (122, 3, .im (.any)), (123, 0, .im (nI t_.Inputs)), (123, 1, .im (nI 0)), (123, 2, .osl 124 1), (123, 3, .osl 125 1), (123, 4, .osl 126 1)]) (fun (y901, y902) => List.length c51.1.prefixes ≤ 17592186044416 ∧ List.length c51.1.rows ≤ 17592186044416 ∧ List.length c51.1.next ≤ 17592186044416 ∧ List.length y636 ≤ 17592186044416 ∧ List.length y637 ≤ 17592186044416 ∧ List.length y638 ≤ 17592186044416 ∧ List.length y901 ≤ 17592186044416 ∧ True) h (Ent.mk [(121, some 121), (122, some 122), (123, some 123), (124, some 124), (125, some 125), (126, some 126), (127, none)] rfl ⟨eI rfl rfl, ⟨.own 121 _ 0, rfl, .own rfl rfl rfl⟩, ⟨.own 122 _ 0, rfl, .own rfl rfl rfl⟩, ⟨.own 123 _ 0, rfl, .own rfl rfl rfl⟩, eI rfl rfl, eI rfl rfl, ⟨.im (.val (.slice none 0 0)), rfl, .made rfl rfl⟩, eI rfl rfl, eI rfl rfl, eI rfl rfl, eI rfl rfl, eI rfl rfl, trivial⟩ ⟨.inl ⟨121, rfl, rfl, trivial⟩, .inl ⟨122, rfl, rfl, trivial⟩, .inl ⟨123, rfl, rfl, trivial⟩, .inl ⟨124, rfl, rfl, trivial⟩, .inl ⟨125, rfl, rfl, trivial⟩, .inl ⟨126, rfl, rfl, trivial⟩, .inr ⟨rfl, rfl, .inl ⟨_, _, rfl, by decide⟩⟩, trivial⟩ ⟨⟨121, .im _, rfl, rfl, .im (Sub.rfl' rfl)⟩, ⟨121, .im _, rfl, rfl, .im (Sub.rfl' rfl)⟩, ⟨121, .im (.val (.slice none 0 0)), rfl, rfl, .im (Sub.rfl' rfl)⟩, ⟨121, .im (.val (.slice none 0 0)), rfl, rfl, .im (Sub.rfl' rfl)⟩, ⟨121, .im (.val (.slice none 0 0)), rfl, rfl, .im (Sub.rfl' rfl)⟩, ⟨122, .im _, rfl, rfl, .im (Sub.rfl' rfl)⟩, ⟨122, .im _, rfl, rfl, .im (Sub.rfl' rfl)⟩, ⟨122, .im _, rfl, rfl, .im (Sub.rfl' rfl)⟩, ⟨122, .im _, rfl, rfl, .im (Sub.rfl' rfl)⟩, ⟨123, .im _, rfl, rfl, .im (Sub.rfl' rfl)⟩, ⟨123, .im _, rfl, rfl, .im (Sub.rfl' rfl)⟩, ⟨123, .osl 124 _, rfl, rfl, .osl rfl rfl rfl⟩, ⟨123, .osl 125 _, rfl, rfl, .osl rfl rfl rfl⟩, ⟨123, .osl 126 _, rfl, rfl, .osl rfl rfl rfl⟩, trivial⟩) (by rintro ⟨y901, y902⟩; exact ((Holds.avl 56 rfl).and ((Holds.cel 122 0 rfl (by decide) rfl).and ((Holds.cel 122 2 rfl (by decide) rfl).and ((Holds.kdl 124 rfl).and ((Holds.kdl 125 rfl).and ((Holds.kdl 126 rfl).and ((Holds.kdl 127 rfl).and (Holds.true_ _))))))))) ?_
          clear h
          rintro k ⟨y901, y902⟩ o hp h ho909
          replace h : table_Hypothesis.s30 t_ c51 e867 y901 y902 = some o := h
          unfold table_Hypothesis.s30 at h
          obtain ⟨z916, z917, z918, z919, z920, z921, z922, _⟩ := hp
          conv=>whnf
          refine Both.mk ?_ ?_<;>intro b910
          ·replace h := cond_t b910 h
           have b910d := odt b910
           conv=>whnf
           refine Side.mk rfl ?_
           conv=>whnf
           refine Side.mk rfl ?_
           conv=>whnf
           obtain ⟨e911, he911z, he911, h⟩ := idx_some h
           refine ⟨_, ⟨he911z, map_at he911, rfl⟩, ?_⟩
           conv=>whnf
           obtain ⟨e912, he912, h⟩ := idxn_some h
           refine ⟨_, ⟨(by omega), map_at he912, rfl⟩, ?_⟩
           conv=>whnf
           obtain ⟨e913, he913, h⟩ := idxn_some h
           refine ⟨_, ⟨(by omega), map_at he913, rfl⟩, ?_⟩
           conv=>whnf
           obtain ⟨c914, h⟩ := chk_some h
           refine Side.mk ⟨rfl, map_len (l := [e913]) (c := cI) fun _ => rfl, show capOk _ 8 by simpa only [List.length_map, List.length_cons, List.length_nil, Nat.zero_add] using c914⟩ ?_
           conv=>whnf
           refine Nf.mk (List.map cI (y901 ++ [e913])) (app_map (l := y901) (m := [e913]) (c := cI)) ?_
           conv=>whnf
           obtain ⟨c915, h⟩ := chk_some h
           refine Side.mk c915 ?_
           conv=>whnf
           cases h
           exact Nxt.mk _ ho909 (Ent.mk [(121, some 121), (122, some 122), (123, some 123), (124, some 124), (125, some 125), (126, some 126), (127, some 127)] rfl ⟨eI rfl rfl, ⟨.own 121 _ 0, rfl, .own rfl rfl rfl⟩, ⟨.own 122 _ 0, rfl, .own rfl rfl rfl⟩, ⟨.own 123 _ 0, rfl, .own rfl rfl rfl⟩, eI rfl rfl, eI rfl rfl, ⟨.osl 127 _, rfl, .osl rfl rfl rfl⟩, eI rfl rfl, eI rfl rfl, eI rfl rfl, eI rfl rfl, eI rfl rfl, trivial⟩ ⟨.inl ⟨121, rfl, rfl, trivial⟩, .inl ⟨122, rfl, rfl, trivial⟩, .inl ⟨123, rfl, rfl, trivial⟩, .inl ⟨124, rfl, rfl, trivial⟩, .inl ⟨125, rfl, rfl, trivial⟩, .inl ⟨126, rfl, rfl, trivial⟩, .inl ⟨127, rfl, rfl, trivial⟩, trivial⟩ ⟨⟨121, .im _, rfl, rfl, .im (Sub.rfl' rfl)⟩, ⟨121, .im _, rfl, rfl, .im (Sub.rfl' rfl)⟩, ⟨121, .im (.val (.slice none 0 0)), rfl, rfl, .im (Sub.rfl' rfl)⟩, ⟨121, .im (.val (.slice none 0 0)), rfl, rfl, .im (Sub.rfl' rfl)⟩, ⟨121, .im (.val (.slice none 0 0)), rfl, rfl, .im (Sub.rfl' rfl)⟩, ⟨122, .im _, rfl, rfl, .im (Sub.rfl' rfl)⟩, ⟨122, .im _, rfl, rfl, .im (Sub.rfl' rfl)⟩, ⟨122, .im _, rfl, rfl, .im (Sub.rfl' rfl)⟩, ⟨122, .im _, rfl, rfl, .im (Sub.rfl' rfl)⟩, ⟨123, .im _, rfl, rfl, .im (Sub.rfl' rfl)⟩, ⟨123, .im _, rfl, rfl, .im (Sub.rfl' rfl)⟩, ⟨123, .osl 124 _, rfl, rfl, .osl rfl rfl rfl⟩, ⟨123, .osl 125 _, rfl, rfl, .osl rfl rfl rfl⟩, ⟨123, .osl 126 _, rfl, rfl, .osl rfl rfl rfl⟩, trivial⟩)
          ·replace h := cond_f b910 h
           have b910d := odf b910
           conv=>whnf
           cases h
           have ho909 : _ = _ := ho909
           cases ho909
           exact Join.mk (Ent.mk [(121, some 121), (122, some 122), (123, some 123), (124, some 124), (125, some 125), (126, some 126), (127, some 127)] rfl ⟨eI rfl rfl, ⟨.own 121 _ 0, rfl, .own rfl rfl rfl⟩, ⟨.own 122 _ 0, rfl, .own rfl rfl rfl⟩, ⟨.own 123 _ 0, rfl, .own rfl rfl rfl⟩, eI rfl rfl, ⟨.osl 127 _, rfl, .osl rfl rfl rfl⟩, eI rfl rfl, eI rfl rfl, eI rfl rfl, trivial⟩ ⟨.inl ⟨121, rfl, rfl, trivial⟩, .inl ⟨122, rfl, rfl, trivial⟩, .inl ⟨123, rfl, rfl, trivial⟩, .inl ⟨124, rfl, rfl, trivial⟩, .inl ⟨125, rfl, rfl, trivial⟩, .inl ⟨126, rfl, rfl, trivial⟩, .inl ⟨127, rfl, rfl, trivial⟩, trivial⟩ ⟨⟨121, .im _, rfl, rfl, .im (Sub.rfl' rfl)⟩, ⟨121, .im _, rfl, rfl, .im (Sub.rfl' rfl)⟩, ⟨121, .im (.val (.slice none 0 0)), rfl, rfl, .im (Sub.rfl' rfl)⟩, ⟨121, .im (.val (.slice none 0 0)), rfl, rfl, .im (Sub.rfl' rfl)⟩, ⟨121, .im (.val (.slice none 0 0)), rfl, rfl, .im (Sub.rfl' rfl)⟩, ⟨122, .im _, rfl, rfl, .im (Sub.rfl' rfl)⟩, ⟨122, .im _, rfl, rfl, .im (Sub.rfl' rfl)⟩, ⟨122, .im _, rfl, rfl, .im (Sub.rfl' rfl)⟩, ⟨122, .im _, rfl, rfl, .im (Sub.rfl' rfl)⟩, ⟨123, .im _, rfl, rfl, .im (Sub.rfl' rfl)⟩, ⟨123, .im _, rfl, rfl, .im (Sub.rfl' rfl)⟩, ⟨123, .osl 124 _, rfl, rfl, .osl rfl rfl rfl⟩, ⟨123, .osl 125 _, rfl, rfl, .osl rfl rfl rfl⟩, ⟨123, .osl 126 _, rfl, rfl, .osl rfl rfl rfl⟩, trivial⟩)
         ·replace h := hk869
          obtain ⟨z923, z924, z925, z926, z927, z928, z929, _⟩ := hp
          conv=>whnf
          refine Side.mk rfl ?_
          conv=>whnf
          refine Side.mk rfl ?_
          conv=>whnf
          refine Side.mk rfl ?_
          conv=>whnf
          refine Side.mk rfl ?_
          conv=>whnf
          refine Side.mk rfl ?_
          conv=>whnf
          obtain ⟨e930, he930, h⟩ := idxn_some h
          refine ⟨_, ⟨(by omega), map_at he930, rfl⟩, ?_⟩
          conv=>whnf
          obtain ⟨c931, hc931, h⟩ := bind_some h
          refine ⟨_, (sp_lib_Clone_int e930 c931 (hc931)).im, ?_⟩
          conv=>whnf
          obtain ⟨c932, h⟩ := chk_some h
          refine Side.mk ⟨rfl, map_len (l := [c931]) (c := cL cI) fun _ => rfl, show capOk _ 24 by simpa only [List.length_map, List.length_cons, List.length_nil, Nat.zero_add] using c932⟩ ?_
          conv=>whnf
          refine Nf.mk (List.map (cL cI) (y636 ++ [c931])) (app_map (l := y636) (m := [c931]) (c := cL cI)) ?_
          conv=>whnf
          refine Side.mk rfl ?_
          conv=>whnf
          refine Side.mk rfl ?_
          conv=>whnf
          refine Side.mk rfl ?_
          conv=>whnf
          refine Side.mk rfl ?_
          conv=>whnf
          refine Side.mk rfl ?_
          conv=>whnf
          refine Side.mk rfl ?_
          conv=>whnf
          refine Side.mk ⟨rfl, trivial⟩ ?_
          conv=>whnf
          obtain ⟨c933, h⟩ := chk_some h
          refine Side.mk ⟨rfl, map_len (l := [y896]) (c := cL cI) fun _ => rfl, show capOk _ 24 by simpa only [List.length_map, List.length_cons, List.length_nil, Nat.zero_add] using c933⟩ ?_
          conv=>whnf
          refine Nf.mk (List.map (cL cI) (y637 ++ [y896])) (app_map (l := y637) (m := [y896]) (c := cL cI)) ?_
          conv=>whnf
          refine Side.mk rfl ?_
          conv=>whnf
          refine Side.mk rfl ?_
          conv=>whnf
          refine Side.mk rfl ?_
          conv=>whnf
          refine Side.mk rfl ?_
          conv=>whnf
          refine Side.mk rfl ?_
          conv=>whnf
          obtain ⟨e934, he934, h⟩ := idxn_some h
          refine ⟨_, ⟨(by omega), map_at he934, rfl⟩, ?_⟩
          conv=>whnf
          obtain ⟨c935, hc935, h⟩ := bind_some h
          refine ⟨_, (sp_lib_Clone_int e934 c935 (hc935)).im, ?_⟩
          conv=>whnf
          obtain ⟨c936, h⟩ := chk_some h
          refine Side.mk ⟨rfl, map_len (l := [c935]) (c := cL cI) fun _ => rfl, show capOk _ 24 by simpa only [List.length_map, List.length_cons, List.length_nil, Nat.zero_add] using c936⟩ ?_
          conv=>whnf
          refine Nf.mk (List.map (cL cI) (y638 ++ [c935])) (app_map (l := y638) (m := [c935]) (c := cL cI)) ?_
          conv=>whnf
          refine Side.mk rfl ?_
          conv=>whnf
          refine Side.mk rfl ?_
          conv=>whnf
          cases h
          exact Join.mk (Ent.mk [(121, some 121), (122, some 122), (123, some 123), (124, some 124), (125, some 125), (126, some 126)] rfl ⟨eI rfl rfl, ⟨.own 121 _ 0, rfl, .own rfl rfl rfl⟩, ⟨.own 122 _ 0, rfl, .own rfl rfl rfl⟩, ⟨.own 123 _ 0, rfl, .own rfl rfl rfl⟩, eI rfl rfl, eI rfl rfl, eI rfl rfl, trivial⟩ ⟨.inl ⟨121, rfl, rfl, trivial⟩, .inl ⟨122, rfl, rfl, trivial⟩, .inl ⟨123, rfl, rfl, trivial⟩, .inl ⟨124, rfl, rfl, trivial⟩, .inl ⟨125, rfl, rfl, trivial⟩, .inl ⟨126, rfl, rfl, trivial⟩, trivial⟩ ⟨⟨121, .im _, rfl, rfl, .im (Sub.rfl' rfl)⟩, ⟨121, .im _, rfl, rfl, .im (Sub.rfl' rfl)⟩, ⟨121, .im (.val (.slice none 0 0)), rfl, rfl, .im (Sub.rfl' rfl)⟩, ⟨121, .im (.val (.slice none 0 0)), rfl, rfl, .im (Sub.rfl' rfl)⟩, ⟨121, .im (.val (.slice none 0 0)), rfl, rfl, .im (Sub.rfl' rfl)⟩, ⟨122, .im _, rfl, rfl, .im (Sub.rfl' rfl)⟩, ⟨122, .im _, rfl, rfl, .im (Sub.rfl' rfl)⟩, ⟨122, .im _, rfl, rfl, .im (Sub.rfl' rfl)⟩, ⟨122, .im _, rfl, rfl, .im (Sub.rfl' rfl)⟩, ⟨123, .im _, rfl, rfl, .im (Sub.rfl' rfl)⟩, ⟨123, .im _, rfl, rfl, .im (Sub.rfl' rfl)⟩, ⟨123, .osl 124 _, rfl, rfl, .osl rfl rfl rfl⟩, ⟨123, .osl 125 _, rfl, rfl, .osl rfl rfl rfl⟩, ⟨123, .osl 126 _, rfl, rfl, .osl rfl rfl rfl⟩, trivial⟩)
       ·replace h : table_Hypothesis.k31 y639 y864 y865 y866 = some _ := hk793
        unfold table_Hypothesis.k31 at h
        obtain ⟨z937, z938, z939, z940, z941, z942, _⟩ := hp
        conv=>whnf
        refine Side.mk (by show inR _; unfold inR; omega) ?_
        conv=>whnf
        cases h
        exact Nxt.mk _ ho791 (Ent.mk [(121, some 121), (122, some 122), (123, some 123), (124, some 124), (125, some 125), (126, some 126)] rfl ⟨eI rfl rfl, ⟨.own 121 _ 0, rfl, .own rfl rfl rfl⟩, ⟨.own 122 _ 0, rfl, .own rfl rfl rfl⟩, ⟨.own 123 _ 0, rfl, .own rfl rfl rfl⟩, eI rfl rfl, eI rfl rfl, eI rfl rfl, trivial⟩ ⟨.inl ⟨121, rfl, rfl, trivial⟩, .inl ⟨122, rfl, rfl, trivial⟩, .inl ⟨123, rfl, rfl, trivial⟩, .inl ⟨124, rfl, rfl, trivial⟩, .inl ⟨125, rfl, rfl, trivial⟩, .inl ⟨126, rfl, rfl, trivial⟩, trivial⟩ ⟨⟨121, .im _, rfl, rfl, .im (Sub.rfl' rfl)⟩, ⟨121, .im _, rfl, rfl, .im (Sub.rfl' rfl)⟩, ⟨121, .im (.val (.slice none 0 0)), rfl, rfl, .im (Sub.rfl' rfl)⟩, ⟨121, .im (.val (.slice none 0 0)), rfl, rfl, .im (Sub.rfl' rfl)⟩, ⟨121, .im (.val (.slice none 0 0)), rfl, rfl, .im (Sub.rfl' rfl)⟩, ⟨122, .im _, rfl, rfl, .im (Sub.rfl' rfl)⟩, ⟨122, .im _, rfl, rfl, .im (Sub.rfl' rfl)⟩, ⟨122, .im _, rfl, rfl, .im (Sub.rfl' rfl)⟩, ⟨122, .im _, rfl, rfl, .im (Sub.rfl' rfl)⟩, ⟨123, .im _, rfl, rfl, .im (Sub.rfl' rfl)⟩, ⟨123, .im _, rfl, rfl, .im (Sub.rfl' rfl)⟩, ⟨123, .osl 124 _, rfl, rfl, .osl rfl rfl rfl⟩, ⟨123, .osl 125 _, rfl, rfl, .osl rfl rfl rfl⟩, ⟨123, .osl 126 _, rfl, rfl, .osl rfl rfl rfl⟩, trivial⟩)
      ·replace h := cond_f b792 h
       have b792d := odf b792
       conv=>whnf
       cases h
       have ho791 : _ = _ := ho791
       cases ho791
       exact Join.mk (Ent.mk [(121, some 121), (122, some 123), (123, some 124), (124, some 125), (125, some 126)] rfl ⟨⟨.own 121 _ 0, rfl, .own rfl rfl rfl⟩, ⟨.own 123 _ 0, rfl, .own rfl rfl rfl⟩, trivial⟩ ⟨.inl ⟨121, rfl, rfl, trivial⟩, .inl ⟨123, rfl, rfl, trivial⟩, .inl ⟨124, rfl, rfl, trivial⟩, .inl ⟨125, rfl, rfl, trivial⟩, .inl ⟨126, rfl, rfl, trivial⟩, trivial⟩ ⟨⟨121, .im _, rfl, rfl, .im (Sub.rfl' rfl)⟩, ⟨121, .im _, rfl, rfl, .im (Sub.rfl' rfl)⟩, ⟨121, .im (.val (.slice none 0 0)), rfl, rfl, .im (Sub.rfl' rfl)⟩, ⟨121, .im (.val (.slice none 0 0)), rfl, rfl, .im (Sub.rfl' rfl)⟩, ⟨121, .im (.val (.slice none 0 0)), rfl, rfl, .im (Sub.rfl' rfl)⟩, ⟨123, .im _, rfl, rfl, .im (Sub.rfl' rfl)⟩, ⟨123, .im _, rfl, rfl, .im (Sub.rfl' rfl)⟩, ⟨123, .osl 124 _, rfl, rfl, .osl rfl rfl rfl⟩, ⟨123, .osl 125 _, rfl, rfl, .osl rfl rfl rfl⟩, ⟨123, .osl 126 _, rfl, rfl, .osl rfl rfl rfl⟩, trivial⟩)
     ·replace h : table_Hypothesis.k33 t_ y506 y507 y508 = some _ := hk65
      unfold table_Hypothesis.k33 at h
      obtain ⟨z949, z950, z951, _⟩ := hp
      conv=>whnf
      refine Side.mk rfl ?_
      conv=>whnf
      refine Side.mk rfl ?_
      conv=>whnf
      cases h
      conv=>whnf
      refine Side.mk ⟨rfl, trivial⟩ ?_
      conv=>whnf
      exact Side.mk ⟨rfl, rfl, rfl, trivial⟩ ⟨rfl, rfl⟩
theorem sp_R06_Outs (m_ : T_api_Mealy) (s_ : Int) (w_ : List Int) (r : List Int × Int) (h : Ok (.agg (c_api_Mealy m_)) → Ok (nI s_) → Ok (nL cI w_) → R06_Outs m_ s_ w_ = some r) : Sp Tryz.prog 41 [.im (.agg (c_api_Mealy m_)), .im (nI s_), .im (nL cI w_)] (.tup [nL cI r.1, nI r.2]) := by
 refine sp_of rfl [700003] rfl rfl rfl (Nat.le_of_ble_eq_true rfl) rfl fun hk => ?_
 replace h := h hk.1 hk.2.1 hk.2.2.1
 have z1 : List.length m_.Next ≤ 17592186044416 := ok_len (Ok.agg_at hk.1 2 rfl)
 have z2 : List.length m_.Out ≤ 17592186044416 := ok_len (Ok.agg_at hk.1 3 rfl)
 have z3 : List.length w_ ≤ 17592186044416 := ok_len hk.2.2.1
 unfold R06_Outs at h
 conv=>whnf
 obtain ⟨⟨s81, y82⟩, hc, hk51⟩ := bind_some h
 clear h
 have h := hc
 clear hc
 refine Cut.mk (mkSt [(1, .im (nI s81)), (8, .osl 64 1)] [(64, .row 3 1 (List.map cI y82))] []) (List.length y82 ≤ 17592186044416 ∧ True) ((Holds.kdl 64 rfl).and (Holds.true_ _)) ?_ (fun hp => ?_)
 ·conv=>whnf
  refine Loops.iter (fun (s : Int × List Int × Nat) => R06_Outs.s2 m_ w_ s.1 s.2.1 s.2.2) (fun (s90, y91, i92) => mkSt [(1, .im (nI s90)), (2, .im (nL cI w_)), (3, .im (.ref (c_api_Mealy m_))), (8, .osl 64 1), (9, .im (nI (↑i92 : Int)))] [(64, .row 3 1 (List.map cI y91))] []) (fun (s90, y91, i92) => List.length w_ ≤ 17592186044416 ∧ List.length y91 ≤ 17592186044416 ∧ True) h (Ent.mk [(64, none)] rfl ⟨eI rfl rfl, eI rfl rfl, eI rfl rfl, ⟨.im (.val (.slice none 0 0)), rfl, .made rfl rfl⟩, eI rfl rfl, trivial⟩ ⟨.inr ⟨rfl, rfl, .inl ⟨_, _, rfl, by decide⟩⟩, trivial⟩ trivial) (by rintro ⟨s90, y91, i92⟩; exact ((Holds.avl 2 rfl).and ((Holds.kdl 64 rfl).and (Holds.true_ _)))) ?_
  clear h
  rintro k ⟨s90, y91, i92⟩ o hp h ho101
  replace h : R06_Outs.s2 m_ w_ s90 y91 i92 = some o := h
  unfold R06_Outs.s2 at h
  obtain ⟨z110, z111, _⟩ := hp
  conv=>whnf
  refine Nf.mk (List.length w_) len_map ?_
  conv=>whnf
  refine Both.mk ?_ ?_<;>intro b102
  ·replace h := cond_t b102 h
   have b102d := odt b102
   conv=>whnf
   obtain ⟨e103, he103z, he103, h⟩ := idx_some h
   refine ⟨_, ⟨he103z, map_at he103, rfl⟩, ?_⟩
   conv=>whnf
   obtain ⟨e104, he104, h⟩ := idxn_some h
   refine ⟨_, ⟨(by omega), map_at he104, rfl⟩, ?_⟩
   conv=>whnf
   obtain ⟨e105, he105z, he105, h⟩ := idx_some h
   refine ⟨_, ⟨he105z, map_at he105, rfl⟩, ?_⟩
   conv=>whnf
   obtain ⟨c106, h⟩ := chk_some h
   refine Side.mk ⟨rfl, map_len (l := [e105]) (c := cI) fun _ => rfl, show capOk _ 8 by simpa only [List.length_map, List.length_cons, List.length_nil, Nat.zero_add] using c106⟩ ?_
   conv=>whnf
   refine Nf.mk (List.map cI (y91 ++ [e105])) (app_map (l := y91) (m := [e105]) (c := cI)) ?_
   conv=>whnf
   obtain ⟨e107, he107z, he107, h⟩ := idx_some h
   refine ⟨_, ⟨he107z, map_at he107, rfl⟩, ?_⟩
   conv=>whnf
   obtain ⟨e108, he108, h⟩ := idxn_some h
   refine ⟨_, ⟨(by omega), map_at he108, rfl⟩, ?_⟩
   conv=>whnf
   obtain ⟨e109, he109z, he109, h⟩ := idx_some h
   refine ⟨_, ⟨he109z, map_at he109, rfl⟩, ?_⟩
   conv=>whnf
   refine Side.mk (by show inR _; unfold inR; omega) ?_
   conv=>whnf
   cases h
   exact Nxt.mk _ ho101 (Ent.mk [(64, some 64)] rfl ⟨eI rfl rfl, eI rfl rfl, eI rfl rfl, ⟨.osl 64 _, rfl, .osl rfl rfl rfl⟩, eI rfl rfl, trivial⟩ ⟨.inl ⟨64, rfl, rfl, trivial⟩, trivial⟩ trivial)
  ·replace h := cond_f b102 h
   have b102d := odf b102
   conv=>whnf
   cases h
   have ho101 : _ = _ := ho101
   cases ho101
   exact Join.mk (Ent.mk [(64, some 64)] rfl ⟨eI rfl rfl, ⟨.osl 64 _, rfl, .osl rfl rfl rfl⟩, trivial⟩ ⟨.inl ⟨64, rfl, rfl, trivial⟩, trivial⟩ trivial)
 ·replace h : R06_Outs.k3 s81 y82 = some _ := hk51
  unfold R06_Outs.k3 at h
  obtain ⟨z112, _⟩ := hp
  conv=>whnf
  cases h
  conv=>whnf
  exact Side.mk ⟨rfl, trivial⟩ ⟨rfl, rfl⟩
theorem sp_R06_row (m_ : T_api_Mealy) (s_ : Int) (r : Int) (h : Ok (.agg (c_api_Mealy m_)) → Ok (nI s_) → R06_row m_ s_ = some r) : Sp Tryz.prog 100 [.im (.agg (c_api_Mealy m_)), .im (nI s_)] (.im (nI r)) := by
 refine sp_of rfl [700002] rfl rfl rfl (Nat.le_of_ble_eq_true rfl) rfl fun hk => ?_
 replace h := h hk.1 hk.2.1
 have z1 : List.length m_.Next ≤ 17592186044416 := ok_len (Ok.agg_at hk.1 2 rfl)
 have z2 : List.length m_.Out ≤ 17592186044416 := ok_len (Ok.agg_at hk.1 3 rfl)
 unfold R06_row at h
 conv=>whnf
 obtain ⟨y56, hc, hk52⟩ := bind_some h
 clear h
 have h := hc
 clear hc
 refine Cut.mk (mkSt [(1, .im (nI s_)), (2, .im (.ref (c_api_Mealy m_))), (25, .im (nB y56))] [] []) (True) (Holds.true_ _) ?_ (fun hp => ?_)
 ·conv=>whnf
  obtain ⟨e57, he57z, he57, h⟩ := idx_some h
  refine ⟨_, ⟨he57z, map_at he57, rfl⟩, ?_⟩
  conv=>whnf
  refine Nf.mk (List.length e57) len_map ?_
  conv=>whnf
  refine Both.mk ?_ ?_<;>intro b58
  ·replace b58 := beq_ff b58
   replace h := cond_f b58 h
   have b58d := odf b58
   conv=>whnf
   iterate 3 (refine Both.yes (ff_beq b58) ?_; (conv=>whnf))
   obtain ⟨e59, he59z, he59, h⟩ := idx_some h
   refine ⟨_, ⟨he59z, map_at he59, rfl⟩, ?_⟩
   conv=>whnf
   iterate 2 (refine Both.yes (ff_beq b58) ?_; (conv=>whnf))
   refine Nf.mk (List.length e59) len_map ?_
   conv=>whnf
   iterate 3 (refine Both.yes (ff_beq b58) ?_; (conv=>whnf))
   refine Both.no b58 ?_
   conv=>whnf
   cases h
   exact Join.mk (Ent.mk [] rfl ⟨eI rfl rfl, eI rfl rfl, eI rfl rfl, trivial⟩ trivial trivial)
  ·replace b58 := beq_ft b58
   replace h := cond_t b58 h
   have b58d := odt b58
   conv=>whnf
   iterate 8 (refine Both.no (tf_beq b58) ?_; (conv=>whnf))
   refine Both.yes b58 ?_
   conv=>whnf
   cases h
   exact Join.mk (Ent.mk [] rfl ⟨eI rfl rfl, eI rfl rfl, eI rfl rfl, trivial⟩ trivial trivial)
 ·replace h := hk52
  conv=>whnf
  refine Both.mk ?_ ?_<;>intro b60
  ·replace h := cond_t b60 h
   conv=>whnf
   cases h
   conv=>whnf
   exact ⟨rfl, rfl⟩
  ·replace h := cond_f b60 h
   conv=>whnf
   obtain ⟨oc, hc, hk61⟩ := bind_some h
   clear h
   have h := hc
   clear hc
   refine Cut.mkS oc (Y := Unit) (fun (_ : Unit) => mkSt [] [] []) (fun (_ : Unit) => True) (by rintro ⟨⟩; exact (Holds.true_ _)) ?_ ?_
   ·conv=>whnf
    refine Loops.iter (fun (s : Nat) => R06_row.s2 m_ s_ s) (fun a174 => mkSt [(1, .im (nI s_)), (2, .im (.ref (c_api_Mealy m_))), (5, .im (nI (↑a174 : Int)))] [] []) (fun a174 => True) h (Ent.mk [] rfl ⟨eI rfl rfl, eI rfl rfl, eI rfl rfl, trivial⟩ trivial trivial) (by rintro a174; exact (Holds.true_ _)) ?_
    clear h
    rintro k a174 o hp h ho203
    replace h : R06_row.s2 m_ s_ a174 = some o := h
    unfold R06_row.s2 at h
    conv=>whnf
    refine Both.mk ?_ ?_<;>intro b204
    ·replace h := cond_t b204 h
     have b204d := odt b204
     conv=>whnf
     obtain ⟨y218, hc, hk206⟩ := bind_some h
     clear h
     have h := hc
     clear hc
     refine Cut.mk (mkSt [(1, .im (nI s_)), (2, .im (.ref (c_api_Mealy m_))), (5, .im (nI (↑a174 : Int))), (76, .im (nB y218))] [] []) (True) (Holds.true_ _) ?_ (fun hp => ?_)
     ·conv=>whnf
      obtain ⟨e219, he219z, he219, h⟩ := idx_some h
      refine ⟨_, ⟨he219z, map_at he219, rfl⟩, ?_⟩
      conv=>whnf
      obtain ⟨e220, he220, h⟩ := idxn_some h
      refine ⟨_, ⟨(by omega), map_at he220, rfl⟩, ?_⟩
      conv=>whnf
      refine Both.mk ?_ ?_<;>intro b221
      ·replace b221 := beq_ff b221
       replace h := cond_f b221 h
       have b221d := odf b221
       conv=>whnf
       iterate 3 (refine Both.yes (ff_beq b221) ?_; (conv=>whnf))
       obtain ⟨e222, he222z, he222, h⟩ := idx_some h
       refine ⟨_, ⟨he222z, map_at he222, rfl⟩, ?_⟩
       conv=>whnf
       iterate 3 (refine Both.yes (ff_beq b221) ?_; (conv=>whnf))
       obtain ⟨e223, he223, h⟩ := idxn_some h
       refine ⟨_, ⟨(by omega), map_at he223, rfl⟩, ?_⟩
       conv=>whnf
       iterate 4 (refine Both.yes (ff_beq b221) ?_; (conv=>whnf))
       refine Nf.mk (List.length m_.Next) len_map ?_
       conv=>whnf
       refine Both.yes (ff_beq b221) ?_
       conv=>whnf
       refine Both.no b221 ?_
       conv=>whnf
       refine Both.mk ?_ ?_<;>intro b224
       ·replace b224 := beq_ff b224
        replace h := cond_f b224 h
        have b224d := odf b224
        conv=>whnf
        iterate 3 (refine Both.yes (ff_beq b224) ?_; (conv=>whnf))
        obtain ⟨e225, he225z, he225, h⟩ := idx_some h
        refine ⟨_, ⟨he225z, map_at he225, rfl⟩, ?_⟩
        conv=>whnf
        iterate 3 (refine Both.yes (ff_beq b224) ?_; (conv=>whnf))
        obtain ⟨e226, he226, h⟩ := idxn_some h
        refine ⟨_, ⟨(by omega), map_at he226, rfl⟩, ?_⟩
        conv=>whnf
        iterate 2 (refine Both.yes (ff_beq b224) ?_; (conv=>whnf))
        refine Both.no b224 ?_
        conv=>whnf
        refine Both.mk ?_ ?_<;>intro b227
        ·replace b227 := beq_ff b227
         replace h := cond_f b227 h
         have b227d := odf b227
         conv=>whnf
         iterate 3 (refine Both.yes (ff_beq b227) ?_; (conv=>whnf))
         obtain ⟨e228, he228z, he228, h⟩ := idx_some h
         refine ⟨_, ⟨he228z, map_at he228, rfl⟩, ?_⟩
         conv=>whnf
         iterate 3 (refine Both.yes (ff_beq b227) ?_; (conv=>whnf))
         obtain ⟨e229, he229, h⟩ := idxn_some h
         refine ⟨_, ⟨(by omega), map_at he229, rfl⟩, ?_⟩
         conv=>whnf
         iterate 2 (refine Both.yes (ff_beq b227) ?_; (conv=>whnf))
         refine Both.no b227 ?_
         conv=>whnf
         cases h
         exact Join.mk (Ent.mk [] rfl ⟨eI rfl rfl, eI rfl rfl, eI rfl rfl, eI rfl rfl, trivial⟩ trivial trivial)
        ·replace b227 := beq_ft b227
         replace h := cond_t b227 h
         have b227d := odt b227
         conv=>whnf
         iterate 8 (refine Both.no (tf_beq b227) ?_; (conv=>whnf))
         refine Both.yes b227 ?_
         conv=>whnf
         cases h
         exact Join.mk (Ent.mk [] rfl ⟨eI rfl rfl, eI rfl rfl, eI rfl rfl, eI rfl rfl, trivial⟩ trivial trivial)
       ·replace b224 := beq_ft b224
        replace h := cond_t b224 h
        have b224d := odt b224
        conv=>whnf
        iterate 8 (refine Both.no (tf_beq b224) ?_; (conv=>whnf))
        refine Both.yes b224 ?_
        conv=>whnf
        iterate 9 (refine Both.no rfl ?_; (conv=>whnf))
        refine Both.yes rfl ?_
        conv=>whnf
        cases h
        exact Join.mk (Ent.mk [] rfl ⟨eI rfl rfl, eI rfl rfl, eI rfl rfl, eI rfl rfl, trivial⟩ trivial trivial)
      ·replace b221 := beq_ft b221
       replace h := cond_t b221 h
       have b221d := odt b221
       conv=>whnf
       iterate 11 (refine Both.no (tf_beq b221) ?_; (conv=>whnf))
       refine Both.yes b221 ?_
       conv=>whnf
       iterate 9 (refine Both.no rfl ?_; (conv=>whnf))
       refine Both.yes rfl ?_
       conv=>whnf
       iterate 9 (refine Both.no rfl ?_; (conv=>whnf))
       refine Both.yes rfl ?_
       conv=>whnf
       cases h
       exact Join.mk (Ent.mk [] rfl ⟨eI rfl rfl, eI rfl rfl, eI rfl rfl, eI rfl rfl, trivial⟩ trivial trivial)
     ·replace h := hk206
      conv=>whnf
      refine Both.mk ?_ ?_<;>intro b230
      ·replace h := cond_t b230 h
       conv=>whnf
       cases h
       have ho203 : _ = _ := ho203
       cases ho203
       replace h : some _ = some _ := hk61
       cases h
       conv=>whnf
       exact ⟨rfl, rfl⟩
      ·replace h := cond_f b230 h
       conv=>whnf
       obtain ⟨c231, h⟩ := chk_some h
       refine Side.mk c231 ?_
       conv=>whnf
       cases h
       exact Nxt.mk _ ho203 (Ent.mk [] rfl ⟨eI rfl rfl, eI rfl rfl, eI rfl rfl, trivial⟩ trivial trivial)
    ·replace h := cond_f b204 h
     have b204d := odf b204
     conv=>whnf
     cases h
     have ho203 : _ = _ := ho203
     cases ho203
     exact JoinS.mk' _ rfl (Ent.mk [] rfl trivial trivial trivial)
   ·rintro ⟨⟩ rfl hp
    replace h := sum_inl hk61
    conv=>whnf
    cases h
    conv=>whnf
    exact ⟨rfl, rfl⟩
theorem sp_R06_Valid (m_ : T_api_Mealy) (r : Int) (h : Ok (.agg (c_api_Mealy m_)) → R06_Valid m_ = some r) : Sp Tryz.prog 43 [.im (.agg (c_api_Mealy m_))] (.im (nI r)) := by
 refine sp_of rfl [700001] rfl rfl rfl (Nat.le_of_ble_eq_true rfl) rfl fun hk => ?_
 replace h := h hk.1
 have z1 : List.length m_.Next ≤ 17592186044416 := ok_len (Ok.agg_at hk.1 2 rfl)
 have z2 : List.length m_.Out ≤ 17592186044416 := ok_len (Ok.agg_at hk.1 3 rfl)
 unfold R06_Valid at h
 conv=>whnf
 obtain ⟨y54, hc, hk52⟩ := bind_some h
 clear h
 have h := hc
 clear hc
 refine Cut.mk (mkSt [(1, .im (.ref (c_api_Mealy m_))), (12, .im (nB y54))] [] []) (True) (Holds.true_ _) ?_ (fun hp => ?_)
 ·conv=>whnf
  refine Both.mk ?_ ?_<;>intro b55
  ·replace b55 := beq_ff b55
   replace h := cond_f b55 h
   have b55d := odf b55
   conv=>whnf
   iterate 2 (refine Both.yes (ff_beq b55) ?_; (conv=>whnf))
   refine Both.no b55 ?_
   conv=>whnf
   cases h
   exact Join.mk (Ent.mk [] rfl ⟨eI rfl rfl, eI rfl rfl, trivial⟩ trivial trivial)
  ·replace b55 := beq_ft b55
   replace h := cond_t b55 h
   have b55d := odt b55
   conv=>whnf
   iterate 2 (refine Both.no (tf_beq b55) ?_; (conv=>whnf))
   refine Both.yes b55 ?_
   conv=>whnf
   cases h
   exact Join.mk (Ent.mk [] rfl ⟨eI rfl rfl, eI rfl rfl, trivial⟩ trivial trivial)
 ·replace h := hk52
  conv=>whnf
  refine Both.mk ?_ ?_<;>intro b56
  ·replace h := cond_t b56 h
   conv=>whnf
   cases h
   conv=>whnf
   exact ⟨rfl, rfl⟩
  ·replace h := cond_f b56 h
   conv=>whnf
   refine Nf.mk (List.length m_.Next) len_map ?_
   conv=>whnf
   refine Both.mk ?_ ?_<;>intro b57
   ·replace h := cond_t b57 h
    have b57d := odt b57
    conv=>whnf
    cases h
    conv=>whnf
    exact ⟨rfl, rfl⟩
   ·replace h := cond_f b57 h
    have b57d := odf b57
    conv=>whnf
    refine Nf.mk (List.length m_.Next) len_map ?_
    conv=>whnf
    refine Both.mk ?_ ?_<;>intro b58
    ·replace h := cond_t b58 h
     have b58d := odt b58
     conv=>whnf
     cases h
     conv=>whnf
     exact ⟨rfl, rfl⟩
    ·replace h := cond_f b58 h
     have b58d := odf b58
     conv=>whnf
     obtain ⟨y62, hc, hk60⟩ := bind_some h
     clear h
     have h := hc
     clear hc
     refine Cut.mk (mkSt [(1, .im (.ref (c_api_Mealy m_))), (31, .im (nB y62))] [] []) (True) (Holds.true_ _) ?_ (fun hp => ?_)
     ·conv=>whnf
      refine Both.mk ?_ ?_<;>intro b63
      ·replace b63 := beq_ff b63
       replace h := cond_f b63 h
       have b63d := odf b63
       conv=>whnf
       iterate 4 (refine Both.yes (ff_beq b63) ?_; (conv=>whnf))
       refine Nf.mk (List.length m_.Next) len_map ?_
       conv=>whnf
       refine Both.yes (ff_beq b63) ?_
       conv=>whnf
       refine Both.no b63 ?_
       conv=>whnf
       cases h
       exact Join.mk (Ent.mk [] rfl ⟨eI rfl rfl, eI rfl rfl, trivial⟩ trivial trivial)
      ·replace b63 := beq_ft b63
       replace h := cond_t b63 h
       have b63d := odt b63
       conv=>whnf
       iterate 5 (refine Both.no (tf_beq b63) ?_; (conv=>whnf))
       refine Both.yes b63 ?_
       conv=>whnf
       cases h
       exact Join.mk (Ent.mk [] rfl ⟨eI rfl rfl, eI rfl rfl, trivial⟩ trivial trivial)
     ·replace h := hk60
      conv=>whnf
      refine Both.mk ?_ ?_<;>intro b64
      ·replace h := cond_t b64 h
       conv=>whnf
       cases h
       conv=>whnf
       exact ⟨rfl, rfl⟩
      ·replace h := cond_f b64 h
       conv=>whnf
       refine Nf.mk (List.length m_.Out) len_map ?_
       conv=>whnf
       refine Nf.mk (List.length m_.Next) len_map ?_
       conv=>whnf
       refine Both.mk ?_ ?_<;>intro b65
       ·replace h := cond_t b65 h
        have b65d := odt b65
        conv=>whnf
        cases h
        conv=>whnf
        exact ⟨rfl, rfl⟩
       ·replace h := cond_f b65 h
        have b65d := odf b65
        conv=>whnf
        obtain ⟨oc, hc, hk66⟩ := bind_some h
        clear h
        have h := hc
        clear hc
        refine Cut.mkS oc (Y := Unit) (fun (_ : Unit) => mkSt [] [] []) (fun (_ : Unit) => True) (by rintro ⟨⟩; exact (Holds.true_ _)) ?_ ?_
        ·conv=>whnf
         refine Loops.iter (fun (s : Nat) => R06_Valid.s2 m_ s) (fun s81 => mkSt [(1, .im (.ref (c_api_Mealy m_))), (3, .im (nI (↑s81 : Int)))] [] []) (fun s81 => True) h (Ent.mk [] rfl ⟨eI rfl rfl, eI rfl rfl, trivial⟩ trivial trivial) (by rintro s81; exact (Holds.true_ _)) ?_
         clear h
         rintro k s81 o hp h ho85
         replace h : R06_Valid.s2 m_ s81 = some o := h
         unfold R06_Valid.s2 at h
         conv=>whnf
         refine Nf.mk (List.length m_.Next) len_map ?_
         conv=>whnf
         refine Both.mk ?_ ?_<;>intro b86
         ·replace h := cond_t b86 h
          have b86d := odt b86
          conv=>whnf
          obtain ⟨c87, hc87, h⟩ := bind_some h
          refine ⟨_, (sp_R06_row m_ (↑s81 : Int) c87 (fun _ _ => hc87)), ?_⟩
          conv=>whnf
          refine Both.mk ?_ ?_<;>intro b88
          ·replace h := cond_t b88 h
           have b88d := odt b88
           conv=>whnf
           cases h
           have ho85 : _ = _ := ho85
           cases ho85
           replace h : some _ = some _ := hk66
           cases h
           conv=>whnf
           exact ⟨rfl, rfl⟩
          ·replace h := cond_f b88 h
           have b88d := odf b88
           conv=>whnf
           refine Side.mk (by show inR _; unfold inR; omega) ?_
           conv=>whnf
           cases h
           exact Nxt.mk _ ho85 (Ent.mk [] rfl ⟨eI rfl rfl, eI rfl rfl, trivial⟩ trivial trivial)
         ·replace h := cond_f b86 h
          have b86d := odf b86
          conv=>whnf
          cases h
          have ho85 : _ = _ := ho85
          cases ho85
          exact JoinS.mk' _ rfl (Ent.mk [] rfl trivial trivial trivial)
        ·rintro ⟨⟩ rfl hp
         replace h := sum_inl hk66
         conv=>whnf
         cases h
         conv=>whnf
         exact ⟨rfl, rfl⟩
theorem sp_R02_Suffixes (l_ : List (List Int)) (r : List (List Int)) (h : Ok (nL (cL cI) l_) → R02_Suffixes l_ = some r) : Sp Tryz.prog 42 [.im (nL (cL cI) l_)] (.row 38 1 (List.map (cL cI) r)) := by
 refine sp_of rfl [29000] rfl rfl rfl (Nat.le_of_ble_eq_true rfl) rfl fun hk => ?_
 replace h := h hk.1
 have z1 : List.length l_ ≤ 17592186044416 := ok_len hk.1
 unfold R02_Suffixes at h
 conv=>whnf
 obtain ⟨y204, hc, hk51⟩ := bind_some h
 clear h
 have h := hc
 clear hc
 refine Cut.mk (mkSt [(3, .osl 64 1)] [(64, .row 38 1 (List.map (cL cI) y204))] []) (List.length y204 ≤ 17592186044416 ∧ True) ((Holds.kdl 64 rfl).and (Holds.true_ _)) ?_ (fun hp => ?_)
 ·conv=>whnf
  refine Loops.iter (fun (s : List (List Int) × Nat) => R02_Suffixes.s14 l_ s.1 s.2) (fun (y254, i255) => mkSt [(0, .im (nL (cL cI) l_)), (3, .osl 64 1), (4, .im (nI (↑i255 : Int)))] [(64, .row 38 1 (List.map (cL cI) y254))] []) (fun (y254, i255) => List.length l_ ≤ 17592186044416 ∧ List.length y254 ≤ 17592186044416 ∧ True) h (Ent.mk [(64, none)] rfl ⟨eI rfl rfl, ⟨.im (.val (.slice none 0 0)), rfl, .made rfl rfl⟩, eI rfl rfl, trivial⟩ ⟨.inr ⟨rfl, rfl, .inl ⟨_, _, rfl, by decide⟩⟩, trivial⟩ trivial) (by rintro ⟨y254, i255⟩; exact ((Holds.avl 0 rfl).and ((Holds.kdl 64 rfl).and (Holds.true_ _)))) ?_
  clear h
  rintro k ⟨y254, i255⟩ o hp h ho305
  replace h : R02_Suffixes.s14 l_ y254 i255 = some o := h
  unfold R02_Suffixes.s14 at h
  obtain ⟨z355, z356, _⟩ := hp
  conv=>whnf
  refine Nf.mk (List.length l_) len_map ?_
  conv=>whnf
  refine Both.mk ?_ ?_<;>intro b306
  ·replace h := cond_t b306 h
   have b306d := odt b306
   conv=>whnf
   obtain ⟨y330, hc, hk307⟩ := bind_some h
   clear h
   have h := hc
   clear hc
   refine Cut.mk (mkSt [(0, .im (nL (cL cI) l_)), (3, .osl 64 1), (4, .im (nI (↑i255 : Int)))] [(64, .row 38 1 (List.map (cL cI) y330))] []) (List.length l_ ≤ 17592186044416 ∧ List.length y330 ≤ 17592186044416 ∧ True) ((Holds.avl 0 rfl).and ((Holds.kdl 64 rfl).and (Holds.true_ _))) ?_ (fun hp => ?_)
   ·conv=>whnf
    refine Loops.iter (fun (s : List (List Int) × Nat) => R02_Suffixes.s13 l_ i255 s.1 s.2) (fun (y336, k337) => mkSt [(0, .im (nL (cL cI) l_)), (3, .osl 64 1), (4, .im (nI (↑i255 : Int))), (5, .im (nI (↑k337 : Int)))] [(64, .row 38 1 (List.map (cL cI) y336))] []) (fun (y336, k337) => List.length l_ ≤ 17592186044416 ∧ List.length y336 ≤ 17592186044416 ∧ True) h (Ent.mk [(64, some 64)] rfl ⟨eI rfl rfl, ⟨.osl 64 _, rfl, .osl rfl rfl rfl⟩, eI rfl rfl, eI rfl rfl, trivial⟩ ⟨.inl ⟨64, rfl, rfl, trivial⟩, trivial⟩ trivial) (by rintro ⟨y336, k337⟩; exact ((Holds.avl 0 rfl).and ((Holds.kdl 64 rfl).and (Holds.true_ _)))) ?_
    clear h
    rintro k ⟨y336, k337⟩ o hp h ho344
    replace h : R02_Suffixes.s13 l_ i255 y336 k337 = some o := h
    unfold R02_Suffixes.s13 at h
    obtain ⟨z351, z352, _⟩ := hp
    conv=>whnf
    obtain ⟨e345, he345, h⟩ := idxn_some h
    refine ⟨_, ⟨(by omega), map_at he345, rfl⟩, ?_⟩
    conv=>whnf
    refine Nf.mk (List.length e345) len_map ?_
    conv=>whnf
    refine Both.mk ?_ ?_<;>intro b346
    ·replace h := cond_t b346 h
     have b346d := odt b346
     conv=>whnf
     obtain ⟨e347, he347, h⟩ := idxn_some h
     refine ⟨_, ⟨(by omega), map_at he347, rfl⟩, ?_⟩
     conv=>whnf
     obtain ⟨c348, h⟩ := chk_some h
     refine Side.mk (show (0 : Int) ≤ (↑k337 : Int) ∧ (↑k337 : Int) ≤ (↑(List.length (List.map cI e347)) : Int) ∧ (↑(List.length (List.map cI e347)) : Int) ≤ (↑(List.length (List.map cI e347)) : Int) ∧ (∀ e ∈ List.map cI e347, List.length e = 1) from ⟨by omega, by first | omega | (simp only [List.length_map]; omega), by first | omega | (simp only [List.length_map]; omega), map_len fun _ => rfl⟩) ?_
     conv=>whnf
     refine Nf.mk (List.map cI (List.drop k337 e347)) drop_map ?_
     conv=>whnf
     refine Side.mk ⟨rfl, trivial⟩ ?_
     conv=>whnf
     obtain ⟨c349, hc349, h⟩ := bind_some h
     refine ⟨_, (sp_R02_with y336 (List.drop k337 e347) c349 (fun _ _ => hc349)), ?_⟩
     conv=>whnf
     obtain ⟨c350, h⟩ := chk_some h
     refine Side.mk c350 ?_
     conv=>whnf
     cases h
     exact Nxt.mk _ ho344 (Ent.mk [(64, some 28)] rfl ⟨eI rfl rfl, ⟨.osl 28 _, rfl, .osl rfl rfl rfl⟩, eI rfl rfl, eI rfl rfl, trivial⟩ ⟨.inl ⟨28, rfl, rfl, trivial⟩, trivial⟩ trivial)
    ·replace h := cond_f b346 h
     have b346d := odf b346
     conv=>whnf
     cases h
     have ho344 : _ = _ := ho344
     cases ho344
     exact Join.mk (Ent.mk [(64, some 64)] rfl ⟨eI rfl rfl, ⟨.osl 64 _, rfl, .osl rfl rfl rfl⟩, eI rfl rfl, trivial⟩ ⟨.inl ⟨64, rfl, rfl, trivial⟩, trivial⟩ trivial)
   ·replace h := hk307
    obtain ⟨z353, z354, _⟩ := hp
    conv=>whnf
    refine Side.mk (by show inR _; unfold inR; omega) ?_
    conv=>whnf
    cases h
    exact Nxt.mk _ ho305 (Ent.mk [(64, some 64)] rfl ⟨eI rfl rfl, ⟨.osl 64 _, rfl, .osl rfl rfl rfl⟩, eI rfl rfl, trivial⟩ ⟨.inl ⟨64, rfl, rfl, trivial⟩, trivial⟩ trivial)
  ·replace h := cond_f b306 h
   have b306d := odf b306
   conv=>whnf
   cases h
   have ho305 : _ = _ := ho305
   cases ho305
   exact Join.mk (Ent.mk [(64, some 64)] rfl ⟨⟨.osl 64 _, rfl, .osl rfl rfl rfl⟩, trivial⟩ ⟨.inl ⟨64, rfl, rfl, trivial⟩, trivial⟩ trivial)
 ·replace h := hk51
  obtain ⟨z357, _⟩ := hp
  conv=>whnf
  cases h
  conv=>whnf
  exact Side.mk ⟨rfl, trivial⟩ ⟨rfl, rfl⟩
theorem sp_L23_answered (m_ : T_api_Mealy) (o_ : T_api_Obs) (words_ : List (List Int)) (ends_ : List (List Int)) (r : Bool) (h : Ok (.agg (c_api_Mealy m_)) → Ok (.agg (c_api_Obs o_)) → Ok (nL (cL cI) words_) → Ok (nL (cL cI) ends_) → L23_answered m_ o_ words_ ends_ = some r) : Sp Tryz.prog 45 [.im (.agg (c_api_Mealy m_)), .im (.agg (c_api_Obs o_)), .im (nL (cL cI) words_), .im (nL (cL cI) ends_)] (.im (nB r)) := by
 refine sp_of rfl [700004, 700005] rfl rfl rfl (Nat.le_of_ble_eq_true rfl) rfl fun hk => ?_
 replace h := h hk.1 hk.2.1 hk.2.2.1 hk.2.2.2.1
 have z1 : List.length m_.Next ≤ 17592186044416 := ok_len (Ok.agg_at hk.1 2 rfl)
 have z2 : List.length m_.Out ≤ 17592186044416 := ok_len (Ok.agg_at hk.1 3 rfl)
 have z3 : List.length o_.Traces ≤ 17592186044416 := ok_len (Ok.agg_at hk.2.1 1 rfl)
 have z4 : List.length words_ ≤ 17592186044416 := ok_len hk.2.2.1
 have z5 : List.length ends_ ≤ 17592186044416 := ok_len hk.2.2.2.1
 unfold L23_answered at h
 conv=>whnf
 obtain ⟨oc, hc, hk51⟩ := bind_some h
 clear h
 have h := hc
 clear hc
 refine Cut.mkS oc (Y := Unit) (fun (_ : Unit) => mkSt [] [] []) (fun (_ : Unit) => True) (by rintro ⟨⟩; exact (Holds.true_ _)) ?_ ?_
 ·conv=>whnf
  refine Loops.iter (fun (s : Nat) => L23_answered.s14 m_ o_ words_ ends_ s) (fun i488 => mkSt [(2, .im (nL (cL cI) words_)), (3, .im (nL (cL cI) ends_)), (4, .im (.ref (c_api_Mealy m_))), (5, .im (.ref (c_api_Obs o_))), (9, .im (nI (↑i488 : Int)))] [] []) (fun i488 => List.length words_ ≤ 17592186044416 ∧ List.length ends_ ≤ 17592186044416 ∧ True) h (Ent.mk [] rfl ⟨eI rfl rfl, eI rfl rfl, eI rfl rfl, eI rfl rfl, eI rfl rfl, trivial⟩ trivial trivial) (by rintro i488; exact ((Holds.avl 2 rfl).and ((Holds.avl 3 rfl).and (Holds.true_ _)))) ?_
  clear h
  rintro k i488 o hp h ho597
  replace h : L23_answered.s14 m_ o_ words_ ends_ i488 = some o := h
  unfold L23_answered.s14 at h
  obtain ⟨z706, z707, _⟩ := hp
  conv=>whnf
  refine Nf.mk (List.length words_) len_map ?_
  conv=>whnf
  refine Both.mk ?_ ?_<;>intro b598
  ·replace h := cond_t b598 h
   have b598d := odt b598
   conv=>whnf
   obtain ⟨oc, hc, hk599⟩ := bind_some h
   clear h
   have h := hc
   clear hc
   refine Cut.mkS oc (Y := Unit) (fun (_ : Unit) => mkSt [(2, .im (nL (cL cI) words_)), (3, .im (nL (cL cI) ends_)), (4, .im (.ref (c_api_Mealy m_))), (5, .im (.ref (c_api_Obs o_))), (9, .im (nI (↑i488 : Int)))] [] []) (fun (_ : Unit) => List.length words_ ≤ 17592186044416 ∧ List.length ends_ ≤ 17592186044416 ∧ True) (by rintro ⟨⟩; exact ((Holds.avl 2 rfl).and ((Holds.avl 3 rfl).and (Holds.true_ _)))) ?_ ?_
   ·conv=>whnf
    refine Loops.iter (fun (s : Nat) => L23_answered.s13 m_ o_ words_ ends_ i488 s) (fun k668 => mkSt [(2, .im (nL (cL cI) words_)), (3, .im (nL (cL cI) ends_)), (4, .im (.ref (c_api_Mealy m_))), (5, .im (.ref (c_api_Obs o_))), (9, .im (nI (↑i488 : Int))), (10, .im (nI (↑k668 : Int)))] [] []) (fun k668 => List.length words_ ≤ 17592186044416 ∧ List.length ends_ ≤ 17592186044416 ∧ True) h (Ent.mk [] rfl ⟨eI rfl rfl, eI rfl rfl, eI rfl rfl, eI rfl rfl, eI rfl rfl, eI rfl rfl, trivial⟩ trivial trivial) (by rintro k668; exact ((Holds.avl 2 rfl).and ((Holds.avl 3 rfl).and (Holds.true_ _)))) ?_
    clear h
    rintro k k668 o hp h ho685
    replace h : L23_answered.s13 m_ o_ words_ ends_ i488 k668 = some o := h
    unfold L23_answered.s13 at h
    obtain ⟨z702, z703, _⟩ := hp
    conv=>whnf
    refine Nf.mk (List.length ends_) len_map ?_
    conv=>whnf
    refine Both.mk ?_ ?_<;>intro b686
    ·replace h := cond_t b686 h
     have b686d := odt b686
     conv=>whnf
     obtain ⟨e687, he687, h⟩ := idxn_some h
     refine ⟨_, ⟨(by omega), map_at he687, rfl⟩, ?_⟩
     conv=>whnf
     obtain ⟨e688, he688, h⟩ := idxn_some h
     refine ⟨_, ⟨(by omega), map_at he688, rfl⟩, ?_⟩
     conv=>whnf
     obtain ⟨c689, hc689, h⟩ := bind_some h
     refine ⟨_, (sp_R01_Join [e687, e688] c689 (fun _ => hc689)).im, ?_⟩
     conv=>whnf
     obtain ⟨c690, hc690, h⟩ := bind_some h
     refine ⟨_, (sp_R06_Outs m_ m_.Start c689 c690 (fun _ _ _ => hc690)), ?_⟩
     conv=>whnf
     obtain ⟨c691, hc691, h⟩ := bind_some h
     refine ⟨_, (sp_R16_Answer o_ c689 c691 (fun _ _ => hc691)), ?_⟩
     conv=>whnf
     obtain ⟨y696, hc, hk693⟩ := bind_some h
     clear h
     have h := hc
     clear hc
     refine Cut.mk (mkSt [(2, .im (nL (cL cI) words_)), (3, .im (nL (cL cI) ends_)), (4, .im (.ref (c_api_Mealy m_))), (5, .im (.ref (c_api_Obs o_))), (9, .im (nI (↑i488 : Int))), (10, .im (nI (↑k668 : Int))), (59, .im (nB y696))] [] []) (List.length words_ ≤ 17592186044416 ∧ List.length ends_ ≤ 17592186044416 ∧ True) ((Holds.avl 2 rfl).and ((Holds.avl 3 rfl).and (Holds.true_ _))) ?_ (fun hp => ?_)
     ·conv=>whnf
      refine Both.mk ?_ ?_<;>intro b697
      ·replace b697 := beq_ff b697
       replace h := cond_f b697 h
       conv=>whnf
       iterate 2 (refine Both.yes (ff_beq b697) ?_; (conv=>whnf))
       obtain ⟨c698, hc698, h⟩ := bind_some h
       refine ⟨_, (sp_R06_Ints c690.1 c691.1 c698 (fun _ _ => hc698)), ?_⟩
       conv=>whnf
       refine Both.yes (ff_beq b697) ?_
       conv=>whnf
       refine Both.no b697 ?_
       conv=>whnf
       cases h
       exact Join.mk (Ent.mk [] rfl ⟨eI rfl rfl, eI rfl rfl, eI rfl rfl, eI rfl rfl, eI rfl rfl, eI rfl rfl, eI rfl rfl, trivial⟩ trivial trivial)
      ·replace b697 := beq_ft b697
       replace h := cond_t b697 h
       conv=>whnf
       iterate 3 (refine Both.no (tf_beq b697) ?_; (conv=>whnf))
       refine Both.yes b697 ?_
       conv=>whnf
       cases h
       exact Join.mk (Ent.mk [] rfl ⟨eI rfl rfl, eI rfl rfl, eI rfl rfl, eI rfl rfl, eI rfl rfl, eI rfl rfl, eI rfl rfl, trivial⟩ trivial trivial)
     ·replace h := hk693
      obtain ⟨z699, z700, _⟩ := hp
      conv=>whnf
      refine Both.mk ?_ ?_<;>intro b701
      ·replace h := cond_t b701 h
       conv=>whnf
       cases h
       have ho685 : _ = _ := ho685
       cases ho685
       replace h : some _ = some _ := hk599
       cases h
       have ho597 : _ = _ := ho597
       cases ho597
       replace h : some _ = some _ := hk51
       cases h
       conv=>whnf
       exact ⟨rfl, rfl⟩
      ·replace h := cond_f b701 h
       conv=>whnf
       refine Side.mk (by show inR _; unfold inR; omega) ?_
       conv=>whnf
       cases h
       exact Nxt.mk _ ho685 (Ent.mk [] rfl ⟨eI rfl rfl, eI rfl rfl, eI rfl rfl, eI rfl rfl, eI rfl rfl, eI rfl rfl, trivial⟩ trivial trivial)
    ·replace h := cond_f b686 h
     have b686d := odf b686
     conv=>whnf
     cases h
     have ho685 : _ = _ := ho685
     cases ho685
     exact JoinS.mk' _ rfl (Ent.mk [] rfl ⟨eI rfl rfl, eI rfl rfl, eI rfl rfl, eI rfl rfl, eI rfl rfl, trivial⟩ trivial trivial)
   ·rintro ⟨⟩ rfl hp
    replace h := sum_inl hk599
    obtain ⟨z704, z705, _⟩ := hp
    conv=>whnf
    refine Side.mk (by show inR _; unfold inR; omega) ?_
    conv=>whnf
    cases h
    exact Nxt.mk _ ho597 (Ent.mk [] rfl ⟨eI rfl rfl, eI rfl rfl, eI rfl rfl, eI rfl rfl, eI rfl rfl, trivial⟩ trivial trivial)
  ·replace h := cond_f b598 h
   have b598d := odf b598
   conv=>whnf
   cases h
   have ho597 : _ = _ := ho597
   cases ho597
   exact JoinS.mk' _ rfl (Ent.mk [] rfl trivial trivial trivial)
 ·rintro ⟨⟩ rfl hp
  replace h := sum_inl hk51
  conv=>whnf
  cases h
  conv=>whnf
  exact ⟨rfl, rfl⟩
theorem sp_R08_finer (m_ : T_api_Mealy) (class_ : List Int) (r : List Int) (h : Ok (.agg (c_api_Mealy m_)) → Ok (nL cI class_) → R08_finer m_ class_ = some r) : Sp Tryz.prog 168 [.im (.agg (c_api_Mealy m_)), .im (nL cI class_)] (.row 3 1 (List.map cI r)) := by
 refine sp_of rfl [700002] rfl rfl rfl (Nat.le_of_ble_eq_true rfl) rfl fun hk => ?_
 replace h := h hk.1 hk.2.1
 have z1 : List.length m_.Next ≤ 17592186044416 := ok_len (Ok.agg_at hk.1 2 rfl)
 have z2 : List.length m_.Out ≤ 17592186044416 := ok_len (Ok.agg_at hk.1 3 rfl)
 have z3 : List.length class_ ≤ 17592186044416 := ok_len hk.2.1
 unfold R08_finer at h
 conv=>whnf
 obtain ⟨y2630, hc, hk51⟩ := bind_some h
 clear h
 have h := hc
 clear hc
 refine Cut.mk (mkSt [(5, .osl 99 1)] [(99, .row 3 1 (List.map cI y2630))] []) (List.length y2630 ≤ 17592186044416 ∧ True) ((Holds.kdl 99 rfl).and (Holds.true_ _)) ?_ (fun hp => ?_)
 ·conv=>whnf
  refine Loops.iter (fun (s : List Int × Nat × Nat) => R08_finer.s92 m_ class_ s.1 s.2.1 s.2.2) (fun (y3443, count3444, s3445) => mkSt [(1, .im (nL cI class_)), (2, .im (.ref (c_api_Mealy m_))), (5, .osl 99 1), (6, .im (nI (↑count3444 : Int))), (7, .im (nI (↑s3445 : Int)))] [(99, .row 3 1 (List.map cI y3443))] []) (fun (y3443, count3444, s3445) => List.length class_ ≤ 17592186044416 ∧ List.length y3443 ≤ 17592186044416 ∧ True) h (Ent.mk [(99, none)] rfl ⟨eI rfl rfl, eI rfl rfl, ⟨.im (.val (.slice none 0 0)), rfl, .made rfl rfl⟩, eI rfl rfl, eI rfl rfl, trivial⟩ ⟨.inr ⟨rfl, rfl, .inl ⟨_, _, rfl, by decide⟩⟩, trivial⟩ trivial) (by rintro ⟨y3443, count3444, s3445⟩; exact ((Holds.avl 1 rfl).and ((Holds.kdl 99 rfl).and (Holds.true_ _)))) ?_
  clear h
  rintro k ⟨y3443, count3444, s3445⟩ o hp h ho4326
  replace h : R08_finer.s92 m_ class_ y3443 count3444 s3445 = some o := h
  unfold R08_finer.s92 at h
  obtain ⟨z5207, z5208, _⟩ := hp
  conv=>whnf
  refine Nf.mk (List.length class_) len_map ?_
  conv=>whnf
  refine Both.mk ?_ ?_<;>intro b4327
  ·replace h := cond_t b4327 h
   have b4327d := odt b4327
   conv=>whnf
   refine Side.mk (by show inR _; unfold inR; omega) ?_
   conv=>whnf
   obtain ⟨found4761, hc, hk4328⟩ := bind_some h
   clear h
   have h := hc
   clear hc
   refine Cut.mk (mkSt [(1, .im (nL cI class_)), (2, .im (.ref (c_api_Mealy m_))), (5, .osl 99 1), (6, .im (nI (↑count3444 : Int))), (7, .im (nI (↑s3445 : Int))), (8, .im (nI found4761))] [(99, .row 3 1 (List.map cI y3443))] []) (List.length class_ ≤ 17592186044416 ∧ List.length y3443 ≤ 17592186044416 ∧ True) ((Holds.avl 1 rfl).and ((Holds.kdl 99 rfl).and (Holds.true_ _))) ?_ (fun hp => ?_)
   ·conv=>whnf
    refine Loops.iter (fun (s : Int × Int) => R08_finer.s90 m_ class_ y3443 s3445 s.1 s.2) (fun (found4903, t4904) => mkSt [(1, .im (nL cI class_)), (2, .im (.ref (c_api_Mealy m_))), (5, .osl 99 1), (6, .im (nI (↑count3444 : Int))), (7, .im (nI (↑s3445 : Int))), (8, .im (nI found4903)), (9, .im (nI t4904))] [(99, .row 3 1 (List.map cI y3443))] []) (fun (found4903, t4904) => List.length class_ ≤ 17592186044416 ∧ List.length y3443 ≤ 17592186044416 ∧ True) h (Ent.mk [(99, some 99)] rfl ⟨eI rfl rfl, eI rfl rfl, ⟨.osl 99 _, rfl, .osl rfl rfl rfl⟩, eI rfl rfl, eI rfl rfl, eI rfl rfl, eI rfl rfl, trivial⟩ ⟨.inl ⟨99, rfl, rfl, trivial⟩, trivial⟩ trivial) (by rintro ⟨found4903, t4904⟩; exact ((Holds.avl 1 rfl).and ((Holds.kdl 99 rfl).and (Holds.true_ _)))) ?_
    clear h
    rintro k ⟨found4903, t4904⟩ o hp h ho5048
    replace h : R08_finer.s90 m_ class_ y3443 s3445 found4903 t4904 = some o := h
    unfold R08_finer.s90 at h
    obtain ⟨z5192, z5193, _⟩ := hp
    conv=>whnf
    refine Both.mk ?_ ?_<;>intro b5049
    ·replace h := cond_t b5049 h
     have b5049d := odt b5049
     conv=>whnf
     obtain ⟨e5050, he5050, h⟩ := idxn_some h
     refine ⟨_, ⟨(by omega), map_at he5050, rfl⟩, ?_⟩
     conv=>whnf
     obtain ⟨e5051, he5051z, he5051, h⟩ := idx_some h
     refine ⟨_, ⟨he5051z, map_at he5051, rfl⟩, ?_⟩
     conv=>whnf
     obtain ⟨same5119, hc, hk5052⟩ := bind_some h
     clear h
     have h := hc
     clear hc
     refine Cut.mk (mkSt [(1, .im (nL cI class_)), (2, .im (.ref (c_api_Mealy m_))), (5, .osl 99 1), (6, .im (nI (↑count3444 : Int))), (7, .im (nI (↑s3445 : Int))), (8, .im (nI found4903)), (9, .im (nI t4904)), (10, .im (nB same5119))] [(99, .row 3 1 (List.map cI y3443))] []) (List.length class_ ≤ 17592186044416 ∧ List.length y3443 ≤ 17592186044416 ∧ True) ((Holds.avl 1 rfl).and ((Holds.kdl 99 rfl).and (Holds.true_ _))) ?_ (fun hp => ?_)
     ·conv=>whnf
      refine Loops.iter (fun (s : Bool × Nat) => R08_finer.s89 m_ class_ s3445 t4904 s.1 s.2) (fun (same5139, a5140) => mkSt [(1, .im (nL cI class_)), (2, .im (.ref (c_api_Mealy m_))), (5, .osl 99 1), (6, .im (nI (↑count3444 : Int))), (7, .im (nI (↑s3445 : Int))), (8, .im (nI found4903)), (9, .im (nI t4904)), (10, .im (nB same5139)), (11, .im (nI (↑a5140 : Int)))] [(99, .row 3 1 (List.map cI y3443))] []) (fun (same5139, a5140) => List.length class_ ≤ 17592186044416 ∧ List.length y3443 ≤ 17592186044416 ∧ True) h (Ent.mk [(99, some 99)] rfl ⟨eI rfl rfl, eI rfl rfl, ⟨.osl 99 _, rfl, .osl rfl rfl rfl⟩, eI rfl rfl, eI rfl rfl, eI rfl rfl, eI rfl rfl, eI rfl rfl, eI rfl rfl, trivial⟩ ⟨.inl ⟨99, rfl, rfl, trivial⟩, trivial⟩ trivial) (by rintro ⟨same5139, a5140⟩; exact ((Holds.avl 1 rfl).and ((Holds.kdl 99 rfl).and (Holds.true_ _)))) ?_
      clear h
      rintro k ⟨same5139, a5140⟩ o hp h ho5162
      replace h : R08_finer.s89 m_ class_ s3445 t4904 same5139 a5140 = some o := h
      unfold R08_finer.s89 at h
      obtain ⟨z5184, z5185, _⟩ := hp
      conv=>whnf
      obtain ⟨y5166, hc, hk5164⟩ := bind_some h
      clear h
      have h := hc
      clear hc
      refine Cut.mk (mkSt [(1, .im (nL cI class_)), (2, .im (.ref (c_api_Mealy m_))), (5, .osl 99 1), (6, .im (nI (↑count3444 : Int))), (7, .im (nI (↑s3445 : Int))), (8, .im (nI found4903)), (9, .im (nI t4904)), (10, .im (nB same5139)), (11, .im (nI (↑a5140 : Int))), (39, .im (nB y5166))] [(99, .row 3 1 (List.map cI y3443))] []) (List.length class_ ≤ 17592186044416 ∧ List.length y3443 ≤ 17592186044416 ∧ True) ((Holds.avl 1 rfl).and ((Holds.kdl 99 rfl).and (Holds.true_ _))) ?_ (fun hp => ?_)
      ·conv=>whnf
       refine Both.mk ?_ ?_<;>intro b5167
       ·replace b5167 := beq_tt b5167
        replace h := cond_t b5167 h
        have b5167d := odt b5167
        conv=>whnf
        refine Both.yes b5167 ?_
        conv=>whnf
        cases h
        exact Join.mk (Ent.mk [(99, some 99)] rfl ⟨eI rfl rfl, eI rfl rfl, ⟨.osl 99 _, rfl, .osl rfl rfl rfl⟩, eI rfl rfl, eI rfl rfl, eI rfl rfl, eI rfl rfl, eI rfl rfl, eI rfl rfl, eI rfl rfl, trivial⟩ ⟨.inl ⟨99, rfl, rfl, trivial⟩, trivial⟩ trivial)
       ·replace b5167 := beq_tf b5167
        replace h := cond_f b5167 h
        have b5167d := odf b5167
        conv=>whnf
        refine Both.no b5167 ?_
        conv=>whnf
        cases h
        exact Join.mk (Ent.mk [(99, some 99)] rfl ⟨eI rfl rfl, eI rfl rfl, ⟨.osl 99 _, rfl, .osl rfl rfl rfl⟩, eI rfl rfl, eI rfl rfl, eI rfl rfl, eI rfl rfl, eI rfl rfl, eI rfl rfl, eI rfl rfl, trivial⟩ ⟨.inl ⟨99, rfl, rfl, trivial⟩, trivial⟩ trivial)
      ·replace h := hk5164
       obtain ⟨z5168, z5169, _⟩ := hp
       conv=>whnf
       refine Both.mk ?_ ?_<;>intro b5170
       ·replace h := cond_t b5170 h
        conv=>whnf
        obtain ⟨e5171, he5171, h⟩ := idxn_some h
        refine ⟨_, ⟨(by omega), map_at he5171, rfl⟩, ?_⟩
        conv=>whnf
        obtain ⟨e5172, he5172, h⟩ := idxn_some h
        refine ⟨_, ⟨(by omega), map_at he5172, rfl⟩, ?_⟩
        conv=>whnf
        obtain ⟨e5173, he5173z, he5173, h⟩ := idx_some h
        refine ⟨_, ⟨he5173z, map_at he5173, rfl⟩, ?_⟩
        conv=>whnf
        obtain ⟨e5174, he5174, h⟩ := idxn_some h
        refine ⟨_, ⟨(by omega), map_at he5174, rfl⟩, ?_⟩
        conv=>whnf
        refine Both.mk ?_ ?_<;>intro b5175
        ·replace b5175 := beq_tt b5175
         replace h := cond_t b5175 h
         have b5175d := odt b5175
         conv=>whnf
         iterate 4 (refine Both.yes (tt_beq b5175) ?_; (conv=>whnf))
         obtain ⟨e5176, he5176, h⟩ := idxn_some h
         refine ⟨_, ⟨(by omega), map_at he5176, rfl⟩, ?_⟩
         conv=>whnf
         iterate 3 (refine Both.yes (tt_beq b5175) ?_; (conv=>whnf))
         obtain ⟨e5177, he5177, h⟩ := idxn_some h
         refine ⟨_, ⟨(by omega), map_at he5177, rfl⟩, ?_⟩
         conv=>whnf
         iterate 2 (refine Both.yes (tt_beq b5175) ?_; (conv=>whnf))
         obtain ⟨e5178, he5178z, he5178, h⟩ := idx_some h
         refine ⟨_, ⟨he5178z, map_at he5178, rfl⟩, ?_⟩
         conv=>whnf
         iterate 6 (refine Both.yes (tt_beq b5175) ?_; (conv=>whnf))
         obtain ⟨e5179, he5179z, he5179, h⟩ := idx_some h
         refine ⟨_, ⟨he5179z, map_at he5179, rfl⟩, ?_⟩
         conv=>whnf
         iterate 3 (refine Both.yes (tt_beq b5175) ?_; (conv=>whnf))
         obtain ⟨e5180, he5180, h⟩ := idxn_some h
         refine ⟨_, ⟨(by omega), map_at he5180, rfl⟩, ?_⟩
         conv=>whnf
         iterate 2 (refine Both.yes (tt_beq b5175) ?_; (conv=>whnf))
         obtain ⟨e5181, he5181z, he5181, h⟩ := idx_some h
         refine ⟨_, ⟨he5181z, map_at he5181, rfl⟩, ?_⟩
         conv=>whnf
         iterate 2 (refine Both.yes (tt_beq b5175) ?_; (conv=>whnf))
         refine Both.yes b5175 ?_
         conv=>whnf
         obtain ⟨c5182, h⟩ := chk_some h
         refine Side.mk c5182 ?_
         conv=>whnf
         cases h
         exact Nxt.mk _ ho5162 (Ent.mk [(99, some 99)] rfl ⟨eI rfl rfl, eI rfl rfl, ⟨.osl 99 _, rfl, .osl rfl rfl rfl⟩, eI rfl rfl, eI rfl rfl, eI rfl rfl, eI rfl rfl, eI rfl rfl, eI rfl rfl, trivial⟩ ⟨.inl ⟨99, rfl, rfl, trivial⟩, trivial⟩ trivial)
        ·replace b5175 := beq_tf b5175
         replace h := cond_f b5175 h
         have b5175d := odf b5175
         conv=>whnf
         iterate 22 (refine Both.no (ft_beq b5175) ?_; (conv=>whnf))
         refine Both.no b5175 ?_
         conv=>whnf
         obtain ⟨c5183, h⟩ := chk_some h
         refine Side.mk c5183 ?_
         conv=>whnf
         cases h
         exact Nxt.mk _ ho5162 (Ent.mk [(99, some 99)] rfl ⟨eI rfl rfl, eI rfl rfl, ⟨.osl 99 _, rfl, .osl rfl rfl rfl⟩, eI rfl rfl, eI rfl rfl, eI rfl rfl, eI rfl rfl, eI rfl rfl, eI rfl rfl, trivial⟩ ⟨.inl ⟨99, rfl, rfl, trivial⟩, trivial⟩ trivial)
       ·replace h := cond_f b5170 h
        conv=>whnf
        cases h
        have ho5162 : _ = _ := ho5162
        cases ho5162
        exact Join.mk (Ent.mk [(99, some 99)] rfl ⟨eI rfl rfl, eI rfl rfl, ⟨.osl 99 _, rfl, .osl rfl rfl rfl⟩, eI rfl rfl, eI rfl rfl, eI rfl rfl, eI rfl rfl, eI rfl rfl, trivial⟩ ⟨.inl ⟨99, rfl, rfl, trivial⟩, trivial⟩ trivial)
     ·replace h := hk5052
      obtain ⟨z5186, z5187, _⟩ := hp
      conv=>whnf
      refine Both.mk ?_ ?_<;>intro b5188
      ·replace h := cond_t b5188 h
       conv=>whnf
       obtain ⟨e5189, he5189z, he5189, h⟩ := idx_some h
       refine Side.mk ⟨he5189z, rfl, map_lt he5189⟩ ?_
       conv=>whnf
       refine ⟨_, _, ⟨rfl, map_at he5189, rfl, rfl⟩, ?_⟩
       conv=>whnf
       obtain ⟨c5190, h⟩ := chk_some h
       refine Side.mk c5190 ?_
       conv=>whnf
       cases h
       exact Nxt.mk _ ho5048 (Ent.mk [(99, some 99)] rfl ⟨eI rfl rfl, eI rfl rfl, ⟨.osl 99 _, rfl, .osl rfl rfl rfl⟩, eI rfl rfl, eI rfl rfl, eI rfl rfl, eI rfl rfl, trivial⟩ ⟨.inl ⟨99, rfl, rfl, trivial⟩, trivial⟩ trivial)
      ·replace h := cond_f b5188 h
       conv=>whnf
       obtain ⟨c5191, h⟩ := chk_some h
       refine Side.mk c5191 ?_
       conv=>whnf
       cases h
       exact Nxt.mk _ ho5048 (Ent.mk [(99, some 99)] rfl ⟨eI rfl rfl, eI rfl rfl, ⟨.osl 99 _, rfl, .osl rfl rfl rfl⟩, eI rfl rfl, eI rfl rfl, eI rfl rfl, eI rfl rfl, trivial⟩ ⟨.inl ⟨99, rfl, rfl, trivial⟩, trivial⟩ trivial)
    ·replace h := cond_f b5049 h
     have b5049d := odf b5049
     conv=>whnf
     cases h
     have ho5048 : _ = _ := ho5048
     cases ho5048
     exact Join.mk (Ent.mk [(99, some 99)] rfl ⟨eI rfl rfl, eI rfl rfl, ⟨.osl 99 _, rfl, .osl rfl rfl rfl⟩, eI rfl rfl, eI rfl rfl, eI rfl rfl, trivial⟩ ⟨.inl ⟨99, rfl, rfl, trivial⟩, trivial⟩ trivial)
   ·replace h := hk4328
    obtain ⟨z5194, z5195, _⟩ := hp
    conv=>whnf
    obtain ⟨⟨count5200, found5201⟩, hc, hk5197⟩ := bind_some h
    clear h
    have h := hc
    clear hc
    refine Cut.mk (mkSt [(1, .im (nL cI class_)), (2, .im (.ref (c_api_Mealy m_))), (5, .osl 99 1), (6, .im (nI (↑count5200 : Int))), (7, .im (nI (↑s3445 : Int))), (8, .im (nI found5201))] [(99, .row 3 1 (List.map cI y3443))] []) (List.length class_ ≤ 17592186044416 ∧ List.length y3443 ≤ 17592186044416 ∧ True) ((Holds.avl 1 rfl).and ((Holds.kdl 99 rfl).and (Holds.true_ _))) ?_ (fun hp => ?_)
    ·conv=>whnf
     refine Both.mk ?_ ?_<;>intro b5202
     ·replace h := cond_t b5202 h
      have b5202d := odt b5202
      conv=>whnf
      obtain ⟨c5203, h⟩ := chk_some h
      refine Side.mk c5203 ?_
      conv=>whnf
      cases h
      exact Join.mk (Ent.mk [(99, some 99)] rfl ⟨eI rfl rfl, eI rfl rfl, ⟨.osl 99 _, rfl, .osl rfl rfl rfl⟩, eI rfl rfl, eI rfl rfl, eI rfl rfl, trivial⟩ ⟨.inl ⟨99, rfl, rfl, trivial⟩, trivial⟩ trivial)
     ·replace h := cond_f b5202 h
      have b5202d := odf b5202
      conv=>whnf
      cases h
      exact Join.mk (Ent.mk [(99, some 99)] rfl ⟨eI rfl rfl, eI rfl rfl, ⟨.osl 99 _, rfl, .osl rfl rfl rfl⟩, eI rfl rfl, eI rfl rfl, eI rfl rfl, trivial⟩ ⟨.inl ⟨99, rfl, rfl, trivial⟩, trivial⟩ trivial)
    ·replace h : R08_finer.k91 y3443 s3445 count5200 found5201 = some _ := hk5197
     unfold R08_finer.k91 at h
     obtain ⟨z5204, z5205, _⟩ := hp
     conv=>whnf
     obtain ⟨c5206, h⟩ := chk_some h
     refine Side.mk ⟨rfl, map_len (l := [found5201]) (c := cI) fun _ => rfl, show capOk _ 8 by simpa only [List.length_map, List.length_cons, List.length_nil, Nat.zero_add] using c5206⟩ ?_
     conv=>whnf
     refine Nf.mk (List.map cI (y3443 ++ [found5201])) (app_map (l := y3443) (m := [found5201]) (c := cI)) ?_
     conv=>whnf
     refine Side.mk (by show inR _; unfold inR; omega) ?_
     conv=>whnf
     cases h
     exact Nxt.mk _ ho4326 (Ent.mk [(99, some 99)] rfl ⟨eI rfl rfl, eI rfl rfl, ⟨.osl 99 _, rfl, .osl rfl rfl rfl⟩, eI rfl rfl, eI rfl rfl, trivial⟩ ⟨.inl ⟨99, rfl, rfl, trivial⟩, trivial⟩ trivial)
  ·replace h := cond_f b4327 h
   have b4327d := odf b4327
   conv=>whnf
   cases h
   have ho4326 : _ = _ := ho4326
   cases ho4326
   exact Join.mk (Ent.mk [(99, some 99)] rfl ⟨⟨.osl 99 _, rfl, .osl rfl rfl rfl⟩, trivial⟩ ⟨.inl ⟨99, rfl, rfl, trivial⟩, trivial⟩ trivial)
 ·replace h := hk51
  obtain ⟨z5209, _⟩ := hp
  conv=>whnf
  cases h
  conv=>whnf
  exact Side.mk ⟨rfl, trivial⟩ ⟨rfl, rfl⟩
theorem sp_R08_Partition (m_ : T_api_Mealy) (k_ : Int) (r : List Int × Int) (h : Ok (.agg (c_api_Mealy m_)) → Ok (nI k_) → R08_Partition m_ k_ = some r) : Sp Tryz.prog 154 [.im (.agg (c_api_Mealy m_)), .im (nI k_)] (.tup [nL cI r.1, nI r.2]) := by
 refine sp_of rfl [500032, 700002] rfl rfl rfl (Nat.le_of_ble_eq_true rfl) rfl fun hk => ?_
 replace h := h hk.1 hk.2.1
 have z1 : List.length m_.Next ≤ 17592186044416 := ok_len (Ok.agg_at hk.1 2 rfl)
 have z2 : List.length m_.Out ≤ 17592186044416 := ok_len (Ok.agg_at hk.1 3 rfl)
 unfold R08_Partition at h
 conv=>whnf
 obtain ⟨c51, hc51, h⟩ := bind_some h
 refine ⟨_, (sp_R06_Valid m_ c51 (fun _ => hc51)), ?_⟩
 conv=>whnf
 refine Both.mk ?_ ?_<;>intro b52
 ·replace h := cond_t b52 h
  have b52d := odt b52
  conv=>whnf
  cases h
  conv=>whnf
  exact ⟨rfl, rfl⟩
 ·replace h := cond_f b52 h
  have b52d := odf b52
  conv=>whnf
  refine Nf.mk (List.length m_.Next) len_map ?_
  conv=>whnf
  obtain ⟨c53, h⟩ := chk_some h
  refine Side.mk c53 ?_
  conv=>whnf
  refine Nf.mk (List.map cI (List.replicate (List.length m_.Next) 0)) (rep_map (c := cI) (z := 0) (n := (List.length m_.Next)) rfl rfl) ?_
  conv=>whnf
  obtain ⟨y85, hc, hk54⟩ := bind_some h
  clear h
  have h := hc
  clear hc
  refine Cut.mk (mkSt [(7, .osl 64 1)] [(64, .row 3 1 (List.map cI y85))] []) (List.length y85 ≤ 17592186044416 ∧ True) ((Holds.kdl 64 rfl).and (Holds.true_ _)) ?_ (fun hp => ?_)
  ·conv=>whnf
   refine Loops.iter (fun (s : List Int × Nat) => R08_Partition.s2 m_ k_ s.1 s.2) (fun (y94, i95) => mkSt [(1, .im (nI k_)), (2, .im (.ref (c_api_Mealy m_))), (7, .osl 64 1), (8, .im (nI (↑i95 : Int)))] [(64, .row 3 1 (List.map cI y94))] []) (fun (y94, i95) => List.length y94 ≤ 17592186044416 ∧ True) h (Ent.mk [(64, some 17)] rfl ⟨eI rfl rfl, eI rfl rfl, ⟨.osl 17 _, rfl, .osl rfl rfl rfl⟩, eI rfl rfl, trivial⟩ ⟨.inl ⟨17, rfl, rfl, trivial⟩, trivial⟩ trivial) (by rintro ⟨y94, i95⟩; exact ((Holds.kdl 64 rfl).and (Holds.true_ _))) ?_
   clear h
   rintro k ⟨y94, i95⟩ o hp h ho105
   replace h : R08_Partition.s2 m_ k_ y94 i95 = some o := h
   unfold R08_Partition.s2 at h
   obtain ⟨z115, _⟩ := hp
   conv=>whnf
   obtain ⟨y109, hc, hk107⟩ := bind_some h
   clear h
   have h := hc
   clear hc
   refine Cut.mk (mkSt [(1, .im (nI k_)), (2, .im (.ref (c_api_Mealy m_))), (7, .osl 64 1), (8, .im (nI (↑i95 : Int))), (27, .im (nB y109))] [(64, .row 3 1 (List.map cI y94))] []) (List.length y94 ≤ 17592186044416 ∧ True) ((Holds.kdl 64 rfl).and (Holds.true_ _)) ?_ (fun hp => ?_)
   ·conv=>whnf
    refine Both.mk ?_ ?_<;>intro b110
    ·replace b110 := beq_tt b110
     replace h := cond_t b110 h
     have b110d := odt b110
     conv=>whnf
     iterate 3 (refine Both.yes (tt_beq b110) ?_; (conv=>whnf))
     refine Nf.mk (List.length m_.Next) len_map ?_
     conv=>whnf
     refine Both.yes (tt_beq b110) ?_
     conv=>whnf
     refine Both.yes b110 ?_
     conv=>whnf
     cases h
     exact Join.mk (Ent.mk [(64, some 64)] rfl ⟨eI rfl rfl, eI rfl rfl, ⟨.osl 64 _, rfl, .osl rfl rfl rfl⟩, eI rfl rfl, eI rfl rfl, trivial⟩ ⟨.inl ⟨64, rfl, rfl, trivial⟩, trivial⟩ trivial)
    ·replace b110 := beq_tf b110
     replace h := cond_f b110 h
     have b110d := odf b110
     conv=>whnf
     iterate 4 (refine Both.no (ft_beq b110) ?_; (conv=>whnf))
     refine Both.no b110 ?_
     conv=>whnf
     cases h
     exact Join.mk (Ent.mk [(64, some 64)] rfl ⟨eI rfl rfl, eI rfl rfl, ⟨.osl 64 _, rfl, .osl rfl rfl rfl⟩, eI rfl rfl, eI rfl rfl, trivial⟩ ⟨.inl ⟨64, rfl, rfl, trivial⟩, trivial⟩ trivial)
   ·replace h := hk107
    obtain ⟨z111, _⟩ := hp
    conv=>whnf
    refine Both.mk ?_ ?_<;>intro b112
    ·replace h := cond_t b112 h
     conv=>whnf
     refine Side.mk ⟨rfl, trivial⟩ ?_
     conv=>whnf
     obtain ⟨c113, hc113, h⟩ := bind_some h
     refine ⟨_, (sp_R08_finer m_ y94 c113 (fun _ _ => hc113)), ?_⟩
     conv=>whnf
     refine Side.mk (flat_row (flat_map fun _ => ⟨_, rfl⟩)) ?_
     conv=>whnf
     obtain ⟨c114, h⟩ := chk_some h
     refine Side.mk c114 ?_
     conv=>whnf
     cases h
     exact Nxt.mk _ ho105 (Ent.mk [(64, some 32)] rfl ⟨eI rfl rfl, eI rfl rfl, ⟨.osl 32 _, rfl, .osl rfl rfl rfl⟩, eI rfl rfl, trivial⟩ ⟨.inl ⟨32, rfl, rfl, trivial⟩, trivial⟩ trivial)
    ·replace h := cond_f b112 h
     conv=>whnf
     cases h
     have ho105 : _ = _ := ho105
     cases ho105
     exact Join.mk (Ent.mk [(64, some 64)] rfl ⟨⟨.osl 64 _, rfl, .osl rfl rfl rfl⟩, trivial⟩ ⟨.inl ⟨64, rfl, rfl, trivial⟩, trivial⟩ trivial)
  ·replace h := hk54
   obtain ⟨z116, _⟩ := hp
   conv=>whnf
   cases h
   conv=>whnf
   exact Side.mk ⟨rfl, trivial⟩ ⟨rfl, rfl⟩
theorem sp_R08_Classes (m_ : T_api_Mealy) (r : List Int × Int) (h : Ok (.agg (c_api_Mealy m_)) → R08_Classes m_ = some r) : Sp Tryz.prog 135 [.im (.agg (c_api_Mealy m_))] (.tup [nL cI r.1, nI r.2]) := by
 refine sp_of rfl [700001] rfl rfl rfl (Nat.le_of_ble_eq_true rfl) rfl fun hk => ?_
 replace h := h hk.1
 have z1 : List.length m_.Next ≤ 17592186044416 := ok_len (Ok.agg_at hk.1 2 rfl)
 have z2 : List.length m_.Out ≤ 17592186044416 := ok_len (Ok.agg_at hk.1 3 rfl)
 unfold R08_Classes at h
 conv=>whnf
 refine Nf.mk (List.length m_.Next) len_map ?_
 conv=>whnf
 obtain ⟨c51, hc51, h⟩ := bind_some h
 refine ⟨_, (sp_R08_Partition m_ (↑(List.length m_.Next) : Int) c51 (fun _ _ => hc51)), ?_⟩
 conv=>whnf
 cases h
 conv=>whnf
 exact ⟨rfl, rfl⟩
theorem sp_R08_Min (m_ : T_api_Mealy) (r : T_api_Mealy × Int) (h : Ok (.agg (c_api_Mealy m_)) → R08_Min m_ = some r) : Sp Tryz.prog 101 [.im (.agg (c_api_Mealy m_))] (.tup [.agg (c_api_Mealy r.1), nI r.2]) := by
 refine sp_of rfl [26, 700001] rfl rfl rfl (Nat.le_of_ble_eq_true rfl) rfl fun hk => ?_
 replace h := h hk.1
 have z1 : List.length m_.Next ≤ 17592186044416 := ok_len (Ok.agg_at hk.1 2 rfl)
 have z2 : List.length m_.Out ≤ 17592186044416 := ok_len (Ok.agg_at hk.1 3 rfl)
 unfold R08_Min at h
 conv=>whnf
 obtain ⟨c51, hc51, h⟩ := bind_some h
 refine ⟨_, (sp_R08_Classes m_ c51 (fun _ => hc51)), ?_⟩
 conv=>whnf
 refine Both.mk ?_ ?_<;>intro b52
 ·replace h := cond_t b52 h
  have b52d := odt b52
  conv=>whnf
  refine Side.mk rfl ?_
  conv=>whnf
  cases h
  conv=>whnf
  refine Side.mk ⟨rfl, trivial⟩ ?_
  conv=>whnf
  exact ⟨rfl, rfl⟩
 ·replace h := cond_f b52 h
  have b52d := odf b52
  conv=>whnf
  refine Nf.mk (List.length m_.Next) len_map ?_
  conv=>whnf
  obtain ⟨c53, h⟩ := chk_some h
  refine Side.mk c53 ?_
  conv=>whnf
  refine Nf.mk (List.map cI (List.replicate (List.length m_.Next) 0)) (rep_map (c := cI) (z := 0) (n := (List.length m_.Next)) rfl rfl) ?_
  conv=>whnf
  obtain ⟨y67, hc, hk54⟩ := bind_some h
  clear h
  have h := hc
  clear hc
  refine Cut.mk (mkSt [(1, .im (.ref (c_api_Mealy m_))), (2, .own 130 1 0), (4, .im (nL cI c51.1)), (6, .osl 131 1), (7, .osl 132 1)] [(130, .box 58 4), (131, .row 3 1 (List.map cI [m_.Start])), (132, .row 3 1 (List.map cI y67))] [(130, 0, .im (nI 0)), (130, 1, .im (nI 0)), (130, 2, .im (.val (.slice none 0 0))), (130, 3, .im (.val (.slice none 0 0)))]) (List.length c51.1 ≤ 17592186044416 ∧ List.length [m_.Start] ≤ 17592186044416 ∧ List.length y67 ≤ 17592186044416 ∧ True) ((Holds.avl 4 rfl).and ((Holds.kdl 131 rfl).and ((Holds.kdl 132 rfl).and (Holds.true_ _)))) ?_ (fun hp => ?_)
  ·conv=>whnf
   refine Loops.iter (fun (s : List Int × Nat) => R08_Min.s2 s.1 s.2) (fun (y70, i71) => mkSt [(1, .im (.ref (c_api_Mealy m_))), (2, .own 130 1 0), (4, .im (nL cI c51.1)), (6, .osl 131 1), (7, .osl 132 1), (8, .im (nI (↑i71 : Int)))] [(130, .box 58 4), (131, .row 3 1 (List.map cI [m_.Start])), (132, .row 3 1 (List.map cI y70))] [(130, 0, .im (nI 0)), (130, 1, .im (nI 0)), (130, 2, .im (.val (.slice none 0 0))), (130, 3, .im (.val (.slice none 0 0)))]) (fun (y70, i71) => List.length c51.1 ≤ 17592186044416 ∧ List.length [m_.Start] ≤ 17592186044416 ∧ List.length y70 ≤ 17592186044416 ∧ True) h (Ent.mk [(130, some 2), (131, some 26), (132, some 30)] rfl ⟨eI rfl rfl, ⟨.own 2 _ 0, rfl, .own rfl rfl rfl⟩, eI rfl rfl, ⟨.osl 26 _, rfl, .osl rfl rfl rfl⟩, ⟨.osl 30 _, rfl, .osl rfl rfl rfl⟩, eI rfl rfl, trivial⟩ ⟨.inl ⟨2, rfl, rfl, trivial⟩, .inl ⟨26, rfl, rfl, trivial⟩, .inl ⟨30, rfl, rfl, trivial⟩, trivial⟩ ⟨⟨2, .im _, rfl, rfl, .im (Sub.rfl' rfl)⟩, ⟨2, .im _, rfl, rfl, .im (Sub.rfl' rfl)⟩, ⟨2, .im (.val (.slice none 0 0)), rfl, rfl, .im (Sub.rfl' rfl)⟩, ⟨2, .im (.val (.slice none 0 0)), rfl, rfl, .im (Sub.rfl' rfl)⟩, trivial⟩) (by rintro ⟨y70, i71⟩; exact ((Holds.avl 4 rfl).and ((Holds.kdl 131 rfl).and ((Holds.kdl 132 rfl).and (Holds.true_ _))))) ?_
   clear h
   rintro k ⟨y70, i71⟩ o hp h ho74
   replace h : R08_Min.s2 y70 i71 = some o := h
   unfold R08_Min.s2 at h
   obtain ⟨z77, z78, z79, _⟩ := hp
   conv=>whnf
   refine Side.mk rfl ?_
   conv=>whnf
   refine Nf.mk (List.length y70) len_map ?_
   conv=>whnf
   refine Both.mk ?_ ?_<;>intro b75
   ·replace h := cond_t b75 h
    have b75d := odt b75
    conv=>whnf
    obtain ⟨e76, he76, h⟩ := idxn_some h
    refine Side.mk ⟨(by omega), rfl, map_lt he76⟩ ?_
    conv=>whnf
    refine Side.mk ⟨rfl, trivial⟩ ?_
    conv=>whnf
    refine ⟨_, map_at he76, ?_⟩
    conv=>whnf
    refine Nf.mk (List.map cI (List.set y70 i71 (-1 : Int))) (set_map rfl) ?_
    conv=>whnf
    refine Side.mk (by show inR _; unfold inR; omega) ?_
    conv=>whnf
    cases h
    exact Nxt.mk _ ho74 (Ent.mk [(130, some 130), (131, some 131), (132, some 132)] rfl ⟨eI rfl rfl, ⟨.own 130 _ 0, rfl, .own rfl rfl rfl⟩, eI rfl rfl, ⟨.osl 131 _, rfl, .osl rfl rfl rfl⟩, ⟨.osl 132 _, rfl, .osl rfl rfl rfl⟩, eI rfl rfl, trivial⟩ ⟨.inl ⟨130, rfl, rfl, trivial⟩, .inl ⟨131, rfl, rfl, trivial⟩, .inl ⟨132, rfl, rfl, trivial⟩, trivial⟩ ⟨⟨130, .im _, rfl, rfl, .im (Sub.rfl' rfl)⟩, ⟨130, .im _, rfl, rfl, .im (Sub.rfl' rfl)⟩, ⟨130, .im (.val (.slice none 0 0)), rfl, rfl, .im (Sub.rfl' rfl)⟩, ⟨130, .im (.val (.slice none 0 0)), rfl, rfl, .im (Sub.rfl' rfl)⟩, trivial⟩)
   ·replace h := cond_f b75 h
    have b75d := odf b75
    conv=>whnf
    cases h
    have ho74 : _ = _ := ho74
    cases ho74
    exact Join.mk (Ent.mk [(130, some 130), (131, some 131), (132, some 132)] rfl ⟨eI rfl rfl, ⟨.own 130 _ 0, rfl, .own rfl rfl rfl⟩, eI rfl rfl, ⟨.osl 131 _, rfl, .osl rfl rfl rfl⟩, ⟨.osl 132 _, rfl, .osl rfl rfl rfl⟩, trivial⟩ ⟨.inl ⟨130, rfl, rfl, trivial⟩, .inl ⟨131, rfl, rfl, trivial⟩, .inl ⟨132, rfl, rfl, trivial⟩, trivial⟩ ⟨⟨130, .im _, rfl, rfl, .im (Sub.rfl' rfl)⟩, ⟨130, .im _, rfl, rfl, .im (Sub.rfl' rfl)⟩, ⟨130, .im (.val (.slice none 0 0)), rfl, rfl, .im (Sub.rfl' rfl)⟩, ⟨130, .im (.val (.slice none 0 0)), rfl, rfl, .im (Sub.rfl' rfl)⟩, trivial⟩)
  ·replace h := hk54
   obtain ⟨z80, z81, z82, _⟩ := hp
   conv=>whnf
   obtain ⟨e83, he83z, he83, h⟩ := idx_some h
   refine ⟨_, ⟨he83z, map_at he83, rfl⟩, ?_⟩
   conv=>whnf
   obtain ⟨e84, he84z, he84, h⟩ := idx_some h
   refine Side.mk ⟨he84z, rfl, map_lt he84⟩ ?_
   conv=>whnf
   refine Side.mk ⟨rfl, trivial⟩ ?_
   conv=>whnf
   refine ⟨_, map_at he84, ?_⟩
   conv=>whnf
   refine Nf.mk (List.map cI (List.set y67 e83.toNat 0)) (set_map rfl) ?_
   conv=>whnf
   refine Side.mk rfl ?_
   conv=>whnf
   obtain ⟨⟨y800, y801⟩, hc, hk85⟩ := bind_some h
   clear h
   have h := hc
   clear hc
   refine Cut.mk (mkSt [(2, .own 130 1 0), (9, .own 131 1 0)] [(130, .box 58 4), (131, .box 58 4), (132, .row 38 1 (List.map (cL cI) y800)), (133, .row 38 1 (List.map (cL cI) y801))] [(130, 0, .im (nI 0)), (130, 1, .im (nI 0)), (130, 2, .im (.val (.slice none 0 0))), (130, 3, .im (.val (.slice none 0 0))), (131, 0, .im (nI m_.Inputs)), (131, 1, .im (nI 0)), (131, 2, .osl 132 1), (131, 3, .osl 133 1)]) (List.length y800 ≤ 17592186044416 ∧ List.length y801 ≤ 17592186044416 ∧ True) ((Holds.kdl 132 rfl).and ((Holds.kdl 133 rfl).and (Holds.true_ _))) ?_ (fun hp => ?_)
   ·conv=>whnf
    refine Loops.iter (fun (s : List Int × List Int × List (List Int) × List (List Int) × Nat) => R08_Min.s58 m_ c51 s.1 s.2.1 s.2.2.1 s.2.2.2.1 s.2.2.2.2) (fun (y1023, y1024, y1025, y1026, i1027) => mkSt [(1, .im (.ref (c_api_Mealy m_))), (2, .own 130 1 0), (4, .im (nL cI c51.1)), (6, .osl 131 1), (7, .osl 132 1), (9, .own 133 1 0), (10, .im (nI (↑i1027 : Int)))] [(130, .box 58 4), (131, .row 3 1 (List.map cI y1023)), (132, .row 3 1 (List.map cI y1024)), (133, .box 58 4), (134, .row 38 1 (List.map (cL cI) y1025)), (135, .row 38 1 (List.map (cL cI) y1026))] [(130, 0, .im (nI 0)), (130, 1, .im (nI 0)), (130, 2, .im (.val (.slice none 0 0))), (130, 3, .im (.val (.slice none 0 0))), (133, 0, .im (nI m_.Inputs)), (133, 1, .im (nI 0)), (133, 2, .osl 134 1), (133, 3, .osl 135 1)]) (fun (y1023, y1024, y1025, y1026, i1027) => List.length c51.1 ≤ 17592186044416 ∧ List.length y1023 ≤ 17592186044416 ∧ List.length y1024 ≤ 17592186044416 ∧ List.length y1025 ≤ 17592186044416 ∧ List.length y1026 ≤ 17592186044416 ∧ True) h (Ent.mk [(130, some 130), (131, some 131), (132, some 132), (133, some 9), (134, none), (135, none)] rfl ⟨eI rfl rfl, ⟨.own 130 _ 0, rfl, .own rfl rfl rfl⟩, eI rfl rfl, ⟨.osl 131 _, rfl, .osl rfl rfl rfl⟩, ⟨.osl 132 _, rfl, .osl rfl rfl rfl⟩, ⟨.own 9 _ 0, rfl, .own rfl rfl rfl⟩, eI rfl rfl, trivial⟩ ⟨.inl ⟨130, rfl, rfl, trivial⟩, .inl ⟨131, rfl, rfl, trivial⟩, .inl ⟨132, rfl, rfl, trivial⟩, .inl ⟨9, rfl, rfl, trivial⟩, .inr ⟨rfl, rfl, .inl ⟨_, _, rfl, by decide⟩⟩, .inr ⟨rfl, rfl, .inl ⟨_, _, rfl, by decide⟩⟩, trivial⟩ ⟨⟨130, .im _, rfl, rfl, .im (Sub.rfl' rfl)⟩, ⟨130, .im _, rfl, rfl, .im (Sub.rfl' rfl)⟩, ⟨130, .im (.val (.slice none 0 0)), rfl, rfl, .im (Sub.rfl' rfl)⟩, ⟨130, .im (.val (.slice none 0 0)), rfl, rfl, .im (Sub.rfl' rfl)⟩, ⟨9, .im _, rfl, rfl, .im (Sub.rfl' rfl)⟩, ⟨9, .im _, rfl, rfl, .im (Sub.rfl' rfl)⟩, ⟨9, .im (.val (.slice none 0 0)), rfl, rfl, .made rfl rfl⟩, ⟨9, .im (.val (.slice none 0 0)), rfl, rfl, .made rfl rfl⟩, trivial⟩) (by rintro ⟨y1023, y1024, y1025, y1026, i1027⟩; exact ((Holds.avl 4 rfl).and ((Holds.kdl 131 rfl).and ((Holds.kdl 132 rfl).and ((Holds.kdl 134 rfl).and ((Holds.kdl 135 rfl).and (Holds.true_ _))))))) ?_
    clear h
    rintro k ⟨y1023, y1024, y1025, y1026, i1027⟩ o hp h ho1269
    replace h : R08_Min.s58 m_ c51 y1023 y1024 y1025 y1026 i1027 = some o := h
    unfold R08_Min.s58 at h
    obtain ⟨z1511, z1512, z1513, z1514, z1515, _⟩ := hp
    conv=>whnf
    refine Side.mk rfl ?_
    conv=>whnf
    refine Nf.mk (List.length y1023) len_map ?_
    conv=>whnf
    refine Both.mk ?_ ?_<;>intro b1270
    ·replace h := cond_t b1270 h
     have b1270d := odt b1270
     conv=>whnf
     obtain ⟨⟨y1385, y1386, y1387, y1388⟩, hc, hk1271⟩ := bind_some h
     clear h
     have h := hc
     clear hc
     refine Cut.mk (mkSt [(1, .im (.ref (c_api_Mealy m_))), (2, .own 130 1 0), (4, .im (nL cI c51.1)), (6, .osl 131 1), (7, .osl 132 1), (9, .own 133 1 0), (10, .im (nI (↑i1027 : Int))), (11, .osl 136 1), (12, .osl 137 1)] [(130, .box 58 4), (131, .row 3 1 (List.map cI y1385)), (132, .row 3 1 (List.map cI y1386)), (133, .box 58 4), (134, .row 38 1 (List.map (cL cI) y1025)), (135, .row 38 1 (List.map (cL cI) y1026)), (136, .row 3 1 (List.map cI y1387)), (137, .row 3 1 (List.map cI y1388))] [(130, 0, .im (nI 0)), (130, 1, .im (nI 0)), (130, 2, .im (.val (.slice none 0 0))), (130, 3, .im (.val (.slice none 0 0))), (133, 0, .im (nI m_.Inputs)), (133, 1, .im (nI 0)), (133, 2, .osl 134 1), (133, 3, .osl 135 1)]) (List.length c51.1 ≤ 17592186044416 ∧ List.length y1385 ≤ 17592186044416 ∧ List.length y1386 ≤ 17592186044416 ∧ List.length y1025 ≤ 17592186044416 ∧ List.length y1026 ≤ 17592186044416 ∧ List.length y1387 ≤ 17592186044416 ∧ List.length y1388 ≤ 17592186044416 ∧ True) ((Holds.avl 4 rfl).and ((Holds.kdl 131 rfl).and ((Holds.kdl 132 rfl).and ((Holds.kdl 134 rfl).and ((Holds.kdl 135 rfl).and ((Holds.kdl 136 rfl).and ((Holds.kdl 137 rfl).and (Holds.true_ _)))))))) ?_ (fun hp => ?_)
     ·conv=>whnf
      refine Loops.iter (fun (s : List Int × List Int × List Int × List Int × Nat) => R08_Min.s56 m_ c51 i1027 s.1 s.2.1 s.2.2.1 s.2.2.2.1 s.2.2.2.2) (fun (y1419, y1420, y1421, y1422, a1423) => mkSt [(1, .im (.ref (c_api_Mealy m_))), (2, .own 130 1 0), (4, .im (nL cI c51.1)), (6, .osl 131 1), (7, .osl 132 1), (9, .own 133 1 0), (10, .im (nI (↑i1027 : Int))), (11, .osl 136 1), (12, .osl 137 1), (13, .im (nI (↑a1423 : Int)))] [(130, .box 58 4), (131, .row 3 1 (List.map cI y1419)), (132, .row 3 1 (List.map cI y1420)), (133, .box 58 4), (134, .row 38 1 (List.map (cL cI) y1025)), (135, .row 38 1 (List.map (cL cI) y1026)), (136, .row 3 1 (List.map cI y1421)), (137, .row 3 1 (List.map cI y1422))] [(130, 0, .im (nI 0)), (130, 1, .im (nI 0)), (130, 2, .im (.val (.slice none 0 0))), (130, 3, .im (.val (.slice none 0 0))), (133, 0, .im (nI m_.Inputs)), (133, 1, .im (nI 0)), (133, 2, .osl 134 1), (133, 3, .osl 135 1)]) (fun (y1419, y1420, y1421, y1422, a1423) => List.length c51.1 ≤ 17592186044416 ∧ List.length y1419 ≤ 17592186044416 ∧ List.length y1420 ≤ 17592186044416 ∧ List.length y1025 ≤ 17592186044416 ∧ List.length y1026 ≤ 17592186044416 ∧ List.length y1421 ≤ 17592186044416 ∧ List.length y1422 ≤ 17592186044416 ∧ True) h (Ent.mk [(130, some 130), (131, some 131), (132, some 132), (133, some 133), (134, some 134), (135, some 135), (136, none), (137, none)] rfl ⟨eI rfl rfl, ⟨.own 130 _ 0, rfl, .own rfl rfl rfl⟩, eI rfl rfl, ⟨.osl 131 _, rfl, .osl rfl rfl rfl⟩, ⟨.osl 132 _, rfl, .osl rfl rfl rfl⟩, ⟨.own 133 _ 0, rfl, .own rfl rfl rfl⟩, eI rfl rfl, ⟨.im (.val (.slice none 0 0)), rfl, .made rfl rfl⟩, ⟨.im (.val (.slice none 0 0)), rfl, .made rfl rfl⟩, eI rfl rfl, trivial⟩ ⟨.inl ⟨130, rfl, rfl, trivial⟩, .inl ⟨131, rfl, rfl, trivial⟩, .inl ⟨132, rfl, rfl, trivial⟩, .inl ⟨133, rfl, rfl, trivial⟩, .inl ⟨134, rfl, rfl, trivial⟩, .inl ⟨135, rfl, rfl, trivial⟩, .inr ⟨rfl, rfl, .inl ⟨_, _, rfl, by decide⟩⟩, .inr ⟨rfl, rfl, .inl ⟨_, _, rfl, by decide⟩⟩, trivial⟩ ⟨⟨130, .im _, rfl, rfl, .im (Sub.rfl' rfl)⟩, ⟨130, .im _, rfl, rfl, .im (Sub.rfl' rfl)⟩, ⟨130, .im (.val (.slice none 0 0)), rfl, rfl, .im (Sub.rfl' rfl)⟩, ⟨130, .im (.val (.slice none 0 0)), rfl, rfl, .im (Sub.rfl' rfl)⟩, ⟨133, .im _, rfl, rfl, .im (Sub.rfl' rfl)⟩, ⟨133, .im _, rfl, rfl, .im (Sub.rfl' rfl)⟩, ⟨133, .osl 134 _, rfl, rfl, .osl rfl rfl rfl⟩, ⟨133, .osl 135 _, rfl, rfl, .osl rfl rfl rfl⟩, trivial⟩) (by rintro ⟨y1419, y1420, y1421, y1422, a1423⟩; exact ((Holds.avl 4 rfl).and ((Holds.kdl 131 rfl).and ((Holds.kdl 132 rfl).and ((Holds.kdl 134 rfl).and ((Holds.kdl 135 rfl).and ((Holds.kdl 136 rfl).and ((Holds.kdl 137 rfl).and (Holds.true_ _))))))))) ?_
      clear h
      rintro k ⟨y1419, y1420, y1421, y1422, a1423⟩ o hp h ho1459
      replace h : R08_Min.s56 m_ c51 i1027 y1419 y1420 y1421 y1422 a1423 = some o := h
      unfold R08_Min.s56 at h
      obtain ⟨z1495, z1496, z1497, z1498, z1499, z1500, z1501, _⟩ := hp
      conv=>whnf
      refine Both.mk ?_ ?_<;>intro b1460
      ·replace h := cond_t b1460 h
       have b1460d := odt b1460
       conv=>whnf
       obtain ⟨e1461, he1461, h⟩ := idxn_some h
       refine Side.mk ⟨(by omega), rfl, map_lt he1461⟩ ?_
       conv=>whnf
       refine ⟨_, _, ⟨rfl, map_at he1461, rfl, rfl⟩, ?_⟩
       conv=>whnf
       obtain ⟨e1462, he1462z, he1462, h⟩ := idx_some h
       refine ⟨_, ⟨he1462z, map_at he1462, rfl⟩, ?_⟩
       conv=>whnf
       obtain ⟨e1463, he1463, h⟩ := idxn_some h
       refine ⟨_, ⟨(by omega), map_at he1463, rfl⟩, ?_⟩
       conv=>whnf
       obtain ⟨⟨y1472, y1473⟩, hc, hk1465⟩ := bind_some h
       clear h
       have h := hc
       clear hc
       refine Cut.mk (mkSt [(1, .im (.ref (c_api_Mealy m_))), (2, .own 130 1 0), (4, .im (nL cI c51.1)), (6, .osl 131 1), (7, .osl 132 1), (9, .own 133 1 0), (10, .im (nI (↑i1027 : Int))), (11, .osl 136 1), (12, .osl 137 1), (13, .im (nI (↑a1423 : Int))), (14, .im (nI e1463))] [(130, .box 58 4), (131, .row 3 1 (List.map cI y1472)), (132, .row 3 1 (List.map cI y1473)), (133, .box 58 4), (134, .row 38 1 (List.map (cL cI) y1025)), (135, .row 38 1 (List.map (cL cI) y1026)), (136, .row 3 1 (List.map cI y1421)), (137, .row 3 1 (List.map cI y1422))] [(130, 0, .im (nI 0)), (130, 1, .im (nI 0)), (130, 2, .im (.val (.slice none 0 0))), (130, 3, .im (.val (.slice none 0 0))), (133, 0, .im (nI m_.Inputs)), (133, 1, .im (nI 0)), (133, 2, .osl 134 1), (133, 3, .osl 135 1)]) (List.length c51.1 ≤ 17592186044416 ∧ List.length y1472 ≤ 17592186044416 ∧ List.length y1473 ≤ 17592186044416 ∧ List.length y1025 ≤ 17592186044416 ∧ List.length y1026 ≤ 17592186044416 ∧ List.length y1421 ≤ 17592186044416 ∧ List.length y1422 ≤ 17592186044416 ∧ True) ((Holds.avl 4 rfl).and ((Holds.kdl 131 rfl).and ((Holds.kdl 132 rfl).and ((Holds.kdl 134 rfl).and ((Holds.kdl 135 rfl).and ((Holds.kdl 136 rfl).and ((Holds.kdl 137 rfl).and (Holds.true_ _)))))))) ?_ (fun hp => ?_)
       ·conv=>whnf
        obtain ⟨e1474, he1474z, he1474, h⟩ := idx_some h
        refine ⟨_, ⟨he1474z, map_at he1474, rfl⟩, ?_⟩
        conv=>whnf
        obtain ⟨e1475, he1475z, he1475, h⟩ := idx_some h
        refine Side.mk ⟨he1475z, rfl, map_lt he1475⟩ ?_
        conv=>whnf
        refine ⟨_, _, ⟨rfl, map_at he1475, rfl, rfl⟩, ?_⟩
        conv=>whnf
        refine Both.mk ?_ ?_<;>intro b1476
        ·replace h := cond_t b1476 h
         have b1476d := odt b1476
         conv=>whnf
         obtain ⟨e1477, he1477z, he1477, h⟩ := idx_some h
         refine ⟨_, ⟨he1477z, map_at he1477, rfl⟩, ?_⟩
         conv=>whnf
         refine Side.mk rfl ?_
         conv=>whnf
         refine Nf.mk (List.length y1419) len_map ?_
         conv=>whnf
         obtain ⟨e1478, he1478z, he1478, h⟩ := idx_some h
         refine Side.mk ⟨he1478z, rfl, map_lt he1478⟩ ?_
         conv=>whnf
         refine Side.mk ⟨rfl, trivial⟩ ?_
         conv=>whnf
         refine ⟨_, map_at he1478, ?_⟩
         conv=>whnf
         refine Nf.mk (List.map cI (List.set y1420 e1477.toNat (↑(List.length y1419) : Int))) (set_map rfl) ?_
         conv=>whnf
         obtain ⟨c1479, h⟩ := chk_some h
         refine Side.mk ⟨rfl, map_len (l := [e1463]) (c := cI) fun _ => rfl, show capOk _ 8 by simpa only [List.length_map, List.length_cons, List.length_nil, Nat.zero_add] using c1479⟩ ?_
         conv=>whnf
         refine Nf.mk (List.map cI (y1419 ++ [e1463])) (app_map (l := y1419) (m := [e1463]) (c := cI)) ?_
         conv=>whnf
         cases h
         exact Join.mk (Ent.mk [(130, some 130), (131, some 131), (132, some 132), (133, some 133), (134, some 134), (135, some 135), (136, some 136), (137, some 137)] rfl ⟨eI rfl rfl, ⟨.own 130 _ 0, rfl, .own rfl rfl rfl⟩, eI rfl rfl, ⟨.osl 131 _, rfl, .osl rfl rfl rfl⟩, ⟨.osl 132 _, rfl, .osl rfl rfl rfl⟩, ⟨.own 133 _ 0, rfl, .own rfl rfl rfl⟩, eI rfl rfl, ⟨.osl 136 _, rfl, .osl rfl rfl rfl⟩, ⟨.osl 137 _, rfl, .osl rfl rfl rfl⟩, eI rfl rfl, eI rfl rfl, trivial⟩ ⟨.inl ⟨130, rfl, rfl, trivial⟩, .inl ⟨131, rfl, rfl, trivial⟩, .inl ⟨132, rfl, rfl, trivial⟩, .inl ⟨133, rfl, rfl, trivial⟩, .inl ⟨134, rfl, rfl, trivial⟩, .inl ⟨135, rfl, rfl, trivial⟩, .inl ⟨136, rfl, rfl, trivial⟩, .inl ⟨137, rfl, rfl, trivial⟩, trivial⟩ ⟨⟨130, .im _, rfl, rfl, .im (Sub.rfl' rfl)⟩, ⟨130, .im _, rfl, rfl, .im (Sub.rfl' rfl)⟩, ⟨130, .im (.val (.slice none 0 0)), rfl, rfl, .im (Sub.rfl' rfl)⟩, ⟨130, .im (.val (.slice none 0 0)), rfl, rfl, .im (Sub.rfl' rfl)⟩, ⟨133, .im _, rfl, rfl, .im (Sub.rfl' rfl)⟩, ⟨133, .im _, rfl, rfl, .im (Sub.rfl' rfl)⟩, ⟨133, .osl 134 _, rfl, rfl, .osl rfl rfl rfl⟩, ⟨133, .osl 135 _, rfl, rfl, .osl rfl rfl rfl⟩, trivial⟩)
        ·replace h := cond_f b1476 h
         have b1476d := odf b1476
         conv=>whnf
         cases h
         exact Join.mk (Ent.mk [(130, some 130), (131, some 131), (132, some 132), (133, some 133), (134, some 134), (135, some 135), (136, some 136), (137, some 137)] rfl ⟨eI rfl rfl, ⟨.own 130 _ 0, rfl, .own rfl rfl rfl⟩, eI rfl rfl, ⟨.osl 131 _, rfl, .osl rfl rfl rfl⟩, ⟨.osl 132 _, rfl, .osl rfl rfl rfl⟩, ⟨.own 133 _ 0, rfl, .own rfl rfl rfl⟩, eI rfl rfl, ⟨.osl 136 _, rfl, .osl rfl rfl rfl⟩, ⟨.osl 137 _, rfl, .osl rfl rfl rfl⟩, eI rfl rfl, eI rfl rfl, trivial⟩ ⟨.inl ⟨130, rfl, rfl, trivial⟩, .inl ⟨131, rfl, rfl, trivial⟩, .inl ⟨132, rfl, rfl, trivial⟩, .inl ⟨133, rfl, rfl, trivial⟩, .inl ⟨134, rfl, rfl, trivial⟩, .inl ⟨135, rfl, rfl, trivial⟩, .inl ⟨136, rfl, rfl, trivial⟩, .inl ⟨137, rfl, rfl, trivial⟩, trivial⟩ ⟨⟨130, .im _, rfl, rfl, .im (Sub.rfl' rfl)⟩, ⟨130, .im _, rfl, rfl, .im (Sub.rfl' rfl)⟩, ⟨130, .im (.val (.slice none 0 0)), rfl, rfl, .im (Sub.rfl' rfl)⟩, ⟨130, .im (.val (.slice none 0 0)), rfl, rfl, .im (Sub.rfl' rfl)⟩, ⟨133, .im _, rfl, rfl, .im (Sub.rfl' rfl)⟩, ⟨133, .im _, rfl, rfl, .im (Sub.rfl' rfl)⟩, ⟨133, .osl 134 _, rfl, rfl, .osl rfl rfl rfl⟩, ⟨133, .osl 135 _, rfl, rfl, .osl rfl rfl rfl⟩, trivial⟩)
       ·replace h : R08_Min.k55 m_ c51 i1027 y1421 y1422 a1423 e1463 y1472 y1473 = some _ := hk1465
        unfold R08_Min.k55 at h
        obtain ⟨z1480, z1481, z1482, z1483, z1484, z1485, z1486, _⟩ := hp
        conv=>whnf
        obtain ⟨e1487, he1487z, he1487, h⟩ := idx_some h
        refine ⟨_, ⟨he1487z, map_at he1487, rfl⟩, ?_⟩
        conv=>whnf
        obtain ⟨e1488, he1488z, he1488, h⟩ := idx_some h
        refine Side.mk ⟨he1488z, rfl, map_lt he1488⟩ ?_
        conv=>whnf
        refine ⟨_, _, ⟨rfl, map_at he1488, rfl, rfl⟩, ?_⟩
        conv=>whnf
        obtain ⟨c1489, h⟩ := chk_some h
        refine Side.mk ⟨rfl, map_len (l := [e1488]) (c := cI) fun _ => rfl, show capOk _ 8 by simpa only [List.length_map, List.length_cons, List.length_nil, Nat.zero_add] using c1489⟩ ?_
        conv=>whnf
        refine Nf.mk (List.map cI (y1421 ++ [e1488])) (app_map (l := y1421) (m := [e1488]) (c := cI)) ?_
        conv=>whnf
        obtain ⟨e1490, he1490, h⟩ := idxn_some h
        refine Side.mk ⟨(by omega), rfl, map_lt he1490⟩ ?_
        conv=>whnf
        refine ⟨_, _, ⟨rfl, map_at he1490, rfl, rfl⟩, ?_⟩
        conv=>whnf
        obtain ⟨e1491, he1491z, he1491, h⟩ := idx_some h
        refine ⟨_, ⟨he1491z, map_at he1491, rfl⟩, ?_⟩
        conv=>whnf
        obtain ⟨e1492, he1492, h⟩ := idxn_some h
        refine ⟨_, ⟨(by omega), map_at he1492, rfl⟩, ?_⟩
        conv=>whnf
        obtain ⟨c1493, h⟩ := chk_some h
        refine Side.mk ⟨rfl, map_len (l := [e1492]) (c := cI) fun _ => rfl, show capOk _ 8 by simpa only [List.length_map, List.length_cons, List.length_nil, Nat.zero_add] using c1493⟩ ?_
        conv=>whnf
        refine Nf.mk (List.map cI (y1422 ++ [e1492])) (app_map (l := y1422) (m := [e1492]) (c := cI)) ?_
        conv=>whnf
        obtain ⟨c1494, h⟩ := chk_some h
        refine Side.mk c1494 ?_
        conv=>whnf
        cases h
        exact Nxt.mk _ ho1459 (Ent.mk [(130, some 130), (131, some 131), (132, some 132), (133, some 133), (134, some 134), (135, some 135), (136, some 136), (137, some 137)] rfl ⟨eI rfl rfl, ⟨.own 130 _ 0, rfl, .own rfl rfl rfl⟩, eI rfl rfl, ⟨.osl 131 _, rfl, .osl rfl rfl rfl⟩, ⟨.osl 132 _, rfl, .osl rfl rfl rfl⟩, ⟨.own 133 _ 0, rfl, .own rfl rfl rfl⟩, eI rfl rfl, ⟨.osl 136 _, rfl, .osl rfl rfl rfl⟩, ⟨.osl 137 _, rfl, .osl rfl rfl rfl⟩, eI rfl rfl, trivial⟩ ⟨.inl ⟨130, rfl, rfl, trivial⟩, .inl ⟨131, rfl, rfl, trivial⟩, .inl ⟨132, rfl, rfl, trivial⟩, .inl ⟨133, rfl, rfl, trivial⟩, .inl ⟨134, rfl, rfl, trivial⟩, .inl ⟨135, rfl, rfl, trivial⟩, .inl ⟨136, rfl, rfl, trivial⟩, .inl ⟨137, rfl, rfl, trivial⟩, trivial⟩ ⟨⟨130, .im _, rfl, rfl, .im (Sub.rfl' rfl)⟩, ⟨130, .im _, rfl, rfl, .im (Sub.rfl' rfl)⟩, ⟨130, .im (.val (.slice none 0 0)), rfl, rfl, .im (Sub.rfl' rfl)⟩, ⟨130, .im (.val (.slice none 0 0)), rfl, rfl, .im (Sub.rfl' rfl)⟩, ⟨133, .im _, rfl, rfl, .im (Sub.rfl' rfl)⟩, ⟨133, .im _, rfl, rfl, .im (Sub.rfl' rfl)⟩, ⟨133, .osl 134 _, rfl, rfl, .osl rfl rfl rfl⟩, ⟨133, .osl 135 _, rfl, rfl, .osl rfl rfl rfl⟩, trivial⟩)
      ·replace h := cond_f b1460 h
       have b1460d := odf b1460
       conv=>whnf
       cases h
       have ho1459 : _ = _ := ho1459
       cases ho1459
       exact Join.mk (Ent.mk [(130, some 130), (131, some 131), (132, some 132), (133, some 133), (134, some 134), (135, some 135), (136, some 136), (137, some 137)] rfl ⟨eI rfl rfl, ⟨.own 130 _ 0, rfl, .own rfl rfl rfl⟩, eI rfl rfl, ⟨.osl 131 _, rfl, .osl rfl rfl rfl⟩, ⟨.osl 132 _, rfl, .osl rfl rfl rfl⟩, ⟨.own 133 _ 0, rfl, .own rfl rfl rfl⟩, eI rfl rfl, ⟨.osl 136 _, rfl, .osl rfl rfl rfl⟩, ⟨.osl 137 _, rfl, .osl rfl rfl rfl⟩, trivial⟩ ⟨.inl ⟨130, rfl, rfl, trivial⟩, .inl ⟨131, rfl, rfl, trivial⟩, .inl ⟨132, rfl, rfl, trivial⟩, .inl ⟨133, rfl, rfl, trivial⟩, .inl ⟨134, rfl, rfl, trivial⟩, .inl ⟨135, rfl, rfl, trivial⟩, .inl ⟨136, rfl, rfl, trivial⟩, .inl ⟨137, rfl, rfl, trivial⟩, trivial⟩ ⟨⟨130, .im _, rfl, rfl, .im (Sub.rfl' rfl)⟩, ⟨130, .im _, rfl, rfl, .im (Sub.rfl' rfl)⟩, ⟨130, .im (.val (.slice none 0 0)), rfl, rfl, .im (Sub.rfl' rfl)⟩, ⟨130, .im (.val (.slice none 0 0)), rfl, rfl, .im (Sub.rfl' rfl)⟩, ⟨133, .im _, rfl, rfl, .im (Sub.rfl' rfl)⟩, ⟨133, .im _, rfl, rfl, .im (Sub.rfl' rfl)⟩, ⟨133, .osl 134 _, rfl, rfl, .osl rfl rfl rfl⟩, ⟨133, .osl 135 _, rfl, rfl, .osl rfl rfl rfl⟩, trivial⟩)
     ·replace h : R08_Min.k57 y1025 y1026 i1027 y1385 y1386 y1387 y1388 = some _ := hk1271
      unfold R08_Min.k57 at h
      obtain ⟨z1502, z1503, z1504, z1505, z1506, z1507, z1508, _⟩ := hp
      conv=>whnf
      refine Side.mk rfl ?_
      conv=>whnf
      refine Side.mk rfl ?_
      conv=>whnf
      refine Side.mk ⟨rfl, trivial⟩ ?_
      conv=>whnf
      obtain ⟨c1509, h⟩ := chk_some h
      refine Side.mk ⟨rfl, map_len (l := [y1387]) (c := cL cI) fun _ => rfl, show capOk _ 24 by simpa only [List.length_map, List.length_cons, List.length_nil, Nat.zero_add] using c1509⟩ ?_
      conv=>whnf
      refine Nf.mk (List.map (cL cI) (y1025 ++ [y1387])) (app_map (l := y1025) (m := [y1387]) (c := cL cI)) ?_
      conv=>whnf
      refine Side.mk rfl ?_
      conv=>whnf
      refine Side.mk rfl ?_
      conv=>whnf
      refine Side.mk rfl ?_
      conv=>whnf
      refine Side.mk rfl ?_
      conv=>whnf
      refine Side.mk ⟨rfl, trivial⟩ ?_
      conv=>whnf
      obtain ⟨c1510, h⟩ := chk_some h
      refine Side.mk ⟨rfl, map_len (l := [y1388]) (c := cL cI) fun _ => rfl, show capOk _ 24 by simpa only [List.length_map, List.length_cons, List.length_nil, Nat.zero_add] using c1510⟩ ?_
      conv=>whnf
      refine Nf.mk (List.map (cL cI) (y1026 ++ [y1388])) (app_map (l := y1026) (m := [y1388]) (c := cL cI)) ?_
      conv=>whnf
      refine Side.mk rfl ?_
      conv=>whnf
      refine Side.mk rfl ?_
      conv=>whnf
      refine Side.mk (by show inR _; unfold inR; omega) ?_
      conv=>whnf
      cases h
      exact Nxt.mk _ ho1269 (Ent.mk [(130, some 130), (131, some 131), (132, some 132), (133, some 133), (134, some 134), (135, some 135)] rfl ⟨eI rfl rfl, ⟨.own 130 _ 0, rfl, .own rfl rfl rfl⟩, eI rfl rfl, ⟨.osl 131 _, rfl, .osl rfl rfl rfl⟩, ⟨.osl 132 _, rfl, .osl rfl rfl rfl⟩, ⟨.own 133 _ 0, rfl, .own rfl rfl rfl⟩, eI rfl rfl, trivial⟩ ⟨.inl ⟨130, rfl, rfl, trivial⟩, .inl ⟨131, rfl, rfl, trivial⟩, .inl ⟨132, rfl, rfl, trivial⟩, .inl ⟨133, rfl, rfl, trivial⟩, .inl ⟨134, rfl, rfl, trivial⟩, .inl ⟨135, rfl, rfl, trivial⟩, trivial⟩ ⟨⟨130, .im _, rfl, rfl, .im (Sub.rfl' rfl)⟩, ⟨130, .im _, rfl, rfl, .im (Sub.rfl' rfl)⟩, ⟨130, .im (.val (.slice none 0 0)), rfl, rfl, .im (Sub.rfl' rfl)⟩, ⟨130, .im (.val (.slice none 0 0)), rfl, rfl, .im (Sub.rfl' rfl)⟩, ⟨133, .im _, rfl, rfl, .im (Sub.rfl' rfl)⟩, ⟨133, .im _, rfl, rfl, .im (Sub.rfl' rfl)⟩, ⟨133, .osl 134 _, rfl, rfl, .osl rfl rfl rfl⟩, ⟨133, .osl 135 _, rfl, rfl, .osl rfl rfl rfl⟩, trivial⟩)
    ·replace h := cond_f b1270 h
     have b1270d := odf b1270
     conv=>whnf
     cases h
     have ho1269 : _ = _ := ho1269
     cases ho1269
     exact Join.mk (Ent.mk [(130, some 130), (131, some 133), (132, some 134), (133, some 135)] rfl ⟨⟨.own 130 _ 0, rfl, .own rfl rfl rfl⟩, ⟨.own 133 _ 0, rfl, .own rfl rfl rfl⟩, trivial⟩ ⟨.inl ⟨130, rfl, rfl, trivial⟩, .inl ⟨133, rfl, rfl, trivial⟩, .inl ⟨134, rfl, rfl, trivial⟩, .inl ⟨135, rfl, rfl, trivial⟩, trivial⟩ ⟨⟨130, .im _, rfl, rfl, .im (Sub.rfl' rfl)⟩, ⟨130, .im _, rfl, rfl, .im (Sub.rfl' rfl)⟩, ⟨130, .im (.val (.slice none 0 0)), rfl, rfl, .im (Sub.rfl' rfl)⟩, ⟨130, .im (.val (.slice none 0 0)), rfl, rfl, .im (Sub.rfl' rfl)⟩, ⟨133, .im _, rfl, rfl, .im (Sub.rfl' rfl)⟩, ⟨133, .im _, rfl, rfl, .im (Sub.rfl' rfl)⟩, ⟨133, .osl 134 _, rfl, rfl, .osl rfl rfl rfl⟩, ⟨133, .osl 135 _, rfl, rfl, .osl rfl rfl rfl⟩, trivial⟩)
   ·replace h : R08_Min.k59 m_ y800 y801 = some _ := hk85
    unfold R08_Min.k59 at h
    obtain ⟨z1516, z1517, _⟩ := hp
    conv=>whnf
    refine Side.mk rfl ?_
    conv=>whnf
    refine Side.mk rfl ?_
    conv=>whnf
    cases h
    conv=>whnf
    refine Side.mk ⟨rfl, trivial⟩ ?_
    conv=>whnf
    exact Side.mk ⟨rfl, rfl, trivial⟩ ⟨rfl, rfl⟩
theorem sp_R08_Minimal (m_ : T_api_Mealy) (r : Bool) (h : Ok (.agg (c_api_Mealy m_)) → R08_Minimal m_ = some r) : Sp Tryz.prog 44 [.im (.agg (c_api_Mealy m_))] (.im (nB r)) := by
 refine sp_of rfl [700001] rfl rfl rfl (Nat.le_of_ble_eq_true rfl) rfl fun hk => ?_
 replace h := h hk.1
 have z1 : List.length m_.Next ≤ 17592186044416 := ok_len (Ok.agg_at hk.1 2 rfl)
 have z2 : List.length m_.Out ≤ 17592186044416 := ok_len (Ok.agg_at hk.1 3 rfl)
 unfold R08_Minimal at h
 conv=>whnf
 obtain ⟨c51, hc51, h⟩ := bind_some h
 refine ⟨_, (sp_R08_Min m_ c51 (fun _ => hc51)), ?_⟩
 conv=>whnf
 refine Side.mk rfl ?_
 conv=>whnf
 obtain ⟨y55, hc, hk53⟩ := bind_some h
 clear h
 have h := hc
 clear hc
 refine Cut.mk (mkSt [(2, .im (nB y55))] [] []) (True) (Holds.true_ _) ?_ (fun hp => ?_)
 ·conv=>whnf
  refine Both.mk ?_ ?_<;>intro b56
  ·replace b56 := beq_tt b56
   replace h := cond_t b56 h
   have b56d := odt b56
   conv=>whnf
   refine Side.mk rfl ?_
   conv=>whnf
   refine Both.yes (tt_beq b56) ?_
   conv=>whnf
   refine Side.mk rfl ?_
   conv=>whnf
   refine Both.yes (tt_beq b56) ?_
   conv=>whnf
   refine Nf.mk (List.length c51.1.Next) len_map ?_
   conv=>whnf
   iterate 3 (refine Both.yes (tt_beq b56) ?_; (conv=>whnf))
   refine Nf.mk (List.length m_.Next) len_map ?_
   conv=>whnf
   refine Both.yes (tt_beq b56) ?_
   conv=>whnf
   refine Both.yes b56 ?_
   conv=>whnf
   cases h
   exact Join.mk (Ent.mk [] rfl ⟨eI rfl rfl, trivial⟩ trivial trivial)
  ·replace b56 := beq_tf b56
   replace h := cond_f b56 h
   have b56d := odf b56
   conv=>whnf
   iterate 6 (refine Both.no (ft_beq b56) ?_; (conv=>whnf))
   refine Both.no b56 ?_
   conv=>whnf
   cases h
   exact Join.mk (Ent.mk [] rfl ⟨eI rfl rfl, trivial⟩ trivial trivial)
 ·replace h := hk53
  conv=>whnf
  cases h
  conv=>whnf
  exact ⟨rfl, rfl⟩
theorem sp_L23_TableExplains (t_ : T_api_Table) (o_ : T_api_Obs) (r : Bool) (h : Ok (.agg (c_api_Table t_)) → Ok (.agg (c_api_Obs o_)) → L23_TableExplains t_ o_ = some r) : Sp Tryz.prog 9 [.im (.agg (c_api_Table t_)), .im (.agg (c_api_Obs o_))] (.im (nB r)) := by
 refine sp_of rfl [700002, 700003] rfl rfl rfl (Nat.le_of_ble_eq_true rfl) rfl fun hk => ?_
 replace h := h hk.1 hk.2.1
 have z1 : List.length t_.Prefixes ≤ 17592186044416 := ok_len (Ok.agg_at hk.1 1 rfl)
 have z2 : List.length t_.Suffixes ≤ 17592186044416 := ok_len (Ok.agg_at hk.1 2 rfl)
 have z3 : List.length o_.Traces ≤ 17592186044416 := ok_len (Ok.agg_at hk.2.1 1 rfl)
 unfold L23_TableExplains at h
 conv=>whnf
 obtain ⟨y58, hc, hk52⟩ := bind_some h
 clear h
 have h := hc
 clear hc
 refine Cut.mk (mkSt [(2, .im (.ref (c_api_Table t_))), (3, .im (.ref (c_api_Obs o_))), (19, .im (nB y58))] [] []) (True) (Holds.true_ _) ?_ (fun hp => ?_)
 ·conv=>whnf
  obtain ⟨c59, hc59, h⟩ := bind_some h
  refine ⟨_, (sp_L23_Great t_ o_ c59 (fun _ _ => hc59)), ?_⟩
  conv=>whnf
  refine Both.mk ?_ ?_<;>intro b60
  ·replace b60 := beq_ff b60
   replace h := cond_f b60 h
   conv=>whnf
   refine Both.yes (ff_beq b60) ?_
   conv=>whnf
   obtain ⟨c61, hc61, h⟩ := bind_some h
   refine ⟨_, (sp_R16_Valid o_ c61 (fun _ => hc61)), ?_⟩
   conv=>whnf
   refine Both.yes (ff_beq b60) ?_
   conv=>whnf
   refine Both.no b60 ?_
   conv=>whnf
   refine Both.mk ?_ ?_<;>intro b62
   ·replace b62 := beq_ff b62
    replace h := cond_f b62 h
    have b62d := odf b62
    conv=>whnf
    refine Both.yes (ff_beq b62) ?_
    conv=>whnf
    obtain ⟨c63, hc63, h⟩ := bind_some h
    refine ⟨_, (sp_R23_Valid t_ c63 (fun _ => hc63)), ?_⟩
    conv=>whnf
    refine Both.yes (ff_beq b62) ?_
    conv=>whnf
    refine Both.no b62 ?_
    conv=>whnf
    cases h
    exact Join.mk (Ent.mk [] rfl ⟨eI rfl rfl, eI rfl rfl, eI rfl rfl, trivial⟩ trivial trivial)
   ·replace b62 := beq_ft b62
    replace h := cond_t b62 h
    have b62d := odt b62
    conv=>whnf
    iterate 2 (refine Both.no (tf_beq b62) ?_; (conv=>whnf))
    refine Both.yes b62 ?_
    conv=>whnf
    cases h
    exact Join.mk (Ent.mk [] rfl ⟨eI rfl rfl, eI rfl rfl, eI rfl rfl, trivial⟩ trivial trivial)
  ·replace b60 := beq_ft b60
   replace h := cond_t b60 h
   conv=>whnf
   iterate 2 (refine Both.no (tf_beq b60) ?_; (conv=>whnf))
   refine Both.yes b60 ?_
   conv=>whnf
   iterate 3 (refine Both.no rfl ?_; (conv=>whnf))
   refine Both.yes rfl ?_
   conv=>whnf
   cases h
   exact Join.mk (Ent.mk [] rfl ⟨eI rfl rfl, eI rfl rfl, eI rfl rfl, trivial⟩ trivial trivial)
 ·replace h := hk52
  conv=>whnf
  refine Both.mk ?_ ?_<;>intro b64
  ·replace h := cond_t b64 h
   conv=>whnf
   obtain ⟨c65, hc65, h⟩ := bind_some h
   refine ⟨_, (sp_L23_awake  c65 (hc65)), ?_⟩
   conv=>whnf
   cases h
   conv=>whnf
   exact ⟨rfl, rfl⟩
  ·replace h := cond_f b64 h
   conv=>whnf
   obtain ⟨c66, hc66, h⟩ := bind_some h
   refine ⟨_, (sp_R02_Suffixes t_.Suffixes c66 (fun _ => hc66)).im, ?_⟩
   conv=>whnf
   refine Nf.mk (List.length c66) len_map ?_
   conv=>whnf
   refine Nf.mk (List.length t_.Suffixes) len_map ?_
   conv=>whnf
   refine Side.mk (by show inR _; unfold inR; omega) ?_
   conv=>whnf
   refine Both.mk ?_ ?_<;>intro b67
   ·replace h := cond_t b67 h
    have b67d := odt b67
    conv=>whnf
    obtain ⟨c68, hc68, h⟩ := bind_some h
    refine ⟨_, (sp_L23_awake  c68 (hc68)), ?_⟩
    conv=>whnf
    cases h
    conv=>whnf
    exact ⟨rfl, rfl⟩
   ·replace h := cond_f b67 h
    have b67d := odf b67
    conv=>whnf
    obtain ⟨c69, hc69, h⟩ := bind_some h
    refine ⟨_, (sp_table_Hypothesis t_ o_ c69 (fun _ _ => hc69)), ?_⟩
    conv=>whnf
    refine Side.mk rfl ?_
    conv=>whnf
    refine Both.mk ?_ ?_<;>intro b70
    ·replace h := cond_t b70 h
     have b70d := odt b70
     conv=>whnf
     obtain ⟨c71, hc71, h⟩ := bind_some h
     refine ⟨_, (sp_L23_awake  c71 (hc71)), ?_⟩
     conv=>whnf
     cases h
     conv=>whnf
     exact ⟨rfl, rfl⟩
    ·replace h := cond_f b70 h
     have b70d := odf b70
     conv=>whnf
     obtain ⟨y77, hc, hk73⟩ := bind_some h
     clear h
     have h := hc
     clear hc
     refine Cut.mk (mkSt [(2, .im (.ref (c_api_Table t_))), (3, .im (.ref (c_api_Obs o_))), (5, .own 71 1 0), (49, .im (nB y77))] [(71, .box 60 5)] [(71, 0, .im (nI c69.1.M.Inputs)), (71, 1, .im (nI c69.1.M.Start)), (71, 2, .im (nL (cL cI) c69.1.M.Next)), (71, 3, .im (nL (cL cI) c69.1.M.Out)), (71, 4, .im (nL (cL cI) c69.1.Access))]) (List.length c69.1.M.Next ≤ 17592186044416 ∧ List.length c69.1.M.Out ≤ 17592186044416 ∧ List.length c69.1.Access ≤ 17592186044416 ∧ True) ((Holds.cel 71 2 rfl (by decide) rfl).and ((Holds.cel 71 3 rfl (by decide) rfl).and ((Holds.cel 71 4 rfl (by decide) rfl).and (Holds.true_ _)))) ?_ (fun hp => ?_)
     ·conv=>whnf
      refine Side.mk rfl ?_
      conv=>whnf
      refine Side.mk rfl ?_
      conv=>whnf
      obtain ⟨c78, hc78, h⟩ := bind_some h
      refine ⟨_, (sp_R06_Valid c69.1.M c78 (fun _ => hc78)), ?_⟩
      conv=>whnf
      refine Both.mk ?_ ?_<;>intro b79
      ·replace b79 := beq_ff b79
       replace h := cond_f b79 h
       have b79d := odf b79
       conv=>whnf
       refine Side.mk rfl ?_
       conv=>whnf
       refine Both.yes (ff_beq b79) ?_
       conv=>whnf
       refine Side.mk rfl ?_
       conv=>whnf
       refine Both.yes (ff_beq b79) ?_
       conv=>whnf
       obtain ⟨c80, hc80, h⟩ := bind_some h
       refine ⟨_, (sp_R08_Minimal c69.1.M c80 (fun _ => hc80)), ?_⟩
       conv=>whnf
       refine Both.yes (ff_beq b79) ?_
       conv=>whnf
       refine Both.no b79 ?_
       conv=>whnf
       cases h
       exact Join.mk (Ent.mk [(71, some 5)] rfl ⟨eI rfl rfl, eI rfl rfl, ⟨.own 5 _ 0, rfl, .own rfl rfl rfl⟩, eI rfl rfl, trivial⟩ ⟨.inl ⟨5, rfl, rfl, trivial⟩, trivial⟩ ⟨⟨5, .im _, rfl, rfl, .im (Sub.rfl' rfl)⟩, ⟨5, .im _, rfl, rfl, .im (Sub.rfl' rfl)⟩, ⟨5, .im _, rfl, rfl, .im (Sub.rfl' rfl)⟩, ⟨5, .im _, rfl, rfl, .im (Sub.rfl' rfl)⟩, ⟨5, .im _, rfl, rfl, .im (Sub.rfl' rfl)⟩, trivial⟩)
      ·replace b79 := beq_ft b79
       replace h := cond_t b79 h
       have b79d := odt b79
       conv=>whnf
       iterate 3 (refine Both.no (tf_beq b79) ?_; (conv=>whnf))
       refine Both.yes b79 ?_
       conv=>whnf
       cases h
       exact Join.mk (Ent.mk [(71, some 5)] rfl ⟨eI rfl rfl, eI rfl rfl, ⟨.own 5 _ 0, rfl, .own rfl rfl rfl⟩, eI rfl rfl, trivial⟩ ⟨.inl ⟨5, rfl, rfl, trivial⟩, trivial⟩ ⟨⟨5, .im _, rfl, rfl, .im (Sub.rfl' rfl)⟩, ⟨5, .im _, rfl, rfl, .im (Sub.rfl' rfl)⟩, ⟨5, .im _, rfl, rfl, .im (Sub.rfl' rfl)⟩, ⟨5, .im _, rfl, rfl, .im (Sub.rfl' rfl)⟩, ⟨5, .im _, rfl, rfl, .im (Sub.rfl' rfl)⟩, trivial⟩)
     ·replace h := hk73
      obtain ⟨z81, z82, z83, _⟩ := hp
      conv=>whnf
      refine Both.mk ?_ ?_<;>intro b84
      ·replace h := cond_t b84 h
       conv=>whnf
       cases h
       conv=>whnf
       exact ⟨rfl, rfl⟩
      ·replace h := cond_f b84 h
       conv=>whnf
       obtain ⟨y93, hc, hk86⟩ := bind_some h
       clear h
       have h := hc
       clear hc
       refine Cut.mk (mkSt [(4, .im (nB y93))] [] []) (True) (Holds.true_ _) ?_ (fun hp => ?_)
       ·conv=>whnf
        refine Side.mk rfl ?_
        conv=>whnf
        refine Side.mk rfl ?_
        conv=>whnf
        obtain ⟨c94, hc94, h⟩ := bind_some h
        refine ⟨_, (sp_L23_answered c69.1.M o_ t_.Prefixes t_.Suffixes c94 (fun _ _ _ _ => hc94)), ?_⟩
        conv=>whnf
        refine Both.mk ?_ ?_<;>intro b95
        ·replace b95 := beq_tt b95
         replace h := cond_t b95 h
         conv=>whnf
         refine Side.mk rfl ?_
         conv=>whnf
         refine Both.yes (tt_beq b95) ?_
         conv=>whnf
         refine Side.mk rfl ?_
         conv=>whnf
         iterate 3 (refine Both.yes (tt_beq b95) ?_; (conv=>whnf))
         obtain ⟨c96, hc96, h⟩ := bind_some h
         refine ⟨_, (sp_R23_Extensions t_ c96 (fun _ => hc96)), ?_⟩
         conv=>whnf
         iterate 3 (refine Both.yes (tt_beq b95) ?_; (conv=>whnf))
         obtain ⟨c97, hc97, h⟩ := bind_some h
         refine ⟨_, (sp_L23_answered c69.1.M o_ c96 t_.Suffixes c97 (fun _ _ _ _ => hc97)), ?_⟩
         conv=>whnf
         refine Both.yes b95 ?_
         conv=>whnf
         refine Both.mk ?_ ?_<;>intro b98
         ·replace b98 := beq_tt b98
          replace h := cond_t b98 h
          conv=>whnf
          obtain ⟨c99, hc99, h⟩ := bind_some h
          refine ⟨_, (sp_L23_awake  c99 (hc99)), ?_⟩
          conv=>whnf
          refine Both.yes b98 ?_
          conv=>whnf
          cases h
          exact Join.mk (Ent.mk [] rfl ⟨eI rfl rfl, trivial⟩ trivial trivial)
         ·replace b98 := beq_tf b98
          replace h := cond_f b98 h
          conv=>whnf
          refine Both.no b98 ?_
          conv=>whnf
          cases h
          exact Join.mk (Ent.mk [] rfl ⟨eI rfl rfl, trivial⟩ trivial trivial)
        ·replace b95 := beq_tf b95
         replace h := cond_f b95 h
         conv=>whnf
         iterate 7 (refine Both.no (ft_beq b95) ?_; (conv=>whnf))
         refine Both.no b95 ?_
         conv=>whnf
         iterate 2 (refine Both.no rfl ?_; (conv=>whnf))
         cases h
         exact Join.mk (Ent.mk [] rfl ⟨eI rfl rfl, trivial⟩ trivial trivial)
       ·replace h := hk86
        conv=>whnf
        cases h
        conv=>whnf
        exact ⟨rfl, rfl⟩
end Go.Proofs.YtpmebphhbgpapaaGreatDoor.Sym
