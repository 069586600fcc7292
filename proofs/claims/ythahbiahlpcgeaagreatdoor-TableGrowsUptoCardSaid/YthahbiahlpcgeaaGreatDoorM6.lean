/-
  The contracts of the functions, read from the code by a program (ext.py): each function has its plain twin as its contract.
-/
import Derived.Test.YthahbiahlpcgeaaGreatDoorM5
namespace Go.Proofs.YthahbiahlpcgeaaGreatDoor.Sym
open Go.RowKit
set_option maxRecDepth 100000
set_option linter.unusedVariables false
set_option maxHeartbeats 4000000
theorem sp_L23_awake (r : Bool) (h : L23_awake = some r) : Sp Tryz.prog 16 [] (.im (nB r)) := by
  refine sp_of rfl [] rfl rfl rfl (Nat.le_of_ble_eq_true rfl) rfl fun hk => ?_
  unfold L23_awake at h
  conv => whnf
  obtain ⟨c51, hc51, h⟩ := bind_some h
  refine ⟨_, (sp_table_New 2 c51 (fun _ => hc51)), ?_⟩
  conv => whnf
  refine Side.mk rfl ?_
  conv => whnf
  refine Side.mk rfl ?_
  conv => whnf
  obtain ⟨c52, hc52, h⟩ := bind_some h
  refine ⟨_, (sp_table_Needed c51.1 (⟨2, []⟩ : T_api_Obs) c52 (fun _ _ => hc52)), ?_⟩
  conv => whnf
  refine Side.mk rfl ?_
  conv => whnf
  obtain ⟨c53, hc53, h⟩ := bind_some h
  refine ⟨_, (sp_L23_Gate  c53 (hc53)), ?_⟩
  conv => whnf
  obtain ⟨c54, hc54, h⟩ := bind_some h
  refine ⟨_, (sp_table_Row c51.1 c53 [0] c54 (fun _ _ _ => hc54)), ?_⟩
  conv => whnf
  refine Side.mk rfl ?_
  conv => whnf
  obtain ⟨c55, hc55, h⟩ := bind_some h
  refine ⟨_, (sp_L23_Gate  c55 (hc55)), ?_⟩
  conv => whnf
  obtain ⟨c56, hc56, h⟩ := bind_some h
  refine ⟨_, (sp_table_Unclosed c51.1 c55 c56 (fun _ _ => hc56)), ?_⟩
  conv => whnf
  obtain ⟨y71, hc, hk58⟩ := bind_some h
  clear h
  have h := hc
  clear hc
  refine Cut.mk (mkSt [(0, .im (nB y71))] [] []) (True) (Holds.true_ _) ?_ (fun hp => ?_)
  · conv => whnf
    refine Both.mk (fun b72 => ?_) (fun b72 => ?_)
    · replace b72 := beq_tt b72
      replace h := cond_t b72 h
      have b72d := of_decide_eq_true b72
      conv => whnf
      refine Both.yes (tt_beq b72) ?_
      conv => whnf
      refine Both.yes b72 ?_
      conv => whnf
      refine Both.mk (fun b73 => ?_) (fun b73 => ?_)
      · replace b73 := beq_tt b73
        replace h := cond_t b73 h
        have b73d := of_decide_eq_true b73
        conv => whnf
        iterate 6 (refine Both.yes (tt_beq b73) ?_; (conv => whnf))
        obtain ⟨c74, hc74, h⟩ := bind_some h
        refine ⟨_, (sp_R01_SameWords c52.1 [[0, 0], [0, 1], [1, 0], [1, 1]] c74 (fun _ _ => hc74)), ?_⟩
        conv => whnf
        refine Both.yes b73 ?_
        conv => whnf
        refine Both.mk (fun b75 => ?_) (fun b75 => ?_)
        · replace b75 := beq_tt b75
          replace h := cond_t b75 h
          conv => whnf
          refine Both.yes b75 ?_
          conv => whnf
          refine Both.mk (fun b76 => ?_) (fun b76 => ?_)
          · replace b76 := beq_tt b76
            replace h := cond_t b76 h
            conv => whnf
            iterate 4 (refine Both.yes (tt_beq b76) ?_; (conv => whnf))
            obtain ⟨c77, hc77, h⟩ := bind_some h
            refine ⟨_, (sp_R06_Lists c54.1 [[1], [2]] c77 (fun _ _ => hc77)), ?_⟩
            conv => whnf
            refine Both.yes b76 ?_
            conv => whnf
            refine Both.mk (fun b78 => ?_) (fun b78 => ?_)
            · replace b78 := beq_tt b78
              replace h := cond_t b78 h
              conv => whnf
              refine Both.yes b78 ?_
              conv => whnf
              refine Both.mk (fun b79 => ?_) (fun b79 => ?_)
              · replace b79 := beq_tt b79
                replace h := cond_t b79 h
                conv => whnf
                refine Both.yes (tt_beq b79) ?_
                conv => whnf
                refine Both.yes b79 ?_
                conv => whnf
                refine Both.mk (fun b80 => ?_) (fun b80 => ?_)
                · replace b80 := beq_tt b80
                  replace h := cond_t b80 h
                  have b80d := of_decide_eq_true b80
                  conv => whnf
                  iterate 2 (refine Both.yes (tt_beq b80) ?_; (conv => whnf))
                  obtain ⟨c81, hc81, h⟩ := bind_some h
                  refine ⟨_, (sp_R06_Ints c56.1 [0] c81 (fun _ _ => hc81)), ?_⟩
                  conv => whnf
                  refine Both.yes b80 ?_
                  conv => whnf
                  refine Both.mk (fun b82 => ?_) (fun b82 => ?_)
                  · replace b82 := beq_tt b82
                    replace h := cond_t b82 h
                    conv => whnf
                    refine Side.mk rfl ?_
                    conv => whnf
                    refine Both.yes (tt_beq b82) ?_
                    conv => whnf
                    obtain ⟨c83, hc83, h⟩ := bind_some h
                    refine ⟨_, (sp_table_Valid c51.1 c83 (fun _ => hc83)), ?_⟩
                    conv => whnf
                    refine Both.yes (tt_beq b82) ?_
                    conv => whnf
                    refine Both.yes b82 ?_
                    conv => whnf
                    cases h
                    exact Join.mk (Ent.mk [] rfl ⟨⟨.im _, rfl, .im (Sub.rfl' rfl)⟩, trivial⟩ trivial trivial)
                  · replace b82 := beq_tf b82
                    replace h := cond_f b82 h
                    conv => whnf
                    iterate 2 (refine Both.no (ft_beq b82) ?_; (conv => whnf))
                    refine Both.no b82 ?_
                    conv => whnf
                    cases h
                    exact Join.mk (Ent.mk [] rfl ⟨⟨.im _, rfl, .im (Sub.rfl' rfl)⟩, trivial⟩ trivial trivial)
                · replace b80 := beq_tf b80
                  replace h := cond_f b80 h
                  have b80d := of_decide_eq_false b80
                  conv => whnf
                  iterate 2 (refine Both.no (ft_beq b80) ?_; (conv => whnf))
                  refine Both.no b80 ?_
                  conv => whnf
                  iterate 4 (refine Both.no rfl ?_; (conv => whnf))
                  cases h
                  exact Join.mk (Ent.mk [] rfl ⟨⟨.im _, rfl, .im (Sub.rfl' rfl)⟩, trivial⟩ trivial trivial)
              · replace b79 := beq_tf b79
                replace h := cond_f b79 h
                conv => whnf
                refine Both.no (ft_beq b79) ?_
                conv => whnf
                refine Both.no b79 ?_
                conv => whnf
                iterate 8 (refine Both.no rfl ?_; (conv => whnf))
                cases h
                exact Join.mk (Ent.mk [] rfl ⟨⟨.im _, rfl, .im (Sub.rfl' rfl)⟩, trivial⟩ trivial trivial)
            · replace b78 := beq_tf b78
              replace h := cond_f b78 h
              conv => whnf
              refine Both.no b78 ?_
              conv => whnf
              iterate 11 (refine Both.no rfl ?_; (conv => whnf))
              cases h
              exact Join.mk (Ent.mk [] rfl ⟨⟨.im _, rfl, .im (Sub.rfl' rfl)⟩, trivial⟩ trivial trivial)
          · replace b76 := beq_tf b76
            replace h := cond_f b76 h
            conv => whnf
            iterate 4 (refine Both.no (ft_beq b76) ?_; (conv => whnf))
            refine Both.no b76 ?_
            conv => whnf
            iterate 13 (refine Both.no rfl ?_; (conv => whnf))
            cases h
            exact Join.mk (Ent.mk [] rfl ⟨⟨.im _, rfl, .im (Sub.rfl' rfl)⟩, trivial⟩ trivial trivial)
        · replace b75 := beq_tf b75
          replace h := cond_f b75 h
          conv => whnf
          refine Both.no b75 ?_
          conv => whnf
          iterate 19 (refine Both.no rfl ?_; (conv => whnf))
          cases h
          exact Join.mk (Ent.mk [] rfl ⟨⟨.im _, rfl, .im (Sub.rfl' rfl)⟩, trivial⟩ trivial trivial)
      · replace b73 := beq_tf b73
        replace h := cond_f b73 h
        have b73d := of_decide_eq_false b73
        conv => whnf
        iterate 6 (refine Both.no (ft_beq b73) ?_; (conv => whnf))
        refine Both.no b73 ?_
        conv => whnf
        iterate 21 (refine Both.no rfl ?_; (conv => whnf))
        cases h
        exact Join.mk (Ent.mk [] rfl ⟨⟨.im _, rfl, .im (Sub.rfl' rfl)⟩, trivial⟩ trivial trivial)
    · replace b72 := beq_tf b72
      replace h := cond_f b72 h
      have b72d := of_decide_eq_false b72
      conv => whnf
      refine Both.no (ft_beq b72) ?_
      conv => whnf
      refine Both.no b72 ?_
      conv => whnf
      iterate 29 (refine Both.no rfl ?_; (conv => whnf))
      cases h
      exact Join.mk (Ent.mk [] rfl ⟨⟨.im _, rfl, .im (Sub.rfl' rfl)⟩, trivial⟩ trivial trivial)
  · replace h := hk58
    conv => whnf
    obtain rfl := Option.some.inj h
    conv => whnf
    exact ⟨rfl, rfl⟩
theorem sp_R01_Join (parts_ : List (List Int)) (r : List Int) (h : Ok (nL (cL cI) parts_) → R01_Join parts_ = some r) : Sp Tryz.prog 93 [.im (nL (cL cI) parts_)] (.row 3 1 (List.map cI r)) := by
  refine sp_of rfl [] rfl rfl rfl (Nat.le_of_ble_eq_true rfl) rfl fun hk => ?_
  replace h := h hk.1
  have z1 : List.length parts_ ≤ 17592186044416 := ok_len hk.1
  unfold R01_Join at h
  conv => whnf
  obtain ⟨y66, hc, hk51⟩ := bind_some h
  clear h
  have h := hc
  clear hc
  refine Cut.mk (mkSt [(3, .osl 64 1)] [(64, .row 3 1 (List.map cI y66))] []) (List.length y66 ≤ 17592186044416 ∧ True) ((Holds.kdl 64 rfl).and (Holds.true_ _)) ?_ (fun hp => ?_)
  · conv => whnf
    refine Loops.iter (fun (s : List Int × Nat) => R01_Join.s2 parts_ s.1 s.2) (fun (y70, i71) => mkSt [(0, .im (nL (cL cI) parts_)), (3, .osl 64 1), (4, .im (nI (↑i71 : Int)))] [(64, .row 3 1 (List.map cI y70))] []) (fun (y70, i71) => List.length parts_ ≤ 17592186044416 ∧ List.length y70 ≤ 17592186044416 ∧ True) h (Ent.mk [(64, none)] rfl ⟨⟨.im _, rfl, .im (Sub.rfl' rfl)⟩, ⟨.im (.val (.slice none 0 0)), rfl, .made rfl rfl⟩, ⟨.im _, rfl, .im (Sub.rfl' rfl)⟩, trivial⟩ ⟨.inr ⟨rfl, rfl, .inl ⟨_, _, rfl, by decide⟩⟩, trivial⟩ trivial) (by rintro ⟨y70, i71⟩; exact ((Holds.avl 0 rfl).and ((Holds.kdl 64 rfl).and (Holds.true_ _)))) ?_
    clear h
    rintro k ⟨y70, i71⟩ o hp h ho75
    replace h : R01_Join.s2 parts_ y70 i71 = some o := h
    unfold R01_Join.s2 at h
    obtain ⟨z79, z80, _⟩ := hp
    conv => whnf
    refine Nf.mk (List.length parts_) len_map ?_
    conv => whnf
    refine Both.mk (fun b76 => ?_) (fun b76 => ?_)
    · replace h := cond_t b76 h
      have b76d := of_decide_eq_true b76
      conv => whnf
      obtain ⟨e77, he77, h⟩ := idxn_some h
      refine ⟨_, ⟨(by omega), map_at he77, rfl⟩, ?_⟩
      conv => whnf
      obtain ⟨c78, h⟩ := chk_some h
      refine Side.mk ⟨rfl, map_len (l := e77) (c := cI) fun _ => rfl, show capOk _ 8 by simpa only [List.length_map, List.length_cons, List.length_nil, Nat.zero_add] using c78⟩ ?_
      conv => whnf
      refine Nf.mk (List.map cI (y70 ++ e77)) (app_map (l := y70) (m := e77) (c := cI)) ?_
      conv => whnf
      refine Side.mk (by show inR _; unfold inR; omega) ?_
      conv => whnf
      obtain rfl := Option.some.inj h
      exact Nxt.mk _ ho75 (Ent.mk [(64, some 64)] rfl ⟨⟨.im _, rfl, .im (Sub.rfl' rfl)⟩, ⟨.osl 64 _, rfl, .osl rfl rfl rfl⟩, ⟨.im _, rfl, .im (Sub.rfl' rfl)⟩, trivial⟩ ⟨.inl ⟨64, rfl, rfl, trivial⟩, trivial⟩ trivial)
    · replace h := cond_f b76 h
      have b76d := of_decide_eq_false b76
      conv => whnf
      obtain rfl := Option.some.inj h
      have ho75 : _ = _ := ho75
      cases ho75
      exact Join.mk (Ent.mk [(64, some 64)] rfl ⟨⟨.osl 64 _, rfl, .osl rfl rfl rfl⟩, trivial⟩ ⟨.inl ⟨64, rfl, rfl, trivial⟩, trivial⟩ trivial)
  · replace h := hk51
    obtain ⟨z81, _⟩ := hp
    conv => whnf
    obtain rfl := Option.some.inj h
    conv => whnf
    exact Side.mk ⟨rfl, trivial⟩ ⟨rfl, rfl⟩
theorem sp_R23_Joined (u_ : List Int) (v_ : List Int) (r : List Int) (h : Ok (nL cI u_) → Ok (nL cI v_) → R23_Joined u_ v_ = some r) : Sp Tryz.prog 68 [.im (nL cI u_), .im (nL cI v_)] (.im (nL cI r)) := by
  refine sp_of rfl [] rfl rfl rfl (Nat.le_of_ble_eq_true rfl) rfl fun hk => ?_
  replace h := h hk.1 hk.2.1
  have z1 : List.length u_ ≤ 17592186044416 := ok_len hk.1
  have z2 : List.length v_ ≤ 17592186044416 := ok_len hk.2.1
  unfold R23_Joined at h
  conv => whnf
  obtain ⟨c51, hc51, h⟩ := bind_some h
  refine ⟨_, (sp_R01_Join [u_, v_] c51 (fun _ => hc51)).im, ?_⟩
  conv => whnf
  obtain rfl := Option.some.inj h
  conv => whnf
  exact ⟨rfl, rfl⟩
theorem sp_L23_Long (l_ : List (List Int)) (most_ : Int) (r : Bool) (h : Ok (nL (cL cI) l_) → Ok (nI most_) → L23_Long l_ most_ = some r) : Sp Tryz.prog 54 [.im (nL (cL cI) l_), .im (nI most_)] (.im (nB r)) := by
  refine sp_of rfl [] rfl rfl rfl (Nat.le_of_ble_eq_true rfl) rfl fun hk => ?_
  replace h := h hk.1 hk.2.1
  have z1 : List.length l_ ≤ 17592186044416 := ok_len hk.1
  unfold L23_Long at h
  conv => whnf
  refine Nf.mk (List.length l_) len_map ?_
  conv => whnf
  refine Both.mk (fun b51 => ?_) (fun b51 => ?_)
  · replace h := cond_t b51 h
    have b51d := of_decide_eq_true b51
    conv => whnf
    obtain rfl := Option.some.inj h
    conv => whnf
    exact ⟨rfl, rfl⟩
  · replace h := cond_f b51 h
    have b51d := of_decide_eq_false b51
    conv => whnf
    obtain ⟨oc, hc, hk52⟩ := bind_some h
    clear h
    have h := hc
    clear hc
    refine Cut.mkS oc (Y := Unit) (fun (_ : Unit) => mkSt [] [] []) (fun (_ : Unit) => True) (by rintro ⟨⟩; exact (Holds.true_ _)) ?_ ?_
    · conv => whnf
      refine Loops.iter (fun (s : Nat) => L23_Long.s2 l_ s) (fun i68 => mkSt [(0, .im (nL (cL cI) l_)), (5, .im (nI (↑i68 : Int)))] [] []) (fun i68 => List.length l_ ≤ 17592186044416 ∧ True) h (Ent.mk [] rfl ⟨⟨.im _, rfl, .im (Sub.rfl' rfl)⟩, ⟨.im _, rfl, .im (Sub.rfl' rfl)⟩, trivial⟩ trivial trivial) (by rintro i68; exact ((Holds.avl 0 rfl).and (Holds.true_ _))) ?_
      clear h
      rintro k i68 o hp h ho72
      replace h : L23_Long.s2 l_ i68 = some o := h
      unfold L23_Long.s2 at h
      obtain ⟨z76, _⟩ := hp
      conv => whnf
      refine Nf.mk (List.length l_) len_map ?_
      conv => whnf
      refine Both.mk (fun b73 => ?_) (fun b73 => ?_)
      · replace h := cond_t b73 h
        have b73d := of_decide_eq_true b73
        conv => whnf
        obtain ⟨e74, he74, h⟩ := idxn_some h
        refine ⟨_, ⟨(by omega), map_at he74, rfl⟩, ?_⟩
        conv => whnf
        refine Nf.mk (List.length e74) len_map ?_
        conv => whnf
        refine Both.mk (fun b75 => ?_) (fun b75 => ?_)
        · replace h := cond_t b75 h
          have b75d := of_decide_eq_true b75
          conv => whnf
          obtain rfl := Option.some.inj h
          have ho72 : _ = _ := ho72
          cases ho72
          replace h : some _ = some _ := hk52
          obtain rfl := Option.some.inj h
          conv => whnf
          exact ⟨rfl, rfl⟩
        · replace h := cond_f b75 h
          have b75d := of_decide_eq_false b75
          conv => whnf
          refine Side.mk (by show inR _; unfold inR; omega) ?_
          conv => whnf
          obtain rfl := Option.some.inj h
          exact Nxt.mk _ ho72 (Ent.mk [] rfl ⟨⟨.im _, rfl, .im (Sub.rfl' rfl)⟩, ⟨.im _, rfl, .im (Sub.rfl' rfl)⟩, trivial⟩ trivial trivial)
      · replace h := cond_f b73 h
        have b73d := of_decide_eq_false b73
        conv => whnf
        obtain rfl := Option.some.inj h
        have ho72 : _ = _ := ho72
        cases ho72
        exact JoinS.mk' _ rfl (Ent.mk [] rfl trivial trivial trivial)
    · rintro ⟨⟩ rfl hp
      replace h := sum_inl hk52
      conv => whnf
      obtain rfl := Option.some.inj h
      conv => whnf
      exact ⟨rfl, rfl⟩
theorem sp_L23_Great (t_ : T_api_Table) (o_ : T_api_Obs) (r : Bool) (h : Ok (.agg (c_api_Table t_)) → Ok (.agg (c_api_Obs o_)) → L23_Great t_ o_ = some r) : Sp Tryz.prog 17 [.im (.agg (c_api_Table t_)), .im (.agg (c_api_Obs o_))] (.im (nB r)) := by
  refine sp_of rfl [700002, 700003] rfl rfl rfl (Nat.le_of_ble_eq_true rfl) rfl fun hk => ?_
  replace h := h hk.1 hk.2.1
  have z1 : List.length t_.Prefixes ≤ 17592186044416 := ok_len (Ok.agg_at hk.1 1 rfl)
  have z2 : List.length t_.Suffixes ≤ 17592186044416 := ok_len (Ok.agg_at hk.1 2 rfl)
  have z3 : List.length o_.Traces ≤ 17592186044416 := ok_len (Ok.agg_at hk.2.1 1 rfl)
  unfold L23_Great at h
  conv => whnf
  obtain ⟨y58, hc, hk52⟩ := bind_some h
  clear h
  have h := hc
  clear hc
  refine Cut.mk (mkSt [(3, .im (.ref (c_api_Obs o_))), (24, .im (nB y58))] [] []) (True) (Holds.true_ _) ?_ (fun hp => ?_)
  · conv => whnf
    refine Both.mk (fun b59 => ?_) (fun b59 => ?_)
    · replace b59 := beq_ff b59
      replace h := cond_f b59 h
      have b59d := of_decide_eq_false b59
      conv => whnf
      iterate 2 (refine Both.yes (ff_beq b59) ?_; (conv => whnf))
      obtain ⟨c60, hc60, h⟩ := bind_some h
      refine ⟨_, (sp_L23_Long t_.Prefixes 30 c60 (fun _ _ => hc60)), ?_⟩
      conv => whnf
      refine Both.no b59 ?_
      conv => whnf
      refine Both.mk (fun b61 => ?_) (fun b61 => ?_)
      · replace b61 := beq_ff b61
        replace h := cond_f b61 h
        conv => whnf
        iterate 2 (refine Both.yes (ff_beq b61) ?_; (conv => whnf))
        obtain ⟨c62, hc62, h⟩ := bind_some h
        refine ⟨_, (sp_L23_Long t_.Suffixes 12 c62 (fun _ _ => hc62)), ?_⟩
        conv => whnf
        refine Both.no b61 ?_
        conv => whnf
        refine Both.mk (fun b63 => ?_) (fun b63 => ?_)
        · replace b63 := beq_ff b63
          replace h := cond_f b63 h
          conv => whnf
          iterate 2 (refine Both.yes (ff_beq b63) ?_; (conv => whnf))
          refine Nf.mk (List.length o_.Traces) len_map ?_
          conv => whnf
          refine Both.yes (ff_beq b63) ?_
          conv => whnf
          refine Both.no b63 ?_
          conv => whnf
          cases h
          exact Join.mk (Ent.mk [] rfl ⟨⟨.im _, rfl, .im (Sub.rfl' rfl)⟩, ⟨.im _, rfl, .im (Sub.rfl' rfl)⟩, trivial⟩ trivial trivial)
        · replace b63 := beq_ft b63
          replace h := cond_t b63 h
          conv => whnf
          iterate 3 (refine Both.no (tf_beq b63) ?_; (conv => whnf))
          refine Both.yes b63 ?_
          conv => whnf
          cases h
          exact Join.mk (Ent.mk [] rfl ⟨⟨.im _, rfl, .im (Sub.rfl' rfl)⟩, ⟨.im _, rfl, .im (Sub.rfl' rfl)⟩, trivial⟩ trivial trivial)
      · replace b61 := beq_ft b61
        replace h := cond_t b61 h
        conv => whnf
        iterate 2 (refine Both.no (tf_beq b61) ?_; (conv => whnf))
        refine Both.yes b61 ?_
        conv => whnf
        iterate 4 (refine Both.no rfl ?_; (conv => whnf))
        refine Both.yes rfl ?_
        conv => whnf
        cases h
        exact Join.mk (Ent.mk [] rfl ⟨⟨.im _, rfl, .im (Sub.rfl' rfl)⟩, ⟨.im _, rfl, .im (Sub.rfl' rfl)⟩, trivial⟩ trivial trivial)
    · replace b59 := beq_ft b59
      replace h := cond_t b59 h
      have b59d := of_decide_eq_true b59
      conv => whnf
      iterate 2 (refine Both.no (tf_beq b59) ?_; (conv => whnf))
      refine Both.yes b59 ?_
      conv => whnf
      iterate 3 (refine Both.no rfl ?_; (conv => whnf))
      refine Both.yes rfl ?_
      conv => whnf
      iterate 4 (refine Both.no rfl ?_; (conv => whnf))
      refine Both.yes rfl ?_
      conv => whnf
      cases h
      exact Join.mk (Ent.mk [] rfl ⟨⟨.im _, rfl, .im (Sub.rfl' rfl)⟩, ⟨.im _, rfl, .im (Sub.rfl' rfl)⟩, trivial⟩ trivial trivial)
  · replace h := hk52
    conv => whnf
    refine Both.mk (fun b64 => ?_) (fun b64 => ?_)
    · replace h := cond_t b64 h
      conv => whnf
      obtain rfl := Option.some.inj h
      conv => whnf
      exact ⟨rfl, rfl⟩
    · replace h := cond_f b64 h
      conv => whnf
      obtain ⟨oc, hc, hk65⟩ := bind_some h
      clear h
      have h := hc
      clear hc
      refine Cut.mkS oc (Y := Unit) (fun (_ : Unit) => mkSt [] [] []) (fun (_ : Unit) => True) (by rintro ⟨⟩; exact (Holds.true_ _)) ?_ ?_
      · conv => whnf
        refine Loops.iter (fun (s : Nat) => L23_Great.s2 o_ s) (fun i80 => mkSt [(3, .im (.ref (c_api_Obs o_))), (5, .im (nI (↑i80 : Int)))] [] []) (fun i80 => True) h (Ent.mk [] rfl ⟨⟨.im _, rfl, .im (Sub.rfl' rfl)⟩, ⟨.im _, rfl, .im (Sub.rfl' rfl)⟩, trivial⟩ trivial trivial) (by rintro i80; exact (Holds.true_ _)) ?_
        clear h
        rintro k i80 o hp h ho84
        replace h : L23_Great.s2 o_ i80 = some o := h
        unfold L23_Great.s2 at h
        conv => whnf
        refine Nf.mk (List.length o_.Traces) len_map ?_
        conv => whnf
        refine Both.mk (fun b85 => ?_) (fun b85 => ?_)
        · replace h := cond_t b85 h
          have b85d := of_decide_eq_true b85
          conv => whnf
          obtain ⟨e86, he86, h⟩ := idxn_some h
          refine ⟨_, ⟨(by omega), map_at he86, rfl⟩, ?_⟩
          conv => whnf
          refine Nf.mk (List.length e86.In) len_map ?_
          conv => whnf
          refine Both.mk (fun b87 => ?_) (fun b87 => ?_)
          · replace h := cond_t b87 h
            have b87d := of_decide_eq_true b87
            conv => whnf
            obtain rfl := Option.some.inj h
            have ho84 : _ = _ := ho84
            cases ho84
            replace h : some _ = some _ := hk65
            obtain rfl := Option.some.inj h
            conv => whnf
            exact ⟨rfl, rfl⟩
          · replace h := cond_f b87 h
            have b87d := of_decide_eq_false b87
            conv => whnf
            refine Side.mk (by show inR _; unfold inR; omega) ?_
            conv => whnf
            obtain rfl := Option.some.inj h
            exact Nxt.mk _ ho84 (Ent.mk [] rfl ⟨⟨.im _, rfl, .im (Sub.rfl' rfl)⟩, ⟨.im _, rfl, .im (Sub.rfl' rfl)⟩, trivial⟩ trivial trivial)
        · replace h := cond_f b85 h
          have b85d := of_decide_eq_false b85
          conv => whnf
          obtain rfl := Option.some.inj h
          have ho84 : _ = _ := ho84
          cases ho84
          exact JoinS.mk' _ rfl (Ent.mk [] rfl trivial trivial trivial)
      · rintro ⟨⟩ rfl hp
        replace h := sum_inl hk65
        conv => whnf
        obtain rfl := Option.some.inj h
        conv => whnf
        exact ⟨rfl, rfl⟩
theorem sp_R02_place (l_ : List (List Int)) (w_ : List Int) (r : Int) (h : Ok (nL (cL cI) l_) → Ok (nL cI w_) → R02_place l_ w_ = some r) : Sp Tryz.prog 122 [.im (nL (cL cI) l_), .im (nL cI w_)] (.im (nI r)) := by
  refine sp_of rfl [] rfl rfl rfl (Nat.le_of_ble_eq_true rfl) rfl fun hk => ?_
  replace h := h hk.1 hk.2.1
  have z1 : List.length l_ ≤ 17592186044416 := ok_len hk.1
  have z2 : List.length w_ ≤ 17592186044416 := ok_len hk.2.1
  unfold R02_place at h
  conv => whnf
  refine Nf.mk (List.length l_) len_map ?_
  conv => whnf
  obtain ⟨low77, hc, hk51⟩ := bind_some h
  clear h
  have h := hc
  clear hc
  refine Cut.mk (mkSt [(5, .im (nI (↑low77 : Int)))] [] []) (True) (Holds.true_ _) ?_ (fun hp => ?_)
  · conv => whnf
    refine Loops.iter (fun (s : Nat × Nat) => R02_place.s2 l_ w_ s.1 s.2) (fun (low84, high85) => mkSt [(0, .im (nL (cL cI) l_)), (1, .im (nL cI w_)), (5, .im (nI (↑low84 : Int))), (6, .im (nI (↑high85 : Int)))] [] []) (fun (low84, high85) => List.length l_ ≤ 17592186044416 ∧ List.length w_ ≤ 17592186044416 ∧ True) h (Ent.mk [] rfl ⟨⟨.im _, rfl, .im (Sub.rfl' rfl)⟩, ⟨.im _, rfl, .im (Sub.rfl' rfl)⟩, ⟨.im _, rfl, .im (Sub.rfl' rfl)⟩, ⟨.im _, rfl, .im (Sub.rfl' rfl)⟩, trivial⟩ trivial trivial) (by rintro ⟨low84, high85⟩; exact ((Holds.avl 0 rfl).and ((Holds.avl 1 rfl).and (Holds.true_ _)))) ?_
    clear h
    rintro k ⟨low84, high85⟩ o hp h ho93
    replace h : R02_place.s2 l_ w_ low84 high85 = some o := h
    unfold R02_place.s2 at h
    obtain ⟨z101, z102, _⟩ := hp
    conv => whnf
    refine Both.mk (fun b94 => ?_) (fun b94 => ?_)
    · replace h := cond_t b94 h
      have b94d := of_decide_eq_true b94
      conv => whnf
      obtain ⟨c95, h⟩ := chk_some h
      refine Side.mk c95 ?_
      conv => whnf
      obtain ⟨c96, h⟩ := chk_some h
      refine Side.mk c96 ?_
      conv => whnf
      obtain ⟨e97, he97, h⟩ := idxn_some h
      refine ⟨_, ⟨(by omega), map_at he97, rfl⟩, ?_⟩
      conv => whnf
      obtain ⟨c98, hc98, h⟩ := bind_some h
      refine ⟨_, (sp_R01_Compare e97 w_ c98 (fun _ _ => hc98)), ?_⟩
      conv => whnf
      refine Both.mk (fun b99 => ?_) (fun b99 => ?_)
      · replace h := cond_t b99 h
        have b99d := of_decide_eq_true b99
        conv => whnf
        obtain ⟨c100, h⟩ := chk_some h
        refine Side.mk c100 ?_
        conv => whnf
        obtain rfl := Option.some.inj h
        exact Nxt.mk _ ho93 (Ent.mk [] rfl ⟨⟨.im _, rfl, .im (Sub.rfl' rfl)⟩, ⟨.im _, rfl, .im (Sub.rfl' rfl)⟩, ⟨.im _, rfl, .im (Sub.rfl' rfl)⟩, ⟨.im _, rfl, .im (Sub.rfl' rfl)⟩, trivial⟩ trivial trivial)
      · replace h := cond_f b99 h
        have b99d := of_decide_eq_false b99
        conv => whnf
        obtain rfl := Option.some.inj h
        exact Nxt.mk _ ho93 (Ent.mk [] rfl ⟨⟨.im _, rfl, .im (Sub.rfl' rfl)⟩, ⟨.im _, rfl, .im (Sub.rfl' rfl)⟩, ⟨.im _, rfl, .im (Sub.rfl' rfl)⟩, ⟨.im _, rfl, .im (Sub.rfl' rfl)⟩, trivial⟩ trivial trivial)
    · replace h := cond_f b94 h
      have b94d := of_decide_eq_false b94
      conv => whnf
      obtain rfl := Option.some.inj h
      have ho93 : _ = _ := ho93
      cases ho93
      exact Join.mk (Ent.mk [] rfl ⟨⟨.im _, rfl, .im (Sub.rfl' rfl)⟩, trivial⟩ trivial trivial)
  · replace h := hk51
    conv => whnf
    obtain rfl := Option.some.inj h
    conv => whnf
    exact ⟨rfl, rfl⟩
theorem sp_R02_with (l_ : List (List Int)) (w_ : List Int) (r : List (List Int)) (h : OkL (List.map (cL cI) l_) → Ok (nL cI w_) → R02_with l_ w_ = some r) : Sp Tryz.prog 90 [.row 38 1 (List.map (cL cI) l_), .im (nL cI w_)] (.row 38 1 (List.map (cL cI) r)) := by
  refine sp_of rfl [44, 500009] rfl rfl rfl (Nat.le_of_ble_eq_true rfl) rfl fun hk => ?_
  replace h := h hk.1 hk.2.1
  have z1 : List.length l_ ≤ 17592186044416 := okl_len hk.1
  have z2 : List.length w_ ≤ 17592186044416 := ok_len hk.2.1
  unfold R02_with at h
  conv => whnf
  refine Side.mk ⟨rfl, trivial⟩ ?_
  conv => whnf
  obtain ⟨c51, hc51, h⟩ := bind_some h
  refine ⟨_, (sp_R02_place l_ w_ c51 (fun _ _ => hc51)), ?_⟩
  conv => whnf
  refine Side.mk flat_one ?_
  conv => whnf
  obtain ⟨y57, hc, hk53⟩ := bind_some h
  clear h
  have h := hc
  clear hc
  refine Cut.mk (mkSt [(0, .osl 64 1), (1, .im (nL cI w_)), (5, .im (nI c51)), (21, .im (nB y57))] [(64, .row 38 1 (List.map (cL cI) l_))] []) (List.length w_ ≤ 17592186044416 ∧ List.length l_ ≤ 17592186044416 ∧ True) ((Holds.avl 1 rfl).and ((Holds.kdl 64 rfl).and (Holds.true_ _))) ?_ (fun hp => ?_)
  · conv => whnf
    refine Side.mk rfl ?_
    conv => whnf
    refine Nf.mk (List.length l_) len_map ?_
    conv => whnf
    refine Both.mk (fun b58 => ?_) (fun b58 => ?_)
    · replace b58 := beq_tt b58
      replace h := cond_t b58 h
      have b58d := of_decide_eq_true b58
      conv => whnf
      iterate 2 (refine Both.yes (tt_beq b58) ?_; (conv => whnf))
      obtain ⟨e59, he59z, he59, h⟩ := idx_some h
      refine Side.mk ⟨he59z, rfl, map_lt he59⟩ ?_
      conv => whnf
      refine Both.yes (tt_beq b58) ?_
      conv => whnf
      refine ⟨_, _, ⟨rfl, map_at he59, rfl, rfl⟩, ?_⟩
      conv => whnf
      iterate 2 (refine Both.yes (tt_beq b58) ?_; (conv => whnf))
      obtain ⟨c60, hc60, h⟩ := bind_some h
      refine ⟨_, (sp_R01_Same e59 w_ c60 (fun _ _ => hc60)), ?_⟩
      conv => whnf
      refine Both.yes b58 ?_
      conv => whnf
      cases h
      exact Join.mk (Ent.mk [(64, some 0)] rfl ⟨⟨.osl 0 _, rfl, .osl rfl rfl rfl⟩, ⟨.im _, rfl, .im (Sub.rfl' rfl)⟩, ⟨.im _, rfl, .im (Sub.rfl' rfl)⟩, ⟨.im _, rfl, .im (Sub.rfl' rfl)⟩, trivial⟩ ⟨.inl ⟨0, rfl, rfl, trivial⟩, trivial⟩ trivial)
    · replace b58 := beq_tf b58
      replace h := cond_f b58 h
      have b58d := of_decide_eq_false b58
      conv => whnf
      iterate 5 (refine Both.no (ft_beq b58) ?_; (conv => whnf))
      refine Both.no b58 ?_
      conv => whnf
      cases h
      exact Join.mk (Ent.mk [(64, some 0)] rfl ⟨⟨.osl 0 _, rfl, .osl rfl rfl rfl⟩, ⟨.im _, rfl, .im (Sub.rfl' rfl)⟩, ⟨.im _, rfl, .im (Sub.rfl' rfl)⟩, ⟨.im _, rfl, .im (Sub.rfl' rfl)⟩, trivial⟩ ⟨.inl ⟨0, rfl, rfl, trivial⟩, trivial⟩ trivial)
  · replace h := hk53
    obtain ⟨z61, z62, _⟩ := hp
    conv => whnf
    refine Both.mk (fun b63 => ?_) (fun b63 => ?_)
    · replace h := cond_t b63 h
      conv => whnf
      obtain rfl := Option.some.inj h
      conv => whnf
      exact Side.mk ⟨rfl, trivial⟩ ⟨rfl, rfl⟩
    · replace h := cond_f b63 h
      conv => whnf
      obtain ⟨c64, h⟩ := chk_some h
      refine Side.mk ⟨rfl, map_len (l := [[]]) (c := cL cI) fun _ => rfl, show capOk _ 24 by simpa only [List.length_map, List.length_cons, List.length_nil, Nat.zero_add] using c64⟩ ?_
      conv => whnf
      refine Nf.mk (List.map (cL cI) (l_ ++ [[]])) (app_map (l := l_) (m := [[]]) (c := cL cI)) ?_
      conv => whnf
      refine Side.mk rfl ?_
      conv => whnf
      refine Nf.mk (List.length (l_ ++ [[]])) len_map ?_
      conv => whnf
      obtain ⟨c65, h⟩ := chk_some h
      refine Side.mk c65 ?_
      conv => whnf
      obtain ⟨y87, hc, hk66⟩ := bind_some h
      clear h
      have h := hc
      clear hc
      refine Cut.mk (mkSt [(0, .osl 64 1), (1, .im (nL cI w_)), (5, .im (nI c51))] [(64, .row 38 1 (List.map (cL cI) y87))] []) (List.length w_ ≤ 17592186044416 ∧ List.length y87 ≤ 17592186044416 ∧ True) ((Holds.avl 1 rfl).and ((Holds.kdl 64 rfl).and (Holds.true_ _))) ?_ (fun hp => ?_)
      · conv => whnf
        refine Loops.iter (fun (s : List (List Int) × Int) => R02_with.s2 c51 s.1 s.2) (fun (y93, i94) => mkSt [(0, .osl 64 1), (1, .im (nL cI w_)), (5, .im (nI c51)), (6, .im (nI i94))] [(64, .row 38 1 (List.map (cL cI) y93))] []) (fun (y93, i94) => List.length w_ ≤ 17592186044416 ∧ List.length y93 ≤ 17592186044416 ∧ True) h (Ent.mk [(64, some 64)] rfl ⟨⟨.osl 64 _, rfl, .osl rfl rfl rfl⟩, ⟨.im _, rfl, .im (Sub.rfl' rfl)⟩, ⟨.im _, rfl, .im (Sub.rfl' rfl)⟩, ⟨.im _, rfl, .im (Sub.rfl' rfl)⟩, trivial⟩ ⟨.inl ⟨64, rfl, rfl, trivial⟩, trivial⟩ trivial) (by rintro ⟨y93, i94⟩; exact ((Holds.avl 1 rfl).and ((Holds.kdl 64 rfl).and (Holds.true_ _)))) ?_
        clear h
        rintro k ⟨y93, i94⟩ o hp h ho100
        replace h : R02_with.s2 c51 y93 i94 = some o := h
        unfold R02_with.s2 at h
        obtain ⟨z106, z107, _⟩ := hp
        conv => whnf
        refine Both.mk (fun b101 => ?_) (fun b101 => ?_)
        · replace h := cond_t b101 h
          have b101d := of_decide_eq_true b101
          conv => whnf
          obtain ⟨c102, h⟩ := chk_some h
          refine Side.mk c102 ?_
          conv => whnf
          obtain ⟨e103, he103z, he103, h⟩ := idx_some h
          refine Side.mk ⟨he103z, rfl, map_lt he103⟩ ?_
          conv => whnf
          refine ⟨_, _, ⟨rfl, map_at he103, rfl, rfl⟩, ?_⟩
          conv => whnf
          obtain ⟨e104, he104z, he104, h⟩ := idx_some h
          refine Side.mk ⟨he104z, rfl, map_lt he104⟩ ?_
          conv => whnf
          refine Side.mk ⟨rfl, trivial⟩ ?_
          conv => whnf
          refine ⟨_, map_at he104, ?_⟩
          conv => whnf
          refine Nf.mk (List.map (cL cI) (List.set y93 i94.toNat e103)) (set_map rfl) ?_
          conv => whnf
          obtain ⟨c105, h⟩ := chk_some h
          refine Side.mk c105 ?_
          conv => whnf
          obtain rfl := Option.some.inj h
          exact Nxt.mk _ ho100 (Ent.mk [(64, some 64)] rfl ⟨⟨.osl 64 _, rfl, .osl rfl rfl rfl⟩, ⟨.im _, rfl, .im (Sub.rfl' rfl)⟩, ⟨.im _, rfl, .im (Sub.rfl' rfl)⟩, ⟨.im _, rfl, .im (Sub.rfl' rfl)⟩, trivial⟩ ⟨.inl ⟨64, rfl, rfl, trivial⟩, trivial⟩ trivial)
        · replace h := cond_f b101 h
          have b101d := of_decide_eq_false b101
          conv => whnf
          obtain rfl := Option.some.inj h
          have ho100 : _ = _ := ho100
          cases ho100
          exact Join.mk (Ent.mk [(64, some 64)] rfl ⟨⟨.osl 64 _, rfl, .osl rfl rfl rfl⟩, ⟨.im _, rfl, .im (Sub.rfl' rfl)⟩, ⟨.im _, rfl, .im (Sub.rfl' rfl)⟩, trivial⟩ ⟨.inl ⟨64, rfl, rfl, trivial⟩, trivial⟩ trivial)
      · replace h := hk66
        obtain ⟨z108, z109, _⟩ := hp
        conv => whnf
        obtain ⟨c110, h⟩ := chk_some h
        refine Side.mk ⟨rfl, map_len (l := w_) (c := cI) fun _ => rfl, show capOk _ 8 by simpa only [List.length_map, List.length_cons, List.length_nil, Nat.zero_add] using c110⟩ ?_
        conv => whnf
        refine Nf.mk (List.map cI ([] ++ w_)) (app_map (l := []) (m := w_) (c := cI)) ?_
        conv => whnf
        obtain ⟨e111, he111z, he111, h⟩ := idx_some h
        refine Side.mk ⟨he111z, rfl, map_lt he111⟩ ?_
        conv => whnf
        refine Side.mk ⟨rfl, rfl, trivial⟩ ?_
        conv => whnf
        refine ⟨_, map_at he111, ?_⟩
        conv => whnf
        refine Nf.mk (List.map (cL cI) (List.set y87 c51.toNat ([] ++ w_))) (set_map rfl) ?_
        conv => whnf
        obtain rfl := Option.some.inj h
        conv => whnf
        exact Side.mk ⟨rfl, trivial⟩ ⟨rfl, rfl⟩
theorem sp_R02_Sorted (l_ : List (List Int)) (r : List (List Int)) (h : Ok (nL (cL cI) l_) → R02_Sorted l_ = some r) : Sp Tryz.prog 94 [.im (nL (cL cI) l_)] (.row 38 1 (List.map (cL cI) r)) := by
  refine sp_of rfl [17000] rfl rfl rfl (Nat.le_of_ble_eq_true rfl) rfl fun hk => ?_
  replace h := h hk.1
  have z1 : List.length l_ ≤ 17592186044416 := ok_len hk.1
  unfold R02_Sorted at h
  conv => whnf
  obtain ⟨y66, hc, hk51⟩ := bind_some h
  clear h
  have h := hc
  clear hc
  refine Cut.mk (mkSt [(3, .osl 64 1)] [(64, .row 38 1 (List.map (cL cI) y66))] []) (List.length y66 ≤ 17592186044416 ∧ True) ((Holds.kdl 64 rfl).and (Holds.true_ _)) ?_ (fun hp => ?_)
  · conv => whnf
    refine Loops.iter (fun (s : List (List Int) × Nat) => R02_Sorted.s2 l_ s.1 s.2) (fun (y70, i71) => mkSt [(0, .im (nL (cL cI) l_)), (3, .osl 64 1), (4, .im (nI (↑i71 : Int)))] [(64, .row 38 1 (List.map (cL cI) y70))] []) (fun (y70, i71) => List.length l_ ≤ 17592186044416 ∧ List.length y70 ≤ 17592186044416 ∧ True) h (Ent.mk [(64, none)] rfl ⟨⟨.im _, rfl, .im (Sub.rfl' rfl)⟩, ⟨.im (.val (.slice none 0 0)), rfl, .made rfl rfl⟩, ⟨.im _, rfl, .im (Sub.rfl' rfl)⟩, trivial⟩ ⟨.inr ⟨rfl, rfl, .inl ⟨_, _, rfl, by decide⟩⟩, trivial⟩ trivial) (by rintro ⟨y70, i71⟩; exact ((Holds.avl 0 rfl).and ((Holds.kdl 64 rfl).and (Holds.true_ _)))) ?_
    clear h
    rintro k ⟨y70, i71⟩ o hp h ho75
    replace h : R02_Sorted.s2 l_ y70 i71 = some o := h
    unfold R02_Sorted.s2 at h
    obtain ⟨z79, z80, _⟩ := hp
    conv => whnf
    refine Nf.mk (List.length l_) len_map ?_
    conv => whnf
    refine Both.mk (fun b76 => ?_) (fun b76 => ?_)
    · replace h := cond_t b76 h
      have b76d := of_decide_eq_true b76
      conv => whnf
      obtain ⟨e77, he77, h⟩ := idxn_some h
      refine ⟨_, ⟨(by omega), map_at he77, rfl⟩, ?_⟩
      conv => whnf
      refine Side.mk ⟨rfl, trivial⟩ ?_
      conv => whnf
      obtain ⟨c78, hc78, h⟩ := bind_some h
      refine ⟨_, (sp_R02_with y70 e77 c78 (fun _ _ => hc78)), ?_⟩
      conv => whnf
      refine Side.mk (by show inR _; unfold inR; omega) ?_
      conv => whnf
      obtain rfl := Option.some.inj h
      exact Nxt.mk _ ho75 (Ent.mk [(64, some 16)] rfl ⟨⟨.im _, rfl, .im (Sub.rfl' rfl)⟩, ⟨.osl 16 _, rfl, .osl rfl rfl rfl⟩, ⟨.im _, rfl, .im (Sub.rfl' rfl)⟩, trivial⟩ ⟨.inl ⟨16, rfl, rfl, trivial⟩, trivial⟩ trivial)
    · replace h := cond_f b76 h
      have b76d := of_decide_eq_false b76
      conv => whnf
      obtain rfl := Option.some.inj h
      have ho75 : _ = _ := ho75
      cases ho75
      exact Join.mk (Ent.mk [(64, some 64)] rfl ⟨⟨.osl 64 _, rfl, .osl rfl rfl rfl⟩, trivial⟩ ⟨.inl ⟨64, rfl, rfl, trivial⟩, trivial⟩ trivial)
  · replace h := hk51
    obtain ⟨z81, _⟩ := hp
    conv => whnf
    obtain rfl := Option.some.inj h
    conv => whnf
    exact Side.mk ⟨rfl, trivial⟩ ⟨rfl, rfl⟩
theorem sp_R02_Union (lists_ : List (List (List Int))) (r : List (List Int)) (h : Ok (nL (cL (cL cI)) lists_) → R02_Union lists_ = some r) : Sp Tryz.prog 67 [.im (nL (cL (cL cI)) lists_)] (.im (nL (cL cI) r)) := by
  refine sp_of rfl [] rfl rfl rfl (Nat.le_of_ble_eq_true rfl) rfl fun hk => ?_
  replace h := h hk.1
  have z1 : List.length lists_ ≤ 17592186044416 := ok_len hk.1
  unfold R02_Union at h
  conv => whnf
  obtain ⟨y66, hc, hk51⟩ := bind_some h
  clear h
  have h := hc
  clear hc
  refine Cut.mk (mkSt [(3, .osl 64 1)] [(64, .row 38 1 (List.map (cL cI) y66))] []) (List.length y66 ≤ 17592186044416 ∧ True) ((Holds.kdl 64 rfl).and (Holds.true_ _)) ?_ (fun hp => ?_)
  · conv => whnf
    refine Loops.iter (fun (s : List (List Int) × Nat) => R02_Union.s2 lists_ s.1 s.2) (fun (y70, i71) => mkSt [(0, .im (nL (cL (cL cI)) lists_)), (3, .osl 64 1), (4, .im (nI (↑i71 : Int)))] [(64, .row 38 1 (List.map (cL cI) y70))] []) (fun (y70, i71) => List.length lists_ ≤ 17592186044416 ∧ List.length y70 ≤ 17592186044416 ∧ True) h (Ent.mk [(64, none)] rfl ⟨⟨.im _, rfl, .im (Sub.rfl' rfl)⟩, ⟨.im (.val (.slice none 0 0)), rfl, .made rfl rfl⟩, ⟨.im _, rfl, .im (Sub.rfl' rfl)⟩, trivial⟩ ⟨.inr ⟨rfl, rfl, .inl ⟨_, _, rfl, by decide⟩⟩, trivial⟩ trivial) (by rintro ⟨y70, i71⟩; exact ((Holds.avl 0 rfl).and ((Holds.kdl 64 rfl).and (Holds.true_ _)))) ?_
    clear h
    rintro k ⟨y70, i71⟩ o hp h ho75
    replace h : R02_Union.s2 lists_ y70 i71 = some o := h
    unfold R02_Union.s2 at h
    obtain ⟨z79, z80, _⟩ := hp
    conv => whnf
    refine Nf.mk (List.length lists_) len_map ?_
    conv => whnf
    refine Both.mk (fun b76 => ?_) (fun b76 => ?_)
    · replace h := cond_t b76 h
      have b76d := of_decide_eq_true b76
      conv => whnf
      obtain ⟨e77, he77, h⟩ := idxn_some h
      refine ⟨_, ⟨(by omega), map_at he77, rfl⟩, ?_⟩
      conv => whnf
      obtain ⟨c78, h⟩ := chk_some h
      refine Side.mk ⟨rfl, map_len (l := e77) (c := cL cI) fun _ => rfl, show capOk _ 24 by simpa only [List.length_map, List.length_cons, List.length_nil, Nat.zero_add] using c78⟩ ?_
      conv => whnf
      refine Nf.mk (List.map (cL cI) (y70 ++ e77)) (app_map (l := y70) (m := e77) (c := cL cI)) ?_
      conv => whnf
      refine Side.mk (by show inR _; unfold inR; omega) ?_
      conv => whnf
      obtain rfl := Option.some.inj h
      exact Nxt.mk _ ho75 (Ent.mk [(64, some 64)] rfl ⟨⟨.im _, rfl, .im (Sub.rfl' rfl)⟩, ⟨.osl 64 _, rfl, .osl rfl rfl rfl⟩, ⟨.im _, rfl, .im (Sub.rfl' rfl)⟩, trivial⟩ ⟨.inl ⟨64, rfl, rfl, trivial⟩, trivial⟩ trivial)
    · replace h := cond_f b76 h
      have b76d := of_decide_eq_false b76
      conv => whnf
      obtain rfl := Option.some.inj h
      have ho75 : _ = _ := ho75
      cases ho75
      exact Join.mk (Ent.mk [(64, some 64)] rfl ⟨⟨.osl 64 _, rfl, .osl rfl rfl rfl⟩, trivial⟩ ⟨.inl ⟨64, rfl, rfl, trivial⟩, trivial⟩ trivial)
  · replace h := hk51
    obtain ⟨z81, _⟩ := hp
    conv => whnf
    refine Side.mk ⟨rfl, trivial⟩ ?_
    conv => whnf
    obtain ⟨c82, hc82, h⟩ := bind_some h
    refine ⟨_, (sp_R02_Sorted y66 c82 (fun _ => hc82)).im, ?_⟩
    conv => whnf
    obtain rfl := Option.some.inj h
    conv => whnf
    exact ⟨rfl, rfl⟩
theorem sp_wordset_parts (l_ : List (List Int)) (part_ : (List Int) → Int → Option (List Int)) (f1_ : FuncId) (hf1 : ∀ x0 x1 r, part_ x0 x1 = some r → Sp Tryz.prog f1_ [.im (nL cI x0), .im (nI x1)] (.im (nL cI r))) (r : List (List Int)) (h : Ok (nL (cL cI) l_) → Ok (.fn f1_ []) → wordset_parts l_ part_ = some r) : Sp Tryz.prog 118 [.im (nL (cL cI) l_), .im (.fn f1_ [])] (.im (nL (cL cI) r)) := by
  refine sp_of rfl [] rfl rfl rfl (Nat.le_of_ble_eq_true rfl) rfl fun hk => ?_
  replace h := h hk.1 hk.2.1
  have z1 : List.length l_ ≤ 17592186044416 := ok_len hk.1
  unfold wordset_parts at h
  conv => whnf
  refine Nf.mk (List.length l_) len_map ?_
  conv => whnf
  obtain ⟨y178, hc, hk51⟩ := bind_some h
  clear h
  have h := hc
  clear hc
  refine Cut.mk (mkSt [(5, .osl 64 1)] [(64, .row 38 1 (List.map (cL cI) y178))] []) (List.length y178 ≤ 17592186044416 ∧ True) ((Holds.kdl 64 rfl).and (Holds.true_ _)) ?_ (fun hp => ?_)
  · conv => whnf
    refine Loops.iter (fun (s : List (List Int) × Nat) => wordset_parts.s14 l_ part_ s.1 s.2) (fun (y218, y219) => mkSt [(1, .im (.fn f1_ [])), (5, .osl 64 1), (9, .im (nL (cL cI) l_)), (10, .im (nI (↑(List.length l_) : Int))), (11, .im (nI (↑y219 : Int)))] [(64, .row 38 1 (List.map (cL cI) y218))] []) (fun (y218, y219) => List.length l_ ≤ 17592186044416 ∧ List.length y218 ≤ 17592186044416 ∧ True) h (Ent.mk [(64, none)] rfl ⟨⟨.im _, rfl, .im (Sub.rfl' rfl)⟩, ⟨.im (.val (.slice none 0 0)), rfl, .made rfl rfl⟩, ⟨.im _, rfl, .im (Sub.rfl' rfl)⟩, ⟨.im _, rfl, .im (Sub.rfl' rfl)⟩, ⟨.im _, rfl, .im (Sub.rfl' rfl)⟩, trivial⟩ ⟨.inr ⟨rfl, rfl, .inl ⟨_, _, rfl, by decide⟩⟩, trivial⟩ trivial) (by rintro ⟨y218, y219⟩; exact ((Holds.avl 9 rfl).and ((Holds.kdl 64 rfl).and (Holds.true_ _)))) ?_
    clear h
    rintro k ⟨y218, y219⟩ o hp h ho261
    replace h : wordset_parts.s14 l_ part_ y218 y219 = some o := h
    unfold wordset_parts.s14 at h
    obtain ⟨z303, z304, _⟩ := hp
    conv => whnf
    refine Both.mk (fun b262 => ?_) (fun b262 => ?_)
    · replace h := cond_t b262 h
      have b262d := of_decide_eq_true b262
      conv => whnf
      obtain ⟨e263, he263, h⟩ := idxn_some h
      refine ⟨_, ⟨(by omega), map_at he263, rfl⟩, ?_⟩
      conv => whnf
      refine Nf.mk (List.length e263) len_map ?_
      conv => whnf
      obtain ⟨c264, h⟩ := chk_some h
      refine Side.mk c264 ?_
      conv => whnf
      obtain ⟨y283, hc, hk265⟩ := bind_some h
      clear h
      have h := hc
      clear hc
      refine Cut.mk (mkSt [(1, .im (.fn f1_ [])), (5, .osl 64 1), (9, .im (nL (cL cI) l_)), (10, .im (nI (↑(List.length l_) : Int))), (11, .im (nI (↑y219 : Int)))] [(64, .row 38 1 (List.map (cL cI) y283))] []) (List.length l_ ≤ 17592186044416 ∧ List.length y283 ≤ 17592186044416 ∧ True) ((Holds.avl 9 rfl).and ((Holds.kdl 64 rfl).and (Holds.true_ _))) ?_ (fun hp => ?_)
      · conv => whnf
        refine Loops.iter (fun (s : List (List Int) × Nat) => wordset_parts.s13 part_ e263 s.1 s.2) (fun (y287, y288) => mkSt [(1, .im (.fn f1_ [])), (5, .osl 64 1), (7, .im (nL cI e263)), (9, .im (nL (cL cI) l_)), (10, .im (nI (↑(List.length l_) : Int))), (11, .im (nI (↑y219 : Int))), (17, .im (nI ((↑(List.length e263) : Int) + 1))), (18, .im (nI (↑y288 : Int)))] [(64, .row 38 1 (List.map (cL cI) y287))] []) (fun (y287, y288) => List.length e263 ≤ 17592186044416 ∧ List.length l_ ≤ 17592186044416 ∧ List.length y287 ≤ 17592186044416 ∧ True) h (Ent.mk [(64, some 64)] rfl ⟨⟨.im _, rfl, .im (Sub.rfl' rfl)⟩, ⟨.osl 64 _, rfl, .osl rfl rfl rfl⟩, ⟨.im _, rfl, .im (Sub.rfl' rfl)⟩, ⟨.im _, rfl, .im (Sub.rfl' rfl)⟩, ⟨.im _, rfl, .im (Sub.rfl' rfl)⟩, ⟨.im _, rfl, .im (Sub.rfl' rfl)⟩, ⟨.im _, rfl, .im (Sub.rfl' rfl)⟩, ⟨.im _, rfl, .im (Sub.rfl' rfl)⟩, trivial⟩ ⟨.inl ⟨64, rfl, rfl, trivial⟩, trivial⟩ trivial) (by rintro ⟨y287, y288⟩; exact ((Holds.avl 7 rfl).and ((Holds.avl 9 rfl).and ((Holds.kdl 64 rfl).and (Holds.true_ _))))) ?_
        clear h
        rintro k ⟨y287, y288⟩ o hp h ho293
        replace h : wordset_parts.s13 part_ e263 y287 y288 = some o := h
        unfold wordset_parts.s13 at h
        obtain ⟨z298, z299, z300, _⟩ := hp
        conv => whnf
        refine Both.mk (fun b294 => ?_) (fun b294 => ?_)
        · replace h := cond_t b294 h
          have b294d := of_decide_eq_true b294
          conv => whnf
          obtain ⟨c295, hc295, h⟩ := bind_some h
          refine ⟨_, hf1 e263 (↑y288 : Int) c295 hc295, ?_⟩
          conv => whnf
          obtain ⟨c296, h⟩ := chk_some h
          refine Side.mk ⟨rfl, map_len (l := [c295]) (c := cL cI) fun _ => rfl, show capOk _ 24 by simpa only [List.length_map, List.length_cons, List.length_nil, Nat.zero_add] using c296⟩ ?_
          conv => whnf
          refine Nf.mk (List.map (cL cI) (y287 ++ [c295])) (app_map (l := y287) (m := [c295]) (c := cL cI)) ?_
          conv => whnf
          obtain ⟨c297, h⟩ := chk_some h
          refine Side.mk c297 ?_
          conv => whnf
          obtain rfl := Option.some.inj h
          exact Nxt.mk _ ho293 (Ent.mk [(64, some 64)] rfl ⟨⟨.im _, rfl, .im (Sub.rfl' rfl)⟩, ⟨.osl 64 _, rfl, .osl rfl rfl rfl⟩, ⟨.im _, rfl, .im (Sub.rfl' rfl)⟩, ⟨.im _, rfl, .im (Sub.rfl' rfl)⟩, ⟨.im _, rfl, .im (Sub.rfl' rfl)⟩, ⟨.im _, rfl, .im (Sub.rfl' rfl)⟩, ⟨.im _, rfl, .im (Sub.rfl' rfl)⟩, ⟨.im _, rfl, .im (Sub.rfl' rfl)⟩, trivial⟩ ⟨.inl ⟨64, rfl, rfl, trivial⟩, trivial⟩ trivial)
        · replace h := cond_f b294 h
          have b294d := of_decide_eq_false b294
          conv => whnf
          obtain rfl := Option.some.inj h
          have ho293 : _ = _ := ho293
          cases ho293
          exact Join.mk (Ent.mk [(64, some 64)] rfl ⟨⟨.im _, rfl, .im (Sub.rfl' rfl)⟩, ⟨.osl 64 _, rfl, .osl rfl rfl rfl⟩, ⟨.im _, rfl, .im (Sub.rfl' rfl)⟩, ⟨.im _, rfl, .im (Sub.rfl' rfl)⟩, ⟨.im _, rfl, .im (Sub.rfl' rfl)⟩, trivial⟩ ⟨.inl ⟨64, rfl, rfl, trivial⟩, trivial⟩ trivial)
      · replace h := hk265
        obtain ⟨z301, z302, _⟩ := hp
        conv => whnf
        refine Side.mk (by show inR _; unfold inR; omega) ?_
        conv => whnf
        obtain rfl := Option.some.inj h
        exact Nxt.mk _ ho261 (Ent.mk [(64, some 64)] rfl ⟨⟨.im _, rfl, .im (Sub.rfl' rfl)⟩, ⟨.osl 64 _, rfl, .osl rfl rfl rfl⟩, ⟨.im _, rfl, .im (Sub.rfl' rfl)⟩, ⟨.im _, rfl, .im (Sub.rfl' rfl)⟩, ⟨.im _, rfl, .im (Sub.rfl' rfl)⟩, trivial⟩ ⟨.inl ⟨64, rfl, rfl, trivial⟩, trivial⟩ trivial)
    · replace h := cond_f b262 h
      have b262d := of_decide_eq_false b262
      conv => whnf
      obtain rfl := Option.some.inj h
      have ho261 : _ = _ := ho261
      cases ho261
      exact Join.mk (Ent.mk [(64, some 64)] rfl ⟨⟨.osl 64 _, rfl, .osl rfl rfl rfl⟩, trivial⟩ ⟨.inl ⟨64, rfl, rfl, trivial⟩, trivial⟩ trivial)
  · replace h := hk51
    obtain ⟨z305, _⟩ := hp
    conv => whnf
    refine Side.mk ⟨rfl, trivial⟩ ?_
    conv => whnf
    obtain ⟨c306, hc306, h⟩ := bind_some h
    refine ⟨_, (sp_wordset_Sorted y178 c306 (fun _ => hc306)), ?_⟩
    conv => whnf
    obtain rfl := Option.some.inj h
    conv => whnf
    exact ⟨rfl, rfl⟩
theorem sp_wordset_Prefixes_1 (w_ : List Int) (i_ : Int) (r : List Int) (h : Ok (nL cI w_) → Ok (nI i_) → wordset_Prefixes_1 w_ i_ = some r) : Sp Tryz.prog 119 [.im (nL cI w_), .im (nI i_)] (.im (nL cI r)) := by
  refine sp_of rfl [] rfl rfl rfl (Nat.le_of_ble_eq_true rfl) rfl fun hk => ?_
  replace h := h hk.1 hk.2.1
  have z1 : List.length w_ ≤ 17592186044416 := ok_len hk.1
  unfold wordset_Prefixes_1 at h
  conv => whnf
  obtain ⟨c51, h⟩ := chk_some h
  refine Side.mk (show (0 : Int) ≤ (0 : Int) ∧ (0 : Int) ≤ i_ ∧ i_ ≤ (↑(List.length (List.map cI w_)) : Int) ∧ (∀ e ∈ List.map cI w_, List.length e = 1) from ⟨by omega, by first | omega | (simp only [List.length_map]; omega), by first | omega | (simp only [List.length_map]; omega), map_len fun _ => rfl⟩) ?_
  conv => whnf
  refine Nf.mk (List.map cI (List.take (Int.toNat i_) w_)) take_map ?_
  conv => whnf
  obtain rfl := Option.some.inj h
  conv => whnf
  exact ⟨rfl, rfl⟩
theorem sp_wordset_Prefixes (l_ : List (List Int)) (r : List (List Int)) (h : Ok (nL (cL cI) l_) → wordset_Prefixes l_ = some r) : Sp Tryz.prog 82 [.im (nL (cL cI) l_)] (.im (nL (cL cI) r)) := by
  refine sp_of rfl [] rfl rfl rfl (Nat.le_of_ble_eq_true rfl) rfl fun hk => ?_
  replace h := h hk.1
  have z1 : List.length l_ ≤ 17592186044416 := ok_len hk.1
  unfold wordset_Prefixes at h
  conv => whnf
  obtain ⟨c51, hc51, h⟩ := bind_some h
  refine ⟨_, (sp_wordset_parts l_ (fun u0 u1 => wordset_Prefixes_1 u0 u1) 119 (fun u0 u1 r h => (sp_wordset_Prefixes_1 u0 u1 r (fun _ _ => h))) c51 (fun _ _ => hc51)), ?_⟩
  conv => whnf
  obtain rfl := Option.some.inj h
  conv => whnf
  exact ⟨rfl, rfl⟩
theorem sp_slices_Concat_SSint_Sint (slices_ : List (List (List Int))) (r : List (List Int)) (h : Ok (nL (cL (cL cI)) slices_) → slices_Concat_SSint_Sint slices_ = some r) : Sp Tryz.prog 117 [.im (nL (cL (cL cI)) slices_)] (.row 38 1 (List.map (cL cI) r)) := by
  refine sp_of rfl [4025000] rfl rfl rfl (Nat.le_of_ble_eq_true rfl) rfl fun hk => ?_
  replace h := h hk.1
  have z1 : List.length slices_ ≤ 17592186044416 := ok_len hk.1
  unfold slices_Concat_SSint_Sint at h
  conv => whnf
  refine Nf.mk (List.length slices_) len_map ?_
  conv => whnf
  obtain ⟨size68, hc, hk51⟩ := bind_some h
  clear h
  have h := hc
  clear hc
  refine Cut.mk (mkSt [(0, .im (nL (cL (cL cI)) slices_)), (3, .im (nI (↑size68 : Int)))] [] []) (List.length slices_ ≤ 17592186044416 ∧ True) ((Holds.avl 0 rfl).and (Holds.true_ _)) ?_ (fun hp => ?_)
  · conv => whnf
    refine Loops.iter (fun (s : Nat × Nat) => slices_Concat_SSint_Sint.s2 slices_ s.1 s.2) (fun (size73, y74) => mkSt [(0, .im (nL (cL (cL cI)) slices_)), (3, .im (nI (↑size73 : Int))), (9, .im (nL (cL (cL cI)) slices_)), (10, .im (nI (↑(List.length slices_) : Int))), (11, .im (nI (↑y74 : Int)))] [] []) (fun (size73, y74) => List.length slices_ ≤ 17592186044416 ∧ True) h (Ent.mk [] rfl ⟨⟨.im _, rfl, .im (Sub.rfl' rfl)⟩, ⟨.im _, rfl, .im (Sub.rfl' rfl)⟩, ⟨.im _, rfl, .im (Sub.rfl' rfl)⟩, ⟨.im _, rfl, .im (Sub.rfl' rfl)⟩, ⟨.im _, rfl, .im (Sub.rfl' rfl)⟩, trivial⟩ trivial trivial) (by rintro ⟨size73, y74⟩; exact ((Holds.avl 0 rfl).and (Holds.true_ _))) ?_
    clear h
    rintro k ⟨size73, y74⟩ o hp h ho79
    replace h : slices_Concat_SSint_Sint.s2 slices_ size73 y74 = some o := h
    unfold slices_Concat_SSint_Sint.s2 at h
    obtain ⟨z84, _⟩ := hp
    conv => whnf
    refine Both.mk (fun b80 => ?_) (fun b80 => ?_)
    · replace h := cond_t b80 h
      have b80d := of_decide_eq_true b80
      conv => whnf
      obtain ⟨e81, he81, h⟩ := idxn_some h
      refine ⟨_, ⟨(by omega), map_at he81, rfl⟩, ?_⟩
      conv => whnf
      refine Nf.mk (List.length e81) len_map ?_
      conv => whnf
      obtain ⟨c82, h⟩ := chk_some h
      refine Side.mk c82 ?_
      conv => whnf
      refine Both.mk (fun b83 => ?_) (fun b83 => ?_)
      · replace h := cond_t b83 h
        have b83d := of_decide_eq_true b83
        conv => whnf
        cases h
      · replace h := cond_f b83 h
        have b83d := of_decide_eq_false b83
        conv => whnf
        refine Side.mk (by show inR _; unfold inR; omega) ?_
        conv => whnf
        obtain rfl := Option.some.inj h
        exact Nxt.mk _ ho79 (Ent.mk [] rfl ⟨⟨.im _, rfl, .im (Sub.rfl' rfl)⟩, ⟨.im _, rfl, .im (Sub.rfl' rfl)⟩, ⟨.im _, rfl, .im (Sub.rfl' rfl)⟩, ⟨.im _, rfl, .im (Sub.rfl' rfl)⟩, ⟨.im _, rfl, .im (Sub.rfl' rfl)⟩, trivial⟩ trivial trivial)
    · replace h := cond_f b80 h
      have b80d := of_decide_eq_false b80
      conv => whnf
      obtain rfl := Option.some.inj h
      have ho79 : _ = _ := ho79
      cases ho79
      exact Join.mk (Ent.mk [] rfl ⟨⟨.im _, rfl, .im (Sub.rfl' rfl)⟩, ⟨.im _, rfl, .im (Sub.rfl' rfl)⟩, trivial⟩ trivial trivial)
  · replace h := hk51
    obtain ⟨z85, _⟩ := hp
    conv => whnf
    obtain ⟨c86, hc86, h⟩ := bind_some h
    refine ⟨_, (sp_lib_Grow_words (↑size68 : Int) c86 (hc86)), ?_⟩
    conv => whnf
    refine Nf.mk (List.length slices_) len_map ?_
    conv => whnf
    obtain ⟨y102, hc, hk87⟩ := bind_some h
    clear h
    have h := hc
    clear hc
    refine Cut.mk (mkSt [(6, .osl 64 1)] [(64, .row 38 1 (List.map (cL cI) y102))] []) (List.length y102 ≤ 17592186044416 ∧ True) ((Holds.kdl 64 rfl).and (Holds.true_ _)) ?_ (fun hp => ?_)
    · conv => whnf
      refine Loops.iter (fun (s : List (List Int) × Nat) => slices_Concat_SSint_Sint.s4 slices_ s.1 s.2) (fun (y106, y107) => mkSt [(6, .osl 64 1), (25, .im (nL (cL (cL cI)) slices_)), (26, .im (nI (↑(List.length slices_) : Int))), (27, .im (nI (↑y107 : Int)))] [(64, .row 38 1 (List.map (cL cI) y106))] []) (fun (y106, y107) => List.length slices_ ≤ 17592186044416 ∧ List.length y106 ≤ 17592186044416 ∧ True) h (Ent.mk [(64, some 24)] rfl ⟨⟨.osl 24 _, rfl, .osl rfl rfl rfl⟩, ⟨.im _, rfl, .im (Sub.rfl' rfl)⟩, ⟨.im _, rfl, .im (Sub.rfl' rfl)⟩, ⟨.im _, rfl, .im (Sub.rfl' rfl)⟩, trivial⟩ ⟨.inl ⟨24, rfl, rfl, trivial⟩, trivial⟩ trivial) (by rintro ⟨y106, y107⟩; exact ((Holds.avl 25 rfl).and ((Holds.kdl 64 rfl).and (Holds.true_ _)))) ?_
      clear h
      rintro k ⟨y106, y107⟩ o hp h ho111
      replace h : slices_Concat_SSint_Sint.s4 slices_ y106 y107 = some o := h
      unfold slices_Concat_SSint_Sint.s4 at h
      obtain ⟨z115, z116, _⟩ := hp
      conv => whnf
      refine Both.mk (fun b112 => ?_) (fun b112 => ?_)
      · replace h := cond_t b112 h
        have b112d := of_decide_eq_true b112
        conv => whnf
        obtain ⟨e113, he113, h⟩ := idxn_some h
        refine ⟨_, ⟨(by omega), map_at he113, rfl⟩, ?_⟩
        conv => whnf
        obtain ⟨c114, h⟩ := chk_some h
        refine Side.mk ⟨rfl, map_len (l := e113) (c := cL cI) fun _ => rfl, show capOk _ 24 by simpa only [List.length_map, List.length_cons, List.length_nil, Nat.zero_add] using c114⟩ ?_
        conv => whnf
        refine Nf.mk (List.map (cL cI) (y106 ++ e113)) (app_map (l := y106) (m := e113) (c := cL cI)) ?_
        conv => whnf
        refine Side.mk (by show inR _; unfold inR; omega) ?_
        conv => whnf
        obtain rfl := Option.some.inj h
        exact Nxt.mk _ ho111 (Ent.mk [(64, some 64)] rfl ⟨⟨.osl 64 _, rfl, .osl rfl rfl rfl⟩, ⟨.im _, rfl, .im (Sub.rfl' rfl)⟩, ⟨.im _, rfl, .im (Sub.rfl' rfl)⟩, ⟨.im _, rfl, .im (Sub.rfl' rfl)⟩, trivial⟩ ⟨.inl ⟨64, rfl, rfl, trivial⟩, trivial⟩ trivial)
      · replace h := cond_f b112 h
        have b112d := of_decide_eq_false b112
        conv => whnf
        obtain rfl := Option.some.inj h
        have ho111 : _ = _ := ho111
        cases ho111
        exact Join.mk (Ent.mk [(64, some 64)] rfl ⟨⟨.osl 64 _, rfl, .osl rfl rfl rfl⟩, trivial⟩ ⟨.inl ⟨64, rfl, rfl, trivial⟩, trivial⟩ trivial)
    · replace h := hk87
      obtain ⟨z117, _⟩ := hp
      conv => whnf
      obtain rfl := Option.some.inj h
      conv => whnf
      exact Side.mk ⟨rfl, trivial⟩ ⟨rfl, rfl⟩
theorem sp_wordset_Union (lists_ : List (List (List Int))) (r : List (List Int)) (h : Ok (nL (cL (cL cI)) lists_) → wordset_Union lists_ = some r) : Sp Tryz.prog 81 [.im (nL (cL (cL cI)) lists_)] (.im (nL (cL cI) r)) := by
  refine sp_of rfl [] rfl rfl rfl (Nat.le_of_ble_eq_true rfl) rfl fun hk => ?_
  replace h := h hk.1
  have z1 : List.length lists_ ≤ 17592186044416 := ok_len hk.1
  unfold wordset_Union at h
  conv => whnf
  obtain ⟨c51, hc51, h⟩ := bind_some h
  refine ⟨_, (sp_slices_Concat_SSint_Sint lists_ c51 (fun _ => hc51)).im, ?_⟩
  conv => whnf
  obtain ⟨c52, hc52, h⟩ := bind_some h
  refine ⟨_, (sp_wordset_Sorted c51 c52 (fun _ => hc52)), ?_⟩
  conv => whnf
  obtain rfl := Option.some.inj h
  conv => whnf
  exact ⟨rfl, rfl⟩
theorem sp_table_checked (t_ : T_api_Table) (next_ : T_api_Table) (r : T_api_Table × Int) (h : Ok (.agg (c_api_Table t_)) → Ok (.agg (c_api_Table next_)) → table_checked t_ next_ = some r) : Sp Tryz.prog 80 [.im (.agg (c_api_Table t_)), .im (.agg (c_api_Table next_))] (.tup [.agg (c_api_Table r.1), nI r.2]) := by
  refine sp_of rfl [700002, 700003] rfl rfl rfl (Nat.le_of_ble_eq_true rfl) rfl fun hk => ?_
  replace h := h hk.1 hk.2.1
  have z1 : List.length t_.Prefixes ≤ 17592186044416 := ok_len (Ok.agg_at hk.1 1 rfl)
  have z2 : List.length t_.Suffixes ≤ 17592186044416 := ok_len (Ok.agg_at hk.1 2 rfl)
  have z3 : List.length next_.Prefixes ≤ 17592186044416 := ok_len (Ok.agg_at hk.2.1 1 rfl)
  have z4 : List.length next_.Suffixes ≤ 17592186044416 := ok_len (Ok.agg_at hk.2.1 2 rfl)
  unfold table_checked at h
  conv => whnf
  obtain ⟨c51, hc51, h⟩ := bind_some h
  refine ⟨_, (sp_table_Valid next_ c51 (fun _ => hc51)), ?_⟩
  conv => whnf
  refine Both.mk (fun b52 => ?_) (fun b52 => ?_)
  · replace h := cond_t b52 h
    have b52d := of_decide_eq_true b52
    conv => whnf
    refine Side.mk rfl ?_
    conv => whnf
    obtain rfl := Option.some.inj h
    conv => whnf
    refine Side.mk ⟨rfl, trivial⟩ ?_
    conv => whnf
    exact ⟨rfl, rfl⟩
  · replace h := cond_f b52 h
    have b52d := of_decide_eq_false b52
    conv => whnf
    refine Side.mk rfl ?_
    conv => whnf
    obtain rfl := Option.some.inj h
    conv => whnf
    refine Side.mk ⟨rfl, trivial⟩ ?_
    conv => whnf
    exact ⟨rfl, rfl⟩
theorem sp_table_Prefix (t_ : T_api_Table) (w_ : List Int) (r : T_api_Table × Int) (h : Ok (.agg (c_api_Table t_)) → Ok (nL cI w_) → table_Prefix t_ w_ = some r) : Sp Tryz.prog 30 [.im (.agg (c_api_Table t_)), .im (nL cI w_)] (.tup [.agg (c_api_Table r.1), nI r.2]) := by
  refine sp_of rfl [700002] rfl rfl rfl (Nat.le_of_ble_eq_true rfl) rfl fun hk => ?_
  replace h := h hk.1 hk.2.1
  have z1 : List.length t_.Prefixes ≤ 17592186044416 := ok_len (Ok.agg_at hk.1 1 rfl)
  have z2 : List.length t_.Suffixes ≤ 17592186044416 := ok_len (Ok.agg_at hk.1 2 rfl)
  have z3 : List.length w_ ≤ 17592186044416 := ok_len hk.2.1
  unfold table_Prefix at h
  conv => whnf
  obtain ⟨c51, hc51, h⟩ := bind_some h
  refine ⟨_, (sp_table_Valid t_ c51 (fun _ => hc51)), ?_⟩
  conv => whnf
  refine Both.mk (fun b52 => ?_) (fun b52 => ?_)
  · replace h := cond_t b52 h
    have b52d := of_decide_eq_true b52
    conv => whnf
    refine Side.mk rfl ?_
    conv => whnf
    obtain rfl := Option.some.inj h
    conv => whnf
    refine Side.mk ⟨rfl, trivial⟩ ?_
    conv => whnf
    exact ⟨rfl, rfl⟩
  · replace h := cond_f b52 h
    have b52d := of_decide_eq_false b52
    conv => whnf
    obtain ⟨c53, hc53, h⟩ := bind_some h
    refine ⟨_, (sp_word_Check w_ t_.Inputs c53 (fun _ _ => hc53)), ?_⟩
    conv => whnf
    refine Both.mk (fun b54 => ?_) (fun b54 => ?_)
    · replace h := cond_t b54 h
      have b54d := of_decide_eq_true b54
      conv => whnf
      refine Side.mk rfl ?_
      conv => whnf
      obtain rfl := Option.some.inj h
      conv => whnf
      refine Side.mk ⟨rfl, trivial⟩ ?_
      conv => whnf
      exact ⟨rfl, rfl⟩
    · replace h := cond_f b54 h
      have b54d := of_decide_eq_false b54
      conv => whnf
      obtain ⟨c55, hc55, h⟩ := bind_some h
      refine ⟨_, (sp_wordset_Prefixes [w_] c55 (fun _ => hc55)), ?_⟩
      conv => whnf
      obtain ⟨c56, hc56, h⟩ := bind_some h
      refine ⟨_, (sp_wordset_Union [t_.Prefixes, c55] c56 (fun _ => hc56)), ?_⟩
      conv => whnf
      obtain ⟨c57, hc57, h⟩ := bind_some h
      refine ⟨_, (sp_wordset_Sorted t_.Suffixes c57 (fun _ => hc57)), ?_⟩
      conv => whnf
      obtain ⟨c58, hc58, h⟩ := bind_some h
      refine ⟨_, (sp_table_checked t_ (⟨t_.Inputs, c56, c57⟩ : T_api_Table) c58 (fun _ _ => hc58)), ?_⟩
      conv => whnf
      refine Side.mk rfl ?_
      conv => whnf
      obtain rfl := Option.some.inj h
      conv => whnf
      refine Side.mk ⟨rfl, trivial⟩ ?_
      conv => whnf
      exact ⟨rfl, rfl⟩
theorem sp_R02_Prefixes (l_ : List (List Int)) (r : List (List Int)) (h : Ok (nL (cL cI) l_) → R02_Prefixes l_ = some r) : Sp Tryz.prog 85 [.im (nL (cL cI) l_)] (.row 38 1 (List.map (cL cI) r)) := by
  refine sp_of rfl [29000] rfl rfl rfl (Nat.le_of_ble_eq_true rfl) rfl fun hk => ?_
  replace h := h hk.1
  have z1 : List.length l_ ≤ 17592186044416 := ok_len hk.1
  unfold R02_Prefixes at h
  conv => whnf
  obtain ⟨y204, hc, hk51⟩ := bind_some h
  clear h
  have h := hc
  clear hc
  refine Cut.mk (mkSt [(3, .osl 64 1)] [(64, .row 38 1 (List.map (cL cI) y204))] []) (List.length y204 ≤ 17592186044416 ∧ True) ((Holds.kdl 64 rfl).and (Holds.true_ _)) ?_ (fun hp => ?_)
  · conv => whnf
    refine Loops.iter (fun (s : List (List Int) × Nat) => R02_Prefixes.s14 l_ s.1 s.2) (fun (y254, i255) => mkSt [(0, .im (nL (cL cI) l_)), (3, .osl 64 1), (4, .im (nI (↑i255 : Int)))] [(64, .row 38 1 (List.map (cL cI) y254))] []) (fun (y254, i255) => List.length l_ ≤ 17592186044416 ∧ List.length y254 ≤ 17592186044416 ∧ True) h (Ent.mk [(64, none)] rfl ⟨⟨.im _, rfl, .im (Sub.rfl' rfl)⟩, ⟨.im (.val (.slice none 0 0)), rfl, .made rfl rfl⟩, ⟨.im _, rfl, .im (Sub.rfl' rfl)⟩, trivial⟩ ⟨.inr ⟨rfl, rfl, .inl ⟨_, _, rfl, by decide⟩⟩, trivial⟩ trivial) (by rintro ⟨y254, i255⟩; exact ((Holds.avl 0 rfl).and ((Holds.kdl 64 rfl).and (Holds.true_ _)))) ?_
    clear h
    rintro k ⟨y254, i255⟩ o hp h ho305
    replace h : R02_Prefixes.s14 l_ y254 i255 = some o := h
    unfold R02_Prefixes.s14 at h
    obtain ⟨z355, z356, _⟩ := hp
    conv => whnf
    refine Nf.mk (List.length l_) len_map ?_
    conv => whnf
    refine Both.mk (fun b306 => ?_) (fun b306 => ?_)
    · replace h := cond_t b306 h
      have b306d := of_decide_eq_true b306
      conv => whnf
      obtain ⟨y330, hc, hk307⟩ := bind_some h
      clear h
      have h := hc
      clear hc
      refine Cut.mk (mkSt [(0, .im (nL (cL cI) l_)), (3, .osl 64 1), (4, .im (nI (↑i255 : Int)))] [(64, .row 38 1 (List.map (cL cI) y330))] []) (List.length l_ ≤ 17592186044416 ∧ List.length y330 ≤ 17592186044416 ∧ True) ((Holds.avl 0 rfl).and ((Holds.kdl 64 rfl).and (Holds.true_ _))) ?_ (fun hp => ?_)
      · conv => whnf
        refine Loops.iter (fun (s : List (List Int) × Nat) => R02_Prefixes.s13 l_ i255 s.1 s.2) (fun (y336, k337) => mkSt [(0, .im (nL (cL cI) l_)), (3, .osl 64 1), (4, .im (nI (↑i255 : Int))), (5, .im (nI (↑k337 : Int)))] [(64, .row 38 1 (List.map (cL cI) y336))] []) (fun (y336, k337) => List.length l_ ≤ 17592186044416 ∧ List.length y336 ≤ 17592186044416 ∧ True) h (Ent.mk [(64, some 64)] rfl ⟨⟨.im _, rfl, .im (Sub.rfl' rfl)⟩, ⟨.osl 64 _, rfl, .osl rfl rfl rfl⟩, ⟨.im _, rfl, .im (Sub.rfl' rfl)⟩, ⟨.im _, rfl, .im (Sub.rfl' rfl)⟩, trivial⟩ ⟨.inl ⟨64, rfl, rfl, trivial⟩, trivial⟩ trivial) (by rintro ⟨y336, k337⟩; exact ((Holds.avl 0 rfl).and ((Holds.kdl 64 rfl).and (Holds.true_ _)))) ?_
        clear h
        rintro k ⟨y336, k337⟩ o hp h ho344
        replace h : R02_Prefixes.s13 l_ i255 y336 k337 = some o := h
        unfold R02_Prefixes.s13 at h
        obtain ⟨z351, z352, _⟩ := hp
        conv => whnf
        obtain ⟨e345, he345, h⟩ := idxn_some h
        refine ⟨_, ⟨(by omega), map_at he345, rfl⟩, ?_⟩
        conv => whnf
        refine Nf.mk (List.length e345) len_map ?_
        conv => whnf
        refine Both.mk (fun b346 => ?_) (fun b346 => ?_)
        · replace h := cond_t b346 h
          have b346d := of_decide_eq_true b346
          conv => whnf
          obtain ⟨e347, he347, h⟩ := idxn_some h
          refine ⟨_, ⟨(by omega), map_at he347, rfl⟩, ?_⟩
          conv => whnf
          obtain ⟨c348, h⟩ := chk_some h
          refine Side.mk (show (0 : Int) ≤ (0 : Int) ∧ (0 : Int) ≤ (↑k337 : Int) ∧ (↑k337 : Int) ≤ (↑(List.length (List.map cI e347)) : Int) ∧ (∀ e ∈ List.map cI e347, List.length e = 1) from ⟨by omega, by first | omega | (simp only [List.length_map]; omega), by first | omega | (simp only [List.length_map]; omega), map_len fun _ => rfl⟩) ?_
          conv => whnf
          refine Nf.mk (List.map cI (List.take k337 e347)) take_map ?_
          conv => whnf
          refine Side.mk ⟨rfl, trivial⟩ ?_
          conv => whnf
          obtain ⟨c349, hc349, h⟩ := bind_some h
          refine ⟨_, (sp_R02_with y336 (List.take k337 e347) c349 (fun _ _ => hc349)), ?_⟩
          conv => whnf
          obtain ⟨c350, h⟩ := chk_some h
          refine Side.mk c350 ?_
          conv => whnf
          obtain rfl := Option.some.inj h
          exact Nxt.mk _ ho344 (Ent.mk [(64, some 28)] rfl ⟨⟨.im _, rfl, .im (Sub.rfl' rfl)⟩, ⟨.osl 28 _, rfl, .osl rfl rfl rfl⟩, ⟨.im _, rfl, .im (Sub.rfl' rfl)⟩, ⟨.im _, rfl, .im (Sub.rfl' rfl)⟩, trivial⟩ ⟨.inl ⟨28, rfl, rfl, trivial⟩, trivial⟩ trivial)
        · replace h := cond_f b346 h
          have b346d := of_decide_eq_false b346
          conv => whnf
          obtain rfl := Option.some.inj h
          have ho344 : _ = _ := ho344
          cases ho344
          exact Join.mk (Ent.mk [(64, some 64)] rfl ⟨⟨.im _, rfl, .im (Sub.rfl' rfl)⟩, ⟨.osl 64 _, rfl, .osl rfl rfl rfl⟩, ⟨.im _, rfl, .im (Sub.rfl' rfl)⟩, trivial⟩ ⟨.inl ⟨64, rfl, rfl, trivial⟩, trivial⟩ trivial)
      · replace h := hk307
        obtain ⟨z353, z354, _⟩ := hp
        conv => whnf
        refine Side.mk (by show inR _; unfold inR; omega) ?_
        conv => whnf
        obtain rfl := Option.some.inj h
        exact Nxt.mk _ ho305 (Ent.mk [(64, some 64)] rfl ⟨⟨.im _, rfl, .im (Sub.rfl' rfl)⟩, ⟨.osl 64 _, rfl, .osl rfl rfl rfl⟩, ⟨.im _, rfl, .im (Sub.rfl' rfl)⟩, trivial⟩ ⟨.inl ⟨64, rfl, rfl, trivial⟩, trivial⟩ trivial)
    · replace h := cond_f b306 h
      have b306d := of_decide_eq_false b306
      conv => whnf
      obtain rfl := Option.some.inj h
      have ho305 : _ = _ := ho305
      cases ho305
      exact Join.mk (Ent.mk [(64, some 64)] rfl ⟨⟨.osl 64 _, rfl, .osl rfl rfl rfl⟩, trivial⟩ ⟨.inl ⟨64, rfl, rfl, trivial⟩, trivial⟩ trivial)
  · replace h := hk51
    obtain ⟨z357, _⟩ := hp
    conv => whnf
    obtain rfl := Option.some.inj h
    conv => whnf
    exact Side.mk ⟨rfl, trivial⟩ ⟨rfl, rfl⟩
theorem sp_R23_copied (l_ : List (List Int)) (r : List (List Int)) (h : Ok (nL (cL cI) l_) → R23_copied l_ = some r) : Sp Tryz.prog 120 [.im (nL (cL cI) l_)] (.row 38 1 (List.map (cL cI) r)) := by
  refine sp_of rfl [] rfl rfl rfl (Nat.le_of_ble_eq_true rfl) rfl fun hk => ?_
  replace h := h hk.1
  have z1 : List.length l_ ≤ 17592186044416 := ok_len hk.1
  unfold R23_copied at h
  conv => whnf
  obtain ⟨y68, hc, hk51⟩ := bind_some h
  clear h
  have h := hc
  clear hc
  refine Cut.mk (mkSt [(3, .osl 64 1)] [(64, .row 38 1 (List.map (cL cI) y68))] []) (List.length y68 ≤ 17592186044416 ∧ True) ((Holds.kdl 64 rfl).and (Holds.true_ _)) ?_ (fun hp => ?_)
  · conv => whnf
    refine Loops.iter (fun (s : List (List Int) × Nat) => R23_copied.s2 l_ s.1 s.2) (fun (y72, i73) => mkSt [(0, .im (nL (cL cI) l_)), (3, .osl 64 1), (4, .im (nI (↑i73 : Int)))] [(64, .row 38 1 (List.map (cL cI) y72))] []) (fun (y72, i73) => List.length l_ ≤ 17592186044416 ∧ List.length y72 ≤ 17592186044416 ∧ True) h (Ent.mk [(64, none)] rfl ⟨⟨.im _, rfl, .im (Sub.rfl' rfl)⟩, ⟨.im (.val (.slice none 0 0)), rfl, .made rfl rfl⟩, ⟨.im _, rfl, .im (Sub.rfl' rfl)⟩, trivial⟩ ⟨.inr ⟨rfl, rfl, .inl ⟨_, _, rfl, by decide⟩⟩, trivial⟩ trivial) (by rintro ⟨y72, i73⟩; exact ((Holds.avl 0 rfl).and ((Holds.kdl 64 rfl).and (Holds.true_ _)))) ?_
    clear h
    rintro k ⟨y72, i73⟩ o hp h ho78
    replace h : R23_copied.s2 l_ y72 i73 = some o := h
    unfold R23_copied.s2 at h
    obtain ⟨z83, z84, _⟩ := hp
    conv => whnf
    refine Nf.mk (List.length l_) len_map ?_
    conv => whnf
    refine Both.mk (fun b79 => ?_) (fun b79 => ?_)
    · replace h := cond_t b79 h
      have b79d := of_decide_eq_true b79
      conv => whnf
      obtain ⟨e80, he80, h⟩ := idxn_some h
      refine ⟨_, ⟨(by omega), map_at he80, rfl⟩, ?_⟩
      conv => whnf
      obtain ⟨c81, hc81, h⟩ := bind_some h
      refine ⟨_, (sp_R23_Joined e80 [] c81 (fun _ _ => hc81)), ?_⟩
      conv => whnf
      obtain ⟨c82, h⟩ := chk_some h
      refine Side.mk ⟨rfl, map_len (l := [c81]) (c := cL cI) fun _ => rfl, show capOk _ 24 by simpa only [List.length_map, List.length_cons, List.length_nil, Nat.zero_add] using c82⟩ ?_
      conv => whnf
      refine Nf.mk (List.map (cL cI) (y72 ++ [c81])) (app_map (l := y72) (m := [c81]) (c := cL cI)) ?_
      conv => whnf
      refine Side.mk (by show inR _; unfold inR; omega) ?_
      conv => whnf
      obtain rfl := Option.some.inj h
      exact Nxt.mk _ ho78 (Ent.mk [(64, some 64)] rfl ⟨⟨.im _, rfl, .im (Sub.rfl' rfl)⟩, ⟨.osl 64 _, rfl, .osl rfl rfl rfl⟩, ⟨.im _, rfl, .im (Sub.rfl' rfl)⟩, trivial⟩ ⟨.inl ⟨64, rfl, rfl, trivial⟩, trivial⟩ trivial)
    · replace h := cond_f b79 h
      have b79d := of_decide_eq_false b79
      conv => whnf
      obtain rfl := Option.some.inj h
      have ho78 : _ = _ := ho78
      cases ho78
      exact Join.mk (Ent.mk [(64, some 64)] rfl ⟨⟨.osl 64 _, rfl, .osl rfl rfl rfl⟩, trivial⟩ ⟨.inl ⟨64, rfl, rfl, trivial⟩, trivial⟩ trivial)
  · replace h := hk51
    obtain ⟨z85, _⟩ := hp
    conv => whnf
    obtain rfl := Option.some.inj h
    conv => whnf
    exact Side.mk ⟨rfl, trivial⟩ ⟨rfl, rfl⟩
theorem sp_R23_With (t_ : T_api_Table) (prefixes_ : List (List Int)) (suffixes_ : List (List Int)) (r : T_api_Table) (h : Ok (.agg (c_api_Table t_)) → Ok (nL (cL cI) prefixes_) → Ok (nL (cL cI) suffixes_) → R23_With t_ prefixes_ suffixes_ = some r) : Sp Tryz.prog 84 [.im (.agg (c_api_Table t_)), .im (nL (cL cI) prefixes_), .im (nL (cL cI) suffixes_)] (.im (.agg (c_api_Table r))) := by
  refine sp_of rfl [700003] rfl rfl rfl (Nat.le_of_ble_eq_true rfl) rfl fun hk => ?_
  replace h := h hk.1 hk.2.1 hk.2.2.1
  have z1 : List.length t_.Prefixes ≤ 17592186044416 := ok_len (Ok.agg_at hk.1 1 rfl)
  have z2 : List.length t_.Suffixes ≤ 17592186044416 := ok_len (Ok.agg_at hk.1 2 rfl)
  have z3 : List.length prefixes_ ≤ 17592186044416 := ok_len hk.2.1
  have z4 : List.length suffixes_ ≤ 17592186044416 := ok_len hk.2.2.1
  unfold R23_With at h
  conv => whnf
  obtain ⟨c51, hc51, h⟩ := bind_some h
  refine ⟨_, (sp_R23_copied t_.Prefixes c51 (fun _ => hc51)).im, ?_⟩
  conv => whnf
  obtain ⟨c52, hc52, h⟩ := bind_some h
  refine ⟨_, (sp_R23_copied prefixes_ c52 (fun _ => hc52)).im, ?_⟩
  conv => whnf
  obtain ⟨c53, hc53, h⟩ := bind_some h
  refine ⟨_, (sp_R02_Union [c51, c52] c53 (fun _ => hc53)), ?_⟩
  conv => whnf
  obtain ⟨c54, hc54, h⟩ := bind_some h
  refine ⟨_, (sp_R23_copied t_.Suffixes c54 (fun _ => hc54)).im, ?_⟩
  conv => whnf
  obtain ⟨c55, hc55, h⟩ := bind_some h
  refine ⟨_, (sp_R23_copied suffixes_ c55 (fun _ => hc55)).im, ?_⟩
  conv => whnf
  obtain ⟨c56, hc56, h⟩ := bind_some h
  refine ⟨_, (sp_R02_Union [c54, c55] c56 (fun _ => hc56)), ?_⟩
  conv => whnf
  refine Side.mk rfl ?_
  conv => whnf
  obtain rfl := Option.some.inj h
  conv => whnf
  refine Side.mk ⟨rfl, trivial⟩ ?_
  conv => whnf
  exact ⟨rfl, rfl⟩
theorem sp_R23_Prefix (t_ : T_api_Table) (w_ : List Int) (r : T_api_Table × Int) (h : Ok (.agg (c_api_Table t_)) → Ok (nL cI w_) → R23_Prefix t_ w_ = some r) : Sp Tryz.prog 31 [.im (.agg (c_api_Table t_)), .im (nL cI w_)] (.tup [.agg (c_api_Table r.1), nI r.2]) := by
  refine sp_of rfl [700002] rfl rfl rfl (Nat.le_of_ble_eq_true rfl) rfl fun hk => ?_
  replace h := h hk.1 hk.2.1
  have z1 : List.length t_.Prefixes ≤ 17592186044416 := ok_len (Ok.agg_at hk.1 1 rfl)
  have z2 : List.length t_.Suffixes ≤ 17592186044416 := ok_len (Ok.agg_at hk.1 2 rfl)
  have z3 : List.length w_ ≤ 17592186044416 := ok_len hk.2.1
  unfold R23_Prefix at h
  conv => whnf
  obtain ⟨c51, hc51, h⟩ := bind_some h
  refine ⟨_, (sp_R23_Valid t_ c51 (fun _ => hc51)), ?_⟩
  conv => whnf
  refine Both.mk (fun b52 => ?_) (fun b52 => ?_)
  · replace h := cond_t b52 h
    have b52d := of_decide_eq_true b52
    conv => whnf
    refine Side.mk rfl ?_
    conv => whnf
    obtain rfl := Option.some.inj h
    conv => whnf
    refine Side.mk ⟨rfl, trivial⟩ ?_
    conv => whnf
    exact ⟨rfl, rfl⟩
  · replace h := cond_f b52 h
    have b52d := of_decide_eq_false b52
    conv => whnf
    obtain ⟨c53, hc53, h⟩ := bind_some h
    refine ⟨_, (sp_R01_Check w_ t_.Inputs c53 (fun _ _ => hc53)), ?_⟩
    conv => whnf
    refine Both.mk (fun b54 => ?_) (fun b54 => ?_)
    · replace h := cond_t b54 h
      have b54d := of_decide_eq_true b54
      conv => whnf
      refine Side.mk rfl ?_
      conv => whnf
      obtain rfl := Option.some.inj h
      conv => whnf
      refine Side.mk ⟨rfl, trivial⟩ ?_
      conv => whnf
      exact ⟨rfl, rfl⟩
    · replace h := cond_f b54 h
      have b54d := of_decide_eq_false b54
      conv => whnf
      obtain ⟨c55, hc55, h⟩ := bind_some h
      refine ⟨_, (sp_R02_Prefixes [w_] c55 (fun _ => hc55)).im, ?_⟩
      conv => whnf
      obtain ⟨c56, hc56, h⟩ := bind_some h
      refine ⟨_, (sp_R23_With t_ c55 [] c56 (fun _ _ _ => hc56)), ?_⟩
      conv => whnf
      refine Side.mk rfl ?_
      conv => whnf
      refine Side.mk rfl ?_
      conv => whnf
      obtain ⟨c57, hc57, h⟩ := bind_some h
      refine ⟨_, (sp_R23_Valid c56 c57 (fun _ => hc57)), ?_⟩
      conv => whnf
      refine Both.mk (fun b58 => ?_) (fun b58 => ?_)
      · replace h := cond_t b58 h
        have b58d := of_decide_eq_true b58
        conv => whnf
        refine Side.mk rfl ?_
        conv => whnf
        obtain rfl := Option.some.inj h
        conv => whnf
        refine Side.mk ⟨rfl, trivial⟩ ?_
        conv => whnf
        exact ⟨rfl, rfl⟩
      · replace h := cond_f b58 h
        have b58d := of_decide_eq_false b58
        conv => whnf
        refine Side.mk rfl ?_
        conv => whnf
        refine Side.mk rfl ?_
        conv => whnf
        obtain rfl := Option.some.inj h
        conv => whnf
        refine Side.mk ⟨rfl, trivial⟩ ?_
        conv => whnf
        exact ⟨rfl, rfl⟩
theorem sp_table_Suffix (t_ : T_api_Table) (w_ : List Int) (r : T_api_Table × Int) (h : Ok (.agg (c_api_Table t_)) → Ok (nL cI w_) → table_Suffix t_ w_ = some r) : Sp Tryz.prog 32 [.im (.agg (c_api_Table t_)), .im (nL cI w_)] (.tup [.agg (c_api_Table r.1), nI r.2]) := by
  refine sp_of rfl [700002] rfl rfl rfl (Nat.le_of_ble_eq_true rfl) rfl fun hk => ?_
  replace h := h hk.1 hk.2.1
  have z1 : List.length t_.Prefixes ≤ 17592186044416 := ok_len (Ok.agg_at hk.1 1 rfl)
  have z2 : List.length t_.Suffixes ≤ 17592186044416 := ok_len (Ok.agg_at hk.1 2 rfl)
  have z3 : List.length w_ ≤ 17592186044416 := ok_len hk.2.1
  unfold table_Suffix at h
  conv => whnf
  obtain ⟨c51, hc51, h⟩ := bind_some h
  refine ⟨_, (sp_table_Valid t_ c51 (fun _ => hc51)), ?_⟩
  conv => whnf
  refine Both.mk (fun b52 => ?_) (fun b52 => ?_)
  · replace h := cond_t b52 h
    have b52d := of_decide_eq_true b52
    conv => whnf
    refine Side.mk rfl ?_
    conv => whnf
    obtain rfl := Option.some.inj h
    conv => whnf
    refine Side.mk ⟨rfl, trivial⟩ ?_
    conv => whnf
    exact ⟨rfl, rfl⟩
  · replace h := cond_f b52 h
    have b52d := of_decide_eq_false b52
    conv => whnf
    refine Nf.mk (List.length w_) len_map ?_
    conv => whnf
    refine Both.mk (fun b53 => ?_) (fun b53 => ?_)
    · replace h := cond_t b53 h
      have b53d := of_decide_eq_true b53
      conv => whnf
      refine Side.mk rfl ?_
      conv => whnf
      obtain rfl := Option.some.inj h
      conv => whnf
      refine Side.mk ⟨rfl, trivial⟩ ?_
      conv => whnf
      exact ⟨rfl, rfl⟩
    · replace h := cond_f b53 h
      have b53d := of_decide_eq_false b53
      conv => whnf
      obtain ⟨c54, hc54, h⟩ := bind_some h
      refine ⟨_, (sp_word_Check w_ t_.Inputs c54 (fun _ _ => hc54)), ?_⟩
      conv => whnf
      refine Both.mk (fun b55 => ?_) (fun b55 => ?_)
      · replace h := cond_t b55 h
        have b55d := of_decide_eq_true b55
        conv => whnf
        refine Side.mk rfl ?_
        conv => whnf
        obtain rfl := Option.some.inj h
        conv => whnf
        refine Side.mk ⟨rfl, trivial⟩ ?_
        conv => whnf
        exact ⟨rfl, rfl⟩
      · replace h := cond_f b55 h
        have b55d := of_decide_eq_false b55
        conv => whnf
        obtain ⟨c56, hc56, h⟩ := bind_some h
        refine ⟨_, (sp_wordset_Sorted t_.Prefixes c56 (fun _ => hc56)), ?_⟩
        conv => whnf
        obtain ⟨c57, hc57, h⟩ := bind_some h
        refine ⟨_, (sp_wordset_Union [t_.Suffixes, [w_]] c57 (fun _ => hc57)), ?_⟩
        conv => whnf
        obtain ⟨c58, hc58, h⟩ := bind_some h
        refine ⟨_, (sp_table_checked t_ (⟨t_.Inputs, c56, c57⟩ : T_api_Table) c58 (fun _ _ => hc58)), ?_⟩
        conv => whnf
        refine Side.mk rfl ?_
        conv => whnf
        obtain rfl := Option.some.inj h
        conv => whnf
        refine Side.mk ⟨rfl, trivial⟩ ?_
        conv => whnf
        exact ⟨rfl, rfl⟩
theorem sp_R23_Suffix (t_ : T_api_Table) (w_ : List Int) (r : T_api_Table × Int) (h : Ok (.agg (c_api_Table t_)) → Ok (nL cI w_) → R23_Suffix t_ w_ = some r) : Sp Tryz.prog 33 [.im (.agg (c_api_Table t_)), .im (nL cI w_)] (.tup [.agg (c_api_Table r.1), nI r.2]) := by
  refine sp_of rfl [700002] rfl rfl rfl (Nat.le_of_ble_eq_true rfl) rfl fun hk => ?_
  replace h := h hk.1 hk.2.1
  have z1 : List.length t_.Prefixes ≤ 17592186044416 := ok_len (Ok.agg_at hk.1 1 rfl)
  have z2 : List.length t_.Suffixes ≤ 17592186044416 := ok_len (Ok.agg_at hk.1 2 rfl)
  have z3 : List.length w_ ≤ 17592186044416 := ok_len hk.2.1
  unfold R23_Suffix at h
  conv => whnf
  obtain ⟨c51, hc51, h⟩ := bind_some h
  refine ⟨_, (sp_R23_Valid t_ c51 (fun _ => hc51)), ?_⟩
  conv => whnf
  refine Both.mk (fun b52 => ?_) (fun b52 => ?_)
  · replace h := cond_t b52 h
    have b52d := of_decide_eq_true b52
    conv => whnf
    refine Side.mk rfl ?_
    conv => whnf
    obtain rfl := Option.some.inj h
    conv => whnf
    refine Side.mk ⟨rfl, trivial⟩ ?_
    conv => whnf
    exact ⟨rfl, rfl⟩
  · replace h := cond_f b52 h
    have b52d := of_decide_eq_false b52
    conv => whnf
    refine Nf.mk (List.length w_) len_map ?_
    conv => whnf
    refine Both.mk (fun b53 => ?_) (fun b53 => ?_)
    · replace h := cond_t b53 h
      have b53d := of_decide_eq_true b53
      conv => whnf
      refine Side.mk rfl ?_
      conv => whnf
      obtain rfl := Option.some.inj h
      conv => whnf
      refine Side.mk ⟨rfl, trivial⟩ ?_
      conv => whnf
      exact ⟨rfl, rfl⟩
    · replace h := cond_f b53 h
      have b53d := of_decide_eq_false b53
      conv => whnf
      obtain ⟨c54, hc54, h⟩ := bind_some h
      refine ⟨_, (sp_R01_Check w_ t_.Inputs c54 (fun _ _ => hc54)), ?_⟩
      conv => whnf
      refine Both.mk (fun b55 => ?_) (fun b55 => ?_)
      · replace h := cond_t b55 h
        have b55d := of_decide_eq_true b55
        conv => whnf
        refine Side.mk rfl ?_
        conv => whnf
        obtain rfl := Option.some.inj h
        conv => whnf
        refine Side.mk ⟨rfl, trivial⟩ ?_
        conv => whnf
        exact ⟨rfl, rfl⟩
      · replace h := cond_f b55 h
        have b55d := of_decide_eq_false b55
        conv => whnf
        obtain ⟨c56, hc56, h⟩ := bind_some h
        refine ⟨_, (sp_R23_With t_ [] [w_] c56 (fun _ _ _ => hc56)), ?_⟩
        conv => whnf
        refine Side.mk rfl ?_
        conv => whnf
        refine Side.mk rfl ?_
        conv => whnf
        obtain ⟨c57, hc57, h⟩ := bind_some h
        refine ⟨_, (sp_R23_Valid c56 c57 (fun _ => hc57)), ?_⟩
        conv => whnf
        refine Both.mk (fun b58 => ?_) (fun b58 => ?_)
        · replace h := cond_t b58 h
          have b58d := of_decide_eq_true b58
          conv => whnf
          refine Side.mk rfl ?_
          conv => whnf
          obtain rfl := Option.some.inj h
          conv => whnf
          refine Side.mk ⟨rfl, trivial⟩ ?_
          conv => whnf
          exact ⟨rfl, rfl⟩
        · replace h := cond_f b58 h
          have b58d := of_decide_eq_false b58
          conv => whnf
          refine Side.mk rfl ?_
          conv => whnf
          refine Side.mk rfl ?_
          conv => whnf
          obtain rfl := Option.some.inj h
          conv => whnf
          refine Side.mk ⟨rfl, trivial⟩ ?_
          conv => whnf
          exact ⟨rfl, rfl⟩
theorem sp_L23_TableGrows (t_ : T_api_Table) (w_ : List Int) (r : Bool) (h : Ok (.agg (c_api_Table t_)) → Ok (nL cI w_) → L23_TableGrows t_ w_ = some r) : Sp Tryz.prog 6 [.im (.agg (c_api_Table t_)), .im (nL cI w_)] (.im (nB r)) := by
  refine sp_of rfl [700002] rfl rfl rfl (Nat.le_of_ble_eq_true rfl) rfl fun hk => ?_
  replace h := h hk.1 hk.2.1
  have z1 : List.length t_.Prefixes ≤ 17592186044416 := ok_len (Ok.agg_at hk.1 1 rfl)
  have z2 : List.length t_.Suffixes ≤ 17592186044416 := ok_len (Ok.agg_at hk.1 2 rfl)
  have z3 : List.length w_ ≤ 17592186044416 := ok_len hk.2.1
  unfold L23_TableGrows at h
  conv => whnf
  obtain ⟨y55, hc, hk52⟩ := bind_some h
  clear h
  have h := hc
  clear hc
  refine Cut.mk (mkSt [(1, .im (nL cI w_)), (2, .im (.ref (c_api_Table t_))), (16, .im (nB y55))] [] []) (List.length w_ ≤ 17592186044416 ∧ True) ((Holds.avl 1 rfl).and (Holds.true_ _)) ?_ (fun hp => ?_)
  · conv => whnf
    obtain ⟨c56, hc56, h⟩ := bind_some h
    refine ⟨_, (sp_L23_Great t_ (⟨0, []⟩ : T_api_Obs) c56 (fun _ _ => hc56)), ?_⟩
    conv => whnf
    refine Both.mk (fun b57 => ?_) (fun b57 => ?_)
    · replace b57 := beq_ff b57
      replace h := cond_f b57 h
      conv => whnf
      refine Both.yes (ff_beq b57) ?_
      conv => whnf
      refine Nf.mk (List.length w_) len_map ?_
      conv => whnf
      refine Both.yes (ff_beq b57) ?_
      conv => whnf
      refine Both.no b57 ?_
      conv => whnf
      cases h
      exact Join.mk (Ent.mk [] rfl ⟨⟨.im _, rfl, .im (Sub.rfl' rfl)⟩, ⟨.im _, rfl, .im (Sub.rfl' rfl)⟩, ⟨.im _, rfl, .im (Sub.rfl' rfl)⟩, trivial⟩ trivial trivial)
    · replace b57 := beq_ft b57
      replace h := cond_t b57 h
      conv => whnf
      iterate 2 (refine Both.no (tf_beq b57) ?_; (conv => whnf))
      refine Both.yes b57 ?_
      conv => whnf
      cases h
      exact Join.mk (Ent.mk [] rfl ⟨⟨.im _, rfl, .im (Sub.rfl' rfl)⟩, ⟨.im _, rfl, .im (Sub.rfl' rfl)⟩, ⟨.im _, rfl, .im (Sub.rfl' rfl)⟩, trivial⟩ trivial trivial)
  · replace h := hk52
    obtain ⟨z58, _⟩ := hp
    conv => whnf
    refine Both.mk (fun b59 => ?_) (fun b59 => ?_)
    · replace h := cond_t b59 h
      conv => whnf
      obtain ⟨c60, hc60, h⟩ := bind_some h
      refine ⟨_, (sp_L23_awake  c60 (hc60)), ?_⟩
      conv => whnf
      obtain rfl := Option.some.inj h
      conv => whnf
      exact ⟨rfl, rfl⟩
    · replace h := cond_f b59 h
      conv => whnf
      obtain ⟨c61, hc61, h⟩ := bind_some h
      refine ⟨_, (sp_table_Prefix t_ w_ c61 (fun _ _ => hc61)), ?_⟩
      conv => whnf
      refine Side.mk rfl ?_
      conv => whnf
      obtain ⟨c62, hc62, h⟩ := bind_some h
      refine ⟨_, (sp_R23_Prefix t_ w_ c62 (fun _ _ => hc62)), ?_⟩
      conv => whnf
      refine Side.mk rfl ?_
      conv => whnf
      obtain ⟨y67, hc, hk64⟩ := bind_some h
      clear h
      have h := hc
      clear hc
      refine Cut.mk (mkSt [(1, .im (nL cI w_)), (2, .im (.ref (c_api_Table t_))), (5, .own 64 1 0), (7, .own 65 1 0), (38, .im (nB y67))] [(64, .box 24 3), (65, .box 24 3)] [(64, 0, .im (nI c61.1.Inputs)), (64, 1, .im (nL (cL cI) c61.1.Prefixes)), (64, 2, .im (nL (cL cI) c61.1.Suffixes)), (65, 0, .im (nI c62.1.Inputs)), (65, 1, .im (nL (cL cI) c62.1.Prefixes)), (65, 2, .im (nL (cL cI) c62.1.Suffixes))]) (List.length w_ ≤ 17592186044416 ∧ List.length c61.1.Prefixes ≤ 17592186044416 ∧ List.length c61.1.Suffixes ≤ 17592186044416 ∧ List.length c62.1.Prefixes ≤ 17592186044416 ∧ List.length c62.1.Suffixes ≤ 17592186044416 ∧ True) ((Holds.avl 1 rfl).and ((Holds.cel 64 1 rfl (by decide) rfl).and ((Holds.cel 64 2 rfl (by decide) rfl).and ((Holds.cel 65 1 rfl (by decide) rfl).and ((Holds.cel 65 2 rfl (by decide) rfl).and (Holds.true_ _)))))) ?_ (fun hp => ?_)
      · conv => whnf
        refine Side.mk rfl ?_
        conv => whnf
        refine Side.mk rfl ?_
        conv => whnf
        obtain ⟨c68, hc68, h⟩ := bind_some h
        refine ⟨_, (sp_R23_Same c61.1 c62.1 c68 (fun _ _ => hc68)), ?_⟩
        conv => whnf
        refine Both.mk (fun b69 => ?_) (fun b69 => ?_)
        · replace b69 := beq_ff b69
          replace h := cond_f b69 h
          conv => whnf
          iterate 2 (refine Both.yes (ff_beq b69) ?_; (conv => whnf))
          refine Both.no b69 ?_
          conv => whnf
          cases h
          exact Join.mk (Ent.mk [(64, some 5), (65, some 7)] rfl ⟨⟨.im _, rfl, .im (Sub.rfl' rfl)⟩, ⟨.im _, rfl, .im (Sub.rfl' rfl)⟩, ⟨.own 5 _ 0, rfl, .own rfl rfl rfl⟩, ⟨.own 7 _ 0, rfl, .own rfl rfl rfl⟩, ⟨.im _, rfl, .im (Sub.rfl' rfl)⟩, trivial⟩ ⟨.inl ⟨5, rfl, rfl, trivial⟩, .inl ⟨7, rfl, rfl, trivial⟩, trivial⟩ ⟨⟨5, .im _, rfl, rfl, .im (Sub.rfl' rfl)⟩, ⟨5, .im _, rfl, rfl, .im (Sub.rfl' rfl)⟩, ⟨5, .im _, rfl, rfl, .im (Sub.rfl' rfl)⟩, ⟨7, .im _, rfl, rfl, .im (Sub.rfl' rfl)⟩, ⟨7, .im _, rfl, rfl, .im (Sub.rfl' rfl)⟩, ⟨7, .im _, rfl, rfl, .im (Sub.rfl' rfl)⟩, trivial⟩)
        · replace b69 := beq_ft b69
          replace h := cond_t b69 h
          conv => whnf
          iterate 2 (refine Both.no (tf_beq b69) ?_; (conv => whnf))
          refine Both.yes b69 ?_
          conv => whnf
          cases h
          exact Join.mk (Ent.mk [(64, some 5), (65, some 7)] rfl ⟨⟨.im _, rfl, .im (Sub.rfl' rfl)⟩, ⟨.im _, rfl, .im (Sub.rfl' rfl)⟩, ⟨.own 5 _ 0, rfl, .own rfl rfl rfl⟩, ⟨.own 7 _ 0, rfl, .own rfl rfl rfl⟩, ⟨.im _, rfl, .im (Sub.rfl' rfl)⟩, trivial⟩ ⟨.inl ⟨5, rfl, rfl, trivial⟩, .inl ⟨7, rfl, rfl, trivial⟩, trivial⟩ ⟨⟨5, .im _, rfl, rfl, .im (Sub.rfl' rfl)⟩, ⟨5, .im _, rfl, rfl, .im (Sub.rfl' rfl)⟩, ⟨5, .im _, rfl, rfl, .im (Sub.rfl' rfl)⟩, ⟨7, .im _, rfl, rfl, .im (Sub.rfl' rfl)⟩, ⟨7, .im _, rfl, rfl, .im (Sub.rfl' rfl)⟩, ⟨7, .im _, rfl, rfl, .im (Sub.rfl' rfl)⟩, trivial⟩)
      · replace h := hk64
        obtain ⟨z70, z71, z72, z73, z74, _⟩ := hp
        conv => whnf
        refine Both.mk (fun b75 => ?_) (fun b75 => ?_)
        · replace h := cond_t b75 h
          conv => whnf
          obtain rfl := Option.some.inj h
          conv => whnf
          exact ⟨rfl, rfl⟩
        · replace h := cond_f b75 h
          conv => whnf
          obtain ⟨c76, hc76, h⟩ := bind_some h
          refine ⟨_, (sp_table_Suffix t_ w_ c76 (fun _ _ => hc76)), ?_⟩
          conv => whnf
          refine Side.mk rfl ?_
          conv => whnf
          obtain ⟨c77, hc77, h⟩ := bind_some h
          refine ⟨_, (sp_R23_Suffix t_ w_ c77 (fun _ _ => hc77)), ?_⟩
          conv => whnf
          refine Side.mk rfl ?_
          conv => whnf
          obtain ⟨y84, hc, hk79⟩ := bind_some h
          clear h
          have h := hc
          clear hc
          refine Cut.mk (mkSt [(4, .im (nB y84))] [] []) (True) (Holds.true_ _) ?_ (fun hp => ?_)
          · conv => whnf
            refine Side.mk rfl ?_
            conv => whnf
            refine Side.mk rfl ?_
            conv => whnf
            obtain ⟨c85, hc85, h⟩ := bind_some h
            refine ⟨_, (sp_R23_Same c76.1 c77.1 c85 (fun _ _ => hc85)), ?_⟩
            conv => whnf
            refine Both.mk (fun b86 => ?_) (fun b86 => ?_)
            · replace b86 := beq_tt b86
              replace h := cond_t b86 h
              conv => whnf
              iterate 2 (refine Both.yes (tt_beq b86) ?_; (conv => whnf))
              refine Both.yes b86 ?_
              conv => whnf
              refine Both.mk (fun b87 => ?_) (fun b87 => ?_)
              · replace b87 := beq_tt b87
                replace h := cond_t b87 h
                have b87d := of_decide_eq_true b87
                conv => whnf
                obtain ⟨c88, hc88, h⟩ := bind_some h
                refine ⟨_, (sp_L23_awake  c88 (hc88)), ?_⟩
                conv => whnf
                refine Both.yes b87 ?_
                conv => whnf
                cases h
                exact Join.mk (Ent.mk [] rfl ⟨⟨.im _, rfl, .im (Sub.rfl' rfl)⟩, trivial⟩ trivial trivial)
              · replace b87 := beq_tf b87
                replace h := cond_f b87 h
                have b87d := of_decide_eq_false b87
                conv => whnf
                refine Both.no b87 ?_
                conv => whnf
                cases h
                exact Join.mk (Ent.mk [] rfl ⟨⟨.im _, rfl, .im (Sub.rfl' rfl)⟩, trivial⟩ trivial trivial)
            · replace b86 := beq_tf b86
              replace h := cond_f b86 h
              conv => whnf
              iterate 2 (refine Both.no (ft_beq b86) ?_; (conv => whnf))
              refine Both.no b86 ?_
              conv => whnf
              iterate 2 (refine Both.no rfl ?_; (conv => whnf))
              cases h
              exact Join.mk (Ent.mk [] rfl ⟨⟨.im _, rfl, .im (Sub.rfl' rfl)⟩, trivial⟩ trivial trivial)
          · replace h := hk79
            conv => whnf
            obtain rfl := Option.some.inj h
            conv => whnf
            exact ⟨rfl, rfl⟩
end Go.Proofs.YthahbiahlpcgeaaGreatDoor.Sym
