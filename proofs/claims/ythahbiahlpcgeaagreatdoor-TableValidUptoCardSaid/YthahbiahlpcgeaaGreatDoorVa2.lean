/-
  The contracts of the functions, read from the code by a program (ext.py): each function has its plain twin as its contract.
-/
import Derived.Test.YthahbiahlpcgeaaGreatDoorVa1
namespace Go.Proofs.YthahbiahlpcgeaaGreatDoor.Sym
open Go.RowKit
set_option maxRecDepth 100000
set_option linter.unusedVariables false
set_option maxHeartbeats 4000000
theorem sp_L23_awake (r : Bool) (h : L23_awake = some r) : Sp Tryz.prog 16 [] (.im (nB r)) := by
  refine sp_of rfl [] rfl rfl rfl (Nat.le_of_ble_eq_true rfl) rfl fun hk => ?_
  unfold L23_awake at h
  conv => whnf
  obtain ⟨c51, hc51, h⟩ := bind_some h
  refine ⟨_, (sp_table_New 2 c51 (fun _ => hc51)), ?_⟩
  conv => whnf
  refine Side.mk rfl ?_
  conv => whnf
  refine Side.mk rfl ?_
  conv => whnf
  obtain ⟨c52, hc52, h⟩ := bind_some h
  refine ⟨_, (sp_table_Needed c51.1 (⟨2, []⟩ : T_api_Obs) c52 (fun _ _ => hc52)), ?_⟩
  conv => whnf
  refine Side.mk rfl ?_
  conv => whnf
  obtain ⟨c53, hc53, h⟩ := bind_some h
  refine ⟨_, (sp_L23_Gate  c53 (hc53)), ?_⟩
  conv => whnf
  obtain ⟨c54, hc54, h⟩ := bind_some h
  refine ⟨_, (sp_table_Row c51.1 c53 [0] c54 (fun _ _ _ => hc54)), ?_⟩
  conv => whnf
  refine Side.mk rfl ?_
  conv => whnf
  obtain ⟨c55, hc55, h⟩ := bind_some h
  refine ⟨_, (sp_L23_Gate  c55 (hc55)), ?_⟩
  conv => whnf
  obtain ⟨c56, hc56, h⟩ := bind_some h
  refine ⟨_, (sp_table_Unclosed c51.1 c55 c56 (fun _ _ => hc56)), ?_⟩
  conv => whnf
  obtain ⟨y71, hc, hk58⟩ := bind_some h
  clear h
  have h := hc
  clear hc
  refine Cut.mk (mkSt [(0, .im (nB y71))] [] []) (True) (Holds.true_ _) ?_ (fun hp => ?_)
  · conv => whnf
    refine Both.mk (fun b72 => ?_) (fun b72 => ?_)
    · replace b72 := beq_tt b72
      replace h := cond_t b72 h
      have b72d := of_decide_eq_true b72
      conv => whnf
      refine Both.yes (tt_beq b72) ?_
      conv => whnf
      refine Both.yes b72 ?_
      conv => whnf
      refine Both.mk (fun b73 => ?_) (fun b73 => ?_)
      · replace b73 := beq_tt b73
        replace h := cond_t b73 h
        have b73d := of_decide_eq_true b73
        conv => whnf
        iterate 6 (refine Both.yes (tt_beq b73) ?_; (conv => whnf))
        obtain ⟨c74, hc74, h⟩ := bind_some h
        refine ⟨_, (sp_R01_SameWords c52.1 [[0, 0], [0, 1], [1, 0], [1, 1]] c74 (fun _ _ => hc74)), ?_⟩
        conv => whnf
        refine Both.yes b73 ?_
        conv => whnf
        refine Both.mk (fun b75 => ?_) (fun b75 => ?_)
        · replace b75 := beq_tt b75
          replace h := cond_t b75 h
          conv => whnf
          refine Both.yes b75 ?_
          conv => whnf
          refine Both.mk (fun b76 => ?_) (fun b76 => ?_)
          · replace b76 := beq_tt b76
            replace h := cond_t b76 h
            conv => whnf
            iterate 4 (refine Both.yes (tt_beq b76) ?_; (conv => whnf))
            obtain ⟨c77, hc77, h⟩ := bind_some h
            refine ⟨_, (sp_R06_Lists c54.1 [[1], [2]] c77 (fun _ _ => hc77)), ?_⟩
            conv => whnf
            refine Both.yes b76 ?_
            conv => whnf
            refine Both.mk (fun b78 => ?_) (fun b78 => ?_)
            · replace b78 := beq_tt b78
              replace h := cond_t b78 h
              conv => whnf
              refine Both.yes b78 ?_
              conv => whnf
              refine Both.mk (fun b79 => ?_) (fun b79 => ?_)
              · replace b79 := beq_tt b79
                replace h := cond_t b79 h
                conv => whnf
                refine Both.yes (tt_beq b79) ?_
                conv => whnf
                refine Both.yes b79 ?_
                conv => whnf
                refine Both.mk (fun b80 => ?_) (fun b80 => ?_)
                · replace b80 := beq_tt b80
                  replace h := cond_t b80 h
                  have b80d := of_decide_eq_true b80
                  conv => whnf
                  iterate 2 (refine Both.yes (tt_beq b80) ?_; (conv => whnf))
                  obtain ⟨c81, hc81, h⟩ := bind_some h
                  refine ⟨_, (sp_R06_Ints c56.1 [0] c81 (fun _ _ => hc81)), ?_⟩
                  conv => whnf
                  refine Both.yes b80 ?_
                  conv => whnf
                  refine Both.mk (fun b82 => ?_) (fun b82 => ?_)
                  · replace b82 := beq_tt b82
                    replace h := cond_t b82 h
                    conv => whnf
                    refine Side.mk rfl ?_
                    conv => whnf
                    refine Both.yes (tt_beq b82) ?_
                    conv => whnf
                    obtain ⟨c83, hc83, h⟩ := bind_some h
                    refine ⟨_, (sp_table_Valid c51.1 c83 (fun _ => hc83)), ?_⟩
                    conv => whnf
                    refine Both.yes (tt_beq b82) ?_
                    conv => whnf
                    refine Both.yes b82 ?_
                    conv => whnf
                    cases h
                    exact Join.mk (Ent.mk [] rfl ⟨⟨.im _, rfl, .im (Sub.rfl' rfl)⟩, trivial⟩ trivial trivial)
                  · replace b82 := beq_tf b82
                    replace h := cond_f b82 h
                    conv => whnf
                    iterate 2 (refine Both.no (ft_beq b82) ?_; (conv => whnf))
                    refine Both.no b82 ?_
                    conv => whnf
                    cases h
                    exact Join.mk (Ent.mk [] rfl ⟨⟨.im _, rfl, .im (Sub.rfl' rfl)⟩, trivial⟩ trivial trivial)
                · replace b80 := beq_tf b80
                  replace h := cond_f b80 h
                  have b80d := of_decide_eq_false b80
                  conv => whnf
                  iterate 2 (refine Both.no (ft_beq b80) ?_; (conv => whnf))
                  refine Both.no b80 ?_
                  conv => whnf
                  iterate 4 (refine Both.no rfl ?_; (conv => whnf))
                  cases h
                  exact Join.mk (Ent.mk [] rfl ⟨⟨.im _, rfl, .im (Sub.rfl' rfl)⟩, trivial⟩ trivial trivial)
              · replace b79 := beq_tf b79
                replace h := cond_f b79 h
                conv => whnf
                refine Both.no (ft_beq b79) ?_
                conv => whnf
                refine Both.no b79 ?_
                conv => whnf
                iterate 8 (refine Both.no rfl ?_; (conv => whnf))
                cases h
                exact Join.mk (Ent.mk [] rfl ⟨⟨.im _, rfl, .im (Sub.rfl' rfl)⟩, trivial⟩ trivial trivial)
            · replace b78 := beq_tf b78
              replace h := cond_f b78 h
              conv => whnf
              refine Both.no b78 ?_
              conv => whnf
              iterate 11 (refine Both.no rfl ?_; (conv => whnf))
              cases h
              exact Join.mk (Ent.mk [] rfl ⟨⟨.im _, rfl, .im (Sub.rfl' rfl)⟩, trivial⟩ trivial trivial)
          · replace b76 := beq_tf b76
            replace h := cond_f b76 h
            conv => whnf
            iterate 4 (refine Both.no (ft_beq b76) ?_; (conv => whnf))
            refine Both.no b76 ?_
            conv => whnf
            iterate 13 (refine Both.no rfl ?_; (conv => whnf))
            cases h
            exact Join.mk (Ent.mk [] rfl ⟨⟨.im _, rfl, .im (Sub.rfl' rfl)⟩, trivial⟩ trivial trivial)
        · replace b75 := beq_tf b75
          replace h := cond_f b75 h
          conv => whnf
          refine Both.no b75 ?_
          conv => whnf
          iterate 19 (refine Both.no rfl ?_; (conv => whnf))
          cases h
          exact Join.mk (Ent.mk [] rfl ⟨⟨.im _, rfl, .im (Sub.rfl' rfl)⟩, trivial⟩ trivial trivial)
      · replace b73 := beq_tf b73
        replace h := cond_f b73 h
        have b73d := of_decide_eq_false b73
        conv => whnf
        iterate 6 (refine Both.no (ft_beq b73) ?_; (conv => whnf))
        refine Both.no b73 ?_
        conv => whnf
        iterate 21 (refine Both.no rfl ?_; (conv => whnf))
        cases h
        exact Join.mk (Ent.mk [] rfl ⟨⟨.im _, rfl, .im (Sub.rfl' rfl)⟩, trivial⟩ trivial trivial)
    · replace b72 := beq_tf b72
      replace h := cond_f b72 h
      have b72d := of_decide_eq_false b72
      conv => whnf
      refine Both.no (ft_beq b72) ?_
      conv => whnf
      refine Both.no b72 ?_
      conv => whnf
      iterate 29 (refine Both.no rfl ?_; (conv => whnf))
      cases h
      exact Join.mk (Ent.mk [] rfl ⟨⟨.im _, rfl, .im (Sub.rfl' rfl)⟩, trivial⟩ trivial trivial)
  · replace h := hk58
    conv => whnf
    obtain rfl := Option.some.inj h
    conv => whnf
    exact ⟨rfl, rfl⟩
theorem sp_L23_TableValid (t_ : T_api_Table) (inputs_ : Int) (r : Bool) (h : Ok (.agg (c_api_Table t_)) → Ok (nI inputs_) → L23_TableValid t_ inputs_ = some r) : Sp Tryz.prog 3 [.im (.agg (c_api_Table t_)), .im (nI inputs_)] (.im (nB r)) := by
  refine sp_of rfl [700002] rfl rfl rfl (Nat.le_of_ble_eq_true rfl) rfl fun hk => ?_
  replace h := h hk.1 hk.2.1
  have z1 : List.length t_.Prefixes ≤ 17592186044416 := ok_len (Ok.agg_at hk.1 1 rfl)
  have z2 : List.length t_.Suffixes ≤ 17592186044416 := ok_len (Ok.agg_at hk.1 2 rfl)
  unfold L23_TableValid at h
  conv => whnf
  obtain ⟨c51, hc51, h⟩ := bind_some h
  refine ⟨_, (sp_table_New inputs_ c51 (fun _ => hc51)), ?_⟩
  conv => whnf
  refine Side.mk rfl ?_
  conv => whnf
  obtain ⟨c52, hc52, h⟩ := bind_some h
  refine ⟨_, (sp_R23_New inputs_ c52 (fun _ => hc52)), ?_⟩
  conv => whnf
  refine Side.mk rfl ?_
  conv => whnf
  obtain ⟨y62, hc, hk54⟩ := bind_some h
  clear h
  have h := hc
  clear hc
  refine Cut.mk (mkSt [(4, .im (nB y62))] [] []) (True) (Holds.true_ _) ?_ (fun hp => ?_)
  · conv => whnf
    refine Side.mk rfl ?_
    conv => whnf
    refine Side.mk rfl ?_
    conv => whnf
    obtain ⟨c63, hc63, h⟩ := bind_some h
    refine ⟨_, (sp_R23_Same c51.1 c52.1 c63 (fun _ _ => hc63)), ?_⟩
    conv => whnf
    refine Both.mk (fun b64 => ?_) (fun b64 => ?_)
    · replace b64 := beq_tt b64
      replace h := cond_t b64 h
      conv => whnf
      iterate 2 (refine Both.yes (tt_beq b64) ?_; (conv => whnf))
      refine Both.yes b64 ?_
      conv => whnf
      refine Both.mk (fun b65 => ?_) (fun b65 => ?_)
      · replace b65 := beq_tt b65
        replace h := cond_t b65 h
        have b65d := of_decide_eq_true b65
        conv => whnf
        refine Both.yes (tt_beq b65) ?_
        conv => whnf
        obtain ⟨c66, hc66, h⟩ := bind_some h
        refine ⟨_, (sp_table_Valid t_ c66 (fun _ => hc66)), ?_⟩
        conv => whnf
        iterate 2 (refine Both.yes (tt_beq b65) ?_; (conv => whnf))
        obtain ⟨c67, hc67, h⟩ := bind_some h
        refine ⟨_, (sp_R23_Valid t_ c67 (fun _ => hc67)), ?_⟩
        conv => whnf
        refine Both.yes (tt_beq b65) ?_
        conv => whnf
        refine Both.yes b65 ?_
        conv => whnf
        refine Both.mk (fun b68 => ?_) (fun b68 => ?_)
        · replace b68 := beq_tt b68
          replace h := cond_t b68 h
          have b68d := of_decide_eq_true b68
          conv => whnf
          obtain ⟨c69, hc69, h⟩ := bind_some h
          refine ⟨_, (sp_L23_awake  c69 (hc69)), ?_⟩
          conv => whnf
          refine Both.yes b68 ?_
          conv => whnf
          cases h
          exact Join.mk (Ent.mk [] rfl ⟨⟨.im _, rfl, .im (Sub.rfl' rfl)⟩, trivial⟩ trivial trivial)
        · replace b68 := beq_tf b68
          replace h := cond_f b68 h
          have b68d := of_decide_eq_false b68
          conv => whnf
          refine Both.no b68 ?_
          conv => whnf
          cases h
          exact Join.mk (Ent.mk [] rfl ⟨⟨.im _, rfl, .im (Sub.rfl' rfl)⟩, trivial⟩ trivial trivial)
      · replace b65 := beq_tf b65
        replace h := cond_f b65 h
        have b65d := of_decide_eq_false b65
        conv => whnf
        iterate 4 (refine Both.no (ft_beq b65) ?_; (conv => whnf))
        refine Both.no b65 ?_
        conv => whnf
        iterate 2 (refine Both.no rfl ?_; (conv => whnf))
        cases h
        exact Join.mk (Ent.mk [] rfl ⟨⟨.im _, rfl, .im (Sub.rfl' rfl)⟩, trivial⟩ trivial trivial)
    · replace b64 := beq_tf b64
      replace h := cond_f b64 h
      conv => whnf
      iterate 2 (refine Both.no (ft_beq b64) ?_; (conv => whnf))
      refine Both.no b64 ?_
      conv => whnf
      iterate 8 (refine Both.no rfl ?_; (conv => whnf))
      cases h
      exact Join.mk (Ent.mk [] rfl ⟨⟨.im _, rfl, .im (Sub.rfl' rfl)⟩, trivial⟩ trivial trivial)
  · replace h := hk54
    conv => whnf
    obtain rfl := Option.some.inj h
    conv => whnf
    exact ⟨rfl, rfl⟩
end Go.Proofs.YthahbiahlpcgeaaGreatDoor.Sym
