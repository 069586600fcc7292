/-
  The contracts of the functions, read from the code by a program (ext.py): each function has its plain twin as its contract.
-/
import Derived.Test.YtpmebphhbgpapaaGreatDoorM4
set_option linter.all false
namespace Go.Proofs.YtpmebphhbgpapaaGreatDoor.Sym
open Go.RowKit
set_option maxRecDepth 100000
set_option linter.unusedVariables false
set_option maxHeartbeats 4000000
theorem eI {σ : St} {src : List (Nat × Option Nat)} {γ : Nat → Nat} {t : Nat} {y b : IV} (h1 : σ.av t = .im y) (h2 : AV.im y = .im b) : ∃ x, σ.av t = x ∧ SubR σ src γ x (.im b) := ⟨.im y, h1, .im (Sub.rfl' h2)⟩
theorem odt {p : Prop} [Decidable p] (h : decide p = true) : p := of_decide_eq_true h
theorem odf {p : Prop} [Decidable p] (h : decide p = false) : ¬ p := of_decide_eq_false h
theorem ctd {α : Type} {p : Prop} [Decidable p] {x y z : α} (hb : decide p = true) (h : cond (decide p) x y = z) : x = z ∧ p := ⟨cond_t hb h, odt hb⟩
theorem cfd {α : Type} {p : Prop} [Decidable p] {x y z : α} (hb : decide p = false) (h : cond (decide p) x y = z) : y = z ∧ ¬ p := ⟨cond_f hb h, odf hb⟩
theorem hT {σ : St} : Holds σ True := Holds.true_ _
abbrev lZ {α : Type} (l : List α) : Prop := List.length l ≤ 17592186044416
theorem eA {σ : St} {avs : List (Nat × AV)} {kds : List (Nat × Kd)} {cels : List (Nat × Nat × AV)} (src : List (Nat × Option Nat)) (hn : ndB (srcs src) [] = true := by exact rfl) (ha : SubL σ src (gnM kds) avs := by repeat' (first | exact trivial | refine ⟨eI rfl rfl, ?_⟩ | refine ⟨⟨.own _ _ _, rfl, .own rfl rfl rfl⟩, ?_⟩ | refine ⟨⟨.osl _ _, rfl, .osl rfl rfl rfl⟩, ?_⟩ | refine ⟨⟨.im (.val (.slice none 0 0)), rfl, .made rfl rfl⟩, ?_⟩)) (hk : KdL σ src kds := by repeat' (first | exact trivial | refine ⟨.inl ⟨_, rfl, rfl, trivial⟩, ?_⟩ | refine ⟨.inl ⟨_, rfl, rfl, ⟨rfl, rfl⟩⟩, ?_⟩ | refine ⟨.inr ⟨rfl, rfl, .inl ⟨_, _, rfl, by decide⟩⟩, ?_⟩)) (hc : CeL σ src (gnM kds) cels := by repeat' (first | exact trivial | refine ⟨⟨_, .im _, rfl, rfl, .im (Sub.rfl' rfl)⟩, ?_⟩ | refine ⟨⟨_, .own _ _ _, rfl, rfl, .own rfl rfl rfl⟩, ?_⟩ | refine ⟨⟨_, .osl _ _, rfl, rfl, .osl rfl rfl rfl⟩, ?_⟩)) : Ent σ (mkSt avs kds cels) := Ent.mk src hn ha hk hc
theorem sp_R06_Ints (a_ : List Int) (b_ : List Int) (r : Bool) (h : Ok (nL cI a_) → Ok (nL cI b_) → R06_Ints a_ b_ = some r) : Sp Tryz.prog 30 [.im (nL cI a_), .im (nL cI b_)] (.im (nB r)) := by
 refine sp_of rfl [] rfl rfl rfl (Nat.le_of_ble_eq_true rfl) rfl fun hk => ?_
 replace h := h hk.1 hk.2.1
 have z1 : lZ a_ := ok_len hk.1
 have z2 : lZ b_ := ok_len hk.2.1
 unfold R06_Ints at h
 conv=>whnf
 refine Nf.mk (List.length a_) len_map ?_
 conv=>whnf
 refine Nf.mk (List.length b_) len_map ?_
 conv=>whnf
 refine Both.mk ?_ ?_<;>intro b51
 ·obtain ⟨h, b51d⟩ := ctd b51 h
  conv=>whnf
  cases h
  conv=>whnf
  exact ⟨rfl, rfl⟩
 ·obtain ⟨h, b51d⟩ := cfd b51 h
  conv=>whnf
  obtain ⟨oc, hc, hk52⟩ := bind_some h
  clear h
  have h := hc
  clear hc
  refine Cut.mkS oc (Y := Unit) (fun (_ : Unit) => mkSt [] [] []) (fun (_ : Unit) => True) (by rintro ⟨⟩; exact (hT)) ?_ ?_
  ·conv=>whnf
   refine Loops.iter (fun (s : Nat) => R06_Ints.s2 a_ b_ s) (fun i73 => mkSt [(0, .im (nL cI a_)), (1, .im (nL cI b_)), (5, .im (nI (↑i73 : Int)))] [] []) (fun i73 => lZ a_ ∧ lZ b_ ∧ True) h (eA []) (by rintro i73; exact ((Holds.avl 0 rfl).and ((Holds.avl 1 rfl).and (hT)))) ?_
   clear h
   rintro k i73 o hp h ho78
   replace h : R06_Ints.s2 a_ b_ i73 = some o := h
   unfold R06_Ints.s2 at h
   obtain ⟨z83, z84, _⟩ := hp
   conv=>whnf
   refine Nf.mk (List.length a_) len_map ?_
   conv=>whnf
   refine Both.mk ?_ ?_<;>intro b79
   ·obtain ⟨h, b79d⟩ := ctd b79 h
    conv=>whnf
    obtain ⟨e80, he80, h⟩ := idxn_some h
    refine ⟨_, ⟨(by omega), map_at he80, rfl⟩, ?_⟩
    conv=>whnf
    obtain ⟨e81, he81, h⟩ := idxn_some h
    refine ⟨_, ⟨(by omega), map_at he81, rfl⟩, ?_⟩
    conv=>whnf
    refine Both.mk ?_ ?_<;>intro b82
    ·obtain ⟨h, b82d⟩ := ctd b82 h
     conv=>whnf
     cases h
     have ho78 : _ = _ := ho78
     cases ho78
     replace h : some _ = some _ := hk52
     cases h
     conv=>whnf
     exact ⟨rfl, rfl⟩
    ·obtain ⟨h, b82d⟩ := cfd b82 h
     conv=>whnf
     refine Side.mk (by show inR _; unfold inR; omega) ?_
     conv=>whnf
     cases h
     exact Nxt.mk _ ho78 (eA [])
   ·obtain ⟨h, b79d⟩ := cfd b79 h
    conv=>whnf
    cases h
    have ho78 : _ = _ := ho78
    cases ho78
    exact JoinS.mk' _ rfl (eA [])
  ·rintro ⟨⟩ rfl hp
   replace h := sum_inl hk52
   conv=>whnf
   cases h
   conv=>whnf
   exact ⟨rfl, rfl⟩
theorem sp_R06_Lists (a_ : List (List Int)) (b_ : List (List Int)) (r : Bool) (h : Ok (nL (cL cI) a_) → Ok (nL (cL cI) b_) → R06_Lists a_ b_ = some r) : Sp Tryz.prog 27 [.im (nL (cL cI) a_), .im (nL (cL cI) b_)] (.im (nB r)) := by
 refine sp_of rfl [] rfl rfl rfl (Nat.le_of_ble_eq_true rfl) rfl fun hk => ?_
 replace h := h hk.1 hk.2.1
 have z1 : lZ a_ := ok_len hk.1
 have z2 : lZ b_ := ok_len hk.2.1
 unfold R06_Lists at h
 conv=>whnf
 refine Nf.mk (List.length a_) len_map ?_
 conv=>whnf
 refine Nf.mk (List.length b_) len_map ?_
 conv=>whnf
 refine Both.mk ?_ ?_<;>intro b51
 ·obtain ⟨h, b51d⟩ := ctd b51 h
  conv=>whnf
  cases h
  conv=>whnf
  exact ⟨rfl, rfl⟩
 ·obtain ⟨h, b51d⟩ := cfd b51 h
  conv=>whnf
  obtain ⟨oc, hc, hk52⟩ := bind_some h
  clear h
  have h := hc
  clear hc
  refine Cut.mkS oc (Y := Unit) (fun (_ : Unit) => mkSt [] [] []) (fun (_ : Unit) => True) (by rintro ⟨⟩; exact (hT)) ?_ ?_
  ·conv=>whnf
   refine Loops.iter (fun (s : Nat) => R06_Lists.s2 a_ b_ s) (fun i77 => mkSt [(0, .im (nL (cL cI) a_)), (1, .im (nL (cL cI) b_)), (5, .im (nI (↑i77 : Int)))] [] []) (fun i77 => lZ a_ ∧ lZ b_ ∧ True) h (eA []) (by rintro i77; exact ((Holds.avl 0 rfl).and ((Holds.avl 1 rfl).and (hT)))) ?_
   clear h
   rintro k i77 o hp h ho83
   replace h : R06_Lists.s2 a_ b_ i77 = some o := h
   unfold R06_Lists.s2 at h
   obtain ⟨z89, z90, _⟩ := hp
   conv=>whnf
   refine Nf.mk (List.length a_) len_map ?_
   conv=>whnf
   refine Both.mk ?_ ?_<;>intro b84
   ·obtain ⟨h, b84d⟩ := ctd b84 h
    conv=>whnf
    obtain ⟨e85, he85, h⟩ := idxn_some h
    refine ⟨_, ⟨(by omega), map_at he85, rfl⟩, ?_⟩
    conv=>whnf
    obtain ⟨e86, he86, h⟩ := idxn_some h
    refine ⟨_, ⟨(by omega), map_at he86, rfl⟩, ?_⟩
    conv=>whnf
    obtain ⟨c87, hc87, h⟩ := bind_some h
    refine ⟨_, (sp_R06_Ints e85 e86 c87 (fun _ _ => hc87)), ?_⟩
    conv=>whnf
    refine Both.mk ?_ ?_<;>intro b88
    ·replace h := cond_t b88 h
     conv=>whnf
     cases h
     have ho83 : _ = _ := ho83
     cases ho83
     replace h : some _ = some _ := hk52
     cases h
     conv=>whnf
     exact ⟨rfl, rfl⟩
    ·replace h := cond_f b88 h
     conv=>whnf
     refine Side.mk (by show inR _; unfold inR; omega) ?_
     conv=>whnf
     cases h
     exact Nxt.mk _ ho83 (eA [])
   ·obtain ⟨h, b84d⟩ := cfd b84 h
    conv=>whnf
    cases h
    have ho83 : _ = _ := ho83
    cases ho83
    exact JoinS.mk' _ rfl (eA [])
  ·rintro ⟨⟩ rfl hp
   replace h := sum_inl hk52
   conv=>whnf
   cases h
   conv=>whnf
   exact ⟨rfl, rfl⟩
theorem sp_R23_Same (a_ : T_api_Table) (b_ : T_api_Table) (r : Bool) (h : Ok (.agg (c_api_Table a_)) → Ok (.agg (c_api_Table b_)) → R23_Same a_ b_ = some r) : Sp Tryz.prog 16 [.im (.agg (c_api_Table a_)), .im (.agg (c_api_Table b_))] (.im (nB r)) := by
 refine sp_of rfl [700002, 700003] rfl rfl rfl (Nat.le_of_ble_eq_true rfl) rfl fun hk => ?_
 replace h := h hk.1 hk.2.1
 have z1 : lZ a_.Prefixes := ok_len (Ok.agg_at hk.1 1 rfl)
 have z2 : lZ a_.Suffixes := ok_len (Ok.agg_at hk.1 2 rfl)
 have z3 : lZ b_.Prefixes := ok_len (Ok.agg_at hk.2.1 1 rfl)
 have z4 : lZ b_.Suffixes := ok_len (Ok.agg_at hk.2.1 2 rfl)
 unfold R23_Same at h
 conv=>whnf
 obtain ⟨y57, hc, hk52⟩ := bind_some h
 clear h
 have h := hc
 clear hc
 refine Cut.mk (mkSt [(4, .im (nB y57))] [] []) (True) (hT) ?_ (fun hp => ?_)
 ·conv=>whnf
  refine Both.mk ?_ ?_<;>intro b58
  ·replace b58 := beq_tt b58
   obtain ⟨h, b58d⟩ := ctd b58 h
   conv=>whnf
   iterate 4 (refine Both.yes (tt_beq b58) ?_; (conv=>whnf))
   obtain ⟨c59, hc59, h⟩ := bind_some h
   refine ⟨_, (sp_R06_Lists a_.Prefixes b_.Prefixes c59 (fun _ _ => hc59)), ?_⟩
   conv=>whnf
   refine Both.yes b58 ?_
   conv=>whnf
   refine Both.mk ?_ ?_<;>intro b60
   ·replace b60 := beq_tt b60
    replace h := cond_t b60 h
    conv=>whnf
    iterate 4 (refine Both.yes (tt_beq b60) ?_; (conv=>whnf))
    obtain ⟨c61, hc61, h⟩ := bind_some h
    refine ⟨_, (sp_R06_Lists a_.Suffixes b_.Suffixes c61 (fun _ _ => hc61)), ?_⟩
    conv=>whnf
    refine Both.yes b60 ?_
    conv=>whnf
    cases h
    exact Join.mk (eA [])
   ·replace b60 := beq_tf b60
    replace h := cond_f b60 h
    conv=>whnf
    iterate 4 (refine Both.no (ft_beq b60) ?_; (conv=>whnf))
    refine Both.no b60 ?_
    conv=>whnf
    cases h
    exact Join.mk (eA [])
  ·replace b58 := beq_tf b58
   obtain ⟨h, b58d⟩ := cfd b58 h
   conv=>whnf
   iterate 4 (refine Both.no (ft_beq b58) ?_; (conv=>whnf))
   refine Both.no b58 ?_
   conv=>whnf
   iterate 6 (refine Both.no rfl ?_; (conv=>whnf))
   cases h
   exact Join.mk (eA [])
 ·replace h := hk52
  conv=>whnf
  cases h
  conv=>whnf
  exact ⟨rfl, rfl⟩
theorem sp_word_permitted (inputs_ : Int) (r : Bool) (h : Ok (nI inputs_) → word_permitted inputs_ = some r) : Sp Tryz.prog 108 [.im (nI inputs_)] (.im (nB r)) := by
 refine sp_of rfl [] rfl rfl rfl (Nat.le_of_ble_eq_true rfl) rfl fun hk => ?_
 replace h := h hk.1
 unfold word_permitted at h
 conv=>whnf
 obtain ⟨y54, hc, hk52⟩ := bind_some h
 clear h
 have h := hc
 clear hc
 refine Cut.mk (mkSt [(2, .im (nB y54))] [] []) (True) (hT) ?_ (fun hp => ?_)
 ·conv=>whnf
  refine Both.mk ?_ ?_<;>intro b55
  ·replace b55 := beq_tt b55
   obtain ⟨h, b55d⟩ := ctd b55 h
   conv=>whnf
   refine Both.yes (tt_beq b55) ?_
   conv=>whnf
   refine Both.yes b55 ?_
   conv=>whnf
   cases h
   exact Join.mk (eA [])
  ·replace b55 := beq_tf b55
   obtain ⟨h, b55d⟩ := cfd b55 h
   conv=>whnf
   refine Both.no (ft_beq b55) ?_
   conv=>whnf
   refine Both.no b55 ?_
   conv=>whnf
   cases h
   exact Join.mk (eA [])
 ·replace h := hk52
  conv=>whnf
  cases h
  conv=>whnf
  exact ⟨rfl, rfl⟩
theorem sp_word_Check_1 (a_ : Int) (p1_ : Int) (r : Bool) (h : Ok (nI a_) → Ok (.ref (cI p1_)) → word_Check_1 a_ p1_ = some r) : Sp Tryz.prog 110 [.im (nI a_), .im (.ref (cI p1_))] (.im (nB r)) := by
 refine sp_of rfl [] rfl rfl rfl (Nat.le_of_ble_eq_true rfl) rfl fun hk => ?_
 replace h := h hk.1 hk.2.1
 unfold word_Check_1 at h
 conv=>whnf
 obtain ⟨y54, hc, hk52⟩ := bind_some h
 clear h
 have h := hc
 clear hc
 refine Cut.mk (mkSt [(3, .im (nB y54))] [] []) (True) (hT) ?_ (fun hp => ?_)
 ·conv=>whnf
  refine Both.mk ?_ ?_<;>intro b55
  ·replace b55 := beq_ff b55
   obtain ⟨h, b55d⟩ := cfd b55 h
   conv=>whnf
   iterate 2 (refine Both.yes (ff_beq b55) ?_; (conv=>whnf))
   refine Both.no b55 ?_
   conv=>whnf
   cases h
   exact Join.mk (eA [])
  ·replace b55 := beq_ft b55
   obtain ⟨h, b55d⟩ := ctd b55 h
   conv=>whnf
   iterate 2 (refine Both.no (tf_beq b55) ?_; (conv=>whnf))
   refine Both.yes b55 ?_
   conv=>whnf
   cases h
   exact Join.mk (eA [])
 ·replace h := hk52
  conv=>whnf
  cases h
  conv=>whnf
  exact ⟨rfl, rfl⟩
theorem sp_slices_IndexFunc_Sint_int_n1 (s_ : List Int) (f_ : Int → Option Bool) (f1_ : FuncId) (k1_0 : IV) (hk1_0 : nz k1_0 = k1_0) (hf1 : ∀ x0 r, f_ x0 = some r → Sp Tryz.prog f1_ [.im (nI x0), .im k1_0] (.im (nB r))) (r : Int) (h : Ok (nL cI s_) → Ok (.fn f1_ [k1_0]) → slices_IndexFunc_Sint_int_n1 s_ f_ = some r) : Sp Tryz.prog 138 [.im (nL cI s_), .im (.fn f1_ [k1_0])] (.im (nI r)) := by
 refine sp_of rfl [] rfl rfl rfl (Nat.le_of_ble_eq_true rfl) rfl fun hk => ?_
 replace h := h hk.1 hk.2.1
 have z1 : lZ s_ := ok_len hk.1
 unfold slices_IndexFunc_Sint_int_n1 at h
 conv=>whnf
 refine Nf.mk (List.length s_) len_map ?_
 conv=>whnf
 obtain ⟨oc, hc, hk51⟩ := bind_some h
 clear h
 have h := hc
 clear hc
 refine Cut.mkS oc (Y := Unit) (fun (_ : Unit) => mkSt [] [] []) (fun (_ : Unit) => True) (by rintro ⟨⟩; exact (hT)) ?_ ?_
 ·conv=>whnf
  refine Loops.iter (fun (s : Nat) => slices_IndexFunc_Sint_int_n1.s2 s_ f_ s) (fun y71 => mkSt [(0, .im (nL cI s_)), (1, .im (.fn f1_ [k1_0])), (7, .im (nI (↑(List.length s_) : Int))), (8, .im (nI (↑y71 : Int)))] [] []) (fun y71 => lZ s_ ∧ True) h (eA []) (by rintro y71; exact ((Holds.avl 0 rfl).and (hT))) ?_
  clear h
  rintro k y71 o hp h ho76
  replace h : slices_IndexFunc_Sint_int_n1.s2 s_ f_ y71 = some o := h
  unfold slices_IndexFunc_Sint_int_n1.s2 at h
  obtain ⟨z81, _⟩ := hp
  conv=>whnf
  refine Both.mk ?_ ?_<;>intro b77
  ·obtain ⟨h, b77d⟩ := ctd b77 h
   conv=>whnf
   obtain ⟨e78, he78, h⟩ := idxn_some h
   refine ⟨_, ⟨(by omega), map_at he78, rfl⟩, ?_⟩
   conv=>whnf
   obtain ⟨c79, hc79, h⟩ := bind_some h
   refine ⟨_, Sp.args (hf1 e78 c79 hc79) (by rw [hk1_0]; try rfl), ?_⟩
   conv=>whnf
   refine Both.mk ?_ ?_<;>intro b80
   ·replace h := cond_t b80 h
    conv=>whnf
    cases h
    have ho76 : _ = _ := ho76
    cases ho76
    replace h : some _ = some _ := hk51
    cases h
    conv=>whnf
    exact ⟨rfl, rfl⟩
   ·replace h := cond_f b80 h
    conv=>whnf
    refine Side.mk (by show inR _; unfold inR; omega) ?_
    conv=>whnf
    cases h
    exact Nxt.mk _ ho76 (eA [])
  ·obtain ⟨h, b77d⟩ := cfd b77 h
   conv=>whnf
   cases h
   have ho76 : _ = _ := ho76
   cases ho76
   exact JoinS.mk' _ rfl (eA [])
 ·rintro ⟨⟩ rfl hp
  replace h := sum_inl hk51
  conv=>whnf
  cases h
  conv=>whnf
  exact ⟨rfl, rfl⟩
theorem sp_slices_ContainsFunc_Sint_int_n1 (s_ : List Int) (f_ : Int → Option Bool) (f1_ : FuncId) (k1_0 : IV) (hk1_0 : nz k1_0 = k1_0) (hf1 : ∀ x0 r, f_ x0 = some r → Sp Tryz.prog f1_ [.im (nI x0), .im k1_0] (.im (nB r))) (r : Bool) (h : Ok (nL cI s_) → Ok (.fn f1_ [k1_0]) → slices_ContainsFunc_Sint_int_n1 s_ f_ = some r) : Sp Tryz.prog 109 [.im (nL cI s_), .im (.fn f1_ [k1_0])] (.im (nB r)) := by
 refine sp_of rfl [] rfl rfl rfl (Nat.le_of_ble_eq_true rfl) rfl fun hk => ?_
 replace h := h hk.1 hk.2.1
 have z1 : lZ s_ := ok_len hk.1
 unfold slices_ContainsFunc_Sint_int_n1 at h
 conv=>whnf
 obtain ⟨c51, hc51, h⟩ := bind_some h
 refine ⟨_, (sp_slices_IndexFunc_Sint_int_n1 s_ f_ f1_ k1_0 hk1_0 hf1 c51 (fun _ _ => hc51)), ?_⟩
 conv=>whnf
 cases h
 conv=>whnf
 exact ⟨rfl, rfl⟩
theorem sp_word_Check (w_ : List Int) (inputs_ : Int) (r : Int) (h : Ok (nL cI w_) → Ok (nI inputs_) → word_Check w_ inputs_ = some r) : Sp Tryz.prog 56 [.im (nL cI w_), .im (nI inputs_)] (.im (nI r)) := by
 refine sp_of rfl [700003] rfl rfl rfl (Nat.le_of_ble_eq_true rfl) rfl fun hk => ?_
 replace h := h hk.1 hk.2.1
 have z1 : lZ w_ := ok_len hk.1
 unfold word_Check at h
 conv=>whnf
 obtain ⟨c51, hc51, h⟩ := bind_some h
 refine ⟨_, (sp_word_permitted inputs_ c51 (fun _ => hc51)), ?_⟩
 conv=>whnf
 refine Both.mk ?_ ?_<;>intro b52
 ·replace h := cond_t b52 h
  conv=>whnf
  cases h
  conv=>whnf
  exact ⟨rfl, rfl⟩
 ·replace h := cond_f b52 h
  conv=>whnf
  refine Nf.mk (List.length w_) len_map ?_
  conv=>whnf
  refine Both.mk ?_ ?_<;>intro b53
  ·obtain ⟨h, b53d⟩ := ctd b53 h
   conv=>whnf
   cases h
   conv=>whnf
   exact ⟨rfl, rfl⟩
  ·obtain ⟨h, b53d⟩ := cfd b53 h
   conv=>whnf
   obtain ⟨c54, hc54, h⟩ := bind_some h
   refine ⟨_, (sp_slices_ContainsFunc_Sint_int_n1 w_ (fun u0 => word_Check_1 u0 inputs_) 110 (.ref (cI inputs_)) rfl (fun u0 r h => (sp_word_Check_1 u0 inputs_ r (fun _ _ => h))) c54 (fun _ _ => hc54)), ?_⟩
   conv=>whnf
   refine Both.mk ?_ ?_<;>intro b55
   ·replace h := cond_t b55 h
    conv=>whnf
    cases h
    conv=>whnf
    exact ⟨rfl, rfl⟩
   ·replace h := cond_f b55 h
    conv=>whnf
    cases h
    conv=>whnf
    exact ⟨rfl, rfl⟩
theorem sp_cmp_isNaN_int (x_ : Int) (r : Bool) (h : Ok (nI x_) → cmp_isNaN_int x_ = some r) : Sp Tryz.prog 156 [.im (nI x_)] (.im (nB r)) := by
 refine sp_of rfl [] rfl rfl rfl (Nat.le_of_ble_eq_true rfl) rfl fun hk => ?_
 replace h := h hk.1
 unfold cmp_isNaN_int at h
 conv=>whnf
 cases h
 conv=>whnf
 exact ⟨rfl, rfl⟩
theorem sp_cmp_Compare_int (x_ : Int) (y_ : Int) (r : Int) (h : Ok (nI x_) → Ok (nI y_) → cmp_Compare_int x_ y_ = some r) : Sp Tryz.prog 140 [.im (nI x_), .im (nI y_)] (.im (nI r)) := by
 refine sp_of rfl [] rfl rfl rfl (Nat.le_of_ble_eq_true rfl) rfl fun hk => ?_
 replace h := h hk.1 hk.2.1
 unfold cmp_Compare_int at h
 conv=>whnf
 obtain ⟨c51, hc51, h⟩ := bind_some h
 refine ⟨_, (sp_cmp_isNaN_int x_ c51 (fun _ => hc51)), ?_⟩
 conv=>whnf
 obtain ⟨c52, hc52, h⟩ := bind_some h
 refine ⟨_, (sp_cmp_isNaN_int y_ c52 (fun _ => hc52)), ?_⟩
 conv=>whnf
 refine Both.mk ?_ ?_<;>intro b53
 ·replace h := cond_t b53 h
  conv=>whnf
  refine Both.mk ?_ ?_<;>intro b54
  ·replace h := cond_t b54 h
   conv=>whnf
   cases h
   conv=>whnf
   exact ⟨rfl, rfl⟩
  ·replace h := cond_f b54 h
   conv=>whnf
   cases h
   conv=>whnf
   exact ⟨rfl, rfl⟩
 ·replace h := cond_f b53 h
  conv=>whnf
  refine Both.mk ?_ ?_<;>intro b55
  ·replace h := cond_t b55 h
   conv=>whnf
   cases h
   conv=>whnf
   exact ⟨rfl, rfl⟩
  ·replace h := cond_f b55 h
   conv=>whnf
   refine Both.mk ?_ ?_<;>intro b56
   ·obtain ⟨h, b56d⟩ := ctd b56 h
    conv=>whnf
    cases h
    conv=>whnf
    exact ⟨rfl, rfl⟩
   ·obtain ⟨h, b56d⟩ := cfd b56 h
    conv=>whnf
    refine Both.mk ?_ ?_<;>intro b57
    ·obtain ⟨h, b57d⟩ := ctd b57 h
     conv=>whnf
     cases h
     conv=>whnf
     exact ⟨rfl, rfl⟩
    ·obtain ⟨h, b57d⟩ := cfd b57 h
     conv=>whnf
     cases h
     conv=>whnf
     exact ⟨rfl, rfl⟩
theorem sp_slices_Compare_Sint_int (s1_ : List Int) (s2_ : List Int) (r : Int) (h : Ok (nL cI s1_) → Ok (nL cI s2_) → slices_Compare_Sint_int s1_ s2_ = some r) : Sp Tryz.prog 141 [.im (nL cI s1_), .im (nL cI s2_)] (.im (nI r)) := by
 refine sp_of rfl [] rfl rfl rfl (Nat.le_of_ble_eq_true rfl) rfl fun hk => ?_
 replace h := h hk.1 hk.2.1
 have z1 : lZ s1_ := ok_len hk.1
 have z2 : lZ s2_ := ok_len hk.2.1
 unfold slices_Compare_Sint_int at h
 conv=>whnf
 refine Nf.mk (List.length s1_) len_map ?_
 conv=>whnf
 obtain ⟨oc, hc, hk51⟩ := bind_some h
 clear h
 have h := hc
 clear hc
 refine Cut.mkS oc (Y := Unit) (fun (_ : Unit) => mkSt [(0, .im (nL cI s1_)), (1, .im (nL cI s2_))] [] []) (fun (_ : Unit) => lZ s1_ ∧ lZ s2_ ∧ True) (by rintro ⟨⟩; exact ((Holds.avl 0 rfl).and ((Holds.avl 1 rfl).and (hT)))) ?_ ?_
 ·conv=>whnf
  refine Loops.iter (fun (s : Nat) => slices_Compare_Sint_int.s2 s1_ s2_ s) (fun y80 => mkSt [(0, .im (nL cI s1_)), (1, .im (nL cI s2_)), (9, .im (nL cI s1_)), (10, .im (nI (↑(List.length s1_) : Int))), (11, .im (nI (↑y80 : Int)))] [] []) (fun y80 => lZ s1_ ∧ lZ s2_ ∧ True) h (eA []) (by rintro y80; exact ((Holds.avl 0 rfl).and ((Holds.avl 1 rfl).and (hT)))) ?_
  clear h
  rintro k y80 o hp h ho87
  replace h : slices_Compare_Sint_int.s2 s1_ s2_ y80 = some o := h
  unfold slices_Compare_Sint_int.s2 at h
  obtain ⟨z94, z95, _⟩ := hp
  conv=>whnf
  refine Both.mk ?_ ?_<;>intro b88
  ·obtain ⟨h, b88d⟩ := ctd b88 h
   conv=>whnf
   obtain ⟨e89, he89, h⟩ := idxn_some h
   refine ⟨_, ⟨(by omega), map_at he89, rfl⟩, ?_⟩
   conv=>whnf
   refine Nf.mk (List.length s2_) len_map ?_
   conv=>whnf
   refine Both.mk ?_ ?_<;>intro b90
   ·obtain ⟨h, b90d⟩ := ctd b90 h
    conv=>whnf
    cases h
    have ho87 : _ = _ := ho87
    cases ho87
    replace h : some _ = some _ := hk51
    cases h
    conv=>whnf
    exact ⟨rfl, rfl⟩
   ·obtain ⟨h, b90d⟩ := cfd b90 h
    conv=>whnf
    obtain ⟨e91, he91, h⟩ := idxn_some h
    refine ⟨_, ⟨(by omega), map_at he91, rfl⟩, ?_⟩
    conv=>whnf
    obtain ⟨c92, hc92, h⟩ := bind_some h
    refine ⟨_, (sp_cmp_Compare_int e89 e91 c92 (fun _ _ => hc92)), ?_⟩
    conv=>whnf
    refine Both.mk ?_ ?_<;>intro b93
    ·obtain ⟨h, b93d⟩ := ctd b93 h
     conv=>whnf
     cases h
     have ho87 : _ = _ := ho87
     cases ho87
     replace h : some _ = some _ := hk51
     cases h
     conv=>whnf
     exact ⟨rfl, rfl⟩
    ·obtain ⟨h, b93d⟩ := cfd b93 h
     conv=>whnf
     refine Side.mk (by show inR _; unfold inR; omega) ?_
     conv=>whnf
     cases h
     exact Nxt.mk _ ho87 (eA [])
  ·obtain ⟨h, b88d⟩ := cfd b88 h
   conv=>whnf
   cases h
   have ho87 : _ = _ := ho87
   cases ho87
   exact JoinS.mk' _ rfl (eA [])
 ·rintro ⟨⟩ rfl hp
  replace h := sum_inl hk51
  obtain ⟨z96, z97, _⟩ := hp
  conv=>whnf
  refine Nf.mk (List.length s1_) len_map ?_
  conv=>whnf
  refine Nf.mk (List.length s2_) len_map ?_
  conv=>whnf
  refine Both.mk ?_ ?_<;>intro b98
  ·obtain ⟨h, b98d⟩ := ctd b98 h
   conv=>whnf
   cases h
   conv=>whnf
   exact ⟨rfl, rfl⟩
  ·obtain ⟨h, b98d⟩ := cfd b98 h
   conv=>whnf
   cases h
   conv=>whnf
   exact ⟨rfl, rfl⟩
theorem sp_cmp_Or_int (vals_ : List Int) (r : Int) (h : Ok (nL cI vals_) → cmp_Or_int vals_ = some r) : Sp Tryz.prog 139 [.im (nL cI vals_)] (.im (nI r)) := by
 refine sp_of rfl [] rfl rfl rfl (Nat.le_of_ble_eq_true rfl) rfl fun hk => ?_
 replace h := h hk.1
 have z1 : lZ vals_ := ok_len hk.1
 unfold cmp_Or_int at h
 conv=>whnf
 refine Nf.mk (List.length vals_) len_map ?_
 conv=>whnf
 obtain ⟨oc, hc, hk51⟩ := bind_some h
 clear h
 have h := hc
 clear hc
 refine Cut.mkS oc (Y := Unit) (fun (_ : Unit) => mkSt [(3, .im (nI 0))] [] []) (fun (_ : Unit) => True) (by rintro ⟨⟩; exact (hT)) ?_ ?_
 ·conv=>whnf
  refine Loops.iter (fun (s : Nat) => cmp_Or_int.s2 vals_ s) (fun y67 => mkSt [(3, .im (nI 0)), (6, .im (nL cI vals_)), (7, .im (nI (↑(List.length vals_) : Int))), (8, .im (nI (↑y67 : Int)))] [] []) (fun y67 => lZ vals_ ∧ True) h (eA []) (by rintro y67; exact ((Holds.avl 6 rfl).and (hT))) ?_
  clear h
  rintro k y67 o hp h ho71
  replace h : cmp_Or_int.s2 vals_ y67 = some o := h
  unfold cmp_Or_int.s2 at h
  obtain ⟨z75, _⟩ := hp
  conv=>whnf
  refine Both.mk ?_ ?_<;>intro b72
  ·obtain ⟨h, b72d⟩ := ctd b72 h
   conv=>whnf
   obtain ⟨e73, he73, h⟩ := idxn_some h
   refine ⟨_, ⟨(by omega), map_at he73, rfl⟩, ?_⟩
   conv=>whnf
   refine Both.mk ?_ ?_<;>intro b74
   ·obtain ⟨h, b74d⟩ := ctd b74 h
    conv=>whnf
    cases h
    have ho71 : _ = _ := ho71
    cases ho71
    replace h : some _ = some _ := hk51
    cases h
    conv=>whnf
    exact ⟨rfl, rfl⟩
   ·obtain ⟨h, b74d⟩ := cfd b74 h
    conv=>whnf
    refine Side.mk (by show inR _; unfold inR; omega) ?_
    conv=>whnf
    cases h
    exact Nxt.mk _ ho71 (eA [])
  ·obtain ⟨h, b72d⟩ := cfd b72 h
   conv=>whnf
   cases h
   have ho71 : _ = _ := ho71
   cases ho71
   exact JoinS.mk' _ rfl (eA [])
 ·rintro ⟨⟩ rfl hp
  replace h := sum_inl hk51
  conv=>whnf
  cases h
  conv=>whnf
  exact ⟨rfl, rfl⟩
theorem sp_word_Compare (a_ : List Int) (b_ : List Int) (r : Int) (h : Ok (nL cI a_) → Ok (nL cI b_) → word_Compare a_ b_ = some r) : Sp Tryz.prog 111 [.im (nL cI a_), .im (nL cI b_)] (.im (nI r)) := by
 refine sp_of rfl [] rfl rfl rfl (Nat.le_of_ble_eq_true rfl) rfl fun hk => ?_
 replace h := h hk.1 hk.2.1
 have z1 : lZ a_ := ok_len hk.1
 have z2 : lZ b_ := ok_len hk.2.1
 unfold word_Compare at h
 conv=>whnf
 refine Nf.mk (List.length a_) len_map ?_
 conv=>whnf
 refine Nf.mk (List.length b_) len_map ?_
 conv=>whnf
 obtain ⟨c51, hc51, h⟩ := bind_some h
 refine ⟨_, (sp_cmp_Compare_int (↑(List.length a_) : Int) (↑(List.length b_) : Int) c51 (fun _ _ => hc51)), ?_⟩
 conv=>whnf
 obtain ⟨c52, hc52, h⟩ := bind_some h
 refine ⟨_, (sp_slices_Compare_Sint_int a_ b_ c52 (fun _ _ => hc52)), ?_⟩
 conv=>whnf
 obtain ⟨c53, hc53, h⟩ := bind_some h
 refine ⟨_, (sp_cmp_Or_int [c51, c52] c53 (fun _ => hc53)), ?_⟩
 conv=>whnf
 cases h
 conv=>whnf
 exact ⟨rfl, rfl⟩
theorem sp_table_ascends (l_ : List (List Int)) (i_ : Int) (r : Bool) (h : Ok (nL (cL cI) l_) → Ok (nI i_) → table_ascends l_ i_ = some r) : Sp Tryz.prog 57 [.im (nL (cL cI) l_), .im (nI i_)] (.im (nB r)) := by
 refine sp_of rfl [] rfl rfl rfl (Nat.le_of_ble_eq_true rfl) rfl fun hk => ?_
 replace h := h hk.1 hk.2.1
 have z1 : lZ l_ := ok_len hk.1
 unfold table_ascends at h
 conv=>whnf
 obtain ⟨y58, hc, hk52⟩ := bind_some h
 clear h
 have h := hc
 clear hc
 refine Cut.mk (mkSt [(4, .im (nB y58))] [] []) (True) (hT) ?_ (fun hp => ?_)
 ·conv=>whnf
  refine Both.mk ?_ ?_<;>intro b59
  ·replace b59 := beq_ff b59
   obtain ⟨h, b59d⟩ := cfd b59 h
   conv=>whnf
   iterate 2 (refine Both.yes (ff_beq b59) ?_; (conv=>whnf))
   obtain ⟨c60, h⟩ := chk_some h
   refine Side.mk c60 ?_
   conv=>whnf
   refine Both.yes (ff_beq b59) ?_
   conv=>whnf
   obtain ⟨e61, he61z, he61, h⟩ := idx_some h
   refine ⟨_, ⟨he61z, map_at he61, rfl⟩, ?_⟩
   conv=>whnf
   iterate 4 (refine Both.yes (ff_beq b59) ?_; (conv=>whnf))
   obtain ⟨e62, he62z, he62, h⟩ := idx_some h
   refine ⟨_, ⟨he62z, map_at he62, rfl⟩, ?_⟩
   conv=>whnf
   iterate 2 (refine Both.yes (ff_beq b59) ?_; (conv=>whnf))
   obtain ⟨c63, hc63, h⟩ := bind_some h
   refine ⟨_, (sp_word_Compare e61 e62 c63 (fun _ _ => hc63)), ?_⟩
   conv=>whnf
   refine Both.yes (ff_beq b59) ?_
   conv=>whnf
   refine Both.no b59 ?_
   conv=>whnf
   cases h
   exact Join.mk (eA [])
  ·replace b59 := beq_ft b59
   obtain ⟨h, b59d⟩ := ctd b59 h
   conv=>whnf
   iterate 10 (refine Both.no (tf_beq b59) ?_; (conv=>whnf))
   refine Both.yes b59 ?_
   conv=>whnf
   cases h
   exact Join.mk (eA [])
 ·replace h := hk52
  conv=>whnf
  cases h
  conv=>whnf
  exact ⟨rfl, rfl⟩
theorem sp_table_longest (l_ : List (List Int)) (r : Int) (h : Ok (nL (cL cI) l_) → table_longest l_ = some r) : Sp Tryz.prog 58 [.im (nL (cL cI) l_)] (.im (nI r)) := by
 refine sp_of rfl [] rfl rfl rfl (Nat.le_of_ble_eq_true rfl) rfl fun hk => ?_
 replace h := h hk.1
 have z1 : lZ l_ := ok_len hk.1
 unfold table_longest at h
 conv=>whnf
 refine Nf.mk (List.length l_) len_map ?_
 conv=>whnf
 obtain ⟨n62, hc, hk51⟩ := bind_some h
 clear h
 have h := hc
 clear hc
 refine Cut.mk (mkSt [(3, .im (nI n62))] [] []) (True) (hT) ?_ (fun hp => ?_)
 ·conv=>whnf
  refine Loops.iter (fun (s : Int × Nat) => table_longest.s2 l_ s.1 s.2) (fun (n65, y66) => mkSt [(3, .im (nI n65)), (6, .im (nL (cL cI) l_)), (7, .im (nI (↑(List.length l_) : Int))), (8, .im (nI (↑y66 : Int)))] [] []) (fun (n65, y66) => lZ l_ ∧ True) h (eA []) (by rintro ⟨n65, y66⟩; exact ((Holds.avl 6 rfl).and (hT))) ?_
  clear h
  rintro k ⟨n65, y66⟩ o hp h ho69
  replace h : table_longest.s2 l_ n65 y66 = some o := h
  unfold table_longest.s2 at h
  obtain ⟨z72, _⟩ := hp
  conv=>whnf
  refine Both.mk ?_ ?_<;>intro b70
  ·obtain ⟨h, b70d⟩ := ctd b70 h
   conv=>whnf
   obtain ⟨e71, he71, h⟩ := idxn_some h
   refine ⟨_, ⟨(by omega), map_at he71, rfl⟩, ?_⟩
   conv=>whnf
   refine Nf.mk (List.length e71) len_map ?_
   conv=>whnf
   refine Side.mk (by show inR _; unfold inR; omega) ?_
   conv=>whnf
   cases h
   exact Nxt.mk _ ho69 (eA [])
  ·obtain ⟨h, b70d⟩ := cfd b70 h
   conv=>whnf
   cases h
   have ho69 : _ = _ := ho69
   cases ho69
   exact Join.mk (eA [])
 ·replace h := hk51
  conv=>whnf
  cases h
  conv=>whnf
  exact ⟨rfl, rfl⟩
theorem sp_table_Valid (t_ : T_api_Table) (r : Int) (h : Ok (.agg (c_api_Table t_)) → table_Valid t_ = some r) : Sp Tryz.prog 17 [.im (.agg (c_api_Table t_))] (.im (nI r)) := by
 refine sp_of rfl [700001] rfl rfl rfl (Nat.le_of_ble_eq_true rfl) rfl fun hk => ?_
 replace h := h hk.1
 have z1 : lZ t_.Prefixes := ok_len (Ok.agg_at hk.1 1 rfl)
 have z2 : lZ t_.Suffixes := ok_len (Ok.agg_at hk.1 2 rfl)
 unfold table_Valid at h
 conv=>whnf
 refine Nf.mk (List.length t_.Prefixes) len_map ?_
 conv=>whnf
 refine Nf.mk (List.length t_.Suffixes) len_map ?_
 conv=>whnf
 obtain ⟨y54, hc, hk52⟩ := bind_some h
 clear h
 have h := hc
 clear hc
 refine Cut.mk (mkSt [(1, .im (.ref (c_api_Table t_))), (3, .im (nI (↑(List.length t_.Prefixes) : Int))), (4, .im (nI (↑(List.length t_.Suffixes) : Int))), (20, .im (nB y54))] [] []) (True) (hT) ?_ (fun hp => ?_)
 ·conv=>whnf
  refine Both.mk ?_ ?_<;>intro b55
  ·replace b55 := beq_ff b55
   obtain ⟨h, b55d⟩ := cfd b55 h
   conv=>whnf
   iterate 2 (refine Both.yes (ff_beq b55) ?_; (conv=>whnf))
   refine Both.no b55 ?_
   conv=>whnf
   cases h
   exact Join.mk (eA [])
  ·replace b55 := beq_ft b55
   obtain ⟨h, b55d⟩ := ctd b55 h
   conv=>whnf
   iterate 2 (refine Both.no (tf_beq b55) ?_; (conv=>whnf))
   refine Both.yes b55 ?_
   conv=>whnf
   cases h
   exact Join.mk (eA [])
 ·replace h := hk52
  conv=>whnf
  refine Both.mk ?_ ?_<;>intro b56
  ·replace h := cond_t b56 h
   conv=>whnf
   cases h
   conv=>whnf
   exact ⟨rfl, rfl⟩
  ·replace h := cond_f b56 h
   conv=>whnf
   refine Both.mk ?_ ?_<;>intro b57
   ·obtain ⟨h, b57d⟩ := ctd b57 h
    conv=>whnf
    cases h
    conv=>whnf
    exact ⟨rfl, rfl⟩
   ·obtain ⟨h, b57d⟩ := cfd b57 h
    conv=>whnf
    obtain ⟨y65, hc, hk59⟩ := bind_some h
    clear h
    have h := hc
    clear hc
    refine Cut.mk (mkSt [(1, .im (.ref (c_api_Table t_))), (4, .im (nI (↑(List.length t_.Suffixes) : Int))), (32, .im (nB y65))] [] []) (True) (hT) ?_ (fun hp => ?_)
    ·conv=>whnf
     refine Both.mk ?_ ?_<;>intro b66
     ·replace b66 := beq_ff b66
      obtain ⟨h, b66d⟩ := cfd b66 h
      conv=>whnf
      refine Both.yes (ff_beq b66) ?_
      conv=>whnf
      refine Both.no b66 ?_
      conv=>whnf
      refine Both.mk ?_ ?_<;>intro b67
      ·replace b67 := beq_ff b67
       obtain ⟨h, b67d⟩ := cfd b67 h
       conv=>whnf
       iterate 3 (refine Both.yes (ff_beq b67) ?_; (conv=>whnf))
       obtain ⟨c68, h⟩ := chk_some h
       refine Side.mk c68 ?_
       conv=>whnf
       refine Both.yes (ff_beq b67) ?_
       conv=>whnf
       obtain ⟨c69, h⟩ := chk_some h
       refine Side.mk c69 ?_
       conv=>whnf
       iterate 2 (refine Both.yes (ff_beq b67) ?_; (conv=>whnf))
       obtain ⟨c70, h⟩ := chk_some h
       refine Side.mk c70 ?_
       conv=>whnf
       refine Both.yes (ff_beq b67) ?_
       conv=>whnf
       refine Both.no b67 ?_
       conv=>whnf
       cases h
       exact Join.mk (eA [])
      ·replace b67 := beq_ft b67
       obtain ⟨h, b67d⟩ := ctd b67 h
       conv=>whnf
       iterate 7 (refine Both.no (tf_beq b67) ?_; (conv=>whnf))
       refine Both.yes b67 ?_
       conv=>whnf
       cases h
       exact Join.mk (eA [])
     ·replace b66 := beq_ft b66
      obtain ⟨h, b66d⟩ := ctd b66 h
      conv=>whnf
      refine Both.no (tf_beq b66) ?_
      conv=>whnf
      refine Both.yes b66 ?_
      conv=>whnf
      iterate 8 (refine Both.no rfl ?_; (conv=>whnf))
      refine Both.yes rfl ?_
      conv=>whnf
      cases h
      exact Join.mk (eA [])
    ·replace h := hk59
     conv=>whnf
     refine Both.mk ?_ ?_<;>intro b71
     ·replace h := cond_t b71 h
      conv=>whnf
      cases h
      conv=>whnf
      exact ⟨rfl, rfl⟩
     ·replace h := cond_f b71 h
      conv=>whnf
      refine Nf.mk (List.length t_.Prefixes) len_map ?_
      conv=>whnf
      obtain ⟨y86, hc, hk72⟩ := bind_some h
      clear h
      have h := hc
      clear hc
      refine Cut.mk (mkSt [(1, .im (.ref (c_api_Table t_))), (4, .im (nI (↑(List.length t_.Suffixes) : Int))), (5, .osl 152 1)] [(152, .map (mapV wS wB y86))] []) (True) (hT) ?_ (fun hp => ?_)
      ·conv=>whnf
       refine Loops.iter (fun (s : (List (ByteArray × Bool)) × Nat) => table_Valid.s2 t_ s.1 s.2) (fun (y90, y91) => mkSt [(1, .im (.ref (c_api_Table t_))), (4, .im (nI (↑(List.length t_.Suffixes) : Int))), (5, .osl 152 1), (51, .im (nL (cL cI) t_.Prefixes)), (52, .im (nI (↑(List.length t_.Prefixes) : Int))), (53, .im (nI (↑y91 : Int)))] [(152, .map (mapV wS wB y90))] []) (fun (y90, y91) => lZ t_.Prefixes ∧ True) h (eA [(152, some 49)]) (by rintro ⟨y90, y91⟩; exact ((Holds.avl 51 rfl).and (hT))) ?_
       clear h
       rintro k ⟨y90, y91⟩ o hp h ho95
       replace h : table_Valid.s2 t_ y90 y91 = some o := h
       unfold table_Valid.s2 at h
       obtain ⟨z99, _⟩ := hp
       conv=>whnf
       refine Both.mk ?_ ?_<;>intro b96
       ·obtain ⟨h, b96d⟩ := ctd b96 h
        conv=>whnf
        obtain ⟨e97, he97, h⟩ := idxn_some h
        refine ⟨_, ⟨(by omega), map_at he97, rfl⟩, ?_⟩
        conv=>whnf
        obtain ⟨c98, hc98, h⟩ := bind_some h
        refine ⟨_, (sp_table_key e97 c98 (hc98)), ?_⟩
        conv=>whnf
        refine Side.mk rfl ?_
        conv=>whnf
        refine ⟨_, set_str _ true wB _, ?_⟩
        conv=>whnf
        refine Side.mk (by show inR _; unfold inR; omega) ?_
        conv=>whnf
        cases h
        exact Nxt.mk _ ho95 (eA [(152, some 152)])
       ·obtain ⟨h, b96d⟩ := cfd b96 h
        conv=>whnf
        cases h
        have ho95 : _ = _ := ho95
        cases ho95
        exact Join.mk (eA [(152, some 152)])
      ·replace h := hk72
       conv=>whnf
       refine Nf.mk (List.length t_.Prefixes) len_map ?_
       conv=>whnf
       obtain ⟨oc, hc, hk100⟩ := bind_some h
       clear h
       have h := hc
       clear hc
       refine Cut.mkS oc (Y := Unit) (fun (_ : Unit) => mkSt [(1, .im (.ref (c_api_Table t_))), (4, .im (nI (↑(List.length t_.Suffixes) : Int)))] [] []) (fun (_ : Unit) => True) (by rintro ⟨⟩; exact (hT)) ?_ ?_
       ·conv=>whnf
        refine Loops.iter (fun (s : Nat) => table_Valid.s4 t_ y86 s) (fun y220 => mkSt [(1, .im (.ref (c_api_Table t_))), (4, .im (nI (↑(List.length t_.Suffixes) : Int))), (5, .osl 152 1), (62, .im (nL (cL cI) t_.Prefixes)), (63, .im (nI (↑(List.length t_.Prefixes) : Int))), (64, .im (nI (↑y220 : Int)))] [(152, .map (mapV wS wB y86))] []) (fun y220 => lZ t_.Prefixes ∧ True) h (eA [(152, some 152)]) (by rintro y220; exact ((Holds.avl 62 rfl).and (hT))) ?_
        clear h
        rintro k y220 o hp h ho250
        replace h : table_Valid.s4 t_ y86 y220 = some o := h
        unfold table_Valid.s4 at h
        obtain ⟨z280, _⟩ := hp
        conv=>whnf
        refine Both.mk ?_ ?_<;>intro b251
        ·obtain ⟨h, b251d⟩ := ctd b251 h
         conv=>whnf
         obtain ⟨e252, he252, h⟩ := idxn_some h
         refine ⟨_, ⟨(by omega), map_at he252, rfl⟩, ?_⟩
         conv=>whnf
         obtain ⟨c253, hc253, h⟩ := bind_some h
         refine ⟨_, (sp_word_Check e252 t_.Inputs c253 (fun _ _ => hc253)), ?_⟩
         conv=>whnf
         refine Both.mk ?_ ?_<;>intro b254
         ·obtain ⟨h, b254d⟩ := ctd b254 h
          conv=>whnf
          cases h
          have ho250 : _ = _ := ho250
          cases ho250
          replace h : some _ = some _ := hk100
          cases h
          conv=>whnf
          exact ⟨rfl, rfl⟩
         ·obtain ⟨h, b254d⟩ := cfd b254 h
          conv=>whnf
          obtain ⟨y261, hc, hk256⟩ := bind_some h
          clear h
          have h := hc
          clear hc
          refine Cut.mk (mkSt [(1, .im (.ref (c_api_Table t_))), (4, .im (nI (↑(List.length t_.Suffixes) : Int))), (5, .osl 152 1), (9, .im (nL cI e252)), (62, .im (nL (cL cI) t_.Prefixes)), (63, .im (nI (↑(List.length t_.Prefixes) : Int))), (64, .im (nI (↑y220 : Int))), (89, .im (nB y261))] [(152, .map (mapV wS wB y86))] []) (lZ e252 ∧ lZ t_.Prefixes ∧ True) ((Holds.avl 9 rfl).and ((Holds.avl 62 rfl).and (hT))) ?_ (fun hp => ?_)
          ·conv=>whnf
           refine Both.mk ?_ ?_<;>intro b262
           ·replace b262 := beq_tt b262
            obtain ⟨h, b262d⟩ := ctd b262 h
            conv=>whnf
            refine Both.yes (tt_beq b262) ?_
            conv=>whnf
            refine Nf.mk (List.length e252) len_map ?_
            conv=>whnf
            refine Both.yes (tt_beq b262) ?_
            conv=>whnf
            refine Both.yes b262 ?_
            conv=>whnf
            refine Both.mk ?_ ?_<;>intro b263
            ·replace b263 := beq_ff b263
             obtain ⟨h, b263d⟩ := cfd b263 h
             conv=>whnf
             iterate 3 (refine Both.yes (ff_beq b263) ?_; (conv=>whnf))
             obtain ⟨c264, hc264, h⟩ := bind_some h
             refine ⟨_, (sp_table_ascends t_.Prefixes (↑y220 : Int) c264 (fun _ _ => hc264)), ?_⟩
             conv=>whnf
             refine Both.yes (ff_beq b263) ?_
             conv=>whnf
             refine Both.no b263 ?_
             conv=>whnf
             cases h
             exact Join.mk (eA [(152, some 152)])
            ·replace b263 := beq_ft b263
             obtain ⟨h, b263d⟩ := ctd b263 h
             conv=>whnf
             iterate 4 (refine Both.no (tf_beq b263) ?_; (conv=>whnf))
             refine Both.yes b263 ?_
             conv=>whnf
             cases h
             exact Join.mk (eA [(152, some 152)])
           ·replace b262 := beq_tf b262
            obtain ⟨h, b262d⟩ := cfd b262 h
            conv=>whnf
            iterate 2 (refine Both.no (ft_beq b262) ?_; (conv=>whnf))
            refine Both.no b262 ?_
            conv=>whnf
            iterate 4 (refine Both.yes rfl ?_; (conv=>whnf))
            obtain ⟨c265, hc265, h⟩ := bind_some h
            refine ⟨_, (sp_table_ascends t_.Prefixes (↑y220 : Int) c265 (fun _ _ => hc265)), ?_⟩
            conv=>whnf
            refine Both.yes rfl ?_
            conv=>whnf
            refine Both.no rfl ?_
            conv=>whnf
            cases h
            exact Join.mk (eA [(152, some 152)])
          ·replace h := hk256
           obtain ⟨z266, z267, _⟩ := hp
           conv=>whnf
           refine Both.mk ?_ ?_<;>intro b268
           ·replace h := cond_t b268 h
            conv=>whnf
            cases h
            have ho250 : _ = _ := ho250
            cases ho250
            replace h : some _ = some _ := hk100
            cases h
            conv=>whnf
            exact ⟨rfl, rfl⟩
           ·replace h := cond_f b268 h
            conv=>whnf
            obtain ⟨y274, hc, hk270⟩ := bind_some h
            clear h
            have h := hc
            clear hc
            refine Cut.mk (mkSt [(1, .im (.ref (c_api_Table t_))), (4, .im (nI (↑(List.length t_.Suffixes) : Int))), (5, .osl 152 1), (62, .im (nL (cL cI) t_.Prefixes)), (63, .im (nI (↑(List.length t_.Prefixes) : Int))), (64, .im (nI (↑y220 : Int))), (103, .im (nB y274))] [(152, .map (mapV wS wB y86))] []) (lZ t_.Prefixes ∧ True) ((Holds.avl 62 rfl).and (hT)) ?_ (fun hp => ?_)
            ·conv=>whnf
             refine Nf.mk (List.length e252) len_map ?_
             conv=>whnf
             refine Both.mk ?_ ?_<;>intro b275
             ·replace b275 := beq_tt b275
              obtain ⟨h, b275d⟩ := ctd b275 h
              conv=>whnf
              iterate 3 (refine Both.yes (tt_beq b275) ?_; (conv=>whnf))
              refine Nf.mk (List.length e252) len_map ?_
              conv=>whnf
              refine Both.yes (tt_beq b275) ?_
              conv=>whnf
              refine Side.mk (by show inR _; unfold inR; omega) ?_
              conv=>whnf
              refine Both.yes (tt_beq b275) ?_
              conv=>whnf
              obtain ⟨c276, h⟩ := chk_some h
              refine Side.mk (show (0 : Int) ≤ (0 : Int) ∧ (0 : Int) ≤ ((↑(List.length e252) : Int) - 1) ∧ ((↑(List.length e252) : Int) - 1) ≤ (↑(List.length (List.map cI e252)) : Int) ∧ (∀ e ∈ List.map cI e252, List.length e = 1) from ⟨by omega, by first | omega | (simp only [List.length_map]; omega), by first | omega | (simp only [List.length_map]; omega), map_len fun _ => rfl⟩) ?_
              conv=>whnf
              refine Nf.mk (List.map cI (List.take (Int.toNat ((↑(List.length e252) : Int) - 1)) e252)) take_map ?_
              conv=>whnf
              refine Both.yes (tt_beq b275) ?_
              conv=>whnf
              obtain ⟨c277, hc277, h⟩ := bind_some h
              refine ⟨_, (sp_table_key (List.take (Int.toNat ((↑(List.length e252) : Int) - 1)) e252) c277 (hc277)), ?_⟩
              conv=>whnf
              refine Both.yes (tt_beq b275) ?_
              conv=>whnf
              refine Side.mk rfl ?_
              conv=>whnf
              refine ⟨_, find_str _ wB _, ?_⟩
              conv=>whnf
              refine Nf.mk (wB ((mget c277 y86).getD false)) (getD_map rfl _) ?_
              conv=>whnf
              refine Both.yes (tt_beq b275) ?_
              conv=>whnf
              refine Both.yes b275 ?_
              conv=>whnf
              cases h
              exact Join.mk (eA [(152, some 152)])
             ·replace b275 := beq_tf b275
              obtain ⟨h, b275d⟩ := cfd b275 h
              conv=>whnf
              iterate 8 (refine Both.no (ft_beq b275) ?_; (conv=>whnf))
              refine Both.no b275 ?_
              conv=>whnf
              cases h
              exact Join.mk (eA [(152, some 152)])
            ·replace h := hk270
             obtain ⟨z278, _⟩ := hp
             conv=>whnf
             refine Both.mk ?_ ?_<;>intro b279
             ·replace h := cond_t b279 h
              conv=>whnf
              cases h
              have ho250 : _ = _ := ho250
              cases ho250
              replace h : some _ = some _ := hk100
              cases h
              conv=>whnf
              exact ⟨rfl, rfl⟩
             ·replace h := cond_f b279 h
              conv=>whnf
              refine Side.mk (by show inR _; unfold inR; omega) ?_
              conv=>whnf
              cases h
              exact Nxt.mk _ ho250 (eA [(152, some 152)])
        ·obtain ⟨h, b251d⟩ := cfd b251 h
         conv=>whnf
         cases h
         have ho250 : _ = _ := ho250
         cases ho250
         exact JoinS.mk' _ rfl (eA [])
       ·rintro ⟨⟩ rfl hp
        replace h := sum_inl hk100
        conv=>whnf
        refine Nf.mk (List.length t_.Suffixes) len_map ?_
        conv=>whnf
        obtain ⟨oc, hc, hk281⟩ := bind_some h
        clear h
        have h := hc
        clear hc
        refine Cut.mkS oc (Y := Unit) (fun (_ : Unit) => mkSt [(1, .im (.ref (c_api_Table t_))), (4, .im (nI (↑(List.length t_.Suffixes) : Int)))] [] []) (fun (_ : Unit) => True) (by rintro ⟨⟩; exact (hT)) ?_ ?_
        ·conv=>whnf
         refine Loops.iter (fun (s : Nat) => table_Valid.s6 t_ s) (fun y313 => mkSt [(1, .im (.ref (c_api_Table t_))), (4, .im (nI (↑(List.length t_.Suffixes) : Int))), (106, .im (nL (cL cI) t_.Suffixes)), (107, .im (nI (↑(List.length t_.Suffixes) : Int))), (108, .im (nI (↑y313 : Int)))] [] []) (fun y313 => lZ t_.Suffixes ∧ True) h (eA []) (by rintro y313; exact ((Holds.avl 106 rfl).and (hT))) ?_
         clear h
         rintro k y313 o hp h ho321
         replace h : table_Valid.s6 t_ y313 = some o := h
         unfold table_Valid.s6 at h
         obtain ⟨z329, _⟩ := hp
         conv=>whnf
         refine Both.mk ?_ ?_<;>intro b322
         ·obtain ⟨h, b322d⟩ := ctd b322 h
          conv=>whnf
          obtain ⟨e323, he323, h⟩ := idxn_some h
          refine ⟨_, ⟨(by omega), map_at he323, rfl⟩, ?_⟩
          conv=>whnf
          obtain ⟨c324, hc324, h⟩ := bind_some h
          refine ⟨_, (sp_word_Check e323 t_.Inputs c324 (fun _ _ => hc324)), ?_⟩
          conv=>whnf
          refine Both.mk ?_ ?_<;>intro b325
          ·obtain ⟨h, b325d⟩ := ctd b325 h
           conv=>whnf
           cases h
           have ho321 : _ = _ := ho321
           cases ho321
           replace h : some _ = some _ := hk281
           cases h
           conv=>whnf
           exact ⟨rfl, rfl⟩
          ·obtain ⟨h, b325d⟩ := cfd b325 h
           conv=>whnf
           refine Nf.mk (List.length e323) len_map ?_
           conv=>whnf
           refine Both.mk ?_ ?_<;>intro b326
           ·obtain ⟨h, b326d⟩ := ctd b326 h
            conv=>whnf
            cases h
            have ho321 : _ = _ := ho321
            cases ho321
            replace h : some _ = some _ := hk281
            cases h
            conv=>whnf
            exact ⟨rfl, rfl⟩
           ·obtain ⟨h, b326d⟩ := cfd b326 h
            conv=>whnf
            obtain ⟨c327, hc327, h⟩ := bind_some h
            refine ⟨_, (sp_table_ascends t_.Suffixes (↑y313 : Int) c327 (fun _ _ => hc327)), ?_⟩
            conv=>whnf
            refine Both.mk ?_ ?_<;>intro b328
            ·replace h := cond_t b328 h
             conv=>whnf
             cases h
             have ho321 : _ = _ := ho321
             cases ho321
             replace h : some _ = some _ := hk281
             cases h
             conv=>whnf
             exact ⟨rfl, rfl⟩
            ·replace h := cond_f b328 h
             conv=>whnf
             refine Side.mk (by show inR _; unfold inR; omega) ?_
             conv=>whnf
             cases h
             exact Nxt.mk _ ho321 (eA [])
         ·obtain ⟨h, b322d⟩ := cfd b322 h
          conv=>whnf
          cases h
          have ho321 : _ = _ := ho321
          cases ho321
          exact JoinS.mk' _ rfl (eA [])
        ·rintro ⟨⟩ rfl hp
         replace h := sum_inl hk281
         conv=>whnf
         obtain ⟨y335, hc, hk331⟩ := bind_some h
         clear h
         have h := hc
         clear hc
         refine Cut.mk (mkSt [(1, .im (.ref (c_api_Table t_))), (143, .im (nB y335))] [] []) (True) (hT) ?_ (fun hp => ?_)
         ·conv=>whnf
          refine Both.mk ?_ ?_<;>intro b336
          ·replace b336 := beq_ff b336
           obtain ⟨h, b336d⟩ := cfd b336 h
           conv=>whnf
           iterate 4 (refine Both.yes (ff_beq b336) ?_; (conv=>whnf))
           obtain ⟨c337, h⟩ := chk_some h
           refine Side.mk c337 ?_
           conv=>whnf
           refine Both.yes (ff_beq b336) ?_
           conv=>whnf
           obtain ⟨e338, he338z, he338, h⟩ := idx_some h
           refine ⟨_, ⟨he338z, map_at he338, rfl⟩, ?_⟩
           conv=>whnf
           iterate 2 (refine Both.yes (ff_beq b336) ?_; (conv=>whnf))
           refine Nf.mk (List.length e338) len_map ?_
           conv=>whnf
           refine Both.yes (ff_beq b336) ?_
           conv=>whnf
           refine Both.no b336 ?_
           conv=>whnf
           cases h
           exact Join.mk (eA [])
          ·replace b336 := beq_ft b336
           obtain ⟨h, b336d⟩ := ctd b336 h
           conv=>whnf
           iterate 8 (refine Both.no (tf_beq b336) ?_; (conv=>whnf))
           refine Both.yes b336 ?_
           conv=>whnf
           cases h
           exact Join.mk (eA [])
         ·replace h := hk331
          conv=>whnf
          refine Both.mk ?_ ?_<;>intro b339
          ·replace h := cond_t b339 h
           conv=>whnf
           cases h
           conv=>whnf
           exact ⟨rfl, rfl⟩
          ·replace h := cond_f b339 h
           conv=>whnf
           obtain ⟨c340, hc340, h⟩ := bind_some h
           refine ⟨_, (sp_table_longest t_.Prefixes c340 (fun _ => hc340)), ?_⟩
           conv=>whnf
           obtain ⟨c341, hc341, h⟩ := bind_some h
           refine ⟨_, (sp_table_longest t_.Suffixes c341 (fun _ => hc341)), ?_⟩
           conv=>whnf
           obtain ⟨c342, h⟩ := chk_some h
           refine Side.mk c342 ?_
           conv=>whnf
           refine Both.mk ?_ ?_<;>intro b343
           ·obtain ⟨h, b343d⟩ := ctd b343 h
            conv=>whnf
            cases h
            conv=>whnf
            exact ⟨rfl, rfl⟩
           ·obtain ⟨h, b343d⟩ := cfd b343 h
            conv=>whnf
            cases h
            conv=>whnf
            exact ⟨rfl, rfl⟩
theorem sp_R23_longest (l_ : List (List Int)) (r : Int) (h : Ok (nL (cL cI) l_) → R23_longest l_ = some r) : Sp Tryz.prog 61 [.im (nL (cL cI) l_)] (.im (nI r)) := by
 refine sp_of rfl [] rfl rfl rfl (Nat.le_of_ble_eq_true rfl) rfl fun hk => ?_
 replace h := h hk.1
 have z1 : lZ l_ := ok_len hk.1
 unfold R23_longest at h
 conv=>whnf
 obtain ⟨n62, hc, hk51⟩ := bind_some h
 clear h
 have h := hc
 clear hc
 refine Cut.mk (mkSt [(3, .im (nI n62))] [] []) (True) (hT) ?_ (fun hp => ?_)
 ·conv=>whnf
  refine Loops.iter (fun (s : Int × Nat) => R23_longest.s2 l_ s.1 s.2) (fun (n65, i66) => mkSt [(0, .im (nL (cL cI) l_)), (3, .im (nI n65)), (4, .im (nI (↑i66 : Int)))] [] []) (fun (n65, i66) => lZ l_ ∧ True) h (eA []) (by rintro ⟨n65, i66⟩; exact ((Holds.avl 0 rfl).and (hT))) ?_
  clear h
  rintro k ⟨n65, i66⟩ o hp h ho69
  replace h : R23_longest.s2 l_ n65 i66 = some o := h
  unfold R23_longest.s2 at h
  obtain ⟨z72, _⟩ := hp
  conv=>whnf
  refine Nf.mk (List.length l_) len_map ?_
  conv=>whnf
  refine Both.mk ?_ ?_<;>intro b70
  ·obtain ⟨h, b70d⟩ := ctd b70 h
   conv=>whnf
   obtain ⟨e71, he71, h⟩ := idxn_some h
   refine ⟨_, ⟨(by omega), map_at he71, rfl⟩, ?_⟩
   conv=>whnf
   refine Nf.mk (List.length e71) len_map ?_
   conv=>whnf
   refine Side.mk (by show inR _; unfold inR; omega) ?_
   conv=>whnf
   cases h
   exact Nxt.mk _ ho69 (eA [])
  ·obtain ⟨h, b70d⟩ := cfd b70 h
   conv=>whnf
   cases h
   have ho69 : _ = _ := ho69
   cases ho69
   exact Join.mk (eA [])
 ·replace h := hk51
  conv=>whnf
  cases h
  conv=>whnf
  exact ⟨rfl, rfl⟩
theorem sp_R01_Size (inputs_ : Int) (r : Bool) (h : Ok (nI inputs_) → R01_Size inputs_ = some r) : Sp Tryz.prog 112 [.im (nI inputs_)] (.im (nB r)) := by
 refine sp_of rfl [] rfl rfl rfl (Nat.le_of_ble_eq_true rfl) rfl fun hk => ?_
 replace h := h hk.1
 unfold R01_Size at h
 conv=>whnf
 obtain ⟨y54, hc, hk52⟩ := bind_some h
 clear h
 have h := hc
 clear hc
 refine Cut.mk (mkSt [(2, .im (nB y54))] [] []) (True) (hT) ?_ (fun hp => ?_)
 ·conv=>whnf
  refine Both.mk ?_ ?_<;>intro b55
  ·replace b55 := beq_tt b55
   obtain ⟨h, b55d⟩ := ctd b55 h
   conv=>whnf
   refine Both.yes (tt_beq b55) ?_
   conv=>whnf
   refine Both.yes b55 ?_
   conv=>whnf
   cases h
   exact Join.mk (eA [])
  ·replace b55 := beq_tf b55
   obtain ⟨h, b55d⟩ := cfd b55 h
   conv=>whnf
   refine Both.no (ft_beq b55) ?_
   conv=>whnf
   refine Both.no b55 ?_
   conv=>whnf
   cases h
   exact Join.mk (eA [])
 ·replace h := hk52
  conv=>whnf
  cases h
  conv=>whnf
  exact ⟨rfl, rfl⟩
theorem sp_R01_Check (w_ : List Int) (inputs_ : Int) (r : Int) (h : Ok (nL cI w_) → Ok (nI inputs_) → R01_Check w_ inputs_ = some r) : Sp Tryz.prog 64 [.im (nL cI w_), .im (nI inputs_)] (.im (nI r)) := by
 refine sp_of rfl [] rfl rfl rfl (Nat.le_of_ble_eq_true rfl) rfl fun hk => ?_
 replace h := h hk.1 hk.2.1
 have z1 : lZ w_ := ok_len hk.1
 unfold R01_Check at h
 conv=>whnf
 obtain ⟨c51, hc51, h⟩ := bind_some h
 refine ⟨_, (sp_R01_Size inputs_ c51 (fun _ => hc51)), ?_⟩
 conv=>whnf
 refine Both.mk ?_ ?_<;>intro b52
 ·replace h := cond_t b52 h
  conv=>whnf
  cases h
  conv=>whnf
  exact ⟨rfl, rfl⟩
 ·replace h := cond_f b52 h
  conv=>whnf
  refine Nf.mk (List.length w_) len_map ?_
  conv=>whnf
  refine Both.mk ?_ ?_<;>intro b53
  ·obtain ⟨h, b53d⟩ := ctd b53 h
   conv=>whnf
   cases h
   conv=>whnf
   exact ⟨rfl, rfl⟩
  ·obtain ⟨h, b53d⟩ := cfd b53 h
   conv=>whnf
   obtain ⟨oc, hc, hk54⟩ := bind_some h
   clear h
   have h := hc
   clear hc
   refine Cut.mkS oc (Y := Unit) (fun (_ : Unit) => mkSt [] [] []) (fun (_ : Unit) => True) (by rintro ⟨⟩; exact (hT)) ?_ ?_
   ·conv=>whnf
    refine Loops.iter (fun (s : Nat) => R01_Check.s2 w_ inputs_ s) (fun i106 => mkSt [(0, .im (nL cI w_)), (1, .im (nI inputs_)), (5, .im (nI (↑i106 : Int)))] [] []) (fun i106 => lZ w_ ∧ True) h (eA []) (by rintro i106; exact ((Holds.avl 0 rfl).and (hT))) ?_
    clear h
    rintro k i106 o hp h ho119
    replace h : R01_Check.s2 w_ inputs_ i106 = some o := h
    unfold R01_Check.s2 at h
    obtain ⟨z132, _⟩ := hp
    conv=>whnf
    refine Nf.mk (List.length w_) len_map ?_
    conv=>whnf
    refine Both.mk ?_ ?_<;>intro b120
    ·obtain ⟨h, b120d⟩ := ctd b120 h
     conv=>whnf
     obtain ⟨y126, hc, hk122⟩ := bind_some h
     clear h
     have h := hc
     clear hc
     refine Cut.mk (mkSt [(0, .im (nL cI w_)), (1, .im (nI inputs_)), (5, .im (nI (↑i106 : Int))), (30, .im (nB y126))] [] []) (lZ w_ ∧ True) ((Holds.avl 0 rfl).and (hT)) ?_ (fun hp => ?_)
     ·conv=>whnf
      obtain ⟨e127, he127, h⟩ := idxn_some h
      refine ⟨_, ⟨(by omega), map_at he127, rfl⟩, ?_⟩
      conv=>whnf
      refine Both.mk ?_ ?_<;>intro b128
      ·replace b128 := beq_ff b128
       obtain ⟨h, b128d⟩ := cfd b128 h
       conv=>whnf
       iterate 2 (refine Both.yes (ff_beq b128) ?_; (conv=>whnf))
       obtain ⟨e129, he129, h⟩ := idxn_some h
       refine ⟨_, ⟨(by omega), map_at he129, rfl⟩, ?_⟩
       conv=>whnf
       iterate 3 (refine Both.yes (ff_beq b128) ?_; (conv=>whnf))
       refine Both.no b128 ?_
       conv=>whnf
       cases h
       exact Join.mk (eA [])
      ·replace b128 := beq_ft b128
       obtain ⟨h, b128d⟩ := ctd b128 h
       conv=>whnf
       iterate 5 (refine Both.no (tf_beq b128) ?_; (conv=>whnf))
       refine Both.yes b128 ?_
       conv=>whnf
       cases h
       exact Join.mk (eA [])
     ·replace h := hk122
      obtain ⟨z130, _⟩ := hp
      conv=>whnf
      refine Both.mk ?_ ?_<;>intro b131
      ·replace h := cond_t b131 h
       conv=>whnf
       cases h
       have ho119 : _ = _ := ho119
       cases ho119
       replace h : some _ = some _ := hk54
       cases h
       conv=>whnf
       exact ⟨rfl, rfl⟩
      ·replace h := cond_f b131 h
       conv=>whnf
       refine Side.mk (by show inR _; unfold inR; omega) ?_
       conv=>whnf
       cases h
       exact Nxt.mk _ ho119 (eA [])
    ·obtain ⟨h, b120d⟩ := cfd b120 h
     conv=>whnf
     cases h
     have ho119 : _ = _ := ho119
     cases ho119
     exact JoinS.mk' _ rfl (eA [])
   ·rintro ⟨⟩ rfl hp
    replace h := sum_inl hk54
    conv=>whnf
    cases h
    conv=>whnf
    exact ⟨rfl, rfl⟩
theorem sp_R01_Common (a_ : List Int) (b_ : List Int) (r : Int) (h : Ok (nL cI a_) → Ok (nL cI b_) → R01_Common a_ b_ = some r) : Sp Tryz.prog 125 [.im (nL cI a_), .im (nL cI b_)] (.im (nI r)) := by
 refine sp_of rfl [] rfl rfl rfl (Nat.le_of_ble_eq_true rfl) rfl fun hk => ?_
 replace h := h hk.1 hk.2.1
 have z1 : lZ a_ := ok_len hk.1
 have z2 : lZ b_ := ok_len hk.2.1
 unfold R01_Common at h
 conv=>whnf
 obtain ⟨i100, hc, hk51⟩ := bind_some h
 clear h
 have h := hc
 clear hc
 refine Cut.mk (mkSt [(5, .im (nI (↑i100 : Int)))] [] []) (True) (hT) ?_ (fun hp => ?_)
 ·conv=>whnf
  refine Loops.iter (fun (s : Nat) => R01_Common.s2 a_ b_ s) (fun i115 => mkSt [(0, .im (nL cI a_)), (1, .im (nL cI b_)), (5, .im (nI (↑i115 : Int)))] [] []) (fun i115 => lZ a_ ∧ lZ b_ ∧ True) h (eA []) (by rintro i115; exact ((Holds.avl 0 rfl).and ((Holds.avl 1 rfl).and (hT)))) ?_
  clear h
  rintro k i115 o hp h ho131
  replace h : R01_Common.s2 a_ b_ i115 = some o := h
  unfold R01_Common.s2 at h
  obtain ⟨z147, z148, _⟩ := hp
  conv=>whnf
  obtain ⟨y138, hc, hk133⟩ := bind_some h
  clear h
  have h := hc
  clear hc
  refine Cut.mk (mkSt [(0, .im (nL cI a_)), (1, .im (nL cI b_)), (5, .im (nI (↑i115 : Int))), (26, .im (nB y138))] [] []) (lZ a_ ∧ lZ b_ ∧ True) ((Holds.avl 0 rfl).and ((Holds.avl 1 rfl).and (hT))) ?_ (fun hp => ?_)
  ·conv=>whnf
   refine Nf.mk (List.length a_) len_map ?_
   conv=>whnf
   refine Both.mk ?_ ?_<;>intro b139
   ·replace b139 := beq_tt b139
    obtain ⟨h, b139d⟩ := ctd b139 h
    conv=>whnf
    iterate 2 (refine Both.yes (tt_beq b139) ?_; (conv=>whnf))
    refine Nf.mk (List.length b_) len_map ?_
    conv=>whnf
    refine Both.yes (tt_beq b139) ?_
    conv=>whnf
    refine Both.yes b139 ?_
    conv=>whnf
    refine Both.mk ?_ ?_<;>intro b140
    ·replace b140 := beq_tt b140
     obtain ⟨h, b140d⟩ := ctd b140 h
     conv=>whnf
     iterate 2 (refine Both.yes (tt_beq b140) ?_; (conv=>whnf))
     obtain ⟨e141, he141, h⟩ := idxn_some h
     refine ⟨_, ⟨(by omega), map_at he141, rfl⟩, ?_⟩
     conv=>whnf
     iterate 4 (refine Both.yes (tt_beq b140) ?_; (conv=>whnf))
     obtain ⟨e142, he142, h⟩ := idxn_some h
     refine ⟨_, ⟨(by omega), map_at he142, rfl⟩, ?_⟩
     conv=>whnf
     iterate 2 (refine Both.yes (tt_beq b140) ?_; (conv=>whnf))
     refine Both.yes b140 ?_
     conv=>whnf
     cases h
     exact Join.mk (eA [])
    ·replace b140 := beq_tf b140
     obtain ⟨h, b140d⟩ := cfd b140 h
     conv=>whnf
     iterate 8 (refine Both.no (ft_beq b140) ?_; (conv=>whnf))
     refine Both.no b140 ?_
     conv=>whnf
     cases h
     exact Join.mk (eA [])
   ·replace b139 := beq_tf b139
    obtain ⟨h, b139d⟩ := cfd b139 h
    conv=>whnf
    iterate 3 (refine Both.no (ft_beq b139) ?_; (conv=>whnf))
    refine Both.no b139 ?_
    conv=>whnf
    iterate 10 (refine Both.no rfl ?_; (conv=>whnf))
    cases h
    exact Join.mk (eA [])
  ·replace h := hk133
   obtain ⟨z143, z144, _⟩ := hp
   conv=>whnf
   refine Both.mk ?_ ?_<;>intro b145
   ·replace h := cond_t b145 h
    conv=>whnf
    obtain ⟨c146, h⟩ := chk_some h
    refine Side.mk c146 ?_
    conv=>whnf
    cases h
    exact Nxt.mk _ ho131 (eA [])
   ·replace h := cond_f b145 h
    conv=>whnf
    cases h
    have ho131 : _ = _ := ho131
    cases ho131
    exact Join.mk (eA [])
 ·replace h := hk51
  conv=>whnf
  cases h
  conv=>whnf
  exact ⟨rfl, rfl⟩
theorem sp_R01_Lex (a_ : List Int) (b_ : List Int) (r : Int) (h : Ok (nL cI a_) → Ok (nL cI b_) → R01_Lex a_ b_ = some r) : Sp Tryz.prog 113 [.im (nL cI a_), .im (nL cI b_)] (.im (nI r)) := by
 refine sp_of rfl [] rfl rfl rfl (Nat.le_of_ble_eq_true rfl) rfl fun hk => ?_
 replace h := h hk.1 hk.2.1
 have z1 : lZ a_ := ok_len hk.1
 have z2 : lZ b_ := ok_len hk.2.1
 unfold R01_Lex at h
 conv=>whnf
 obtain ⟨c51, hc51, h⟩ := bind_some h
 refine ⟨_, (sp_R01_Common a_ b_ c51 (fun _ _ => hc51)), ?_⟩
 conv=>whnf
 obtain ⟨y55, hc, hk53⟩ := bind_some h
 clear h
 have h := hc
 clear hc
 refine Cut.mk (mkSt [(0, .im (nL cI a_)), (1, .im (nL cI b_)), (5, .im (nI c51)), (9, .im (nB y55))] [] []) (lZ a_ ∧ lZ b_ ∧ True) ((Holds.avl 0 rfl).and ((Holds.avl 1 rfl).and (hT))) ?_ (fun hp => ?_)
 ·conv=>whnf
  refine Nf.mk (List.length a_) len_map ?_
  conv=>whnf
  refine Both.mk ?_ ?_<;>intro b56
  ·replace b56 := beq_tt b56
   obtain ⟨h, b56d⟩ := ctd b56 h
   conv=>whnf
   iterate 2 (refine Both.yes (tt_beq b56) ?_; (conv=>whnf))
   refine Nf.mk (List.length b_) len_map ?_
   conv=>whnf
   refine Both.yes (tt_beq b56) ?_
   conv=>whnf
   refine Both.yes b56 ?_
   conv=>whnf
   cases h
   exact Join.mk (eA [])
  ·replace b56 := beq_tf b56
   obtain ⟨h, b56d⟩ := cfd b56 h
   conv=>whnf
   iterate 3 (refine Both.no (ft_beq b56) ?_; (conv=>whnf))
   refine Both.no b56 ?_
   conv=>whnf
   cases h
   exact Join.mk (eA [])
 ·replace h := hk53
  obtain ⟨z57, z58, _⟩ := hp
  conv=>whnf
  refine Both.mk ?_ ?_<;>intro b59
  ·replace h := cond_t b59 h
   conv=>whnf
   cases h
   conv=>whnf
   exact ⟨rfl, rfl⟩
  ·replace h := cond_f b59 h
   conv=>whnf
   obtain ⟨y66, hc, hk61⟩ := bind_some h
   clear h
   have h := hc
   clear hc
   refine Cut.mk (mkSt [(20, .im (nB y66))] [] []) (True) (hT) ?_ (fun hp => ?_)
   ·conv=>whnf
    refine Nf.mk (List.length a_) len_map ?_
    conv=>whnf
    refine Both.mk ?_ ?_<;>intro b67
    ·obtain ⟨h, b67d⟩ := ctd b67 h
     conv=>whnf
     cases h
     exact Join.mk (eA [])
    ·obtain ⟨h, b67d⟩ := cfd b67 h
     conv=>whnf
     refine Nf.mk (List.length b_) len_map ?_
     conv=>whnf
     refine Both.mk ?_ ?_<;>intro b68
     ·replace b68 := beq_tt b68
      obtain ⟨h, b68d⟩ := ctd b68 h
      conv=>whnf
      iterate 2 (refine Both.yes (tt_beq b68) ?_; (conv=>whnf))
      obtain ⟨e69, he69z, he69, h⟩ := idx_some h
      refine ⟨_, ⟨he69z, map_at he69, rfl⟩, ?_⟩
      conv=>whnf
      iterate 4 (refine Both.yes (tt_beq b68) ?_; (conv=>whnf))
      obtain ⟨e70, he70z, he70, h⟩ := idx_some h
      refine ⟨_, ⟨he70z, map_at he70, rfl⟩, ?_⟩
      conv=>whnf
      iterate 2 (refine Both.yes (tt_beq b68) ?_; (conv=>whnf))
      refine Both.yes b68 ?_
      conv=>whnf
      cases h
      exact Join.mk (eA [])
     ·replace b68 := beq_tf b68
      obtain ⟨h, b68d⟩ := cfd b68 h
      conv=>whnf
      iterate 8 (refine Both.no (ft_beq b68) ?_; (conv=>whnf))
      refine Both.no b68 ?_
      conv=>whnf
      cases h
      exact Join.mk (eA [])
   ·replace h := hk61
    conv=>whnf
    refine Both.mk ?_ ?_<;>intro b71
    ·replace h := cond_t b71 h
     conv=>whnf
     cases h
     conv=>whnf
     exact ⟨rfl, rfl⟩
    ·replace h := cond_f b71 h
     conv=>whnf
     cases h
     conv=>whnf
     exact ⟨rfl, rfl⟩
theorem sp_R01_Compare (a_ : List Int) (b_ : List Int) (r : Int) (h : Ok (nL cI a_) → Ok (nL cI b_) → R01_Compare a_ b_ = some r) : Sp Tryz.prog 66 [.im (nL cI a_), .im (nL cI b_)] (.im (nI r)) := by
 refine sp_of rfl [] rfl rfl rfl (Nat.le_of_ble_eq_true rfl) rfl fun hk => ?_
 replace h := h hk.1 hk.2.1
 have z1 : lZ a_ := ok_len hk.1
 have z2 : lZ b_ := ok_len hk.2.1
 unfold R01_Compare at h
 conv=>whnf
 refine Nf.mk (List.length a_) len_map ?_
 conv=>whnf
 refine Nf.mk (List.length b_) len_map ?_
 conv=>whnf
 refine Both.mk ?_ ?_<;>intro b51
 ·obtain ⟨h, b51d⟩ := ctd b51 h
  conv=>whnf
  cases h
  conv=>whnf
  exact ⟨rfl, rfl⟩
 ·obtain ⟨h, b51d⟩ := cfd b51 h
  conv=>whnf
  refine Nf.mk (List.length a_) len_map ?_
  conv=>whnf
  refine Nf.mk (List.length b_) len_map ?_
  conv=>whnf
  refine Both.mk ?_ ?_<;>intro b52
  ·obtain ⟨h, b52d⟩ := ctd b52 h
   conv=>whnf
   cases h
   conv=>whnf
   exact ⟨rfl, rfl⟩
  ·obtain ⟨h, b52d⟩ := cfd b52 h
   conv=>whnf
   obtain ⟨c53, hc53, h⟩ := bind_some h
   refine ⟨_, (sp_R01_Lex a_ b_ c53 (fun _ _ => hc53)), ?_⟩
   conv=>whnf
   cases h
   conv=>whnf
   exact ⟨rfl, rfl⟩
theorem sp_R01_Same (a_ : List Int) (b_ : List Int) (r : Bool) (h : Ok (nL cI a_) → Ok (nL cI b_) → R01_Same a_ b_ = some r) : Sp Tryz.prog 82 [.im (nL cI a_), .im (nL cI b_)] (.im (nB r)) := by
 refine sp_of rfl [] rfl rfl rfl (Nat.le_of_ble_eq_true rfl) rfl fun hk => ?_
 replace h := h hk.1 hk.2.1
 have z1 : lZ a_ := ok_len hk.1
 have z2 : lZ b_ := ok_len hk.2.1
 unfold R01_Same at h
 conv=>whnf
 obtain ⟨y55, hc, hk52⟩ := bind_some h
 clear h
 have h := hc
 clear hc
 refine Cut.mk (mkSt [(4, .im (nB y55))] [] []) (True) (hT) ?_ (fun hp => ?_)
 ·conv=>whnf
  refine Nf.mk (List.length a_) len_map ?_
  conv=>whnf
  refine Nf.mk (List.length b_) len_map ?_
  conv=>whnf
  refine Both.mk ?_ ?_<;>intro b56
  ·replace b56 := beq_tt b56
   obtain ⟨h, b56d⟩ := ctd b56 h
   conv=>whnf
   iterate 2 (refine Both.yes (tt_beq b56) ?_; (conv=>whnf))
   obtain ⟨c57, hc57, h⟩ := bind_some h
   refine ⟨_, (sp_R01_Common a_ b_ c57 (fun _ _ => hc57)), ?_⟩
   conv=>whnf
   iterate 2 (refine Both.yes (tt_beq b56) ?_; (conv=>whnf))
   refine Nf.mk (List.length a_) len_map ?_
   conv=>whnf
   refine Both.yes (tt_beq b56) ?_
   conv=>whnf
   refine Both.yes b56 ?_
   conv=>whnf
   cases h
   exact Join.mk (eA [])
  ·replace b56 := beq_tf b56
   obtain ⟨h, b56d⟩ := cfd b56 h
   conv=>whnf
   iterate 5 (refine Both.no (ft_beq b56) ?_; (conv=>whnf))
   refine Both.no b56 ?_
   conv=>whnf
   cases h
   exact Join.mk (eA [])
 ·replace h := hk52
  conv=>whnf
  cases h
  conv=>whnf
  exact ⟨rfl, rfl⟩
theorem sp_R02_Has (l_ : List (List Int)) (w_ : List Int) (r : Bool) (h : Ok (nL (cL cI) l_) → Ok (nL cI w_) → R02_Has l_ w_ = some r) : Sp Tryz.prog 47 [.im (nL (cL cI) l_), .im (nL cI w_)] (.im (nB r)) := by
 refine sp_of rfl [] rfl rfl rfl (Nat.le_of_ble_eq_true rfl) rfl fun hk => ?_
 replace h := h hk.1 hk.2.1
 have z1 : lZ l_ := ok_len hk.1
 have z2 : lZ w_ := ok_len hk.2.1
 unfold R02_Has at h
 conv=>whnf
 obtain ⟨oc, hc, hk51⟩ := bind_some h
 clear h
 have h := hc
 clear hc
 refine Cut.mkS oc (Y := Unit) (fun (_ : Unit) => mkSt [] [] []) (fun (_ : Unit) => True) (by rintro ⟨⟩; exact (hT)) ?_ ?_
 ·conv=>whnf
  refine Loops.iter (fun (s : Nat) => R02_Has.s2 l_ w_ s) (fun i72 => mkSt [(0, .im (nL (cL cI) l_)), (1, .im (nL cI w_)), (5, .im (nI (↑i72 : Int)))] [] []) (fun i72 => lZ l_ ∧ lZ w_ ∧ True) h (eA []) (by rintro i72; exact ((Holds.avl 0 rfl).and ((Holds.avl 1 rfl).and (hT)))) ?_
  clear h
  rintro k i72 o hp h ho77
  replace h : R02_Has.s2 l_ w_ i72 = some o := h
  unfold R02_Has.s2 at h
  obtain ⟨z82, z83, _⟩ := hp
  conv=>whnf
  refine Nf.mk (List.length l_) len_map ?_
  conv=>whnf
  refine Both.mk ?_ ?_<;>intro b78
  ·obtain ⟨h, b78d⟩ := ctd b78 h
   conv=>whnf
   obtain ⟨e79, he79, h⟩ := idxn_some h
   refine ⟨_, ⟨(by omega), map_at he79, rfl⟩, ?_⟩
   conv=>whnf
   obtain ⟨c80, hc80, h⟩ := bind_some h
   refine ⟨_, (sp_R01_Same e79 w_ c80 (fun _ _ => hc80)), ?_⟩
   conv=>whnf
   refine Both.mk ?_ ?_<;>intro b81
   ·replace h := cond_t b81 h
    conv=>whnf
    cases h
    have ho77 : _ = _ := ho77
    cases ho77
    replace h : some _ = some _ := hk51
    cases h
    conv=>whnf
    exact ⟨rfl, rfl⟩
   ·replace h := cond_f b81 h
    conv=>whnf
    refine Side.mk (by show inR _; unfold inR; omega) ?_
    conv=>whnf
    cases h
    exact Nxt.mk _ ho77 (eA [])
  ·obtain ⟨h, b78d⟩ := cfd b78 h
   conv=>whnf
   cases h
   have ho77 : _ = _ := ho77
   cases ho77
   exact JoinS.mk' _ rfl (eA [])
 ·rintro ⟨⟩ rfl hp
  replace h := sum_inl hk51
  conv=>whnf
  cases h
  conv=>whnf
  exact ⟨rfl, rfl⟩
theorem sp_R23_prefixes (t_ : T_api_Table) (r : Int) (h : Ok (.agg (c_api_Table t_)) → R23_prefixes t_ = some r) : Sp Tryz.prog 59 [.im (.agg (c_api_Table t_))] (.im (nI r)) := by
 refine sp_of rfl [700001] rfl rfl rfl (Nat.le_of_ble_eq_true rfl) rfl fun hk => ?_
 replace h := h hk.1
 have z1 : lZ t_.Prefixes := ok_len (Ok.agg_at hk.1 1 rfl)
 have z2 : lZ t_.Suffixes := ok_len (Ok.agg_at hk.1 2 rfl)
 unfold R23_prefixes at h
 conv=>whnf
 obtain ⟨oc, hc, hk51⟩ := bind_some h
 clear h
 have h := hc
 clear hc
 refine Cut.mkS oc (Y := Unit) (fun (_ : Unit) => mkSt [] [] []) (fun (_ : Unit) => True) (by rintro ⟨⟩; exact (hT)) ?_ ?_
 ·conv=>whnf
  refine Loops.iter (fun (s : Nat) => R23_prefixes.s2 t_ s) (fun i194 => mkSt [(1, .im (.ref (c_api_Table t_))), (3, .im (nI (↑i194 : Int)))] [] []) (fun i194 => True) h (eA []) (by rintro i194; exact (hT)) ?_
  clear h
  rintro k i194 o hp h ho230
  replace h : R23_prefixes.s2 t_ i194 = some o := h
  unfold R23_prefixes.s2 at h
  conv=>whnf
  refine Nf.mk (List.length t_.Prefixes) len_map ?_
  conv=>whnf
  refine Both.mk ?_ ?_<;>intro b231
  ·obtain ⟨h, b231d⟩ := ctd b231 h
   conv=>whnf
   obtain ⟨e232, he232, h⟩ := idxn_some h
   refine ⟨_, ⟨(by omega), map_at he232, rfl⟩, ?_⟩
   conv=>whnf
   obtain ⟨c233, hc233, h⟩ := bind_some h
   refine ⟨_, (sp_R01_Check e232 t_.Inputs c233 (fun _ _ => hc233)), ?_⟩
   conv=>whnf
   refine Both.mk ?_ ?_<;>intro b234
   ·obtain ⟨h, b234d⟩ := ctd b234 h
    conv=>whnf
    cases h
    have ho230 : _ = _ := ho230
    cases ho230
    replace h : some _ = some _ := hk51
    cases h
    conv=>whnf
    exact ⟨rfl, rfl⟩
   ·obtain ⟨h, b234d⟩ := cfd b234 h
    conv=>whnf
    obtain ⟨y245, hc, hk236⟩ := bind_some h
    clear h
    have h := hc
    clear hc
    refine Cut.mk (mkSt [(1, .im (.ref (c_api_Table t_))), (3, .im (nI (↑i194 : Int))), (4, .im (nL cI e232)), (46, .im (nB y245))] [] []) (lZ e232 ∧ True) ((Holds.avl 4 rfl).and (hT)) ?_ (fun hp => ?_)
    ·conv=>whnf
     refine Both.mk ?_ ?_<;>intro b246
     ·replace b246 := beq_tt b246
      obtain ⟨h, b246d⟩ := ctd b246 h
      conv=>whnf
      refine Both.yes (tt_beq b246) ?_
      conv=>whnf
      refine Nf.mk (List.length e232) len_map ?_
      conv=>whnf
      refine Both.yes (tt_beq b246) ?_
      conv=>whnf
      refine Both.yes b246 ?_
      conv=>whnf
      refine Both.mk ?_ ?_<;>intro b247
      ·replace b247 := beq_ff b247
       obtain ⟨h, b247d⟩ := cfd b247 h
       conv=>whnf
       iterate 2 (refine Both.yes (ff_beq b247) ?_; (conv=>whnf))
       refine Both.mk ?_ ?_<;>intro b248
       ·replace b248 := beq_tt b248
        obtain ⟨h, b248d⟩ := ctd b248 h
        conv=>whnf
        iterate 3 (refine Both.yes (tt_beq b248) ?_; (conv=>whnf))
        refine Side.mk (by show inR _; unfold inR; omega) ?_
        conv=>whnf
        refine Both.yes (tt_beq b248) ?_
        conv=>whnf
        obtain ⟨e249, he249z, he249, h⟩ := idx_some h
        refine ⟨_, ⟨he249z, map_at he249, rfl⟩, ?_⟩
        conv=>whnf
        iterate 3 (refine Both.yes (tt_beq b248) ?_; (conv=>whnf))
        obtain ⟨c250, hc250, h⟩ := bind_some h
        refine ⟨_, (sp_R01_Compare e249 e232 c250 (fun _ _ => hc250)), ?_⟩
        conv=>whnf
        refine Both.yes (tt_beq b248) ?_
        conv=>whnf
        refine Both.yes (ff_beq b247) ?_
        conv=>whnf
        refine Both.yes b248 ?_
        conv=>whnf
        refine Both.no b247 ?_
        conv=>whnf
        cases h
        exact Join.mk (eA [])
       ·replace b248 := beq_tf b248
        obtain ⟨h, b248d⟩ := cfd b248 h
        conv=>whnf
        iterate 8 (refine Both.no (ft_beq b248) ?_; (conv=>whnf))
        refine Both.yes (ff_beq b247) ?_
        conv=>whnf
        refine Both.no b248 ?_
        conv=>whnf
        refine Both.no b247 ?_
        conv=>whnf
        cases h
        exact Join.mk (eA [])
      ·replace b247 := beq_ft b247
       obtain ⟨h, b247d⟩ := ctd b247 h
       conv=>whnf
       iterate 3 (refine Both.no (tf_beq b247) ?_; (conv=>whnf))
       refine Both.yes b247 ?_
       conv=>whnf
       cases h
       exact Join.mk (eA [])
     ·replace b246 := beq_tf b246
      obtain ⟨h, b246d⟩ := cfd b246 h
      conv=>whnf
      iterate 2 (refine Both.no (ft_beq b246) ?_; (conv=>whnf))
      refine Both.no b246 ?_
      conv=>whnf
      iterate 3 (refine Both.yes rfl ?_; (conv=>whnf))
      refine Both.mk ?_ ?_<;>intro b251
      ·replace b251 := beq_tt b251
       obtain ⟨h, b251d⟩ := ctd b251 h
       conv=>whnf
       iterate 3 (refine Both.yes (tt_beq b251) ?_; (conv=>whnf))
       refine Side.mk (by show inR _; unfold inR; omega) ?_
       conv=>whnf
       refine Both.yes (tt_beq b251) ?_
       conv=>whnf
       obtain ⟨e252, he252z, he252, h⟩ := idx_some h
       refine ⟨_, ⟨he252z, map_at he252, rfl⟩, ?_⟩
       conv=>whnf
       iterate 3 (refine Both.yes (tt_beq b251) ?_; (conv=>whnf))
       obtain ⟨c253, hc253, h⟩ := bind_some h
       refine ⟨_, (sp_R01_Compare e252 e232 c253 (fun _ _ => hc253)), ?_⟩
       conv=>whnf
       refine Both.yes (tt_beq b251) ?_
       conv=>whnf
       refine Both.yes rfl ?_
       conv=>whnf
       refine Both.yes b251 ?_
       conv=>whnf
       refine Both.no rfl ?_
       conv=>whnf
       cases h
       exact Join.mk (eA [])
      ·replace b251 := beq_tf b251
       obtain ⟨h, b251d⟩ := cfd b251 h
       conv=>whnf
       iterate 8 (refine Both.no (ft_beq b251) ?_; (conv=>whnf))
       refine Both.yes rfl ?_
       conv=>whnf
       refine Both.no b251 ?_
       conv=>whnf
       refine Both.no rfl ?_
       conv=>whnf
       cases h
       exact Join.mk (eA [])
    ·replace h := hk236
     obtain ⟨z254, _⟩ := hp
     conv=>whnf
     refine Both.mk ?_ ?_<;>intro b255
     ·replace h := cond_t b255 h
      conv=>whnf
      cases h
      have ho230 : _ = _ := ho230
      cases ho230
      replace h : some _ = some _ := hk51
      cases h
      conv=>whnf
      exact ⟨rfl, rfl⟩
     ·replace h := cond_f b255 h
      conv=>whnf
      obtain ⟨y261, hc, hk257⟩ := bind_some h
      clear h
      have h := hc
      clear hc
      refine Cut.mk (mkSt [(1, .im (.ref (c_api_Table t_))), (3, .im (nI (↑i194 : Int))), (60, .im (nB y261))] [] []) (True) (hT) ?_ (fun hp => ?_)
      ·conv=>whnf
       refine Nf.mk (List.length e232) len_map ?_
       conv=>whnf
       refine Both.mk ?_ ?_<;>intro b262
       ·replace b262 := beq_tt b262
        obtain ⟨h, b262d⟩ := ctd b262 h
        conv=>whnf
        iterate 4 (refine Both.yes (tt_beq b262) ?_; (conv=>whnf))
        refine Nf.mk (List.length e232) len_map ?_
        conv=>whnf
        refine Both.yes (tt_beq b262) ?_
        conv=>whnf
        refine Side.mk (by show inR _; unfold inR; omega) ?_
        conv=>whnf
        refine Both.yes (tt_beq b262) ?_
        conv=>whnf
        obtain ⟨c263, h⟩ := chk_some h
        refine Side.mk (show (0 : Int) ≤ (0 : Int) ∧ (0 : Int) ≤ ((↑(List.length e232) : Int) - 1) ∧ ((↑(List.length e232) : Int) - 1) ≤ (↑(List.length (List.map cI e232)) : Int) ∧ (∀ e ∈ List.map cI e232, List.length e = 1) from ⟨by omega, by first | omega | (simp only [List.length_map]; omega), by first | omega | (simp only [List.length_map]; omega), map_len fun _ => rfl⟩) ?_
        conv=>whnf
        refine Nf.mk (List.map cI (List.take (Int.toNat ((↑(List.length e232) : Int) - 1)) e232)) take_map ?_
        conv=>whnf
        refine Both.yes (tt_beq b262) ?_
        conv=>whnf
        obtain ⟨c264, hc264, h⟩ := bind_some h
        refine ⟨_, (sp_R02_Has t_.Prefixes (List.take (Int.toNat ((↑(List.length e232) : Int) - 1)) e232) c264 (fun _ _ => hc264)), ?_⟩
        conv=>whnf
        refine Both.yes (tt_beq b262) ?_
        conv=>whnf
        refine Both.yes b262 ?_
        conv=>whnf
        cases h
        exact Join.mk (eA [])
       ·replace b262 := beq_tf b262
        obtain ⟨h, b262d⟩ := cfd b262 h
        conv=>whnf
        iterate 8 (refine Both.no (ft_beq b262) ?_; (conv=>whnf))
        refine Both.no b262 ?_
        conv=>whnf
        cases h
        exact Join.mk (eA [])
      ·replace h := hk257
       conv=>whnf
       refine Both.mk ?_ ?_<;>intro b265
       ·replace h := cond_t b265 h
        conv=>whnf
        cases h
        have ho230 : _ = _ := ho230
        cases ho230
        replace h : some _ = some _ := hk51
        cases h
        conv=>whnf
        exact ⟨rfl, rfl⟩
       ·replace h := cond_f b265 h
        conv=>whnf
        refine Side.mk (by show inR _; unfold inR; omega) ?_
        conv=>whnf
        cases h
        exact Nxt.mk _ ho230 (eA [])
  ·obtain ⟨h, b231d⟩ := cfd b231 h
   conv=>whnf
   cases h
   have ho230 : _ = _ := ho230
   cases ho230
   exact JoinS.mk' _ rfl (eA [])
 ·rintro ⟨⟩ rfl hp
  replace h := sum_inl hk51
  conv=>whnf
  cases h
  conv=>whnf
  exact ⟨rfl, rfl⟩
theorem sp_R23_suffixes (t_ : T_api_Table) (r : Int) (h : Ok (.agg (c_api_Table t_)) → R23_suffixes t_ = some r) : Sp Tryz.prog 60 [.im (.agg (c_api_Table t_))] (.im (nI r)) := by
 refine sp_of rfl [700001] rfl rfl rfl (Nat.le_of_ble_eq_true rfl) rfl fun hk => ?_
 replace h := h hk.1
 have z1 : lZ t_.Prefixes := ok_len (Ok.agg_at hk.1 1 rfl)
 have z2 : lZ t_.Suffixes := ok_len (Ok.agg_at hk.1 2 rfl)
 unfold R23_suffixes at h
 conv=>whnf
 obtain ⟨oc, hc, hk51⟩ := bind_some h
 clear h
 have h := hc
 clear hc
 refine Cut.mkS oc (Y := Unit) (fun (_ : Unit) => mkSt [(1, .im (.ref (c_api_Table t_)))] [] []) (fun (_ : Unit) => True) (by rintro ⟨⟩; exact (hT)) ?_ ?_
 ·conv=>whnf
  refine Loops.iter (fun (s : Nat) => R23_suffixes.s2 t_ s) (fun i114 => mkSt [(1, .im (.ref (c_api_Table t_))), (3, .im (nI (↑i114 : Int)))] [] []) (fun i114 => True) h (eA []) (by rintro i114; exact (hT)) ?_
  clear h
  rintro k i114 o hp h ho130
  replace h : R23_suffixes.s2 t_ i114 = some o := h
  unfold R23_suffixes.s2 at h
  conv=>whnf
  refine Nf.mk (List.length t_.Suffixes) len_map ?_
  conv=>whnf
  refine Both.mk ?_ ?_<;>intro b131
  ·obtain ⟨h, b131d⟩ := ctd b131 h
   conv=>whnf
   obtain ⟨e132, he132, h⟩ := idxn_some h
   refine ⟨_, ⟨(by omega), map_at he132, rfl⟩, ?_⟩
   conv=>whnf
   obtain ⟨c133, hc133, h⟩ := bind_some h
   refine ⟨_, (sp_R01_Check e132 t_.Inputs c133 (fun _ _ => hc133)), ?_⟩
   conv=>whnf
   refine Both.mk ?_ ?_<;>intro b134
   ·obtain ⟨h, b134d⟩ := ctd b134 h
    conv=>whnf
    cases h
    have ho130 : _ = _ := ho130
    cases ho130
    replace h : some _ = some _ := hk51
    cases h
    conv=>whnf
    exact ⟨rfl, rfl⟩
   ·obtain ⟨h, b134d⟩ := cfd b134 h
    conv=>whnf
    refine Nf.mk (List.length e132) len_map ?_
    conv=>whnf
    refine Both.mk ?_ ?_<;>intro b135
    ·obtain ⟨h, b135d⟩ := ctd b135 h
     conv=>whnf
     cases h
     have ho130 : _ = _ := ho130
     cases ho130
     replace h : some _ = some _ := hk51
     cases h
     conv=>whnf
     exact ⟨rfl, rfl⟩
    ·obtain ⟨h, b135d⟩ := cfd b135 h
     conv=>whnf
     obtain ⟨y141, hc, hk137⟩ := bind_some h
     clear h
     have h := hc
     clear hc
     refine Cut.mk (mkSt [(1, .im (.ref (c_api_Table t_))), (3, .im (nI (↑i114 : Int))), (41, .im (nB y141))] [] []) (True) (hT) ?_ (fun hp => ?_)
     ·conv=>whnf
      refine Both.mk ?_ ?_<;>intro b142
      ·replace b142 := beq_tt b142
       obtain ⟨h, b142d⟩ := ctd b142 h
       conv=>whnf
       iterate 3 (refine Both.yes (tt_beq b142) ?_; (conv=>whnf))
       refine Side.mk (by show inR _; unfold inR; omega) ?_
       conv=>whnf
       refine Both.yes (tt_beq b142) ?_
       conv=>whnf
       obtain ⟨e143, he143z, he143, h⟩ := idx_some h
       refine ⟨_, ⟨he143z, map_at he143, rfl⟩, ?_⟩
       conv=>whnf
       iterate 3 (refine Both.yes (tt_beq b142) ?_; (conv=>whnf))
       obtain ⟨c144, hc144, h⟩ := bind_some h
       refine ⟨_, (sp_R01_Compare e143 e132 c144 (fun _ _ => hc144)), ?_⟩
       conv=>whnf
       refine Both.yes (tt_beq b142) ?_
       conv=>whnf
       refine Both.yes b142 ?_
       conv=>whnf
       cases h
       exact Join.mk (eA [])
      ·replace b142 := beq_tf b142
       obtain ⟨h, b142d⟩ := cfd b142 h
       conv=>whnf
       iterate 8 (refine Both.no (ft_beq b142) ?_; (conv=>whnf))
       refine Both.no b142 ?_
       conv=>whnf
       cases h
       exact Join.mk (eA [])
     ·replace h := hk137
      conv=>whnf
      refine Both.mk ?_ ?_<;>intro b145
      ·replace h := cond_t b145 h
       conv=>whnf
       cases h
       have ho130 : _ = _ := ho130
       cases ho130
       replace h : some _ = some _ := hk51
       cases h
       conv=>whnf
       exact ⟨rfl, rfl⟩
      ·replace h := cond_f b145 h
       conv=>whnf
       refine Side.mk (by show inR _; unfold inR; omega) ?_
       conv=>whnf
       cases h
       exact Nxt.mk _ ho130 (eA [])
  ·obtain ⟨h, b131d⟩ := cfd b131 h
   conv=>whnf
   cases h
   have ho130 : _ = _ := ho130
   cases ho130
   exact JoinS.mk' _ rfl (eA [])
 ·rintro ⟨⟩ rfl hp
  replace h := sum_inl hk51
  conv=>whnf
  obtain ⟨oc, hc, hk146⟩ := bind_some h
  clear h
  have h := hc
  clear hc
  refine Cut.mkS oc (Y := Unit) (fun (_ : Unit) => mkSt [] [] []) (fun (_ : Unit) => True) (by rintro ⟨⟩; exact (hT)) ?_ ?_
  ·conv=>whnf
   refine Loops.iter (fun (s : Nat) => R23_suffixes.s4 t_ s) (fun a163 => mkSt [(1, .im (.ref (c_api_Table t_))), (6, .im (nI (↑a163 : Int)))] [] []) (fun a163 => True) h (eA []) (by rintro a163; exact (hT)) ?_
   clear h
   rintro k a163 o hp h ho168
   replace h : R23_suffixes.s4 t_ a163 = some o := h
   unfold R23_suffixes.s4 at h
   conv=>whnf
   refine Both.mk ?_ ?_<;>intro b169
   ·obtain ⟨h, b169d⟩ := ctd b169 h
    conv=>whnf
    obtain ⟨c170, hc170, h⟩ := bind_some h
    refine ⟨_, (sp_R02_Has t_.Suffixes [(↑a163 : Int)] c170 (fun _ _ => hc170)), ?_⟩
    conv=>whnf
    refine Both.mk ?_ ?_<;>intro b171
    ·replace h := cond_t b171 h
     conv=>whnf
     cases h
     have ho168 : _ = _ := ho168
     cases ho168
     replace h : some _ = some _ := hk146
     cases h
     conv=>whnf
     exact ⟨rfl, rfl⟩
    ·replace h := cond_f b171 h
     conv=>whnf
     obtain ⟨c172, h⟩ := chk_some h
     refine Side.mk c172 ?_
     conv=>whnf
     cases h
     exact Nxt.mk _ ho168 (eA [])
   ·obtain ⟨h, b169d⟩ := cfd b169 h
    conv=>whnf
    cases h
    have ho168 : _ = _ := ho168
    cases ho168
    exact JoinS.mk' _ rfl (eA [])
  ·rintro ⟨⟩ rfl hp
   replace h := sum_inl hk146
   conv=>whnf
   cases h
   conv=>whnf
   exact ⟨rfl, rfl⟩
theorem sp_R23_Valid (t_ : T_api_Table) (r : Int) (h : Ok (.agg (c_api_Table t_)) → R23_Valid t_ = some r) : Sp Tryz.prog 18 [.im (.agg (c_api_Table t_))] (.im (nI r)) := by
 refine sp_of rfl [700001] rfl rfl rfl (Nat.le_of_ble_eq_true rfl) rfl fun hk => ?_
 replace h := h hk.1
 have z1 : lZ t_.Prefixes := ok_len (Ok.agg_at hk.1 1 rfl)
 have z2 : lZ t_.Suffixes := ok_len (Ok.agg_at hk.1 2 rfl)
 unfold R23_Valid at h
 conv=>whnf
 obtain ⟨y54, hc, hk52⟩ := bind_some h
 clear h
 have h := hc
 clear hc
 refine Cut.mk (mkSt [(1, .im (.ref (c_api_Table t_))), (12, .im (nB y54))] [] []) (True) (hT) ?_ (fun hp => ?_)
 ·conv=>whnf
  refine Both.mk ?_ ?_<;>intro b55
  ·replace b55 := beq_ff b55
   obtain ⟨h, b55d⟩ := cfd b55 h
   conv=>whnf
   iterate 2 (refine Both.yes (ff_beq b55) ?_; (conv=>whnf))
   refine Both.no b55 ?_
   conv=>whnf
   cases h
   exact Join.mk (eA [])
  ·replace b55 := beq_ft b55
   obtain ⟨h, b55d⟩ := ctd b55 h
   conv=>whnf
   iterate 2 (refine Both.no (tf_beq b55) ?_; (conv=>whnf))
   refine Both.yes b55 ?_
   conv=>whnf
   cases h
   exact Join.mk (eA [])
 ·replace h := hk52
  conv=>whnf
  refine Both.mk ?_ ?_<;>intro b56
  ·replace h := cond_t b56 h
   conv=>whnf
   cases h
   conv=>whnf
   exact ⟨rfl, rfl⟩
  ·replace h := cond_f b56 h
   conv=>whnf
   refine Nf.mk (List.length t_.Prefixes) len_map ?_
   conv=>whnf
   refine Both.mk ?_ ?_<;>intro b57
   ·obtain ⟨h, b57d⟩ := ctd b57 h
    conv=>whnf
    cases h
    conv=>whnf
    exact ⟨rfl, rfl⟩
   ·obtain ⟨h, b57d⟩ := cfd b57 h
    conv=>whnf
    obtain ⟨y61, hc, hk59⟩ := bind_some h
    clear h
    have h := hc
    clear hc
    refine Cut.mk (mkSt [(1, .im (.ref (c_api_Table t_))), (26, .im (nB y61))] [] []) (True) (hT) ?_ (fun hp => ?_)
    ·conv=>whnf
     refine Nf.mk (List.length t_.Prefixes) len_map ?_
     conv=>whnf
     refine Both.mk ?_ ?_<;>intro b62
     ·replace b62 := beq_ff b62
      obtain ⟨h, b62d⟩ := cfd b62 h
      conv=>whnf
      iterate 2 (refine Both.yes (ff_beq b62) ?_; (conv=>whnf))
      refine Nf.mk (List.length t_.Suffixes) len_map ?_
      conv=>whnf
      refine Both.yes (ff_beq b62) ?_
      conv=>whnf
      refine Both.no b62 ?_
      conv=>whnf
      cases h
      exact Join.mk (eA [])
     ·replace b62 := beq_ft b62
      obtain ⟨h, b62d⟩ := ctd b62 h
      conv=>whnf
      iterate 3 (refine Both.no (tf_beq b62) ?_; (conv=>whnf))
      refine Both.yes b62 ?_
      conv=>whnf
      cases h
      exact Join.mk (eA [])
    ·replace h := hk59
     conv=>whnf
     refine Both.mk ?_ ?_<;>intro b63
     ·replace h := cond_t b63 h
      conv=>whnf
      cases h
      conv=>whnf
      exact ⟨rfl, rfl⟩
     ·replace h := cond_f b63 h
      conv=>whnf
      refine Nf.mk (List.length t_.Prefixes) len_map ?_
      conv=>whnf
      obtain ⟨c64, h⟩ := chk_some h
      refine Side.mk c64 ?_
      conv=>whnf
      obtain ⟨c65, h⟩ := chk_some h
      refine Side.mk c65 ?_
      conv=>whnf
      refine Nf.mk (List.length t_.Suffixes) len_map ?_
      conv=>whnf
      obtain ⟨c66, h⟩ := chk_some h
      refine Side.mk c66 ?_
      conv=>whnf
      refine Both.mk ?_ ?_<;>intro b67
      ·obtain ⟨h, b67d⟩ := ctd b67 h
       conv=>whnf
       cases h
       conv=>whnf
       exact ⟨rfl, rfl⟩
      ·obtain ⟨h, b67d⟩ := cfd b67 h
       conv=>whnf
       obtain ⟨c68, hc68, h⟩ := bind_some h
       refine ⟨_, (sp_R23_prefixes t_ c68 (fun _ => hc68)), ?_⟩
       conv=>whnf
       refine Both.mk ?_ ?_<;>intro b69
       ·obtain ⟨h, b69d⟩ := ctd b69 h
        conv=>whnf
        cases h
        conv=>whnf
        exact ⟨rfl, rfl⟩
       ·obtain ⟨h, b69d⟩ := cfd b69 h
        conv=>whnf
        obtain ⟨c70, hc70, h⟩ := bind_some h
        refine ⟨_, (sp_R23_suffixes t_ c70 (fun _ => hc70)), ?_⟩
        conv=>whnf
        refine Both.mk ?_ ?_<;>intro b71
        ·obtain ⟨h, b71d⟩ := ctd b71 h
         conv=>whnf
         cases h
         conv=>whnf
         exact ⟨rfl, rfl⟩
        ·obtain ⟨h, b71d⟩ := cfd b71 h
         conv=>whnf
         obtain ⟨c72, hc72, h⟩ := bind_some h
         refine ⟨_, (sp_R23_longest t_.Prefixes c72 (fun _ => hc72)), ?_⟩
         conv=>whnf
         obtain ⟨c73, hc73, h⟩ := bind_some h
         refine ⟨_, (sp_R23_longest t_.Suffixes c73 (fun _ => hc73)), ?_⟩
         conv=>whnf
         obtain ⟨c74, h⟩ := chk_some h
         refine Side.mk c74 ?_
         conv=>whnf
         refine Both.mk ?_ ?_<;>intro b75
         ·obtain ⟨h, b75d⟩ := ctd b75 h
          conv=>whnf
          cases h
          conv=>whnf
          exact ⟨rfl, rfl⟩
         ·obtain ⟨h, b75d⟩ := cfd b75 h
          conv=>whnf
          cases h
          conv=>whnf
          exact ⟨rfl, rfl⟩
theorem sp_slices_Concat_Sint_int (slices_ : List (List Int)) (r : List Int) (h : Ok (nL (cL cI) slices_) → slices_Concat_Sint_int slices_ = some r) : Sp Tryz.prog 120 [.im (nL (cL cI) slices_)] (.row 3 1 (List.map cI r)) := by
 refine sp_of rfl [4025000] rfl rfl rfl (Nat.le_of_ble_eq_true rfl) rfl fun hk => ?_
 replace h := h hk.1
 have z1 : lZ slices_ := ok_len hk.1
 unfold slices_Concat_Sint_int at h
 conv=>whnf
 refine Nf.mk (List.length slices_) len_map ?_
 conv=>whnf
 obtain ⟨size68, hc, hk51⟩ := bind_some h
 clear h
 have h := hc
 clear hc
 refine Cut.mk (mkSt [(0, .im (nL (cL cI) slices_)), (3, .im (nI (↑size68 : Int)))] [] []) (lZ slices_ ∧ True) ((Holds.avl 0 rfl).and (hT)) ?_ (fun hp => ?_)
 ·conv=>whnf
  refine Loops.iter (fun (s : Nat × Nat) => slices_Concat_Sint_int.s2 slices_ s.1 s.2) (fun (size73, y74) => mkSt [(0, .im (nL (cL cI) slices_)), (3, .im (nI (↑size73 : Int))), (9, .im (nL (cL cI) slices_)), (10, .im (nI (↑(List.length slices_) : Int))), (11, .im (nI (↑y74 : Int)))] [] []) (fun (size73, y74) => lZ slices_ ∧ True) h (eA []) (by rintro ⟨size73, y74⟩; exact ((Holds.avl 0 rfl).and (hT))) ?_
  clear h
  rintro k ⟨size73, y74⟩ o hp h ho79
  replace h : slices_Concat_Sint_int.s2 slices_ size73 y74 = some o := h
  unfold slices_Concat_Sint_int.s2 at h
  obtain ⟨z84, _⟩ := hp
  conv=>whnf
  refine Both.mk ?_ ?_<;>intro b80
  ·obtain ⟨h, b80d⟩ := ctd b80 h
   conv=>whnf
   obtain ⟨e81, he81, h⟩ := idxn_some h
   refine ⟨_, ⟨(by omega), map_at he81, rfl⟩, ?_⟩
   conv=>whnf
   refine Nf.mk (List.length e81) len_map ?_
   conv=>whnf
   obtain ⟨c82, h⟩ := chk_some h
   refine Side.mk c82 ?_
   conv=>whnf
   refine Both.mk ?_ ?_<;>intro b83
   ·obtain ⟨h, b83d⟩ := ctd b83 h
    conv=>whnf
    cases h
   ·obtain ⟨h, b83d⟩ := cfd b83 h
    conv=>whnf
    refine Side.mk (by show inR _; unfold inR; omega) ?_
    conv=>whnf
    cases h
    exact Nxt.mk _ ho79 (eA [])
  ·obtain ⟨h, b80d⟩ := cfd b80 h
   conv=>whnf
   cases h
   have ho79 : _ = _ := ho79
   cases ho79
   exact Join.mk (eA [])
 ·replace h := hk51
  obtain ⟨z85, _⟩ := hp
  conv=>whnf
  obtain ⟨c86, hc86, h⟩ := bind_some h
  refine ⟨_, (sp_lib_Grow_int (↑size68 : Int) c86 (hc86)), ?_⟩
  conv=>whnf
  refine Nf.mk (List.length slices_) len_map ?_
  conv=>whnf
  obtain ⟨y102, hc, hk87⟩ := bind_some h
  clear h
  have h := hc
  clear hc
  refine Cut.mk (mkSt [(6, .osl 64 1)] [(64, .row 3 1 (List.map cI y102))] []) (lZ y102 ∧ True) ((Holds.kdl 64 rfl).and (hT)) ?_ (fun hp => ?_)
  ·conv=>whnf
   refine Loops.iter (fun (s : List Int × Nat) => slices_Concat_Sint_int.s4 slices_ s.1 s.2) (fun (y106, y107) => mkSt [(6, .osl 64 1), (25, .im (nL (cL cI) slices_)), (26, .im (nI (↑(List.length slices_) : Int))), (27, .im (nI (↑y107 : Int)))] [(64, .row 3 1 (List.map cI y106))] []) (fun (y106, y107) => lZ slices_ ∧ lZ y106 ∧ True) h (eA [(64, some 24)]) (by rintro ⟨y106, y107⟩; exact ((Holds.avl 25 rfl).and ((Holds.kdl 64 rfl).and (hT)))) ?_
   clear h
   rintro k ⟨y106, y107⟩ o hp h ho111
   replace h : slices_Concat_Sint_int.s4 slices_ y106 y107 = some o := h
   unfold slices_Concat_Sint_int.s4 at h
   obtain ⟨z115, z116, _⟩ := hp
   conv=>whnf
   refine Both.mk ?_ ?_<;>intro b112
   ·obtain ⟨h, b112d⟩ := ctd b112 h
    conv=>whnf
    obtain ⟨e113, he113, h⟩ := idxn_some h
    refine ⟨_, ⟨(by omega), map_at he113, rfl⟩, ?_⟩
    conv=>whnf
    obtain ⟨c114, h⟩ := chk_some h
    refine Side.mk ⟨rfl, map_len (l := e113) (c := cI) fun _ => rfl, show capOk _ 8 by simpa only [List.length_map, List.length_cons, List.length_nil, Nat.zero_add] using c114⟩ ?_
    conv=>whnf
    refine Nf.mk (List.map cI (y106 ++ e113)) (app_map (l := y106) (m := e113) (c := cI)) ?_
    conv=>whnf
    refine Side.mk (by show inR _; unfold inR; omega) ?_
    conv=>whnf
    cases h
    exact Nxt.mk _ ho111 (eA [(64, some 64)])
   ·obtain ⟨h, b112d⟩ := cfd b112 h
    conv=>whnf
    cases h
    have ho111 : _ = _ := ho111
    cases ho111
    exact Join.mk (eA [(64, some 64)])
  ·replace h := hk87
   obtain ⟨z117, _⟩ := hp
   conv=>whnf
   cases h
   conv=>whnf
   exact Side.mk ⟨rfl, trivial⟩ ⟨rfl, rfl⟩
theorem sp_word_Join (parts_ : List (List Int)) (r : List Int) (h : Ok (nL (cL cI) parts_) → word_Join parts_ = some r) : Sp Tryz.prog 71 [.im (nL (cL cI) parts_)] (.im (nL cI r)) := by
 refine sp_of rfl [] rfl rfl rfl (Nat.le_of_ble_eq_true rfl) rfl fun hk => ?_
 replace h := h hk.1
 have z1 : lZ parts_ := ok_len hk.1
 unfold word_Join at h
 conv=>whnf
 obtain ⟨c51, hc51, h⟩ := bind_some h
 refine ⟨_, (sp_slices_Concat_Sint_int parts_ c51 (fun _ => hc51)).im, ?_⟩
 conv=>whnf
 cases h
 conv=>whnf
 exact ⟨rfl, rfl⟩
theorem sp_slices_BinarySearchFunc_table_finder_api_Trace_Sint (x_ : List T_api_Trace) (target_ : List Int) (cmp_ : T_api_Trace → (List Int) → Option Int) (f2_ : FuncId) (hf2 : ∀ x0 x1 r, cmp_ x0 x1 = some r → Sp Tryz.prog f2_ [.im (.agg (c_api_Trace x0)), .im (nL cI x1)] (.im (nI r))) (r : Int × Bool) (h : Ok (nL c_api_Trace x_) → Ok (nL cI target_) → Ok (.fn f2_ []) → slices_BinarySearchFunc_table_finder_api_Trace_Sint x_ target_ cmp_ = some r) : Sp Tryz.prog 145 [.im (nL c_api_Trace x_), .im (nL cI target_), .im (.fn f2_ [])] (.tup [nI r.1, nB r.2]) := by
 refine sp_of rfl [] rfl rfl rfl (Nat.le_of_ble_eq_true rfl) rfl fun hk => ?_
 replace h := h hk.1 hk.2.1 hk.2.2.1
 have z1 : lZ x_ := ok_len hk.1
 have z2 : lZ target_ := ok_len hk.2.1
 unfold slices_BinarySearchFunc_table_finder_api_Trace_Sint at h
 conv=>whnf
 refine Nf.mk (List.length x_) len_map ?_
 conv=>whnf
 obtain ⟨i82, hc, hk51⟩ := bind_some h
 clear h
 have h := hc
 clear hc
 refine Cut.mk (mkSt [(0, .im (nL c_api_Trace x_)), (1, .im (nL cI target_)), (2, .im (.fn f2_ [])), (8, .im (nI (↑(List.length x_) : Int))), (9, .im (nI i82))] [] []) (lZ x_ ∧ lZ target_ ∧ True) ((Holds.avl 0 rfl).and ((Holds.avl 1 rfl).and (hT))) ?_ (fun hp => ?_)
 ·conv=>whnf
  refine Loops.iter (fun (s : Int × Int) => slices_BinarySearchFunc_table_finder_api_Trace_Sint.s2 x_ target_ cmp_ s.1 s.2) (fun (i90, j91) => mkSt [(0, .im (nL c_api_Trace x_)), (1, .im (nL cI target_)), (2, .im (.fn f2_ [])), (8, .im (nI (↑(List.length x_) : Int))), (9, .im (nI i90)), (10, .im (nI j91))] [] []) (fun (i90, j91) => lZ x_ ∧ lZ target_ ∧ True) h (eA []) (by rintro ⟨i90, j91⟩; exact ((Holds.avl 0 rfl).and ((Holds.avl 1 rfl).and (hT)))) ?_
  clear h
  rintro k ⟨i90, j91⟩ o hp h ho101
  replace h : slices_BinarySearchFunc_table_finder_api_Trace_Sint.s2 x_ target_ cmp_ i90 j91 = some o := h
  unfold slices_BinarySearchFunc_table_finder_api_Trace_Sint.s2 at h
  obtain ⟨z111, z112, _⟩ := hp
  conv=>whnf
  refine Both.mk ?_ ?_<;>intro b102
  ·obtain ⟨h, b102d⟩ := ctd b102 h
   conv=>whnf
   obtain ⟨c103, h⟩ := chk_some h
   refine Side.mk c103 ?_
   conv=>whnf
   obtain ⟨c104, h⟩ := chk_some h
   refine Side.mk c104 ?_
   conv=>whnf
   obtain ⟨c105, h⟩ := chk_some h
   refine Side.mk ⟨⟨by show (0 : Int) ≤ (i90 + j91) / 2 ^ 1; omega, by show (i90 + j91) / 2 ^ 1 ≤ (18446744073709551615 : Int); omega⟩, c105.1, by decide, by decide⟩ ?_
   conv=>whnf
   obtain ⟨c106, h⟩ := chk_some h
   refine Side.mk c106 ?_
   conv=>whnf
   obtain ⟨e107, he107z, he107, h⟩ := idx_some h
   refine ⟨_, ⟨he107z, map_at he107, rfl⟩, ?_⟩
   conv=>whnf
   obtain ⟨c108, hc108, h⟩ := bind_some h
   refine ⟨_, hf2 e107 target_ c108 hc108, ?_⟩
   conv=>whnf
   refine Both.mk ?_ ?_<;>intro b109
   ·obtain ⟨h, b109d⟩ := ctd b109 h
    conv=>whnf
    obtain ⟨c110, h⟩ := chk_some h
    refine Side.mk c110 ?_
    conv=>whnf
    cases h
    exact Nxt.mk _ ho101 (eA [])
   ·obtain ⟨h, b109d⟩ := cfd b109 h
    conv=>whnf
    cases h
    exact Nxt.mk _ ho101 (eA [])
  ·obtain ⟨h, b102d⟩ := cfd b102 h
   conv=>whnf
   cases h
   have ho101 : _ = _ := ho101
   cases ho101
   exact Join.mk (eA [])
 ·replace h := hk51
  obtain ⟨z113, z114, _⟩ := hp
  conv=>whnf
  obtain ⟨y120, hc, hk116⟩ := bind_some h
  clear h
  have h := hc
  clear hc
  refine Cut.mk (mkSt [(6, .im (nI i82)), (7, .im (nB y120))] [] []) (True) (hT) ?_ (fun hp => ?_)
  ·conv=>whnf
   refine Both.mk ?_ ?_<;>intro b121
   ·replace b121 := beq_tt b121
    obtain ⟨h, b121d⟩ := ctd b121 h
    conv=>whnf
    iterate 3 (refine Both.yes (tt_beq b121) ?_; (conv=>whnf))
    obtain ⟨e122, he122z, he122, h⟩ := idx_some h
    refine ⟨_, ⟨he122z, map_at he122, rfl⟩, ?_⟩
    conv=>whnf
    iterate 3 (refine Both.yes (tt_beq b121) ?_; (conv=>whnf))
    obtain ⟨c123, hc123, h⟩ := bind_some h
    refine ⟨_, hf2 e122 target_ c123 hc123, ?_⟩
    conv=>whnf
    refine Both.yes (tt_beq b121) ?_
    conv=>whnf
    refine Both.yes b121 ?_
    conv=>whnf
    cases h
    exact Join.mk (eA [])
   ·replace b121 := beq_tf b121
    obtain ⟨h, b121d⟩ := cfd b121 h
    conv=>whnf
    iterate 7 (refine Both.no (ft_beq b121) ?_; (conv=>whnf))
    refine Both.no b121 ?_
    conv=>whnf
    cases h
    exact Join.mk (eA [])
  ·replace h := hk116
   conv=>whnf
   cases h
   conv=>whnf
   exact ⟨rfl, rfl⟩
theorem sp_word_Common (a_ : List Int) (b_ : List Int) (r : Int) (h : Ok (nL cI a_) → Ok (nL cI b_) → word_Common a_ b_ = some r) : Sp Tryz.prog 151 [.im (nL cI a_), .im (nL cI b_)] (.im (nI r)) := by
 refine sp_of rfl [] rfl rfl rfl (Nat.le_of_ble_eq_true rfl) rfl fun hk => ?_
 replace h := h hk.1 hk.2.1
 have z1 : lZ a_ := ok_len hk.1
 have z2 : lZ b_ := ok_len hk.2.1
 unfold word_Common at h
 conv=>whnf
 refine Nf.mk (List.length a_) len_map ?_
 conv=>whnf
 refine Nf.mk (List.length b_) len_map ?_
 conv=>whnf
 obtain ⟨oc, hc, hk51⟩ := bind_some h
 clear h
 have h := hc
 clear hc
 refine Cut.mkS oc (Y := Unit) (fun (_ : Unit) => mkSt [(0, .im (nL cI a_)), (1, .im (nL cI b_))] [] []) (fun (_ : Unit) => lZ a_ ∧ lZ b_ ∧ True) (by rintro ⟨⟩; exact ((Holds.avl 0 rfl).and ((Holds.avl 1 rfl).and (hT)))) ?_ ?_
 ·conv=>whnf
  refine Loops.iter (fun (s : Nat) => word_Common.s2 a_ b_ s) (fun y72 => mkSt [(0, .im (nL cI a_)), (1, .im (nL cI b_)), (10, .im (nI (min (↑(List.length a_) : Int) (↑(List.length b_) : Int)))), (11, .im (nI (↑y72 : Int)))] [] []) (fun y72 => lZ a_ ∧ lZ b_ ∧ True) h (eA []) (by rintro y72; exact ((Holds.avl 0 rfl).and ((Holds.avl 1 rfl).and (hT)))) ?_
  clear h
  rintro k y72 o hp h ho77
  replace h : word_Common.s2 a_ b_ y72 = some o := h
  unfold word_Common.s2 at h
  obtain ⟨z82, z83, _⟩ := hp
  conv=>whnf
  refine Both.mk ?_ ?_<;>intro b78
  ·obtain ⟨h, b78d⟩ := ctd b78 h
   conv=>whnf
   obtain ⟨e79, he79, h⟩ := idxn_some h
   refine ⟨_, ⟨(by omega), map_at he79, rfl⟩, ?_⟩
   conv=>whnf
   obtain ⟨e80, he80, h⟩ := idxn_some h
   refine ⟨_, ⟨(by omega), map_at he80, rfl⟩, ?_⟩
   conv=>whnf
   refine Both.mk ?_ ?_<;>intro b81
   ·obtain ⟨h, b81d⟩ := ctd b81 h
    conv=>whnf
    cases h
    have ho77 : _ = _ := ho77
    cases ho77
    replace h : some _ = some _ := hk51
    cases h
    conv=>whnf
    exact ⟨rfl, rfl⟩
   ·obtain ⟨h, b81d⟩ := cfd b81 h
    conv=>whnf
    refine Side.mk (by show inR _; unfold inR; omega) ?_
    conv=>whnf
    cases h
    exact Nxt.mk _ ho77 (eA [])
  ·obtain ⟨h, b78d⟩ := cfd b78 h
   conv=>whnf
   cases h
   have ho77 : _ = _ := ho77
   cases ho77
   exact JoinS.mk' _ rfl (eA [])
 ·rintro ⟨⟩ rfl hp
  replace h := sum_inl hk51
  obtain ⟨z84, z85, _⟩ := hp
  conv=>whnf
  refine Nf.mk (List.length a_) len_map ?_
  conv=>whnf
  refine Nf.mk (List.length b_) len_map ?_
  conv=>whnf
  cases h
  conv=>whnf
  exact ⟨rfl, rfl⟩
theorem sp_word_HasPrefix (w_ : List Int) (p_ : List Int) (r : Bool) (h : Ok (nL cI w_) → Ok (nL cI p_) → word_HasPrefix w_ p_ = some r) : Sp Tryz.prog 123 [.im (nL cI w_), .im (nL cI p_)] (.im (nB r)) := by
 refine sp_of rfl [] rfl rfl rfl (Nat.le_of_ble_eq_true rfl) rfl fun hk => ?_
 replace h := h hk.1 hk.2.1
 have z1 : lZ w_ := ok_len hk.1
 have z2 : lZ p_ := ok_len hk.2.1
 unfold word_HasPrefix at h
 conv=>whnf
 obtain ⟨c51, hc51, h⟩ := bind_some h
 refine ⟨_, (sp_word_Common w_ p_ c51 (fun _ _ => hc51)), ?_⟩
 conv=>whnf
 refine Nf.mk (List.length p_) len_map ?_
 conv=>whnf
 cases h
 conv=>whnf
 exact ⟨rfl, rfl⟩
theorem sp_word_Lex (a_ : List Int) (b_ : List Int) (r : Int) (h : Ok (nL cI a_) → Ok (nL cI b_) → word_Lex a_ b_ = some r) : Sp Tryz.prog 119 [.im (nL cI a_), .im (nL cI b_)] (.im (nI r)) := by
 refine sp_of rfl [] rfl rfl rfl (Nat.le_of_ble_eq_true rfl) rfl fun hk => ?_
 replace h := h hk.1 hk.2.1
 have z1 : lZ a_ := ok_len hk.1
 have z2 : lZ b_ := ok_len hk.2.1
 unfold word_Lex at h
 conv=>whnf
 obtain ⟨c51, hc51, h⟩ := bind_some h
 refine ⟨_, (sp_slices_Compare_Sint_int a_ b_ c51 (fun _ _ => hc51)), ?_⟩
 conv=>whnf
 cases h
 conv=>whnf
 exact ⟨rfl, rfl⟩
theorem sp_table_finder_answer_1 (t_ : T_api_Trace) (w_ : List Int) (r : Int) (h : Ok (.agg (c_api_Trace t_)) → Ok (nL cI w_) → table_finder_answer_1 t_ w_ = some r) : Sp Tryz.prog 146 [.im (.agg (c_api_Trace t_)), .im (nL cI w_)] (.im (nI r)) := by
 refine sp_of rfl [700002] rfl rfl rfl (Nat.le_of_ble_eq_true rfl) rfl fun hk => ?_
 replace h := h hk.1 hk.2.1
 have z1 : lZ t_.In := ok_len (Ok.agg_at hk.1 0 rfl)
 have z2 : lZ t_.Out := ok_len (Ok.agg_at hk.1 1 rfl)
 have z3 : lZ w_ := ok_len hk.2.1
 unfold table_finder_answer_1 at h
 conv=>whnf
 obtain ⟨c51, hc51, h⟩ := bind_some h
 refine ⟨_, (sp_word_Lex t_.In w_ c51 (fun _ _ => hc51)), ?_⟩
 conv=>whnf
 cases h
 conv=>whnf
 exact ⟨rfl, rfl⟩
theorem sp_table_finder_answer (f_ : List T_api_Trace) (w_ : List Int) (r : List Int × Bool) (h : Ok (nL c_api_Trace f_) → Ok (nL cI w_) → table_finder_answer f_ w_ = some r) : Sp Tryz.prog 121 [.im (nL c_api_Trace f_), .im (nL cI w_)] (.tup [nL cI r.1, nB r.2]) := by
 refine sp_of rfl [] rfl rfl rfl (Nat.le_of_ble_eq_true rfl) rfl fun hk => ?_
 replace h := h hk.1 hk.2.1
 have z1 : lZ f_ := ok_len hk.1
 have z2 : lZ w_ := ok_len hk.2.1
 unfold table_finder_answer at h
 conv=>whnf
 refine Nf.mk (List.length w_) len_map ?_
 conv=>whnf
 refine Both.mk ?_ ?_<;>intro b51
 ·obtain ⟨h, b51d⟩ := ctd b51 h
  conv=>whnf
  cases h
  conv=>whnf
  exact ⟨rfl, rfl⟩
 ·obtain ⟨h, b51d⟩ := cfd b51 h
  conv=>whnf
  obtain ⟨c52, hc52, h⟩ := bind_some h
  refine ⟨_, (sp_slices_BinarySearchFunc_table_finder_api_Trace_Sint f_ w_ (fun u0 u1 => table_finder_answer_1 u0 u1) 146 (fun u0 u1 r h => (sp_table_finder_answer_1 u0 u1 r (fun _ _ => h))) c52 (fun _ _ _ => hc52)), ?_⟩
  conv=>whnf
  obtain ⟨y60, hc, hk54⟩ := bind_some h
  clear h
  have h := hc
  clear hc
  refine Cut.mk (mkSt [(0, .im (nL c_api_Trace f_)), (1, .im (nL cI w_)), (6, .im (nI c52.1)), (41, .im (nB y60))] [] []) (lZ f_ ∧ lZ w_ ∧ True) ((Holds.avl 0 rfl).and ((Holds.avl 1 rfl).and (hT))) ?_ (fun hp => ?_)
  ·conv=>whnf
   refine Nf.mk (List.length f_) len_map ?_
   conv=>whnf
   refine Both.mk ?_ ?_<;>intro b61
   ·replace b61 := beq_ff b61
    obtain ⟨h, b61d⟩ := cfd b61 h
    conv=>whnf
    iterate 2 (refine Both.yes (ff_beq b61) ?_; (conv=>whnf))
    obtain ⟨e62, he62z, he62, h⟩ := idx_some h
    refine ⟨_, ⟨he62z, map_at he62, rfl⟩, ?_⟩
    conv=>whnf
    iterate 4 (refine Both.yes (ff_beq b61) ?_; (conv=>whnf))
    obtain ⟨c63, hc63, h⟩ := bind_some h
    refine ⟨_, (sp_word_HasPrefix e62.In w_ c63 (fun _ _ => hc63)), ?_⟩
    conv=>whnf
    refine Both.yes (ff_beq b61) ?_
    conv=>whnf
    refine Both.no b61 ?_
    conv=>whnf
    refine Both.mk ?_ ?_<;>intro b64
    ·replace b64 := beq_ff b64
     replace h := cond_f b64 h
     conv=>whnf
     iterate 2 (refine Both.yes (ff_beq b64) ?_; (conv=>whnf))
     obtain ⟨e65, he65z, he65, h⟩ := idx_some h
     refine ⟨_, ⟨he65z, map_at he65, rfl⟩, ?_⟩
     conv=>whnf
     iterate 3 (refine Both.yes (ff_beq b64) ?_; (conv=>whnf))
     refine Nf.mk (List.length e65.Out) len_map ?_
     conv=>whnf
     iterate 2 (refine Both.yes (ff_beq b64) ?_; (conv=>whnf))
     refine Nf.mk (List.length w_) len_map ?_
     conv=>whnf
     refine Both.yes (ff_beq b64) ?_
     conv=>whnf
     refine Both.no b64 ?_
     conv=>whnf
     cases h
     exact Join.mk (eA [])
    ·replace b64 := beq_ft b64
     replace h := cond_t b64 h
     conv=>whnf
     iterate 8 (refine Both.no (tf_beq b64) ?_; (conv=>whnf))
     refine Both.yes b64 ?_
     conv=>whnf
     cases h
     exact Join.mk (eA [])
   ·replace b61 := beq_ft b61
    obtain ⟨h, b61d⟩ := ctd b61 h
    conv=>whnf
    iterate 7 (refine Both.no (tf_beq b61) ?_; (conv=>whnf))
    refine Both.yes b61 ?_
    conv=>whnf
    iterate 9 (refine Both.no rfl ?_; (conv=>whnf))
    refine Both.yes rfl ?_
    conv=>whnf
    cases h
    exact Join.mk (eA [])
  ·replace h := hk54
   obtain ⟨z66, z67, _⟩ := hp
   conv=>whnf
   refine Both.mk ?_ ?_<;>intro b68
   ·replace h := cond_t b68 h
    conv=>whnf
    cases h
    conv=>whnf
    exact ⟨rfl, rfl⟩
   ·replace h := cond_f b68 h
    conv=>whnf
    obtain ⟨e69, he69z, he69, h⟩ := idx_some h
    refine ⟨_, ⟨he69z, map_at he69, rfl⟩, ?_⟩
    conv=>whnf
    refine Nf.mk (List.length w_) len_map ?_
    conv=>whnf
    obtain ⟨c70, h⟩ := chk_some h
    refine Side.mk (show (0 : Int) ≤ (0 : Int) ∧ (0 : Int) ≤ (↑(List.length w_) : Int) ∧ (↑(List.length w_) : Int) ≤ (↑(List.length (List.map cI e69.Out)) : Int) ∧ (∀ e ∈ List.map cI e69.Out, List.length e = 1) from ⟨by omega, by first | omega | (simp only [List.length_map]; omega), by first | omega | (simp only [List.length_map]; omega), map_len fun _ => rfl⟩) ?_
    conv=>whnf
    refine Nf.mk (List.map cI (List.take (List.length w_) e69.Out)) take_map ?_
    conv=>whnf
    cases h
    conv=>whnf
    exact ⟨rfl, rfl⟩
theorem sp_table_finder_row (f_ : List T_api_Trace) (t_ : T_api_Table) (w_ : List Int) (r : List (List Int) × Bool) (h : Ok (nL c_api_Trace f_) → Ok (.agg (c_api_Table t_)) → Ok (nL cI w_) → table_finder_row f_ t_ w_ = some r) : Sp Tryz.prog 80 [.im (nL c_api_Trace f_), .im (.agg (c_api_Table t_)), .im (nL cI w_)] (.tup [nL (cL cI) r.1, nB r.2]) := by
 refine sp_of rfl [700004] rfl rfl rfl (Nat.le_of_ble_eq_true rfl) rfl fun hk => ?_
 replace h := h hk.1 hk.2.1 hk.2.2.1
 have z1 : lZ f_ := ok_len hk.1
 have z2 : lZ t_.Prefixes := ok_len (Ok.agg_at hk.2.1 1 rfl)
 have z3 : lZ t_.Suffixes := ok_len (Ok.agg_at hk.2.1 2 rfl)
 have z4 : lZ w_ := ok_len hk.2.2.1
 unfold table_finder_row at h
 conv=>whnf
 refine Nf.mk (List.length t_.Suffixes) len_map ?_
 conv=>whnf
 obtain ⟨c51, h⟩ := chk_some h
 refine Side.mk c51 ?_
 conv=>whnf
 refine Nf.mk (List.map (cL cI) []) rfl ?_
 conv=>whnf
 refine Nf.mk (List.length t_.Suffixes) len_map ?_
 conv=>whnf
 obtain ⟨oc, hc, hk52⟩ := bind_some h
 clear h
 have h := hc
 clear hc
 refine Cut.mkS oc (Y := List (List Int)) (fun y84 => mkSt [(8, .osl 64 1)] [(64, .row 38 1 (List.map (cL cI) y84))] []) (fun y84 => lZ y84 ∧ True) (by rintro y84; exact ((Holds.kdl 64 rfl).and (hT))) ?_ ?_
 ·conv=>whnf
  refine Loops.iter (fun (s : List (List Int) × Nat) => table_finder_row.s2 f_ t_ w_ s.1 s.2) (fun (y93, y94) => mkSt [(0, .im (nL c_api_Trace f_)), (2, .im (nL cI w_)), (8, .osl 64 1), (18, .im (nL (cL cI) t_.Suffixes)), (19, .im (nI (↑(List.length t_.Suffixes) : Int))), (20, .im (nI (↑y94 : Int)))] [(64, .row 38 1 (List.map (cL cI) y93))] []) (fun (y93, y94) => lZ f_ ∧ lZ w_ ∧ lZ t_.Suffixes ∧ lZ y93 ∧ True) h (eA [(64, some 16)]) (by rintro ⟨y93, y94⟩; exact ((Holds.avl 0 rfl).and ((Holds.avl 2 rfl).and ((Holds.avl 18 rfl).and ((Holds.kdl 64 rfl).and (hT)))))) ?_
  clear h
  rintro k ⟨y93, y94⟩ o hp h ho103
  replace h : table_finder_row.s2 f_ t_ w_ y93 y94 = some o := h
  unfold table_finder_row.s2 at h
  obtain ⟨z112, z113, z114, z115, _⟩ := hp
  conv=>whnf
  refine Both.mk ?_ ?_<;>intro b104
  ·obtain ⟨h, b104d⟩ := ctd b104 h
   conv=>whnf
   obtain ⟨e105, he105, h⟩ := idxn_some h
   refine ⟨_, ⟨(by omega), map_at he105, rfl⟩, ?_⟩
   conv=>whnf
   obtain ⟨c106, hc106, h⟩ := bind_some h
   refine ⟨_, (sp_word_Join [w_, e105] c106 (fun _ => hc106)), ?_⟩
   conv=>whnf
   obtain ⟨c107, hc107, h⟩ := bind_some h
   refine ⟨_, (sp_table_finder_answer f_ c106 c107 (fun _ _ => hc107)), ?_⟩
   conv=>whnf
   refine Both.mk ?_ ?_<;>intro b108
   ·replace h := cond_t b108 h
    conv=>whnf
    cases h
    have ho103 : _ = _ := ho103
    cases ho103
    replace h : some _ = some _ := hk52
    cases h
    conv=>whnf
    exact ⟨rfl, rfl⟩
   ·replace h := cond_f b108 h
    conv=>whnf
    refine Nf.mk (List.length w_) len_map ?_
    conv=>whnf
    obtain ⟨c109, h⟩ := chk_some h
    refine Side.mk (show (0 : Int) ≤ (↑(List.length w_) : Int) ∧ (↑(List.length w_) : Int) ≤ (↑(List.length (List.map cI c107.1)) : Int) ∧ (↑(List.length (List.map cI c107.1)) : Int) ≤ (↑(List.length (List.map cI c107.1)) : Int) ∧ (∀ e ∈ List.map cI c107.1, List.length e = 1) from ⟨by omega, by first | omega | (simp only [List.length_map]; omega), by first | omega | (simp only [List.length_map]; omega), map_len fun _ => rfl⟩) ?_
    conv=>whnf
    refine Nf.mk (List.map cI (List.drop (List.length w_) c107.1)) drop_map ?_
    conv=>whnf
    obtain ⟨c110, hc110, h⟩ := bind_some h
    refine ⟨_, (sp_lib_Clone_int (List.drop (List.length w_) c107.1) c110 (hc110)).im, ?_⟩
    conv=>whnf
    obtain ⟨c111, h⟩ := chk_some h
    refine Side.mk ⟨rfl, map_len (l := [c110]) (c := cL cI) fun _ => rfl, show capOk _ 24 by simpa only [List.length_map, List.length_cons, List.length_nil, Nat.zero_add] using c111⟩ ?_
    conv=>whnf
    refine Nf.mk (List.map (cL cI) (y93 ++ [c110])) (app_map (l := y93) (m := [c110]) (c := cL cI)) ?_
    conv=>whnf
    refine Side.mk (by show inR _; unfold inR; omega) ?_
    conv=>whnf
    cases h
    exact Nxt.mk _ ho103 (eA [(64, some 64)])
  ·obtain ⟨h, b104d⟩ := cfd b104 h
   conv=>whnf
   cases h
   have ho103 : _ = _ := ho103
   cases ho103
   exact JoinS.mk' _ rfl (eA [(64, some 64)])
 ·rintro y84 rfl hp
  replace h := sum_inl hk52
  obtain ⟨z116, _⟩ := hp
  conv=>whnf
  cases h
  conv=>whnf
  exact Side.mk ⟨rfl, trivial⟩ ⟨rfl, rfl⟩
theorem sp_table_check (t_ : T_api_Table) (o_ : T_api_Obs) (r : Int) (h : Ok (.agg (c_api_Table t_)) → Ok (.agg (c_api_Obs o_)) → table_check t_ o_ = some r) : Sp Tryz.prog 68 [.im (.agg (c_api_Table t_)), .im (.agg (c_api_Obs o_))] (.im (nI r)) := by
 refine sp_of rfl [700002, 700003] rfl rfl rfl (Nat.le_of_ble_eq_true rfl) rfl fun hk => ?_
 replace h := h hk.1 hk.2.1
 have z1 : lZ t_.Prefixes := ok_len (Ok.agg_at hk.1 1 rfl)
 have z2 : lZ t_.Suffixes := ok_len (Ok.agg_at hk.1 2 rfl)
 have z3 : lZ o_.Traces := ok_len (Ok.agg_at hk.2.1 1 rfl)
 unfold table_check at h
 conv=>whnf
 obtain ⟨c51, hc51, h⟩ := bind_some h
 refine ⟨_, (sp_table_Valid t_ c51 (fun _ => hc51)), ?_⟩
 conv=>whnf
 refine Both.mk ?_ ?_<;>intro b52
 ·obtain ⟨h, b52d⟩ := ctd b52 h
  conv=>whnf
  cases h
  conv=>whnf
  exact ⟨rfl, rfl⟩
 ·obtain ⟨h, b52d⟩ := cfd b52 h
  conv=>whnf
  refine Both.mk ?_ ?_<;>intro b53
  ·obtain ⟨h, b53d⟩ := ctd b53 h
   conv=>whnf
   cases h
   conv=>whnf
   exact ⟨rfl, rfl⟩
  ·obtain ⟨h, b53d⟩ := cfd b53 h
   conv=>whnf
   cases h
   conv=>whnf
   exact ⟨rfl, rfl⟩
theorem sp_table_find (o_ : T_api_Obs) (r : List T_api_Trace) (h : Ok (.agg (c_api_Obs o_)) → table_find o_ = some r) : Sp Tryz.prog 69 [.im (.agg (c_api_Obs o_))] (.row 90 2 (List.map c_api_Trace r)) := by
 refine sp_of rfl [9000, 700001, 2009000] rfl rfl rfl (Nat.le_of_ble_eq_true rfl) rfl fun hk => ?_
 replace h := h hk.1
 have z1 : lZ o_.Traces := ok_len (Ok.agg_at hk.1 1 rfl)
 unfold table_find at h
 conv=>whnf
 obtain ⟨c51, hc51, h⟩ := bind_some h
 refine ⟨_, (sp_lib_Clone_traces o_.Traces c51 (hc51)), ?_⟩
 conv=>whnf
 refine Side.mk ⟨rfl, trivial⟩ ?_
 conv=>whnf
 obtain ⟨c52, hc52, h⟩ := bind_some h
 refine ⟨_, (sp_lib_SortFunc_finder c51 (fun u0 u1 => table_find_1 u0 u1) 118 cmpE_table_find_1 c52 (hc52)), ?_⟩
 conv=>whnf
 cases h
 conv=>whnf
 exact Side.mk ⟨rfl, trivial⟩ ⟨rfl, rfl⟩
theorem sp_R01_SameWords (a_ : List (List Int)) (b_ : List (List Int)) (r : Bool) (h : Ok (nL (cL cI) a_) → Ok (nL (cL cI) b_) → R01_SameWords a_ b_ = some r) : Sp Tryz.prog 26 [.im (nL (cL cI) a_), .im (nL (cL cI) b_)] (.im (nB r)) := by
 refine sp_of rfl [] rfl rfl rfl (Nat.le_of_ble_eq_true rfl) rfl fun hk => ?_
 replace h := h hk.1 hk.2.1
 have z1 : lZ a_ := ok_len hk.1
 have z2 : lZ b_ := ok_len hk.2.1
 unfold R01_SameWords at h
 conv=>whnf
 refine Nf.mk (List.length a_) len_map ?_
 conv=>whnf
 refine Nf.mk (List.length b_) len_map ?_
 conv=>whnf
 refine Both.mk ?_ ?_<;>intro b51
 ·obtain ⟨h, b51d⟩ := ctd b51 h
  conv=>whnf
  cases h
  conv=>whnf
  exact ⟨rfl, rfl⟩
 ·obtain ⟨h, b51d⟩ := cfd b51 h
  conv=>whnf
  obtain ⟨oc, hc, hk52⟩ := bind_some h
  clear h
  have h := hc
  clear hc
  refine Cut.mkS oc (Y := Unit) (fun (_ : Unit) => mkSt [] [] []) (fun (_ : Unit) => True) (by rintro ⟨⟩; exact (hT)) ?_ ?_
  ·conv=>whnf
   refine Loops.iter (fun (s : Nat) => R01_SameWords.s2 a_ b_ s) (fun i77 => mkSt [(0, .im (nL (cL cI) a_)), (1, .im (nL (cL cI) b_)), (5, .im (nI (↑i77 : Int)))] [] []) (fun i77 => lZ a_ ∧ lZ b_ ∧ True) h (eA []) (by rintro i77; exact ((Holds.avl 0 rfl).and ((Holds.avl 1 rfl).and (hT)))) ?_
   clear h
   rintro k i77 o hp h ho83
   replace h : R01_SameWords.s2 a_ b_ i77 = some o := h
   unfold R01_SameWords.s2 at h
   obtain ⟨z89, z90, _⟩ := hp
   conv=>whnf
   refine Nf.mk (List.length a_) len_map ?_
   conv=>whnf
   refine Both.mk ?_ ?_<;>intro b84
   ·obtain ⟨h, b84d⟩ := ctd b84 h
    conv=>whnf
    obtain ⟨e85, he85, h⟩ := idxn_some h
    refine ⟨_, ⟨(by omega), map_at he85, rfl⟩, ?_⟩
    conv=>whnf
    obtain ⟨e86, he86, h⟩ := idxn_some h
    refine ⟨_, ⟨(by omega), map_at he86, rfl⟩, ?_⟩
    conv=>whnf
    obtain ⟨c87, hc87, h⟩ := bind_some h
    refine ⟨_, (sp_R01_Same e85 e86 c87 (fun _ _ => hc87)), ?_⟩
    conv=>whnf
    refine Both.mk ?_ ?_<;>intro b88
    ·replace h := cond_t b88 h
     conv=>whnf
     cases h
     have ho83 : _ = _ := ho83
     cases ho83
     replace h : some _ = some _ := hk52
     cases h
     conv=>whnf
     exact ⟨rfl, rfl⟩
    ·replace h := cond_f b88 h
     conv=>whnf
     refine Side.mk (by show inR _; unfold inR; omega) ?_
     conv=>whnf
     cases h
     exact Nxt.mk _ ho83 (eA [])
   ·obtain ⟨h, b84d⟩ := cfd b84 h
    conv=>whnf
    cases h
    have ho83 : _ = _ := ho83
    cases ho83
    exact JoinS.mk' _ rfl (eA [])
  ·rintro ⟨⟩ rfl hp
   replace h := sum_inl hk52
   conv=>whnf
   cases h
   conv=>whnf
   exact ⟨rfl, rfl⟩
theorem sp_table_extended (w_ : List Int) (a_ : Int) (r : List Int) (h : Ok (nL cI w_) → Ok (nI a_) → table_extended w_ a_ = some r) : Sp Tryz.prog 73 [.im (nL cI w_), .im (nI a_)] (.im (nL cI r)) := by
 refine sp_of rfl [] rfl rfl rfl (Nat.le_of_ble_eq_true rfl) rfl fun hk => ?_
 replace h := h hk.1 hk.2.1
 have z1 : lZ w_ := ok_len hk.1
 unfold table_extended at h
 conv=>whnf
 obtain ⟨c51, hc51, h⟩ := bind_some h
 refine ⟨_, (sp_word_Join [w_, [a_]] c51 (fun _ => hc51)), ?_⟩
 conv=>whnf
 cases h
 conv=>whnf
 exact ⟨rfl, rfl⟩
theorem sp_wordset_ordered_1 (a_ : List Int) (b_ : List Int) (p2_ : (List Int) → (List Int) → Option Int) (f2_ : FuncId) (hf2 : ∀ x0 x1 r, p2_ x0 x1 = some r → Sp Tryz.prog f2_ [.im (nL cI x0), .im (nL cI x1)] (.im (nI r))) (r : Bool) (h : Ok (nL cI a_) → Ok (nL cI b_) → Ok (.ref [.fn f2_ []]) → wordset_ordered_1 a_ b_ p2_ = some r) : Sp Tryz.prog 150 [.im (nL cI a_), .im (nL cI b_), .im (.ref [.fn f2_ []])] (.im (nB r)) := by
 refine sp_of rfl [] rfl rfl rfl (Nat.le_of_ble_eq_true rfl) rfl fun hk => ?_
 replace h := h hk.1 hk.2.1 hk.2.2.1
 have z1 : lZ a_ := ok_len hk.1
 have z2 : lZ b_ := ok_len hk.2.1
 unfold wordset_ordered_1 at h
 conv=>whnf
 obtain ⟨c51, hc51, h⟩ := bind_some h
 refine ⟨_, hf2 a_ b_ c51 hc51, ?_⟩
 conv=>whnf
 cases h
 conv=>whnf
 exact ⟨rfl, rfl⟩
theorem sp_slices_CompactFunc_SSint_Sint_n1 (s_ : List (List Int)) (eq_ : (List Int) → (List Int) → Option Bool) (f1_ : FuncId) (k1_0 : IV) (hk1_0 : nz k1_0 = k1_0) (hf1 : ∀ x0 x1 r, eq_ x0 x1 = some r → Sp Tryz.prog f1_ [.im (nL cI x0), .im (nL cI x1), .im k1_0] (.im (nB r))) (r : List (List Int)) (h : OkL (List.map (cL cI) s_) → Ok (.fn f1_ [k1_0]) → slices_CompactFunc_SSint_Sint_n1 s_ eq_ = some r) : Sp Tryz.prog 149 [.row 38 1 (List.map (cL cI) s_), .im (.fn f1_ [k1_0])] (.row 38 1 (List.map (cL cI) r)) := by
 refine sp_of rfl [] rfl rfl rfl (Nat.le_of_ble_eq_true rfl) rfl fun hk => ?_
 replace h := h hk.1 hk.2.1
 have z1 : lZ s_ := okl_len hk.1
 unfold slices_CompactFunc_SSint_Sint_n1 at h
 conv=>whnf
 refine Side.mk rfl ?_
 conv=>whnf
 refine Nf.mk (List.length s_) len_map ?_
 conv=>whnf
 refine Both.mk ?_ ?_<;>intro b51
 ·obtain ⟨h, b51d⟩ := ctd b51 h
  conv=>whnf
  cases h
  conv=>whnf
  exact Side.mk ⟨rfl, trivial⟩ ⟨rfl, rfl⟩
 ·obtain ⟨h, b51d⟩ := cfd b51 h
  conv=>whnf
  obtain ⟨oc, hc, hk52⟩ := bind_some h
  clear h
  have h := hc
  clear hc
  refine Cut.mkS oc (Y := Unit) (fun (_ : Unit) => mkSt [(0, .osl 66 1)] [(66, .row 38 1 (List.map (cL cI) s_))] []) (fun (_ : Unit) => lZ s_ ∧ True) (by rintro ⟨⟩; exact ((Holds.kdl 66 rfl).and (hT))) ?_ ?_
  ·conv=>whnf
   refine Loops.iter (fun (s : Nat) => slices_CompactFunc_SSint_Sint_n1.s20 s_ eq_ s) (fun k356 => mkSt [(0, .osl 66 1), (1, .im (.fn f1_ [k1_0])), (5, .im (nI (↑k356 : Int)))] [(66, .row 38 1 (List.map (cL cI) s_))] []) (fun k356 => lZ s_ ∧ True) h (eA [(66, some 0)]) (by rintro k356; exact ((Holds.kdl 66 rfl).and (hT))) ?_
   clear h
   rintro k k356 o hp h ho432
   replace h : slices_CompactFunc_SSint_Sint_n1.s20 s_ eq_ k356 = some o := h
   unfold slices_CompactFunc_SSint_Sint_n1.s20 at h
   obtain ⟨z508, _⟩ := hp
   conv=>whnf
   refine Side.mk rfl ?_
   conv=>whnf
   refine Nf.mk (List.length s_) len_map ?_
   conv=>whnf
   refine Both.mk ?_ ?_<;>intro b433
   ·obtain ⟨h, b433d⟩ := ctd b433 h
    conv=>whnf
    obtain ⟨e434, he434, h⟩ := idxn_some h
    refine Side.mk ⟨(by omega), rfl, map_lt he434⟩ ?_
    conv=>whnf
    refine ⟨_, _, ⟨rfl, map_at he434, rfl, rfl⟩, ?_⟩
    conv=>whnf
    refine Side.mk (by show inR _; unfold inR; omega) ?_
    conv=>whnf
    obtain ⟨e435, he435z, he435, h⟩ := idx_some h
    refine Side.mk ⟨he435z, rfl, map_lt he435⟩ ?_
    conv=>whnf
    refine ⟨_, _, ⟨rfl, map_at he435, rfl, rfl⟩, ?_⟩
    conv=>whnf
    obtain ⟨c436, hc436, h⟩ := bind_some h
    refine ⟨_, Sp.args (hf1 e434 e435 c436 hc436) (by rw [hk1_0]; try rfl), ?_⟩
    conv=>whnf
    refine Both.mk ?_ ?_<;>intro b437
    ·replace h := cond_t b437 h
     conv=>whnf
     obtain ⟨c438, h⟩ := chk_some h
     refine Side.mk ⟨rfl, c438.1, by have hh_ := c438; simp only [List.length_map]; omega, by have hh_ := c438; simp only [List.length_map]; omega⟩ ?_
     conv=>whnf
     obtain ⟨⟨y471, k472⟩, hc, hk439⟩ := bind_some h
     clear h
     have h := hc
     clear hc
     refine Cut.mk (mkSt [(0, .osl 66 1), (5, .im (nI (↑k472 : Int)))] [(66, .row 38 1 (List.map (cL cI) y471))] []) (lZ y471 ∧ True) ((Holds.kdl 66 rfl).and (hT)) ?_ (fun hp => ?_)
     ·conv=>whnf
      refine Loops.iter (fun (s : List (List Int) × Nat × Nat) => slices_CompactFunc_SSint_Sint_n1.s18 eq_ k356 s.1 s.2.1 s.2.2) (fun (y481, k482, y483) => mkSt [(0, .osl 66 1), (1, .im (.fn f1_ [k1_0])), (5, .im (nI (↑k482 : Int))), (6, .osv 66 1 k356 1), (7, .im (nI (↑y483 : Int)))] [(66, .row 38 1 (List.map (cL cI) y481))] []) (fun (y481, k482, y483) => lZ y481 ∧ True) h (Ent.mk [(66, some 66)] rfl ⟨⟨.osl 66 _, rfl, .osl rfl rfl rfl⟩, eI rfl rfl, eI rfl rfl, ⟨.osv 66 _ _ _, rfl, .osv rfl rfl rfl⟩, eI rfl rfl, trivial⟩ ⟨.inl ⟨66, rfl, rfl, trivial⟩, trivial⟩ trivial) (by rintro ⟨y481, k482, y483⟩; exact ((Holds.kdl 66 rfl).and (hT))) ?_
      clear h
      rintro k ⟨y481, k482, y483⟩ o hp h ho493
      replace h : slices_CompactFunc_SSint_Sint_n1.s18 eq_ k356 y481 k482 y483 = some o := h
      unfold slices_CompactFunc_SSint_Sint_n1.s18 at h
      obtain ⟨z503, _⟩ := hp
      conv=>whnf
      refine Side.mk rfl ?_
      conv=>whnf
      refine Nf.mk (List.length y481 - k356) len_own ?_
      conv=>whnf
      refine Both.mk ?_ ?_<;>intro b494
      ·obtain ⟨h, b494d⟩ := ctd b494 h
       conv=>whnf
       obtain ⟨e495, he495, h⟩ := idxn_some h
       refine Side.mk ⟨(by omega), rfl, map_lt he495⟩ ?_
       conv=>whnf
       refine Nf.mk (k356 + y483) rfl ?_
       conv=>whnf
       refine ⟨_, _, ⟨rfl, map_at he495, rfl, rfl⟩, ?_⟩
       conv=>whnf
       refine Side.mk (by show inR _; unfold inR; omega) ?_
       conv=>whnf
       obtain ⟨c497, h⟩ := chk_some h
       obtain ⟨e496, he496, h⟩ := idxn_some h
       refine Side.mk ⟨c497, rfl, map_lt he496⟩ ?_
       conv=>whnf
       refine Nf.mk (k356 + (Int.toNat ((↑y483 : Int) - 1))) rfl ?_
       conv=>whnf
       refine ⟨_, _, ⟨rfl, map_at he496, rfl, rfl⟩, ?_⟩
       conv=>whnf
       obtain ⟨c498, hc498, h⟩ := bind_some h
       refine ⟨_, Sp.args (hf1 e495 e496 c498 hc498) (by rw [hk1_0]; try rfl), ?_⟩
       conv=>whnf
       refine Both.mk ?_ ?_<;>intro b499
       ·replace h := cond_t b499 h
        conv=>whnf
        obtain ⟨e500, he500, h⟩ := idxn_some h
        refine Side.mk ⟨(by omega), rfl, map_lt he500⟩ ?_
        conv=>whnf
        refine Nf.mk (k356 + y483) rfl ?_
        conv=>whnf
        refine ⟨_, _, ⟨rfl, map_at he500, rfl, rfl⟩, ?_⟩
        conv=>whnf
        obtain ⟨e501, he501, h⟩ := idxn_some h
        refine Side.mk ⟨(by omega), rfl, map_lt he501⟩ ?_
        conv=>whnf
        refine Side.mk ⟨rfl, trivial⟩ ?_
        conv=>whnf
        refine ⟨_, map_at he501, ?_⟩
        conv=>whnf
        refine Nf.mk (List.map (cL cI) (List.set y481 k482 e500)) (set_map rfl) ?_
        conv=>whnf
        obtain ⟨c502, h⟩ := chk_some h
        refine Side.mk c502 ?_
        conv=>whnf
        refine Side.mk (by show inR _; unfold inR; omega) ?_
        conv=>whnf
        cases h
        exact Nxt.mk _ ho493 (Ent.mk [(66, some 66)] rfl ⟨⟨.osl 66 _, rfl, .osl rfl rfl rfl⟩, eI rfl rfl, eI rfl rfl, ⟨.osv 66 _ _ _, rfl, .osv rfl rfl rfl⟩, eI rfl rfl, trivial⟩ ⟨.inl ⟨66, rfl, rfl, trivial⟩, trivial⟩ trivial)
       ·replace h := cond_f b499 h
        conv=>whnf
        refine Side.mk (by show inR _; unfold inR; omega) ?_
        conv=>whnf
        cases h
        exact Nxt.mk _ ho493 (Ent.mk [(66, some 66)] rfl ⟨⟨.osl 66 _, rfl, .osl rfl rfl rfl⟩, eI rfl rfl, eI rfl rfl, ⟨.osv 66 _ _ _, rfl, .osv rfl rfl rfl⟩, eI rfl rfl, trivial⟩ ⟨.inl ⟨66, rfl, rfl, trivial⟩, trivial⟩ trivial)
      ·obtain ⟨h, b494d⟩ := cfd b494 h
       conv=>whnf
       cases h
       have ho493 : _ = _ := ho493
       cases ho493
       exact Join.mk (eA [(66, some 66)])
     ·replace h : slices_CompactFunc_SSint_Sint_n1.k19 y471 k472 = some _ := hk439
      unfold slices_CompactFunc_SSint_Sint_n1.k19 at h
      obtain ⟨z504, _⟩ := hp
      conv=>whnf
      obtain ⟨c505, h⟩ := chk_some h
      refine Side.mk ⟨rfl, c505.1, by have hh_ := c505; simp only [List.length_map]; omega, by have hh_ := c505; simp only [List.length_map]; omega⟩ ?_
      conv=>whnf
      obtain ⟨c506, h⟩ := chk_some h
      refine Side.mk ⟨rfl, by have hh_ := c506; simp only [List.length_map]; omega⟩ ?_
      conv=>whnf
      refine Nf.mk (List.map (cL cI) (List.take k472 y471 ++ List.replicate (List.length y471 - k472) [])) (clr_map (z := []) rfl) ?_
      conv=>whnf
      obtain ⟨c507, h⟩ := chk_some h
      refine Side.mk ⟨rfl, c507.1, by have hh_ := c507; simp only [List.length_map]; omega, by have hh_ := c507; simp only [List.length_map]; omega⟩ ?_
      conv=>whnf
      refine Nf.mk (List.map (cL cI) (List.take k472 (List.take k472 y471 ++ List.replicate (List.length y471 - k472) []))) cut_own ?_
      conv=>whnf
      cases h
      have ho432 : _ = _ := ho432
      cases ho432
      replace h : some _ = some _ := hk52
      cases h
      conv=>whnf
      exact Side.mk ⟨rfl, trivial⟩ ⟨rfl, rfl⟩
    ·replace h := cond_f b437 h
     conv=>whnf
     refine Side.mk (by show inR _; unfold inR; omega) ?_
     conv=>whnf
     cases h
     exact Nxt.mk _ ho432 (eA [(66, some 66)])
   ·obtain ⟨h, b433d⟩ := cfd b433 h
    conv=>whnf
    cases h
    have ho432 : _ = _ := ho432
    cases ho432
    exact JoinS.mk' _ rfl (eA [(66, some 66)])
  ·rintro ⟨⟩ rfl hp
   replace h := sum_inl hk52
   obtain ⟨z509, _⟩ := hp
   conv=>whnf
   cases h
   conv=>whnf
   exact Side.mk ⟨rfl, trivial⟩ ⟨rfl, rfl⟩
theorem sp_wordset_ordered (l_ : List (List Int)) (order_ : (List Int) → (List Int) → Option Int) (f1_ : FuncId) (hf1 : ∀ x0 x1 r, order_ x0 x1 = some r → Sp Tryz.prog f1_ [.im (nL cI x0), .im (nL cI x1)] (.im (nI r))) (hd1 : CmpE Tryz.prog f1_ (fun x => nL cI x) order_) (r : List (List Int)) (h : Ok (nL (cL cI) l_) → Ok (.fn f1_ []) → wordset_ordered l_ order_ = some r) : Sp Tryz.prog 122 [.im (nL (cL cI) l_), .im (.fn f1_ [])] (.row 38 1 (List.map (cL cI) r)) := by
 refine sp_of rfl [13000, 16000, 2013000] rfl rfl rfl (Nat.le_of_ble_eq_true rfl) rfl fun hk => ?_
 replace h := h hk.1 hk.2.1
 have z1 : lZ l_ := ok_len hk.1
 unfold wordset_ordered at h
 conv=>whnf
 obtain ⟨c51, hc51, h⟩ := bind_some h
 refine ⟨_, (sp_lib_Clone_words l_ c51 (hc51)), ?_⟩
 conv=>whnf
 refine Side.mk rfl ?_
 conv=>whnf
 refine Side.mk ⟨rfl, trivial⟩ ?_
 conv=>whnf
 obtain ⟨c52, hc52, h⟩ := bind_some h
 refine ⟨_, (sp_lib_SortFunc_words c51 order_ f1_ hd1 c52 (hc52)), ?_⟩
 conv=>whnf
 refine Side.mk ⟨rfl, rfl, trivial⟩ ?_
 conv=>whnf
 obtain ⟨c53, hc53, h⟩ := bind_some h
 refine ⟨_, (sp_slices_CompactFunc_SSint_Sint_n1 c52 (fun u0 u1 => wordset_ordered_1 u0 u1 order_) 150 (.ref [.fn f1_ []]) rfl (fun u0 u1 r h => (sp_wordset_ordered_1 u0 u1 order_ f1_ hf1 r (fun _ _ _ => h))) c53 (fun _ _ => hc53)), ?_⟩
 conv=>whnf
 refine Side.mk rfl ?_
 conv=>whnf
 refine Nf.mk (List.length c53) len_map ?_
 conv=>whnf
 obtain ⟨y73, hc, hk54⟩ := bind_some h
 clear h
 have h := hc
 clear hc
 refine Cut.mk (mkSt [(5, .osl 64 1)] [(64, .row 38 1 (List.map (cL cI) y73))] []) (lZ y73 ∧ True) ((Holds.kdl 64 rfl).and (hT)) ?_ (fun hp => ?_)
 ·conv=>whnf
  refine Loops.iter (fun (s : List (List Int) × Nat) => wordset_ordered.s2 c53 s.1 s.2) (fun (y78, y79) => mkSt [(5, .osl 64 1), (16, .osl 64 1), (17, .im (nI (↑(List.length c53) : Int))), (18, .im (nI (↑y79 : Int)))] [(64, .row 38 1 (List.map (cL cI) y78))] []) (fun (y78, y79) => lZ y78 ∧ True) h (eA [(64, some 15)]) (by rintro ⟨y78, y79⟩; exact ((Holds.kdl 64 rfl).and (hT))) ?_
  clear h
  rintro k ⟨y78, y79⟩ o hp h ho85
  replace h : wordset_ordered.s2 c53 y78 y79 = some o := h
  unfold wordset_ordered.s2 at h
  obtain ⟨z91, _⟩ := hp
  conv=>whnf
  refine Both.mk ?_ ?_<;>intro b86
  ·obtain ⟨h, b86d⟩ := ctd b86 h
   conv=>whnf
   obtain ⟨e87, he87, h⟩ := idxn_some h
   refine Side.mk ⟨(by omega), rfl, map_lt he87⟩ ?_
   conv=>whnf
   refine ⟨_, _, ⟨rfl, map_at he87, rfl, rfl⟩, ?_⟩
   conv=>whnf
   obtain ⟨c88, hc88, h⟩ := bind_some h
   refine ⟨_, (sp_lib_Clone_int e87 c88 (hc88)).im, ?_⟩
   conv=>whnf
   obtain ⟨e89, he89, h⟩ := idxn_some h
   refine Side.mk ⟨(by omega), rfl, map_lt he89⟩ ?_
   conv=>whnf
   refine Side.mk ⟨rfl, trivial⟩ ?_
   conv=>whnf
   refine ⟨_, map_at he89, ?_⟩
   conv=>whnf
   refine Nf.mk (List.map (cL cI) (List.set y78 y79 c88)) (set_map rfl) ?_
   conv=>whnf
   obtain ⟨c90, h⟩ := chk_some h
   refine Side.mk c90 ?_
   conv=>whnf
   cases h
   exact Nxt.mk _ ho85 (eA [(64, some 64)])
  ·obtain ⟨h, b86d⟩ := cfd b86 h
   conv=>whnf
   cases h
   have ho85 : _ = _ := ho85
   cases ho85
   exact Join.mk (eA [(64, some 64)])
 ·replace h := hk54
  obtain ⟨z92, _⟩ := hp
  conv=>whnf
  cases h
  conv=>whnf
  exact Side.mk ⟨rfl, trivial⟩ ⟨rfl, rfl⟩
theorem sp_wordset_Sorted (l_ : List (List Int)) (r : List (List Int)) (h : Ok (nL (cL cI) l_) → wordset_Sorted l_ = some r) : Sp Tryz.prog 92 [.im (nL (cL cI) l_)] (.row 38 1 (List.map (cL cI) r)) := by
 refine sp_of rfl [] rfl rfl rfl (Nat.le_of_ble_eq_true rfl) rfl fun hk => ?_
 replace h := h hk.1
 have z1 : lZ l_ := ok_len hk.1
 unfold wordset_Sorted at h
 conv=>whnf
 obtain ⟨c51, hc51, h⟩ := bind_some h
 refine ⟨_, (sp_wordset_ordered l_ (fun u0 u1 => word_Compare u0 u1) 111 (fun u0 u1 r h => (sp_word_Compare u0 u1 r (fun _ _ => h))) cmpE_word_Compare c51 (fun _ _ => hc51)), ?_⟩
 conv=>whnf
 cases h
 conv=>whnf
 exact Side.mk ⟨rfl, trivial⟩ ⟨rfl, rfl⟩
theorem sp_wordset_Maximal (l_ : List (List Int)) (r : List (List Int)) (h : Ok (nL (cL cI) l_) → wordset_Maximal l_ = some r) : Sp Tryz.prog 74 [.im (nL (cL cI) l_)] (.im (nL (cL cI) r)) := by
 refine sp_of rfl [] rfl rfl rfl (Nat.le_of_ble_eq_true rfl) rfl fun hk => ?_
 replace h := h hk.1
 have z1 : lZ l_ := ok_len hk.1
 unfold wordset_Maximal at h
 conv=>whnf
 obtain ⟨c51, hc51, h⟩ := bind_some h
 refine ⟨_, (sp_wordset_ordered l_ (fun u0 u1 => word_Lex u0 u1) 119 (fun u0 u1 r h => (sp_word_Lex u0 u1 r (fun _ _ => h))) cmpE_word_Lex c51 (fun _ _ => hc51)).im, ?_⟩
 conv=>whnf
 refine Nf.mk (List.length c51) len_map ?_
 conv=>whnf
 obtain ⟨y104, hc, hk52⟩ := bind_some h
 clear h
 have h := hc
 clear hc
 refine Cut.mk (mkSt [(4, .osl 64 1)] [(64, .row 38 1 (List.map (cL cI) y104))] []) (lZ y104 ∧ True) ((Holds.kdl 64 rfl).and (hT)) ?_ (fun hp => ?_)
 ·conv=>whnf
  refine Loops.iter (fun (s : List (List Int) × Nat) => wordset_Maximal.s2 c51 s.1 s.2) (fun (y119, y120) => mkSt [(3, .im (nL (cL cI) c51)), (4, .osl 64 1), (9, .im (nL (cL cI) c51)), (10, .im (nI (↑(List.length c51) : Int))), (11, .im (nI (↑y120 : Int)))] [(64, .row 38 1 (List.map (cL cI) y119))] []) (fun (y119, y120) => lZ c51 ∧ lZ y119 ∧ True) h (eA [(64, none)]) (by rintro ⟨y119, y120⟩; exact ((Holds.avl 3 rfl).and ((Holds.kdl 64 rfl).and (hT)))) ?_
  clear h
  rintro k ⟨y119, y120⟩ o hp h ho137
  replace h : wordset_Maximal.s2 c51 y119 y120 = some o := h
  unfold wordset_Maximal.s2 at h
  obtain ⟨z154, z155, _⟩ := hp
  conv=>whnf
  refine Both.mk ?_ ?_<;>intro b138
  ·obtain ⟨h, b138d⟩ := ctd b138 h
   conv=>whnf
   obtain ⟨e139, he139, h⟩ := idxn_some h
   refine ⟨_, ⟨(by omega), map_at he139, rfl⟩, ?_⟩
   conv=>whnf
   obtain ⟨y145, hc, hk141⟩ := bind_some h
   clear h
   have h := hc
   clear hc
   refine Cut.mk (mkSt [(3, .im (nL (cL cI) c51)), (4, .osl 64 1), (6, .im (nL cI e139)), (9, .im (nL (cL cI) c51)), (10, .im (nI (↑(List.length c51) : Int))), (11, .im (nI (↑y120 : Int))), (30, .im (nB y145))] [(64, .row 38 1 (List.map (cL cI) y119))] []) (lZ c51 ∧ lZ e139 ∧ lZ y119 ∧ True) ((Holds.avl 3 rfl).and ((Holds.avl 6 rfl).and ((Holds.kdl 64 rfl).and (hT)))) ?_ (fun hp => ?_)
   ·conv=>whnf
    refine Side.mk (by show inR _; unfold inR; omega) ?_
    conv=>whnf
    refine Nf.mk (List.length c51) len_map ?_
    conv=>whnf
    refine Both.mk ?_ ?_<;>intro b146
    ·replace b146 := beq_ff b146
     obtain ⟨h, b146d⟩ := cfd b146 h
     conv=>whnf
     iterate 2 (refine Both.yes (ff_beq b146) ?_; (conv=>whnf))
     refine Side.mk (by show inR _; unfold inR; omega) ?_
     conv=>whnf
     refine Both.yes (ff_beq b146) ?_
     conv=>whnf
     obtain ⟨e147, he147, h⟩ := idxn_some h
     refine ⟨_, ⟨(by omega), map_at he147, rfl⟩, ?_⟩
     conv=>whnf
     iterate 3 (refine Both.yes (ff_beq b146) ?_; (conv=>whnf))
     obtain ⟨c148, hc148, h⟩ := bind_some h
     refine ⟨_, (sp_word_HasPrefix e147 e139 c148 (fun _ _ => hc148)), ?_⟩
     conv=>whnf
     refine Both.yes (ff_beq b146) ?_
     conv=>whnf
     refine Both.no b146 ?_
     conv=>whnf
     cases h
     exact Join.mk (eA [(64, some 64)])
    ·replace b146 := beq_ft b146
     obtain ⟨h, b146d⟩ := ctd b146 h
     conv=>whnf
     iterate 7 (refine Both.no (tf_beq b146) ?_; (conv=>whnf))
     refine Both.yes b146 ?_
     conv=>whnf
     cases h
     exact Join.mk (eA [(64, some 64)])
   ·replace h := hk141
    obtain ⟨z149, z150, z151, _⟩ := hp
    conv=>whnf
    refine Both.mk ?_ ?_<;>intro b152
    ·replace h := cond_t b152 h
     conv=>whnf
     obtain ⟨c153, h⟩ := chk_some h
     refine Side.mk ⟨rfl, map_len (l := [e139]) (c := cL cI) fun _ => rfl, show capOk _ 24 by simpa only [List.length_map, List.length_cons, List.length_nil, Nat.zero_add] using c153⟩ ?_
     conv=>whnf
     refine Nf.mk (List.map (cL cI) (y119 ++ [e139])) (app_map (l := y119) (m := [e139]) (c := cL cI)) ?_
     conv=>whnf
     refine Side.mk (by show inR _; unfold inR; omega) ?_
     conv=>whnf
     cases h
     exact Nxt.mk _ ho137 (eA [(64, some 64)])
    ·replace h := cond_f b152 h
     conv=>whnf
     refine Side.mk (by show inR _; unfold inR; omega) ?_
     conv=>whnf
     cases h
     exact Nxt.mk _ ho137 (eA [(64, some 64)])
  ·obtain ⟨h, b138d⟩ := cfd b138 h
   conv=>whnf
   cases h
   have ho137 : _ = _ := ho137
   cases ho137
   exact Join.mk (eA [(64, some 64)])
 ·replace h := hk52
  obtain ⟨z156, _⟩ := hp
  conv=>whnf
  refine Side.mk ⟨rfl, trivial⟩ ?_
  conv=>whnf
  obtain ⟨c157, hc157, h⟩ := bind_some h
  refine ⟨_, (sp_wordset_Sorted y104 c157 (fun _ => hc157)).im, ?_⟩
  conv=>whnf
  cases h
  conv=>whnf
  exact ⟨rfl, rfl⟩
theorem sp_table_finder_knows (f_ : List T_api_Trace) (w_ : List Int) (r : Bool) (h : Ok (nL c_api_Trace f_) → Ok (nL cI w_) → table_finder_knows f_ w_ = some r) : Sp Tryz.prog 72 [.im (nL c_api_Trace f_), .im (nL cI w_)] (.im (nB r)) := by
 refine sp_of rfl [] rfl rfl rfl (Nat.le_of_ble_eq_true rfl) rfl fun hk => ?_
 replace h := h hk.1 hk.2.1
 have z1 : lZ f_ := ok_len hk.1
 have z2 : lZ w_ := ok_len hk.2.1
 unfold table_finder_knows at h
 conv=>whnf
 obtain ⟨c51, hc51, h⟩ := bind_some h
 refine ⟨_, (sp_table_finder_answer f_ w_ c51 (fun _ _ => hc51)), ?_⟩
 conv=>whnf
 cases h
 conv=>whnf
 exact ⟨rfl, rfl⟩
theorem sp_table_Needed_1 (w_ : List Int) (p1_ : T_api_Table) (p2_ : List T_api_Trace) (p3_ : List (List Int)) (r : List (List Int)) (h : Ok (nL cI w_) → Ok (.ref (c_api_Table p1_)) → Ok (.ref (cL c_api_Trace p2_)) → OkOcs [.ow (.row 38 1 (List.map (cL cI) p3_))] → table_Needed_1 w_ p1_ p2_ p3_ = some r) : Sp Tryz.prog 70 [.im (nL cI w_), .im (.ref (c_api_Table p1_)), .im (.ref (cL c_api_Trace p2_)), .box 22 [.ow (.row 38 1 (List.map (cL cI) p3_))]] (.mk true [] [.box 22 [.ow (.row 38 1 (List.map (cL cI) r))]]) := by
 refine sp_of rfl [] rfl rfl rfl (Nat.le_of_ble_eq_true rfl) rfl fun hk => ?_
 replace h := h hk.1 hk.2.1 hk.2.2.1 hk.2.2.2.1
 have z1 : lZ w_ := ok_len hk.1
 have z2 : lZ p1_.Prefixes := ok_len (Ok.ref_at hk.2.1 1 rfl)
 have z3 : lZ p1_.Suffixes := ok_len (Ok.ref_at hk.2.1 2 rfl)
 have z4 : lZ p2_ := ok_len (Ok.ref_at hk.2.2.1 0 rfl)
 have z5 : lZ p3_ := okl_len hk.2.2.2.1.1
 unfold table_Needed_1 at h
 conv=>whnf
 refine Nf.mk (List.length p1_.Suffixes) len_map ?_
 conv=>whnf
 obtain ⟨y76, hc, hk51⟩ := bind_some h
 clear h
 have h := hc
 clear hc
 refine Cut.mk (mkSt [(3, .own 3 0 0)] [(3, .box 22 1), (65, .row 38 1 (List.map (cL cI) y76))] [(3, 0, .osl 65 1)]) (lZ y76 ∧ True) ((Holds.kdl 65 rfl).and (hT)) ?_ (fun hp => ?_)
 ·conv=>whnf
  refine Loops.iter (fun (s : List (List Int) × Nat) => table_Needed_1.s2 w_ p1_ p2_ s.1 s.2) (fun (y83, y84) => mkSt [(0, .im (nL cI w_)), (2, .im (.ref (cL c_api_Trace p2_))), (3, .own 3 0 0), (9, .im (nL (cL cI) p1_.Suffixes)), (10, .im (nI (↑(List.length p1_.Suffixes) : Int))), (11, .im (nI (↑y84 : Int)))] [(3, .box 22 1), (65, .row 38 1 (List.map (cL cI) y83))] [(3, 0, .osl 65 1)]) (fun (y83, y84) => lZ w_ ∧ lZ p1_.Suffixes ∧ lZ y83 ∧ True) h (eA [(3, some 3), (65, some 2192)]) (by rintro ⟨y83, y84⟩; exact ((Holds.avl 0 rfl).and ((Holds.avl 9 rfl).and ((Holds.kdl 65 rfl).and (hT))))) ?_
  clear h
  rintro k ⟨y83, y84⟩ o hp h ho91
  replace h : table_Needed_1.s2 w_ p1_ p2_ y83 y84 = some o := h
  unfold table_Needed_1.s2 at h
  obtain ⟨z98, z99, z100, _⟩ := hp
  conv=>whnf
  refine Both.mk ?_ ?_<;>intro b92
  ·obtain ⟨h, b92d⟩ := ctd b92 h
   conv=>whnf
   obtain ⟨e93, he93, h⟩ := idxn_some h
   refine ⟨_, ⟨(by omega), map_at he93, rfl⟩, ?_⟩
   conv=>whnf
   obtain ⟨c94, hc94, h⟩ := bind_some h
   refine ⟨_, (sp_word_Join [w_, e93] c94 (fun _ => hc94)), ?_⟩
   conv=>whnf
   obtain ⟨c95, hc95, h⟩ := bind_some h
   refine ⟨_, (sp_table_finder_knows p2_ c94 c95 (fun _ _ => hc95)), ?_⟩
   conv=>whnf
   refine Both.mk ?_ ?_<;>intro b96
   ·replace h := cond_t b96 h
    conv=>whnf
    refine Side.mk rfl ?_
    conv=>whnf
    obtain ⟨c97, h⟩ := chk_some h
    refine Side.mk ⟨rfl, map_len (l := [c94]) (c := cL cI) fun _ => rfl, show capOk _ 24 by simpa only [List.length_map, List.length_cons, List.length_nil, Nat.zero_add] using c97⟩ ?_
    conv=>whnf
    refine Nf.mk (List.map (cL cI) (y83 ++ [c94])) (app_map (l := y83) (m := [c94]) (c := cL cI)) ?_
    conv=>whnf
    refine Side.mk rfl ?_
    conv=>whnf
    refine Side.mk (by show inR _; unfold inR; omega) ?_
    conv=>whnf
    cases h
    exact Nxt.mk _ ho91 (eA [(3, some 3), (65, some 65)])
   ·replace h := cond_f b96 h
    conv=>whnf
    refine Side.mk (by show inR _; unfold inR; omega) ?_
    conv=>whnf
    cases h
    exact Nxt.mk _ ho91 (eA [(3, some 3), (65, some 65)])
  ·obtain ⟨h, b92d⟩ := cfd b92 h
   conv=>whnf
   cases h
   have ho91 : _ = _ := ho91
   cases ho91
   exact Join.mk (eA [(3, some 3), (65, some 65)])
 ·replace h := hk51
  obtain ⟨z101, _⟩ := hp
  conv=>whnf
  cases h
  conv=>whnf
  exact Side.mk ⟨rfl, rfl, trivial⟩ ⟨rfl, rfl⟩
theorem sp_table_Needed (t_ : T_api_Table) (o_ : T_api_Obs) (r : List (List Int) × Int) (h : Ok (.agg (c_api_Table t_)) → Ok (.agg (c_api_Obs o_)) → table_Needed t_ o_ = some r) : Sp Tryz.prog 22 [.im (.agg (c_api_Table t_)), .im (.agg (c_api_Obs o_))] (.tup [nL (cL cI) r.1, nI r.2]) := by
 refine sp_of rfl [32003, 42003, 700002, 700003, 800007, 31937 * 1000000000 + 38 * 100 + 1] rfl rfl rfl (Nat.le_of_ble_eq_true rfl) rfl fun hk => ?_
 replace h := h hk.1 hk.2.1
 have z1 : lZ t_.Prefixes := ok_len (Ok.agg_at hk.1 1 rfl)
 have z2 : lZ t_.Suffixes := ok_len (Ok.agg_at hk.1 2 rfl)
 have z3 : lZ o_.Traces := ok_len (Ok.agg_at hk.2.1 1 rfl)
 unfold table_Needed at h
 conv=>whnf
 obtain ⟨c51, hc51, h⟩ := bind_some h
 refine ⟨_, (sp_table_check t_ o_ c51 (fun _ _ => hc51)), ?_⟩
 conv=>whnf
 refine Both.mk ?_ ?_<;>intro b52
 ·obtain ⟨h, b52d⟩ := ctd b52 h
  conv=>whnf
  cases h
  conv=>whnf
  exact ⟨rfl, rfl⟩
 ·obtain ⟨h, b52d⟩ := cfd b52 h
  conv=>whnf
  obtain ⟨c53, hc53, h⟩ := bind_some h
  refine ⟨_, (sp_table_find o_ c53 (fun _ => hc53)).im, ?_⟩
  conv=>whnf
  refine Side.mk rfl ?_
  conv=>whnf
  refine Side.mk ⟨rfl, trivial⟩ ?_
  conv=>whnf
  refine Nf.mk (List.length t_.Prefixes) len_map ?_
  conv=>whnf
  obtain ⟨y183, hc, hk54⟩ := bind_some h
  clear h
  have h := hc
  clear hc
  refine Cut.mk (mkSt [(8, .own 64 1 0)] [(64, .box 22 1), (65, .row 38 1 (List.map (cL cI) y183))] [(64, 0, .osl 65 1)]) (lZ y183 ∧ True) ((Holds.kdl 65 rfl).and (hT)) ?_ (fun hp => ?_)
  ·conv=>whnf
   refine Loops.iter (fun (s : List (List Int) × Nat) => table_Needed.s14 t_ c53 s.1 s.2) (fun (y225, y226) => mkSt [(2, .im (.ref (c_api_Table t_))), (8, .own 64 1 0), (9, .fn 70 [.im (.ref (c_api_Table t_)), .im (.ref (cL c_api_Trace c53)), .own 64 1 0]), (23, .im (nL (cL cI) t_.Prefixes)), (24, .im (nI (↑(List.length t_.Prefixes) : Int))), (25, .im (nI (↑y226 : Int)))] [(64, .box 22 1), (65, .row 38 1 (List.map (cL cI) y225))] [(64, 0, .osl 65 1)]) (fun (y225, y226) => lZ t_.Prefixes ∧ lZ y225 ∧ True) h (Ent.mk [(64, some 8), (65, none)] rfl ⟨eI rfl rfl, ⟨.own 8 _ 0, rfl, .own rfl rfl rfl⟩, ⟨.fn _ [.im _, .im _, .own 8 _ 0], rfl, .fn (.cons (.im (Sub.rfl' rfl)) (.cons (.im (Sub.rfl' rfl)) (.cons (.own rfl rfl rfl) (.nil))))⟩, eI rfl rfl, eI rfl rfl, eI rfl rfl, trivial⟩ ⟨.inl ⟨8, rfl, rfl, trivial⟩, .inr ⟨rfl, rfl, .inl ⟨_, _, rfl, by decide⟩⟩, trivial⟩ ⟨⟨8, .im (.val (.slice none 0 0)), rfl, rfl, .made rfl rfl⟩, trivial⟩) (by rintro ⟨y225, y226⟩; exact ((Holds.avl 23 rfl).and ((Holds.kdl 65 rfl).and (hT)))) ?_
   clear h
   rintro k ⟨y225, y226⟩ o hp h ho268
   replace h : table_Needed.s14 t_ c53 y225 y226 = some o := h
   unfold table_Needed.s14 at h
   obtain ⟨z310, z311, _⟩ := hp
   conv=>whnf
   refine Both.mk ?_ ?_<;>intro b269
   ·obtain ⟨h, b269d⟩ := ctd b269 h
    conv=>whnf
    obtain ⟨e270, he270, h⟩ := idxn_some h
    refine ⟨_, ⟨(by omega), map_at he270, rfl⟩, ?_⟩
    conv=>whnf
    refine Side.mk ⟨rfl, rfl, trivial⟩ ?_
    conv=>whnf
    obtain ⟨c271, hc271, h⟩ := bind_some h
    refine ⟨_, (sp_table_Needed_1 e270 t_ c53 y225 c271 (fun _ _ _ _ => hc271)), ?_⟩
    conv=>whnf
    obtain ⟨y290, hc, hk272⟩ := bind_some h
    clear h
    have h := hc
    clear hc
    refine Cut.mk (mkSt [(2, .im (.ref (c_api_Table t_))), (8, .own 64 1 0), (9, .fn 70 [.im (.ref (c_api_Table t_)), .im (.ref (cL c_api_Trace c53)), .own 64 1 0]), (23, .im (nL (cL cI) t_.Prefixes)), (24, .im (nI (↑(List.length t_.Prefixes) : Int))), (25, .im (nI (↑y226 : Int)))] [(64, .box 22 1), (65, .row 38 1 (List.map (cL cI) y290))] [(64, 0, .osl 65 1)]) (lZ t_.Prefixes ∧ lZ y290 ∧ True) ((Holds.avl 23 rfl).and ((Holds.kdl 65 rfl).and (hT))) ?_ (fun hp => ?_)
    ·conv=>whnf
     refine Loops.iter (fun (s : List (List Int) × Nat) => table_Needed.s13 t_ c53 e270 s.1 s.2) (fun (y294, y295) => mkSt [(2, .im (.ref (c_api_Table t_))), (8, .own 64 1 0), (9, .fn 70 [.im (.ref (c_api_Table t_)), .im (.ref (cL c_api_Trace c53)), .own 64 1 0]), (11, .im (nL cI e270)), (23, .im (nL (cL cI) t_.Prefixes)), (24, .im (nI (↑(List.length t_.Prefixes) : Int))), (25, .im (nI (↑y226 : Int))), (33, .im (nI t_.Inputs)), (34, .im (nI (↑y295 : Int)))] [(64, .box 22 1), (65, .row 38 1 (List.map (cL cI) y294))] [(64, 0, .osl 65 1)]) (fun (y294, y295) => lZ e270 ∧ lZ t_.Prefixes ∧ lZ y294 ∧ True) h (Ent.mk [(64, some 64), (65, some 65)] rfl ⟨eI rfl rfl, ⟨.own 64 _ 0, rfl, .own rfl rfl rfl⟩, ⟨.fn _ [.im _, .im _, .own 64 _ 0], rfl, .fn (.cons (.im (Sub.rfl' rfl)) (.cons (.im (Sub.rfl' rfl)) (.cons (.own rfl rfl rfl) (.nil))))⟩, eI rfl rfl, eI rfl rfl, eI rfl rfl, eI rfl rfl, eI rfl rfl, eI rfl rfl, trivial⟩ ⟨.inl ⟨64, rfl, rfl, trivial⟩, .inl ⟨65, rfl, rfl, trivial⟩, trivial⟩ ⟨⟨64, .osl 65 _, rfl, rfl, .osl rfl rfl rfl⟩, trivial⟩) (by rintro ⟨y294, y295⟩; exact ((Holds.avl 11 rfl).and ((Holds.avl 23 rfl).and ((Holds.kdl 65 rfl).and (hT))))) ?_
     clear h
     rintro k ⟨y294, y295⟩ o hp h ho300
     replace h : table_Needed.s13 t_ c53 e270 y294 y295 = some o := h
     unfold table_Needed.s13 at h
     obtain ⟨z305, z306, z307, _⟩ := hp
     conv=>whnf
     refine Both.mk ?_ ?_<;>intro b301
     ·obtain ⟨h, b301d⟩ := ctd b301 h
      conv=>whnf
      obtain ⟨c302, hc302, h⟩ := bind_some h
      refine ⟨_, (sp_table_extended e270 (↑y295 : Int) c302 (fun _ _ => hc302)), ?_⟩
      conv=>whnf
      refine Side.mk ⟨rfl, rfl, trivial⟩ ?_
      conv=>whnf
      obtain ⟨c303, hc303, h⟩ := bind_some h
      refine ⟨_, (sp_table_Needed_1 c302 t_ c53 y294 c303 (fun _ _ _ _ => hc303)), ?_⟩
      conv=>whnf
      obtain ⟨c304, h⟩ := chk_some h
      refine Side.mk c304 ?_
      conv=>whnf
      cases h
      exact Nxt.mk _ ho300 (Ent.mk [(64, some 64), (65, some 65)] rfl ⟨eI rfl rfl, ⟨.own 64 _ 0, rfl, .own rfl rfl rfl⟩, ⟨.fn _ [.im _, .im _, .own 64 _ 0], rfl, .fn (.cons (.im (Sub.rfl' rfl)) (.cons (.im (Sub.rfl' rfl)) (.cons (.own rfl rfl rfl) (.nil))))⟩, eI rfl rfl, eI rfl rfl, eI rfl rfl, eI rfl rfl, eI rfl rfl, eI rfl rfl, trivial⟩ ⟨.inl ⟨64, rfl, rfl, trivial⟩, .inl ⟨65, rfl, rfl, trivial⟩, trivial⟩ ⟨⟨64, .osl 65 _, rfl, rfl, .osl rfl rfl rfl⟩, trivial⟩)
     ·obtain ⟨h, b301d⟩ := cfd b301 h
      conv=>whnf
      cases h
      have ho300 : _ = _ := ho300
      cases ho300
      exact Join.mk (Ent.mk [(64, some 64), (65, some 65)] rfl ⟨eI rfl rfl, ⟨.own 64 _ 0, rfl, .own rfl rfl rfl⟩, ⟨.fn _ [.im _, .im _, .own 64 _ 0], rfl, .fn (.cons (.im (Sub.rfl' rfl)) (.cons (.im (Sub.rfl' rfl)) (.cons (.own rfl rfl rfl) (.nil))))⟩, eI rfl rfl, eI rfl rfl, eI rfl rfl, trivial⟩ ⟨.inl ⟨64, rfl, rfl, trivial⟩, .inl ⟨65, rfl, rfl, trivial⟩, trivial⟩ ⟨⟨64, .osl 65 _, rfl, rfl, .osl rfl rfl rfl⟩, trivial⟩)
    ·replace h := hk272
     obtain ⟨z308, z309, _⟩ := hp
     conv=>whnf
     refine Side.mk (by show inR _; unfold inR; omega) ?_
     conv=>whnf
     cases h
     exact Nxt.mk _ ho268 (Ent.mk [(64, some 64), (65, some 65)] rfl ⟨eI rfl rfl, ⟨.own 64 _ 0, rfl, .own rfl rfl rfl⟩, ⟨.fn _ [.im _, .im _, .own 64 _ 0], rfl, .fn (.cons (.im (Sub.rfl' rfl)) (.cons (.im (Sub.rfl' rfl)) (.cons (.own rfl rfl rfl) (.nil))))⟩, eI rfl rfl, eI rfl rfl, eI rfl rfl, trivial⟩ ⟨.inl ⟨64, rfl, rfl, trivial⟩, .inl ⟨65, rfl, rfl, trivial⟩, trivial⟩ ⟨⟨64, .osl 65 _, rfl, rfl, .osl rfl rfl rfl⟩, trivial⟩)
   ·obtain ⟨h, b269d⟩ := cfd b269 h
    conv=>whnf
    cases h
    have ho268 : _ = _ := ho268
    cases ho268
    exact Join.mk (eA [(64, some 64), (65, some 65)])
  ·replace h := hk54
   obtain ⟨z312, _⟩ := hp
   conv=>whnf
   refine Side.mk rfl ?_
   conv=>whnf
   refine Side.mk ⟨rfl, trivial⟩ ?_
   conv=>whnf
   obtain ⟨c313, hc313, h⟩ := bind_some h
   refine ⟨_, (sp_wordset_Maximal y183 c313 (fun _ => hc313)), ?_⟩
   conv=>whnf
   cases h
   conv=>whnf
   exact ⟨rfl, rfl⟩
theorem sp_L23_Gate (r : T_api_Obs) (h : L23_Gate = some r) : Sp Tryz.prog 62 [] (.im (.agg (c_api_Obs r))) := by
 refine sp_of rfl [] rfl rfl rfl (Nat.le_of_ble_eq_true rfl) rfl fun hk => ?_
 unfold L23_Gate at h
 conv=>whnf
 refine Side.mk rfl ?_
 conv=>whnf
 cases h
 conv=>whnf
 refine Side.mk ⟨rfl, trivial⟩ ?_
 conv=>whnf
 exact ⟨rfl, rfl⟩
theorem sp_table_view_add (v_ : T_table_view) (row_ : List (List Int)) (v0_1 : Value) (v0_2 : Value) (r : Int × T_table_view) (h : OkOcs [.ow (.row 22 1 (List.map (cL (cL cI)) v_.rows)), .im (.ex v0_1), .im (.ex v0_2), .ow (.map (mapV wS wI v_.number))] → Ok (nL (cL cI) row_) → table_view_add v_ row_ = some r) : Sp Tryz.prog 126 [.box 111 [.ow (.row 22 1 (List.map (cL (cL cI)) v_.rows)), .im (.ex v0_1), .im (.ex v0_2), .ow (.map (mapV wS wI v_.number))], .im (nL (cL cI) row_)] (.mk false [.im (nI r.1)] [.box 111 [.ow (.row 22 1 (List.map (cL (cL cI)) r.2.rows)), .im (.ex v0_1), .im (.ex v0_2), .ow (.map (mapV wS wI r.2.number))]]) := by
 refine sp_of rfl [] rfl rfl rfl (Nat.le_of_ble_eq_true rfl) rfl fun hk => ?_
 replace h := h hk.1 hk.2.1
 have z1 : lZ v_.rows := okl_len hk.1.1
 have z2 : lZ row_ := ok_len hk.2.1
 unfold table_view_add at h
 conv=>whnf
 refine Nf.mk (List.length row_) len_map ?_
 conv=>whnf
 obtain ⟨k72, hc, hk51⟩ := bind_some h
 clear h
 have h := hc
 clear hc
 refine Cut.mk (mkSt [(0, .own 0 0 0), (1, .im (nL (cL cI) row_)), (5, .im (nS k72))] [(0, .box 111 4), (65, .row 22 1 (List.map (cL (cL cI)) v_.rows)), (66, .map (mapV wS wI v_.number))] [(0, 0, .osl 65 1), (0, 1, .im (.ex v0_1)), (0, 2, .im (.ex v0_2)), (0, 3, .osl 66 1)]) (lZ row_ ∧ lZ v_.rows ∧ True) ((Holds.avl 1 rfl).and ((Holds.kdl 65 rfl).and (hT))) ?_ (fun hp => ?_)
 ·conv=>whnf
  refine Loops.iter (fun (s : ByteArray × Nat) => table_view_add.s2 row_ s.1 s.2) (fun (k78, y79) => mkSt [(0, .own 0 0 0), (1, .im (nL (cL cI) row_)), (5, .im (nS k78)), (10, .im (nL (cL cI) row_)), (11, .im (nI (↑(List.length row_) : Int))), (12, .im (nI (↑y79 : Int)))] [(0, .box 111 4), (65, .row 22 1 (List.map (cL (cL cI)) v_.rows)), (66, .map (mapV wS wI v_.number))] [(0, 0, .osl 65 1), (0, 1, .im (.ex v0_1)), (0, 2, .im (.ex v0_2)), (0, 3, .osl 66 1)]) (fun (k78, y79) => lZ row_ ∧ lZ v_.rows ∧ True) h (eA [(0, some 0), (65, some 2000), (66, some 2003)]) (by rintro ⟨k78, y79⟩; exact ((Holds.avl 1 rfl).and ((Holds.kdl 65 rfl).and (hT)))) ?_
  clear h
  rintro k ⟨k78, y79⟩ o hp h ho85
  replace h : table_view_add.s2 row_ k78 y79 = some o := h
  unfold table_view_add.s2 at h
  obtain ⟨z91, z92, _⟩ := hp
  conv=>whnf
  refine Both.mk ?_ ?_<;>intro b86
  ·obtain ⟨h, b86d⟩ := ctd b86 h
   conv=>whnf
   obtain ⟨e87, he87, h⟩ := idxn_some h
   refine ⟨_, ⟨(by omega), map_at he87, rfl⟩, ?_⟩
   conv=>whnf
   obtain ⟨c88, hc88, h⟩ := bind_some h
   refine ⟨_, (sp_table_key e87 c88 (hc88)), ?_⟩
   conv=>whnf
   obtain ⟨c89, h⟩ := chk_some h
   refine Side.mk c89 ?_
   conv=>whnf
   obtain ⟨c90, h⟩ := chk_some h
   refine Side.mk c90 ?_
   conv=>whnf
   refine Side.mk (by show inR _; unfold inR; omega) ?_
   conv=>whnf
   cases h
   exact Nxt.mk _ ho85 (eA [(0, some 0), (65, some 65), (66, some 66)])
  ·obtain ⟨h, b86d⟩ := cfd b86 h
   conv=>whnf
   cases h
   have ho85 : _ = _ := ho85
   cases ho85
   exact Join.mk (eA [(0, some 0), (65, some 65), (66, some 66)])
 ·replace h := hk51
  obtain ⟨z93, z94, _⟩ := hp
  conv=>whnf
  refine Side.mk rfl ?_
  conv=>whnf
  refine Side.mk rfl ?_
  conv=>whnf
  refine Side.mk rfl ?_
  conv=>whnf
  refine Side.mk rfl ?_
  conv=>whnf
  refine ⟨_, find_str _ wI _, ?_⟩
  conv=>whnf
  refine Nf.mk (wI ((mget k72 v_.number).getD 0)) (getD_map rfl _) ?_
  conv=>whnf
  refine Nf.mk (mget k72 v_.number).isSome (isSome_map _) ?_
  conv=>whnf
  obtain ⟨⟨y99, y100, n101⟩, hc, hk96⟩ := bind_some h
  clear h
  have h := hc
  clear hc
  refine Cut.mk (mkSt [(0, .own 0 0 0), (8, .im (nI n101))] [(0, .box 111 4), (65, .row 22 1 (List.map (cL (cL cI)) y99)), (66, .map (mapV wS wI y100))] [(0, 0, .osl 65 1), (0, 1, .im (.ex v0_1)), (0, 2, .im (.ex v0_2)), (0, 3, .osl 66 1)]) (lZ y99 ∧ True) ((Holds.kdl 65 rfl).and (hT)) ?_ (fun hp => ?_)
  ·conv=>whnf
   refine Both.mk ?_ ?_<;>intro b102
   ·replace h := cond_t b102 h
    conv=>whnf
    refine Side.mk rfl ?_
    conv=>whnf
    refine Side.mk rfl ?_
    conv=>whnf
    refine Side.mk rfl ?_
    conv=>whnf
    refine Side.mk rfl ?_
    conv=>whnf
    refine Nf.mk (List.length v_.rows) len_map ?_
    conv=>whnf
    refine Side.mk rfl ?_
    conv=>whnf
    refine Side.mk rfl ?_
    conv=>whnf
    refine Side.mk rfl ?_
    conv=>whnf
    refine Side.mk rfl ?_
    conv=>whnf
    refine ⟨_, set_str _ (↑(List.length v_.rows) : Int) wI _, ?_⟩
    conv=>whnf
    refine Side.mk rfl ?_
    conv=>whnf
    refine Side.mk rfl ?_
    conv=>whnf
    refine Side.mk rfl ?_
    conv=>whnf
    obtain ⟨c103, h⟩ := chk_some h
    refine Side.mk ⟨rfl, map_len (l := [row_]) (c := cL (cL cI)) fun _ => rfl, show capOk _ 24 by simpa only [List.length_map, List.length_cons, List.length_nil, Nat.zero_add] using c103⟩ ?_
    conv=>whnf
    refine Nf.mk (List.map (cL (cL cI)) (v_.rows ++ [row_])) (app_map (l := v_.rows) (m := [row_]) (c := cL (cL cI))) ?_
    conv=>whnf
    refine Side.mk rfl ?_
    conv=>whnf
    refine Side.mk rfl ?_
    conv=>whnf
    refine Side.mk rfl ?_
    conv=>whnf
    cases h
    exact Join.mk (eA [(0, some 0), (65, some 65), (66, some 66)])
   ·replace h := cond_f b102 h
    conv=>whnf
    cases h
    exact Join.mk (eA [(0, some 0), (65, some 65), (66, some 66)])
  ·replace h : table_view_add.k3 v_ y99 y100 n101 = some _ := hk96
   unfold table_view_add.k3 at h
   obtain ⟨z104, _⟩ := hp
   conv=>whnf
   cases h
   conv=>whnf
   exact Side.mk ⟨rfl, rfl, rfl, trivial⟩ ⟨rfl, rfl⟩
theorem sp_table_look (t_ : T_api_Table) (o_ : T_api_Obs) (r : T_table_view × Int) (h : Ok (.agg (c_api_Table t_)) → Ok (.agg (c_api_Obs o_)) → table_look t_ o_ = some r) : Sp Tryz.prog 83 [.im (.agg (c_api_Table t_)), .im (.agg (c_api_Obs o_))] (.tup [.agg (c_table_view r.1), nI r.2]) := by
 refine sp_of rfl [51000, 82000, 700002, 700003, 900050, 900081, 1000000000000051201, 1000000000000051202, 1000000000000082945, 1000000000000082946, 51201 * 1000000000 + 22 * 100 + 1] rfl rfl rfl (Nat.le_of_ble_eq_true rfl) rfl fun hk => ?_
 replace h := h hk.1 hk.2.1
 have z1 : lZ t_.Prefixes := ok_len (Ok.agg_at hk.1 1 rfl)
 have z2 : lZ t_.Suffixes := ok_len (Ok.agg_at hk.1 2 rfl)
 have z3 : lZ o_.Traces := ok_len (Ok.agg_at hk.2.1 1 rfl)
 unfold table_look at h
 conv=>whnf
 obtain ⟨c51, hc51, h⟩ := bind_some h
 refine ⟨_, (sp_table_check t_ o_ c51 (fun _ _ => hc51)), ?_⟩
 conv=>whnf
 refine Both.mk ?_ ?_<;>intro b52
 ·obtain ⟨h, b52d⟩ := ctd b52 h
  conv=>whnf
  refine Side.mk rfl ?_
  conv=>whnf
  cases h
  conv=>whnf
  refine Side.mk ⟨rfl, trivial⟩ ?_
  conv=>whnf
  exact ⟨rfl, rfl⟩
 ·obtain ⟨h, b52d⟩ := cfd b52 h
  conv=>whnf
  obtain ⟨c53, hc53, h⟩ := bind_some h
  refine ⟨_, (sp_table_find o_ c53 (fun _ => hc53)).im, ?_⟩
  conv=>whnf
  refine Side.mk rfl ?_
  conv=>whnf
  refine Nf.mk (List.length t_.Prefixes) len_map ?_
  conv=>whnf
  obtain ⟨oc, hc, hk54⟩ := bind_some h
  clear h
  have h := hc
  clear hc
  refine Cut.mkS oc (Y := List (List (List Int)) × List Int × (List (ByteArray × Int))) (fun (y81, y82, y83) => mkSt [(2, .im (.ref (c_api_Table t_))), (4, .own 93 1 0), (7, .im (nL c_api_Trace c53)), (8, .own 94 1 0)] [(93, .box 111 4), (94, .box 111 4), (95, .row 22 1 (List.map (cL (cL cI)) y81)), (96, .row 3 1 (List.map cI y82)), (97, .map (mapV wS wI y83))] [(93, 0, .im (.val (.slice none 0 0))), (93, 1, .im (.val (.slice none 0 0))), (93, 2, .im (.val (.slice none 0 0))), (93, 3, .im (.val (.map none))), (94, 0, .osl 95 1), (94, 1, .osl 96 1), (94, 2, .im (.val (.slice none 0 0))), (94, 3, .osl 97 1)]) (fun (y81, y82, y83) => lZ c53 ∧ lZ y81 ∧ lZ y82 ∧ True) (by rintro ⟨y81, y82, y83⟩; exact ((Holds.avl 7 rfl).and ((Holds.kdl 95 rfl).and ((Holds.kdl 96 rfl).and (hT))))) ?_ ?_
  ·conv=>whnf
   refine Loops.iter (fun (s : List (List (List Int)) × List Int × (List (ByteArray × Int)) × Nat) => table_look.s2 t_ c53 s.1 s.2.1 s.2.2.1 s.2.2.2) (fun (y89, y90, y91, y92) => mkSt [(2, .im (.ref (c_api_Table t_))), (4, .own 93 1 0), (7, .im (nL c_api_Trace c53)), (8, .own 94 1 0), (31, .im (nL (cL cI) t_.Prefixes)), (32, .im (nI (↑(List.length t_.Prefixes) : Int))), (33, .im (nI (↑y92 : Int)))] [(93, .box 111 4), (94, .box 111 4), (95, .row 22 1 (List.map (cL (cL cI)) y89)), (96, .row 3 1 (List.map cI y90)), (97, .map (mapV wS wI y91))] [(93, 0, .im (.val (.slice none 0 0))), (93, 1, .im (.val (.slice none 0 0))), (93, 2, .im (.val (.slice none 0 0))), (93, 3, .im (.val (.map none))), (94, 0, .osl 95 1), (94, 1, .osl 96 1), (94, 2, .im (.val (.slice none 0 0))), (94, 3, .osl 97 1)]) (fun (y89, y90, y91, y92) => lZ c53 ∧ lZ t_.Prefixes ∧ lZ y89 ∧ lZ y90 ∧ True) h (Ent.mk [(93, some 4), (94, some 8), (95, none), (96, none), (97, some 28)] rfl ⟨eI rfl rfl, ⟨.own 4 _ 0, rfl, .own rfl rfl rfl⟩, eI rfl rfl, ⟨.own 8 _ 0, rfl, .own rfl rfl rfl⟩, eI rfl rfl, eI rfl rfl, eI rfl rfl, trivial⟩ ⟨.inl ⟨4, rfl, rfl, trivial⟩, .inl ⟨8, rfl, rfl, trivial⟩, .inr ⟨rfl, rfl, .inl ⟨_, _, rfl, by decide⟩⟩, .inr ⟨rfl, rfl, .inl ⟨_, _, rfl, by decide⟩⟩, .inl ⟨28, rfl, rfl, trivial⟩, trivial⟩ ⟨⟨4, .im (.val (.slice none 0 0)), rfl, rfl, .im (Sub.rfl' rfl)⟩, ⟨4, .im (.val (.slice none 0 0)), rfl, rfl, .im (Sub.rfl' rfl)⟩, ⟨4, .im (.val (.slice none 0 0)), rfl, rfl, .im (Sub.rfl' rfl)⟩, ⟨4, .im (.val (.map none)), rfl, rfl, .im (Sub.rfl' rfl)⟩, ⟨8, .im (.val (.slice none 0 0)), rfl, rfl, .made rfl rfl⟩, ⟨8, .im (.val (.slice none 0 0)), rfl, rfl, .made rfl rfl⟩, ⟨8, .im (.val (.slice none 0 0)), rfl, rfl, .im (Sub.rfl' rfl)⟩, ⟨8, .osl 28 _, rfl, rfl, .osl rfl rfl rfl⟩, trivial⟩) (by rintro ⟨y89, y90, y91, y92⟩; exact ((Holds.avl 7 rfl).and ((Holds.avl 31 rfl).and ((Holds.kdl 95 rfl).and ((Holds.kdl 96 rfl).and (hT)))))) ?_
   clear h
   rintro k ⟨y89, y90, y91, y92⟩ o hp h ho99
   replace h : table_look.s2 t_ c53 y89 y90 y91 y92 = some o := h
   unfold table_look.s2 at h
   obtain ⟨z106, z107, z108, z109, _⟩ := hp
   conv=>whnf
   refine Both.mk ?_ ?_<;>intro b100
   ·obtain ⟨h, b100d⟩ := ctd b100 h
    conv=>whnf
    obtain ⟨e101, he101, h⟩ := idxn_some h
    refine ⟨_, ⟨(by omega), map_at he101, rfl⟩, ?_⟩
    conv=>whnf
    obtain ⟨c102, hc102, h⟩ := bind_some h
    refine ⟨_, (sp_table_finder_row c53 t_ e101 c102 (fun _ _ _ => hc102)), ?_⟩
    conv=>whnf
    refine Both.mk ?_ ?_<;>intro b103
    ·replace h := cond_t b103 h
     conv=>whnf
     refine Side.mk rfl ?_
     conv=>whnf
     cases h
     have ho99 : _ = _ := ho99
     cases ho99
     replace h : some _ = some _ := hk54
     cases h
     conv=>whnf
     refine Side.mk ⟨rfl, trivial⟩ ?_
     conv=>whnf
     exact ⟨rfl, rfl⟩
    ·replace h := cond_f b103 h
     conv=>whnf
     refine Side.mk rfl ?_
     conv=>whnf
     refine Side.mk rfl ?_
     conv=>whnf
     refine Side.mk ⟨rfl, rfl, rfl, trivial⟩ ?_
     conv=>whnf
     obtain ⟨c104, hc104, h⟩ := bind_some h
     refine ⟨false, [.im (nI c104.1)], [.box 111 [.ow (.row 22 1 (List.map (cL (cL cI)) c104.2.rows)), .im .any, .im .any, .ow (.map (mapV wS wI c104.2.number))]], fun V => (sp_table_view_add (⟨y89, y90, [], y91⟩ : T_table_view) c102.1 (V 0 1) (V 0 2) c104 (fun _ _ => hc104)), ?_⟩
     conv=>whnf
     obtain ⟨c105, h⟩ := chk_some h
     refine Side.mk ⟨rfl, map_len (l := [c104.1]) (c := cI) fun _ => rfl, show capOk _ 8 by simpa only [List.length_map, List.length_cons, List.length_nil, Nat.zero_add] using c105⟩ ?_
     conv=>whnf
     refine Nf.mk (List.map cI (y90 ++ [c104.1])) (app_map (l := y90) (m := [c104.1]) (c := cI)) ?_
     conv=>whnf
     refine Side.mk rfl ?_
     conv=>whnf
     refine Side.mk rfl ?_
     conv=>whnf
     refine Side.mk (by show inR _; unfold inR; omega) ?_
     conv=>whnf
     cases h
     exact Nxt.mk _ ho99 (eA [(93, some 93), (94, some 94), (95, some 95), (96, some 96), (97, some 97)])
   ·obtain ⟨h, b100d⟩ := cfd b100 h
    conv=>whnf
    cases h
    have ho99 : _ = _ := ho99
    cases ho99
    exact JoinS.mk' _ rfl (eA [(93, some 93), (94, some 94), (95, some 95), (96, some 96), (97, some 97)])
  ·rintro ⟨y81, y82, y83⟩ rfl hp
   have hx_ := sum_inl hk54
   replace h : table_look.k24 t_ c53 y81 y82 y83 = some _ := hx_
   clear hx_
   unfold table_look.k24 at h
   obtain ⟨z110, z111, z112, _⟩ := hp
   conv=>whnf
   refine Nf.mk (List.length t_.Prefixes) len_map ?_
   conv=>whnf
   obtain ⟨oc, hc, hk113⟩ := bind_some h
   clear h
   have h := hc
   clear hc
   refine Cut.mkS oc (Y := List (List (List Int)) × List (List Int) × (List (ByteArray × Int))) (fun (y345, y346, y347) => mkSt [(4, .own 93 1 0), (8, .own 94 1 0)] [(93, .box 111 4), (94, .box 111 4), (95, .row 22 1 (List.map (cL (cL cI)) y345)), (96, .row 3 1 (List.map cI y82)), (97, .row 38 1 (List.map (cL cI) y346)), (98, .map (mapV wS wI y347))] [(93, 0, .im (.val (.slice none 0 0))), (93, 1, .im (.val (.slice none 0 0))), (93, 2, .im (.val (.slice none 0 0))), (93, 3, .im (.val (.map none))), (94, 0, .osl 95 1), (94, 1, .osl 96 1), (94, 2, .osl 97 1), (94, 3, .osl 98 1)]) (fun (y345, y346, y347) => lZ y345 ∧ lZ y82 ∧ lZ y346 ∧ True) (by rintro ⟨y345, y346, y347⟩; exact ((Holds.kdl 95 rfl).and ((Holds.kdl 96 rfl).and ((Holds.kdl 97 rfl).and (hT))))) ?_ ?_
   ·conv=>whnf
    refine Loops.iter (fun (s : List (List (List Int)) × List (List Int) × (List (ByteArray × Int)) × Nat) => table_look.s22 t_ c53 y82 s.1 s.2.1 s.2.2.1 s.2.2.2) (fun (y419, y420, y421, y422) => mkSt [(2, .im (.ref (c_api_Table t_))), (4, .own 93 1 0), (7, .im (nL c_api_Trace c53)), (8, .own 94 1 0), (56, .im (nL (cL cI) t_.Prefixes)), (57, .im (nI (↑(List.length t_.Prefixes) : Int))), (58, .im (nI (↑y422 : Int)))] [(93, .box 111 4), (94, .box 111 4), (95, .row 22 1 (List.map (cL (cL cI)) y419)), (96, .row 3 1 (List.map cI y82)), (97, .row 38 1 (List.map (cL cI) y420)), (98, .map (mapV wS wI y421))] [(93, 0, .im (.val (.slice none 0 0))), (93, 1, .im (.val (.slice none 0 0))), (93, 2, .im (.val (.slice none 0 0))), (93, 3, .im (.val (.map none))), (94, 0, .osl 95 1), (94, 1, .osl 96 1), (94, 2, .osl 97 1), (94, 3, .osl 98 1)]) (fun (y419, y420, y421, y422) => lZ c53 ∧ lZ t_.Prefixes ∧ lZ y419 ∧ lZ y82 ∧ lZ y420 ∧ True) h (Ent.mk [(93, some 93), (94, some 94), (95, some 95), (96, some 96), (97, none), (98, some 97)] rfl ⟨eI rfl rfl, ⟨.own 93 _ 0, rfl, .own rfl rfl rfl⟩, eI rfl rfl, ⟨.own 94 _ 0, rfl, .own rfl rfl rfl⟩, eI rfl rfl, eI rfl rfl, eI rfl rfl, trivial⟩ ⟨.inl ⟨93, rfl, rfl, trivial⟩, .inl ⟨94, rfl, rfl, trivial⟩, .inl ⟨95, rfl, rfl, trivial⟩, .inl ⟨96, rfl, rfl, trivial⟩, .inr ⟨rfl, rfl, .inl ⟨_, _, rfl, by decide⟩⟩, .inl ⟨97, rfl, rfl, trivial⟩, trivial⟩ ⟨⟨93, .im (.val (.slice none 0 0)), rfl, rfl, .im (Sub.rfl' rfl)⟩, ⟨93, .im (.val (.slice none 0 0)), rfl, rfl, .im (Sub.rfl' rfl)⟩, ⟨93, .im (.val (.slice none 0 0)), rfl, rfl, .im (Sub.rfl' rfl)⟩, ⟨93, .im (.val (.map none)), rfl, rfl, .im (Sub.rfl' rfl)⟩, ⟨94, .osl 95 _, rfl, rfl, .osl rfl rfl rfl⟩, ⟨94, .osl 96 _, rfl, rfl, .osl rfl rfl rfl⟩, ⟨94, .im (.val (.slice none 0 0)), rfl, rfl, .made rfl rfl⟩, ⟨94, .osl 97 _, rfl, rfl, .osl rfl rfl rfl⟩, trivial⟩) (by rintro ⟨y419, y420, y421, y422⟩; exact ((Holds.avl 7 rfl).and ((Holds.avl 56 rfl).and ((Holds.kdl 95 rfl).and ((Holds.kdl 96 rfl).and ((Holds.kdl 97 rfl).and (hT))))))) ?_
    clear h
    rintro k ⟨y419, y420, y421, y422⟩ o hp h ho498
    replace h : table_look.s22 t_ c53 y82 y419 y420 y421 y422 = some o := h
    unfold table_look.s22 at h
    obtain ⟨z574, z575, z576, z577, z578, _⟩ := hp
    conv=>whnf
    refine Both.mk ?_ ?_<;>intro b499
    ·obtain ⟨h, b499d⟩ := ctd b499 h
     conv=>whnf
     obtain ⟨e500, he500, h⟩ := idxn_some h
     refine ⟨_, ⟨(by omega), map_at he500, rfl⟩, ?_⟩
     conv=>whnf
     obtain ⟨oc, hc, hk501⟩ := bind_some h
     clear h
     have h := hc
     clear hc
     refine Cut.mkS oc (Y := List (List (List Int)) × (List (ByteArray × Int)) × List Int) (fun (y533, y534, y535) => mkSt [(2, .im (.ref (c_api_Table t_))), (4, .own 93 1 0), (7, .im (nL c_api_Trace c53)), (8, .own 94 1 0), (15, .osl 99 1), (56, .im (nL (cL cI) t_.Prefixes)), (57, .im (nI (↑(List.length t_.Prefixes) : Int))), (58, .im (nI (↑y422 : Int)))] [(93, .box 111 4), (94, .box 111 4), (95, .row 22 1 (List.map (cL (cL cI)) y533)), (96, .row 3 1 (List.map cI y82)), (97, .row 38 1 (List.map (cL cI) y420)), (98, .map (mapV wS wI y534)), (99, .row 3 1 (List.map cI y535))] [(93, 0, .im (.val (.slice none 0 0))), (93, 1, .im (.val (.slice none 0 0))), (93, 2, .im (.val (.slice none 0 0))), (93, 3, .im (.val (.map none))), (94, 0, .osl 95 1), (94, 1, .osl 96 1), (94, 2, .osl 97 1), (94, 3, .osl 98 1)]) (fun (y533, y534, y535) => lZ c53 ∧ lZ t_.Prefixes ∧ lZ y533 ∧ lZ y82 ∧ lZ y420 ∧ lZ y535 ∧ True) (by rintro ⟨y533, y534, y535⟩; exact ((Holds.avl 7 rfl).and ((Holds.avl 56 rfl).and ((Holds.kdl 95 rfl).and ((Holds.kdl 96 rfl).and ((Holds.kdl 97 rfl).and ((Holds.kdl 99 rfl).and (hT)))))))) ?_ ?_
     ·conv=>whnf
      refine Loops.iter (fun (s : List (List (List Int)) × (List (ByteArray × Int)) × List Int × Nat) => table_look.s20 t_ c53 y82 y420 e500 s.1 s.2.1 s.2.2.1 s.2.2.2) (fun (y541, y542, y543, y544) => mkSt [(2, .im (.ref (c_api_Table t_))), (4, .own 93 1 0), (7, .im (nL c_api_Trace c53)), (8, .own 94 1 0), (14, .im (nL cI e500)), (15, .osl 99 1), (56, .im (nL (cL cI) t_.Prefixes)), (57, .im (nI (↑(List.length t_.Prefixes) : Int))), (58, .im (nI (↑y422 : Int))), (63, .im (nI t_.Inputs)), (64, .im (nI (↑y544 : Int)))] [(93, .box 111 4), (94, .box 111 4), (95, .row 22 1 (List.map (cL (cL cI)) y541)), (96, .row 3 1 (List.map cI y82)), (97, .row 38 1 (List.map (cL cI) y420)), (98, .map (mapV wS wI y542)), (99, .row 3 1 (List.map cI y543))] [(93, 0, .im (.val (.slice none 0 0))), (93, 1, .im (.val (.slice none 0 0))), (93, 2, .im (.val (.slice none 0 0))), (93, 3, .im (.val (.map none))), (94, 0, .osl 95 1), (94, 1, .osl 96 1), (94, 2, .osl 97 1), (94, 3, .osl 98 1)]) (fun (y541, y542, y543, y544) => lZ c53 ∧ lZ e500 ∧ lZ t_.Prefixes ∧ lZ y541 ∧ lZ y82 ∧ lZ y420 ∧ lZ y543 ∧ True) h (eA [(93, some 93), (94, some 94), (95, some 95), (96, some 96), (97, some 97), (98, some 98), (99, none)]) (by rintro ⟨y541, y542, y543, y544⟩; exact ((Holds.avl 7 rfl).and ((Holds.avl 14 rfl).and ((Holds.avl 56 rfl).and ((Holds.kdl 95 rfl).and ((Holds.kdl 96 rfl).and ((Holds.kdl 97 rfl).and ((Holds.kdl 99 rfl).and (hT))))))))) ?_
      clear h
      rintro k ⟨y541, y542, y543, y544⟩ o hp h ho552
      replace h : table_look.s20 t_ c53 y82 y420 e500 y541 y542 y543 y544 = some o := h
      unfold table_look.s20 at h
      obtain ⟨z560, z561, z562, z563, z564, z565, z566, _⟩ := hp
      conv=>whnf
      refine Both.mk ?_ ?_<;>intro b553
      ·obtain ⟨h, b553d⟩ := ctd b553 h
       conv=>whnf
       obtain ⟨c554, hc554, h⟩ := bind_some h
       refine ⟨_, (sp_table_extended e500 (↑y544 : Int) c554 (fun _ _ => hc554)), ?_⟩
       conv=>whnf
       obtain ⟨c555, hc555, h⟩ := bind_some h
       refine ⟨_, (sp_table_finder_row c53 t_ c554 c555 (fun _ _ _ => hc555)), ?_⟩
       conv=>whnf
       refine Both.mk ?_ ?_<;>intro b556
       ·replace h := cond_t b556 h
        conv=>whnf
        refine Side.mk rfl ?_
        conv=>whnf
        cases h
        have ho552 : _ = _ := ho552
        cases ho552
        replace h : some _ = some _ := hk501
        cases h
        have ho498 : _ = _ := ho498
        cases ho498
        replace h : some _ = some _ := hk113
        cases h
        conv=>whnf
        refine Side.mk ⟨rfl, trivial⟩ ?_
        conv=>whnf
        exact ⟨rfl, rfl⟩
       ·replace h := cond_f b556 h
        conv=>whnf
        refine Side.mk ⟨rfl, rfl, rfl, trivial⟩ ?_
        conv=>whnf
        obtain ⟨c557, hc557, h⟩ := bind_some h
        refine ⟨false, [.im (nI c557.1)], [.box 111 [.ow (.row 22 1 (List.map (cL (cL cI)) c557.2.rows)), .im .any, .im .any, .ow (.map (mapV wS wI c557.2.number))]], fun V => (sp_table_view_add (⟨y541, y82, y420, y542⟩ : T_table_view) c555.1 (V 0 1) (V 0 2) c557 (fun _ _ => hc557)), ?_⟩
        conv=>whnf
        obtain ⟨c558, h⟩ := chk_some h
        refine Side.mk ⟨rfl, map_len (l := [c557.1]) (c := cI) fun _ => rfl, show capOk _ 8 by simpa only [List.length_map, List.length_cons, List.length_nil, Nat.zero_add] using c558⟩ ?_
        conv=>whnf
        refine Nf.mk (List.map cI (y543 ++ [c557.1])) (app_map (l := y543) (m := [c557.1]) (c := cI)) ?_
        conv=>whnf
        obtain ⟨c559, h⟩ := chk_some h
        refine Side.mk c559 ?_
        conv=>whnf
        cases h
        exact Nxt.mk _ ho552 (eA [(93, some 93), (94, some 94), (95, some 95), (96, some 96), (97, some 97), (98, some 98), (99, some 99)])
      ·obtain ⟨h, b553d⟩ := cfd b553 h
       conv=>whnf
       cases h
       have ho552 : _ = _ := ho552
       cases ho552
       exact JoinS.mk' _ rfl (eA [(93, some 93), (94, some 94), (95, some 95), (96, some 96), (97, some 97), (98, some 98), (99, some 99)])
     ·rintro ⟨y533, y534, y535⟩ rfl hp
      have hx_ := sum_inl hk501
      replace h : table_look.k21 y420 y422 y533 y534 y535 = some _ := hx_
      clear hx_
      unfold table_look.k21 at h
      obtain ⟨z567, z568, z569, z570, z571, z572, _⟩ := hp
      conv=>whnf
      refine Side.mk rfl ?_
      conv=>whnf
      refine Side.mk rfl ?_
      conv=>whnf
      refine Side.mk ⟨rfl, trivial⟩ ?_
      conv=>whnf
      obtain ⟨c573, h⟩ := chk_some h
      refine Side.mk ⟨rfl, map_len (l := [y535]) (c := cL cI) fun _ => rfl, show capOk _ 24 by simpa only [List.length_map, List.length_cons, List.length_nil, Nat.zero_add] using c573⟩ ?_
      conv=>whnf
      refine Nf.mk (List.map (cL cI) (y420 ++ [y535])) (app_map (l := y420) (m := [y535]) (c := cL cI)) ?_
      conv=>whnf
      refine Side.mk rfl ?_
      conv=>whnf
      refine Side.mk rfl ?_
      conv=>whnf
      refine Side.mk (by show inR _; unfold inR; omega) ?_
      conv=>whnf
      cases h
      exact Nxt.mk _ ho498 (eA [(93, some 93), (94, some 94), (95, some 95), (96, some 96), (97, some 97), (98, some 98)])
    ·obtain ⟨h, b499d⟩ := cfd b499 h
     conv=>whnf
     cases h
     have ho498 : _ = _ := ho498
     cases ho498
     exact JoinS.mk' _ rfl (eA [(93, some 93), (94, some 94), (95, some 95), (96, some 96), (97, some 97), (98, some 98)])
   ·rintro ⟨y345, y346, y347⟩ rfl hp
    have hx_ := sum_inl hk113
    replace h : table_look.k23 y82 y345 y346 y347 = some _ := hx_
    clear hx_
    unfold table_look.k23 at h
    obtain ⟨z579, z580, z581, _⟩ := hp
    conv=>whnf
    refine Side.mk rfl ?_
    conv=>whnf
    refine Side.mk rfl ?_
    conv=>whnf
    cases h
    conv=>whnf
    refine Side.mk ⟨rfl, trivial⟩ ?_
    conv=>whnf
    exact Side.mk ⟨rfl, rfl, rfl, rfl, trivial⟩ ⟨rfl, rfl⟩
theorem sp_slices_Index_Sint_int (s_ : List Int) (v_ : Int) (r : Int) (h : Ok (nL cI s_) → Ok (nI v_) → slices_Index_Sint_int s_ v_ = some r) : Sp Tryz.prog 152 [.im (nL cI s_), .im (nI v_)] (.im (nI r)) := by
 refine sp_of rfl [] rfl rfl rfl (Nat.le_of_ble_eq_true rfl) rfl fun hk => ?_
 replace h := h hk.1 hk.2.1
 have z1 : lZ s_ := ok_len hk.1
 unfold slices_Index_Sint_int at h
 conv=>whnf
 refine Nf.mk (List.length s_) len_map ?_
 conv=>whnf
 obtain ⟨oc, hc, hk51⟩ := bind_some h
 clear h
 have h := hc
 clear hc
 refine Cut.mkS oc (Y := Unit) (fun (_ : Unit) => mkSt [] [] []) (fun (_ : Unit) => True) (by rintro ⟨⟩; exact (hT)) ?_ ?_
 ·conv=>whnf
  refine Loops.iter (fun (s : Nat) => slices_Index_Sint_int.s2 s_ v_ s) (fun y67 => mkSt [(0, .im (nL cI s_)), (1, .im (nI v_)), (7, .im (nI (↑(List.length s_) : Int))), (8, .im (nI (↑y67 : Int)))] [] []) (fun y67 => lZ s_ ∧ True) h (eA []) (by rintro y67; exact ((Holds.avl 0 rfl).and (hT))) ?_
  clear h
  rintro k y67 o hp h ho71
  replace h : slices_Index_Sint_int.s2 s_ v_ y67 = some o := h
  unfold slices_Index_Sint_int.s2 at h
  obtain ⟨z75, _⟩ := hp
  conv=>whnf
  refine Both.mk ?_ ?_<;>intro b72
  ·obtain ⟨h, b72d⟩ := ctd b72 h
   conv=>whnf
   obtain ⟨e73, he73, h⟩ := idxn_some h
   refine ⟨_, ⟨(by omega), map_at he73, rfl⟩, ?_⟩
   conv=>whnf
   refine Both.mk ?_ ?_<;>intro b74
   ·obtain ⟨h, b74d⟩ := ctd b74 h
    conv=>whnf
    cases h
    have ho71 : _ = _ := ho71
    cases ho71
    replace h : some _ = some _ := hk51
    cases h
    conv=>whnf
    exact ⟨rfl, rfl⟩
   ·obtain ⟨h, b74d⟩ := cfd b74 h
    conv=>whnf
    refine Side.mk (by show inR _; unfold inR; omega) ?_
    conv=>whnf
    cases h
    exact Nxt.mk _ ho71 (eA [])
  ·obtain ⟨h, b72d⟩ := cfd b72 h
   conv=>whnf
   cases h
   have ho71 : _ = _ := ho71
   cases ho71
   exact JoinS.mk' _ rfl (eA [])
 ·rintro ⟨⟩ rfl hp
  replace h := sum_inl hk51
  conv=>whnf
  cases h
  conv=>whnf
  exact ⟨rfl, rfl⟩
theorem sp_slices_Contains_Sint_int (s_ : List Int) (v_ : Int) (r : Bool) (h : Ok (nL cI s_) → Ok (nI v_) → slices_Contains_Sint_int s_ v_ = some r) : Sp Tryz.prog 127 [.im (nL cI s_), .im (nI v_)] (.im (nB r)) := by
 refine sp_of rfl [] rfl rfl rfl (Nat.le_of_ble_eq_true rfl) rfl fun hk => ?_
 replace h := h hk.1 hk.2.1
 have z1 : lZ s_ := ok_len hk.1
 unfold slices_Contains_Sint_int at h
 conv=>whnf
 obtain ⟨c51, hc51, h⟩ := bind_some h
 refine ⟨_, (sp_slices_Index_Sint_int s_ v_ c51 (fun _ _ => hc51)), ?_⟩
 conv=>whnf
 cases h
 conv=>whnf
 exact ⟨rfl, rfl⟩
theorem sp_table_view_unclosed (v_ : T_table_view) (r : Int × Int × Bool) (h : Ok (.agg (c_table_view v_)) → table_view_unclosed v_ = some r) : Sp Tryz.prog 84 [.im (.agg (c_table_view v_))] (.tup [nI r.1, nI r.2.1, nB r.2.2]) := by
 refine sp_of rfl [700001] rfl rfl rfl (Nat.le_of_ble_eq_true rfl) rfl fun hk => ?_
 replace h := h hk.1
 have z1 : lZ v_.rows := ok_len (Ok.agg_at hk.1 0 rfl)
 have z2 : lZ v_.prefixes := ok_len (Ok.agg_at hk.1 1 rfl)
 have z3 : lZ v_.next := ok_len (Ok.agg_at hk.1 2 rfl)
 unfold table_view_unclosed at h
 conv=>whnf
 refine Nf.mk (List.length v_.next) len_map ?_
 conv=>whnf
 obtain ⟨oc, hc, hk51⟩ := bind_some h
 clear h
 have h := hc
 clear hc
 refine Cut.mkS oc (Y := Unit) (fun (_ : Unit) => mkSt [] [] []) (fun (_ : Unit) => True) (by rintro ⟨⟩; exact (hT)) ?_ ?_
 ·conv=>whnf
  refine Loops.iter (fun (s : Nat) => table_view_unclosed.s14 v_ s) (fun y199 => mkSt [(1, .im (.ref (c_table_view v_))), (10, .im (nL (cL cI) v_.next)), (11, .im (nI (↑(List.length v_.next) : Int))), (12, .im (nI (↑y199 : Int)))] [] []) (fun y199 => lZ v_.next ∧ True) h (eA []) (by rintro y199; exact ((Holds.avl 10 rfl).and (hT))) ?_
  clear h
  rintro k y199 o hp h ho236
  replace h : table_view_unclosed.s14 v_ y199 = some o := h
  unfold table_view_unclosed.s14 at h
  obtain ⟨z273, _⟩ := hp
  conv=>whnf
  refine Both.mk ?_ ?_<;>intro b237
  ·obtain ⟨h, b237d⟩ := ctd b237 h
   conv=>whnf
   obtain ⟨e238, he238, h⟩ := idxn_some h
   refine ⟨_, ⟨(by omega), map_at he238, rfl⟩, ?_⟩
   conv=>whnf
   refine Nf.mk (List.length e238) len_map ?_
   conv=>whnf
   obtain ⟨oc, hc, hk239⟩ := bind_some h
   clear h
   have h := hc
   clear hc
   refine Cut.mkS oc (Y := Unit) (fun (_ : Unit) => mkSt [(1, .im (.ref (c_table_view v_))), (10, .im (nL (cL cI) v_.next)), (11, .im (nI (↑(List.length v_.next) : Int))), (12, .im (nI (↑y199 : Int)))] [] []) (fun (_ : Unit) => lZ v_.next ∧ True) (by rintro ⟨⟩; exact ((Holds.avl 10 rfl).and (hT))) ?_ ?_
   ·conv=>whnf
    refine Loops.iter (fun (s : Nat) => table_view_unclosed.s13 v_ y199 e238 s) (fun y260 => mkSt [(1, .im (.ref (c_table_view v_))), (5, .im (nI (↑y199 : Int))), (10, .im (nL (cL cI) v_.next)), (11, .im (nI (↑(List.length v_.next) : Int))), (12, .im (nI (↑y199 : Int))), (17, .im (nL cI e238)), (18, .im (nI (↑(List.length e238) : Int))), (19, .im (nI (↑y260 : Int)))] [] []) (fun y260 => lZ v_.next ∧ lZ e238 ∧ True) h (eA []) (by rintro y260; exact ((Holds.avl 10 rfl).and ((Holds.avl 17 rfl).and (hT)))) ?_
    clear h
    rintro k y260 o hp h ho265
    replace h : table_view_unclosed.s13 v_ y199 e238 y260 = some o := h
    unfold table_view_unclosed.s13 at h
    obtain ⟨z270, z271, _⟩ := hp
    conv=>whnf
    refine Both.mk ?_ ?_<;>intro b266
    ·obtain ⟨h, b266d⟩ := ctd b266 h
     conv=>whnf
     obtain ⟨e267, he267, h⟩ := idxn_some h
     refine ⟨_, ⟨(by omega), map_at he267, rfl⟩, ?_⟩
     conv=>whnf
     obtain ⟨c268, hc268, h⟩ := bind_some h
     refine ⟨_, (sp_slices_Contains_Sint_int v_.prefixes e267 c268 (fun _ _ => hc268)), ?_⟩
     conv=>whnf
     refine Both.mk ?_ ?_<;>intro b269
     ·replace h := cond_t b269 h
      conv=>whnf
      cases h
      have ho265 : _ = _ := ho265
      cases ho265
      replace h : some _ = some _ := hk239
      cases h
      have ho236 : _ = _ := ho236
      cases ho236
      replace h : some _ = some _ := hk51
      cases h
      conv=>whnf
      exact ⟨rfl, rfl⟩
     ·replace h := cond_f b269 h
      conv=>whnf
      refine Side.mk (by show inR _; unfold inR; omega) ?_
      conv=>whnf
      cases h
      exact Nxt.mk _ ho265 (eA [])
    ·obtain ⟨h, b266d⟩ := cfd b266 h
     conv=>whnf
     cases h
     have ho265 : _ = _ := ho265
     cases ho265
     exact JoinS.mk' _ rfl (eA [])
   ·rintro ⟨⟩ rfl hp
    replace h := sum_inl hk239
    obtain ⟨z272, _⟩ := hp
    conv=>whnf
    refine Side.mk (by show inR _; unfold inR; omega) ?_
    conv=>whnf
    cases h
    exact Nxt.mk _ ho236 (eA [])
  ·obtain ⟨h, b237d⟩ := cfd b237 h
   conv=>whnf
   cases h
   have ho236 : _ = _ := ho236
   cases ho236
   exact JoinS.mk' _ rfl (eA [])
 ·rintro ⟨⟩ rfl hp
  replace h := sum_inl hk51
  conv=>whnf
  cases h
  conv=>whnf
  exact ⟨rfl, rfl⟩
theorem sp_table_Unclosed (t_ : T_api_Table) (o_ : T_api_Obs) (r : List Int × Bool × Int) (h : Ok (.agg (c_api_Table t_)) → Ok (.agg (c_api_Obs o_)) → table_Unclosed t_ o_ = some r) : Sp Tryz.prog 28 [.im (.agg (c_api_Table t_)), .im (.agg (c_api_Obs o_))] (.tup [nL cI r.1, nB r.2.1, nI r.2.2]) := by
 refine sp_of rfl [700002, 700003] rfl rfl rfl (Nat.le_of_ble_eq_true rfl) rfl fun hk => ?_
 replace h := h hk.1 hk.2.1
 have z1 : lZ t_.Prefixes := ok_len (Ok.agg_at hk.1 1 rfl)
 have z2 : lZ t_.Suffixes := ok_len (Ok.agg_at hk.1 2 rfl)
 have z3 : lZ o_.Traces := ok_len (Ok.agg_at hk.2.1 1 rfl)
 unfold table_Unclosed at h
 conv=>whnf
 obtain ⟨c51, hc51, h⟩ := bind_some h
 refine ⟨_, (sp_table_look t_ o_ c51 (fun _ _ => hc51)), ?_⟩
 conv=>whnf
 refine Side.mk rfl ?_
 conv=>whnf
 refine Both.mk ?_ ?_<;>intro b52
 ·obtain ⟨h, b52d⟩ := ctd b52 h
  conv=>whnf
  cases h
  conv=>whnf
  exact ⟨rfl, rfl⟩
 ·obtain ⟨h, b52d⟩ := cfd b52 h
  conv=>whnf
  refine Side.mk rfl ?_
  conv=>whnf
  obtain ⟨c53, hc53, h⟩ := bind_some h
  refine ⟨_, (sp_table_view_unclosed c51.1 c53 (fun _ => hc53)), ?_⟩
  conv=>whnf
  refine Both.mk ?_ ?_<;>intro b54
  ·replace h := cond_t b54 h
   conv=>whnf
   cases h
   conv=>whnf
   exact ⟨rfl, rfl⟩
  ·replace h := cond_f b54 h
   conv=>whnf
   obtain ⟨e55, he55z, he55, h⟩ := idx_some h
   refine ⟨_, ⟨he55z, map_at he55, rfl⟩, ?_⟩
   conv=>whnf
   obtain ⟨c56, hc56, h⟩ := bind_some h
   refine ⟨_, (sp_table_extended e55 c53.2.1 c56 (fun _ _ => hc56)), ?_⟩
   conv=>whnf
   cases h
   conv=>whnf
   exact ⟨rfl, rfl⟩
theorem sp_R01_Join (parts_ : List (List Int)) (r : List Int) (h : Ok (nL (cL cI) parts_) → R01_Join parts_ = some r) : Sp Tryz.prog 102 [.im (nL (cL cI) parts_)] (.row 3 1 (List.map cI r)) := by
 refine sp_of rfl [] rfl rfl rfl (Nat.le_of_ble_eq_true rfl) rfl fun hk => ?_
 replace h := h hk.1
 have z1 : lZ parts_ := ok_len hk.1
 unfold R01_Join at h
 conv=>whnf
 obtain ⟨y66, hc, hk51⟩ := bind_some h
 clear h
 have h := hc
 clear hc
 refine Cut.mk (mkSt [(3, .osl 64 1)] [(64, .row 3 1 (List.map cI y66))] []) (lZ y66 ∧ True) ((Holds.kdl 64 rfl).and (hT)) ?_ (fun hp => ?_)
 ·conv=>whnf
  refine Loops.iter (fun (s : List Int × Nat) => R01_Join.s2 parts_ s.1 s.2) (fun (y70, i71) => mkSt [(0, .im (nL (cL cI) parts_)), (3, .osl 64 1), (4, .im (nI (↑i71 : Int)))] [(64, .row 3 1 (List.map cI y70))] []) (fun (y70, i71) => lZ parts_ ∧ lZ y70 ∧ True) h (eA [(64, none)]) (by rintro ⟨y70, i71⟩; exact ((Holds.avl 0 rfl).and ((Holds.kdl 64 rfl).and (hT)))) ?_
  clear h
  rintro k ⟨y70, i71⟩ o hp h ho75
  replace h : R01_Join.s2 parts_ y70 i71 = some o := h
  unfold R01_Join.s2 at h
  obtain ⟨z79, z80, _⟩ := hp
  conv=>whnf
  refine Nf.mk (List.length parts_) len_map ?_
  conv=>whnf
  refine Both.mk ?_ ?_<;>intro b76
  ·obtain ⟨h, b76d⟩ := ctd b76 h
   conv=>whnf
   obtain ⟨e77, he77, h⟩ := idxn_some h
   refine ⟨_, ⟨(by omega), map_at he77, rfl⟩, ?_⟩
   conv=>whnf
   obtain ⟨c78, h⟩ := chk_some h
   refine Side.mk ⟨rfl, map_len (l := e77) (c := cI) fun _ => rfl, show capOk _ 8 by simpa only [List.length_map, List.length_cons, List.length_nil, Nat.zero_add] using c78⟩ ?_
   conv=>whnf
   refine Nf.mk (List.map cI (y70 ++ e77)) (app_map (l := y70) (m := e77) (c := cI)) ?_
   conv=>whnf
   refine Side.mk (by show inR _; unfold inR; omega) ?_
   conv=>whnf
   cases h
   exact Nxt.mk _ ho75 (eA [(64, some 64)])
  ·obtain ⟨h, b76d⟩ := cfd b76 h
   conv=>whnf
   cases h
   have ho75 : _ = _ := ho75
   cases ho75
   exact Join.mk (eA [(64, some 64)])
 ·replace h := hk51
  obtain ⟨z81, _⟩ := hp
  conv=>whnf
  cases h
  conv=>whnf
  exact Side.mk ⟨rfl, trivial⟩ ⟨rfl, rfl⟩
theorem sp_R23_Joined (u_ : List Int) (v_ : List Int) (r : List Int) (h : Ok (nL cI u_) → Ok (nL cI v_) → R23_Joined u_ v_ = some r) : Sp Tryz.prog 77 [.im (nL cI u_), .im (nL cI v_)] (.im (nL cI r)) := by
 refine sp_of rfl [] rfl rfl rfl (Nat.le_of_ble_eq_true rfl) rfl fun hk => ?_
 replace h := h hk.1 hk.2.1
 have z1 : lZ u_ := ok_len hk.1
 have z2 : lZ v_ := ok_len hk.2.1
 unfold R23_Joined at h
 conv=>whnf
 obtain ⟨c51, hc51, h⟩ := bind_some h
 refine ⟨_, (sp_R01_Join [u_, v_] c51 (fun _ => hc51)).im, ?_⟩
 conv=>whnf
 cases h
 conv=>whnf
 exact ⟨rfl, rfl⟩
theorem sp_R01_HasPrefix (w_ : List Int) (p_ : List Int) (r : Bool) (h : Ok (nL cI w_) → Ok (nL cI p_) → R01_HasPrefix w_ p_ = some r) : Sp Tryz.prog 114 [.im (nL cI w_), .im (nL cI p_)] (.im (nB r)) := by
 refine sp_of rfl [] rfl rfl rfl (Nat.le_of_ble_eq_true rfl) rfl fun hk => ?_
 replace h := h hk.1 hk.2.1
 have z1 : lZ w_ := ok_len hk.1
 have z2 : lZ p_ := ok_len hk.2.1
 unfold R01_HasPrefix at h
 conv=>whnf
 obtain ⟨c51, hc51, h⟩ := bind_some h
 refine ⟨_, (sp_R01_Common w_ p_ c51 (fun _ _ => hc51)), ?_⟩
 conv=>whnf
 refine Nf.mk (List.length p_) len_map ?_
 conv=>whnf
 cases h
 conv=>whnf
 exact ⟨rfl, rfl⟩
theorem sp_R16_Answer (o_ : T_api_Obs) (w_ : List Int) (r : List Int × Bool) (h : Ok (.agg (c_api_Obs o_)) → Ok (nL cI w_) → R16_Answer o_ w_ = some r) : Sp Tryz.prog 78 [.im (.agg (c_api_Obs o_)), .im (nL cI w_)] (.tup [nL cI r.1, nB r.2]) := by
 refine sp_of rfl [700002] rfl rfl rfl (Nat.le_of_ble_eq_true rfl) rfl fun hk => ?_
 replace h := h hk.1 hk.2.1
 have z1 : lZ o_.Traces := ok_len (Ok.agg_at hk.1 1 rfl)
 have z2 : lZ w_ := ok_len hk.2.1
 unfold R16_Answer at h
 conv=>whnf
 refine Nf.mk (List.length w_) len_map ?_
 conv=>whnf
 refine Both.mk ?_ ?_<;>intro b51
 ·obtain ⟨h, b51d⟩ := ctd b51 h
  conv=>whnf
  cases h
  conv=>whnf
  exact ⟨rfl, rfl⟩
 ·obtain ⟨h, b51d⟩ := cfd b51 h
  conv=>whnf
  obtain ⟨oc, hc, hk52⟩ := bind_some h
  clear h
  have h := hc
  clear hc
  refine Cut.mkS oc (Y := Unit) (fun (_ : Unit) => mkSt [] [] []) (fun (_ : Unit) => True) (by rintro ⟨⟩; exact (hT)) ?_ ?_
  ·conv=>whnf
   refine Loops.iter (fun (s : Nat) => R16_Answer.s2 o_ w_ s) (fun i84 => mkSt [(1, .im (nL cI w_)), (2, .im (.ref (c_api_Obs o_))), (6, .im (nI (↑i84 : Int)))] [] []) (fun i84 => lZ w_ ∧ True) h (eA []) (by rintro i84; exact ((Holds.avl 1 rfl).and (hT))) ?_
   clear h
   rintro k i84 o hp h ho92
   replace h : R16_Answer.s2 o_ w_ i84 = some o := h
   unfold R16_Answer.s2 at h
   obtain ⟨z100, _⟩ := hp
   conv=>whnf
   refine Nf.mk (List.length o_.Traces) len_map ?_
   conv=>whnf
   refine Both.mk ?_ ?_<;>intro b93
   ·obtain ⟨h, b93d⟩ := ctd b93 h
    conv=>whnf
    obtain ⟨e94, he94, h⟩ := idxn_some h
    refine ⟨_, ⟨(by omega), map_at he94, rfl⟩, ?_⟩
    conv=>whnf
    obtain ⟨c95, hc95, h⟩ := bind_some h
    refine ⟨_, (sp_R01_HasPrefix e94.In w_ c95 (fun _ _ => hc95)), ?_⟩
    conv=>whnf
    refine Both.mk ?_ ?_<;>intro b96
    ·replace h := cond_t b96 h
     conv=>whnf
     obtain ⟨e97, he97, h⟩ := idxn_some h
     refine ⟨_, ⟨(by omega), map_at he97, rfl⟩, ?_⟩
     conv=>whnf
     refine Nf.mk (List.length w_) len_map ?_
     conv=>whnf
     obtain ⟨c98, h⟩ := chk_some h
     refine Side.mk (show (0 : Int) ≤ (0 : Int) ∧ (0 : Int) ≤ (↑(List.length w_) : Int) ∧ (↑(List.length w_) : Int) ≤ (↑(List.length (List.map cI e97.Out)) : Int) ∧ (∀ e ∈ List.map cI e97.Out, List.length e = 1) from ⟨by omega, by first | omega | (simp only [List.length_map]; omega), by first | omega | (simp only [List.length_map]; omega), map_len fun _ => rfl⟩) ?_
     conv=>whnf
     refine Nf.mk (List.map cI (List.take (List.length w_) e97.Out)) take_map ?_
     conv=>whnf
     obtain ⟨c99, hc99, h⟩ := bind_some h
     refine ⟨_, (sp_R01_Join [(List.take (List.length w_) e97.Out)] c99 (fun _ => hc99)).im, ?_⟩
     conv=>whnf
     cases h
     have ho92 : _ = _ := ho92
     cases ho92
     replace h : some _ = some _ := hk52
     cases h
     conv=>whnf
     exact ⟨rfl, rfl⟩
    ·replace h := cond_f b96 h
     conv=>whnf
     refine Side.mk (by show inR _; unfold inR; omega) ?_
     conv=>whnf
     cases h
     exact Nxt.mk _ ho92 (eA [])
   ·obtain ⟨h, b93d⟩ := cfd b93 h
    conv=>whnf
    cases h
    have ho92 : _ = _ := ho92
    cases ho92
    exact JoinS.mk' _ rfl (eA [])
  ·rintro ⟨⟩ rfl hp
   replace h := sum_inl hk52
   conv=>whnf
   cases h
   conv=>whnf
   exact ⟨rfl, rfl⟩
theorem sp_R23_After (o_ : T_api_Obs) (w_ : List Int) (e_ : List Int) (r : List Int × Bool) (h : Ok (.agg (c_api_Obs o_)) → Ok (nL cI w_) → Ok (nL cI e_) → R23_After o_ w_ e_ = some r) : Sp Tryz.prog 124 [.im (.agg (c_api_Obs o_)), .im (nL cI w_), .im (nL cI e_)] (.tup [nL cI r.1, nB r.2]) := by
 refine sp_of rfl [700003] rfl rfl rfl (Nat.le_of_ble_eq_true rfl) rfl fun hk => ?_
 replace h := h hk.1 hk.2.1 hk.2.2.1
 have z1 : lZ o_.Traces := ok_len (Ok.agg_at hk.1 1 rfl)
 have z2 : lZ w_ := ok_len hk.2.1
 have z3 : lZ e_ := ok_len hk.2.2.1
 unfold R23_After at h
 conv=>whnf
 obtain ⟨c51, hc51, h⟩ := bind_some h
 refine ⟨_, (sp_R23_Joined w_ e_ c51 (fun _ _ => hc51)), ?_⟩
 conv=>whnf
 obtain ⟨c52, hc52, h⟩ := bind_some h
 refine ⟨_, (sp_R16_Answer o_ c51 c52 (fun _ _ => hc52)), ?_⟩
 conv=>whnf
 refine Both.mk ?_ ?_<;>intro b53
 ·replace h := cond_t b53 h
  conv=>whnf
  cases h
  conv=>whnf
  exact ⟨rfl, rfl⟩
 ·replace h := cond_f b53 h
  conv=>whnf
  refine Nf.mk (List.length w_) len_map ?_
  conv=>whnf
  obtain ⟨c54, h⟩ := chk_some h
  refine Side.mk (show (0 : Int) ≤ (↑(List.length w_) : Int) ∧ (↑(List.length w_) : Int) ≤ (↑(List.length (List.map cI c52.1)) : Int) ∧ (↑(List.length (List.map cI c52.1)) : Int) ≤ (↑(List.length (List.map cI c52.1)) : Int) ∧ (∀ e ∈ List.map cI c52.1, List.length e = 1) from ⟨by omega, by first | omega | (simp only [List.length_map]; omega), by first | omega | (simp only [List.length_map]; omega), map_len fun _ => rfl⟩) ?_
  conv=>whnf
  refine Nf.mk (List.map cI (List.drop (List.length w_) c52.1)) drop_map ?_
  conv=>whnf
  cases h
  conv=>whnf
  exact ⟨rfl, rfl⟩
theorem sp_R23_row (o_ : T_api_Obs) (suffixes_ : List (List Int)) (w_ : List Int) (r : List (List Int) × Bool) (h : Ok (.agg (c_api_Obs o_)) → Ok (nL (cL cI) suffixes_) → Ok (nL cI w_) → R23_row o_ suffixes_ w_ = some r) : Sp Tryz.prog 81 [.im (.agg (c_api_Obs o_)), .im (nL (cL cI) suffixes_), .im (nL cI w_)] (.tup [nL (cL cI) r.1, nB r.2]) := by
 refine sp_of rfl [700003] rfl rfl rfl (Nat.le_of_ble_eq_true rfl) rfl fun hk => ?_
 replace h := h hk.1 hk.2.1 hk.2.2.1
 have z1 : lZ o_.Traces := ok_len (Ok.agg_at hk.1 1 rfl)
 have z2 : lZ suffixes_ := ok_len hk.2.1
 have z3 : lZ w_ := ok_len hk.2.2.1
 unfold R23_row at h
 conv=>whnf
 obtain ⟨oc, hc, hk51⟩ := bind_some h
 clear h
 have h := hc
 clear hc
 refine Cut.mkS oc (Y := List (List Int)) (fun y72 => mkSt [(8, .osl 64 1)] [(64, .row 38 1 (List.map (cL cI) y72))] []) (fun y72 => lZ y72 ∧ True) (by rintro y72; exact ((Holds.kdl 64 rfl).and (hT))) ?_ ?_
 ·conv=>whnf
  refine Loops.iter (fun (s : List (List Int) × Nat) => R23_row.s2 o_ suffixes_ w_ s.1 s.2) (fun (y77, k78) => mkSt [(1, .im (nL (cL cI) suffixes_)), (2, .im (nL cI w_)), (3, .im (.ref (c_api_Obs o_))), (8, .osl 64 1), (9, .im (nI (↑k78 : Int)))] [(64, .row 38 1 (List.map (cL cI) y77))] []) (fun (y77, k78) => lZ suffixes_ ∧ lZ w_ ∧ lZ y77 ∧ True) h (eA [(64, none)]) (by rintro ⟨y77, k78⟩; exact ((Holds.avl 1 rfl).and ((Holds.avl 2 rfl).and ((Holds.kdl 64 rfl).and (hT))))) ?_
  clear h
  rintro k ⟨y77, k78⟩ o hp h ho84
  replace h : R23_row.s2 o_ suffixes_ w_ y77 k78 = some o := h
  unfold R23_row.s2 at h
  obtain ⟨z90, z91, z92, _⟩ := hp
  conv=>whnf
  refine Nf.mk (List.length suffixes_) len_map ?_
  conv=>whnf
  refine Both.mk ?_ ?_<;>intro b85
  ·obtain ⟨h, b85d⟩ := ctd b85 h
   conv=>whnf
   obtain ⟨e86, he86, h⟩ := idxn_some h
   refine ⟨_, ⟨(by omega), map_at he86, rfl⟩, ?_⟩
   conv=>whnf
   obtain ⟨c87, hc87, h⟩ := bind_some h
   refine ⟨_, (sp_R23_After o_ w_ e86 c87 (fun _ _ _ => hc87)), ?_⟩
   conv=>whnf
   refine Both.mk ?_ ?_<;>intro b88
   ·replace h := cond_t b88 h
    conv=>whnf
    cases h
    have ho84 : _ = _ := ho84
    cases ho84
    replace h : some _ = some _ := hk51
    cases h
    conv=>whnf
    exact ⟨rfl, rfl⟩
   ·replace h := cond_f b88 h
    conv=>whnf
    obtain ⟨c89, h⟩ := chk_some h
    refine Side.mk ⟨rfl, map_len (l := [c87.1]) (c := cL cI) fun _ => rfl, show capOk _ 24 by simpa only [List.length_map, List.length_cons, List.length_nil, Nat.zero_add] using c89⟩ ?_
    conv=>whnf
    refine Nf.mk (List.map (cL cI) (y77 ++ [c87.1])) (app_map (l := y77) (m := [c87.1]) (c := cL cI)) ?_
    conv=>whnf
    refine Side.mk (by show inR _; unfold inR; omega) ?_
    conv=>whnf
    cases h
    exact Nxt.mk _ ho84 (eA [(64, some 64)])
  ·obtain ⟨h, b85d⟩ := cfd b85 h
   conv=>whnf
   cases h
   have ho84 : _ = _ := ho84
   cases ho84
   exact JoinS.mk' _ rfl (eA [(64, some 64)])
 ·rintro y72 rfl hp
  replace h := sum_inl hk51
  obtain ⟨z93, _⟩ := hp
  conv=>whnf
  cases h
  conv=>whnf
  exact Side.mk ⟨rfl, trivial⟩ ⟨rfl, rfl⟩
end Go.Proofs.YtpmebphhbgpapaaGreatDoor.Sym
