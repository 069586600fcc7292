/-
  The contracts of the functions, read from the code by a program (ext.py): each function has its plain twin as its contract.
-/
import Derived.Test.YtajipjnfegmlcaaGreatDoorM4
set_option linter.all false
namespace Go.Proofs.YtajipjnfegmlcaaGreatDoor.Sym
open Go.RowKit
set_option maxRecDepth 100000
set_option linter.unusedVariables false
set_option maxHeartbeats 4000000
theorem eI {σ:St} {src:List (Nat×Option Nat)} {γ:Nat→Nat} {t:Nat} {y b:IV} (h1:σ.av t=.im y) (h2:AV.im y=.im b):∃ x,σ.av t=x∧SubR σ src γ x (.im b):=⟨.im y,h1,.im (Sub.rfl' h2)⟩
theorem odt {p:Prop} [Decidable p] (h:decide p=true):p:=of_decide_eq_true h
theorem odf {p:Prop} [Decidable p] (h:decide p=false):¬ p:=of_decide_eq_false h
theorem ctd {α:Type} {p:Prop} [Decidable p] {x y z:α} (hb:decide p=true) (h:cond (decide p) x y=z):x=z∧p:=⟨cond_t hb h,odt hb⟩
theorem cfd {α:Type} {p:Prop} [Decidable p] {x y z:α} (hb:decide p=false) (h:cond (decide p) x y=z):y=z∧¬ p:=⟨cond_f hb h,odf hb⟩
theorem hT {σ:St}:Holds σ True:=Holds.true_ _
abbrev lZ {α:Type} (l:List α):Prop:=List.length l≤17592186044416
theorem eA {σ:St} {avs:List (Nat×AV)} {kds:List (Nat×Kd)} {cels:List (Nat×Nat×AV)} (src:List (Nat×Option Nat)) (hn:ndB (srcs src) []=true:=by exact rfl) (ha:SubL σ src (gnM kds) avs:=by repeat' (first | exact trivial | refine ⟨eI rfl rfl,?_⟩ | refine ⟨⟨.own _ _ _,rfl,.own rfl rfl rfl⟩,?_⟩ | refine ⟨⟨.osl _ _,rfl,.osl rfl rfl rfl⟩,?_⟩ | refine ⟨⟨.im (.val (.slice none 0 0)),rfl,.made rfl rfl⟩,?_⟩)) (hk:KdL σ src kds:=by repeat' (first | exact trivial | refine ⟨.inl ⟨_,rfl,rfl,trivial⟩,?_⟩ | refine ⟨.inl ⟨_,rfl,rfl,⟨rfl,rfl⟩⟩,?_⟩ | refine ⟨.inr ⟨rfl,rfl,.inl ⟨_,_,rfl,by decide⟩⟩,?_⟩)) (hc:CeL σ src (gnM kds) cels:=by repeat' (first | exact trivial | refine ⟨⟨_,.im _,rfl,rfl,.im (Sub.rfl' rfl)⟩,?_⟩ | refine ⟨⟨_,.own _ _ _,rfl,rfl,.own rfl rfl rfl⟩,?_⟩ | refine ⟨⟨_,.osl _ _,rfl,rfl,.osl rfl rfl rfl⟩,?_⟩)):Ent σ (mkSt avs kds cels):=Ent.mk src hn ha hk hc
theorem sp_slices_IndexFunc_Sint_int (s_:List Int) (f_:Int→Option Bool) (f1_:FuncId) (hf1:∀ x0 r,f_ x0=some r→Sp Tryz.prog f1_ [.im (nI x0)] (.im (nB r))) (r:Int) (h:Ok (nL cI s_)→Ok (.fn f1_ [])→slices_IndexFunc_Sint_int s_ f_=some r):Sp Tryz.prog 78 [.im (nL cI s_),.im (.fn f1_ [])] (.im (nI r)):=by
 refine sp_of rfl [] rfl rfl rfl (Nat.le_of_ble_eq_true rfl) rfl fun hk=>?_
 replace h:=h hk.1 hk.2.1
 have z1:lZ s_:=ok_len hk.1
 unfold slices_IndexFunc_Sint_int at h
 conv=>whnf
 refine Nf.mk (List.length s_) len_map ?_
 conv=>whnf
 obtain ⟨oc,hc,hk51⟩:=bind_some h
 clear h
 have h:=hc
 clear hc
 refine Cut.mkS oc (Y:=Unit) (fun (_:Unit)=>mkSt [] [] []) (fun (_:Unit)=>True) (by rintro ⟨⟩;exact (hT)) ?_ ?_
 conv=>whnf
 refine Loops.iter (fun (s:Nat)=>slices_IndexFunc_Sint_int.s2 s_ f_ s) (fun y71=>mkSt [(0,.im (nL cI s_)),(1,.im (.fn f1_ [])),(7,.im (nI (↑(List.length s_):Int))),(8,.im (nI (↑y71:Int)))] [] []) (fun y71=>lZ s_∧True) h (eA []) (by rintro y71;exact ((Holds.avl 0 rfl).and (hT))) ?_
 clear h
 rintro k y71 o hp h ho76
 replace h:slices_IndexFunc_Sint_int.s2 s_ f_ y71=some o:=h
 unfold slices_IndexFunc_Sint_int.s2 at h
 obtain ⟨z81,_⟩:=hp
 conv=>whnf
 refine Both.mk ?_ ?_<;>intro b77
 obtain ⟨h,b77d⟩:=ctd b77 h
 conv=>whnf
 obtain ⟨e78,he78,h⟩:=idxn_some h
 refine ⟨_,⟨(by omega),map_at he78,rfl⟩,?_⟩
 conv=>whnf
 obtain ⟨c79,hc79,h⟩:=bind_some h
 refine ⟨_,hf1 e78 c79 hc79,?_⟩
 conv=>whnf
 refine Both.mk ?_ ?_<;>intro b80
 replace h:=cond_t b80 h
 conv=>whnf
 cases h
 have ho76:_=_:=ho76
 cases ho76
 replace h:some _=some _:=hk51
 cases h
 conv=>whnf
 exact ⟨rfl,rfl⟩
 replace h:=cond_f b80 h
 conv=>whnf
 refine Arith.mk (by show inR _;unfold inR;omega) ?_
 conv=>whnf
 cases h
 exact Nxt.mk _ ho76 (eA [])
 obtain ⟨h,b77d⟩:=cfd b77 h
 conv=>whnf
 cases h
 have ho76:_=_:=ho76
 cases ho76
 exact JoinS.mk' _ rfl (eA [])
 rintro ⟨⟩ rfl hp
 replace h:=sum_inl hk51
 conv=>whnf
 cases h
 conv=>whnf
 exact ⟨rfl,rfl⟩
theorem sp_slices_ContainsFunc_Sint_int (s_:List Int) (f_:Int→Option Bool) (f1_:FuncId) (hf1:∀ x0 r,f_ x0=some r→Sp Tryz.prog f1_ [.im (nI x0)] (.im (nB r))) (r:Bool) (h:Ok (nL cI s_)→Ok (.fn f1_ [])→slices_ContainsFunc_Sint_int s_ f_=some r):Sp Tryz.prog 47 [.im (nL cI s_),.im (.fn f1_ [])] (.im (nB r)):=by
 refine sp_of rfl [] rfl rfl rfl (Nat.le_of_ble_eq_true rfl) rfl fun hk=>?_
 replace h:=h hk.1 hk.2.1
 have z1:lZ s_:=ok_len hk.1
 unfold slices_ContainsFunc_Sint_int at h
 conv=>whnf
 obtain ⟨c51,hc51,h⟩:=bind_some h
 refine ⟨_,(sp_slices_IndexFunc_Sint_int s_ f_ f1_ hf1 c51 (fun _ _=>hc51)),?_⟩
 conv=>whnf
 cases h
 conv=>whnf
 exact ⟨rfl,rfl⟩
theorem sp_word_permitted (inputs_:Int) (r:Bool) (h:Ok (nI inputs_)→word_permitted inputs_=some r):Sp Tryz.prog 46 [.im (nI inputs_)] (.im (nB r)):=by
 refine sp_of rfl [] rfl rfl rfl (Nat.le_of_ble_eq_true rfl) rfl fun hk=>?_
 replace h:=h hk.1
 unfold word_permitted at h
 conv=>whnf
 obtain ⟨y54,hc,hk52⟩:=bind_some h
 clear h
 have h:=hc
 clear hc
 refine Cut.mk (mkSt [(2,.im (nB y54))] [] []) (True) (hT) ?_ (fun hp=>?_)
 conv=>whnf
 refine Both.mk ?_ ?_<;>intro b55
 replace b55:=beq_tt b55
 obtain ⟨h,b55d⟩:=ctd b55 h
 conv=>whnf
 refine Both.yes (tt_beq b55) ?_
 conv=>whnf
 refine Both.yes b55 ?_
 conv=>whnf
 cases h
 exact Join.mk (eA [])
 replace b55:=beq_tf b55
 obtain ⟨h,b55d⟩:=cfd b55 h
 conv=>whnf
 refine Both.no (ft_beq b55) ?_
 conv=>whnf
 refine Both.no b55 ?_
 conv=>whnf
 cases h
 exact Join.mk (eA [])
 replace h:=hk52
 conv=>whnf
 cases h
 conv=>whnf
 exact ⟨rfl,rfl⟩
theorem sp_word_Check_1 (a_:Int) (p1_:Int) (r:Bool) (h:Ok (nI a_)→Ok (.ref (cI p1_))→word_Check_1 a_ p1_=some r):Sp Tryz.prog 48 [.im (nI a_),.im (.ref (cI p1_))] (.im (nB r)):=by
 refine sp_of rfl [] rfl rfl rfl (Nat.le_of_ble_eq_true rfl) rfl fun hk=>?_
 replace h:=h hk.1 hk.2.1
 unfold word_Check_1 at h
 conv=>whnf
 obtain ⟨y54,hc,hk52⟩:=bind_some h
 clear h
 have h:=hc
 clear hc
 refine Cut.mk (mkSt [(3,.im (nB y54))] [] []) (True) (hT) ?_ (fun hp=>?_)
 conv=>whnf
 refine Both.mk ?_ ?_<;>intro b55
 replace b55:=beq_ff b55
 obtain ⟨h,b55d⟩:=cfd b55 h
 conv=>whnf
 iterate 2 (refine Both.yes (ff_beq b55) ?_;(conv=>whnf))
 refine Both.no b55 ?_
 conv=>whnf
 cases h
 exact Join.mk (eA [])
 replace b55:=beq_ft b55
 obtain ⟨h,b55d⟩:=ctd b55 h
 conv=>whnf
 iterate 2 (refine Both.no (tf_beq b55) ?_;(conv=>whnf))
 refine Both.yes b55 ?_
 conv=>whnf
 cases h
 exact Join.mk (eA [])
 replace h:=hk52
 conv=>whnf
 cases h
 conv=>whnf
 exact ⟨rfl,rfl⟩
theorem sp_slices_IndexFunc_Sint_int_n1 (s_:List Int) (f_:Int→Option Bool) (f1_:FuncId) (k1_0:IV) (hk1_0:nz k1_0=k1_0) (hf1:∀ x0 r,f_ x0=some r→Sp Tryz.prog f1_ [.im (nI x0),.im k1_0] (.im (nB r))) (r:Int) (h:Ok (nL cI s_)→Ok (.fn f1_ [k1_0])→slices_IndexFunc_Sint_int_n1 s_ f_=some r):Sp Tryz.prog 78 [.im (nL cI s_),.im (.fn f1_ [k1_0])] (.im (nI r)):=by
 refine sp_of rfl [] rfl rfl rfl (Nat.le_of_ble_eq_true rfl) rfl fun hk=>?_
 replace h:=h hk.1 hk.2.1
 have z1:lZ s_:=ok_len hk.1
 unfold slices_IndexFunc_Sint_int_n1 at h
 conv=>whnf
 refine Nf.mk (List.length s_) len_map ?_
 conv=>whnf
 obtain ⟨oc,hc,hk51⟩:=bind_some h
 clear h
 have h:=hc
 clear hc
 refine Cut.mkS oc (Y:=Unit) (fun (_:Unit)=>mkSt [] [] []) (fun (_:Unit)=>True) (by rintro ⟨⟩;exact (hT)) ?_ ?_
 conv=>whnf
 refine Loops.iter (fun (s:Nat)=>slices_IndexFunc_Sint_int_n1.s2 s_ f_ s) (fun y71=>mkSt [(0,.im (nL cI s_)),(1,.im (.fn f1_ [k1_0])),(7,.im (nI (↑(List.length s_):Int))),(8,.im (nI (↑y71:Int)))] [] []) (fun y71=>lZ s_∧True) h (eA []) (by rintro y71;exact ((Holds.avl 0 rfl).and (hT))) ?_
 clear h
 rintro k y71 o hp h ho76
 replace h:slices_IndexFunc_Sint_int_n1.s2 s_ f_ y71=some o:=h
 unfold slices_IndexFunc_Sint_int_n1.s2 at h
 obtain ⟨z81,_⟩:=hp
 conv=>whnf
 refine Both.mk ?_ ?_<;>intro b77
 obtain ⟨h,b77d⟩:=ctd b77 h
 conv=>whnf
 obtain ⟨e78,he78,h⟩:=idxn_some h
 refine ⟨_,⟨(by omega),map_at he78,rfl⟩,?_⟩
 conv=>whnf
 obtain ⟨c79,hc79,h⟩:=bind_some h
 refine ⟨_,Sp.args (hf1 e78 c79 hc79) (by rw [hk1_0];try rfl),?_⟩
 conv=>whnf
 refine Both.mk ?_ ?_<;>intro b80
 replace h:=cond_t b80 h
 conv=>whnf
 cases h
 have ho76:_=_:=ho76
 cases ho76
 replace h:some _=some _:=hk51
 cases h
 conv=>whnf
 exact ⟨rfl,rfl⟩
 replace h:=cond_f b80 h
 conv=>whnf
 refine Arith.mk (by show inR _;unfold inR;omega) ?_
 conv=>whnf
 cases h
 exact Nxt.mk _ ho76 (eA [])
 obtain ⟨h,b77d⟩:=cfd b77 h
 conv=>whnf
 cases h
 have ho76:_=_:=ho76
 cases ho76
 exact JoinS.mk' _ rfl (eA [])
 rintro ⟨⟩ rfl hp
 replace h:=sum_inl hk51
 conv=>whnf
 cases h
 conv=>whnf
 exact ⟨rfl,rfl⟩
theorem sp_slices_ContainsFunc_Sint_int_n1 (s_:List Int) (f_:Int→Option Bool) (f1_:FuncId) (k1_0:IV) (hk1_0:nz k1_0=k1_0) (hf1:∀ x0 r,f_ x0=some r→Sp Tryz.prog f1_ [.im (nI x0),.im k1_0] (.im (nB r))) (r:Bool) (h:Ok (nL cI s_)→Ok (.fn f1_ [k1_0])→slices_ContainsFunc_Sint_int_n1 s_ f_=some r):Sp Tryz.prog 47 [.im (nL cI s_),.im (.fn f1_ [k1_0])] (.im (nB r)):=by
 refine sp_of rfl [] rfl rfl rfl (Nat.le_of_ble_eq_true rfl) rfl fun hk=>?_
 replace h:=h hk.1 hk.2.1
 have z1:lZ s_:=ok_len hk.1
 unfold slices_ContainsFunc_Sint_int_n1 at h
 conv=>whnf
 obtain ⟨c51,hc51,h⟩:=bind_some h
 refine ⟨_,(sp_slices_IndexFunc_Sint_int_n1 s_ f_ f1_ k1_0 hk1_0 hf1 c51 (fun _ _=>hc51)),?_⟩
 conv=>whnf
 cases h
 conv=>whnf
 exact ⟨rfl,rfl⟩
theorem sp_word_Check (w_:List Int) (inputs_:Int) (r:Int) (h:Ok (nL cI w_)→Ok (nI inputs_)→word_Check w_ inputs_=some r):Sp Tryz.prog 20 [.im (nL cI w_),.im (nI inputs_)] (.im (nI r)):=by
 refine sp_of rfl [700003] rfl rfl rfl (Nat.le_of_ble_eq_true rfl) rfl fun hk=>?_
 replace h:=h hk.1 hk.2.1
 have z1:lZ w_:=ok_len hk.1
 unfold word_Check at h
 conv=>whnf
 obtain ⟨c51,hc51,h⟩:=bind_some h
 refine ⟨_,(sp_word_permitted inputs_ c51 (fun _=>hc51)),?_⟩
 conv=>whnf
 refine Both.mk ?_ ?_<;>intro b52
 replace h:=cond_t b52 h
 conv=>whnf
 cases h
 conv=>whnf
 exact ⟨rfl,rfl⟩
 replace h:=cond_f b52 h
 conv=>whnf
 refine Nf.mk (List.length w_) len_map ?_
 conv=>whnf
 refine Both.mk ?_ ?_<;>intro b53
 obtain ⟨h,b53d⟩:=ctd b53 h
 conv=>whnf
 cases h
 conv=>whnf
 exact ⟨rfl,rfl⟩
 obtain ⟨h,b53d⟩:=cfd b53 h
 conv=>whnf
 obtain ⟨c54,hc54,h⟩:=bind_some h
 refine ⟨_,(sp_slices_ContainsFunc_Sint_int_n1 w_ (fun u0=>word_Check_1 u0 inputs_) 48 (.ref (cI inputs_)) rfl (fun u0 r h=>(sp_word_Check_1 u0 inputs_ r (fun _ _=>h))) c54 (fun _ _=>hc54)),?_⟩
 conv=>whnf
 refine Both.mk ?_ ?_<;>intro b55
 replace h:=cond_t b55 h
 conv=>whnf
 cases h
 conv=>whnf
 exact ⟨rfl,rfl⟩
 replace h:=cond_f b55 h
 conv=>whnf
 cases h
 conv=>whnf
 exact ⟨rfl,rfl⟩
theorem sp_word_Common (a_:List Int) (b_:List Int) (r:Int) (h:Ok (nL cI a_)→Ok (nL cI b_)→word_Common a_ b_=some r):Sp Tryz.prog 79 [.im (nL cI a_),.im (nL cI b_)] (.im (nI r)):=by
 refine sp_of rfl [] rfl rfl rfl (Nat.le_of_ble_eq_true rfl) rfl fun hk=>?_
 replace h:=h hk.1 hk.2.1
 have z1:lZ a_:=ok_len hk.1
 have z2:lZ b_:=ok_len hk.2.1
 unfold word_Common at h
 conv=>whnf
 refine Nf.mk (List.length a_) len_map ?_
 conv=>whnf
 refine Nf.mk (List.length b_) len_map ?_
 conv=>whnf
 obtain ⟨oc,hc,hk51⟩:=bind_some h
 clear h
 have h:=hc
 clear hc
 refine Cut.mkS oc (Y:=Unit) (fun (_:Unit)=>mkSt [(0,.im (nL cI a_)),(1,.im (nL cI b_))] [] []) (fun (_:Unit)=>lZ a_∧lZ b_∧True) (by rintro ⟨⟩;exact ((Holds.avl 0 rfl).and ((Holds.avl 1 rfl).and (hT)))) ?_ ?_
 conv=>whnf
 refine Loops.iter (fun (s:Nat)=>word_Common.s2 a_ b_ s) (fun y72=>mkSt [(0,.im (nL cI a_)),(1,.im (nL cI b_)),(10,.im (nI (min (↑(List.length a_):Int) (↑(List.length b_):Int)))),(11,.im (nI (↑y72:Int)))] [] []) (fun y72=>lZ a_∧lZ b_∧True) h (eA []) (by rintro y72;exact ((Holds.avl 0 rfl).and ((Holds.avl 1 rfl).and (hT)))) ?_
 clear h
 rintro k y72 o hp h ho77
 replace h:word_Common.s2 a_ b_ y72=some o:=h
 unfold word_Common.s2 at h
 obtain ⟨z82,z83,_⟩:=hp
 conv=>whnf
 refine Both.mk ?_ ?_<;>intro b78
 obtain ⟨h,b78d⟩:=ctd b78 h
 conv=>whnf
 obtain ⟨e79,he79,h⟩:=idxn_some h
 refine ⟨_,⟨(by omega),map_at he79,rfl⟩,?_⟩
 conv=>whnf
 obtain ⟨e80,he80,h⟩:=idxn_some h
 refine ⟨_,⟨(by omega),map_at he80,rfl⟩,?_⟩
 conv=>whnf
 refine Both.mk ?_ ?_<;>intro b81
 obtain ⟨h,b81d⟩:=ctd b81 h
 conv=>whnf
 cases h
 have ho77:_=_:=ho77
 cases ho77
 replace h:some _=some _:=hk51
 cases h
 conv=>whnf
 exact ⟨rfl,rfl⟩
 obtain ⟨h,b81d⟩:=cfd b81 h
 conv=>whnf
 refine Arith.mk (by show inR _;unfold inR;omega) ?_
 conv=>whnf
 cases h
 exact Nxt.mk _ ho77 (eA [])
 obtain ⟨h,b78d⟩:=cfd b78 h
 conv=>whnf
 cases h
 have ho77:_=_:=ho77
 cases ho77
 exact JoinS.mk' _ rfl (eA [])
 rintro ⟨⟩ rfl hp
 replace h:=sum_inl hk51
 obtain ⟨z84,z85,_⟩:=hp
 conv=>whnf
 refine Nf.mk (List.length a_) len_map ?_
 conv=>whnf
 refine Nf.mk (List.length b_) len_map ?_
 conv=>whnf
 cases h
 conv=>whnf
 exact ⟨rfl,rfl⟩
theorem sp_word_HasPrefix (w_:List Int) (p_:List Int) (r:Bool) (h:Ok (nL cI w_)→Ok (nL cI p_)→word_HasPrefix w_ p_=some r):Sp Tryz.prog 52 [.im (nL cI w_),.im (nL cI p_)] (.im (nB r)):=by
 refine sp_of rfl [] rfl rfl rfl (Nat.le_of_ble_eq_true rfl) rfl fun hk=>?_
 replace h:=h hk.1 hk.2.1
 have z1:lZ w_:=ok_len hk.1
 have z2:lZ p_:=ok_len hk.2.1
 unfold word_HasPrefix at h
 conv=>whnf
 obtain ⟨c51,hc51,h⟩:=bind_some h
 refine ⟨_,(sp_word_Common w_ p_ c51 (fun _ _=>hc51)),?_⟩
 conv=>whnf
 refine Nf.mk (List.length p_) len_map ?_
 conv=>whnf
 cases h
 conv=>whnf
 exact ⟨rfl,rfl⟩
theorem sp_observe_Answer_1 (t_:T_api_Trace) (p1_:List Int) (r:Bool) (h:Ok (.agg (c_api_Trace t_))→Ok (.ref (cL cI p1_))→observe_Answer_1 t_ p1_=some r):Sp Tryz.prog 51 [.im (.agg (c_api_Trace t_)),.im (.ref (cL cI p1_))] (.im (nB r)):=by
 refine sp_of rfl [700002] rfl rfl rfl (Nat.le_of_ble_eq_true rfl) rfl fun hk=>?_
 replace h:=h hk.1 hk.2.1
 have z1:lZ t_.In:=ok_len (Ok.agg_at hk.1 0 rfl)
 have z2:lZ t_.Out:=ok_len (Ok.agg_at hk.1 1 rfl)
 have z3:lZ p1_:=ok_len (Ok.ref_at hk.2.1 0 rfl)
 unfold observe_Answer_1 at h
 conv=>whnf
 obtain ⟨c51,hc51,h⟩:=bind_some h
 refine ⟨_,(sp_word_HasPrefix t_.In p1_ c51 (fun _ _=>hc51)),?_⟩
 conv=>whnf
 cases h
 conv=>whnf
 exact ⟨rfl,rfl⟩
theorem sp_slices_IndexFunc_Sapi_Trace_api_Trace_n1 (s_:List T_api_Trace) (f_:T_api_Trace→Option Bool) (f1_:FuncId) (k1_0:IV) (hk1_0:nz k1_0=k1_0) (hf1:∀ x0 r,f_ x0=some r→Sp Tryz.prog f1_ [.im (.agg (c_api_Trace x0)),.im k1_0] (.im (nB r))) (r:Int) (h:Ok (nL c_api_Trace s_)→Ok (.fn f1_ [k1_0])→slices_IndexFunc_Sapi_Trace_api_Trace_n1 s_ f_=some r):Sp Tryz.prog 50 [.im (nL c_api_Trace s_),.im (.fn f1_ [k1_0])] (.im (nI r)):=by
 refine sp_of rfl [] rfl rfl rfl (Nat.le_of_ble_eq_true rfl) rfl fun hk=>?_
 replace h:=h hk.1 hk.2.1
 have z1:lZ s_:=ok_len hk.1
 unfold slices_IndexFunc_Sapi_Trace_api_Trace_n1 at h
 conv=>whnf
 refine Nf.mk (List.length s_) len_map ?_
 conv=>whnf
 obtain ⟨oc,hc,hk51⟩:=bind_some h
 clear h
 have h:=hc
 clear hc
 refine Cut.mkS oc (Y:=Unit) (fun (_:Unit)=>mkSt [] [] []) (fun (_:Unit)=>True) (by rintro ⟨⟩;exact (hT)) ?_ ?_
 conv=>whnf
 refine Loops.iter (fun (s:Nat)=>slices_IndexFunc_Sapi_Trace_api_Trace_n1.s2 s_ f_ s) (fun y71=>mkSt [(0,.im (nL c_api_Trace s_)),(1,.im (.fn f1_ [k1_0])),(7,.im (nI (↑(List.length s_):Int))),(8,.im (nI (↑y71:Int)))] [] []) (fun y71=>lZ s_∧True) h (eA []) (by rintro y71;exact ((Holds.avl 0 rfl).and (hT))) ?_
 clear h
 rintro k y71 o hp h ho76
 replace h:slices_IndexFunc_Sapi_Trace_api_Trace_n1.s2 s_ f_ y71=some o:=h
 unfold slices_IndexFunc_Sapi_Trace_api_Trace_n1.s2 at h
 obtain ⟨z81,_⟩:=hp
 conv=>whnf
 refine Both.mk ?_ ?_<;>intro b77
 obtain ⟨h,b77d⟩:=ctd b77 h
 conv=>whnf
 obtain ⟨e78,he78,h⟩:=idxn_some h
 refine ⟨_,⟨(by omega),map_at he78,rfl⟩,?_⟩
 conv=>whnf
 obtain ⟨c79,hc79,h⟩:=bind_some h
 refine ⟨_,Sp.args (hf1 e78 c79 hc79) (by rw [hk1_0];try rfl),?_⟩
 conv=>whnf
 refine Both.mk ?_ ?_<;>intro b80
 replace h:=cond_t b80 h
 conv=>whnf
 cases h
 have ho76:_=_:=ho76
 cases ho76
 replace h:some _=some _:=hk51
 cases h
 conv=>whnf
 exact ⟨rfl,rfl⟩
 replace h:=cond_f b80 h
 conv=>whnf
 refine Arith.mk (by show inR _;unfold inR;omega) ?_
 conv=>whnf
 cases h
 exact Nxt.mk _ ho76 (eA [])
 obtain ⟨h,b77d⟩:=cfd b77 h
 conv=>whnf
 cases h
 have ho76:_=_:=ho76
 cases ho76
 exact JoinS.mk' _ rfl (eA [])
 rintro ⟨⟩ rfl hp
 replace h:=sum_inl hk51
 conv=>whnf
 cases h
 conv=>whnf
 exact ⟨rfl,rfl⟩
theorem sp_observe_Answer (o_:T_api_Obs) (w_:List Int) (r:List Int×Bool) (h:Ok (.agg (c_api_Obs o_))→Ok (nL cI w_)→observe_Answer o_ w_=some r):Sp Tryz.prog 22 [.im (.agg (c_api_Obs o_)),.im (nL cI w_)] (.tup [nL cI r.1,nB r.2]):=by
 refine sp_of rfl [700002,700003] rfl rfl rfl (Nat.le_of_ble_eq_true rfl) rfl fun hk=>?_
 replace h:=h hk.1 hk.2.1
 have z1:lZ o_.Traces:=ok_len (Ok.agg_at hk.1 1 rfl)
 have z2:lZ w_:=ok_len hk.2.1
 unfold observe_Answer at h
 conv=>whnf
 refine Nf.mk (List.length w_) len_map ?_
 conv=>whnf
 refine Both.mk ?_ ?_<;>intro b51
 obtain ⟨h,b51d⟩:=ctd b51 h
 conv=>whnf
 cases h
 conv=>whnf
 exact ⟨rfl,rfl⟩
 obtain ⟨h,b51d⟩:=cfd b51 h
 conv=>whnf
 obtain ⟨c52,hc52,h⟩:=bind_some h
 refine ⟨_,(sp_slices_IndexFunc_Sapi_Trace_api_Trace_n1 o_.Traces (fun u0=>observe_Answer_1 u0 w_) 51 (.ref (cL cI w_)) rfl (fun u0 r h=>(sp_observe_Answer_1 u0 w_ r (fun _ _=>h))) c52 (fun _ _=>hc52)),?_⟩
 conv=>whnf
 refine Both.mk ?_ ?_<;>intro b53
 obtain ⟨h,b53d⟩:=ctd b53 h
 conv=>whnf
 cases h
 conv=>whnf
 exact ⟨rfl,rfl⟩
 obtain ⟨h,b53d⟩:=cfd b53 h
 conv=>whnf
 obtain ⟨e54,he54z,he54,h⟩:=idx_some h
 refine ⟨_,⟨he54z,map_at he54,rfl⟩,?_⟩
 conv=>whnf
 refine Nf.mk (List.length w_) len_map ?_
 conv=>whnf
 refine Nf.mk (List.length e54.Out) len_map ?_
 conv=>whnf
 obtain ⟨c55,h⟩:=chk_some h
 refine Side.mk (show (0:Int)≤(0:Int)∧(0:Int)≤(min (↑(List.length w_):Int) (↑(List.length e54.Out):Int))∧(min (↑(List.length w_):Int) (↑(List.length e54.Out):Int))≤(↑(List.length (List.map cI e54.Out)):Int)∧(∀ e∈List.map cI e54.Out,List.length e=1) from ⟨by omega,by first | omega | (simp only [List.length_map];omega),by first | omega | (simp only [List.length_map];omega),map_len fun _=>rfl⟩) ?_
 conv=>whnf
 refine Nf.mk (List.map cI (List.take (Int.toNat (min (↑(List.length w_):Int) (↑(List.length e54.Out):Int))) e54.Out)) take_map ?_
 conv=>whnf
 obtain ⟨c56,hc56,h⟩:=bind_some h
 refine ⟨_,(sp_lib_Clone_int (List.take (Int.toNat (min (↑(List.length w_):Int) (↑(List.length e54.Out):Int))) e54.Out) c56 (hc56)).im,?_⟩
 conv=>whnf
 cases h
 conv=>whnf
 exact ⟨rfl,rfl⟩
theorem sp_mealy_Valid (m_:T_api_Mealy) (r:Int) (h:Ok (.agg (c_api_Mealy m_))→mealy_Valid m_=some r):Sp Tryz.prog 74 [.im (.agg (c_api_Mealy m_))] (.im (nI r)):=by
 refine sp_of rfl [700001] rfl rfl rfl (Nat.le_of_ble_eq_true rfl) rfl fun hk=>?_
 replace h:=h hk.1
 have z1:lZ m_.Next:=ok_len (Ok.agg_at hk.1 2 rfl)
 have z2:lZ m_.Out:=ok_len (Ok.agg_at hk.1 3 rfl)
 unfold mealy_Valid at h
 conv=>whnf
 refine Nf.mk (List.length m_.Next) len_map ?_
 conv=>whnf
 obtain ⟨y54,hc,hk52⟩:=bind_some h
 clear h
 have h:=hc
 clear hc
 refine Cut.mk (mkSt [(1,.im (.ref (c_api_Mealy m_))),(3,.im (nI (↑(List.length m_.Next):Int))),(11,.im (nB y54))] [] []) (True) (hT) ?_ (fun hp=>?_)
 conv=>whnf
 refine Both.mk ?_ ?_<;>intro b55
 replace b55:=beq_ff b55
 obtain ⟨h,b55d⟩:=cfd b55 h
 conv=>whnf
 iterate 2 (refine Both.yes (ff_beq b55) ?_;(conv=>whnf))
 refine Both.no b55 ?_
 conv=>whnf
 cases h
 exact Join.mk (eA [])
 replace b55:=beq_ft b55
 obtain ⟨h,b55d⟩:=ctd b55 h
 conv=>whnf
 iterate 2 (refine Both.no (tf_beq b55) ?_;(conv=>whnf))
 refine Both.yes b55 ?_
 conv=>whnf
 cases h
 exact Join.mk (eA [])
 replace h:=hk52
 conv=>whnf
 refine Both.mk ?_ ?_<;>intro b56
 replace h:=cond_t b56 h
 conv=>whnf
 cases h
 conv=>whnf
 exact ⟨rfl,rfl⟩
 replace h:=cond_f b56 h
 conv=>whnf
 refine Both.mk ?_ ?_<;>intro b57
 obtain ⟨h,b57d⟩:=ctd b57 h
 conv=>whnf
 cases h
 conv=>whnf
 exact ⟨rfl,rfl⟩
 obtain ⟨h,b57d⟩:=cfd b57 h
 conv=>whnf
 refine Both.mk ?_ ?_<;>intro b58
 obtain ⟨h,b58d⟩:=ctd b58 h
 conv=>whnf
 cases h
 conv=>whnf
 exact ⟨rfl,rfl⟩
 obtain ⟨h,b58d⟩:=cfd b58 h
 conv=>whnf
 obtain ⟨y62,hc,hk60⟩:=bind_some h
 clear h
 have h:=hc
 clear hc
 refine Cut.mk (mkSt [(1,.im (.ref (c_api_Mealy m_))),(3,.im (nI (↑(List.length m_.Next):Int))),(26,.im (nB y62))] [] []) (True) (hT) ?_ (fun hp=>?_)
 conv=>whnf
 refine Both.mk ?_ ?_<;>intro b63
 replace b63:=beq_ff b63
 obtain ⟨h,b63d⟩:=cfd b63 h
 conv=>whnf
 iterate 3 (refine Both.yes (ff_beq b63) ?_;(conv=>whnf))
 refine Both.no b63 ?_
 conv=>whnf
 cases h
 exact Join.mk (eA [])
 replace b63:=beq_ft b63
 obtain ⟨h,b63d⟩:=ctd b63 h
 conv=>whnf
 iterate 3 (refine Both.no (tf_beq b63) ?_;(conv=>whnf))
 refine Both.yes b63 ?_
 conv=>whnf
 cases h
 exact Join.mk (eA [])
 replace h:=hk60
 conv=>whnf
 refine Both.mk ?_ ?_<;>intro b64
 replace h:=cond_t b64 h
 conv=>whnf
 cases h
 conv=>whnf
 exact ⟨rfl,rfl⟩
 replace h:=cond_f b64 h
 conv=>whnf
 refine Nf.mk (List.length m_.Out) len_map ?_
 conv=>whnf
 refine Both.mk ?_ ?_<;>intro b65
 obtain ⟨h,b65d⟩:=ctd b65 h
 conv=>whnf
 cases h
 conv=>whnf
 exact ⟨rfl,rfl⟩
 obtain ⟨h,b65d⟩:=cfd b65 h
 conv=>whnf
 obtain ⟨oc,hc,hk66⟩:=bind_some h
 clear h
 have h:=hc
 clear hc
 refine Cut.mkS oc (Y:=Unit) (fun (_:Unit)=>mkSt [] [] []) (fun (_:Unit)=>True) (by rintro ⟨⟩;exact (hT)) ?_ ?_
 conv=>whnf
 refine Loops.iter (fun (s:Nat)=>mealy_Valid.s14 m_ s) (fun y509=>mkSt [(1,.im (.ref (c_api_Mealy m_))),(3,.im (nI (↑(List.length m_.Next):Int))),(42,.im (nI (↑(List.length m_.Next):Int))),(43,.im (nI (↑y509:Int)))] [] []) (fun y509=>True) h (eA []) (by rintro y509;exact (hT)) ?_
 clear h
 rintro k y509 o hp h ho620
 replace h:mealy_Valid.s14 m_ y509=some o:=h
 unfold mealy_Valid.s14 at h
 conv=>whnf
 refine Both.mk ?_ ?_<;>intro b621
 obtain ⟨h,b621d⟩:=ctd b621 h
 conv=>whnf
 obtain ⟨y627,hc,hk623⟩:=bind_some h
 clear h
 have h:=hc
 clear hc
 refine Cut.mk (mkSt [(1,.im (.ref (c_api_Mealy m_))),(3,.im (nI (↑(List.length m_.Next):Int))),(4,.im (nI (↑y509:Int))),(42,.im (nI (↑(List.length m_.Next):Int))),(43,.im (nI (↑y509:Int))),(65,.im (nB y627))] [] []) (True) (hT) ?_ (fun hp=>?_)
 conv=>whnf
 obtain ⟨e628,he628,h⟩:=idxn_some h
 refine ⟨_,⟨(by omega),map_at he628,rfl⟩,?_⟩
 conv=>whnf
 refine Nf.mk (List.length e628) len_map ?_
 conv=>whnf
 refine Both.mk ?_ ?_<;>intro b629
 replace b629:=beq_ff b629
 obtain ⟨h,b629d⟩:=cfd b629 h
 conv=>whnf
 iterate 3 (refine Both.yes (ff_beq b629) ?_;(conv=>whnf))
 obtain ⟨e630,he630,h⟩:=idxn_some h
 refine ⟨_,⟨(by omega),map_at he630,rfl⟩,?_⟩
 conv=>whnf
 iterate 2 (refine Both.yes (ff_beq b629) ?_;(conv=>whnf))
 refine Nf.mk (List.length e630) len_map ?_
 conv=>whnf
 iterate 3 (refine Both.yes (ff_beq b629) ?_;(conv=>whnf))
 refine Both.no b629 ?_
 conv=>whnf
 cases h
 exact Join.mk (eA [])
 replace b629:=beq_ft b629
 obtain ⟨h,b629d⟩:=ctd b629 h
 conv=>whnf
 iterate 8 (refine Both.no (tf_beq b629) ?_;(conv=>whnf))
 refine Both.yes b629 ?_
 conv=>whnf
 cases h
 exact Join.mk (eA [])
 replace h:=hk623
 conv=>whnf
 refine Both.mk ?_ ?_<;>intro b631
 replace h:=cond_t b631 h
 conv=>whnf
 cases h
 have ho620:_=_:=ho620
 cases ho620
 replace h:some _=some _:=hk66
 cases h
 conv=>whnf
 exact ⟨rfl,rfl⟩
 replace h:=cond_f b631 h
 conv=>whnf
 obtain ⟨oc,hc,hk632⟩:=bind_some h
 clear h
 have h:=hc
 clear hc
 refine Cut.mkS oc (Y:=Unit) (fun (_:Unit)=>mkSt [(1,.im (.ref (c_api_Mealy m_))),(3,.im (nI (↑(List.length m_.Next):Int))),(42,.im (nI (↑(List.length m_.Next):Int))),(43,.im (nI (↑y509:Int)))] [] []) (fun (_:Unit)=>True) (by rintro ⟨⟩;exact (hT)) ?_ ?_
 conv=>whnf
 refine Loops.iter (fun (s:Nat)=>mealy_Valid.s13 m_ y509 s) (fun y697=>mkSt [(1,.im (.ref (c_api_Mealy m_))),(3,.im (nI (↑(List.length m_.Next):Int))),(4,.im (nI (↑y509:Int))),(42,.im (nI (↑(List.length m_.Next):Int))),(43,.im (nI (↑y509:Int))),(67,.im (nI m_.Inputs)),(68,.im (nI (↑y697:Int)))] [] []) (fun y697=>True) h (eA []) (by rintro y697;exact (hT)) ?_
 clear h
 rintro k y697 o hp h ho714
 replace h:mealy_Valid.s13 m_ y509 y697=some o:=h
 unfold mealy_Valid.s13 at h
 conv=>whnf
 refine Both.mk ?_ ?_<;>intro b715
 obtain ⟨h,b715d⟩:=ctd b715 h
 conv=>whnf
 obtain ⟨e716,he716,h⟩:=idxn_some h
 refine ⟨_,⟨(by omega),map_at he716,rfl⟩,?_⟩
 conv=>whnf
 obtain ⟨e717,he717,h⟩:=idxn_some h
 refine ⟨_,⟨(by omega),map_at he717,rfl⟩,?_⟩
 conv=>whnf
 obtain ⟨e718,he718,h⟩:=idxn_some h
 refine ⟨_,⟨(by omega),map_at he718,rfl⟩,?_⟩
 conv=>whnf
 obtain ⟨e719,he719,h⟩:=idxn_some h
 refine ⟨_,⟨(by omega),map_at he719,rfl⟩,?_⟩
 conv=>whnf
 obtain ⟨y725,hc,hk721⟩:=bind_some h
 clear h
 have h:=hc
 clear hc
 refine Cut.mk (mkSt [(1,.im (.ref (c_api_Mealy m_))),(3,.im (nI (↑(List.length m_.Next):Int))),(4,.im (nI (↑y509:Int))),(42,.im (nI (↑(List.length m_.Next):Int))),(43,.im (nI (↑y509:Int))),(67,.im (nI m_.Inputs)),(68,.im (nI (↑y697:Int))),(101,.im (nB y725))] [] []) (True) (hT) ?_ (fun hp=>?_)
 conv=>whnf
 refine Both.mk ?_ ?_<;>intro b726
 replace b726:=beq_ff b726
 obtain ⟨h,b726d⟩:=cfd b726 h
 conv=>whnf
 iterate 2 (refine Both.yes (ff_beq b726) ?_;(conv=>whnf))
 refine Both.no b726 ?_
 conv=>whnf
 refine Both.mk ?_ ?_<;>intro b727
 replace b727:=beq_ff b727
 obtain ⟨h,b727d⟩:=cfd b727 h
 conv=>whnf
 refine Both.yes (ff_beq b727) ?_
 conv=>whnf
 refine Both.no b727 ?_
 conv=>whnf
 refine Both.mk ?_ ?_<;>intro b728
 replace b728:=beq_ff b728
 obtain ⟨h,b728d⟩:=cfd b728 h
 conv=>whnf
 refine Both.yes (ff_beq b728) ?_
 conv=>whnf
 refine Both.no b728 ?_
 conv=>whnf
 cases h
 exact Join.mk (eA [])
 replace b728:=beq_ft b728
 obtain ⟨h,b728d⟩:=ctd b728 h
 conv=>whnf
 refine Both.no (tf_beq b728) ?_
 conv=>whnf
 refine Both.yes b728 ?_
 conv=>whnf
 cases h
 exact Join.mk (eA [])
 replace b727:=beq_ft b727
 obtain ⟨h,b727d⟩:=ctd b727 h
 conv=>whnf
 refine Both.no (tf_beq b727) ?_
 conv=>whnf
 refine Both.yes b727 ?_
 conv=>whnf
 iterate 2 (refine Both.no rfl ?_;(conv=>whnf))
 refine Both.yes rfl ?_
 conv=>whnf
 cases h
 exact Join.mk (eA [])
 replace b726:=beq_ft b726
 obtain ⟨h,b726d⟩:=ctd b726 h
 conv=>whnf
 iterate 2 (refine Both.no (tf_beq b726) ?_;(conv=>whnf))
 refine Both.yes b726 ?_
 conv=>whnf
 iterate 2 (refine Both.no rfl ?_;(conv=>whnf))
 refine Both.yes rfl ?_
 conv=>whnf
 iterate 2 (refine Both.no rfl ?_;(conv=>whnf))
 refine Both.yes rfl ?_
 conv=>whnf
 cases h
 exact Join.mk (eA [])
 replace h:=hk721
 conv=>whnf
 refine Both.mk ?_ ?_<;>intro b729
 replace h:=cond_t b729 h
 conv=>whnf
 cases h
 have ho714:_=_:=ho714
 cases ho714
 replace h:some _=some _:=hk632
 cases h
 have ho620:_=_:=ho620
 cases ho620
 replace h:some _=some _:=hk66
 cases h
 conv=>whnf
 exact ⟨rfl,rfl⟩
 replace h:=cond_f b729 h
 conv=>whnf
 obtain ⟨c730,h⟩:=chk_some h
 refine Arith.mk c730 ?_
 conv=>whnf
 cases h
 exact Nxt.mk _ ho714 (eA [])
 obtain ⟨h,b715d⟩:=cfd b715 h
 conv=>whnf
 cases h
 have ho714:_=_:=ho714
 cases ho714
 exact JoinS.mk' _ rfl (eA [])
 rintro ⟨⟩ rfl hp
 replace h:=sum_inl hk632
 conv=>whnf
 refine Arith.mk (by show inR _;unfold inR;omega) ?_
 conv=>whnf
 cases h
 exact Nxt.mk _ ho620 (eA [])
 obtain ⟨h,b621d⟩:=cfd b621 h
 conv=>whnf
 cases h
 have ho620:_=_:=ho620
 cases ho620
 exact JoinS.mk' _ rfl (eA [])
 rintro ⟨⟩ rfl hp
 replace h:=sum_inl hk66
 conv=>whnf
 cases h
 conv=>whnf
 exact ⟨rfl,rfl⟩
theorem sp_device_outside (n_:Int) (most_:Int) (r:Bool) (h:Ok (nI n_)→Ok (nI most_)→device_outside n_ most_=some r):Sp Tryz.prog 75 [.im (nI n_),.im (nI most_)] (.im (nB r)):=by
 refine sp_of rfl [] rfl rfl rfl (Nat.le_of_ble_eq_true rfl) rfl fun hk=>?_
 replace h:=h hk.1 hk.2.1
 unfold device_outside at h
 conv=>whnf
 obtain ⟨y54,hc,hk52⟩:=bind_some h
 clear h
 have h:=hc
 clear hc
 refine Cut.mk (mkSt [(4,.im (nB y54))] [] []) (True) (hT) ?_ (fun hp=>?_)
 conv=>whnf
 refine Both.mk ?_ ?_<;>intro b55
 replace b55:=beq_ff b55
 obtain ⟨h,b55d⟩:=cfd b55 h
 conv=>whnf
 iterate 2 (refine Both.yes (ff_beq b55) ?_;(conv=>whnf))
 refine Both.no b55 ?_
 conv=>whnf
 cases h
 exact Join.mk (eA [])
 replace b55:=beq_ft b55
 obtain ⟨h,b55d⟩:=ctd b55 h
 conv=>whnf
 iterate 2 (refine Both.no (tf_beq b55) ?_;(conv=>whnf))
 refine Both.yes b55 ?_
 conv=>whnf
 cases h
 exact Join.mk (eA [])
 replace h:=hk52
 conv=>whnf
 cases h
 conv=>whnf
 exact ⟨rfl,rfl⟩
theorem sp_device_costs_1 (n_:Int) (r:Bool) (h:Ok (nI n_)→device_costs_1 n_=some r):Sp Tryz.prog 94 [.im (nI n_)] (.im (nB r)):=by
 refine sp_of rfl [] rfl rfl rfl (Nat.le_of_ble_eq_true rfl) rfl fun hk=>?_
 replace h:=h hk.1
 unfold device_costs_1 at h
 conv=>whnf
 obtain ⟨c51,hc51,h⟩:=bind_some h
 refine ⟨_,(sp_device_outside n_ 1048576 c51 (fun _ _=>hc51)),?_⟩
 conv=>whnf
 cases h
 conv=>whnf
 exact ⟨rfl,rfl⟩
theorem sp_device_costs (l_:T_api_Latency) (r:Int) (h:Ok (.agg (c_api_Latency l_))→device_costs l_=some r):Sp Tryz.prog 76 [.im (.agg (c_api_Latency l_))] (.im (nI r)):=by
 refine sp_of rfl [700001] rfl rfl rfl (Nat.le_of_ble_eq_true rfl) rfl fun hk=>?_
 replace h:=h hk.1
 have z1:lZ l_.Step:=ok_len (Ok.agg_at hk.1 0 rfl)
 unfold device_costs at h
 conv=>whnf
 obtain ⟨y56,hc,hk52⟩:=bind_some h
 clear h
 have h:=hc
 clear hc
 refine Cut.mk (mkSt [(13,.im (nB y56))] [] []) (True) (hT) ?_ (fun hp=>?_)
 conv=>whnf
 obtain ⟨c57,hc57,h⟩:=bind_some h
 refine ⟨_,(sp_device_costs_1 l_.Reset c57 (fun _=>hc57)),?_⟩
 conv=>whnf
 refine Both.mk ?_ ?_<;>intro b58
 replace b58:=beq_ff b58
 replace h:=cond_f b58 h
 conv=>whnf
 iterate 3 (refine Both.yes (ff_beq b58) ?_;(conv=>whnf))
 obtain ⟨c59,hc59,h⟩:=bind_some h
 refine ⟨_,(sp_slices_ContainsFunc_Sint_int l_.Step (fun u0=>device_costs_1 u0) 94 (fun u0 r h=>(sp_device_costs_1 u0 r (fun _=>h))) c59 (fun _ _=>hc59)),?_⟩
 conv=>whnf
 refine Both.no b58 ?_
 conv=>whnf
 cases h
 exact Join.mk (eA [])
 replace b58:=beq_ft b58
 replace h:=cond_t b58 h
 conv=>whnf
 iterate 3 (refine Both.no (tf_beq b58) ?_;(conv=>whnf))
 refine Both.yes b58 ?_
 conv=>whnf
 cases h
 exact Join.mk (eA [])
 replace h:=hk52
 conv=>whnf
 refine Both.mk ?_ ?_<;>intro b60
 replace h:=cond_t b60 h
 conv=>whnf
 cases h
 conv=>whnf
 exact ⟨rfl,rfl⟩
 replace h:=cond_f b60 h
 conv=>whnf
 cases h
 conv=>whnf
 exact ⟨rfl,rfl⟩
theorem sp_device_unit_counted (u_:T_device_unit) (r:Bool) (h:Ok (.agg (c_device_unit u_))→device_unit_counted u_=some r):Sp Tryz.prog 77 [.im (.agg (c_device_unit u_))] (.im (nB r)):=by
 refine sp_of rfl [700001] rfl rfl rfl (Nat.le_of_ble_eq_true rfl) rfl fun hk=>?_
 replace h:=h hk.1
 have z1:lZ u_.Device.M.Next:=ok_len (Ok.agg_at hk.1 2 rfl)
 have z2:lZ u_.Device.M.Out:=ok_len (Ok.agg_at hk.1 3 rfl)
 have z3:lZ u_.Device.Latency.Step:=ok_len (Ok.agg_at hk.1 6 rfl)
 unfold device_unit_counted at h
 conv=>whnf
 obtain ⟨y58,hc,hk52⟩:=bind_some h
 clear h
 have h:=hc
 clear hc
 refine Cut.mk (mkSt [(2,.im (nB y58))] [] []) (True) (hT) ?_ (fun hp=>?_)
 conv=>whnf
 obtain ⟨c59,hc59,h⟩:=bind_some h
 refine ⟨_,(sp_device_outside u_.Device.Steps 1125899906842624 c59 (fun _ _=>hc59)),?_⟩
 conv=>whnf
 refine Both.mk ?_ ?_<;>intro b60
 replace b60:=beq_tt b60
 replace h:=cond_t b60 h
 conv=>whnf
 iterate 3 (refine Both.yes (tt_beq b60) ?_;(conv=>whnf))
 obtain ⟨c61,hc61,h⟩:=bind_some h
 refine ⟨_,(sp_device_outside u_.Device.Resets 1125899906842624 c61 (fun _ _=>hc61)),?_⟩
 conv=>whnf
 refine Both.yes (tt_beq b60) ?_
 conv=>whnf
 refine Both.yes b60 ?_
 conv=>whnf
 refine Both.mk ?_ ?_<;>intro b62
 replace b62:=beq_tt b62
 replace h:=cond_t b62 h
 conv=>whnf
 iterate 3 (refine Both.yes (tt_beq b62) ?_;(conv=>whnf))
 obtain ⟨c63,hc63,h⟩:=bind_some h
 refine ⟨_,(sp_device_outside u_.Device.Time 1125899906842624 c63 (fun _ _=>hc63)),?_⟩
 conv=>whnf
 refine Both.yes (tt_beq b62) ?_
 conv=>whnf
 refine Both.yes b62 ?_
 conv=>whnf
 cases h
 exact Join.mk (eA [])
 replace b62:=beq_tf b62
 replace h:=cond_f b62 h
 conv=>whnf
 iterate 4 (refine Both.no (ft_beq b62) ?_;(conv=>whnf))
 refine Both.no b62 ?_
 conv=>whnf
 cases h
 exact Join.mk (eA [])
 replace b60:=beq_tf b60
 replace h:=cond_f b60 h
 conv=>whnf
 iterate 4 (refine Both.no (ft_beq b60) ?_;(conv=>whnf))
 refine Both.no b60 ?_
 conv=>whnf
 iterate 6 (refine Both.no rfl ?_;(conv=>whnf))
 cases h
 exact Join.mk (eA [])
 replace h:=hk52
 conv=>whnf
 cases h
 conv=>whnf
 exact ⟨rfl,rfl⟩
theorem sp_device_Valid (d_:T_api_Device) (r:Int) (h:Ok (.agg (c_api_Device d_))→device_Valid d_=some r):Sp Tryz.prog 44 [.im (.agg (c_api_Device d_))] (.im (nI r)):=by
 refine sp_of rfl [700001] rfl rfl rfl (Nat.le_of_ble_eq_true rfl) rfl fun hk=>?_
 replace h:=h hk.1
 have z1:lZ d_.M.Next:=ok_len (Ok.agg_at hk.1 2 rfl)
 have z2:lZ d_.M.Out:=ok_len (Ok.agg_at hk.1 3 rfl)
 have z3:lZ d_.Latency.Step:=ok_len (Ok.agg_at hk.1 6 rfl)
 unfold device_Valid at h
 conv=>whnf
 obtain ⟨c51,hc51,h⟩:=bind_some h
 refine ⟨_,(sp_mealy_Valid d_.M c51 (fun _=>hc51)),?_⟩
 conv=>whnf
 refine Both.mk ?_ ?_<;>intro b52
 obtain ⟨h,b52d⟩:=ctd b52 h
 conv=>whnf
 cases h
 conv=>whnf
 exact ⟨rfl,rfl⟩
 obtain ⟨h,b52d⟩:=cfd b52 h
 conv=>whnf
 refine Nf.mk (List.length d_.M.Next) len_map ?_
 conv=>whnf
 refine Arith.mk (by show inR _;unfold inR;omega) ?_
 conv=>whnf
 obtain ⟨c53,hc53,h⟩:=bind_some h
 refine ⟨_,(sp_device_outside d_.State ((↑(List.length d_.M.Next):Int)-1) c53 (fun _ _=>hc53)),?_⟩
 conv=>whnf
 refine Both.mk ?_ ?_<;>intro b54
 replace h:=cond_t b54 h
 conv=>whnf
 cases h
 conv=>whnf
 exact ⟨rfl,rfl⟩
 replace h:=cond_f b54 h
 conv=>whnf
 refine Nf.mk (List.length d_.Latency.Step) len_map ?_
 conv=>whnf
 refine Both.mk ?_ ?_<;>intro b55
 obtain ⟨h,b55d⟩:=ctd b55 h
 conv=>whnf
 cases h
 conv=>whnf
 exact ⟨rfl,rfl⟩
 obtain ⟨h,b55d⟩:=cfd b55 h
 conv=>whnf
 obtain ⟨c56,hc56,h⟩:=bind_some h
 refine ⟨_,(sp_device_costs d_.Latency c56 (fun _=>hc56)),?_⟩
 conv=>whnf
 refine Both.mk ?_ ?_<;>intro b57
 obtain ⟨h,b57d⟩:=ctd b57 h
 conv=>whnf
 cases h
 conv=>whnf
 exact ⟨rfl,rfl⟩
 obtain ⟨h,b57d⟩:=cfd b57 h
 conv=>whnf
 refine Side.mk rfl ?_
 conv=>whnf
 obtain ⟨y70,hc,hk59⟩:=bind_some h
 clear h
 have h:=hc
 clear hc
 refine Cut.mk (mkSt [(65,.im (nB y70))] [] []) (True) (hT) ?_ (fun hp=>?_)
 conv=>whnf
 refine Side.mk rfl ?_
 conv=>whnf
 refine Side.mk rfl ?_
 conv=>whnf
 obtain ⟨c71,hc71,h⟩:=bind_some h
 refine ⟨_,(sp_device_outside d_.Faults.Lost 10000 c71 (fun _ _=>hc71)),?_⟩
 conv=>whnf
 refine Both.mk ?_ ?_<;>intro b72
 replace b72:=beq_ff b72
 replace h:=cond_f b72 h
 conv=>whnf
 refine Side.mk rfl ?_
 conv=>whnf
 refine Both.yes (ff_beq b72) ?_
 conv=>whnf
 refine Side.mk rfl ?_
 conv=>whnf
 refine Both.yes (ff_beq b72) ?_
 conv=>whnf
 obtain ⟨c73,hc73,h⟩:=bind_some h
 refine ⟨_,(sp_device_outside d_.Faults.Wrong 10000 c73 (fun _ _=>hc73)),?_⟩
 conv=>whnf
 refine Both.no b72 ?_
 conv=>whnf
 refine Both.mk ?_ ?_<;>intro b74
 replace b74:=beq_ff b74
 replace h:=cond_f b74 h
 conv=>whnf
 refine Side.mk rfl ?_
 conv=>whnf
 refine Both.yes (ff_beq b74) ?_
 conv=>whnf
 refine Side.mk rfl ?_
 conv=>whnf
 refine Both.yes (ff_beq b74) ?_
 conv=>whnf
 obtain ⟨c75,hc75,h⟩:=bind_some h
 refine ⟨_,(sp_device_outside d_.Faults.Crash 10000 c75 (fun _ _=>hc75)),?_⟩
 conv=>whnf
 refine Both.no b74 ?_
 conv=>whnf
 refine Both.mk ?_ ?_<;>intro b76
 replace b76:=beq_ff b76
 replace h:=cond_f b76 h
 conv=>whnf
 refine Side.mk rfl ?_
 conv=>whnf
 refine Both.yes (ff_beq b76) ?_
 conv=>whnf
 refine Side.mk rfl ?_
 conv=>whnf
 refine Both.yes (ff_beq b76) ?_
 conv=>whnf
 refine Side.mk rfl ?_
 conv=>whnf
 refine Both.yes (ff_beq b76) ?_
 conv=>whnf
 refine Side.mk rfl ?_
 conv=>whnf
 refine Both.yes (ff_beq b76) ?_
 conv=>whnf
 obtain ⟨c77,h⟩:=chk_some h
 refine Arith.mk c77 ?_
 conv=>whnf
 refine Both.yes (ff_beq b76) ?_
 conv=>whnf
 refine Side.mk rfl ?_
 conv=>whnf
 refine Both.yes (ff_beq b76) ?_
 conv=>whnf
 refine Side.mk rfl ?_
 conv=>whnf
 refine Both.yes (ff_beq b76) ?_
 conv=>whnf
 obtain ⟨c78,h⟩:=chk_some h
 refine Arith.mk c78 ?_
 conv=>whnf
 refine Both.yes (ff_beq b76) ?_
 conv=>whnf
 refine Both.no b76 ?_
 conv=>whnf
 refine Both.mk ?_ ?_<;>intro b79
 replace b79:=beq_ff b79
 obtain ⟨h,b79d⟩:=cfd b79 h
 conv=>whnf
 iterate 2 (refine Both.yes (ff_beq b79) ?_;(conv=>whnf))
 obtain ⟨c80,hc80,h⟩:=bind_some h
 refine ⟨_,(sp_device_unit_counted (⟨d_⟩:T_device_unit) c80 (fun _=>hc80)),?_⟩
 conv=>whnf
 refine Both.yes (ff_beq b79) ?_
 conv=>whnf
 refine Both.no b79 ?_
 conv=>whnf
 cases h
 exact Join.mk (eA [])
 replace b79:=beq_ft b79
 obtain ⟨h,b79d⟩:=ctd b79 h
 conv=>whnf
 iterate 3 (refine Both.no (tf_beq b79) ?_;(conv=>whnf))
 refine Both.yes b79 ?_
 conv=>whnf
 cases h
 exact Join.mk (eA [])
 replace b76:=beq_ft b76
 replace h:=cond_t b76 h
 conv=>whnf
 iterate 8 (refine Both.no (tf_beq b76) ?_;(conv=>whnf))
 refine Both.yes b76 ?_
 conv=>whnf
 iterate 4 (refine Both.no rfl ?_;(conv=>whnf))
 refine Both.yes rfl ?_
 conv=>whnf
 cases h
 exact Join.mk (eA [])
 replace b74:=beq_ft b74
 replace h:=cond_t b74 h
 conv=>whnf
 iterate 2 (refine Both.no (tf_beq b74) ?_;(conv=>whnf))
 refine Both.yes b74 ?_
 conv=>whnf
 iterate 9 (refine Both.no rfl ?_;(conv=>whnf))
 refine Both.yes rfl ?_
 conv=>whnf
 iterate 4 (refine Both.no rfl ?_;(conv=>whnf))
 refine Both.yes rfl ?_
 conv=>whnf
 cases h
 exact Join.mk (eA [])
 replace b72:=beq_ft b72
 replace h:=cond_t b72 h
 conv=>whnf
 iterate 2 (refine Both.no (tf_beq b72) ?_;(conv=>whnf))
 refine Both.yes b72 ?_
 conv=>whnf
 iterate 3 (refine Both.no rfl ?_;(conv=>whnf))
 refine Both.yes rfl ?_
 conv=>whnf
 iterate 9 (refine Both.no rfl ?_;(conv=>whnf))
 refine Both.yes rfl ?_
 conv=>whnf
 iterate 4 (refine Both.no rfl ?_;(conv=>whnf))
 refine Both.yes rfl ?_
 conv=>whnf
 cases h
 exact Join.mk (eA [])
 replace h:=hk59
 conv=>whnf
 refine Both.mk ?_ ?_<;>intro b81
 replace h:=cond_t b81 h
 conv=>whnf
 cases h
 conv=>whnf
 exact ⟨rfl,rfl⟩
 replace h:=cond_f b81 h
 conv=>whnf
 cases h
 conv=>whnf
 exact ⟨rfl,rfl⟩
theorem sp_device_rows (l_:List (List Int)) (r:List (List Int)) (h:Ok (nL (cL cI) l_)→device_rows l_=some r):Sp Tryz.prog 80 [.im (nL (cL cI) l_)] (.row 25 1 (List.map (cL cI) r)):=by
 refine sp_of rfl [] rfl rfl rfl (Nat.le_of_ble_eq_true rfl) rfl fun hk=>?_
 replace h:=h hk.1
 have z1:lZ l_:=ok_len hk.1
 unfold device_rows at h
 conv=>whnf
 refine Nf.mk (List.length l_) len_map ?_
 conv=>whnf
 obtain ⟨c51,h⟩:=chk_some h
 refine Side.mk c51 ?_
 conv=>whnf
 refine Nf.mk (List.map (cL cI) []) rfl ?_
 conv=>whnf
 refine Nf.mk (List.length l_) len_map ?_
 conv=>whnf
 obtain ⟨y70,hc,hk52⟩:=bind_some h
 clear h
 have h:=hc
 clear hc
 refine Cut.mk (mkSt [(3,.osl 64 1)] [(64,.row 25 1 (List.map (cL cI) y70))] []) (lZ y70∧True) ((Holds.kdl 64 rfl).and (hT)) ?_ (fun hp=>?_)
 conv=>whnf
 refine Loops.iter (fun (s:List (List Int)×Nat)=>device_rows.s2 l_ s.1 s.2) (fun (y75,y76)=>mkSt [(3,.osl 64 1),(9,.im (nL (cL cI) l_)),(10,.im (nI (↑(List.length l_):Int))),(11,.im (nI (↑y76:Int)))] [(64,.row 25 1 (List.map (cL cI) y75))] []) (fun (y75,y76)=>lZ l_∧lZ y75∧True) h (eA [(64,some 8)]) (by rintro ⟨y75,y76⟩;exact ((Holds.avl 9 rfl).and ((Holds.kdl 64 rfl).and (hT)))) ?_
 clear h
 rintro k ⟨y75,y76⟩ o hp h ho81
 replace h:device_rows.s2 l_ y75 y76=some o:=h
 unfold device_rows.s2 at h
 obtain ⟨z86,z87,_⟩:=hp
 conv=>whnf
 refine Both.mk ?_ ?_<;>intro b82
 obtain ⟨h,b82d⟩:=ctd b82 h
 conv=>whnf
 obtain ⟨e83,he83,h⟩:=idxn_some h
 refine ⟨_,⟨(by omega),map_at he83,rfl⟩,?_⟩
 conv=>whnf
 obtain ⟨c84,hc84,h⟩:=bind_some h
 refine ⟨_,(sp_lib_Clone_int e83 c84 (hc84)).im,?_⟩
 conv=>whnf
 obtain ⟨c85,h⟩:=chk_some h
 refine Side.mk ⟨rfl,map_len (l:=[c84]) (c:=cL cI) fun _=>rfl,show capOk _ 24 by simpa only [List.length_map,List.length_cons,List.length_nil,Nat.zero_add] using c85⟩ ?_
 conv=>whnf
 refine Nf.mk (List.map (cL cI) (y75++[c84])) (app_map (l:=y75) (m:=[c84]) (c:=cL cI)) ?_
 conv=>whnf
 refine Arith.mk (by show inR _;unfold inR;omega) ?_
 conv=>whnf
 cases h
 exact Nxt.mk _ ho81 (eA [(64,some 64)])
 obtain ⟨h,b82d⟩:=cfd b82 h
 conv=>whnf
 cases h
 have ho81:_=_:=ho81
 cases ho81
 exact Join.mk (eA [(64,some 64)])
 replace h:=hk52
 obtain ⟨z88,_⟩:=hp
 conv=>whnf
 cases h
 conv=>whnf
 exact Side.mk ⟨rfl,trivial⟩ ⟨rfl,rfl⟩
theorem sp_device_copied (d_:T_api_Device) (r:T_api_Device) (h:Ok (.agg (c_api_Device d_))→device_copied d_=some r):Sp Tryz.prog 53 [.im (.agg (c_api_Device d_))] (.im (.agg (c_api_Device r))):=by
 refine sp_of rfl [] rfl rfl rfl (Nat.le_of_ble_eq_true rfl) rfl fun hk=>?_
 replace h:=h hk.1
 have z1:lZ d_.M.Next:=ok_len (Ok.agg_at hk.1 2 rfl)
 have z2:lZ d_.M.Out:=ok_len (Ok.agg_at hk.1 3 rfl)
 have z3:lZ d_.Latency.Step:=ok_len (Ok.agg_at hk.1 6 rfl)
 unfold device_copied at h
 conv=>whnf
 refine Side.mk rfl ?_
 conv=>whnf
 refine Side.mk rfl ?_
 conv=>whnf
 refine Side.mk rfl ?_
 conv=>whnf
 obtain ⟨c51,hc51,h⟩:=bind_some h
 refine ⟨_,(sp_device_rows d_.M.Next c51 (fun _=>hc51)).im,?_⟩
 conv=>whnf
 refine Side.mk rfl ?_
 conv=>whnf
 refine Side.mk rfl ?_
 conv=>whnf
 refine Side.mk rfl ?_
 conv=>whnf
 obtain ⟨c52,hc52,h⟩:=bind_some h
 refine ⟨_,(sp_device_rows d_.M.Out c52 (fun _=>hc52)).im,?_⟩
 conv=>whnf
 refine Side.mk rfl ?_
 conv=>whnf
 refine Side.mk rfl ?_
 conv=>whnf
 refine Side.mk rfl ?_
 conv=>whnf
 refine Side.mk rfl ?_
 conv=>whnf
 refine Side.mk rfl ?_
 conv=>whnf
 refine Side.mk rfl ?_
 conv=>whnf
 refine Side.mk rfl ?_
 conv=>whnf
 refine Side.mk rfl ?_
 conv=>whnf
 refine Side.mk rfl ?_
 conv=>whnf
 obtain ⟨c53,hc53,h⟩:=bind_some h
 refine ⟨_,(sp_lib_Clone_int d_.Latency.Step c53 (hc53)).im,?_⟩
 conv=>whnf
 refine Side.mk rfl ?_
 conv=>whnf
 refine Side.mk rfl ?_
 conv=>whnf
 refine Side.mk rfl ?_
 conv=>whnf
 refine Side.mk rfl ?_
 conv=>whnf
 refine Side.mk rfl ?_
 conv=>whnf
 cases h
 conv=>whnf
 refine Side.mk ⟨rfl,trivial⟩ ?_
 conv=>whnf
 exact ⟨rfl,rfl⟩
theorem sp_device_unit_reset (u_:T_device_unit) (r:Int×T_device_unit) (h:OkOcs [.im (nI u_.Device.M.Inputs),.im (nI u_.Device.M.Start),.im (nL (cL cI) u_.Device.M.Next),.im (nL (cL cI) u_.Device.M.Out),.im (nI u_.Device.State),.im (nB u_.Device.Ready),.im (nL cI u_.Device.Latency.Step),.im (nI u_.Device.Latency.Reset),.im (nI u_.Device.Faults.Lost),.im (nI u_.Device.Faults.Wrong),.im (nI u_.Device.Faults.Crash),.im (nU u_.Device.Seed),.im (nI u_.Device.Steps),.im (nI u_.Device.Resets),.im (nI u_.Device.Time)]→device_unit_reset u_=some r):Sp Tryz.prog 54 [.box 101 [.im (nI u_.Device.M.Inputs),.im (nI u_.Device.M.Start),.im (nL (cL cI) u_.Device.M.Next),.im (nL (cL cI) u_.Device.M.Out),.im (nI u_.Device.State),.im (nB u_.Device.Ready),.im (nL cI u_.Device.Latency.Step),.im (nI u_.Device.Latency.Reset),.im (nI u_.Device.Faults.Lost),.im (nI u_.Device.Faults.Wrong),.im (nI u_.Device.Faults.Crash),.im (nU u_.Device.Seed),.im (nI u_.Device.Steps),.im (nI u_.Device.Resets),.im (nI u_.Device.Time)]] (.mk false [.im (nI r.1)] [.box 101 [.im (nI r.2.Device.M.Inputs),.im (nI r.2.Device.M.Start),.im (nL (cL cI) r.2.Device.M.Next),.im (nL (cL cI) r.2.Device.M.Out),.im (nI r.2.Device.State),.im (nB r.2.Device.Ready),.im (nL cI r.2.Device.Latency.Step),.im (nI r.2.Device.Latency.Reset),.im (nI r.2.Device.Faults.Lost),.im (nI r.2.Device.Faults.Wrong),.im (nI r.2.Device.Faults.Crash),.im (nU r.2.Device.Seed),.im (nI r.2.Device.Steps),.im (nI r.2.Device.Resets),.im (nI r.2.Device.Time)]]):=by
 refine sp_of rfl [] rfl rfl rfl (Nat.le_of_ble_eq_true rfl) rfl fun hk=>?_
 replace h:=h hk.1
 have z1:lZ u_.Device.M.Next:=ok_len hk.1.2.2.1
 have z2:lZ u_.Device.M.Out:=ok_len hk.1.2.2.2.1
 have z3:lZ u_.Device.Latency.Step:=ok_len hk.1.2.2.2.2.2.2.1
 unfold device_unit_reset at h
 conv=>whnf
 refine Side.mk rfl ?_
 conv=>whnf
 refine Side.mk rfl ?_
 conv=>whnf
 refine Side.mk rfl ?_
 conv=>whnf
 refine Side.mk rfl ?_
 conv=>whnf
 refine Side.mk rfl ?_
 conv=>whnf
 refine Side.mk rfl ?_
 conv=>whnf
 refine Side.mk rfl ?_
 conv=>whnf
 refine Side.mk rfl ?_
 conv=>whnf
 refine Side.mk rfl ?_
 conv=>whnf
 refine Side.mk rfl ?_
 conv=>whnf
 refine Side.mk rfl ?_
 conv=>whnf
 refine Side.mk rfl ?_
 conv=>whnf
 refine Side.mk rfl ?_
 conv=>whnf
 refine Side.mk rfl ?_
 conv=>whnf
 refine Side.mk rfl ?_
 conv=>whnf
 refine Side.mk rfl ?_
 conv=>whnf
 refine Side.mk rfl ?_
 conv=>whnf
 obtain ⟨c51,h⟩:=chk_some h
 refine Arith.mk c51 ?_
 conv=>whnf
 refine Side.mk rfl ?_
 conv=>whnf
 refine Side.mk rfl ?_
 conv=>whnf
 refine Side.mk rfl ?_
 conv=>whnf
 refine Side.mk rfl ?_
 conv=>whnf
 refine Side.mk rfl ?_
 conv=>whnf
 refine Side.mk rfl ?_
 conv=>whnf
 refine Side.mk rfl ?_
 conv=>whnf
 refine Side.mk rfl ?_
 conv=>whnf
 refine Side.mk rfl ?_
 conv=>whnf
 refine Side.mk rfl ?_
 conv=>whnf
 refine Side.mk rfl ?_
 conv=>whnf
 obtain ⟨c52,h⟩:=chk_some h
 refine Arith.mk c52 ?_
 conv=>whnf
 refine Side.mk rfl ?_
 conv=>whnf
 refine Side.mk rfl ?_
 conv=>whnf
 refine Side.mk rfl ?_
 conv=>whnf
 refine Side.mk rfl ?_
 conv=>whnf
 obtain ⟨c53,hc53,h⟩:=bind_some h
 refine ⟨_,(sp_device_unit_counted (⟨(⟨u_.Device.M,u_.Device.M.Start,true,u_.Device.Latency,u_.Device.Faults,u_.Device.Seed,u_.Device.Steps,(u_.Device.Resets+1),(u_.Device.Time+u_.Device.Latency.Reset)⟩:T_api_Device)⟩:T_device_unit) c53 (fun _=>hc53)),?_⟩
 conv=>whnf
 refine Both.mk ?_ ?_<;>intro b54
 replace h:=cond_t b54 h
 conv=>whnf
 cases h
 conv=>whnf
 exact Side.mk ⟨rfl,trivial⟩ ⟨rfl,rfl⟩
 replace h:=cond_f b54 h
 conv=>whnf
 refine Side.mk rfl ?_
 conv=>whnf
 refine Side.mk rfl ?_
 conv=>whnf
 refine Side.mk rfl ?_
 conv=>whnf
 cases h
 conv=>whnf
 exact Side.mk ⟨rfl,trivial⟩ ⟨rfl,rfl⟩
theorem sp_random_Next (state_:Int) (r:Int×Int) (h:Ok (nU state_)→random_Next state_=some r):Sp Tryz.prog 113 [.im (nU state_)] (.tup [nU r.1,nU r.2]):=by
 refine sp_of rfl [] rfl rfl rfl (Nat.le_of_ble_eq_true rfl) rfl fun hk=>?_
 replace h:=h hk.1
 unfold random_Next at h
 conv=>whnf
 refine Arith.wr _ (mdU_eq _) ?_
 conv=>whnf
 obtain ⟨c51,h⟩:=chk_some h
 refine Side.mk ⟨⟨by show (0:Int)≤(mdU (state_+11400714819323198485)) / 2^30;omega,by show (mdU (state_+11400714819323198485)) / 2^30≤(18446744073709551615:Int);omega⟩,c51.1,by decide,by decide⟩ ?_
 conv=>whnf
 refine Arith.wr _ (mdU_eq _) ?_
 conv=>whnf
 obtain ⟨c52,h⟩:=chk_some h
 refine Side.mk ⟨⟨by show (0:Int)≤(mdU ((xorK .u64 (mdU (state_+11400714819323198485)) ((mdU (state_+11400714819323198485)) / 2^30))*13787848793156543929)) / 2^27;omega,by show (mdU ((xorK .u64 (mdU (state_+11400714819323198485)) ((mdU (state_+11400714819323198485)) / 2^30))*13787848793156543929)) / 2^27≤(18446744073709551615:Int);omega⟩,c52.1,by decide,by decide⟩ ?_
 conv=>whnf
 refine Arith.wr _ (mdU_eq _) ?_
 conv=>whnf
 obtain ⟨c53,h⟩:=chk_some h
 refine Side.mk ⟨⟨by show (0:Int)≤(mdU ((xorK .u64 (mdU ((xorK .u64 (mdU (state_+11400714819323198485)) ((mdU (state_+11400714819323198485)) / 2^30))*13787848793156543929)) ((mdU ((xorK .u64 (mdU (state_+11400714819323198485)) ((mdU (state_+11400714819323198485)) / 2^30))*13787848793156543929)) / 2^27))*10723151780598845931)) / 2^31;omega,by show (mdU ((xorK .u64 (mdU ((xorK .u64 (mdU (state_+11400714819323198485)) ((mdU (state_+11400714819323198485)) / 2^30))*13787848793156543929)) ((mdU ((xorK .u64 (mdU (state_+11400714819323198485)) ((mdU (state_+11400714819323198485)) / 2^30))*13787848793156543929)) / 2^27))*10723151780598845931)) / 2^31≤(18446744073709551615:Int);omega⟩,c53.1,by decide,by decide⟩ ?_
 conv=>whnf
 cases h
 conv=>whnf
 exact ⟨rfl,rfl⟩
theorem sp_random_below (state_:Int) (n_:Int) (r:Int×Int) (h:Ok (nU state_)→Ok (nI n_)→random_below state_ n_=some r):Sp Tryz.prog 95 [.im (nU state_),.im (nI n_)] (.tup [nI r.1,nU r.2]):=by
 refine sp_of rfl [] rfl rfl rfl (Nat.le_of_ble_eq_true rfl) rfl fun hk=>?_
 replace h:=h hk.1 hk.2.1
 unfold random_below at h
 conv=>whnf
 obtain ⟨c51,h⟩:=chk_some h
 refine Side.mk c51 ?_
 conv=>whnf
 refine Arith.wr _ (mdU_eq _) ?_
 conv=>whnf
 obtain ⟨c52,h⟩:=chk_some h
 refine Side.mk c52 ?_
 conv=>whnf
 refine Loops.iter (fun (s:Int)=>random_below.s1 n_ s) (fun state62=>mkSt [(0,.im (nU state62)),(6,.im (nU n_)),(7,.im (nU ((mdU (0-n_))%n_)))] [] []) (fun state62=>True) h (eA []) (by rintro state62;exact (hT)) ?_
 clear h
 rintro k state62 o hp h ho72
 replace h:random_below.s1 n_ state62=some o:=h
 unfold random_below.s1 at h
 conv=>whnf
 obtain ⟨c73,hc73,h⟩:=bind_some h
 refine ⟨_,(sp_random_Next state62 c73 (fun _=>hc73)),?_⟩
 conv=>whnf
 obtain ⟨y77,hc,hk75⟩:=bind_some h
 clear h
 have h:=hc
 clear hc
 refine Cut.mk (mkSt [(0,.im (nU c73.2)),(6,.im (nU n_)),(7,.im (nU ((mdU (0-n_))%n_))),(8,.im (nU c73.1)),(29,.im (nB y77))] [] []) (True) (hT) ?_ (fun hp=>?_)
 conv=>whnf
 refine Both.mk ?_ ?_<;>intro b78
 replace b78:=beq_ff b78
 obtain ⟨h,b78d⟩:=cfd b78 h
 conv=>whnf
 iterate 2 (refine Both.yes (ff_beq b78) ?_;(conv=>whnf))
 refine Arith.wr _ (mdU_eq _) ?_
 conv=>whnf
 refine Both.yes (ff_beq b78) ?_
 conv=>whnf
 refine Both.no b78 ?_
 conv=>whnf
 cases h
 exact Join.mk (eA [])
 replace b78:=beq_ft b78
 obtain ⟨h,b78d⟩:=ctd b78 h
 conv=>whnf
 iterate 3 (refine Both.no (tf_beq b78) ?_;(conv=>whnf))
 refine Both.yes b78 ?_
 conv=>whnf
 cases h
 exact Join.mk (eA [])
 replace h:=hk75
 conv=>whnf
 refine Both.mk ?_ ?_<;>intro b79
 replace h:=cond_t b79 h
 conv=>whnf
 obtain ⟨c80,h⟩:=chk_some h
 refine Side.mk c80 ?_
 conv=>whnf
 obtain ⟨c81,h⟩:=chk_some h
 refine Side.mk c81 ?_
 conv=>whnf
 cases h
 have ho72:_=_:=ho72
 cases ho72
 conv=>whnf
 exact ⟨rfl,rfl⟩
 replace h:=cond_f b79 h
 conv=>whnf
 cases h
 exact Nxt.mk _ ho72 (eA [])
theorem sp_random_Below (state_:Int) (n_:Int) (r:Int×Int×Int) (h:Ok (nU state_)→Ok (nI n_)→random_Below state_ n_=some r):Sp Tryz.prog 81 [.im (nU state_),.im (nI n_)] (.tup [nI r.1,nU r.2.1,nI r.2.2]):=by
 refine sp_of rfl [] rfl rfl rfl (Nat.le_of_ble_eq_true rfl) rfl fun hk=>?_
 replace h:=h hk.1 hk.2.1
 unfold random_Below at h
 conv=>whnf
 obtain ⟨y54,hc,hk52⟩:=bind_some h
 clear h
 have h:=hc
 clear hc
 refine Cut.mk (mkSt [(0,.im (nU state_)),(1,.im (nI n_)),(14,.im (nB y54))] [] []) (True) (hT) ?_ (fun hp=>?_)
 conv=>whnf
 refine Both.mk ?_ ?_<;>intro b55
 replace b55:=beq_ff b55
 obtain ⟨h,b55d⟩:=cfd b55 h
 conv=>whnf
 refine Both.yes (ff_beq b55) ?_
 conv=>whnf
 refine Both.no b55 ?_
 conv=>whnf
 cases h
 exact Join.mk (eA [])
 replace b55:=beq_ft b55
 obtain ⟨h,b55d⟩:=ctd b55 h
 conv=>whnf
 refine Both.no (tf_beq b55) ?_
 conv=>whnf
 refine Both.yes b55 ?_
 conv=>whnf
 cases h
 exact Join.mk (eA [])
 replace h:=hk52
 conv=>whnf
 refine Both.mk ?_ ?_<;>intro b56
 replace h:=cond_t b56 h
 conv=>whnf
 cases h
 conv=>whnf
 exact ⟨rfl,rfl⟩
 replace h:=cond_f b56 h
 conv=>whnf
 obtain ⟨c57,hc57,h⟩:=bind_some h
 refine ⟨_,(sp_random_below state_ n_ c57 (fun _ _=>hc57)),?_⟩
 conv=>whnf
 cases h
 conv=>whnf
 exact ⟨rfl,rfl⟩
theorem sp_device_unit_step (u_:T_device_unit) (a_:Int) (r:Int×Int×T_device_unit) (h:OkOcs [.im (nI u_.Device.M.Inputs),.im (nI u_.Device.M.Start),.im (nL (cL cI) u_.Device.M.Next),.im (nL (cL cI) u_.Device.M.Out),.im (nI u_.Device.State),.im (nB u_.Device.Ready),.im (nL cI u_.Device.Latency.Step),.im (nI u_.Device.Latency.Reset),.im (nI u_.Device.Faults.Lost),.im (nI u_.Device.Faults.Wrong),.im (nI u_.Device.Faults.Crash),.im (nU u_.Device.Seed),.im (nI u_.Device.Steps),.im (nI u_.Device.Resets),.im (nI u_.Device.Time)]→Ok (nI a_)→device_unit_step u_ a_=some r):Sp Tryz.prog 55 [.box 101 [.im (nI u_.Device.M.Inputs),.im (nI u_.Device.M.Start),.im (nL (cL cI) u_.Device.M.Next),.im (nL (cL cI) u_.Device.M.Out),.im (nI u_.Device.State),.im (nB u_.Device.Ready),.im (nL cI u_.Device.Latency.Step),.im (nI u_.Device.Latency.Reset),.im (nI u_.Device.Faults.Lost),.im (nI u_.Device.Faults.Wrong),.im (nI u_.Device.Faults.Crash),.im (nU u_.Device.Seed),.im (nI u_.Device.Steps),.im (nI u_.Device.Resets),.im (nI u_.Device.Time)],.im (nI a_)] (.mk true [.im (nI r.1),.im (nI r.2.1)] [.box 101 [.im (nI r.2.2.Device.M.Inputs),.im (nI r.2.2.Device.M.Start),.im (nL (cL cI) r.2.2.Device.M.Next),.im (nL (cL cI) r.2.2.Device.M.Out),.im (nI r.2.2.Device.State),.im (nB r.2.2.Device.Ready),.im (nL cI r.2.2.Device.Latency.Step),.im (nI r.2.2.Device.Latency.Reset),.im (nI r.2.2.Device.Faults.Lost),.im (nI r.2.2.Device.Faults.Wrong),.im (nI r.2.2.Device.Faults.Crash),.im (nU r.2.2.Device.Seed),.im (nI r.2.2.Device.Steps),.im (nI r.2.2.Device.Resets),.im (nI r.2.2.Device.Time)]]):=by
 refine sp_of rfl [] rfl rfl rfl (Nat.le_of_ble_eq_true rfl) rfl fun hk=>?_
 replace h:=h hk.1 hk.2.1
 have z1:lZ u_.Device.M.Next:=ok_len hk.1.2.2.1
 have z2:lZ u_.Device.M.Out:=ok_len hk.1.2.2.2.1
 have z3:lZ u_.Device.Latency.Step:=ok_len hk.1.2.2.2.2.2.2.1
 unfold device_unit_step at h
 conv=>whnf
 refine Side.mk rfl ?_
 conv=>whnf
 refine Side.mk rfl ?_
 conv=>whnf
 refine Side.mk rfl ?_
 conv=>whnf
 refine Side.mk rfl ?_
 conv=>whnf
 refine Both.mk ?_ ?_<;>intro b51
 replace h:=cond_t b51 h
 conv=>whnf
 cases h
 conv=>whnf
 exact Side.mk ⟨rfl,trivial⟩ ⟨rfl,rfl⟩
 replace h:=cond_f b51 h
 conv=>whnf
 refine Side.mk rfl ?_
 conv=>whnf
 refine Side.mk rfl ?_
 conv=>whnf
 refine Side.mk rfl ?_
 conv=>whnf
 refine Side.mk rfl ?_
 conv=>whnf
 refine Side.mk rfl ?_
 conv=>whnf
 obtain ⟨c52,h⟩:=chk_some h
 refine Arith.mk c52 ?_
 conv=>whnf
 obtain ⟨c53,hc53,h⟩:=bind_some h
 refine ⟨_,(sp_device_outside a_ (u_.Device.M.Inputs-1) c53 (fun _ _=>hc53)),?_⟩
 conv=>whnf
 refine Both.mk ?_ ?_<;>intro b54
 replace h:=cond_t b54 h
 conv=>whnf
 cases h
 conv=>whnf
 exact Side.mk ⟨rfl,trivial⟩ ⟨rfl,rfl⟩
 replace h:=cond_f b54 h
 conv=>whnf
 refine Side.mk rfl ?_
 conv=>whnf
 refine Side.mk rfl ?_
 conv=>whnf
 refine Side.mk rfl ?_
 conv=>whnf
 refine Side.mk rfl ?_
 conv=>whnf
 refine Side.mk rfl ?_
 conv=>whnf
 refine Side.mk rfl ?_
 conv=>whnf
 obtain ⟨c55,h⟩:=chk_some h
 refine Arith.mk c55 ?_
 conv=>whnf
 refine Side.mk rfl ?_
 conv=>whnf
 refine Side.mk rfl ?_
 conv=>whnf
 refine Side.mk rfl ?_
 conv=>whnf
 refine Side.mk rfl ?_
 conv=>whnf
 refine Side.mk rfl ?_
 conv=>whnf
 refine Side.mk rfl ?_
 conv=>whnf
 refine Side.mk rfl ?_
 conv=>whnf
 refine Side.mk rfl ?_
 conv=>whnf
 refine Side.mk rfl ?_
 conv=>whnf
 refine Side.mk rfl ?_
 conv=>whnf
 refine Side.mk rfl ?_
 conv=>whnf
 obtain ⟨e56,he56z,he56,h⟩:=idx_some h
 refine ⟨_,⟨he56z,map_at he56,rfl⟩,?_⟩
 conv=>whnf
 obtain ⟨c57,h⟩:=chk_some h
 refine Arith.mk c57 ?_
 conv=>whnf
 refine Side.mk rfl ?_
 conv=>whnf
 refine Side.mk rfl ?_
 conv=>whnf
 refine Side.mk rfl ?_
 conv=>whnf
 refine Side.mk rfl ?_
 conv=>whnf
 obtain ⟨c58,hc58,h⟩:=bind_some h
 refine ⟨_,(sp_device_unit_counted (⟨(⟨u_.Device.M,u_.Device.State,u_.Device.Ready,u_.Device.Latency,u_.Device.Faults,u_.Device.Seed,(u_.Device.Steps+1),u_.Device.Resets,(u_.Device.Time+e56)⟩:T_api_Device)⟩:T_device_unit) c58 (fun _=>hc58)),?_⟩
 conv=>whnf
 refine Both.mk ?_ ?_<;>intro b59
 replace h:=cond_t b59 h
 conv=>whnf
 cases h
 conv=>whnf
 exact Side.mk ⟨rfl,trivial⟩ ⟨rfl,rfl⟩
 replace h:=cond_f b59 h
 conv=>whnf
 refine Side.mk rfl ?_
 conv=>whnf
 refine Side.mk rfl ?_
 conv=>whnf
 refine Side.mk rfl ?_
 conv=>whnf
 refine Side.mk rfl ?_
 conv=>whnf
 obtain ⟨c60,hc60,h⟩:=bind_some h
 refine ⟨_,(sp_random_Below u_.Device.Seed 10000 c60 (fun _ _=>hc60)),?_⟩
 conv=>whnf
 refine Both.mk ?_ ?_<;>intro b61
 obtain ⟨h,b61d⟩:=ctd b61 h
 conv=>whnf
 cases h
 conv=>whnf
 exact Side.mk ⟨rfl,trivial⟩ ⟨rfl,rfl⟩
 obtain ⟨h,b61d⟩:=cfd b61 h
 conv=>whnf
 refine Side.mk rfl ?_
 conv=>whnf
 refine Side.mk rfl ?_
 conv=>whnf
 refine Side.mk rfl ?_
 conv=>whnf
 refine Side.mk rfl ?_
 conv=>whnf
 refine Side.mk rfl ?_
 conv=>whnf
 refine Side.mk rfl ?_
 conv=>whnf
 refine Side.mk rfl ?_
 conv=>whnf
 refine Side.mk rfl ?_
 conv=>whnf
 refine Side.mk rfl ?_
 conv=>whnf
 refine Side.mk rfl ?_
 conv=>whnf
 refine Side.mk rfl ?_
 conv=>whnf
 refine Side.mk rfl ?_
 conv=>whnf
 obtain ⟨e62,he62z,he62,h⟩:=idx_some h
 refine ⟨_,⟨he62z,map_at he62,rfl⟩,?_⟩
 conv=>whnf
 obtain ⟨e63,he63z,he63,h⟩:=idx_some h
 refine ⟨_,⟨he63z,map_at he63,rfl⟩,?_⟩
 conv=>whnf
 refine Side.mk rfl ?_
 conv=>whnf
 refine Side.mk rfl ?_
 conv=>whnf
 refine Side.mk rfl ?_
 conv=>whnf
 refine Side.mk rfl ?_
 conv=>whnf
 refine Side.mk rfl ?_
 conv=>whnf
 refine Side.mk rfl ?_
 conv=>whnf
 refine Side.mk rfl ?_
 conv=>whnf
 refine Side.mk rfl ?_
 conv=>whnf
 refine Side.mk rfl ?_
 conv=>whnf
 refine Side.mk rfl ?_
 conv=>whnf
 refine Side.mk rfl ?_
 conv=>whnf
 refine Side.mk rfl ?_
 conv=>whnf
 obtain ⟨e64,he64z,he64,h⟩:=idx_some h
 refine ⟨_,⟨he64z,map_at he64,rfl⟩,?_⟩
 conv=>whnf
 obtain ⟨e65,he65z,he65,h⟩:=idx_some h
 refine ⟨_,⟨he65z,map_at he65,rfl⟩,?_⟩
 conv=>whnf
 refine Side.mk rfl ?_
 conv=>whnf
 refine Side.mk rfl ?_
 conv=>whnf
 refine Side.mk rfl ?_
 conv=>whnf
 refine Side.mk rfl ?_
 conv=>whnf
 refine Side.mk rfl ?_
 conv=>whnf
 refine Side.mk rfl ?_
 conv=>whnf
 refine Side.mk rfl ?_
 conv=>whnf
 refine Both.mk ?_ ?_<;>intro b66
 obtain ⟨h,b66d⟩:=ctd b66 h
 conv=>whnf
 refine Side.mk rfl ?_
 conv=>whnf
 refine Side.mk rfl ?_
 conv=>whnf
 refine Side.mk rfl ?_
 conv=>whnf
 cases h
 conv=>whnf
 exact Side.mk ⟨rfl,trivial⟩ ⟨rfl,rfl⟩
 obtain ⟨h,b66d⟩:=cfd b66 h
 conv=>whnf
 obtain ⟨y71,hc,hk68⟩:=bind_some h
 clear h
 have h:=hc
 clear hc
 refine Cut.mk (mkSt [(0,.own 0 0 0),(6,.own 156 1 0),(7,.im (nI c60.1)),(10,.im (nI e65)),(11,.own 157 1 0),(114,.im (nB y71))] [(0,.box 101 15),(156,.box 101 15),(157,.box 29 3)] [(0,0,.im (nI u_.Device.M.Inputs)),(0,1,.im (nI u_.Device.M.Start)),(0,2,.im (nL (cL cI) u_.Device.M.Next)),(0,3,.im (nL (cL cI) u_.Device.M.Out)),(0,4,.im (nI u_.Device.State)),(0,5,.im (nB u_.Device.Ready)),(0,6,.im (nL cI u_.Device.Latency.Step)),(0,7,.im (nI u_.Device.Latency.Reset)),(0,8,.im (nI u_.Device.Faults.Lost)),(0,9,.im (nI u_.Device.Faults.Wrong)),(0,10,.im (nI u_.Device.Faults.Crash)),(0,11,.im (nU u_.Device.Seed)),(0,12,.im (nI u_.Device.Steps)),(0,13,.im (nI u_.Device.Resets)),(0,14,.im (nI u_.Device.Time)),(156,0,.im (nI u_.Device.M.Inputs)),(156,1,.im (nI u_.Device.M.Start)),(156,2,.im (nL (cL cI) u_.Device.M.Next)),(156,3,.im (nL (cL cI) u_.Device.M.Out)),(156,4,.im (nI e63)),(156,5,.im (nB u_.Device.Ready)),(156,6,.im (nL cI u_.Device.Latency.Step)),(156,7,.im (nI u_.Device.Latency.Reset)),(156,8,.im (nI u_.Device.Faults.Lost)),(156,9,.im (nI u_.Device.Faults.Wrong)),(156,10,.im (nI u_.Device.Faults.Crash)),(156,11,.im (nU c60.2.1)),(156,12,.im (nI (u_.Device.Steps+1))),(156,13,.im (nI u_.Device.Resets)),(156,14,.im (nI (u_.Device.Time+e56))),(157,0,.im (nI u_.Device.Faults.Lost)),(157,1,.im (nI u_.Device.Faults.Wrong)),(157,2,.im (nI u_.Device.Faults.Crash))]) (lZ u_.Device.M.Next∧lZ u_.Device.M.Out∧lZ u_.Device.Latency.Step∧True) ((Holds.cel 0 2 rfl (by decide) rfl).and ((Holds.cel 0 3 rfl (by decide) rfl).and ((Holds.cel 0 6 rfl (by decide) rfl).and (hT)))) ?_ (fun hp=>?_)
 conv=>whnf
 refine Side.mk rfl ?_
 conv=>whnf
 refine Side.mk rfl ?_
 conv=>whnf
 refine Side.mk rfl ?_
 conv=>whnf
 refine Side.mk rfl ?_
 conv=>whnf
 obtain ⟨c72,h⟩:=chk_some h
 refine Arith.mk c72 ?_
 conv=>whnf
 refine Both.mk ?_ ?_<;>intro b73
 replace b73:=beq_tt b73
 obtain ⟨h,b73d⟩:=ctd b73 h
 conv=>whnf
 refine Both.yes (tt_beq b73) ?_
 conv=>whnf
 refine Both.yes b73 ?_
 conv=>whnf
 cases h
 exact Join.mk (eA [(0,some 0),(156,some 6),(157,some 11)])
 replace b73:=beq_tf b73
 obtain ⟨h,b73d⟩:=cfd b73 h
 conv=>whnf
 refine Both.no (ft_beq b73) ?_
 conv=>whnf
 refine Both.no b73 ?_
 conv=>whnf
 cases h
 exact Join.mk (eA [(0,some 0),(156,some 6),(157,some 11)])
 replace h:=hk68
 obtain ⟨z74,z75,z76,_⟩:=hp
 conv=>whnf
 refine Both.mk ?_ ?_<;>intro b77
 replace h:=cond_t b77 h
 conv=>whnf
 obtain ⟨c78,h⟩:=chk_some h
 refine Arith.mk c78 ?_
 conv=>whnf
 refine Side.mk rfl ?_
 conv=>whnf
 refine Side.mk rfl ?_
 conv=>whnf
 refine Side.mk rfl ?_
 conv=>whnf
 cases h
 conv=>whnf
 exact Side.mk ⟨rfl,trivial⟩ ⟨rfl,rfl⟩
 replace h:=cond_f b77 h
 conv=>whnf
 refine Side.mk rfl ?_
 conv=>whnf
 refine Side.mk rfl ?_
 conv=>whnf
 refine Side.mk rfl ?_
 conv=>whnf
 refine Side.mk rfl ?_
 conv=>whnf
 obtain ⟨c79,h⟩:=chk_some h
 refine Arith.mk c79 ?_
 conv=>whnf
 refine Both.mk ?_ ?_<;>intro b80
 obtain ⟨h,b80d⟩:=ctd b80 h
 conv=>whnf
 obtain ⟨c81,h⟩:=chk_some h
 refine Arith.mk c81 ?_
 conv=>whnf
 refine Side.mk rfl ?_
 conv=>whnf
 refine Side.mk rfl ?_
 conv=>whnf
 refine Side.mk rfl ?_
 conv=>whnf
 cases h
 conv=>whnf
 exact Side.mk ⟨rfl,trivial⟩ ⟨rfl,rfl⟩
 obtain ⟨h,b80d⟩:=cfd b80 h
 conv=>whnf
 refine Side.mk rfl ?_
 conv=>whnf
 refine Side.mk rfl ?_
 conv=>whnf
 refine Side.mk rfl ?_
 conv=>whnf
 refine Side.mk rfl ?_
 conv=>whnf
 obtain ⟨c82,h⟩:=chk_some h
 refine Arith.mk c82 ?_
 conv=>whnf
 refine Side.mk rfl ?_
 conv=>whnf
 refine Side.mk rfl ?_
 conv=>whnf
 obtain ⟨c83,h⟩:=chk_some h
 refine Arith.mk c83 ?_
 conv=>whnf
 refine Both.mk ?_ ?_<;>intro b84
 obtain ⟨h,b84d⟩:=ctd b84 h
 conv=>whnf
 refine Side.mk rfl ?_
 conv=>whnf
 refine Side.mk rfl ?_
 conv=>whnf
 refine Side.mk rfl ?_
 conv=>whnf
 refine Side.mk rfl ?_
 conv=>whnf
 refine Side.mk rfl ?_
 conv=>whnf
 refine Side.mk rfl ?_
 conv=>whnf
 cases h
 conv=>whnf
 exact Side.mk ⟨rfl,trivial⟩ ⟨rfl,rfl⟩
 obtain ⟨h,b84d⟩:=cfd b84 h
 conv=>whnf
 refine Side.mk rfl ?_
 conv=>whnf
 refine Side.mk rfl ?_
 conv=>whnf
 refine Side.mk rfl ?_
 conv=>whnf
 cases h
 conv=>whnf
 exact Side.mk ⟨rfl,trivial⟩ ⟨rfl,rfl⟩
theorem sp_device_Query (d_:T_api_Device) (w_:List Int) (r:T_api_Device×List Int×Int) (h:Ok (.agg (c_api_Device d_))→Ok (nL cI w_)→device_Query d_ w_=some r):Sp Tryz.prog 24 [.im (.agg (c_api_Device d_)),.im (nL cI w_)] (.tup [.agg (c_api_Device r.1),nL cI r.2.1,nI r.2.2]):=by
 refine sp_of rfl [37000,55000,700002] rfl rfl rfl (Nat.le_of_ble_eq_true rfl) rfl fun hk=>?_
 replace h:=h hk.1 hk.2.1
 have z1:lZ d_.M.Next:=ok_len (Ok.agg_at hk.1 2 rfl)
 have z2:lZ d_.M.Out:=ok_len (Ok.agg_at hk.1 3 rfl)
 have z3:lZ d_.Latency.Step:=ok_len (Ok.agg_at hk.1 6 rfl)
 have z4:lZ w_:=ok_len hk.2.1
 unfold device_Query at h
 conv=>whnf
 obtain ⟨c51,hc51,h⟩:=bind_some h
 refine ⟨_,(sp_device_Valid d_ c51 (fun _=>hc51)),?_⟩
 conv=>whnf
 refine Both.mk ?_ ?_<;>intro b52
 obtain ⟨h,b52d⟩:=ctd b52 h
 conv=>whnf
 refine Side.mk rfl ?_
 conv=>whnf
 cases h
 conv=>whnf
 refine Side.mk ⟨rfl,trivial⟩ ?_
 conv=>whnf
 exact ⟨rfl,rfl⟩
 obtain ⟨h,b52d⟩:=cfd b52 h
 conv=>whnf
 obtain ⟨c53,hc53,h⟩:=bind_some h
 refine ⟨_,(sp_word_Check w_ d_.M.Inputs c53 (fun _ _=>hc53)),?_⟩
 conv=>whnf
 refine Both.mk ?_ ?_<;>intro b54
 obtain ⟨h,b54d⟩:=ctd b54 h
 conv=>whnf
 refine Side.mk rfl ?_
 conv=>whnf
 cases h
 conv=>whnf
 refine Side.mk ⟨rfl,trivial⟩ ?_
 conv=>whnf
 exact ⟨rfl,rfl⟩
 obtain ⟨h,b54d⟩:=cfd b54 h
 conv=>whnf
 obtain ⟨c55,hc55,h⟩:=bind_some h
 refine ⟨_,(sp_device_copied d_ c55 (fun _=>hc55)),?_⟩
 conv=>whnf
 refine Side.mk ⟨rfl,trivial⟩ ?_
 conv=>whnf
 obtain ⟨c56,hc56,h⟩:=bind_some h
 refine ⟨_,(sp_device_unit_reset (⟨c55⟩:T_device_unit) c56 (fun _=>hc56)),?_⟩
 conv=>whnf
 refine Both.mk ?_ ?_<;>intro b57
 obtain ⟨h,b57d⟩:=ctd b57 h
 conv=>whnf
 refine Side.mk rfl ?_
 conv=>whnf
 cases h
 conv=>whnf
 refine Side.mk ⟨rfl,trivial⟩ ?_
 conv=>whnf
 exact ⟨rfl,rfl⟩
 obtain ⟨h,b57d⟩:=cfd b57 h
 conv=>whnf
 refine Nf.mk (List.length w_) len_map ?_
 conv=>whnf
 obtain ⟨c58,h⟩:=chk_some h
 refine Side.mk c58 ?_
 conv=>whnf
 refine Nf.mk (List.map cI []) rfl ?_
 conv=>whnf
 refine Nf.mk (List.length w_) len_map ?_
 conv=>whnf
 obtain ⟨oc,hc,hk59⟩:=bind_some h
 clear h
 have h:=hc
 clear hc
 refine Cut.mkS oc (Y:=Int×Int×List (List Int)×List (List Int)×Int×Bool×List Int×Int×Int×Int×Int×Int×Int×Int×Int×List Int) (fun (y137,y138,y139,y140,y141,y142,y143,y144,y145,y146,y147,y148,y149,y150,y151,y152)=>mkSt [(4,.own 95 1 0),(9,.own 96 1 0),(11,.osl 97 1)] [(95,.box 32 15),(96,.box 101 15),(97,.row 3 1 (List.map cI y152))] [(95,0,.im (nI 0)),(95,1,.im (nI 0)),(95,2,.im (.val (.slice none 0 0))),(95,3,.im (.val (.slice none 0 0))),(95,4,.im (nI 0)),(95,5,.im (nB false)),(95,6,.im (.val (.slice none 0 0))),(95,7,.im (nI 0)),(95,8,.im (nI 0)),(95,9,.im (nI 0)),(95,10,.im (nI 0)),(95,11,.im (nU 0)),(95,12,.im (nI 0)),(95,13,.im (nI 0)),(95,14,.im (nI 0)),(96,0,.im (nI y137)),(96,1,.im (nI y138)),(96,2,.im (nL (cL cI) y139)),(96,3,.im (nL (cL cI) y140)),(96,4,.im (nI y141)),(96,5,.im (nB y142)),(96,6,.im (nL cI y143)),(96,7,.im (nI y144)),(96,8,.im (nI y145)),(96,9,.im (nI y146)),(96,10,.im (nI y147)),(96,11,.im (nU y148)),(96,12,.im (nI y149)),(96,13,.im (nI y150)),(96,14,.im (nI y151))]) (fun (y137,y138,y139,y140,y141,y142,y143,y144,y145,y146,y147,y148,y149,y150,y151,y152)=>lZ y139∧lZ y140∧lZ y143∧lZ y152∧True) (by rintro ⟨y137,y138,y139,y140,y141,y142,y143,y144,y145,y146,y147,y148,y149,y150,y151,y152⟩;exact ((Holds.cel 96 2 rfl (by decide) rfl).and ((Holds.cel 96 3 rfl (by decide) rfl).and ((Holds.cel 96 6 rfl (by decide) rfl).and ((Holds.kdl 97 rfl).and (hT)))))) ?_ ?_
 conv=>whnf
 refine Loops.iter (fun (s:Int×Int×List (List Int)×List (List Int)×Int×Bool×List Int×Int×Int×Int×Int×Int×Int×Int×Int×List Int×Nat)=>device_Query.s2 w_ s.1 s.2.1 s.2.2.1 s.2.2.2.1 s.2.2.2.2.1 s.2.2.2.2.2.1 s.2.2.2.2.2.2.1 s.2.2.2.2.2.2.2.1 s.2.2.2.2.2.2.2.2.1 s.2.2.2.2.2.2.2.2.2.1 s.2.2.2.2.2.2.2.2.2.2.1 s.2.2.2.2.2.2.2.2.2.2.2.1 s.2.2.2.2.2.2.2.2.2.2.2.2.1 s.2.2.2.2.2.2.2.2.2.2.2.2.2.1 s.2.2.2.2.2.2.2.2.2.2.2.2.2.2.1 s.2.2.2.2.2.2.2.2.2.2.2.2.2.2.2.1 s.2.2.2.2.2.2.2.2.2.2.2.2.2.2.2.2) (fun (y171,y172,y173,y174,y175,y176,y177,y178,y179,y180,y181,y182,y183,y184,y185,y186,y187)=>mkSt [(1,.im (nL cI w_)),(4,.own 95 1 0),(9,.own 96 1 0),(11,.osl 97 1),(44,.im (nL cI w_)),(45,.im (nI (↑(List.length w_):Int))),(46,.im (nI (↑y187:Int)))] [(95,.box 32 15),(96,.box 101 15),(97,.row 3 1 (List.map cI y186))] [(95,0,.im (nI 0)),(95,1,.im (nI 0)),(95,2,.im (.val (.slice none 0 0))),(95,3,.im (.val (.slice none 0 0))),(95,4,.im (nI 0)),(95,5,.im (nB false)),(95,6,.im (.val (.slice none 0 0))),(95,7,.im (nI 0)),(95,8,.im (nI 0)),(95,9,.im (nI 0)),(95,10,.im (nI 0)),(95,11,.im (nU 0)),(95,12,.im (nI 0)),(95,13,.im (nI 0)),(95,14,.im (nI 0)),(96,0,.im (nI y171)),(96,1,.im (nI y172)),(96,2,.im (nL (cL cI) y173)),(96,3,.im (nL (cL cI) y174)),(96,4,.im (nI y175)),(96,5,.im (nB y176)),(96,6,.im (nL cI y177)),(96,7,.im (nI y178)),(96,8,.im (nI y179)),(96,9,.im (nI y180)),(96,10,.im (nI y181)),(96,11,.im (nU y182)),(96,12,.im (nI y183)),(96,13,.im (nI y184)),(96,14,.im (nI y185))]) (fun (y171,y172,y173,y174,y175,y176,y177,y178,y179,y180,y181,y182,y183,y184,y185,y186,y187)=>lZ w_∧lZ y173∧lZ y174∧lZ y177∧lZ y186∧True) h (eA [(95,some 4),(96,some 34),(97,some 43)]) (by rintro ⟨y171,y172,y173,y174,y175,y176,y177,y178,y179,y180,y181,y182,y183,y184,y185,y186,y187⟩;exact ((Holds.avl 1 rfl).and ((Holds.cel 96 2 rfl (by decide) rfl).and ((Holds.cel 96 3 rfl (by decide) rfl).and ((Holds.cel 96 6 rfl (by decide) rfl).and ((Holds.kdl 97 rfl).and (hT))))))) ?_
 clear h
 rintro k ⟨y171,y172,y173,y174,y175,y176,y177,y178,y179,y180,y181,y182,y183,y184,y185,y186,y187⟩ o hp h ho206
 replace h:device_Query.s2 w_ y171 y172 y173 y174 y175 y176 y177 y178 y179 y180 y181 y182 y183 y184 y185 y186 y187=some o:=h
 unfold device_Query.s2 at h
 obtain ⟨z225,z226,z227,z228,z229,_⟩:=hp
 conv=>whnf
 refine Both.mk ?_ ?_<;>intro b207
 obtain ⟨h,b207d⟩:=ctd b207 h
 conv=>whnf
 obtain ⟨e208,he208,h⟩:=idxn_some h
 refine ⟨_,⟨(by omega),map_at he208,rfl⟩,?_⟩
 conv=>whnf
 refine Side.mk ⟨rfl,trivial⟩ ?_
 conv=>whnf
 obtain ⟨c209,hc209,h⟩:=bind_some h
 refine ⟨_,(sp_device_unit_step (⟨(⟨(⟨y171,y172,y173,y174⟩:T_api_Mealy),y175,y176,(⟨y177,y178⟩:T_api_Latency),(⟨y179,y180,y181⟩:T_api_Faults),y182,y183,y184,y185⟩:T_api_Device)⟩:T_device_unit) e208 c209 (fun _ _=>hc209)),?_⟩
 conv=>whnf
 refine Both.mk ?_ ?_<;>intro b210
 obtain ⟨h,b210d⟩:=ctd b210 h
 conv=>whnf
 refine Side.mk rfl ?_
 conv=>whnf
 refine Side.mk rfl ?_
 conv=>whnf
 refine Side.mk rfl ?_
 conv=>whnf
 refine Side.mk rfl ?_
 conv=>whnf
 cases h
 have ho206:_=_:=ho206
 cases ho206
 replace h:some _=some _:=hk59
 cases h
 conv=>whnf
 refine Side.mk ⟨rfl,trivial⟩ ?_
 conv=>whnf
 exact ⟨rfl,rfl⟩
 obtain ⟨h,b210d⟩:=cfd b210 h
 conv=>whnf
 obtain ⟨y215,hc,hk212⟩:=bind_some h
 clear h
 have h:=hc
 clear hc
 refine Cut.mk (mkSt [(1,.im (nL cI w_)),(4,.own 95 1 0),(9,.own 96 1 0),(11,.osl 97 1),(14,.im (nI c209.1)),(44,.im (nL cI w_)),(45,.im (nI (↑(List.length w_):Int))),(46,.im (nI (↑y187:Int))),(80,.im (nB y215))] [(95,.box 32 15),(96,.box 101 15),(97,.row 3 1 (List.map cI y186))] [(95,0,.im (nI 0)),(95,1,.im (nI 0)),(95,2,.im (.val (.slice none 0 0))),(95,3,.im (.val (.slice none 0 0))),(95,4,.im (nI 0)),(95,5,.im (nB false)),(95,6,.im (.val (.slice none 0 0))),(95,7,.im (nI 0)),(95,8,.im (nI 0)),(95,9,.im (nI 0)),(95,10,.im (nI 0)),(95,11,.im (nU 0)),(95,12,.im (nI 0)),(95,13,.im (nI 0)),(95,14,.im (nI 0)),(96,0,.im (nI c209.2.2.Device.M.Inputs)),(96,1,.im (nI c209.2.2.Device.M.Start)),(96,2,.im (nL (cL cI) c209.2.2.Device.M.Next)),(96,3,.im (nL (cL cI) c209.2.2.Device.M.Out)),(96,4,.im (nI c209.2.2.Device.State)),(96,5,.im (nB c209.2.2.Device.Ready)),(96,6,.im (nL cI c209.2.2.Device.Latency.Step)),(96,7,.im (nI c209.2.2.Device.Latency.Reset)),(96,8,.im (nI c209.2.2.Device.Faults.Lost)),(96,9,.im (nI c209.2.2.Device.Faults.Wrong)),(96,10,.im (nI c209.2.2.Device.Faults.Crash)),(96,11,.im (nU c209.2.2.Device.Seed)),(96,12,.im (nI c209.2.2.Device.Steps)),(96,13,.im (nI c209.2.2.Device.Resets)),(96,14,.im (nI c209.2.2.Device.Time))]) (lZ w_∧lZ c209.2.2.Device.M.Next∧lZ c209.2.2.Device.M.Out∧lZ c209.2.2.Device.Latency.Step∧lZ y186∧True) ((Holds.avl 1 rfl).and ((Holds.cel 96 2 rfl (by decide) rfl).and ((Holds.cel 96 3 rfl (by decide) rfl).and ((Holds.cel 96 6 rfl (by decide) rfl).and ((Holds.kdl 97 rfl).and (hT)))))) ?_ (fun hp=>?_)
 conv=>whnf
 refine Both.mk ?_ ?_<;>intro b216
 replace b216:=beq_ff b216
 obtain ⟨h,b216d⟩:=cfd b216 h
 conv=>whnf
 refine Both.yes (ff_beq b216) ?_
 conv=>whnf
 refine Side.mk rfl ?_
 conv=>whnf
 refine Both.yes (ff_beq b216) ?_
 conv=>whnf
 refine Side.mk rfl ?_
 conv=>whnf
 refine Both.yes (ff_beq b216) ?_
 conv=>whnf
 refine Side.mk rfl ?_
 conv=>whnf
 refine Both.yes (ff_beq b216) ?_
 conv=>whnf
 refine Side.mk rfl ?_
 conv=>whnf
 iterate 2 (refine Both.yes (ff_beq b216) ?_;(conv=>whnf))
 refine Both.mk ?_ ?_<;>intro b217
 replace b217:=beq_tt b217
 replace h:=cond_t b217 h
 conv=>whnf
 refine Both.yes (tt_beq b217) ?_
 conv=>whnf
 refine Arith.mk (by show inR _;unfold inR;omega) ?_
 conv=>whnf
 iterate 2 (refine Both.yes (tt_beq b217) ?_;(conv=>whnf))
 refine Nf.mk (List.length w_) len_map ?_
 conv=>whnf
 refine Both.yes (tt_beq b217) ?_
 conv=>whnf
 refine Both.yes (ff_beq b216) ?_
 conv=>whnf
 refine Both.yes b217 ?_
 conv=>whnf
 refine Both.no b216 ?_
 conv=>whnf
 cases h
 exact Join.mk (eA [(95,some 95),(96,some 96),(97,some 97)])
 replace b217:=beq_tf b217
 replace h:=cond_f b217 h
 conv=>whnf
 iterate 4 (refine Both.no (ft_beq b217) ?_;(conv=>whnf))
 refine Both.yes (ff_beq b216) ?_
 conv=>whnf
 refine Both.no b217 ?_
 conv=>whnf
 refine Both.no b216 ?_
 conv=>whnf
 cases h
 exact Join.mk (eA [(95,some 95),(96,some 96),(97,some 97)])
 replace b216:=beq_ft b216
 obtain ⟨h,b216d⟩:=ctd b216 h
 conv=>whnf
 iterate 7 (refine Both.no (tf_beq b216) ?_;(conv=>whnf))
 refine Both.yes b216 ?_
 conv=>whnf
 cases h
 exact Join.mk (eA [(95,some 95),(96,some 96),(97,some 97)])
 replace h:=hk212
 obtain ⟨z218,z219,z220,z221,z222,_⟩:=hp
 conv=>whnf
 refine Both.mk ?_ ?_<;>intro b223
 replace h:=cond_t b223 h
 conv=>whnf
 refine Side.mk rfl ?_
 conv=>whnf
 refine Side.mk rfl ?_
 conv=>whnf
 refine Side.mk rfl ?_
 conv=>whnf
 refine Side.mk rfl ?_
 conv=>whnf
 cases h
 have ho206:_=_:=ho206
 cases ho206
 replace h:some _=some _:=hk59
 cases h
 conv=>whnf
 refine Side.mk ⟨rfl,trivial⟩ ?_
 conv=>whnf
 exact ⟨rfl,rfl⟩
 replace h:=cond_f b223 h
 conv=>whnf
 obtain ⟨c224,h⟩:=chk_some h
 refine Side.mk ⟨rfl,map_len (l:=[c209.1]) (c:=cI) fun _=>rfl,show capOk _ 8 by simpa only [List.length_map,List.length_cons,List.length_nil,Nat.zero_add] using c224⟩ ?_
 conv=>whnf
 refine Nf.mk (List.map cI (y186++[c209.1])) (app_map (l:=y186) (m:=[c209.1]) (c:=cI)) ?_
 conv=>whnf
 refine Arith.mk (by show inR _;unfold inR;omega) ?_
 conv=>whnf
 cases h
 exact Nxt.mk _ ho206 (eA [(95,some 95),(96,some 96),(97,some 97)])
 obtain ⟨h,b207d⟩:=cfd b207 h
 conv=>whnf
 cases h
 have ho206:_=_:=ho206
 cases ho206
 exact JoinS.mk' _ rfl (eA [(95,some 95),(96,some 96),(97,some 97)])
 rintro ⟨y137,y138,y139,y140,y141,y142,y143,y144,y145,y146,y147,y148,y149,y150,y151,y152⟩ rfl hp
 have hx_:=sum_inl hk59
 replace h:device_Query.k3 y137 y138 y139 y140 y141 y142 y143 y144 y145 y146 y147 y148 y149 y150 y151 y152=some _:=hx_
 clear hx_
 unfold device_Query.k3 at h
 obtain ⟨z230,z231,z232,z233,_⟩:=hp
 conv=>whnf
 refine Side.mk rfl ?_
 conv=>whnf
 refine Side.mk rfl ?_
 conv=>whnf
 refine Side.mk rfl ?_
 conv=>whnf
 refine Side.mk rfl ?_
 conv=>whnf
 cases h
 conv=>whnf
 refine Side.mk ⟨rfl,trivial⟩ ?_
 conv=>whnf
 exact Side.mk ⟨rfl,trivial⟩ ⟨rfl,rfl⟩
theorem sp_oracle_rows (l_:List (List Int)) (r:List (List Int)) (h:Ok (nL (cL cI) l_)→oracle_rows l_=some r):Sp Tryz.prog 49 [.im (nL (cL cI) l_)] (.row 25 1 (List.map (cL cI) r)):=by
 refine sp_of rfl [] rfl rfl rfl (Nat.le_of_ble_eq_true rfl) rfl fun hk=>?_
 replace h:=h hk.1
 have z1:lZ l_:=ok_len hk.1
 unfold oracle_rows at h
 conv=>whnf
 refine Nf.mk (List.length l_) len_map ?_
 conv=>whnf
 obtain ⟨y68,hc,hk51⟩:=bind_some h
 clear h
 have h:=hc
 clear hc
 refine Cut.mk (mkSt [(3,.osl 64 1)] [(64,.row 25 1 (List.map (cL cI) y68))] []) (lZ y68∧True) ((Holds.kdl 64 rfl).and (hT)) ?_ (fun hp=>?_)
 conv=>whnf
 refine Loops.iter (fun (s:List (List Int)×Nat)=>oracle_rows.s2 l_ s.1 s.2) (fun (y72,y73)=>mkSt [(3,.osl 64 1),(6,.im (nL (cL cI) l_)),(7,.im (nI (↑(List.length l_):Int))),(8,.im (nI (↑y73:Int)))] [(64,.row 25 1 (List.map (cL cI) y72))] []) (fun (y72,y73)=>lZ l_∧lZ y72∧True) h (eA [(64,none)]) (by rintro ⟨y72,y73⟩;exact ((Holds.avl 6 rfl).and ((Holds.kdl 64 rfl).and (hT)))) ?_
 clear h
 rintro k ⟨y72,y73⟩ o hp h ho78
 replace h:oracle_rows.s2 l_ y72 y73=some o:=h
 unfold oracle_rows.s2 at h
 obtain ⟨z83,z84,_⟩:=hp
 conv=>whnf
 refine Both.mk ?_ ?_<;>intro b79
 obtain ⟨h,b79d⟩:=ctd b79 h
 conv=>whnf
 obtain ⟨e80,he80,h⟩:=idxn_some h
 refine ⟨_,⟨(by omega),map_at he80,rfl⟩,?_⟩
 conv=>whnf
 obtain ⟨c81,hc81,h⟩:=bind_some h
 refine ⟨_,(sp_lib_Clone_int e80 c81 (hc81)).im,?_⟩
 conv=>whnf
 obtain ⟨c82,h⟩:=chk_some h
 refine Side.mk ⟨rfl,map_len (l:=[c81]) (c:=cL cI) fun _=>rfl,show capOk _ 24 by simpa only [List.length_map,List.length_cons,List.length_nil,Nat.zero_add] using c82⟩ ?_
 conv=>whnf
 refine Nf.mk (List.map (cL cI) (y72++[c81])) (app_map (l:=y72) (m:=[c81]) (c:=cL cI)) ?_
 conv=>whnf
 refine Arith.mk (by show inR _;unfold inR;omega) ?_
 conv=>whnf
 cases h
 exact Nxt.mk _ ho78 (eA [(64,some 64)])
 obtain ⟨h,b79d⟩:=cfd b79 h
 conv=>whnf
 cases h
 have ho78:_=_:=ho78
 cases ho78
 exact Join.mk (eA [(64,some 64)])
 replace h:=hk51
 obtain ⟨z85,_⟩:=hp
 conv=>whnf
 cases h
 conv=>whnf
 exact Side.mk ⟨rfl,trivial⟩ ⟨rfl,rfl⟩
theorem sp_oracle_copied (q_:T_api_Oracle) (r:T_api_Oracle) (h:Ok (.agg (c_api_Oracle q_))→oracle_copied q_=some r):Sp Tryz.prog 21 [.im (.agg (c_api_Oracle q_))] (.im (.agg (c_api_Oracle r))):=by
 refine sp_of rfl [] rfl rfl rfl (Nat.le_of_ble_eq_true rfl) rfl fun hk=>?_
 replace h:=h hk.1
 have z1:lZ q_.Device.M.Next:=ok_len (Ok.agg_at hk.1 2 rfl)
 have z2:lZ q_.Device.M.Out:=ok_len (Ok.agg_at hk.1 3 rfl)
 have z3:lZ q_.Device.Latency.Step:=ok_len (Ok.agg_at hk.1 6 rfl)
 have z4:lZ q_.Obs.Traces:=ok_len (Ok.agg_at hk.1 16 rfl)
 unfold oracle_copied at h
 conv=>whnf
 refine Side.mk rfl ?_
 conv=>whnf
 refine Side.mk rfl ?_
 conv=>whnf
 refine Side.mk rfl ?_
 conv=>whnf
 refine Side.mk rfl ?_
 conv=>whnf
 refine Side.mk rfl ?_
 conv=>whnf
 obtain ⟨c51,hc51,h⟩:=bind_some h
 refine ⟨_,(sp_oracle_rows q_.Device.M.Next c51 (fun _=>hc51)).im,?_⟩
 conv=>whnf
 refine Side.mk rfl ?_
 conv=>whnf
 refine Side.mk rfl ?_
 conv=>whnf
 refine Side.mk rfl ?_
 conv=>whnf
 obtain ⟨c52,hc52,h⟩:=bind_some h
 refine ⟨_,(sp_oracle_rows q_.Device.M.Out c52 (fun _=>hc52)).im,?_⟩
 conv=>whnf
 refine Side.mk rfl ?_
 conv=>whnf
 refine Side.mk rfl ?_
 conv=>whnf
 refine Side.mk rfl ?_
 conv=>whnf
 refine Side.mk rfl ?_
 conv=>whnf
 refine Side.mk rfl ?_
 conv=>whnf
 refine Side.mk rfl ?_
 conv=>whnf
 refine Side.mk rfl ?_
 conv=>whnf
 refine Side.mk rfl ?_
 conv=>whnf
 refine Side.mk rfl ?_
 conv=>whnf
 refine Side.mk rfl ?_
 conv=>whnf
 obtain ⟨c53,hc53,h⟩:=bind_some h
 refine ⟨_,(sp_lib_Clone_int q_.Device.Latency.Step c53 (hc53)).im,?_⟩
 conv=>whnf
 refine Side.mk rfl ?_
 conv=>whnf
 refine Side.mk rfl ?_
 conv=>whnf
 refine Side.mk rfl ?_
 conv=>whnf
 refine Side.mk rfl ?_
 conv=>whnf
 refine Side.mk rfl ?_
 conv=>whnf
 refine Side.mk rfl ?_
 conv=>whnf
 refine Side.mk rfl ?_
 conv=>whnf
 refine Nf.mk (List.length q_.Obs.Traces) len_map ?_
 conv=>whnf
 obtain ⟨y77,hc,hk54⟩:=bind_some h
 clear h
 have h:=hc
 clear hc
 refine Cut.mk (mkSt [(1,.own 64 1 0),(2,.own 65 1 0),(4,.osl 66 1)] [(64,.box 37 21),(65,.box 37 21),(66,.row 72 2 (List.map c_api_Trace y77))] [(64,0,.im (nI q_.Device.M.Inputs)),(64,1,.im (nI q_.Device.M.Start)),(64,2,.im (nL (cL cI) c51)),(64,3,.im (nL (cL cI) c52)),(64,4,.im (nI q_.Device.State)),(64,5,.im (nB q_.Device.Ready)),(64,6,.im (nL cI c53)),(64,7,.im (nI q_.Device.Latency.Reset)),(64,8,.im (nI q_.Device.Faults.Lost)),(64,9,.im (nI q_.Device.Faults.Wrong)),(64,10,.im (nI q_.Device.Faults.Crash)),(64,11,.im (nU q_.Device.Seed)),(64,12,.im (nI q_.Device.Steps)),(64,13,.im (nI q_.Device.Resets)),(64,14,.im (nI q_.Device.Time)),(64,15,.im (nI q_.Obs.Inputs)),(64,16,.im (nL c_api_Trace q_.Obs.Traces)),(64,17,.im (nI q_.Votes)),(64,18,.im (nI q_.Tries)),(64,19,.im (nI q_.Asked)),(64,20,.im (nI q_.Hits)),(65,0,.im (nI 0)),(65,1,.im (nI 0)),(65,2,.im (.val (.slice none 0 0))),(65,3,.im (.val (.slice none 0 0))),(65,4,.im (nI 0)),(65,5,.im (nB false)),(65,6,.im (.val (.slice none 0 0))),(65,7,.im (nI 0)),(65,8,.im (nI 0)),(65,9,.im (nI 0)),(65,10,.im (nI 0)),(65,11,.im (nU 0)),(65,12,.im (nI 0)),(65,13,.im (nI 0)),(65,14,.im (nI 0)),(65,15,.im (nI 0)),(65,16,.im (.val (.slice none 0 0))),(65,17,.im (nI 0)),(65,18,.im (nI 0)),(65,19,.im (nI 0)),(65,20,.im (nI 0))]) (lZ c51∧lZ c52∧lZ c53∧lZ q_.Obs.Traces∧lZ y77∧True) ((Holds.cel 64 2 rfl (by decide) rfl).and ((Holds.cel 64 3 rfl (by decide) rfl).and ((Holds.cel 64 6 rfl (by decide) rfl).and ((Holds.cel 64 16 rfl (by decide) rfl).and ((Holds.kdl 66 rfl).and (hT)))))) ?_ (fun hp=>?_)
 conv=>whnf
 refine Loops.iter (fun (s:List T_api_Trace×Nat)=>oracle_copied.s2 q_ s.1 s.2) (fun (y82,y83)=>mkSt [(1,.own 64 1 0),(2,.own 65 1 0),(4,.osl 66 1),(35,.im (nL c_api_Trace q_.Obs.Traces)),(36,.im (nI (↑(List.length q_.Obs.Traces):Int))),(37,.im (nI (↑y83:Int)))] [(64,.box 37 21),(65,.box 37 21),(66,.row 72 2 (List.map c_api_Trace y82))] [(64,0,.im (nI q_.Device.M.Inputs)),(64,1,.im (nI q_.Device.M.Start)),(64,2,.im (nL (cL cI) c51)),(64,3,.im (nL (cL cI) c52)),(64,4,.im (nI q_.Device.State)),(64,5,.im (nB q_.Device.Ready)),(64,6,.im (nL cI c53)),(64,7,.im (nI q_.Device.Latency.Reset)),(64,8,.im (nI q_.Device.Faults.Lost)),(64,9,.im (nI q_.Device.Faults.Wrong)),(64,10,.im (nI q_.Device.Faults.Crash)),(64,11,.im (nU q_.Device.Seed)),(64,12,.im (nI q_.Device.Steps)),(64,13,.im (nI q_.Device.Resets)),(64,14,.im (nI q_.Device.Time)),(64,15,.im (nI q_.Obs.Inputs)),(64,16,.im (nL c_api_Trace q_.Obs.Traces)),(64,17,.im (nI q_.Votes)),(64,18,.im (nI q_.Tries)),(64,19,.im (nI q_.Asked)),(64,20,.im (nI q_.Hits)),(65,0,.im (nI 0)),(65,1,.im (nI 0)),(65,2,.im (.val (.slice none 0 0))),(65,3,.im (.val (.slice none 0 0))),(65,4,.im (nI 0)),(65,5,.im (nB false)),(65,6,.im (.val (.slice none 0 0))),(65,7,.im (nI 0)),(65,8,.im (nI 0)),(65,9,.im (nI 0)),(65,10,.im (nI 0)),(65,11,.im (nU 0)),(65,12,.im (nI 0)),(65,13,.im (nI 0)),(65,14,.im (nI 0)),(65,15,.im (nI 0)),(65,16,.im (.val (.slice none 0 0))),(65,17,.im (nI 0)),(65,18,.im (nI 0)),(65,19,.im (nI 0)),(65,20,.im (nI 0))]) (fun (y82,y83)=>lZ q_.Obs.Traces∧lZ c51∧lZ c52∧lZ c53∧lZ y82∧True) h (eA [(64,some 1),(65,some 2),(66,none)]) (by rintro ⟨y82,y83⟩;exact ((Holds.avl 35 rfl).and ((Holds.cel 64 2 rfl (by decide) rfl).and ((Holds.cel 64 3 rfl (by decide) rfl).and ((Holds.cel 64 6 rfl (by decide) rfl).and ((Holds.kdl 66 rfl).and (hT))))))) ?_
 clear h
 rintro k ⟨y82,y83⟩ o hp h ho89
 replace h:oracle_copied.s2 q_ y82 y83=some o:=h
 unfold oracle_copied.s2 at h
 obtain ⟨z95,z96,z97,z98,z99,_⟩:=hp
 conv=>whnf
 refine Both.mk ?_ ?_<;>intro b90
 obtain ⟨h,b90d⟩:=ctd b90 h
 conv=>whnf
 obtain ⟨e91,he91,h⟩:=idxn_some h
 refine ⟨_,⟨(by omega),map_at he91,rfl⟩,?_⟩
 conv=>whnf
 refine Side.mk rfl ?_
 conv=>whnf
 refine Side.mk rfl ?_
 conv=>whnf
 refine Side.mk rfl ?_
 conv=>whnf
 obtain ⟨c92,hc92,h⟩:=bind_some h
 refine ⟨_,(sp_lib_Clone_int e91.In c92 (hc92)).im,?_⟩
 conv=>whnf
 refine Side.mk rfl ?_
 conv=>whnf
 refine Side.mk rfl ?_
 conv=>whnf
 obtain ⟨c93,hc93,h⟩:=bind_some h
 refine ⟨_,(sp_lib_Clone_int e91.Out c93 (hc93)).im,?_⟩
 conv=>whnf
 obtain ⟨c94,h⟩:=chk_some h
 refine Side.mk ⟨rfl,map_len (l:=[(⟨c92,c93⟩:T_api_Trace)]) (c:=c_api_Trace) fun _=>rfl,show capOk _ 48 by simpa only [List.length_map,List.length_cons,List.length_nil,Nat.zero_add] using c94⟩ ?_
 conv=>whnf
 refine Nf.mk (List.map c_api_Trace (y82++[(⟨c92,c93⟩:T_api_Trace)])) (app_map (l:=y82) (m:=[(⟨c92,c93⟩:T_api_Trace)]) (c:=c_api_Trace)) ?_
 conv=>whnf
 refine Arith.mk (by show inR _;unfold inR;omega) ?_
 conv=>whnf
 cases h
 exact Nxt.mk _ ho89 (eA [(64,some 64),(65,some 65),(66,some 66)])
 obtain ⟨h,b90d⟩:=cfd b90 h
 conv=>whnf
 cases h
 have ho89:_=_:=ho89
 cases ho89
 exact Join.mk (eA [(64,some 64),(65,some 65),(66,some 66)])
 replace h:=hk54
 obtain ⟨z100,z101,z102,z103,z104,_⟩:=hp
 conv=>whnf
 refine Side.mk rfl ?_
 conv=>whnf
 refine Side.mk rfl ?_
 conv=>whnf
 refine Side.mk rfl ?_
 conv=>whnf
 refine Side.mk rfl ?_
 conv=>whnf
 refine Side.mk rfl ?_
 conv=>whnf
 cases h
 conv=>whnf
 refine Side.mk ⟨rfl,trivial⟩ ?_
 conv=>whnf
 exact Side.mk ⟨rfl,trivial⟩ ⟨rfl,rfl⟩
theorem sp_observe_copied (t_:T_api_Trace) (r:T_api_Trace) (h:Ok (.agg (c_api_Trace t_))→observe_copied t_=some r):Sp Tryz.prog 97 [.im (.agg (c_api_Trace t_))] (.im (.agg (c_api_Trace r))):=by
 refine sp_of rfl [700001] rfl rfl rfl (Nat.le_of_ble_eq_true rfl) rfl fun hk=>?_
 replace h:=h hk.1
 have z1:lZ t_.In:=ok_len (Ok.agg_at hk.1 0 rfl)
 have z2:lZ t_.Out:=ok_len (Ok.agg_at hk.1 1 rfl)
 unfold observe_copied at h
 conv=>whnf
 obtain ⟨c51,hc51,h⟩:=bind_some h
 refine ⟨_,(sp_lib_Clone_int t_.In c51 (hc51)).im,?_⟩
 conv=>whnf
 obtain ⟨c52,hc52,h⟩:=bind_some h
 refine ⟨_,(sp_lib_Clone_int t_.Out c52 (hc52)).im,?_⟩
 conv=>whnf
 refine Side.mk rfl ?_
 conv=>whnf
 cases h
 conv=>whnf
 refine Side.mk ⟨rfl,trivial⟩ ?_
 conv=>whnf
 exact ⟨rfl,rfl⟩
theorem sp_observe_owned (l_:List T_api_Trace) (r:List T_api_Trace) (h:Ok (nL c_api_Trace l_)→observe_owned l_=some r):Sp Tryz.prog 83 [.im (nL c_api_Trace l_)] (.row 72 2 (List.map c_api_Trace r)):=by
 refine sp_of rfl [] rfl rfl rfl (Nat.le_of_ble_eq_true rfl) rfl fun hk=>?_
 replace h:=h hk.1
 have z1:lZ l_:=ok_len hk.1
 unfold observe_owned at h
 conv=>whnf
 refine Nf.mk (List.length l_) len_map ?_
 conv=>whnf
 refine Arith.mk (by show inR _;unfold inR;omega) ?_
 conv=>whnf
 obtain ⟨c51,h⟩:=chk_some h
 refine Side.mk c51 ?_
 conv=>whnf
 refine Nf.mk (List.map c_api_Trace []) rfl ?_
 conv=>whnf
 refine Nf.mk (List.length l_) len_map ?_
 conv=>whnf
 obtain ⟨y70,hc,hk52⟩:=bind_some h
 clear h
 have h:=hc
 clear hc
 refine Cut.mk (mkSt [(3,.osl 64 1)] [(64,.row 72 2 (List.map c_api_Trace y70))] []) (lZ y70∧True) ((Holds.kdl 64 rfl).and (hT)) ?_ (fun hp=>?_)
 conv=>whnf
 refine Loops.iter (fun (s:List T_api_Trace×Nat)=>observe_owned.s2 l_ s.1 s.2) (fun (y75,y76)=>mkSt [(3,.osl 64 1),(10,.im (nL c_api_Trace l_)),(11,.im (nI (↑(List.length l_):Int))),(12,.im (nI (↑y76:Int)))] [(64,.row 72 2 (List.map c_api_Trace y75))] []) (fun (y75,y76)=>lZ l_∧lZ y75∧True) h (eA [(64,some 9)]) (by rintro ⟨y75,y76⟩;exact ((Holds.avl 10 rfl).and ((Holds.kdl 64 rfl).and (hT)))) ?_
 clear h
 rintro k ⟨y75,y76⟩ o hp h ho81
 replace h:observe_owned.s2 l_ y75 y76=some o:=h
 unfold observe_owned.s2 at h
 obtain ⟨z86,z87,_⟩:=hp
 conv=>whnf
 refine Both.mk ?_ ?_<;>intro b82
 obtain ⟨h,b82d⟩:=ctd b82 h
 conv=>whnf
 obtain ⟨e83,he83,h⟩:=idxn_some h
 refine ⟨_,⟨(by omega),map_at he83,rfl⟩,?_⟩
 conv=>whnf
 refine Side.mk rfl ?_
 conv=>whnf
 refine Side.mk rfl ?_
 conv=>whnf
 obtain ⟨c84,hc84,h⟩:=bind_some h
 refine ⟨_,(sp_observe_copied e83 c84 (fun _=>hc84)),?_⟩
 conv=>whnf
 obtain ⟨c85,h⟩:=chk_some h
 refine Side.mk ⟨rfl,map_len (l:=[c84]) (c:=c_api_Trace) fun _=>rfl,show capOk _ 48 by simpa only [List.length_map,List.length_cons,List.length_nil,Nat.zero_add] using c85⟩ ?_
 conv=>whnf
 refine Nf.mk (List.map c_api_Trace (y75++[c84])) (app_map (l:=y75) (m:=[c84]) (c:=c_api_Trace)) ?_
 conv=>whnf
 refine Arith.mk (by show inR _;unfold inR;omega) ?_
 conv=>whnf
 cases h
 exact Nxt.mk _ ho81 (eA [(64,some 64)])
 obtain ⟨h,b82d⟩:=cfd b82 h
 conv=>whnf
 cases h
 have ho81:_=_:=ho81
 cases ho81
 exact Join.mk (eA [(64,some 64)])
 replace h:=hk52
 obtain ⟨z88,_⟩:=hp
 conv=>whnf
 cases h
 conv=>whnf
 exact Side.mk ⟨rfl,trivial⟩ ⟨rfl,rfl⟩
theorem sp_slices_BinarySearchFunc_Sapi_Trace_api_Trace_api_Trace (x_:List T_api_Trace) (target_:T_api_Trace) (cmp_:T_api_Trace→T_api_Trace→Option Int) (f2_:FuncId) (hf2:∀ x0 x1 r,cmp_ x0 x1=some r→Sp Tryz.prog f2_ [.im (.agg (c_api_Trace x0)),.im (.agg (c_api_Trace x1))] (.im (nI r))) (r:Int×Bool) (h:Ok (nL c_api_Trace x_)→Ok (.agg (c_api_Trace target_))→Ok (.fn f2_ [])→slices_BinarySearchFunc_Sapi_Trace_api_Trace_api_Trace x_ target_ cmp_=some r):Sp Tryz.prog 102 [.im (nL c_api_Trace x_),.im (.agg (c_api_Trace target_)),.im (.fn f2_ [])] (.tup [nI r.1,nB r.2]):=by
 refine sp_of rfl [700004] rfl rfl rfl (Nat.le_of_ble_eq_true rfl) rfl fun hk=>?_
 replace h:=h hk.1 hk.2.1 hk.2.2.1
 have z1:lZ x_:=ok_len hk.1
 have z2:lZ target_.In:=ok_len (Ok.agg_at hk.2.1 0 rfl)
 have z3:lZ target_.Out:=ok_len (Ok.agg_at hk.2.1 1 rfl)
 unfold slices_BinarySearchFunc_Sapi_Trace_api_Trace_api_Trace at h
 conv=>whnf
 refine Nf.mk (List.length x_) len_map ?_
 conv=>whnf
 obtain ⟨i81,hc,hk51⟩:=bind_some h
 clear h
 have h:=hc
 clear hc
 refine Cut.mk (mkSt [(0,.im (nL c_api_Trace x_)),(2,.im (.fn f2_ [])),(4,.im (.ref (c_api_Trace target_))),(8,.im (nI (↑(List.length x_):Int))),(9,.im (nI i81))] [] []) (lZ x_∧True) ((Holds.avl 0 rfl).and (hT)) ?_ (fun hp=>?_)
 conv=>whnf
 refine Loops.iter (fun (s:Int×Int)=>slices_BinarySearchFunc_Sapi_Trace_api_Trace_api_Trace.s2 x_ target_ cmp_ s.1 s.2) (fun (i89,j90)=>mkSt [(0,.im (nL c_api_Trace x_)),(2,.im (.fn f2_ [])),(4,.im (.ref (c_api_Trace target_))),(8,.im (nI (↑(List.length x_):Int))),(9,.im (nI i89)),(10,.im (nI j90))] [] []) (fun (i89,j90)=>lZ x_∧True) h (eA []) (by rintro ⟨i89,j90⟩;exact ((Holds.avl 0 rfl).and (hT))) ?_
 clear h
 rintro k ⟨i89,j90⟩ o hp h ho100
 replace h:slices_BinarySearchFunc_Sapi_Trace_api_Trace_api_Trace.s2 x_ target_ cmp_ i89 j90=some o:=h
 unfold slices_BinarySearchFunc_Sapi_Trace_api_Trace_api_Trace.s2 at h
 obtain ⟨z110,_⟩:=hp
 conv=>whnf
 refine Both.mk ?_ ?_<;>intro b101
 obtain ⟨h,b101d⟩:=ctd b101 h
 conv=>whnf
 obtain ⟨c102,h⟩:=chk_some h
 refine Arith.mk c102 ?_
 conv=>whnf
 obtain ⟨c103,h⟩:=chk_some h
 refine Side.mk c103 ?_
 conv=>whnf
 obtain ⟨c104,h⟩:=chk_some h
 refine Side.mk ⟨⟨by show (0:Int)≤(i89+j90) / 2^1;omega,by show (i89+j90) / 2^1≤(18446744073709551615:Int);omega⟩,c104.1,by decide,by decide⟩ ?_
 conv=>whnf
 obtain ⟨c105,h⟩:=chk_some h
 refine Side.mk c105 ?_
 conv=>whnf
 obtain ⟨e106,he106z,he106,h⟩:=idx_some h
 refine ⟨_,⟨he106z,map_at he106,rfl⟩,?_⟩
 conv=>whnf
 obtain ⟨c107,hc107,h⟩:=bind_some h
 refine ⟨_,hf2 e106 target_ c107 hc107,?_⟩
 conv=>whnf
 refine Both.mk ?_ ?_<;>intro b108
 obtain ⟨h,b108d⟩:=ctd b108 h
 conv=>whnf
 obtain ⟨c109,h⟩:=chk_some h
 refine Arith.mk c109 ?_
 conv=>whnf
 cases h
 exact Nxt.mk _ ho100 (eA [])
 obtain ⟨h,b108d⟩:=cfd b108 h
 conv=>whnf
 cases h
 exact Nxt.mk _ ho100 (eA [])
 obtain ⟨h,b101d⟩:=cfd b101 h
 conv=>whnf
 cases h
 have ho100:_=_:=ho100
 cases ho100
 exact Join.mk (eA [])
 replace h:=hk51
 obtain ⟨z111,_⟩:=hp
 conv=>whnf
 obtain ⟨y117,hc,hk113⟩:=bind_some h
 clear h
 have h:=hc
 clear hc
 refine Cut.mk (mkSt [(6,.im (nI i81)),(7,.im (nB y117))] [] []) (True) (hT) ?_ (fun hp=>?_)
 conv=>whnf
 refine Both.mk ?_ ?_<;>intro b118
 replace b118:=beq_tt b118
 obtain ⟨h,b118d⟩:=ctd b118 h
 conv=>whnf
 iterate 3 (refine Both.yes (tt_beq b118) ?_;(conv=>whnf))
 obtain ⟨e119,he119z,he119,h⟩:=idx_some h
 refine ⟨_,⟨he119z,map_at he119,rfl⟩,?_⟩
 conv=>whnf
 iterate 3 (refine Both.yes (tt_beq b118) ?_;(conv=>whnf))
 obtain ⟨c120,hc120,h⟩:=bind_some h
 refine ⟨_,hf2 e119 target_ c120 hc120,?_⟩
 conv=>whnf
 refine Both.yes (tt_beq b118) ?_
 conv=>whnf
 refine Both.yes b118 ?_
 conv=>whnf
 cases h
 exact Join.mk (eA [])
 replace b118:=beq_tf b118
 obtain ⟨h,b118d⟩:=cfd b118 h
 conv=>whnf
 iterate 7 (refine Both.no (ft_beq b118) ?_;(conv=>whnf))
 refine Both.no b118 ?_
 conv=>whnf
 cases h
 exact Join.mk (eA [])
 replace h:=hk113
 conv=>whnf
 cases h
 conv=>whnf
 exact ⟨rfl,rfl⟩
theorem sp_observe_differ (a_:T_api_Trace) (b_:T_api_Trace) (r:Int) (h:Ok (.agg (c_api_Trace a_))→Ok (.agg (c_api_Trace b_))→observe_differ a_ b_=some r):Sp Tryz.prog 99 [.im (.agg (c_api_Trace a_)),.im (.agg (c_api_Trace b_))] (.im (nI r)):=by
 refine sp_of rfl [700002,700003] rfl rfl rfl (Nat.le_of_ble_eq_true rfl) rfl fun hk=>?_
 replace h:=h hk.1 hk.2.1
 have z1:lZ a_.In:=ok_len (Ok.agg_at hk.1 0 rfl)
 have z2:lZ a_.Out:=ok_len (Ok.agg_at hk.1 1 rfl)
 have z3:lZ b_.In:=ok_len (Ok.agg_at hk.2.1 0 rfl)
 have z4:lZ b_.Out:=ok_len (Ok.agg_at hk.2.1 1 rfl)
 unfold observe_differ at h
 conv=>whnf
 obtain ⟨c51,hc51,h⟩:=bind_some h
 refine ⟨_,(sp_word_Common a_.In b_.In c51 (fun _ _=>hc51)),?_⟩
 conv=>whnf
 refine Nf.mk (List.length a_.Out) len_map ?_
 conv=>whnf
 refine Nf.mk (List.length b_.Out) len_map ?_
 conv=>whnf
 obtain ⟨c52,h⟩:=chk_some h
 refine Side.mk (show (0:Int)≤(0:Int)∧(0:Int)≤(min (min c51 (↑(List.length a_.Out):Int)) (↑(List.length b_.Out):Int))∧(min (min c51 (↑(List.length a_.Out):Int)) (↑(List.length b_.Out):Int))≤(↑(List.length (List.map cI a_.Out)):Int)∧(∀ e∈List.map cI a_.Out,List.length e=1) from ⟨by omega,by first | omega | (simp only [List.length_map];omega),by first | omega | (simp only [List.length_map];omega),map_len fun _=>rfl⟩) ?_
 conv=>whnf
 refine Nf.mk (List.map cI (List.take (Int.toNat (min (min c51 (↑(List.length a_.Out):Int)) (↑(List.length b_.Out):Int))) a_.Out)) take_map ?_
 conv=>whnf
 obtain ⟨c53,h⟩:=chk_some h
 refine Side.mk (show (0:Int)≤(0:Int)∧(0:Int)≤(min (min c51 (↑(List.length a_.Out):Int)) (↑(List.length b_.Out):Int))∧(min (min c51 (↑(List.length a_.Out):Int)) (↑(List.length b_.Out):Int))≤(↑(List.length (List.map cI b_.Out)):Int)∧(∀ e∈List.map cI b_.Out,List.length e=1) from ⟨by omega,by first | omega | (simp only [List.length_map];omega),by first | omega | (simp only [List.length_map];omega),map_len fun _=>rfl⟩) ?_
 conv=>whnf
 refine Nf.mk (List.map cI (List.take (Int.toNat (min (min c51 (↑(List.length a_.Out):Int)) (↑(List.length b_.Out):Int))) b_.Out)) take_map ?_
 conv=>whnf
 obtain ⟨c54,hc54,h⟩:=bind_some h
 refine ⟨_,(sp_word_Common (List.take (Int.toNat (min (min c51 (↑(List.length a_.Out):Int)) (↑(List.length b_.Out):Int))) a_.Out) (List.take (Int.toNat (min (min c51 (↑(List.length a_.Out):Int)) (↑(List.length b_.Out):Int))) b_.Out) c54 (fun _ _=>hc54)),?_⟩
 conv=>whnf
 refine Both.mk ?_ ?_<;>intro b55
 obtain ⟨h,b55d⟩:=ctd b55 h
 conv=>whnf
 cases h
 conv=>whnf
 exact ⟨rfl,rfl⟩
 obtain ⟨h,b55d⟩:=cfd b55 h
 conv=>whnf
 cases h
 conv=>whnf
 exact ⟨rfl,rfl⟩
theorem sp_observe_add_1 (u_:T_api_Trace) (p1_:T_api_Trace) (r:Bool) (h:Ok (.agg (c_api_Trace u_))→Ok (.ref (c_api_Trace p1_))→observe_add_1 u_ p1_=some r):Sp Tryz.prog 101 [.im (.agg (c_api_Trace u_)),.im (.ref (c_api_Trace p1_))] (.im (nB r)):=by
 refine sp_of rfl [700002] rfl rfl rfl (Nat.le_of_ble_eq_true rfl) rfl fun hk=>?_
 replace h:=h hk.1 hk.2.1
 have z1:lZ u_.In:=ok_len (Ok.agg_at hk.1 0 rfl)
 have z2:lZ u_.Out:=ok_len (Ok.agg_at hk.1 1 rfl)
 have z3:lZ p1_.In:=ok_len (Ok.ref_at hk.2.1 0 rfl)
 have z4:lZ p1_.Out:=ok_len (Ok.ref_at hk.2.1 1 rfl)
 unfold observe_add_1 at h
 conv=>whnf
 obtain ⟨c51,hc51,h⟩:=bind_some h
 refine ⟨_,(sp_word_HasPrefix p1_.In u_.In c51 (fun _ _=>hc51)),?_⟩
 conv=>whnf
 cases h
 conv=>whnf
 exact ⟨rfl,rfl⟩
theorem sp_slices_DeleteFunc_Sapi_Trace_api_Trace_n1 (s_:List T_api_Trace) (del_:T_api_Trace→Option Bool) (f1_:FuncId) (k1_0:IV) (hk1_0:nz k1_0=k1_0) (hf1:∀ x0 r,del_ x0=some r→Sp Tryz.prog f1_ [.im (.agg (c_api_Trace x0)),.im k1_0] (.im (nB r))) (r:List T_api_Trace) (h:OkL (List.map c_api_Trace s_)→Ok (.fn f1_ [k1_0])→slices_DeleteFunc_Sapi_Trace_api_Trace_n1 s_ del_=some r):Sp Tryz.prog 100 [.row 72 2 (List.map c_api_Trace s_),.im (.fn f1_ [k1_0])] (.row 72 2 (List.map c_api_Trace r)):=by
 refine sp_of rfl [500010] rfl rfl rfl (Nat.le_of_ble_eq_true rfl) rfl fun hk=>?_
 replace h:=h hk.1 hk.2.1
 have z1:lZ s_:=okl_len hk.1
 unfold slices_DeleteFunc_Sapi_Trace_api_Trace_n1 at h
 conv=>whnf
 refine Side.mk ⟨rfl,trivial⟩ ?_
 conv=>whnf
 obtain ⟨c51,hc51,h⟩:=bind_some h
 refine ⟨_,(sp_slices_IndexFunc_Sapi_Trace_api_Trace_n1 s_ del_ f1_ k1_0 hk1_0 hf1 c51 (fun _ _=>hc51)),?_⟩
 conv=>whnf
 refine Side.mk flat_one ?_
 conv=>whnf
 refine Both.mk ?_ ?_<;>intro b52
 obtain ⟨h,b52d⟩:=ctd b52 h
 conv=>whnf
 cases h
 conv=>whnf
 exact Side.mk ⟨rfl,trivial⟩ ⟨rfl,rfl⟩
 obtain ⟨h,b52d⟩:=cfd b52 h
 conv=>whnf
 obtain ⟨c53,h⟩:=chk_some h
 refine Arith.mk c53 ?_
 conv=>whnf
 obtain ⟨⟨y84,i85⟩,hc,hk54⟩:=bind_some h
 clear h
 have h:=hc
 clear hc
 refine Cut.mk (mkSt [(0,.osl 64 1),(5,.im (nI i85))] [(64,.row 72 2 (List.map c_api_Trace y84))] []) (lZ y84∧True) ((Holds.kdl 64 rfl).and (hT)) ?_ (fun hp=>?_)
 conv=>whnf
 refine Loops.iter (fun (s:List T_api_Trace×Int×Int)=>slices_DeleteFunc_Sapi_Trace_api_Trace_n1.s2 del_ s.1 s.2.1 s.2.2) (fun (y94,i95,j96)=>mkSt [(0,.osl 64 1),(1,.im (.fn f1_ [k1_0])),(5,.im (nI i95)),(6,.im (nI j96))] [(64,.row 72 2 (List.map c_api_Trace y94))] []) (fun (y94,i95,j96)=>lZ y94∧True) h (eA [(64,some 0)]) (by rintro ⟨y94,i95,j96⟩;exact ((Holds.kdl 64 rfl).and (hT))) ?_
 clear h
 rintro k ⟨y94,i95,j96⟩ o hp h ho105
 replace h:slices_DeleteFunc_Sapi_Trace_api_Trace_n1.s2 del_ y94 i95 j96=some o:=h
 unfold slices_DeleteFunc_Sapi_Trace_api_Trace_n1.s2 at h
 obtain ⟨z114,_⟩:=hp
 conv=>whnf
 refine Side.mk rfl ?_
 conv=>whnf
 refine Nf.mk (List.length y94) len_map ?_
 conv=>whnf
 refine Both.mk ?_ ?_<;>intro b106
 obtain ⟨h,b106d⟩:=ctd b106 h
 conv=>whnf
 obtain ⟨e107,he107z,he107,h⟩:=idx_some h
 refine Side.mk ⟨he107z,rfl,map_lt he107⟩ ?_
 conv=>whnf
 refine ⟨_,⟨rfl,map_at he107,of_decide_eq_true rfl,rfl⟩,?_⟩
 conv=>whnf
 refine Side.mk rfl ?_
 conv=>whnf
 refine Side.mk rfl ?_
 conv=>whnf
 obtain ⟨c108,hc108,h⟩:=bind_some h
 refine ⟨_,Sp.args (hf1 e107 c108 hc108) (by rw [hk1_0];try rfl),?_⟩
 conv=>whnf
 refine Both.mk ?_ ?_<;>intro b109
 replace h:=cond_t b109 h
 conv=>whnf
 refine Side.mk rfl ?_
 conv=>whnf
 obtain ⟨e110,he110z,he110,h⟩:=idx_some h
 refine Side.mk ⟨he110z,rfl,map_lt he110⟩ ?_
 conv=>whnf
 refine Side.mk ⟨rfl,trivial⟩ ?_
 conv=>whnf
 refine ⟨_,map_at he110,?_⟩
 conv=>whnf
 refine Nf.mk (List.map c_api_Trace (List.set y94 i95.toNat e107)) (set_map rfl) ?_
 conv=>whnf
 obtain ⟨c111,h⟩:=chk_some h
 refine Arith.mk c111 ?_
 conv=>whnf
 obtain ⟨c112,h⟩:=chk_some h
 refine Arith.mk c112 ?_
 conv=>whnf
 cases h
 exact Nxt.mk _ ho105 (eA [(64,some 64)])
 replace h:=cond_f b109 h
 conv=>whnf
 obtain ⟨c113,h⟩:=chk_some h
 refine Arith.mk c113 ?_
 conv=>whnf
 cases h
 exact Nxt.mk _ ho105 (eA [(64,some 64)])
 obtain ⟨h,b106d⟩:=cfd b106 h
 conv=>whnf
 cases h
 have ho105:_=_:=ho105
 cases ho105
 exact Join.mk (eA [(64,some 64)])
 replace h:slices_DeleteFunc_Sapi_Trace_api_Trace_n1.k3 y84 i85=some _:=hk54
 unfold slices_DeleteFunc_Sapi_Trace_api_Trace_n1.k3 at h
 obtain ⟨z115,_⟩:=hp
 conv=>whnf
 obtain ⟨c116,h⟩:=chk_some h
 refine Side.mk ⟨rfl,c116.1,by have hh_:=c116;simp only [List.length_map];omega,by have hh_:=c116;simp only [List.length_map];omega⟩ ?_
 conv=>whnf
 obtain ⟨c117,h⟩:=chk_some h
 refine Side.mk ⟨rfl,by have hh_:=c117;simp only [List.length_map];omega⟩ ?_
 conv=>whnf
 refine Nf.mk (List.map c_api_Trace (List.take (Int.toNat i85) y84++List.replicate (List.length y84-(Int.toNat i85)) (⟨[],[]⟩:T_api_Trace))) (clr_map (z:=(⟨[],[]⟩:T_api_Trace)) rfl) ?_
 conv=>whnf
 obtain ⟨c118,h⟩:=chk_some h
 refine Side.mk ⟨rfl,c118.1,by have hh_:=c118;simp only [List.length_map];omega,by have hh_:=c118;simp only [List.length_map];omega⟩ ?_
 conv=>whnf
 refine Nf.mk (List.map c_api_Trace (List.take (Int.toNat i85) (List.take (Int.toNat i85) y84++List.replicate (List.length y84-(Int.toNat i85)) (⟨[],[]⟩:T_api_Trace)))) cut_own ?_
 conv=>whnf
 cases h
 conv=>whnf
 exact Side.mk ⟨rfl,trivial⟩ ⟨rfl,rfl⟩
theorem sp_cmp_isNaN_int (x_:Int) (r:Bool) (h:Ok (nI x_)→cmp_isNaN_int x_=some r):Sp Tryz.prog 138 [.im (nI x_)] (.im (nB r)):=by
 refine sp_of rfl [] rfl rfl rfl (Nat.le_of_ble_eq_true rfl) rfl fun hk=>?_
 replace h:=h hk.1
 unfold cmp_isNaN_int at h
 conv=>whnf
 cases h
 conv=>whnf
 exact ⟨rfl,rfl⟩
theorem sp_cmp_Compare_int (x_:Int) (y_:Int) (r:Int) (h:Ok (nI x_)→Ok (nI y_)→cmp_Compare_int x_ y_=some r):Sp Tryz.prog 120 [.im (nI x_),.im (nI y_)] (.im (nI r)):=by
 refine sp_of rfl [] rfl rfl rfl (Nat.le_of_ble_eq_true rfl) rfl fun hk=>?_
 replace h:=h hk.1 hk.2.1
 unfold cmp_Compare_int at h
 conv=>whnf
 obtain ⟨c51,hc51,h⟩:=bind_some h
 refine ⟨_,(sp_cmp_isNaN_int x_ c51 (fun _=>hc51)),?_⟩
 conv=>whnf
 obtain ⟨c52,hc52,h⟩:=bind_some h
 refine ⟨_,(sp_cmp_isNaN_int y_ c52 (fun _=>hc52)),?_⟩
 conv=>whnf
 refine Both.mk ?_ ?_<;>intro b53
 replace h:=cond_t b53 h
 conv=>whnf
 refine Both.mk ?_ ?_<;>intro b54
 replace h:=cond_t b54 h
 conv=>whnf
 cases h
 conv=>whnf
 exact ⟨rfl,rfl⟩
 replace h:=cond_f b54 h
 conv=>whnf
 cases h
 conv=>whnf
 exact ⟨rfl,rfl⟩
 replace h:=cond_f b53 h
 conv=>whnf
 refine Both.mk ?_ ?_<;>intro b55
 replace h:=cond_t b55 h
 conv=>whnf
 cases h
 conv=>whnf
 exact ⟨rfl,rfl⟩
 replace h:=cond_f b55 h
 conv=>whnf
 refine Both.mk ?_ ?_<;>intro b56
 obtain ⟨h,b56d⟩:=ctd b56 h
 conv=>whnf
 cases h
 conv=>whnf
 exact ⟨rfl,rfl⟩
 obtain ⟨h,b56d⟩:=cfd b56 h
 conv=>whnf
 refine Both.mk ?_ ?_<;>intro b57
 obtain ⟨h,b57d⟩:=ctd b57 h
 conv=>whnf
 cases h
 conv=>whnf
 exact ⟨rfl,rfl⟩
 obtain ⟨h,b57d⟩:=cfd b57 h
 conv=>whnf
 cases h
 conv=>whnf
 exact ⟨rfl,rfl⟩
theorem sp_slices_Compare_Sint_int (s1_:List Int) (s2_:List Int) (r:Int) (h:Ok (nL cI s1_)→Ok (nL cI s2_)→slices_Compare_Sint_int s1_ s2_=some r):Sp Tryz.prog 110 [.im (nL cI s1_),.im (nL cI s2_)] (.im (nI r)):=by
 refine sp_of rfl [] rfl rfl rfl (Nat.le_of_ble_eq_true rfl) rfl fun hk=>?_
 replace h:=h hk.1 hk.2.1
 have z1:lZ s1_:=ok_len hk.1
 have z2:lZ s2_:=ok_len hk.2.1
 unfold slices_Compare_Sint_int at h
 conv=>whnf
 refine Nf.mk (List.length s1_) len_map ?_
 conv=>whnf
 obtain ⟨oc,hc,hk51⟩:=bind_some h
 clear h
 have h:=hc
 clear hc
 refine Cut.mkS oc (Y:=Unit) (fun (_:Unit)=>mkSt [(0,.im (nL cI s1_)),(1,.im (nL cI s2_))] [] []) (fun (_:Unit)=>lZ s1_∧lZ s2_∧True) (by rintro ⟨⟩;exact ((Holds.avl 0 rfl).and ((Holds.avl 1 rfl).and (hT)))) ?_ ?_
 conv=>whnf
 refine Loops.iter (fun (s:Nat)=>slices_Compare_Sint_int.s2 s1_ s2_ s) (fun y80=>mkSt [(0,.im (nL cI s1_)),(1,.im (nL cI s2_)),(9,.im (nL cI s1_)),(10,.im (nI (↑(List.length s1_):Int))),(11,.im (nI (↑y80:Int)))] [] []) (fun y80=>lZ s1_∧lZ s2_∧True) h (eA []) (by rintro y80;exact ((Holds.avl 0 rfl).and ((Holds.avl 1 rfl).and (hT)))) ?_
 clear h
 rintro k y80 o hp h ho87
 replace h:slices_Compare_Sint_int.s2 s1_ s2_ y80=some o:=h
 unfold slices_Compare_Sint_int.s2 at h
 obtain ⟨z94,z95,_⟩:=hp
 conv=>whnf
 refine Both.mk ?_ ?_<;>intro b88
 obtain ⟨h,b88d⟩:=ctd b88 h
 conv=>whnf
 obtain ⟨e89,he89,h⟩:=idxn_some h
 refine ⟨_,⟨(by omega),map_at he89,rfl⟩,?_⟩
 conv=>whnf
 refine Nf.mk (List.length s2_) len_map ?_
 conv=>whnf
 refine Both.mk ?_ ?_<;>intro b90
 obtain ⟨h,b90d⟩:=ctd b90 h
 conv=>whnf
 cases h
 have ho87:_=_:=ho87
 cases ho87
 replace h:some _=some _:=hk51
 cases h
 conv=>whnf
 exact ⟨rfl,rfl⟩
 obtain ⟨h,b90d⟩:=cfd b90 h
 conv=>whnf
 obtain ⟨e91,he91,h⟩:=idxn_some h
 refine ⟨_,⟨(by omega),map_at he91,rfl⟩,?_⟩
 conv=>whnf
 obtain ⟨c92,hc92,h⟩:=bind_some h
 refine ⟨_,(sp_cmp_Compare_int e89 e91 c92 (fun _ _=>hc92)),?_⟩
 conv=>whnf
 refine Both.mk ?_ ?_<;>intro b93
 obtain ⟨h,b93d⟩:=ctd b93 h
 conv=>whnf
 cases h
 have ho87:_=_:=ho87
 cases ho87
 replace h:some _=some _:=hk51
 cases h
 conv=>whnf
 exact ⟨rfl,rfl⟩
 obtain ⟨h,b93d⟩:=cfd b93 h
 conv=>whnf
 refine Arith.mk (by show inR _;unfold inR;omega) ?_
 conv=>whnf
 cases h
 exact Nxt.mk _ ho87 (eA [])
 obtain ⟨h,b88d⟩:=cfd b88 h
 conv=>whnf
 cases h
 have ho87:_=_:=ho87
 cases ho87
 exact JoinS.mk' _ rfl (eA [])
 rintro ⟨⟩ rfl hp
 replace h:=sum_inl hk51
 obtain ⟨z96,z97,_⟩:=hp
 conv=>whnf
 refine Nf.mk (List.length s1_) len_map ?_
 conv=>whnf
 refine Nf.mk (List.length s2_) len_map ?_
 conv=>whnf
 refine Both.mk ?_ ?_<;>intro b98
 obtain ⟨h,b98d⟩:=ctd b98 h
 conv=>whnf
 cases h
 conv=>whnf
 exact ⟨rfl,rfl⟩
 obtain ⟨h,b98d⟩:=cfd b98 h
 conv=>whnf
 cases h
 conv=>whnf
 exact ⟨rfl,rfl⟩
theorem sp_cmp_Or_int (vals_:List Int) (r:Int) (h:Ok (nL cI vals_)→cmp_Or_int vals_=some r):Sp Tryz.prog 121 [.im (nL cI vals_)] (.im (nI r)):=by
 refine sp_of rfl [] rfl rfl rfl (Nat.le_of_ble_eq_true rfl) rfl fun hk=>?_
 replace h:=h hk.1
 have z1:lZ vals_:=ok_len hk.1
 unfold cmp_Or_int at h
 conv=>whnf
 refine Nf.mk (List.length vals_) len_map ?_
 conv=>whnf
 obtain ⟨oc,hc,hk51⟩:=bind_some h
 clear h
 have h:=hc
 clear hc
 refine Cut.mkS oc (Y:=Unit) (fun (_:Unit)=>mkSt [(3,.im (nI 0))] [] []) (fun (_:Unit)=>True) (by rintro ⟨⟩;exact (hT)) ?_ ?_
 conv=>whnf
 refine Loops.iter (fun (s:Nat)=>cmp_Or_int.s2 vals_ s) (fun y67=>mkSt [(3,.im (nI 0)),(6,.im (nL cI vals_)),(7,.im (nI (↑(List.length vals_):Int))),(8,.im (nI (↑y67:Int)))] [] []) (fun y67=>lZ vals_∧True) h (eA []) (by rintro y67;exact ((Holds.avl 6 rfl).and (hT))) ?_
 clear h
 rintro k y67 o hp h ho71
 replace h:cmp_Or_int.s2 vals_ y67=some o:=h
 unfold cmp_Or_int.s2 at h
 obtain ⟨z75,_⟩:=hp
 conv=>whnf
 refine Both.mk ?_ ?_<;>intro b72
 obtain ⟨h,b72d⟩:=ctd b72 h
 conv=>whnf
 obtain ⟨e73,he73,h⟩:=idxn_some h
 refine ⟨_,⟨(by omega),map_at he73,rfl⟩,?_⟩
 conv=>whnf
 refine Both.mk ?_ ?_<;>intro b74
 obtain ⟨h,b74d⟩:=ctd b74 h
 conv=>whnf
 cases h
 have ho71:_=_:=ho71
 cases ho71
 replace h:some _=some _:=hk51
 cases h
 conv=>whnf
 exact ⟨rfl,rfl⟩
 obtain ⟨h,b74d⟩:=cfd b74 h
 conv=>whnf
 refine Arith.mk (by show inR _;unfold inR;omega) ?_
 conv=>whnf
 cases h
 exact Nxt.mk _ ho71 (eA [])
 obtain ⟨h,b72d⟩:=cfd b72 h
 conv=>whnf
 cases h
 have ho71:_=_:=ho71
 cases ho71
 exact JoinS.mk' _ rfl (eA [])
 rintro ⟨⟩ rfl hp
 replace h:=sum_inl hk51
 conv=>whnf
 cases h
 conv=>whnf
 exact ⟨rfl,rfl⟩
theorem sp_word_Compare (a_:List Int) (b_:List Int) (r:Int) (h:Ok (nL cI a_)→Ok (nL cI b_)→word_Compare a_ b_=some r):Sp Tryz.prog 111 [.im (nL cI a_),.im (nL cI b_)] (.im (nI r)):=by
 refine sp_of rfl [] rfl rfl rfl (Nat.le_of_ble_eq_true rfl) rfl fun hk=>?_
 replace h:=h hk.1 hk.2.1
 have z1:lZ a_:=ok_len hk.1
 have z2:lZ b_:=ok_len hk.2.1
 unfold word_Compare at h
 conv=>whnf
 refine Nf.mk (List.length a_) len_map ?_
 conv=>whnf
 refine Nf.mk (List.length b_) len_map ?_
 conv=>whnf
 obtain ⟨c51,hc51,h⟩:=bind_some h
 refine ⟨_,(sp_cmp_Compare_int (↑(List.length a_):Int) (↑(List.length b_):Int) c51 (fun _ _=>hc51)),?_⟩
 conv=>whnf
 obtain ⟨c52,hc52,h⟩:=bind_some h
 refine ⟨_,(sp_slices_Compare_Sint_int a_ b_ c52 (fun _ _=>hc52)),?_⟩
 conv=>whnf
 obtain ⟨c53,hc53,h⟩:=bind_some h
 refine ⟨_,(sp_cmp_Or_int [c51,c52] c53 (fun _=>hc53)),?_⟩
 conv=>whnf
 cases h
 conv=>whnf
 exact ⟨rfl,rfl⟩
theorem sp_observe_order (a_:T_api_Trace) (b_:T_api_Trace) (r:Int) (h:Ok (.agg (c_api_Trace a_))→Ok (.agg (c_api_Trace b_))→observe_order a_ b_=some r):Sp Tryz.prog 103 [.im (.agg (c_api_Trace a_)),.im (.agg (c_api_Trace b_))] (.im (nI r)):=by
 refine sp_of rfl [700002,700003] rfl rfl rfl (Nat.le_of_ble_eq_true rfl) rfl fun hk=>?_
 replace h:=h hk.1 hk.2.1
 have z1:lZ a_.In:=ok_len (Ok.agg_at hk.1 0 rfl)
 have z2:lZ a_.Out:=ok_len (Ok.agg_at hk.1 1 rfl)
 have z3:lZ b_.In:=ok_len (Ok.agg_at hk.2.1 0 rfl)
 have z4:lZ b_.Out:=ok_len (Ok.agg_at hk.2.1 1 rfl)
 unfold observe_order at h
 conv=>whnf
 obtain ⟨c51,hc51,h⟩:=bind_some h
 refine ⟨_,(sp_word_Compare a_.In b_.In c51 (fun _ _=>hc51)),?_⟩
 conv=>whnf
 cases h
 conv=>whnf
 exact ⟨rfl,rfl⟩
theorem sp_observe_add (l_:List T_api_Trace) (t_:T_api_Trace) (r:List T_api_Trace×Int) (h:OkL (List.map c_api_Trace l_)→Ok (.agg (c_api_Trace t_))→observe_add l_ t_=some r):Sp Tryz.prog 85 [.row 72 2 (List.map c_api_Trace l_),.im (.agg (c_api_Trace t_))] (.mk true [.ow (.row 72 2 (List.map c_api_Trace r.1)),.im (nI r.2)] []):=by
 refine sp_of rfl [54,41000,56000,56002,500047,700003] rfl rfl rfl (Nat.le_of_ble_eq_true rfl) rfl fun hk=>?_
 replace h:=h hk.1 hk.2.1
 have z1:lZ l_:=okl_len hk.1
 have z2:lZ t_.In:=ok_len (Ok.agg_at hk.2.1 0 rfl)
 have z3:lZ t_.Out:=ok_len (Ok.agg_at hk.2.1 1 rfl)
 unfold observe_add at h
 conv=>whnf
 refine Side.mk rfl ?_
 conv=>whnf
 refine Nf.mk (List.length l_) len_map ?_
 conv=>whnf
 obtain ⟨oc,hc,hk51⟩:=bind_some h
 clear h
 have h:=hc
 clear hc
 refine Cut.mkS oc (Y:=Bool) (fun inside73=>mkSt [(0,.osl 64 1),(3,.im (.ref (c_api_Trace t_))),(6,.im (nB inside73))] [(64,.row 72 2 (List.map c_api_Trace l_))] []) (fun inside73=>lZ l_∧True) (by rintro inside73;exact ((Holds.kdl 64 rfl).and (hT))) ?_ ?_
 conv=>whnf
 refine Loops.iter (fun (s:Bool×Nat)=>observe_add.s2 l_ t_ s.1 s.2) (fun (inside79,y80)=>mkSt [(0,.osl 64 1),(3,.im (.ref (c_api_Trace t_))),(6,.im (nB inside79)),(11,.osl 64 1),(12,.im (nI (↑(List.length l_):Int))),(13,.im (nI (↑y80:Int)))] [(64,.row 72 2 (List.map c_api_Trace l_))] []) (fun (inside79,y80)=>lZ l_∧True) h (eA [(64,some 0)]) (by rintro ⟨inside79,y80⟩;exact ((Holds.kdl 64 rfl).and (hT))) ?_
 clear h
 rintro k ⟨inside79,y80⟩ o hp h ho87
 replace h:observe_add.s2 l_ t_ inside79 y80=some o:=h
 unfold observe_add.s2 at h
 obtain ⟨z94,_⟩:=hp
 conv=>whnf
 refine Both.mk ?_ ?_<;>intro b88
 obtain ⟨h,b88d⟩:=ctd b88 h
 conv=>whnf
 obtain ⟨e89,he89,h⟩:=idxn_some h
 refine Side.mk ⟨(by omega),rfl,map_lt he89⟩ ?_
 conv=>whnf
 refine ⟨_,⟨rfl,map_at he89,of_decide_eq_true rfl,rfl⟩,?_⟩
 conv=>whnf
 refine Side.mk rfl ?_
 conv=>whnf
 refine Side.mk rfl ?_
 conv=>whnf
 obtain ⟨c90,hc90,h⟩:=bind_some h
 refine ⟨_,(sp_observe_differ e89 t_ c90 (fun _ _=>hc90)),?_⟩
 conv=>whnf
 refine Both.mk ?_ ?_<;>intro b91
 obtain ⟨h,b91d⟩:=ctd b91 h
 conv=>whnf
 cases h
 have ho87:_=_:=ho87
 cases ho87
 replace h:some _=some _:=hk51
 cases h
 conv=>whnf
 exact ⟨rfl,rfl⟩
 obtain ⟨h,b91d⟩:=cfd b91 h
 conv=>whnf
 refine Both.mk ?_ ?_<;>intro b92
 replace b92:=beq_ff b92
 replace h:=cond_f b92 h
 conv=>whnf
 refine Side.mk rfl ?_
 conv=>whnf
 refine Both.yes (ff_beq b92) ?_
 conv=>whnf
 refine Side.mk rfl ?_
 conv=>whnf
 iterate 3 (refine Both.yes (ff_beq b92) ?_;(conv=>whnf))
 obtain ⟨c93,hc93,h⟩:=bind_some h
 refine ⟨_,(sp_word_HasPrefix e89.In t_.In c93 (fun _ _=>hc93)),?_⟩
 conv=>whnf
 refine Both.no b92 ?_
 conv=>whnf
 refine Arith.mk (by show inR _;unfold inR;omega) ?_
 conv=>whnf
 cases h
 exact Nxt.mk _ ho87 (eA [(64,some 64)])
 replace b92:=beq_ft b92
 replace h:=cond_t b92 h
 conv=>whnf
 iterate 4 (refine Both.no (tf_beq b92) ?_;(conv=>whnf))
 refine Both.yes b92 ?_
 conv=>whnf
 refine Arith.mk (by show inR _;unfold inR;omega) ?_
 conv=>whnf
 cases h
 exact Nxt.mk _ ho87 (eA [(64,some 64)])
 obtain ⟨h,b88d⟩:=cfd b88 h
 conv=>whnf
 cases h
 have ho87:_=_:=ho87
 cases ho87
 exact JoinS.mk' _ rfl (eA [(64,some 64)])
 rintro inside73 rfl hp
 replace h:=sum_inl hk51
 obtain ⟨z95,_⟩:=hp
 conv=>whnf
 obtain ⟨y99,hc,hk97⟩:=bind_some h
 clear h
 have h:=hc
 clear hc
 refine Cut.mk (mkSt [(0,.osl 64 1),(3,.im (.ref (c_api_Trace t_))),(36,.im (nB y99))] [(64,.row 72 2 (List.map c_api_Trace l_))] []) (lZ l_∧True) ((Holds.kdl 64 rfl).and (hT)) ?_ (fun hp=>?_)
 conv=>whnf
 refine Both.mk ?_ ?_<;>intro b100
 replace b100:=beq_ff b100
 replace h:=cond_f b100 h
 conv=>whnf
 iterate 2 (refine Both.yes (ff_beq b100) ?_;(conv=>whnf))
 refine Nf.mk (List.length t_.In) len_map ?_
 conv=>whnf
 refine Both.yes (ff_beq b100) ?_
 conv=>whnf
 refine Both.no b100 ?_
 conv=>whnf
 cases h
 exact Join.mk (eA [(64,some 64)])
 replace b100:=beq_ft b100
 replace h:=cond_t b100 h
 conv=>whnf
 iterate 3 (refine Both.no (tf_beq b100) ?_;(conv=>whnf))
 refine Both.yes b100 ?_
 conv=>whnf
 cases h
 exact Join.mk (eA [(64,some 64)])
 replace h:=hk97
 obtain ⟨z101,_⟩:=hp
 conv=>whnf
 refine Both.mk ?_ ?_<;>intro b102
 replace h:=cond_t b102 h
 conv=>whnf
 cases h
 conv=>whnf
 exact Side.mk ⟨rfl,trivial⟩ ⟨rfl,rfl⟩
 replace h:=cond_f b102 h
 conv=>whnf
 refine Side.mk ⟨rfl,trivial⟩ ?_
 conv=>whnf
 obtain ⟨c103,hc103,h⟩:=bind_some h
 refine ⟨_,(sp_slices_DeleteFunc_Sapi_Trace_api_Trace_n1 l_ (fun u0=>observe_add_1 u0 t_) 101 (.ref (c_api_Trace t_)) rfl (fun u0 r h=>(sp_observe_add_1 u0 t_ r (fun _ _=>h))) c103 (fun _ _=>hc103)),?_⟩
 conv=>whnf
 refine Side.mk rfl ?_
 conv=>whnf
 refine Nf.mk (List.length c103) len_map ?_
 conv=>whnf
 refine Both.mk ?_ ?_<;>intro b104
 obtain ⟨h,b104d⟩:=ctd b104 h
 conv=>whnf
 cases h
 conv=>whnf
 exact ⟨rfl,rfl⟩
 obtain ⟨h,b104d⟩:=cfd b104 h
 conv=>whnf
 refine Side.mk ⟨rfl,trivial⟩ ?_
 conv=>whnf
 obtain ⟨c105,hc105,h⟩:=bind_some h
 refine ⟨_,(sp_slices_BinarySearchFunc_Sapi_Trace_api_Trace_api_Trace c103 t_ (fun u0 u1=>observe_order u0 u1) 103 (fun u0 u1 r h=>(sp_observe_order u0 u1 r (fun _ _=>h))) c105 (fun _ _ _=>hc105)),?_⟩
 conv=>whnf
 refine Side.mk (by simp [flatRs,flatOc]) ?_
 conv=>whnf
 obtain ⟨c106,hc106,h⟩:=bind_some h
 refine ⟨_,(sp_observe_copied t_ c106 (fun _=>hc106)),?_⟩
 conv=>whnf
 refine Side.mk ⟨rfl,rfl,trivial⟩ ?_
 conv=>whnf
 obtain ⟨c107,hc107,h⟩:=bind_some h
 refine ⟨_,(sp_lib_Insert_traces c103 c105.1 [c106] c107 (hc107)),?_⟩
 conv=>whnf
 cases h
 conv=>whnf
 exact Side.mk ⟨rfl,trivial⟩ ⟨rfl,rfl⟩
theorem sp_observe_proper_1 (o_:Int) (r:Bool) (h:Ok (nI o_)→observe_proper_1 o_=some r):Sp Tryz.prog 98 [.im (nI o_)] (.im (nB r)):=by
 refine sp_of rfl [] rfl rfl rfl (Nat.le_of_ble_eq_true rfl) rfl fun hk=>?_
 replace h:=h hk.1
 unfold observe_proper_1 at h
 conv=>whnf
 obtain ⟨y54,hc,hk52⟩:=bind_some h
 clear h
 have h:=hc
 clear hc
 refine Cut.mk (mkSt [(2,.im (nB y54))] [] []) (True) (hT) ?_ (fun hp=>?_)
 conv=>whnf
 refine Both.mk ?_ ?_<;>intro b55
 replace b55:=beq_ff b55
 obtain ⟨h,b55d⟩:=cfd b55 h
 conv=>whnf
 refine Both.yes (ff_beq b55) ?_
 conv=>whnf
 refine Both.no b55 ?_
 conv=>whnf
 cases h
 exact Join.mk (eA [])
 replace b55:=beq_ft b55
 obtain ⟨h,b55d⟩:=ctd b55 h
 conv=>whnf
 refine Both.no (tf_beq b55) ?_
 conv=>whnf
 refine Both.yes b55 ?_
 conv=>whnf
 cases h
 exact Join.mk (eA [])
 replace h:=hk52
 conv=>whnf
 cases h
 conv=>whnf
 exact ⟨rfl,rfl⟩
theorem sp_observe_proper (t_:T_api_Trace) (inputs_:Int) (r:Int) (h:Ok (.agg (c_api_Trace t_))→Ok (nI inputs_)→observe_proper t_ inputs_=some r):Sp Tryz.prog 84 [.im (.agg (c_api_Trace t_)),.im (nI inputs_)] (.im (nI r)):=by
 refine sp_of rfl [700002] rfl rfl rfl (Nat.le_of_ble_eq_true rfl) rfl fun hk=>?_
 replace h:=h hk.1 hk.2.1
 have z1:lZ t_.In:=ok_len (Ok.agg_at hk.1 0 rfl)
 have z2:lZ t_.Out:=ok_len (Ok.agg_at hk.1 1 rfl)
 unfold observe_proper at h
 conv=>whnf
 obtain ⟨c51,hc51,h⟩:=bind_some h
 refine ⟨_,(sp_word_Check t_.In inputs_ c51 (fun _ _=>hc51)),?_⟩
 conv=>whnf
 refine Both.mk ?_ ?_<;>intro b52
 obtain ⟨h,b52d⟩:=ctd b52 h
 conv=>whnf
 cases h
 conv=>whnf
 exact ⟨rfl,rfl⟩
 obtain ⟨h,b52d⟩:=cfd b52 h
 conv=>whnf
 refine Nf.mk (List.length t_.Out) len_map ?_
 conv=>whnf
 refine Nf.mk (List.length t_.In) len_map ?_
 conv=>whnf
 refine Both.mk ?_ ?_<;>intro b53
 obtain ⟨h,b53d⟩:=ctd b53 h
 conv=>whnf
 cases h
 conv=>whnf
 exact ⟨rfl,rfl⟩
 obtain ⟨h,b53d⟩:=cfd b53 h
 conv=>whnf
 obtain ⟨c54,hc54,h⟩:=bind_some h
 refine ⟨_,(sp_slices_ContainsFunc_Sint_int t_.Out (fun u0=>observe_proper_1 u0) 98 (fun u0 r h=>(sp_observe_proper_1 u0 r (fun _=>h))) c54 (fun _ _=>hc54)),?_⟩
 conv=>whnf
 refine Both.mk ?_ ?_<;>intro b55
 replace h:=cond_t b55 h
 conv=>whnf
 cases h
 conv=>whnf
 exact ⟨rfl,rfl⟩
 replace h:=cond_f b55 h
 conv=>whnf
 cases h
 conv=>whnf
 exact ⟨rfl,rfl⟩
theorem sp_observe_all (o_:T_api_Obs) (l_:List T_api_Trace) (r:T_api_Obs×Int) (h:Ok (.agg (c_api_Obs o_))→Ok (nL c_api_Trace l_)→observe_all o_ l_=some r):Sp Tryz.prog 57 [.im (.agg (c_api_Obs o_)),.im (nL c_api_Trace l_)] (.tup [.agg (c_api_Obs r.1),nI r.2]):=by
 refine sp_of rfl [33000,700002] rfl rfl rfl (Nat.le_of_ble_eq_true rfl) rfl fun hk=>?_
 replace h:=h hk.1 hk.2.1
 have z1:lZ o_.Traces:=ok_len (Ok.agg_at hk.1 1 rfl)
 have z2:lZ l_:=ok_len hk.2.1
 unfold observe_all at h
 conv=>whnf
 obtain ⟨c51,hc51,h⟩:=bind_some h
 refine ⟨_,(sp_observe_owned o_.Traces c51 (fun _=>hc51)),?_⟩
 conv=>whnf
 refine Nf.mk (List.length l_) len_map ?_
 conv=>whnf
 obtain ⟨oc,hc,hk52⟩:=bind_some h
 clear h
 have h:=hc
 clear hc
 refine Cut.mkS oc (Y:=List T_api_Trace) (fun y76=>mkSt [(2,.im (.ref (c_api_Obs o_))),(4,.own 64 1 0),(6,.osl 65 1)] [(64,.box 35 2),(65,.row 72 2 (List.map c_api_Trace y76))] [(64,0,.im (nI 0)),(64,1,.im (.val (.slice none 0 0)))]) (fun y76=>lZ y76∧True) (by rintro y76;exact ((Holds.kdl 65 rfl).and (hT))) ?_ ?_
 conv=>whnf
 refine Loops.iter (fun (s:List T_api_Trace×Nat)=>observe_all.s2 o_ l_ s.1 s.2) (fun (y83,y84)=>mkSt [(2,.im (.ref (c_api_Obs o_))),(4,.own 64 1 0),(6,.osl 65 1),(15,.im (nL c_api_Trace l_)),(16,.im (nI (↑(List.length l_):Int))),(17,.im (nI (↑y84:Int)))] [(64,.box 35 2),(65,.row 72 2 (List.map c_api_Trace y83))] [(64,0,.im (nI 0)),(64,1,.im (.val (.slice none 0 0)))]) (fun (y83,y84)=>lZ l_∧lZ y83∧True) h (eA [(64,some 4),(65,some 14)]) (by rintro ⟨y83,y84⟩;exact ((Holds.avl 15 rfl).and ((Holds.kdl 65 rfl).and (hT)))) ?_
 clear h
 rintro k ⟨y83,y84⟩ o hp h ho91
 replace h:observe_all.s2 o_ l_ y83 y84=some o:=h
 unfold observe_all.s2 at h
 obtain ⟨z98,z99,_⟩:=hp
 conv=>whnf
 refine Both.mk ?_ ?_<;>intro b92
 obtain ⟨h,b92d⟩:=ctd b92 h
 conv=>whnf
 obtain ⟨e93,he93,h⟩:=idxn_some h
 refine ⟨_,⟨(by omega),map_at he93,rfl⟩,?_⟩
 conv=>whnf
 refine Side.mk rfl ?_
 conv=>whnf
 refine Side.mk rfl ?_
 conv=>whnf
 obtain ⟨c94,hc94,h⟩:=bind_some h
 refine ⟨_,(sp_observe_proper e93 o_.Inputs c94 (fun _ _=>hc94)),?_⟩
 conv=>whnf
 refine Both.mk ?_ ?_<;>intro b95
 obtain ⟨h,b95d⟩:=ctd b95 h
 conv=>whnf
 refine Side.mk rfl ?_
 conv=>whnf
 cases h
 have ho91:_=_:=ho91
 cases ho91
 replace h:some _=some _:=hk52
 cases h
 conv=>whnf
 refine Side.mk ⟨rfl,trivial⟩ ?_
 conv=>whnf
 exact ⟨rfl,rfl⟩
 obtain ⟨h,b95d⟩:=cfd b95 h
 conv=>whnf
 refine Side.mk rfl ?_
 conv=>whnf
 refine Side.mk ⟨rfl,trivial⟩ ?_
 conv=>whnf
 obtain ⟨c96,hc96,h⟩:=bind_some h
 refine ⟨_,(sp_observe_add y83 e93 c96 (fun _ _=>hc96)),?_⟩
 conv=>whnf
 refine Both.mk ?_ ?_<;>intro b97
 obtain ⟨h,b97d⟩:=ctd b97 h
 conv=>whnf
 refine Side.mk rfl ?_
 conv=>whnf
 cases h
 have ho91:_=_:=ho91
 cases ho91
 replace h:some _=some _:=hk52
 cases h
 conv=>whnf
 refine Side.mk ⟨rfl,trivial⟩ ?_
 conv=>whnf
 exact ⟨rfl,rfl⟩
 obtain ⟨h,b97d⟩:=cfd b97 h
 conv=>whnf
 refine Arith.mk (by show inR _;unfold inR;omega) ?_
 conv=>whnf
 cases h
 exact Nxt.mk _ ho91 (eA [(64,some 64),(65,some 3228)])
 obtain ⟨h,b92d⟩:=cfd b92 h
 conv=>whnf
 cases h
 have ho91:_=_:=ho91
 cases ho91
 exact JoinS.mk' _ rfl (eA [(64,some 64),(65,some 65)])
 rintro y76 rfl hp
 replace h:=sum_inl hk52
 obtain ⟨z100,_⟩:=hp
 conv=>whnf
 refine Side.mk rfl ?_
 conv=>whnf
 cases h
 conv=>whnf
 refine Side.mk ⟨rfl,trivial⟩ ?_
 conv=>whnf
 exact Side.mk ⟨rfl,trivial⟩ ⟨rfl,rfl⟩
theorem sp_observe_Add (o_:T_api_Obs) (t_:T_api_Trace) (r:T_api_Obs×Int) (h:Ok (.agg (c_api_Obs o_))→Ok (.agg (c_api_Trace t_))→observe_Add o_ t_=some r):Sp Tryz.prog 26 [.im (.agg (c_api_Obs o_)),.im (.agg (c_api_Trace t_))] (.tup [.agg (c_api_Obs r.1),nI r.2]):=by
 refine sp_of rfl [700002,700003] rfl rfl rfl (Nat.le_of_ble_eq_true rfl) rfl fun hk=>?_
 replace h:=h hk.1 hk.2.1
 have z1:lZ o_.Traces:=ok_len (Ok.agg_at hk.1 1 rfl)
 have z2:lZ t_.In:=ok_len (Ok.agg_at hk.2.1 0 rfl)
 have z3:lZ t_.Out:=ok_len (Ok.agg_at hk.2.1 1 rfl)
 unfold observe_Add at h
 conv=>whnf
 obtain ⟨c51,hc51,h⟩:=bind_some h
 refine ⟨_,(sp_observe_all o_ [t_] c51 (fun _ _=>hc51)),?_⟩
 conv=>whnf
 refine Side.mk rfl ?_
 conv=>whnf
 cases h
 conv=>whnf
 refine Side.mk ⟨rfl,trivial⟩ ?_
 conv=>whnf
 exact ⟨rfl,rfl⟩
theorem sp_nondet_Vote_L (l_:List (List Int)) (need_:Int) (r:List Int×Int×List (List Int)) (h:OkL (List.map (cL cI) l_)→Ok (nI need_)→nondet_Vote_L l_ need_=some r):Sp Tryz.prog 25 [.lent (.row 25 1 (List.map (cL cI) l_)),.im (nI need_)] (.mk true [.im (nL cI r.1),.im (nI r.2.1)] [.lent (.row 25 1 (List.map (cL cI) r.2.2))]):=by
 refine sp_of rfl [] rfl rfl rfl (Nat.le_of_ble_eq_true rfl) rfl fun hk=>?_
 replace h:=h hk.1 hk.2.1
 have z1:lZ l_:=okl_len hk.1
 unfold nondet_Vote_L at h
 conv=>whnf
 obtain ⟨y54,hc,hk52⟩:=bind_some h
 clear h
 have h:=hc
 clear hc
 refine Cut.mk (mkSt [(0,.osl 0 0),(1,.im (nI need_)),(15,.im (nB y54))] [(0,.row 25 1 (List.map (cL cI) l_))] []) (lZ l_∧True) ((Holds.kdl 0 rfl).and (hT)) ?_ (fun hp=>?_)
 conv=>whnf
 refine Both.mk ?_ ?_<;>intro b55
 replace b55:=beq_ff b55
 obtain ⟨h,b55d⟩:=cfd b55 h
 conv=>whnf
 refine Both.yes (ff_beq b55) ?_
 conv=>whnf
 refine Both.no b55 ?_
 conv=>whnf
 cases h
 exact Join.mk (eA [(0,some 0)])
 replace b55:=beq_ft b55
 obtain ⟨h,b55d⟩:=ctd b55 h
 conv=>whnf
 refine Both.no (tf_beq b55) ?_
 conv=>whnf
 refine Both.yes b55 ?_
 conv=>whnf
 cases h
 exact Join.mk (eA [(0,some 0)])
 replace h:=hk52
 obtain ⟨z56,_⟩:=hp
 conv=>whnf
 refine Both.mk ?_ ?_<;>intro b57
 replace h:=cond_t b57 h
 conv=>whnf
 cases h
 conv=>whnf
 exact Side.mk ⟨rfl,trivial⟩ ⟨rfl,rfl⟩
 replace h:=cond_f b57 h
 conv=>whnf
 refine Side.mk rfl ?_
 conv=>whnf
 refine Nf.mk (List.length l_) len_map ?_
 conv=>whnf
 obtain ⟨oc,hc,hk58⟩:=bind_some h
 clear h
 have h:=hc
 clear hc
 refine Cut.mkS oc (Y:=Unit) (fun (_:Unit)=>mkSt [(0,.osl 0 0)] [(0,.row 25 1 (List.map (cL cI) l_))] []) (fun (_:Unit)=>lZ l_∧True) (by rintro ⟨⟩;exact ((Holds.kdl 0 rfl).and (hT))) ?_ ?_
 conv=>whnf
 refine Loops.iter (fun (s:(List (ByteArray×Int))×Nat)=>nondet_Vote_L.s2 l_ need_ s.1 s.2) (fun (y87,y88)=>mkSt [(0,.osl 0 0),(1,.im (nI need_)),(6,.osl 65 1),(17,.osl 0 0),(18,.im (nI (↑(List.length l_):Int))),(19,.im (nI (↑y88:Int)))] [(0,.row 25 1 (List.map (cL cI) l_)),(65,.map (mapV wS wI y87))] []) (fun (y87,y88)=>lZ l_∧True) h (eA [(0,some 0),(65,some 16)]) (by rintro ⟨y87,y88⟩;exact ((Holds.kdl 0 rfl).and (hT))) ?_
 clear h
 rintro k ⟨y87,y88⟩ o hp h ho95
 replace h:nondet_Vote_L.s2 l_ need_ y87 y88=some o:=h
 unfold nondet_Vote_L.s2 at h
 obtain ⟨z102,_⟩:=hp
 conv=>whnf
 refine Both.mk ?_ ?_<;>intro b96
 obtain ⟨h,b96d⟩:=ctd b96 h
 conv=>whnf
 obtain ⟨e97,he97,h⟩:=idxn_some h
 refine Side.mk ⟨(by omega),rfl,map_lt he97⟩ ?_
 conv=>whnf
 refine ⟨_,_,⟨rfl,map_at he97,rfl,rfl⟩,?_⟩
 conv=>whnf
 obtain ⟨c98,hc98,h⟩:=bind_some h
 refine ⟨_,(sp_nondet_key e97 c98 (hc98)),?_⟩
 conv=>whnf
 refine Side.mk rfl ?_
 conv=>whnf
 refine ⟨_,find_str _ wI _,?_⟩
 conv=>whnf
 refine Nf.mk (wI ((mget c98 y87).getD 0)) (getD_map rfl _) ?_
 conv=>whnf
 obtain ⟨c99,h⟩:=chk_some h
 refine Arith.mk c99 ?_
 conv=>whnf
 refine Side.mk rfl ?_
 conv=>whnf
 refine ⟨_,set_str _ (((mget c98 y87).getD 0)+1) wI _,?_⟩
 conv=>whnf
 refine Side.mk rfl ?_
 conv=>whnf
 refine ⟨_,find_str _ wI _,?_⟩
 conv=>whnf
 refine Nf.mk (wI ((mget c98 (mset c98 (((mget c98 y87).getD 0)+1) y87)).getD 0)) (getD_map rfl _) ?_
 conv=>whnf
 refine Both.mk ?_ ?_<;>intro b100
 obtain ⟨h,b100d⟩:=ctd b100 h
 conv=>whnf
 obtain ⟨c101,hc101,h⟩:=bind_some h
 refine ⟨_,(sp_lib_Clone_int e97 c101 (hc101)).im,?_⟩
 conv=>whnf
 cases h
 have ho95:_=_:=ho95
 cases ho95
 replace h:some _=some _:=hk58
 cases h
 conv=>whnf
 exact Side.mk ⟨rfl,trivial⟩ ⟨rfl,rfl⟩
 obtain ⟨h,b100d⟩:=cfd b100 h
 conv=>whnf
 refine Arith.mk (by show inR _;unfold inR;omega) ?_
 conv=>whnf
 cases h
 exact Nxt.mk _ ho95 (eA [(0,some 0),(65,some 65)])
 obtain ⟨h,b96d⟩:=cfd b96 h
 conv=>whnf
 cases h
 have ho95:_=_:=ho95
 cases ho95
 exact JoinS.mk' _ rfl (eA [(0,some 0)])
 rintro ⟨⟩ rfl hp
 replace h:=sum_inl hk58
 obtain ⟨z103,_⟩:=hp
 conv=>whnf
 cases h
 conv=>whnf
 exact Side.mk ⟨rfl,trivial⟩ ⟨rfl,rfl⟩
theorem sp_oracle_Ask (q_:T_api_Oracle) (w_:List Int) (r:T_api_Oracle×List Int×Int) (h:Ok (.agg (c_api_Oracle q_))→Ok (nL cI w_)→oracle_Ask q_ w_=some r):Sp Tryz.prog 8 [.im (.agg (c_api_Oracle q_)),.im (nL cI w_)] (.tup [.agg (c_api_Oracle r.1),nL cI r.2.1,nI r.2.2]):=by
 refine sp_of rfl [74000,2074000] rfl rfl rfl (Nat.le_of_ble_eq_true rfl) rfl fun hk=>?_
 replace h:=h hk.1 hk.2.1
 have z1:lZ q_.Device.M.Next:=ok_len (Ok.agg_at hk.1 2 rfl)
 have z2:lZ q_.Device.M.Out:=ok_len (Ok.agg_at hk.1 3 rfl)
 have z3:lZ q_.Device.Latency.Step:=ok_len (Ok.agg_at hk.1 6 rfl)
 have z4:lZ q_.Obs.Traces:=ok_len (Ok.agg_at hk.1 16 rfl)
 have z5:lZ w_:=ok_len hk.2.1
 unfold oracle_Ask at h
 conv=>whnf
 refine Side.mk rfl ?_
 conv=>whnf
 refine Side.mk rfl ?_
 conv=>whnf
 refine Side.mk rfl ?_
 conv=>whnf
 refine Side.mk rfl ?_
 conv=>whnf
 obtain ⟨c51,hc51,h⟩:=bind_some h
 refine ⟨_,(sp_word_Check w_ q_.Device.M.Inputs c51 (fun _ _=>hc51)),?_⟩
 conv=>whnf
 refine Both.mk ?_ ?_<;>intro b52
 obtain ⟨h,b52d⟩:=ctd b52 h
 conv=>whnf
 refine Side.mk rfl ?_
 conv=>whnf
 refine Side.mk rfl ?_
 conv=>whnf
 cases h
 conv=>whnf
 refine Side.mk ⟨rfl,trivial⟩ ?_
 conv=>whnf
 exact ⟨rfl,rfl⟩
 obtain ⟨h,b52d⟩:=cfd b52 h
 conv=>whnf
 refine Side.mk rfl ?_
 conv=>whnf
 obtain ⟨c53,hc53,h⟩:=bind_some h
 refine ⟨_,(sp_oracle_copied q_ c53 (fun _=>hc53)),?_⟩
 conv=>whnf
 refine Side.mk rfl ?_
 conv=>whnf
 refine Side.mk rfl ?_
 conv=>whnf
 refine Side.mk rfl ?_
 conv=>whnf
 obtain ⟨c54,hc54,h⟩:=bind_some h
 refine ⟨_,(sp_observe_Answer c53.Obs w_ c54 (fun _ _=>hc54)),?_⟩
 conv=>whnf
 refine Both.mk ?_ ?_<;>intro b55
 replace h:=cond_t b55 h
 conv=>whnf
 refine Side.mk rfl ?_
 conv=>whnf
 refine Side.mk rfl ?_
 conv=>whnf
 refine Arith.wr _ (mdI_eq _) ?_
 conv=>whnf
 refine Side.mk rfl ?_
 conv=>whnf
 refine Side.mk rfl ?_
 conv=>whnf
 refine Side.mk rfl ?_
 conv=>whnf
 obtain ⟨c56,hc56,h⟩:=bind_some h
 refine ⟨_,(sp_lib_Clone_int c54.1 c56 (hc56)).im,?_⟩
 conv=>whnf
 refine Side.mk rfl ?_
 conv=>whnf
 cases h
 conv=>whnf
 refine Side.mk ⟨rfl,trivial⟩ ?_
 conv=>whnf
 exact ⟨rfl,rfl⟩
 replace h:=cond_f b55 h
 conv=>whnf
 refine Side.mk rfl ?_
 conv=>whnf
 refine Side.mk rfl ?_
 conv=>whnf
 obtain ⟨⟨y252,y253,y254,y255,y256,y257,y258,y259,y260,y261,y262,y263,y264,y265,y266,y267,answer268,code269⟩,hc,hk57⟩:=bind_some h
 clear h
 have h:=hc
 clear hc
 refine Cut.mk (mkSt [(1,.im (nL cI w_)),(2,.own 103 1 0),(4,.own 104 1 0),(11,.im (nL cI answer268)),(12,.im (nI code269))] [(103,.box 37 21),(104,.box 37 21)] [(103,0,.im (nI y252)),(103,1,.im (nI y253)),(103,2,.im (nL (cL cI) y254)),(103,3,.im (nL (cL cI) y255)),(103,4,.im (nI y256)),(103,5,.im (nB y257)),(103,6,.im (nL cI y258)),(103,7,.im (nI y259)),(103,8,.im (nI y260)),(103,9,.im (nI y261)),(103,10,.im (nI y262)),(103,11,.im (nU y263)),(103,12,.im (nI y264)),(103,13,.im (nI y265)),(103,14,.im (nI y266)),(103,15,.im (nI c53.Obs.Inputs)),(103,16,.im (nL c_api_Trace c53.Obs.Traces)),(103,17,.im (nI c53.Votes)),(103,18,.im (nI c53.Tries)),(103,19,.im (nI y267)),(103,20,.im (nI c53.Hits)),(104,0,.im (nI 0)),(104,1,.im (nI 0)),(104,2,.im (.val (.slice none 0 0))),(104,3,.im (.val (.slice none 0 0))),(104,4,.im (nI 0)),(104,5,.im (nB false)),(104,6,.im (.val (.slice none 0 0))),(104,7,.im (nI 0)),(104,8,.im (nI 0)),(104,9,.im (nI 0)),(104,10,.im (nI 0)),(104,11,.im (nU 0)),(104,12,.im (nI 0)),(104,13,.im (nI 0)),(104,14,.im (nI 0)),(104,15,.im (nI 0)),(104,16,.im (.val (.slice none 0 0))),(104,17,.im (nI 0)),(104,18,.im (nI 0)),(104,19,.im (nI 0)),(104,20,.im (nI 0))]) (lZ w_∧lZ answer268∧lZ y254∧lZ y255∧lZ y258∧lZ c53.Obs.Traces∧True) ((Holds.avl 1 rfl).and ((Holds.avl 11 rfl).and ((Holds.cel 103 2 rfl (by decide) rfl).and ((Holds.cel 103 3 rfl (by decide) rfl).and ((Holds.cel 103 6 rfl (by decide) rfl).and ((Holds.cel 103 16 rfl (by decide) rfl).and (hT))))))) ?_ (fun hp=>?_)
 conv=>whnf
 refine Loops.iter (fun (s:Int×Int×List (List Int)×List (List Int)×Int×Bool×List Int×Int×Int×Int×Int×Int×Int×Int×Int×Int×List (List Int)×List Int×Int×Int)=>oracle_Ask.s10 w_ c53 s.1 s.2.1 s.2.2.1 s.2.2.2.1 s.2.2.2.2.1 s.2.2.2.2.2.1 s.2.2.2.2.2.2.1 s.2.2.2.2.2.2.2.1 s.2.2.2.2.2.2.2.2.1 s.2.2.2.2.2.2.2.2.2.1 s.2.2.2.2.2.2.2.2.2.2.1 s.2.2.2.2.2.2.2.2.2.2.2.1 s.2.2.2.2.2.2.2.2.2.2.2.2.1 s.2.2.2.2.2.2.2.2.2.2.2.2.2.1 s.2.2.2.2.2.2.2.2.2.2.2.2.2.2.1 s.2.2.2.2.2.2.2.2.2.2.2.2.2.2.2.1 s.2.2.2.2.2.2.2.2.2.2.2.2.2.2.2.2.1 s.2.2.2.2.2.2.2.2.2.2.2.2.2.2.2.2.2.1 s.2.2.2.2.2.2.2.2.2.2.2.2.2.2.2.2.2.2.1 s.2.2.2.2.2.2.2.2.2.2.2.2.2.2.2.2.2.2.2) (fun (y362,y363,y364,y365,y366,y367,y368,y369,y370,y371,y372,y373,y374,y375,y376,y377,y378,answer379,code380,y381)=>mkSt [(1,.im (nL cI w_)),(2,.own 103 1 0),(4,.own 104 1 0),(10,.osl 105 1),(11,.im (nL cI answer379)),(12,.im (nI code380)),(46,.im (nI c53.Tries)),(47,.im (nI y381))] [(103,.box 37 21),(104,.box 37 21),(105,.row 25 1 (List.map (cL cI) y378))] [(103,0,.im (nI y362)),(103,1,.im (nI y363)),(103,2,.im (nL (cL cI) y364)),(103,3,.im (nL (cL cI) y365)),(103,4,.im (nI y366)),(103,5,.im (nB y367)),(103,6,.im (nL cI y368)),(103,7,.im (nI y369)),(103,8,.im (nI y370)),(103,9,.im (nI y371)),(103,10,.im (nI y372)),(103,11,.im (nU y373)),(103,12,.im (nI y374)),(103,13,.im (nI y375)),(103,14,.im (nI y376)),(103,15,.im (nI c53.Obs.Inputs)),(103,16,.im (nL c_api_Trace c53.Obs.Traces)),(103,17,.im (nI c53.Votes)),(103,18,.im (nI c53.Tries)),(103,19,.im (nI y377)),(103,20,.im (nI c53.Hits)),(104,0,.im (nI 0)),(104,1,.im (nI 0)),(104,2,.im (.val (.slice none 0 0))),(104,3,.im (.val (.slice none 0 0))),(104,4,.im (nI 0)),(104,5,.im (nB false)),(104,6,.im (.val (.slice none 0 0))),(104,7,.im (nI 0)),(104,8,.im (nI 0)),(104,9,.im (nI 0)),(104,10,.im (nI 0)),(104,11,.im (nU 0)),(104,12,.im (nI 0)),(104,13,.im (nI 0)),(104,14,.im (nI 0)),(104,15,.im (nI 0)),(104,16,.im (.val (.slice none 0 0))),(104,17,.im (nI 0)),(104,18,.im (nI 0)),(104,19,.im (nI 0)),(104,20,.im (nI 0))]) (fun (y362,y363,y364,y365,y366,y367,y368,y369,y370,y371,y372,y373,y374,y375,y376,y377,y378,answer379,code380,y381)=>lZ w_∧lZ answer379∧lZ y364∧lZ y365∧lZ y368∧lZ c53.Obs.Traces∧lZ y378∧True) h (Ent.mk [(103,some 2),(104,some 4),(105,none)] rfl ⟨eI rfl rfl,⟨.own 2 _ 0,rfl,.own rfl rfl rfl⟩,⟨.own 4 _ 0,rfl,.own rfl rfl rfl⟩,⟨.im (.val (.slice none 0 0)),rfl,.made rfl rfl⟩,⟨.im (.val (.slice none 0 0)),rfl,.im (Sub.nz' rfl)⟩,eI rfl rfl,eI rfl rfl,eI rfl rfl,trivial⟩ ⟨.inl ⟨2,rfl,rfl,trivial⟩,.inl ⟨4,rfl,rfl,trivial⟩,.inr ⟨rfl,rfl,.inl ⟨_,_,rfl,by decide⟩⟩,trivial⟩ ⟨⟨2,.im _,rfl,rfl,.im (Sub.rfl' rfl)⟩,⟨2,.im _,rfl,rfl,.im (Sub.rfl' rfl)⟩,⟨2,.im _,rfl,rfl,.im (Sub.rfl' rfl)⟩,⟨2,.im _,rfl,rfl,.im (Sub.rfl' rfl)⟩,⟨2,.im _,rfl,rfl,.im (Sub.rfl' rfl)⟩,⟨2,.im _,rfl,rfl,.im (Sub.rfl' rfl)⟩,⟨2,.im _,rfl,rfl,.im (Sub.rfl' rfl)⟩,⟨2,.im _,rfl,rfl,.im (Sub.rfl' rfl)⟩,⟨2,.im _,rfl,rfl,.im (Sub.rfl' rfl)⟩,⟨2,.im _,rfl,rfl,.im (Sub.rfl' rfl)⟩,⟨2,.im _,rfl,rfl,.im (Sub.rfl' rfl)⟩,⟨2,.im _,rfl,rfl,.im (Sub.rfl' rfl)⟩,⟨2,.im _,rfl,rfl,.im (Sub.rfl' rfl)⟩,⟨2,.im _,rfl,rfl,.im (Sub.rfl' rfl)⟩,⟨2,.im _,rfl,rfl,.im (Sub.rfl' rfl)⟩,⟨2,.im _,rfl,rfl,.im (Sub.rfl' rfl)⟩,⟨2,.im _,rfl,rfl,.im (Sub.rfl' rfl)⟩,⟨2,.im _,rfl,rfl,.im (Sub.rfl' rfl)⟩,⟨2,.im _,rfl,rfl,.im (Sub.rfl' rfl)⟩,⟨2,.im _,rfl,rfl,.im (Sub.rfl' rfl)⟩,⟨2,.im _,rfl,rfl,.im (Sub.rfl' rfl)⟩,⟨4,.im _,rfl,rfl,.im (Sub.rfl' rfl)⟩,⟨4,.im _,rfl,rfl,.im (Sub.rfl' rfl)⟩,⟨4,.im (.val (.slice none 0 0)),rfl,rfl,.im (Sub.rfl' rfl)⟩,⟨4,.im (.val (.slice none 0 0)),rfl,rfl,.im (Sub.rfl' rfl)⟩,⟨4,.im _,rfl,rfl,.im (Sub.rfl' rfl)⟩,⟨4,.im _,rfl,rfl,.im (Sub.rfl' rfl)⟩,⟨4,.im (.val (.slice none 0 0)),rfl,rfl,.im (Sub.rfl' rfl)⟩,⟨4,.im _,rfl,rfl,.im (Sub.rfl' rfl)⟩,⟨4,.im _,rfl,rfl,.im (Sub.rfl' rfl)⟩,⟨4,.im _,rfl,rfl,.im (Sub.rfl' rfl)⟩,⟨4,.im _,rfl,rfl,.im (Sub.rfl' rfl)⟩,⟨4,.im _,rfl,rfl,.im (Sub.rfl' rfl)⟩,⟨4,.im _,rfl,rfl,.im (Sub.rfl' rfl)⟩,⟨4,.im _,rfl,rfl,.im (Sub.rfl' rfl)⟩,⟨4,.im _,rfl,rfl,.im (Sub.rfl' rfl)⟩,⟨4,.im _,rfl,rfl,.im (Sub.rfl' rfl)⟩,⟨4,.im (.val (.slice none 0 0)),rfl,rfl,.im (Sub.rfl' rfl)⟩,⟨4,.im _,rfl,rfl,.im (Sub.rfl' rfl)⟩,⟨4,.im _,rfl,rfl,.im (Sub.rfl' rfl)⟩,⟨4,.im _,rfl,rfl,.im (Sub.rfl' rfl)⟩,⟨4,.im _,rfl,rfl,.im (Sub.rfl' rfl)⟩,trivial⟩) (by rintro ⟨y362,y363,y364,y365,y366,y367,y368,y369,y370,y371,y372,y373,y374,y375,y376,y377,y378,answer379,code380,y381⟩;exact ((Holds.avl 1 rfl).and ((Holds.avl 11 rfl).and ((Holds.cel 103 2 rfl (by decide) rfl).and ((Holds.cel 103 3 rfl (by decide) rfl).and ((Holds.cel 103 6 rfl (by decide) rfl).and ((Holds.cel 103 16 rfl (by decide) rfl).and ((Holds.kdl 105 rfl).and (hT))))))))) ?_
 clear h
 rintro k ⟨y362,y363,y364,y365,y366,y367,y368,y369,y370,y371,y372,y373,y374,y375,y376,y377,y378,answer379,code380,y381⟩ o hp h ho419
 replace h:oracle_Ask.s10 w_ c53 y362 y363 y364 y365 y366 y367 y368 y369 y370 y371 y372 y373 y374 y375 y376 y377 y378 answer379 code380 y381=some o:=h
 unfold oracle_Ask.s10 at h
 obtain ⟨z457,z458,z459,z460,z461,z462,z463,_⟩:=hp
 conv=>whnf
 refine Both.mk ?_ ?_<;>intro b420
 obtain ⟨h,b420d⟩:=ctd b420 h
 conv=>whnf
 obtain ⟨oc,hc,hk421⟩:=bind_some h
 clear h
 have h:=hc
 clear hc
 refine Cut.mkS oc (Y:=Int×Int×List (List Int)×List (List Int)×Int×Bool×List Int×Int×Int×Int×Int×Int×Int×Int×Int×List (List Int)×List Int×Int) (fun (y427,y428,y429,y430,y431,y432,y433,y434,y435,y436,y437,y438,y439,y440,y441,y442,answer443,code444)=>mkSt [(1,.im (nL cI w_)),(2,.own 103 1 0),(4,.own 104 1 0),(10,.osl 105 1),(11,.im (nL cI answer443)),(12,.im (nI code444)),(46,.im (nI c53.Tries)),(47,.im (nI y381))] [(103,.box 37 21),(104,.box 37 21),(105,.row 25 1 (List.map (cL cI) y442))] [(103,0,.im (nI y427)),(103,1,.im (nI y428)),(103,2,.im (nL (cL cI) y429)),(103,3,.im (nL (cL cI) y430)),(103,4,.im (nI y431)),(103,5,.im (nB y432)),(103,6,.im (nL cI y433)),(103,7,.im (nI y434)),(103,8,.im (nI y435)),(103,9,.im (nI y436)),(103,10,.im (nI y437)),(103,11,.im (nU y438)),(103,12,.im (nI y439)),(103,13,.im (nI y440)),(103,14,.im (nI y441)),(103,15,.im (nI c53.Obs.Inputs)),(103,16,.im (nL c_api_Trace c53.Obs.Traces)),(103,17,.im (nI c53.Votes)),(103,18,.im (nI c53.Tries)),(103,19,.im (nI (mdI (y377+1)))),(103,20,.im (nI c53.Hits)),(104,0,.im (nI 0)),(104,1,.im (nI 0)),(104,2,.im (.val (.slice none 0 0))),(104,3,.im (.val (.slice none 0 0))),(104,4,.im (nI 0)),(104,5,.im (nB false)),(104,6,.im (.val (.slice none 0 0))),(104,7,.im (nI 0)),(104,8,.im (nI 0)),(104,9,.im (nI 0)),(104,10,.im (nI 0)),(104,11,.im (nU 0)),(104,12,.im (nI 0)),(104,13,.im (nI 0)),(104,14,.im (nI 0)),(104,15,.im (nI 0)),(104,16,.im (.val (.slice none 0 0))),(104,17,.im (nI 0)),(104,18,.im (nI 0)),(104,19,.im (nI 0)),(104,20,.im (nI 0))]) (fun (y427,y428,y429,y430,y431,y432,y433,y434,y435,y436,y437,y438,y439,y440,y441,y442,answer443,code444)=>lZ w_∧lZ answer443∧lZ y429∧lZ y430∧lZ y433∧lZ c53.Obs.Traces∧lZ y442∧True) (by rintro ⟨y427,y428,y429,y430,y431,y432,y433,y434,y435,y436,y437,y438,y439,y440,y441,y442,answer443,code444⟩;exact ((Holds.avl 1 rfl).and ((Holds.avl 11 rfl).and ((Holds.cel 103 2 rfl (by decide) rfl).and ((Holds.cel 103 3 rfl (by decide) rfl).and ((Holds.cel 103 6 rfl (by decide) rfl).and ((Holds.cel 103 16 rfl (by decide) rfl).and ((Holds.kdl 105 rfl).and (hT))))))))) ?_ ?_
 conv=>whnf
 refine Side.mk rfl ?_
 conv=>whnf
 refine Side.mk rfl ?_
 conv=>whnf
 obtain ⟨c445,hc445,h⟩:=bind_some h
 refine ⟨_,(sp_device_Query (⟨(⟨y362,y363,y364,y365⟩:T_api_Mealy),y366,y367,(⟨y368,y369⟩:T_api_Latency),(⟨y370,y371,y372⟩:T_api_Faults),y373,y374,y375,y376⟩:T_api_Device) w_ c445 (fun _ _=>hc445)),?_⟩
 conv=>whnf
 refine Side.mk rfl ?_
 conv=>whnf
 refine Side.mk rfl ?_
 conv=>whnf
 refine Side.mk rfl ?_
 conv=>whnf
 refine Side.mk rfl ?_
 conv=>whnf
 refine Side.mk rfl ?_
 conv=>whnf
 refine Side.mk rfl ?_
 conv=>whnf
 refine Arith.wr _ (mdI_eq _) ?_
 conv=>whnf
 refine Side.mk rfl ?_
 conv=>whnf
 refine Side.mk rfl ?_
 conv=>whnf
 refine Both.mk ?_ ?_<;>intro b446
 obtain ⟨h,b446d⟩:=ctd b446 h
 conv=>whnf
 cases h
 exact JoinS.mk' _ rfl (eA [(103,some 103),(104,some 104),(105,some 105)])
 obtain ⟨h,b446d⟩:=cfd b446 h
 conv=>whnf
 obtain ⟨c447,h⟩:=chk_some h
 refine Side.mk ⟨rfl,map_len (l:=[c445.2.1]) (c:=cL cI) fun _=>rfl,show capOk _ 24 by simpa only [List.length_map,List.length_cons,List.length_nil,Nat.zero_add] using c447⟩ ?_
 conv=>whnf
 refine Nf.mk (List.map (cL cI) (y378++[c445.2.1])) (app_map (l:=y378) (m:=[c445.2.1]) (c:=cL cI)) ?_
 conv=>whnf
 refine Side.mk rfl ?_
 conv=>whnf
 refine Side.mk rfl ?_
 conv=>whnf
 refine Side.mk ⟨rfl,trivial⟩ ?_
 conv=>whnf
 obtain ⟨c448,hc448,h⟩:=bind_some h
 refine ⟨_,(sp_nondet_Vote_L (y378++[c445.2.1]) c53.Votes c448 (fun _ _=>hc448)),?_⟩
 conv=>whnf
 refine Both.mk ?_ ?_<;>intro b449
 obtain ⟨h,b449d⟩:=ctd b449 h
 conv=>whnf
 cases h
 replace h:some _=some _:=hk421
 cases h
 have ho419:_=_:=ho419
 cases ho419
 exact Join.mk (eA [(103,some 103),(104,some 104)])
 obtain ⟨h,b449d⟩:=cfd b449 h
 conv=>whnf
 cases h
 exact JoinS.mk' _ rfl (eA [(103,some 103),(104,some 104),(105,some 105)])
 rintro ⟨y427,y428,y429,y430,y431,y432,y433,y434,y435,y436,y437,y438,y439,y440,y441,y442,answer443,code444⟩ rfl hp
 have hx_:=sum_inl hk421
 replace h:oracle_Ask.k9 y377 y381 y427 y428 y429 y430 y431 y432 y433 y434 y435 y436 y437 y438 y439 y440 y441 y442 answer443 code444=some _:=hx_
 clear hx_
 unfold oracle_Ask.k9 at h
 obtain ⟨z450,z451,z452,z453,z454,z455,z456,_⟩:=hp
 conv=>whnf
 refine Arith.wr _ (mdI_eq _) ?_
 conv=>whnf
 cases h
 exact Nxt.mk _ ho419 (eA [(103,some 103),(104,some 104),(105,some 105)])
 obtain ⟨h,b420d⟩:=cfd b420 h
 conv=>whnf
 cases h
 have ho419:_=_:=ho419
 cases ho419
 exact Join.mk (eA [(103,some 103),(104,some 104)])
 replace h:oracle_Ask.k11 w_ c53 y252 y253 y254 y255 y256 y257 y258 y259 y260 y261 y262 y263 y264 y265 y266 y267 answer268 code269=some _:=hk57
 unfold oracle_Ask.k11 at h
 obtain ⟨z464,z465,z466,z467,z468,z469,_⟩:=hp
 conv=>whnf
 refine Both.mk ?_ ?_<;>intro b470
 obtain ⟨h,b470d⟩:=ctd b470 h
 conv=>whnf
 refine Side.mk rfl ?_
 conv=>whnf
 refine Side.mk rfl ?_
 conv=>whnf
 cases h
 conv=>whnf
 refine Side.mk ⟨rfl,trivial⟩ ?_
 conv=>whnf
 exact ⟨rfl,rfl⟩
 obtain ⟨h,b470d⟩:=cfd b470 h
 conv=>whnf
 refine Side.mk rfl ?_
 conv=>whnf
 refine Side.mk rfl ?_
 conv=>whnf
 obtain ⟨c471,hc471,h⟩:=bind_some h
 refine ⟨_,(sp_lib_Clone_int w_ c471 (hc471)).im,?_⟩
 conv=>whnf
 obtain ⟨c472,hc472,h⟩:=bind_some h
 refine ⟨_,(sp_lib_Clone_int answer268 c472 (hc472)).im,?_⟩
 conv=>whnf
 obtain ⟨c473,hc473,h⟩:=bind_some h
 refine ⟨_,(sp_observe_Add c53.Obs (⟨c471,c472⟩:T_api_Trace) c473 (fun _ _=>hc473)),?_⟩
 conv=>whnf
 refine Side.mk rfl ?_
 conv=>whnf
 refine Both.mk ?_ ?_<;>intro b474
 obtain ⟨h,b474d⟩:=ctd b474 h
 conv=>whnf
 refine Side.mk rfl ?_
 conv=>whnf
 refine Side.mk rfl ?_
 conv=>whnf
 cases h
 conv=>whnf
 refine Side.mk ⟨rfl,trivial⟩ ?_
 conv=>whnf
 exact ⟨rfl,rfl⟩
 obtain ⟨h,b474d⟩:=cfd b474 h
 conv=>whnf
 refine Side.mk rfl ?_
 conv=>whnf
 refine Side.mk rfl ?_
 conv=>whnf
 refine Side.mk rfl ?_
 conv=>whnf
 refine Side.mk rfl ?_
 conv=>whnf
 obtain ⟨c475,hc475,h⟩:=bind_some h
 refine ⟨_,(sp_lib_Clone_int answer268 c475 (hc475)).im,?_⟩
 conv=>whnf
 refine Side.mk rfl ?_
 conv=>whnf
 cases h
 conv=>whnf
 refine Side.mk ⟨rfl,trivial⟩ ?_
 conv=>whnf
 exact ⟨rfl,rfl⟩
theorem sp_R01_Size (inputs_:Int) (r:Bool) (h:Ok (nI inputs_)→R01_Size inputs_=some r):Sp Tryz.prog 58 [.im (nI inputs_)] (.im (nB r)):=by
 refine sp_of rfl [] rfl rfl rfl (Nat.le_of_ble_eq_true rfl) rfl fun hk=>?_
 replace h:=h hk.1
 unfold R01_Size at h
 conv=>whnf
 obtain ⟨y54,hc,hk52⟩:=bind_some h
 clear h
 have h:=hc
 clear hc
 refine Cut.mk (mkSt [(2,.im (nB y54))] [] []) (True) (hT) ?_ (fun hp=>?_)
 conv=>whnf
 refine Both.mk ?_ ?_<;>intro b55
 replace b55:=beq_tt b55
 obtain ⟨h,b55d⟩:=ctd b55 h
 conv=>whnf
 refine Both.yes (tt_beq b55) ?_
 conv=>whnf
 refine Both.yes b55 ?_
 conv=>whnf
 cases h
 exact Join.mk (eA [])
 replace b55:=beq_tf b55
 obtain ⟨h,b55d⟩:=cfd b55 h
 conv=>whnf
 refine Both.no (ft_beq b55) ?_
 conv=>whnf
 refine Both.no b55 ?_
 conv=>whnf
 cases h
 exact Join.mk (eA [])
 replace h:=hk52
 conv=>whnf
 cases h
 conv=>whnf
 exact ⟨rfl,rfl⟩
theorem sp_R01_Check (w_:List Int) (inputs_:Int) (r:Int) (h:Ok (nL cI w_)→Ok (nI inputs_)→R01_Check w_ inputs_=some r):Sp Tryz.prog 27 [.im (nL cI w_),.im (nI inputs_)] (.im (nI r)):=by
 refine sp_of rfl [] rfl rfl rfl (Nat.le_of_ble_eq_true rfl) rfl fun hk=>?_
 replace h:=h hk.1 hk.2.1
 have z1:lZ w_:=ok_len hk.1
 unfold R01_Check at h
 conv=>whnf
 obtain ⟨c51,hc51,h⟩:=bind_some h
 refine ⟨_,(sp_R01_Size inputs_ c51 (fun _=>hc51)),?_⟩
 conv=>whnf
 refine Both.mk ?_ ?_<;>intro b52
 replace h:=cond_t b52 h
 conv=>whnf
 cases h
 conv=>whnf
 exact ⟨rfl,rfl⟩
 replace h:=cond_f b52 h
 conv=>whnf
 refine Nf.mk (List.length w_) len_map ?_
 conv=>whnf
 refine Both.mk ?_ ?_<;>intro b53
 obtain ⟨h,b53d⟩:=ctd b53 h
 conv=>whnf
 cases h
 conv=>whnf
 exact ⟨rfl,rfl⟩
 obtain ⟨h,b53d⟩:=cfd b53 h
 conv=>whnf
 obtain ⟨oc,hc,hk54⟩:=bind_some h
 clear h
 have h:=hc
 clear hc
 refine Cut.mkS oc (Y:=Unit) (fun (_:Unit)=>mkSt [] [] []) (fun (_:Unit)=>True) (by rintro ⟨⟩;exact (hT)) ?_ ?_
 conv=>whnf
 refine Loops.iter (fun (s:Nat)=>R01_Check.s2 w_ inputs_ s) (fun i106=>mkSt [(0,.im (nL cI w_)),(1,.im (nI inputs_)),(5,.im (nI (↑i106:Int)))] [] []) (fun i106=>lZ w_∧True) h (eA []) (by rintro i106;exact ((Holds.avl 0 rfl).and (hT))) ?_
 clear h
 rintro k i106 o hp h ho119
 replace h:R01_Check.s2 w_ inputs_ i106=some o:=h
 unfold R01_Check.s2 at h
 obtain ⟨z132,_⟩:=hp
 conv=>whnf
 refine Nf.mk (List.length w_) len_map ?_
 conv=>whnf
 refine Both.mk ?_ ?_<;>intro b120
 obtain ⟨h,b120d⟩:=ctd b120 h
 conv=>whnf
 obtain ⟨y126,hc,hk122⟩:=bind_some h
 clear h
 have h:=hc
 clear hc
 refine Cut.mk (mkSt [(0,.im (nL cI w_)),(1,.im (nI inputs_)),(5,.im (nI (↑i106:Int))),(30,.im (nB y126))] [] []) (lZ w_∧True) ((Holds.avl 0 rfl).and (hT)) ?_ (fun hp=>?_)
 conv=>whnf
 obtain ⟨e127,he127,h⟩:=idxn_some h
 refine ⟨_,⟨(by omega),map_at he127,rfl⟩,?_⟩
 conv=>whnf
 refine Both.mk ?_ ?_<;>intro b128
 replace b128:=beq_ff b128
 obtain ⟨h,b128d⟩:=cfd b128 h
 conv=>whnf
 iterate 2 (refine Both.yes (ff_beq b128) ?_;(conv=>whnf))
 obtain ⟨e129,he129,h⟩:=idxn_some h
 refine ⟨_,⟨(by omega),map_at he129,rfl⟩,?_⟩
 conv=>whnf
 iterate 3 (refine Both.yes (ff_beq b128) ?_;(conv=>whnf))
 refine Both.no b128 ?_
 conv=>whnf
 cases h
 exact Join.mk (eA [])
 replace b128:=beq_ft b128
 obtain ⟨h,b128d⟩:=ctd b128 h
 conv=>whnf
 iterate 5 (refine Both.no (tf_beq b128) ?_;(conv=>whnf))
 refine Both.yes b128 ?_
 conv=>whnf
 cases h
 exact Join.mk (eA [])
 replace h:=hk122
 obtain ⟨z130,_⟩:=hp
 conv=>whnf
 refine Both.mk ?_ ?_<;>intro b131
 replace h:=cond_t b131 h
 conv=>whnf
 cases h
 have ho119:_=_:=ho119
 cases ho119
 replace h:some _=some _:=hk54
 cases h
 conv=>whnf
 exact ⟨rfl,rfl⟩
 replace h:=cond_f b131 h
 conv=>whnf
 refine Arith.mk (by show inR _;unfold inR;omega) ?_
 conv=>whnf
 cases h
 exact Nxt.mk _ ho119 (eA [])
 obtain ⟨h,b120d⟩:=cfd b120 h
 conv=>whnf
 cases h
 have ho119:_=_:=ho119
 cases ho119
 exact JoinS.mk' _ rfl (eA [])
 rintro ⟨⟩ rfl hp
 replace h:=sum_inl hk54
 conv=>whnf
 cases h
 conv=>whnf
 exact ⟨rfl,rfl⟩
theorem sp_R01_Common (a_:List Int) (b_:List Int) (r:Int) (h:Ok (nL cI a_)→Ok (nL cI b_)→R01_Common a_ b_=some r):Sp Tryz.prog 86 [.im (nL cI a_),.im (nL cI b_)] (.im (nI r)):=by
 refine sp_of rfl [] rfl rfl rfl (Nat.le_of_ble_eq_true rfl) rfl fun hk=>?_
 replace h:=h hk.1 hk.2.1
 have z1:lZ a_:=ok_len hk.1
 have z2:lZ b_:=ok_len hk.2.1
 unfold R01_Common at h
 conv=>whnf
 obtain ⟨i100,hc,hk51⟩:=bind_some h
 clear h
 have h:=hc
 clear hc
 refine Cut.mk (mkSt [(5,.im (nI (↑i100:Int)))] [] []) (True) (hT) ?_ (fun hp=>?_)
 conv=>whnf
 refine Loops.iter (fun (s:Nat)=>R01_Common.s2 a_ b_ s) (fun i115=>mkSt [(0,.im (nL cI a_)),(1,.im (nL cI b_)),(5,.im (nI (↑i115:Int)))] [] []) (fun i115=>lZ a_∧lZ b_∧True) h (eA []) (by rintro i115;exact ((Holds.avl 0 rfl).and ((Holds.avl 1 rfl).and (hT)))) ?_
 clear h
 rintro k i115 o hp h ho131
 replace h:R01_Common.s2 a_ b_ i115=some o:=h
 unfold R01_Common.s2 at h
 obtain ⟨z147,z148,_⟩:=hp
 conv=>whnf
 obtain ⟨y138,hc,hk133⟩:=bind_some h
 clear h
 have h:=hc
 clear hc
 refine Cut.mk (mkSt [(0,.im (nL cI a_)),(1,.im (nL cI b_)),(5,.im (nI (↑i115:Int))),(26,.im (nB y138))] [] []) (lZ a_∧lZ b_∧True) ((Holds.avl 0 rfl).and ((Holds.avl 1 rfl).and (hT))) ?_ (fun hp=>?_)
 conv=>whnf
 refine Nf.mk (List.length a_) len_map ?_
 conv=>whnf
 refine Both.mk ?_ ?_<;>intro b139
 replace b139:=beq_tt b139
 obtain ⟨h,b139d⟩:=ctd b139 h
 conv=>whnf
 iterate 2 (refine Both.yes (tt_beq b139) ?_;(conv=>whnf))
 refine Nf.mk (List.length b_) len_map ?_
 conv=>whnf
 refine Both.yes (tt_beq b139) ?_
 conv=>whnf
 refine Both.yes b139 ?_
 conv=>whnf
 refine Both.mk ?_ ?_<;>intro b140
 replace b140:=beq_tt b140
 obtain ⟨h,b140d⟩:=ctd b140 h
 conv=>whnf
 iterate 2 (refine Both.yes (tt_beq b140) ?_;(conv=>whnf))
 obtain ⟨e141,he141,h⟩:=idxn_some h
 refine ⟨_,⟨(by omega),map_at he141,rfl⟩,?_⟩
 conv=>whnf
 iterate 4 (refine Both.yes (tt_beq b140) ?_;(conv=>whnf))
 obtain ⟨e142,he142,h⟩:=idxn_some h
 refine ⟨_,⟨(by omega),map_at he142,rfl⟩,?_⟩
 conv=>whnf
 iterate 2 (refine Both.yes (tt_beq b140) ?_;(conv=>whnf))
 refine Both.yes b140 ?_
 conv=>whnf
 cases h
 exact Join.mk (eA [])
 replace b140:=beq_tf b140
 obtain ⟨h,b140d⟩:=cfd b140 h
 conv=>whnf
 iterate 8 (refine Both.no (ft_beq b140) ?_;(conv=>whnf))
 refine Both.no b140 ?_
 conv=>whnf
 cases h
 exact Join.mk (eA [])
 replace b139:=beq_tf b139
 obtain ⟨h,b139d⟩:=cfd b139 h
 conv=>whnf
 iterate 3 (refine Both.no (ft_beq b139) ?_;(conv=>whnf))
 refine Both.no b139 ?_
 conv=>whnf
 iterate 10 (refine Both.no rfl ?_;(conv=>whnf))
 cases h
 exact Join.mk (eA [])
 replace h:=hk133
 obtain ⟨z143,z144,_⟩:=hp
 conv=>whnf
 refine Both.mk ?_ ?_<;>intro b145
 replace h:=cond_t b145 h
 conv=>whnf
 obtain ⟨c146,h⟩:=chk_some h
 refine Arith.mk c146 ?_
 conv=>whnf
 cases h
 exact Nxt.mk _ ho131 (eA [])
 replace h:=cond_f b145 h
 conv=>whnf
 cases h
 have ho131:_=_:=ho131
 cases ho131
 exact Join.mk (eA [])
 replace h:=hk51
 conv=>whnf
 cases h
 conv=>whnf
 exact ⟨rfl,rfl⟩
theorem sp_R01_HasPrefix (w_:List Int) (p_:List Int) (r:Bool) (h:Ok (nL cI w_)→Ok (nL cI p_)→R01_HasPrefix w_ p_=some r):Sp Tryz.prog 59 [.im (nL cI w_),.im (nL cI p_)] (.im (nB r)):=by
 refine sp_of rfl [] rfl rfl rfl (Nat.le_of_ble_eq_true rfl) rfl fun hk=>?_
 replace h:=h hk.1 hk.2.1
 have z1:lZ w_:=ok_len hk.1
 have z2:lZ p_:=ok_len hk.2.1
 unfold R01_HasPrefix at h
 conv=>whnf
 obtain ⟨c51,hc51,h⟩:=bind_some h
 refine ⟨_,(sp_R01_Common w_ p_ c51 (fun _ _=>hc51)),?_⟩
 conv=>whnf
 refine Nf.mk (List.length p_) len_map ?_
 conv=>whnf
 cases h
 conv=>whnf
 exact ⟨rfl,rfl⟩
theorem sp_R01_Join (parts_:List (List Int)) (r:List Int) (h:Ok (nL (cL cI) parts_)→R01_Join parts_=some r):Sp Tryz.prog 60 [.im (nL (cL cI) parts_)] (.row 3 1 (List.map cI r)):=by
 refine sp_of rfl [] rfl rfl rfl (Nat.le_of_ble_eq_true rfl) rfl fun hk=>?_
 replace h:=h hk.1
 have z1:lZ parts_:=ok_len hk.1
 unfold R01_Join at h
 conv=>whnf
 obtain ⟨y66,hc,hk51⟩:=bind_some h
 clear h
 have h:=hc
 clear hc
 refine Cut.mk (mkSt [(3,.osl 64 1)] [(64,.row 3 1 (List.map cI y66))] []) (lZ y66∧True) ((Holds.kdl 64 rfl).and (hT)) ?_ (fun hp=>?_)
 conv=>whnf
 refine Loops.iter (fun (s:List Int×Nat)=>R01_Join.s2 parts_ s.1 s.2) (fun (y70,i71)=>mkSt [(0,.im (nL (cL cI) parts_)),(3,.osl 64 1),(4,.im (nI (↑i71:Int)))] [(64,.row 3 1 (List.map cI y70))] []) (fun (y70,i71)=>lZ parts_∧lZ y70∧True) h (eA [(64,none)]) (by rintro ⟨y70,i71⟩;exact ((Holds.avl 0 rfl).and ((Holds.kdl 64 rfl).and (hT)))) ?_
 clear h
 rintro k ⟨y70,i71⟩ o hp h ho75
 replace h:R01_Join.s2 parts_ y70 i71=some o:=h
 unfold R01_Join.s2 at h
 obtain ⟨z79,z80,_⟩:=hp
 conv=>whnf
 refine Nf.mk (List.length parts_) len_map ?_
 conv=>whnf
 refine Both.mk ?_ ?_<;>intro b76
 obtain ⟨h,b76d⟩:=ctd b76 h
 conv=>whnf
 obtain ⟨e77,he77,h⟩:=idxn_some h
 refine ⟨_,⟨(by omega),map_at he77,rfl⟩,?_⟩
 conv=>whnf
 obtain ⟨c78,h⟩:=chk_some h
 refine Side.mk ⟨rfl,map_len (l:=e77) (c:=cI) fun _=>rfl,show capOk _ 8 by simpa only [List.length_map,List.length_cons,List.length_nil,Nat.zero_add] using c78⟩ ?_
 conv=>whnf
 refine Nf.mk (List.map cI (y70++e77)) (app_map (l:=y70) (m:=e77) (c:=cI)) ?_
 conv=>whnf
 refine Arith.mk (by show inR _;unfold inR;omega) ?_
 conv=>whnf
 cases h
 exact Nxt.mk _ ho75 (eA [(64,some 64)])
 obtain ⟨h,b76d⟩:=cfd b76 h
 conv=>whnf
 cases h
 have ho75:_=_:=ho75
 cases ho75
 exact Join.mk (eA [(64,some 64)])
 replace h:=hk51
 obtain ⟨z81,_⟩:=hp
 conv=>whnf
 cases h
 conv=>whnf
 exact Side.mk ⟨rfl,trivial⟩ ⟨rfl,rfl⟩
theorem sp_R16_Answer (o_:T_api_Obs) (w_:List Int) (r:List Int×Bool) (h:Ok (.agg (c_api_Obs o_))→Ok (nL cI w_)→R16_Answer o_ w_=some r):Sp Tryz.prog 28 [.im (.agg (c_api_Obs o_)),.im (nL cI w_)] (.tup [nL cI r.1,nB r.2]):=by
 refine sp_of rfl [700002] rfl rfl rfl (Nat.le_of_ble_eq_true rfl) rfl fun hk=>?_
 replace h:=h hk.1 hk.2.1
 have z1:lZ o_.Traces:=ok_len (Ok.agg_at hk.1 1 rfl)
 have z2:lZ w_:=ok_len hk.2.1
 unfold R16_Answer at h
 conv=>whnf
 refine Nf.mk (List.length w_) len_map ?_
 conv=>whnf
 refine Both.mk ?_ ?_<;>intro b51
 obtain ⟨h,b51d⟩:=ctd b51 h
 conv=>whnf
 cases h
 conv=>whnf
 exact ⟨rfl,rfl⟩
 obtain ⟨h,b51d⟩:=cfd b51 h
 conv=>whnf
 obtain ⟨oc,hc,hk52⟩:=bind_some h
 clear h
 have h:=hc
 clear hc
 refine Cut.mkS oc (Y:=Unit) (fun (_:Unit)=>mkSt [] [] []) (fun (_:Unit)=>True) (by rintro ⟨⟩;exact (hT)) ?_ ?_
 conv=>whnf
 refine Loops.iter (fun (s:Nat)=>R16_Answer.s2 o_ w_ s) (fun i84=>mkSt [(1,.im (nL cI w_)),(2,.im (.ref (c_api_Obs o_))),(6,.im (nI (↑i84:Int)))] [] []) (fun i84=>lZ w_∧True) h (eA []) (by rintro i84;exact ((Holds.avl 1 rfl).and (hT))) ?_
 clear h
 rintro k i84 o hp h ho92
 replace h:R16_Answer.s2 o_ w_ i84=some o:=h
 unfold R16_Answer.s2 at h
 obtain ⟨z100,_⟩:=hp
 conv=>whnf
 refine Nf.mk (List.length o_.Traces) len_map ?_
 conv=>whnf
 refine Both.mk ?_ ?_<;>intro b93
 obtain ⟨h,b93d⟩:=ctd b93 h
 conv=>whnf
 obtain ⟨e94,he94,h⟩:=idxn_some h
 refine ⟨_,⟨(by omega),map_at he94,rfl⟩,?_⟩
 conv=>whnf
 obtain ⟨c95,hc95,h⟩:=bind_some h
 refine ⟨_,(sp_R01_HasPrefix e94.In w_ c95 (fun _ _=>hc95)),?_⟩
 conv=>whnf
 refine Both.mk ?_ ?_<;>intro b96
 replace h:=cond_t b96 h
 conv=>whnf
 obtain ⟨e97,he97,h⟩:=idxn_some h
 refine ⟨_,⟨(by omega),map_at he97,rfl⟩,?_⟩
 conv=>whnf
 refine Nf.mk (List.length w_) len_map ?_
 conv=>whnf
 obtain ⟨c98,h⟩:=chk_some h
 refine Side.mk (show (0:Int)≤(0:Int)∧(0:Int)≤(↑(List.length w_):Int)∧(↑(List.length w_):Int)≤(↑(List.length (List.map cI e97.Out)):Int)∧(∀ e∈List.map cI e97.Out,List.length e=1) from ⟨by omega,by first | omega | (simp only [List.length_map];omega),by first | omega | (simp only [List.length_map];omega),map_len fun _=>rfl⟩) ?_
 conv=>whnf
 refine Nf.mk (List.map cI (List.take (List.length w_) e97.Out)) take_map ?_
 conv=>whnf
 obtain ⟨c99,hc99,h⟩:=bind_some h
 refine ⟨_,(sp_R01_Join [(List.take (List.length w_) e97.Out)] c99 (fun _=>hc99)).im,?_⟩
 conv=>whnf
 cases h
 have ho92:_=_:=ho92
 cases ho92
 replace h:some _=some _:=hk52
 cases h
 conv=>whnf
 exact ⟨rfl,rfl⟩
 replace h:=cond_f b96 h
 conv=>whnf
 refine Arith.mk (by show inR _;unfold inR;omega) ?_
 conv=>whnf
 cases h
 exact Nxt.mk _ ho92 (eA [])
 obtain ⟨h,b93d⟩:=cfd b93 h
 conv=>whnf
 cases h
 have ho92:_=_:=ho92
 cases ho92
 exact JoinS.mk' _ rfl (eA [])
 rintro ⟨⟩ rfl hp
 replace h:=sum_inl hk52
 conv=>whnf
 cases h
 conv=>whnf
 exact ⟨rfl,rfl⟩
end Go.Proofs.YtajipjnfegmlcaaGreatDoor.Sym
