/-
  The contracts of the functions, read from the code by a program (ext.py): each function has its plain twin as its contract.
-/
import Derived.Test.YtkeplokjplkcmaaGreatM5
set_option linter.all false
namespace Go.Proofs.YtkeplokjplkcmaaGreat.Sym
open Go.RowKit
set_option maxRecDepth 100000
set_option linter.unusedVariables false
set_option maxHeartbeats 4000000
theorem sp_observe_Valid_1 (u_:T_api_Trace) (p1_:T_api_Trace) (r:Bool) (h:Ok (.agg (c_api_Trace u_))→Ok (.ref (c_api_Trace p1_))→observe_Valid_1 u_ p1_=some r):Sp Tryz.prog 115 [.im (.agg (c_api_Trace u_)),.im (.ref (c_api_Trace p1_))] (.im (nB r)):=by
 refine sp_of rfl [700002] rfl rfl rfl (Nat.le_of_ble_eq_true rfl) rfl fun hk=>?_
 replace h:=h hk.1 hk.2.1
 have z1:lZ u_.In:=ok_len (Ok.agg_at hk.1 0 rfl)
 have z2:lZ u_.Out:=ok_len (Ok.agg_at hk.1 1 rfl)
 have z3:lZ p1_.In:=ok_len (Ok.ref_at hk.2.1 0 rfl)
 have z4:lZ p1_.Out:=ok_len (Ok.ref_at hk.2.1 1 rfl)
 unfold observe_Valid_1 at h
 conv=>whnf
 obtain ⟨c51,hc51,h⟩:=bind_some h
 refine ⟨_,(sp_word_HasPrefix u_.In p1_.In c51 (fun _ _=>hc51)),?_⟩
 conv=>whnf
 cases h
 conv=>whnf
 exact ⟨rfl,rfl⟩
theorem sp_observe_Valid_2 (u_:T_api_Trace) (p1_:T_api_Trace) (r:Bool) (h:Ok (.agg (c_api_Trace u_))→Ok (.ref (c_api_Trace p1_))→observe_Valid_2 u_ p1_=some r):Sp Tryz.prog 117 [.im (.agg (c_api_Trace u_)),.im (.ref (c_api_Trace p1_))] (.im (nB r)):=by
 refine sp_of rfl [700002] rfl rfl rfl (Nat.le_of_ble_eq_true rfl) rfl fun hk=>?_
 replace h:=h hk.1 hk.2.1
 have z1:lZ u_.In:=ok_len (Ok.agg_at hk.1 0 rfl)
 have z2:lZ u_.Out:=ok_len (Ok.agg_at hk.1 1 rfl)
 have z3:lZ p1_.In:=ok_len (Ok.ref_at hk.2.1 0 rfl)
 have z4:lZ p1_.Out:=ok_len (Ok.ref_at hk.2.1 1 rfl)
 unfold observe_Valid_2 at h
 conv=>whnf
 obtain ⟨c51,hc51,h⟩:=bind_some h
 refine ⟨_,(sp_observe_differ p1_ u_ c51 (fun _ _=>hc51)),?_⟩
 conv=>whnf
 cases h
 conv=>whnf
 exact ⟨rfl,rfl⟩
theorem sp_slices_IndexFunc_Sapi_Trace_api_Trace_n1 (s_:List T_api_Trace) (f_:T_api_Trace→Option Bool) (f1_:FuncId) (k1_0:IV) (hk1_0:nz k1_0=k1_0) (hf1:∀ x0 r,f_ x0=some r→Sp Tryz.prog f1_ [.im (.agg (c_api_Trace x0)),.im k1_0] (.im (nB r))) (r:Int) (h:Ok (nL c_api_Trace s_)→Ok (.fn f1_ [k1_0])→slices_IndexFunc_Sapi_Trace_api_Trace_n1 s_ f_=some r):Sp Tryz.prog 144 [.im (nL c_api_Trace s_),.im (.fn f1_ [k1_0])] (.im (nI r)):=by
 refine sp_of rfl [] rfl rfl rfl (Nat.le_of_ble_eq_true rfl) rfl fun hk=>?_
 replace h:=h hk.1 hk.2.1
 have z1:lZ s_:=ok_len hk.1
 unfold slices_IndexFunc_Sapi_Trace_api_Trace_n1 at h
 conv=>whnf
 refine Nf.mk (List.length s_) len_map ?_
 conv=>whnf
 obtain ⟨oc,hc,hk51⟩:=bind_some h
 clear h
 have h:=hc
 clear hc
 refine Cut.mkS oc (Y:=Unit) (fun (_:Unit)=>mkSt [] [] []) (fun (_:Unit)=>True) (by rintro ⟨⟩;exact (hT)) ?_ ?_
 conv=>whnf
 refine Loops.iter (fun (s:Nat)=>slices_IndexFunc_Sapi_Trace_api_Trace_n1.s2 s_ f_ s) (fun y71=>mkSt [(0,.im (nL c_api_Trace s_)),(1,.im (.fn f1_ [k1_0])),(7,.im (nI (↑(List.length s_):Int))),(8,.im (nI (↑y71:Int)))] [] []) (fun y71=>lZ s_∧True) h (eA []) (by rintro y71;exact ((Holds.avl 0 rfl).and (hT))) ?_
 clear h
 rintro k y71 o hp h ho76
 replace h:slices_IndexFunc_Sapi_Trace_api_Trace_n1.s2 s_ f_ y71=some o:=h
 unfold slices_IndexFunc_Sapi_Trace_api_Trace_n1.s2 at h
 obtain ⟨z81,_⟩:=hp
 conv=>whnf
 refine Both.mk ?_ ?_<;>intro b77
 obtain ⟨h,b77d⟩:=ctd b77 h
 conv=>whnf
 obtain ⟨e78,he78,h⟩:=idxn_some h
 refine ⟨_,⟨(by omega),map_at he78,rfl⟩,?_⟩
 conv=>whnf
 obtain ⟨c79,hc79,h⟩:=bind_some h
 refine ⟨_,Sp.args (hf1 e78 c79 hc79) (by rw [hk1_0];try rfl),?_⟩
 conv=>whnf
 refine Both.mk ?_ ?_<;>intro b80
 replace h:=cond_t b80 h
 conv=>whnf
 cases h
 have ho76:_=_:=ho76
 cases ho76
 replace h:some _=some _:=hk51
 cases h
 conv=>whnf
 exact ⟨rfl,rfl⟩
 replace h:=cond_f b80 h
 conv=>whnf
 refine Arith.mk (by show inR _;unfold inR;omega) ?_
 conv=>whnf
 cases h
 exact Nxt.mk _ ho76 (eA [])
 obtain ⟨h,b77d⟩:=cfd b77 h
 conv=>whnf
 cases h
 have ho76:_=_:=ho76
 cases ho76
 exact JoinS.mk' _ rfl (eA [])
 rintro ⟨⟩ rfl hp
 replace h:=sum_inl hk51
 conv=>whnf
 cases h
 conv=>whnf
 exact ⟨rfl,rfl⟩
theorem sp_slices_ContainsFunc_Sapi_Trace_api_Trace_n1 (s_:List T_api_Trace) (f_:T_api_Trace→Option Bool) (f1_:FuncId) (k1_0:IV) (hk1_0:nz k1_0=k1_0) (hf1:∀ x0 r,f_ x0=some r→Sp Tryz.prog f1_ [.im (.agg (c_api_Trace x0)),.im k1_0] (.im (nB r))) (r:Bool) (h:Ok (nL c_api_Trace s_)→Ok (.fn f1_ [k1_0])→slices_ContainsFunc_Sapi_Trace_api_Trace_n1 s_ f_=some r):Sp Tryz.prog 114 [.im (nL c_api_Trace s_),.im (.fn f1_ [k1_0])] (.im (nB r)):=by
 refine sp_of rfl [] rfl rfl rfl (Nat.le_of_ble_eq_true rfl) rfl fun hk=>?_
 replace h:=h hk.1 hk.2.1
 have z1:lZ s_:=ok_len hk.1
 unfold slices_ContainsFunc_Sapi_Trace_api_Trace_n1 at h
 conv=>whnf
 obtain ⟨c51,hc51,h⟩:=bind_some h
 refine ⟨_,(sp_slices_IndexFunc_Sapi_Trace_api_Trace_n1 s_ f_ f1_ k1_0 hk1_0 hf1 c51 (fun _ _=>hc51)),?_⟩
 conv=>whnf
 cases h
 conv=>whnf
 exact ⟨rfl,rfl⟩
theorem sp_observe_Valid (o_:T_api_Obs) (r:Int) (h:Ok (.agg (c_api_Obs o_))→observe_Valid o_=some r):Sp Tryz.prog 83 [.im (.agg (c_api_Obs o_))] (.im (nI r)):=by
 refine sp_of rfl [700001,800008] rfl rfl rfl (Nat.le_of_ble_eq_true rfl) rfl fun hk=>?_
 replace h:=h hk.1
 have z1:lZ o_.Traces:=ok_len (Ok.agg_at hk.1 1 rfl)
 unfold observe_Valid at h
 conv=>whnf
 obtain ⟨y54,hc,hk52⟩:=bind_some h
 clear h
 have h:=hc
 clear hc
 refine Cut.mk (mkSt [(1,.im (.ref (c_api_Obs o_))),(17,.im (nB y54))] [] []) (True) (hT) ?_ (fun hp=>?_)
 conv=>whnf
 refine Both.mk ?_ ?_<;>intro b55
 replace b55:=beq_ff b55
 obtain ⟨h,b55d⟩:=cfd b55 h
 conv=>whnf
 iterate 2 (refine Both.yes (ff_beq b55) ?_;(conv=>whnf))
 refine Both.no b55 ?_
 conv=>whnf
 cases h
 exact Join.mk (eA [])
 replace b55:=beq_ft b55
 obtain ⟨h,b55d⟩:=ctd b55 h
 conv=>whnf
 iterate 2 (refine Both.no (tf_beq b55) ?_;(conv=>whnf))
 refine Both.yes b55 ?_
 conv=>whnf
 cases h
 exact Join.mk (eA [])
 replace h:=hk52
 conv=>whnf
 refine Both.mk ?_ ?_<;>intro b56
 replace h:=cond_t b56 h
 conv=>whnf
 cases h
 conv=>whnf
 exact ⟨rfl,rfl⟩
 replace h:=cond_f b56 h
 conv=>whnf
 refine Nf.mk (List.length o_.Traces) len_map ?_
 conv=>whnf
 refine Both.mk ?_ ?_<;>intro b57
 obtain ⟨h,b57d⟩:=ctd b57 h
 conv=>whnf
 cases h
 conv=>whnf
 exact ⟨rfl,rfl⟩
 obtain ⟨h,b57d⟩:=cfd b57 h
 conv=>whnf
 refine Nf.mk (List.length o_.Traces) len_map ?_
 conv=>whnf
 obtain ⟨oc,hc,hk58⟩:=bind_some h
 clear h
 have h:=hc
 clear hc
 refine Cut.mkS oc (Y:=Unit) (fun (_:Unit)=>mkSt [(1,.im (.ref (c_api_Obs o_)))] [] []) (fun (_:Unit)=>True) (by rintro ⟨⟩;exact (hT)) ?_ ?_
 conv=>whnf
 refine Loops.iter (fun (s:Nat)=>observe_Valid.s2 o_ s) (fun y134=>mkSt [(1,.im (.ref (c_api_Obs o_))),(23,.im (nL c_api_Trace o_.Traces)),(24,.im (nI (↑(List.length o_.Traces):Int))),(25,.im (nI (↑y134:Int)))] [] []) (fun y134=>lZ o_.Traces∧True) h (eA []) (by rintro y134;exact ((Holds.avl 23 rfl).and (hT))) ?_
 clear h
 rintro k y134 o hp h ho153
 replace h:observe_Valid.s2 o_ y134=some o:=h
 unfold observe_Valid.s2 at h
 obtain ⟨z172,_⟩:=hp
 conv=>whnf
 refine Both.mk ?_ ?_<;>intro b154
 obtain ⟨h,b154d⟩:=ctd b154 h
 conv=>whnf
 obtain ⟨e155,he155,h⟩:=idxn_some h
 refine ⟨_,⟨(by omega),map_at he155,rfl⟩,?_⟩
 conv=>whnf
 refine Side.mk rfl ?_
 conv=>whnf
 refine Side.mk rfl ?_
 conv=>whnf
 refine Side.mk rfl ?_
 conv=>whnf
 obtain ⟨c156,hc156,h⟩:=bind_some h
 refine ⟨_,(sp_word_Check e155.In o_.Inputs c156 (fun _ _=>hc156)),?_⟩
 conv=>whnf
 refine Both.mk ?_ ?_<;>intro b157
 obtain ⟨h,b157d⟩:=ctd b157 h
 conv=>whnf
 cases h
 have ho153:_=_:=ho153
 cases ho153
 replace h:some _=some _:=hk58
 cases h
 conv=>whnf
 exact ⟨rfl,rfl⟩
 obtain ⟨h,b157d⟩:=cfd b157 h
 conv=>whnf
 refine Side.mk rfl ?_
 conv=>whnf
 refine Side.mk rfl ?_
 conv=>whnf
 refine Nf.mk (List.length e155.In) len_map ?_
 conv=>whnf
 refine Both.mk ?_ ?_<;>intro b158
 obtain ⟨h,b158d⟩:=ctd b158 h
 conv=>whnf
 cases h
 have ho153:_=_:=ho153
 cases ho153
 replace h:some _=some _:=hk58
 cases h
 conv=>whnf
 exact ⟨rfl,rfl⟩
 obtain ⟨h,b158d⟩:=cfd b158 h
 conv=>whnf
 refine Side.mk rfl ?_
 conv=>whnf
 obtain ⟨c159,hc159,h⟩:=bind_some h
 refine ⟨_,(sp_observe_proper e155 o_.Inputs c159 (fun _ _=>hc159)),?_⟩
 conv=>whnf
 refine Both.mk ?_ ?_<;>intro b160
 obtain ⟨h,b160d⟩:=ctd b160 h
 conv=>whnf
 cases h
 have ho153:_=_:=ho153
 cases ho153
 replace h:some _=some _:=hk58
 cases h
 conv=>whnf
 exact ⟨rfl,rfl⟩
 obtain ⟨h,b160d⟩:=cfd b160 h
 conv=>whnf
 obtain ⟨y166,hc,hk162⟩:=bind_some h
 clear h
 have h:=hc
 clear hc
 refine Cut.mk (mkSt [(1,.im (.ref (c_api_Obs o_))),(23,.im (nL c_api_Trace o_.Traces)),(24,.im (nI (↑(List.length o_.Traces):Int))),(25,.im (nI (↑y134:Int))),(61,.im (nB y166))] [] []) (lZ o_.Traces∧True) ((Holds.avl 23 rfl).and (hT)) ?_ (fun hp=>?_)
 conv=>whnf
 refine Both.mk ?_ ?_<;>intro b167
 replace b167:=beq_tt b167
 obtain ⟨h,b167d⟩:=ctd b167 h
 conv=>whnf
 iterate 3 (refine Both.yes (tt_beq b167) ?_;(conv=>whnf))
 refine Arith.mk (by show inR _;unfold inR;omega) ?_
 conv=>whnf
 refine Both.yes (tt_beq b167) ?_
 conv=>whnf
 obtain ⟨e168,he168z,he168,h⟩:=idx_some h
 refine ⟨_,⟨he168z,map_at he168,rfl⟩,?_⟩
 conv=>whnf
 iterate 2 (refine Both.yes (tt_beq b167) ?_;(conv=>whnf))
 refine Side.mk rfl ?_
 conv=>whnf
 refine Both.yes (tt_beq b167) ?_
 conv=>whnf
 obtain ⟨c169,hc169,h⟩:=bind_some h
 refine ⟨_,(sp_observe_order e168 e155 c169 (fun _ _=>hc169)),?_⟩
 conv=>whnf
 refine Both.yes (tt_beq b167) ?_
 conv=>whnf
 refine Both.yes b167 ?_
 conv=>whnf
 cases h
 exact Join.mk (eA [])
 replace b167:=beq_tf b167
 obtain ⟨h,b167d⟩:=cfd b167 h
 conv=>whnf
 iterate 8 (refine Both.no (ft_beq b167) ?_;(conv=>whnf))
 refine Both.no b167 ?_
 conv=>whnf
 cases h
 exact Join.mk (eA [])
 replace h:=hk162
 obtain ⟨z170,_⟩:=hp
 conv=>whnf
 refine Both.mk ?_ ?_<;>intro b171
 replace h:=cond_t b171 h
 conv=>whnf
 cases h
 have ho153:_=_:=ho153
 cases ho153
 replace h:some _=some _:=hk58
 cases h
 conv=>whnf
 exact ⟨rfl,rfl⟩
 replace h:=cond_f b171 h
 conv=>whnf
 refine Arith.mk (by show inR _;unfold inR;omega) ?_
 conv=>whnf
 cases h
 exact Nxt.mk _ ho153 (eA [])
 obtain ⟨h,b154d⟩:=cfd b154 h
 conv=>whnf
 cases h
 have ho153:_=_:=ho153
 cases ho153
 exact JoinS.mk' _ rfl (eA [])
 rintro ⟨⟩ rfl hp
 replace h:=sum_inl hk58
 conv=>whnf
 obtain ⟨c173,hc173,h⟩:=bind_some h
 refine ⟨_,(sp_observe_fits o_.Traces c173 (fun _=>hc173)),?_⟩
 conv=>whnf
 refine Both.mk ?_ ?_<;>intro b174
 replace h:=cond_t b174 h
 conv=>whnf
 cases h
 conv=>whnf
 exact ⟨rfl,rfl⟩
 replace h:=cond_f b174 h
 conv=>whnf
 refine Nf.mk (List.length o_.Traces) len_map ?_
 conv=>whnf
 obtain ⟨oc,hc,hk175⟩:=bind_some h
 clear h
 have h:=hc
 clear hc
 refine Cut.mkS oc (Y:=Unit) (fun (_:Unit)=>mkSt [] [] []) (fun (_:Unit)=>True) (by rintro ⟨⟩;exact (hT)) ?_ ?_
 conv=>whnf
 refine Loops.iter (fun (s:Nat)=>observe_Valid.s4 o_ s) (fun y207=>mkSt [(1,.im (.ref (c_api_Obs o_))),(67,.im (nL c_api_Trace o_.Traces)),(68,.im (nI (↑(List.length o_.Traces):Int))),(69,.im (nI (↑y207:Int)))] [] []) (fun y207=>lZ o_.Traces∧True) h (eA []) (by rintro y207;exact ((Holds.avl 67 rfl).and (hT))) ?_
 clear h
 rintro k y207 o hp h ho215
 replace h:observe_Valid.s4 o_ y207=some o:=h
 unfold observe_Valid.s4 at h
 obtain ⟨z223,_⟩:=hp
 conv=>whnf
 refine Both.mk ?_ ?_<;>intro b216
 obtain ⟨h,b216d⟩:=ctd b216 h
 conv=>whnf
 obtain ⟨e217,he217,h⟩:=idxn_some h
 refine ⟨_,⟨(by omega),map_at he217,rfl⟩,?_⟩
 conv=>whnf
 refine Side.mk rfl ?_
 conv=>whnf
 refine Arith.mk (by show inR _;unfold inR;omega) ?_
 conv=>whnf
 obtain ⟨c218,h⟩:=chk_some h
 refine Side.mk (show (0:Int)≤((↑y207:Int)+1)∧((↑y207:Int)+1)≤(↑(List.length (List.map c_api_Trace o_.Traces)):Int)∧(↑(List.length (List.map c_api_Trace o_.Traces)):Int)≤(↑(List.length (List.map c_api_Trace o_.Traces)):Int)∧(∀ e∈List.map c_api_Trace o_.Traces,List.length e=2) from ⟨by omega,by first | omega | (simp only [List.length_map];omega),by first | omega | (simp only [List.length_map];omega),map_len fun _=>rfl⟩) ?_
 conv=>whnf
 refine Nf.mk (List.map c_api_Trace (List.drop (y207+1) o_.Traces)) drop_map ?_
 conv=>whnf
 refine Side.mk ⟨rfl,trivial⟩ ?_
 conv=>whnf
 obtain ⟨c219,hc219,h⟩:=bind_some h
 refine ⟨_,(sp_slices_ContainsFunc_Sapi_Trace_api_Trace_n1 (List.drop (y207+1) o_.Traces) (fun u0=>observe_Valid_1 u0 e217) 115 (.ref (c_api_Trace e217)) rfl (fun u0 r h=>(sp_observe_Valid_1 u0 e217 r (fun _ _=>h))) c219 (fun _ _=>hc219)),?_⟩
 conv=>whnf
 refine Both.mk ?_ ?_<;>intro b220
 replace h:=cond_t b220 h
 conv=>whnf
 cases h
 have ho215:_=_:=ho215
 cases ho215
 replace h:some _=some _:=hk175
 cases h
 conv=>whnf
 exact ⟨rfl,rfl⟩
 replace h:=cond_f b220 h
 conv=>whnf
 obtain ⟨c221,hc221,h⟩:=bind_some h
 refine ⟨_,(sp_slices_ContainsFunc_Sapi_Trace_api_Trace_n1 (List.drop (y207+1) o_.Traces) (fun u0=>observe_Valid_2 u0 e217) 117 (.ref (c_api_Trace e217)) rfl (fun u0 r h=>(sp_observe_Valid_2 u0 e217 r (fun _ _=>h))) c221 (fun _ _=>hc221)),?_⟩
 conv=>whnf
 refine Both.mk ?_ ?_<;>intro b222
 replace h:=cond_t b222 h
 conv=>whnf
 cases h
 have ho215:_=_:=ho215
 cases ho215
 replace h:some _=some _:=hk175
 cases h
 conv=>whnf
 exact ⟨rfl,rfl⟩
 replace h:=cond_f b222 h
 conv=>whnf
 refine Arith.mk (by show inR _;unfold inR;omega) ?_
 conv=>whnf
 cases h
 exact Nxt.mk _ ho215 (eA [])
 obtain ⟨h,b216d⟩:=cfd b216 h
 conv=>whnf
 cases h
 have ho215:_=_:=ho215
 cases ho215
 exact JoinS.mk' _ rfl (eA [])
 rintro ⟨⟩ rfl hp
 replace h:=sum_inl hk175
 conv=>whnf
 cases h
 conv=>whnf
 exact ⟨rfl,rfl⟩
theorem sp_merge_row (inputs_:Int) (r:List Int) (h:Ok (nI inputs_)→merge_row inputs_=some r):Sp Tryz.prog 84 [.im (nI inputs_)] (.row 3 1 (List.map cI r)):=by
 refine sp_of rfl [] rfl rfl rfl (Nat.le_of_ble_eq_true rfl) rfl fun hk=>?_
 replace h:=h hk.1
 unfold merge_row at h
 conv=>whnf
 obtain ⟨c51,h⟩:=chk_some h
 refine Side.mk c51 ?_
 conv=>whnf
 refine Nf.mk (List.map cI (List.replicate (Int.toNat inputs_) (0:Int))) (rep_map (c:=cI) (z:=0) (n:=(Int.toNat inputs_)) rfl rfl) ?_
 conv=>whnf
 refine Side.mk rfl ?_
 conv=>whnf
 refine Nf.mk (List.length (List.replicate (Int.toNat inputs_) (0:Int))) len_map ?_
 conv=>whnf
 obtain ⟨y65,hc,hk52⟩:=bind_some h
 clear h
 have h:=hc
 clear hc
 refine Cut.mk (mkSt [(3,.osl 64 1)] [(64,.row 3 1 (List.map cI y65))] []) (lZ y65∧True) ((Holds.kdl 64 rfl).and (hT)) ?_ (fun hp=>?_)
 conv=>whnf
 refine Loops.iter (fun (s:List Int×Nat)=>merge_row.s2 inputs_ s.1 s.2) (fun (y68,y69)=>mkSt [(3,.osl 64 1),(8,.im (nI (↑(List.length (List.replicate (Int.toNat inputs_) (0:Int))):Int))),(9,.im (nI (↑y69:Int)))] [(64,.row 3 1 (List.map cI y68))] []) (fun (y68,y69)=>lZ y68∧True) h (eA [(64,some 6)]) (by rintro ⟨y68,y69⟩;exact ((Holds.kdl 64 rfl).and (hT))) ?_
 clear h
 rintro k ⟨y68,y69⟩ o hp h ho73
 replace h:merge_row.s2 inputs_ y68 y69=some o:=h
 unfold merge_row.s2 at h
 obtain ⟨z77,_⟩:=hp
 conv=>whnf
 refine Both.mk ?_ ?_<;>intro b74
 obtain ⟨h,b74d⟩:=ctd b74 h
 conv=>whnf
 obtain ⟨e75,he75,h⟩:=idxn_some h
 refine Side.mk ⟨(by omega),rfl,map_lt he75⟩ ?_
 conv=>whnf
 refine Side.mk ⟨rfl,trivial⟩ ?_
 conv=>whnf
 refine ⟨_,map_at he75,?_⟩
 conv=>whnf
 refine Nf.mk (List.map cI (List.set y68 y69 (-1:Int))) (set_map rfl) ?_
 conv=>whnf
 obtain ⟨c76,h⟩:=chk_some h
 refine Arith.mk c76 ?_
 conv=>whnf
 cases h
 exact Nxt.mk _ ho73 (eA [(64,some 64)])
 obtain ⟨h,b74d⟩:=cfd b74 h
 conv=>whnf
 cases h
 have ho73:_=_:=ho73
 cases ho73
 exact Join.mk (eA [(64,some 64)])
 replace h:=hk52
 obtain ⟨z78,_⟩:=hp
 conv=>whnf
 cases h
 conv=>whnf
 exact Side.mk ⟨rfl,trivial⟩ ⟨rfl,rfl⟩
theorem sp_merge_renumbered (p_:T_api_Part) (r:T_api_Part×List Int) (h:Ok (.agg (c_api_Part p_))→merge_renumbered p_=some r):Sp Tryz.prog 85 [.im (.agg (c_api_Part p_))] (.tup [.agg (c_api_Part r.1),nL cI r.2]):=by
 refine sp_of rfl [26,700001] rfl rfl rfl (Nat.le_of_ble_eq_true rfl) rfl fun hk=>?_
 replace h:=h hk.1
 have z1:lZ p_.Next:=ok_len (Ok.agg_at hk.1 2 rfl)
 have z2:lZ p_.Out:=ok_len (Ok.agg_at hk.1 3 rfl)
 unfold merge_renumbered at h
 conv=>whnf
 refine Nf.mk (List.length p_.Next) len_map ?_
 conv=>whnf
 obtain ⟨c51,hc51,h⟩:=bind_some h
 refine ⟨_,(sp_merge_row (↑(List.length p_.Next):Int) c51 (fun _=>hc51)),?_⟩
 conv=>whnf
 obtain ⟨e52,he52z,he52,h⟩:=idx_some h
 refine Side.mk ⟨he52z,rfl,map_lt he52⟩ ?_
 conv=>whnf
 refine Side.mk ⟨rfl,trivial⟩ ?_
 conv=>whnf
 refine ⟨_,map_at he52,?_⟩
 conv=>whnf
 refine Nf.mk (List.map cI (List.set c51 p_.Start.toNat 0)) (set_map rfl) ?_
 conv=>whnf
 obtain ⟨⟨y396,y397⟩,hc,hk53⟩:=bind_some h
 clear h
 have h:=hc
 clear hc
 refine Cut.mk (mkSt [(1,.im (.ref (c_api_Part p_))),(2,.own 127 1 0),(4,.osl 128 1),(5,.osl 129 1)] [(127,.box 24 4),(128,.row 3 1 (List.map cI y396)),(129,.row 3 1 (List.map cI y397))] [(127,0,.im (nI 0)),(127,1,.im (nI 0)),(127,2,.im (.val (.slice none 0 0))),(127,3,.im (.val (.slice none 0 0)))]) (lZ y396∧lZ y397∧True) ((Holds.kdl 128 rfl).and ((Holds.kdl 129 rfl).and (hT))) ?_ (fun hp=>?_)
 conv=>whnf
 refine Loops.iter (fun (s:List Int×List Int×Nat)=>merge_renumbered.s20 p_ s.1 s.2.1 s.2.2) (fun (y510,y511,i512)=>mkSt [(1,.im (.ref (c_api_Part p_))),(2,.own 127 1 0),(4,.osl 128 1),(5,.osl 129 1),(6,.im (nI (↑i512:Int)))] [(127,.box 24 4),(128,.row 3 1 (List.map cI y510)),(129,.row 3 1 (List.map cI y511))] [(127,0,.im (nI 0)),(127,1,.im (nI 0)),(127,2,.im (.val (.slice none 0 0))),(127,3,.im (.val (.slice none 0 0)))]) (fun (y510,y511,i512)=>lZ y510∧lZ y511∧True) h (eA [(127,some 2),(128,some 19),(129,some 26)]) (by rintro ⟨y510,y511,i512⟩;exact ((Holds.kdl 128 rfl).and ((Holds.kdl 129 rfl).and (hT)))) ?_
 clear h
 rintro k ⟨y510,y511,i512⟩ o hp h ho625
 replace h:merge_renumbered.s20 p_ y510 y511 i512=some o:=h
 unfold merge_renumbered.s20 at h
 obtain ⟨z738,z739,_⟩:=hp
 conv=>whnf
 refine Side.mk rfl ?_
 conv=>whnf
 refine Nf.mk (List.length y511) len_map ?_
 conv=>whnf
 refine Both.mk ?_ ?_<;>intro b626
 obtain ⟨h,b626d⟩:=ctd b626 h
 conv=>whnf
 obtain ⟨e627,he627,h⟩:=idxn_some h
 refine Side.mk ⟨(by omega),rfl,map_lt he627⟩ ?_
 conv=>whnf
 refine ⟨_,_,⟨rfl,map_at he627,rfl,rfl⟩,?_⟩
 conv=>whnf
 obtain ⟨e628,he628z,he628,h⟩:=idx_some h
 refine ⟨_,⟨he628z,map_at he628,rfl⟩,?_⟩
 conv=>whnf
 refine Nf.mk (List.length e628) len_map ?_
 conv=>whnf
 obtain ⟨⟨y682,y683⟩,hc,hk629⟩:=bind_some h
 clear h
 have h:=hc
 clear hc
 refine Cut.mk (mkSt [(1,.im (.ref (c_api_Part p_))),(2,.own 127 1 0),(4,.osl 128 1),(5,.osl 129 1),(6,.im (nI (↑i512:Int)))] [(127,.box 24 4),(128,.row 3 1 (List.map cI y682)),(129,.row 3 1 (List.map cI y683))] [(127,0,.im (nI 0)),(127,1,.im (nI 0)),(127,2,.im (.val (.slice none 0 0))),(127,3,.im (.val (.slice none 0 0)))]) (lZ y682∧lZ y683∧True) ((Holds.kdl 128 rfl).and ((Holds.kdl 129 rfl).and (hT))) ?_ (fun hp=>?_)
 conv=>whnf
 refine Loops.iter (fun (s:List Int×List Int×Nat)=>merge_renumbered.s18 e628 s.1 s.2.1 s.2.2) (fun (y699,y700,y701)=>mkSt [(1,.im (.ref (c_api_Part p_))),(2,.own 127 1 0),(4,.osl 128 1),(5,.osl 129 1),(6,.im (nI (↑i512:Int))),(40,.im (nL cI e628)),(41,.im (nI (↑(List.length e628):Int))),(42,.im (nI (↑y701:Int)))] [(127,.box 24 4),(128,.row 3 1 (List.map cI y699)),(129,.row 3 1 (List.map cI y700))] [(127,0,.im (nI 0)),(127,1,.im (nI 0)),(127,2,.im (.val (.slice none 0 0))),(127,3,.im (.val (.slice none 0 0)))]) (fun (y699,y700,y701)=>lZ e628∧lZ y699∧lZ y700∧True) h (eA [(127,some 127),(128,some 128),(129,some 129)]) (by rintro ⟨y699,y700,y701⟩;exact ((Holds.avl 40 rfl).and ((Holds.kdl 128 rfl).and ((Holds.kdl 129 rfl).and (hT))))) ?_
 clear h
 rintro k ⟨y699,y700,y701⟩ o hp h ho717
 replace h:merge_renumbered.s18 e628 y699 y700 y701=some o:=h
 unfold merge_renumbered.s18 at h
 obtain ⟨z733,z734,z735,_⟩:=hp
 conv=>whnf
 refine Both.mk ?_ ?_<;>intro b718
 obtain ⟨h,b718d⟩:=ctd b718 h
 conv=>whnf
 obtain ⟨e719,he719,h⟩:=idxn_some h
 refine ⟨_,⟨(by omega),map_at he719,rfl⟩,?_⟩
 conv=>whnf
 obtain ⟨y724,hc,hk721⟩:=bind_some h
 clear h
 have h:=hc
 clear hc
 refine Cut.mk (mkSt [(1,.im (.ref (c_api_Part p_))),(2,.own 127 1 0),(4,.osl 128 1),(5,.osl 129 1),(6,.im (nI (↑i512:Int))),(8,.im (nI e719)),(40,.im (nL cI e628)),(41,.im (nI (↑(List.length e628):Int))),(42,.im (nI (↑y701:Int))),(54,.im (nB y724))] [(127,.box 24 4),(128,.row 3 1 (List.map cI y699)),(129,.row 3 1 (List.map cI y700))] [(127,0,.im (nI 0)),(127,1,.im (nI 0)),(127,2,.im (.val (.slice none 0 0))),(127,3,.im (.val (.slice none 0 0)))]) (lZ e628∧lZ y699∧lZ y700∧True) ((Holds.avl 40 rfl).and ((Holds.kdl 128 rfl).and ((Holds.kdl 129 rfl).and (hT)))) ?_ (fun hp=>?_)
 conv=>whnf
 refine Both.mk ?_ ?_<;>intro b725
 replace b725:=beq_tt b725
 obtain ⟨h,b725d⟩:=ctd b725 h
 conv=>whnf
 iterate 2 (refine Both.yes (tt_beq b725) ?_;(conv=>whnf))
 obtain ⟨e726,he726z,he726,h⟩:=idx_some h
 refine Side.mk ⟨he726z,rfl,map_lt he726⟩ ?_
 conv=>whnf
 refine Both.yes (tt_beq b725) ?_
 conv=>whnf
 refine ⟨_,_,⟨rfl,map_at he726,rfl,rfl⟩,?_⟩
 conv=>whnf
 refine Both.yes (tt_beq b725) ?_
 conv=>whnf
 refine Both.yes b725 ?_
 conv=>whnf
 cases h
 exact Join.mk (eA [(127,some 127),(128,some 128),(129,some 129)])
 replace b725:=beq_tf b725
 obtain ⟨h,b725d⟩:=cfd b725 h
 conv=>whnf
 iterate 4 (refine Both.no (ft_beq b725) ?_;(conv=>whnf))
 refine Both.no b725 ?_
 conv=>whnf
 cases h
 exact Join.mk (eA [(127,some 127),(128,some 128),(129,some 129)])
 replace h:=hk721
 obtain ⟨z727,z728,z729,_⟩:=hp
 conv=>whnf
 refine Both.mk ?_ ?_<;>intro b730
 replace h:=cond_t b730 h
 conv=>whnf
 refine Side.mk rfl ?_
 conv=>whnf
 refine Nf.mk (List.length y700) len_map ?_
 conv=>whnf
 obtain ⟨e731,he731z,he731,h⟩:=idx_some h
 refine Side.mk ⟨he731z,rfl,map_lt he731⟩ ?_
 conv=>whnf
 refine Side.mk ⟨rfl,trivial⟩ ?_
 conv=>whnf
 refine ⟨_,map_at he731,?_⟩
 conv=>whnf
 refine Nf.mk (List.map cI (List.set y699 e719.toNat (↑(List.length y700):Int))) (set_map rfl) ?_
 conv=>whnf
 obtain ⟨c732,h⟩:=chk_some h
 refine Side.mk ⟨rfl,map_len (l:=[e719]) (c:=cI) fun _=>rfl,show capOk _ 8 by simpa only [List.length_map,List.length_cons,List.length_nil,Nat.zero_add] using c732⟩ ?_
 conv=>whnf
 refine Nf.mk (List.map cI (y700++[e719])) (app_map (l:=y700) (m:=[e719]) (c:=cI)) ?_
 conv=>whnf
 refine Arith.mk (by show inR _;unfold inR;omega) ?_
 conv=>whnf
 cases h
 exact Nxt.mk _ ho717 (eA [(127,some 127),(128,some 128),(129,some 129)])
 replace h:=cond_f b730 h
 conv=>whnf
 refine Arith.mk (by show inR _;unfold inR;omega) ?_
 conv=>whnf
 cases h
 exact Nxt.mk _ ho717 (eA [(127,some 127),(128,some 128),(129,some 129)])
 obtain ⟨h,b718d⟩:=cfd b718 h
 conv=>whnf
 cases h
 have ho717:_=_:=ho717
 cases ho717
 exact Join.mk (eA [(127,some 127),(128,some 128),(129,some 129)])
 replace h:merge_renumbered.k19 i512 y682 y683=some _:=hk629
 unfold merge_renumbered.k19 at h
 obtain ⟨z736,z737,_⟩:=hp
 conv=>whnf
 refine Arith.mk (by show inR _;unfold inR;omega) ?_
 conv=>whnf
 cases h
 exact Nxt.mk _ ho625 (eA [(127,some 127),(128,some 128),(129,some 129)])
 obtain ⟨h,b626d⟩:=cfd b626 h
 conv=>whnf
 cases h
 have ho625:_=_:=ho625
 cases ho625
 exact Join.mk (eA [(127,some 127),(128,some 128),(129,some 129)])
 replace h:merge_renumbered.k42 p_ y396 y397=some _:=hk53
 unfold merge_renumbered.k42 at h
 obtain ⟨z740,z741,_⟩:=hp
 conv=>whnf
 refine Side.mk rfl ?_
 conv=>whnf
 refine Side.mk rfl ?_
 conv=>whnf
 refine Nf.mk (List.length y397) len_map ?_
 conv=>whnf
 obtain ⟨⟨y1001,y1002⟩,hc,hk742⟩:=bind_some h
 clear h
 have h:=hc
 clear hc
 refine Cut.mk (mkSt [(2,.own 127 1 0),(4,.osl 128 1),(9,.own 129 1 0)] [(127,.box 24 4),(128,.row 3 1 (List.map cI y396)),(129,.box 24 4),(130,.row 60 1 (List.map (cL cI) y1001)),(131,.row 60 1 (List.map (cL cI) y1002))] [(127,0,.im (nI 0)),(127,1,.im (nI 0)),(127,2,.im (.val (.slice none 0 0))),(127,3,.im (.val (.slice none 0 0))),(129,0,.im (nI p_.Inputs)),(129,1,.im (nI 0)),(129,2,.osl 130 1),(129,3,.osl 131 1)]) (lZ y396∧lZ y1001∧lZ y1002∧True) ((Holds.kdl 128 rfl).and ((Holds.kdl 130 rfl).and ((Holds.kdl 131 rfl).and (hT)))) ?_ (fun hp=>?_)
 conv=>whnf
 refine Loops.iter (fun (s:List (List Int)×List (List Int)×Nat)=>merge_renumbered.s40 p_ y396 y397 s.1 s.2.1 s.2.2) (fun (y1081,y1082,y1083)=>mkSt [(1,.im (.ref (c_api_Part p_))),(2,.own 127 1 0),(4,.osl 128 1),(9,.own 129 1 0),(68,.osl 132 1),(69,.im (nI (↑(List.length y397):Int))),(70,.im (nI (↑y1083:Int)))] [(127,.box 24 4),(128,.row 3 1 (List.map cI y396)),(129,.box 24 4),(130,.row 60 1 (List.map (cL cI) y1081)),(131,.row 60 1 (List.map (cL cI) y1082)),(132,.row 3 1 (List.map cI y397))] [(127,0,.im (nI 0)),(127,1,.im (nI 0)),(127,2,.im (.val (.slice none 0 0))),(127,3,.im (.val (.slice none 0 0))),(129,0,.im (nI p_.Inputs)),(129,1,.im (nI 0)),(129,2,.osl 130 1),(129,3,.osl 131 1)]) (fun (y1081,y1082,y1083)=>lZ y396∧lZ y1081∧lZ y1082∧lZ y397∧True) h (Ent.mk [(127,some 127),(128,some 128),(129,some 9),(130,none),(131,none),(132,some 129)] rfl ⟨eI rfl rfl,⟨.own 127 _ 0,rfl,.own rfl rfl rfl⟩,⟨.osl 128 _,rfl,.osl rfl rfl rfl⟩,⟨.own 9 _ 0,rfl,.own rfl rfl rfl⟩,⟨.osl 129 _,rfl,.osl rfl rfl rfl⟩,eI rfl rfl,eI rfl rfl,trivial⟩ ⟨.inl ⟨127,rfl,rfl,trivial⟩,.inl ⟨128,rfl,rfl,trivial⟩,.inl ⟨9,rfl,rfl,trivial⟩,.inr ⟨rfl,rfl,.inl ⟨_,_,rfl,by decide⟩⟩,.inr ⟨rfl,rfl,.inl ⟨_,_,rfl,by decide⟩⟩,.inl ⟨129,rfl,rfl,trivial⟩,trivial⟩ ⟨⟨127,.im _,rfl,rfl,.im (Sub.rfl' rfl)⟩,⟨127,.im _,rfl,rfl,.im (Sub.rfl' rfl)⟩,⟨127,.im (.val (.slice none 0 0)),rfl,rfl,.im (Sub.rfl' rfl)⟩,⟨127,.im (.val (.slice none 0 0)),rfl,rfl,.im (Sub.rfl' rfl)⟩,⟨9,.im _,rfl,rfl,.im (Sub.rfl' rfl)⟩,⟨9,.im _,rfl,rfl,.im (Sub.rfl' rfl)⟩,⟨9,.im (.val (.slice none 0 0)),rfl,rfl,.made rfl rfl⟩,⟨9,.im (.val (.slice none 0 0)),rfl,rfl,.made rfl rfl⟩,trivial⟩) (by rintro ⟨y1081,y1082,y1083⟩;exact ((Holds.kdl 128 rfl).and ((Holds.kdl 130 rfl).and ((Holds.kdl 131 rfl).and ((Holds.kdl 132 rfl).and (hT)))))) ?_
 clear h
 rintro k ⟨y1081,y1082,y1083⟩ o hp h ho1170
 replace h:merge_renumbered.s40 p_ y396 y397 y1081 y1082 y1083=some o:=h
 unfold merge_renumbered.s40 at h
 obtain ⟨z1257,z1258,z1259,z1260,_⟩:=hp
 conv=>whnf
 refine Both.mk ?_ ?_<;>intro b1171
 obtain ⟨h,b1171d⟩:=ctd b1171 h
 conv=>whnf
 obtain ⟨e1172,he1172,h⟩:=idxn_some h
 refine Side.mk ⟨(by omega),rfl,map_lt he1172⟩ ?_
 conv=>whnf
 refine ⟨_,_,⟨rfl,map_at he1172,rfl,rfl⟩,?_⟩
 conv=>whnf
 obtain ⟨c1173,hc1173,h⟩:=bind_some h
 refine ⟨_,(sp_merge_row p_.Inputs c1173 (fun _=>hc1173)),?_⟩
 conv=>whnf
 obtain ⟨c1174,hc1174,h⟩:=bind_some h
 refine ⟨_,(sp_merge_row p_.Inputs c1174 (fun _=>hc1174)),?_⟩
 conv=>whnf
 obtain ⟨e1175,he1175z,he1175,h⟩:=idx_some h
 refine ⟨_,⟨he1175z,map_at he1175,rfl⟩,?_⟩
 conv=>whnf
 refine Nf.mk (List.length e1175) len_map ?_
 conv=>whnf
 obtain ⟨⟨y1212,y1213⟩,hc,hk1176⟩:=bind_some h
 clear h
 have h:=hc
 clear hc
 refine Cut.mk (mkSt [(1,.im (.ref (c_api_Part p_))),(2,.own 127 1 0),(4,.osl 128 1),(9,.own 129 1 0),(12,.osl 132 1),(13,.osl 133 1),(68,.osl 134 1),(69,.im (nI (↑(List.length y397):Int))),(70,.im (nI (↑y1083:Int)))] [(127,.box 24 4),(128,.row 3 1 (List.map cI y396)),(129,.box 24 4),(130,.row 60 1 (List.map (cL cI) y1081)),(131,.row 60 1 (List.map (cL cI) y1082)),(132,.row 3 1 (List.map cI y1212)),(133,.row 3 1 (List.map cI y1213)),(134,.row 3 1 (List.map cI y397))] [(127,0,.im (nI 0)),(127,1,.im (nI 0)),(127,2,.im (.val (.slice none 0 0))),(127,3,.im (.val (.slice none 0 0))),(129,0,.im (nI p_.Inputs)),(129,1,.im (nI 0)),(129,2,.osl 130 1),(129,3,.osl 131 1)]) (lZ y396∧lZ y1081∧lZ y1082∧lZ y1212∧lZ y1213∧lZ y397∧True) ((Holds.kdl 128 rfl).and ((Holds.kdl 130 rfl).and ((Holds.kdl 131 rfl).and ((Holds.kdl 132 rfl).and ((Holds.kdl 133 rfl).and ((Holds.kdl 134 rfl).and (hT))))))) ?_ (fun hp=>?_)
 conv=>whnf
 refine Loops.iter (fun (s:List Int×List Int×Nat)=>merge_renumbered.s38 p_ y396 e1172 e1175 s.1 s.2.1 s.2.2) (fun (y1222,y1223,y1224)=>mkSt [(1,.im (.ref (c_api_Part p_))),(2,.own 127 1 0),(4,.osl 128 1),(9,.own 129 1 0),(11,.im (nI e1172)),(12,.osl 132 1),(13,.osl 133 1),(68,.osl 134 1),(69,.im (nI (↑(List.length y397):Int))),(70,.im (nI (↑y1083:Int))),(84,.im (nL cI e1175)),(85,.im (nI (↑(List.length e1175):Int))),(86,.im (nI (↑y1224:Int)))] [(127,.box 24 4),(128,.row 3 1 (List.map cI y396)),(129,.box 24 4),(130,.row 60 1 (List.map (cL cI) y1081)),(131,.row 60 1 (List.map (cL cI) y1082)),(132,.row 3 1 (List.map cI y1222)),(133,.row 3 1 (List.map cI y1223)),(134,.row 3 1 (List.map cI y397))] [(127,0,.im (nI 0)),(127,1,.im (nI 0)),(127,2,.im (.val (.slice none 0 0))),(127,3,.im (.val (.slice none 0 0))),(129,0,.im (nI p_.Inputs)),(129,1,.im (nI 0)),(129,2,.osl 130 1),(129,3,.osl 131 1)]) (fun (y1222,y1223,y1224)=>lZ e1175∧lZ y396∧lZ y1081∧lZ y1082∧lZ y1222∧lZ y1223∧lZ y397∧True) h (eA [(127,some 127),(128,some 128),(129,some 129),(130,some 130),(131,some 131),(132,some 76),(133,some 79),(134,some 132)]) (by rintro ⟨y1222,y1223,y1224⟩;exact ((Holds.avl 84 rfl).and ((Holds.kdl 128 rfl).and ((Holds.kdl 130 rfl).and ((Holds.kdl 131 rfl).and ((Holds.kdl 132 rfl).and ((Holds.kdl 133 rfl).and ((Holds.kdl 134 rfl).and (hT))))))))) ?_
 clear h
 rintro k ⟨y1222,y1223,y1224⟩ o hp h ho1233
 replace h:merge_renumbered.s38 p_ y396 e1172 e1175 y1222 y1223 y1224=some o:=h
 unfold merge_renumbered.s38 at h
 obtain ⟨z1242,z1243,z1244,z1245,z1246,z1247,z1248,_⟩:=hp
 conv=>whnf
 refine Both.mk ?_ ?_<;>intro b1234
 obtain ⟨h,b1234d⟩:=ctd b1234 h
 conv=>whnf
 obtain ⟨e1235,he1235,h⟩:=idxn_some h
 refine ⟨_,⟨(by omega),map_at he1235,rfl⟩,?_⟩
 conv=>whnf
 refine Both.mk ?_ ?_<;>intro b1236
 obtain ⟨h,b1236d⟩:=ctd b1236 h
 conv=>whnf
 obtain ⟨e1237,he1237z,he1237,h⟩:=idx_some h
 refine Side.mk ⟨he1237z,rfl,map_lt he1237⟩ ?_
 conv=>whnf
 refine ⟨_,_,⟨rfl,map_at he1237,rfl,rfl⟩,?_⟩
 conv=>whnf
 obtain ⟨e1238,he1238z,he1238,h⟩:=idx_some h
 refine ⟨_,⟨he1238z,map_at he1238,rfl⟩,?_⟩
 conv=>whnf
 obtain ⟨e1239,he1239,h⟩:=idxn_some h
 refine ⟨_,⟨(by omega),map_at he1239,rfl⟩,?_⟩
 conv=>whnf
 obtain ⟨e1240,he1240,h⟩:=idxn_some h
 refine Side.mk ⟨(by omega),rfl,map_lt he1240⟩ ?_
 conv=>whnf
 refine Side.mk ⟨rfl,trivial⟩ ?_
 conv=>whnf
 refine ⟨_,map_at he1240,?_⟩
 conv=>whnf
 refine Nf.mk (List.map cI (List.set y1222 y1224 e1237)) (set_map rfl) ?_
 conv=>whnf
 obtain ⟨e1241,he1241,h⟩:=idxn_some h
 refine Side.mk ⟨(by omega),rfl,map_lt he1241⟩ ?_
 conv=>whnf
 refine Side.mk ⟨rfl,trivial⟩ ?_
 conv=>whnf
 refine ⟨_,map_at he1241,?_⟩
 conv=>whnf
 refine Nf.mk (List.map cI (List.set y1223 y1224 e1239)) (set_map rfl) ?_
 conv=>whnf
 refine Arith.mk (by show inR _;unfold inR;omega) ?_
 conv=>whnf
 cases h
 exact Nxt.mk _ ho1233 (eA [(127,some 127),(128,some 128),(129,some 129),(130,some 130),(131,some 131),(132,some 132),(133,some 133),(134,some 134)])
 obtain ⟨h,b1236d⟩:=cfd b1236 h
 conv=>whnf
 refine Arith.mk (by show inR _;unfold inR;omega) ?_
 conv=>whnf
 cases h
 exact Nxt.mk _ ho1233 (eA [(127,some 127),(128,some 128),(129,some 129),(130,some 130),(131,some 131),(132,some 132),(133,some 133),(134,some 134)])
 obtain ⟨h,b1234d⟩:=cfd b1234 h
 conv=>whnf
 cases h
 have ho1233:_=_:=ho1233
 cases ho1233
 exact Join.mk (eA [(127,some 127),(128,some 128),(129,some 129),(130,some 130),(131,some 131),(132,some 132),(133,some 133),(134,some 134)])
 replace h:merge_renumbered.k39 y1081 y1082 y1083 y1212 y1213=some _:=hk1176
 unfold merge_renumbered.k39 at h
 obtain ⟨z1249,z1250,z1251,z1252,z1253,z1254,_⟩:=hp
 conv=>whnf
 refine Side.mk rfl ?_
 conv=>whnf
 refine Side.mk rfl ?_
 conv=>whnf
 refine Side.mk ⟨rfl,trivial⟩ ?_
 conv=>whnf
 obtain ⟨c1255,h⟩:=chk_some h
 refine Side.mk ⟨rfl,map_len (l:=[y1212]) (c:=cL cI) fun _=>rfl,show capOk _ 24 by simpa only [List.length_map,List.length_cons,List.length_nil,Nat.zero_add] using c1255⟩ ?_
 conv=>whnf
 refine Nf.mk (List.map (cL cI) (y1081++[y1212])) (app_map (l:=y1081) (m:=[y1212]) (c:=cL cI)) ?_
 conv=>whnf
 refine Side.mk rfl ?_
 conv=>whnf
 refine Side.mk rfl ?_
 conv=>whnf
 refine Side.mk ⟨rfl,trivial⟩ ?_
 conv=>whnf
 obtain ⟨c1256,h⟩:=chk_some h
 refine Side.mk ⟨rfl,map_len (l:=[y1213]) (c:=cL cI) fun _=>rfl,show capOk _ 24 by simpa only [List.length_map,List.length_cons,List.length_nil,Nat.zero_add] using c1256⟩ ?_
 conv=>whnf
 refine Nf.mk (List.map (cL cI) (y1082++[y1213])) (app_map (l:=y1082) (m:=[y1213]) (c:=cL cI)) ?_
 conv=>whnf
 refine Side.mk rfl ?_
 conv=>whnf
 refine Side.mk rfl ?_
 conv=>whnf
 refine Side.mk rfl ?_
 conv=>whnf
 refine Side.mk rfl ?_
 conv=>whnf
 refine Arith.mk (by show inR _;unfold inR;omega) ?_
 conv=>whnf
 cases h
 exact Nxt.mk _ ho1170 (eA [(127,some 127),(128,some 128),(129,some 129),(130,some 130),(131,some 131),(132,some 134)])
 obtain ⟨h,b1171d⟩:=cfd b1171 h
 conv=>whnf
 cases h
 have ho1170:_=_:=ho1170
 cases ho1170
 exact Join.mk (eA [(127,some 127),(128,some 128),(129,some 129),(130,some 130),(131,some 131)])
 replace h:merge_renumbered.k41 p_ y396 y1001 y1002=some _:=hk742
 unfold merge_renumbered.k41 at h
 obtain ⟨z1261,z1262,z1263,_⟩:=hp
 conv=>whnf
 refine Side.mk rfl ?_
 conv=>whnf
 refine Side.mk rfl ?_
 conv=>whnf
 cases h
 conv=>whnf
 refine Side.mk ⟨rfl,trivial⟩ ?_
 conv=>whnf
 exact Side.mk ⟨rfl,rfl,rfl,trivial⟩ ⟨rfl,rfl⟩
theorem sp_merge_Tree (o_:T_api_Obs) (r:T_api_Part×Int) (h:Ok (.agg (c_api_Obs o_))→merge_Tree o_=some r):Sp Tryz.prog 45 [.im (.agg (c_api_Obs o_))] (.tup [.agg (c_api_Part r.1),nI r.2]):=by
 refine sp_of rfl [700001,9000023,9000027,9000078,9000084] rfl rfl rfl (Nat.le_of_ble_eq_true rfl) rfl fun hk=>?_
 replace h:=h hk.1
 have z1:lZ o_.Traces:=ok_len (Ok.agg_at hk.1 1 rfl)
 unfold merge_Tree at h
 conv=>whnf
 obtain ⟨c51,hc51,h⟩:=bind_some h
 refine ⟨_,(sp_observe_Valid o_ c51 (fun _=>hc51)),?_⟩
 conv=>whnf
 refine Both.mk ?_ ?_<;>intro b52
 obtain ⟨h,b52d⟩:=ctd b52 h
 conv=>whnf
 refine Side.mk rfl ?_
 conv=>whnf
 cases h
 conv=>whnf
 refine Side.mk ⟨rfl,trivial⟩ ?_
 conv=>whnf
 exact ⟨rfl,rfl⟩
 obtain ⟨h,b52d⟩:=cfd b52 h
 conv=>whnf
 obtain ⟨c53,hc53,h⟩:=bind_some h
 refine ⟨_,(sp_merge_row o_.Inputs c53 (fun _=>hc53)),?_⟩
 conv=>whnf
 refine Side.mk ⟨rfl,trivial⟩ ?_
 conv=>whnf
 refine Nf.mk (List.map (cL cI) [c53]) rfl ?_
 conv=>whnf
 obtain ⟨c54,hc54,h⟩:=bind_some h
 refine ⟨_,(sp_merge_row o_.Inputs c54 (fun _=>hc54)),?_⟩
 conv=>whnf
 refine Side.mk ⟨rfl,trivial⟩ ?_
 conv=>whnf
 refine Nf.mk (List.map (cL cI) [c54]) rfl ?_
 conv=>whnf
 refine Nf.mk (List.length o_.Traces) len_map ?_
 conv=>whnf
 obtain ⟨oc,hc,hk55⟩:=bind_some h
 clear h
 have h:=hc
 clear hc
 refine Cut.mkS oc (Y:=List (List Int)×List (List Int)) (fun (y849,y850)=>mkSt [(1,.im (.ref (c_api_Obs o_))),(2,.own 105 1 0),(5,.osl 106 1),(6,.osl 107 1)] [(105,.box 24 4),(106,.grid 60 3 1 (List.map (cL cI) y849) none),(107,.grid 60 3 1 (List.map (cL cI) y850) none)] [(105,0,.im (nI 0)),(105,1,.im (nI 0)),(105,2,.im (.val (.slice none 0 0))),(105,3,.im (.val (.slice none 0 0)))]) (fun (y849,y850)=>lZ y849∧lZ y850∧True) (by rintro ⟨y849,y850⟩;exact ((Holds.kdg 106 rfl).and ((Holds.kdg 107 rfl).and (hT)))) ?_ ?_
 conv=>whnf
 refine Loops.iter (fun (s:List (List Int)×List (List Int)×Nat)=>merge_Tree.s56 o_ s.1 s.2.1 s.2.2) (fun (y1113,y1114,y1115)=>mkSt [(1,.im (.ref (c_api_Obs o_))),(2,.own 105 1 0),(5,.osl 106 1),(6,.osl 107 1),(29,.im (nL c_api_Trace o_.Traces)),(30,.im (nI (↑(List.length o_.Traces):Int))),(31,.im (nI (↑y1115:Int)))] [(105,.box 24 4),(106,.grid 60 3 1 (List.map (cL cI) y1113) none),(107,.grid 60 3 1 (List.map (cL cI) y1114) none)] [(105,0,.im (nI 0)),(105,1,.im (nI 0)),(105,2,.im (.val (.slice none 0 0))),(105,3,.im (.val (.slice none 0 0)))]) (fun (y1113,y1114,y1115)=>lZ o_.Traces∧lZ y1113∧lZ y1114∧True) h (eA [(105,some 2),(106,some 23),(107,some 27)]) (by rintro ⟨y1113,y1114,y1115⟩;exact ((Holds.avl 29 rfl).and ((Holds.kdg 106 rfl).and ((Holds.kdg 107 rfl).and (hT))))) ?_
 clear h
 rintro k ⟨y1113,y1114,y1115⟩ o hp h ho1378
 replace h:merge_Tree.s56 o_ y1113 y1114 y1115=some o:=h
 unfold merge_Tree.s56 at h
 obtain ⟨z1641,z1642,z1643,_⟩:=hp
 conv=>whnf
 refine Both.mk ?_ ?_<;>intro b1379
 obtain ⟨h,b1379d⟩:=ctd b1379 h
 conv=>whnf
 obtain ⟨e1380,he1380,h⟩:=idxn_some h
 refine ⟨_,⟨(by omega),map_at he1380,rfl⟩,?_⟩
 conv=>whnf
 refine Side.mk rfl ?_
 conv=>whnf
 refine Side.mk rfl ?_
 conv=>whnf
 refine Side.mk rfl ?_
 conv=>whnf
 refine Nf.mk (List.length e1380.In) len_map ?_
 conv=>whnf
 obtain ⟨oc,hc,hk1381⟩:=bind_some h
 clear h
 have h:=hc
 clear hc
 refine Cut.mkS oc (Y:=List (List Int)×List (List Int)) (fun (y1509,y1510)=>mkSt [(1,.im (.ref (c_api_Obs o_))),(2,.own 105 1 0),(5,.osl 106 1),(6,.osl 107 1),(29,.im (nL c_api_Trace o_.Traces)),(30,.im (nI (↑(List.length o_.Traces):Int))),(31,.im (nI (↑y1115:Int)))] [(105,.box 24 4),(106,.grid 60 3 1 (List.map (cL cI) y1509) none),(107,.grid 60 3 1 (List.map (cL cI) y1510) none)] [(105,0,.im (nI 0)),(105,1,.im (nI 0)),(105,2,.im (.val (.slice none 0 0))),(105,3,.im (.val (.slice none 0 0)))]) (fun (y1509,y1510)=>lZ o_.Traces∧lZ y1509∧lZ y1510∧True) (by rintro ⟨y1509,y1510⟩;exact ((Holds.avl 29 rfl).and ((Holds.kdg 106 rfl).and ((Holds.kdg 107 rfl).and (hT))))) ?_ ?_
 conv=>whnf
 refine Loops.iter (fun (s:List (List Int)×List (List Int)×Int×Nat)=>merge_Tree.s54 o_ e1380 s.1 s.2.1 s.2.2.1 s.2.2.2) (fun (y1550,y1551,s1552,y1553)=>mkSt [(1,.im (.ref (c_api_Obs o_))),(2,.own 105 1 0),(5,.osl 106 1),(6,.osl 107 1),(8,.own 108 1 0),(9,.im (nI s1552)),(29,.im (nL c_api_Trace o_.Traces)),(30,.im (nI (↑(List.length o_.Traces):Int))),(31,.im (nI (↑y1115:Int))),(36,.im (nL cI e1380.In)),(37,.im (nI (↑(List.length e1380.In):Int))),(38,.im (nI (↑y1553:Int)))] [(105,.box 24 4),(106,.grid 60 3 1 (List.map (cL cI) y1550) none),(107,.grid 60 3 1 (List.map (cL cI) y1551) none),(108,.box 70 2)] [(105,0,.im (nI 0)),(105,1,.im (nI 0)),(105,2,.im (.val (.slice none 0 0))),(105,3,.im (.val (.slice none 0 0))),(108,0,.im (nL cI e1380.In)),(108,1,.im (nL cI e1380.Out))]) (fun (y1550,y1551,s1552,y1553)=>lZ o_.Traces∧lZ e1380.In∧lZ y1550∧lZ y1551∧lZ e1380.Out∧True) h (eA [(105,some 105),(106,some 106),(107,some 107),(108,some 8)]) (by rintro ⟨y1550,y1551,s1552,y1553⟩;exact ((Holds.avl 29 rfl).and ((Holds.avl 36 rfl).and ((Holds.kdg 106 rfl).and ((Holds.kdg 107 rfl).and ((Holds.cel 108 1 rfl (by decide) rfl).and (hT))))))) ?_
 clear h
 rintro k ⟨y1550,y1551,s1552,y1553⟩ o hp h ho1593
 replace h:merge_Tree.s54 o_ e1380 y1550 y1551 s1552 y1553=some o:=h
 unfold merge_Tree.s54 at h
 obtain ⟨z1633,z1634,z1635,z1636,z1637,_⟩:=hp
 conv=>whnf
 refine Both.mk ?_ ?_<;>intro b1594
 obtain ⟨h,b1594d⟩:=ctd b1594 h
 conv=>whnf
 obtain ⟨e1595,he1595,h⟩:=idxn_some h
 refine ⟨_,⟨(by omega),map_at he1595,rfl⟩,?_⟩
 conv=>whnf
 obtain ⟨oc,hc,hk1597⟩:=bind_some h
 clear h
 have h:=hc
 clear hc
 refine Cut.mkS oc (Y:=List (List Int)×List (List Int)) (fun (y1611,y1612)=>mkSt [(1,.im (.ref (c_api_Obs o_))),(2,.own 105 1 0),(5,.osl 106 1),(6,.osl 107 1),(8,.own 108 1 0),(9,.im (nI s1552)),(11,.im (nI e1595)),(29,.im (nL c_api_Trace o_.Traces)),(30,.im (nI (↑(List.length o_.Traces):Int))),(31,.im (nI (↑y1115:Int))),(36,.im (nL cI e1380.In)),(37,.im (nI (↑(List.length e1380.In):Int))),(38,.im (nI (↑y1553:Int)))] [(105,.box 24 4),(106,.grid 60 3 1 (List.map (cL cI) y1611) none),(107,.grid 60 3 1 (List.map (cL cI) y1612) none),(108,.box 70 2)] [(105,0,.im (nI 0)),(105,1,.im (nI 0)),(105,2,.im (.val (.slice none 0 0))),(105,3,.im (.val (.slice none 0 0))),(108,0,.im (nL cI e1380.In)),(108,1,.im (nL cI e1380.Out))]) (fun (y1611,y1612)=>lZ o_.Traces∧lZ e1380.In∧lZ y1611∧lZ y1612∧lZ e1380.Out∧True) (by rintro ⟨y1611,y1612⟩;exact ((Holds.avl 29 rfl).and ((Holds.avl 36 rfl).and ((Holds.kdg 106 rfl).and ((Holds.kdg 107 rfl).and ((Holds.cel 108 1 rfl (by decide) rfl).and (hT))))))) ?_ ?_
 conv=>whnf
 obtain ⟨e1613,he1613z,he1613,h⟩:=idx_some h
 refine Side.mk ⟨he1613z,rfl,map_lt he1613⟩ ?_
 conv=>whnf
 refine Side.mk ⟨rfl,map_lt he1613⟩ ?_
 conv=>whnf
 obtain ⟨e1614,he1614z,he1614,h⟩:=idx_some h
 refine ⟨_,⟨he1614z,rfl,map_at he1613,map_lt he1614⟩,?_⟩
 conv=>whnf
 refine ⟨_,_,_,⟨rfl,map_at he1613,map_at he1614,rfl⟩,?_⟩
 conv=>whnf
 refine Both.mk ?_ ?_<;>intro b1615
 obtain ⟨h,b1615d⟩:=ctd b1615 h
 conv=>whnf
 refine Side.mk rfl ?_
 conv=>whnf
 refine Nf.mk (List.length y1550) len_map ?_
 conv=>whnf
 refine Both.mk ?_ ?_<;>intro b1616
 obtain ⟨h,b1616d⟩:=ctd b1616 h
 conv=>whnf
 refine Side.mk rfl ?_
 conv=>whnf
 cases h
 replace h:some _=some _:=hk1597
 cases h
 have ho1593:_=_:=ho1593
 cases ho1593
 replace h:some _=some _:=hk1381
 cases h
 have ho1378:_=_:=ho1378
 cases ho1378
 replace h:some _=some _:=hk55
 cases h
 conv=>whnf
 refine Side.mk ⟨rfl,trivial⟩ ?_
 conv=>whnf
 exact ⟨rfl,rfl⟩
 obtain ⟨h,b1616d⟩:=cfd b1616 h
 conv=>whnf
 obtain ⟨e1617,he1617z,he1617,h⟩:=idx_some h
 refine Side.mk ⟨he1617z,rfl,map_lt he1617⟩ ?_
 conv=>whnf
 refine Side.mk ⟨rfl,map_lt he1617⟩ ?_
 conv=>whnf
 obtain ⟨e1618,he1618z,he1618,h⟩:=idx_some h
 refine Side.mk ⟨he1618z,rfl,map_lt he1618⟩ ?_
 conv=>whnf
 refine Side.mk ⟨rfl,map_lt he1618⟩ ?_
 conv=>whnf
 refine Side.mk rfl ?_
 conv=>whnf
 refine Nf.mk (List.length y1550) len_map ?_
 conv=>whnf
 refine Side.mk rfl ?_
 conv=>whnf
 refine Side.mk rfl ?_
 conv=>whnf
 obtain ⟨e1619,he1619,h⟩:=idxn_some h
 refine ⟨_,⟨(by omega),map_at he1619,rfl⟩,?_⟩
 conv=>whnf
 obtain ⟨e1620,he1620z,he1620,h⟩:=idx_some h
 refine ⟨_,⟨he1620z,rfl,map_at he1617,map_lt he1620⟩,?_⟩
 conv=>whnf
 refine ⟨_,_,⟨rfl,map_at he1617,map_at he1620⟩,?_⟩
 conv=>whnf
 refine Nf.mk (List.map (cL cI) (List.set y1550 (Int.toNat s1552) (List.set e1617 (Int.toNat e1595) (↑(List.length y1550):Int)))) (set_grid2 rfl) ?_
 conv=>whnf
 obtain ⟨e1621,he1621z,he1621,h⟩:=idx_some h
 refine ⟨_,⟨he1621z,rfl,map_at he1618,map_lt he1621⟩,?_⟩
 conv=>whnf
 refine ⟨_,_,⟨rfl,map_at he1618,map_at he1621⟩,?_⟩
 conv=>whnf
 refine Nf.mk (List.map (cL cI) (List.set y1551 (Int.toNat s1552) (List.set e1618 (Int.toNat e1595) e1619))) (set_grid2 rfl) ?_
 conv=>whnf
 obtain ⟨c1622,hc1622,h⟩:=bind_some h
 refine ⟨_,(sp_merge_row o_.Inputs c1622 (fun _=>hc1622)),?_⟩
 conv=>whnf
 refine Side.mk ⟨rfl,trivial⟩ ?_
 conv=>whnf
 refine Nf.mk (List.map (cL cI) [c1622]) rfl ?_
 conv=>whnf
 obtain ⟨c1623,h⟩:=chk_some h
 refine Side.mk ⟨rfl,rfl,trivial⟩ ?_
 conv=>whnf
 refine Side.mk (show capOk _ 24 by have hh_:=c1623;simpa only [List.length_map] using hh_) ?_
 conv=>whnf
 refine Nf.mk (List.map (cL cI) ((List.set y1550 (Int.toNat s1552) (List.set e1617 (Int.toNat e1595) (↑(List.length y1550):Int)))++[c1622])) (app_map (l:=(List.set y1550 (Int.toNat s1552) (List.set e1617 (Int.toNat e1595) (↑(List.length y1550):Int)))) (m:=[c1622]) (c:=cL cI)) ?_
 conv=>whnf
 obtain ⟨c1624,hc1624,h⟩:=bind_some h
 refine ⟨_,(sp_merge_row o_.Inputs c1624 (fun _=>hc1624)),?_⟩
 conv=>whnf
 refine Side.mk ⟨rfl,trivial⟩ ?_
 conv=>whnf
 refine Nf.mk (List.map (cL cI) [c1624]) rfl ?_
 conv=>whnf
 obtain ⟨c1625,h⟩:=chk_some h
 refine Side.mk ⟨rfl,rfl,trivial⟩ ?_
 conv=>whnf
 refine Side.mk (show capOk _ 24 by have hh_:=c1625;simpa only [List.length_map] using hh_) ?_
 conv=>whnf
 refine Nf.mk (List.map (cL cI) ((List.set y1551 (Int.toNat s1552) (List.set e1618 (Int.toNat e1595) e1619))++[c1624])) (app_map (l:=(List.set y1551 (Int.toNat s1552) (List.set e1618 (Int.toNat e1595) e1619))) (m:=[c1624]) (c:=cL cI)) ?_
 conv=>whnf
 cases h
 exact JoinS.mk' _ rfl (eA [(105,some 105),(106,some 79),(107,some 85),(108,some 108)])
 obtain ⟨h,b1615d⟩:=cfd b1615 h
 conv=>whnf
 cases h
 exact JoinS.mk' _ rfl (eA [(105,some 105),(106,some 106),(107,some 107),(108,some 108)])
 rintro ⟨y1611,y1612⟩ rfl hp
 have hx_:=sum_inl hk1597
 replace h:merge_Tree.k53 s1552 y1553 e1595 y1611 y1612=some _:=hx_
 clear hx_
 unfold merge_Tree.k53 at h
 obtain ⟨z1626,z1627,z1628,z1629,z1630,_⟩:=hp
 conv=>whnf
 obtain ⟨e1631,he1631z,he1631,h⟩:=idx_some h
 refine Side.mk ⟨he1631z,rfl,map_lt he1631⟩ ?_
 conv=>whnf
 refine Side.mk ⟨rfl,map_lt he1631⟩ ?_
 conv=>whnf
 obtain ⟨e1632,he1632z,he1632,h⟩:=idx_some h
 refine ⟨_,⟨he1632z,rfl,map_at he1631,map_lt he1632⟩,?_⟩
 conv=>whnf
 refine ⟨_,_,_,⟨rfl,map_at he1631,map_at he1632,rfl⟩,?_⟩
 conv=>whnf
 refine Arith.mk (by show inR _;unfold inR;omega) ?_
 conv=>whnf
 cases h
 exact Nxt.mk _ ho1593 (eA [(105,some 105),(106,some 106),(107,some 107),(108,some 108)])
 obtain ⟨h,b1594d⟩:=cfd b1594 h
 conv=>whnf
 cases h
 have ho1593:_=_:=ho1593
 cases ho1593
 exact JoinS.mk' _ rfl (eA [(105,some 105),(106,some 106),(107,some 107)])
 rintro ⟨y1509,y1510⟩ rfl hp
 have hx_:=sum_inl hk1381
 replace h:merge_Tree.k55 y1115 y1509 y1510=some _:=hx_
 clear hx_
 unfold merge_Tree.k55 at h
 obtain ⟨z1638,z1639,z1640,_⟩:=hp
 conv=>whnf
 refine Arith.mk (by show inR _;unfold inR;omega) ?_
 conv=>whnf
 cases h
 exact Nxt.mk _ ho1378 (eA [(105,some 105),(106,some 106),(107,some 107)])
 obtain ⟨h,b1379d⟩:=cfd b1379 h
 conv=>whnf
 cases h
 have ho1378:_=_:=ho1378
 cases ho1378
 exact JoinS.mk' _ rfl (eA [(105,some 105),(106,some 106),(107,some 107)])
 rintro ⟨y849,y850⟩ rfl hp
 have hx_:=sum_inl hk55
 replace h:merge_Tree.k57 o_ y849 y850=some _:=hx_
 clear hx_
 unfold merge_Tree.k57 at h
 obtain ⟨z1644,z1645,_⟩:=hp
 conv=>whnf
 refine Side.mk ⟨rfl,rfl,trivial⟩ ?_
 conv=>whnf
 obtain ⟨c1646,hc1646,h⟩:=bind_some h
 refine ⟨_,(sp_merge_renumbered (⟨o_.Inputs,0,y849,y850⟩:T_api_Part) c1646 (fun _=>hc1646)),?_⟩
 conv=>whnf
 refine Side.mk rfl ?_
 conv=>whnf
 refine Side.mk rfl ?_
 conv=>whnf
 refine Side.mk rfl ?_
 conv=>whnf
 cases h
 conv=>whnf
 refine Side.mk ⟨rfl,trivial⟩ ?_
 conv=>whnf
 exact ⟨rfl,rfl⟩
theorem sp_merge_blocks_int_of (b_:T_merge_blocks_int_) (x_:Int) (r:Int×(List (Int×Int))) (h:OkA (.lent (.map (mapV wI wI b_.up)))→Ok (nI x_)→merge_blocks_int_of b_ x_=some r):SpX Tryz.prog 106 (.lent .dead::.box 0 [.im .any]::[.lent (.map (mapV wI wI b_.up)),.im (nI x_)]) (.mk false [.im (nI r.1)] [.lent (.map (mapV wI wI r.2))]):=by
 refine sp_ofA rfl [] 0 [.im .any] 1 rfl rfl rfl rfl (Nat.le_of_ble_eq_true rfl) (Nat.le_of_ble_eq_true rfl) rfl fun hk=>?_
 replace h:=h hk.1 hk.2.1
 unfold merge_blocks_int_of at h
 conv=>whnf
 refine Loops.iter (fun (s:Int)=>merge_blocks_int_of.s1 b_ s) (fun x52=>mkSt [(0,.agg [.osl 0 0]),(1,.im (nI x52)),(2,.own 65 1 0)] [(0,.map (mapV wI wI b_.up)),(65,.box 146 1)] [(65,0,.osl 0 0)]) (fun x52=>True) h (Ent.mk [(0,some 0),(65,some 2)] rfl ⟨⟨.agg [.osl 0 _],rfl,.agg (.cons (.osl rfl rfl rfl) (.nil))⟩,eI rfl rfl,⟨.own 2 _ 0,rfl,.own rfl rfl rfl⟩,trivial⟩ ⟨.inl ⟨0,rfl,rfl,⟨rfl,rfl⟩⟩,.inl ⟨2,rfl,rfl,trivial⟩,trivial⟩ ⟨⟨2,.osl 0 _,rfl,rfl,.osl rfl rfl rfl⟩,trivial⟩) (by rintro x52;exact (hT)) ?_
 clear h
 rintro k x52 o hp h ho54
 replace h:merge_blocks_int_of.s1 b_ x52=some o:=h
 unfold merge_blocks_int_of.s1 at h
 conv=>whnf
 refine Side.mk rfl ?_
 conv=>whnf
 refine Side.mk rfl ?_
 conv=>whnf
 refine Side.mk rfl ?_
 conv=>whnf
 refine ⟨_,find_int _ wI _,?_⟩
 conv=>whnf
 refine Nf.mk (wI ((mget x52 b_.up).getD 0)) (getD_map rfl _) ?_
 conv=>whnf
 refine Nf.mk (mget x52 b_.up).isSome (isSome_map _) ?_
 conv=>whnf
 refine Both.mk ?_ ?_<;>intro b55
 replace h:=cond_t b55 h
 conv=>whnf
 cases h
 have ho54:_=_:=ho54
 cases ho54
 conv=>whnf
 exact Side.mk ⟨rfl,trivial⟩ ⟨rfl,rfl⟩
 replace h:=cond_f b55 h
 conv=>whnf
 cases h
 exact Nxt.mk _ ho54 (Ent.mk [(0,some 0),(65,some 65)] rfl ⟨⟨.agg [.osl 0 _],rfl,.agg (.cons (.osl rfl rfl rfl) (.nil))⟩,eI rfl rfl,⟨.own 65 _ 0,rfl,.own rfl rfl rfl⟩,trivial⟩ ⟨.inl ⟨0,rfl,rfl,⟨rfl,rfl⟩⟩,.inl ⟨65,rfl,rfl,trivial⟩,trivial⟩ ⟨⟨65,.osl 0 _,rfl,rfl,.osl rfl rfl rfl⟩,trivial⟩)
theorem sp_merge_blocks_int_join (b_:T_merge_blocks_int_) (x_:Int) (y_:Int) (r:List (Int×Int)) (h:OkA (.lent (.map (mapV wI wI b_.up)))→Ok (nI x_)→Ok (nI y_)→merge_blocks_int_join b_ x_ y_=some r):SpX Tryz.prog 107 (.lent .dead::.box 0 [.im .any]::[.lent (.map (mapV wI wI b_.up)),.im (nI x_),.im (nI y_)]) (.mk true [] [.lent (.map (mapV wI wI r))]):=by
 refine sp_ofA rfl [] 0 [.im .any] 2 rfl rfl rfl rfl (Nat.le_of_ble_eq_true rfl) (Nat.le_of_ble_eq_true rfl) rfl fun hk=>?_
 replace h:=h hk.1 hk.2.1 hk.2.2.1
 unfold merge_blocks_int_join at h
 conv=>whnf
 refine Side.mk rfl ?_
 conv=>whnf
 refine Side.mk rfl ?_
 conv=>whnf
 refine Side.mk rfl ?_
 conv=>whnf
 refine ⟨_,set_int _ x_ wI _,?_⟩
 conv=>whnf
 cases h
 conv=>whnf
 exact Side.mk ⟨rfl,trivial⟩ ⟨rfl,rfl⟩
theorem sp_merge_folded (p_:T_api_Part) (s_:Int) (t_:Int) (r:T_api_Part×List Int×Bool) (h:Ok (.agg (c_api_Part p_))→Ok (nI s_)→Ok (nI t_)→merge_folded p_ s_ t_=some r):Sp Tryz.prog 73 [.im (.agg (c_api_Part p_)),.im (nI s_),.im (nI t_)] (.tup [.agg (c_api_Part r.1),nL cI r.2.1,nB r.2.2]):=by
 refine sp_of rfl [35,47,63,73000,79000,94000,202000,209000,229000,700003,2073000,2079000,2094000,2202000,2209000,2229000,8000072,8000078,8000093,8000201,8000208,8000228,9000042,9000054] rfl rfl rfl (Nat.le_of_ble_eq_true rfl) rfl fun hk=>?_
 replace h:=h hk.1 hk.2.1 hk.2.2.1
 have z1:lZ p_.Next:=ok_len (Ok.agg_at hk.1 2 rfl)
 have z2:lZ p_.Out:=ok_len (Ok.agg_at hk.1 3 rfl)
 unfold merge_folded at h
 conv=>whnf
 refine Side.mk rfl ?_
 conv=>whnf
 refine Nf.mk (List.length p_.Next) len_map ?_
 conv=>whnf
 obtain ⟨⟨y77,y78⟩,hc,hk51⟩:=bind_some h
 clear h
 have h:=hc
 clear hc
 refine Cut.mk (mkSt [(1,.im (nI s_)),(2,.im (nI t_)),(3,.im (.ref (c_api_Part p_))),(6,.own 235 1 0),(9,.own 236 1 0)] [(235,.box 24 4),(236,.box 24 4),(237,.grid 60 3 1 (List.map (cL cI) y77) none),(238,.grid 60 3 1 (List.map (cL cI) y78) none)] [(235,0,.im (nI 0)),(235,1,.im (nI 0)),(235,2,.im (.val (.slice none 0 0))),(235,3,.im (.val (.slice none 0 0))),(236,0,.im (nI p_.Inputs)),(236,1,.im (nI 0)),(236,2,.osl 237 1),(236,3,.osl 238 1)]) (lZ y77∧lZ y78∧True) ((Holds.kdg 237 rfl).and ((Holds.kdg 238 rfl).and (hT))) ?_ (fun hp=>?_)
 conv=>whnf
 refine Loops.iter (fun (s:List (List Int)×List (List Int)×Nat)=>merge_folded.s2 p_ s.1 s.2.1 s.2.2) (fun (y84,y85,y86)=>mkSt [(1,.im (nI s_)),(2,.im (nI t_)),(3,.im (.ref (c_api_Part p_))),(6,.own 235 1 0),(9,.own 236 1 0),(29,.im (nI (↑(List.length p_.Next):Int))),(30,.im (nI (↑y86:Int)))] [(235,.box 24 4),(236,.box 24 4),(237,.grid 60 3 1 (List.map (cL cI) y84) none),(238,.grid 60 3 1 (List.map (cL cI) y85) none)] [(235,0,.im (nI 0)),(235,1,.im (nI 0)),(235,2,.im (.val (.slice none 0 0))),(235,3,.im (.val (.slice none 0 0))),(236,0,.im (nI p_.Inputs)),(236,1,.im (nI 0)),(236,2,.osl 237 1),(236,3,.osl 238 1)]) (fun (y84,y85,y86)=>lZ y84∧lZ y85∧True) h (Ent.mk [(235,some 6),(236,some 9),(237,none),(238,none)] rfl ⟨eI rfl rfl,eI rfl rfl,eI rfl rfl,⟨.own 6 _ 0,rfl,.own rfl rfl rfl⟩,⟨.own 9 _ 0,rfl,.own rfl rfl rfl⟩,eI rfl rfl,eI rfl rfl,trivial⟩ ⟨.inl ⟨6,rfl,rfl,trivial⟩,.inl ⟨9,rfl,rfl,trivial⟩,.inr ⟨rfl,rfl,.inr (.inl ⟨_,_,_,rfl⟩)⟩,.inr ⟨rfl,rfl,.inr (.inl ⟨_,_,_,rfl⟩)⟩,trivial⟩ ⟨⟨6,.im _,rfl,rfl,.im (Sub.rfl' rfl)⟩,⟨6,.im _,rfl,rfl,.im (Sub.rfl' rfl)⟩,⟨6,.im (.val (.slice none 0 0)),rfl,rfl,.im (Sub.rfl' rfl)⟩,⟨6,.im (.val (.slice none 0 0)),rfl,rfl,.im (Sub.rfl' rfl)⟩,⟨9,.im _,rfl,rfl,.im (Sub.rfl' rfl)⟩,⟨9,.im _,rfl,rfl,.im (Sub.rfl' rfl)⟩,⟨9,.im (.val (.slice none 0 0)),rfl,rfl,.made rfl rfl⟩,⟨9,.im (.val (.slice none 0 0)),rfl,rfl,.made rfl rfl⟩,trivial⟩) (by rintro ⟨y84,y85,y86⟩;exact ((Holds.kdg 237 rfl).and ((Holds.kdg 238 rfl).and (hT)))) ?_
 clear h
 rintro k ⟨y84,y85,y86⟩ o hp h ho94
 replace h:merge_folded.s2 p_ y84 y85 y86=some o:=h
 unfold merge_folded.s2 at h
 obtain ⟨z102,z103,_⟩:=hp
 conv=>whnf
 refine Both.mk ?_ ?_<;>intro b95
 obtain ⟨h,b95d⟩:=ctd b95 h
 conv=>whnf
 refine Side.mk rfl ?_
 conv=>whnf
 refine Side.mk rfl ?_
 conv=>whnf
 obtain ⟨e96,he96,h⟩:=idxn_some h
 refine ⟨_,⟨(by omega),map_at he96,rfl⟩,?_⟩
 conv=>whnf
 obtain ⟨c97,h⟩:=chk_some h
 refine Side.mk ⟨rfl,map_len (l:=e96) (c:=cI) fun _=>rfl,show capOk _ 8 by simpa only [List.length_map,List.length_cons,List.length_nil,Nat.zero_add] using c97⟩ ?_
 conv=>whnf
 refine Nf.mk (List.map cI ([]++e96)) (app_map (l:=[]) (m:=e96) (c:=cI)) ?_
 conv=>whnf
 refine Side.mk ⟨rfl,trivial⟩ ?_
 conv=>whnf
 refine Nf.mk (List.map (cL cI) [([]++e96)]) rfl ?_
 conv=>whnf
 obtain ⟨c98,h⟩:=chk_some h
 refine Side.mk ⟨rfl,rfl,trivial⟩ ?_
 conv=>whnf
 refine Side.mk (show capOk _ 24 by have hh_:=c98;simpa only [List.length_map] using hh_) ?_
 conv=>whnf
 refine Nf.mk (List.map (cL cI) (y84++[([]++e96)])) (app_map (l:=y84) (m:=[([]++e96)]) (c:=cL cI)) ?_
 conv=>whnf
 refine Side.mk rfl ?_
 conv=>whnf
 refine Side.mk rfl ?_
 conv=>whnf
 refine Side.mk rfl ?_
 conv=>whnf
 refine Side.mk rfl ?_
 conv=>whnf
 obtain ⟨e99,he99,h⟩:=idxn_some h
 refine ⟨_,⟨(by omega),map_at he99,rfl⟩,?_⟩
 conv=>whnf
 obtain ⟨c100,h⟩:=chk_some h
 refine Side.mk ⟨rfl,map_len (l:=e99) (c:=cI) fun _=>rfl,show capOk _ 8 by simpa only [List.length_map,List.length_cons,List.length_nil,Nat.zero_add] using c100⟩ ?_
 conv=>whnf
 refine Nf.mk (List.map cI ([]++e99)) (app_map (l:=[]) (m:=e99) (c:=cI)) ?_
 conv=>whnf
 refine Side.mk ⟨rfl,trivial⟩ ?_
 conv=>whnf
 refine Nf.mk (List.map (cL cI) [([]++e99)]) rfl ?_
 conv=>whnf
 obtain ⟨c101,h⟩:=chk_some h
 refine Side.mk ⟨rfl,rfl,trivial⟩ ?_
 conv=>whnf
 refine Side.mk (show capOk _ 24 by have hh_:=c101;simpa only [List.length_map] using hh_) ?_
 conv=>whnf
 refine Nf.mk (List.map (cL cI) (y85++[([]++e99)])) (app_map (l:=y85) (m:=[([]++e99)]) (c:=cL cI)) ?_
 conv=>whnf
 refine Side.mk rfl ?_
 conv=>whnf
 refine Side.mk rfl ?_
 conv=>whnf
 refine Arith.mk (by show inR _;unfold inR;omega) ?_
 conv=>whnf
 cases h
 exact Nxt.mk _ ho94 (eA [(235,some 235),(236,some 236),(237,some 43),(238,some 55)])
 obtain ⟨h,b95d⟩:=cfd b95 h
 conv=>whnf
 cases h
 have ho94:_=_:=ho94
 cases ho94
 exact Join.mk (eA [(235,some 235),(236,some 236),(237,some 237),(238,some 238)])
 replace h:merge_folded.k71 p_ s_ t_ y77 y78=some _:=hk51
 unfold merge_folded.k71 at h
 obtain ⟨z104,z105,_⟩:=hp
 conv=>whnf
 refine Side.mk rfl ?_
 conv=>whnf
 obtain ⟨oc,hc,hk106⟩:=bind_some h
 clear h
 have h:=hc
 clear hc
 refine Cut.mkS oc (Y:=List (List Int)×List (List Int)×(List (Int×Int))) (fun (y1156,y1157,y1158)=>mkSt [(3,.im (.ref (c_api_Part p_))),(6,.own 235 1 0),(9,.own 236 1 0),(11,.own 239 1 0)] [(235,.box 24 4),(236,.box 24 4),(237,.grid 60 3 1 (List.map (cL cI) y1156) none),(238,.grid 60 3 1 (List.map (cL cI) y1157) none),(239,.box 146 1),(240,.map (mapV wI wI y1158))] [(235,0,.im (nI 0)),(235,1,.im (nI 0)),(235,2,.im (.val (.slice none 0 0))),(235,3,.im (.val (.slice none 0 0))),(236,0,.im (nI p_.Inputs)),(236,1,.im (nI 0)),(236,2,.osl 237 1),(236,3,.osl 238 1),(239,0,.osl 240 1)]) (fun (y1156,y1157,y1158)=>lZ y1156∧lZ y1157∧True) (by rintro ⟨y1156,y1157,y1158⟩;exact ((Holds.kdg 237 rfl).and ((Holds.kdg 238 rfl).and (hT)))) ?_ ?_
 conv=>whnf
 refine Loops.iter (fun (s:List (List Int)×List (List Int)×(List (Int×Int))×List T_A2)=>merge_folded.s46 s.1 s.2.1 s.2.2.1 s.2.2.2) (fun (y1506,y1507,y1508,y1509)=>mkSt [(3,.im (.ref (c_api_Part p_))),(6,.own 235 1 0),(9,.own 236 1 0),(11,.own 239 1 0),(12,.osl 241 1)] [(235,.box 24 4),(236,.box 24 4),(237,.grid 60 3 1 (List.map (cL cI) y1506) none),(238,.grid 60 3 1 (List.map (cL cI) y1507) none),(239,.box 146 1),(240,.map (mapV wI wI y1508)),(241,.que 121 2 (List.map c_A2 y1509))] [(235,0,.im (nI 0)),(235,1,.im (nI 0)),(235,2,.im (.val (.slice none 0 0))),(235,3,.im (.val (.slice none 0 0))),(236,0,.im (nI p_.Inputs)),(236,1,.im (nI 0)),(236,2,.osl 237 1),(236,3,.osl 238 1),(239,0,.osl 240 1)]) (fun (y1506,y1507,y1508,y1509)=>lZ y1506∧lZ y1507∧lZ y1509∧True) h ((Ent.que 63 rfl).trans (eA [(235,some 235),(236,some 236),(237,some 237),(238,some 238),(239,some 11),(240,some 58),(241,some 63)])) (by rintro ⟨y1506,y1507,y1508,y1509⟩;exact ((Holds.kdg 237 rfl).and ((Holds.kdg 238 rfl).and ((Holds.kdql 241 rfl).and (hT))))) ?_
 clear h
 rintro k ⟨y1506,y1507,y1508,y1509⟩ o hp h ho1857
 replace h:merge_folded.s46 y1506 y1507 y1508 y1509=some o:=h
 unfold merge_folded.s46 at h
 obtain ⟨z2205,z2206,z2207,_⟩:=hp
 conv=>whnf
 refine Side.mk rfl ?_
 conv=>whnf
 refine Nf.mk (List.length y1509) len_map ?_
 conv=>whnf
 refine Both.mk ?_ ?_<;>intro b1858
 obtain ⟨h,b1858d⟩:=ctd b1858 h
 conv=>whnf
 obtain ⟨oc,hc,hk1859⟩:=bind_some h
 clear h
 have h:=hc
 clear hc
 refine Cut.mkS oc (Y:=List (List Int)×List (List Int)×(List (Int×Int))×List T_A2) (fun (y2029,y2030,y2031,y2032)=>mkSt [(3,.im (.ref (c_api_Part p_))),(6,.own 235 1 0),(9,.own 236 1 0),(11,.own 239 1 0),(12,.osl 241 1)] [(235,.box 24 4),(236,.box 24 4),(237,.grid 60 3 1 (List.map (cL cI) y2029) none),(238,.grid 60 3 1 (List.map (cL cI) y2030) none),(239,.box 146 1),(240,.map (mapV wI wI y2031)),(241,.que 121 2 (List.map c_A2 y2032))] [(235,0,.im (nI 0)),(235,1,.im (nI 0)),(235,2,.im (.val (.slice none 0 0))),(235,3,.im (.val (.slice none 0 0))),(236,0,.im (nI p_.Inputs)),(236,1,.im (nI 0)),(236,2,.osl 237 1),(236,3,.osl 238 1),(239,0,.osl 240 1)]) (fun (y2029,y2030,y2031,y2032)=>lZ y2029∧lZ y2030∧lZ y2032∧True) (by rintro ⟨y2029,y2030,y2031,y2032⟩;exact ((Holds.kdg 237 rfl).and ((Holds.kdg 238 rfl).and ((Holds.kdql 241 rfl).and (hT))))) ?_ ?_
 conv=>whnf
 refine Side.mk rfl ?_
 conv=>whnf
 obtain ⟨e2033,he2033,h⟩:=idxn_some h
 refine Side.mk ⟨(by omega),rfl,map_lt he2033⟩ ?_
 conv=>whnf
 refine Side.mk ⟨by decide,by decide,rfl⟩ ?_
 conv=>whnf
 refine ⟨_,_,⟨rfl,map_at he2033,rfl,rfl⟩,?_⟩
 conv=>whnf
 refine Side.mk ⟨rfl,trivial⟩ ?_
 conv=>whnf
 obtain ⟨c2034,hc2034,h⟩:=bind_some h
 refine ⟨_,(sp_merge_blocks_int_of (⟨y1508⟩:T_merge_blocks_int_) e2033.f0 c2034 (fun _ _=>hc2034)),?_⟩
 conv=>whnf
 refine Side.mk rfl ?_
 conv=>whnf
 obtain ⟨e2035,he2035,h⟩:=idxn_some h
 refine Side.mk ⟨(by omega),rfl,map_lt he2035⟩ ?_
 conv=>whnf
 refine Side.mk ⟨by decide,by decide,rfl⟩ ?_
 conv=>whnf
 refine ⟨_,_,⟨rfl,map_at he2035,rfl,rfl⟩,?_⟩
 conv=>whnf
 refine Side.mk ⟨rfl,trivial⟩ ?_
 conv=>whnf
 obtain ⟨c2036,hc2036,h⟩:=bind_some h
 refine ⟨_,(sp_merge_blocks_int_of (⟨c2034.2⟩:T_merge_blocks_int_) e2035.f1 c2036 (fun _ _=>hc2036)),?_⟩
 conv=>whnf
 obtain ⟨c2037,h⟩:=chk_some h
 refine Side.mk ⟨rfl,by decide,by have hh_:=c2037;simp only [List.length_map];exact hh_⟩ ?_
 conv=>whnf
 refine Nf.mk (List.map c_A2 (List.drop 1 y1509)) List.map_drop ?_
 conv=>whnf
 refine Both.mk ?_ ?_<;>intro b2038
 obtain ⟨h,b2038d⟩:=ctd b2038 h
 conv=>whnf
 cases h
 exact JoinS.mk' _ rfl (eA [(235,some 235),(236,some 236),(237,some 237),(238,some 238),(239,some 239),(240,some 240),(241,some 241)])
 obtain ⟨h,b2038d⟩:=cfd b2038 h
 conv=>whnf
 refine Side.mk rfl ?_
 conv=>whnf
 refine Side.mk ⟨rfl,trivial⟩ ?_
 conv=>whnf
 obtain ⟨c2039,hc2039,h⟩:=bind_some h
 refine ⟨_,(sp_merge_blocks_int_join (⟨c2036.2⟩:T_merge_blocks_int_) (min c2034.1 c2036.1) (max c2034.1 c2036.1) c2039 (fun _ _ _=>hc2039)),?_⟩
 conv=>whnf
 refine Side.mk rfl ?_
 conv=>whnf
 refine Side.mk rfl ?_
 conv=>whnf
 obtain ⟨e2040,he2040z,he2040,h⟩:=idx_some h
 refine Side.mk ⟨he2040z,rfl,map_lt he2040⟩ ?_
 conv=>whnf
 refine Side.mk ⟨rfl,map_lt he2040⟩ ?_
 conv=>whnf
 refine ⟨_,⟨rfl,map_at he2040⟩,?_⟩
 conv=>whnf
 refine Nf.mk (List.length e2040) len_map ?_
 conv=>whnf
 obtain ⟨oc,hc,hk2041⟩:=bind_some h
 clear h
 have h:=hc
 clear hc
 refine Cut.mkS oc (Y:=List (List Int)×List (List Int)×List T_A2) (fun (y2119,y2120,y2121)=>mkSt [(3,.im (.ref (c_api_Part p_))),(6,.own 235 1 0),(9,.own 236 1 0),(11,.own 239 1 0),(12,.osl 241 1)] [(235,.box 24 4),(236,.box 24 4),(237,.grid 60 3 1 (List.map (cL cI) y2119) none),(238,.grid 60 3 1 (List.map (cL cI) y2120) none),(239,.box 146 1),(240,.map (mapV wI wI c2039)),(241,.que 121 2 (List.map c_A2 y2121))] [(235,0,.im (nI 0)),(235,1,.im (nI 0)),(235,2,.im (.val (.slice none 0 0))),(235,3,.im (.val (.slice none 0 0))),(236,0,.im (nI p_.Inputs)),(236,1,.im (nI 0)),(236,2,.osl 237 1),(236,3,.osl 238 1),(239,0,.osl 240 1)]) (fun (y2119,y2120,y2121)=>lZ y2119∧lZ y2120∧lZ y2121∧True) (by rintro ⟨y2119,y2120,y2121⟩;exact ((Holds.kdg 237 rfl).and ((Holds.kdg 238 rfl).and ((Holds.kdql 241 rfl).and (hT))))) ?_ ?_
 conv=>whnf
 refine Loops.iter (fun (s:List (List Int)×List (List Int)×List T_A2×Nat)=>merge_folded.s43 c2034 c2036 e2040 s.1 s.2.1 s.2.2.1 s.2.2.2) (fun (y2143,y2144,y2145,y2146)=>mkSt [(3,.im (.ref (c_api_Part p_))),(6,.own 235 1 0),(9,.own 236 1 0),(11,.own 239 1 0),(12,.osl 241 1),(13,.im (nI (min c2034.1 c2036.1))),(14,.im (nI (max c2034.1 c2036.1))),(98,.sub 237 0 (Int.toNat (max c2034.1 c2036.1))),(99,.im (nI (↑(List.length e2040):Int))),(100,.im (nI (↑y2146:Int)))] [(235,.box 24 4),(236,.box 24 4),(237,.grid 60 3 1 (List.map (cL cI) y2143) none),(238,.grid 60 3 1 (List.map (cL cI) y2144) none),(239,.box 146 1),(240,.map (mapV wI wI c2039)),(241,.que 121 2 (List.map c_A2 y2145))] [(235,0,.im (nI 0)),(235,1,.im (nI 0)),(235,2,.im (.val (.slice none 0 0))),(235,3,.im (.val (.slice none 0 0))),(236,0,.im (nI p_.Inputs)),(236,1,.im (nI 0)),(236,2,.osl 237 1),(236,3,.osl 238 1),(239,0,.osl 240 1)]) (fun (y2143,y2144,y2145,y2146)=>lZ y2143∧lZ y2144∧lZ y2145∧True) h (Ent.mk [(235,some 235),(236,some 236),(237,some 237),(238,some 238),(239,some 239),(240,some 240),(241,some 241)] rfl ⟨eI rfl rfl,⟨.own 235 _ 0,rfl,.own rfl rfl rfl⟩,⟨.own 236 _ 0,rfl,.own rfl rfl rfl⟩,⟨.own 239 _ 0,rfl,.own rfl rfl rfl⟩,⟨.osl 241 _,rfl,.osl rfl rfl rfl⟩,eI rfl rfl,eI rfl rfl,⟨.sub 237 _ _,rfl,.sub rfl rfl⟩,eI rfl rfl,eI rfl rfl,trivial⟩ ⟨.inl ⟨235,rfl,rfl,trivial⟩,.inl ⟨236,rfl,rfl,trivial⟩,.inl ⟨237,rfl,rfl,trivial⟩,.inl ⟨238,rfl,rfl,trivial⟩,.inl ⟨239,rfl,rfl,trivial⟩,.inl ⟨240,rfl,rfl,trivial⟩,.inl ⟨241,rfl,rfl,trivial⟩,trivial⟩ ⟨⟨235,.im _,rfl,rfl,.im (Sub.rfl' rfl)⟩,⟨235,.im _,rfl,rfl,.im (Sub.rfl' rfl)⟩,⟨235,.im (.val (.slice none 0 0)),rfl,rfl,.im (Sub.rfl' rfl)⟩,⟨235,.im (.val (.slice none 0 0)),rfl,rfl,.im (Sub.rfl' rfl)⟩,⟨236,.im _,rfl,rfl,.im (Sub.rfl' rfl)⟩,⟨236,.im _,rfl,rfl,.im (Sub.rfl' rfl)⟩,⟨236,.osl 237 _,rfl,rfl,.osl rfl rfl rfl⟩,⟨236,.osl 238 _,rfl,rfl,.osl rfl rfl rfl⟩,⟨239,.osl 240 _,rfl,rfl,.osl rfl rfl rfl⟩,trivial⟩) (by rintro ⟨y2143,y2144,y2145,y2146⟩;exact ((Holds.kdg 237 rfl).and ((Holds.kdg 238 rfl).and ((Holds.kdql 241 rfl).and (hT))))) ?_
 clear h
 rintro k ⟨y2143,y2144,y2145,y2146⟩ o hp h ho2171
 replace h:merge_folded.s43 c2034 c2036 e2040 y2143 y2144 y2145 y2146=some o:=h
 unfold merge_folded.s43 at h
 obtain ⟨z2196,z2197,z2198,_⟩:=hp
 conv=>whnf
 refine Both.mk ?_ ?_<;>intro b2172
 obtain ⟨h,b2172d⟩:=ctd b2172 h
 conv=>whnf
 obtain ⟨e2174,he2174,h⟩:=idxn_some h
 obtain ⟨e2173,he2173,h⟩:=idxn_some h
 refine ⟨_,⟨(by omega),rfl,map_at he2174,map_lt he2173⟩,?_⟩
 conv=>whnf
 refine ⟨_,_,_,⟨rfl,map_at he2174,map_at he2173,rfl⟩,?_⟩
 conv=>whnf
 refine Both.mk ?_ ?_<;>intro b2175
 obtain ⟨h,b2175d⟩:=ctd b2175 h
 conv=>whnf
 obtain ⟨c2176,h⟩:=chk_some h
 refine Arith.mk c2176 ?_
 conv=>whnf
 cases h
 exact Nxt.mk _ ho2171 (Ent.mk [(235,some 235),(236,some 236),(237,some 237),(238,some 238),(239,some 239),(240,some 240),(241,some 241)] rfl ⟨eI rfl rfl,⟨.own 235 _ 0,rfl,.own rfl rfl rfl⟩,⟨.own 236 _ 0,rfl,.own rfl rfl rfl⟩,⟨.own 239 _ 0,rfl,.own rfl rfl rfl⟩,⟨.osl 241 _,rfl,.osl rfl rfl rfl⟩,eI rfl rfl,eI rfl rfl,⟨.sub 237 _ _,rfl,.sub rfl rfl⟩,eI rfl rfl,eI rfl rfl,trivial⟩ ⟨.inl ⟨235,rfl,rfl,trivial⟩,.inl ⟨236,rfl,rfl,trivial⟩,.inl ⟨237,rfl,rfl,trivial⟩,.inl ⟨238,rfl,rfl,trivial⟩,.inl ⟨239,rfl,rfl,trivial⟩,.inl ⟨240,rfl,rfl,trivial⟩,.inl ⟨241,rfl,rfl,trivial⟩,trivial⟩ ⟨⟨235,.im _,rfl,rfl,.im (Sub.rfl' rfl)⟩,⟨235,.im _,rfl,rfl,.im (Sub.rfl' rfl)⟩,⟨235,.im (.val (.slice none 0 0)),rfl,rfl,.im (Sub.rfl' rfl)⟩,⟨235,.im (.val (.slice none 0 0)),rfl,rfl,.im (Sub.rfl' rfl)⟩,⟨236,.im _,rfl,rfl,.im (Sub.rfl' rfl)⟩,⟨236,.im _,rfl,rfl,.im (Sub.rfl' rfl)⟩,⟨236,.osl 237 _,rfl,rfl,.osl rfl rfl rfl⟩,⟨236,.osl 238 _,rfl,rfl,.osl rfl rfl rfl⟩,⟨239,.osl 240 _,rfl,rfl,.osl rfl rfl rfl⟩,trivial⟩)
 obtain ⟨h,b2175d⟩:=cfd b2175 h
 conv=>whnf
 refine Side.mk rfl ?_
 conv=>whnf
 refine Side.mk rfl ?_
 conv=>whnf
 obtain ⟨e2177,he2177z,he2177,h⟩:=idx_some h
 refine Side.mk ⟨he2177z,rfl,map_lt he2177⟩ ?_
 conv=>whnf
 refine Side.mk ⟨rfl,map_lt he2177⟩ ?_
 conv=>whnf
 obtain ⟨e2178,he2178,h⟩:=idxn_some h
 refine ⟨_,⟨(by omega),rfl,map_at he2177,map_lt he2178⟩,?_⟩
 conv=>whnf
 refine ⟨_,_,_,⟨rfl,map_at he2177,map_at he2178,rfl⟩,?_⟩
 conv=>whnf
 refine Both.mk ?_ ?_<;>intro b2179
 obtain ⟨h,b2179d⟩:=ctd b2179 h
 conv=>whnf
 refine Side.mk rfl ?_
 conv=>whnf
 refine Side.mk rfl ?_
 conv=>whnf
 obtain ⟨e2180,he2180z,he2180,h⟩:=idx_some h
 refine Side.mk ⟨he2180z,rfl,map_lt he2180⟩ ?_
 conv=>whnf
 refine Side.mk ⟨rfl,map_lt he2180⟩ ?_
 conv=>whnf
 refine Side.mk rfl ?_
 conv=>whnf
 refine Side.mk rfl ?_
 conv=>whnf
 obtain ⟨e2181,he2181z,he2181,h⟩:=idx_some h
 refine Side.mk ⟨he2181z,rfl,map_lt he2181⟩ ?_
 conv=>whnf
 refine Side.mk ⟨rfl,map_lt he2181⟩ ?_
 conv=>whnf
 refine Side.mk rfl ?_
 conv=>whnf
 refine Side.mk rfl ?_
 conv=>whnf
 obtain ⟨e2182,he2182z,he2182,h⟩:=idx_some h
 refine Side.mk ⟨he2182z,rfl,map_lt he2182⟩ ?_
 conv=>whnf
 refine Side.mk ⟨rfl,map_lt he2182⟩ ?_
 conv=>whnf
 obtain ⟨e2183,he2183,h⟩:=idxn_some h
 refine ⟨_,⟨(by omega),rfl,map_at he2182,map_lt he2183⟩,?_⟩
 conv=>whnf
 refine ⟨_,_,_,⟨rfl,map_at he2182,map_at he2183,rfl⟩,?_⟩
 conv=>whnf
 obtain ⟨e2184,he2184,h⟩:=idxn_some h
 refine ⟨_,⟨(by omega),rfl,map_at he2180,map_lt he2184⟩,?_⟩
 conv=>whnf
 refine ⟨_,_,⟨rfl,map_at he2180,map_at he2184⟩,?_⟩
 conv=>whnf
 refine Nf.mk (List.map (cL cI) (List.set y2143 (Int.toNat (min c2034.1 c2036.1)) (List.set e2180 y2146 e2173))) (set_grid2 rfl) ?_
 conv=>whnf
 obtain ⟨e2185,he2185,h⟩:=idxn_some h
 refine ⟨_,⟨(by omega),rfl,map_at he2181,map_lt he2185⟩,?_⟩
 conv=>whnf
 refine ⟨_,_,⟨rfl,map_at he2181,map_at he2185⟩,?_⟩
 conv=>whnf
 refine Nf.mk (List.map (cL cI) (List.set y2144 (Int.toNat (min c2034.1 c2036.1)) (List.set e2181 y2146 e2183))) (set_grid2 rfl) ?_
 conv=>whnf
 obtain ⟨c2186,h⟩:=chk_some h
 refine Arith.mk c2186 ?_
 conv=>whnf
 cases h
 exact Nxt.mk _ ho2171 (Ent.mk [(235,some 235),(236,some 236),(237,some 237),(238,some 238),(239,some 239),(240,some 240),(241,some 241)] rfl ⟨eI rfl rfl,⟨.own 235 _ 0,rfl,.own rfl rfl rfl⟩,⟨.own 236 _ 0,rfl,.own rfl rfl rfl⟩,⟨.own 239 _ 0,rfl,.own rfl rfl rfl⟩,⟨.osl 241 _,rfl,.osl rfl rfl rfl⟩,eI rfl rfl,eI rfl rfl,⟨.sub 237 _ _,rfl,.sub rfl rfl⟩,eI rfl rfl,eI rfl rfl,trivial⟩ ⟨.inl ⟨235,rfl,rfl,trivial⟩,.inl ⟨236,rfl,rfl,trivial⟩,.inl ⟨237,rfl,rfl,trivial⟩,.inl ⟨238,rfl,rfl,trivial⟩,.inl ⟨239,rfl,rfl,trivial⟩,.inl ⟨240,rfl,rfl,trivial⟩,.inl ⟨241,rfl,rfl,trivial⟩,trivial⟩ ⟨⟨235,.im _,rfl,rfl,.im (Sub.rfl' rfl)⟩,⟨235,.im _,rfl,rfl,.im (Sub.rfl' rfl)⟩,⟨235,.im (.val (.slice none 0 0)),rfl,rfl,.im (Sub.rfl' rfl)⟩,⟨235,.im (.val (.slice none 0 0)),rfl,rfl,.im (Sub.rfl' rfl)⟩,⟨236,.im _,rfl,rfl,.im (Sub.rfl' rfl)⟩,⟨236,.im _,rfl,rfl,.im (Sub.rfl' rfl)⟩,⟨236,.osl 237 _,rfl,rfl,.osl rfl rfl rfl⟩,⟨236,.osl 238 _,rfl,rfl,.osl rfl rfl rfl⟩,⟨239,.osl 240 _,rfl,rfl,.osl rfl rfl rfl⟩,trivial⟩)
 obtain ⟨h,b2179d⟩:=cfd b2179 h
 conv=>whnf
 refine Side.mk rfl ?_
 conv=>whnf
 refine Side.mk rfl ?_
 conv=>whnf
 obtain ⟨e2187,he2187z,he2187,h⟩:=idx_some h
 refine Side.mk ⟨he2187z,rfl,map_lt he2187⟩ ?_
 conv=>whnf
 refine Side.mk ⟨rfl,map_lt he2187⟩ ?_
 conv=>whnf
 obtain ⟨e2188,he2188,h⟩:=idxn_some h
 refine ⟨_,⟨(by omega),rfl,map_at he2187,map_lt he2188⟩,?_⟩
 conv=>whnf
 refine ⟨_,_,_,⟨rfl,map_at he2187,map_at he2188,rfl⟩,?_⟩
 conv=>whnf
 refine Side.mk rfl ?_
 conv=>whnf
 refine Side.mk rfl ?_
 conv=>whnf
 obtain ⟨e2189,he2189z,he2189,h⟩:=idx_some h
 refine Side.mk ⟨he2189z,rfl,map_lt he2189⟩ ?_
 conv=>whnf
 refine Side.mk ⟨rfl,map_lt he2189⟩ ?_
 conv=>whnf
 obtain ⟨e2190,he2190,h⟩:=idxn_some h
 refine ⟨_,⟨(by omega),rfl,map_at he2189,map_lt he2190⟩,?_⟩
 conv=>whnf
 refine ⟨_,_,_,⟨rfl,map_at he2189,map_at he2190,rfl⟩,?_⟩
 conv=>whnf
 refine Both.mk ?_ ?_<;>intro b2191
 obtain ⟨h,b2191d⟩:=ctd b2191 h
 conv=>whnf
 refine Side.mk rfl ?_
 conv=>whnf
 cases h
 have ho2171:_=_:=ho2171
 cases ho2171
 replace h:some _=some _:=hk2041
 cases h
 replace h:some _=some _:=hk1859
 cases h
 have ho1857:_=_:=ho1857
 cases ho1857
 replace h:some _=some _:=hk106
 cases h
 conv=>whnf
 refine Side.mk ⟨rfl,trivial⟩ ?_
 conv=>whnf
 exact ⟨rfl,rfl⟩
 obtain ⟨h,b2191d⟩:=cfd b2191 h
 conv=>whnf
 refine Side.mk rfl ?_
 conv=>whnf
 refine Side.mk rfl ?_
 conv=>whnf
 obtain ⟨e2192,he2192z,he2192,h⟩:=idx_some h
 refine Side.mk ⟨he2192z,rfl,map_lt he2192⟩ ?_
 conv=>whnf
 refine Side.mk ⟨rfl,map_lt he2192⟩ ?_
 conv=>whnf
 obtain ⟨e2193,he2193,h⟩:=idxn_some h
 refine ⟨_,⟨(by omega),rfl,map_at he2192,map_lt he2193⟩,?_⟩
 conv=>whnf
 refine ⟨_,_,_,⟨rfl,map_at he2192,map_at he2193,rfl⟩,?_⟩
 conv=>whnf
 obtain ⟨c2194,h⟩:=chk_some h
 refine Side.mk ⟨rfl,Nat.succ_pos _,map_len (l:=[(⟨e2193,e2173⟩:T_A2)]) (c:=c_A2) fun _=>rfl,show capOk _ 16 by simpa only [List.length_map,List.length_cons,List.length_nil,Nat.zero_add] using c2194⟩ ?_
 conv=>whnf
 refine Nf.mk (List.map c_A2 (y2145++[(⟨e2193,e2173⟩:T_A2)])) (app_map (l:=y2145) (m:=[(⟨e2193,e2173⟩:T_A2)]) (c:=c_A2)) ?_
 conv=>whnf
 obtain ⟨c2195,h⟩:=chk_some h
 refine Arith.mk c2195 ?_
 conv=>whnf
 cases h
 exact Nxt.mk _ ho2171 (Ent.mk [(235,some 235),(236,some 236),(237,some 237),(238,some 238),(239,some 239),(240,some 240),(241,some 241)] rfl ⟨eI rfl rfl,⟨.own 235 _ 0,rfl,.own rfl rfl rfl⟩,⟨.own 236 _ 0,rfl,.own rfl rfl rfl⟩,⟨.own 239 _ 0,rfl,.own rfl rfl rfl⟩,⟨.osl 241 _,rfl,.osl rfl rfl rfl⟩,eI rfl rfl,eI rfl rfl,⟨.sub 237 _ _,rfl,.sub rfl rfl⟩,eI rfl rfl,eI rfl rfl,trivial⟩ ⟨.inl ⟨235,rfl,rfl,trivial⟩,.inl ⟨236,rfl,rfl,trivial⟩,.inl ⟨237,rfl,rfl,trivial⟩,.inl ⟨238,rfl,rfl,trivial⟩,.inl ⟨239,rfl,rfl,trivial⟩,.inl ⟨240,rfl,rfl,trivial⟩,.inl ⟨241,rfl,rfl,trivial⟩,trivial⟩ ⟨⟨235,.im _,rfl,rfl,.im (Sub.rfl' rfl)⟩,⟨235,.im _,rfl,rfl,.im (Sub.rfl' rfl)⟩,⟨235,.im (.val (.slice none 0 0)),rfl,rfl,.im (Sub.rfl' rfl)⟩,⟨235,.im (.val (.slice none 0 0)),rfl,rfl,.im (Sub.rfl' rfl)⟩,⟨236,.im _,rfl,rfl,.im (Sub.rfl' rfl)⟩,⟨236,.im _,rfl,rfl,.im (Sub.rfl' rfl)⟩,⟨236,.osl 237 _,rfl,rfl,.osl rfl rfl rfl⟩,⟨236,.osl 238 _,rfl,rfl,.osl rfl rfl rfl⟩,⟨239,.osl 240 _,rfl,rfl,.osl rfl rfl rfl⟩,trivial⟩)
 obtain ⟨h,b2172d⟩:=cfd b2172 h
 conv=>whnf
 cases h
 have ho2171:_=_:=ho2171
 cases ho2171
 exact JoinS.mk' _ rfl (eA [(235,some 235),(236,some 236),(237,some 237),(238,some 238),(239,some 239),(240,some 240),(241,some 241)])
 rintro ⟨y2119,y2120,y2121⟩ rfl hp
 have hx_:=sum_inl hk2041
 replace h:merge_folded.k44 c2039 y2119 y2120 y2121=some _:=hx_
 clear hx_
 unfold merge_folded.k44 at h
 obtain ⟨z2199,z2200,z2201,_⟩:=hp
 conv=>whnf
 cases h
 exact JoinS.mk' _ rfl (eA [(235,some 235),(236,some 236),(237,some 237),(238,some 238),(239,some 239),(240,some 240),(241,some 241)])
 rintro ⟨y2029,y2030,y2031,y2032⟩ rfl hp
 have hx_:=sum_inl hk1859
 replace h:merge_folded.k45 y2029 y2030 y2031 y2032=some _:=hx_
 clear hx_
 unfold merge_folded.k45 at h
 obtain ⟨z2202,z2203,z2204,_⟩:=hp
 conv=>whnf
 cases h
 exact Nxt.mk _ ho1857 (eA [(235,some 235),(236,some 236),(237,some 237),(238,some 238),(239,some 239),(240,some 240),(241,some 241)])
 obtain ⟨h,b1858d⟩:=cfd b1858 h
 conv=>whnf
 cases h
 have ho1857:_=_:=ho1857
 cases ho1857
 exact JoinS.mk' _ rfl (eA [(235,some 235),(236,some 236),(237,some 237),(238,some 238),(239,some 239),(240,some 240)])
 rintro ⟨y1156,y1157,y1158⟩ rfl hp
 have hx_:=sum_inl hk106
 replace h:merge_folded.k70 p_ y1156 y1157 y1158=some _:=hx_
 clear hx_
 unfold merge_folded.k70 at h
 obtain ⟨z2208,z2209,_⟩:=hp
 conv=>whnf
 refine Side.mk rfl ?_
 conv=>whnf
 refine Side.mk rfl ?_
 conv=>whnf
 refine Side.mk rfl ?_
 conv=>whnf
 refine Nf.mk (List.length y1156) len_map ?_
 conv=>whnf
 obtain ⟨⟨y2424,y2425⟩,hc,hk2210⟩:=bind_some h
 clear h
 have h:=hc
 clear hc
 refine Cut.mk (mkSt [(3,.im (.ref (c_api_Part p_))),(6,.own 235 1 0),(9,.own 236 1 0),(11,.own 239 1 0)] [(235,.box 24 4),(236,.box 24 4),(237,.grid 60 3 1 (List.map (cL cI) y2424) none),(238,.grid 60 3 1 (List.map (cL cI) y1157) none),(239,.box 146 1),(240,.map (mapV wI wI y2425))] [(235,0,.im (nI 0)),(235,1,.im (nI 0)),(235,2,.im (.val (.slice none 0 0))),(235,3,.im (.val (.slice none 0 0))),(236,0,.im (nI p_.Inputs)),(236,1,.im (nI 0)),(236,2,.osl 237 1),(236,3,.osl 238 1),(239,0,.osl 240 1)]) (lZ y2424∧lZ y1157∧True) ((Holds.kdg 237 rfl).and ((Holds.kdg 238 rfl).and (hT))) ?_ (fun hp=>?_)
 conv=>whnf
 refine Loops.iter (fun (s:List (List Int)×(List (Int×Int))×Nat)=>merge_folded.s66 y1156 s.1 s.2.1 s.2.2) (fun (y2495,y2496,y2497)=>mkSt [(3,.im (.ref (c_api_Part p_))),(6,.own 235 1 0),(9,.own 236 1 0),(11,.own 239 1 0),(176,.im (nI (↑(List.length y1156):Int))),(177,.im (nI (↑y2497:Int)))] [(235,.box 24 4),(236,.box 24 4),(237,.grid 60 3 1 (List.map (cL cI) y2495) none),(238,.grid 60 3 1 (List.map (cL cI) y1157) none),(239,.box 146 1),(240,.map (mapV wI wI y2496))] [(235,0,.im (nI 0)),(235,1,.im (nI 0)),(235,2,.im (.val (.slice none 0 0))),(235,3,.im (.val (.slice none 0 0))),(236,0,.im (nI p_.Inputs)),(236,1,.im (nI 0)),(236,2,.osl 237 1),(236,3,.osl 238 1),(239,0,.osl 240 1)]) (fun (y2495,y2496,y2497)=>lZ y2495∧lZ y1157∧True) h (eA [(235,some 235),(236,some 236),(237,some 237),(238,some 238),(239,some 239),(240,some 240)]) (by rintro ⟨y2495,y2496,y2497⟩;exact ((Holds.kdg 237 rfl).and ((Holds.kdg 238 rfl).and (hT)))) ?_
 clear h
 rintro k ⟨y2495,y2496,y2497⟩ o hp h ho2567
 replace h:merge_folded.s66 y1156 y2495 y2496 y2497=some o:=h
 unfold merge_folded.s66 at h
 obtain ⟨z2637,z2638,_⟩:=hp
 conv=>whnf
 refine Both.mk ?_ ?_<;>intro b2568
 obtain ⟨h,b2568d⟩:=ctd b2568 h
 conv=>whnf
 refine Side.mk rfl ?_
 conv=>whnf
 refine Side.mk rfl ?_
 conv=>whnf
 obtain ⟨e2569,he2569,h⟩:=idxn_some h
 refine Side.mk ⟨(by omega),rfl,map_lt he2569⟩ ?_
 conv=>whnf
 refine Side.mk ⟨rfl,map_lt he2569⟩ ?_
 conv=>whnf
 refine ⟨_,⟨rfl,map_at he2569⟩,?_⟩
 conv=>whnf
 refine Nf.mk (List.length e2569) len_map ?_
 conv=>whnf
 obtain ⟨⟨y2602,y2603⟩,hc,hk2570⟩:=bind_some h
 clear h
 have h:=hc
 clear hc
 refine Cut.mk (mkSt [(3,.im (.ref (c_api_Part p_))),(6,.own 235 1 0),(9,.own 236 1 0),(11,.own 239 1 0),(176,.im (nI (↑(List.length y1156):Int))),(177,.im (nI (↑y2497:Int)))] [(235,.box 24 4),(236,.box 24 4),(237,.grid 60 3 1 (List.map (cL cI) y2602) none),(238,.grid 60 3 1 (List.map (cL cI) y1157) none),(239,.box 146 1),(240,.map (mapV wI wI y2603))] [(235,0,.im (nI 0)),(235,1,.im (nI 0)),(235,2,.im (.val (.slice none 0 0))),(235,3,.im (.val (.slice none 0 0))),(236,0,.im (nI p_.Inputs)),(236,1,.im (nI 0)),(236,2,.osl 237 1),(236,3,.osl 238 1),(239,0,.osl 240 1)]) (lZ y2602∧lZ y1157∧True) ((Holds.kdg 237 rfl).and ((Holds.kdg 238 rfl).and (hT))) ?_ (fun hp=>?_)
 conv=>whnf
 refine Loops.iter (fun (s:List (List Int)×(List (Int×Int))×Nat)=>merge_folded.s64 y2497 e2569 s.1 s.2.1 s.2.2) (fun (y2611,y2612,y2613)=>mkSt [(3,.im (.ref (c_api_Part p_))),(6,.own 235 1 0),(9,.own 236 1 0),(11,.own 239 1 0),(17,.im (nI (↑y2497:Int))),(176,.im (nI (↑(List.length y1156):Int))),(177,.im (nI (↑y2497:Int))),(184,.sub 237 0 y2497),(185,.im (nI (↑(List.length e2569):Int))),(186,.im (nI (↑y2613:Int)))] [(235,.box 24 4),(236,.box 24 4),(237,.grid 60 3 1 (List.map (cL cI) y2611) none),(238,.grid 60 3 1 (List.map (cL cI) y1157) none),(239,.box 146 1),(240,.map (mapV wI wI y2612))] [(235,0,.im (nI 0)),(235,1,.im (nI 0)),(235,2,.im (.val (.slice none 0 0))),(235,3,.im (.val (.slice none 0 0))),(236,0,.im (nI p_.Inputs)),(236,1,.im (nI 0)),(236,2,.osl 237 1),(236,3,.osl 238 1),(239,0,.osl 240 1)]) (fun (y2611,y2612,y2613)=>lZ y2611∧lZ y1157∧True) h (Ent.mk [(235,some 235),(236,some 236),(237,some 237),(238,some 238),(239,some 239),(240,some 240)] rfl ⟨eI rfl rfl,⟨.own 235 _ 0,rfl,.own rfl rfl rfl⟩,⟨.own 236 _ 0,rfl,.own rfl rfl rfl⟩,⟨.own 239 _ 0,rfl,.own rfl rfl rfl⟩,eI rfl rfl,eI rfl rfl,eI rfl rfl,⟨.sub 237 _ _,rfl,.sub rfl rfl⟩,eI rfl rfl,eI rfl rfl,trivial⟩ ⟨.inl ⟨235,rfl,rfl,trivial⟩,.inl ⟨236,rfl,rfl,trivial⟩,.inl ⟨237,rfl,rfl,trivial⟩,.inl ⟨238,rfl,rfl,trivial⟩,.inl ⟨239,rfl,rfl,trivial⟩,.inl ⟨240,rfl,rfl,trivial⟩,trivial⟩ ⟨⟨235,.im _,rfl,rfl,.im (Sub.rfl' rfl)⟩,⟨235,.im _,rfl,rfl,.im (Sub.rfl' rfl)⟩,⟨235,.im (.val (.slice none 0 0)),rfl,rfl,.im (Sub.rfl' rfl)⟩,⟨235,.im (.val (.slice none 0 0)),rfl,rfl,.im (Sub.rfl' rfl)⟩,⟨236,.im _,rfl,rfl,.im (Sub.rfl' rfl)⟩,⟨236,.im _,rfl,rfl,.im (Sub.rfl' rfl)⟩,⟨236,.osl 237 _,rfl,rfl,.osl rfl rfl rfl⟩,⟨236,.osl 238 _,rfl,rfl,.osl rfl rfl rfl⟩,⟨239,.osl 240 _,rfl,rfl,.osl rfl rfl rfl⟩,trivial⟩) (by rintro ⟨y2611,y2612,y2613⟩;exact ((Holds.kdg 237 rfl).and ((Holds.kdg 238 rfl).and (hT)))) ?_
 clear h
 rintro k ⟨y2611,y2612,y2613⟩ o hp h ho2623
 replace h:merge_folded.s64 y2497 e2569 y2611 y2612 y2613=some o:=h
 unfold merge_folded.s64 at h
 obtain ⟨z2633,z2634,_⟩:=hp
 conv=>whnf
 refine Both.mk ?_ ?_<;>intro b2624
 obtain ⟨h,b2624d⟩:=ctd b2624 h
 conv=>whnf
 obtain ⟨e2626,he2626,h⟩:=idxn_some h
 obtain ⟨e2625,he2625,h⟩:=idxn_some h
 refine ⟨_,⟨(by omega),rfl,map_at he2626,map_lt he2625⟩,?_⟩
 conv=>whnf
 refine ⟨_,_,_,⟨rfl,map_at he2626,map_at he2625,rfl⟩,?_⟩
 conv=>whnf
 refine Both.mk ?_ ?_<;>intro b2627
 obtain ⟨h,b2627d⟩:=ctd b2627 h
 conv=>whnf
 refine Side.mk rfl ?_
 conv=>whnf
 refine Side.mk rfl ?_
 conv=>whnf
 obtain ⟨e2628,he2628,h⟩:=idxn_some h
 refine Side.mk ⟨(by omega),rfl,map_lt he2628⟩ ?_
 conv=>whnf
 refine Side.mk ⟨rfl,map_lt he2628⟩ ?_
 conv=>whnf
 refine Side.mk rfl ?_
 conv=>whnf
 refine Side.mk ⟨rfl,trivial⟩ ?_
 conv=>whnf
 obtain ⟨c2629,hc2629,h⟩:=bind_some h
 refine ⟨_,(sp_merge_blocks_int_of (⟨y2612⟩:T_merge_blocks_int_) e2625 c2629 (fun _ _=>hc2629)),?_⟩
 conv=>whnf
 obtain ⟨e2630,he2630,h⟩:=idxn_some h
 refine ⟨_,⟨(by omega),rfl,map_at he2628,map_lt he2630⟩,?_⟩
 conv=>whnf
 refine ⟨_,_,⟨rfl,map_at he2628,map_at he2630⟩,?_⟩
 conv=>whnf
 refine Nf.mk (List.map (cL cI) (List.set y2611 y2497 (List.set e2628 y2613 c2629.1))) (set_grid2 rfl) ?_
 conv=>whnf
 obtain ⟨c2631,h⟩:=chk_some h
 refine Arith.mk c2631 ?_
 conv=>whnf
 cases h
 exact Nxt.mk _ ho2623 (Ent.mk [(235,some 235),(236,some 236),(237,some 237),(238,some 238),(239,some 239),(240,some 240)] rfl ⟨eI rfl rfl,⟨.own 235 _ 0,rfl,.own rfl rfl rfl⟩,⟨.own 236 _ 0,rfl,.own rfl rfl rfl⟩,⟨.own 239 _ 0,rfl,.own rfl rfl rfl⟩,eI rfl rfl,eI rfl rfl,eI rfl rfl,⟨.sub 237 _ _,rfl,.sub rfl rfl⟩,eI rfl rfl,eI rfl rfl,trivial⟩ ⟨.inl ⟨235,rfl,rfl,trivial⟩,.inl ⟨236,rfl,rfl,trivial⟩,.inl ⟨237,rfl,rfl,trivial⟩,.inl ⟨238,rfl,rfl,trivial⟩,.inl ⟨239,rfl,rfl,trivial⟩,.inl ⟨240,rfl,rfl,trivial⟩,trivial⟩ ⟨⟨235,.im _,rfl,rfl,.im (Sub.rfl' rfl)⟩,⟨235,.im _,rfl,rfl,.im (Sub.rfl' rfl)⟩,⟨235,.im (.val (.slice none 0 0)),rfl,rfl,.im (Sub.rfl' rfl)⟩,⟨235,.im (.val (.slice none 0 0)),rfl,rfl,.im (Sub.rfl' rfl)⟩,⟨236,.im _,rfl,rfl,.im (Sub.rfl' rfl)⟩,⟨236,.im _,rfl,rfl,.im (Sub.rfl' rfl)⟩,⟨236,.osl 237 _,rfl,rfl,.osl rfl rfl rfl⟩,⟨236,.osl 238 _,rfl,rfl,.osl rfl rfl rfl⟩,⟨239,.osl 240 _,rfl,rfl,.osl rfl rfl rfl⟩,trivial⟩)
 obtain ⟨h,b2627d⟩:=cfd b2627 h
 conv=>whnf
 obtain ⟨c2632,h⟩:=chk_some h
 refine Arith.mk c2632 ?_
 conv=>whnf
 cases h
 exact Nxt.mk _ ho2623 (Ent.mk [(235,some 235),(236,some 236),(237,some 237),(238,some 238),(239,some 239),(240,some 240)] rfl ⟨eI rfl rfl,⟨.own 235 _ 0,rfl,.own rfl rfl rfl⟩,⟨.own 236 _ 0,rfl,.own rfl rfl rfl⟩,⟨.own 239 _ 0,rfl,.own rfl rfl rfl⟩,eI rfl rfl,eI rfl rfl,eI rfl rfl,⟨.sub 237 _ _,rfl,.sub rfl rfl⟩,eI rfl rfl,eI rfl rfl,trivial⟩ ⟨.inl ⟨235,rfl,rfl,trivial⟩,.inl ⟨236,rfl,rfl,trivial⟩,.inl ⟨237,rfl,rfl,trivial⟩,.inl ⟨238,rfl,rfl,trivial⟩,.inl ⟨239,rfl,rfl,trivial⟩,.inl ⟨240,rfl,rfl,trivial⟩,trivial⟩ ⟨⟨235,.im _,rfl,rfl,.im (Sub.rfl' rfl)⟩,⟨235,.im _,rfl,rfl,.im (Sub.rfl' rfl)⟩,⟨235,.im (.val (.slice none 0 0)),rfl,rfl,.im (Sub.rfl' rfl)⟩,⟨235,.im (.val (.slice none 0 0)),rfl,rfl,.im (Sub.rfl' rfl)⟩,⟨236,.im _,rfl,rfl,.im (Sub.rfl' rfl)⟩,⟨236,.im _,rfl,rfl,.im (Sub.rfl' rfl)⟩,⟨236,.osl 237 _,rfl,rfl,.osl rfl rfl rfl⟩,⟨236,.osl 238 _,rfl,rfl,.osl rfl rfl rfl⟩,⟨239,.osl 240 _,rfl,rfl,.osl rfl rfl rfl⟩,trivial⟩)
 obtain ⟨h,b2624d⟩:=cfd b2624 h
 conv=>whnf
 cases h
 have ho2623:_=_:=ho2623
 cases ho2623
 exact Join.mk (eA [(235,some 235),(236,some 236),(237,some 237),(238,some 238),(239,some 239),(240,some 240)])
 replace h:merge_folded.k65 y2497 y2602 y2603=some _:=hk2570
 unfold merge_folded.k65 at h
 obtain ⟨z2635,z2636,_⟩:=hp
 conv=>whnf
 refine Arith.mk (by show inR _;unfold inR;omega) ?_
 conv=>whnf
 cases h
 exact Nxt.mk _ ho2567 (eA [(235,some 235),(236,some 236),(237,some 237),(238,some 238),(239,some 239),(240,some 240)])
 obtain ⟨h,b2568d⟩:=cfd b2568 h
 conv=>whnf
 cases h
 have ho2567:_=_:=ho2567
 cases ho2567
 exact Join.mk (eA [(235,some 235),(236,some 236),(237,some 237),(238,some 238),(239,some 239),(240,some 240)])
 replace h:merge_folded.k69 p_ y1157 y2424 y2425=some _:=hk2210
 unfold merge_folded.k69 at h
 obtain ⟨z2639,z2640,_⟩:=hp
 conv=>whnf
 refine Side.mk rfl ?_
 conv=>whnf
 refine Side.mk ⟨rfl,trivial⟩ ?_
 conv=>whnf
 obtain ⟨c2641,hc2641,h⟩:=bind_some h
 refine ⟨_,(sp_merge_blocks_int_of (⟨y2425⟩:T_merge_blocks_int_) p_.Start c2641 (fun _ _=>hc2641)),?_⟩
 conv=>whnf
 refine Side.mk rfl ?_
 conv=>whnf
 refine Side.mk rfl ?_
 conv=>whnf
 refine Side.mk rfl ?_
 conv=>whnf
 refine Side.mk ⟨rfl,rfl,trivial⟩ ?_
 conv=>whnf
 obtain ⟨c2642,hc2642,h⟩:=bind_some h
 refine ⟨_,(sp_merge_renumbered (⟨p_.Inputs,c2641.1,y2424,y1157⟩:T_api_Part) c2642 (fun _=>hc2642)),?_⟩
 conv=>whnf
 refine Side.mk rfl ?_
 conv=>whnf
 refine Nf.mk (List.length c2642.2) len_map ?_
 conv=>whnf
 obtain ⟨c2643,h⟩:=chk_some h
 refine Side.mk c2643 ?_
 conv=>whnf
 refine Nf.mk (List.map cI (List.replicate (List.length c2642.2) (0:Int))) (rep_map (c:=cI) (z:=0) (n:=(List.length c2642.2)) rfl rfl) ?_
 conv=>whnf
 refine Side.mk rfl ?_
 conv=>whnf
 refine Nf.mk (List.length (List.replicate (List.length c2642.2) (0:Int))) len_map ?_
 conv=>whnf
 obtain ⟨y2667,hc,hk2644⟩:=bind_some h
 clear h
 have h:=hc
 clear hc
 refine Cut.mk (mkSt [(6,.own 235 1 0),(20,.own 236 1 0),(22,.osl 237 1)] [(235,.box 24 4),(236,.box 24 4),(237,.row 3 1 (List.map cI y2667))] [(235,0,.im (nI 0)),(235,1,.im (nI 0)),(235,2,.im (.val (.slice none 0 0))),(235,3,.im (.val (.slice none 0 0))),(236,0,.im (nI c2642.1.Inputs)),(236,1,.im (nI c2642.1.Start)),(236,2,.im (nL (cL cI) c2642.1.Next)),(236,3,.im (nL (cL cI) c2642.1.Out))]) (lZ c2642.1.Next∧lZ c2642.1.Out∧lZ y2667∧True) ((Holds.cel 236 2 rfl (by decide) rfl).and ((Holds.cel 236 3 rfl (by decide) rfl).and ((Holds.kdl 237 rfl).and (hT)))) ?_ (fun hp=>?_)
 conv=>whnf
 refine Loops.iter (fun (s:(List (Int×Int))×List Int×Nat)=>merge_folded.s68 c2642 s.1 s.2.1 s.2.2) (fun (y2672,y2673,y2674)=>mkSt [(6,.own 235 1 0),(11,.own 236 1 0),(20,.own 238 1 0),(21,.im (nL cI c2642.2)),(22,.osl 239 1),(219,.im (nI (↑(List.length (List.replicate (List.length c2642.2) (0:Int))):Int))),(220,.im (nI (↑y2674:Int)))] [(235,.box 24 4),(236,.box 146 1),(237,.map (mapV wI wI y2672)),(238,.box 24 4),(239,.row 3 1 (List.map cI y2673))] [(235,0,.im (nI 0)),(235,1,.im (nI 0)),(235,2,.im (.val (.slice none 0 0))),(235,3,.im (.val (.slice none 0 0))),(236,0,.osl 237 1),(238,0,.im (nI c2642.1.Inputs)),(238,1,.im (nI c2642.1.Start)),(238,2,.im (nL (cL cI) c2642.1.Next)),(238,3,.im (nL (cL cI) c2642.1.Out))]) (fun (y2672,y2673,y2674)=>lZ c2642.2∧lZ c2642.1.Next∧lZ c2642.1.Out∧lZ y2673∧True) h (eA [(235,some 235),(236,some 239),(237,some 240),(238,some 20),(239,some 217)]) (by rintro ⟨y2672,y2673,y2674⟩;exact ((Holds.avl 21 rfl).and ((Holds.cel 238 2 rfl (by decide) rfl).and ((Holds.cel 238 3 rfl (by decide) rfl).and ((Holds.kdl 239 rfl).and (hT)))))) ?_
 clear h
 rintro k ⟨y2672,y2673,y2674⟩ o hp h ho2680
 replace h:merge_folded.s68 c2642 y2672 y2673 y2674=some o:=h
 unfold merge_folded.s68 at h
 obtain ⟨z2686,z2687,z2688,z2689,_⟩:=hp
 conv=>whnf
 refine Both.mk ?_ ?_<;>intro b2681
 obtain ⟨h,b2681d⟩:=ctd b2681 h
 conv=>whnf
 refine Side.mk rfl ?_
 conv=>whnf
 refine Side.mk ⟨rfl,trivial⟩ ?_
 conv=>whnf
 obtain ⟨c2682,hc2682,h⟩:=bind_some h
 refine ⟨_,(sp_merge_blocks_int_of (⟨y2672⟩:T_merge_blocks_int_) (↑y2674:Int) c2682 (fun _ _=>hc2682)),?_⟩
 conv=>whnf
 obtain ⟨e2683,he2683z,he2683,h⟩:=idx_some h
 refine ⟨_,⟨he2683z,map_at he2683,rfl⟩,?_⟩
 conv=>whnf
 obtain ⟨e2684,he2684,h⟩:=idxn_some h
 refine Side.mk ⟨(by omega),rfl,map_lt he2684⟩ ?_
 conv=>whnf
 refine Side.mk ⟨rfl,trivial⟩ ?_
 conv=>whnf
 refine ⟨_,map_at he2684,?_⟩
 conv=>whnf
 refine Nf.mk (List.map cI (List.set y2673 y2674 e2683)) (set_map rfl) ?_
 conv=>whnf
 obtain ⟨c2685,h⟩:=chk_some h
 refine Arith.mk c2685 ?_
 conv=>whnf
 cases h
 exact Nxt.mk _ ho2680 (eA [(235,some 235),(236,some 236),(237,some 237),(238,some 238),(239,some 239)])
 obtain ⟨h,b2681d⟩:=cfd b2681 h
 conv=>whnf
 cases h
 have ho2680:_=_:=ho2680
 cases ho2680
 exact Join.mk (eA [(235,some 235),(236,some 238),(237,some 239)])
 replace h:=hk2644
 obtain ⟨z2690,z2691,z2692,_⟩:=hp
 conv=>whnf
 refine Side.mk rfl ?_
 conv=>whnf
 refine Side.mk rfl ?_
 conv=>whnf
 cases h
 conv=>whnf
 refine Side.mk ⟨rfl,trivial⟩ ?_
 conv=>whnf
 exact Side.mk ⟨rfl,trivial⟩ ⟨rfl,rfl⟩
theorem sp_merge_Fold (p_:T_api_Part) (s_:Int) (t_:Int) (r:T_api_Part×Bool×Int) (h:Ok (.agg (c_api_Part p_))→Ok (nI s_)→Ok (nI t_)→merge_Fold p_ s_ t_=some r):Sp Tryz.prog 30 [.im (.agg (c_api_Part p_)),.im (nI s_),.im (nI t_)] (.tup [.agg (c_api_Part r.1),nB r.2.1,nI r.2.2]):=by
 refine sp_of rfl [700003] rfl rfl rfl (Nat.le_of_ble_eq_true rfl) rfl fun hk=>?_
 replace h:=h hk.1 hk.2.1 hk.2.2.1
 have z1:lZ p_.Next:=ok_len (Ok.agg_at hk.1 2 rfl)
 have z2:lZ p_.Out:=ok_len (Ok.agg_at hk.1 3 rfl)
 unfold merge_Fold at h
 conv=>whnf
 obtain ⟨c51,hc51,h⟩:=bind_some h
 refine ⟨_,(sp_merge_Valid p_ c51 (fun _=>hc51)),?_⟩
 conv=>whnf
 refine Both.mk ?_ ?_<;>intro b52
 obtain ⟨h,b52d⟩:=ctd b52 h
 conv=>whnf
 refine Side.mk rfl ?_
 conv=>whnf
 cases h
 conv=>whnf
 refine Side.mk ⟨rfl,trivial⟩ ?_
 conv=>whnf
 exact ⟨rfl,rfl⟩
 obtain ⟨h,b52d⟩:=cfd b52 h
 conv=>whnf
 obtain ⟨y56,hc,hk54⟩:=bind_some h
 clear h
 have h:=hc
 clear hc
 refine Cut.mk (mkSt [(1,.im (nI s_)),(2,.im (nI t_)),(3,.im (.ref (c_api_Part p_))),(6,.own 64 1 0),(31,.im (nB y56))] [(64,.box 24 4)] [(64,0,.im (nI 0)),(64,1,.im (nI 0)),(64,2,.im (.val (.slice none 0 0))),(64,3,.im (.val (.slice none 0 0)))]) (True) (hT) ?_ (fun hp=>?_)
 conv=>whnf
 refine Both.mk ?_ ?_<;>intro b57
 replace b57:=beq_ff b57
 obtain ⟨h,b57d⟩:=cfd b57 h
 conv=>whnf
 iterate 5 (refine Both.yes (ff_beq b57) ?_;(conv=>whnf))
 refine Nf.mk (List.length p_.Next) len_map ?_
 conv=>whnf
 refine Both.yes (ff_beq b57) ?_
 conv=>whnf
 refine Both.no b57 ?_
 conv=>whnf
 cases h
 exact Join.mk (eA [(64,some 6)])
 replace b57:=beq_ft b57
 obtain ⟨h,b57d⟩:=ctd b57 h
 conv=>whnf
 iterate 6 (refine Both.no (tf_beq b57) ?_;(conv=>whnf))
 refine Both.yes b57 ?_
 conv=>whnf
 cases h
 exact Join.mk (eA [(64,some 6)])
 replace h:=hk54
 conv=>whnf
 refine Both.mk ?_ ?_<;>intro b58
 replace h:=cond_t b58 h
 conv=>whnf
 refine Side.mk rfl ?_
 conv=>whnf
 cases h
 conv=>whnf
 refine Side.mk ⟨rfl,trivial⟩ ?_
 conv=>whnf
 exact ⟨rfl,rfl⟩
 replace h:=cond_f b58 h
 conv=>whnf
 obtain ⟨c59,hc59,h⟩:=bind_some h
 refine ⟨_,(sp_merge_folded p_ s_ t_ c59 (fun _ _ _=>hc59)),?_⟩
 conv=>whnf
 refine Side.mk rfl ?_
 conv=>whnf
 refine Side.mk rfl ?_
 conv=>whnf
 refine Side.mk rfl ?_
 conv=>whnf
 cases h
 conv=>whnf
 refine Side.mk ⟨rfl,trivial⟩ ?_
 conv=>whnf
 exact ⟨rfl,rfl⟩
theorem sp_evidence_Learn (o_:T_api_Obs) (r:T_api_Part×Int) (h:Ok (.agg (c_api_Obs o_))→evidence_Learn o_=some r):Sp Tryz.prog 14 [.im (.agg (c_api_Obs o_))] (.tup [.agg (c_api_Part r.1),nI r.2]):=by
 refine sp_of rfl [500032,500041,500063,700001] rfl rfl rfl (Nat.le_of_ble_eq_true rfl) rfl fun hk=>?_
 replace h:=h hk.1
 have z1:lZ o_.Traces:=ok_len (Ok.agg_at hk.1 1 rfl)
 unfold evidence_Learn at h
 conv=>whnf
 obtain ⟨c51,hc51,h⟩:=bind_some h
 refine ⟨_,(sp_merge_Tree o_ c51 (fun _=>hc51)),?_⟩
 conv=>whnf
 refine Side.mk rfl ?_
 conv=>whnf
 refine Both.mk ?_ ?_<;>intro b52
 obtain ⟨h,b52d⟩:=ctd b52 h
 conv=>whnf
 refine Side.mk rfl ?_
 conv=>whnf
 cases h
 conv=>whnf
 refine Side.mk ⟨rfl,trivial⟩ ?_
 conv=>whnf
 exact ⟨rfl,rfl⟩
 obtain ⟨h,b52d⟩:=cfd b52 h
 conv=>whnf
 refine Side.mk rfl ?_
 conv=>whnf
 refine Side.mk rfl ?_
 conv=>whnf
 refine Nf.mk (List.length c51.1.Next) len_map ?_
 conv=>whnf
 obtain ⟨c53,h⟩:=chk_some h
 refine Side.mk c53 ?_
 conv=>whnf
 refine Nf.mk (List.map cB (List.replicate (List.length c51.1.Next) false)) (rep_map (c:=cB) (z:=false) (n:=(List.length c51.1.Next)) rfl rfl) ?_
 conv=>whnf
 refine Side.mk rfl ?_
 conv=>whnf
 refine Side.mk rfl ?_
 conv=>whnf
 obtain ⟨e54,he54z,he54,h⟩:=idx_some h
 refine Side.mk ⟨he54z,rfl,map_lt he54⟩ ?_
 conv=>whnf
 refine Side.mk ⟨rfl,trivial⟩ ?_
 conv=>whnf
 refine ⟨_,map_at he54,?_⟩
 conv=>whnf
 refine Nf.mk (List.map cB (List.set (List.replicate (List.length c51.1.Next) false) c51.1.Start.toNat true)) (set_map rfl) ?_
 conv=>whnf
 refine Loops.iter (fun (s:Int×Int×List (List Int)×List (List Int)×List Bool)=>evidence_Learn.s4 s.1 s.2.1 s.2.2.1 s.2.2.2.1 s.2.2.2.2) (fun (y78,y79,y80,y81,y82)=>mkSt [(2,.own 64 1 0),(4,.own 65 1 0),(6,.osl 66 1)] [(64,.box 24 4),(65,.box 24 4),(66,.row 4 1 (List.map cB y82))] [(64,0,.im (nI 0)),(64,1,.im (nI 0)),(64,2,.im (.val (.slice none 0 0))),(64,3,.im (.val (.slice none 0 0))),(65,0,.im (nI y78)),(65,1,.im (nI y79)),(65,2,.im (nL (cL cI) y80)),(65,3,.im (nL (cL cI) y81))]) (fun (y78,y79,y80,y81,y82)=>lZ y80∧lZ y81∧lZ y82∧True) h (eA [(64,some 2),(65,some 4),(66,some 25)]) (by rintro ⟨y78,y79,y80,y81,y82⟩;exact ((Holds.cel 65 2 rfl (by decide) rfl).and ((Holds.cel 65 3 rfl (by decide) rfl).and ((Holds.kdl 66 rfl).and (hT))))) ?_
 clear h
 rintro k ⟨y78,y79,y80,y81,y82⟩ o hp h ho106
 replace h:evidence_Learn.s4 y78 y79 y80 y81 y82=some o:=h
 unfold evidence_Learn.s4 at h
 obtain ⟨z130,z131,z132,_⟩:=hp
 conv=>whnf
 obtain ⟨oc,hc,hk107⟩:=bind_some h
 clear h
 have h:=hc
 clear hc
 refine Cut.mkS oc (Y:=Int×Int×List (List Int)×List (List Int)×List Bool) (fun (y115,y116,y117,y118,y119)=>mkSt [(2,.own 64 1 0),(4,.own 65 1 0),(6,.osl 66 1)] [(64,.box 24 4),(65,.box 24 4),(66,.row 4 1 (List.map cB y119))] [(64,0,.im (nI 0)),(64,1,.im (nI 0)),(64,2,.im (.val (.slice none 0 0))),(64,3,.im (.val (.slice none 0 0))),(65,0,.im (nI y115)),(65,1,.im (nI y116)),(65,2,.im (nL (cL cI) y117)),(65,3,.im (nL (cL cI) y118))]) (fun (y115,y116,y117,y118,y119)=>lZ y117∧lZ y118∧lZ y119∧True) (by rintro ⟨y115,y116,y117,y118,y119⟩;exact ((Holds.cel 65 2 rfl (by decide) rfl).and ((Holds.cel 65 3 rfl (by decide) rfl).and ((Holds.kdl 66 rfl).and (hT))))) ?_ ?_
 conv=>whnf
 refine Side.mk rfl ?_
 conv=>whnf
 refine Side.mk ⟨rfl,trivial⟩ ?_
 conv=>whnf
 obtain ⟨c120,hc120,h⟩:=bind_some h
 refine ⟨_,(sp_evidence_blues (⟨y78,y79,y80,y81⟩:T_api_Part) y82 c120 (fun _ _=>hc120)),?_⟩
 conv=>whnf
 refine Side.mk (flat_row (flat_map fun _=>⟨_,rfl⟩)) ?_
 conv=>whnf
 refine Side.mk rfl ?_
 conv=>whnf
 refine Nf.mk (List.length c120) len_map ?_
 conv=>whnf
 refine Both.mk ?_ ?_<;>intro b121
 obtain ⟨h,b121d⟩:=ctd b121 h
 conv=>whnf
 refine Side.mk rfl ?_
 conv=>whnf
 refine Side.mk rfl ?_
 conv=>whnf
 cases h
 replace h:some _=some _:=hk107
 cases h
 have ho106:_=_:=ho106
 cases ho106
 conv=>whnf
 refine Side.mk ⟨rfl,trivial⟩ ?_
 conv=>whnf
 exact ⟨rfl,rfl⟩
 obtain ⟨h,b121d⟩:=cfd b121 h
 conv=>whnf
 refine Side.mk rfl ?_
 conv=>whnf
 refine Side.mk ⟨rfl,rfl,trivial⟩ ?_
 conv=>whnf
 obtain ⟨c122,hc122,h⟩:=bind_some h
 refine ⟨_,(sp_evidence_choose (⟨y78,y79,y80,y81⟩:T_api_Part) y82 c120 c122 (fun _ _ _=>hc122)),?_⟩
 conv=>whnf
 refine Side.mk (by simp [flatRs,flatOc,c_evidence_candidate]) ?_
 conv=>whnf
 refine Side.mk rfl ?_
 conv=>whnf
 refine Both.mk ?_ ?_<;>intro b123
 obtain ⟨h,b123d⟩:=ctd b123 h
 conv=>whnf
 obtain ⟨e124,he124z,he124,h⟩:=idx_some h
 refine Side.mk ⟨he124z,rfl,map_lt he124⟩ ?_
 conv=>whnf
 refine Side.mk ⟨rfl,trivial⟩ ?_
 conv=>whnf
 refine ⟨_,map_at he124,?_⟩
 conv=>whnf
 refine Nf.mk (List.map cB (List.set y82 c122.2.toNat true)) (set_map rfl) ?_
 conv=>whnf
 cases h
 exact JoinS.mk' _ rfl (eA [(64,some 64),(65,some 65),(66,some 66)])
 obtain ⟨h,b123d⟩:=cfd b123 h
 conv=>whnf
 refine Side.mk rfl ?_
 conv=>whnf
 refine Side.mk rfl ?_
 conv=>whnf
 refine Side.mk rfl ?_
 conv=>whnf
 refine Side.mk rfl ?_
 conv=>whnf
 refine Side.mk rfl ?_
 conv=>whnf
 obtain ⟨c125,hc125,h⟩:=bind_some h
 refine ⟨_,(sp_merge_Fold (⟨y78,y79,y80,y81⟩:T_api_Part) c122.1.red c122.1.blue c125 (fun _ _ _=>hc125)),?_⟩
 conv=>whnf
 refine Side.mk rfl ?_
 conv=>whnf
 refine Side.mk rfl ?_
 conv=>whnf
 refine Side.mk rfl ?_
 conv=>whnf
 refine Side.mk rfl ?_
 conv=>whnf
 refine Side.mk ⟨rfl,trivial⟩ ?_
 conv=>whnf
 obtain ⟨c126,hc126,h⟩:=bind_some h
 refine ⟨_,(sp_evidence_follow (⟨y78,y79,y80,y81⟩:T_api_Part) c125.1 y82 c126 (fun _ _ _=>hc126)),?_⟩
 conv=>whnf
 refine Side.mk (flat_row (flat_map fun _=>⟨_,rfl⟩)) ?_
 conv=>whnf
 refine Side.mk rfl ?_
 conv=>whnf
 cases h
 exact JoinS.mk' _ rfl (eA [(64,some 64),(65,some 65),(66,some 63)])
 rintro ⟨y115,y116,y117,y118,y119⟩ rfl hp
 have hx_:=sum_inl hk107
 replace h:evidence_Learn.k3 y115 y116 y117 y118 y119=some _:=hx_
 clear hx_
 unfold evidence_Learn.k3 at h
 obtain ⟨z127,z128,z129,_⟩:=hp
 conv=>whnf
 cases h
 exact Nxt.mk _ ho106 (eA [(64,some 64),(65,some 65),(66,some 66)])
theorem sp_slices_Concat_SSint_Sint (slices_:List (List (List Int))) (r:List (List Int)) (h:Ok (nL (cL (cL cI)) slices_)→slices_Concat_SSint_Sint slices_=some r):Sp Tryz.prog 95 [.im (nL (cL (cL cI)) slices_)] (.row 60 1 (List.map (cL cI) r)):=by
 refine sp_of rfl [4025000] rfl rfl rfl (Nat.le_of_ble_eq_true rfl) rfl fun hk=>?_
 replace h:=h hk.1
 have z1:lZ slices_:=ok_len hk.1
 unfold slices_Concat_SSint_Sint at h
 conv=>whnf
 refine Nf.mk (List.length slices_) len_map ?_
 conv=>whnf
 obtain ⟨size68,hc,hk51⟩:=bind_some h
 clear h
 have h:=hc
 clear hc
 refine Cut.mk (mkSt [(0,.im (nL (cL (cL cI)) slices_)),(3,.im (nI (↑size68:Int)))] [] []) (lZ slices_∧True) ((Holds.avl 0 rfl).and (hT)) ?_ (fun hp=>?_)
 conv=>whnf
 refine Loops.iter (fun (s:Nat×Nat)=>slices_Concat_SSint_Sint.s2 slices_ s.1 s.2) (fun (size73,y74)=>mkSt [(0,.im (nL (cL (cL cI)) slices_)),(3,.im (nI (↑size73:Int))),(9,.im (nL (cL (cL cI)) slices_)),(10,.im (nI (↑(List.length slices_):Int))),(11,.im (nI (↑y74:Int)))] [] []) (fun (size73,y74)=>lZ slices_∧True) h (eA []) (by rintro ⟨size73,y74⟩;exact ((Holds.avl 0 rfl).and (hT))) ?_
 clear h
 rintro k ⟨size73,y74⟩ o hp h ho79
 replace h:slices_Concat_SSint_Sint.s2 slices_ size73 y74=some o:=h
 unfold slices_Concat_SSint_Sint.s2 at h
 obtain ⟨z84,_⟩:=hp
 conv=>whnf
 refine Both.mk ?_ ?_<;>intro b80
 obtain ⟨h,b80d⟩:=ctd b80 h
 conv=>whnf
 obtain ⟨e81,he81,h⟩:=idxn_some h
 refine ⟨_,⟨(by omega),map_at he81,rfl⟩,?_⟩
 conv=>whnf
 refine Nf.mk (List.length e81) len_map ?_
 conv=>whnf
 obtain ⟨c82,h⟩:=chk_some h
 refine Arith.mk c82 ?_
 conv=>whnf
 refine Both.mk ?_ ?_<;>intro b83
 obtain ⟨h,b83d⟩:=ctd b83 h
 conv=>whnf
 cases h
 obtain ⟨h,b83d⟩:=cfd b83 h
 conv=>whnf
 refine Arith.mk (by show inR _;unfold inR;omega) ?_
 conv=>whnf
 cases h
 exact Nxt.mk _ ho79 (eA [])
 obtain ⟨h,b80d⟩:=cfd b80 h
 conv=>whnf
 cases h
 have ho79:_=_:=ho79
 cases ho79
 exact Join.mk (eA [])
 replace h:=hk51
 obtain ⟨z85,_⟩:=hp
 conv=>whnf
 obtain ⟨c86,hc86,h⟩:=bind_some h
 refine ⟨_,(sp_lib_Grow_words (↑size68:Int) c86 (hc86)),?_⟩
 conv=>whnf
 refine Nf.mk (List.length slices_) len_map ?_
 conv=>whnf
 obtain ⟨y102,hc,hk87⟩:=bind_some h
 clear h
 have h:=hc
 clear hc
 refine Cut.mk (mkSt [(6,.osl 64 1)] [(64,.row 60 1 (List.map (cL cI) y102))] []) (lZ y102∧True) ((Holds.kdl 64 rfl).and (hT)) ?_ (fun hp=>?_)
 conv=>whnf
 refine Loops.iter (fun (s:List (List Int)×Nat)=>slices_Concat_SSint_Sint.s4 slices_ s.1 s.2) (fun (y106,y107)=>mkSt [(6,.osl 64 1),(25,.im (nL (cL (cL cI)) slices_)),(26,.im (nI (↑(List.length slices_):Int))),(27,.im (nI (↑y107:Int)))] [(64,.row 60 1 (List.map (cL cI) y106))] []) (fun (y106,y107)=>lZ slices_∧lZ y106∧True) h (eA [(64,some 24)]) (by rintro ⟨y106,y107⟩;exact ((Holds.avl 25 rfl).and ((Holds.kdl 64 rfl).and (hT)))) ?_
 clear h
 rintro k ⟨y106,y107⟩ o hp h ho111
 replace h:slices_Concat_SSint_Sint.s4 slices_ y106 y107=some o:=h
 unfold slices_Concat_SSint_Sint.s4 at h
 obtain ⟨z115,z116,_⟩:=hp
 conv=>whnf
 refine Both.mk ?_ ?_<;>intro b112
 obtain ⟨h,b112d⟩:=ctd b112 h
 conv=>whnf
 obtain ⟨e113,he113,h⟩:=idxn_some h
 refine ⟨_,⟨(by omega),map_at he113,rfl⟩,?_⟩
 conv=>whnf
 obtain ⟨c114,h⟩:=chk_some h
 refine Side.mk ⟨rfl,map_len (l:=e113) (c:=cL cI) fun _=>rfl,show capOk _ 24 by simpa only [List.length_map,List.length_cons,List.length_nil,Nat.zero_add] using c114⟩ ?_
 conv=>whnf
 refine Nf.mk (List.map (cL cI) (y106++e113)) (app_map (l:=y106) (m:=e113) (c:=cL cI)) ?_
 conv=>whnf
 refine Arith.mk (by show inR _;unfold inR;omega) ?_
 conv=>whnf
 cases h
 exact Nxt.mk _ ho111 (eA [(64,some 64)])
 obtain ⟨h,b112d⟩:=cfd b112 h
 conv=>whnf
 cases h
 have ho111:_=_:=ho111
 cases ho111
 exact Join.mk (eA [(64,some 64)])
 replace h:=hk87
 obtain ⟨z117,_⟩:=hp
 conv=>whnf
 cases h
 conv=>whnf
 exact Side.mk ⟨rfl,trivial⟩ ⟨rfl,rfl⟩
theorem sp_wordset_ordered_1 (a_:List Int) (b_:List Int) (p2_:(List Int)→(List Int)→Option Int) (f2_:FuncId) (hf2:∀ x0 x1 r,p2_ x0 x1=some r→Sp Tryz.prog f2_ [.im (nL cI x0),.im (nL cI x1)] (.im (nI r))) (r:Bool) (h:Ok (nL cI a_)→Ok (nL cI b_)→Ok (.ref [.fn f2_ []])→wordset_ordered_1 a_ b_ p2_=some r):Sp Tryz.prog 151 [.im (nL cI a_),.im (nL cI b_),.im (.ref [.fn f2_ []])] (.im (nB r)):=by
 refine sp_of rfl [] rfl rfl rfl (Nat.le_of_ble_eq_true rfl) rfl fun hk=>?_
 replace h:=h hk.1 hk.2.1 hk.2.2.1
 have z1:lZ a_:=ok_len hk.1
 have z2:lZ b_:=ok_len hk.2.1
 unfold wordset_ordered_1 at h
 conv=>whnf
 obtain ⟨c51,hc51,h⟩:=bind_some h
 refine ⟨_,hf2 a_ b_ c51 hc51,?_⟩
 conv=>whnf
 cases h
 conv=>whnf
 exact ⟨rfl,rfl⟩
theorem sp_slices_CompactFunc_SSint_Sint_n1 (s_:List (List Int)) (eq_:(List Int)→(List Int)→Option Bool) (f1_:FuncId) (k1_0:IV) (hk1_0:nz k1_0=k1_0) (hf1:∀ x0 x1 r,eq_ x0 x1=some r→Sp Tryz.prog f1_ [.im (nL cI x0),.im (nL cI x1),.im k1_0] (.im (nB r))) (r:List (List Int)) (h:OkL (List.map (cL cI) s_)→Ok (.fn f1_ [k1_0])→slices_CompactFunc_SSint_Sint_n1 s_ eq_=some r):Sp Tryz.prog 150 [.row 60 1 (List.map (cL cI) s_),.im (.fn f1_ [k1_0])] (.row 60 1 (List.map (cL cI) r)):=by
 refine sp_of rfl [] rfl rfl rfl (Nat.le_of_ble_eq_true rfl) rfl fun hk=>?_
 replace h:=h hk.1 hk.2.1
 have z1:lZ s_:=okl_len hk.1
 unfold slices_CompactFunc_SSint_Sint_n1 at h
 conv=>whnf
 refine Side.mk rfl ?_
 conv=>whnf
 refine Nf.mk (List.length s_) len_map ?_
 conv=>whnf
 refine Both.mk ?_ ?_<;>intro b51
 obtain ⟨h,b51d⟩:=ctd b51 h
 conv=>whnf
 cases h
 conv=>whnf
 exact Side.mk ⟨rfl,trivial⟩ ⟨rfl,rfl⟩
 obtain ⟨h,b51d⟩:=cfd b51 h
 conv=>whnf
 obtain ⟨oc,hc,hk52⟩:=bind_some h
 clear h
 have h:=hc
 clear hc
 refine Cut.mkS oc (Y:=Unit) (fun (_:Unit)=>mkSt [(0,.osl 66 1)] [(66,.row 60 1 (List.map (cL cI) s_))] []) (fun (_:Unit)=>lZ s_∧True) (by rintro ⟨⟩;exact ((Holds.kdl 66 rfl).and (hT))) ?_ ?_
 conv=>whnf
 refine Loops.iter (fun (s:Nat)=>slices_CompactFunc_SSint_Sint_n1.s20 s_ eq_ s) (fun k356=>mkSt [(0,.osl 66 1),(1,.im (.fn f1_ [k1_0])),(5,.im (nI (↑k356:Int)))] [(66,.row 60 1 (List.map (cL cI) s_))] []) (fun k356=>lZ s_∧True) h (eA [(66,some 0)]) (by rintro k356;exact ((Holds.kdl 66 rfl).and (hT))) ?_
 clear h
 rintro k k356 o hp h ho432
 replace h:slices_CompactFunc_SSint_Sint_n1.s20 s_ eq_ k356=some o:=h
 unfold slices_CompactFunc_SSint_Sint_n1.s20 at h
 obtain ⟨z508,_⟩:=hp
 conv=>whnf
 refine Side.mk rfl ?_
 conv=>whnf
 refine Nf.mk (List.length s_) len_map ?_
 conv=>whnf
 refine Both.mk ?_ ?_<;>intro b433
 obtain ⟨h,b433d⟩:=ctd b433 h
 conv=>whnf
 obtain ⟨e434,he434,h⟩:=idxn_some h
 refine Side.mk ⟨(by omega),rfl,map_lt he434⟩ ?_
 conv=>whnf
 refine ⟨_,_,⟨rfl,map_at he434,rfl,rfl⟩,?_⟩
 conv=>whnf
 refine Arith.mk (by show inR _;unfold inR;omega) ?_
 conv=>whnf
 obtain ⟨e435,he435z,he435,h⟩:=idx_some h
 refine Side.mk ⟨he435z,rfl,map_lt he435⟩ ?_
 conv=>whnf
 refine ⟨_,_,⟨rfl,map_at he435,rfl,rfl⟩,?_⟩
 conv=>whnf
 obtain ⟨c436,hc436,h⟩:=bind_some h
 refine ⟨_,Sp.args (hf1 e434 e435 c436 hc436) (by rw [hk1_0];try rfl),?_⟩
 conv=>whnf
 refine Both.mk ?_ ?_<;>intro b437
 replace h:=cond_t b437 h
 conv=>whnf
 obtain ⟨c438,h⟩:=chk_some h
 refine Side.mk ⟨rfl,c438.1,by have hh_:=c438;simp only [List.length_map];omega,by have hh_:=c438;simp only [List.length_map];omega⟩ ?_
 conv=>whnf
 obtain ⟨⟨y471,k472⟩,hc,hk439⟩:=bind_some h
 clear h
 have h:=hc
 clear hc
 refine Cut.mk (mkSt [(0,.osl 66 1),(5,.im (nI (↑k472:Int)))] [(66,.row 60 1 (List.map (cL cI) y471))] []) (lZ y471∧True) ((Holds.kdl 66 rfl).and (hT)) ?_ (fun hp=>?_)
 conv=>whnf
 refine Loops.iter (fun (s:List (List Int)×Nat×Nat)=>slices_CompactFunc_SSint_Sint_n1.s18 eq_ k356 s.1 s.2.1 s.2.2) (fun (y481,k482,y483)=>mkSt [(0,.osl 66 1),(1,.im (.fn f1_ [k1_0])),(5,.im (nI (↑k482:Int))),(6,.osv 66 1 k356 1),(7,.im (nI (↑y483:Int)))] [(66,.row 60 1 (List.map (cL cI) y481))] []) (fun (y481,k482,y483)=>lZ y481∧True) h (Ent.mk [(66,some 66)] rfl ⟨⟨.osl 66 _,rfl,.osl rfl rfl rfl⟩,eI rfl rfl,eI rfl rfl,⟨.osv 66 _ _ _,rfl,.osv rfl rfl rfl⟩,eI rfl rfl,trivial⟩ ⟨.inl ⟨66,rfl,rfl,trivial⟩,trivial⟩ trivial) (by rintro ⟨y481,k482,y483⟩;exact ((Holds.kdl 66 rfl).and (hT))) ?_
 clear h
 rintro k ⟨y481,k482,y483⟩ o hp h ho493
 replace h:slices_CompactFunc_SSint_Sint_n1.s18 eq_ k356 y481 k482 y483=some o:=h
 unfold slices_CompactFunc_SSint_Sint_n1.s18 at h
 obtain ⟨z503,_⟩:=hp
 conv=>whnf
 refine Side.mk rfl ?_
 conv=>whnf
 refine Nf.mk (List.length y481-k356) len_own ?_
 conv=>whnf
 refine Both.mk ?_ ?_<;>intro b494
 obtain ⟨h,b494d⟩:=ctd b494 h
 conv=>whnf
 obtain ⟨e495,he495,h⟩:=idxn_some h
 refine Side.mk ⟨(by omega),rfl,map_lt he495⟩ ?_
 conv=>whnf
 refine Nf.mk (k356+y483) rfl ?_
 conv=>whnf
 refine ⟨_,_,⟨rfl,map_at he495,rfl,rfl⟩,?_⟩
 conv=>whnf
 refine Arith.mk (by show inR _;unfold inR;omega) ?_
 conv=>whnf
 obtain ⟨c497,h⟩:=chk_some h
 obtain ⟨e496,he496,h⟩:=idxn_some h
 refine Side.mk ⟨c497,rfl,map_lt he496⟩ ?_
 conv=>whnf
 refine Nf.mk (k356+(Int.toNat ((↑y483:Int)-1))) rfl ?_
 conv=>whnf
 refine ⟨_,_,⟨rfl,map_at he496,rfl,rfl⟩,?_⟩
 conv=>whnf
 obtain ⟨c498,hc498,h⟩:=bind_some h
 refine ⟨_,Sp.args (hf1 e495 e496 c498 hc498) (by rw [hk1_0];try rfl),?_⟩
 conv=>whnf
 refine Both.mk ?_ ?_<;>intro b499
 replace h:=cond_t b499 h
 conv=>whnf
 obtain ⟨e500,he500,h⟩:=idxn_some h
 refine Side.mk ⟨(by omega),rfl,map_lt he500⟩ ?_
 conv=>whnf
 refine Nf.mk (k356+y483) rfl ?_
 conv=>whnf
 refine ⟨_,_,⟨rfl,map_at he500,rfl,rfl⟩,?_⟩
 conv=>whnf
 obtain ⟨e501,he501,h⟩:=idxn_some h
 refine Side.mk ⟨(by omega),rfl,map_lt he501⟩ ?_
 conv=>whnf
 refine Side.mk ⟨rfl,trivial⟩ ?_
 conv=>whnf
 refine ⟨_,map_at he501,?_⟩
 conv=>whnf
 refine Nf.mk (List.map (cL cI) (List.set y481 k482 e500)) (set_map rfl) ?_
 conv=>whnf
 obtain ⟨c502,h⟩:=chk_some h
 refine Arith.mk c502 ?_
 conv=>whnf
 refine Arith.mk (by show inR _;unfold inR;omega) ?_
 conv=>whnf
 cases h
 exact Nxt.mk _ ho493 (Ent.mk [(66,some 66)] rfl ⟨⟨.osl 66 _,rfl,.osl rfl rfl rfl⟩,eI rfl rfl,eI rfl rfl,⟨.osv 66 _ _ _,rfl,.osv rfl rfl rfl⟩,eI rfl rfl,trivial⟩ ⟨.inl ⟨66,rfl,rfl,trivial⟩,trivial⟩ trivial)
 replace h:=cond_f b499 h
 conv=>whnf
 refine Arith.mk (by show inR _;unfold inR;omega) ?_
 conv=>whnf
 cases h
 exact Nxt.mk _ ho493 (Ent.mk [(66,some 66)] rfl ⟨⟨.osl 66 _,rfl,.osl rfl rfl rfl⟩,eI rfl rfl,eI rfl rfl,⟨.osv 66 _ _ _,rfl,.osv rfl rfl rfl⟩,eI rfl rfl,trivial⟩ ⟨.inl ⟨66,rfl,rfl,trivial⟩,trivial⟩ trivial)
 obtain ⟨h,b494d⟩:=cfd b494 h
 conv=>whnf
 cases h
 have ho493:_=_:=ho493
 cases ho493
 exact Join.mk (eA [(66,some 66)])
 replace h:slices_CompactFunc_SSint_Sint_n1.k19 y471 k472=some _:=hk439
 unfold slices_CompactFunc_SSint_Sint_n1.k19 at h
 obtain ⟨z504,_⟩:=hp
 conv=>whnf
 obtain ⟨c505,h⟩:=chk_some h
 refine Side.mk ⟨rfl,c505.1,by have hh_:=c505;simp only [List.length_map];omega,by have hh_:=c505;simp only [List.length_map];omega⟩ ?_
 conv=>whnf
 obtain ⟨c506,h⟩:=chk_some h
 refine Side.mk ⟨rfl,by have hh_:=c506;simp only [List.length_map];omega⟩ ?_
 conv=>whnf
 refine Nf.mk (List.map (cL cI) (List.take k472 y471++List.replicate (List.length y471-k472) [])) (clr_map (z:=[]) rfl) ?_
 conv=>whnf
 obtain ⟨c507,h⟩:=chk_some h
 refine Side.mk ⟨rfl,c507.1,by have hh_:=c507;simp only [List.length_map];omega,by have hh_:=c507;simp only [List.length_map];omega⟩ ?_
 conv=>whnf
 refine Nf.mk (List.map (cL cI) (List.take k472 (List.take k472 y471++List.replicate (List.length y471-k472) []))) cut_own ?_
 conv=>whnf
 cases h
 have ho432:_=_:=ho432
 cases ho432
 replace h:some _=some _:=hk52
 cases h
 conv=>whnf
 exact Side.mk ⟨rfl,trivial⟩ ⟨rfl,rfl⟩
 replace h:=cond_f b437 h
 conv=>whnf
 refine Arith.mk (by show inR _;unfold inR;omega) ?_
 conv=>whnf
 cases h
 exact Nxt.mk _ ho432 (eA [(66,some 66)])
 obtain ⟨h,b433d⟩:=cfd b433 h
 conv=>whnf
 cases h
 have ho432:_=_:=ho432
 cases ho432
 exact JoinS.mk' _ rfl (eA [(66,some 66)])
 rintro ⟨⟩ rfl hp
 replace h:=sum_inl hk52
 obtain ⟨z509,_⟩:=hp
 conv=>whnf
 cases h
 conv=>whnf
 exact Side.mk ⟨rfl,trivial⟩ ⟨rfl,rfl⟩
theorem sp_wordset_ordered (l_:List (List Int)) (order_:(List Int)→(List Int)→Option Int) (f1_:FuncId) (hf1:∀ x0 x1 r,order_ x0 x1=some r→Sp Tryz.prog f1_ [.im (nL cI x0),.im (nL cI x1)] (.im (nI r))) (hd1:CmpE Tryz.prog f1_ (fun x=>nL cI x) order_) (r:List (List Int)) (h:Ok (nL (cL cI) l_)→Ok (.fn f1_ [])→wordset_ordered l_ order_=some r):Sp Tryz.prog 129 [.im (nL (cL cI) l_),.im (.fn f1_ [])] (.row 60 1 (List.map (cL cI) r)):=by
 refine sp_of rfl [13000,16000,2013000] rfl rfl rfl (Nat.le_of_ble_eq_true rfl) rfl fun hk=>?_
 replace h:=h hk.1 hk.2.1
 have z1:lZ l_:=ok_len hk.1
 unfold wordset_ordered at h
 conv=>whnf
 obtain ⟨c51,hc51,h⟩:=bind_some h
 refine ⟨_,(sp_lib_Clone_words l_ c51 (hc51)),?_⟩
 conv=>whnf
 refine Side.mk rfl ?_
 conv=>whnf
 refine Side.mk ⟨rfl,trivial⟩ ?_
 conv=>whnf
 obtain ⟨c52,hc52,h⟩:=bind_some h
 refine ⟨_,(sp_lib_SortFunc_words c51 order_ f1_ hd1 c52 (hc52)),?_⟩
 conv=>whnf
 refine Side.mk ⟨rfl,rfl,trivial⟩ ?_
 conv=>whnf
 obtain ⟨c53,hc53,h⟩:=bind_some h
 refine ⟨_,(sp_slices_CompactFunc_SSint_Sint_n1 c52 (fun u0 u1=>wordset_ordered_1 u0 u1 order_) 151 (.ref [.fn f1_ []]) rfl (fun u0 u1 r h=>(sp_wordset_ordered_1 u0 u1 order_ f1_ hf1 r (fun _ _ _=>h))) c53 (fun _ _=>hc53)),?_⟩
 conv=>whnf
 refine Side.mk rfl ?_
 conv=>whnf
 refine Nf.mk (List.length c53) len_map ?_
 conv=>whnf
 obtain ⟨y73,hc,hk54⟩:=bind_some h
 clear h
 have h:=hc
 clear hc
 refine Cut.mk (mkSt [(5,.osl 64 1)] [(64,.row 60 1 (List.map (cL cI) y73))] []) (lZ y73∧True) ((Holds.kdl 64 rfl).and (hT)) ?_ (fun hp=>?_)
 conv=>whnf
 refine Loops.iter (fun (s:List (List Int)×Nat)=>wordset_ordered.s2 c53 s.1 s.2) (fun (y78,y79)=>mkSt [(5,.osl 64 1),(16,.osl 64 1),(17,.im (nI (↑(List.length c53):Int))),(18,.im (nI (↑y79:Int)))] [(64,.row 60 1 (List.map (cL cI) y78))] []) (fun (y78,y79)=>lZ y78∧True) h (eA [(64,some 15)]) (by rintro ⟨y78,y79⟩;exact ((Holds.kdl 64 rfl).and (hT))) ?_
 clear h
 rintro k ⟨y78,y79⟩ o hp h ho85
 replace h:wordset_ordered.s2 c53 y78 y79=some o:=h
 unfold wordset_ordered.s2 at h
 obtain ⟨z91,_⟩:=hp
 conv=>whnf
 refine Both.mk ?_ ?_<;>intro b86
 obtain ⟨h,b86d⟩:=ctd b86 h
 conv=>whnf
 obtain ⟨e87,he87,h⟩:=idxn_some h
 refine Side.mk ⟨(by omega),rfl,map_lt he87⟩ ?_
 conv=>whnf
 refine ⟨_,_,⟨rfl,map_at he87,rfl,rfl⟩,?_⟩
 conv=>whnf
 obtain ⟨c88,hc88,h⟩:=bind_some h
 refine ⟨_,(sp_lib_Clone_int e87 c88 (hc88)).im,?_⟩
 conv=>whnf
 obtain ⟨e89,he89,h⟩:=idxn_some h
 refine Side.mk ⟨(by omega),rfl,map_lt he89⟩ ?_
 conv=>whnf
 refine Side.mk ⟨rfl,trivial⟩ ?_
 conv=>whnf
 refine ⟨_,map_at he89,?_⟩
 conv=>whnf
 refine Nf.mk (List.map (cL cI) (List.set y78 y79 c88)) (set_map rfl) ?_
 conv=>whnf
 obtain ⟨c90,h⟩:=chk_some h
 refine Arith.mk c90 ?_
 conv=>whnf
 cases h
 exact Nxt.mk _ ho85 (eA [(64,some 64)])
 obtain ⟨h,b86d⟩:=cfd b86 h
 conv=>whnf
 cases h
 have ho85:_=_:=ho85
 cases ho85
 exact Join.mk (eA [(64,some 64)])
 replace h:=hk54
 obtain ⟨z92,_⟩:=hp
 conv=>whnf
 cases h
 conv=>whnf
 exact Side.mk ⟨rfl,trivial⟩ ⟨rfl,rfl⟩
theorem sp_wordset_Sorted (l_:List (List Int)) (r:List (List Int)) (h:Ok (nL (cL cI) l_)→wordset_Sorted l_=some r):Sp Tryz.prog 94 [.im (nL (cL cI) l_)] (.row 60 1 (List.map (cL cI) r)):=by
 refine sp_of rfl [] rfl rfl rfl (Nat.le_of_ble_eq_true rfl) rfl fun hk=>?_
 replace h:=h hk.1
 have z1:lZ l_:=ok_len hk.1
 unfold wordset_Sorted at h
 conv=>whnf
 obtain ⟨c51,hc51,h⟩:=bind_some h
 refine ⟨_,(sp_wordset_ordered l_ (fun u0 u1=>word_Compare u0 u1) 130 (fun u0 u1 r h=>(sp_word_Compare u0 u1 r (fun _ _=>h))) cmpE_word_Compare c51 (fun _ _=>hc51)),?_⟩
 conv=>whnf
 cases h
 conv=>whnf
 exact Side.mk ⟨rfl,trivial⟩ ⟨rfl,rfl⟩
theorem sp_wordset_Union (lists_:List (List (List Int))) (r:List (List Int)) (h:Ok (nL (cL (cL cI)) lists_)→wordset_Union lists_=some r):Sp Tryz.prog 57 [.im (nL (cL (cL cI)) lists_)] (.im (nL (cL cI) r)):=by
 refine sp_of rfl [] rfl rfl rfl (Nat.le_of_ble_eq_true rfl) rfl fun hk=>?_
 replace h:=h hk.1
 have z1:lZ lists_:=ok_len hk.1
 unfold wordset_Union at h
 conv=>whnf
 obtain ⟨c51,hc51,h⟩:=bind_some h
 refine ⟨_,(sp_slices_Concat_SSint_Sint lists_ c51 (fun _=>hc51)).im,?_⟩
 conv=>whnf
 obtain ⟨c52,hc52,h⟩:=bind_some h
 refine ⟨_,(sp_wordset_Sorted c51 c52 (fun _=>hc52)).im,?_⟩
 conv=>whnf
 cases h
 conv=>whnf
 exact ⟨rfl,rfl⟩
theorem sp_merge_Complete (p_:T_api_Part) (out_:Int) (r:T_api_Mealy×Int) (h:Ok (.agg (c_api_Part p_))→Ok (nI out_)→merge_Complete p_ out_=some r):Sp Tryz.prog 53 [.im (.agg (c_api_Part p_)),.im (nI out_)] (.tup [.agg (c_api_Mealy r.1),nI r.2]):=by
 refine sp_of rfl [700002] rfl rfl rfl (Nat.le_of_ble_eq_true rfl) rfl fun hk=>?_
 replace h:=h hk.1 hk.2.1
 have z1:lZ p_.Next:=ok_len (Ok.agg_at hk.1 2 rfl)
 have z2:lZ p_.Out:=ok_len (Ok.agg_at hk.1 3 rfl)
 unfold merge_Complete at h
 conv=>whnf
 obtain ⟨c51,hc51,h⟩:=bind_some h
 refine ⟨_,(sp_merge_Valid p_ c51 (fun _=>hc51)),?_⟩
 conv=>whnf
 refine Both.mk ?_ ?_<;>intro b52
 obtain ⟨h,b52d⟩:=ctd b52 h
 conv=>whnf
 refine Side.mk rfl ?_
 conv=>whnf
 cases h
 conv=>whnf
 refine Side.mk ⟨rfl,trivial⟩ ?_
 conv=>whnf
 exact ⟨rfl,rfl⟩
 obtain ⟨h,b52d⟩:=cfd b52 h
 conv=>whnf
 obtain ⟨y56,hc,hk54⟩:=bind_some h
 clear h
 have h:=hc
 clear hc
 refine Cut.mk (mkSt [(1,.im (nI out_)),(2,.im (.ref (c_api_Part p_))),(4,.own 99 1 0),(24,.im (nB y56))] [(99,.box 50 4)] [(99,0,.im (nI 0)),(99,1,.im (nI 0)),(99,2,.im (.val (.slice none 0 0))),(99,3,.im (.val (.slice none 0 0)))]) (True) (hT) ?_ (fun hp=>?_)
 conv=>whnf
 refine Both.mk ?_ ?_<;>intro b57
 replace b57:=beq_ff b57
 obtain ⟨h,b57d⟩:=cfd b57 h
 conv=>whnf
 refine Both.yes (ff_beq b57) ?_
 conv=>whnf
 refine Both.no b57 ?_
 conv=>whnf
 cases h
 exact Join.mk (eA [(99,some 4)])
 replace b57:=beq_ft b57
 obtain ⟨h,b57d⟩:=ctd b57 h
 conv=>whnf
 refine Both.no (tf_beq b57) ?_
 conv=>whnf
 refine Both.yes b57 ?_
 conv=>whnf
 cases h
 exact Join.mk (eA [(99,some 4)])
 replace h:=hk54
 conv=>whnf
 refine Both.mk ?_ ?_<;>intro b58
 replace h:=cond_t b58 h
 conv=>whnf
 refine Side.mk rfl ?_
 conv=>whnf
 cases h
 conv=>whnf
 refine Side.mk ⟨rfl,trivial⟩ ?_
 conv=>whnf
 exact ⟨rfl,rfl⟩
 replace h:=cond_f b58 h
 conv=>whnf
 refine Nf.mk (List.length p_.Next) len_map ?_
 conv=>whnf
 refine Both.mk ?_ ?_<;>intro b59
 obtain ⟨h,b59d⟩:=ctd b59 h
 conv=>whnf
 refine Side.mk rfl ?_
 conv=>whnf
 cases h
 conv=>whnf
 refine Side.mk ⟨rfl,trivial⟩ ?_
 conv=>whnf
 exact ⟨rfl,rfl⟩
 obtain ⟨h,b59d⟩:=cfd b59 h
 conv=>whnf
 refine Side.mk rfl ?_
 conv=>whnf
 refine Nf.mk (List.length p_.Next) len_map ?_
 conv=>whnf
 obtain ⟨⟨y314,y315⟩,hc,hk60⟩:=bind_some h
 clear h
 have h:=hc
 clear hc
 refine Cut.mk (mkSt [(4,.own 99 1 0),(7,.own 100 1 0)] [(99,.box 50 4),(100,.box 50 4),(101,.row 60 1 (List.map (cL cI) y314)),(102,.row 60 1 (List.map (cL cI) y315))] [(99,0,.im (nI 0)),(99,1,.im (nI 0)),(99,2,.im (.val (.slice none 0 0))),(99,3,.im (.val (.slice none 0 0))),(100,0,.im (nI p_.Inputs)),(100,1,.im (nI p_.Start)),(100,2,.osl 101 1),(100,3,.osl 102 1)]) (lZ y314∧lZ y315∧True) ((Holds.kdl 101 rfl).and ((Holds.kdl 102 rfl).and (hT))) ?_ (fun hp=>?_)
 conv=>whnf
 refine Loops.iter (fun (s:List (List Int)×List (List Int)×Nat)=>merge_Complete.s20 p_ out_ s.1 s.2.1 s.2.2) (fun (y393,y394,y395)=>mkSt [(1,.im (nI out_)),(2,.im (.ref (c_api_Part p_))),(4,.own 99 1 0),(7,.own 100 1 0),(38,.im (nI (↑(List.length p_.Next):Int))),(39,.im (nI (↑y395:Int)))] [(99,.box 50 4),(100,.box 50 4),(101,.row 60 1 (List.map (cL cI) y393)),(102,.row 60 1 (List.map (cL cI) y394))] [(99,0,.im (nI 0)),(99,1,.im (nI 0)),(99,2,.im (.val (.slice none 0 0))),(99,3,.im (.val (.slice none 0 0))),(100,0,.im (nI p_.Inputs)),(100,1,.im (nI p_.Start)),(100,2,.osl 101 1),(100,3,.osl 102 1)]) (fun (y393,y394,y395)=>lZ y393∧lZ y394∧True) h (Ent.mk [(99,some 99),(100,some 7),(101,none),(102,none)] rfl ⟨eI rfl rfl,eI rfl rfl,⟨.own 99 _ 0,rfl,.own rfl rfl rfl⟩,⟨.own 7 _ 0,rfl,.own rfl rfl rfl⟩,eI rfl rfl,eI rfl rfl,trivial⟩ ⟨.inl ⟨99,rfl,rfl,trivial⟩,.inl ⟨7,rfl,rfl,trivial⟩,.inr ⟨rfl,rfl,.inl ⟨_,_,rfl,by decide⟩⟩,.inr ⟨rfl,rfl,.inl ⟨_,_,rfl,by decide⟩⟩,trivial⟩ ⟨⟨99,.im _,rfl,rfl,.im (Sub.rfl' rfl)⟩,⟨99,.im _,rfl,rfl,.im (Sub.rfl' rfl)⟩,⟨99,.im (.val (.slice none 0 0)),rfl,rfl,.im (Sub.rfl' rfl)⟩,⟨99,.im (.val (.slice none 0 0)),rfl,rfl,.im (Sub.rfl' rfl)⟩,⟨7,.im _,rfl,rfl,.im (Sub.rfl' rfl)⟩,⟨7,.im _,rfl,rfl,.im (Sub.rfl' rfl)⟩,⟨7,.im (.val (.slice none 0 0)),rfl,rfl,.made rfl rfl⟩,⟨7,.im (.val (.slice none 0 0)),rfl,rfl,.made rfl rfl⟩,trivial⟩) (by rintro ⟨y393,y394,y395⟩;exact ((Holds.kdl 101 rfl).and ((Holds.kdl 102 rfl).and (hT)))) ?_
 clear h
 rintro k ⟨y393,y394,y395⟩ o hp h ho481
 replace h:merge_Complete.s20 p_ out_ y393 y394 y395=some o:=h
 unfold merge_Complete.s20 at h
 obtain ⟨z567,z568,_⟩:=hp
 conv=>whnf
 refine Both.mk ?_ ?_<;>intro b482
 obtain ⟨h,b482d⟩:=ctd b482 h
 conv=>whnf
 obtain ⟨c483,h⟩:=chk_some h
 refine Side.mk c483 ?_
 conv=>whnf
 refine Nf.mk (List.map cI (List.replicate (Int.toNat p_.Inputs) (0:Int))) (rep_map (c:=cI) (z:=0) (n:=(Int.toNat p_.Inputs)) rfl rfl) ?_
 conv=>whnf
 obtain ⟨c484,h⟩:=chk_some h
 refine Side.mk c484 ?_
 conv=>whnf
 refine Nf.mk (List.map cI (List.replicate (Int.toNat p_.Inputs) (0:Int))) (rep_map (c:=cI) (z:=0) (n:=(Int.toNat p_.Inputs)) rfl rfl) ?_
 conv=>whnf
 obtain ⟨e485,he485,h⟩:=idxn_some h
 refine ⟨_,⟨(by omega),map_at he485,rfl⟩,?_⟩
 conv=>whnf
 refine Nf.mk (List.length e485) len_map ?_
 conv=>whnf
 obtain ⟨⟨y523,y524⟩,hc,hk486⟩:=bind_some h
 clear h
 have h:=hc
 clear hc
 refine Cut.mk (mkSt [(1,.im (nI out_)),(2,.im (.ref (c_api_Part p_))),(4,.own 99 1 0),(7,.own 100 1 0),(9,.osl 103 1),(10,.osl 104 1),(38,.im (nI (↑(List.length p_.Next):Int))),(39,.im (nI (↑y395:Int)))] [(99,.box 50 4),(100,.box 50 4),(101,.row 60 1 (List.map (cL cI) y393)),(102,.row 60 1 (List.map (cL cI) y394)),(103,.row 3 1 (List.map cI y523)),(104,.row 3 1 (List.map cI y524))] [(99,0,.im (nI 0)),(99,1,.im (nI 0)),(99,2,.im (.val (.slice none 0 0))),(99,3,.im (.val (.slice none 0 0))),(100,0,.im (nI p_.Inputs)),(100,1,.im (nI p_.Start)),(100,2,.osl 101 1),(100,3,.osl 102 1)]) (lZ y393∧lZ y394∧lZ y523∧lZ y524∧True) ((Holds.kdl 101 rfl).and ((Holds.kdl 102 rfl).and ((Holds.kdl 103 rfl).and ((Holds.kdl 104 rfl).and (hT))))) ?_ (fun hp=>?_)
 conv=>whnf
 refine Loops.iter (fun (s:List Int×List Int×Nat)=>merge_Complete.s18 p_ out_ y395 e485 s.1 s.2.1 s.2.2) (fun (y534,y535,y536)=>mkSt [(1,.im (nI out_)),(2,.im (.ref (c_api_Part p_))),(4,.own 99 1 0),(7,.own 100 1 0),(8,.im (nI (↑y395:Int))),(9,.osl 103 1),(10,.osl 104 1),(38,.im (nI (↑(List.length p_.Next):Int))),(39,.im (nI (↑y395:Int))),(52,.im (nL cI e485)),(53,.im (nI (↑(List.length e485):Int))),(54,.im (nI (↑y536:Int)))] [(99,.box 50 4),(100,.box 50 4),(101,.row 60 1 (List.map (cL cI) y393)),(102,.row 60 1 (List.map (cL cI) y394)),(103,.row 3 1 (List.map cI y534)),(104,.row 3 1 (List.map cI y535))] [(99,0,.im (nI 0)),(99,1,.im (nI 0)),(99,2,.im (.val (.slice none 0 0))),(99,3,.im (.val (.slice none 0 0))),(100,0,.im (nI p_.Inputs)),(100,1,.im (nI p_.Start)),(100,2,.osl 101 1),(100,3,.osl 102 1)]) (fun (y534,y535,y536)=>lZ e485∧lZ y393∧lZ y394∧lZ y534∧lZ y535∧True) h (eA [(99,some 99),(100,some 100),(101,some 101),(102,some 102),(103,some 44),(104,some 47)]) (by rintro ⟨y534,y535,y536⟩;exact ((Holds.avl 52 rfl).and ((Holds.kdl 101 rfl).and ((Holds.kdl 102 rfl).and ((Holds.kdl 103 rfl).and ((Holds.kdl 104 rfl).and (hT))))))) ?_
 clear h
 rintro k ⟨y534,y535,y536⟩ o hp h ho546
 replace h:merge_Complete.s18 p_ out_ y395 e485 y534 y535 y536=some o:=h
 unfold merge_Complete.s18 at h
 obtain ⟨z556,z557,z558,z559,z560,_⟩:=hp
 conv=>whnf
 refine Both.mk ?_ ?_<;>intro b547
 obtain ⟨h,b547d⟩:=ctd b547 h
 conv=>whnf
 obtain ⟨e548,he548,h⟩:=idxn_some h
 refine ⟨_,⟨(by omega),map_at he548,rfl⟩,?_⟩
 conv=>whnf
 obtain ⟨e549,he549,h⟩:=idxn_some h
 refine ⟨_,⟨(by omega),map_at he549,rfl⟩,?_⟩
 conv=>whnf
 obtain ⟨e550,he550,h⟩:=idxn_some h
 refine ⟨_,⟨(by omega),map_at he550,rfl⟩,?_⟩
 conv=>whnf
 obtain ⟨e551,he551,h⟩:=idxn_some h
 refine Side.mk ⟨(by omega),rfl,map_lt he551⟩ ?_
 conv=>whnf
 refine Side.mk ⟨rfl,trivial⟩ ?_
 conv=>whnf
 refine ⟨_,map_at he551,?_⟩
 conv=>whnf
 refine Nf.mk (List.map cI (List.set y534 y536 e548)) (set_map rfl) ?_
 conv=>whnf
 obtain ⟨e552,he552,h⟩:=idxn_some h
 refine Side.mk ⟨(by omega),rfl,map_lt he552⟩ ?_
 conv=>whnf
 refine Side.mk ⟨rfl,trivial⟩ ?_
 conv=>whnf
 refine ⟨_,map_at he552,?_⟩
 conv=>whnf
 refine Nf.mk (List.map cI (List.set y535 y536 e550)) (set_map rfl) ?_
 conv=>whnf
 refine Both.mk ?_ ?_<;>intro b553
 obtain ⟨h,b553d⟩:=ctd b553 h
 conv=>whnf
 obtain ⟨e554,he554,h⟩:=idxn_some h
 refine Side.mk ⟨(by omega),rfl,map_lt he554⟩ ?_
 conv=>whnf
 refine Side.mk ⟨rfl,trivial⟩ ?_
 conv=>whnf
 refine ⟨_,map_at he554,?_⟩
 conv=>whnf
 refine Nf.mk (List.map cI (List.set (List.set y534 y536 e548) y536 (↑y395:Int))) (set_map rfl) ?_
 conv=>whnf
 obtain ⟨e555,he555,h⟩:=idxn_some h
 refine Side.mk ⟨(by omega),rfl,map_lt he555⟩ ?_
 conv=>whnf
 refine Side.mk ⟨rfl,trivial⟩ ?_
 conv=>whnf
 refine ⟨_,map_at he555,?_⟩
 conv=>whnf
 refine Nf.mk (List.map cI (List.set (List.set y535 y536 e550) y536 out_)) (set_map rfl) ?_
 conv=>whnf
 refine Arith.mk (by show inR _;unfold inR;omega) ?_
 conv=>whnf
 cases h
 exact Nxt.mk _ ho546 (eA [(99,some 99),(100,some 100),(101,some 101),(102,some 102),(103,some 103),(104,some 104)])
 obtain ⟨h,b553d⟩:=cfd b553 h
 conv=>whnf
 refine Arith.mk (by show inR _;unfold inR;omega) ?_
 conv=>whnf
 cases h
 exact Nxt.mk _ ho546 (eA [(99,some 99),(100,some 100),(101,some 101),(102,some 102),(103,some 103),(104,some 104)])
 obtain ⟨h,b547d⟩:=cfd b547 h
 conv=>whnf
 cases h
 have ho546:_=_:=ho546
 cases ho546
 exact Join.mk (eA [(99,some 99),(100,some 100),(101,some 101),(102,some 102),(103,some 103),(104,some 104)])
 replace h:merge_Complete.k19 y393 y394 y395 y523 y524=some _:=hk486
 unfold merge_Complete.k19 at h
 obtain ⟨z561,z562,z563,z564,_⟩:=hp
 conv=>whnf
 refine Side.mk rfl ?_
 conv=>whnf
 refine Side.mk rfl ?_
 conv=>whnf
 refine Side.mk ⟨rfl,trivial⟩ ?_
 conv=>whnf
 obtain ⟨c565,h⟩:=chk_some h
 refine Side.mk ⟨rfl,map_len (l:=[y523]) (c:=cL cI) fun _=>rfl,show capOk _ 24 by simpa only [List.length_map,List.length_cons,List.length_nil,Nat.zero_add] using c565⟩ ?_
 conv=>whnf
 refine Nf.mk (List.map (cL cI) (y393++[y523])) (app_map (l:=y393) (m:=[y523]) (c:=cL cI)) ?_
 conv=>whnf
 refine Side.mk rfl ?_
 conv=>whnf
 refine Side.mk rfl ?_
 conv=>whnf
 refine Side.mk ⟨rfl,trivial⟩ ?_
 conv=>whnf
 obtain ⟨c566,h⟩:=chk_some h
 refine Side.mk ⟨rfl,map_len (l:=[y524]) (c:=cL cI) fun _=>rfl,show capOk _ 24 by simpa only [List.length_map,List.length_cons,List.length_nil,Nat.zero_add] using c566⟩ ?_
 conv=>whnf
 refine Nf.mk (List.map (cL cI) (y394++[y524])) (app_map (l:=y394) (m:=[y524]) (c:=cL cI)) ?_
 conv=>whnf
 refine Side.mk rfl ?_
 conv=>whnf
 refine Side.mk rfl ?_
 conv=>whnf
 refine Side.mk rfl ?_
 conv=>whnf
 refine Side.mk rfl ?_
 conv=>whnf
 refine Arith.mk (by show inR _;unfold inR;omega) ?_
 conv=>whnf
 cases h
 exact Nxt.mk _ ho481 (eA [(99,some 99),(100,some 100),(101,some 101),(102,some 102)])
 obtain ⟨h,b482d⟩:=cfd b482 h
 conv=>whnf
 cases h
 have ho481:_=_:=ho481
 cases ho481
 exact Join.mk (eA [(99,some 99),(100,some 100),(101,some 101),(102,some 102)])
 replace h:merge_Complete.k21 p_ y314 y315=some _:=hk60
 unfold merge_Complete.k21 at h
 obtain ⟨z569,z570,_⟩:=hp
 conv=>whnf
 refine Side.mk rfl ?_
 conv=>whnf
 refine Side.mk rfl ?_
 conv=>whnf
 cases h
 conv=>whnf
 refine Side.mk ⟨rfl,trivial⟩ ?_
 conv=>whnf
 exact Side.mk ⟨rfl,rfl,trivial⟩ ⟨rfl,rfl⟩
theorem sp_mealy_Valid (m_:T_api_Mealy) (r:Int) (h:Ok (.agg (c_api_Mealy m_))→mealy_Valid m_=some r):Sp Tryz.prog 119 [.im (.agg (c_api_Mealy m_))] (.im (nI r)):=by
 refine sp_of rfl [700001] rfl rfl rfl (Nat.le_of_ble_eq_true rfl) rfl fun hk=>?_
 replace h:=h hk.1
 have z1:lZ m_.Next:=ok_len (Ok.agg_at hk.1 2 rfl)
 have z2:lZ m_.Out:=ok_len (Ok.agg_at hk.1 3 rfl)
 unfold mealy_Valid at h
 conv=>whnf
 refine Nf.mk (List.length m_.Next) len_map ?_
 conv=>whnf
 obtain ⟨y54,hc,hk52⟩:=bind_some h
 clear h
 have h:=hc
 clear hc
 refine Cut.mk (mkSt [(1,.im (.ref (c_api_Mealy m_))),(3,.im (nI (↑(List.length m_.Next):Int))),(11,.im (nB y54))] [] []) (True) (hT) ?_ (fun hp=>?_)
 conv=>whnf
 refine Both.mk ?_ ?_<;>intro b55
 replace b55:=beq_ff b55
 obtain ⟨h,b55d⟩:=cfd b55 h
 conv=>whnf
 iterate 2 (refine Both.yes (ff_beq b55) ?_;(conv=>whnf))
 refine Both.no b55 ?_
 conv=>whnf
 cases h
 exact Join.mk (eA [])
 replace b55:=beq_ft b55
 obtain ⟨h,b55d⟩:=ctd b55 h
 conv=>whnf
 iterate 2 (refine Both.no (tf_beq b55) ?_;(conv=>whnf))
 refine Both.yes b55 ?_
 conv=>whnf
 cases h
 exact Join.mk (eA [])
 replace h:=hk52
 conv=>whnf
 refine Both.mk ?_ ?_<;>intro b56
 replace h:=cond_t b56 h
 conv=>whnf
 cases h
 conv=>whnf
 exact ⟨rfl,rfl⟩
 replace h:=cond_f b56 h
 conv=>whnf
 refine Both.mk ?_ ?_<;>intro b57
 obtain ⟨h,b57d⟩:=ctd b57 h
 conv=>whnf
 cases h
 conv=>whnf
 exact ⟨rfl,rfl⟩
 obtain ⟨h,b57d⟩:=cfd b57 h
 conv=>whnf
 refine Both.mk ?_ ?_<;>intro b58
 obtain ⟨h,b58d⟩:=ctd b58 h
 conv=>whnf
 cases h
 conv=>whnf
 exact ⟨rfl,rfl⟩
 obtain ⟨h,b58d⟩:=cfd b58 h
 conv=>whnf
 obtain ⟨y62,hc,hk60⟩:=bind_some h
 clear h
 have h:=hc
 clear hc
 refine Cut.mk (mkSt [(1,.im (.ref (c_api_Mealy m_))),(3,.im (nI (↑(List.length m_.Next):Int))),(26,.im (nB y62))] [] []) (True) (hT) ?_ (fun hp=>?_)
 conv=>whnf
 refine Both.mk ?_ ?_<;>intro b63
 replace b63:=beq_ff b63
 obtain ⟨h,b63d⟩:=cfd b63 h
 conv=>whnf
 iterate 3 (refine Both.yes (ff_beq b63) ?_;(conv=>whnf))
 refine Both.no b63 ?_
 conv=>whnf
 cases h
 exact Join.mk (eA [])
 replace b63:=beq_ft b63
 obtain ⟨h,b63d⟩:=ctd b63 h
 conv=>whnf
 iterate 3 (refine Both.no (tf_beq b63) ?_;(conv=>whnf))
 refine Both.yes b63 ?_
 conv=>whnf
 cases h
 exact Join.mk (eA [])
 replace h:=hk60
 conv=>whnf
 refine Both.mk ?_ ?_<;>intro b64
 replace h:=cond_t b64 h
 conv=>whnf
 cases h
 conv=>whnf
 exact ⟨rfl,rfl⟩
 replace h:=cond_f b64 h
 conv=>whnf
 refine Nf.mk (List.length m_.Out) len_map ?_
 conv=>whnf
 refine Both.mk ?_ ?_<;>intro b65
 obtain ⟨h,b65d⟩:=ctd b65 h
 conv=>whnf
 cases h
 conv=>whnf
 exact ⟨rfl,rfl⟩
 obtain ⟨h,b65d⟩:=cfd b65 h
 conv=>whnf
 obtain ⟨oc,hc,hk66⟩:=bind_some h
 clear h
 have h:=hc
 clear hc
 refine Cut.mkS oc (Y:=Unit) (fun (_:Unit)=>mkSt [] [] []) (fun (_:Unit)=>True) (by rintro ⟨⟩;exact (hT)) ?_ ?_
 conv=>whnf
 refine Loops.iter (fun (s:Nat)=>mealy_Valid.s14 m_ s) (fun y509=>mkSt [(1,.im (.ref (c_api_Mealy m_))),(3,.im (nI (↑(List.length m_.Next):Int))),(42,.im (nI (↑(List.length m_.Next):Int))),(43,.im (nI (↑y509:Int)))] [] []) (fun y509=>True) h (eA []) (by rintro y509;exact (hT)) ?_
 clear h
 rintro k y509 o hp h ho620
 replace h:mealy_Valid.s14 m_ y509=some o:=h
 unfold mealy_Valid.s14 at h
 conv=>whnf
 refine Both.mk ?_ ?_<;>intro b621
 obtain ⟨h,b621d⟩:=ctd b621 h
 conv=>whnf
 obtain ⟨y627,hc,hk623⟩:=bind_some h
 clear h
 have h:=hc
 clear hc
 refine Cut.mk (mkSt [(1,.im (.ref (c_api_Mealy m_))),(3,.im (nI (↑(List.length m_.Next):Int))),(4,.im (nI (↑y509:Int))),(42,.im (nI (↑(List.length m_.Next):Int))),(43,.im (nI (↑y509:Int))),(65,.im (nB y627))] [] []) (True) (hT) ?_ (fun hp=>?_)
 conv=>whnf
 obtain ⟨e628,he628,h⟩:=idxn_some h
 refine ⟨_,⟨(by omega),map_at he628,rfl⟩,?_⟩
 conv=>whnf
 refine Nf.mk (List.length e628) len_map ?_
 conv=>whnf
 refine Both.mk ?_ ?_<;>intro b629
 replace b629:=beq_ff b629
 obtain ⟨h,b629d⟩:=cfd b629 h
 conv=>whnf
 iterate 3 (refine Both.yes (ff_beq b629) ?_;(conv=>whnf))
 obtain ⟨e630,he630,h⟩:=idxn_some h
 refine ⟨_,⟨(by omega),map_at he630,rfl⟩,?_⟩
 conv=>whnf
 iterate 2 (refine Both.yes (ff_beq b629) ?_;(conv=>whnf))
 refine Nf.mk (List.length e630) len_map ?_
 conv=>whnf
 iterate 3 (refine Both.yes (ff_beq b629) ?_;(conv=>whnf))
 refine Both.no b629 ?_
 conv=>whnf
 cases h
 exact Join.mk (eA [])
 replace b629:=beq_ft b629
 obtain ⟨h,b629d⟩:=ctd b629 h
 conv=>whnf
 iterate 8 (refine Both.no (tf_beq b629) ?_;(conv=>whnf))
 refine Both.yes b629 ?_
 conv=>whnf
 cases h
 exact Join.mk (eA [])
 replace h:=hk623
 conv=>whnf
 refine Both.mk ?_ ?_<;>intro b631
 replace h:=cond_t b631 h
 conv=>whnf
 cases h
 have ho620:_=_:=ho620
 cases ho620
 replace h:some _=some _:=hk66
 cases h
 conv=>whnf
 exact ⟨rfl,rfl⟩
 replace h:=cond_f b631 h
 conv=>whnf
 obtain ⟨oc,hc,hk632⟩:=bind_some h
 clear h
 have h:=hc
 clear hc
 refine Cut.mkS oc (Y:=Unit) (fun (_:Unit)=>mkSt [(1,.im (.ref (c_api_Mealy m_))),(3,.im (nI (↑(List.length m_.Next):Int))),(42,.im (nI (↑(List.length m_.Next):Int))),(43,.im (nI (↑y509:Int)))] [] []) (fun (_:Unit)=>True) (by rintro ⟨⟩;exact (hT)) ?_ ?_
 conv=>whnf
 refine Loops.iter (fun (s:Nat)=>mealy_Valid.s13 m_ y509 s) (fun y697=>mkSt [(1,.im (.ref (c_api_Mealy m_))),(3,.im (nI (↑(List.length m_.Next):Int))),(4,.im (nI (↑y509:Int))),(42,.im (nI (↑(List.length m_.Next):Int))),(43,.im (nI (↑y509:Int))),(67,.im (nI m_.Inputs)),(68,.im (nI (↑y697:Int)))] [] []) (fun y697=>True) h (eA []) (by rintro y697;exact (hT)) ?_
 clear h
 rintro k y697 o hp h ho714
 replace h:mealy_Valid.s13 m_ y509 y697=some o:=h
 unfold mealy_Valid.s13 at h
 conv=>whnf
 refine Both.mk ?_ ?_<;>intro b715
 obtain ⟨h,b715d⟩:=ctd b715 h
 conv=>whnf
 obtain ⟨e716,he716,h⟩:=idxn_some h
 refine ⟨_,⟨(by omega),map_at he716,rfl⟩,?_⟩
 conv=>whnf
 obtain ⟨e717,he717,h⟩:=idxn_some h
 refine ⟨_,⟨(by omega),map_at he717,rfl⟩,?_⟩
 conv=>whnf
 obtain ⟨e718,he718,h⟩:=idxn_some h
 refine ⟨_,⟨(by omega),map_at he718,rfl⟩,?_⟩
 conv=>whnf
 obtain ⟨e719,he719,h⟩:=idxn_some h
 refine ⟨_,⟨(by omega),map_at he719,rfl⟩,?_⟩
 conv=>whnf
 obtain ⟨y725,hc,hk721⟩:=bind_some h
 clear h
 have h:=hc
 clear hc
 refine Cut.mk (mkSt [(1,.im (.ref (c_api_Mealy m_))),(3,.im (nI (↑(List.length m_.Next):Int))),(4,.im (nI (↑y509:Int))),(42,.im (nI (↑(List.length m_.Next):Int))),(43,.im (nI (↑y509:Int))),(67,.im (nI m_.Inputs)),(68,.im (nI (↑y697:Int))),(101,.im (nB y725))] [] []) (True) (hT) ?_ (fun hp=>?_)
 conv=>whnf
 refine Both.mk ?_ ?_<;>intro b726
 replace b726:=beq_ff b726
 obtain ⟨h,b726d⟩:=cfd b726 h
 conv=>whnf
 iterate 2 (refine Both.yes (ff_beq b726) ?_;(conv=>whnf))
 refine Both.no b726 ?_
 conv=>whnf
 refine Both.mk ?_ ?_<;>intro b727
 replace b727:=beq_ff b727
 obtain ⟨h,b727d⟩:=cfd b727 h
 conv=>whnf
 refine Both.yes (ff_beq b727) ?_
 conv=>whnf
 refine Both.no b727 ?_
 conv=>whnf
 refine Both.mk ?_ ?_<;>intro b728
 replace b728:=beq_ff b728
 obtain ⟨h,b728d⟩:=cfd b728 h
 conv=>whnf
 refine Both.yes (ff_beq b728) ?_
 conv=>whnf
 refine Both.no b728 ?_
 conv=>whnf
 cases h
 exact Join.mk (eA [])
 replace b728:=beq_ft b728
 obtain ⟨h,b728d⟩:=ctd b728 h
 conv=>whnf
 refine Both.no (tf_beq b728) ?_
 conv=>whnf
 refine Both.yes b728 ?_
 conv=>whnf
 cases h
 exact Join.mk (eA [])
 replace b727:=beq_ft b727
 obtain ⟨h,b727d⟩:=ctd b727 h
 conv=>whnf
 refine Both.no (tf_beq b727) ?_
 conv=>whnf
 refine Both.yes b727 ?_
 conv=>whnf
 iterate 2 (refine Both.no rfl ?_;(conv=>whnf))
 refine Both.yes rfl ?_
 conv=>whnf
 cases h
 exact Join.mk (eA [])
 replace b726:=beq_ft b726
 obtain ⟨h,b726d⟩:=ctd b726 h
 conv=>whnf
 iterate 2 (refine Both.no (tf_beq b726) ?_;(conv=>whnf))
 refine Both.yes b726 ?_
 conv=>whnf
 iterate 2 (refine Both.no rfl ?_;(conv=>whnf))
 refine Both.yes rfl ?_
 conv=>whnf
 iterate 2 (refine Both.no rfl ?_;(conv=>whnf))
 refine Both.yes rfl ?_
 conv=>whnf
 cases h
 exact Join.mk (eA [])
 replace h:=hk721
 conv=>whnf
 refine Both.mk ?_ ?_<;>intro b729
 replace h:=cond_t b729 h
 conv=>whnf
 cases h
 have ho714:_=_:=ho714
 cases ho714
 replace h:some _=some _:=hk632
 cases h
 have ho620:_=_:=ho620
 cases ho620
 replace h:some _=some _:=hk66
 cases h
 conv=>whnf
 exact ⟨rfl,rfl⟩
 replace h:=cond_f b729 h
 conv=>whnf
 obtain ⟨c730,h⟩:=chk_some h
 refine Arith.mk c730 ?_
 conv=>whnf
 cases h
 exact Nxt.mk _ ho714 (eA [])
 obtain ⟨h,b715d⟩:=cfd b715 h
 conv=>whnf
 cases h
 have ho714:_=_:=ho714
 cases ho714
 exact JoinS.mk' _ rfl (eA [])
 rintro ⟨⟩ rfl hp
 replace h:=sum_inl hk632
 conv=>whnf
 refine Arith.mk (by show inR _;unfold inR;omega) ?_
 conv=>whnf
 cases h
 exact Nxt.mk _ ho620 (eA [])
 obtain ⟨h,b621d⟩:=cfd b621 h
 conv=>whnf
 cases h
 have ho620:_=_:=ho620
 cases ho620
 exact JoinS.mk' _ rfl (eA [])
 rintro ⟨⟩ rfl hp
 replace h:=sum_inl hk66
 conv=>whnf
 cases h
 conv=>whnf
 exact ⟨rfl,rfl⟩
theorem sp_mealy_Reach (m_:T_api_Mealy) (r:List Int) (h:Ok (.agg (c_api_Mealy m_))→mealy_Reach m_=some r):Sp Tryz.prog 120 [.im (.agg (c_api_Mealy m_))] (.row 3 1 (List.map cI r)):=by
 refine sp_of rfl [21,700001] rfl rfl rfl (Nat.le_of_ble_eq_true rfl) rfl fun hk=>?_
 replace h:=h hk.1
 have z1:lZ m_.Next:=ok_len (Ok.agg_at hk.1 2 rfl)
 have z2:lZ m_.Out:=ok_len (Ok.agg_at hk.1 3 rfl)
 unfold mealy_Reach at h
 conv=>whnf
 obtain ⟨c51,hc51,h⟩:=bind_some h
 refine ⟨_,(sp_mealy_Valid m_ c51 (fun _=>hc51)),?_⟩
 conv=>whnf
 refine Both.mk ?_ ?_<;>intro b52
 obtain ⟨h,b52d⟩:=ctd b52 h
 conv=>whnf
 cases h
 conv=>whnf
 exact ⟨rfl,rfl⟩
 obtain ⟨h,b52d⟩:=cfd b52 h
 conv=>whnf
 refine Nf.mk (List.length m_.Next) len_map ?_
 conv=>whnf
 obtain ⟨c53,h⟩:=chk_some h
 refine Side.mk c53 ?_
 conv=>whnf
 refine Nf.mk (List.map cB (List.replicate (List.length m_.Next) false)) (rep_map (c:=cB) (z:=false) (n:=(List.length m_.Next)) rfl rfl) ?_
 conv=>whnf
 obtain ⟨e54,he54z,he54,h⟩:=idx_some h
 refine Side.mk ⟨he54z,rfl,map_lt he54⟩ ?_
 conv=>whnf
 refine Side.mk ⟨rfl,trivial⟩ ?_
 conv=>whnf
 refine ⟨_,map_at he54,?_⟩
 conv=>whnf
 refine Nf.mk (List.map cB (List.set (List.replicate (List.length m_.Next) false) m_.Start.toNat true)) (set_map rfl) ?_
 conv=>whnf
 obtain ⟨y236,hc,hk55⟩:=bind_some h
 clear h
 have h:=hc
 clear hc
 refine Cut.mk (mkSt [(4,.osl 64 1)] [(64,.row 3 1 (List.map cI y236))] []) (lZ y236∧True) ((Holds.kdl 64 rfl).and (hT)) ?_ (fun hp=>?_)
 conv=>whnf
 refine Loops.iter (fun (s:List Bool×List Int×Nat)=>mealy_Reach.s20 m_ s.1 s.2.1 s.2.2) (fun (y295,y296,i297)=>mkSt [(1,.im (.ref (c_api_Mealy m_))),(3,.osl 64 1),(4,.osl 65 1),(5,.im (nI (↑i297:Int)))] [(64,.row 4 1 (List.map cB y295)),(65,.row 3 1 (List.map cI y296))] []) (fun (y295,y296,i297)=>lZ y295∧lZ y296∧True) h (eA [(64,some 14),(65,some 21)]) (by rintro ⟨y295,y296,i297⟩;exact ((Holds.kdl 64 rfl).and ((Holds.kdl 65 rfl).and (hT)))) ?_
 clear h
 rintro k ⟨y295,y296,i297⟩ o hp h ho356
 replace h:mealy_Reach.s20 m_ y295 y296 i297=some o:=h
 unfold mealy_Reach.s20 at h
 obtain ⟨z415,z416,_⟩:=hp
 conv=>whnf
 refine Side.mk rfl ?_
 conv=>whnf
 refine Nf.mk (List.length y296) len_map ?_
 conv=>whnf
 refine Both.mk ?_ ?_<;>intro b357
 obtain ⟨h,b357d⟩:=ctd b357 h
 conv=>whnf
 obtain ⟨e358,he358,h⟩:=idxn_some h
 refine Side.mk ⟨(by omega),rfl,map_lt he358⟩ ?_
 conv=>whnf
 refine ⟨_,_,⟨rfl,map_at he358,rfl,rfl⟩,?_⟩
 conv=>whnf
 obtain ⟨e359,he359z,he359,h⟩:=idx_some h
 refine ⟨_,⟨he359z,map_at he359,rfl⟩,?_⟩
 conv=>whnf
 refine Nf.mk (List.length e359) len_map ?_
 conv=>whnf
 obtain ⟨⟨y386,y387⟩,hc,hk360⟩:=bind_some h
 clear h
 have h:=hc
 clear hc
 refine Cut.mk (mkSt [(1,.im (.ref (c_api_Mealy m_))),(3,.osl 64 1),(4,.osl 65 1),(5,.im (nI (↑i297:Int)))] [(64,.row 4 1 (List.map cB y386)),(65,.row 3 1 (List.map cI y387))] []) (lZ y386∧lZ y387∧True) ((Holds.kdl 64 rfl).and ((Holds.kdl 65 rfl).and (hT))) ?_ (fun hp=>?_)
 conv=>whnf
 refine Loops.iter (fun (s:List Bool×List Int×Nat)=>mealy_Reach.s18 e359 s.1 s.2.1 s.2.2) (fun (y394,y395,y396)=>mkSt [(1,.im (.ref (c_api_Mealy m_))),(3,.osl 64 1),(4,.osl 65 1),(5,.im (nI (↑i297:Int))),(35,.im (nL cI e359)),(36,.im (nI (↑(List.length e359):Int))),(37,.im (nI (↑y396:Int)))] [(64,.row 4 1 (List.map cB y394)),(65,.row 3 1 (List.map cI y395))] []) (fun (y394,y395,y396)=>lZ e359∧lZ y394∧lZ y395∧True) h (eA [(64,some 64),(65,some 65)]) (by rintro ⟨y394,y395,y396⟩;exact ((Holds.avl 35 rfl).and ((Holds.kdl 64 rfl).and ((Holds.kdl 65 rfl).and (hT))))) ?_
 clear h
 rintro k ⟨y394,y395,y396⟩ o hp h ho403
 replace h:mealy_Reach.s18 e359 y394 y395 y396=some o:=h
 unfold mealy_Reach.s18 at h
 obtain ⟨z410,z411,z412,_⟩:=hp
 conv=>whnf
 refine Both.mk ?_ ?_<;>intro b404
 obtain ⟨h,b404d⟩:=ctd b404 h
 conv=>whnf
 obtain ⟨e405,he405,h⟩:=idxn_some h
 refine ⟨_,⟨(by omega),map_at he405,rfl⟩,?_⟩
 conv=>whnf
 obtain ⟨e406,he406z,he406,h⟩:=idx_some h
 refine Side.mk ⟨he406z,rfl,map_lt he406⟩ ?_
 conv=>whnf
 refine ⟨_,_,⟨rfl,map_at he406,rfl,rfl⟩,?_⟩
 conv=>whnf
 refine Both.mk ?_ ?_<;>intro b407
 replace h:=cond_t b407 h
 conv=>whnf
 obtain ⟨e408,he408z,he408,h⟩:=idx_some h
 refine Side.mk ⟨he408z,rfl,map_lt he408⟩ ?_
 conv=>whnf
 refine Side.mk ⟨rfl,trivial⟩ ?_
 conv=>whnf
 refine ⟨_,map_at he408,?_⟩
 conv=>whnf
 refine Nf.mk (List.map cB (List.set y394 e405.toNat true)) (set_map rfl) ?_
 conv=>whnf
 obtain ⟨c409,h⟩:=chk_some h
 refine Side.mk ⟨rfl,map_len (l:=[e405]) (c:=cI) fun _=>rfl,show capOk _ 8 by simpa only [List.length_map,List.length_cons,List.length_nil,Nat.zero_add] using c409⟩ ?_
 conv=>whnf
 refine Nf.mk (List.map cI (y395++[e405])) (app_map (l:=y395) (m:=[e405]) (c:=cI)) ?_
 conv=>whnf
 refine Arith.mk (by show inR _;unfold inR;omega) ?_
 conv=>whnf
 cases h
 exact Nxt.mk _ ho403 (eA [(64,some 64),(65,some 65)])
 replace h:=cond_f b407 h
 conv=>whnf
 refine Arith.mk (by show inR _;unfold inR;omega) ?_
 conv=>whnf
 cases h
 exact Nxt.mk _ ho403 (eA [(64,some 64),(65,some 65)])
 obtain ⟨h,b404d⟩:=cfd b404 h
 conv=>whnf
 cases h
 have ho403:_=_:=ho403
 cases ho403
 exact Join.mk (eA [(64,some 64),(65,some 65)])
 replace h:mealy_Reach.k19 i297 y386 y387=some _:=hk360
 unfold mealy_Reach.k19 at h
 obtain ⟨z413,z414,_⟩:=hp
 conv=>whnf
 refine Arith.mk (by show inR _;unfold inR;omega) ?_
 conv=>whnf
 cases h
 exact Nxt.mk _ ho356 (eA [(64,some 64),(65,some 65)])
 obtain ⟨h,b357d⟩:=cfd b357 h
 conv=>whnf
 cases h
 have ho356:_=_:=ho356
 cases ho356
 exact Join.mk (eA [(64,some 65)])
 replace h:=hk55
 obtain ⟨z417,_⟩:=hp
 conv=>whnf
 cases h
 conv=>whnf
 exact Side.mk ⟨rfl,trivial⟩ ⟨rfl,rfl⟩
end Go.Proofs.YtkeplokjplkcmaaGreat.Sym

/-
  The contracts of the functions, read from the code by a program (ext.py): each function has its plain twin as its contract.
-/
namespace Go.Proofs.YtkeplokjplkcmaaGreat.Sym
open Go.RowKit
set_option maxRecDepth 100000
set_option linter.unusedVariables false
set_option maxHeartbeats 4000000
theorem sp_mealy_Trim (m_:T_api_Mealy) (r:T_api_Mealy×Int) (h:Ok (.agg (c_api_Mealy m_))→mealy_Trim m_=some r):Sp Tryz.prog 89 [.im (.agg (c_api_Mealy m_))] (.tup [.agg (c_api_Mealy r.1),nI r.2]):=by
 refine sp_of rfl [700001] rfl rfl rfl (Nat.le_of_ble_eq_true rfl) rfl fun hk=>?_
 replace h:=h hk.1
 have z1:lZ m_.Next:=ok_len (Ok.agg_at hk.1 2 rfl)
 have z2:lZ m_.Out:=ok_len (Ok.agg_at hk.1 3 rfl)
 unfold mealy_Trim at h
 conv=>whnf
 obtain ⟨c51,hc51,h⟩:=bind_some h
 refine ⟨_,(sp_mealy_Valid m_ c51 (fun _=>hc51)),?_⟩
 conv=>whnf
 refine Both.mk ?_ ?_<;>intro b52
 obtain ⟨h,b52d⟩:=ctd b52 h
 conv=>whnf
 refine Side.mk rfl ?_
 conv=>whnf
 cases h
 conv=>whnf
 refine Side.mk ⟨rfl,trivial⟩ ?_
 conv=>whnf
 exact ⟨rfl,rfl⟩
 obtain ⟨h,b52d⟩:=cfd b52 h
 conv=>whnf
 obtain ⟨c53,hc53,h⟩:=bind_some h
 refine ⟨_,(sp_mealy_Reach m_ c53 (fun _=>hc53)).im,?_⟩
 conv=>whnf
 refine Nf.mk (List.length m_.Next) len_map ?_
 conv=>whnf
 obtain ⟨c54,h⟩:=chk_some h
 refine Side.mk c54 ?_
 conv=>whnf
 refine Nf.mk (List.map cI (List.replicate (List.length m_.Next) (0:Int))) (rep_map (c:=cI) (z:=0) (n:=(List.length m_.Next)) rfl rfl) ?_
 conv=>whnf
 refine Nf.mk (List.length c53) len_map ?_
 conv=>whnf
 obtain ⟨y70,hc,hk55⟩:=bind_some h
 clear h
 have h:=hc
 clear hc
 refine Cut.mk (mkSt [(1,.im (.ref (c_api_Mealy m_))),(2,.own 89 1 0),(5,.im (nL cI c53)),(6,.osl 90 1)] [(89,.box 50 4),(90,.row 3 1 (List.map cI y70))] [(89,0,.im (nI 0)),(89,1,.im (nI 0)),(89,2,.im (.val (.slice none 0 0))),(89,3,.im (.val (.slice none 0 0)))]) (lZ c53∧lZ y70∧True) ((Holds.avl 5 rfl).and ((Holds.kdl 90 rfl).and (hT))) ?_ (fun hp=>?_)
 conv=>whnf
 refine Loops.iter (fun (s:List Int×Nat)=>mealy_Trim.s2 c53 s.1 s.2) (fun (y74,y75)=>mkSt [(1,.im (.ref (c_api_Mealy m_))),(2,.own 89 1 0),(5,.im (nL cI c53)),(6,.osl 90 1),(27,.im (nL cI c53)),(28,.im (nI (↑(List.length c53):Int))),(29,.im (nI (↑y75:Int)))] [(89,.box 50 4),(90,.row 3 1 (List.map cI y74))] [(89,0,.im (nI 0)),(89,1,.im (nI 0)),(89,2,.im (.val (.slice none 0 0))),(89,3,.im (.val (.slice none 0 0)))]) (fun (y74,y75)=>lZ c53∧lZ y74∧True) h (eA [(89,some 2),(90,some 26)]) (by rintro ⟨y74,y75⟩;exact ((Holds.avl 5 rfl).and ((Holds.kdl 90 rfl).and (hT)))) ?_
 clear h
 rintro k ⟨y74,y75⟩ o hp h ho79
 replace h:mealy_Trim.s2 c53 y74 y75=some o:=h
 unfold mealy_Trim.s2 at h
 obtain ⟨z83,z84,_⟩:=hp
 conv=>whnf
 refine Both.mk ?_ ?_<;>intro b80
 obtain ⟨h,b80d⟩:=ctd b80 h
 conv=>whnf
 obtain ⟨e81,he81,h⟩:=idxn_some h
 refine ⟨_,⟨(by omega),map_at he81,rfl⟩,?_⟩
 conv=>whnf
 obtain ⟨e82,he82z,he82,h⟩:=idx_some h
 refine Side.mk ⟨he82z,rfl,map_lt he82⟩ ?_
 conv=>whnf
 refine Side.mk ⟨rfl,trivial⟩ ?_
 conv=>whnf
 refine ⟨_,map_at he82,?_⟩
 conv=>whnf
 refine Nf.mk (List.map cI (List.set y74 e81.toNat (↑y75:Int))) (set_map rfl) ?_
 conv=>whnf
 refine Arith.mk (by show inR _;unfold inR;omega) ?_
 conv=>whnf
 cases h
 exact Nxt.mk _ ho79 (eA [(89,some 89),(90,some 90)])
 obtain ⟨h,b80d⟩:=cfd b80 h
 conv=>whnf
 cases h
 have ho79:_=_:=ho79
 cases ho79
 exact Join.mk (eA [(89,some 89),(90,some 90)])
 replace h:=hk55
 obtain ⟨z85,z86,_⟩:=hp
 conv=>whnf
 refine Side.mk rfl ?_
 conv=>whnf
 refine Nf.mk (List.length c53) len_map ?_
 conv=>whnf
 obtain ⟨⟨y259,y260⟩,hc,hk87⟩:=bind_some h
 clear h
 have h:=hc
 clear hc
 refine Cut.mk (mkSt [(2,.own 89 1 0),(9,.own 90 1 0)] [(89,.box 50 4),(90,.box 50 4),(91,.row 60 1 (List.map (cL cI) y259)),(92,.row 60 1 (List.map (cL cI) y260))] [(89,0,.im (nI 0)),(89,1,.im (nI 0)),(89,2,.im (.val (.slice none 0 0))),(89,3,.im (.val (.slice none 0 0))),(90,0,.im (nI m_.Inputs)),(90,1,.im (nI 0)),(90,2,.osl 91 1),(90,3,.osl 92 1)]) (lZ y259∧lZ y260∧True) ((Holds.kdl 91 rfl).and ((Holds.kdl 92 rfl).and (hT))) ?_ (fun hp=>?_)
 conv=>whnf
 refine Loops.iter (fun (s:List (List Int)×List (List Int)×Nat)=>mealy_Trim.s16 m_ c53 y70 s.1 s.2.1 s.2.2) (fun (y310,y311,y312)=>mkSt [(1,.im (.ref (c_api_Mealy m_))),(2,.own 89 1 0),(6,.osl 90 1),(9,.own 91 1 0),(42,.im (nL cI c53)),(43,.im (nI (↑(List.length c53):Int))),(44,.im (nI (↑y312:Int)))] [(89,.box 50 4),(90,.row 3 1 (List.map cI y70)),(91,.box 50 4),(92,.row 60 1 (List.map (cL cI) y310)),(93,.row 60 1 (List.map (cL cI) y311))] [(89,0,.im (nI 0)),(89,1,.im (nI 0)),(89,2,.im (.val (.slice none 0 0))),(89,3,.im (.val (.slice none 0 0))),(91,0,.im (nI m_.Inputs)),(91,1,.im (nI 0)),(91,2,.osl 92 1),(91,3,.osl 93 1)]) (fun (y310,y311,y312)=>lZ c53∧lZ y70∧lZ y310∧lZ y311∧True) h (Ent.mk [(89,some 89),(90,some 90),(91,some 9),(92,none),(93,none)] rfl ⟨eI rfl rfl,⟨.own 89 _ 0,rfl,.own rfl rfl rfl⟩,⟨.osl 90 _,rfl,.osl rfl rfl rfl⟩,⟨.own 9 _ 0,rfl,.own rfl rfl rfl⟩,eI rfl rfl,eI rfl rfl,eI rfl rfl,trivial⟩ ⟨.inl ⟨89,rfl,rfl,trivial⟩,.inl ⟨90,rfl,rfl,trivial⟩,.inl ⟨9,rfl,rfl,trivial⟩,.inr ⟨rfl,rfl,.inl ⟨_,_,rfl,by decide⟩⟩,.inr ⟨rfl,rfl,.inl ⟨_,_,rfl,by decide⟩⟩,trivial⟩ ⟨⟨89,.im _,rfl,rfl,.im (Sub.rfl' rfl)⟩,⟨89,.im _,rfl,rfl,.im (Sub.rfl' rfl)⟩,⟨89,.im (.val (.slice none 0 0)),rfl,rfl,.im (Sub.rfl' rfl)⟩,⟨89,.im (.val (.slice none 0 0)),rfl,rfl,.im (Sub.rfl' rfl)⟩,⟨9,.im _,rfl,rfl,.im (Sub.rfl' rfl)⟩,⟨9,.im _,rfl,rfl,.im (Sub.rfl' rfl)⟩,⟨9,.im (.val (.slice none 0 0)),rfl,rfl,.made rfl rfl⟩,⟨9,.im (.val (.slice none 0 0)),rfl,rfl,.made rfl rfl⟩,trivial⟩) (by rintro ⟨y310,y311,y312⟩;exact ((Holds.avl 42 rfl).and ((Holds.kdl 90 rfl).and ((Holds.kdl 92 rfl).and ((Holds.kdl 93 rfl).and (hT)))))) ?_
 clear h
 rintro k ⟨y310,y311,y312⟩ o hp h ho370
 replace h:mealy_Trim.s16 m_ c53 y70 y310 y311 y312=some o:=h
 unfold mealy_Trim.s16 at h
 obtain ⟨z428,z429,z430,z431,_⟩:=hp
 conv=>whnf
 refine Both.mk ?_ ?_<;>intro b371
 obtain ⟨h,b371d⟩:=ctd b371 h
 conv=>whnf
 obtain ⟨e372,he372,h⟩:=idxn_some h
 refine ⟨_,⟨(by omega),map_at he372,rfl⟩,?_⟩
 conv=>whnf
 obtain ⟨c373,h⟩:=chk_some h
 refine Side.mk c373 ?_
 conv=>whnf
 refine Nf.mk (List.map cI (List.replicate (Int.toNat m_.Inputs) (0:Int))) (rep_map (c:=cI) (z:=0) (n:=(Int.toNat m_.Inputs)) rfl rfl) ?_
 conv=>whnf
 obtain ⟨e374,he374z,he374,h⟩:=idx_some h
 refine ⟨_,⟨he374z,map_at he374,rfl⟩,?_⟩
 conv=>whnf
 refine Nf.mk (List.length e374) len_map ?_
 conv=>whnf
 obtain ⟨y397,hc,hk375⟩:=bind_some h
 clear h
 have h:=hc
 clear hc
 refine Cut.mk (mkSt [(1,.im (.ref (c_api_Mealy m_))),(2,.own 89 1 0),(6,.osl 90 1),(9,.own 91 1 0),(11,.im (nI e372)),(12,.osl 94 1),(42,.im (nL cI c53)),(43,.im (nI (↑(List.length c53):Int))),(44,.im (nI (↑y312:Int)))] [(89,.box 50 4),(90,.row 3 1 (List.map cI y70)),(91,.box 50 4),(92,.row 60 1 (List.map (cL cI) y310)),(93,.row 60 1 (List.map (cL cI) y311)),(94,.row 3 1 (List.map cI y397))] [(89,0,.im (nI 0)),(89,1,.im (nI 0)),(89,2,.im (.val (.slice none 0 0))),(89,3,.im (.val (.slice none 0 0))),(91,0,.im (nI m_.Inputs)),(91,1,.im (nI 0)),(91,2,.osl 92 1),(91,3,.osl 93 1)]) (lZ c53∧lZ y70∧lZ y310∧lZ y311∧lZ y397∧True) ((Holds.avl 42 rfl).and ((Holds.kdl 90 rfl).and ((Holds.kdl 92 rfl).and ((Holds.kdl 93 rfl).and ((Holds.kdl 94 rfl).and (hT)))))) ?_ (fun hp=>?_)
 conv=>whnf
 refine Loops.iter (fun (s:List Int×Nat)=>mealy_Trim.s15 y70 e374 s.1 s.2) (fun (y402,y403)=>mkSt [(1,.im (.ref (c_api_Mealy m_))),(2,.own 89 1 0),(6,.osl 90 1),(9,.own 91 1 0),(11,.im (nI e372)),(12,.osl 94 1),(42,.im (nL cI c53)),(43,.im (nI (↑(List.length c53):Int))),(44,.im (nI (↑y312:Int))),(55,.im (nL cI e374)),(56,.im (nI (↑(List.length e374):Int))),(57,.im (nI (↑y403:Int)))] [(89,.box 50 4),(90,.row 3 1 (List.map cI y70)),(91,.box 50 4),(92,.row 60 1 (List.map (cL cI) y310)),(93,.row 60 1 (List.map (cL cI) y311)),(94,.row 3 1 (List.map cI y402))] [(89,0,.im (nI 0)),(89,1,.im (nI 0)),(89,2,.im (.val (.slice none 0 0))),(89,3,.im (.val (.slice none 0 0))),(91,0,.im (nI m_.Inputs)),(91,1,.im (nI 0)),(91,2,.osl 92 1),(91,3,.osl 93 1)]) (fun (y402,y403)=>lZ c53∧lZ e374∧lZ y70∧lZ y310∧lZ y311∧lZ y402∧True) h (eA [(89,some 89),(90,some 90),(91,some 91),(92,some 92),(93,some 93),(94,some 50)]) (by rintro ⟨y402,y403⟩;exact ((Holds.avl 42 rfl).and ((Holds.avl 55 rfl).and ((Holds.kdl 90 rfl).and ((Holds.kdl 92 rfl).and ((Holds.kdl 93 rfl).and ((Holds.kdl 94 rfl).and (hT)))))))) ?_
 clear h
 rintro k ⟨y402,y403⟩ o hp h ho408
 replace h:mealy_Trim.s15 y70 e374 y402 y403=some o:=h
 unfold mealy_Trim.s15 at h
 obtain ⟨z413,z414,z415,z416,z417,z418,_⟩:=hp
 conv=>whnf
 refine Both.mk ?_ ?_<;>intro b409
 obtain ⟨h,b409d⟩:=ctd b409 h
 conv=>whnf
 obtain ⟨e410,he410,h⟩:=idxn_some h
 refine ⟨_,⟨(by omega),map_at he410,rfl⟩,?_⟩
 conv=>whnf
 obtain ⟨e411,he411z,he411,h⟩:=idx_some h
 refine Side.mk ⟨he411z,rfl,map_lt he411⟩ ?_
 conv=>whnf
 refine ⟨_,_,⟨rfl,map_at he411,rfl,rfl⟩,?_⟩
 conv=>whnf
 obtain ⟨e412,he412,h⟩:=idxn_some h
 refine Side.mk ⟨(by omega),rfl,map_lt he412⟩ ?_
 conv=>whnf
 refine Side.mk ⟨rfl,trivial⟩ ?_
 conv=>whnf
 refine ⟨_,map_at he412,?_⟩
 conv=>whnf
 refine Nf.mk (List.map cI (List.set y402 y403 e411)) (set_map rfl) ?_
 conv=>whnf
 refine Arith.mk (by show inR _;unfold inR;omega) ?_
 conv=>whnf
 cases h
 exact Nxt.mk _ ho408 (eA [(89,some 89),(90,some 90),(91,some 91),(92,some 92),(93,some 93),(94,some 94)])
 obtain ⟨h,b409d⟩:=cfd b409 h
 conv=>whnf
 cases h
 have ho408:_=_:=ho408
 cases ho408
 exact Join.mk (eA [(89,some 89),(90,some 90),(91,some 91),(92,some 92),(93,some 93),(94,some 94)])
 replace h:=hk375
 obtain ⟨z419,z420,z421,z422,z423,_⟩:=hp
 conv=>whnf
 refine Side.mk rfl ?_
 conv=>whnf
 refine Side.mk rfl ?_
 conv=>whnf
 refine Side.mk ⟨rfl,trivial⟩ ?_
 conv=>whnf
 obtain ⟨c424,h⟩:=chk_some h
 refine Side.mk ⟨rfl,map_len (l:=[y397]) (c:=cL cI) fun _=>rfl,show capOk _ 24 by simpa only [List.length_map,List.length_cons,List.length_nil,Nat.zero_add] using c424⟩ ?_
 conv=>whnf
 refine Nf.mk (List.map (cL cI) (y310++[y397])) (app_map (l:=y310) (m:=[y397]) (c:=cL cI)) ?_
 conv=>whnf
 refine Side.mk rfl ?_
 conv=>whnf
 refine Side.mk rfl ?_
 conv=>whnf
 refine Side.mk rfl ?_
 conv=>whnf
 refine Side.mk rfl ?_
 conv=>whnf
 obtain ⟨e425,he425z,he425,h⟩:=idx_some h
 refine ⟨_,⟨he425z,map_at he425,rfl⟩,?_⟩
 conv=>whnf
 obtain ⟨c426,hc426,h⟩:=bind_some h
 refine ⟨_,(sp_lib_Clone_int e425 c426 (hc426)).im,?_⟩
 conv=>whnf
 obtain ⟨c427,h⟩:=chk_some h
 refine Side.mk ⟨rfl,map_len (l:=[c426]) (c:=cL cI) fun _=>rfl,show capOk _ 24 by simpa only [List.length_map,List.length_cons,List.length_nil,Nat.zero_add] using c427⟩ ?_
 conv=>whnf
 refine Nf.mk (List.map (cL cI) (y311++[c426])) (app_map (l:=y311) (m:=[c426]) (c:=cL cI)) ?_
 conv=>whnf
 refine Side.mk rfl ?_
 conv=>whnf
 refine Side.mk rfl ?_
 conv=>whnf
 refine Arith.mk (by show inR _;unfold inR;omega) ?_
 conv=>whnf
 cases h
 exact Nxt.mk _ ho370 (eA [(89,some 89),(90,some 90),(91,some 91),(92,some 92),(93,some 93)])
 obtain ⟨h,b371d⟩:=cfd b371 h
 conv=>whnf
 cases h
 have ho370:_=_:=ho370
 cases ho370
 exact Join.mk (eA [(89,some 89),(90,some 91),(91,some 92),(92,some 93)])
 replace h:mealy_Trim.k17 m_ y259 y260=some _:=hk87
 unfold mealy_Trim.k17 at h
 obtain ⟨z432,z433,_⟩:=hp
 conv=>whnf
 refine Side.mk rfl ?_
 conv=>whnf
 refine Side.mk rfl ?_
 conv=>whnf
 cases h
 conv=>whnf
 refine Side.mk ⟨rfl,trivial⟩ ?_
 conv=>whnf
 exact Side.mk ⟨rfl,rfl,trivial⟩ ⟨rfl,rfl⟩
theorem sp_minimize_next (m_:T_api_Mealy) (class_:List Int) (r:List Int×Int) (h:Ok (.agg (c_api_Mealy m_))→Ok (nL cI class_)→minimize_next m_ class_=some r):Sp Tryz.prog 160 [.im (.agg (c_api_Mealy m_)),.im (nL cI class_)] (.tup [nL cI r.1,nI r.2]):=by
 refine sp_of rfl [700002] rfl rfl rfl (Nat.le_of_ble_eq_true rfl) rfl fun hk=>?_
 replace h:=h hk.1 hk.2.1
 have z1:lZ m_.Next:=ok_len (Ok.agg_at hk.1 2 rfl)
 have z2:lZ m_.Out:=ok_len (Ok.agg_at hk.1 3 rfl)
 have z3:lZ class_:=ok_len hk.2.1
 unfold minimize_next at h
 conv=>whnf
 refine Nf.mk (List.length class_) len_map ?_
 conv=>whnf
 obtain ⟨c51,h⟩:=chk_some h
 refine Side.mk c51 ?_
 conv=>whnf
 refine Nf.mk (List.map cI (List.replicate (List.length class_) (0:Int))) (rep_map (c:=cI) (z:=0) (n:=(List.length class_)) rfl rfl) ?_
 conv=>whnf
 refine Nf.mk (List.length class_) len_map ?_
 conv=>whnf
 obtain ⟨⟨y362,y363⟩,hc,hk52⟩:=bind_some h
 clear h
 have h:=hc
 clear hc
 refine Cut.mk (mkSt [(6,.osl 73 1),(7,.osl 74 1)] [(73,.map (mapV wA wI y362)),(74,.row 3 1 (List.map cI y363))] []) (lZ y363∧True) ((Holds.kdl 74 rfl).and (hT)) ?_ (fun hp=>?_)
 conv=>whnf
 refine Loops.iter (fun (s:(List (List Int×Int))×List Int×Nat)=>minimize_next.s20 m_ class_ s.1 s.2.1 s.2.2) (fun (y465,y466,y467)=>mkSt [(1,.im (nL cI class_)),(2,.im (.ref (c_api_Mealy m_))),(6,.osl 73 1),(7,.osl 74 1),(18,.im (nI (↑(List.length class_):Int))),(19,.im (nI (↑y467:Int)))] [(73,.map (mapV wA wI y465)),(74,.row 3 1 (List.map cI y466))] []) (fun (y465,y466,y467)=>lZ class_∧lZ y466∧True) h (eA [(73,some 13),(74,some 16)]) (by rintro ⟨y465,y466,y467⟩;exact ((Holds.avl 1 rfl).and ((Holds.kdl 74 rfl).and (hT)))) ?_
 clear h
 rintro k ⟨y465,y466,y467⟩ o hp h ho569
 replace h:minimize_next.s20 m_ class_ y465 y466 y467=some o:=h
 unfold minimize_next.s20 at h
 obtain ⟨z671,z672,_⟩:=hp
 conv=>whnf
 refine Both.mk ?_ ?_<;>intro b570
 obtain ⟨h,b570d⟩:=ctd b570 h
 conv=>whnf
 refine Nf.mk (List.map cI (List.replicate 128 0)) rfl ?_
 conv=>whnf
 obtain ⟨y612,hc,hk571⟩:=bind_some h
 clear h
 have h:=hc
 clear hc
 refine Cut.mk (mkSt [(1,.im (nL cI class_)),(2,.im (.ref (c_api_Mealy m_))),(6,.osl 73 1),(7,.osl 74 1),(8,.im (nI (↑y467:Int))),(9,.elt 75 1 1 0 0),(18,.im (nI (↑(List.length class_):Int))),(19,.im (nI (↑y467:Int)))] [(73,.map (mapV wA wI y465)),(74,.row 3 1 (List.map cI y466)),(75,.row 207 1 (List.map cI y612))] []) (lZ class_∧lZ y466∧lZ y612∧True) ((Holds.avl 1 rfl).and ((Holds.kdl 74 rfl).and ((Holds.kdl 75 rfl).and (hT)))) ?_ (fun hp=>?_)
 conv=>whnf
 refine Loops.iter (fun (s:List Int×Nat)=>minimize_next.s18 m_ class_ y467 s.1 s.2) (fun (y623,y624)=>mkSt [(1,.im (nL cI class_)),(2,.im (.ref (c_api_Mealy m_))),(6,.osl 73 1),(7,.osl 74 1),(8,.im (nI (↑y467:Int))),(9,.elt 75 1 1 0 0),(18,.im (nI (↑(List.length class_):Int))),(19,.im (nI (↑y467:Int))),(23,.im (nI m_.Inputs)),(24,.im (nI (↑y624:Int)))] [(73,.map (mapV wA wI y465)),(74,.row 3 1 (List.map cI y466)),(75,.row 207 1 (List.map cI y623))] []) (fun (y623,y624)=>lZ class_∧lZ y466∧lZ y623∧True) h (Ent.mk [(73,some 73),(74,some 74),(75,some 9)] rfl ⟨eI rfl rfl,eI rfl rfl,⟨.osl 73 _,rfl,.osl rfl rfl rfl⟩,⟨.osl 74 _,rfl,.osl rfl rfl rfl⟩,eI rfl rfl,⟨.elt 9 _ _ _ _,rfl,.elt rfl rfl rfl⟩,eI rfl rfl,eI rfl rfl,eI rfl rfl,eI rfl rfl,trivial⟩ ⟨.inl ⟨73,rfl,rfl,trivial⟩,.inl ⟨74,rfl,rfl,trivial⟩,.inl ⟨9,rfl,rfl,trivial⟩,trivial⟩ trivial) (by rintro ⟨y623,y624⟩;exact ((Holds.avl 1 rfl).and ((Holds.kdl 74 rfl).and ((Holds.kdl 75 rfl).and (hT))))) ?_
 clear h
 rintro k ⟨y623,y624⟩ o hp h ho637
 replace h:minimize_next.s18 m_ class_ y467 y623 y624=some o:=h
 unfold minimize_next.s18 at h
 obtain ⟨z650,z651,z652,_⟩:=hp
 conv=>whnf
 refine Both.mk ?_ ?_<;>intro b638
 obtain ⟨h,b638d⟩:=ctd b638 h
 conv=>whnf
 obtain ⟨e639,he639,h⟩:=idxn_some h
 refine ⟨_,⟨(by omega),map_at he639,rfl⟩,?_⟩
 conv=>whnf
 obtain ⟨e640,he640,h⟩:=idxn_some h
 refine ⟨_,⟨(by omega),map_at he640,rfl⟩,?_⟩
 conv=>whnf
 obtain ⟨c642,h⟩:=chk_some h
 obtain ⟨e641,he641,h⟩:=idxn_some h
 refine Side.mk ⟨by omega,c642,rfl⟩ ?_
 conv=>whnf
 refine Side.mk ⟨rfl,trivial⟩ ?_
 conv=>whnf
 refine ⟨_,map_at he641,?_⟩
 conv=>whnf
 refine Nf.mk (List.map cI (List.set y623 y624 e640)) (set_map rfl) ?_
 conv=>whnf
 obtain ⟨c643,h⟩:=chk_some h
 refine Arith.mk c643 ?_
 conv=>whnf
 obtain ⟨e644,he644,h⟩:=idxn_some h
 refine ⟨_,⟨(by omega),map_at he644,rfl⟩,?_⟩
 conv=>whnf
 obtain ⟨e645,he645,h⟩:=idxn_some h
 refine ⟨_,⟨(by omega),map_at he645,rfl⟩,?_⟩
 conv=>whnf
 obtain ⟨e646,he646z,he646,h⟩:=idx_some h
 refine ⟨_,⟨he646z,map_at he646,rfl⟩,?_⟩
 conv=>whnf
 obtain ⟨c648,h⟩:=chk_some h
 obtain ⟨e647,he647,h⟩:=idxn_some h
 refine Side.mk ⟨by omega,c648,rfl⟩ ?_
 conv=>whnf
 refine Side.mk ⟨rfl,trivial⟩ ?_
 conv=>whnf
 refine ⟨_,map_at he647,?_⟩
 conv=>whnf
 refine Nf.mk (List.map cI (List.set (List.set y623 y624 e640) (64+y624) e646)) (set_map rfl) ?_
 conv=>whnf
 obtain ⟨c649,h⟩:=chk_some h
 refine Arith.mk c649 ?_
 conv=>whnf
 cases h
 exact Nxt.mk _ ho637 (Ent.mk [(73,some 73),(74,some 74),(75,some 75)] rfl ⟨eI rfl rfl,eI rfl rfl,⟨.osl 73 _,rfl,.osl rfl rfl rfl⟩,⟨.osl 74 _,rfl,.osl rfl rfl rfl⟩,eI rfl rfl,⟨.elt 75 _ _ _ _,rfl,.elt rfl rfl rfl⟩,eI rfl rfl,eI rfl rfl,eI rfl rfl,eI rfl rfl,trivial⟩ ⟨.inl ⟨73,rfl,rfl,trivial⟩,.inl ⟨74,rfl,rfl,trivial⟩,.inl ⟨75,rfl,rfl,trivial⟩,trivial⟩ trivial)
 obtain ⟨h,b638d⟩:=cfd b638 h
 conv=>whnf
 cases h
 have ho637:_=_:=ho637
 cases ho637
 exact Join.mk (Ent.mk [(73,some 73),(74,some 74),(75,some 75)] rfl ⟨eI rfl rfl,eI rfl rfl,⟨.osl 73 _,rfl,.osl rfl rfl rfl⟩,⟨.osl 74 _,rfl,.osl rfl rfl rfl⟩,eI rfl rfl,⟨.elt 75 _ _ _ _,rfl,.elt rfl rfl rfl⟩,eI rfl rfl,eI rfl rfl,trivial⟩ ⟨.inl ⟨73,rfl,rfl,trivial⟩,.inl ⟨74,rfl,rfl,trivial⟩,.inl ⟨75,rfl,rfl,trivial⟩,trivial⟩ trivial)
 replace h:=hk571
 obtain ⟨z653,z654,z655,_⟩:=hp
 conv=>whnf
 obtain ⟨c656,h⟩:=chk_some h
 refine Side.mk ⟨rfl,by rw [List.length_map];exact c656⟩ ?_
 conv=>whnf
 refine Nf.mk (cA y612) flat_cA ?_
 conv=>whnf
 obtain ⟨c657,h⟩:=chk_some h
 refine Side.mk rfl ?_
 conv=>whnf
 refine ⟨y612,_,keys_arr (g:=wI) rfl c657,?_⟩
 conv=>whnf
 refine Nf.mk (wI ((mget y612 y465).getD 0)) ((getD_map rfl _).trans (congrArg (Option.getD · _) (get_arr _ _ _).symm)) ?_
 conv=>whnf
 refine Nf.mk (mget y612 y465).isSome ((isSome_map _).trans (congrArg Option.isSome (get_arr _ _ _).symm)) ?_
 conv=>whnf
 obtain ⟨⟨y663,n664⟩,hc,hk659⟩:=bind_some h
 clear h
 have h:=hc
 clear hc
 refine Cut.mk (mkSt [(1,.im (nL cI class_)),(2,.im (.ref (c_api_Mealy m_))),(6,.osl 73 1),(7,.osl 74 1),(8,.im (nI (↑y467:Int))),(11,.im (nI n664)),(18,.im (nI (↑(List.length class_):Int))),(19,.im (nI (↑y467:Int)))] [(73,.map (mapV wA wI y663)),(74,.row 3 1 (List.map cI y466))] []) (lZ class_∧lZ y466∧True) ((Holds.avl 1 rfl).and ((Holds.kdl 74 rfl).and (hT))) ?_ (fun hp=>?_)
 conv=>whnf
 refine Both.mk ?_ ?_<;>intro b665
 replace h:=cond_t b665 h
 conv=>whnf
 refine Side.mk rfl ?_
 conv=>whnf
 refine Nf.mk (List.length y465) len_mapV ?_
 conv=>whnf
 obtain ⟨c666,h⟩:=chk_some h
 refine Side.mk ⟨rfl,by rw [List.length_map];exact c666⟩ ?_
 conv=>whnf
 refine Nf.mk (cA y612) flat_cA ?_
 conv=>whnf
 obtain ⟨c667,h⟩:=chk_some h
 refine Side.mk rfl ?_
 conv=>whnf
 refine ⟨y612,_,keys_arr (g:=wI) rfl c667,?_⟩
 conv=>whnf
 refine Nf.mk (mapV wA wI (mset y612 (↑(List.length y465):Int) y465)) (by rw [set_arr];exact mapA_set _ _) ?_
 conv=>whnf
 cases h
 exact Join.mk (eA [(73,some 73),(74,some 74)])
 replace h:=cond_f b665 h
 conv=>whnf
 cases h
 exact Join.mk (eA [(73,some 73),(74,some 74)])
 replace h:minimize_next.k19 y466 y467 y663 n664=some _:=hk659
 unfold minimize_next.k19 at h
 obtain ⟨z668,z669,_⟩:=hp
 conv=>whnf
 obtain ⟨e670,he670,h⟩:=idxn_some h
 refine Side.mk ⟨(by omega),rfl,map_lt he670⟩ ?_
 conv=>whnf
 refine Side.mk ⟨rfl,trivial⟩ ?_
 conv=>whnf
 refine ⟨_,map_at he670,?_⟩
 conv=>whnf
 refine Nf.mk (List.map cI (List.set y466 y467 n664)) (set_map rfl) ?_
 conv=>whnf
 refine Arith.mk (by show inR _;unfold inR;omega) ?_
 conv=>whnf
 cases h
 exact Nxt.mk _ ho569 (eA [(73,some 73),(74,some 74)])
 obtain ⟨h,b570d⟩:=cfd b570 h
 conv=>whnf
 cases h
 have ho569:_=_:=ho569
 cases ho569
 exact Join.mk (eA [(73,some 73),(74,some 74)])
 replace h:minimize_next.k21 y362 y363=some _:=hk52
 unfold minimize_next.k21 at h
 obtain ⟨z673,_⟩:=hp
 conv=>whnf
 refine Side.mk rfl ?_
 conv=>whnf
 refine Nf.mk (List.length y362) len_mapV ?_
 conv=>whnf
 cases h
 conv=>whnf
 exact Side.mk ⟨rfl,trivial⟩ ⟨rfl,rfl⟩
theorem sp_minimize_refine (m_:T_api_Mealy) (k_:Int) (r:List Int×Int) (h:Ok (.agg (c_api_Mealy m_))→Ok (nI k_)→minimize_refine m_ k_=some r):Sp Tryz.prog 146 [.im (.agg (c_api_Mealy m_)),.im (nI k_)] (.tup [nL cI r.1,nI r.2]):=by
 refine sp_of rfl [700002,6000014] rfl rfl rfl (Nat.le_of_ble_eq_true rfl) rfl fun hk=>?_
 replace h:=h hk.1 hk.2.1
 have z1:lZ m_.Next:=ok_len (Ok.agg_at hk.1 2 rfl)
 have z2:lZ m_.Out:=ok_len (Ok.agg_at hk.1 3 rfl)
 unfold minimize_refine at h
 conv=>whnf
 refine Nf.mk (List.length m_.Next) len_map ?_
 conv=>whnf
 obtain ⟨c51,h⟩:=chk_some h
 refine Side.mk c51 ?_
 conv=>whnf
 refine Nf.mk (List.map cI (List.replicate (List.length m_.Next) (0:Int))) (rep_map (c:=cI) (z:=0) (n:=(List.length m_.Next)) rfl rfl) ?_
 conv=>whnf
 refine Nf.mk (List.length m_.Next) len_map ?_
 conv=>whnf
 obtain ⟨oc,hc,hk52⟩:=bind_some h
 clear h
 have h:=hc
 clear hc
 refine Cut.mkS oc (Y:=List Int) (fun class67=>mkSt [(1,.im (nI k_)),(2,.im (.ref (c_api_Mealy m_))),(6,.im (nL cI class67))] [] []) (fun class67=>lZ class67∧True) (by rintro class67;exact ((Holds.avl 6 rfl).and (hT))) ?_ ?_
 conv=>whnf
 refine Loops.iter (fun (s:List Int×Int×Nat)=>minimize_refine.s2 m_ k_ s.1 s.2.1 s.2.2) (fun (class71,n72,y73)=>mkSt [(1,.im (nI k_)),(2,.im (.ref (c_api_Mealy m_))),(6,.im (nL cI class71)),(7,.im (nI n72)),(20,.im (nI (min (max k_ 0) (↑(List.length m_.Next):Int)))),(21,.im (nI (↑y73:Int)))] [] []) (fun (class71,n72,y73)=>lZ class71∧True) h (eA []) (by rintro ⟨class71,n72,y73⟩;exact ((Holds.avl 6 rfl).and (hT))) ?_
 clear h
 rintro k ⟨class71,n72,y73⟩ o hp h ho77
 replace h:minimize_refine.s2 m_ k_ class71 n72 y73=some o:=h
 unfold minimize_refine.s2 at h
 obtain ⟨z81,_⟩:=hp
 conv=>whnf
 refine Both.mk ?_ ?_<;>intro b78
 obtain ⟨h,b78d⟩:=ctd b78 h
 conv=>whnf
 obtain ⟨c79,hc79,h⟩:=bind_some h
 refine ⟨_,(sp_minimize_next m_ class71 c79 (fun _ _=>hc79)),?_⟩
 conv=>whnf
 refine Both.mk ?_ ?_<;>intro b80
 obtain ⟨h,b80d⟩:=ctd b80 h
 conv=>whnf
 cases h
 have ho77:_=_:=ho77
 cases ho77
 replace h:some _=some _:=hk52
 cases h
 conv=>whnf
 exact ⟨rfl,rfl⟩
 obtain ⟨h,b80d⟩:=cfd b80 h
 conv=>whnf
 refine Arith.mk (by show inR _;unfold inR;omega) ?_
 conv=>whnf
 cases h
 exact Nxt.mk _ ho77 (eA [])
 obtain ⟨h,b78d⟩:=cfd b78 h
 conv=>whnf
 cases h
 have ho77:_=_:=ho77
 cases ho77
 exact JoinS.mk' _ rfl (eA [])
 rintro class67 rfl hp
 replace h:=sum_inl hk52
 obtain ⟨z82,_⟩:=hp
 conv=>whnf
 refine Nf.mk (List.length m_.Next) len_map ?_
 conv=>whnf
 cases h
 conv=>whnf
 exact ⟨rfl,rfl⟩
theorem sp_minimize_Partition (m_:T_api_Mealy) (k_:Int) (r:List Int×Int) (h:Ok (.agg (c_api_Mealy m_))→Ok (nI k_)→minimize_Partition m_ k_=some r):Sp Tryz.prog 122 [.im (.agg (c_api_Mealy m_)),.im (nI k_)] (.tup [nL cI r.1,nI r.2]):=by
 refine sp_of rfl [700002] rfl rfl rfl (Nat.le_of_ble_eq_true rfl) rfl fun hk=>?_
 replace h:=h hk.1 hk.2.1
 have z1:lZ m_.Next:=ok_len (Ok.agg_at hk.1 2 rfl)
 have z2:lZ m_.Out:=ok_len (Ok.agg_at hk.1 3 rfl)
 unfold minimize_Partition at h
 conv=>whnf
 obtain ⟨c51,hc51,h⟩:=bind_some h
 refine ⟨_,(sp_mealy_Valid m_ c51 (fun _=>hc51)),?_⟩
 conv=>whnf
 refine Both.mk ?_ ?_<;>intro b52
 obtain ⟨h,b52d⟩:=ctd b52 h
 conv=>whnf
 cases h
 conv=>whnf
 exact ⟨rfl,rfl⟩
 obtain ⟨h,b52d⟩:=cfd b52 h
 conv=>whnf
 obtain ⟨c53,hc53,h⟩:=bind_some h
 refine ⟨_,(sp_minimize_refine m_ k_ c53 (fun _ _=>hc53)),?_⟩
 conv=>whnf
 cases h
 conv=>whnf
 exact ⟨rfl,rfl⟩
theorem sp_minimize_Classes (m_:T_api_Mealy) (r:List Int×Int) (h:Ok (.agg (c_api_Mealy m_))→minimize_Classes m_=some r):Sp Tryz.prog 90 [.im (.agg (c_api_Mealy m_))] (.tup [nL cI r.1,nI r.2]):=by
 refine sp_of rfl [700001] rfl rfl rfl (Nat.le_of_ble_eq_true rfl) rfl fun hk=>?_
 replace h:=h hk.1
 have z1:lZ m_.Next:=ok_len (Ok.agg_at hk.1 2 rfl)
 have z2:lZ m_.Out:=ok_len (Ok.agg_at hk.1 3 rfl)
 unfold minimize_Classes at h
 conv=>whnf
 obtain ⟨c51,hc51,h⟩:=bind_some h
 refine ⟨_,(sp_minimize_Partition m_ 128 c51 (fun _ _=>hc51)),?_⟩
 conv=>whnf
 cases h
 conv=>whnf
 exact ⟨rfl,rfl⟩
theorem sp_minimize_Min (m_:T_api_Mealy) (r:T_api_Mealy×Int) (h:Ok (.agg (c_api_Mealy m_))→minimize_Min m_=some r):Sp Tryz.prog 54 [.im (.agg (c_api_Mealy m_))] (.tup [.agg (c_api_Mealy r.1),nI r.2]):=by
 refine sp_of rfl [72,700001] rfl rfl rfl (Nat.le_of_ble_eq_true rfl) rfl fun hk=>?_
 replace h:=h hk.1
 have z1:lZ m_.Next:=ok_len (Ok.agg_at hk.1 2 rfl)
 have z2:lZ m_.Out:=ok_len (Ok.agg_at hk.1 3 rfl)
 unfold minimize_Min at h
 conv=>whnf
 obtain ⟨c51,hc51,h⟩:=bind_some h
 refine ⟨_,(sp_mealy_Trim m_ c51 (fun _=>hc51)),?_⟩
 conv=>whnf
 refine Side.mk rfl ?_
 conv=>whnf
 refine Both.mk ?_ ?_<;>intro b52
 obtain ⟨h,b52d⟩:=ctd b52 h
 conv=>whnf
 refine Side.mk rfl ?_
 conv=>whnf
 cases h
 conv=>whnf
 refine Side.mk ⟨rfl,trivial⟩ ?_
 conv=>whnf
 exact ⟨rfl,rfl⟩
 obtain ⟨h,b52d⟩:=cfd b52 h
 conv=>whnf
 refine Side.mk rfl ?_
 conv=>whnf
 obtain ⟨c53,hc53,h⟩:=bind_some h
 refine ⟨_,(sp_minimize_Classes c51.1 c53 (fun _=>hc53)),?_⟩
 conv=>whnf
 refine Both.mk ?_ ?_<;>intro b54
 obtain ⟨h,b54d⟩:=ctd b54 h
 conv=>whnf
 refine Side.mk rfl ?_
 conv=>whnf
 cases h
 conv=>whnf
 refine Side.mk ⟨rfl,trivial⟩ ?_
 conv=>whnf
 exact ⟨rfl,rfl⟩
 obtain ⟨h,b54d⟩:=cfd b54 h
 conv=>whnf
 refine Side.mk rfl ?_
 conv=>whnf
 refine Side.mk rfl ?_
 conv=>whnf
 refine Side.mk rfl ?_
 conv=>whnf
 refine Nf.mk (List.length c53.1) len_map ?_
 conv=>whnf
 obtain ⟨⟨y418,y419⟩,hc,hk55⟩:=bind_some h
 clear h
 have h:=hc
 clear hc
 refine Cut.mk (mkSt [(2,.own 84 1 0),(7,.own 85 1 0)] [(84,.box 50 4),(85,.box 50 4),(86,.row 60 1 (List.map (cL cI) y418)),(87,.row 60 1 (List.map (cL cI) y419))] [(84,0,.im (nI 0)),(84,1,.im (nI 0)),(84,2,.im (.val (.slice none 0 0))),(84,3,.im (.val (.slice none 0 0))),(85,0,.im (nI c51.1.Inputs)),(85,1,.im (nI 0)),(85,2,.osl 86 1),(85,3,.osl 87 1)]) (lZ y418∧lZ y419∧True) ((Holds.kdl 86 rfl).and ((Holds.kdl 87 rfl).and (hT))) ?_ (fun hp=>?_)
 conv=>whnf
 refine Loops.iter (fun (s:List (List Int)×List (List Int)×Nat)=>minimize_Min.s32 c51 c53 s.1 s.2.1 s.2.2) (fun (y527,y528,y529)=>mkSt [(2,.own 84 1 0),(4,.own 85 1 0),(6,.im (nL cI c53.1)),(7,.own 86 1 0),(34,.im (nL cI c53.1)),(35,.im (nI (↑(List.length c53.1):Int))),(36,.im (nI (↑y529:Int)))] [(84,.box 50 4),(85,.box 50 4),(86,.box 50 4),(87,.row 60 1 (List.map (cL cI) y527)),(88,.row 60 1 (List.map (cL cI) y528))] [(84,0,.im (nI 0)),(84,1,.im (nI 0)),(84,2,.im (.val (.slice none 0 0))),(84,3,.im (.val (.slice none 0 0))),(85,0,.im (nI c51.1.Inputs)),(85,1,.im (nI c51.1.Start)),(85,2,.im (nL (cL cI) c51.1.Next)),(85,3,.im (nL (cL cI) c51.1.Out)),(86,0,.im (nI c51.1.Inputs)),(86,1,.im (nI 0)),(86,2,.osl 87 1),(86,3,.osl 88 1)]) (fun (y527,y528,y529)=>lZ c53.1∧lZ c51.1.Next∧lZ c51.1.Out∧lZ y527∧lZ y528∧True) h (Ent.mk [(84,some 2),(85,some 4),(86,some 7),(87,none),(88,none)] rfl ⟨⟨.own 2 _ 0,rfl,.own rfl rfl rfl⟩,⟨.own 4 _ 0,rfl,.own rfl rfl rfl⟩,eI rfl rfl,⟨.own 7 _ 0,rfl,.own rfl rfl rfl⟩,eI rfl rfl,eI rfl rfl,eI rfl rfl,trivial⟩ ⟨.inl ⟨2,rfl,rfl,trivial⟩,.inl ⟨4,rfl,rfl,trivial⟩,.inl ⟨7,rfl,rfl,trivial⟩,.inr ⟨rfl,rfl,.inl ⟨_,_,rfl,by decide⟩⟩,.inr ⟨rfl,rfl,.inl ⟨_,_,rfl,by decide⟩⟩,trivial⟩ ⟨⟨2,.im _,rfl,rfl,.im (Sub.rfl' rfl)⟩,⟨2,.im _,rfl,rfl,.im (Sub.rfl' rfl)⟩,⟨2,.im (.val (.slice none 0 0)),rfl,rfl,.im (Sub.rfl' rfl)⟩,⟨2,.im (.val (.slice none 0 0)),rfl,rfl,.im (Sub.rfl' rfl)⟩,⟨4,.im _,rfl,rfl,.im (Sub.rfl' rfl)⟩,⟨4,.im _,rfl,rfl,.im (Sub.rfl' rfl)⟩,⟨4,.im _,rfl,rfl,.im (Sub.rfl' rfl)⟩,⟨4,.im _,rfl,rfl,.im (Sub.rfl' rfl)⟩,⟨7,.im _,rfl,rfl,.im (Sub.rfl' rfl)⟩,⟨7,.im _,rfl,rfl,.im (Sub.rfl' rfl)⟩,⟨7,.im (.val (.slice none 0 0)),rfl,rfl,.made rfl rfl⟩,⟨7,.im (.val (.slice none 0 0)),rfl,rfl,.made rfl rfl⟩,trivial⟩) (by rintro ⟨y527,y528,y529⟩;exact ((Holds.avl 6 rfl).and ((Holds.cel 85 2 rfl (by decide) rfl).and ((Holds.cel 85 3 rfl (by decide) rfl).and ((Holds.kdl 87 rfl).and ((Holds.kdl 88 rfl).and (hT))))))) ?_
 clear h
 rintro k ⟨y527,y528,y529⟩ o hp h ho653
 replace h:minimize_Min.s32 c51 c53 y527 y528 y529=some o:=h
 unfold minimize_Min.s32 at h
 obtain ⟨z777,z778,z779,z780,z781,_⟩:=hp
 conv=>whnf
 refine Both.mk ?_ ?_<;>intro b654
 obtain ⟨h,b654d⟩:=ctd b654 h
 conv=>whnf
 obtain ⟨⟨y713,y714⟩,hc,hk655⟩:=bind_some h
 clear h
 have h:=hc
 clear hc
 refine Cut.mk (mkSt [(2,.own 84 1 0),(4,.own 85 1 0),(6,.im (nL cI c53.1)),(7,.own 86 1 0),(34,.im (nL cI c53.1)),(35,.im (nI (↑(List.length c53.1):Int))),(36,.im (nI (↑y529:Int)))] [(84,.box 50 4),(85,.box 50 4),(86,.box 50 4),(87,.row 60 1 (List.map (cL cI) y713)),(88,.row 60 1 (List.map (cL cI) y714))] [(84,0,.im (nI 0)),(84,1,.im (nI 0)),(84,2,.im (.val (.slice none 0 0))),(84,3,.im (.val (.slice none 0 0))),(85,0,.im (nI c51.1.Inputs)),(85,1,.im (nI c51.1.Start)),(85,2,.im (nL (cL cI) c51.1.Next)),(85,3,.im (nL (cL cI) c51.1.Out)),(86,0,.im (nI c51.1.Inputs)),(86,1,.im (nI 0)),(86,2,.osl 87 1),(86,3,.osl 88 1)]) (lZ c53.1∧lZ c51.1.Next∧lZ c51.1.Out∧lZ y713∧lZ y714∧True) ((Holds.avl 6 rfl).and ((Holds.cel 85 2 rfl (by decide) rfl).and ((Holds.cel 85 3 rfl (by decide) rfl).and ((Holds.kdl 87 rfl).and ((Holds.kdl 88 rfl).and (hT)))))) ?_ (fun hp=>?_)
 conv=>whnf
 obtain ⟨e715,he715,h⟩:=idxn_some h
 refine ⟨_,⟨(by omega),map_at he715,rfl⟩,?_⟩
 conv=>whnf
 refine Side.mk rfl ?_
 conv=>whnf
 refine Side.mk rfl ?_
 conv=>whnf
 refine Side.mk rfl ?_
 conv=>whnf
 refine Nf.mk (List.length y527) len_map ?_
 conv=>whnf
 refine Both.mk ?_ ?_<;>intro b716
 obtain ⟨h,b716d⟩:=ctd b716 h
 conv=>whnf
 cases h
 exact Join.mk (eA [(84,some 84),(85,some 85),(86,some 86),(87,some 87),(88,some 88)])
 obtain ⟨h,b716d⟩:=cfd b716 h
 conv=>whnf
 refine Side.mk rfl ?_
 conv=>whnf
 refine Side.mk rfl ?_
 conv=>whnf
 obtain ⟨e717,he717,h⟩:=idxn_some h
 refine ⟨_,⟨(by omega),map_at he717,rfl⟩,?_⟩
 conv=>whnf
 refine Nf.mk (List.length e717) len_map ?_
 conv=>whnf
 obtain ⟨y740,hc,hk718⟩:=bind_some h
 clear h
 have h:=hc
 clear hc
 refine Cut.mk (mkSt [(2,.own 84 1 0),(4,.own 85 1 0),(6,.im (nL cI c53.1)),(7,.own 86 1 0),(8,.im (nI (↑y529:Int))),(10,.osl 89 1),(34,.im (nL cI c53.1)),(35,.im (nI (↑(List.length c53.1):Int))),(36,.im (nI (↑y529:Int)))] [(84,.box 50 4),(85,.box 50 4),(86,.box 50 4),(87,.row 60 1 (List.map (cL cI) y527)),(88,.row 60 1 (List.map (cL cI) y528)),(89,.row 3 1 (List.map cI y740))] [(84,0,.im (nI 0)),(84,1,.im (nI 0)),(84,2,.im (.val (.slice none 0 0))),(84,3,.im (.val (.slice none 0 0))),(85,0,.im (nI c51.1.Inputs)),(85,1,.im (nI c51.1.Start)),(85,2,.im (nL (cL cI) c51.1.Next)),(85,3,.im (nL (cL cI) c51.1.Out)),(86,0,.im (nI c51.1.Inputs)),(86,1,.im (nI 0)),(86,2,.osl 87 1),(86,3,.osl 88 1)]) (lZ c53.1∧lZ c51.1.Next∧lZ c51.1.Out∧lZ y527∧lZ y528∧lZ y740∧True) ((Holds.avl 6 rfl).and ((Holds.cel 85 2 rfl (by decide) rfl).and ((Holds.cel 85 3 rfl (by decide) rfl).and ((Holds.kdl 87 rfl).and ((Holds.kdl 88 rfl).and ((Holds.kdl 89 rfl).and (hT))))))) ?_ (fun hp=>?_)
 conv=>whnf
 refine Loops.iter (fun (s:List Int×Nat)=>minimize_Min.s30 c53 e717 s.1 s.2) (fun (y744,y745)=>mkSt [(2,.own 84 1 0),(4,.own 85 1 0),(6,.im (nL cI c53.1)),(7,.own 86 1 0),(8,.im (nI (↑y529:Int))),(10,.osl 89 1),(34,.im (nL cI c53.1)),(35,.im (nI (↑(List.length c53.1):Int))),(36,.im (nI (↑y529:Int))),(50,.im (nL cI e717)),(51,.im (nI (↑(List.length e717):Int))),(52,.im (nI (↑y745:Int)))] [(84,.box 50 4),(85,.box 50 4),(86,.box 50 4),(87,.row 60 1 (List.map (cL cI) y527)),(88,.row 60 1 (List.map (cL cI) y528)),(89,.row 3 1 (List.map cI y744))] [(84,0,.im (nI 0)),(84,1,.im (nI 0)),(84,2,.im (.val (.slice none 0 0))),(84,3,.im (.val (.slice none 0 0))),(85,0,.im (nI c51.1.Inputs)),(85,1,.im (nI c51.1.Start)),(85,2,.im (nL (cL cI) c51.1.Next)),(85,3,.im (nL (cL cI) c51.1.Out)),(86,0,.im (nI c51.1.Inputs)),(86,1,.im (nI 0)),(86,2,.osl 87 1),(86,3,.osl 88 1)]) (fun (y744,y745)=>lZ c53.1∧lZ e717∧lZ c51.1.Next∧lZ c51.1.Out∧lZ y527∧lZ y528∧lZ y744∧True) h (eA [(84,some 84),(85,some 85),(86,some 86),(87,some 87),(88,some 88),(89,none)]) (by rintro ⟨y744,y745⟩;exact ((Holds.avl 6 rfl).and ((Holds.avl 50 rfl).and ((Holds.cel 85 2 rfl (by decide) rfl).and ((Holds.cel 85 3 rfl (by decide) rfl).and ((Holds.kdl 87 rfl).and ((Holds.kdl 88 rfl).and ((Holds.kdl 89 rfl).and (hT))))))))) ?_
 clear h
 rintro k ⟨y744,y745⟩ o hp h ho750
 replace h:minimize_Min.s30 c53 e717 y744 y745=some o:=h
 unfold minimize_Min.s30 at h
 obtain ⟨z755,z756,z757,z758,z759,z760,z761,_⟩:=hp
 conv=>whnf
 refine Both.mk ?_ ?_<;>intro b751
 obtain ⟨h,b751d⟩:=ctd b751 h
 conv=>whnf
 obtain ⟨e752,he752,h⟩:=idxn_some h
 refine ⟨_,⟨(by omega),map_at he752,rfl⟩,?_⟩
 conv=>whnf
 obtain ⟨e753,he753z,he753,h⟩:=idx_some h
 refine ⟨_,⟨he753z,map_at he753,rfl⟩,?_⟩
 conv=>whnf
 obtain ⟨c754,h⟩:=chk_some h
 refine Side.mk ⟨rfl,map_len (l:=[e753]) (c:=cI) fun _=>rfl,show capOk _ 8 by simpa only [List.length_map,List.length_cons,List.length_nil,Nat.zero_add] using c754⟩ ?_
 conv=>whnf
 refine Nf.mk (List.map cI (y744++[e753])) (app_map (l:=y744) (m:=[e753]) (c:=cI)) ?_
 conv=>whnf
 refine Arith.mk (by show inR _;unfold inR;omega) ?_
 conv=>whnf
 cases h
 exact Nxt.mk _ ho750 (eA [(84,some 84),(85,some 85),(86,some 86),(87,some 87),(88,some 88),(89,some 89)])
 obtain ⟨h,b751d⟩:=cfd b751 h
 conv=>whnf
 cases h
 have ho750:_=_:=ho750
 cases ho750
 exact Join.mk (eA [(84,some 84),(85,some 85),(86,some 86),(87,some 87),(88,some 88),(89,some 89)])
 replace h:=hk718
 obtain ⟨z762,z763,z764,z765,z766,z767,_⟩:=hp
 conv=>whnf
 refine Side.mk rfl ?_
 conv=>whnf
 refine Side.mk rfl ?_
 conv=>whnf
 refine Side.mk ⟨rfl,trivial⟩ ?_
 conv=>whnf
 obtain ⟨c768,h⟩:=chk_some h
 refine Side.mk ⟨rfl,map_len (l:=[y740]) (c:=cL cI) fun _=>rfl,show capOk _ 24 by simpa only [List.length_map,List.length_cons,List.length_nil,Nat.zero_add] using c768⟩ ?_
 conv=>whnf
 refine Nf.mk (List.map (cL cI) (y527++[y740])) (app_map (l:=y527) (m:=[y740]) (c:=cL cI)) ?_
 conv=>whnf
 refine Side.mk rfl ?_
 conv=>whnf
 refine Side.mk rfl ?_
 conv=>whnf
 refine Side.mk rfl ?_
 conv=>whnf
 refine Side.mk rfl ?_
 conv=>whnf
 refine Side.mk rfl ?_
 conv=>whnf
 refine Side.mk rfl ?_
 conv=>whnf
 obtain ⟨e769,he769,h⟩:=idxn_some h
 refine ⟨_,⟨(by omega),map_at he769,rfl⟩,?_⟩
 conv=>whnf
 obtain ⟨c770,h⟩:=chk_some h
 refine Side.mk ⟨rfl,map_len (l:=e769) (c:=cI) fun _=>rfl,show capOk _ 8 by simpa only [List.length_map,List.length_cons,List.length_nil,Nat.zero_add] using c770⟩ ?_
 conv=>whnf
 refine Nf.mk (List.map cI ([]++e769)) (app_map (l:=[]) (m:=e769) (c:=cI)) ?_
 conv=>whnf
 refine Side.mk ⟨rfl,trivial⟩ ?_
 conv=>whnf
 obtain ⟨c771,h⟩:=chk_some h
 refine Side.mk ⟨rfl,map_len (l:=[([]++e769)]) (c:=cL cI) fun _=>rfl,show capOk _ 24 by simpa only [List.length_map,List.length_cons,List.length_nil,Nat.zero_add] using c771⟩ ?_
 conv=>whnf
 refine Nf.mk (List.map (cL cI) (y528++[([]++e769)])) (app_map (l:=y528) (m:=[([]++e769)]) (c:=cL cI)) ?_
 conv=>whnf
 refine Side.mk rfl ?_
 conv=>whnf
 refine Side.mk rfl ?_
 conv=>whnf
 cases h
 exact Join.mk (eA [(84,some 84),(85,some 85),(86,some 86),(87,some 87),(88,some 88)])
 replace h:minimize_Min.k31 y529 y713 y714=some _:=hk655
 unfold minimize_Min.k31 at h
 obtain ⟨z772,z773,z774,z775,z776,_⟩:=hp
 conv=>whnf
 refine Arith.mk (by show inR _;unfold inR;omega) ?_
 conv=>whnf
 cases h
 exact Nxt.mk _ ho653 (eA [(84,some 84),(85,some 85),(86,some 86),(87,some 87),(88,some 88)])
 obtain ⟨h,b654d⟩:=cfd b654 h
 conv=>whnf
 cases h
 have ho653:_=_:=ho653
 cases ho653
 exact Join.mk (eA [(84,some 84),(85,some 86),(86,some 87),(87,some 88)])
 replace h:minimize_Min.k33 c51 y418 y419=some _:=hk55
 unfold minimize_Min.k33 at h
 obtain ⟨z782,z783,_⟩:=hp
 conv=>whnf
 refine Side.mk rfl ?_
 conv=>whnf
 refine Side.mk rfl ?_
 conv=>whnf
 cases h
 conv=>whnf
 refine Side.mk ⟨rfl,trivial⟩ ?_
 conv=>whnf
 exact Side.mk ⟨rfl,rfl,trivial⟩ ⟨rfl,rfl⟩
theorem sp_separate_outs (m_:T_api_Mealy) (s_:Int) (w_:List Int) (r:List Int) (h:Ok (.agg (c_api_Mealy m_))→Ok (nI s_)→Ok (nL cI w_)→separate_outs m_ s_ w_=some r):Sp Tryz.prog 127 [.im (.agg (c_api_Mealy m_)),.im (nI s_),.im (nL cI w_)] (.row 3 1 (List.map cI r)):=by
 refine sp_of rfl [700003] rfl rfl rfl (Nat.le_of_ble_eq_true rfl) rfl fun hk=>?_
 replace h:=h hk.1 hk.2.1 hk.2.2.1
 have z1:lZ m_.Next:=ok_len (Ok.agg_at hk.1 2 rfl)
 have z2:lZ m_.Out:=ok_len (Ok.agg_at hk.1 3 rfl)
 have z3:lZ w_:=ok_len hk.2.2.1
 unfold separate_outs at h
 conv=>whnf
 refine Nf.mk (List.length w_) len_map ?_
 conv=>whnf
 obtain ⟨c51,h⟩:=chk_some h
 refine Side.mk c51 ?_
 conv=>whnf
 refine Nf.mk (List.map cI []) rfl ?_
 conv=>whnf
 refine Nf.mk (List.length w_) len_map ?_
 conv=>whnf
 obtain ⟨y80,hc,hk52⟩:=bind_some h
 clear h
 have h:=hc
 clear hc
 refine Cut.mk (mkSt [(7,.osl 64 1)] [(64,.row 3 1 (List.map cI y80))] []) (lZ y80∧True) ((Holds.kdl 64 rfl).and (hT)) ?_ (fun hp=>?_)
 conv=>whnf
 refine Loops.iter (fun (s:Int×List Int×Nat)=>separate_outs.s2 m_ w_ s.1 s.2.1 s.2.2) (fun (s88,y89,y90)=>mkSt [(1,.im (nI s88)),(3,.im (.ref (c_api_Mealy m_))),(7,.osl 64 1),(13,.im (nL cI w_)),(14,.im (nI (↑(List.length w_):Int))),(15,.im (nI (↑y90:Int)))] [(64,.row 3 1 (List.map cI y89))] []) (fun (s88,y89,y90)=>lZ w_∧lZ y89∧True) h (eA [(64,some 12)]) (by rintro ⟨s88,y89,y90⟩;exact ((Holds.avl 13 rfl).and ((Holds.kdl 64 rfl).and (hT)))) ?_
 clear h
 rintro k ⟨s88,y89,y90⟩ o hp h ho98
 replace h:separate_outs.s2 m_ w_ s88 y89 y90=some o:=h
 unfold separate_outs.s2 at h
 obtain ⟨z106,z107,_⟩:=hp
 conv=>whnf
 refine Both.mk ?_ ?_<;>intro b99
 obtain ⟨h,b99d⟩:=ctd b99 h
 conv=>whnf
 obtain ⟨e100,he100,h⟩:=idxn_some h
 refine ⟨_,⟨(by omega),map_at he100,rfl⟩,?_⟩
 conv=>whnf
 obtain ⟨e101,he101z,he101,h⟩:=idx_some h
 refine ⟨_,⟨he101z,map_at he101,rfl⟩,?_⟩
 conv=>whnf
 obtain ⟨e102,he102z,he102,h⟩:=idx_some h
 refine ⟨_,⟨he102z,map_at he102,rfl⟩,?_⟩
 conv=>whnf
 obtain ⟨c103,h⟩:=chk_some h
 refine Side.mk ⟨rfl,map_len (l:=[e102]) (c:=cI) fun _=>rfl,show capOk _ 8 by simpa only [List.length_map,List.length_cons,List.length_nil,Nat.zero_add] using c103⟩ ?_
 conv=>whnf
 refine Nf.mk (List.map cI (y89++[e102])) (app_map (l:=y89) (m:=[e102]) (c:=cI)) ?_
 conv=>whnf
 obtain ⟨e104,he104z,he104,h⟩:=idx_some h
 refine ⟨_,⟨he104z,map_at he104,rfl⟩,?_⟩
 conv=>whnf
 obtain ⟨e105,he105z,he105,h⟩:=idx_some h
 refine ⟨_,⟨he105z,map_at he105,rfl⟩,?_⟩
 conv=>whnf
 refine Arith.mk (by show inR _;unfold inR;omega) ?_
 conv=>whnf
 cases h
 exact Nxt.mk _ ho98 (eA [(64,some 64)])
 obtain ⟨h,b99d⟩:=cfd b99 h
 conv=>whnf
 cases h
 have ho98:_=_:=ho98
 cases ho98
 exact Join.mk (eA [(64,some 64)])
 replace h:=hk52
 obtain ⟨z108,_⟩:=hp
 conv=>whnf
 cases h
 conv=>whnf
 exact Side.mk ⟨rfl,trivial⟩ ⟨rfl,rfl⟩
theorem sp_slices_Equal_Sint_int (s1_:List Int) (s2_:List Int) (r:Bool) (h:Ok (nL cI s1_)→Ok (nL cI s2_)→slices_Equal_Sint_int s1_ s2_=some r):Sp Tryz.prog 126 [.im (nL cI s1_),.im (nL cI s2_)] (.im (nB r)):=by
 refine sp_of rfl [] rfl rfl rfl (Nat.le_of_ble_eq_true rfl) rfl fun hk=>?_
 replace h:=h hk.1 hk.2.1
 have z1:lZ s1_:=ok_len hk.1
 have z2:lZ s2_:=ok_len hk.2.1
 unfold slices_Equal_Sint_int at h
 conv=>whnf
 refine Nf.mk (List.length s1_) len_map ?_
 conv=>whnf
 refine Nf.mk (List.length s2_) len_map ?_
 conv=>whnf
 refine Both.mk ?_ ?_<;>intro b51
 obtain ⟨h,b51d⟩:=ctd b51 h
 conv=>whnf
 cases h
 conv=>whnf
 exact ⟨rfl,rfl⟩
 obtain ⟨h,b51d⟩:=cfd b51 h
 conv=>whnf
 refine Nf.mk (List.length s1_) len_map ?_
 conv=>whnf
 obtain ⟨oc,hc,hk52⟩:=bind_some h
 clear h
 have h:=hc
 clear hc
 refine Cut.mkS oc (Y:=Unit) (fun (_:Unit)=>mkSt [] [] []) (fun (_:Unit)=>True) (by rintro ⟨⟩;exact (hT)) ?_ ?_
 conv=>whnf
 refine Loops.iter (fun (s:Nat)=>slices_Equal_Sint_int.s2 s1_ s2_ s) (fun y73=>mkSt [(0,.im (nL cI s1_)),(1,.im (nL cI s2_)),(12,.im (nI (↑(List.length s1_):Int))),(13,.im (nI (↑y73:Int)))] [] []) (fun y73=>lZ s1_∧lZ s2_∧True) h (eA []) (by rintro y73;exact ((Holds.avl 0 rfl).and ((Holds.avl 1 rfl).and (hT)))) ?_
 clear h
 rintro k y73 o hp h ho78
 replace h:slices_Equal_Sint_int.s2 s1_ s2_ y73=some o:=h
 unfold slices_Equal_Sint_int.s2 at h
 obtain ⟨z83,z84,_⟩:=hp
 conv=>whnf
 refine Both.mk ?_ ?_<;>intro b79
 obtain ⟨h,b79d⟩:=ctd b79 h
 conv=>whnf
 obtain ⟨e80,he80,h⟩:=idxn_some h
 refine ⟨_,⟨(by omega),map_at he80,rfl⟩,?_⟩
 conv=>whnf
 obtain ⟨e81,he81,h⟩:=idxn_some h
 refine ⟨_,⟨(by omega),map_at he81,rfl⟩,?_⟩
 conv=>whnf
 refine Both.mk ?_ ?_<;>intro b82
 obtain ⟨h,b82d⟩:=ctd b82 h
 conv=>whnf
 cases h
 have ho78:_=_:=ho78
 cases ho78
 replace h:some _=some _:=hk52
 cases h
 conv=>whnf
 exact ⟨rfl,rfl⟩
 obtain ⟨h,b82d⟩:=cfd b82 h
 conv=>whnf
 refine Arith.mk (by show inR _;unfold inR;omega) ?_
 conv=>whnf
 cases h
 exact Nxt.mk _ ho78 (eA [])
 obtain ⟨h,b79d⟩:=cfd b79 h
 conv=>whnf
 cases h
 have ho78:_=_:=ho78
 cases ho78
 exact JoinS.mk' _ rfl (eA [])
 rintro ⟨⟩ rfl hp
 replace h:=sum_inl hk52
 conv=>whnf
 cases h
 conv=>whnf
 exact ⟨rfl,rfl⟩
theorem sp_separate_separated_1 (w_:List Int) (p1_:T_api_Mealy) (p2_:Int) (p3_:Int) (r:Bool) (h:Ok (nL cI w_)→Ok (.ref (c_api_Mealy p1_))→Ok (.ref (cI p2_))→Ok (.ref (cI p3_))→separate_separated_1 w_ p1_ p2_ p3_=some r):Sp Tryz.prog 125 [.im (nL cI w_),.im (.ref (c_api_Mealy p1_)),.im (.ref (cI p2_)),.im (.ref (cI p3_))] (.im (nB r)):=by
 refine sp_of rfl [] rfl rfl rfl (Nat.le_of_ble_eq_true rfl) rfl fun hk=>?_
 replace h:=h hk.1 hk.2.1 hk.2.2.1 hk.2.2.2.1
 have z1:lZ w_:=ok_len hk.1
 have z2:lZ p1_.Next:=ok_len (Ok.ref_at hk.2.1 2 rfl)
 have z3:lZ p1_.Out:=ok_len (Ok.ref_at hk.2.1 3 rfl)
 unfold separate_separated_1 at h
 conv=>whnf
 obtain ⟨c51,hc51,h⟩:=bind_some h
 refine ⟨_,(sp_separate_outs p1_ p2_ w_ c51 (fun _ _ _=>hc51)).im,?_⟩
 conv=>whnf
 obtain ⟨c52,hc52,h⟩:=bind_some h
 refine ⟨_,(sp_separate_outs p1_ p3_ w_ c52 (fun _ _ _=>hc52)).im,?_⟩
 conv=>whnf
 obtain ⟨c53,hc53,h⟩:=bind_some h
 refine ⟨_,(sp_slices_Equal_Sint_int c51 c52 c53 (fun _ _=>hc53)),?_⟩
 conv=>whnf
 cases h
 conv=>whnf
 exact ⟨rfl,rfl⟩
theorem sp_separate_some_Sint_n3 (l_:List (List Int)) (has_:(List Int)→Option Bool) (f1_:FuncId) (k1_0 k1_1 k1_2:IV) (hk1_0:nz k1_0=k1_0) (hk1_1:nz k1_1=k1_1) (hk1_2:nz k1_2=k1_2) (hf1:∀ x0 r,has_ x0=some r→Sp Tryz.prog f1_ [.im (nL cI x0),.im k1_0,.im k1_1,.im k1_2] (.im (nB r))) (r:Bool) (h:Ok (nL (cL cI) l_)→Ok (.fn f1_ [k1_0,k1_1,k1_2])→separate_some_Sint_n3 l_ has_=some r):Sp Tryz.prog 124 [.im (nL (cL cI) l_),.im (.fn f1_ [k1_0,k1_1,k1_2])] (.im (nB r)):=by
 refine sp_of rfl [] rfl rfl rfl (Nat.le_of_ble_eq_true rfl) rfl fun hk=>?_
 replace h:=h hk.1 hk.2.1
 have z1:lZ l_:=ok_len hk.1
 unfold separate_some_Sint_n3 at h
 conv=>whnf
 refine Nf.mk (List.length l_) len_map ?_
 conv=>whnf
 obtain ⟨oc,hc,hk51⟩:=bind_some h
 clear h
 have h:=hc
 clear hc
 refine Cut.mkS oc (Y:=Unit) (fun (_:Unit)=>mkSt [] [] []) (fun (_:Unit)=>True) (by rintro ⟨⟩;exact (hT)) ?_ ?_
 conv=>whnf
 refine Loops.iter (fun (s:Nat)=>separate_some_Sint_n3.s2 l_ has_ s) (fun y71=>mkSt [(1,.im (.fn f1_ [k1_0,k1_1,k1_2])),(7,.im (nL (cL cI) l_)),(8,.im (nI (↑(List.length l_):Int))),(9,.im (nI (↑y71:Int)))] [] []) (fun y71=>lZ l_∧True) h (eA []) (by rintro y71;exact ((Holds.avl 7 rfl).and (hT))) ?_
 clear h
 rintro k y71 o hp h ho76
 replace h:separate_some_Sint_n3.s2 l_ has_ y71=some o:=h
 unfold separate_some_Sint_n3.s2 at h
 obtain ⟨z81,_⟩:=hp
 conv=>whnf
 refine Both.mk ?_ ?_<;>intro b77
 obtain ⟨h,b77d⟩:=ctd b77 h
 conv=>whnf
 obtain ⟨e78,he78,h⟩:=idxn_some h
 refine ⟨_,⟨(by omega),map_at he78,rfl⟩,?_⟩
 conv=>whnf
 obtain ⟨c79,hc79,h⟩:=bind_some h
 refine ⟨_,Sp.args (hf1 e78 c79 hc79) (by rw [hk1_0,hk1_1,hk1_2];try rfl),?_⟩
 conv=>whnf
 refine Both.mk ?_ ?_<;>intro b80
 replace h:=cond_t b80 h
 conv=>whnf
 cases h
 have ho76:_=_:=ho76
 cases ho76
 replace h:some _=some _:=hk51
 cases h
 conv=>whnf
 exact ⟨rfl,rfl⟩
 replace h:=cond_f b80 h
 conv=>whnf
 refine Arith.mk (by show inR _;unfold inR;omega) ?_
 conv=>whnf
 cases h
 exact Nxt.mk _ ho76 (eA [])
 obtain ⟨h,b77d⟩:=cfd b77 h
 conv=>whnf
 cases h
 have ho76:_=_:=ho76
 cases ho76
 exact JoinS.mk' _ rfl (eA [])
 rintro ⟨⟩ rfl hp
 replace h:=sum_inl hk51
 conv=>whnf
 cases h
 conv=>whnf
 exact ⟨rfl,rfl⟩
theorem sp_separate_separated (m_:T_api_Mealy) (words_:List (List Int)) (s_:Int) (t_:Int) (r:Bool) (h:Ok (.agg (c_api_Mealy m_))→Ok (nL (cL cI) words_)→Ok (nI s_)→Ok (nI t_)→separate_separated m_ words_ s_ t_=some r):Sp Tryz.prog 92 [.im (.agg (c_api_Mealy m_)),.im (nL (cL cI) words_),.im (nI s_),.im (nI t_)] (.im (nB r)):=by
 refine sp_of rfl [700004,700006,700007] rfl rfl rfl (Nat.le_of_ble_eq_true rfl) rfl fun hk=>?_
 replace h:=h hk.1 hk.2.1 hk.2.2.1 hk.2.2.2.1
 have z1:lZ m_.Next:=ok_len (Ok.agg_at hk.1 2 rfl)
 have z2:lZ m_.Out:=ok_len (Ok.agg_at hk.1 3 rfl)
 have z3:lZ words_:=ok_len hk.2.1
 unfold separate_separated at h
 conv=>whnf
 obtain ⟨c51,hc51,h⟩:=bind_some h
 refine ⟨_,(sp_separate_some_Sint_n3 words_ (fun u0=>separate_separated_1 u0 m_ s_ t_) 125 (.ref (c_api_Mealy m_)) (.ref (cI s_)) (.ref (cI t_)) rfl rfl rfl (fun u0 r h=>(sp_separate_separated_1 u0 m_ s_ t_ r (fun _ _ _ _=>h))) c51 (fun _ _=>hc51)),?_⟩
 conv=>whnf
 cases h
 conv=>whnf
 exact ⟨rfl,rfl⟩
theorem sp_minimize_Minimal (m_:T_api_Mealy) (r:Bool) (h:Ok (.agg (c_api_Mealy m_))→minimize_Minimal m_=some r):Sp Tryz.prog 123 [.im (.agg (c_api_Mealy m_))] (.im (nB r)):=by
 refine sp_of rfl [700001] rfl rfl rfl (Nat.le_of_ble_eq_true rfl) rfl fun hk=>?_
 replace h:=h hk.1
 have z1:lZ m_.Next:=ok_len (Ok.agg_at hk.1 2 rfl)
 have z2:lZ m_.Out:=ok_len (Ok.agg_at hk.1 3 rfl)
 unfold minimize_Minimal at h
 conv=>whnf
 obtain ⟨y56,hc,hk52⟩:=bind_some h
 clear h
 have h:=hc
 clear hc
 refine Cut.mk (mkSt [(1,.im (.ref (c_api_Mealy m_))),(16,.im (nB y56))] [] []) (True) (hT) ?_ (fun hp=>?_)
 conv=>whnf
 obtain ⟨c57,hc57,h⟩:=bind_some h
 refine ⟨_,(sp_mealy_Valid m_ c57 (fun _=>hc57)),?_⟩
 conv=>whnf
 refine Both.mk ?_ ?_<;>intro b58
 replace b58:=beq_ff b58
 obtain ⟨h,b58d⟩:=cfd b58 h
 conv=>whnf
 refine Both.yes (ff_beq b58) ?_
 conv=>whnf
 obtain ⟨c59,hc59,h⟩:=bind_some h
 refine ⟨_,(sp_mealy_Reach m_ c59 (fun _=>hc59)).im,?_⟩
 conv=>whnf
 refine Both.yes (ff_beq b58) ?_
 conv=>whnf
 refine Nf.mk (List.length c59) len_map ?_
 conv=>whnf
 iterate 3 (refine Both.yes (ff_beq b58) ?_;(conv=>whnf))
 refine Nf.mk (List.length m_.Next) len_map ?_
 conv=>whnf
 refine Both.yes (ff_beq b58) ?_
 conv=>whnf
 refine Both.no b58 ?_
 conv=>whnf
 cases h
 exact Join.mk (eA [])
 replace b58:=beq_ft b58
 obtain ⟨h,b58d⟩:=ctd b58 h
 conv=>whnf
 iterate 6 (refine Both.no (tf_beq b58) ?_;(conv=>whnf))
 refine Both.yes b58 ?_
 conv=>whnf
 cases h
 exact Join.mk (eA [])
 replace h:=hk52
 conv=>whnf
 refine Both.mk ?_ ?_<;>intro b60
 replace h:=cond_t b60 h
 conv=>whnf
 cases h
 conv=>whnf
 exact ⟨rfl,rfl⟩
 replace h:=cond_f b60 h
 conv=>whnf
 obtain ⟨c61,hc61,h⟩:=bind_some h
 refine ⟨_,(sp_minimize_Min m_ c61 (fun _=>hc61)),?_⟩
 conv=>whnf
 refine Side.mk rfl ?_
 conv=>whnf
 obtain ⟨y65,hc,hk63⟩:=bind_some h
 clear h
 have h:=hc
 clear hc
 refine Cut.mk (mkSt [(2,.im (nB y65))] [] []) (True) (hT) ?_ (fun hp=>?_)
 conv=>whnf
 refine Both.mk ?_ ?_<;>intro b66
 replace b66:=beq_tt b66
 obtain ⟨h,b66d⟩:=ctd b66 h
 conv=>whnf
 refine Side.mk rfl ?_
 conv=>whnf
 refine Both.yes (tt_beq b66) ?_
 conv=>whnf
 refine Side.mk rfl ?_
 conv=>whnf
 refine Both.yes (tt_beq b66) ?_
 conv=>whnf
 refine Nf.mk (List.length c61.1.Next) len_map ?_
 conv=>whnf
 iterate 3 (refine Both.yes (tt_beq b66) ?_;(conv=>whnf))
 refine Nf.mk (List.length m_.Next) len_map ?_
 conv=>whnf
 refine Both.yes (tt_beq b66) ?_
 conv=>whnf
 refine Both.yes b66 ?_
 conv=>whnf
 cases h
 exact Join.mk (eA [])
 replace b66:=beq_tf b66
 obtain ⟨h,b66d⟩:=cfd b66 h
 conv=>whnf
 iterate 6 (refine Both.no (ft_beq b66) ?_;(conv=>whnf))
 refine Both.no b66 ?_
 conv=>whnf
 cases h
 exact Join.mk (eA [])
 replace h:=hk63
 conv=>whnf
 cases h
 conv=>whnf
 exact ⟨rfl,rfl⟩
theorem sp_separate_check (m_:T_api_Mealy) (r:Int) (h:Ok (.agg (c_api_Mealy m_))→separate_check m_=some r):Sp Tryz.prog 91 [.im (.agg (c_api_Mealy m_))] (.im (nI r)):=by
 refine sp_of rfl [700001] rfl rfl rfl (Nat.le_of_ble_eq_true rfl) rfl fun hk=>?_
 replace h:=h hk.1
 have z1:lZ m_.Next:=ok_len (Ok.agg_at hk.1 2 rfl)
 have z2:lZ m_.Out:=ok_len (Ok.agg_at hk.1 3 rfl)
 unfold separate_check at h
 conv=>whnf
 obtain ⟨c51,hc51,h⟩:=bind_some h
 refine ⟨_,(sp_mealy_Valid m_ c51 (fun _=>hc51)),?_⟩
 conv=>whnf
 refine Both.mk ?_ ?_<;>intro b52
 obtain ⟨h,b52d⟩:=ctd b52 h
 conv=>whnf
 cases h
 conv=>whnf
 exact ⟨rfl,rfl⟩
 obtain ⟨h,b52d⟩:=cfd b52 h
 conv=>whnf
 obtain ⟨c53,hc53,h⟩:=bind_some h
 refine ⟨_,(sp_minimize_Minimal m_ c53 (fun _=>hc53)),?_⟩
 conv=>whnf
 refine Both.mk ?_ ?_<;>intro b54
 replace h:=cond_t b54 h
 conv=>whnf
 cases h
 conv=>whnf
 exact ⟨rfl,rfl⟩
 replace h:=cond_f b54 h
 conv=>whnf
 cases h
 conv=>whnf
 exact ⟨rfl,rfl⟩
theorem sp_slices_Concat_Sint_int (slices_:List (List Int)) (r:List Int) (h:Ok (nL (cL cI) slices_)→slices_Concat_Sint_int slices_=some r):Sp Tryz.prog 161 [.im (nL (cL cI) slices_)] (.row 3 1 (List.map cI r)):=by
 refine sp_of rfl [4025000] rfl rfl rfl (Nat.le_of_ble_eq_true rfl) rfl fun hk=>?_
 replace h:=h hk.1
 have z1:lZ slices_:=ok_len hk.1
 unfold slices_Concat_Sint_int at h
 conv=>whnf
 refine Nf.mk (List.length slices_) len_map ?_
 conv=>whnf
 obtain ⟨size68,hc,hk51⟩:=bind_some h
 clear h
 have h:=hc
 clear hc
 refine Cut.mk (mkSt [(0,.im (nL (cL cI) slices_)),(3,.im (nI (↑size68:Int)))] [] []) (lZ slices_∧True) ((Holds.avl 0 rfl).and (hT)) ?_ (fun hp=>?_)
 conv=>whnf
 refine Loops.iter (fun (s:Nat×Nat)=>slices_Concat_Sint_int.s2 slices_ s.1 s.2) (fun (size73,y74)=>mkSt [(0,.im (nL (cL cI) slices_)),(3,.im (nI (↑size73:Int))),(9,.im (nL (cL cI) slices_)),(10,.im (nI (↑(List.length slices_):Int))),(11,.im (nI (↑y74:Int)))] [] []) (fun (size73,y74)=>lZ slices_∧True) h (eA []) (by rintro ⟨size73,y74⟩;exact ((Holds.avl 0 rfl).and (hT))) ?_
 clear h
 rintro k ⟨size73,y74⟩ o hp h ho79
 replace h:slices_Concat_Sint_int.s2 slices_ size73 y74=some o:=h
 unfold slices_Concat_Sint_int.s2 at h
 obtain ⟨z84,_⟩:=hp
 conv=>whnf
 refine Both.mk ?_ ?_<;>intro b80
 obtain ⟨h,b80d⟩:=ctd b80 h
 conv=>whnf
 obtain ⟨e81,he81,h⟩:=idxn_some h
 refine ⟨_,⟨(by omega),map_at he81,rfl⟩,?_⟩
 conv=>whnf
 refine Nf.mk (List.length e81) len_map ?_
 conv=>whnf
 obtain ⟨c82,h⟩:=chk_some h
 refine Arith.mk c82 ?_
 conv=>whnf
 refine Both.mk ?_ ?_<;>intro b83
 obtain ⟨h,b83d⟩:=ctd b83 h
 conv=>whnf
 cases h
 obtain ⟨h,b83d⟩:=cfd b83 h
 conv=>whnf
 refine Arith.mk (by show inR _;unfold inR;omega) ?_
 conv=>whnf
 cases h
 exact Nxt.mk _ ho79 (eA [])
 obtain ⟨h,b80d⟩:=cfd b80 h
 conv=>whnf
 cases h
 have ho79:_=_:=ho79
 cases ho79
 exact Join.mk (eA [])
 replace h:=hk51
 obtain ⟨z85,_⟩:=hp
 conv=>whnf
 obtain ⟨c86,hc86,h⟩:=bind_some h
 refine ⟨_,(sp_lib_Grow_int (↑size68:Int) c86 (hc86)),?_⟩
 conv=>whnf
 refine Nf.mk (List.length slices_) len_map ?_
 conv=>whnf
 obtain ⟨y102,hc,hk87⟩:=bind_some h
 clear h
 have h:=hc
 clear hc
 refine Cut.mk (mkSt [(6,.osl 64 1)] [(64,.row 3 1 (List.map cI y102))] []) (lZ y102∧True) ((Holds.kdl 64 rfl).and (hT)) ?_ (fun hp=>?_)
 conv=>whnf
 refine Loops.iter (fun (s:List Int×Nat)=>slices_Concat_Sint_int.s4 slices_ s.1 s.2) (fun (y106,y107)=>mkSt [(6,.osl 64 1),(25,.im (nL (cL cI) slices_)),(26,.im (nI (↑(List.length slices_):Int))),(27,.im (nI (↑y107:Int)))] [(64,.row 3 1 (List.map cI y106))] []) (fun (y106,y107)=>lZ slices_∧lZ y106∧True) h (eA [(64,some 24)]) (by rintro ⟨y106,y107⟩;exact ((Holds.avl 25 rfl).and ((Holds.kdl 64 rfl).and (hT)))) ?_
 clear h
 rintro k ⟨y106,y107⟩ o hp h ho111
 replace h:slices_Concat_Sint_int.s4 slices_ y106 y107=some o:=h
 unfold slices_Concat_Sint_int.s4 at h
 obtain ⟨z115,z116,_⟩:=hp
 conv=>whnf
 refine Both.mk ?_ ?_<;>intro b112
 obtain ⟨h,b112d⟩:=ctd b112 h
 conv=>whnf
 obtain ⟨e113,he113,h⟩:=idxn_some h
 refine ⟨_,⟨(by omega),map_at he113,rfl⟩,?_⟩
 conv=>whnf
 obtain ⟨c114,h⟩:=chk_some h
 refine Side.mk ⟨rfl,map_len (l:=e113) (c:=cI) fun _=>rfl,show capOk _ 8 by simpa only [List.length_map,List.length_cons,List.length_nil,Nat.zero_add] using c114⟩ ?_
 conv=>whnf
 refine Nf.mk (List.map cI (y106++e113)) (app_map (l:=y106) (m:=e113) (c:=cI)) ?_
 conv=>whnf
 refine Arith.mk (by show inR _;unfold inR;omega) ?_
 conv=>whnf
 cases h
 exact Nxt.mk _ ho111 (eA [(64,some 64)])
 obtain ⟨h,b112d⟩:=cfd b112 h
 conv=>whnf
 cases h
 have ho111:_=_:=ho111
 cases ho111
 exact Join.mk (eA [(64,some 64)])
 replace h:=hk87
 obtain ⟨z117,_⟩:=hp
 conv=>whnf
 cases h
 conv=>whnf
 exact Side.mk ⟨rfl,trivial⟩ ⟨rfl,rfl⟩
theorem sp_word_Join (parts_:List (List Int)) (r:List Int) (h:Ok (nL (cL cI) parts_)→word_Join parts_=some r):Sp Tryz.prog 147 [.im (nL (cL cI) parts_)] (.im (nL cI r)):=by
 refine sp_of rfl [] rfl rfl rfl (Nat.le_of_ble_eq_true rfl) rfl fun hk=>?_
 replace h:=h hk.1
 have z1:lZ parts_:=ok_len hk.1
 unfold word_Join at h
 conv=>whnf
 obtain ⟨c51,hc51,h⟩:=bind_some h
 refine ⟨_,(sp_slices_Concat_Sint_int parts_ c51 (fun _=>hc51)).im,?_⟩
 conv=>whnf
 cases h
 conv=>whnf
 exact ⟨rfl,rfl⟩
theorem sp_equiv_search (a_:T_api_Mealy) (b_:T_api_Mealy) (first_:T_equiv_pair) (r:List Int×Bool) (h:Ok (.agg (c_api_Mealy a_))→Ok (.agg (c_api_Mealy b_))→Ok (.agg (c_equiv_pair first_))→equiv_search a_ b_ first_=some r):Sp Tryz.prog 128 [.im (.agg (c_api_Mealy a_)),.im (.agg (c_api_Mealy b_)),.im (.agg (c_equiv_pair first_))] (.tup [nL cI r.1,nB r.2]):=by
 refine sp_of rfl [42,600018,700003,700004,700005] rfl rfl rfl (Nat.le_of_ble_eq_true rfl) rfl fun hk=>?_
 replace h:=h hk.1 hk.2.1 hk.2.2.1
 have z1:lZ a_.Next:=ok_len (Ok.agg_at hk.1 2 rfl)
 have z2:lZ a_.Out:=ok_len (Ok.agg_at hk.1 3 rfl)
 have z3:lZ b_.Next:=ok_len (Ok.agg_at hk.2.1 2 rfl)
 have z4:lZ b_.Out:=ok_len (Ok.agg_at hk.2.1 3 rfl)
 unfold equiv_search at h
 conv=>whnf
 refine Nf.mk (List.length a_.Next) len_map ?_
 conv=>whnf
 obtain ⟨c51,h⟩:=chk_some h
 refine Side.mk c51 ?_
 conv=>whnf
 refine Nf.mk (List.map (cL cB) (List.replicate (List.length a_.Next) ([]:List Bool))) (rep_map (c:=(cL cB)) (z:=([]:List Bool)) (n:=(List.length a_.Next)) rfl rfl) ?_
 conv=>whnf
 refine Side.mk rfl ?_
 conv=>whnf
 refine Nf.mk (List.length (List.replicate (List.length a_.Next) ([]:List Bool))) len_map ?_
 conv=>whnf
 obtain ⟨y68,hc,hk52⟩:=bind_some h
 clear h
 have h:=hc
 clear hc
 refine Cut.mk (mkSt [(3,.im (.ref (c_api_Mealy a_))),(4,.im (.ref (c_api_Mealy b_))),(5,.im (.ref (c_equiv_pair first_))),(8,.osl 144 1)] [(144,.grid 81 4 1 (List.map (cL cB) y68) none)] []) (lZ y68∧True) ((Holds.kdg 144 rfl).and (hT)) ?_ (fun hp=>?_)
 conv=>whnf
 refine Loops.iter (fun (s:List (List Bool)×Nat)=>equiv_search.s2 a_ b_ s.1 s.2) (fun (y72,y73)=>mkSt [(3,.im (.ref (c_api_Mealy a_))),(4,.im (.ref (c_api_Mealy b_))),(5,.im (.ref (c_equiv_pair first_))),(8,.osl 144 1),(20,.im (nI (↑(List.length (List.replicate (List.length a_.Next) ([]:List Bool))):Int))),(21,.im (nI (↑y73:Int)))] [(144,.grid 81 4 1 (List.map (cL cB) y72) none)] []) (fun (y72,y73)=>lZ y72∧True) h (eA [(144,some 18)]) (by rintro ⟨y72,y73⟩;exact ((Holds.kdg 144 rfl).and (hT))) ?_
 clear h
 rintro k ⟨y72,y73⟩ o hp h ho78
 replace h:equiv_search.s2 a_ b_ y72 y73=some o:=h
 unfold equiv_search.s2 at h
 obtain ⟨z83,_⟩:=hp
 conv=>whnf
 refine Both.mk ?_ ?_<;>intro b79
 obtain ⟨h,b79d⟩:=ctd b79 h
 conv=>whnf
 refine Nf.mk (List.length b_.Next) len_map ?_
 conv=>whnf
 obtain ⟨c80,h⟩:=chk_some h
 refine Side.mk c80 ?_
 conv=>whnf
 refine Nf.mk (List.map cB (List.replicate (List.length b_.Next) false)) (rep_map (c:=cB) (z:=false) (n:=(List.length b_.Next)) rfl rfl) ?_
 conv=>whnf
 obtain ⟨e81,he81,h⟩:=idxn_some h
 refine Side.mk ⟨(by omega),rfl,map_lt he81⟩ ?_
 conv=>whnf
 refine Side.mk ⟨rfl,rfl,map_lt he81,trivial⟩ ?_
 conv=>whnf
 refine Nf.mk (List.map (cL cB) (List.set y72 y73 (List.replicate (List.length b_.Next) false))) set_grid1 ?_
 conv=>whnf
 obtain ⟨c82,h⟩:=chk_some h
 refine Arith.mk c82 ?_
 conv=>whnf
 cases h
 exact Nxt.mk _ ho78 (eA [(144,some 144)])
 obtain ⟨h,b79d⟩:=cfd b79 h
 conv=>whnf
 cases h
 have ho78:_=_:=ho78
 cases ho78
 exact Join.mk (eA [(144,some 144)])
 replace h:=hk52
 obtain ⟨z84,_⟩:=hp
 conv=>whnf
 obtain ⟨e85,he85z,he85,h⟩:=idx_some h
 refine Side.mk ⟨he85z,rfl,map_lt he85⟩ ?_
 conv=>whnf
 refine Side.mk ⟨rfl,map_lt he85⟩ ?_
 conv=>whnf
 obtain ⟨e86,he86z,he86,h⟩:=idx_some h
 refine ⟨_,⟨he86z,rfl,map_at he85,map_lt he86⟩,?_⟩
 conv=>whnf
 refine ⟨_,_,⟨rfl,map_at he85,map_at he86⟩,?_⟩
 conv=>whnf
 refine Nf.mk (List.map (cL cB) (List.set y68 (Int.toNat first_.s) (List.set e85 (Int.toNat first_.t) true))) (set_grid2 rfl) ?_
 conv=>whnf
 obtain ⟨oc,hc,hk87⟩:=bind_some h
 clear h
 have h:=hc
 clear hc
 refine Cut.mkS oc (Y:=Unit) (fun (_:Unit)=>mkSt [] [] []) (fun (_:Unit)=>True) (by rintro ⟨⟩;exact (hT)) ?_ ?_
 conv=>whnf
 refine Loops.iter (fun (s:List (List Bool)×List T_equiv_place×Nat)=>equiv_search.s22 a_ b_ s.1 s.2.1 s.2.2) (fun (y898,y899,i900)=>mkSt [(3,.im (.ref (c_api_Mealy a_))),(4,.im (.ref (c_api_Mealy b_))),(8,.osl 144 1),(10,.osl 145 1),(11,.im (nI (↑i900:Int)))] [(144,.grid 81 4 1 (List.map (cL cB) y898) none),(145,.row 178 3 (List.map c_equiv_place y899))] []) (fun (y898,y899,i900)=>lZ y898∧lZ y899∧True) h (eA [(144,some 144),(145,some 42)]) (by rintro ⟨y898,y899,i900⟩;exact ((Holds.kdg 144 rfl).and ((Holds.kdl 145 rfl).and (hT)))) ?_
 clear h
 rintro k ⟨y898,y899,i900⟩ o hp h ho1102
 replace h:equiv_search.s22 a_ b_ y898 y899 i900=some o:=h
 unfold equiv_search.s22 at h
 obtain ⟨z1304,z1305,_⟩:=hp
 conv=>whnf
 refine Side.mk rfl ?_
 conv=>whnf
 refine Nf.mk (List.length y899) len_map ?_
 conv=>whnf
 refine Both.mk ?_ ?_<;>intro b1103
 obtain ⟨h,b1103d⟩:=ctd b1103 h
 conv=>whnf
 obtain ⟨e1104,he1104,h⟩:=idxn_some h
 refine Side.mk ⟨(by omega),rfl,map_lt he1104⟩ ?_
 conv=>whnf
 refine Side.mk rfl ?_
 conv=>whnf
 refine ⟨_,⟨rfl,map_at he1104,of_decide_eq_true rfl,rfl⟩,?_⟩
 conv=>whnf
 refine Side.mk rfl ?_
 conv=>whnf
 obtain ⟨oc,hc,hk1105⟩:=bind_some h
 clear h
 have h:=hc
 clear hc
 refine Cut.mkS oc (Y:=List (List Bool)×List T_equiv_place) (fun (y1203,y1204)=>mkSt [(3,.im (.ref (c_api_Mealy a_))),(4,.im (.ref (c_api_Mealy b_))),(8,.osl 144 1),(10,.osl 145 1),(11,.im (nI (↑i900:Int)))] [(144,.grid 81 4 1 (List.map (cL cB) y1203) none),(145,.row 178 3 (List.map c_equiv_place y1204))] []) (fun (y1203,y1204)=>lZ y1203∧lZ y1204∧True) (by rintro ⟨y1203,y1204⟩;exact ((Holds.kdg 144 rfl).and ((Holds.kdl 145 rfl).and (hT)))) ?_ ?_
 conv=>whnf
 refine Loops.iter (fun (s:List (List Bool)×List T_equiv_place×Nat)=>equiv_search.s20 a_ b_ i900 e1104 s.1 s.2.1 s.2.2) (fun (y1234,y1235,y1236)=>mkSt [(3,.im (.ref (c_api_Mealy a_))),(4,.im (.ref (c_api_Mealy b_))),(8,.osl 144 1),(10,.osl 145 1),(11,.im (nI (↑i900:Int))),(12,.own 146 1 0),(55,.im (nI a_.Inputs)),(56,.im (nI (↑y1236:Int)))] [(144,.grid 81 4 1 (List.map (cL cB) y1234) none),(145,.row 178 3 (List.map c_equiv_place y1235)),(146,.box 164 2)] [(146,0,.im (nI e1104.at_.s)),(146,1,.im (nI e1104.at_.t))]) (fun (y1234,y1235,y1236)=>lZ y1234∧lZ y1235∧True) h (eA [(144,some 144),(145,some 145),(146,some 12)]) (by rintro ⟨y1234,y1235,y1236⟩;exact ((Holds.kdg 144 rfl).and ((Holds.kdl 145 rfl).and (hT)))) ?_
 clear h
 rintro k ⟨y1234,y1235,y1236⟩ o hp h ho1268
 replace h:equiv_search.s20 a_ b_ i900 e1104 y1234 y1235 y1236=some o:=h
 unfold equiv_search.s20 at h
 obtain ⟨z1300,z1301,_⟩:=hp
 conv=>whnf
 refine Both.mk ?_ ?_<;>intro b1269
 obtain ⟨h,b1269d⟩:=ctd b1269 h
 conv=>whnf
 refine Side.mk rfl ?_
 conv=>whnf
 refine Side.mk rfl ?_
 conv=>whnf
 obtain ⟨e1270,he1270z,he1270,h⟩:=idx_some h
 refine ⟨_,⟨he1270z,map_at he1270,rfl⟩,?_⟩
 conv=>whnf
 obtain ⟨e1271,he1271,h⟩:=idxn_some h
 refine ⟨_,⟨(by omega),map_at he1271,rfl⟩,?_⟩
 conv=>whnf
 refine Side.mk rfl ?_
 conv=>whnf
 refine Side.mk rfl ?_
 conv=>whnf
 obtain ⟨e1272,he1272z,he1272,h⟩:=idx_some h
 refine ⟨_,⟨he1272z,map_at he1272,rfl⟩,?_⟩
 conv=>whnf
 obtain ⟨e1273,he1273,h⟩:=idxn_some h
 refine ⟨_,⟨(by omega),map_at he1273,rfl⟩,?_⟩
 conv=>whnf
 refine Both.mk ?_ ?_<;>intro b1274
 obtain ⟨h,b1274d⟩:=ctd b1274 h
 conv=>whnf
 obtain ⟨e1275,he1275,h⟩:=idxn_some h
 refine Side.mk ⟨(by omega),rfl,map_lt he1275⟩ ?_
 conv=>whnf
 refine Side.mk rfl ?_
 conv=>whnf
 refine ⟨_,_,⟨rfl,map_at he1275,rfl,rfl⟩,?_⟩
 conv=>whnf
 obtain ⟨c1276,hc1276,h⟩:=bind_some h
 refine ⟨_,(sp_word_Join [e1275.word,[(↑y1236:Int)]] c1276 (fun _=>hc1276)),?_⟩
 conv=>whnf
 cases h
 have ho1268:_=_:=ho1268
 cases ho1268
 replace h:some _=some _:=hk1105
 cases h
 have ho1102:_=_:=ho1102
 cases ho1102
 replace h:some _=some _:=hk87
 cases h
 conv=>whnf
 exact ⟨rfl,rfl⟩
 obtain ⟨h,b1274d⟩:=cfd b1274 h
 conv=>whnf
 refine Side.mk rfl ?_
 conv=>whnf
 refine Side.mk rfl ?_
 conv=>whnf
 obtain ⟨e1277,he1277z,he1277,h⟩:=idx_some h
 refine ⟨_,⟨he1277z,map_at he1277,rfl⟩,?_⟩
 conv=>whnf
 obtain ⟨e1278,he1278,h⟩:=idxn_some h
 refine ⟨_,⟨(by omega),map_at he1278,rfl⟩,?_⟩
 conv=>whnf
 refine Side.mk rfl ?_
 conv=>whnf
 refine Side.mk rfl ?_
 conv=>whnf
 obtain ⟨e1279,he1279z,he1279,h⟩:=idx_some h
 refine ⟨_,⟨he1279z,map_at he1279,rfl⟩,?_⟩
 conv=>whnf
 obtain ⟨e1280,he1280,h⟩:=idxn_some h
 refine ⟨_,⟨(by omega),map_at he1280,rfl⟩,?_⟩
 conv=>whnf
 refine Side.mk rfl ?_
 conv=>whnf
 obtain ⟨y1286,hc,hk1282⟩:=bind_some h
 clear h
 have h:=hc
 clear hc
 refine Cut.mk (mkSt [(3,.im (.ref (c_api_Mealy a_))),(4,.im (.ref (c_api_Mealy b_))),(8,.osl 144 1),(10,.osl 145 1),(11,.im (nI (↑i900:Int))),(12,.own 146 1 0),(13,.im (nI (↑y1236:Int))),(14,.own 147 1 0),(55,.im (nI a_.Inputs)),(56,.im (nI (↑y1236:Int))),(120,.im (nB y1286))] [(144,.grid 81 4 1 (List.map (cL cB) y1234) none),(145,.row 178 3 (List.map c_equiv_place y1235)),(146,.box 164 2),(147,.box 164 2)] [(146,0,.im (nI e1104.at_.s)),(146,1,.im (nI e1104.at_.t)),(147,0,.im (nI e1278)),(147,1,.im (nI e1280))]) (lZ y1234∧lZ y1235∧True) ((Holds.kdg 144 rfl).and ((Holds.kdl 145 rfl).and (hT))) ?_ (fun hp=>?_)
 conv=>whnf
 refine Side.mk rfl ?_
 conv=>whnf
 refine Side.mk rfl ?_
 conv=>whnf
 refine Side.mk (by kernel_rfl) ?_
 conv=>whnf
 refine Nf.mk (decide (e1278=e1104.at_.s)&&(decide (e1280=e1104.at_.t)&&true)) rfl ?_
 conv=>whnf
 refine Both.mk ?_ ?_<;>intro b1287
 replace b1287:=beq_tt b1287
 replace h:=cond_t b1287 h
 conv=>whnf
 refine Both.yes (tt_beq b1287) ?_
 conv=>whnf
 refine Side.mk rfl ?_
 conv=>whnf
 refine Both.yes (tt_beq b1287) ?_
 conv=>whnf
 refine Side.mk rfl ?_
 conv=>whnf
 refine Both.yes (tt_beq b1287) ?_
 conv=>whnf
 obtain ⟨e1288,he1288z,he1288,h⟩:=idx_some h
 refine Side.mk ⟨he1288z,rfl,map_lt he1288⟩ ?_
 conv=>whnf
 refine Both.yes (tt_beq b1287) ?_
 conv=>whnf
 refine Side.mk ⟨rfl,map_lt he1288⟩ ?_
 conv=>whnf
 refine Both.yes (tt_beq b1287) ?_
 conv=>whnf
 refine Side.mk rfl ?_
 conv=>whnf
 refine Both.yes (tt_beq b1287) ?_
 conv=>whnf
 refine Side.mk rfl ?_
 conv=>whnf
 refine Both.yes (tt_beq b1287) ?_
 conv=>whnf
 obtain ⟨e1289,he1289z,he1289,h⟩:=idx_some h
 refine ⟨_,⟨he1289z,rfl,map_at he1288,map_lt he1289⟩,?_⟩
 conv=>whnf
 refine Both.yes (tt_beq b1287) ?_
 conv=>whnf
 refine ⟨_,_,_,⟨rfl,map_at he1288,map_at he1289,rfl⟩,?_⟩
 conv=>whnf
 refine Both.yes (tt_beq b1287) ?_
 conv=>whnf
 refine Both.yes b1287 ?_
 conv=>whnf
 cases h
 exact Join.mk (eA [(144,some 144),(145,some 145),(146,some 146),(147,some 14)])
 replace b1287:=beq_tf b1287
 replace h:=cond_f b1287 h
 conv=>whnf
 iterate 9 (refine Both.no (ft_beq b1287) ?_;(conv=>whnf))
 refine Both.no b1287 ?_
 conv=>whnf
 cases h
 exact Join.mk (eA [(144,some 144),(145,some 145),(146,some 146),(147,some 14)])
 replace h:=hk1282
 obtain ⟨z1290,z1291,_⟩:=hp
 conv=>whnf
 refine Both.mk ?_ ?_<;>intro b1292
 replace h:=cond_t b1292 h
 conv=>whnf
 refine Side.mk rfl ?_
 conv=>whnf
 refine Side.mk rfl ?_
 conv=>whnf
 obtain ⟨e1293,he1293z,he1293,h⟩:=idx_some h
 refine Side.mk ⟨he1293z,rfl,map_lt he1293⟩ ?_
 conv=>whnf
 refine Side.mk ⟨rfl,map_lt he1293⟩ ?_
 conv=>whnf
 refine Side.mk rfl ?_
 conv=>whnf
 refine Side.mk rfl ?_
 conv=>whnf
 obtain ⟨e1294,he1294z,he1294,h⟩:=idx_some h
 refine ⟨_,⟨he1294z,rfl,map_at he1293,map_lt he1294⟩,?_⟩
 conv=>whnf
 refine ⟨_,_,⟨rfl,map_at he1293,map_at he1294⟩,?_⟩
 conv=>whnf
 refine Nf.mk (List.map (cL cB) (List.set y1234 (Int.toNat e1278) (List.set e1293 (Int.toNat e1280) true))) (set_grid2 rfl) ?_
 conv=>whnf
 refine Side.mk rfl ?_
 conv=>whnf
 obtain ⟨e1295,he1295,h⟩:=idxn_some h
 refine Side.mk ⟨(by omega),rfl,map_lt he1295⟩ ?_
 conv=>whnf
 refine Side.mk rfl ?_
 conv=>whnf
 refine ⟨_,_,⟨rfl,map_at he1295,rfl,rfl⟩,?_⟩
 conv=>whnf
 obtain ⟨c1296,hc1296,h⟩:=bind_some h
 refine ⟨_,(sp_word_Join [e1295.word,[(↑y1236:Int)]] c1296 (fun _=>hc1296)),?_⟩
 conv=>whnf
 obtain ⟨c1297,h⟩:=chk_some h
 refine Side.mk ⟨rfl,map_len (l:=[(⟨(⟨e1278,e1280⟩:T_equiv_pair),c1296⟩:T_equiv_place)]) (c:=c_equiv_place) fun _=>rfl,show capOk _ 40 by simpa only [List.length_map,List.length_cons,List.length_nil,Nat.zero_add] using c1297⟩ ?_
 conv=>whnf
 refine Nf.mk (List.map c_equiv_place (y1235++[(⟨(⟨e1278,e1280⟩:T_equiv_pair),c1296⟩:T_equiv_place)])) (app_map (l:=y1235) (m:=[(⟨(⟨e1278,e1280⟩:T_equiv_pair),c1296⟩:T_equiv_place)]) (c:=c_equiv_place)) ?_
 conv=>whnf
 obtain ⟨c1298,h⟩:=chk_some h
 refine Arith.mk c1298 ?_
 conv=>whnf
 cases h
 exact Nxt.mk _ ho1268 (eA [(144,some 144),(145,some 145),(146,some 146)])
 replace h:=cond_f b1292 h
 conv=>whnf
 obtain ⟨c1299,h⟩:=chk_some h
 refine Arith.mk c1299 ?_
 conv=>whnf
 cases h
 exact Nxt.mk _ ho1268 (eA [(144,some 144),(145,some 145),(146,some 146)])
 obtain ⟨h,b1269d⟩:=cfd b1269 h
 conv=>whnf
 cases h
 have ho1268:_=_:=ho1268
 cases ho1268
 exact JoinS.mk' _ rfl (eA [(144,some 144),(145,some 145)])
 rintro ⟨y1203,y1204⟩ rfl hp
 have hx_:=sum_inl hk1105
 replace h:equiv_search.k21 i900 y1203 y1204=some _:=hx_
 clear hx_
 unfold equiv_search.k21 at h
 obtain ⟨z1302,z1303,_⟩:=hp
 conv=>whnf
 refine Arith.mk (by show inR _;unfold inR;omega) ?_
 conv=>whnf
 cases h
 exact Nxt.mk _ ho1102 (eA [(144,some 144),(145,some 145)])
 obtain ⟨h,b1103d⟩:=cfd b1103 h
 conv=>whnf
 cases h
 have ho1102:_=_:=ho1102
 cases ho1102
 exact JoinS.mk' _ rfl (eA [])
 rintro ⟨⟩ rfl hp
 replace h:=sum_inl hk87
 conv=>whnf
 cases h
 conv=>whnf
 exact ⟨rfl,rfl⟩
theorem sp_equiv_States (m_:T_api_Mealy) (s_:Int) (t_:Int) (r:List Int×Bool×Int) (h:Ok (.agg (c_api_Mealy m_))→Ok (nI s_)→Ok (nI t_)→equiv_States m_ s_ t_=some r):Sp Tryz.prog 93 [.im (.agg (c_api_Mealy m_)),.im (nI s_),.im (nI t_)] (.tup [nL cI r.1,nB r.2.1,nI r.2.2]):=by
 refine sp_of rfl [700003] rfl rfl rfl (Nat.le_of_ble_eq_true rfl) rfl fun hk=>?_
 replace h:=h hk.1 hk.2.1 hk.2.2.1
 have z1:lZ m_.Next:=ok_len (Ok.agg_at hk.1 2 rfl)
 have z2:lZ m_.Out:=ok_len (Ok.agg_at hk.1 3 rfl)
 unfold equiv_States at h
 conv=>whnf
 obtain ⟨c51,hc51,h⟩:=bind_some h
 refine ⟨_,(sp_mealy_Valid m_ c51 (fun _=>hc51)),?_⟩
 conv=>whnf
 refine Both.mk ?_ ?_<;>intro b52
 obtain ⟨h,b52d⟩:=ctd b52 h
 conv=>whnf
 cases h
 conv=>whnf
 exact ⟨rfl,rfl⟩
 obtain ⟨h,b52d⟩:=cfd b52 h
 conv=>whnf
 obtain ⟨y58,hc,hk54⟩:=bind_some h
 clear h
 have h:=hc
 clear hc
 refine Cut.mk (mkSt [(1,.im (nI s_)),(2,.im (nI t_)),(3,.im (.ref (c_api_Mealy m_))),(36,.im (nB y58))] [] []) (True) (hT) ?_ (fun hp=>?_)
 conv=>whnf
 refine Both.mk ?_ ?_<;>intro b59
 replace b59:=beq_ff b59
 obtain ⟨h,b59d⟩:=cfd b59 h
 conv=>whnf
 iterate 3 (refine Both.yes (ff_beq b59) ?_;(conv=>whnf))
 refine Nf.mk (List.length m_.Next) len_map ?_
 conv=>whnf
 refine Both.yes (ff_beq b59) ?_
 conv=>whnf
 refine Both.no b59 ?_
 conv=>whnf
 refine Both.mk ?_ ?_<;>intro b60
 replace b60:=beq_ff b60
 obtain ⟨h,b60d⟩:=cfd b60 h
 conv=>whnf
 refine Both.yes (ff_beq b60) ?_
 conv=>whnf
 refine Both.no b60 ?_
 conv=>whnf
 refine Both.mk ?_ ?_<;>intro b61
 replace b61:=beq_ff b61
 obtain ⟨h,b61d⟩:=cfd b61 h
 conv=>whnf
 iterate 3 (refine Both.yes (ff_beq b61) ?_;(conv=>whnf))
 refine Nf.mk (List.length m_.Next) len_map ?_
 conv=>whnf
 refine Both.yes (ff_beq b61) ?_
 conv=>whnf
 refine Both.no b61 ?_
 conv=>whnf
 cases h
 exact Join.mk (eA [])
 replace b61:=beq_ft b61
 obtain ⟨h,b61d⟩:=ctd b61 h
 conv=>whnf
 iterate 4 (refine Both.no (tf_beq b61) ?_;(conv=>whnf))
 refine Both.yes b61 ?_
 conv=>whnf
 cases h
 exact Join.mk (eA [])
 replace b60:=beq_ft b60
 obtain ⟨h,b60d⟩:=ctd b60 h
 conv=>whnf
 refine Both.no (tf_beq b60) ?_
 conv=>whnf
 refine Both.yes b60 ?_
 conv=>whnf
 iterate 5 (refine Both.no rfl ?_;(conv=>whnf))
 refine Both.yes rfl ?_
 conv=>whnf
 cases h
 exact Join.mk (eA [])
 replace b59:=beq_ft b59
 obtain ⟨h,b59d⟩:=ctd b59 h
 conv=>whnf
 iterate 4 (refine Both.no (tf_beq b59) ?_;(conv=>whnf))
 refine Both.yes b59 ?_
 conv=>whnf
 iterate 2 (refine Both.no rfl ?_;(conv=>whnf))
 refine Both.yes rfl ?_
 conv=>whnf
 iterate 5 (refine Both.no rfl ?_;(conv=>whnf))
 refine Both.yes rfl ?_
 conv=>whnf
 cases h
 exact Join.mk (eA [])
 replace h:=hk54
 conv=>whnf
 refine Both.mk ?_ ?_<;>intro b62
 replace h:=cond_t b62 h
 conv=>whnf
 cases h
 conv=>whnf
 exact ⟨rfl,rfl⟩
 replace h:=cond_f b62 h
 conv=>whnf
 obtain ⟨c63,hc63,h⟩:=bind_some h
 refine ⟨_,(sp_equiv_search m_ m_ (⟨s_,t_⟩:T_equiv_pair) c63 (fun _ _ _=>hc63)),?_⟩
 conv=>whnf
 cases h
 conv=>whnf
 exact ⟨rfl,rfl⟩
theorem sp_separate_Charset (m_:T_api_Mealy) (r:List (List Int)×Int) (h:Ok (.agg (c_api_Mealy m_))→separate_Charset m_=some r):Sp Tryz.prog 55 [.im (.agg (c_api_Mealy m_))] (.tup [nL (cL cI) r.1,nI r.2]):=by
 refine sp_of rfl [500035,700001] rfl rfl rfl (Nat.le_of_ble_eq_true rfl) rfl fun hk=>?_
 replace h:=h hk.1
 have z1:lZ m_.Next:=ok_len (Ok.agg_at hk.1 2 rfl)
 have z2:lZ m_.Out:=ok_len (Ok.agg_at hk.1 3 rfl)
 unfold separate_Charset at h
 conv=>whnf
 obtain ⟨c51,hc51,h⟩:=bind_some h
 refine ⟨_,(sp_separate_check m_ c51 (fun _=>hc51)),?_⟩
 conv=>whnf
 refine Both.mk ?_ ?_<;>intro b52
 obtain ⟨h,b52d⟩:=ctd b52 h
 conv=>whnf
 cases h
 conv=>whnf
 exact ⟨rfl,rfl⟩
 obtain ⟨h,b52d⟩:=cfd b52 h
 conv=>whnf
 refine Nf.mk (List.length m_.Next) len_map ?_
 conv=>whnf
 obtain ⟨oc,hc,hk53⟩:=bind_some h
 clear h
 have h:=hc
 clear hc
 refine Cut.mkS oc (Y:=List (List Int)) (fun y342=>mkSt [(5,.osl 64 1)] [(64,.row 60 1 (List.map (cL cI) y342))] []) (fun y342=>lZ y342∧True) (by rintro y342;exact ((Holds.kdl 64 rfl).and (hT))) ?_ ?_
 conv=>whnf
 refine Loops.iter (fun (s:List (List Int)×Nat)=>separate_Charset.s14 m_ s.1 s.2) (fun (y435,y436)=>mkSt [(1,.im (.ref (c_api_Mealy m_))),(5,.osl 64 1),(18,.im (nI (↑(List.length m_.Next):Int))),(19,.im (nI (↑y436:Int)))] [(64,.row 60 1 (List.map (cL cI) y435))] []) (fun (y435,y436)=>lZ y435∧True) h (eA [(64,none)]) (by rintro ⟨y435,y436⟩;exact ((Holds.kdl 64 rfl).and (hT))) ?_
 clear h
 rintro k ⟨y435,y436⟩ o hp h ho533
 replace h:separate_Charset.s14 m_ y435 y436=some o:=h
 unfold separate_Charset.s14 at h
 obtain ⟨z630,_⟩:=hp
 conv=>whnf
 refine Both.mk ?_ ?_<;>intro b534
 obtain ⟨h,b534d⟩:=ctd b534 h
 conv=>whnf
 refine Arith.mk (by show inR _;unfold inR;omega) ?_
 conv=>whnf
 obtain ⟨oc,hc,hk535⟩:=bind_some h
 clear h
 have h:=hc
 clear hc
 refine Cut.mkS oc (Y:=List (List Int)) (fun y582=>mkSt [(1,.im (.ref (c_api_Mealy m_))),(5,.osl 64 1),(18,.im (nI (↑(List.length m_.Next):Int))),(19,.im (nI (↑y436:Int)))] [(64,.row 60 1 (List.map (cL cI) y582))] []) (fun y582=>lZ y582∧True) (by rintro y582;exact ((Holds.kdl 64 rfl).and (hT))) ?_ ?_
 conv=>whnf
 refine Loops.iter (fun (s:List (List Int)×Nat)=>separate_Charset.s13 m_ y436 s.1 s.2) (fun (y597,t598)=>mkSt [(1,.im (.ref (c_api_Mealy m_))),(5,.osl 64 1),(6,.im (nI (↑y436:Int))),(7,.im (nI (↑t598:Int))),(18,.im (nI (↑(List.length m_.Next):Int))),(19,.im (nI (↑y436:Int)))] [(64,.row 60 1 (List.map (cL cI) y597))] []) (fun (y597,t598)=>lZ y597∧True) h (eA [(64,some 64)]) (by rintro ⟨y597,t598⟩;exact ((Holds.kdl 64 rfl).and (hT))) ?_
 clear h
 rintro k ⟨y597,t598⟩ o hp h ho613
 replace h:separate_Charset.s13 m_ y436 y597 t598=some o:=h
 unfold separate_Charset.s13 at h
 obtain ⟨z628,_⟩:=hp
 conv=>whnf
 refine Nf.mk (List.length m_.Next) len_map ?_
 conv=>whnf
 refine Both.mk ?_ ?_<;>intro b614
 obtain ⟨h,b614d⟩:=ctd b614 h
 conv=>whnf
 obtain ⟨oc,hc,hk615⟩:=bind_some h
 clear h
 have h:=hc
 clear hc
 refine Cut.mkS oc (Y:=List (List Int)) (fun y621=>mkSt [(1,.im (.ref (c_api_Mealy m_))),(5,.osl 64 1),(6,.im (nI (↑y436:Int))),(7,.im (nI (↑t598:Int))),(18,.im (nI (↑(List.length m_.Next):Int))),(19,.im (nI (↑y436:Int)))] [(64,.row 60 1 (List.map (cL cI) y621))] []) (fun y621=>lZ y621∧True) (by rintro y621;exact ((Holds.kdl 64 rfl).and (hT))) ?_ ?_
 conv=>whnf
 refine Side.mk ⟨rfl,trivial⟩ ?_
 conv=>whnf
 obtain ⟨c622,hc622,h⟩:=bind_some h
 refine ⟨_,(sp_separate_separated m_ y597 (↑y436:Int) (↑t598:Int) c622 (fun _ _ _ _=>hc622)),?_⟩
 conv=>whnf
 refine Side.mk flat_one ?_
 conv=>whnf
 refine Both.mk ?_ ?_<;>intro b623
 replace h:=cond_t b623 h
 conv=>whnf
 cases h
 exact JoinS.mk' _ rfl (eA [(64,some 64)])
 replace h:=cond_f b623 h
 conv=>whnf
 obtain ⟨c624,hc624,h⟩:=bind_some h
 refine ⟨_,(sp_equiv_States m_ (↑y436:Int) (↑t598:Int) c624 (fun _ _ _=>hc624)),?_⟩
 conv=>whnf
 refine Both.mk ?_ ?_<;>intro b625
 obtain ⟨h,b625d⟩:=ctd b625 h
 conv=>whnf
 cases h
 replace h:some _=some _:=hk615
 cases h
 have ho613:_=_:=ho613
 cases ho613
 replace h:some _=some _:=hk535
 cases h
 have ho533:_=_:=ho533
 cases ho533
 replace h:some _=some _:=hk53
 cases h
 conv=>whnf
 exact ⟨rfl,rfl⟩
 obtain ⟨h,b625d⟩:=cfd b625 h
 conv=>whnf
 obtain ⟨c626,h⟩:=chk_some h
 refine Side.mk ⟨rfl,map_len (l:=[c624.1]) (c:=cL cI) fun _=>rfl,show capOk _ 24 by simpa only [List.length_map,List.length_cons,List.length_nil,Nat.zero_add] using c626⟩ ?_
 conv=>whnf
 refine Nf.mk (List.map (cL cI) (y597++[c624.1])) (app_map (l:=y597) (m:=[c624.1]) (c:=cL cI)) ?_
 conv=>whnf
 cases h
 exact JoinS.mk' _ rfl (eA [(64,some 64)])
 rintro y621 rfl hp
 replace h:=sum_inl hk615
 obtain ⟨z627,_⟩:=hp
 conv=>whnf
 refine Arith.mk (by show inR _;unfold inR;omega) ?_
 conv=>whnf
 cases h
 exact Nxt.mk _ ho613 (eA [(64,some 64)])
 obtain ⟨h,b614d⟩:=cfd b614 h
 conv=>whnf
 cases h
 have ho613:_=_:=ho613
 cases ho613
 exact JoinS.mk' _ rfl (eA [(64,some 64)])
 rintro y582 rfl hp
 replace h:=sum_inl hk535
 obtain ⟨z629,_⟩:=hp
 conv=>whnf
 refine Arith.mk (by show inR _;unfold inR;omega) ?_
 conv=>whnf
 cases h
 exact Nxt.mk _ ho533 (eA [(64,some 64)])
 obtain ⟨h,b534d⟩:=cfd b534 h
 conv=>whnf
 cases h
 have ho533:_=_:=ho533
 cases ho533
 exact JoinS.mk' _ rfl (eA [(64,some 64)])
 rintro y342 rfl hp
 replace h:=sum_inl hk53
 obtain ⟨z631,_⟩:=hp
 conv=>whnf
 refine Side.mk ⟨rfl,trivial⟩ ?_
 conv=>whnf
 obtain ⟨c632,hc632,h⟩:=bind_some h
 refine ⟨_,(sp_wordset_Sorted y342 c632 (fun _=>hc632)).im,?_⟩
 conv=>whnf
 cases h
 conv=>whnf
 exact ⟨rfl,rfl⟩
theorem sp_evidence_access (p_:T_api_Part) (r:List (List Int)) (h:Ok (.agg (c_api_Part p_))→evidence_access p_=some r):Sp Tryz.prog 56 [.im (.agg (c_api_Part p_))] (.im (nL (cL cI) r)):=by
 refine sp_of rfl [18,21,51,64,700001,9500015,9600011,9600079,9700011] rfl rfl rfl (Nat.le_of_ble_eq_true rfl) rfl fun hk=>?_
 replace h:=h hk.1
 have z1:lZ p_.Next:=ok_len (Ok.agg_at hk.1 2 rfl)
 have z2:lZ p_.Out:=ok_len (Ok.agg_at hk.1 3 rfl)
 unfold evidence_access at h
 conv=>whnf
 refine Nf.mk (List.length p_.Next) len_map ?_
 conv=>whnf
 obtain ⟨c51,h⟩:=chk_some h
 refine Side.mk c51 ?_
 conv=>whnf
 refine Nf.mk (List.map (cO cI) (List.replicate (List.length p_.Next) (none:Option (List Int)))) (rep_map (c:=(cO cI)) (z:=(none:Option (List Int))) (n:=(List.length p_.Next)) rfl rfl) ?_
 conv=>whnf
 obtain ⟨e52,he52z,he52,h⟩:=idx_some h
 refine Side.mk ⟨he52z,rfl,map_lt he52⟩ ?_
 conv=>whnf
 refine Side.mk ⟨rfl,trivial⟩ ?_
 conv=>whnf
 refine ⟨_,map_at he52,?_⟩
 conv=>whnf
 refine Nf.mk (List.map (cO cI) (List.set (List.replicate (List.length p_.Next) (none:Option (List Int))) p_.Start.toNat (some ([]:List Int)))) (set_map rfl) ?_
 conv=>whnf
 obtain ⟨y598,hc,hk53⟩:=bind_some h
 clear h
 have h:=hc
 clear hc
 refine Cut.mk (mkSt [(4,.osl 79 1)] [(79,.row 60 1 (List.map (cL cI) y598))] []) (lZ y598∧True) ((Holds.kdl 79 rfl).and (hT)) ?_ (fun hp=>?_)
 conv=>whnf
 refine Loops.iter (fun (s:List (Option (List Int))×List (List Int)×List Int)=>evidence_access.s20 p_ s.1 s.2.1 s.2.2) (fun (y778,y779,y780)=>mkSt [(1,.im (.ref (c_api_Part p_))),(3,.osl 79 1),(4,.osl 80 1),(5,.osl 81 1)] [(79,.row 60 1 (List.map (cO cI) y778)),(80,.row 60 1 (List.map (cL cI) y779)),(81,.que 3 1 (List.map cI y780))] []) (fun (y778,y779,y780)=>lZ y778∧lZ y779∧lZ y780∧True) h ((Ent.que 21 rfl).trans (eA [(79,some 11),(80,some 18),(81,some 21)])) (by rintro ⟨y778,y779,y780⟩;exact ((Holds.kdl 79 rfl).and ((Holds.kdl 80 rfl).and ((Holds.kdql 81 rfl).and (hT))))) ?_
 clear h
 rintro k ⟨y778,y779,y780⟩ o hp h ho960
 replace h:evidence_access.s20 p_ y778 y779 y780=some o:=h
 unfold evidence_access.s20 at h
 obtain ⟨z1140,z1141,z1142,_⟩:=hp
 conv=>whnf
 refine Side.mk rfl ?_
 conv=>whnf
 refine Nf.mk (List.length y780) len_map ?_
 conv=>whnf
 refine Both.mk ?_ ?_<;>intro b961
 obtain ⟨h,b961d⟩:=ctd b961 h
 conv=>whnf
 obtain ⟨e962,he962,h⟩:=idxn_some h
 refine Side.mk ⟨(by omega),rfl,map_lt he962⟩ ?_
 conv=>whnf
 refine ⟨_,_,⟨rfl,map_at he962,rfl,rfl⟩,?_⟩
 conv=>whnf
 obtain ⟨e963,he963z,he963,h⟩:=idx_some h
 refine ⟨_,⟨he963z,map_at he963,rfl⟩,?_⟩
 conv=>whnf
 refine Nf.mk (List.length e963) len_map ?_
 conv=>whnf
 obtain ⟨⟨y1049,y1050,y1051⟩,hc,hk964⟩:=bind_some h
 clear h
 have h:=hc
 clear hc
 refine Cut.mk (mkSt [(1,.im (.ref (c_api_Part p_))),(3,.osl 79 1),(4,.osl 80 1),(5,.osl 81 1)] [(79,.row 60 1 (List.map (cO cI) y1049)),(80,.row 60 1 (List.map (cL cI) y1050)),(81,.que 3 1 (List.map cI y1051))] []) (lZ y1049∧lZ y1050∧lZ y1051∧True) ((Holds.kdl 79 rfl).and ((Holds.kdl 80 rfl).and ((Holds.kdql 81 rfl).and (hT)))) ?_ (fun hp=>?_)
 conv=>whnf
 refine Loops.iter (fun (s:List (Option (List Int))×List (List Int)×List Int×Nat)=>evidence_access.s18 e963 s.1 s.2.1 s.2.2.1 s.2.2.2) (fun (y1077,y1078,y1079,y1080)=>mkSt [(1,.im (.ref (c_api_Part p_))),(3,.osl 79 1),(4,.osl 80 1),(5,.osl 81 1),(33,.im (nL cI e963)),(34,.im (nI (↑(List.length e963):Int))),(35,.im (nI (↑y1080:Int)))] [(79,.row 60 1 (List.map (cO cI) y1077)),(80,.row 60 1 (List.map (cL cI) y1078)),(81,.que 3 1 (List.map cI y1079))] []) (fun (y1077,y1078,y1079,y1080)=>lZ e963∧lZ y1077∧lZ y1078∧lZ y1079∧True) h (eA [(79,some 79),(80,some 80),(81,some 81)]) (by rintro ⟨y1077,y1078,y1079,y1080⟩;exact ((Holds.avl 33 rfl).and ((Holds.kdl 79 rfl).and ((Holds.kdl 80 rfl).and ((Holds.kdql 81 rfl).and (hT)))))) ?_
 clear h
 rintro k ⟨y1077,y1078,y1079,y1080⟩ o hp h ho1106
 replace h:evidence_access.s18 e963 y1077 y1078 y1079 y1080=some o:=h
 unfold evidence_access.s18 at h
 obtain ⟨z1132,z1133,z1134,z1135,_⟩:=hp
 conv=>whnf
 refine Both.mk ?_ ?_<;>intro b1107
 obtain ⟨h,b1107d⟩:=ctd b1107 h
 conv=>whnf
 obtain ⟨e1108,he1108,h⟩:=idxn_some h
 refine ⟨_,⟨(by omega),map_at he1108,rfl⟩,?_⟩
 conv=>whnf
 obtain ⟨y1113,hc,hk1110⟩:=bind_some h
 clear h
 have h:=hc
 clear hc
 refine Cut.mk (mkSt [(1,.im (.ref (c_api_Part p_))),(3,.osl 79 1),(4,.osl 80 1),(5,.osl 81 1),(6,.im (nI (↑y1080:Int))),(7,.im (nI e1108)),(33,.im (nL cI e963)),(34,.im (nI (↑(List.length e963):Int))),(35,.im (nI (↑y1080:Int))),(48,.im (nB y1113))] [(79,.row 60 1 (List.map (cO cI) y1077)),(80,.row 60 1 (List.map (cL cI) y1078)),(81,.que 3 1 (List.map cI y1079))] []) (lZ e963∧lZ y1077∧lZ y1078∧lZ y1079∧True) ((Holds.avl 33 rfl).and ((Holds.kdl 79 rfl).and ((Holds.kdl 80 rfl).and ((Holds.kdql 81 rfl).and (hT))))) ?_ (fun hp=>?_)
 conv=>whnf
 refine Both.mk ?_ ?_<;>intro b1114
 replace b1114:=beq_tt b1114
 obtain ⟨h,b1114d⟩:=ctd b1114 h
 conv=>whnf
 iterate 2 (refine Both.yes (tt_beq b1114) ?_;(conv=>whnf))
 obtain ⟨e1115,he1115z,he1115,h⟩:=idx_some h
 refine Side.mk ⟨he1115z,rfl,map_lt he1115⟩ ?_
 conv=>whnf
 refine Both.yes (tt_beq b1114) ?_
 conv=>whnf
 refine ⟨_,_,⟨rfl,map_at he1115,rfl,rfl⟩,?_⟩
 conv=>whnf
 refine Both.yes (tt_beq b1114) ?_
 conv=>whnf
 refine ⟨_,nilS_oN _,?_⟩
 conv=>whnf
 refine Both.yes b1114 ?_
 conv=>whnf
 cases h
 exact Join.mk (eA [(79,some 79),(80,some 80),(81,some 81)])
 replace b1114:=beq_tf b1114
 obtain ⟨h,b1114d⟩:=cfd b1114 h
 conv=>whnf
 iterate 4 (refine Both.no (ft_beq b1114) ?_;(conv=>whnf))
 refine Both.no b1114 ?_
 conv=>whnf
 cases h
 exact Join.mk (eA [(79,some 79),(80,some 80),(81,some 81)])
 replace h:=hk1110
 obtain ⟨z1116,z1117,z1118,z1119,_⟩:=hp
 conv=>whnf
 refine Both.mk ?_ ?_<;>intro b1120
 replace h:=cond_t b1120 h
 conv=>whnf
 obtain ⟨e1121,he1121,h⟩:=idxn_some h
 refine Side.mk ⟨(by omega),rfl,map_lt he1121⟩ ?_
 conv=>whnf
 refine ⟨_,_,⟨rfl,map_at he1121,rfl,rfl⟩,?_⟩
 conv=>whnf
 obtain ⟨e1122,he1122z,he1122,h⟩:=idx_some h
 refine Side.mk ⟨he1122z,rfl,map_lt he1122⟩ ?_
 conv=>whnf
 obtain ⟨e1123,he1123,h⟩:=bind_some h
 subst he1123
 refine ⟨_,_,⟨rfl,map_at he1122,rfl,rfl⟩,?_⟩
 conv=>whnf
 obtain ⟨c1124,h⟩:=chk_some h
 refine Side.mk ⟨rfl,map_len (l:=e1123) (c:=cI) fun _=>rfl,show capOk _ 8 by simpa only [List.length_map,List.length_cons,List.length_nil,Nat.zero_add] using c1124⟩ ?_
 conv=>whnf
 refine Nf.mk (List.map cI ([]++e1123)) (app_map (l:=[]) (m:=e1123) (c:=cI)) ?_
 conv=>whnf
 obtain ⟨c1125,h⟩:=chk_some h
 refine Side.mk ⟨rfl,map_len (l:=[(↑y1080:Int)]) (c:=cI) fun _=>rfl,show capOk _ 8 by simpa only [List.length_map,List.length_cons,List.length_nil,Nat.zero_add] using c1125⟩ ?_
 conv=>whnf
 refine Nf.mk (List.map cI (([]++e1123)++[(↑y1080:Int)])) (app_map (l:=([]++e1123)) (m:=[(↑y1080:Int)]) (c:=cI)) ?_
 conv=>whnf
 obtain ⟨e1126,he1126z,he1126,h⟩:=idx_some h
 refine Side.mk ⟨he1126z,rfl,map_lt he1126⟩ ?_
 conv=>whnf
 refine Side.mk ⟨rfl,rfl,trivial⟩ ?_
 conv=>whnf
 refine ⟨_,map_at he1126,?_⟩
 conv=>whnf
 refine Side.mk (by simp) ?_
 conv=>whnf
 refine Nf.mk (List.map (cO cI) (List.set y1077 e1108.toNat (some (([]++e1123)++[(↑y1080:Int)])))) (set_map rfl) ?_
 conv=>whnf
 obtain ⟨e1127,he1127z,he1127,h⟩:=idx_some h
 refine Side.mk ⟨he1127z,rfl,map_lt he1127⟩ ?_
 conv=>whnf
 obtain ⟨e1128,he1128,h⟩:=bind_some h
 subst he1128
 refine ⟨_,_,⟨rfl,map_at he1127,rfl,rfl⟩,?_⟩
 conv=>whnf
 obtain ⟨c1129,h⟩:=chk_some h
 refine Side.mk ⟨rfl,map_len (l:=e1128) (c:=cI) fun _=>rfl,show capOk _ 8 by simpa only [List.length_map,List.length_cons,List.length_nil,Nat.zero_add] using c1129⟩ ?_
 conv=>whnf
 refine Nf.mk (List.map cI ([]++e1128)) (app_map (l:=[]) (m:=e1128) (c:=cI)) ?_
 conv=>whnf
 refine Side.mk ⟨rfl,trivial⟩ ?_
 conv=>whnf
 obtain ⟨c1130,h⟩:=chk_some h
 refine Side.mk ⟨rfl,map_len (l:=[([]++e1128)]) (c:=cL cI) fun _=>rfl,show capOk _ 24 by simpa only [List.length_map,List.length_cons,List.length_nil,Nat.zero_add] using c1130⟩ ?_
 conv=>whnf
 refine Nf.mk (List.map (cL cI) (y1078++[([]++e1128)])) (app_map (l:=y1078) (m:=[([]++e1128)]) (c:=cL cI)) ?_
 conv=>whnf
 obtain ⟨c1131,h⟩:=chk_some h
 refine Side.mk ⟨rfl,Nat.succ_pos _,map_len (l:=[e1108]) (c:=cI) fun _=>rfl,show capOk _ 8 by simpa only [List.length_map,List.length_cons,List.length_nil,Nat.zero_add] using c1131⟩ ?_
 conv=>whnf
 refine Nf.mk (List.map cI (y1079++[e1108])) (app_map (l:=y1079) (m:=[e1108]) (c:=cI)) ?_
 conv=>whnf
 refine Arith.mk (by show inR _;unfold inR;omega) ?_
 conv=>whnf
 cases h
 exact Nxt.mk _ ho1106 (eA [(79,some 79),(80,some 80),(81,some 81)])
 replace h:=cond_f b1120 h
 conv=>whnf
 refine Arith.mk (by show inR _;unfold inR;omega) ?_
 conv=>whnf
 cases h
 exact Nxt.mk _ ho1106 (eA [(79,some 79),(80,some 80),(81,some 81)])
 obtain ⟨h,b1107d⟩:=cfd b1107 h
 conv=>whnf
 cases h
 have ho1106:_=_:=ho1106
 cases ho1106
 exact Join.mk (eA [(79,some 79),(80,some 80),(81,some 81)])
 replace h:evidence_access.k19 y1049 y1050 y1051=some _:=hk964
 unfold evidence_access.k19 at h
 obtain ⟨z1136,z1137,z1138,_⟩:=hp
 conv=>whnf
 obtain ⟨c1139,h⟩:=chk_some h
 refine Side.mk ⟨rfl,by decide,by have hh_:=c1139;simp only [List.length_map];exact hh_⟩ ?_
 conv=>whnf
 refine Nf.mk (List.map cI (List.drop 1 y1051)) List.map_drop ?_
 conv=>whnf
 cases h
 exact Nxt.mk _ ho960 (eA [(79,some 79),(80,some 80),(81,some 81)])
 obtain ⟨h,b961d⟩:=cfd b961 h
 conv=>whnf
 cases h
 have ho960:_=_:=ho960
 cases ho960
 exact Join.mk (eA [(79,some 80)])
 replace h:=hk53
 obtain ⟨z1143,_⟩:=hp
 conv=>whnf
 refine Side.mk ⟨rfl,trivial⟩ ?_
 conv=>whnf
 obtain ⟨c1144,hc1144,h⟩:=bind_some h
 refine ⟨_,(sp_wordset_Sorted y598 c1144 (fun _=>hc1144)).im,?_⟩
 conv=>whnf
 cases h
 conv=>whnf
 exact ⟨rfl,rfl⟩
theorem sp_evidence_Seed (o_:T_api_Obs) (r:T_api_Table×Int) (h:Ok (.agg (c_api_Obs o_))→evidence_Seed o_=some r):Sp Tryz.prog 16 [.im (.agg (c_api_Obs o_))] (.tup [.agg (c_api_Table r.1),nI r.2]):=by
 refine sp_of rfl [700001] rfl rfl rfl (Nat.le_of_ble_eq_true rfl) rfl fun hk=>?_
 replace h:=h hk.1
 have z1:lZ o_.Traces:=ok_len (Ok.agg_at hk.1 1 rfl)
 unfold evidence_Seed at h
 conv=>whnf
 obtain ⟨c51,hc51,h⟩:=bind_some h
 refine ⟨_,(sp_evidence_Learn o_ c51 (fun _=>hc51)),?_⟩
 conv=>whnf
 refine Side.mk rfl ?_
 conv=>whnf
 refine Both.mk ?_ ?_<;>intro b52
 obtain ⟨h,b52d⟩:=ctd b52 h
 conv=>whnf
 refine Side.mk rfl ?_
 conv=>whnf
 cases h
 conv=>whnf
 refine Side.mk ⟨rfl,trivial⟩ ?_
 conv=>whnf
 exact ⟨rfl,rfl⟩
 obtain ⟨h,b52d⟩:=cfd b52 h
 conv=>whnf
 refine Side.mk rfl ?_
 conv=>whnf
 obtain ⟨c53,hc53,h⟩:=bind_some h
 refine ⟨_,(sp_merge_Complete c51.1 0 c53 (fun _ _=>hc53)),?_⟩
 conv=>whnf
 refine Side.mk rfl ?_
 conv=>whnf
 refine Both.mk ?_ ?_<;>intro b54
 obtain ⟨h,b54d⟩:=ctd b54 h
 conv=>whnf
 refine Side.mk rfl ?_
 conv=>whnf
 cases h
 conv=>whnf
 refine Side.mk ⟨rfl,trivial⟩ ?_
 conv=>whnf
 exact ⟨rfl,rfl⟩
 obtain ⟨h,b54d⟩:=cfd b54 h
 conv=>whnf
 refine Side.mk rfl ?_
 conv=>whnf
 obtain ⟨c55,hc55,h⟩:=bind_some h
 refine ⟨_,(sp_minimize_Min c53.1 c55 (fun _=>hc55)),?_⟩
 conv=>whnf
 refine Side.mk rfl ?_
 conv=>whnf
 refine Side.mk rfl ?_
 conv=>whnf
 obtain ⟨c56,hc56,h⟩:=bind_some h
 refine ⟨_,(sp_separate_Charset c55.1 c56 (fun _=>hc56)),?_⟩
 conv=>whnf
 obtain ⟨y72,hc,hk57⟩:=bind_some h
 clear h
 have h:=hc
 clear hc
 refine Cut.mk (mkSt [(1,.im (.ref (c_api_Obs o_))),(2,.own 64 1 0),(4,.own 65 1 0),(9,.im (nL (cL cI) c56.1)),(11,.osl 66 1)] [(64,.box 43 3),(65,.box 24 4),(66,.row 60 1 (List.map (cL cI) y72))] [(64,0,.im (nI 0)),(64,1,.im (.val (.slice none 0 0))),(64,2,.im (.val (.slice none 0 0))),(65,0,.im (nI c51.1.Inputs)),(65,1,.im (nI c51.1.Start)),(65,2,.im (nL (cL cI) c51.1.Next)),(65,3,.im (nL (cL cI) c51.1.Out))]) (lZ c56.1∧lZ c51.1.Next∧lZ c51.1.Out∧lZ y72∧True) ((Holds.avl 9 rfl).and ((Holds.cel 65 2 rfl (by decide) rfl).and ((Holds.cel 65 3 rfl (by decide) rfl).and ((Holds.kdl 66 rfl).and (hT))))) ?_ (fun hp=>?_)
 conv=>whnf
 refine Loops.iter (fun (s:List (List Int)×Nat)=>evidence_Seed.s2 o_ s.1 s.2) (fun (y74,y75)=>mkSt [(1,.im (.ref (c_api_Obs o_))),(2,.own 64 1 0),(4,.own 65 1 0),(9,.im (nL (cL cI) c56.1)),(11,.osl 66 1),(42,.im (nI o_.Inputs)),(43,.im (nI (↑y75:Int)))] [(64,.box 43 3),(65,.box 24 4),(66,.row 60 1 (List.map (cL cI) y74))] [(64,0,.im (nI 0)),(64,1,.im (.val (.slice none 0 0))),(64,2,.im (.val (.slice none 0 0))),(65,0,.im (nI c51.1.Inputs)),(65,1,.im (nI c51.1.Start)),(65,2,.im (nL (cL cI) c51.1.Next)),(65,3,.im (nL (cL cI) c51.1.Out))]) (fun (y74,y75)=>lZ c56.1∧lZ c51.1.Next∧lZ c51.1.Out∧lZ y74∧True) h (eA [(64,some 2),(65,some 4),(66,none)]) (by rintro ⟨y74,y75⟩;exact ((Holds.avl 9 rfl).and ((Holds.cel 65 2 rfl (by decide) rfl).and ((Holds.cel 65 3 rfl (by decide) rfl).and ((Holds.kdl 66 rfl).and (hT)))))) ?_
 clear h
 rintro k ⟨y74,y75⟩ o hp h ho79
 replace h:evidence_Seed.s2 o_ y74 y75=some o:=h
 unfold evidence_Seed.s2 at h
 obtain ⟨z83,z84,z85,z86,_⟩:=hp
 conv=>whnf
 refine Both.mk ?_ ?_<;>intro b80
 obtain ⟨h,b80d⟩:=ctd b80 h
 conv=>whnf
 obtain ⟨c81,h⟩:=chk_some h
 refine Side.mk ⟨rfl,map_len (l:=[[(↑y75:Int)]]) (c:=cL cI) fun _=>rfl,show capOk _ 24 by simpa only [List.length_map,List.length_cons,List.length_nil,Nat.zero_add] using c81⟩ ?_
 conv=>whnf
 refine Nf.mk (List.map (cL cI) (y74++[[(↑y75:Int)]])) (app_map (l:=y74) (m:=[[(↑y75:Int)]]) (c:=cL cI)) ?_
 conv=>whnf
 obtain ⟨c82,h⟩:=chk_some h
 refine Arith.mk c82 ?_
 conv=>whnf
 cases h
 exact Nxt.mk _ ho79 (eA [(64,some 64),(65,some 65),(66,some 66)])
 obtain ⟨h,b80d⟩:=cfd b80 h
 conv=>whnf
 cases h
 have ho79:_=_:=ho79
 cases ho79
 exact Join.mk (eA [(64,some 64),(65,some 65),(66,some 66)])
 replace h:=hk57
 obtain ⟨z87,z88,z89,z90,_⟩:=hp
 conv=>whnf
 refine Side.mk rfl ?_
 conv=>whnf
 obtain ⟨c91,hc91,h⟩:=bind_some h
 refine ⟨_,(sp_evidence_access c51.1 c91 (fun _=>hc91)),?_⟩
 conv=>whnf
 refine Side.mk ⟨rfl,trivial⟩ ?_
 conv=>whnf
 obtain ⟨c92,hc92,h⟩:=bind_some h
 refine ⟨_,(sp_wordset_Union [y72,c56.1] c92 (fun _=>hc92)),?_⟩
 conv=>whnf
 refine Side.mk rfl ?_
 conv=>whnf
 cases h
 conv=>whnf
 refine Side.mk ⟨rfl,trivial⟩ ?_
 conv=>whnf
 exact ⟨rfl,rfl⟩
theorem sp_R01_SameWords (a_:List (List Int)) (b_:List (List Int)) (r:Bool) (h:Ok (nL (cL cI) a_)→Ok (nL (cL cI) b_)→R01_SameWords a_ b_=some r):Sp Tryz.prog 28 [.im (nL (cL cI) a_),.im (nL (cL cI) b_)] (.im (nB r)):=by
 refine sp_of rfl [] rfl rfl rfl (Nat.le_of_ble_eq_true rfl) rfl fun hk=>?_
 replace h:=h hk.1 hk.2.1
 have z1:lZ a_:=ok_len hk.1
 have z2:lZ b_:=ok_len hk.2.1
 unfold R01_SameWords at h
 conv=>whnf
 refine Nf.mk (List.length a_) len_map ?_
 conv=>whnf
 refine Nf.mk (List.length b_) len_map ?_
 conv=>whnf
 refine Both.mk ?_ ?_<;>intro b51
 obtain ⟨h,b51d⟩:=ctd b51 h
 conv=>whnf
 cases h
 conv=>whnf
 exact ⟨rfl,rfl⟩
 obtain ⟨h,b51d⟩:=cfd b51 h
 conv=>whnf
 obtain ⟨oc,hc,hk52⟩:=bind_some h
 clear h
 have h:=hc
 clear hc
 refine Cut.mkS oc (Y:=Unit) (fun (_:Unit)=>mkSt [] [] []) (fun (_:Unit)=>True) (by rintro ⟨⟩;exact (hT)) ?_ ?_
 conv=>whnf
 refine Loops.iter (fun (s:Nat)=>R01_SameWords.s2 a_ b_ s) (fun i77=>mkSt [(0,.im (nL (cL cI) a_)),(1,.im (nL (cL cI) b_)),(5,.im (nI (↑i77:Int)))] [] []) (fun i77=>lZ a_∧lZ b_∧True) h (eA []) (by rintro i77;exact ((Holds.avl 0 rfl).and ((Holds.avl 1 rfl).and (hT)))) ?_
 clear h
 rintro k i77 o hp h ho83
 replace h:R01_SameWords.s2 a_ b_ i77=some o:=h
 unfold R01_SameWords.s2 at h
 obtain ⟨z89,z90,_⟩:=hp
 conv=>whnf
 refine Nf.mk (List.length a_) len_map ?_
 conv=>whnf
 refine Both.mk ?_ ?_<;>intro b84
 obtain ⟨h,b84d⟩:=ctd b84 h
 conv=>whnf
 obtain ⟨e85,he85,h⟩:=idxn_some h
 refine ⟨_,⟨(by omega),map_at he85,rfl⟩,?_⟩
 conv=>whnf
 obtain ⟨e86,he86,h⟩:=idxn_some h
 refine ⟨_,⟨(by omega),map_at he86,rfl⟩,?_⟩
 conv=>whnf
 obtain ⟨c87,hc87,h⟩:=bind_some h
 refine ⟨_,(sp_R01_Same e85 e86 c87 (fun _ _=>hc87)),?_⟩
 conv=>whnf
 refine Both.mk ?_ ?_<;>intro b88
 replace h:=cond_t b88 h
 conv=>whnf
 cases h
 have ho83:_=_:=ho83
 cases ho83
 replace h:some _=some _:=hk52
 cases h
 conv=>whnf
 exact ⟨rfl,rfl⟩
 replace h:=cond_f b88 h
 conv=>whnf
 refine Arith.mk (by show inR _;unfold inR;omega) ?_
 conv=>whnf
 cases h
 exact Nxt.mk _ ho83 (eA [])
 obtain ⟨h,b84d⟩:=cfd b84 h
 conv=>whnf
 cases h
 have ho83:_=_:=ho83
 cases ho83
 exact JoinS.mk' _ rfl (eA [])
 rintro ⟨⟩ rfl hp
 replace h:=sum_inl hk52
 conv=>whnf
 cases h
 conv=>whnf
 exact ⟨rfl,rfl⟩
theorem sp_R35_Same (a_:T_api_Part) (b_:T_api_Part) (r:Bool) (h:Ok (.agg (c_api_Part a_))→Ok (.agg (c_api_Part b_))→R35_Same a_ b_=some r):Sp Tryz.prog 18 [.im (.agg (c_api_Part a_)),.im (.agg (c_api_Part b_))] (.im (nB r)):=by
 refine sp_of rfl [700002,700003] rfl rfl rfl (Nat.le_of_ble_eq_true rfl) rfl fun hk=>?_
 replace h:=h hk.1 hk.2.1
 have z1:lZ a_.Next:=ok_len (Ok.agg_at hk.1 2 rfl)
 have z2:lZ a_.Out:=ok_len (Ok.agg_at hk.1 3 rfl)
 have z3:lZ b_.Next:=ok_len (Ok.agg_at hk.2.1 2 rfl)
 have z4:lZ b_.Out:=ok_len (Ok.agg_at hk.2.1 3 rfl)
 unfold R35_Same at h
 conv=>whnf
 obtain ⟨y58,hc,hk52⟩:=bind_some h
 clear h
 have h:=hc
 clear hc
 refine Cut.mk (mkSt [(4,.im (nB y58))] [] []) (True) (hT) ?_ (fun hp=>?_)
 conv=>whnf
 refine Both.mk ?_ ?_<;>intro b59
 replace b59:=beq_tt b59
 obtain ⟨h,b59d⟩:=ctd b59 h
 conv=>whnf
 iterate 4 (refine Both.yes (tt_beq b59) ?_;(conv=>whnf))
 refine Both.yes b59 ?_
 conv=>whnf
 refine Both.mk ?_ ?_<;>intro b60
 replace b60:=beq_tt b60
 obtain ⟨h,b60d⟩:=ctd b60 h
 conv=>whnf
 iterate 4 (refine Both.yes (tt_beq b60) ?_;(conv=>whnf))
 obtain ⟨c61,hc61,h⟩:=bind_some h
 refine ⟨_,(sp_R01_SameWords a_.Next b_.Next c61 (fun _ _=>hc61)),?_⟩
 conv=>whnf
 refine Both.yes b60 ?_
 conv=>whnf
 refine Both.mk ?_ ?_<;>intro b62
 replace b62:=beq_tt b62
 replace h:=cond_t b62 h
 conv=>whnf
 iterate 4 (refine Both.yes (tt_beq b62) ?_;(conv=>whnf))
 obtain ⟨c63,hc63,h⟩:=bind_some h
 refine ⟨_,(sp_R01_SameWords a_.Out b_.Out c63 (fun _ _=>hc63)),?_⟩
 conv=>whnf
 refine Both.yes b62 ?_
 conv=>whnf
 cases h
 exact Join.mk (eA [])
 replace b62:=beq_tf b62
 replace h:=cond_f b62 h
 conv=>whnf
 iterate 4 (refine Both.no (ft_beq b62) ?_;(conv=>whnf))
 refine Both.no b62 ?_
 conv=>whnf
 cases h
 exact Join.mk (eA [])
 replace b60:=beq_tf b60
 obtain ⟨h,b60d⟩:=cfd b60 h
 conv=>whnf
 iterate 4 (refine Both.no (ft_beq b60) ?_;(conv=>whnf))
 refine Both.no b60 ?_
 conv=>whnf
 iterate 6 (refine Both.no rfl ?_;(conv=>whnf))
 cases h
 exact Join.mk (eA [])
 replace b59:=beq_tf b59
 obtain ⟨h,b59d⟩:=cfd b59 h
 conv=>whnf
 iterate 4 (refine Both.no (ft_beq b59) ?_;(conv=>whnf))
 refine Both.no b59 ?_
 conv=>whnf
 iterate 12 (refine Both.no rfl ?_;(conv=>whnf))
 cases h
 exact Join.mk (eA [])
 replace h:=hk52
 conv=>whnf
 cases h
 conv=>whnf
 exact ⟨rfl,rfl⟩
theorem sp_R36_SameTable (a_:T_api_Table) (b_:T_api_Table) (r:Bool) (h:Ok (.agg (c_api_Table a_))→Ok (.agg (c_api_Table b_))→R36_SameTable a_ b_=some r):Sp Tryz.prog 19 [.im (.agg (c_api_Table a_)),.im (.agg (c_api_Table b_))] (.im (nB r)):=by
 refine sp_of rfl [700002,700003] rfl rfl rfl (Nat.le_of_ble_eq_true rfl) rfl fun hk=>?_
 replace h:=h hk.1 hk.2.1
 have z1:lZ a_.Prefixes:=ok_len (Ok.agg_at hk.1 1 rfl)
 have z2:lZ a_.Suffixes:=ok_len (Ok.agg_at hk.1 2 rfl)
 have z3:lZ b_.Prefixes:=ok_len (Ok.agg_at hk.2.1 1 rfl)
 have z4:lZ b_.Suffixes:=ok_len (Ok.agg_at hk.2.1 2 rfl)
 unfold R36_SameTable at h
 conv=>whnf
 obtain ⟨y57,hc,hk52⟩:=bind_some h
 clear h
 have h:=hc
 clear hc
 refine Cut.mk (mkSt [(4,.im (nB y57))] [] []) (True) (hT) ?_ (fun hp=>?_)
 conv=>whnf
 refine Both.mk ?_ ?_<;>intro b58
 replace b58:=beq_tt b58
 obtain ⟨h,b58d⟩:=ctd b58 h
 conv=>whnf
 iterate 4 (refine Both.yes (tt_beq b58) ?_;(conv=>whnf))
 obtain ⟨c59,hc59,h⟩:=bind_some h
 refine ⟨_,(sp_R01_SameWords a_.Prefixes b_.Prefixes c59 (fun _ _=>hc59)),?_⟩
 conv=>whnf
 refine Both.yes b58 ?_
 conv=>whnf
 refine Both.mk ?_ ?_<;>intro b60
 replace b60:=beq_tt b60
 replace h:=cond_t b60 h
 conv=>whnf
 iterate 4 (refine Both.yes (tt_beq b60) ?_;(conv=>whnf))
 obtain ⟨c61,hc61,h⟩:=bind_some h
 refine ⟨_,(sp_R01_SameWords a_.Suffixes b_.Suffixes c61 (fun _ _=>hc61)),?_⟩
 conv=>whnf
 refine Both.yes b60 ?_
 conv=>whnf
 cases h
 exact Join.mk (eA [])
 replace b60:=beq_tf b60
 replace h:=cond_f b60 h
 conv=>whnf
 iterate 4 (refine Both.no (ft_beq b60) ?_;(conv=>whnf))
 refine Both.no b60 ?_
 conv=>whnf
 cases h
 exact Join.mk (eA [])
 replace b58:=beq_tf b58
 obtain ⟨h,b58d⟩:=cfd b58 h
 conv=>whnf
 iterate 4 (refine Both.no (ft_beq b58) ?_;(conv=>whnf))
 refine Both.no b58 ?_
 conv=>whnf
 iterate 6 (refine Both.no rfl ?_;(conv=>whnf))
 cases h
 exact Join.mk (eA [])
 replace h:=hk52
 conv=>whnf
 cases h
 conv=>whnf
 exact ⟨rfl,rfl⟩
theorem sp_L36_awake (r:Bool) (h:L36_awake=some r):Sp Tryz.prog 9 [] (.im (nB r)):=by
 refine sp_of rfl [] rfl rfl rfl (Nat.le_of_ble_eq_true rfl) rfl fun hk=>?_
 unfold L36_awake at h
 conv=>whnf
 refine Side.mk rfl ?_
 conv=>whnf
 refine Side.mk rfl ?_
 conv=>whnf
 obtain ⟨c51,hc51,h⟩:=bind_some h
 refine ⟨_,(sp_R35_Tree (⟨1,[(⟨[0,0,0,0],[1,2,1,2]⟩:T_api_Trace)]⟩:T_api_Obs) c51 (fun _=>hc51)),?_⟩
 conv=>whnf
 refine Side.mk rfl ?_
 conv=>whnf
 refine Side.mk rfl ?_
 conv=>whnf
 obtain ⟨c52,hc52,h⟩:=bind_some h
 refine ⟨_,(sp_evidence_Score c51.1 0 2 c52 (fun _ _ _=>hc52)),?_⟩
 conv=>whnf
 refine Side.mk rfl ?_
 conv=>whnf
 obtain ⟨c53,hc53,h⟩:=bind_some h
 refine ⟨_,(sp_evidence_Score c51.1 0 4 c53 (fun _ _ _=>hc53)),?_⟩
 conv=>whnf
 refine Side.mk rfl ?_
 conv=>whnf
 obtain ⟨c54,hc54,h⟩:=bind_some h
 refine ⟨_,(sp_evidence_Score c51.1 0 1 c54 (fun _ _ _=>hc54)),?_⟩
 conv=>whnf
 refine Side.mk rfl ?_
 conv=>whnf
 obtain ⟨c55,hc55,h⟩:=bind_some h
 refine ⟨_,(sp_evidence_Learn (⟨1,[(⟨[0,0,0,0],[1,2,1,2]⟩:T_api_Trace)]⟩:T_api_Obs) c55 (fun _=>hc55)),?_⟩
 conv=>whnf
 refine Side.mk rfl ?_
 conv=>whnf
 refine Side.mk rfl ?_
 conv=>whnf
 obtain ⟨c56,hc56,h⟩:=bind_some h
 refine ⟨_,(sp_evidence_Seed (⟨1,[(⟨[0,0,0,0],[1,2,1,2]⟩:T_api_Trace)]⟩:T_api_Obs) c56 (fun _=>hc56)),?_⟩
 conv=>whnf
 refine Side.mk rfl ?_
 conv=>whnf
 obtain ⟨c57,hc57,h⟩:=bind_some h
 refine ⟨_,(sp_evidence_Seed (⟨2,[]⟩:T_api_Obs) c57 (fun _=>hc57)),?_⟩
 conv=>whnf
 refine Side.mk rfl ?_
 conv=>whnf
 obtain ⟨y76,hc,hk59⟩:=bind_some h
 clear h
 have h:=hc
 clear hc
 refine Cut.mk (mkSt [(0,.im (nB y76))] [] []) (True) (hT) ?_ (fun hp=>?_)
 conv=>whnf
 refine Both.mk ?_ ?_<;>intro b77
 replace b77:=beq_tt b77
 obtain ⟨h,b77d⟩:=ctd b77 h
 conv=>whnf
 refine Both.yes b77 ?_
 conv=>whnf
 refine Both.mk ?_ ?_<;>intro b78
 replace b78:=beq_tt b78
 replace h:=cond_t b78 h
 conv=>whnf
 refine Both.yes (tt_beq b78) ?_
 conv=>whnf
 refine Both.yes b78 ?_
 conv=>whnf
 refine Both.mk ?_ ?_<;>intro b79
 replace b79:=beq_tt b79
 obtain ⟨h,b79d⟩:=ctd b79 h
 conv=>whnf
 refine Both.yes (tt_beq b79) ?_
 conv=>whnf
 refine Both.yes b79 ?_
 conv=>whnf
 refine Both.mk ?_ ?_<;>intro b80
 replace b80:=beq_tt b80
 obtain ⟨h,b80d⟩:=ctd b80 h
 conv=>whnf
 refine Both.yes b80 ?_
 conv=>whnf
 refine Both.mk ?_ ?_<;>intro b81
 replace b81:=beq_tt b81
 replace h:=cond_t b81 h
 conv=>whnf
 refine Both.yes (tt_beq b81) ?_
 conv=>whnf
 refine Both.yes b81 ?_
 conv=>whnf
 refine Both.mk ?_ ?_<;>intro b82
 replace b82:=beq_tt b82
 obtain ⟨h,b82d⟩:=ctd b82 h
 conv=>whnf
 refine Both.yes (tt_beq b82) ?_
 conv=>whnf
 refine Both.yes b82 ?_
 conv=>whnf
 refine Both.mk ?_ ?_<;>intro b83
 replace b83:=beq_tt b83
 replace h:=cond_t b83 h
 conv=>whnf
 refine Both.yes (tt_beq b83) ?_
 conv=>whnf
 refine Both.yes b83 ?_
 conv=>whnf
 refine Both.mk ?_ ?_<;>intro b84
 replace b84:=beq_tt b84
 obtain ⟨h,b84d⟩:=ctd b84 h
 conv=>whnf
 refine Side.mk rfl ?_
 conv=>whnf
 iterate 8 (refine Both.yes (tt_beq b84) ?_;(conv=>whnf))
 obtain ⟨c85,hc85,h⟩:=bind_some h
 refine ⟨_,(sp_R35_Same c55.1 (⟨1,0,[[1],[0]],[[1],[2]]⟩:T_api_Part) c85 (fun _ _=>hc85)),?_⟩
 conv=>whnf
 refine Both.yes b84 ?_
 conv=>whnf
 refine Both.mk ?_ ?_<;>intro b86
 replace b86:=beq_tt b86
 replace h:=cond_t b86 h
 conv=>whnf
 refine Both.yes (tt_beq b86) ?_
 conv=>whnf
 refine Both.yes b86 ?_
 conv=>whnf
 refine Both.mk ?_ ?_<;>intro b87
 replace b87:=beq_tt b87
 obtain ⟨h,b87d⟩:=ctd b87 h
 conv=>whnf
 refine Side.mk rfl ?_
 conv=>whnf
 iterate 7 (refine Both.yes (tt_beq b87) ?_;(conv=>whnf))
 obtain ⟨c88,hc88,h⟩:=bind_some h
 refine ⟨_,(sp_R36_SameTable c56.1 (⟨1,[[],[0]],[[0]]⟩:T_api_Table) c88 (fun _ _=>hc88)),?_⟩
 conv=>whnf
 refine Both.yes b87 ?_
 conv=>whnf
 refine Both.mk ?_ ?_<;>intro b89
 replace b89:=beq_tt b89
 replace h:=cond_t b89 h
 conv=>whnf
 refine Both.yes (tt_beq b89) ?_
 conv=>whnf
 refine Both.yes b89 ?_
 conv=>whnf
 refine Both.mk ?_ ?_<;>intro b90
 replace b90:=beq_tt b90
 obtain ⟨h,b90d⟩:=ctd b90 h
 conv=>whnf
 refine Side.mk rfl ?_
 conv=>whnf
 iterate 7 (refine Both.yes (tt_beq b90) ?_;(conv=>whnf))
 obtain ⟨c91,hc91,h⟩:=bind_some h
 refine ⟨_,(sp_R36_SameTable c57.1 (⟨2,[[]],[[0],[1]]⟩:T_api_Table) c91 (fun _ _=>hc91)),?_⟩
 conv=>whnf
 refine Both.yes b90 ?_
 conv=>whnf
 refine Both.mk ?_ ?_<;>intro b92
 replace b92:=beq_tt b92
 replace h:=cond_t b92 h
 conv=>whnf
 refine Both.yes (tt_beq b92) ?_
 conv=>whnf
 refine Both.yes b92 ?_
 conv=>whnf
 cases h
 exact Join.mk (eA [])
 replace b92:=beq_tf b92
 replace h:=cond_f b92 h
 conv=>whnf
 refine Both.no (ft_beq b92) ?_
 conv=>whnf
 refine Both.no b92 ?_
 conv=>whnf
 cases h
 exact Join.mk (eA [])
 replace b90:=beq_tf b90
 obtain ⟨h,b90d⟩:=cfd b90 h
 conv=>whnf
 iterate 7 (refine Both.no (ft_beq b90) ?_;(conv=>whnf))
 refine Both.no b90 ?_
 conv=>whnf
 iterate 3 (refine Both.no rfl ?_;(conv=>whnf))
 cases h
 exact Join.mk (eA [])
 replace b89:=beq_tf b89
 replace h:=cond_f b89 h
 conv=>whnf
 refine Both.no (ft_beq b89) ?_
 conv=>whnf
 refine Both.no b89 ?_
 conv=>whnf
 iterate 12 (refine Both.no rfl ?_;(conv=>whnf))
 cases h
 exact Join.mk (eA [])
 replace b87:=beq_tf b87
 obtain ⟨h,b87d⟩:=cfd b87 h
 conv=>whnf
 iterate 7 (refine Both.no (ft_beq b87) ?_;(conv=>whnf))
 refine Both.no b87 ?_
 conv=>whnf
 iterate 15 (refine Both.no rfl ?_;(conv=>whnf))
 cases h
 exact Join.mk (eA [])
 replace b86:=beq_tf b86
 replace h:=cond_f b86 h
 conv=>whnf
 refine Both.no (ft_beq b86) ?_
 conv=>whnf
 refine Both.no b86 ?_
 conv=>whnf
 iterate 24 (refine Both.no rfl ?_;(conv=>whnf))
 cases h
 exact Join.mk (eA [])
 replace b84:=beq_tf b84
 obtain ⟨h,b84d⟩:=cfd b84 h
 conv=>whnf
 iterate 8 (refine Both.no (ft_beq b84) ?_;(conv=>whnf))
 refine Both.no b84 ?_
 conv=>whnf
 iterate 27 (refine Both.no rfl ?_;(conv=>whnf))
 cases h
 exact Join.mk (eA [])
 replace b83:=beq_tf b83
 replace h:=cond_f b83 h
 conv=>whnf
 refine Both.no (ft_beq b83) ?_
 conv=>whnf
 refine Both.no b83 ?_
 conv=>whnf
 iterate 37 (refine Both.no rfl ?_;(conv=>whnf))
 cases h
 exact Join.mk (eA [])
 replace b82:=beq_tf b82
 obtain ⟨h,b82d⟩:=cfd b82 h
 conv=>whnf
 refine Both.no (ft_beq b82) ?_
 conv=>whnf
 refine Both.no b82 ?_
 conv=>whnf
 iterate 40 (refine Both.no rfl ?_;(conv=>whnf))
 cases h
 exact Join.mk (eA [])
 replace b81:=beq_tf b81
 replace h:=cond_f b81 h
 conv=>whnf
 refine Both.no (ft_beq b81) ?_
 conv=>whnf
 refine Both.no b81 ?_
 conv=>whnf
 iterate 43 (refine Both.no rfl ?_;(conv=>whnf))
 cases h
 exact Join.mk (eA [])
 replace b80:=beq_tf b80
 obtain ⟨h,b80d⟩:=cfd b80 h
 conv=>whnf
 refine Both.no b80 ?_
 conv=>whnf
 iterate 46 (refine Both.no rfl ?_;(conv=>whnf))
 cases h
 exact Join.mk (eA [])
 replace b79:=beq_tf b79
 obtain ⟨h,b79d⟩:=cfd b79 h
 conv=>whnf
 refine Both.no (ft_beq b79) ?_
 conv=>whnf
 refine Both.no b79 ?_
 conv=>whnf
 iterate 48 (refine Both.no rfl ?_;(conv=>whnf))
 cases h
 exact Join.mk (eA [])
 replace b78:=beq_tf b78
 replace h:=cond_f b78 h
 conv=>whnf
 refine Both.no (ft_beq b78) ?_
 conv=>whnf
 refine Both.no b78 ?_
 conv=>whnf
 iterate 51 (refine Both.no rfl ?_;(conv=>whnf))
 cases h
 exact Join.mk (eA [])
 replace b77:=beq_tf b77
 obtain ⟨h,b77d⟩:=cfd b77 h
 conv=>whnf
 refine Both.no b77 ?_
 conv=>whnf
 iterate 54 (refine Both.no rfl ?_;(conv=>whnf))
 cases h
 exact Join.mk (eA [])
 replace h:=hk59
 conv=>whnf
 cases h
 conv=>whnf
 exact ⟨rfl,rfl⟩
theorem sp_L36_EvidenceSymmetric (p_:T_api_Part) (s_:Int) (t_:Int) (r:Bool) (h:Ok (.agg (c_api_Part p_))→Ok (nI s_)→Ok (nI t_)→L36_EvidenceSymmetric p_ s_ t_=some r):Sp Tryz.prog 6 [.im (.agg (c_api_Part p_)),.im (nI s_),.im (nI t_)] (.im (nB r)):=by
 refine sp_of rfl [700003] rfl rfl rfl (Nat.le_of_ble_eq_true rfl) rfl fun hk=>?_
 replace h:=h hk.1 hk.2.1 hk.2.2.1
 have z1:lZ p_.Next:=ok_len (Ok.agg_at hk.1 2 rfl)
 have z2:lZ p_.Out:=ok_len (Ok.agg_at hk.1 3 rfl)
 unfold L36_EvidenceSymmetric at h
 conv=>whnf
 obtain ⟨c51,hc51,h⟩:=bind_some h
 refine ⟨_,(sp_R35_Great p_ c51 (fun _=>hc51)),?_⟩
 conv=>whnf
 refine Both.mk ?_ ?_<;>intro b52
 replace h:=cond_t b52 h
 conv=>whnf
 obtain ⟨c53,hc53,h⟩:=bind_some h
 refine ⟨_,(sp_L36_awake  c53 (hc53)),?_⟩
 conv=>whnf
 cases h
 conv=>whnf
 exact ⟨rfl,rfl⟩
 replace h:=cond_f b52 h
 conv=>whnf
 obtain ⟨c54,hc54,h⟩:=bind_some h
 refine ⟨_,(sp_evidence_Score p_ s_ t_ c54 (fun _ _ _=>hc54)),?_⟩
 conv=>whnf
 obtain ⟨c55,hc55,h⟩:=bind_some h
 refine ⟨_,(sp_evidence_Score p_ t_ s_ c55 (fun _ _ _=>hc55)),?_⟩
 conv=>whnf
 obtain ⟨c56,hc56,h⟩:=bind_some h
 refine ⟨_,(sp_merge_Fold p_ s_ t_ c56 (fun _ _ _=>hc56)),?_⟩
 conv=>whnf
 refine Side.mk rfl ?_
 conv=>whnf
 obtain ⟨y69,hc,hk58⟩:=bind_some h
 clear h
 have h:=hc
 clear hc
 refine Cut.mk (mkSt [(1,.im (nI s_)),(2,.im (nI t_)),(3,.im (.ref (c_api_Part p_))),(7,.im (nI c54.1)),(8,.im (nB c54.2.1)),(9,.im (nI c54.2.2)),(89,.im (nB y69))] [] []) (True) (hT) ?_ (fun hp=>?_)
 conv=>whnf
 refine Both.mk ?_ ?_<;>intro b70
 replace b70:=beq_ff b70
 obtain ⟨h,b70d⟩:=cfd b70 h
 conv=>whnf
 iterate 2 (refine Both.yes (ff_beq b70) ?_;(conv=>whnf))
 refine Both.no b70 ?_
 conv=>whnf
 refine Both.mk ?_ ?_<;>intro b71
 replace b71:=beq_ff b71
 replace h:=cond_f b71 h
 conv=>whnf
 iterate 2 (refine Both.yes (ff_beq b71) ?_;(conv=>whnf))
 refine Both.no b71 ?_
 conv=>whnf
 refine Both.mk ?_ ?_<;>intro b72
 replace b72:=beq_ff b72
 obtain ⟨h,b72d⟩:=cfd b72 h
 conv=>whnf
 iterate 2 (refine Both.yes (ff_beq b72) ?_;(conv=>whnf))
 refine Both.no b72 ?_
 conv=>whnf
 refine Both.mk ?_ ?_<;>intro b73
 replace b73:=beq_ff b73
 replace h:=cond_f b73 h
 conv=>whnf
 iterate 2 (refine Both.yes (ff_beq b73) ?_;(conv=>whnf))
 refine Both.no b73 ?_
 conv=>whnf
 refine Both.mk ?_ ?_<;>intro b74
 replace b74:=beq_ff b74
 obtain ⟨h,b74d⟩:=cfd b74 h
 conv=>whnf
 refine Both.yes (ff_beq b74) ?_
 conv=>whnf
 refine Both.no b74 ?_
 conv=>whnf
 refine Both.mk ?_ ?_<;>intro b75
 replace b75:=beq_ff b75
 obtain ⟨h,b75d⟩:=cfd b75 h
 conv=>whnf
 iterate 2 (refine Both.yes (ff_beq b75) ?_;(conv=>whnf))
 refine Both.mk ?_ ?_<;>intro b76
 replace b76:=beq_tt b76
 replace h:=cond_t b76 h
 conv=>whnf
 refine Both.yes (tt_beq b76) ?_
 conv=>whnf
 refine Both.yes (ff_beq b75) ?_
 conv=>whnf
 refine Both.yes b76 ?_
 conv=>whnf
 refine Both.no b75 ?_
 conv=>whnf
 refine Both.mk ?_ ?_<;>intro b77
 replace b77:=beq_ff b77
 obtain ⟨h,b77d⟩:=cfd b77 h
 conv=>whnf
 iterate 3 (refine Both.yes (ff_beq b77) ?_;(conv=>whnf))
 refine Both.mk ?_ ?_<;>intro b78
 replace b78:=beq_tt b78
 obtain ⟨h,b78d⟩:=ctd b78 h
 conv=>whnf
 refine Both.yes (tt_beq b78) ?_
 conv=>whnf
 refine Both.yes (ff_beq b77) ?_
 conv=>whnf
 refine Both.yes b78 ?_
 conv=>whnf
 refine Both.no b77 ?_
 conv=>whnf
 cases h
 exact Join.mk (eA [])
 replace b78:=beq_tf b78
 obtain ⟨h,b78d⟩:=cfd b78 h
 conv=>whnf
 refine Both.no (ft_beq b78) ?_
 conv=>whnf
 refine Both.yes (ff_beq b77) ?_
 conv=>whnf
 refine Both.no b78 ?_
 conv=>whnf
 refine Both.no b77 ?_
 conv=>whnf
 cases h
 exact Join.mk (eA [])
 replace b77:=beq_ft b77
 obtain ⟨h,b77d⟩:=ctd b77 h
 conv=>whnf
 iterate 4 (refine Both.no (tf_beq b77) ?_;(conv=>whnf))
 refine Both.yes b77 ?_
 conv=>whnf
 cases h
 exact Join.mk (eA [])
 replace b76:=beq_tf b76
 replace h:=cond_f b76 h
 conv=>whnf
 refine Both.no (ft_beq b76) ?_
 conv=>whnf
 refine Both.yes (ff_beq b75) ?_
 conv=>whnf
 refine Both.no b76 ?_
 conv=>whnf
 refine Both.no b75 ?_
 conv=>whnf
 iterate 4 (refine Both.yes rfl ?_;(conv=>whnf))
 refine Both.mk ?_ ?_<;>intro b79
 replace b79:=beq_tt b79
 obtain ⟨h,b79d⟩:=ctd b79 h
 conv=>whnf
 refine Both.yes (tt_beq b79) ?_
 conv=>whnf
 refine Both.yes rfl ?_
 conv=>whnf
 refine Both.yes b79 ?_
 conv=>whnf
 refine Both.no rfl ?_
 conv=>whnf
 cases h
 exact Join.mk (eA [])
 replace b79:=beq_tf b79
 obtain ⟨h,b79d⟩:=cfd b79 h
 conv=>whnf
 refine Both.no (ft_beq b79) ?_
 conv=>whnf
 refine Both.yes rfl ?_
 conv=>whnf
 refine Both.no b79 ?_
 conv=>whnf
 refine Both.no rfl ?_
 conv=>whnf
 cases h
 exact Join.mk (eA [])
 replace b75:=beq_ft b75
 obtain ⟨h,b75d⟩:=ctd b75 h
 conv=>whnf
 iterate 3 (refine Both.no (tf_beq b75) ?_;(conv=>whnf))
 refine Both.yes b75 ?_
 conv=>whnf
 iterate 5 (refine Both.no rfl ?_;(conv=>whnf))
 refine Both.yes rfl ?_
 conv=>whnf
 cases h
 exact Join.mk (eA [])
 replace b74:=beq_ft b74
 obtain ⟨h,b74d⟩:=ctd b74 h
 conv=>whnf
 refine Both.no (tf_beq b74) ?_
 conv=>whnf
 refine Both.yes b74 ?_
 conv=>whnf
 iterate 4 (refine Both.no rfl ?_;(conv=>whnf))
 refine Both.yes rfl ?_
 conv=>whnf
 iterate 5 (refine Both.no rfl ?_;(conv=>whnf))
 refine Both.yes rfl ?_
 conv=>whnf
 cases h
 exact Join.mk (eA [])
 replace b73:=beq_ft b73
 replace h:=cond_t b73 h
 conv=>whnf
 iterate 2 (refine Both.no (tf_beq b73) ?_;(conv=>whnf))
 refine Both.yes b73 ?_
 conv=>whnf
 iterate 2 (refine Both.no rfl ?_;(conv=>whnf))
 refine Both.yes rfl ?_
 conv=>whnf
 iterate 4 (refine Both.no rfl ?_;(conv=>whnf))
 refine Both.yes rfl ?_
 conv=>whnf
 iterate 5 (refine Both.no rfl ?_;(conv=>whnf))
 refine Both.yes rfl ?_
 conv=>whnf
 cases h
 exact Join.mk (eA [])
 replace b72:=beq_ft b72
 obtain ⟨h,b72d⟩:=ctd b72 h
 conv=>whnf
 iterate 2 (refine Both.no (tf_beq b72) ?_;(conv=>whnf))
 refine Both.yes b72 ?_
 conv=>whnf
 iterate 3 (refine Both.no rfl ?_;(conv=>whnf))
 refine Both.yes rfl ?_
 conv=>whnf
 iterate 2 (refine Both.no rfl ?_;(conv=>whnf))
 refine Both.yes rfl ?_
 conv=>whnf
 iterate 4 (refine Both.no rfl ?_;(conv=>whnf))
 refine Both.yes rfl ?_
 conv=>whnf
 iterate 5 (refine Both.no rfl ?_;(conv=>whnf))
 refine Both.yes rfl ?_
 conv=>whnf
 cases h
 exact Join.mk (eA [])
 replace b71:=beq_ft b71
 replace h:=cond_t b71 h
 conv=>whnf
 iterate 2 (refine Both.no (tf_beq b71) ?_;(conv=>whnf))
 refine Both.yes b71 ?_
 conv=>whnf
 iterate 3 (refine Both.no rfl ?_;(conv=>whnf))
 refine Both.yes rfl ?_
 conv=>whnf
 iterate 3 (refine Both.no rfl ?_;(conv=>whnf))
 refine Both.yes rfl ?_
 conv=>whnf
 iterate 2 (refine Both.no rfl ?_;(conv=>whnf))
 refine Both.yes rfl ?_
 conv=>whnf
 iterate 4 (refine Both.no rfl ?_;(conv=>whnf))
 refine Both.yes rfl ?_
 conv=>whnf
 iterate 5 (refine Both.no rfl ?_;(conv=>whnf))
 refine Both.yes rfl ?_
 conv=>whnf
 cases h
 exact Join.mk (eA [])
 replace b70:=beq_ft b70
 obtain ⟨h,b70d⟩:=ctd b70 h
 conv=>whnf
 iterate 2 (refine Both.no (tf_beq b70) ?_;(conv=>whnf))
 refine Both.yes b70 ?_
 conv=>whnf
 iterate 3 (refine Both.no rfl ?_;(conv=>whnf))
 refine Both.yes rfl ?_
 conv=>whnf
 iterate 3 (refine Both.no rfl ?_;(conv=>whnf))
 refine Both.yes rfl ?_
 conv=>whnf
 iterate 3 (refine Both.no rfl ?_;(conv=>whnf))
 refine Both.yes rfl ?_
 conv=>whnf
 iterate 2 (refine Both.no rfl ?_;(conv=>whnf))
 refine Both.yes rfl ?_
 conv=>whnf
 iterate 4 (refine Both.no rfl ?_;(conv=>whnf))
 refine Both.yes rfl ?_
 conv=>whnf
 iterate 5 (refine Both.no rfl ?_;(conv=>whnf))
 refine Both.yes rfl ?_
 conv=>whnf
 cases h
 exact Join.mk (eA [])
 replace h:=hk58
 conv=>whnf
 refine Both.mk ?_ ?_<;>intro b80
 replace h:=cond_t b80 h
 conv=>whnf
 cases h
 conv=>whnf
 exact ⟨rfl,rfl⟩
 replace h:=cond_f b80 h
 conv=>whnf
 refine Both.mk ?_ ?_<;>intro b81
 obtain ⟨h,b81d⟩:=ctd b81 h
 conv=>whnf
 obtain ⟨c82,hc82,h⟩:=bind_some h
 refine ⟨_,(sp_L36_awake  c82 (hc82)),?_⟩
 conv=>whnf
 cases h
 conv=>whnf
 exact ⟨rfl,rfl⟩
 obtain ⟨h,b81d⟩:=cfd b81 h
 conv=>whnf
 obtain ⟨known244,hc,hk83⟩:=bind_some h
 clear h
 have h:=hc
 clear hc
 refine Cut.mk (mkSt [(1,.im (nI s_)),(2,.im (nI t_)),(7,.im (nI c54.1)),(8,.im (nB c54.2.1)),(16,.im (nI (↑known244:Int)))] [] []) (True) (hT) ?_ (fun hp=>?_)
 conv=>whnf
 refine Loops.iter (fun (s:Nat×Nat)=>L36_EvidenceSymmetric.s14 p_ s.1 s.2) (fun (known296,q297)=>mkSt [(1,.im (nI s_)),(2,.im (nI t_)),(3,.im (.ref (c_api_Part p_))),(7,.im (nI c54.1)),(8,.im (nB c54.2.1)),(16,.im (nI (↑known296:Int))),(17,.im (nI (↑q297:Int)))] [] []) (fun (known296,q297)=>True) h (eA []) (by rintro ⟨known296,q297⟩;exact (hT)) ?_
 clear h
 rintro k ⟨known296,q297⟩ o hp h ho351
 replace h:L36_EvidenceSymmetric.s14 p_ known296 q297=some o:=h
 unfold L36_EvidenceSymmetric.s14 at h
 conv=>whnf
 refine Nf.mk (List.length p_.Next) len_map ?_
 conv=>whnf
 refine Both.mk ?_ ?_<;>intro b352
 obtain ⟨h,b352d⟩:=ctd b352 h
 conv=>whnf
 obtain ⟨known379,hc,hk353⟩:=bind_some h
 clear h
 have h:=hc
 clear hc
 refine Cut.mk (mkSt [(1,.im (nI s_)),(2,.im (nI t_)),(3,.im (.ref (c_api_Part p_))),(7,.im (nI c54.1)),(8,.im (nB c54.2.1)),(16,.im (nI (↑known379:Int))),(17,.im (nI (↑q297:Int)))] [] []) (True) (hT) ?_ (fun hp=>?_)
 conv=>whnf
 refine Loops.iter (fun (s:Nat×Nat)=>L36_EvidenceSymmetric.s13 p_ q297 s.1 s.2) (fun (known386,a387)=>mkSt [(1,.im (nI s_)),(2,.im (nI t_)),(3,.im (.ref (c_api_Part p_))),(7,.im (nI c54.1)),(8,.im (nB c54.2.1)),(16,.im (nI (↑known386:Int))),(17,.im (nI (↑q297:Int))),(18,.im (nI (↑a387:Int)))] [] []) (fun (known386,a387)=>True) h (eA []) (by rintro ⟨known386,a387⟩;exact (hT)) ?_
 clear h
 rintro k ⟨known386,a387⟩ o hp h ho396
 replace h:L36_EvidenceSymmetric.s13 p_ q297 known386 a387=some o:=h
 unfold L36_EvidenceSymmetric.s13 at h
 conv=>whnf
 obtain ⟨e397,he397,h⟩:=idxn_some h
 refine ⟨_,⟨(by omega),map_at he397,rfl⟩,?_⟩
 conv=>whnf
 refine Nf.mk (List.length e397) len_map ?_
 conv=>whnf
 refine Both.mk ?_ ?_<;>intro b398
 obtain ⟨h,b398d⟩:=ctd b398 h
 conv=>whnf
 obtain ⟨e399,he399,h⟩:=idxn_some h
 refine ⟨_,⟨(by omega),map_at he399,rfl⟩,?_⟩
 conv=>whnf
 obtain ⟨e400,he400,h⟩:=idxn_some h
 refine ⟨_,⟨(by omega),map_at he400,rfl⟩,?_⟩
 conv=>whnf
 refine Both.mk ?_ ?_<;>intro b401
 obtain ⟨h,b401d⟩:=ctd b401 h
 conv=>whnf
 obtain ⟨c402,h⟩:=chk_some h
 refine Arith.mk c402 ?_
 conv=>whnf
 obtain ⟨c403,h⟩:=chk_some h
 refine Arith.mk c403 ?_
 conv=>whnf
 cases h
 exact Nxt.mk _ ho396 (eA [])
 obtain ⟨h,b401d⟩:=cfd b401 h
 conv=>whnf
 obtain ⟨c404,h⟩:=chk_some h
 refine Arith.mk c404 ?_
 conv=>whnf
 cases h
 exact Nxt.mk _ ho396 (eA [])
 obtain ⟨h,b398d⟩:=cfd b398 h
 conv=>whnf
 cases h
 have ho396:_=_:=ho396
 cases ho396
 exact Join.mk (eA [])
 replace h:=hk353
 conv=>whnf
 refine Arith.mk (by show inR _;unfold inR;omega) ?_
 conv=>whnf
 cases h
 exact Nxt.mk _ ho351 (eA [])
 obtain ⟨h,b352d⟩:=cfd b352 h
 conv=>whnf
 cases h
 have ho351:_=_:=ho351
 cases ho351
 exact Join.mk (eA [])
 replace h:=hk83
 conv=>whnf
 obtain ⟨y412,hc,hk406⟩:=bind_some h
 clear h
 have h:=hc
 clear hc
 refine Cut.mk (mkSt [(6,.im (nB y412))] [] []) (True) (hT) ?_ (fun hp=>?_)
 conv=>whnf
 refine Both.mk ?_ ?_<;>intro b413
 replace b413:=beq_tt b413
 obtain ⟨h,b413d⟩:=ctd b413 h
 conv=>whnf
 iterate 3 (refine Both.yes (tt_beq b413) ?_;(conv=>whnf))
 refine Both.mk ?_ ?_<;>intro b414
 replace b414:=beq_ff b414
 obtain ⟨h,b414d⟩:=cfd b414 h
 conv=>whnf
 refine Both.yes (tt_beq b413) ?_
 conv=>whnf
 refine Both.no b414 ?_
 conv=>whnf
 refine Both.yes b413 ?_
 conv=>whnf
 refine Both.mk ?_ ?_<;>intro b416
 replace b416:=beq_tt b416
 replace h:=cond_t b416 h
 conv=>whnf
 obtain ⟨c417,hc417,h⟩:=bind_some h
 refine ⟨_,(sp_L36_awake  c417 (hc417)),?_⟩
 conv=>whnf
 refine Both.yes b416 ?_
 conv=>whnf
 cases h
 exact Join.mk (eA [])
 replace b416:=beq_tf b416
 replace h:=cond_f b416 h
 conv=>whnf
 refine Both.no b416 ?_
 conv=>whnf
 cases h
 exact Join.mk (eA [])
 replace b414:=beq_ft b414
 obtain ⟨h,b414d⟩:=ctd b414 h
 conv=>whnf
 refine Both.yes (tt_beq b413) ?_
 conv=>whnf
 refine Both.yes b414 ?_
 conv=>whnf
 refine Both.yes b413 ?_
 conv=>whnf
 refine Both.yes rfl ?_
 conv=>whnf
 obtain ⟨c415,hc415,h⟩:=bind_some h
 refine ⟨_,(sp_L36_awake  c415 (hc415)),?_⟩
 conv=>whnf
 refine Both.yes rfl ?_
 conv=>whnf
 cases h
 exact Join.mk (eA [])
 replace b413:=beq_tf b413
 obtain ⟨h,b413d⟩:=cfd b413 h
 conv=>whnf
 iterate 4 (refine Both.no (ft_beq b413) ?_;(conv=>whnf))
 refine Both.no b413 ?_
 conv=>whnf
 iterate 2 (refine Both.no rfl ?_;(conv=>whnf))
 cases h
 exact Join.mk (eA [])
 replace h:=hk406
 conv=>whnf
 cases h
 conv=>whnf
 exact ⟨rfl,rfl⟩
end Go.Proofs.YtkeplokjplkcmaaGreat.Sym
