/-
  The contracts of the functions, read from the code by a program (ext.py): each function has its plain twin as its contract.
-/
import Derived.Test.YtkfaepfljlphoaaGreatM5
set_option linter.all false
namespace Go.Proofs.YtkfaepfljlphoaaGreat.Sym
open Go.RowKit
set_option maxRecDepth 100000
set_option linter.unusedVariables false
set_option maxHeartbeats 4000000
theorem sp_R06_row (m_:T_api_Mealy) (s_:Int) (r:Int) (h:Ok (.agg (c_api_Mealy m_))→Ok (nI s_)→R06_row m_ s_=some r):Sp Tryz.prog 84 [.im (.agg (c_api_Mealy m_)),.im (nI s_)] (.im (nI r)):=by
 refine sp_of rfl [700002] rfl rfl rfl (Nat.le_of_ble_eq_true rfl) rfl fun hk=>?_
 replace h:=h hk.1 hk.2.1
 have z1:lZ m_.Next:=ok_len (Ok.agg_at hk.1 2 rfl)
 have z2:lZ m_.Out:=ok_len (Ok.agg_at hk.1 3 rfl)
 unfold R06_row at h
 conv=>whnf
 obtain ⟨y56,hc,hk52⟩:=bind_some h
 clear h
 have h:=hc
 clear hc
 refine Cut.mk (mkSt [(1,.im (nI s_)),(2,.im (.ref (c_api_Mealy m_))),(25,.im (nB y56))] [] []) (True) (hT) ?_ (fun hp=>?_)
 conv=>whnf
 obtain ⟨e57,he57z,he57,h⟩:=idx_some h
 refine ⟨_,⟨he57z,map_at he57,rfl⟩,?_⟩
 conv=>whnf
 refine Nf.mk (List.length e57) len_map ?_
 conv=>whnf
 refine Both.mk ?_ ?_<;>intro b58
 replace b58:=beq_ff b58
 obtain ⟨h,b58d⟩:=cfd b58 h
 conv=>whnf
 iterate 3 (refine Both.yes (ff_beq b58) ?_;(conv=>whnf))
 obtain ⟨e59,he59z,he59,h⟩:=idx_some h
 refine ⟨_,⟨he59z,map_at he59,rfl⟩,?_⟩
 conv=>whnf
 iterate 2 (refine Both.yes (ff_beq b58) ?_;(conv=>whnf))
 refine Nf.mk (List.length e59) len_map ?_
 conv=>whnf
 iterate 3 (refine Both.yes (ff_beq b58) ?_;(conv=>whnf))
 refine Both.no b58 ?_
 conv=>whnf
 cases h
 exact Join.mk (eA [])
 replace b58:=beq_ft b58
 obtain ⟨h,b58d⟩:=ctd b58 h
 conv=>whnf
 iterate 8 (refine Both.no (tf_beq b58) ?_;(conv=>whnf))
 refine Both.yes b58 ?_
 conv=>whnf
 cases h
 exact Join.mk (eA [])
 replace h:=hk52
 conv=>whnf
 refine Both.mk ?_ ?_<;>intro b60
 replace h:=cond_t b60 h
 conv=>whnf
 cases h
 conv=>whnf
 exact ⟨rfl,rfl⟩
 replace h:=cond_f b60 h
 conv=>whnf
 obtain ⟨oc,hc,hk61⟩:=bind_some h
 clear h
 have h:=hc
 clear hc
 refine Cut.mkS oc (Y:=Unit) (fun (_:Unit)=>mkSt [] [] []) (fun (_:Unit)=>True) (by rintro ⟨⟩;exact (hT)) ?_ ?_
 conv=>whnf
 refine Loops.iter (fun (s:Nat)=>R06_row.s2 m_ s_ s) (fun a174=>mkSt [(1,.im (nI s_)),(2,.im (.ref (c_api_Mealy m_))),(5,.im (nI (↑a174:Int)))] [] []) (fun a174=>True) h (eA []) (by rintro a174;exact (hT)) ?_
 clear h
 rintro k a174 o hp h ho203
 replace h:R06_row.s2 m_ s_ a174=some o:=h
 unfold R06_row.s2 at h
 conv=>whnf
 refine Both.mk ?_ ?_<;>intro b204
 obtain ⟨h,b204d⟩:=ctd b204 h
 conv=>whnf
 obtain ⟨y218,hc,hk206⟩:=bind_some h
 clear h
 have h:=hc
 clear hc
 refine Cut.mk (mkSt [(1,.im (nI s_)),(2,.im (.ref (c_api_Mealy m_))),(5,.im (nI (↑a174:Int))),(76,.im (nB y218))] [] []) (True) (hT) ?_ (fun hp=>?_)
 conv=>whnf
 obtain ⟨e219,he219z,he219,h⟩:=idx_some h
 refine ⟨_,⟨he219z,map_at he219,rfl⟩,?_⟩
 conv=>whnf
 obtain ⟨e220,he220,h⟩:=idxn_some h
 refine ⟨_,⟨(by omega),map_at he220,rfl⟩,?_⟩
 conv=>whnf
 refine Both.mk ?_ ?_<;>intro b221
 replace b221:=beq_ff b221
 obtain ⟨h,b221d⟩:=cfd b221 h
 conv=>whnf
 iterate 3 (refine Both.yes (ff_beq b221) ?_;(conv=>whnf))
 obtain ⟨e222,he222z,he222,h⟩:=idx_some h
 refine ⟨_,⟨he222z,map_at he222,rfl⟩,?_⟩
 conv=>whnf
 iterate 3 (refine Both.yes (ff_beq b221) ?_;(conv=>whnf))
 obtain ⟨e223,he223,h⟩:=idxn_some h
 refine ⟨_,⟨(by omega),map_at he223,rfl⟩,?_⟩
 conv=>whnf
 iterate 4 (refine Both.yes (ff_beq b221) ?_;(conv=>whnf))
 refine Nf.mk (List.length m_.Next) len_map ?_
 conv=>whnf
 refine Both.yes (ff_beq b221) ?_
 conv=>whnf
 refine Both.no b221 ?_
 conv=>whnf
 refine Both.mk ?_ ?_<;>intro b224
 replace b224:=beq_ff b224
 obtain ⟨h,b224d⟩:=cfd b224 h
 conv=>whnf
 iterate 3 (refine Both.yes (ff_beq b224) ?_;(conv=>whnf))
 obtain ⟨e225,he225z,he225,h⟩:=idx_some h
 refine ⟨_,⟨he225z,map_at he225,rfl⟩,?_⟩
 conv=>whnf
 iterate 3 (refine Both.yes (ff_beq b224) ?_;(conv=>whnf))
 obtain ⟨e226,he226,h⟩:=idxn_some h
 refine ⟨_,⟨(by omega),map_at he226,rfl⟩,?_⟩
 conv=>whnf
 iterate 2 (refine Both.yes (ff_beq b224) ?_;(conv=>whnf))
 refine Both.no b224 ?_
 conv=>whnf
 refine Both.mk ?_ ?_<;>intro b227
 replace b227:=beq_ff b227
 obtain ⟨h,b227d⟩:=cfd b227 h
 conv=>whnf
 iterate 3 (refine Both.yes (ff_beq b227) ?_;(conv=>whnf))
 obtain ⟨e228,he228z,he228,h⟩:=idx_some h
 refine ⟨_,⟨he228z,map_at he228,rfl⟩,?_⟩
 conv=>whnf
 iterate 3 (refine Both.yes (ff_beq b227) ?_;(conv=>whnf))
 obtain ⟨e229,he229,h⟩:=idxn_some h
 refine ⟨_,⟨(by omega),map_at he229,rfl⟩,?_⟩
 conv=>whnf
 iterate 2 (refine Both.yes (ff_beq b227) ?_;(conv=>whnf))
 refine Both.no b227 ?_
 conv=>whnf
 cases h
 exact Join.mk (eA [])
 replace b227:=beq_ft b227
 obtain ⟨h,b227d⟩:=ctd b227 h
 conv=>whnf
 iterate 8 (refine Both.no (tf_beq b227) ?_;(conv=>whnf))
 refine Both.yes b227 ?_
 conv=>whnf
 cases h
 exact Join.mk (eA [])
 replace b224:=beq_ft b224
 obtain ⟨h,b224d⟩:=ctd b224 h
 conv=>whnf
 iterate 8 (refine Both.no (tf_beq b224) ?_;(conv=>whnf))
 refine Both.yes b224 ?_
 conv=>whnf
 iterate 9 (refine Both.no rfl ?_;(conv=>whnf))
 refine Both.yes rfl ?_
 conv=>whnf
 cases h
 exact Join.mk (eA [])
 replace b221:=beq_ft b221
 obtain ⟨h,b221d⟩:=ctd b221 h
 conv=>whnf
 iterate 11 (refine Both.no (tf_beq b221) ?_;(conv=>whnf))
 refine Both.yes b221 ?_
 conv=>whnf
 iterate 9 (refine Both.no rfl ?_;(conv=>whnf))
 refine Both.yes rfl ?_
 conv=>whnf
 iterate 9 (refine Both.no rfl ?_;(conv=>whnf))
 refine Both.yes rfl ?_
 conv=>whnf
 cases h
 exact Join.mk (eA [])
 replace h:=hk206
 conv=>whnf
 refine Both.mk ?_ ?_<;>intro b230
 replace h:=cond_t b230 h
 conv=>whnf
 cases h
 have ho203:_=_:=ho203
 cases ho203
 replace h:some _=some _:=hk61
 cases h
 conv=>whnf
 exact ⟨rfl,rfl⟩
 replace h:=cond_f b230 h
 conv=>whnf
 obtain ⟨c231,h⟩:=chk_some h
 refine Arith.mk c231 ?_
 conv=>whnf
 cases h
 exact Nxt.mk _ ho203 (eA [])
 obtain ⟨h,b204d⟩:=cfd b204 h
 conv=>whnf
 cases h
 have ho203:_=_:=ho203
 cases ho203
 exact JoinS.mk' _ rfl (eA [])
 rintro ⟨⟩ rfl hp
 replace h:=sum_inl hk61
 conv=>whnf
 cases h
 conv=>whnf
 exact ⟨rfl,rfl⟩
theorem sp_R06_Valid (m_:T_api_Mealy) (r:Int) (h:Ok (.agg (c_api_Mealy m_))→R06_Valid m_=some r):Sp Tryz.prog 51 [.im (.agg (c_api_Mealy m_))] (.im (nI r)):=by
 refine sp_of rfl [700001] rfl rfl rfl (Nat.le_of_ble_eq_true rfl) rfl fun hk=>?_
 replace h:=h hk.1
 have z1:lZ m_.Next:=ok_len (Ok.agg_at hk.1 2 rfl)
 have z2:lZ m_.Out:=ok_len (Ok.agg_at hk.1 3 rfl)
 unfold R06_Valid at h
 conv=>whnf
 obtain ⟨y54,hc,hk52⟩:=bind_some h
 clear h
 have h:=hc
 clear hc
 refine Cut.mk (mkSt [(1,.im (.ref (c_api_Mealy m_))),(12,.im (nB y54))] [] []) (True) (hT) ?_ (fun hp=>?_)
 conv=>whnf
 refine Both.mk ?_ ?_<;>intro b55
 replace b55:=beq_ff b55
 obtain ⟨h,b55d⟩:=cfd b55 h
 conv=>whnf
 iterate 2 (refine Both.yes (ff_beq b55) ?_;(conv=>whnf))
 refine Both.no b55 ?_
 conv=>whnf
 cases h
 exact Join.mk (eA [])
 replace b55:=beq_ft b55
 obtain ⟨h,b55d⟩:=ctd b55 h
 conv=>whnf
 iterate 2 (refine Both.no (tf_beq b55) ?_;(conv=>whnf))
 refine Both.yes b55 ?_
 conv=>whnf
 cases h
 exact Join.mk (eA [])
 replace h:=hk52
 conv=>whnf
 refine Both.mk ?_ ?_<;>intro b56
 replace h:=cond_t b56 h
 conv=>whnf
 cases h
 conv=>whnf
 exact ⟨rfl,rfl⟩
 replace h:=cond_f b56 h
 conv=>whnf
 refine Nf.mk (List.length m_.Next) len_map ?_
 conv=>whnf
 refine Both.mk ?_ ?_<;>intro b57
 obtain ⟨h,b57d⟩:=ctd b57 h
 conv=>whnf
 cases h
 conv=>whnf
 exact ⟨rfl,rfl⟩
 obtain ⟨h,b57d⟩:=cfd b57 h
 conv=>whnf
 refine Nf.mk (List.length m_.Next) len_map ?_
 conv=>whnf
 refine Both.mk ?_ ?_<;>intro b58
 obtain ⟨h,b58d⟩:=ctd b58 h
 conv=>whnf
 cases h
 conv=>whnf
 exact ⟨rfl,rfl⟩
 obtain ⟨h,b58d⟩:=cfd b58 h
 conv=>whnf
 obtain ⟨y62,hc,hk60⟩:=bind_some h
 clear h
 have h:=hc
 clear hc
 refine Cut.mk (mkSt [(1,.im (.ref (c_api_Mealy m_))),(31,.im (nB y62))] [] []) (True) (hT) ?_ (fun hp=>?_)
 conv=>whnf
 refine Both.mk ?_ ?_<;>intro b63
 replace b63:=beq_ff b63
 obtain ⟨h,b63d⟩:=cfd b63 h
 conv=>whnf
 iterate 4 (refine Both.yes (ff_beq b63) ?_;(conv=>whnf))
 refine Nf.mk (List.length m_.Next) len_map ?_
 conv=>whnf
 refine Both.yes (ff_beq b63) ?_
 conv=>whnf
 refine Both.no b63 ?_
 conv=>whnf
 cases h
 exact Join.mk (eA [])
 replace b63:=beq_ft b63
 obtain ⟨h,b63d⟩:=ctd b63 h
 conv=>whnf
 iterate 5 (refine Both.no (tf_beq b63) ?_;(conv=>whnf))
 refine Both.yes b63 ?_
 conv=>whnf
 cases h
 exact Join.mk (eA [])
 replace h:=hk60
 conv=>whnf
 refine Both.mk ?_ ?_<;>intro b64
 replace h:=cond_t b64 h
 conv=>whnf
 cases h
 conv=>whnf
 exact ⟨rfl,rfl⟩
 replace h:=cond_f b64 h
 conv=>whnf
 refine Nf.mk (List.length m_.Out) len_map ?_
 conv=>whnf
 refine Nf.mk (List.length m_.Next) len_map ?_
 conv=>whnf
 refine Both.mk ?_ ?_<;>intro b65
 obtain ⟨h,b65d⟩:=ctd b65 h
 conv=>whnf
 cases h
 conv=>whnf
 exact ⟨rfl,rfl⟩
 obtain ⟨h,b65d⟩:=cfd b65 h
 conv=>whnf
 obtain ⟨oc,hc,hk66⟩:=bind_some h
 clear h
 have h:=hc
 clear hc
 refine Cut.mkS oc (Y:=Unit) (fun (_:Unit)=>mkSt [] [] []) (fun (_:Unit)=>True) (by rintro ⟨⟩;exact (hT)) ?_ ?_
 conv=>whnf
 refine Loops.iter (fun (s:Nat)=>R06_Valid.s2 m_ s) (fun s81=>mkSt [(1,.im (.ref (c_api_Mealy m_))),(3,.im (nI (↑s81:Int)))] [] []) (fun s81=>True) h (eA []) (by rintro s81;exact (hT)) ?_
 clear h
 rintro k s81 o hp h ho85
 replace h:R06_Valid.s2 m_ s81=some o:=h
 unfold R06_Valid.s2 at h
 conv=>whnf
 refine Nf.mk (List.length m_.Next) len_map ?_
 conv=>whnf
 refine Both.mk ?_ ?_<;>intro b86
 obtain ⟨h,b86d⟩:=ctd b86 h
 conv=>whnf
 obtain ⟨c87,hc87,h⟩:=bind_some h
 refine ⟨_,(sp_R06_row m_ (↑s81:Int) c87 (fun _ _=>hc87)),?_⟩
 conv=>whnf
 refine Both.mk ?_ ?_<;>intro b88
 obtain ⟨h,b88d⟩:=ctd b88 h
 conv=>whnf
 cases h
 have ho85:_=_:=ho85
 cases ho85
 replace h:some _=some _:=hk66
 cases h
 conv=>whnf
 exact ⟨rfl,rfl⟩
 obtain ⟨h,b88d⟩:=cfd b88 h
 conv=>whnf
 refine Arith.mk (by show inR _;unfold inR;omega) ?_
 conv=>whnf
 cases h
 exact Nxt.mk _ ho85 (eA [])
 obtain ⟨h,b86d⟩:=cfd b86 h
 conv=>whnf
 cases h
 have ho85:_=_:=ho85
 cases ho85
 exact JoinS.mk' _ rfl (eA [])
 rintro ⟨⟩ rfl hp
 replace h:=sum_inl hk66
 conv=>whnf
 cases h
 conv=>whnf
 exact ⟨rfl,rfl⟩
theorem sp_R06_From (m_:T_api_Mealy) (s_:Int) (w_:List Int) (r:List Int×Int×Int) (h:Ok (.agg (c_api_Mealy m_))→Ok (nI s_)→Ok (nL cI w_)→R06_From m_ s_ w_=some r):Sp Tryz.prog 111 [.im (.agg (c_api_Mealy m_)),.im (nI s_),.im (nL cI w_)] (.tup [nL cI r.1,nI r.2.1,nI r.2.2]):=by
 refine sp_of rfl [700003] rfl rfl rfl (Nat.le_of_ble_eq_true rfl) rfl fun hk=>?_
 replace h:=h hk.1 hk.2.1 hk.2.2.1
 have z1:lZ m_.Next:=ok_len (Ok.agg_at hk.1 2 rfl)
 have z2:lZ m_.Out:=ok_len (Ok.agg_at hk.1 3 rfl)
 have z3:lZ w_:=ok_len hk.2.2.1
 unfold R06_From at h
 conv=>whnf
 obtain ⟨c51,hc51,h⟩:=bind_some h
 refine ⟨_,(sp_R06_Valid m_ c51 (fun _=>hc51)),?_⟩
 conv=>whnf
 refine Both.mk ?_ ?_<;>intro b52
 obtain ⟨h,b52d⟩:=ctd b52 h
 conv=>whnf
 cases h
 conv=>whnf
 exact ⟨rfl,rfl⟩
 obtain ⟨h,b52d⟩:=cfd b52 h
 conv=>whnf
 obtain ⟨y56,hc,hk54⟩:=bind_some h
 clear h
 have h:=hc
 clear hc
 refine Cut.mk (mkSt [(1,.im (nI s_)),(2,.im (nL cI w_)),(3,.im (.ref (c_api_Mealy m_))),(26,.im (nB y56))] [] []) (lZ w_∧True) ((Holds.avl 2 rfl).and (hT)) ?_ (fun hp=>?_)
 conv=>whnf
 refine Both.mk ?_ ?_<;>intro b57
 replace b57:=beq_ff b57
 obtain ⟨h,b57d⟩:=cfd b57 h
 conv=>whnf
 iterate 3 (refine Both.yes (ff_beq b57) ?_;(conv=>whnf))
 refine Nf.mk (List.length m_.Next) len_map ?_
 conv=>whnf
 refine Both.yes (ff_beq b57) ?_
 conv=>whnf
 refine Both.no b57 ?_
 conv=>whnf
 cases h
 exact Join.mk (eA [])
 replace b57:=beq_ft b57
 obtain ⟨h,b57d⟩:=ctd b57 h
 conv=>whnf
 iterate 4 (refine Both.no (tf_beq b57) ?_;(conv=>whnf))
 refine Both.yes b57 ?_
 conv=>whnf
 cases h
 exact Join.mk (eA [])
 replace h:=hk54
 obtain ⟨z58,_⟩:=hp
 conv=>whnf
 refine Both.mk ?_ ?_<;>intro b59
 replace h:=cond_t b59 h
 conv=>whnf
 cases h
 conv=>whnf
 exact ⟨rfl,rfl⟩
 replace h:=cond_f b59 h
 conv=>whnf
 obtain ⟨c60,hc60,h⟩:=bind_some h
 refine ⟨_,(sp_R01_Check w_ m_.Inputs c60 (fun _ _=>hc60)),?_⟩
 conv=>whnf
 refine Both.mk ?_ ?_<;>intro b61
 obtain ⟨h,b61d⟩:=ctd b61 h
 conv=>whnf
 cases h
 conv=>whnf
 exact ⟨rfl,rfl⟩
 obtain ⟨h,b61d⟩:=cfd b61 h
 conv=>whnf
 obtain ⟨c62,hc62,h⟩:=bind_some h
 refine ⟨_,(sp_R06_Outs m_ s_ w_ c62 (fun _ _ _=>hc62)),?_⟩
 conv=>whnf
 cases h
 conv=>whnf
 exact ⟨rfl,rfl⟩
theorem sp_R01_Common (a_:List Int) (b_:List Int) (r:Int) (h:Ok (nL cI a_)→Ok (nL cI b_)→R01_Common a_ b_=some r):Sp Tryz.prog 85 [.im (nL cI a_),.im (nL cI b_)] (.im (nI r)):=by
 refine sp_of rfl [] rfl rfl rfl (Nat.le_of_ble_eq_true rfl) rfl fun hk=>?_
 replace h:=h hk.1 hk.2.1
 have z1:lZ a_:=ok_len hk.1
 have z2:lZ b_:=ok_len hk.2.1
 unfold R01_Common at h
 conv=>whnf
 obtain ⟨i100,hc,hk51⟩:=bind_some h
 clear h
 have h:=hc
 clear hc
 refine Cut.mk (mkSt [(5,.im (nI (↑i100:Int)))] [] []) (True) (hT) ?_ (fun hp=>?_)
 conv=>whnf
 refine Loops.iter (fun (s:Nat)=>R01_Common.s2 a_ b_ s) (fun i115=>mkSt [(0,.im (nL cI a_)),(1,.im (nL cI b_)),(5,.im (nI (↑i115:Int)))] [] []) (fun i115=>lZ a_∧lZ b_∧True) h (eA []) (by rintro i115;exact ((Holds.avl 0 rfl).and ((Holds.avl 1 rfl).and (hT)))) ?_
 clear h
 rintro k i115 o hp h ho131
 replace h:R01_Common.s2 a_ b_ i115=some o:=h
 unfold R01_Common.s2 at h
 obtain ⟨z147,z148,_⟩:=hp
 conv=>whnf
 obtain ⟨y138,hc,hk133⟩:=bind_some h
 clear h
 have h:=hc
 clear hc
 refine Cut.mk (mkSt [(0,.im (nL cI a_)),(1,.im (nL cI b_)),(5,.im (nI (↑i115:Int))),(26,.im (nB y138))] [] []) (lZ a_∧lZ b_∧True) ((Holds.avl 0 rfl).and ((Holds.avl 1 rfl).and (hT))) ?_ (fun hp=>?_)
 conv=>whnf
 refine Nf.mk (List.length a_) len_map ?_
 conv=>whnf
 refine Both.mk ?_ ?_<;>intro b139
 replace b139:=beq_tt b139
 obtain ⟨h,b139d⟩:=ctd b139 h
 conv=>whnf
 iterate 2 (refine Both.yes (tt_beq b139) ?_;(conv=>whnf))
 refine Nf.mk (List.length b_) len_map ?_
 conv=>whnf
 refine Both.yes (tt_beq b139) ?_
 conv=>whnf
 refine Both.yes b139 ?_
 conv=>whnf
 refine Both.mk ?_ ?_<;>intro b140
 replace b140:=beq_tt b140
 obtain ⟨h,b140d⟩:=ctd b140 h
 conv=>whnf
 iterate 2 (refine Both.yes (tt_beq b140) ?_;(conv=>whnf))
 obtain ⟨e141,he141,h⟩:=idxn_some h
 refine ⟨_,⟨(by omega),map_at he141,rfl⟩,?_⟩
 conv=>whnf
 iterate 4 (refine Both.yes (tt_beq b140) ?_;(conv=>whnf))
 obtain ⟨e142,he142,h⟩:=idxn_some h
 refine ⟨_,⟨(by omega),map_at he142,rfl⟩,?_⟩
 conv=>whnf
 iterate 2 (refine Both.yes (tt_beq b140) ?_;(conv=>whnf))
 refine Both.yes b140 ?_
 conv=>whnf
 cases h
 exact Join.mk (eA [])
 replace b140:=beq_tf b140
 obtain ⟨h,b140d⟩:=cfd b140 h
 conv=>whnf
 iterate 8 (refine Both.no (ft_beq b140) ?_;(conv=>whnf))
 refine Both.no b140 ?_
 conv=>whnf
 cases h
 exact Join.mk (eA [])
 replace b139:=beq_tf b139
 obtain ⟨h,b139d⟩:=cfd b139 h
 conv=>whnf
 iterate 3 (refine Both.no (ft_beq b139) ?_;(conv=>whnf))
 refine Both.no b139 ?_
 conv=>whnf
 iterate 10 (refine Both.no rfl ?_;(conv=>whnf))
 cases h
 exact Join.mk (eA [])
 replace h:=hk133
 obtain ⟨z143,z144,_⟩:=hp
 conv=>whnf
 refine Both.mk ?_ ?_<;>intro b145
 replace h:=cond_t b145 h
 conv=>whnf
 obtain ⟨c146,h⟩:=chk_some h
 refine Arith.mk c146 ?_
 conv=>whnf
 cases h
 exact Nxt.mk _ ho131 (eA [])
 replace h:=cond_f b145 h
 conv=>whnf
 cases h
 have ho131:_=_:=ho131
 cases ho131
 exact Join.mk (eA [])
 replace h:=hk51
 conv=>whnf
 cases h
 conv=>whnf
 exact ⟨rfl,rfl⟩
theorem sp_R01_Lex (a_:List Int) (b_:List Int) (r:Int) (h:Ok (nL cI a_)→Ok (nL cI b_)→R01_Lex a_ b_=some r):Sp Tryz.prog 151 [.im (nL cI a_),.im (nL cI b_)] (.im (nI r)):=by
 refine sp_of rfl [] rfl rfl rfl (Nat.le_of_ble_eq_true rfl) rfl fun hk=>?_
 replace h:=h hk.1 hk.2.1
 have z1:lZ a_:=ok_len hk.1
 have z2:lZ b_:=ok_len hk.2.1
 unfold R01_Lex at h
 conv=>whnf
 obtain ⟨c51,hc51,h⟩:=bind_some h
 refine ⟨_,(sp_R01_Common a_ b_ c51 (fun _ _=>hc51)),?_⟩
 conv=>whnf
 obtain ⟨y55,hc,hk53⟩:=bind_some h
 clear h
 have h:=hc
 clear hc
 refine Cut.mk (mkSt [(0,.im (nL cI a_)),(1,.im (nL cI b_)),(5,.im (nI c51)),(9,.im (nB y55))] [] []) (lZ a_∧lZ b_∧True) ((Holds.avl 0 rfl).and ((Holds.avl 1 rfl).and (hT))) ?_ (fun hp=>?_)
 conv=>whnf
 refine Nf.mk (List.length a_) len_map ?_
 conv=>whnf
 refine Both.mk ?_ ?_<;>intro b56
 replace b56:=beq_tt b56
 obtain ⟨h,b56d⟩:=ctd b56 h
 conv=>whnf
 iterate 2 (refine Both.yes (tt_beq b56) ?_;(conv=>whnf))
 refine Nf.mk (List.length b_) len_map ?_
 conv=>whnf
 refine Both.yes (tt_beq b56) ?_
 conv=>whnf
 refine Both.yes b56 ?_
 conv=>whnf
 cases h
 exact Join.mk (eA [])
 replace b56:=beq_tf b56
 obtain ⟨h,b56d⟩:=cfd b56 h
 conv=>whnf
 iterate 3 (refine Both.no (ft_beq b56) ?_;(conv=>whnf))
 refine Both.no b56 ?_
 conv=>whnf
 cases h
 exact Join.mk (eA [])
 replace h:=hk53
 obtain ⟨z57,z58,_⟩:=hp
 conv=>whnf
 refine Both.mk ?_ ?_<;>intro b59
 replace h:=cond_t b59 h
 conv=>whnf
 cases h
 conv=>whnf
 exact ⟨rfl,rfl⟩
 replace h:=cond_f b59 h
 conv=>whnf
 obtain ⟨y66,hc,hk61⟩:=bind_some h
 clear h
 have h:=hc
 clear hc
 refine Cut.mk (mkSt [(20,.im (nB y66))] [] []) (True) (hT) ?_ (fun hp=>?_)
 conv=>whnf
 refine Nf.mk (List.length a_) len_map ?_
 conv=>whnf
 refine Both.mk ?_ ?_<;>intro b67
 obtain ⟨h,b67d⟩:=ctd b67 h
 conv=>whnf
 cases h
 exact Join.mk (eA [])
 obtain ⟨h,b67d⟩:=cfd b67 h
 conv=>whnf
 refine Nf.mk (List.length b_) len_map ?_
 conv=>whnf
 refine Both.mk ?_ ?_<;>intro b68
 replace b68:=beq_tt b68
 obtain ⟨h,b68d⟩:=ctd b68 h
 conv=>whnf
 iterate 2 (refine Both.yes (tt_beq b68) ?_;(conv=>whnf))
 obtain ⟨e69,he69z,he69,h⟩:=idx_some h
 refine ⟨_,⟨he69z,map_at he69,rfl⟩,?_⟩
 conv=>whnf
 iterate 4 (refine Both.yes (tt_beq b68) ?_;(conv=>whnf))
 obtain ⟨e70,he70z,he70,h⟩:=idx_some h
 refine ⟨_,⟨he70z,map_at he70,rfl⟩,?_⟩
 conv=>whnf
 iterate 2 (refine Both.yes (tt_beq b68) ?_;(conv=>whnf))
 refine Both.yes b68 ?_
 conv=>whnf
 cases h
 exact Join.mk (eA [])
 replace b68:=beq_tf b68
 obtain ⟨h,b68d⟩:=cfd b68 h
 conv=>whnf
 iterate 8 (refine Both.no (ft_beq b68) ?_;(conv=>whnf))
 refine Both.no b68 ?_
 conv=>whnf
 cases h
 exact Join.mk (eA [])
 replace h:=hk61
 conv=>whnf
 refine Both.mk ?_ ?_<;>intro b71
 replace h:=cond_t b71 h
 conv=>whnf
 cases h
 conv=>whnf
 exact ⟨rfl,rfl⟩
 replace h:=cond_f b71 h
 conv=>whnf
 cases h
 conv=>whnf
 exact ⟨rfl,rfl⟩
theorem sp_R01_Compare (a_:List Int) (b_:List Int) (r:Int) (h:Ok (nL cI a_)→Ok (nL cI b_)→R01_Compare a_ b_=some r):Sp Tryz.prog 145 [.im (nL cI a_),.im (nL cI b_)] (.im (nI r)):=by
 refine sp_of rfl [] rfl rfl rfl (Nat.le_of_ble_eq_true rfl) rfl fun hk=>?_
 replace h:=h hk.1 hk.2.1
 have z1:lZ a_:=ok_len hk.1
 have z2:lZ b_:=ok_len hk.2.1
 unfold R01_Compare at h
 conv=>whnf
 refine Nf.mk (List.length a_) len_map ?_
 conv=>whnf
 refine Nf.mk (List.length b_) len_map ?_
 conv=>whnf
 refine Both.mk ?_ ?_<;>intro b51
 obtain ⟨h,b51d⟩:=ctd b51 h
 conv=>whnf
 cases h
 conv=>whnf
 exact ⟨rfl,rfl⟩
 obtain ⟨h,b51d⟩:=cfd b51 h
 conv=>whnf
 refine Nf.mk (List.length a_) len_map ?_
 conv=>whnf
 refine Nf.mk (List.length b_) len_map ?_
 conv=>whnf
 refine Both.mk ?_ ?_<;>intro b52
 obtain ⟨h,b52d⟩:=ctd b52 h
 conv=>whnf
 cases h
 conv=>whnf
 exact ⟨rfl,rfl⟩
 obtain ⟨h,b52d⟩:=cfd b52 h
 conv=>whnf
 obtain ⟨c53,hc53,h⟩:=bind_some h
 refine ⟨_,(sp_R01_Lex a_ b_ c53 (fun _ _=>hc53)),?_⟩
 conv=>whnf
 cases h
 conv=>whnf
 exact ⟨rfl,rfl⟩
theorem sp_R02_place (l_:List (List Int)) (w_:List Int) (r:Int) (h:Ok (nL (cL cI) l_)→Ok (nL cI w_)→R02_place l_ w_=some r):Sp Tryz.prog 129 [.im (nL (cL cI) l_),.im (nL cI w_)] (.im (nI r)):=by
 refine sp_of rfl [] rfl rfl rfl (Nat.le_of_ble_eq_true rfl) rfl fun hk=>?_
 replace h:=h hk.1 hk.2.1
 have z1:lZ l_:=ok_len hk.1
 have z2:lZ w_:=ok_len hk.2.1
 unfold R02_place at h
 conv=>whnf
 refine Nf.mk (List.length l_) len_map ?_
 conv=>whnf
 obtain ⟨low77,hc,hk51⟩:=bind_some h
 clear h
 have h:=hc
 clear hc
 refine Cut.mk (mkSt [(5,.im (nI (↑low77:Int)))] [] []) (True) (hT) ?_ (fun hp=>?_)
 conv=>whnf
 refine Loops.iter (fun (s:Nat×Nat)=>R02_place.s2 l_ w_ s.1 s.2) (fun (low84,high85)=>mkSt [(0,.im (nL (cL cI) l_)),(1,.im (nL cI w_)),(5,.im (nI (↑low84:Int))),(6,.im (nI (↑high85:Int)))] [] []) (fun (low84,high85)=>lZ l_∧lZ w_∧True) h (eA []) (by rintro ⟨low84,high85⟩;exact ((Holds.avl 0 rfl).and ((Holds.avl 1 rfl).and (hT)))) ?_
 clear h
 rintro k ⟨low84,high85⟩ o hp h ho93
 replace h:R02_place.s2 l_ w_ low84 high85=some o:=h
 unfold R02_place.s2 at h
 obtain ⟨z101,z102,_⟩:=hp
 conv=>whnf
 refine Both.mk ?_ ?_<;>intro b94
 obtain ⟨h,b94d⟩:=ctd b94 h
 conv=>whnf
 obtain ⟨c95,h⟩:=chk_some h
 refine Arith.mk c95 ?_
 conv=>whnf
 obtain ⟨c96,h⟩:=chk_some h
 refine Side.mk c96 ?_
 conv=>whnf
 obtain ⟨e97,he97,h⟩:=idxn_some h
 refine ⟨_,⟨(by omega),map_at he97,rfl⟩,?_⟩
 conv=>whnf
 obtain ⟨c98,hc98,h⟩:=bind_some h
 refine ⟨_,(sp_R01_Compare e97 w_ c98 (fun _ _=>hc98)),?_⟩
 conv=>whnf
 refine Both.mk ?_ ?_<;>intro b99
 obtain ⟨h,b99d⟩:=ctd b99 h
 conv=>whnf
 obtain ⟨c100,h⟩:=chk_some h
 refine Arith.mk c100 ?_
 conv=>whnf
 cases h
 exact Nxt.mk _ ho93 (eA [])
 obtain ⟨h,b99d⟩:=cfd b99 h
 conv=>whnf
 cases h
 exact Nxt.mk _ ho93 (eA [])
 obtain ⟨h,b94d⟩:=cfd b94 h
 conv=>whnf
 cases h
 have ho93:_=_:=ho93
 cases ho93
 exact Join.mk (eA [])
 replace h:=hk51
 conv=>whnf
 cases h
 conv=>whnf
 exact ⟨rfl,rfl⟩
theorem sp_R01_Same (a_:List Int) (b_:List Int) (r:Bool) (h:Ok (nL cI a_)→Ok (nL cI b_)→R01_Same a_ b_=some r):Sp Tryz.prog 130 [.im (nL cI a_),.im (nL cI b_)] (.im (nB r)):=by
 refine sp_of rfl [] rfl rfl rfl (Nat.le_of_ble_eq_true rfl) rfl fun hk=>?_
 replace h:=h hk.1 hk.2.1
 have z1:lZ a_:=ok_len hk.1
 have z2:lZ b_:=ok_len hk.2.1
 unfold R01_Same at h
 conv=>whnf
 obtain ⟨y55,hc,hk52⟩:=bind_some h
 clear h
 have h:=hc
 clear hc
 refine Cut.mk (mkSt [(4,.im (nB y55))] [] []) (True) (hT) ?_ (fun hp=>?_)
 conv=>whnf
 refine Nf.mk (List.length a_) len_map ?_
 conv=>whnf
 refine Nf.mk (List.length b_) len_map ?_
 conv=>whnf
 refine Both.mk ?_ ?_<;>intro b56
 replace b56:=beq_tt b56
 obtain ⟨h,b56d⟩:=ctd b56 h
 conv=>whnf
 iterate 2 (refine Both.yes (tt_beq b56) ?_;(conv=>whnf))
 obtain ⟨c57,hc57,h⟩:=bind_some h
 refine ⟨_,(sp_R01_Common a_ b_ c57 (fun _ _=>hc57)),?_⟩
 conv=>whnf
 iterate 2 (refine Both.yes (tt_beq b56) ?_;(conv=>whnf))
 refine Nf.mk (List.length a_) len_map ?_
 conv=>whnf
 refine Both.yes (tt_beq b56) ?_
 conv=>whnf
 refine Both.yes b56 ?_
 conv=>whnf
 cases h
 exact Join.mk (eA [])
 replace b56:=beq_tf b56
 obtain ⟨h,b56d⟩:=cfd b56 h
 conv=>whnf
 iterate 5 (refine Both.no (ft_beq b56) ?_;(conv=>whnf))
 refine Both.no b56 ?_
 conv=>whnf
 cases h
 exact Join.mk (eA [])
 replace h:=hk52
 conv=>whnf
 cases h
 conv=>whnf
 exact ⟨rfl,rfl⟩
theorem sp_R02_with (l_:List (List Int)) (w_:List Int) (r:List (List Int)) (h:OkL (List.map (cL cI) l_)→Ok (nL cI w_)→R02_with l_ w_=some r):Sp Tryz.prog 110 [.row 50 1 (List.map (cL cI) l_),.im (nL cI w_)] (.row 50 1 (List.map (cL cI) r)):=by
 refine sp_of rfl [44,500009] rfl rfl rfl (Nat.le_of_ble_eq_true rfl) rfl fun hk=>?_
 replace h:=h hk.1 hk.2.1
 have z1:lZ l_:=okl_len hk.1
 have z2:lZ w_:=ok_len hk.2.1
 unfold R02_with at h
 conv=>whnf
 refine Side.mk ⟨rfl,trivial⟩ ?_
 conv=>whnf
 obtain ⟨c51,hc51,h⟩:=bind_some h
 refine ⟨_,(sp_R02_place l_ w_ c51 (fun _ _=>hc51)),?_⟩
 conv=>whnf
 refine Side.mk flat_one ?_
 conv=>whnf
 obtain ⟨y57,hc,hk53⟩:=bind_some h
 clear h
 have h:=hc
 clear hc
 refine Cut.mk (mkSt [(0,.osl 64 1),(1,.im (nL cI w_)),(5,.im (nI c51)),(21,.im (nB y57))] [(64,.row 50 1 (List.map (cL cI) l_))] []) (lZ w_∧lZ l_∧True) ((Holds.avl 1 rfl).and ((Holds.kdl 64 rfl).and (hT))) ?_ (fun hp=>?_)
 conv=>whnf
 refine Side.mk rfl ?_
 conv=>whnf
 refine Nf.mk (List.length l_) len_map ?_
 conv=>whnf
 refine Both.mk ?_ ?_<;>intro b58
 replace b58:=beq_tt b58
 obtain ⟨h,b58d⟩:=ctd b58 h
 conv=>whnf
 iterate 2 (refine Both.yes (tt_beq b58) ?_;(conv=>whnf))
 obtain ⟨e59,he59z,he59,h⟩:=idx_some h
 refine Side.mk ⟨he59z,rfl,map_lt he59⟩ ?_
 conv=>whnf
 refine Both.yes (tt_beq b58) ?_
 conv=>whnf
 refine ⟨_,_,⟨rfl,map_at he59,rfl,rfl⟩,?_⟩
 conv=>whnf
 iterate 2 (refine Both.yes (tt_beq b58) ?_;(conv=>whnf))
 obtain ⟨c60,hc60,h⟩:=bind_some h
 refine ⟨_,(sp_R01_Same e59 w_ c60 (fun _ _=>hc60)),?_⟩
 conv=>whnf
 refine Both.yes b58 ?_
 conv=>whnf
 cases h
 exact Join.mk (eA [(64,some 0)])
 replace b58:=beq_tf b58
 obtain ⟨h,b58d⟩:=cfd b58 h
 conv=>whnf
 iterate 5 (refine Both.no (ft_beq b58) ?_;(conv=>whnf))
 refine Both.no b58 ?_
 conv=>whnf
 cases h
 exact Join.mk (eA [(64,some 0)])
 replace h:=hk53
 obtain ⟨z61,z62,_⟩:=hp
 conv=>whnf
 refine Both.mk ?_ ?_<;>intro b63
 replace h:=cond_t b63 h
 conv=>whnf
 cases h
 conv=>whnf
 exact Side.mk ⟨rfl,trivial⟩ ⟨rfl,rfl⟩
 replace h:=cond_f b63 h
 conv=>whnf
 obtain ⟨c64,h⟩:=chk_some h
 refine Side.mk ⟨rfl,map_len (l:=[[]]) (c:=cL cI) fun _=>rfl,show capOk _ 24 by simpa only [List.length_map,List.length_cons,List.length_nil,Nat.zero_add] using c64⟩ ?_
 conv=>whnf
 refine Nf.mk (List.map (cL cI) (l_++[[]])) (app_map (l:=l_) (m:=[[]]) (c:=cL cI)) ?_
 conv=>whnf
 refine Side.mk rfl ?_
 conv=>whnf
 refine Nf.mk (List.length (l_++[[]])) len_map ?_
 conv=>whnf
 obtain ⟨c65,h⟩:=chk_some h
 refine Arith.mk c65 ?_
 conv=>whnf
 obtain ⟨y87,hc,hk66⟩:=bind_some h
 clear h
 have h:=hc
 clear hc
 refine Cut.mk (mkSt [(0,.osl 64 1),(1,.im (nL cI w_)),(5,.im (nI c51))] [(64,.row 50 1 (List.map (cL cI) y87))] []) (lZ w_∧lZ y87∧True) ((Holds.avl 1 rfl).and ((Holds.kdl 64 rfl).and (hT))) ?_ (fun hp=>?_)
 conv=>whnf
 refine Loops.iter (fun (s:List (List Int)×Int)=>R02_with.s2 c51 s.1 s.2) (fun (y93,i94)=>mkSt [(0,.osl 64 1),(1,.im (nL cI w_)),(5,.im (nI c51)),(6,.im (nI i94))] [(64,.row 50 1 (List.map (cL cI) y93))] []) (fun (y93,i94)=>lZ w_∧lZ y93∧True) h (eA [(64,some 64)]) (by rintro ⟨y93,i94⟩;exact ((Holds.avl 1 rfl).and ((Holds.kdl 64 rfl).and (hT)))) ?_
 clear h
 rintro k ⟨y93,i94⟩ o hp h ho100
 replace h:R02_with.s2 c51 y93 i94=some o:=h
 unfold R02_with.s2 at h
 obtain ⟨z106,z107,_⟩:=hp
 conv=>whnf
 refine Both.mk ?_ ?_<;>intro b101
 obtain ⟨h,b101d⟩:=ctd b101 h
 conv=>whnf
 obtain ⟨c102,h⟩:=chk_some h
 refine Arith.mk c102 ?_
 conv=>whnf
 obtain ⟨e103,he103z,he103,h⟩:=idx_some h
 refine Side.mk ⟨he103z,rfl,map_lt he103⟩ ?_
 conv=>whnf
 refine ⟨_,_,⟨rfl,map_at he103,rfl,rfl⟩,?_⟩
 conv=>whnf
 obtain ⟨e104,he104z,he104,h⟩:=idx_some h
 refine Side.mk ⟨he104z,rfl,map_lt he104⟩ ?_
 conv=>whnf
 refine Side.mk ⟨rfl,trivial⟩ ?_
 conv=>whnf
 refine ⟨_,map_at he104,?_⟩
 conv=>whnf
 refine Nf.mk (List.map (cL cI) (List.set y93 i94.toNat e103)) (set_map rfl) ?_
 conv=>whnf
 obtain ⟨c105,h⟩:=chk_some h
 refine Arith.mk c105 ?_
 conv=>whnf
 cases h
 exact Nxt.mk _ ho100 (eA [(64,some 64)])
 obtain ⟨h,b101d⟩:=cfd b101 h
 conv=>whnf
 cases h
 have ho100:_=_:=ho100
 cases ho100
 exact Join.mk (eA [(64,some 64)])
 replace h:=hk66
 obtain ⟨z108,z109,_⟩:=hp
 conv=>whnf
 obtain ⟨c110,h⟩:=chk_some h
 refine Side.mk ⟨rfl,map_len (l:=w_) (c:=cI) fun _=>rfl,show capOk _ 8 by simpa only [List.length_map,List.length_cons,List.length_nil,Nat.zero_add] using c110⟩ ?_
 conv=>whnf
 refine Nf.mk (List.map cI ([]++w_)) (app_map (l:=[]) (m:=w_) (c:=cI)) ?_
 conv=>whnf
 obtain ⟨e111,he111z,he111,h⟩:=idx_some h
 refine Side.mk ⟨he111z,rfl,map_lt he111⟩ ?_
 conv=>whnf
 refine Side.mk ⟨rfl,rfl,trivial⟩ ?_
 conv=>whnf
 refine ⟨_,map_at he111,?_⟩
 conv=>whnf
 refine Nf.mk (List.map (cL cI) (List.set y87 c51.toNat ([]++w_))) (set_map rfl) ?_
 conv=>whnf
 cases h
 conv=>whnf
 exact Side.mk ⟨rfl,trivial⟩ ⟨rfl,rfl⟩
theorem sp_R02_Sorted (l_:List (List Int)) (r:List (List Int)) (h:Ok (nL (cL cI) l_)→R02_Sorted l_=some r):Sp Tryz.prog 73 [.im (nL (cL cI) l_)] (.row 50 1 (List.map (cL cI) r)):=by
 refine sp_of rfl [17000] rfl rfl rfl (Nat.le_of_ble_eq_true rfl) rfl fun hk=>?_
 replace h:=h hk.1
 have z1:lZ l_:=ok_len hk.1
 unfold R02_Sorted at h
 conv=>whnf
 obtain ⟨y66,hc,hk51⟩:=bind_some h
 clear h
 have h:=hc
 clear hc
 refine Cut.mk (mkSt [(3,.osl 64 1)] [(64,.row 50 1 (List.map (cL cI) y66))] []) (lZ y66∧True) ((Holds.kdl 64 rfl).and (hT)) ?_ (fun hp=>?_)
 conv=>whnf
 refine Loops.iter (fun (s:List (List Int)×Nat)=>R02_Sorted.s2 l_ s.1 s.2) (fun (y70,i71)=>mkSt [(0,.im (nL (cL cI) l_)),(3,.osl 64 1),(4,.im (nI (↑i71:Int)))] [(64,.row 50 1 (List.map (cL cI) y70))] []) (fun (y70,i71)=>lZ l_∧lZ y70∧True) h (eA [(64,none)]) (by rintro ⟨y70,i71⟩;exact ((Holds.avl 0 rfl).and ((Holds.kdl 64 rfl).and (hT)))) ?_
 clear h
 rintro k ⟨y70,i71⟩ o hp h ho75
 replace h:R02_Sorted.s2 l_ y70 i71=some o:=h
 unfold R02_Sorted.s2 at h
 obtain ⟨z79,z80,_⟩:=hp
 conv=>whnf
 refine Nf.mk (List.length l_) len_map ?_
 conv=>whnf
 refine Both.mk ?_ ?_<;>intro b76
 obtain ⟨h,b76d⟩:=ctd b76 h
 conv=>whnf
 obtain ⟨e77,he77,h⟩:=idxn_some h
 refine ⟨_,⟨(by omega),map_at he77,rfl⟩,?_⟩
 conv=>whnf
 refine Side.mk ⟨rfl,trivial⟩ ?_
 conv=>whnf
 obtain ⟨c78,hc78,h⟩:=bind_some h
 refine ⟨_,(sp_R02_with y70 e77 c78 (fun _ _=>hc78)),?_⟩
 conv=>whnf
 refine Arith.mk (by show inR _;unfold inR;omega) ?_
 conv=>whnf
 cases h
 exact Nxt.mk _ ho75 (eA [(64,some 16)])
 obtain ⟨h,b76d⟩:=cfd b76 h
 conv=>whnf
 cases h
 have ho75:_=_:=ho75
 cases ho75
 exact Join.mk (eA [(64,some 64)])
 replace h:=hk51
 obtain ⟨z81,_⟩:=hp
 conv=>whnf
 cases h
 conv=>whnf
 exact Side.mk ⟨rfl,trivial⟩ ⟨rfl,rfl⟩
theorem sp_R01_HasPrefix (w_:List Int) (p_:List Int) (r:Bool) (h:Ok (nL cI w_)→Ok (nL cI p_)→R01_HasPrefix w_ p_=some r):Sp Tryz.prog 79 [.im (nL cI w_),.im (nL cI p_)] (.im (nB r)):=by
 refine sp_of rfl [] rfl rfl rfl (Nat.le_of_ble_eq_true rfl) rfl fun hk=>?_
 replace h:=h hk.1 hk.2.1
 have z1:lZ w_:=ok_len hk.1
 have z2:lZ p_:=ok_len hk.2.1
 unfold R01_HasPrefix at h
 conv=>whnf
 obtain ⟨c51,hc51,h⟩:=bind_some h
 refine ⟨_,(sp_R01_Common w_ p_ c51 (fun _ _=>hc51)),?_⟩
 conv=>whnf
 refine Nf.mk (List.length p_) len_map ?_
 conv=>whnf
 cases h
 conv=>whnf
 exact ⟨rfl,rfl⟩
theorem sp_R02_Maximal (l_:List (List Int)) (r:List (List Int)) (h:Ok (nL (cL cI) l_)→R02_Maximal l_=some r):Sp Tryz.prog 44 [.im (nL (cL cI) l_)] (.row 50 1 (List.map (cL cI) r)):=by
 refine sp_of rfl [] rfl rfl rfl (Nat.le_of_ble_eq_true rfl) rfl fun hk=>?_
 replace h:=h hk.1
 have z1:lZ l_:=ok_len hk.1
 unfold R02_Maximal at h
 conv=>whnf
 obtain ⟨c51,hc51,h⟩:=bind_some h
 refine ⟨_,(sp_R02_Sorted l_ c51 (fun _=>hc51)).im,?_⟩
 conv=>whnf
 obtain ⟨y246,hc,hk52⟩:=bind_some h
 clear h
 have h:=hc
 clear hc
 refine Cut.mk (mkSt [(4,.osl 64 1)] [(64,.row 50 1 (List.map (cL cI) y246))] []) (lZ y246∧True) ((Holds.kdl 64 rfl).and (hT)) ?_ (fun hp=>?_)
 conv=>whnf
 refine Loops.iter (fun (s:List (List Int)×Nat)=>R02_Maximal.s14 c51 s.1 s.2) (fun (y307,i308)=>mkSt [(3,.im (nL (cL cI) c51)),(4,.osl 64 1),(5,.im (nI (↑i308:Int)))] [(64,.row 50 1 (List.map (cL cI) y307))] []) (fun (y307,i308)=>lZ c51∧lZ y307∧True) h (eA [(64,none)]) (by rintro ⟨y307,i308⟩;exact ((Holds.avl 3 rfl).and ((Holds.kdl 64 rfl).and (hT)))) ?_
 clear h
 rintro k ⟨y307,i308⟩ o hp h ho373
 replace h:R02_Maximal.s14 c51 y307 i308=some o:=h
 unfold R02_Maximal.s14 at h
 obtain ⟨z438,z439,_⟩:=hp
 conv=>whnf
 refine Nf.mk (List.length c51) len_map ?_
 conv=>whnf
 refine Both.mk ?_ ?_<;>intro b374
 obtain ⟨h,b374d⟩:=ctd b374 h
 conv=>whnf
 refine Arith.mk (by show inR _;unfold inR;omega) ?_
 conv=>whnf
 obtain ⟨top404,hc,hk375⟩:=bind_some h
 clear h
 have h:=hc
 clear hc
 refine Cut.mk (mkSt [(3,.im (nL (cL cI) c51)),(4,.osl 64 1),(5,.im (nI (↑i308:Int))),(6,.im (nB top404))] [(64,.row 50 1 (List.map (cL cI) y307))] []) (lZ c51∧lZ y307∧True) ((Holds.avl 3 rfl).and ((Holds.kdl 64 rfl).and (hT))) ?_ (fun hp=>?_)
 conv=>whnf
 refine Loops.iter (fun (s:Bool×Nat)=>R02_Maximal.s13 c51 i308 s.1 s.2) (fun (top412,k413)=>mkSt [(3,.im (nL (cL cI) c51)),(4,.osl 64 1),(5,.im (nI (↑i308:Int))),(6,.im (nB top412)),(7,.im (nI (↑k413:Int)))] [(64,.row 50 1 (List.map (cL cI) y307))] []) (fun (top412,k413)=>lZ c51∧lZ y307∧True) h (eA [(64,some 64)]) (by rintro ⟨top412,k413⟩;exact ((Holds.avl 3 rfl).and ((Holds.kdl 64 rfl).and (hT)))) ?_
 clear h
 rintro k ⟨top412,k413⟩ o hp h ho422
 replace h:R02_Maximal.s13 c51 i308 top412 k413=some o:=h
 unfold R02_Maximal.s13 at h
 obtain ⟨z431,z432,_⟩:=hp
 conv=>whnf
 refine Nf.mk (List.length c51) len_map ?_
 conv=>whnf
 refine Both.mk ?_ ?_<;>intro b423
 obtain ⟨h,b423d⟩:=ctd b423 h
 conv=>whnf
 refine Both.mk ?_ ?_<;>intro b424
 replace b424:=beq_tt b424
 replace h:=cond_t b424 h
 conv=>whnf
 iterate 2 (refine Both.yes (tt_beq b424) ?_;(conv=>whnf))
 obtain ⟨e425,he425,h⟩:=idxn_some h
 refine ⟨_,⟨(by omega),map_at he425,rfl⟩,?_⟩
 conv=>whnf
 iterate 2 (refine Both.yes (tt_beq b424) ?_;(conv=>whnf))
 refine Nf.mk (List.length e425) len_map ?_
 conv=>whnf
 iterate 3 (refine Both.yes (tt_beq b424) ?_;(conv=>whnf))
 obtain ⟨e426,he426,h⟩:=idxn_some h
 refine ⟨_,⟨(by omega),map_at he426,rfl⟩,?_⟩
 conv=>whnf
 iterate 2 (refine Both.yes (tt_beq b424) ?_;(conv=>whnf))
 refine Nf.mk (List.length e426) len_map ?_
 conv=>whnf
 iterate 2 (refine Both.yes (tt_beq b424) ?_;(conv=>whnf))
 refine Both.mk ?_ ?_<;>intro b427
 replace b427:=beq_ff b427
 obtain ⟨h,b427d⟩:=cfd b427 h
 conv=>whnf
 iterate 2 (refine Both.yes (ff_beq b427) ?_;(conv=>whnf))
 obtain ⟨e428,he428,h⟩:=idxn_some h
 refine ⟨_,⟨(by omega),map_at he428,rfl⟩,?_⟩
 conv=>whnf
 iterate 4 (refine Both.yes (ff_beq b427) ?_;(conv=>whnf))
 obtain ⟨e429,he429,h⟩:=idxn_some h
 refine ⟨_,⟨(by omega),map_at he429,rfl⟩,?_⟩
 conv=>whnf
 iterate 2 (refine Both.yes (ff_beq b427) ?_;(conv=>whnf))
 obtain ⟨c430,hc430,h⟩:=bind_some h
 refine ⟨_,(sp_R01_HasPrefix e428 e429 c430 (fun _ _=>hc430)),?_⟩
 conv=>whnf
 refine Both.yes (ff_beq b427) ?_
 conv=>whnf
 refine Both.yes (tt_beq b424) ?_
 conv=>whnf
 refine Both.no b427 ?_
 conv=>whnf
 refine Both.yes b424 ?_
 conv=>whnf
 refine Arith.mk (by show inR _;unfold inR;omega) ?_
 conv=>whnf
 cases h
 exact Nxt.mk _ ho422 (eA [(64,some 64)])
 replace b427:=beq_ft b427
 obtain ⟨h,b427d⟩:=ctd b427 h
 conv=>whnf
 iterate 9 (refine Both.no (tf_beq b427) ?_;(conv=>whnf))
 refine Both.yes (tt_beq b424) ?_
 conv=>whnf
 refine Both.yes b427 ?_
 conv=>whnf
 refine Both.yes b424 ?_
 conv=>whnf
 refine Arith.mk (by show inR _;unfold inR;omega) ?_
 conv=>whnf
 cases h
 exact Nxt.mk _ ho422 (eA [(64,some 64)])
 replace b424:=beq_tf b424
 replace h:=cond_f b424 h
 conv=>whnf
 iterate 12 (refine Both.no (ft_beq b424) ?_;(conv=>whnf))
 refine Both.no b424 ?_
 conv=>whnf
 refine Arith.mk (by show inR _;unfold inR;omega) ?_
 conv=>whnf
 cases h
 exact Nxt.mk _ ho422 (eA [(64,some 64)])
 obtain ⟨h,b423d⟩:=cfd b423 h
 conv=>whnf
 cases h
 have ho422:_=_:=ho422
 cases ho422
 exact Join.mk (eA [(64,some 64)])
 replace h:=hk375
 obtain ⟨z433,z434,_⟩:=hp
 conv=>whnf
 refine Both.mk ?_ ?_<;>intro b435
 replace h:=cond_t b435 h
 conv=>whnf
 obtain ⟨e436,he436,h⟩:=idxn_some h
 refine ⟨_,⟨(by omega),map_at he436,rfl⟩,?_⟩
 conv=>whnf
 obtain ⟨c437,h⟩:=chk_some h
 refine Side.mk ⟨rfl,map_len (l:=[e436]) (c:=cL cI) fun _=>rfl,show capOk _ 24 by simpa only [List.length_map,List.length_cons,List.length_nil,Nat.zero_add] using c437⟩ ?_
 conv=>whnf
 refine Nf.mk (List.map (cL cI) (y307++[e436])) (app_map (l:=y307) (m:=[e436]) (c:=cL cI)) ?_
 conv=>whnf
 refine Arith.mk (by show inR _;unfold inR;omega) ?_
 conv=>whnf
 cases h
 exact Nxt.mk _ ho373 (eA [(64,some 64)])
 replace h:=cond_f b435 h
 conv=>whnf
 refine Arith.mk (by show inR _;unfold inR;omega) ?_
 conv=>whnf
 cases h
 exact Nxt.mk _ ho373 (eA [(64,some 64)])
 obtain ⟨h,b374d⟩:=cfd b374 h
 conv=>whnf
 cases h
 have ho373:_=_:=ho373
 cases ho373
 exact Join.mk (eA [(64,some 64)])
 replace h:=hk52
 obtain ⟨z440,_⟩:=hp
 conv=>whnf
 cases h
 conv=>whnf
 exact Side.mk ⟨rfl,trivial⟩ ⟨rfl,rfl⟩
theorem sp_R08_finer (m_:T_api_Mealy) (class_:List Int) (r:List Int) (h:Ok (.agg (c_api_Mealy m_))→Ok (nL cI class_)→R08_finer m_ class_=some r):Sp Tryz.prog 132 [.im (.agg (c_api_Mealy m_)),.im (nL cI class_)] (.row 3 1 (List.map cI r)):=by
 refine sp_of rfl [700002] rfl rfl rfl (Nat.le_of_ble_eq_true rfl) rfl fun hk=>?_
 replace h:=h hk.1 hk.2.1
 have z1:lZ m_.Next:=ok_len (Ok.agg_at hk.1 2 rfl)
 have z2:lZ m_.Out:=ok_len (Ok.agg_at hk.1 3 rfl)
 have z3:lZ class_:=ok_len hk.2.1
 unfold R08_finer at h
 conv=>whnf
 obtain ⟨y2630,hc,hk51⟩:=bind_some h
 clear h
 have h:=hc
 clear hc
 refine Cut.mk (mkSt [(5,.osl 99 1)] [(99,.row 3 1 (List.map cI y2630))] []) (lZ y2630∧True) ((Holds.kdl 99 rfl).and (hT)) ?_ (fun hp=>?_)
 conv=>whnf
 refine Loops.iter (fun (s:List Int×Nat×Nat)=>R08_finer.s92 m_ class_ s.1 s.2.1 s.2.2) (fun (y3443,count3444,s3445)=>mkSt [(1,.im (nL cI class_)),(2,.im (.ref (c_api_Mealy m_))),(5,.osl 99 1),(6,.im (nI (↑count3444:Int))),(7,.im (nI (↑s3445:Int)))] [(99,.row 3 1 (List.map cI y3443))] []) (fun (y3443,count3444,s3445)=>lZ class_∧lZ y3443∧True) h (eA [(99,none)]) (by rintro ⟨y3443,count3444,s3445⟩;exact ((Holds.avl 1 rfl).and ((Holds.kdl 99 rfl).and (hT)))) ?_
 clear h
 rintro k ⟨y3443,count3444,s3445⟩ o hp h ho4326
 replace h:R08_finer.s92 m_ class_ y3443 count3444 s3445=some o:=h
 unfold R08_finer.s92 at h
 obtain ⟨z5207,z5208,_⟩:=hp
 conv=>whnf
 refine Nf.mk (List.length class_) len_map ?_
 conv=>whnf
 refine Both.mk ?_ ?_<;>intro b4327
 obtain ⟨h,b4327d⟩:=ctd b4327 h
 conv=>whnf
 refine Arith.mk (by show inR _;unfold inR;omega) ?_
 conv=>whnf
 obtain ⟨found4761,hc,hk4328⟩:=bind_some h
 clear h
 have h:=hc
 clear hc
 refine Cut.mk (mkSt [(1,.im (nL cI class_)),(2,.im (.ref (c_api_Mealy m_))),(5,.osl 99 1),(6,.im (nI (↑count3444:Int))),(7,.im (nI (↑s3445:Int))),(8,.im (nI found4761))] [(99,.row 3 1 (List.map cI y3443))] []) (lZ class_∧lZ y3443∧True) ((Holds.avl 1 rfl).and ((Holds.kdl 99 rfl).and (hT))) ?_ (fun hp=>?_)
 conv=>whnf
 refine Loops.iter (fun (s:Int×Int)=>R08_finer.s90 m_ class_ y3443 s3445 s.1 s.2) (fun (found4903,t4904)=>mkSt [(1,.im (nL cI class_)),(2,.im (.ref (c_api_Mealy m_))),(5,.osl 99 1),(6,.im (nI (↑count3444:Int))),(7,.im (nI (↑s3445:Int))),(8,.im (nI found4903)),(9,.im (nI t4904))] [(99,.row 3 1 (List.map cI y3443))] []) (fun (found4903,t4904)=>lZ class_∧lZ y3443∧True) h (eA [(99,some 99)]) (by rintro ⟨found4903,t4904⟩;exact ((Holds.avl 1 rfl).and ((Holds.kdl 99 rfl).and (hT)))) ?_
 clear h
 rintro k ⟨found4903,t4904⟩ o hp h ho5048
 replace h:R08_finer.s90 m_ class_ y3443 s3445 found4903 t4904=some o:=h
 unfold R08_finer.s90 at h
 obtain ⟨z5192,z5193,_⟩:=hp
 conv=>whnf
 refine Both.mk ?_ ?_<;>intro b5049
 obtain ⟨h,b5049d⟩:=ctd b5049 h
 conv=>whnf
 obtain ⟨e5050,he5050,h⟩:=idxn_some h
 refine ⟨_,⟨(by omega),map_at he5050,rfl⟩,?_⟩
 conv=>whnf
 obtain ⟨e5051,he5051z,he5051,h⟩:=idx_some h
 refine ⟨_,⟨he5051z,map_at he5051,rfl⟩,?_⟩
 conv=>whnf
 obtain ⟨same5119,hc,hk5052⟩:=bind_some h
 clear h
 have h:=hc
 clear hc
 refine Cut.mk (mkSt [(1,.im (nL cI class_)),(2,.im (.ref (c_api_Mealy m_))),(5,.osl 99 1),(6,.im (nI (↑count3444:Int))),(7,.im (nI (↑s3445:Int))),(8,.im (nI found4903)),(9,.im (nI t4904)),(10,.im (nB same5119))] [(99,.row 3 1 (List.map cI y3443))] []) (lZ class_∧lZ y3443∧True) ((Holds.avl 1 rfl).and ((Holds.kdl 99 rfl).and (hT))) ?_ (fun hp=>?_)
 conv=>whnf
 refine Loops.iter (fun (s:Bool×Nat)=>R08_finer.s89 m_ class_ s3445 t4904 s.1 s.2) (fun (same5139,a5140)=>mkSt [(1,.im (nL cI class_)),(2,.im (.ref (c_api_Mealy m_))),(5,.osl 99 1),(6,.im (nI (↑count3444:Int))),(7,.im (nI (↑s3445:Int))),(8,.im (nI found4903)),(9,.im (nI t4904)),(10,.im (nB same5139)),(11,.im (nI (↑a5140:Int)))] [(99,.row 3 1 (List.map cI y3443))] []) (fun (same5139,a5140)=>lZ class_∧lZ y3443∧True) h (eA [(99,some 99)]) (by rintro ⟨same5139,a5140⟩;exact ((Holds.avl 1 rfl).and ((Holds.kdl 99 rfl).and (hT)))) ?_
 clear h
 rintro k ⟨same5139,a5140⟩ o hp h ho5162
 replace h:R08_finer.s89 m_ class_ s3445 t4904 same5139 a5140=some o:=h
 unfold R08_finer.s89 at h
 obtain ⟨z5184,z5185,_⟩:=hp
 conv=>whnf
 obtain ⟨y5166,hc,hk5164⟩:=bind_some h
 clear h
 have h:=hc
 clear hc
 refine Cut.mk (mkSt [(1,.im (nL cI class_)),(2,.im (.ref (c_api_Mealy m_))),(5,.osl 99 1),(6,.im (nI (↑count3444:Int))),(7,.im (nI (↑s3445:Int))),(8,.im (nI found4903)),(9,.im (nI t4904)),(10,.im (nB same5139)),(11,.im (nI (↑a5140:Int))),(39,.im (nB y5166))] [(99,.row 3 1 (List.map cI y3443))] []) (lZ class_∧lZ y3443∧True) ((Holds.avl 1 rfl).and ((Holds.kdl 99 rfl).and (hT))) ?_ (fun hp=>?_)
 conv=>whnf
 refine Both.mk ?_ ?_<;>intro b5167
 replace b5167:=beq_tt b5167
 obtain ⟨h,b5167d⟩:=ctd b5167 h
 conv=>whnf
 refine Both.yes b5167 ?_
 conv=>whnf
 cases h
 exact Join.mk (eA [(99,some 99)])
 replace b5167:=beq_tf b5167
 obtain ⟨h,b5167d⟩:=cfd b5167 h
 conv=>whnf
 refine Both.no b5167 ?_
 conv=>whnf
 cases h
 exact Join.mk (eA [(99,some 99)])
 replace h:=hk5164
 obtain ⟨z5168,z5169,_⟩:=hp
 conv=>whnf
 refine Both.mk ?_ ?_<;>intro b5170
 replace h:=cond_t b5170 h
 conv=>whnf
 obtain ⟨e5171,he5171,h⟩:=idxn_some h
 refine ⟨_,⟨(by omega),map_at he5171,rfl⟩,?_⟩
 conv=>whnf
 obtain ⟨e5172,he5172,h⟩:=idxn_some h
 refine ⟨_,⟨(by omega),map_at he5172,rfl⟩,?_⟩
 conv=>whnf
 obtain ⟨e5173,he5173z,he5173,h⟩:=idx_some h
 refine ⟨_,⟨he5173z,map_at he5173,rfl⟩,?_⟩
 conv=>whnf
 obtain ⟨e5174,he5174,h⟩:=idxn_some h
 refine ⟨_,⟨(by omega),map_at he5174,rfl⟩,?_⟩
 conv=>whnf
 refine Both.mk ?_ ?_<;>intro b5175
 replace b5175:=beq_tt b5175
 obtain ⟨h,b5175d⟩:=ctd b5175 h
 conv=>whnf
 iterate 4 (refine Both.yes (tt_beq b5175) ?_;(conv=>whnf))
 obtain ⟨e5176,he5176,h⟩:=idxn_some h
 refine ⟨_,⟨(by omega),map_at he5176,rfl⟩,?_⟩
 conv=>whnf
 iterate 3 (refine Both.yes (tt_beq b5175) ?_;(conv=>whnf))
 obtain ⟨e5177,he5177,h⟩:=idxn_some h
 refine ⟨_,⟨(by omega),map_at he5177,rfl⟩,?_⟩
 conv=>whnf
 iterate 2 (refine Both.yes (tt_beq b5175) ?_;(conv=>whnf))
 obtain ⟨e5178,he5178z,he5178,h⟩:=idx_some h
 refine ⟨_,⟨he5178z,map_at he5178,rfl⟩,?_⟩
 conv=>whnf
 iterate 6 (refine Both.yes (tt_beq b5175) ?_;(conv=>whnf))
 obtain ⟨e5179,he5179z,he5179,h⟩:=idx_some h
 refine ⟨_,⟨he5179z,map_at he5179,rfl⟩,?_⟩
 conv=>whnf
 iterate 3 (refine Both.yes (tt_beq b5175) ?_;(conv=>whnf))
 obtain ⟨e5180,he5180,h⟩:=idxn_some h
 refine ⟨_,⟨(by omega),map_at he5180,rfl⟩,?_⟩
 conv=>whnf
 iterate 2 (refine Both.yes (tt_beq b5175) ?_;(conv=>whnf))
 obtain ⟨e5181,he5181z,he5181,h⟩:=idx_some h
 refine ⟨_,⟨he5181z,map_at he5181,rfl⟩,?_⟩
 conv=>whnf
 iterate 2 (refine Both.yes (tt_beq b5175) ?_;(conv=>whnf))
 refine Both.yes b5175 ?_
 conv=>whnf
 obtain ⟨c5182,h⟩:=chk_some h
 refine Arith.mk c5182 ?_
 conv=>whnf
 cases h
 exact Nxt.mk _ ho5162 (eA [(99,some 99)])
 replace b5175:=beq_tf b5175
 obtain ⟨h,b5175d⟩:=cfd b5175 h
 conv=>whnf
 iterate 22 (refine Both.no (ft_beq b5175) ?_;(conv=>whnf))
 refine Both.no b5175 ?_
 conv=>whnf
 obtain ⟨c5183,h⟩:=chk_some h
 refine Arith.mk c5183 ?_
 conv=>whnf
 cases h
 exact Nxt.mk _ ho5162 (eA [(99,some 99)])
 replace h:=cond_f b5170 h
 conv=>whnf
 cases h
 have ho5162:_=_:=ho5162
 cases ho5162
 exact Join.mk (eA [(99,some 99)])
 replace h:=hk5052
 obtain ⟨z5186,z5187,_⟩:=hp
 conv=>whnf
 refine Both.mk ?_ ?_<;>intro b5188
 replace h:=cond_t b5188 h
 conv=>whnf
 obtain ⟨e5189,he5189z,he5189,h⟩:=idx_some h
 refine Side.mk ⟨he5189z,rfl,map_lt he5189⟩ ?_
 conv=>whnf
 refine ⟨_,_,⟨rfl,map_at he5189,rfl,rfl⟩,?_⟩
 conv=>whnf
 obtain ⟨c5190,h⟩:=chk_some h
 refine Arith.mk c5190 ?_
 conv=>whnf
 cases h
 exact Nxt.mk _ ho5048 (eA [(99,some 99)])
 replace h:=cond_f b5188 h
 conv=>whnf
 obtain ⟨c5191,h⟩:=chk_some h
 refine Arith.mk c5191 ?_
 conv=>whnf
 cases h
 exact Nxt.mk _ ho5048 (eA [(99,some 99)])
 obtain ⟨h,b5049d⟩:=cfd b5049 h
 conv=>whnf
 cases h
 have ho5048:_=_:=ho5048
 cases ho5048
 exact Join.mk (eA [(99,some 99)])
 replace h:=hk4328
 obtain ⟨z5194,z5195,_⟩:=hp
 conv=>whnf
 obtain ⟨⟨count5200,found5201⟩,hc,hk5197⟩:=bind_some h
 clear h
 have h:=hc
 clear hc
 refine Cut.mk (mkSt [(1,.im (nL cI class_)),(2,.im (.ref (c_api_Mealy m_))),(5,.osl 99 1),(6,.im (nI (↑count5200:Int))),(7,.im (nI (↑s3445:Int))),(8,.im (nI found5201))] [(99,.row 3 1 (List.map cI y3443))] []) (lZ class_∧lZ y3443∧True) ((Holds.avl 1 rfl).and ((Holds.kdl 99 rfl).and (hT))) ?_ (fun hp=>?_)
 conv=>whnf
 refine Both.mk ?_ ?_<;>intro b5202
 obtain ⟨h,b5202d⟩:=ctd b5202 h
 conv=>whnf
 obtain ⟨c5203,h⟩:=chk_some h
 refine Arith.mk c5203 ?_
 conv=>whnf
 cases h
 exact Join.mk (eA [(99,some 99)])
 obtain ⟨h,b5202d⟩:=cfd b5202 h
 conv=>whnf
 cases h
 exact Join.mk (eA [(99,some 99)])
 replace h:R08_finer.k91 y3443 s3445 count5200 found5201=some _:=hk5197
 unfold R08_finer.k91 at h
 obtain ⟨z5204,z5205,_⟩:=hp
 conv=>whnf
 obtain ⟨c5206,h⟩:=chk_some h
 refine Side.mk ⟨rfl,map_len (l:=[found5201]) (c:=cI) fun _=>rfl,show capOk _ 8 by simpa only [List.length_map,List.length_cons,List.length_nil,Nat.zero_add] using c5206⟩ ?_
 conv=>whnf
 refine Nf.mk (List.map cI (y3443++[found5201])) (app_map (l:=y3443) (m:=[found5201]) (c:=cI)) ?_
 conv=>whnf
 refine Arith.mk (by show inR _;unfold inR;omega) ?_
 conv=>whnf
 cases h
 exact Nxt.mk _ ho4326 (eA [(99,some 99)])
 obtain ⟨h,b4327d⟩:=cfd b4327 h
 conv=>whnf
 cases h
 have ho4326:_=_:=ho4326
 cases ho4326
 exact Join.mk (eA [(99,some 99)])
 replace h:=hk51
 obtain ⟨z5209,_⟩:=hp
 conv=>whnf
 cases h
 conv=>whnf
 exact Side.mk ⟨rfl,trivial⟩ ⟨rfl,rfl⟩
theorem sp_R08_Partition (m_:T_api_Mealy) (k_:Int) (r:List Int×Int) (h:Ok (.agg (c_api_Mealy m_))→Ok (nI k_)→R08_Partition m_ k_=some r):Sp Tryz.prog 117 [.im (.agg (c_api_Mealy m_)),.im (nI k_)] (.tup [nL cI r.1,nI r.2]):=by
 refine sp_of rfl [700002,6000017] rfl rfl rfl (Nat.le_of_ble_eq_true rfl) rfl fun hk=>?_
 replace h:=h hk.1 hk.2.1
 have z1:lZ m_.Next:=ok_len (Ok.agg_at hk.1 2 rfl)
 have z2:lZ m_.Out:=ok_len (Ok.agg_at hk.1 3 rfl)
 unfold R08_Partition at h
 conv=>whnf
 obtain ⟨c51,hc51,h⟩:=bind_some h
 refine ⟨_,(sp_R06_Valid m_ c51 (fun _=>hc51)),?_⟩
 conv=>whnf
 refine Both.mk ?_ ?_<;>intro b52
 obtain ⟨h,b52d⟩:=ctd b52 h
 conv=>whnf
 cases h
 conv=>whnf
 exact ⟨rfl,rfl⟩
 obtain ⟨h,b52d⟩:=cfd b52 h
 conv=>whnf
 refine Nf.mk (List.length m_.Next) len_map ?_
 conv=>whnf
 obtain ⟨c53,h⟩:=chk_some h
 refine Side.mk c53 ?_
 conv=>whnf
 refine Nf.mk (List.map cI (List.replicate (List.length m_.Next) 0)) (rep_map (c:=cI) (z:=0) (n:=(List.length m_.Next)) rfl rfl) ?_
 conv=>whnf
 obtain ⟨class85,hc,hk54⟩:=bind_some h
 clear h
 have h:=hc
 clear hc
 refine Cut.mk (mkSt [(7,.im (nL cI class85))] [] []) (lZ class85∧True) ((Holds.avl 7 rfl).and (hT)) ?_ (fun hp=>?_)
 conv=>whnf
 refine Loops.iter (fun (s:List Int×Nat)=>R08_Partition.s2 m_ k_ s.1 s.2) (fun (class94,i95)=>mkSt [(1,.im (nI k_)),(2,.im (.ref (c_api_Mealy m_))),(7,.im (nL cI class94)),(8,.im (nI (↑i95:Int)))] [] []) (fun (class94,i95)=>lZ class94∧True) h (eA []) (by rintro ⟨class94,i95⟩;exact ((Holds.avl 7 rfl).and (hT))) ?_
 clear h
 rintro k ⟨class94,i95⟩ o hp h ho105
 replace h:R08_Partition.s2 m_ k_ class94 i95=some o:=h
 unfold R08_Partition.s2 at h
 obtain ⟨z115,_⟩:=hp
 conv=>whnf
 obtain ⟨y109,hc,hk107⟩:=bind_some h
 clear h
 have h:=hc
 clear hc
 refine Cut.mk (mkSt [(1,.im (nI k_)),(2,.im (.ref (c_api_Mealy m_))),(7,.im (nL cI class94)),(8,.im (nI (↑i95:Int))),(27,.im (nB y109))] [] []) (lZ class94∧True) ((Holds.avl 7 rfl).and (hT)) ?_ (fun hp=>?_)
 conv=>whnf
 refine Both.mk ?_ ?_<;>intro b110
 replace b110:=beq_tt b110
 obtain ⟨h,b110d⟩:=ctd b110 h
 conv=>whnf
 iterate 3 (refine Both.yes (tt_beq b110) ?_;(conv=>whnf))
 refine Nf.mk (List.length m_.Next) len_map ?_
 conv=>whnf
 refine Both.yes (tt_beq b110) ?_
 conv=>whnf
 refine Both.yes b110 ?_
 conv=>whnf
 cases h
 exact Join.mk (eA [])
 replace b110:=beq_tf b110
 obtain ⟨h,b110d⟩:=cfd b110 h
 conv=>whnf
 iterate 4 (refine Both.no (ft_beq b110) ?_;(conv=>whnf))
 refine Both.no b110 ?_
 conv=>whnf
 cases h
 exact Join.mk (eA [])
 replace h:=hk107
 obtain ⟨z111,_⟩:=hp
 conv=>whnf
 refine Both.mk ?_ ?_<;>intro b112
 replace h:=cond_t b112 h
 conv=>whnf
 obtain ⟨c113,hc113,h⟩:=bind_some h
 refine ⟨_,(sp_R08_finer m_ class94 c113 (fun _ _=>hc113)).im,?_⟩
 conv=>whnf
 obtain ⟨c114,h⟩:=chk_some h
 refine Arith.mk c114 ?_
 conv=>whnf
 cases h
 exact Nxt.mk _ ho105 (eA [])
 replace h:=cond_f b112 h
 conv=>whnf
 cases h
 have ho105:_=_:=ho105
 cases ho105
 exact Join.mk (eA [])
 replace h:=hk54
 obtain ⟨z116,_⟩:=hp
 conv=>whnf
 cases h
 conv=>whnf
 exact ⟨rfl,rfl⟩
theorem sp_R08_Classes (m_:T_api_Mealy) (r:List Int×Int) (h:Ok (.agg (c_api_Mealy m_))→R08_Classes m_=some r):Sp Tryz.prog 80 [.im (.agg (c_api_Mealy m_))] (.tup [nL cI r.1,nI r.2]):=by
 refine sp_of rfl [700001] rfl rfl rfl (Nat.le_of_ble_eq_true rfl) rfl fun hk=>?_
 replace h:=h hk.1
 have z1:lZ m_.Next:=ok_len (Ok.agg_at hk.1 2 rfl)
 have z2:lZ m_.Out:=ok_len (Ok.agg_at hk.1 3 rfl)
 unfold R08_Classes at h
 conv=>whnf
 refine Nf.mk (List.length m_.Next) len_map ?_
 conv=>whnf
 obtain ⟨c51,hc51,h⟩:=bind_some h
 refine ⟨_,(sp_R08_Partition m_ (↑(List.length m_.Next):Int) c51 (fun _ _=>hc51)),?_⟩
 conv=>whnf
 cases h
 conv=>whnf
 exact ⟨rfl,rfl⟩
theorem sp_R08_Min (m_:T_api_Mealy) (r:T_api_Mealy×Int) (h:Ok (.agg (c_api_Mealy m_))→R08_Min m_=some r):Sp Tryz.prog 47 [.im (.agg (c_api_Mealy m_))] (.tup [.agg (c_api_Mealy r.1),nI r.2]):=by
 refine sp_of rfl [26,700001] rfl rfl rfl (Nat.le_of_ble_eq_true rfl) rfl fun hk=>?_
 replace h:=h hk.1
 have z1:lZ m_.Next:=ok_len (Ok.agg_at hk.1 2 rfl)
 have z2:lZ m_.Out:=ok_len (Ok.agg_at hk.1 3 rfl)
 unfold R08_Min at h
 conv=>whnf
 obtain ⟨c51,hc51,h⟩:=bind_some h
 refine ⟨_,(sp_R08_Classes m_ c51 (fun _=>hc51)),?_⟩
 conv=>whnf
 refine Both.mk ?_ ?_<;>intro b52
 obtain ⟨h,b52d⟩:=ctd b52 h
 conv=>whnf
 refine Side.mk rfl ?_
 conv=>whnf
 cases h
 conv=>whnf
 refine Side.mk ⟨rfl,trivial⟩ ?_
 conv=>whnf
 exact ⟨rfl,rfl⟩
 obtain ⟨h,b52d⟩:=cfd b52 h
 conv=>whnf
 refine Nf.mk (List.length m_.Next) len_map ?_
 conv=>whnf
 obtain ⟨c53,h⟩:=chk_some h
 refine Side.mk c53 ?_
 conv=>whnf
 refine Nf.mk (List.map cI (List.replicate (List.length m_.Next) 0)) (rep_map (c:=cI) (z:=0) (n:=(List.length m_.Next)) rfl rfl) ?_
 conv=>whnf
 obtain ⟨y67,hc,hk54⟩:=bind_some h
 clear h
 have h:=hc
 clear hc
 refine Cut.mk (mkSt [(1,.im (.ref (c_api_Mealy m_))),(2,.own 130 1 0),(4,.im (nL cI c51.1)),(6,.osl 131 1),(7,.osl 132 1)] [(130,.box 24 4),(131,.row 3 1 (List.map cI [m_.Start])),(132,.row 3 1 (List.map cI y67))] [(130,0,.im (nI 0)),(130,1,.im (nI 0)),(130,2,.im (.val (.slice none 0 0))),(130,3,.im (.val (.slice none 0 0)))]) (lZ c51.1∧List.length [m_.Start]≤17592186044416∧lZ y67∧True) ((Holds.avl 4 rfl).and ((Holds.kdl 131 rfl).and ((Holds.kdl 132 rfl).and (hT)))) ?_ (fun hp=>?_)
 conv=>whnf
 refine Loops.iter (fun (s:List Int×Nat)=>R08_Min.s2 s.1 s.2) (fun (y70,i71)=>mkSt [(1,.im (.ref (c_api_Mealy m_))),(2,.own 130 1 0),(4,.im (nL cI c51.1)),(6,.osl 131 1),(7,.osl 132 1),(8,.im (nI (↑i71:Int)))] [(130,.box 24 4),(131,.row 3 1 (List.map cI [m_.Start])),(132,.row 3 1 (List.map cI y70))] [(130,0,.im (nI 0)),(130,1,.im (nI 0)),(130,2,.im (.val (.slice none 0 0))),(130,3,.im (.val (.slice none 0 0)))]) (fun (y70,i71)=>lZ c51.1∧List.length [m_.Start]≤17592186044416∧lZ y70∧True) h (eA [(130,some 2),(131,some 26),(132,some 30)]) (by rintro ⟨y70,i71⟩;exact ((Holds.avl 4 rfl).and ((Holds.kdl 131 rfl).and ((Holds.kdl 132 rfl).and (hT))))) ?_
 clear h
 rintro k ⟨y70,i71⟩ o hp h ho74
 replace h:R08_Min.s2 y70 i71=some o:=h
 unfold R08_Min.s2 at h
 obtain ⟨z77,z78,z79,_⟩:=hp
 conv=>whnf
 refine Side.mk rfl ?_
 conv=>whnf
 refine Nf.mk (List.length y70) len_map ?_
 conv=>whnf
 refine Both.mk ?_ ?_<;>intro b75
 obtain ⟨h,b75d⟩:=ctd b75 h
 conv=>whnf
 obtain ⟨e76,he76,h⟩:=idxn_some h
 refine Side.mk ⟨(by omega),rfl,map_lt he76⟩ ?_
 conv=>whnf
 refine Side.mk ⟨rfl,trivial⟩ ?_
 conv=>whnf
 refine ⟨_,map_at he76,?_⟩
 conv=>whnf
 refine Nf.mk (List.map cI (List.set y70 i71 (-1:Int))) (set_map rfl) ?_
 conv=>whnf
 refine Arith.mk (by show inR _;unfold inR;omega) ?_
 conv=>whnf
 cases h
 exact Nxt.mk _ ho74 (eA [(130,some 130),(131,some 131),(132,some 132)])
 obtain ⟨h,b75d⟩:=cfd b75 h
 conv=>whnf
 cases h
 have ho74:_=_:=ho74
 cases ho74
 exact Join.mk (eA [(130,some 130),(131,some 131),(132,some 132)])
 replace h:=hk54
 obtain ⟨z80,z81,z82,_⟩:=hp
 conv=>whnf
 obtain ⟨e83,he83z,he83,h⟩:=idx_some h
 refine ⟨_,⟨he83z,map_at he83,rfl⟩,?_⟩
 conv=>whnf
 obtain ⟨e84,he84z,he84,h⟩:=idx_some h
 refine Side.mk ⟨he84z,rfl,map_lt he84⟩ ?_
 conv=>whnf
 refine Side.mk ⟨rfl,trivial⟩ ?_
 conv=>whnf
 refine ⟨_,map_at he84,?_⟩
 conv=>whnf
 refine Nf.mk (List.map cI (List.set y67 e83.toNat 0)) (set_map rfl) ?_
 conv=>whnf
 refine Side.mk rfl ?_
 conv=>whnf
 obtain ⟨⟨y800,y801⟩,hc,hk85⟩:=bind_some h
 clear h
 have h:=hc
 clear hc
 refine Cut.mk (mkSt [(2,.own 130 1 0),(9,.own 131 1 0)] [(130,.box 24 4),(131,.box 24 4),(132,.row 50 1 (List.map (cL cI) y800)),(133,.row 50 1 (List.map (cL cI) y801))] [(130,0,.im (nI 0)),(130,1,.im (nI 0)),(130,2,.im (.val (.slice none 0 0))),(130,3,.im (.val (.slice none 0 0))),(131,0,.im (nI m_.Inputs)),(131,1,.im (nI 0)),(131,2,.osl 132 1),(131,3,.osl 133 1)]) (lZ y800∧lZ y801∧True) ((Holds.kdl 132 rfl).and ((Holds.kdl 133 rfl).and (hT))) ?_ (fun hp=>?_)
 conv=>whnf
 refine Loops.iter (fun (s:List Int×List Int×List (List Int)×List (List Int)×Nat)=>R08_Min.s58 m_ c51 s.1 s.2.1 s.2.2.1 s.2.2.2.1 s.2.2.2.2) (fun (y1023,y1024,y1025,y1026,i1027)=>mkSt [(1,.im (.ref (c_api_Mealy m_))),(2,.own 130 1 0),(4,.im (nL cI c51.1)),(6,.osl 131 1),(7,.osl 132 1),(9,.own 133 1 0),(10,.im (nI (↑i1027:Int)))] [(130,.box 24 4),(131,.row 3 1 (List.map cI y1023)),(132,.row 3 1 (List.map cI y1024)),(133,.box 24 4),(134,.row 50 1 (List.map (cL cI) y1025)),(135,.row 50 1 (List.map (cL cI) y1026))] [(130,0,.im (nI 0)),(130,1,.im (nI 0)),(130,2,.im (.val (.slice none 0 0))),(130,3,.im (.val (.slice none 0 0))),(133,0,.im (nI m_.Inputs)),(133,1,.im (nI 0)),(133,2,.osl 134 1),(133,3,.osl 135 1)]) (fun (y1023,y1024,y1025,y1026,i1027)=>lZ c51.1∧lZ y1023∧lZ y1024∧lZ y1025∧lZ y1026∧True) h (Ent.mk [(130,some 130),(131,some 131),(132,some 132),(133,some 9),(134,none),(135,none)] rfl ⟨eI rfl rfl,⟨.own 130 _ 0,rfl,.own rfl rfl rfl⟩,eI rfl rfl,⟨.osl 131 _,rfl,.osl rfl rfl rfl⟩,⟨.osl 132 _,rfl,.osl rfl rfl rfl⟩,⟨.own 9 _ 0,rfl,.own rfl rfl rfl⟩,eI rfl rfl,trivial⟩ ⟨.inl ⟨130,rfl,rfl,trivial⟩,.inl ⟨131,rfl,rfl,trivial⟩,.inl ⟨132,rfl,rfl,trivial⟩,.inl ⟨9,rfl,rfl,trivial⟩,.inr ⟨rfl,rfl,.inl ⟨_,_,rfl,by decide⟩⟩,.inr ⟨rfl,rfl,.inl ⟨_,_,rfl,by decide⟩⟩,trivial⟩ ⟨⟨130,.im _,rfl,rfl,.im (Sub.rfl' rfl)⟩,⟨130,.im _,rfl,rfl,.im (Sub.rfl' rfl)⟩,⟨130,.im (.val (.slice none 0 0)),rfl,rfl,.im (Sub.rfl' rfl)⟩,⟨130,.im (.val (.slice none 0 0)),rfl,rfl,.im (Sub.rfl' rfl)⟩,⟨9,.im _,rfl,rfl,.im (Sub.rfl' rfl)⟩,⟨9,.im _,rfl,rfl,.im (Sub.rfl' rfl)⟩,⟨9,.im (.val (.slice none 0 0)),rfl,rfl,.made rfl rfl⟩,⟨9,.im (.val (.slice none 0 0)),rfl,rfl,.made rfl rfl⟩,trivial⟩) (by rintro ⟨y1023,y1024,y1025,y1026,i1027⟩;exact ((Holds.avl 4 rfl).and ((Holds.kdl 131 rfl).and ((Holds.kdl 132 rfl).and ((Holds.kdl 134 rfl).and ((Holds.kdl 135 rfl).and (hT))))))) ?_
 clear h
 rintro k ⟨y1023,y1024,y1025,y1026,i1027⟩ o hp h ho1269
 replace h:R08_Min.s58 m_ c51 y1023 y1024 y1025 y1026 i1027=some o:=h
 unfold R08_Min.s58 at h
 obtain ⟨z1511,z1512,z1513,z1514,z1515,_⟩:=hp
 conv=>whnf
 refine Side.mk rfl ?_
 conv=>whnf
 refine Nf.mk (List.length y1023) len_map ?_
 conv=>whnf
 refine Both.mk ?_ ?_<;>intro b1270
 obtain ⟨h,b1270d⟩:=ctd b1270 h
 conv=>whnf
 obtain ⟨⟨y1385,y1386,y1387,y1388⟩,hc,hk1271⟩:=bind_some h
 clear h
 have h:=hc
 clear hc
 refine Cut.mk (mkSt [(1,.im (.ref (c_api_Mealy m_))),(2,.own 130 1 0),(4,.im (nL cI c51.1)),(6,.osl 131 1),(7,.osl 132 1),(9,.own 133 1 0),(10,.im (nI (↑i1027:Int))),(11,.osl 136 1),(12,.osl 137 1)] [(130,.box 24 4),(131,.row 3 1 (List.map cI y1385)),(132,.row 3 1 (List.map cI y1386)),(133,.box 24 4),(134,.row 50 1 (List.map (cL cI) y1025)),(135,.row 50 1 (List.map (cL cI) y1026)),(136,.row 3 1 (List.map cI y1387)),(137,.row 3 1 (List.map cI y1388))] [(130,0,.im (nI 0)),(130,1,.im (nI 0)),(130,2,.im (.val (.slice none 0 0))),(130,3,.im (.val (.slice none 0 0))),(133,0,.im (nI m_.Inputs)),(133,1,.im (nI 0)),(133,2,.osl 134 1),(133,3,.osl 135 1)]) (lZ c51.1∧lZ y1385∧lZ y1386∧lZ y1025∧lZ y1026∧lZ y1387∧lZ y1388∧True) ((Holds.avl 4 rfl).and ((Holds.kdl 131 rfl).and ((Holds.kdl 132 rfl).and ((Holds.kdl 134 rfl).and ((Holds.kdl 135 rfl).and ((Holds.kdl 136 rfl).and ((Holds.kdl 137 rfl).and (hT)))))))) ?_ (fun hp=>?_)
 conv=>whnf
 refine Loops.iter (fun (s:List Int×List Int×List Int×List Int×Nat)=>R08_Min.s56 m_ c51 i1027 s.1 s.2.1 s.2.2.1 s.2.2.2.1 s.2.2.2.2) (fun (y1419,y1420,y1421,y1422,a1423)=>mkSt [(1,.im (.ref (c_api_Mealy m_))),(2,.own 130 1 0),(4,.im (nL cI c51.1)),(6,.osl 131 1),(7,.osl 132 1),(9,.own 133 1 0),(10,.im (nI (↑i1027:Int))),(11,.osl 136 1),(12,.osl 137 1),(13,.im (nI (↑a1423:Int)))] [(130,.box 24 4),(131,.row 3 1 (List.map cI y1419)),(132,.row 3 1 (List.map cI y1420)),(133,.box 24 4),(134,.row 50 1 (List.map (cL cI) y1025)),(135,.row 50 1 (List.map (cL cI) y1026)),(136,.row 3 1 (List.map cI y1421)),(137,.row 3 1 (List.map cI y1422))] [(130,0,.im (nI 0)),(130,1,.im (nI 0)),(130,2,.im (.val (.slice none 0 0))),(130,3,.im (.val (.slice none 0 0))),(133,0,.im (nI m_.Inputs)),(133,1,.im (nI 0)),(133,2,.osl 134 1),(133,3,.osl 135 1)]) (fun (y1419,y1420,y1421,y1422,a1423)=>lZ c51.1∧lZ y1419∧lZ y1420∧lZ y1025∧lZ y1026∧lZ y1421∧lZ y1422∧True) h (eA [(130,some 130),(131,some 131),(132,some 132),(133,some 133),(134,some 134),(135,some 135),(136,none),(137,none)]) (by rintro ⟨y1419,y1420,y1421,y1422,a1423⟩;exact ((Holds.avl 4 rfl).and ((Holds.kdl 131 rfl).and ((Holds.kdl 132 rfl).and ((Holds.kdl 134 rfl).and ((Holds.kdl 135 rfl).and ((Holds.kdl 136 rfl).and ((Holds.kdl 137 rfl).and (hT))))))))) ?_
 clear h
 rintro k ⟨y1419,y1420,y1421,y1422,a1423⟩ o hp h ho1459
 replace h:R08_Min.s56 m_ c51 i1027 y1419 y1420 y1421 y1422 a1423=some o:=h
 unfold R08_Min.s56 at h
 obtain ⟨z1495,z1496,z1497,z1498,z1499,z1500,z1501,_⟩:=hp
 conv=>whnf
 refine Both.mk ?_ ?_<;>intro b1460
 obtain ⟨h,b1460d⟩:=ctd b1460 h
 conv=>whnf
 obtain ⟨e1461,he1461,h⟩:=idxn_some h
 refine Side.mk ⟨(by omega),rfl,map_lt he1461⟩ ?_
 conv=>whnf
 refine ⟨_,_,⟨rfl,map_at he1461,rfl,rfl⟩,?_⟩
 conv=>whnf
 obtain ⟨e1462,he1462z,he1462,h⟩:=idx_some h
 refine ⟨_,⟨he1462z,map_at he1462,rfl⟩,?_⟩
 conv=>whnf
 obtain ⟨e1463,he1463,h⟩:=idxn_some h
 refine ⟨_,⟨(by omega),map_at he1463,rfl⟩,?_⟩
 conv=>whnf
 obtain ⟨⟨y1472,y1473⟩,hc,hk1465⟩:=bind_some h
 clear h
 have h:=hc
 clear hc
 refine Cut.mk (mkSt [(1,.im (.ref (c_api_Mealy m_))),(2,.own 130 1 0),(4,.im (nL cI c51.1)),(6,.osl 131 1),(7,.osl 132 1),(9,.own 133 1 0),(10,.im (nI (↑i1027:Int))),(11,.osl 136 1),(12,.osl 137 1),(13,.im (nI (↑a1423:Int))),(14,.im (nI e1463))] [(130,.box 24 4),(131,.row 3 1 (List.map cI y1472)),(132,.row 3 1 (List.map cI y1473)),(133,.box 24 4),(134,.row 50 1 (List.map (cL cI) y1025)),(135,.row 50 1 (List.map (cL cI) y1026)),(136,.row 3 1 (List.map cI y1421)),(137,.row 3 1 (List.map cI y1422))] [(130,0,.im (nI 0)),(130,1,.im (nI 0)),(130,2,.im (.val (.slice none 0 0))),(130,3,.im (.val (.slice none 0 0))),(133,0,.im (nI m_.Inputs)),(133,1,.im (nI 0)),(133,2,.osl 134 1),(133,3,.osl 135 1)]) (lZ c51.1∧lZ y1472∧lZ y1473∧lZ y1025∧lZ y1026∧lZ y1421∧lZ y1422∧True) ((Holds.avl 4 rfl).and ((Holds.kdl 131 rfl).and ((Holds.kdl 132 rfl).and ((Holds.kdl 134 rfl).and ((Holds.kdl 135 rfl).and ((Holds.kdl 136 rfl).and ((Holds.kdl 137 rfl).and (hT)))))))) ?_ (fun hp=>?_)
 conv=>whnf
 obtain ⟨e1474,he1474z,he1474,h⟩:=idx_some h
 refine ⟨_,⟨he1474z,map_at he1474,rfl⟩,?_⟩
 conv=>whnf
 obtain ⟨e1475,he1475z,he1475,h⟩:=idx_some h
 refine Side.mk ⟨he1475z,rfl,map_lt he1475⟩ ?_
 conv=>whnf
 refine ⟨_,_,⟨rfl,map_at he1475,rfl,rfl⟩,?_⟩
 conv=>whnf
 refine Both.mk ?_ ?_<;>intro b1476
 obtain ⟨h,b1476d⟩:=ctd b1476 h
 conv=>whnf
 obtain ⟨e1477,he1477z,he1477,h⟩:=idx_some h
 refine ⟨_,⟨he1477z,map_at he1477,rfl⟩,?_⟩
 conv=>whnf
 refine Side.mk rfl ?_
 conv=>whnf
 refine Nf.mk (List.length y1419) len_map ?_
 conv=>whnf
 obtain ⟨e1478,he1478z,he1478,h⟩:=idx_some h
 refine Side.mk ⟨he1478z,rfl,map_lt he1478⟩ ?_
 conv=>whnf
 refine Side.mk ⟨rfl,trivial⟩ ?_
 conv=>whnf
 refine ⟨_,map_at he1478,?_⟩
 conv=>whnf
 refine Nf.mk (List.map cI (List.set y1420 e1477.toNat (↑(List.length y1419):Int))) (set_map rfl) ?_
 conv=>whnf
 obtain ⟨c1479,h⟩:=chk_some h
 refine Side.mk ⟨rfl,map_len (l:=[e1463]) (c:=cI) fun _=>rfl,show capOk _ 8 by simpa only [List.length_map,List.length_cons,List.length_nil,Nat.zero_add] using c1479⟩ ?_
 conv=>whnf
 refine Nf.mk (List.map cI (y1419++[e1463])) (app_map (l:=y1419) (m:=[e1463]) (c:=cI)) ?_
 conv=>whnf
 cases h
 exact Join.mk (eA [(130,some 130),(131,some 131),(132,some 132),(133,some 133),(134,some 134),(135,some 135),(136,some 136),(137,some 137)])
 obtain ⟨h,b1476d⟩:=cfd b1476 h
 conv=>whnf
 cases h
 exact Join.mk (eA [(130,some 130),(131,some 131),(132,some 132),(133,some 133),(134,some 134),(135,some 135),(136,some 136),(137,some 137)])
 replace h:R08_Min.k55 m_ c51 i1027 y1421 y1422 a1423 e1463 y1472 y1473=some _:=hk1465
 unfold R08_Min.k55 at h
 obtain ⟨z1480,z1481,z1482,z1483,z1484,z1485,z1486,_⟩:=hp
 conv=>whnf
 obtain ⟨e1487,he1487z,he1487,h⟩:=idx_some h
 refine ⟨_,⟨he1487z,map_at he1487,rfl⟩,?_⟩
 conv=>whnf
 obtain ⟨e1488,he1488z,he1488,h⟩:=idx_some h
 refine Side.mk ⟨he1488z,rfl,map_lt he1488⟩ ?_
 conv=>whnf
 refine ⟨_,_,⟨rfl,map_at he1488,rfl,rfl⟩,?_⟩
 conv=>whnf
 obtain ⟨c1489,h⟩:=chk_some h
 refine Side.mk ⟨rfl,map_len (l:=[e1488]) (c:=cI) fun _=>rfl,show capOk _ 8 by simpa only [List.length_map,List.length_cons,List.length_nil,Nat.zero_add] using c1489⟩ ?_
 conv=>whnf
 refine Nf.mk (List.map cI (y1421++[e1488])) (app_map (l:=y1421) (m:=[e1488]) (c:=cI)) ?_
 conv=>whnf
 obtain ⟨e1490,he1490,h⟩:=idxn_some h
 refine Side.mk ⟨(by omega),rfl,map_lt he1490⟩ ?_
 conv=>whnf
 refine ⟨_,_,⟨rfl,map_at he1490,rfl,rfl⟩,?_⟩
 conv=>whnf
 obtain ⟨e1491,he1491z,he1491,h⟩:=idx_some h
 refine ⟨_,⟨he1491z,map_at he1491,rfl⟩,?_⟩
 conv=>whnf
 obtain ⟨e1492,he1492,h⟩:=idxn_some h
 refine ⟨_,⟨(by omega),map_at he1492,rfl⟩,?_⟩
 conv=>whnf
 obtain ⟨c1493,h⟩:=chk_some h
 refine Side.mk ⟨rfl,map_len (l:=[e1492]) (c:=cI) fun _=>rfl,show capOk _ 8 by simpa only [List.length_map,List.length_cons,List.length_nil,Nat.zero_add] using c1493⟩ ?_
 conv=>whnf
 refine Nf.mk (List.map cI (y1422++[e1492])) (app_map (l:=y1422) (m:=[e1492]) (c:=cI)) ?_
 conv=>whnf
 obtain ⟨c1494,h⟩:=chk_some h
 refine Arith.mk c1494 ?_
 conv=>whnf
 cases h
 exact Nxt.mk _ ho1459 (eA [(130,some 130),(131,some 131),(132,some 132),(133,some 133),(134,some 134),(135,some 135),(136,some 136),(137,some 137)])
 obtain ⟨h,b1460d⟩:=cfd b1460 h
 conv=>whnf
 cases h
 have ho1459:_=_:=ho1459
 cases ho1459
 exact Join.mk (eA [(130,some 130),(131,some 131),(132,some 132),(133,some 133),(134,some 134),(135,some 135),(136,some 136),(137,some 137)])
 replace h:R08_Min.k57 y1025 y1026 i1027 y1385 y1386 y1387 y1388=some _:=hk1271
 unfold R08_Min.k57 at h
 obtain ⟨z1502,z1503,z1504,z1505,z1506,z1507,z1508,_⟩:=hp
 conv=>whnf
 refine Side.mk rfl ?_
 conv=>whnf
 refine Side.mk rfl ?_
 conv=>whnf
 refine Side.mk ⟨rfl,trivial⟩ ?_
 conv=>whnf
 obtain ⟨c1509,h⟩:=chk_some h
 refine Side.mk ⟨rfl,map_len (l:=[y1387]) (c:=cL cI) fun _=>rfl,show capOk _ 24 by simpa only [List.length_map,List.length_cons,List.length_nil,Nat.zero_add] using c1509⟩ ?_
 conv=>whnf
 refine Nf.mk (List.map (cL cI) (y1025++[y1387])) (app_map (l:=y1025) (m:=[y1387]) (c:=cL cI)) ?_
 conv=>whnf
 refine Side.mk rfl ?_
 conv=>whnf
 refine Side.mk rfl ?_
 conv=>whnf
 refine Side.mk rfl ?_
 conv=>whnf
 refine Side.mk rfl ?_
 conv=>whnf
 refine Side.mk ⟨rfl,trivial⟩ ?_
 conv=>whnf
 obtain ⟨c1510,h⟩:=chk_some h
 refine Side.mk ⟨rfl,map_len (l:=[y1388]) (c:=cL cI) fun _=>rfl,show capOk _ 24 by simpa only [List.length_map,List.length_cons,List.length_nil,Nat.zero_add] using c1510⟩ ?_
 conv=>whnf
 refine Nf.mk (List.map (cL cI) (y1026++[y1388])) (app_map (l:=y1026) (m:=[y1388]) (c:=cL cI)) ?_
 conv=>whnf
 refine Side.mk rfl ?_
 conv=>whnf
 refine Side.mk rfl ?_
 conv=>whnf
 refine Arith.mk (by show inR _;unfold inR;omega) ?_
 conv=>whnf
 cases h
 exact Nxt.mk _ ho1269 (eA [(130,some 130),(131,some 131),(132,some 132),(133,some 133),(134,some 134),(135,some 135)])
 obtain ⟨h,b1270d⟩:=cfd b1270 h
 conv=>whnf
 cases h
 have ho1269:_=_:=ho1269
 cases ho1269
 exact Join.mk (eA [(130,some 130),(131,some 133),(132,some 134),(133,some 135)])
 replace h:R08_Min.k59 m_ y800 y801=some _:=hk85
 unfold R08_Min.k59 at h
 obtain ⟨z1516,z1517,_⟩:=hp
 conv=>whnf
 refine Side.mk rfl ?_
 conv=>whnf
 refine Side.mk rfl ?_
 conv=>whnf
 cases h
 conv=>whnf
 refine Side.mk ⟨rfl,trivial⟩ ?_
 conv=>whnf
 exact Side.mk ⟨rfl,rfl,trivial⟩ ⟨rfl,rfl⟩
theorem sp_R01_Next (w_:List Int) (inputs_:Int) (r:List Int×Bool) (h:Ok (nL cI w_)→Ok (nI inputs_)→R01_Next w_ inputs_=some r):Sp Tryz.prog 106 [.im (nL cI w_),.im (nI inputs_)] (.tup [nL cI r.1,nB r.2]):=by
 refine sp_of rfl [12] rfl rfl rfl (Nat.le_of_ble_eq_true rfl) rfl fun hk=>?_
 replace h:=h hk.1 hk.2.1
 have z1:lZ w_:=ok_len hk.1
 unfold R01_Next at h
 conv=>whnf
 obtain ⟨c51,hc51,h⟩:=bind_some h
 refine ⟨_,(sp_R01_Check w_ inputs_ c51 (fun _ _=>hc51)),?_⟩
 conv=>whnf
 refine Both.mk ?_ ?_<;>intro b52
 obtain ⟨h,b52d⟩:=ctd b52 h
 conv=>whnf
 cases h
 conv=>whnf
 exact ⟨rfl,rfl⟩
 obtain ⟨h,b52d⟩:=cfd b52 h
 conv=>whnf
 obtain ⟨c53,h⟩:=chk_some h
 refine Side.mk ⟨rfl,map_len (l:=w_) (c:=cI) fun _=>rfl,show capOk _ 8 by simpa only [List.length_map,List.length_cons,List.length_nil,Nat.zero_add] using c53⟩ ?_
 conv=>whnf
 refine Nf.mk (List.map cI ([]++w_)) (app_map (l:=[]) (m:=w_) (c:=cI)) ?_
 conv=>whnf
 refine Side.mk rfl ?_
 conv=>whnf
 refine Nf.mk (List.length ([]++w_)) len_map ?_
 conv=>whnf
 obtain ⟨c54,h⟩:=chk_some h
 refine Arith.mk c54 ?_
 conv=>whnf
 obtain ⟨oc,hc,hk55⟩:=bind_some h
 clear h
 have h:=hc
 clear hc
 refine Cut.mkS oc (Y:=List Int) (fun y88=>mkSt [(0,.im (nL cI w_)),(6,.osl 64 1)] [(64,.row 3 1 (List.map cI y88))] []) (fun y88=>lZ w_∧lZ y88∧True) (by rintro y88;exact ((Holds.avl 0 rfl).and ((Holds.kdl 64 rfl).and (hT)))) ?_ ?_
 conv=>whnf
 refine Loops.iter (fun (s:List Int×Int)=>R01_Next.s2 inputs_ s.1 s.2) (fun (y98,i99)=>mkSt [(0,.im (nL cI w_)),(1,.im (nI inputs_)),(6,.osl 64 1),(7,.im (nI i99))] [(64,.row 3 1 (List.map cI y98))] []) (fun (y98,i99)=>lZ w_∧lZ y98∧True) h (eA [(64,some 12)]) (by rintro ⟨y98,i99⟩;exact ((Holds.avl 0 rfl).and ((Holds.kdl 64 rfl).and (hT)))) ?_
 clear h
 rintro k ⟨y98,i99⟩ o hp h ho109
 replace h:R01_Next.s2 inputs_ y98 i99=some o:=h
 unfold R01_Next.s2 at h
 obtain ⟨z119,z120,_⟩:=hp
 conv=>whnf
 refine Both.mk ?_ ?_<;>intro b110
 obtain ⟨h,b110d⟩:=ctd b110 h
 conv=>whnf
 obtain ⟨e111,he111z,he111,h⟩:=idx_some h
 refine Side.mk ⟨he111z,rfl,map_lt he111⟩ ?_
 conv=>whnf
 refine ⟨_,_,⟨rfl,map_at he111,rfl,rfl⟩,?_⟩
 conv=>whnf
 obtain ⟨c112,h⟩:=chk_some h
 refine Arith.mk c112 ?_
 conv=>whnf
 refine Both.mk ?_ ?_<;>intro b113
 obtain ⟨h,b113d⟩:=ctd b113 h
 conv=>whnf
 obtain ⟨e114,he114z,he114,h⟩:=idx_some h
 refine Side.mk ⟨he114z,rfl,map_lt he114⟩ ?_
 conv=>whnf
 refine ⟨_,_,⟨rfl,map_at he114,rfl,rfl⟩,?_⟩
 conv=>whnf
 obtain ⟨c115,h⟩:=chk_some h
 refine Arith.mk c115 ?_
 conv=>whnf
 obtain ⟨e116,he116z,he116,h⟩:=idx_some h
 refine Side.mk ⟨he116z,rfl,map_lt he116⟩ ?_
 conv=>whnf
 refine Side.mk ⟨rfl,trivial⟩ ?_
 conv=>whnf
 refine ⟨_,map_at he116,?_⟩
 conv=>whnf
 refine Nf.mk (List.map cI (List.set y98 i99.toNat (e114+1))) (set_map rfl) ?_
 conv=>whnf
 cases h
 have ho109:_=_:=ho109
 cases ho109
 replace h:some _=some _:=hk55
 cases h
 conv=>whnf
 exact Side.mk ⟨rfl,trivial⟩ ⟨rfl,rfl⟩
 obtain ⟨h,b113d⟩:=cfd b113 h
 conv=>whnf
 obtain ⟨e117,he117z,he117,h⟩:=idx_some h
 refine Side.mk ⟨he117z,rfl,map_lt he117⟩ ?_
 conv=>whnf
 refine Side.mk ⟨rfl,trivial⟩ ?_
 conv=>whnf
 refine ⟨_,map_at he117,?_⟩
 conv=>whnf
 refine Nf.mk (List.map cI (List.set y98 i99.toNat 0)) (set_map rfl) ?_
 conv=>whnf
 obtain ⟨c118,h⟩:=chk_some h
 refine Arith.mk c118 ?_
 conv=>whnf
 cases h
 exact Nxt.mk _ ho109 (eA [(64,some 64)])
 obtain ⟨h,b110d⟩:=cfd b110 h
 conv=>whnf
 cases h
 have ho109:_=_:=ho109
 cases ho109
 exact JoinS.mk' _ rfl (eA [(64,some 64)])
 rintro y88 rfl hp
 replace h:=sum_inl hk55
 obtain ⟨z121,z122,_⟩:=hp
 conv=>whnf
 refine Nf.mk (List.length w_) len_map ?_
 conv=>whnf
 refine Both.mk ?_ ?_<;>intro b123
 obtain ⟨h,b123d⟩:=ctd b123 h
 conv=>whnf
 cases h
 conv=>whnf
 exact ⟨rfl,rfl⟩
 obtain ⟨h,b123d⟩:=cfd b123 h
 conv=>whnf
 obtain ⟨c124,h⟩:=chk_some h
 refine Side.mk ⟨rfl,map_len (l:=[0]) (c:=cI) fun _=>rfl,show capOk _ 8 by simpa only [List.length_map,List.length_cons,List.length_nil,Nat.zero_add] using c124⟩ ?_
 conv=>whnf
 refine Nf.mk (List.map cI (y88++[0])) (app_map (l:=y88) (m:=[0]) (c:=cI)) ?_
 conv=>whnf
 cases h
 conv=>whnf
 exact Side.mk ⟨rfl,trivial⟩ ⟨rfl,rfl⟩
theorem sp_R02_Upto (inputs_:Int) (n_:Int) (r:List (List Int)×Int) (h:Ok (nI inputs_)→Ok (nI n_)→R02_Upto inputs_ n_=some r):Sp Tryz.prog 69 [.im (nI inputs_),.im (nI n_)] (.tup [nL (cL cI) r.1,nI r.2]):=by
 refine sp_of rfl [] rfl rfl rfl (Nat.le_of_ble_eq_true rfl) rfl fun hk=>?_
 replace h:=h hk.1 hk.2.1
 unfold R02_Upto at h
 conv=>whnf
 obtain ⟨y56,hc,hk52⟩:=bind_some h
 clear h
 have h:=hc
 clear hc
 refine Cut.mk (mkSt [(0,.im (nI inputs_)),(1,.im (nI n_)),(19,.im (nB y56))] [] []) (True) (hT) ?_ (fun hp=>?_)
 conv=>whnf
 obtain ⟨c57,hc57,h⟩:=bind_some h
 refine ⟨_,(sp_R01_Size inputs_ c57 (fun _=>hc57)),?_⟩
 conv=>whnf
 refine Both.mk ?_ ?_<;>intro b58
 replace b58:=beq_ff b58
 replace h:=cond_f b58 h
 conv=>whnf
 refine Both.yes (ff_beq b58) ?_
 conv=>whnf
 refine Both.no b58 ?_
 conv=>whnf
 refine Both.mk ?_ ?_<;>intro b59
 replace b59:=beq_ff b59
 obtain ⟨h,b59d⟩:=cfd b59 h
 conv=>whnf
 refine Both.yes (ff_beq b59) ?_
 conv=>whnf
 refine Both.no b59 ?_
 conv=>whnf
 cases h
 exact Join.mk (eA [])
 replace b59:=beq_ft b59
 obtain ⟨h,b59d⟩:=ctd b59 h
 conv=>whnf
 refine Both.no (tf_beq b59) ?_
 conv=>whnf
 refine Both.yes b59 ?_
 conv=>whnf
 cases h
 exact Join.mk (eA [])
 replace b58:=beq_ft b58
 replace h:=cond_t b58 h
 conv=>whnf
 refine Both.no (tf_beq b58) ?_
 conv=>whnf
 refine Both.yes b58 ?_
 conv=>whnf
 iterate 2 (refine Both.no rfl ?_;(conv=>whnf))
 refine Both.yes rfl ?_
 conv=>whnf
 cases h
 exact Join.mk (eA [])
 replace h:=hk52
 conv=>whnf
 refine Both.mk ?_ ?_<;>intro b60
 replace h:=cond_t b60 h
 conv=>whnf
 cases h
 conv=>whnf
 exact ⟨rfl,rfl⟩
 replace h:=cond_f b60 h
 conv=>whnf
 obtain ⟨oc,hc,hk61⟩:=bind_some h
 clear h
 have h:=hc
 clear hc
 refine Cut.mkS oc (Y:=List (List Int)) (fun y95=>mkSt [(7,.osl 64 1)] [(64,.row 50 1 (List.map (cL cI) y95))] []) (fun y95=>lZ y95∧True) (by rintro y95;exact ((Holds.kdl 64 rfl).and (hT))) ?_ ?_
 conv=>whnf
 refine Loops.iter (fun (s:List Int×List (List Int)×Bool)=>R02_Upto.s2 inputs_ n_ s.1 s.2.1 s.2.2) (fun (w101,y102,ok103)=>mkSt [(0,.im (nI inputs_)),(1,.im (nI n_)),(6,.im (nL cI w101)),(7,.osl 64 1),(8,.im (nB ok103))] [(64,.row 50 1 (List.map (cL cI) y102))] []) (fun (w101,y102,ok103)=>lZ w101∧lZ y102∧True) h (Ent.mk [(64,none)] rfl ⟨eI rfl rfl,eI rfl rfl,⟨.im (.val (.slice none 0 0)),rfl,.im (Sub.nz' rfl)⟩,⟨.im (.val (.slice none 0 0)),rfl,.made rfl rfl⟩,eI rfl rfl,trivial⟩ ⟨.inr ⟨rfl,rfl,.inl ⟨_,_,rfl,by decide⟩⟩,trivial⟩ trivial) (by rintro ⟨w101,y102,ok103⟩;exact ((Holds.avl 6 rfl).and ((Holds.kdl 64 rfl).and (hT)))) ?_
 clear h
 rintro k ⟨w101,y102,ok103⟩ o hp h ho115
 replace h:R02_Upto.s2 inputs_ n_ w101 y102 ok103=some o:=h
 unfold R02_Upto.s2 at h
 obtain ⟨z127,z128,_⟩:=hp
 conv=>whnf
 obtain ⟨y119,hc,hk117⟩:=bind_some h
 clear h
 have h:=hc
 clear hc
 refine Cut.mk (mkSt [(0,.im (nI inputs_)),(1,.im (nI n_)),(6,.im (nL cI w101)),(7,.osl 64 1),(26,.im (nB y119))] [(64,.row 50 1 (List.map (cL cI) y102))] []) (lZ w101∧lZ y102∧True) ((Holds.avl 6 rfl).and ((Holds.kdl 64 rfl).and (hT))) ?_ (fun hp=>?_)
 conv=>whnf
 refine Both.mk ?_ ?_<;>intro b120
 replace b120:=beq_tt b120
 replace h:=cond_t b120 h
 conv=>whnf
 refine Both.yes (tt_beq b120) ?_
 conv=>whnf
 refine Nf.mk (List.length w101) len_map ?_
 conv=>whnf
 iterate 2 (refine Both.yes (tt_beq b120) ?_;(conv=>whnf))
 refine Both.yes b120 ?_
 conv=>whnf
 cases h
 exact Join.mk (eA [(64,some 64)])
 replace b120:=beq_tf b120
 replace h:=cond_f b120 h
 conv=>whnf
 iterate 3 (refine Both.no (ft_beq b120) ?_;(conv=>whnf))
 refine Both.no b120 ?_
 conv=>whnf
 cases h
 exact Join.mk (eA [(64,some 64)])
 replace h:=hk117
 obtain ⟨z121,z122,_⟩:=hp
 conv=>whnf
 refine Both.mk ?_ ?_<;>intro b123
 replace h:=cond_t b123 h
 conv=>whnf
 refine Side.mk rfl ?_
 conv=>whnf
 refine Nf.mk (List.length y102) len_map ?_
 conv=>whnf
 refine Both.mk ?_ ?_<;>intro b124
 obtain ⟨h,b124d⟩:=ctd b124 h
 conv=>whnf
 cases h
 have ho115:_=_:=ho115
 cases ho115
 replace h:some _=some _:=hk61
 cases h
 conv=>whnf
 exact ⟨rfl,rfl⟩
 obtain ⟨h,b124d⟩:=cfd b124 h
 conv=>whnf
 obtain ⟨c125,h⟩:=chk_some h
 refine Side.mk ⟨rfl,map_len (l:=[w101]) (c:=cL cI) fun _=>rfl,show capOk _ 24 by simpa only [List.length_map,List.length_cons,List.length_nil,Nat.zero_add] using c125⟩ ?_
 conv=>whnf
 refine Nf.mk (List.map (cL cI) (y102++[w101])) (app_map (l:=y102) (m:=[w101]) (c:=cL cI)) ?_
 conv=>whnf
 obtain ⟨c126,hc126,h⟩:=bind_some h
 refine ⟨_,(sp_R01_Next w101 inputs_ c126 (fun _ _=>hc126)),?_⟩
 conv=>whnf
 cases h
 exact Nxt.mk _ ho115 (eA [(64,some 64)])
 replace h:=cond_f b123 h
 conv=>whnf
 cases h
 have ho115:_=_:=ho115
 cases ho115
 exact JoinS.mk' _ rfl (eA [(64,some 64)])
 rintro y95 rfl hp
 replace h:=sum_inl hk61
 obtain ⟨z129,_⟩:=hp
 conv=>whnf
 cases h
 conv=>whnf
 exact Side.mk ⟨rfl,trivial⟩ ⟨rfl,rfl⟩
theorem sp_R10_has (l_:List Int) (n_:Int) (r:Bool) (h:Ok (nL cI l_)→Ok (nI n_)→R10_has l_ n_=some r):Sp Tryz.prog 127 [.im (nL cI l_),.im (nI n_)] (.im (nB r)):=by
 refine sp_of rfl [] rfl rfl rfl (Nat.le_of_ble_eq_true rfl) rfl fun hk=>?_
 replace h:=h hk.1 hk.2.1
 have z1:lZ l_:=ok_len hk.1
 unfold R10_has at h
 conv=>whnf
 obtain ⟨oc,hc,hk51⟩:=bind_some h
 clear h
 have h:=hc
 clear hc
 refine Cut.mkS oc (Y:=Unit) (fun (_:Unit)=>mkSt [] [] []) (fun (_:Unit)=>True) (by rintro ⟨⟩;exact (hT)) ?_ ?_
 conv=>whnf
 refine Loops.iter (fun (s:Nat)=>R10_has.s2 l_ n_ s) (fun i67=>mkSt [(0,.im (nL cI l_)),(1,.im (nI n_)),(5,.im (nI (↑i67:Int)))] [] []) (fun i67=>lZ l_∧True) h (eA []) (by rintro i67;exact ((Holds.avl 0 rfl).and (hT))) ?_
 clear h
 rintro k i67 o hp h ho71
 replace h:R10_has.s2 l_ n_ i67=some o:=h
 unfold R10_has.s2 at h
 obtain ⟨z75,_⟩:=hp
 conv=>whnf
 refine Nf.mk (List.length l_) len_map ?_
 conv=>whnf
 refine Both.mk ?_ ?_<;>intro b72
 obtain ⟨h,b72d⟩:=ctd b72 h
 conv=>whnf
 obtain ⟨e73,he73,h⟩:=idxn_some h
 refine ⟨_,⟨(by omega),map_at he73,rfl⟩,?_⟩
 conv=>whnf
 refine Both.mk ?_ ?_<;>intro b74
 obtain ⟨h,b74d⟩:=ctd b74 h
 conv=>whnf
 cases h
 have ho71:_=_:=ho71
 cases ho71
 replace h:some _=some _:=hk51
 cases h
 conv=>whnf
 exact ⟨rfl,rfl⟩
 obtain ⟨h,b74d⟩:=cfd b74 h
 conv=>whnf
 refine Arith.mk (by show inR _;unfold inR;omega) ?_
 conv=>whnf
 cases h
 exact Nxt.mk _ ho71 (eA [])
 obtain ⟨h,b72d⟩:=cfd b72 h
 conv=>whnf
 cases h
 have ho71:_=_:=ho71
 cases ho71
 exact JoinS.mk' _ rfl (eA [])
 rintro ⟨⟩ rfl hp
 replace h:=sum_inl hk51
 conv=>whnf
 cases h
 conv=>whnf
 exact ⟨rfl,rfl⟩
theorem sp_R09_Extended (w_:List Int) (a_:Int) (r:List Int) (h:Ok (nL cI w_)→Ok (nI a_)→R09_Extended w_ a_=some r):Sp Tryz.prog 128 [.im (nL cI w_),.im (nI a_)] (.row 3 1 (List.map cI r)):=by
 refine sp_of rfl [] rfl rfl rfl (Nat.le_of_ble_eq_true rfl) rfl fun hk=>?_
 replace h:=h hk.1 hk.2.1
 have z1:lZ w_:=ok_len hk.1
 unfold R09_Extended at h
 conv=>whnf
 obtain ⟨c51,h⟩:=chk_some h
 refine Side.mk ⟨map_len (l:=w_) (c:=cI) fun _=>rfl,show capOk _ 8 by simpa only [List.length_map,List.length_cons,List.length_nil,Nat.zero_add] using c51⟩ ?_
 conv=>whnf
 refine Nf.mk (List.map cI w_) rfl ?_
 conv=>whnf
 obtain ⟨c52,h⟩:=chk_some h
 refine Side.mk ⟨rfl,map_len (l:=[a_]) (c:=cI) fun _=>rfl,show capOk _ 8 by simpa only [List.length_map,List.length_cons,List.length_nil,Nat.zero_add] using c52⟩ ?_
 conv=>whnf
 refine Nf.mk (List.map cI (w_++[a_])) (app_map (l:=w_) (m:=[a_]) (c:=cI)) ?_
 conv=>whnf
 cases h
 conv=>whnf
 exact Side.mk ⟨rfl,trivial⟩ ⟨rfl,rfl⟩
theorem sp_R10_Access (m_:T_api_Mealy) (r:List Int×List (List Int)×Int) (h:Ok (.agg (c_api_Mealy m_))→R10_Access m_=some r):Sp Tryz.prog 107 [.im (.agg (c_api_Mealy m_))] (.tup [nL cI r.1,nL (cL cI) r.2.1,nI r.2.2]):=by
 refine sp_of rfl [18,20,500046,700001] rfl rfl rfl (Nat.le_of_ble_eq_true rfl) rfl fun hk=>?_
 replace h:=h hk.1
 have z1:lZ m_.Next:=ok_len (Ok.agg_at hk.1 2 rfl)
 have z2:lZ m_.Out:=ok_len (Ok.agg_at hk.1 3 rfl)
 unfold R10_Access at h
 conv=>whnf
 obtain ⟨c51,hc51,h⟩:=bind_some h
 refine ⟨_,(sp_R06_Valid m_ c51 (fun _=>hc51)),?_⟩
 conv=>whnf
 refine Both.mk ?_ ?_<;>intro b52
 obtain ⟨h,b52d⟩:=ctd b52 h
 conv=>whnf
 cases h
 conv=>whnf
 exact ⟨rfl,rfl⟩
 obtain ⟨h,b52d⟩:=cfd b52 h
 conv=>whnf
 obtain ⟨⟨y318,y319⟩,hc,hk53⟩:=bind_some h
 clear h
 have h:=hc
 clear hc
 refine Cut.mk (mkSt [(6,.osl 64 1),(7,.osl 65 1)] [(64,.row 3 1 (List.map cI y318)),(65,.row 50 1 (List.map (cL cI) y319))] []) (lZ y318∧lZ y319∧True) ((Holds.kdl 64 rfl).and ((Holds.kdl 65 rfl).and (hT))) ?_ (fun hp=>?_)
 conv=>whnf
 refine Loops.iter (fun (s:List Int×List (List Int)×Nat)=>R10_Access.s20 m_ s.1 s.2.1 s.2.2) (fun (y406,y407,i408)=>mkSt [(1,.im (.ref (c_api_Mealy m_))),(6,.osl 64 1),(7,.osl 65 1),(8,.im (nI (↑i408:Int)))] [(64,.row 3 1 (List.map cI y406)),(65,.row 50 1 (List.map (cL cI) y407))] []) (fun (y406,y407,i408)=>lZ y406∧lZ y407∧True) h (eA [(64,some 18),(65,some 20)]) (by rintro ⟨y406,y407,i408⟩;exact ((Holds.kdl 64 rfl).and ((Holds.kdl 65 rfl).and (hT)))) ?_
 clear h
 rintro k ⟨y406,y407,i408⟩ o hp h ho495
 replace h:R10_Access.s20 m_ y406 y407 i408=some o:=h
 unfold R10_Access.s20 at h
 obtain ⟨z582,z583,_⟩:=hp
 conv=>whnf
 refine Side.mk rfl ?_
 conv=>whnf
 refine Nf.mk (List.length y406) len_map ?_
 conv=>whnf
 refine Both.mk ?_ ?_<;>intro b496
 obtain ⟨h,b496d⟩:=ctd b496 h
 conv=>whnf
 obtain ⟨⟨y538,y539⟩,hc,hk497⟩:=bind_some h
 clear h
 have h:=hc
 clear hc
 refine Cut.mk (mkSt [(1,.im (.ref (c_api_Mealy m_))),(6,.osl 64 1),(7,.osl 65 1),(8,.im (nI (↑i408:Int)))] [(64,.row 3 1 (List.map cI y538)),(65,.row 50 1 (List.map (cL cI) y539))] []) (lZ y538∧lZ y539∧True) ((Holds.kdl 64 rfl).and ((Holds.kdl 65 rfl).and (hT))) ?_ (fun hp=>?_)
 conv=>whnf
 refine Loops.iter (fun (s:List Int×List (List Int)×Nat)=>R10_Access.s18 m_ i408 s.1 s.2.1 s.2.2) (fun (y550,y551,a552)=>mkSt [(1,.im (.ref (c_api_Mealy m_))),(6,.osl 64 1),(7,.osl 65 1),(8,.im (nI (↑i408:Int))),(9,.im (nI (↑a552:Int)))] [(64,.row 3 1 (List.map cI y550)),(65,.row 50 1 (List.map (cL cI) y551))] []) (fun (y550,y551,a552)=>lZ y550∧lZ y551∧True) h (eA [(64,some 64),(65,some 65)]) (by rintro ⟨y550,y551,a552⟩;exact ((Holds.kdl 64 rfl).and ((Holds.kdl 65 rfl).and (hT)))) ?_
 clear h
 rintro k ⟨y550,y551,a552⟩ o hp h ho565
 replace h:R10_Access.s18 m_ i408 y550 y551 a552=some o:=h
 unfold R10_Access.s18 at h
 obtain ⟨z578,z579,_⟩:=hp
 conv=>whnf
 refine Both.mk ?_ ?_<;>intro b566
 obtain ⟨h,b566d⟩:=ctd b566 h
 conv=>whnf
 obtain ⟨e567,he567,h⟩:=idxn_some h
 refine Side.mk ⟨(by omega),rfl,map_lt he567⟩ ?_
 conv=>whnf
 refine ⟨_,_,⟨rfl,map_at he567,rfl,rfl⟩,?_⟩
 conv=>whnf
 obtain ⟨e568,he568z,he568,h⟩:=idx_some h
 refine ⟨_,⟨he568z,map_at he568,rfl⟩,?_⟩
 conv=>whnf
 obtain ⟨e569,he569,h⟩:=idxn_some h
 refine ⟨_,⟨(by omega),map_at he569,rfl⟩,?_⟩
 conv=>whnf
 refine Side.mk ⟨rfl,trivial⟩ ?_
 conv=>whnf
 obtain ⟨c570,hc570,h⟩:=bind_some h
 refine ⟨_,(sp_R10_has y550 e569 c570 (fun _ _=>hc570)),?_⟩
 conv=>whnf
 refine Side.mk flat_one ?_
 conv=>whnf
 refine Both.mk ?_ ?_<;>intro b571
 replace h:=cond_t b571 h
 conv=>whnf
 obtain ⟨c572,h⟩:=chk_some h
 refine Side.mk ⟨rfl,map_len (l:=[e569]) (c:=cI) fun _=>rfl,show capOk _ 8 by simpa only [List.length_map,List.length_cons,List.length_nil,Nat.zero_add] using c572⟩ ?_
 conv=>whnf
 refine Nf.mk (List.map cI (y550++[e569])) (app_map (l:=y550) (m:=[e569]) (c:=cI)) ?_
 conv=>whnf
 obtain ⟨e573,he573,h⟩:=idxn_some h
 refine Side.mk ⟨(by omega),rfl,map_lt he573⟩ ?_
 conv=>whnf
 refine ⟨_,_,⟨rfl,map_at he573,rfl,rfl⟩,?_⟩
 conv=>whnf
 obtain ⟨c574,hc574,h⟩:=bind_some h
 refine ⟨_,(sp_R09_Extended e573 (↑a552:Int) c574 (fun _ _=>hc574)).im,?_⟩
 conv=>whnf
 obtain ⟨c575,h⟩:=chk_some h
 refine Side.mk ⟨rfl,map_len (l:=[c574]) (c:=cL cI) fun _=>rfl,show capOk _ 24 by simpa only [List.length_map,List.length_cons,List.length_nil,Nat.zero_add] using c575⟩ ?_
 conv=>whnf
 refine Nf.mk (List.map (cL cI) (y551++[c574])) (app_map (l:=y551) (m:=[c574]) (c:=cL cI)) ?_
 conv=>whnf
 obtain ⟨c576,h⟩:=chk_some h
 refine Arith.mk c576 ?_
 conv=>whnf
 cases h
 exact Nxt.mk _ ho565 (eA [(64,some 64),(65,some 65)])
 replace h:=cond_f b571 h
 conv=>whnf
 obtain ⟨c577,h⟩:=chk_some h
 refine Arith.mk c577 ?_
 conv=>whnf
 cases h
 exact Nxt.mk _ ho565 (eA [(64,some 64),(65,some 65)])
 obtain ⟨h,b566d⟩:=cfd b566 h
 conv=>whnf
 cases h
 have ho565:_=_:=ho565
 cases ho565
 exact Join.mk (eA [(64,some 64),(65,some 65)])
 replace h:R10_Access.k19 i408 y538 y539=some _:=hk497
 unfold R10_Access.k19 at h
 obtain ⟨z580,z581,_⟩:=hp
 conv=>whnf
 refine Arith.mk (by show inR _;unfold inR;omega) ?_
 conv=>whnf
 cases h
 exact Nxt.mk _ ho495 (eA [(64,some 64),(65,some 65)])
 obtain ⟨h,b496d⟩:=cfd b496 h
 conv=>whnf
 cases h
 have ho495:_=_:=ho495
 cases ho495
 exact Join.mk (eA [(64,some 64),(65,some 65)])
 replace h:R10_Access.k21 y318 y319=some _:=hk53
 unfold R10_Access.k21 at h
 obtain ⟨z584,z585,_⟩:=hp
 conv=>whnf
 cases h
 conv=>whnf
 exact Side.mk ⟨rfl,rfl,trivial⟩ ⟨rfl,rfl⟩
theorem sp_R10_StateCover (m_:T_api_Mealy) (r:List (List Int)×Int) (h:Ok (.agg (c_api_Mealy m_))→R10_StateCover m_=some r):Sp Tryz.prog 70 [.im (.agg (c_api_Mealy m_))] (.tup [nL (cL cI) r.1,nI r.2]):=by
 refine sp_of rfl [700001] rfl rfl rfl (Nat.le_of_ble_eq_true rfl) rfl fun hk=>?_
 replace h:=h hk.1
 have z1:lZ m_.Next:=ok_len (Ok.agg_at hk.1 2 rfl)
 have z2:lZ m_.Out:=ok_len (Ok.agg_at hk.1 3 rfl)
 unfold R10_StateCover at h
 conv=>whnf
 obtain ⟨c51,hc51,h⟩:=bind_some h
 refine ⟨_,(sp_R10_Access m_ c51 (fun _=>hc51)),?_⟩
 conv=>whnf
 cases h
 conv=>whnf
 exact ⟨rfl,rfl⟩
theorem sp_R29_Parts (m_:T_api_Mealy) (extra_:Int) (r:T_api_Mealy×List (List Int)×List (List Int)×Int) (h:Ok (.agg (c_api_Mealy m_))→Ok (nI extra_)→R29_Parts m_ extra_=some r):Sp Tryz.prog 35 [.im (.agg (c_api_Mealy m_)),.im (nI extra_)] (.tup [.agg (c_api_Mealy r.1),nL (cL cI) r.2.1,nL (cL cI) r.2.2.1,nI r.2.2.2]):=by
 refine sp_of rfl [700002] rfl rfl rfl (Nat.le_of_ble_eq_true rfl) rfl fun hk=>?_
 replace h:=h hk.1 hk.2.1
 have z1:lZ m_.Next:=ok_len (Ok.agg_at hk.1 2 rfl)
 have z2:lZ m_.Out:=ok_len (Ok.agg_at hk.1 3 rfl)
 unfold R29_Parts at h
 conv=>whnf
 obtain ⟨c51,hc51,h⟩:=bind_some h
 refine ⟨_,(sp_R08_Min m_ c51 (fun _=>hc51)),?_⟩
 conv=>whnf
 refine Side.mk rfl ?_
 conv=>whnf
 refine Both.mk ?_ ?_<;>intro b52
 obtain ⟨h,b52d⟩:=ctd b52 h
 conv=>whnf
 refine Side.mk rfl ?_
 conv=>whnf
 cases h
 conv=>whnf
 refine Side.mk ⟨rfl,trivial⟩ ?_
 conv=>whnf
 exact ⟨rfl,rfl⟩
 obtain ⟨h,b52d⟩:=cfd b52 h
 conv=>whnf
 obtain ⟨y56,hc,hk54⟩:=bind_some h
 clear h
 have h:=hc
 clear hc
 refine Cut.mk (mkSt [(1,.im (nI extra_)),(2,.im (.ref (c_api_Mealy m_))),(4,.own 64 1 0),(8,.own 65 1 0),(28,.im (nB y56))] [(64,.box 24 4),(65,.box 24 4)] [(64,0,.im (nI 0)),(64,1,.im (nI 0)),(64,2,.im (.val (.slice none 0 0))),(64,3,.im (.val (.slice none 0 0))),(65,0,.im (nI c51.1.Inputs)),(65,1,.im (nI c51.1.Start)),(65,2,.im (nL (cL cI) c51.1.Next)),(65,3,.im (nL (cL cI) c51.1.Out))]) (lZ c51.1.Next∧lZ c51.1.Out∧True) ((Holds.cel 65 2 rfl (by decide) rfl).and ((Holds.cel 65 3 rfl (by decide) rfl).and (hT))) ?_ (fun hp=>?_)
 conv=>whnf
 refine Both.mk ?_ ?_<;>intro b57
 replace b57:=beq_ff b57
 obtain ⟨h,b57d⟩:=cfd b57 h
 conv=>whnf
 refine Both.yes (ff_beq b57) ?_
 conv=>whnf
 refine Both.no b57 ?_
 conv=>whnf
 cases h
 exact Join.mk (eA [(64,some 4),(65,some 8)])
 replace b57:=beq_ft b57
 obtain ⟨h,b57d⟩:=ctd b57 h
 conv=>whnf
 refine Both.no (tf_beq b57) ?_
 conv=>whnf
 refine Both.yes b57 ?_
 conv=>whnf
 cases h
 exact Join.mk (eA [(64,some 4),(65,some 8)])
 replace h:=hk54
 obtain ⟨z58,z59,_⟩:=hp
 conv=>whnf
 refine Both.mk ?_ ?_<;>intro b60
 replace h:=cond_t b60 h
 conv=>whnf
 refine Side.mk rfl ?_
 conv=>whnf
 cases h
 conv=>whnf
 refine Side.mk ⟨rfl,trivial⟩ ?_
 conv=>whnf
 exact ⟨rfl,rfl⟩
 replace h:=cond_f b60 h
 conv=>whnf
 obtain ⟨c61,h⟩:=chk_some h
 refine Arith.mk c61 ?_
 conv=>whnf
 obtain ⟨c62,hc62,h⟩:=bind_some h
 refine ⟨_,(sp_R02_Upto m_.Inputs (extra_+1) c62 (fun _ _=>hc62)),?_⟩
 conv=>whnf
 refine Both.mk ?_ ?_<;>intro b63
 obtain ⟨h,b63d⟩:=ctd b63 h
 conv=>whnf
 refine Side.mk rfl ?_
 conv=>whnf
 cases h
 conv=>whnf
 refine Side.mk ⟨rfl,trivial⟩ ?_
 conv=>whnf
 exact ⟨rfl,rfl⟩
 obtain ⟨h,b63d⟩:=cfd b63 h
 conv=>whnf
 refine Side.mk rfl ?_
 conv=>whnf
 obtain ⟨c64,hc64,h⟩:=bind_some h
 refine ⟨_,(sp_R10_StateCover c51.1 c64 (fun _=>hc64)),?_⟩
 conv=>whnf
 refine Side.mk rfl ?_
 conv=>whnf
 refine Side.mk rfl ?_
 conv=>whnf
 cases h
 conv=>whnf
 refine Side.mk ⟨rfl,trivial⟩ ?_
 conv=>whnf
 exact ⟨rfl,rfl⟩
theorem sp_R08_Minimal (m_:T_api_Mealy) (r:Bool) (h:Ok (.agg (c_api_Mealy m_))→R08_Minimal m_=some r):Sp Tryz.prog 108 [.im (.agg (c_api_Mealy m_))] (.im (nB r)):=by
 refine sp_of rfl [700001] rfl rfl rfl (Nat.le_of_ble_eq_true rfl) rfl fun hk=>?_
 replace h:=h hk.1
 have z1:lZ m_.Next:=ok_len (Ok.agg_at hk.1 2 rfl)
 have z2:lZ m_.Out:=ok_len (Ok.agg_at hk.1 3 rfl)
 unfold R08_Minimal at h
 conv=>whnf
 obtain ⟨c51,hc51,h⟩:=bind_some h
 refine ⟨_,(sp_R08_Min m_ c51 (fun _=>hc51)),?_⟩
 conv=>whnf
 refine Side.mk rfl ?_
 conv=>whnf
 obtain ⟨y55,hc,hk53⟩:=bind_some h
 clear h
 have h:=hc
 clear hc
 refine Cut.mk (mkSt [(2,.im (nB y55))] [] []) (True) (hT) ?_ (fun hp=>?_)
 conv=>whnf
 refine Both.mk ?_ ?_<;>intro b56
 replace b56:=beq_tt b56
 obtain ⟨h,b56d⟩:=ctd b56 h
 conv=>whnf
 refine Side.mk rfl ?_
 conv=>whnf
 refine Both.yes (tt_beq b56) ?_
 conv=>whnf
 refine Side.mk rfl ?_
 conv=>whnf
 refine Both.yes (tt_beq b56) ?_
 conv=>whnf
 refine Nf.mk (List.length c51.1.Next) len_map ?_
 conv=>whnf
 iterate 3 (refine Both.yes (tt_beq b56) ?_;(conv=>whnf))
 refine Nf.mk (List.length m_.Next) len_map ?_
 conv=>whnf
 refine Both.yes (tt_beq b56) ?_
 conv=>whnf
 refine Both.yes b56 ?_
 conv=>whnf
 cases h
 exact Join.mk (eA [])
 replace b56:=beq_tf b56
 obtain ⟨h,b56d⟩:=cfd b56 h
 conv=>whnf
 iterate 6 (refine Both.no (ft_beq b56) ?_;(conv=>whnf))
 refine Both.no b56 ?_
 conv=>whnf
 cases h
 exact Join.mk (eA [])
 replace h:=hk53
 conv=>whnf
 cases h
 conv=>whnf
 exact ⟨rfl,rfl⟩
theorem sp_R11_Check (m_:T_api_Mealy) (r:Int) (h:Ok (.agg (c_api_Mealy m_))→R11_Check m_=some r):Sp Tryz.prog 71 [.im (.agg (c_api_Mealy m_))] (.im (nI r)):=by
 refine sp_of rfl [700001] rfl rfl rfl (Nat.le_of_ble_eq_true rfl) rfl fun hk=>?_
 replace h:=h hk.1
 have z1:lZ m_.Next:=ok_len (Ok.agg_at hk.1 2 rfl)
 have z2:lZ m_.Out:=ok_len (Ok.agg_at hk.1 3 rfl)
 unfold R11_Check at h
 conv=>whnf
 obtain ⟨c51,hc51,h⟩:=bind_some h
 refine ⟨_,(sp_R06_Valid m_ c51 (fun _=>hc51)),?_⟩
 conv=>whnf
 refine Both.mk ?_ ?_<;>intro b52
 obtain ⟨h,b52d⟩:=ctd b52 h
 conv=>whnf
 cases h
 conv=>whnf
 exact ⟨rfl,rfl⟩
 obtain ⟨h,b52d⟩:=cfd b52 h
 conv=>whnf
 obtain ⟨c53,hc53,h⟩:=bind_some h
 refine ⟨_,(sp_R08_Minimal m_ c53 (fun _=>hc53)),?_⟩
 conv=>whnf
 refine Both.mk ?_ ?_<;>intro b54
 replace h:=cond_t b54 h
 conv=>whnf
 cases h
 conv=>whnf
 exact ⟨rfl,rfl⟩
 replace h:=cond_f b54 h
 conv=>whnf
 cases h
 conv=>whnf
 exact ⟨rfl,rfl⟩
theorem sp_R09_first (a_:T_api_Mealy) (b_:T_api_Mealy) (s_:Int) (t_:Int) (r:List Int×Bool) (h:Ok (.agg (c_api_Mealy a_))→Ok (.agg (c_api_Mealy b_))→Ok (nI s_)→Ok (nI t_)→R09_first a_ b_ s_ t_=some r):Sp Tryz.prog 109 [.im (.agg (c_api_Mealy a_)),.im (.agg (c_api_Mealy b_)),.im (nI s_),.im (nI t_)] (.tup [nL cI r.1,nB r.2]):=by
 refine sp_of rfl [21,700004,700005] rfl rfl rfl (Nat.le_of_ble_eq_true rfl) rfl fun hk=>?_
 replace h:=h hk.1 hk.2.1 hk.2.2.1 hk.2.2.2.1
 have z1:lZ a_.Next:=ok_len (Ok.agg_at hk.1 2 rfl)
 have z2:lZ a_.Out:=ok_len (Ok.agg_at hk.1 3 rfl)
 have z3:lZ b_.Next:=ok_len (Ok.agg_at hk.2.1 2 rfl)
 have z4:lZ b_.Out:=ok_len (Ok.agg_at hk.2.1 3 rfl)
 unfold R09_first at h
 conv=>whnf
 obtain ⟨oc,hc,hk51⟩:=bind_some h
 clear h
 have h:=hc
 clear hc
 refine Cut.mkS oc (Y:=Unit) (fun (_:Unit)=>mkSt [] [] []) (fun (_:Unit)=>True) (by rintro ⟨⟩;exact (hT)) ?_ ?_
 conv=>whnf
 refine Loops.iter (fun (s:List T_learnerref09_Pair×Nat)=>R09_first.s86 a_ b_ s.1 s.2) (fun (y1568,i1569)=>mkSt [(4,.im (.ref (c_api_Mealy a_))),(5,.im (.ref (c_api_Mealy b_))),(10,.osl 125 1),(11,.im (nI (↑i1569:Int)))] [(125,.row 165 3 (List.map c_learnerref09_Pair y1568))] []) (fun (y1568,i1569)=>lZ y1568∧True) h (eA [(125,some 21)]) (by rintro ⟨y1568,i1569⟩;exact ((Holds.kdl 125 rfl).and (hT))) ?_
 clear h
 rintro k ⟨y1568,i1569⟩ o hp h ho1950
 replace h:R09_first.s86 a_ b_ y1568 i1569=some o:=h
 unfold R09_first.s86 at h
 obtain ⟨z2331,_⟩:=hp
 conv=>whnf
 refine Side.mk rfl ?_
 conv=>whnf
 refine Nf.mk (List.length y1568) len_map ?_
 conv=>whnf
 refine Both.mk ?_ ?_<;>intro b1951
 obtain ⟨h,b1951d⟩:=ctd b1951 h
 conv=>whnf
 obtain ⟨oc,hc,hk1952⟩:=bind_some h
 clear h
 have h:=hc
 clear hc
 refine Cut.mkS oc (Y:=List T_learnerref09_Pair) (fun y2141=>mkSt [(4,.im (.ref (c_api_Mealy a_))),(5,.im (.ref (c_api_Mealy b_))),(10,.osl 125 1),(11,.im (nI (↑i1569:Int)))] [(125,.row 165 3 (List.map c_learnerref09_Pair y2141))] []) (fun y2141=>lZ y2141∧True) (by rintro y2141;exact ((Holds.kdl 125 rfl).and (hT))) ?_ ?_
 conv=>whnf
 refine Loops.iter (fun (s:List T_learnerref09_Pair×Nat)=>R09_first.s85 a_ b_ i1569 s.1 s.2) (fun (y2202,x2203)=>mkSt [(4,.im (.ref (c_api_Mealy a_))),(5,.im (.ref (c_api_Mealy b_))),(10,.osl 125 1),(11,.im (nI (↑i1569:Int))),(12,.im (nI (↑x2203:Int)))] [(125,.row 165 3 (List.map c_learnerref09_Pair y2202))] []) (fun (y2202,x2203)=>lZ y2202∧True) h (eA [(125,some 125)]) (by rintro ⟨y2202,x2203⟩;exact ((Holds.kdl 125 rfl).and (hT))) ?_
 clear h
 rintro k ⟨y2202,x2203⟩ o hp h ho2266
 replace h:R09_first.s85 a_ b_ i1569 y2202 x2203=some o:=h
 unfold R09_first.s85 at h
 obtain ⟨z2329,_⟩:=hp
 conv=>whnf
 refine Both.mk ?_ ?_<;>intro b2267
 obtain ⟨h,b2267d⟩:=ctd b2267 h
 conv=>whnf
 obtain ⟨e2268,he2268,h⟩:=idxn_some h
 refine Side.mk ⟨(by omega),rfl,map_lt he2268⟩ ?_
 conv=>whnf
 refine Side.mk rfl ?_
 conv=>whnf
 refine ⟨_,_,⟨rfl,map_at he2268,rfl,rfl⟩,?_⟩
 conv=>whnf
 obtain ⟨c2269,hc2269,h⟩:=bind_some h
 refine ⟨_,(sp_R09_Extended e2268.Word (↑x2203:Int) c2269 (fun _ _=>hc2269)).im,?_⟩
 conv=>whnf
 obtain ⟨e2270,he2270,h⟩:=idxn_some h
 refine Side.mk ⟨(by omega),rfl,map_lt he2270⟩ ?_
 conv=>whnf
 refine Side.mk rfl ?_
 conv=>whnf
 refine ⟨_,_,⟨rfl,map_at he2270,rfl,rfl⟩,?_⟩
 conv=>whnf
 obtain ⟨e2271,he2271z,he2271,h⟩:=idx_some h
 refine ⟨_,⟨he2271z,map_at he2271,rfl⟩,?_⟩
 conv=>whnf
 obtain ⟨e2272,he2272,h⟩:=idxn_some h
 refine ⟨_,⟨(by omega),map_at he2272,rfl⟩,?_⟩
 conv=>whnf
 obtain ⟨e2273,he2273,h⟩:=idxn_some h
 refine Side.mk ⟨(by omega),rfl,map_lt he2273⟩ ?_
 conv=>whnf
 refine Side.mk rfl ?_
 conv=>whnf
 refine ⟨_,_,⟨rfl,map_at he2273,rfl,rfl⟩,?_⟩
 conv=>whnf
 obtain ⟨e2274,he2274z,he2274,h⟩:=idx_some h
 refine ⟨_,⟨he2274z,map_at he2274,rfl⟩,?_⟩
 conv=>whnf
 obtain ⟨e2275,he2275,h⟩:=idxn_some h
 refine ⟨_,⟨(by omega),map_at he2275,rfl⟩,?_⟩
 conv=>whnf
 refine Both.mk ?_ ?_<;>intro b2276
 obtain ⟨h,b2276d⟩:=ctd b2276 h
 conv=>whnf
 cases h
 have ho2266:_=_:=ho2266
 cases ho2266
 replace h:some _=some _:=hk1952
 cases h
 have ho1950:_=_:=ho1950
 cases ho1950
 replace h:some _=some _:=hk51
 cases h
 conv=>whnf
 exact ⟨rfl,rfl⟩
 obtain ⟨h,b2276d⟩:=cfd b2276 h
 conv=>whnf
 obtain ⟨e2277,he2277,h⟩:=idxn_some h
 refine Side.mk ⟨(by omega),rfl,map_lt he2277⟩ ?_
 conv=>whnf
 refine Side.mk rfl ?_
 conv=>whnf
 refine ⟨_,_,⟨rfl,map_at he2277,rfl,rfl⟩,?_⟩
 conv=>whnf
 obtain ⟨e2278,he2278z,he2278,h⟩:=idx_some h
 refine ⟨_,⟨he2278z,map_at he2278,rfl⟩,?_⟩
 conv=>whnf
 obtain ⟨e2279,he2279,h⟩:=idxn_some h
 refine ⟨_,⟨(by omega),map_at he2279,rfl⟩,?_⟩
 conv=>whnf
 obtain ⟨e2280,he2280,h⟩:=idxn_some h
 refine Side.mk ⟨(by omega),rfl,map_lt he2280⟩ ?_
 conv=>whnf
 refine Side.mk rfl ?_
 conv=>whnf
 refine ⟨_,_,⟨rfl,map_at he2280,rfl,rfl⟩,?_⟩
 conv=>whnf
 obtain ⟨e2281,he2281z,he2281,h⟩:=idx_some h
 refine ⟨_,⟨he2281z,map_at he2281,rfl⟩,?_⟩
 conv=>whnf
 obtain ⟨e2282,he2282,h⟩:=idxn_some h
 refine ⟨_,⟨(by omega),map_at he2282,rfl⟩,?_⟩
 conv=>whnf
 obtain ⟨known2303,hc,hk2283⟩:=bind_some h
 clear h
 have h:=hc
 clear hc
 refine Cut.mk (mkSt [(4,.im (.ref (c_api_Mealy a_))),(5,.im (.ref (c_api_Mealy b_))),(10,.osl 125 1),(11,.im (nI (↑i1569:Int))),(12,.im (nI (↑x2203:Int))),(13,.im (nL cI c2269)),(14,.im (nI e2279)),(15,.im (nI e2282)),(16,.im (nB known2303))] [(125,.row 165 3 (List.map c_learnerref09_Pair y2202))] []) (lZ c2269∧lZ y2202∧True) ((Holds.avl 13 rfl).and ((Holds.kdl 125 rfl).and (hT))) ?_ (fun hp=>?_)
 conv=>whnf
 refine Loops.iter (fun (s:Bool×Nat)=>R09_first.s84 y2202 e2279 e2282 s.1 s.2) (fun (known2308,k2309)=>mkSt [(4,.im (.ref (c_api_Mealy a_))),(5,.im (.ref (c_api_Mealy b_))),(10,.osl 125 1),(11,.im (nI (↑i1569:Int))),(12,.im (nI (↑x2203:Int))),(13,.im (nL cI c2269)),(14,.im (nI e2279)),(15,.im (nI e2282)),(16,.im (nB known2308)),(17,.im (nI (↑k2309:Int)))] [(125,.row 165 3 (List.map c_learnerref09_Pair y2202))] []) (fun (known2308,k2309)=>lZ c2269∧lZ y2202∧True) h (eA [(125,some 125)]) (by rintro ⟨known2308,k2309⟩;exact ((Holds.avl 13 rfl).and ((Holds.kdl 125 rfl).and (hT)))) ?_
 clear h
 rintro k ⟨known2308,k2309⟩ o hp h ho2315
 replace h:R09_first.s84 y2202 e2279 e2282 known2308 k2309=some o:=h
 unfold R09_first.s84 at h
 obtain ⟨z2321,z2322,_⟩:=hp
 conv=>whnf
 refine Side.mk rfl ?_
 conv=>whnf
 refine Nf.mk (List.length y2202) len_map ?_
 conv=>whnf
 refine Both.mk ?_ ?_<;>intro b2316
 obtain ⟨h,b2316d⟩:=ctd b2316 h
 conv=>whnf
 refine Both.mk ?_ ?_<;>intro b2317
 replace b2317:=beq_ff b2317
 replace h:=cond_f b2317 h
 conv=>whnf
 iterate 2 (refine Both.yes (ff_beq b2317) ?_;(conv=>whnf))
 obtain ⟨e2318,he2318,h⟩:=idxn_some h
 refine Side.mk ⟨(by omega),rfl,map_lt he2318⟩ ?_
 conv=>whnf
 refine Both.yes (ff_beq b2317) ?_
 conv=>whnf
 refine Side.mk rfl ?_
 conv=>whnf
 refine Both.yes (ff_beq b2317) ?_
 conv=>whnf
 refine ⟨_,_,⟨rfl,map_at he2318,rfl,rfl⟩,?_⟩
 conv=>whnf
 iterate 3 (refine Both.yes (ff_beq b2317) ?_;(conv=>whnf))
 refine Both.mk ?_ ?_<;>intro b2319
 replace b2319:=beq_tt b2319
 obtain ⟨h,b2319d⟩:=ctd b2319 h
 conv=>whnf
 iterate 2 (refine Both.yes (tt_beq b2319) ?_;(conv=>whnf))
 obtain ⟨e2320,he2320,h⟩:=idxn_some h
 refine Side.mk ⟨(by omega),rfl,map_lt he2320⟩ ?_
 conv=>whnf
 refine Both.yes (tt_beq b2319) ?_
 conv=>whnf
 refine Side.mk rfl ?_
 conv=>whnf
 refine Both.yes (tt_beq b2319) ?_
 conv=>whnf
 refine ⟨_,_,⟨rfl,map_at he2320,rfl,rfl⟩,?_⟩
 conv=>whnf
 iterate 2 (refine Both.yes (tt_beq b2319) ?_;(conv=>whnf))
 refine Both.yes (ff_beq b2317) ?_
 conv=>whnf
 refine Both.yes b2319 ?_
 conv=>whnf
 refine Both.no b2317 ?_
 conv=>whnf
 refine Arith.mk (by show inR _;unfold inR;omega) ?_
 conv=>whnf
 cases h
 exact Nxt.mk _ ho2315 (eA [(125,some 125)])
 replace b2319:=beq_tf b2319
 obtain ⟨h,b2319d⟩:=cfd b2319 h
 conv=>whnf
 iterate 6 (refine Both.no (ft_beq b2319) ?_;(conv=>whnf))
 refine Both.yes (ff_beq b2317) ?_
 conv=>whnf
 refine Both.no b2319 ?_
 conv=>whnf
 refine Both.no b2317 ?_
 conv=>whnf
 refine Arith.mk (by show inR _;unfold inR;omega) ?_
 conv=>whnf
 cases h
 exact Nxt.mk _ ho2315 (eA [(125,some 125)])
 replace b2317:=beq_ft b2317
 replace h:=cond_t b2317 h
 conv=>whnf
 iterate 8 (refine Both.no (tf_beq b2317) ?_;(conv=>whnf))
 refine Both.yes b2317 ?_
 conv=>whnf
 refine Arith.mk (by show inR _;unfold inR;omega) ?_
 conv=>whnf
 cases h
 exact Nxt.mk _ ho2315 (eA [(125,some 125)])
 obtain ⟨h,b2316d⟩:=cfd b2316 h
 conv=>whnf
 cases h
 have ho2315:_=_:=ho2315
 cases ho2315
 exact Join.mk (eA [(125,some 125)])
 replace h:=hk2283
 obtain ⟨z2323,z2324,_⟩:=hp
 conv=>whnf
 refine Both.mk ?_ ?_<;>intro b2325
 replace h:=cond_t b2325 h
 conv=>whnf
 obtain ⟨c2326,h⟩:=chk_some h
 refine Side.mk ⟨rfl,map_len (l:=[(⟨e2279,e2282,c2269⟩:T_learnerref09_Pair)]) (c:=c_learnerref09_Pair) fun _=>rfl,show capOk _ 40 by simpa only [List.length_map,List.length_cons,List.length_nil,Nat.zero_add] using c2326⟩ ?_
 conv=>whnf
 refine Nf.mk (List.map c_learnerref09_Pair (y2202++[(⟨e2279,e2282,c2269⟩:T_learnerref09_Pair)])) (app_map (l:=y2202) (m:=[(⟨e2279,e2282,c2269⟩:T_learnerref09_Pair)]) (c:=c_learnerref09_Pair)) ?_
 conv=>whnf
 obtain ⟨c2327,h⟩:=chk_some h
 refine Arith.mk c2327 ?_
 conv=>whnf
 cases h
 exact Nxt.mk _ ho2266 (eA [(125,some 125)])
 replace h:=cond_f b2325 h
 conv=>whnf
 obtain ⟨c2328,h⟩:=chk_some h
 refine Arith.mk c2328 ?_
 conv=>whnf
 cases h
 exact Nxt.mk _ ho2266 (eA [(125,some 125)])
 obtain ⟨h,b2267d⟩:=cfd b2267 h
 conv=>whnf
 cases h
 have ho2266:_=_:=ho2266
 cases ho2266
 exact JoinS.mk' _ rfl (eA [(125,some 125)])
 rintro y2141 rfl hp
 replace h:=sum_inl hk1952
 obtain ⟨z2330,_⟩:=hp
 conv=>whnf
 refine Arith.mk (by show inR _;unfold inR;omega) ?_
 conv=>whnf
 cases h
 exact Nxt.mk _ ho1950 (eA [(125,some 125)])
 obtain ⟨h,b1951d⟩:=cfd b1951 h
 conv=>whnf
 cases h
 have ho1950:_=_:=ho1950
 cases ho1950
 exact JoinS.mk' _ rfl (eA [])
 rintro ⟨⟩ rfl hp
 replace h:=sum_inl hk51
 conv=>whnf
 cases h
 conv=>whnf
 exact ⟨rfl,rfl⟩
theorem sp_R09_States (m_:T_api_Mealy) (s_:Int) (t_:Int) (r:List Int×Bool×Int) (h:Ok (.agg (c_api_Mealy m_))→Ok (nI s_)→Ok (nI t_)→R09_States m_ s_ t_=some r):Sp Tryz.prog 72 [.im (.agg (c_api_Mealy m_)),.im (nI s_),.im (nI t_)] (.tup [nL cI r.1,nB r.2.1,nI r.2.2]):=by
 refine sp_of rfl [700003] rfl rfl rfl (Nat.le_of_ble_eq_true rfl) rfl fun hk=>?_
 replace h:=h hk.1 hk.2.1 hk.2.2.1
 have z1:lZ m_.Next:=ok_len (Ok.agg_at hk.1 2 rfl)
 have z2:lZ m_.Out:=ok_len (Ok.agg_at hk.1 3 rfl)
 unfold R09_States at h
 conv=>whnf
 obtain ⟨c51,hc51,h⟩:=bind_some h
 refine ⟨_,(sp_R06_Valid m_ c51 (fun _=>hc51)),?_⟩
 conv=>whnf
 refine Both.mk ?_ ?_<;>intro b52
 obtain ⟨h,b52d⟩:=ctd b52 h
 conv=>whnf
 cases h
 conv=>whnf
 exact ⟨rfl,rfl⟩
 obtain ⟨h,b52d⟩:=cfd b52 h
 conv=>whnf
 obtain ⟨y58,hc,hk54⟩:=bind_some h
 clear h
 have h:=hc
 clear hc
 refine Cut.mk (mkSt [(1,.im (nI s_)),(2,.im (nI t_)),(3,.im (.ref (c_api_Mealy m_))),(36,.im (nB y58))] [] []) (True) (hT) ?_ (fun hp=>?_)
 conv=>whnf
 refine Both.mk ?_ ?_<;>intro b59
 replace b59:=beq_ff b59
 obtain ⟨h,b59d⟩:=cfd b59 h
 conv=>whnf
 iterate 3 (refine Both.yes (ff_beq b59) ?_;(conv=>whnf))
 refine Nf.mk (List.length m_.Next) len_map ?_
 conv=>whnf
 refine Both.yes (ff_beq b59) ?_
 conv=>whnf
 refine Both.no b59 ?_
 conv=>whnf
 refine Both.mk ?_ ?_<;>intro b60
 replace b60:=beq_ff b60
 obtain ⟨h,b60d⟩:=cfd b60 h
 conv=>whnf
 refine Both.yes (ff_beq b60) ?_
 conv=>whnf
 refine Both.no b60 ?_
 conv=>whnf
 refine Both.mk ?_ ?_<;>intro b61
 replace b61:=beq_ff b61
 obtain ⟨h,b61d⟩:=cfd b61 h
 conv=>whnf
 iterate 3 (refine Both.yes (ff_beq b61) ?_;(conv=>whnf))
 refine Nf.mk (List.length m_.Next) len_map ?_
 conv=>whnf
 refine Both.yes (ff_beq b61) ?_
 conv=>whnf
 refine Both.no b61 ?_
 conv=>whnf
 cases h
 exact Join.mk (eA [])
 replace b61:=beq_ft b61
 obtain ⟨h,b61d⟩:=ctd b61 h
 conv=>whnf
 iterate 4 (refine Both.no (tf_beq b61) ?_;(conv=>whnf))
 refine Both.yes b61 ?_
 conv=>whnf
 cases h
 exact Join.mk (eA [])
 replace b60:=beq_ft b60
 obtain ⟨h,b60d⟩:=ctd b60 h
 conv=>whnf
 refine Both.no (tf_beq b60) ?_
 conv=>whnf
 refine Both.yes b60 ?_
 conv=>whnf
 iterate 5 (refine Both.no rfl ?_;(conv=>whnf))
 refine Both.yes rfl ?_
 conv=>whnf
 cases h
 exact Join.mk (eA [])
 replace b59:=beq_ft b59
 obtain ⟨h,b59d⟩:=ctd b59 h
 conv=>whnf
 iterate 4 (refine Both.no (tf_beq b59) ?_;(conv=>whnf))
 refine Both.yes b59 ?_
 conv=>whnf
 iterate 2 (refine Both.no rfl ?_;(conv=>whnf))
 refine Both.yes rfl ?_
 conv=>whnf
 iterate 5 (refine Both.no rfl ?_;(conv=>whnf))
 refine Both.yes rfl ?_
 conv=>whnf
 cases h
 exact Join.mk (eA [])
 replace h:=hk54
 conv=>whnf
 refine Both.mk ?_ ?_<;>intro b62
 replace h:=cond_t b62 h
 conv=>whnf
 cases h
 conv=>whnf
 exact ⟨rfl,rfl⟩
 replace h:=cond_f b62 h
 conv=>whnf
 obtain ⟨c63,hc63,h⟩:=bind_some h
 refine ⟨_,(sp_R09_first m_ m_ s_ t_ c63 (fun _ _ _ _=>hc63)),?_⟩
 conv=>whnf
 cases h
 conv=>whnf
 exact ⟨rfl,rfl⟩
theorem sp_mealy_Run (m_:T_api_Mealy) (w_:List Int) (r:List Int×Int) (h:Ok (.agg (c_api_Mealy m_))→Ok (nL cI w_)→mealy_Run m_ w_=some r):Sp Tryz.prog 49 [.im (.agg (c_api_Mealy m_)),.im (nL cI w_)] (.tup [nL cI r.1,nI r.2]):=by
 refine sp_of rfl [700002] rfl rfl rfl (Nat.le_of_ble_eq_true rfl) rfl fun hk=>?_
 replace h:=h hk.1 hk.2.1
 have z1:lZ m_.Next:=ok_len (Ok.agg_at hk.1 2 rfl)
 have z2:lZ m_.Out:=ok_len (Ok.agg_at hk.1 3 rfl)
 have z3:lZ w_:=ok_len hk.2.1
 unfold mealy_Run at h
 conv=>whnf
 obtain ⟨c51,hc51,h⟩:=bind_some h
 refine ⟨_,(sp_mealy_From m_ m_.Start w_ c51 (fun _ _ _=>hc51)),?_⟩
 conv=>whnf
 cases h
 conv=>whnf
 exact ⟨rfl,rfl⟩
theorem sp_wsuite_Passes (m_:T_api_Mealy) (impl_:T_api_Mealy) (words_:List (List Int)) (r:List Int×Bool×Int) (h:Ok (.agg (c_api_Mealy m_))→Ok (.agg (c_api_Mealy impl_))→Ok (nL (cL cI) words_)→wsuite_Passes m_ impl_ words_=some r):Sp Tryz.prog 38 [.im (.agg (c_api_Mealy m_)),.im (.agg (c_api_Mealy impl_)),.im (nL (cL cI) words_)] (.tup [nL cI r.1,nB r.2.1,nI r.2.2]):=by
 refine sp_of rfl [700003,700004] rfl rfl rfl (Nat.le_of_ble_eq_true rfl) rfl fun hk=>?_
 replace h:=h hk.1 hk.2.1 hk.2.2.1
 have z1:lZ m_.Next:=ok_len (Ok.agg_at hk.1 2 rfl)
 have z2:lZ m_.Out:=ok_len (Ok.agg_at hk.1 3 rfl)
 have z3:lZ impl_.Next:=ok_len (Ok.agg_at hk.2.1 2 rfl)
 have z4:lZ impl_.Out:=ok_len (Ok.agg_at hk.2.1 3 rfl)
 have z5:lZ words_:=ok_len hk.2.2.1
 unfold wsuite_Passes at h
 conv=>whnf
 obtain ⟨c51,hc51,h⟩:=bind_some h
 refine ⟨_,(sp_mealy_Valid m_ c51 (fun _=>hc51)),?_⟩
 conv=>whnf
 refine Both.mk ?_ ?_<;>intro b52
 obtain ⟨h,b52d⟩:=ctd b52 h
 conv=>whnf
 cases h
 conv=>whnf
 exact ⟨rfl,rfl⟩
 obtain ⟨h,b52d⟩:=cfd b52 h
 conv=>whnf
 obtain ⟨c53,hc53,h⟩:=bind_some h
 refine ⟨_,(sp_mealy_Valid impl_ c53 (fun _=>hc53)),?_⟩
 conv=>whnf
 refine Both.mk ?_ ?_<;>intro b54
 obtain ⟨h,b54d⟩:=ctd b54 h
 conv=>whnf
 cases h
 conv=>whnf
 exact ⟨rfl,rfl⟩
 obtain ⟨h,b54d⟩:=cfd b54 h
 conv=>whnf
 refine Both.mk ?_ ?_<;>intro b55
 obtain ⟨h,b55d⟩:=ctd b55 h
 conv=>whnf
 cases h
 conv=>whnf
 exact ⟨rfl,rfl⟩
 obtain ⟨h,b55d⟩:=cfd b55 h
 conv=>whnf
 refine Nf.mk (List.length words_) len_map ?_
 conv=>whnf
 obtain ⟨oc,hc,hk56⟩:=bind_some h
 clear h
 have h:=hc
 clear hc
 refine Cut.mkS oc (Y:=Unit) (fun (_:Unit)=>mkSt [(2,.im (nL (cL cI) words_)),(3,.im (.ref (c_api_Mealy m_))),(4,.im (.ref (c_api_Mealy impl_)))] [] []) (fun (_:Unit)=>lZ words_∧True) (by rintro ⟨⟩;exact ((Holds.avl 2 rfl).and (hT))) ?_ ?_
 conv=>whnf
 refine Loops.iter (fun (s:Nat)=>wsuite_Passes.s2 m_ words_ s) (fun y76=>mkSt [(2,.im (nL (cL cI) words_)),(3,.im (.ref (c_api_Mealy m_))),(4,.im (.ref (c_api_Mealy impl_))),(35,.im (nL (cL cI) words_)),(36,.im (nI (↑(List.length words_):Int))),(37,.im (nI (↑y76:Int)))] [] []) (fun y76=>lZ words_∧True) h (eA []) (by rintro y76;exact ((Holds.avl 2 rfl).and (hT))) ?_
 clear h
 rintro k y76 o hp h ho81
 replace h:wsuite_Passes.s2 m_ words_ y76=some o:=h
 unfold wsuite_Passes.s2 at h
 obtain ⟨z86,_⟩:=hp
 conv=>whnf
 refine Both.mk ?_ ?_<;>intro b82
 obtain ⟨h,b82d⟩:=ctd b82 h
 conv=>whnf
 obtain ⟨e83,he83,h⟩:=idxn_some h
 refine ⟨_,⟨(by omega),map_at he83,rfl⟩,?_⟩
 conv=>whnf
 obtain ⟨c84,hc84,h⟩:=bind_some h
 refine ⟨_,(sp_word_Check e83 m_.Inputs c84 (fun _ _=>hc84)),?_⟩
 conv=>whnf
 refine Both.mk ?_ ?_<;>intro b85
 obtain ⟨h,b85d⟩:=ctd b85 h
 conv=>whnf
 cases h
 have ho81:_=_:=ho81
 cases ho81
 replace h:some _=some _:=hk56
 cases h
 conv=>whnf
 exact ⟨rfl,rfl⟩
 obtain ⟨h,b85d⟩:=cfd b85 h
 conv=>whnf
 refine Arith.mk (by show inR _;unfold inR;omega) ?_
 conv=>whnf
 cases h
 exact Nxt.mk _ ho81 (eA [])
 obtain ⟨h,b82d⟩:=cfd b82 h
 conv=>whnf
 cases h
 have ho81:_=_:=ho81
 cases ho81
 exact JoinS.mk' _ rfl (eA [])
 rintro ⟨⟩ rfl hp
 replace h:=sum_inl hk56
 obtain ⟨z87,_⟩:=hp
 conv=>whnf
 refine Nf.mk (List.length words_) len_map ?_
 conv=>whnf
 obtain ⟨oc,hc,hk88⟩:=bind_some h
 clear h
 have h:=hc
 clear hc
 refine Cut.mkS oc (Y:=Unit) (fun (_:Unit)=>mkSt [] [] []) (fun (_:Unit)=>True) (by rintro ⟨⟩;exact (hT)) ?_ ?_
 conv=>whnf
 refine Loops.iter (fun (s:Nat)=>wsuite_Passes.s4 m_ impl_ words_ s) (fun y136=>mkSt [(3,.im (.ref (c_api_Mealy m_))),(4,.im (.ref (c_api_Mealy impl_))),(49,.im (nL (cL cI) words_)),(50,.im (nI (↑(List.length words_):Int))),(51,.im (nI (↑y136:Int)))] [] []) (fun y136=>lZ words_∧True) h (eA []) (by rintro y136;exact ((Holds.avl 49 rfl).and (hT))) ?_
 clear h
 rintro k y136 o hp h ho148
 replace h:wsuite_Passes.s4 m_ impl_ words_ y136=some o:=h
 unfold wsuite_Passes.s4 at h
 obtain ⟨z160,_⟩:=hp
 conv=>whnf
 refine Both.mk ?_ ?_<;>intro b149
 obtain ⟨h,b149d⟩:=ctd b149 h
 conv=>whnf
 obtain ⟨e150,he150,h⟩:=idxn_some h
 refine ⟨_,⟨(by omega),map_at he150,rfl⟩,?_⟩
 conv=>whnf
 obtain ⟨c151,hc151,h⟩:=bind_some h
 refine ⟨_,(sp_mealy_Run m_ e150 c151 (fun _ _=>hc151)),?_⟩
 conv=>whnf
 refine Both.mk ?_ ?_<;>intro b152
 obtain ⟨h,b152d⟩:=ctd b152 h
 conv=>whnf
 cases h
 have ho148:_=_:=ho148
 cases ho148
 replace h:some _=some _:=hk88
 cases h
 conv=>whnf
 exact ⟨rfl,rfl⟩
 obtain ⟨h,b152d⟩:=cfd b152 h
 conv=>whnf
 obtain ⟨c153,hc153,h⟩:=bind_some h
 refine ⟨_,(sp_mealy_Run impl_ e150 c153 (fun _ _=>hc153)),?_⟩
 conv=>whnf
 refine Both.mk ?_ ?_<;>intro b154
 obtain ⟨h,b154d⟩:=ctd b154 h
 conv=>whnf
 cases h
 have ho148:_=_:=ho148
 cases ho148
 replace h:some _=some _:=hk88
 cases h
 conv=>whnf
 exact ⟨rfl,rfl⟩
 obtain ⟨h,b154d⟩:=cfd b154 h
 conv=>whnf
 obtain ⟨c155,hc155,h⟩:=bind_some h
 refine ⟨_,(sp_word_Common c151.1 c153.1 c155 (fun _ _=>hc155)),?_⟩
 conv=>whnf
 refine Nf.mk (List.length e150) len_map ?_
 conv=>whnf
 refine Both.mk ?_ ?_<;>intro b156
 obtain ⟨h,b156d⟩:=ctd b156 h
 conv=>whnf
 obtain ⟨c157,h⟩:=chk_some h
 refine Arith.mk c157 ?_
 conv=>whnf
 obtain ⟨c158,h⟩:=chk_some h
 refine Side.mk (show (0:Int)≤(0:Int)∧(0:Int)≤(c155+1)∧(c155+1)≤(↑(List.length (List.map cI e150)):Int)∧(∀ e∈List.map cI e150,List.length e=1) from ⟨by omega,by first | omega | (simp only [List.length_map];omega),by first | omega | (simp only [List.length_map];omega),map_len fun _=>rfl⟩) ?_
 conv=>whnf
 refine Nf.mk (List.map cI (List.take (Int.toNat (c155+1)) e150)) take_map ?_
 conv=>whnf
 obtain ⟨c159,hc159,h⟩:=bind_some h
 refine ⟨_,(sp_word_Join [(List.take (Int.toNat (c155+1)) e150)] c159 (fun _=>hc159)),?_⟩
 conv=>whnf
 cases h
 have ho148:_=_:=ho148
 cases ho148
 replace h:some _=some _:=hk88
 cases h
 conv=>whnf
 exact ⟨rfl,rfl⟩
 obtain ⟨h,b156d⟩:=cfd b156 h
 conv=>whnf
 refine Arith.mk (by show inR _;unfold inR;omega) ?_
 conv=>whnf
 cases h
 exact Nxt.mk _ ho148 (eA [])
 obtain ⟨h,b149d⟩:=cfd b149 h
 conv=>whnf
 cases h
 have ho148:_=_:=ho148
 cases ho148
 exact JoinS.mk' _ rfl (eA [])
 rintro ⟨⟩ rfl hp
 replace h:=sum_inl hk88
 conv=>whnf
 cases h
 conv=>whnf
 exact ⟨rfl,rfl⟩
theorem sp_R08_Equal (a_:List Int) (b_:List Int) (r:Bool) (h:Ok (nL cI a_)→Ok (nL cI b_)→R08_Equal a_ b_=some r):Sp Tryz.prog 39 [.im (nL cI a_),.im (nL cI b_)] (.im (nB r)):=by
 refine sp_of rfl [] rfl rfl rfl (Nat.le_of_ble_eq_true rfl) rfl fun hk=>?_
 replace h:=h hk.1 hk.2.1
 have z1:lZ a_:=ok_len hk.1
 have z2:lZ b_:=ok_len hk.2.1
 unfold R08_Equal at h
 conv=>whnf
 refine Nf.mk (List.length a_) len_map ?_
 conv=>whnf
 refine Nf.mk (List.length b_) len_map ?_
 conv=>whnf
 refine Both.mk ?_ ?_<;>intro b51
 obtain ⟨h,b51d⟩:=ctd b51 h
 conv=>whnf
 cases h
 conv=>whnf
 exact ⟨rfl,rfl⟩
 obtain ⟨h,b51d⟩:=cfd b51 h
 conv=>whnf
 obtain ⟨oc,hc,hk52⟩:=bind_some h
 clear h
 have h:=hc
 clear hc
 refine Cut.mkS oc (Y:=Unit) (fun (_:Unit)=>mkSt [] [] []) (fun (_:Unit)=>True) (by rintro ⟨⟩;exact (hT)) ?_ ?_
 conv=>whnf
 refine Loops.iter (fun (s:Nat)=>R08_Equal.s2 a_ b_ s) (fun i73=>mkSt [(0,.im (nL cI a_)),(1,.im (nL cI b_)),(5,.im (nI (↑i73:Int)))] [] []) (fun i73=>lZ a_∧lZ b_∧True) h (eA []) (by rintro i73;exact ((Holds.avl 0 rfl).and ((Holds.avl 1 rfl).and (hT)))) ?_
 clear h
 rintro k i73 o hp h ho78
 replace h:R08_Equal.s2 a_ b_ i73=some o:=h
 unfold R08_Equal.s2 at h
 obtain ⟨z83,z84,_⟩:=hp
 conv=>whnf
 refine Nf.mk (List.length a_) len_map ?_
 conv=>whnf
 refine Both.mk ?_ ?_<;>intro b79
 obtain ⟨h,b79d⟩:=ctd b79 h
 conv=>whnf
 obtain ⟨e80,he80,h⟩:=idxn_some h
 refine ⟨_,⟨(by omega),map_at he80,rfl⟩,?_⟩
 conv=>whnf
 obtain ⟨e81,he81,h⟩:=idxn_some h
 refine ⟨_,⟨(by omega),map_at he81,rfl⟩,?_⟩
 conv=>whnf
 refine Both.mk ?_ ?_<;>intro b82
 obtain ⟨h,b82d⟩:=ctd b82 h
 conv=>whnf
 cases h
 have ho78:_=_:=ho78
 cases ho78
 replace h:some _=some _:=hk52
 cases h
 conv=>whnf
 exact ⟨rfl,rfl⟩
 obtain ⟨h,b82d⟩:=cfd b82 h
 conv=>whnf
 refine Arith.mk (by show inR _;unfold inR;omega) ?_
 conv=>whnf
 cases h
 exact Nxt.mk _ ho78 (eA [])
 obtain ⟨h,b79d⟩:=cfd b79 h
 conv=>whnf
 cases h
 have ho78:_=_:=ho78
 cases ho78
 exact JoinS.mk' _ rfl (eA [])
 rintro ⟨⟩ rfl hp
 replace h:=sum_inl hk52
 conv=>whnf
 cases h
 conv=>whnf
 exact ⟨rfl,rfl⟩
theorem sp_separate_outs (m_:T_api_Mealy) (s_:Int) (w_:List Int) (r:List Int) (h:Ok (.agg (c_api_Mealy m_))→Ok (nI s_)→Ok (nL cI w_)→separate_outs m_ s_ w_=some r):Sp Tryz.prog 115 [.im (.agg (c_api_Mealy m_)),.im (nI s_),.im (nL cI w_)] (.row 3 1 (List.map cI r)):=by
 refine sp_of rfl [700003] rfl rfl rfl (Nat.le_of_ble_eq_true rfl) rfl fun hk=>?_
 replace h:=h hk.1 hk.2.1 hk.2.2.1
 have z1:lZ m_.Next:=ok_len (Ok.agg_at hk.1 2 rfl)
 have z2:lZ m_.Out:=ok_len (Ok.agg_at hk.1 3 rfl)
 have z3:lZ w_:=ok_len hk.2.2.1
 unfold separate_outs at h
 conv=>whnf
 refine Nf.mk (List.length w_) len_map ?_
 conv=>whnf
 obtain ⟨c51,h⟩:=chk_some h
 refine Side.mk c51 ?_
 conv=>whnf
 refine Nf.mk (List.map cI []) rfl ?_
 conv=>whnf
 refine Nf.mk (List.length w_) len_map ?_
 conv=>whnf
 obtain ⟨y80,hc,hk52⟩:=bind_some h
 clear h
 have h:=hc
 clear hc
 refine Cut.mk (mkSt [(7,.osl 64 1)] [(64,.row 3 1 (List.map cI y80))] []) (lZ y80∧True) ((Holds.kdl 64 rfl).and (hT)) ?_ (fun hp=>?_)
 conv=>whnf
 refine Loops.iter (fun (s:Int×List Int×Nat)=>separate_outs.s2 m_ w_ s.1 s.2.1 s.2.2) (fun (s88,y89,y90)=>mkSt [(1,.im (nI s88)),(3,.im (.ref (c_api_Mealy m_))),(7,.osl 64 1),(13,.im (nL cI w_)),(14,.im (nI (↑(List.length w_):Int))),(15,.im (nI (↑y90:Int)))] [(64,.row 3 1 (List.map cI y89))] []) (fun (s88,y89,y90)=>lZ w_∧lZ y89∧True) h (eA [(64,some 12)]) (by rintro ⟨s88,y89,y90⟩;exact ((Holds.avl 13 rfl).and ((Holds.kdl 64 rfl).and (hT)))) ?_
 clear h
 rintro k ⟨s88,y89,y90⟩ o hp h ho98
 replace h:separate_outs.s2 m_ w_ s88 y89 y90=some o:=h
 unfold separate_outs.s2 at h
 obtain ⟨z106,z107,_⟩:=hp
 conv=>whnf
 refine Both.mk ?_ ?_<;>intro b99
 obtain ⟨h,b99d⟩:=ctd b99 h
 conv=>whnf
 obtain ⟨e100,he100,h⟩:=idxn_some h
 refine ⟨_,⟨(by omega),map_at he100,rfl⟩,?_⟩
 conv=>whnf
 obtain ⟨e101,he101z,he101,h⟩:=idx_some h
 refine ⟨_,⟨he101z,map_at he101,rfl⟩,?_⟩
 conv=>whnf
 obtain ⟨e102,he102z,he102,h⟩:=idx_some h
 refine ⟨_,⟨he102z,map_at he102,rfl⟩,?_⟩
 conv=>whnf
 obtain ⟨c103,h⟩:=chk_some h
 refine Side.mk ⟨rfl,map_len (l:=[e102]) (c:=cI) fun _=>rfl,show capOk _ 8 by simpa only [List.length_map,List.length_cons,List.length_nil,Nat.zero_add] using c103⟩ ?_
 conv=>whnf
 refine Nf.mk (List.map cI (y89++[e102])) (app_map (l:=y89) (m:=[e102]) (c:=cI)) ?_
 conv=>whnf
 obtain ⟨e104,he104z,he104,h⟩:=idx_some h
 refine ⟨_,⟨he104z,map_at he104,rfl⟩,?_⟩
 conv=>whnf
 obtain ⟨e105,he105z,he105,h⟩:=idx_some h
 refine ⟨_,⟨he105z,map_at he105,rfl⟩,?_⟩
 conv=>whnf
 refine Arith.mk (by show inR _;unfold inR;omega) ?_
 conv=>whnf
 cases h
 exact Nxt.mk _ ho98 (eA [(64,some 64)])
 obtain ⟨h,b99d⟩:=cfd b99 h
 conv=>whnf
 cases h
 have ho98:_=_:=ho98
 cases ho98
 exact Join.mk (eA [(64,some 64)])
 replace h:=hk52
 obtain ⟨z108,_⟩:=hp
 conv=>whnf
 cases h
 conv=>whnf
 exact Side.mk ⟨rfl,trivial⟩ ⟨rfl,rfl⟩
theorem sp_slices_Equal_Sint_int (s1_:List Int) (s2_:List Int) (r:Bool) (h:Ok (nL cI s1_)→Ok (nL cI s2_)→slices_Equal_Sint_int s1_ s2_=some r):Sp Tryz.prog 114 [.im (nL cI s1_),.im (nL cI s2_)] (.im (nB r)):=by
 refine sp_of rfl [] rfl rfl rfl (Nat.le_of_ble_eq_true rfl) rfl fun hk=>?_
 replace h:=h hk.1 hk.2.1
 have z1:lZ s1_:=ok_len hk.1
 have z2:lZ s2_:=ok_len hk.2.1
 unfold slices_Equal_Sint_int at h
 conv=>whnf
 refine Nf.mk (List.length s1_) len_map ?_
 conv=>whnf
 refine Nf.mk (List.length s2_) len_map ?_
 conv=>whnf
 refine Both.mk ?_ ?_<;>intro b51
 obtain ⟨h,b51d⟩:=ctd b51 h
 conv=>whnf
 cases h
 conv=>whnf
 exact ⟨rfl,rfl⟩
 obtain ⟨h,b51d⟩:=cfd b51 h
 conv=>whnf
 refine Nf.mk (List.length s1_) len_map ?_
 conv=>whnf
 obtain ⟨oc,hc,hk52⟩:=bind_some h
 clear h
 have h:=hc
 clear hc
 refine Cut.mkS oc (Y:=Unit) (fun (_:Unit)=>mkSt [] [] []) (fun (_:Unit)=>True) (by rintro ⟨⟩;exact (hT)) ?_ ?_
 conv=>whnf
 refine Loops.iter (fun (s:Nat)=>slices_Equal_Sint_int.s2 s1_ s2_ s) (fun y73=>mkSt [(0,.im (nL cI s1_)),(1,.im (nL cI s2_)),(12,.im (nI (↑(List.length s1_):Int))),(13,.im (nI (↑y73:Int)))] [] []) (fun y73=>lZ s1_∧lZ s2_∧True) h (eA []) (by rintro y73;exact ((Holds.avl 0 rfl).and ((Holds.avl 1 rfl).and (hT)))) ?_
 clear h
 rintro k y73 o hp h ho78
 replace h:slices_Equal_Sint_int.s2 s1_ s2_ y73=some o:=h
 unfold slices_Equal_Sint_int.s2 at h
 obtain ⟨z83,z84,_⟩:=hp
 conv=>whnf
 refine Both.mk ?_ ?_<;>intro b79
 obtain ⟨h,b79d⟩:=ctd b79 h
 conv=>whnf
 obtain ⟨e80,he80,h⟩:=idxn_some h
 refine ⟨_,⟨(by omega),map_at he80,rfl⟩,?_⟩
 conv=>whnf
 obtain ⟨e81,he81,h⟩:=idxn_some h
 refine ⟨_,⟨(by omega),map_at he81,rfl⟩,?_⟩
 conv=>whnf
 refine Both.mk ?_ ?_<;>intro b82
 obtain ⟨h,b82d⟩:=ctd b82 h
 conv=>whnf
 cases h
 have ho78:_=_:=ho78
 cases ho78
 replace h:some _=some _:=hk52
 cases h
 conv=>whnf
 exact ⟨rfl,rfl⟩
 obtain ⟨h,b82d⟩:=cfd b82 h
 conv=>whnf
 refine Arith.mk (by show inR _;unfold inR;omega) ?_
 conv=>whnf
 cases h
 exact Nxt.mk _ ho78 (eA [])
 obtain ⟨h,b79d⟩:=cfd b79 h
 conv=>whnf
 cases h
 have ho78:_=_:=ho78
 cases ho78
 exact JoinS.mk' _ rfl (eA [])
 rintro ⟨⟩ rfl hp
 replace h:=sum_inl hk52
 conv=>whnf
 cases h
 conv=>whnf
 exact ⟨rfl,rfl⟩
theorem sp_separate_separated_1 (w_:List Int) (p1_:T_api_Mealy) (p2_:Int) (p3_:Int) (r:Bool) (h:Ok (nL cI w_)→Ok (.ref (c_api_Mealy p1_))→Ok (.ref (cI p2_))→Ok (.ref (cI p3_))→separate_separated_1 w_ p1_ p2_ p3_=some r):Sp Tryz.prog 113 [.im (nL cI w_),.im (.ref (c_api_Mealy p1_)),.im (.ref (cI p2_)),.im (.ref (cI p3_))] (.im (nB r)):=by
 refine sp_of rfl [] rfl rfl rfl (Nat.le_of_ble_eq_true rfl) rfl fun hk=>?_
 replace h:=h hk.1 hk.2.1 hk.2.2.1 hk.2.2.2.1
 have z1:lZ w_:=ok_len hk.1
 have z2:lZ p1_.Next:=ok_len (Ok.ref_at hk.2.1 2 rfl)
 have z3:lZ p1_.Out:=ok_len (Ok.ref_at hk.2.1 3 rfl)
 unfold separate_separated_1 at h
 conv=>whnf
 obtain ⟨c51,hc51,h⟩:=bind_some h
 refine ⟨_,(sp_separate_outs p1_ p2_ w_ c51 (fun _ _ _=>hc51)).im,?_⟩
 conv=>whnf
 obtain ⟨c52,hc52,h⟩:=bind_some h
 refine ⟨_,(sp_separate_outs p1_ p3_ w_ c52 (fun _ _ _=>hc52)).im,?_⟩
 conv=>whnf
 obtain ⟨c53,hc53,h⟩:=bind_some h
 refine ⟨_,(sp_slices_Equal_Sint_int c51 c52 c53 (fun _ _=>hc53)),?_⟩
 conv=>whnf
 cases h
 conv=>whnf
 exact ⟨rfl,rfl⟩
theorem sp_separate_some_Sint_n3 (l_:List (List Int)) (has_:(List Int)→Option Bool) (f1_:FuncId) (k1_0 k1_1 k1_2:IV) (hk1_0:nz k1_0=k1_0) (hk1_1:nz k1_1=k1_1) (hk1_2:nz k1_2=k1_2) (hf1:∀ x0 r,has_ x0=some r→Sp Tryz.prog f1_ [.im (nL cI x0),.im k1_0,.im k1_1,.im k1_2] (.im (nB r))) (r:Bool) (h:Ok (nL (cL cI) l_)→Ok (.fn f1_ [k1_0,k1_1,k1_2])→separate_some_Sint_n3 l_ has_=some r):Sp Tryz.prog 112 [.im (nL (cL cI) l_),.im (.fn f1_ [k1_0,k1_1,k1_2])] (.im (nB r)):=by
 refine sp_of rfl [] rfl rfl rfl (Nat.le_of_ble_eq_true rfl) rfl fun hk=>?_
 replace h:=h hk.1 hk.2.1
 have z1:lZ l_:=ok_len hk.1
 unfold separate_some_Sint_n3 at h
 conv=>whnf
 refine Nf.mk (List.length l_) len_map ?_
 conv=>whnf
 obtain ⟨oc,hc,hk51⟩:=bind_some h
 clear h
 have h:=hc
 clear hc
 refine Cut.mkS oc (Y:=Unit) (fun (_:Unit)=>mkSt [] [] []) (fun (_:Unit)=>True) (by rintro ⟨⟩;exact (hT)) ?_ ?_
 conv=>whnf
 refine Loops.iter (fun (s:Nat)=>separate_some_Sint_n3.s2 l_ has_ s) (fun y71=>mkSt [(1,.im (.fn f1_ [k1_0,k1_1,k1_2])),(7,.im (nL (cL cI) l_)),(8,.im (nI (↑(List.length l_):Int))),(9,.im (nI (↑y71:Int)))] [] []) (fun y71=>lZ l_∧True) h (eA []) (by rintro y71;exact ((Holds.avl 7 rfl).and (hT))) ?_
 clear h
 rintro k y71 o hp h ho76
 replace h:separate_some_Sint_n3.s2 l_ has_ y71=some o:=h
 unfold separate_some_Sint_n3.s2 at h
 obtain ⟨z81,_⟩:=hp
 conv=>whnf
 refine Both.mk ?_ ?_<;>intro b77
 obtain ⟨h,b77d⟩:=ctd b77 h
 conv=>whnf
 obtain ⟨e78,he78,h⟩:=idxn_some h
 refine ⟨_,⟨(by omega),map_at he78,rfl⟩,?_⟩
 conv=>whnf
 obtain ⟨c79,hc79,h⟩:=bind_some h
 refine ⟨_,Sp.args (hf1 e78 c79 hc79) (by rw [hk1_0,hk1_1,hk1_2];try rfl),?_⟩
 conv=>whnf
 refine Both.mk ?_ ?_<;>intro b80
 replace h:=cond_t b80 h
 conv=>whnf
 cases h
 have ho76:_=_:=ho76
 cases ho76
 replace h:some _=some _:=hk51
 cases h
 conv=>whnf
 exact ⟨rfl,rfl⟩
 replace h:=cond_f b80 h
 conv=>whnf
 refine Arith.mk (by show inR _;unfold inR;omega) ?_
 conv=>whnf
 cases h
 exact Nxt.mk _ ho76 (eA [])
 obtain ⟨h,b77d⟩:=cfd b77 h
 conv=>whnf
 cases h
 have ho76:_=_:=ho76
 cases ho76
 exact JoinS.mk' _ rfl (eA [])
 rintro ⟨⟩ rfl hp
 replace h:=sum_inl hk51
 conv=>whnf
 cases h
 conv=>whnf
 exact ⟨rfl,rfl⟩
theorem sp_separate_separated (m_:T_api_Mealy) (words_:List (List Int)) (s_:Int) (t_:Int) (r:Bool) (h:Ok (.agg (c_api_Mealy m_))→Ok (nL (cL cI) words_)→Ok (nI s_)→Ok (nI t_)→separate_separated m_ words_ s_ t_=some r):Sp Tryz.prog 76 [.im (.agg (c_api_Mealy m_)),.im (nL (cL cI) words_),.im (nI s_),.im (nI t_)] (.im (nB r)):=by
 refine sp_of rfl [700004,700006,700007] rfl rfl rfl (Nat.le_of_ble_eq_true rfl) rfl fun hk=>?_
 replace h:=h hk.1 hk.2.1 hk.2.2.1 hk.2.2.2.1
 have z1:lZ m_.Next:=ok_len (Ok.agg_at hk.1 2 rfl)
 have z2:lZ m_.Out:=ok_len (Ok.agg_at hk.1 3 rfl)
 have z3:lZ words_:=ok_len hk.2.1
 unfold separate_separated at h
 conv=>whnf
 obtain ⟨c51,hc51,h⟩:=bind_some h
 refine ⟨_,(sp_separate_some_Sint_n3 words_ (fun u0=>separate_separated_1 u0 m_ s_ t_) 113 (.ref (c_api_Mealy m_)) (.ref (cI s_)) (.ref (cI t_)) rfl rfl rfl (fun u0 r h=>(sp_separate_separated_1 u0 m_ s_ t_ r (fun _ _ _ _=>h))) c51 (fun _ _=>hc51)),?_⟩
 conv=>whnf
 cases h
 conv=>whnf
 exact ⟨rfl,rfl⟩
theorem sp_separate_Charset (m_:T_api_Mealy) (r:List (List Int)×Int) (h:Ok (.agg (c_api_Mealy m_))→separate_Charset m_=some r):Sp Tryz.prog 40 [.im (.agg (c_api_Mealy m_))] (.tup [nL (cL cI) r.1,nI r.2]):=by
 refine sp_of rfl [500035,700001] rfl rfl rfl (Nat.le_of_ble_eq_true rfl) rfl fun hk=>?_
 replace h:=h hk.1
 have z1:lZ m_.Next:=ok_len (Ok.agg_at hk.1 2 rfl)
 have z2:lZ m_.Out:=ok_len (Ok.agg_at hk.1 3 rfl)
 unfold separate_Charset at h
 conv=>whnf
 obtain ⟨c51,hc51,h⟩:=bind_some h
 refine ⟨_,(sp_separate_check m_ c51 (fun _=>hc51)),?_⟩
 conv=>whnf
 refine Both.mk ?_ ?_<;>intro b52
 obtain ⟨h,b52d⟩:=ctd b52 h
 conv=>whnf
 cases h
 conv=>whnf
 exact ⟨rfl,rfl⟩
 obtain ⟨h,b52d⟩:=cfd b52 h
 conv=>whnf
 refine Nf.mk (List.length m_.Next) len_map ?_
 conv=>whnf
 obtain ⟨oc,hc,hk53⟩:=bind_some h
 clear h
 have h:=hc
 clear hc
 refine Cut.mkS oc (Y:=List (List Int)) (fun y342=>mkSt [(5,.osl 64 1)] [(64,.row 50 1 (List.map (cL cI) y342))] []) (fun y342=>lZ y342∧True) (by rintro y342;exact ((Holds.kdl 64 rfl).and (hT))) ?_ ?_
 conv=>whnf
 refine Loops.iter (fun (s:List (List Int)×Nat)=>separate_Charset.s14 m_ s.1 s.2) (fun (y435,y436)=>mkSt [(1,.im (.ref (c_api_Mealy m_))),(5,.osl 64 1),(18,.im (nI (↑(List.length m_.Next):Int))),(19,.im (nI (↑y436:Int)))] [(64,.row 50 1 (List.map (cL cI) y435))] []) (fun (y435,y436)=>lZ y435∧True) h (eA [(64,none)]) (by rintro ⟨y435,y436⟩;exact ((Holds.kdl 64 rfl).and (hT))) ?_
 clear h
 rintro k ⟨y435,y436⟩ o hp h ho533
 replace h:separate_Charset.s14 m_ y435 y436=some o:=h
 unfold separate_Charset.s14 at h
 obtain ⟨z630,_⟩:=hp
 conv=>whnf
 refine Both.mk ?_ ?_<;>intro b534
 obtain ⟨h,b534d⟩:=ctd b534 h
 conv=>whnf
 refine Arith.mk (by show inR _;unfold inR;omega) ?_
 conv=>whnf
 obtain ⟨oc,hc,hk535⟩:=bind_some h
 clear h
 have h:=hc
 clear hc
 refine Cut.mkS oc (Y:=List (List Int)) (fun y582=>mkSt [(1,.im (.ref (c_api_Mealy m_))),(5,.osl 64 1),(18,.im (nI (↑(List.length m_.Next):Int))),(19,.im (nI (↑y436:Int)))] [(64,.row 50 1 (List.map (cL cI) y582))] []) (fun y582=>lZ y582∧True) (by rintro y582;exact ((Holds.kdl 64 rfl).and (hT))) ?_ ?_
 conv=>whnf
 refine Loops.iter (fun (s:List (List Int)×Nat)=>separate_Charset.s13 m_ y436 s.1 s.2) (fun (y597,t598)=>mkSt [(1,.im (.ref (c_api_Mealy m_))),(5,.osl 64 1),(6,.im (nI (↑y436:Int))),(7,.im (nI (↑t598:Int))),(18,.im (nI (↑(List.length m_.Next):Int))),(19,.im (nI (↑y436:Int)))] [(64,.row 50 1 (List.map (cL cI) y597))] []) (fun (y597,t598)=>lZ y597∧True) h (eA [(64,some 64)]) (by rintro ⟨y597,t598⟩;exact ((Holds.kdl 64 rfl).and (hT))) ?_
 clear h
 rintro k ⟨y597,t598⟩ o hp h ho613
 replace h:separate_Charset.s13 m_ y436 y597 t598=some o:=h
 unfold separate_Charset.s13 at h
 obtain ⟨z628,_⟩:=hp
 conv=>whnf
 refine Nf.mk (List.length m_.Next) len_map ?_
 conv=>whnf
 refine Both.mk ?_ ?_<;>intro b614
 obtain ⟨h,b614d⟩:=ctd b614 h
 conv=>whnf
 obtain ⟨oc,hc,hk615⟩:=bind_some h
 clear h
 have h:=hc
 clear hc
 refine Cut.mkS oc (Y:=List (List Int)) (fun y621=>mkSt [(1,.im (.ref (c_api_Mealy m_))),(5,.osl 64 1),(6,.im (nI (↑y436:Int))),(7,.im (nI (↑t598:Int))),(18,.im (nI (↑(List.length m_.Next):Int))),(19,.im (nI (↑y436:Int)))] [(64,.row 50 1 (List.map (cL cI) y621))] []) (fun y621=>lZ y621∧True) (by rintro y621;exact ((Holds.kdl 64 rfl).and (hT))) ?_ ?_
 conv=>whnf
 refine Side.mk ⟨rfl,trivial⟩ ?_
 conv=>whnf
 obtain ⟨c622,hc622,h⟩:=bind_some h
 refine ⟨_,(sp_separate_separated m_ y597 (↑y436:Int) (↑t598:Int) c622 (fun _ _ _ _=>hc622)),?_⟩
 conv=>whnf
 refine Side.mk flat_one ?_
 conv=>whnf
 refine Both.mk ?_ ?_<;>intro b623
 replace h:=cond_t b623 h
 conv=>whnf
 cases h
 exact JoinS.mk' _ rfl (eA [(64,some 64)])
 replace h:=cond_f b623 h
 conv=>whnf
 obtain ⟨c624,hc624,h⟩:=bind_some h
 refine ⟨_,(sp_equiv_States m_ (↑y436:Int) (↑t598:Int) c624 (fun _ _ _=>hc624)),?_⟩
 conv=>whnf
 refine Both.mk ?_ ?_<;>intro b625
 obtain ⟨h,b625d⟩:=ctd b625 h
 conv=>whnf
 cases h
 replace h:some _=some _:=hk615
 cases h
 have ho613:_=_:=ho613
 cases ho613
 replace h:some _=some _:=hk535
 cases h
 have ho533:_=_:=ho533
 cases ho533
 replace h:some _=some _:=hk53
 cases h
 conv=>whnf
 exact ⟨rfl,rfl⟩
 obtain ⟨h,b625d⟩:=cfd b625 h
 conv=>whnf
 obtain ⟨c626,h⟩:=chk_some h
 refine Side.mk ⟨rfl,map_len (l:=[c624.1]) (c:=cL cI) fun _=>rfl,show capOk _ 24 by simpa only [List.length_map,List.length_cons,List.length_nil,Nat.zero_add] using c626⟩ ?_
 conv=>whnf
 refine Nf.mk (List.map (cL cI) (y597++[c624.1])) (app_map (l:=y597) (m:=[c624.1]) (c:=cL cI)) ?_
 conv=>whnf
 cases h
 exact JoinS.mk' _ rfl (eA [(64,some 64)])
 rintro y621 rfl hp
 replace h:=sum_inl hk615
 obtain ⟨z627,_⟩:=hp
 conv=>whnf
 refine Arith.mk (by show inR _;unfold inR;omega) ?_
 conv=>whnf
 cases h
 exact Nxt.mk _ ho613 (eA [(64,some 64)])
 obtain ⟨h,b614d⟩:=cfd b614 h
 conv=>whnf
 cases h
 have ho613:_=_:=ho613
 cases ho613
 exact JoinS.mk' _ rfl (eA [(64,some 64)])
 rintro y582 rfl hp
 replace h:=sum_inl hk535
 obtain ⟨z629,_⟩:=hp
 conv=>whnf
 refine Arith.mk (by show inR _;unfold inR;omega) ?_
 conv=>whnf
 cases h
 exact Nxt.mk _ ho533 (eA [(64,some 64)])
 obtain ⟨h,b534d⟩:=cfd b534 h
 conv=>whnf
 cases h
 have ho533:_=_:=ho533
 cases ho533
 exact JoinS.mk' _ rfl (eA [(64,some 64)])
 rintro y342 rfl hp
 replace h:=sum_inl hk53
 obtain ⟨z631,_⟩:=hp
 conv=>whnf
 refine Side.mk ⟨rfl,trivial⟩ ?_
 conv=>whnf
 obtain ⟨c632,hc632,h⟩:=bind_some h
 refine ⟨_,(sp_wordset_Sorted y342 c632 (fun _=>hc632)).im,?_⟩
 conv=>whnf
 cases h
 conv=>whnf
 exact ⟨rfl,rfl⟩
theorem pr_wsuite_products (p1_ p2_ p3_:List (List Int)):Sp Tryz.prog 41 [.im (nL (cL cI) p1_),.im (nL (cL cI) p2_),.im (nL (cL cI) p3_)] (.im (.fn 77 [.ref (cL (cL cI) p1_),.ref (cL (cL cI) p2_),.ref (cL (cL cI) p3_)])):=by
 refine sp_of rfl [800003,800004,800005] rfl rfl rfl (Nat.le_of_ble_eq_true rfl) rfl fun hk=>?_
 conv=>whnf
 refine Side.mk ⟨rfl,rfl,rfl,trivial⟩ ?_
 conv=>whnf
 exact ⟨rfl,rfl⟩
theorem rng_wsuite {asg bd:Code} (hrd:∀ (x all r),wsuite_round x all=some r→∀ (l:Nat) (fid:FuncId) (T:Array Value) (D:Nat) (bp:Value),T.size=84→T.getD 12 undef=bp→YSp Tryz.prog l (.loop (recOf fid T 77 asg bd D)) bp [.im (nL cI x),.box 22 [.ow (.row 50 1 (List.map (cL cI) all))]] (.mk false [.im (.val (.bool true))] [.box 22 [.ow (.row 50 1 (List.map (cL cI) r))]]))
 (p1_ p2_ p3_ yield_4_ r:List (List Int)) (h:wsuite_ranged p1_ p2_ p3_ yield_4_=some r):RngSp Tryz.prog 84 77 77 12 asg bd [.im (.ref (cL (cL cI) p1_)),.im (.ref (cL (cL cI) p2_)),.im (.ref (cL (cL cI) p3_)),.box 22 [.ow (.row 50 1 (List.map (cL cI) yield_4_))]] (.mk true [] [.box 22 [.ow (.row 50 1 (List.map (cL cI) r))]]):=by
 refine rng_of rfl [36001] rfl rfl rfl (q:=4) rfl (Nat.le_of_ble_eq_true rfl) (fun _=>rfl) (Y:=fun xs r=>∃ (x:List Int) (all:List (List Int)) (c:Bool×List (List Int)),wsuite_yield x all=some c∧xs=[.im (nL cI x),.box 22 [.ow (.row 50 1 (List.map (cL cI) all))]]∧r=.mk false [.im (nB c.1)] [.box 22 [.ow (.row 50 1 (List.map (cL cI) c.2))]]) (k:=6) (hid:=9) (fo:=.tmp 29) (xo:=.tmp 34) (d:=35) (Nat.le_of_ble_eq_true rfl) rfl ?_ fun l hk=>?_
 rintro _ _ ⟨x,all,c,hc,rfl,rfl⟩
 unfold wsuite_yield at hc
 obtain ⟨r,hr,hc⟩:=bind_some hc
 cases hc
 exact hrd x all r hr
 have z1:lZ p1_:=ok_len (Ok.ref_at hk.2.1 0 rfl)
 have z2:lZ p2_:=ok_len (Ok.ref_at hk.2.2.1 0 rfl)
 have z3:lZ p3_:=ok_len (Ok.ref_at hk.2.2.2.1 0 rfl)
 have z4:lZ yield_4_:=okl_len hk.2.2.2.2.1.1
 unfold wsuite_ranged at h
 conv=>whnf
 refine Nf.mk (List.length p1_) len_map ?_
 conv=>whnf
 obtain ⟨oc,hc,hk51⟩:=bind_some h
 clear h
 have h:=hc
 clear hc
 refine Cut.mkS oc (Y:=List (List Int)) (fun y1125=>mkSt [] [(4,.box 22 1),(65,.row 50 1 (List.map (cL cI) y1125))] [(4,0,.osl 65 1)]) (fun y1125=>lZ y1125∧True) (by rintro y1125;exact ((Holds.kdl 65 rfl).and (hT))) ?_ ?_
 conv=>whnf
 refine Loops.iter (fun (s:List (List Int)×Nat)=>wsuite_ranged.s86 p1_ p2_ p3_ s.1 s.2) (fun (y1482,y1483)=>mkSt [(0,.im (.val (.func (.yield l) #[] #[]))),(2,.im (.ref (cL (cL cI) p2_))),(3,.im (.ref (cL (cL cI) p3_))),(11,.im (nL (cL cI) p1_)),(12,.im (nI (↑(List.length p1_):Int))),(13,.im (nI (↑y1483:Int)))] [(4,.box 22 1),(65,.row 50 1 (List.map (cL cI) y1482))] [(4,0,.osl 65 1)]) (fun (y1482,y1483)=>lZ p1_∧lZ y1482∧True) h (eA [(4,some 4),(65,some 2256)]) (by rintro ⟨y1482,y1483⟩;exact ((Holds.avl 11 rfl).and ((Holds.kdl 65 rfl).and (hT)))) ?_
 clear h
 rintro k ⟨y1482,y1483⟩ o hp h ho1840
 replace h:wsuite_ranged.s86 p1_ p2_ p3_ y1482 y1483=some o:=h
 unfold wsuite_ranged.s86 at h
 obtain ⟨z2197,z2198,_⟩:=hp
 conv=>whnf
 refine Both.mk ?_ ?_<;>intro b1841
 obtain ⟨h,b1841d⟩:=ctd b1841 h
 conv=>whnf
 obtain ⟨e1842,he1842,h⟩:=idxn_some h
 refine ⟨_,⟨(by omega),map_at he1842,rfl⟩,?_⟩
 conv=>whnf
 refine Nf.mk (List.length p2_) len_map ?_
 conv=>whnf
 obtain ⟨oc,hc,hk1843⟩:=bind_some h
 clear h
 have h:=hc
 clear hc
 refine Cut.mkS oc (Y:=List (List Int)) (fun y2019=>mkSt [(0,.im (.val (.func (.yield l) #[] #[]))),(2,.im (.ref (cL (cL cI) p2_))),(3,.im (.ref (cL (cL cI) p3_))),(11,.im (nL (cL cI) p1_)),(12,.im (nI (↑(List.length p1_):Int))),(13,.im (nI (↑y1483:Int)))] [(4,.box 22 1),(65,.row 50 1 (List.map (cL cI) y2019))] [(4,0,.osl 65 1)]) (fun y2019=>lZ p1_∧lZ y2019∧True) (by rintro y2019;exact ((Holds.avl 11 rfl).and ((Holds.kdl 65 rfl).and (hT)))) ?_ ?_
 conv=>whnf
 refine Loops.iter (fun (s:List (List Int)×Nat)=>wsuite_ranged.s85 p2_ p3_ e1842 s.1 s.2) (fun (y2076,y2077)=>mkSt [(0,.im (.val (.func (.yield l) #[] #[]))),(2,.im (.ref (cL (cL cI) p2_))),(3,.im (.ref (cL (cL cI) p3_))),(6,.im (nL cI e1842)),(11,.im (nL (cL cI) p1_)),(12,.im (nI (↑(List.length p1_):Int))),(13,.im (nI (↑y1483:Int))),(17,.im (nL (cL cI) p2_)),(18,.im (nI (↑(List.length p2_):Int))),(19,.im (nI (↑y2077:Int)))] [(4,.box 22 1),(65,.row 50 1 (List.map (cL cI) y2076))] [(4,0,.osl 65 1)]) (fun (y2076,y2077)=>lZ e1842∧lZ p1_∧lZ p2_∧lZ y2076∧True) h (eA [(4,some 4),(65,some 65)]) (by rintro ⟨y2076,y2077⟩;exact ((Holds.avl 6 rfl).and ((Holds.avl 11 rfl).and ((Holds.avl 17 rfl).and ((Holds.kdl 65 rfl).and (hT)))))) ?_
 clear h
 rintro k ⟨y2076,y2077⟩ o hp h ho2134
 replace h:wsuite_ranged.s85 p2_ p3_ e1842 y2076 y2077=some o:=h
 unfold wsuite_ranged.s85 at h
 obtain ⟨z2191,z2192,z2193,z2194,_⟩:=hp
 conv=>whnf
 refine Both.mk ?_ ?_<;>intro b2135
 obtain ⟨h,b2135d⟩:=ctd b2135 h
 conv=>whnf
 obtain ⟨e2136,he2136,h⟩:=idxn_some h
 refine ⟨_,⟨(by omega),map_at he2136,rfl⟩,?_⟩
 conv=>whnf
 refine Nf.mk (List.length p3_) len_map ?_
 conv=>whnf
 obtain ⟨oc,hc,hk2137⟩:=bind_some h
 clear h
 have h:=hc
 clear hc
 refine Cut.mkS oc (Y:=List (List Int)) (fun y2162=>mkSt [(0,.im (.val (.func (.yield l) #[] #[]))),(2,.im (.ref (cL (cL cI) p2_))),(3,.im (.ref (cL (cL cI) p3_))),(6,.im (nL cI e1842)),(11,.im (nL (cL cI) p1_)),(12,.im (nI (↑(List.length p1_):Int))),(13,.im (nI (↑y1483:Int))),(17,.im (nL (cL cI) p2_)),(18,.im (nI (↑(List.length p2_):Int))),(19,.im (nI (↑y2077:Int)))] [(4,.box 22 1),(65,.row 50 1 (List.map (cL cI) y2162))] [(4,0,.osl 65 1)]) (fun y2162=>lZ e1842∧lZ p1_∧lZ p2_∧lZ y2162∧True) (by rintro y2162;exact ((Holds.avl 6 rfl).and ((Holds.avl 11 rfl).and ((Holds.avl 17 rfl).and ((Holds.kdl 65 rfl).and (hT)))))) ?_ ?_
 conv=>whnf
 refine Loops.iter (fun (s:List (List Int)×Nat)=>wsuite_ranged.s84 p3_ e1842 e2136 s.1 s.2) (fun (y2168,y2169)=>mkSt [(0,.im (.val (.func (.yield l) #[] #[]))),(2,.im (.ref (cL (cL cI) p2_))),(3,.im (.ref (cL (cL cI) p3_))),(6,.im (nL cI e1842)),(8,.im (nL cI e2136)),(11,.im (nL (cL cI) p1_)),(12,.im (nI (↑(List.length p1_):Int))),(13,.im (nI (↑y1483:Int))),(17,.im (nL (cL cI) p2_)),(18,.im (nI (↑(List.length p2_):Int))),(19,.im (nI (↑y2077:Int))),(23,.im (nL (cL cI) p3_)),(24,.im (nI (↑(List.length p3_):Int))),(25,.im (nI (↑y2169:Int)))] [(4,.box 22 1),(65,.row 50 1 (List.map (cL cI) y2168))] [(4,0,.osl 65 1)]) (fun (y2168,y2169)=>lZ e1842∧lZ e2136∧lZ p1_∧lZ p2_∧lZ p3_∧lZ y2168∧True) h (eA [(4,some 4),(65,some 65)]) (by rintro ⟨y2168,y2169⟩;exact ((Holds.avl 6 rfl).and ((Holds.avl 8 rfl).and ((Holds.avl 11 rfl).and ((Holds.avl 17 rfl).and ((Holds.avl 23 rfl).and ((Holds.kdl 65 rfl).and (hT)))))))) ?_
 clear h
 rintro k ⟨y2168,y2169⟩ o hp h ho2175
 replace h:wsuite_ranged.s84 p3_ e1842 e2136 y2168 y2169=some o:=h
 unfold wsuite_ranged.s84 at h
 obtain ⟨z2181,z2182,z2183,z2184,z2185,z2186,_⟩:=hp
 conv=>whnf
 refine Both.mk ?_ ?_<;>intro b2176
 obtain ⟨h,b2176d⟩:=ctd b2176 h
 conv=>whnf
 obtain ⟨e2177,he2177,h⟩:=idxn_some h
 refine ⟨_,⟨(by omega),map_at he2177,rfl⟩,?_⟩
 conv=>whnf
 refine ⟨_,_,_,_,rfl,rfl,rfl,rfl,rfl,rfl,rfl,rfl,?_⟩
 conv=>whnf
 obtain ⟨c2178,hc2178,h⟩:=bind_some h
 refine ⟨_,(sp_word_Join [e1842,e2136,e2177] c2178 (fun _=>hc2178)),?_⟩
 conv=>whnf
 refine ⟨rfl,rfl,rfl,?_⟩
 conv=>whnf
 refine Side.mk ⟨rfl,rfl,trivial⟩ ?_
 conv=>whnf
 obtain ⟨c2179,hc2179,h⟩:=bind_some h
 refine ⟨_,⟨c2178,y2168,c2179,hc2179,rfl,rfl⟩,?_⟩
 conv=>whnf
 refine Both.mk ?_ ?_<;>intro b2180
 replace h:=cond_t b2180 h
 conv=>whnf
 cases h
 have ho2175:_=_:=ho2175
 cases ho2175
 replace h:some _=some _:=hk2137
 cases h
 have ho2134:_=_:=ho2134
 cases ho2134
 replace h:some _=some _:=hk1843
 cases h
 have ho1840:_=_:=ho1840
 cases ho1840
 replace h:some _=some _:=hk51
 cases h
 conv=>whnf
 exact Side.mk ⟨rfl,rfl,trivial⟩ ⟨rfl,rfl⟩
 replace h:=cond_f b2180 h
 conv=>whnf
 refine Arith.mk (by show inR _;unfold inR;omega) ?_
 conv=>whnf
 cases h
 exact Nxt.mk _ ho2175 (eA [(4,some 4),(65,some 65)])
 obtain ⟨h,b2176d⟩:=cfd b2176 h
 conv=>whnf
 cases h
 have ho2175:_=_:=ho2175
 cases ho2175
 exact JoinS.mk' _ rfl (eA [(4,some 4),(65,some 65)])
 rintro y2162 rfl hp
 replace h:=sum_inl hk2137
 obtain ⟨z2187,z2188,z2189,z2190,_⟩:=hp
 conv=>whnf
 refine Arith.mk (by show inR _;unfold inR;omega) ?_
 conv=>whnf
 cases h
 exact Nxt.mk _ ho2134 (eA [(4,some 4),(65,some 65)])
 obtain ⟨h,b2135d⟩:=cfd b2135 h
 conv=>whnf
 cases h
 have ho2134:_=_:=ho2134
 cases ho2134
 exact JoinS.mk' _ rfl (eA [(4,some 4),(65,some 65)])
 rintro y2019 rfl hp
 replace h:=sum_inl hk1843
 obtain ⟨z2195,z2196,_⟩:=hp
 conv=>whnf
 refine Arith.mk (by show inR _;unfold inR;omega) ?_
 conv=>whnf
 cases h
 exact Nxt.mk _ ho1840 (eA [(4,some 4),(65,some 65)])
 obtain ⟨h,b1841d⟩:=cfd b1841 h
 conv=>whnf
 cases h
 have ho1840:_=_:=ho1840
 cases ho1840
 exact JoinS.mk' _ rfl (eA [(4,some 4),(65,some 65)])
 rintro y1125 rfl hp
 replace h:=sum_inl hk51
 obtain ⟨z2199,_⟩:=hp
 conv=>whnf
 cases h
 conv=>whnf
 exact Side.mk ⟨rfl,rfl,trivial⟩ ⟨rfl,rfl⟩
theorem sp_wsuite_Suite (m_:T_api_Mealy) (extra_:Int) (r:List (List Int)×Int) (h:Ok (.agg (c_api_Mealy m_))→Ok (nI extra_)→wsuite_Suite m_ extra_=some r):Sp Tryz.prog 12 [.im (.agg (c_api_Mealy m_)),.im (nI extra_)] (.tup [nL (cL cI) r.1,nI r.2]):=by
 refine sp_ofR rfl [301003,700002,307393*1000000000+50*100+1] (d:=300) (pb:=12) (hid:=1000000) rfl rfl rfl (Nat.le_of_ble_eq_true rfl) rfl fun hk=>?_
 replace h:=h hk.1 hk.2.1
 have z1:lZ m_.Next:=ok_len (Ok.agg_at hk.1 2 rfl)
 have z2:lZ m_.Out:=ok_len (Ok.agg_at hk.1 3 rfl)
 unfold wsuite_Suite at h
 conv=>whnf
 obtain ⟨c51,hc51,h⟩:=bind_some h
 refine ⟨_,(sp_mealy_Valid m_ c51 (fun _=>hc51)),?_⟩
 conv=>whnf
 refine Both.mk ?_ ?_<;>intro b52
 obtain ⟨h,b52d⟩:=ctd b52 h
 conv=>whnf
 cases h
 conv=>whnf
 exact ⟨rfl,rfl⟩
 obtain ⟨h,b52d⟩:=cfd b52 h
 conv=>whnf
 obtain ⟨y56,hc,hk54⟩:=bind_some h
 clear h
 have h:=hc
 clear hc
 refine Cut.mk (mkSt [(1,.im (nI extra_)),(2,.im (.ref (c_api_Mealy m_))),(24,.im (nB y56))] [] []) (True) (hT) ?_ (fun hp=>?_)
 conv=>whnf
 refine Both.mk ?_ ?_<;>intro b57
 replace b57:=beq_ff b57
 obtain ⟨h,b57d⟩:=cfd b57 h
 conv=>whnf
 refine Both.yes (ff_beq b57) ?_
 conv=>whnf
 refine Both.no b57 ?_
 conv=>whnf
 cases h
 exact Join.mk (eA [])
 replace b57:=beq_ft b57
 obtain ⟨h,b57d⟩:=ctd b57 h
 conv=>whnf
 refine Both.no (tf_beq b57) ?_
 conv=>whnf
 refine Both.yes b57 ?_
 conv=>whnf
 cases h
 exact Join.mk (eA [])
 replace h:=hk54
 conv=>whnf
 refine Both.mk ?_ ?_<;>intro b58
 replace h:=cond_t b58 h
 conv=>whnf
 cases h
 conv=>whnf
 exact ⟨rfl,rfl⟩
 replace h:=cond_f b58 h
 conv=>whnf
 obtain ⟨c59,hc59,h⟩:=bind_some h
 refine ⟨_,(sp_minimize_Min m_ c59 (fun _=>hc59)),?_⟩
 conv=>whnf
 refine Side.mk rfl ?_
 conv=>whnf
 refine Both.mk ?_ ?_<;>intro b60
 obtain ⟨h,b60d⟩:=ctd b60 h
 conv=>whnf
 cases h
 conv=>whnf
 exact ⟨rfl,rfl⟩
 obtain ⟨h,b60d⟩:=cfd b60 h
 conv=>whnf
 refine Side.mk rfl ?_
 conv=>whnf
 obtain ⟨c61,hc61,h⟩:=bind_some h
 refine ⟨_,(sp_cover_StateCover c59.1 c61 (fun _=>hc61)),?_⟩
 conv=>whnf
 refine Both.mk ?_ ?_<;>intro b62
 obtain ⟨h,b62d⟩:=ctd b62 h
 conv=>whnf
 cases h
 conv=>whnf
 exact ⟨rfl,rfl⟩
 obtain ⟨h,b62d⟩:=cfd b62 h
 conv=>whnf
 refine Side.mk rfl ?_
 conv=>whnf
 refine Side.mk rfl ?_
 conv=>whnf
 obtain ⟨c63,h⟩:=chk_some h
 refine Arith.mk c63 ?_
 conv=>whnf
 obtain ⟨c64,hc64,h⟩:=bind_some h
 refine ⟨_,(sp_wordset_Upto c59.1.Inputs (extra_+1) c64 (fun _ _=>hc64)),?_⟩
 conv=>whnf
 refine Both.mk ?_ ?_<;>intro b65
 obtain ⟨h,b65d⟩:=ctd b65 h
 conv=>whnf
 cases h
 conv=>whnf
 exact ⟨rfl,rfl⟩
 obtain ⟨h,b65d⟩:=cfd b65 h
 conv=>whnf
 refine Side.mk rfl ?_
 conv=>whnf
 obtain ⟨c66,hc66,h⟩:=bind_some h
 refine ⟨_,(sp_separate_Charset c59.1 c66 (fun _=>hc66)),?_⟩
 conv=>whnf
 refine Both.mk ?_ ?_<;>intro b67
 obtain ⟨h,b67d⟩:=ctd b67 h
 conv=>whnf
 cases h
 conv=>whnf
 exact ⟨rfl,rfl⟩
 obtain ⟨h,b67d⟩:=cfd b67 h
 conv=>whnf
 obtain ⟨last71,hc,hk69⟩:=bind_some h
 clear h
 have h:=hc
 clear hc
 refine Cut.mk (mkSt [(9,.im (nL (cL cI) c61.1)),(10,.im (nL (cL cI) c64.1)),(11,.im (nL (cL cI) last71))] [] []) (lZ c61.1∧lZ c64.1∧lZ last71∧True) ((Holds.avl 9 rfl).and ((Holds.avl 10 rfl).and ((Holds.avl 11 rfl).and (hT)))) ?_ (fun hp=>?_)
 conv=>whnf
 refine Nf.mk (List.length c66.1) len_map ?_
 conv=>whnf
 refine Both.mk ?_ ?_<;>intro b72
 obtain ⟨h,b72d⟩:=ctd b72 h
 conv=>whnf
 cases h
 exact Join.mk (eA [])
 obtain ⟨h,b72d⟩:=cfd b72 h
 conv=>whnf
 cases h
 exact Join.mk (eA [])
 replace h:=hk69
 obtain ⟨z73,z74,z75,_⟩:=hp
 conv=>whnf
 refine Nf.mk (List.length c61.1) len_map ?_
 conv=>whnf
 refine Nf.mk (List.length c64.1) len_map ?_
 conv=>whnf
 obtain ⟨c76,h⟩:=chk_some h
 refine Arith.mk c76 ?_
 conv=>whnf
 refine Nf.mk (List.length last71) len_map ?_
 conv=>whnf
 obtain ⟨c77,h⟩:=chk_some h
 refine Arith.mk c77 ?_
 conv=>whnf
 refine Both.mk ?_ ?_<;>intro b78
 obtain ⟨h,b78d⟩:=ctd b78 h
 conv=>whnf
 cases h
 conv=>whnf
 exact ⟨rfl,rfl⟩
 obtain ⟨h,b78d⟩:=cfd b78 h
 conv=>whnf
 refine ⟨_,pr_wsuite_products c61.1 c64.1 last71,?_⟩
 conv=>whnf
 refine ⟨_,_,_,_,_,_,rfl,rfl,?_⟩
 conv=>whnf
 refine Side.mk ⟨rfl,trivial⟩ ?_
 conv=>whnf
 obtain ⟨c79,hc79,h⟩:=bind_some h
 refine ⟨_,rng_wsuite (by
 intro x_ all_ r h l fid T D bp hT hb
 refine round_ok (n:=84) (own1:=[]) (own2:=[]) (A0:=.im (nL cI x_)) (A1:=.own 1 0 0) rfl hT hb (Nat.le_of_ble_eq_true rfl) (by decide) (Nat.le_of_ble_eq_true rfl) rfl rfl rfl rfl rfl rfl fun hk=>?_
 have z1:lZ x_:=ok_len hk.1
 have z2:lZ all_:=okl_len hk.2.1.1
 unfold wsuite_round at h
 conv=>whnf
 refine Side.mk rfl ?_
 conv=>whnf
 obtain ⟨c51,h⟩:=chk_some h
 refine Side.mk ⟨rfl,map_len (l:=[x_]) (c:=cL cI) fun _=>rfl,show capOk _ 24 by simpa only [List.length_map,List.length_cons,List.length_nil,Nat.zero_add] using c51⟩ ?_
 conv=>whnf
 refine Nf.mk (List.map (cL cI) (all_++[x_])) (app_map (l:=all_) (m:=[x_]) (c:=cL cI)) ?_
 conv=>whnf
 refine Side.mk rfl ?_
 conv=>whnf
 cases h
 conv=>whnf
 exact Side.mk ⟨rfl,rfl,trivial⟩ ⟨rfl,rfl⟩) c61.1 c64.1 last71 [] c79 hc79,?_⟩
 conv=>whnf
 refine Side.mk rfl ?_
 conv=>whnf
 refine Side.mk ⟨rfl,trivial⟩ ?_
 conv=>whnf
 obtain ⟨c80,hc80,h⟩:=bind_some h
 refine ⟨_,(sp_wordset_Maximal c79 c80 (fun _=>hc80)),?_⟩
 conv=>whnf
 cases h
 conv=>whnf
 exact ⟨rfl,rfl⟩
theorem sp_L29_exampleHolds (r:Bool) (h:L29_exampleHolds=some r):Sp Tryz.prog 11 [] (.im (nB r)):=by
 refine sp_of rfl [] rfl rfl rfl (Nat.le_of_ble_eq_true rfl) rfl fun hk=>?_
 unfold L29_exampleHolds at h
 conv=>whnf
 refine Side.mk rfl ?_
 conv=>whnf
 refine Side.mk rfl ?_
 conv=>whnf
 refine Side.mk rfl ?_
 conv=>whnf
 refine Side.mk rfl ?_
 conv=>whnf
 obtain ⟨c51,hc51,h⟩:=bind_some h
 refine ⟨_,(sp_wsuite_Suite (⟨1,0,[[1],[2],[0]],[[0],[0],[1]]⟩:T_api_Mealy) 0 c51 (fun _ _=>hc51)),?_⟩
 conv=>whnf
 refine Side.mk rfl ?_
 conv=>whnf
 refine Side.mk rfl ?_
 conv=>whnf
 obtain ⟨c52,hc52,h⟩:=bind_some h
 refine ⟨_,(sp_wsuite_Passes (⟨1,0,[[1],[2],[0]],[[0],[0],[1]]⟩:T_api_Mealy) (⟨1,0,[[1],[0]],[[0],[0]]⟩:T_api_Mealy) c51.1 c52 (fun _ _ _=>hc52)),?_⟩
 conv=>whnf
 refine Side.mk rfl ?_
 conv=>whnf
 refine Side.mk rfl ?_
 conv=>whnf
 obtain ⟨c53,hc53,h⟩:=bind_some h
 refine ⟨_,(sp_wsuite_Passes (⟨1,0,[[1],[2],[0]],[[0],[0],[1]]⟩:T_api_Mealy) (⟨1,0,[[1],[2],[0]],[[0],[0],[1]]⟩:T_api_Mealy) c51.1 c53 (fun _ _ _=>hc53)),?_⟩
 conv=>whnf
 refine Side.mk rfl ?_
 conv=>whnf
 obtain ⟨c54,hc54,h⟩:=bind_some h
 refine ⟨_,(sp_wsuite_Suite (⟨1,0,[[0]],[[0]]⟩:T_api_Mealy) 0 c54 (fun _ _=>hc54)),?_⟩
 conv=>whnf
 refine Side.mk rfl ?_
 conv=>whnf
 obtain ⟨c55,hc55,h⟩:=bind_some h
 refine ⟨_,(sp_wsuite_Suite (⟨1,0,[[1],[2],[0]],[[0],[0],[1]]⟩:T_api_Mealy) 4 c55 (fun _ _=>hc55)),?_⟩
 conv=>whnf
 obtain ⟨y70,hc,hk57⟩:=bind_some h
 clear h
 have h:=hc
 clear hc
 refine Cut.mk (mkSt [(0,.im (nB y70))] [] []) (True) (hT) ?_ (fun hp=>?_)
 conv=>whnf
 refine Both.mk ?_ ?_<;>intro b71
 replace b71:=beq_tt b71
 obtain ⟨h,b71d⟩:=ctd b71 h
 conv=>whnf
 refine Both.yes (tt_beq b71) ?_
 conv=>whnf
 refine Both.yes b71 ?_
 conv=>whnf
 refine Both.mk ?_ ?_<;>intro b72
 replace b72:=beq_tt b72
 obtain ⟨h,b72d⟩:=ctd b72 h
 conv=>whnf
 refine Both.yes (tt_beq b72) ?_
 conv=>whnf
 refine Both.yes b72 ?_
 conv=>whnf
 refine Both.mk ?_ ?_<;>intro b73
 replace b73:=beq_tt b73
 obtain ⟨h,b73d⟩:=ctd b73 h
 conv=>whnf
 refine Both.yes (tt_beq b73) ?_
 conv=>whnf
 refine Both.yes b73 ?_
 conv=>whnf
 refine Both.mk ?_ ?_<;>intro b74
 replace b74:=beq_tt b74
 obtain ⟨h,b74d⟩:=ctd b74 h
 conv=>whnf
 refine Both.yes (tt_beq b74) ?_
 conv=>whnf
 refine Both.yes b74 ?_
 conv=>whnf
 refine Both.mk ?_ ?_<;>intro b75
 replace b75:=beq_tt b75
 obtain ⟨h,b75d⟩:=ctd b75 h
 conv=>whnf
 iterate 3 (refine Both.yes (tt_beq b75) ?_;(conv=>whnf))
 obtain ⟨c76,hc76,h⟩:=bind_some h
 refine ⟨_,(sp_R10_Same c51.1 [[0,0,0,0,0]] c76 (fun _ _=>hc76)),?_⟩
 conv=>whnf
 refine Both.yes b75 ?_
 conv=>whnf
 refine Both.mk ?_ ?_<;>intro b77
 replace b77:=beq_tt b77
 replace h:=cond_t b77 h
 conv=>whnf
 refine Both.yes (tt_beq b77) ?_
 conv=>whnf
 refine Both.yes b77 ?_
 conv=>whnf
 refine Both.mk ?_ ?_<;>intro b78
 replace b78:=beq_tt b78
 replace h:=cond_t b78 h
 conv=>whnf
 iterate 2 (refine Both.yes (tt_beq b78) ?_;(conv=>whnf))
 obtain ⟨c79,hc79,h⟩:=bind_some h
 refine ⟨_,(sp_R08_Equal c52.1 [0,0,0] c79 (fun _ _=>hc79)),?_⟩
 conv=>whnf
 refine Both.yes b78 ?_
 conv=>whnf
 refine Both.mk ?_ ?_<;>intro b80
 replace b80:=beq_tt b80
 replace h:=cond_t b80 h
 conv=>whnf
 refine Both.yes b80 ?_
 conv=>whnf
 refine Both.mk ?_ ?_<;>intro b81
 replace b81:=beq_tt b81
 replace h:=cond_t b81 h
 conv=>whnf
 iterate 3 (refine Both.yes (tt_beq b81) ?_;(conv=>whnf))
 obtain ⟨c82,hc82,h⟩:=bind_some h
 refine ⟨_,(sp_R10_Same c54.1 [[0]] c82 (fun _ _=>hc82)),?_⟩
 conv=>whnf
 refine Both.yes b81 ?_
 conv=>whnf
 cases h
 exact Join.mk (eA [])
 replace b81:=beq_tf b81
 replace h:=cond_f b81 h
 conv=>whnf
 iterate 3 (refine Both.no (ft_beq b81) ?_;(conv=>whnf))
 refine Both.no b81 ?_
 conv=>whnf
 cases h
 exact Join.mk (eA [])
 replace b80:=beq_tf b80
 replace h:=cond_f b80 h
 conv=>whnf
 refine Both.no b80 ?_
 conv=>whnf
 iterate 5 (refine Both.no rfl ?_;(conv=>whnf))
 cases h
 exact Join.mk (eA [])
 replace b78:=beq_tf b78
 replace h:=cond_f b78 h
 conv=>whnf
 iterate 2 (refine Both.no (ft_beq b78) ?_;(conv=>whnf))
 refine Both.no b78 ?_
 conv=>whnf
 iterate 7 (refine Both.no rfl ?_;(conv=>whnf))
 cases h
 exact Join.mk (eA [])
 replace b77:=beq_tf b77
 replace h:=cond_f b77 h
 conv=>whnf
 refine Both.no (ft_beq b77) ?_
 conv=>whnf
 refine Both.no b77 ?_
 conv=>whnf
 iterate 11 (refine Both.no rfl ?_;(conv=>whnf))
 cases h
 exact Join.mk (eA [])
 replace b75:=beq_tf b75
 obtain ⟨h,b75d⟩:=cfd b75 h
 conv=>whnf
 iterate 3 (refine Both.no (ft_beq b75) ?_;(conv=>whnf))
 refine Both.no b75 ?_
 conv=>whnf
 iterate 14 (refine Both.no rfl ?_;(conv=>whnf))
 cases h
 exact Join.mk (eA [])
 replace b74:=beq_tf b74
 obtain ⟨h,b74d⟩:=cfd b74 h
 conv=>whnf
 refine Both.no (ft_beq b74) ?_
 conv=>whnf
 refine Both.no b74 ?_
 conv=>whnf
 iterate 19 (refine Both.no rfl ?_;(conv=>whnf))
 cases h
 exact Join.mk (eA [])
 replace b73:=beq_tf b73
 obtain ⟨h,b73d⟩:=cfd b73 h
 conv=>whnf
 refine Both.no (ft_beq b73) ?_
 conv=>whnf
 refine Both.no b73 ?_
 conv=>whnf
 iterate 22 (refine Both.no rfl ?_;(conv=>whnf))
 cases h
 exact Join.mk (eA [])
 replace b72:=beq_tf b72
 obtain ⟨h,b72d⟩:=cfd b72 h
 conv=>whnf
 refine Both.no (ft_beq b72) ?_
 conv=>whnf
 refine Both.no b72 ?_
 conv=>whnf
 iterate 25 (refine Both.no rfl ?_;(conv=>whnf))
 cases h
 exact Join.mk (eA [])
 replace b71:=beq_tf b71
 obtain ⟨h,b71d⟩:=cfd b71 h
 conv=>whnf
 refine Both.no (ft_beq b71) ?_
 conv=>whnf
 refine Both.no b71 ?_
 conv=>whnf
 iterate 28 (refine Both.no rfl ?_;(conv=>whnf))
 cases h
 exact Join.mk (eA [])
 replace h:=hk57
 conv=>whnf
 cases h
 conv=>whnf
 exact ⟨rfl,rfl⟩
theorem sp_R11_outs (m_:T_api_Mealy) (s_:Int) (w_:List Int) (r:List Int) (h:Ok (.agg (c_api_Mealy m_))→Ok (nI s_)→Ok (nL cI w_)→R11_outs m_ s_ w_=some r):Sp Tryz.prog 131 [.im (.agg (c_api_Mealy m_)),.im (nI s_),.im (nL cI w_)] (.im (nL cI r)):=by
 refine sp_of rfl [700003] rfl rfl rfl (Nat.le_of_ble_eq_true rfl) rfl fun hk=>?_
 replace h:=h hk.1 hk.2.1 hk.2.2.1
 have z1:lZ m_.Next:=ok_len (Ok.agg_at hk.1 2 rfl)
 have z2:lZ m_.Out:=ok_len (Ok.agg_at hk.1 3 rfl)
 have z3:lZ w_:=ok_len hk.2.2.1
 unfold R11_outs at h
 conv=>whnf
 obtain ⟨c51,hc51,h⟩:=bind_some h
 refine ⟨_,(sp_R06_From m_ s_ w_ c51 (fun _ _ _=>hc51)),?_⟩
 conv=>whnf
 cases h
 conv=>whnf
 exact ⟨rfl,rfl⟩
theorem sp_R11_separates (m_:T_api_Mealy) (s_:Int) (t_:Int) (w_:List Int) (r:Bool) (h:Ok (.agg (c_api_Mealy m_))→Ok (nI s_)→Ok (nI t_)→Ok (nL cI w_)→R11_separates m_ s_ t_ w_=some r):Sp Tryz.prog 116 [.im (.agg (c_api_Mealy m_)),.im (nI s_),.im (nI t_),.im (nL cI w_)] (.im (nB r)):=by
 refine sp_of rfl [700004] rfl rfl rfl (Nat.le_of_ble_eq_true rfl) rfl fun hk=>?_
 replace h:=h hk.1 hk.2.1 hk.2.2.1 hk.2.2.2.1
 have z1:lZ m_.Next:=ok_len (Ok.agg_at hk.1 2 rfl)
 have z2:lZ m_.Out:=ok_len (Ok.agg_at hk.1 3 rfl)
 have z3:lZ w_:=ok_len hk.2.2.2.1
 unfold R11_separates at h
 conv=>whnf
 obtain ⟨c51,hc51,h⟩:=bind_some h
 refine ⟨_,(sp_R11_outs m_ s_ w_ c51 (fun _ _ _=>hc51)),?_⟩
 conv=>whnf
 obtain ⟨c52,hc52,h⟩:=bind_some h
 refine ⟨_,(sp_R11_outs m_ t_ w_ c52 (fun _ _ _=>hc52)),?_⟩
 conv=>whnf
 obtain ⟨c53,hc53,h⟩:=bind_some h
 refine ⟨_,(sp_R08_Equal c51 c52 c53 (fun _ _=>hc53)),?_⟩
 conv=>whnf
 cases h
 conv=>whnf
 exact ⟨rfl,rfl⟩
theorem sp_R11_some (m_:T_api_Mealy) (s_:Int) (t_:Int) (words_:List (List Int)) (r:Bool) (h:Ok (.agg (c_api_Mealy m_))→Ok (nI s_)→Ok (nI t_)→Ok (nL (cL cI) words_)→R11_some m_ s_ t_ words_=some r):Sp Tryz.prog 78 [.im (.agg (c_api_Mealy m_)),.im (nI s_),.im (nI t_),.im (nL (cL cI) words_)] (.im (nB r)):=by
 refine sp_of rfl [700004] rfl rfl rfl (Nat.le_of_ble_eq_true rfl) rfl fun hk=>?_
 replace h:=h hk.1 hk.2.1 hk.2.2.1 hk.2.2.2.1
 have z1:lZ m_.Next:=ok_len (Ok.agg_at hk.1 2 rfl)
 have z2:lZ m_.Out:=ok_len (Ok.agg_at hk.1 3 rfl)
 have z3:lZ words_:=ok_len hk.2.2.2.1
 unfold R11_some at h
 conv=>whnf
 obtain ⟨oc,hc,hk51⟩:=bind_some h
 clear h
 have h:=hc
 clear hc
 refine Cut.mkS oc (Y:=Unit) (fun (_:Unit)=>mkSt [] [] []) (fun (_:Unit)=>True) (by rintro ⟨⟩;exact (hT)) ?_ ?_
 conv=>whnf
 refine Loops.iter (fun (s:Nat)=>R11_some.s2 m_ s_ t_ words_ s) (fun i71=>mkSt [(1,.im (nI s_)),(2,.im (nI t_)),(3,.im (nL (cL cI) words_)),(4,.im (.ref (c_api_Mealy m_))),(9,.im (nI (↑i71:Int)))] [] []) (fun i71=>lZ words_∧True) h (eA []) (by rintro i71;exact ((Holds.avl 3 rfl).and (hT))) ?_
 clear h
 rintro k i71 o hp h ho76
 replace h:R11_some.s2 m_ s_ t_ words_ i71=some o:=h
 unfold R11_some.s2 at h
 obtain ⟨z81,_⟩:=hp
 conv=>whnf
 refine Nf.mk (List.length words_) len_map ?_
 conv=>whnf
 refine Both.mk ?_ ?_<;>intro b77
 obtain ⟨h,b77d⟩:=ctd b77 h
 conv=>whnf
 obtain ⟨e78,he78,h⟩:=idxn_some h
 refine ⟨_,⟨(by omega),map_at he78,rfl⟩,?_⟩
 conv=>whnf
 obtain ⟨c79,hc79,h⟩:=bind_some h
 refine ⟨_,(sp_R11_separates m_ s_ t_ e78 c79 (fun _ _ _ _=>hc79)),?_⟩
 conv=>whnf
 refine Both.mk ?_ ?_<;>intro b80
 replace h:=cond_t b80 h
 conv=>whnf
 cases h
 have ho76:_=_:=ho76
 cases ho76
 replace h:some _=some _:=hk51
 cases h
 conv=>whnf
 exact ⟨rfl,rfl⟩
 replace h:=cond_f b80 h
 conv=>whnf
 refine Arith.mk (by show inR _;unfold inR;omega) ?_
 conv=>whnf
 cases h
 exact Nxt.mk _ ho76 (eA [])
 obtain ⟨h,b77d⟩:=cfd b77 h
 conv=>whnf
 cases h
 have ho76:_=_:=ho76
 cases ho76
 exact JoinS.mk' _ rfl (eA [])
 rintro ⟨⟩ rfl hp
 replace h:=sum_inl hk51
 conv=>whnf
 cases h
 conv=>whnf
 exact ⟨rfl,rfl⟩
end Go.Proofs.YtkfaepfljlphoaaGreat.Sym

/-
  The contracts of the functions, read from the code by a program (ext.py): each function has its plain twin as its contract.
-/
namespace Go.Proofs.YtkfaepfljlphoaaGreat.Sym
open Go.RowKit
set_option maxRecDepth 100000
set_option linter.unusedVariables false
set_option maxHeartbeats 4000000
theorem sp_R11_Charset (m_:T_api_Mealy) (r:List (List Int)×Int) (h:Ok (.agg (c_api_Mealy m_))→R11_Charset m_=some r):Sp Tryz.prog 42 [.im (.agg (c_api_Mealy m_))] (.tup [nL (cL cI) r.1,nI r.2]):=by
 refine sp_of rfl [500036,700001] rfl rfl rfl (Nat.le_of_ble_eq_true rfl) rfl fun hk=>?_
 replace h:=h hk.1
 have z1:lZ m_.Next:=ok_len (Ok.agg_at hk.1 2 rfl)
 have z2:lZ m_.Out:=ok_len (Ok.agg_at hk.1 3 rfl)
 unfold R11_Charset at h
 conv=>whnf
 obtain ⟨c51,hc51,h⟩:=bind_some h
 refine ⟨_,(sp_R11_Check m_ c51 (fun _=>hc51)),?_⟩
 conv=>whnf
 refine Both.mk ?_ ?_<;>intro b52
 obtain ⟨h,b52d⟩:=ctd b52 h
 conv=>whnf
 cases h
 conv=>whnf
 exact ⟨rfl,rfl⟩
 obtain ⟨h,b52d⟩:=cfd b52 h
 conv=>whnf
 obtain ⟨y182,hc,hk53⟩:=bind_some h
 clear h
 have h:=hc
 clear hc
 refine Cut.mk (mkSt [(5,.osl 64 1)] [(64,.row 50 1 (List.map (cL cI) y182))] []) (lZ y182∧True) ((Holds.kdl 64 rfl).and (hT)) ?_ (fun hp=>?_)
 conv=>whnf
 refine Loops.iter (fun (s:List (List Int)×Nat)=>R11_Charset.s14 m_ s.1 s.2) (fun (y223,s224)=>mkSt [(1,.im (.ref (c_api_Mealy m_))),(5,.osl 64 1),(6,.im (nI (↑s224:Int)))] [(64,.row 50 1 (List.map (cL cI) y223))] []) (fun (y223,s224)=>lZ y223∧True) h (eA [(64,none)]) (by rintro ⟨y223,s224⟩;exact ((Holds.kdl 64 rfl).and (hT))) ?_
 clear h
 rintro k ⟨y223,s224⟩ o hp h ho267
 replace h:R11_Charset.s14 m_ y223 s224=some o:=h
 unfold R11_Charset.s14 at h
 obtain ⟨z310,_⟩:=hp
 conv=>whnf
 refine Nf.mk (List.length m_.Next) len_map ?_
 conv=>whnf
 refine Both.mk ?_ ?_<;>intro b268
 obtain ⟨h,b268d⟩:=ctd b268 h
 conv=>whnf
 refine Arith.mk (by show inR _;unfold inR;omega) ?_
 conv=>whnf
 obtain ⟨y289,hc,hk269⟩:=bind_some h
 clear h
 have h:=hc
 clear hc
 refine Cut.mk (mkSt [(1,.im (.ref (c_api_Mealy m_))),(5,.osl 64 1),(6,.im (nI (↑s224:Int)))] [(64,.row 50 1 (List.map (cL cI) y289))] []) (lZ y289∧True) ((Holds.kdl 64 rfl).and (hT)) ?_ (fun hp=>?_)
 conv=>whnf
 refine Loops.iter (fun (s:List (List Int)×Nat)=>R11_Charset.s13 m_ s224 s.1 s.2) (fun (y295,t296)=>mkSt [(1,.im (.ref (c_api_Mealy m_))),(5,.osl 64 1),(6,.im (nI (↑s224:Int))),(7,.im (nI (↑t296:Int)))] [(64,.row 50 1 (List.map (cL cI) y295))] []) (fun (y295,t296)=>lZ y295∧True) h (eA [(64,some 64)]) (by rintro ⟨y295,t296⟩;exact ((Holds.kdl 64 rfl).and (hT))) ?_
 clear h
 rintro k ⟨y295,t296⟩ o hp h ho302
 replace h:R11_Charset.s13 m_ s224 y295 t296=some o:=h
 unfold R11_Charset.s13 at h
 obtain ⟨z308,_⟩:=hp
 conv=>whnf
 refine Nf.mk (List.length m_.Next) len_map ?_
 conv=>whnf
 refine Both.mk ?_ ?_<;>intro b303
 obtain ⟨h,b303d⟩:=ctd b303 h
 conv=>whnf
 refine Side.mk ⟨rfl,trivial⟩ ?_
 conv=>whnf
 obtain ⟨c304,hc304,h⟩:=bind_some h
 refine ⟨_,(sp_R11_some m_ (↑s224:Int) (↑t296:Int) y295 c304 (fun _ _ _ _=>hc304)),?_⟩
 conv=>whnf
 refine Side.mk flat_one ?_
 conv=>whnf
 refine Both.mk ?_ ?_<;>intro b305
 replace h:=cond_t b305 h
 conv=>whnf
 obtain ⟨c306,hc306,h⟩:=bind_some h
 refine ⟨_,(sp_R09_States m_ (↑s224:Int) (↑t296:Int) c306 (fun _ _ _=>hc306)),?_⟩
 conv=>whnf
 obtain ⟨c307,h⟩:=chk_some h
 refine Side.mk ⟨rfl,map_len (l:=[c306.1]) (c:=cL cI) fun _=>rfl,show capOk _ 24 by simpa only [List.length_map,List.length_cons,List.length_nil,Nat.zero_add] using c307⟩ ?_
 conv=>whnf
 refine Nf.mk (List.map (cL cI) (y295++[c306.1])) (app_map (l:=y295) (m:=[c306.1]) (c:=cL cI)) ?_
 conv=>whnf
 refine Arith.mk (by show inR _;unfold inR;omega) ?_
 conv=>whnf
 cases h
 exact Nxt.mk _ ho302 (eA [(64,some 64)])
 replace h:=cond_f b305 h
 conv=>whnf
 refine Arith.mk (by show inR _;unfold inR;omega) ?_
 conv=>whnf
 cases h
 exact Nxt.mk _ ho302 (eA [(64,some 64)])
 obtain ⟨h,b303d⟩:=cfd b303 h
 conv=>whnf
 cases h
 have ho302:_=_:=ho302
 cases ho302
 exact Join.mk (eA [(64,some 64)])
 replace h:=hk269
 obtain ⟨z309,_⟩:=hp
 conv=>whnf
 refine Arith.mk (by show inR _;unfold inR;omega) ?_
 conv=>whnf
 cases h
 exact Nxt.mk _ ho267 (eA [(64,some 64)])
 obtain ⟨h,b268d⟩:=cfd b268 h
 conv=>whnf
 cases h
 have ho267:_=_:=ho267
 cases ho267
 exact Join.mk (eA [(64,some 64)])
 replace h:=hk53
 obtain ⟨z311,_⟩:=hp
 conv=>whnf
 refine Side.mk ⟨rfl,trivial⟩ ?_
 conv=>whnf
 obtain ⟨c312,hc312,h⟩:=bind_some h
 refine ⟨_,(sp_R02_Sorted y182 c312 (fun _=>hc312)).im,?_⟩
 conv=>whnf
 cases h
 conv=>whnf
 exact ⟨rfl,rfl⟩
theorem sp_R29_Suite (m_:T_api_Mealy) (extra_:Int) (r:List (List Int)×Int) (h:Ok (.agg (c_api_Mealy m_))→Ok (nI extra_)→R29_Suite m_ extra_=some r):Sp Tryz.prog 13 [.im (.agg (c_api_Mealy m_)),.im (nI extra_)] (.tup [nL (cL cI) r.1,nI r.2]):=by
 refine sp_of rfl [700002] rfl rfl rfl (Nat.le_of_ble_eq_true rfl) rfl fun hk=>?_
 replace h:=h hk.1 hk.2.1
 have z1:lZ m_.Next:=ok_len (Ok.agg_at hk.1 2 rfl)
 have z2:lZ m_.Out:=ok_len (Ok.agg_at hk.1 3 rfl)
 unfold R29_Suite at h
 conv=>whnf
 obtain ⟨c51,hc51,h⟩:=bind_some h
 refine ⟨_,(sp_R29_Parts m_ extra_ c51 (fun _ _=>hc51)),?_⟩
 conv=>whnf
 refine Side.mk rfl ?_
 conv=>whnf
 refine Both.mk ?_ ?_<;>intro b52
 obtain ⟨h,b52d⟩:=ctd b52 h
 conv=>whnf
 cases h
 conv=>whnf
 exact ⟨rfl,rfl⟩
 obtain ⟨h,b52d⟩:=cfd b52 h
 conv=>whnf
 refine Side.mk rfl ?_
 conv=>whnf
 obtain ⟨c53,hc53,h⟩:=bind_some h
 refine ⟨_,(sp_R11_Charset c51.1 c53 (fun _=>hc53)),?_⟩
 conv=>whnf
 obtain ⟨tails57,hc,hk55⟩:=bind_some h
 clear h
 have h:=hc
 clear hc
 refine Cut.mk (mkSt [(7,.im (nL (cL cI) c51.2.1)),(8,.im (nL (cL cI) c51.2.2.1)),(10,.im (nL (cL cI) tails57))] [] []) (lZ c51.2.1∧lZ c51.2.2.1∧lZ tails57∧True) ((Holds.avl 7 rfl).and ((Holds.avl 8 rfl).and ((Holds.avl 10 rfl).and (hT)))) ?_ (fun hp=>?_)
 conv=>whnf
 refine Nf.mk (List.length c53.1) len_map ?_
 conv=>whnf
 refine Both.mk ?_ ?_<;>intro b58
 obtain ⟨h,b58d⟩:=ctd b58 h
 conv=>whnf
 cases h
 exact Join.mk (eA [])
 obtain ⟨h,b58d⟩:=cfd b58 h
 conv=>whnf
 cases h
 exact Join.mk (eA [])
 replace h:=hk55
 obtain ⟨z59,z60,z61,_⟩:=hp
 conv=>whnf
 refine Nf.mk (List.length c51.2.1) len_map ?_
 conv=>whnf
 refine Nf.mk (List.length c51.2.2.1) len_map ?_
 conv=>whnf
 obtain ⟨c62,h⟩:=chk_some h
 refine Arith.mk c62 ?_
 conv=>whnf
 refine Nf.mk (List.length tails57) len_map ?_
 conv=>whnf
 obtain ⟨c63,h⟩:=chk_some h
 refine Arith.mk c63 ?_
 conv=>whnf
 refine Both.mk ?_ ?_<;>intro b64
 obtain ⟨h,b64d⟩:=ctd b64 h
 conv=>whnf
 cases h
 conv=>whnf
 exact ⟨rfl,rfl⟩
 obtain ⟨h,b64d⟩:=cfd b64 h
 conv=>whnf
 obtain ⟨y1158,hc,hk65⟩:=bind_some h
 clear h
 have h:=hc
 clear hc
 refine Cut.mk (mkSt [(12,.osl 82 1)] [(82,.row 50 1 (List.map (cL cI) y1158))] []) (lZ y1158∧True) ((Holds.kdl 82 rfl).and (hT)) ?_ (fun hp=>?_)
 conv=>whnf
 refine Loops.iter (fun (s:List (List Int)×Nat)=>R29_Suite.s86 c51 tails57 s.1 s.2) (fun (y1518,i1519)=>mkSt [(7,.im (nL (cL cI) c51.2.1)),(8,.im (nL (cL cI) c51.2.2.1)),(10,.im (nL (cL cI) tails57)),(12,.osl 82 1),(13,.im (nI (↑i1519:Int)))] [(82,.row 50 1 (List.map (cL cI) y1518))] []) (fun (y1518,i1519)=>lZ c51.2.1∧lZ c51.2.2.1∧lZ tails57∧lZ y1518∧True) h (eA [(82,none)]) (by rintro ⟨y1518,i1519⟩;exact ((Holds.avl 7 rfl).and ((Holds.avl 8 rfl).and ((Holds.avl 10 rfl).and ((Holds.kdl 82 rfl).and (hT)))))) ?_
 clear h
 rintro k ⟨y1518,i1519⟩ o hp h ho1883
 replace h:R29_Suite.s86 c51 tails57 y1518 i1519=some o:=h
 unfold R29_Suite.s86 at h
 obtain ⟨z2247,z2248,z2249,z2250,_⟩:=hp
 conv=>whnf
 refine Nf.mk (List.length c51.2.1) len_map ?_
 conv=>whnf
 refine Both.mk ?_ ?_<;>intro b1884
 obtain ⟨h,b1884d⟩:=ctd b1884 h
 conv=>whnf
 obtain ⟨y2064,hc,hk1885⟩:=bind_some h
 clear h
 have h:=hc
 clear hc
 refine Cut.mk (mkSt [(7,.im (nL (cL cI) c51.2.1)),(8,.im (nL (cL cI) c51.2.2.1)),(10,.im (nL (cL cI) tails57)),(12,.osl 82 1),(13,.im (nI (↑i1519:Int)))] [(82,.row 50 1 (List.map (cL cI) y2064))] []) (lZ c51.2.1∧lZ c51.2.2.1∧lZ tails57∧lZ y2064∧True) ((Holds.avl 7 rfl).and ((Holds.avl 8 rfl).and ((Holds.avl 10 rfl).and ((Holds.kdl 82 rfl).and (hT))))) ?_ (fun hp=>?_)
 conv=>whnf
 refine Loops.iter (fun (s:List (List Int)×Nat)=>R29_Suite.s85 c51 tails57 i1519 s.1 s.2) (fun (y2122,j2123)=>mkSt [(7,.im (nL (cL cI) c51.2.1)),(8,.im (nL (cL cI) c51.2.2.1)),(10,.im (nL (cL cI) tails57)),(12,.osl 82 1),(13,.im (nI (↑i1519:Int))),(14,.im (nI (↑j2123:Int)))] [(82,.row 50 1 (List.map (cL cI) y2122))] []) (fun (y2122,j2123)=>lZ c51.2.1∧lZ c51.2.2.1∧lZ tails57∧lZ y2122∧True) h (eA [(82,some 82)]) (by rintro ⟨y2122,j2123⟩;exact ((Holds.avl 7 rfl).and ((Holds.avl 8 rfl).and ((Holds.avl 10 rfl).and ((Holds.kdl 82 rfl).and (hT)))))) ?_
 clear h
 rintro k ⟨y2122,j2123⟩ o hp h ho2181
 replace h:R29_Suite.s85 c51 tails57 i1519 y2122 j2123=some o:=h
 unfold R29_Suite.s85 at h
 obtain ⟨z2239,z2240,z2241,z2242,_⟩:=hp
 conv=>whnf
 refine Nf.mk (List.length c51.2.2.1) len_map ?_
 conv=>whnf
 refine Both.mk ?_ ?_<;>intro b2182
 obtain ⟨h,b2182d⟩:=ctd b2182 h
 conv=>whnf
 obtain ⟨y2209,hc,hk2183⟩:=bind_some h
 clear h
 have h:=hc
 clear hc
 refine Cut.mk (mkSt [(7,.im (nL (cL cI) c51.2.1)),(8,.im (nL (cL cI) c51.2.2.1)),(10,.im (nL (cL cI) tails57)),(12,.osl 82 1),(13,.im (nI (↑i1519:Int))),(14,.im (nI (↑j2123:Int)))] [(82,.row 50 1 (List.map (cL cI) y2209))] []) (lZ c51.2.1∧lZ c51.2.2.1∧lZ tails57∧lZ y2209∧True) ((Holds.avl 7 rfl).and ((Holds.avl 8 rfl).and ((Holds.avl 10 rfl).and ((Holds.kdl 82 rfl).and (hT))))) ?_ (fun hp=>?_)
 conv=>whnf
 refine Loops.iter (fun (s:List (List Int)×Nat)=>R29_Suite.s84 c51 tails57 i1519 j2123 s.1 s.2) (fun (y2216,k2217)=>mkSt [(7,.im (nL (cL cI) c51.2.1)),(8,.im (nL (cL cI) c51.2.2.1)),(10,.im (nL (cL cI) tails57)),(12,.osl 82 1),(13,.im (nI (↑i1519:Int))),(14,.im (nI (↑j2123:Int))),(15,.im (nI (↑k2217:Int)))] [(82,.row 50 1 (List.map (cL cI) y2216))] []) (fun (y2216,k2217)=>lZ c51.2.1∧lZ c51.2.2.1∧lZ tails57∧lZ y2216∧True) h (eA [(82,some 82)]) (by rintro ⟨y2216,k2217⟩;exact ((Holds.avl 7 rfl).and ((Holds.avl 8 rfl).and ((Holds.avl 10 rfl).and ((Holds.kdl 82 rfl).and (hT)))))) ?_
 clear h
 rintro k ⟨y2216,k2217⟩ o hp h ho2224
 replace h:R29_Suite.s84 c51 tails57 i1519 j2123 y2216 k2217=some o:=h
 unfold R29_Suite.s84 at h
 obtain ⟨z2231,z2232,z2233,z2234,_⟩:=hp
 conv=>whnf
 refine Nf.mk (List.length tails57) len_map ?_
 conv=>whnf
 refine Both.mk ?_ ?_<;>intro b2225
 obtain ⟨h,b2225d⟩:=ctd b2225 h
 conv=>whnf
 obtain ⟨e2226,he2226,h⟩:=idxn_some h
 refine ⟨_,⟨(by omega),map_at he2226,rfl⟩,?_⟩
 conv=>whnf
 obtain ⟨e2227,he2227,h⟩:=idxn_some h
 refine ⟨_,⟨(by omega),map_at he2227,rfl⟩,?_⟩
 conv=>whnf
 obtain ⟨e2228,he2228,h⟩:=idxn_some h
 refine ⟨_,⟨(by omega),map_at he2228,rfl⟩,?_⟩
 conv=>whnf
 obtain ⟨c2229,hc2229,h⟩:=bind_some h
 refine ⟨_,(sp_R29_Joined e2226 e2227 e2228 c2229 (fun _ _ _=>hc2229)).im,?_⟩
 conv=>whnf
 obtain ⟨c2230,h⟩:=chk_some h
 refine Side.mk ⟨rfl,map_len (l:=[c2229]) (c:=cL cI) fun _=>rfl,show capOk _ 24 by simpa only [List.length_map,List.length_cons,List.length_nil,Nat.zero_add] using c2230⟩ ?_
 conv=>whnf
 refine Nf.mk (List.map (cL cI) (y2216++[c2229])) (app_map (l:=y2216) (m:=[c2229]) (c:=cL cI)) ?_
 conv=>whnf
 refine Arith.mk (by show inR _;unfold inR;omega) ?_
 conv=>whnf
 cases h
 exact Nxt.mk _ ho2224 (eA [(82,some 82)])
 obtain ⟨h,b2225d⟩:=cfd b2225 h
 conv=>whnf
 cases h
 have ho2224:_=_:=ho2224
 cases ho2224
 exact Join.mk (eA [(82,some 82)])
 replace h:=hk2183
 obtain ⟨z2235,z2236,z2237,z2238,_⟩:=hp
 conv=>whnf
 refine Arith.mk (by show inR _;unfold inR;omega) ?_
 conv=>whnf
 cases h
 exact Nxt.mk _ ho2181 (eA [(82,some 82)])
 obtain ⟨h,b2182d⟩:=cfd b2182 h
 conv=>whnf
 cases h
 have ho2181:_=_:=ho2181
 cases ho2181
 exact Join.mk (eA [(82,some 82)])
 replace h:=hk1885
 obtain ⟨z2243,z2244,z2245,z2246,_⟩:=hp
 conv=>whnf
 refine Arith.mk (by show inR _;unfold inR;omega) ?_
 conv=>whnf
 cases h
 exact Nxt.mk _ ho1883 (eA [(82,some 82)])
 obtain ⟨h,b1884d⟩:=cfd b1884 h
 conv=>whnf
 cases h
 have ho1883:_=_:=ho1883
 cases ho1883
 exact Join.mk (eA [(82,some 82)])
 replace h:=hk65
 obtain ⟨z2251,_⟩:=hp
 conv=>whnf
 refine Side.mk ⟨rfl,trivial⟩ ?_
 conv=>whnf
 obtain ⟨c2252,hc2252,h⟩:=bind_some h
 refine ⟨_,(sp_R02_Maximal y1158 c2252 (fun _=>hc2252)).im,?_⟩
 conv=>whnf
 cases h
 conv=>whnf
 exact ⟨rfl,rfl⟩
theorem sp_L29_WsuiteSuites (m_:T_api_Mealy) (extra_:Int) (r:Bool) (h:Ok (.agg (c_api_Mealy m_))→Ok (nI extra_)→L29_WsuiteSuites m_ extra_=some r):Sp Tryz.prog 4 [.im (.agg (c_api_Mealy m_)),.im (nI extra_)] (.im (nB r)):=by
 refine sp_of rfl [700002] rfl rfl rfl (Nat.le_of_ble_eq_true rfl) rfl fun hk=>?_
 replace h:=h hk.1 hk.2.1
 have z1:lZ m_.Next:=ok_len (Ok.agg_at hk.1 2 rfl)
 have z2:lZ m_.Out:=ok_len (Ok.agg_at hk.1 3 rfl)
 unfold L29_WsuiteSuites at h
 conv=>whnf
 obtain ⟨y56,hc,hk52⟩:=bind_some h
 clear h
 have h:=hc
 clear hc
 refine Cut.mk (mkSt [(1,.im (nI extra_)),(2,.im (.ref (c_api_Mealy m_))),(19,.im (nB y56))] [] []) (True) (hT) ?_ (fun hp=>?_)
 conv=>whnf
 obtain ⟨c57,hc57,h⟩:=bind_some h
 refine ⟨_,(sp_L11_Small m_ c57 (fun _=>hc57)),?_⟩
 conv=>whnf
 refine Both.mk ?_ ?_<;>intro b58
 replace b58:=beq_ff b58
 replace h:=cond_f b58 h
 conv=>whnf
 iterate 2 (refine Both.yes (ff_beq b58) ?_;(conv=>whnf))
 refine Both.mk ?_ ?_<;>intro b59
 replace b59:=beq_tt b59
 obtain ⟨h,b59d⟩:=ctd b59 h
 conv=>whnf
 refine Both.yes (tt_beq b59) ?_
 conv=>whnf
 refine Both.yes (ff_beq b58) ?_
 conv=>whnf
 refine Both.yes b59 ?_
 conv=>whnf
 refine Both.no b58 ?_
 conv=>whnf
 cases h
 exact Join.mk (eA [])
 replace b59:=beq_tf b59
 obtain ⟨h,b59d⟩:=cfd b59 h
 conv=>whnf
 refine Both.no (ft_beq b59) ?_
 conv=>whnf
 refine Both.yes (ff_beq b58) ?_
 conv=>whnf
 refine Both.no b59 ?_
 conv=>whnf
 refine Both.no b58 ?_
 conv=>whnf
 cases h
 exact Join.mk (eA [])
 replace b58:=beq_ft b58
 replace h:=cond_t b58 h
 conv=>whnf
 iterate 3 (refine Both.no (tf_beq b58) ?_;(conv=>whnf))
 refine Both.yes b58 ?_
 conv=>whnf
 cases h
 exact Join.mk (eA [])
 replace h:=hk52
 conv=>whnf
 refine Both.mk ?_ ?_<;>intro b60
 replace h:=cond_t b60 h
 conv=>whnf
 obtain ⟨c61,hc61,h⟩:=bind_some h
 refine ⟨_,(sp_L29_exampleHolds  c61 (hc61)),?_⟩
 conv=>whnf
 cases h
 conv=>whnf
 exact ⟨rfl,rfl⟩
 replace h:=cond_f b60 h
 conv=>whnf
 obtain ⟨c62,hc62,h⟩:=bind_some h
 refine ⟨_,(sp_wsuite_Suite m_ extra_ c62 (fun _ _=>hc62)),?_⟩
 conv=>whnf
 obtain ⟨c63,hc63,h⟩:=bind_some h
 refine ⟨_,(sp_R29_Suite m_ extra_ c63 (fun _ _=>hc63)),?_⟩
 conv=>whnf
 obtain ⟨y70,hc,hk65⟩:=bind_some h
 clear h
 have h:=hc
 clear hc
 refine Cut.mk (mkSt [(4,.im (nB y70))] [] []) (True) (hT) ?_ (fun hp=>?_)
 conv=>whnf
 obtain ⟨c71,hc71,h⟩:=bind_some h
 refine ⟨_,(sp_R10_Same c62.1 c63.1 c71 (fun _ _=>hc71)),?_⟩
 conv=>whnf
 refine Both.mk ?_ ?_<;>intro b72
 replace b72:=beq_tt b72
 replace h:=cond_t b72 h
 conv=>whnf
 iterate 2 (refine Both.yes (tt_beq b72) ?_;(conv=>whnf))
 refine Both.yes b72 ?_
 conv=>whnf
 refine Both.mk ?_ ?_<;>intro b73
 replace b73:=beq_tt b73
 obtain ⟨h,b73d⟩:=ctd b73 h
 conv=>whnf
 obtain ⟨c74,hc74,h⟩:=bind_some h
 refine ⟨_,(sp_L29_exampleHolds  c74 (hc74)),?_⟩
 conv=>whnf
 refine Both.yes b73 ?_
 conv=>whnf
 cases h
 exact Join.mk (eA [])
 replace b73:=beq_tf b73
 obtain ⟨h,b73d⟩:=cfd b73 h
 conv=>whnf
 refine Both.no b73 ?_
 conv=>whnf
 cases h
 exact Join.mk (eA [])
 replace b72:=beq_tf b72
 replace h:=cond_f b72 h
 conv=>whnf
 iterate 2 (refine Both.no (ft_beq b72) ?_;(conv=>whnf))
 refine Both.no b72 ?_
 conv=>whnf
 iterate 2 (refine Both.no rfl ?_;(conv=>whnf))
 cases h
 exact Join.mk (eA [])
 replace h:=hk65
 conv=>whnf
 cases h
 conv=>whnf
 exact ⟨rfl,rfl⟩
end Go.Proofs.YtkfaepfljlphoaaGreat.Sym
