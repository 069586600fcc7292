/-
  The contracts of the functions, read from the code by a program (ext.py): each function has its plain twin as its contract.
-/
import Derived.Test.YtajipjnfegmlcaaGreatDoorM5
set_option linter.all false
namespace Go.Proofs.YtajipjnfegmlcaaGreatDoor.Sym
open Go.RowKit
set_option maxRecDepth 100000
set_option linter.unusedVariables false
set_option maxHeartbeats 4000000
theorem sp_R06_row (m_:T_api_Mealy) (s_:Int) (r:Int) (h:Ok (.agg (c_api_Mealy m_))→Ok (nI s_)→R06_row m_ s_=some r):Sp Tryz.prog 71 [.im (.agg (c_api_Mealy m_)),.im (nI s_)] (.im (nI r)):=by
 refine sp_of rfl [700002] rfl rfl rfl (Nat.le_of_ble_eq_true rfl) rfl fun hk=>?_
 replace h:=h hk.1 hk.2.1
 have z1:lZ m_.Next:=ok_len (Ok.agg_at hk.1 2 rfl)
 have z2:lZ m_.Out:=ok_len (Ok.agg_at hk.1 3 rfl)
 unfold R06_row at h
 conv=>whnf
 obtain ⟨y56,hc,hk52⟩:=bind_some h
 clear h
 have h:=hc
 clear hc
 refine Cut.mk (mkSt [(1,.im (nI s_)),(2,.im (.ref (c_api_Mealy m_))),(25,.im (nB y56))] [] []) (True) (hT) ?_ (fun hp=>?_)
 conv=>whnf
 obtain ⟨e57,he57z,he57,h⟩:=idx_some h
 refine ⟨_,⟨he57z,map_at he57,rfl⟩,?_⟩
 conv=>whnf
 refine Nf.mk (List.length e57) len_map ?_
 conv=>whnf
 refine Both.mk ?_ ?_<;>intro b58
 replace b58:=beq_ff b58
 obtain ⟨h,b58d⟩:=cfd b58 h
 conv=>whnf
 iterate 3 (refine Both.yes (ff_beq b58) ?_;(conv=>whnf))
 obtain ⟨e59,he59z,he59,h⟩:=idx_some h
 refine ⟨_,⟨he59z,map_at he59,rfl⟩,?_⟩
 conv=>whnf
 iterate 2 (refine Both.yes (ff_beq b58) ?_;(conv=>whnf))
 refine Nf.mk (List.length e59) len_map ?_
 conv=>whnf
 iterate 3 (refine Both.yes (ff_beq b58) ?_;(conv=>whnf))
 refine Both.no b58 ?_
 conv=>whnf
 cases h
 exact Join.mk (eA [])
 replace b58:=beq_ft b58
 obtain ⟨h,b58d⟩:=ctd b58 h
 conv=>whnf
 iterate 8 (refine Both.no (tf_beq b58) ?_;(conv=>whnf))
 refine Both.yes b58 ?_
 conv=>whnf
 cases h
 exact Join.mk (eA [])
 replace h:=hk52
 conv=>whnf
 refine Both.mk ?_ ?_<;>intro b60
 replace h:=cond_t b60 h
 conv=>whnf
 cases h
 conv=>whnf
 exact ⟨rfl,rfl⟩
 replace h:=cond_f b60 h
 conv=>whnf
 obtain ⟨oc,hc,hk61⟩:=bind_some h
 clear h
 have h:=hc
 clear hc
 refine Cut.mkS oc (Y:=Unit) (fun (_:Unit)=>mkSt [] [] []) (fun (_:Unit)=>True) (by rintro ⟨⟩;exact (hT)) ?_ ?_
 conv=>whnf
 refine Loops.iter (fun (s:Nat)=>R06_row.s2 m_ s_ s) (fun a174=>mkSt [(1,.im (nI s_)),(2,.im (.ref (c_api_Mealy m_))),(5,.im (nI (↑a174:Int)))] [] []) (fun a174=>True) h (eA []) (by rintro a174;exact (hT)) ?_
 clear h
 rintro k a174 o hp h ho203
 replace h:R06_row.s2 m_ s_ a174=some o:=h
 unfold R06_row.s2 at h
 conv=>whnf
 refine Both.mk ?_ ?_<;>intro b204
 obtain ⟨h,b204d⟩:=ctd b204 h
 conv=>whnf
 obtain ⟨y218,hc,hk206⟩:=bind_some h
 clear h
 have h:=hc
 clear hc
 refine Cut.mk (mkSt [(1,.im (nI s_)),(2,.im (.ref (c_api_Mealy m_))),(5,.im (nI (↑a174:Int))),(76,.im (nB y218))] [] []) (True) (hT) ?_ (fun hp=>?_)
 conv=>whnf
 obtain ⟨e219,he219z,he219,h⟩:=idx_some h
 refine ⟨_,⟨he219z,map_at he219,rfl⟩,?_⟩
 conv=>whnf
 obtain ⟨e220,he220,h⟩:=idxn_some h
 refine ⟨_,⟨(by omega),map_at he220,rfl⟩,?_⟩
 conv=>whnf
 refine Both.mk ?_ ?_<;>intro b221
 replace b221:=beq_ff b221
 obtain ⟨h,b221d⟩:=cfd b221 h
 conv=>whnf
 iterate 3 (refine Both.yes (ff_beq b221) ?_;(conv=>whnf))
 obtain ⟨e222,he222z,he222,h⟩:=idx_some h
 refine ⟨_,⟨he222z,map_at he222,rfl⟩,?_⟩
 conv=>whnf
 iterate 3 (refine Both.yes (ff_beq b221) ?_;(conv=>whnf))
 obtain ⟨e223,he223,h⟩:=idxn_some h
 refine ⟨_,⟨(by omega),map_at he223,rfl⟩,?_⟩
 conv=>whnf
 iterate 4 (refine Both.yes (ff_beq b221) ?_;(conv=>whnf))
 refine Nf.mk (List.length m_.Next) len_map ?_
 conv=>whnf
 refine Both.yes (ff_beq b221) ?_
 conv=>whnf
 refine Both.no b221 ?_
 conv=>whnf
 refine Both.mk ?_ ?_<;>intro b224
 replace b224:=beq_ff b224
 obtain ⟨h,b224d⟩:=cfd b224 h
 conv=>whnf
 iterate 3 (refine Both.yes (ff_beq b224) ?_;(conv=>whnf))
 obtain ⟨e225,he225z,he225,h⟩:=idx_some h
 refine ⟨_,⟨he225z,map_at he225,rfl⟩,?_⟩
 conv=>whnf
 iterate 3 (refine Both.yes (ff_beq b224) ?_;(conv=>whnf))
 obtain ⟨e226,he226,h⟩:=idxn_some h
 refine ⟨_,⟨(by omega),map_at he226,rfl⟩,?_⟩
 conv=>whnf
 iterate 2 (refine Both.yes (ff_beq b224) ?_;(conv=>whnf))
 refine Both.no b224 ?_
 conv=>whnf
 refine Both.mk ?_ ?_<;>intro b227
 replace b227:=beq_ff b227
 obtain ⟨h,b227d⟩:=cfd b227 h
 conv=>whnf
 iterate 3 (refine Both.yes (ff_beq b227) ?_;(conv=>whnf))
 obtain ⟨e228,he228z,he228,h⟩:=idx_some h
 refine ⟨_,⟨he228z,map_at he228,rfl⟩,?_⟩
 conv=>whnf
 iterate 3 (refine Both.yes (ff_beq b227) ?_;(conv=>whnf))
 obtain ⟨e229,he229,h⟩:=idxn_some h
 refine ⟨_,⟨(by omega),map_at he229,rfl⟩,?_⟩
 conv=>whnf
 iterate 2 (refine Both.yes (ff_beq b227) ?_;(conv=>whnf))
 refine Both.no b227 ?_
 conv=>whnf
 cases h
 exact Join.mk (eA [])
 replace b227:=beq_ft b227
 obtain ⟨h,b227d⟩:=ctd b227 h
 conv=>whnf
 iterate 8 (refine Both.no (tf_beq b227) ?_;(conv=>whnf))
 refine Both.yes b227 ?_
 conv=>whnf
 cases h
 exact Join.mk (eA [])
 replace b224:=beq_ft b224
 obtain ⟨h,b224d⟩:=ctd b224 h
 conv=>whnf
 iterate 8 (refine Both.no (tf_beq b224) ?_;(conv=>whnf))
 refine Both.yes b224 ?_
 conv=>whnf
 iterate 9 (refine Both.no rfl ?_;(conv=>whnf))
 refine Both.yes rfl ?_
 conv=>whnf
 cases h
 exact Join.mk (eA [])
 replace b221:=beq_ft b221
 obtain ⟨h,b221d⟩:=ctd b221 h
 conv=>whnf
 iterate 11 (refine Both.no (tf_beq b221) ?_;(conv=>whnf))
 refine Both.yes b221 ?_
 conv=>whnf
 iterate 9 (refine Both.no rfl ?_;(conv=>whnf))
 refine Both.yes rfl ?_
 conv=>whnf
 iterate 9 (refine Both.no rfl ?_;(conv=>whnf))
 refine Both.yes rfl ?_
 conv=>whnf
 cases h
 exact Join.mk (eA [])
 replace h:=hk206
 conv=>whnf
 refine Both.mk ?_ ?_<;>intro b230
 replace h:=cond_t b230 h
 conv=>whnf
 cases h
 have ho203:_=_:=ho203
 cases ho203
 replace h:some _=some _:=hk61
 cases h
 conv=>whnf
 exact ⟨rfl,rfl⟩
 replace h:=cond_f b230 h
 conv=>whnf
 obtain ⟨c231,h⟩:=chk_some h
 refine Arith.mk c231 ?_
 conv=>whnf
 cases h
 exact Nxt.mk _ ho203 (eA [])
 obtain ⟨h,b204d⟩:=cfd b204 h
 conv=>whnf
 cases h
 have ho203:_=_:=ho203
 cases ho203
 exact JoinS.mk' _ rfl (eA [])
 rintro ⟨⟩ rfl hp
 replace h:=sum_inl hk61
 conv=>whnf
 cases h
 conv=>whnf
 exact ⟨rfl,rfl⟩
theorem sp_R06_Valid (m_:T_api_Mealy) (r:Int) (h:Ok (.agg (c_api_Mealy m_))→R06_Valid m_=some r):Sp Tryz.prog 36 [.im (.agg (c_api_Mealy m_))] (.im (nI r)):=by
 refine sp_of rfl [700001] rfl rfl rfl (Nat.le_of_ble_eq_true rfl) rfl fun hk=>?_
 replace h:=h hk.1
 have z1:lZ m_.Next:=ok_len (Ok.agg_at hk.1 2 rfl)
 have z2:lZ m_.Out:=ok_len (Ok.agg_at hk.1 3 rfl)
 unfold R06_Valid at h
 conv=>whnf
 obtain ⟨y54,hc,hk52⟩:=bind_some h
 clear h
 have h:=hc
 clear hc
 refine Cut.mk (mkSt [(1,.im (.ref (c_api_Mealy m_))),(12,.im (nB y54))] [] []) (True) (hT) ?_ (fun hp=>?_)
 conv=>whnf
 refine Both.mk ?_ ?_<;>intro b55
 replace b55:=beq_ff b55
 obtain ⟨h,b55d⟩:=cfd b55 h
 conv=>whnf
 iterate 2 (refine Both.yes (ff_beq b55) ?_;(conv=>whnf))
 refine Both.no b55 ?_
 conv=>whnf
 cases h
 exact Join.mk (eA [])
 replace b55:=beq_ft b55
 obtain ⟨h,b55d⟩:=ctd b55 h
 conv=>whnf
 iterate 2 (refine Both.no (tf_beq b55) ?_;(conv=>whnf))
 refine Both.yes b55 ?_
 conv=>whnf
 cases h
 exact Join.mk (eA [])
 replace h:=hk52
 conv=>whnf
 refine Both.mk ?_ ?_<;>intro b56
 replace h:=cond_t b56 h
 conv=>whnf
 cases h
 conv=>whnf
 exact ⟨rfl,rfl⟩
 replace h:=cond_f b56 h
 conv=>whnf
 refine Nf.mk (List.length m_.Next) len_map ?_
 conv=>whnf
 refine Both.mk ?_ ?_<;>intro b57
 obtain ⟨h,b57d⟩:=ctd b57 h
 conv=>whnf
 cases h
 conv=>whnf
 exact ⟨rfl,rfl⟩
 obtain ⟨h,b57d⟩:=cfd b57 h
 conv=>whnf
 refine Nf.mk (List.length m_.Next) len_map ?_
 conv=>whnf
 refine Both.mk ?_ ?_<;>intro b58
 obtain ⟨h,b58d⟩:=ctd b58 h
 conv=>whnf
 cases h
 conv=>whnf
 exact ⟨rfl,rfl⟩
 obtain ⟨h,b58d⟩:=cfd b58 h
 conv=>whnf
 obtain ⟨y62,hc,hk60⟩:=bind_some h
 clear h
 have h:=hc
 clear hc
 refine Cut.mk (mkSt [(1,.im (.ref (c_api_Mealy m_))),(31,.im (nB y62))] [] []) (True) (hT) ?_ (fun hp=>?_)
 conv=>whnf
 refine Both.mk ?_ ?_<;>intro b63
 replace b63:=beq_ff b63
 obtain ⟨h,b63d⟩:=cfd b63 h
 conv=>whnf
 iterate 4 (refine Both.yes (ff_beq b63) ?_;(conv=>whnf))
 refine Nf.mk (List.length m_.Next) len_map ?_
 conv=>whnf
 refine Both.yes (ff_beq b63) ?_
 conv=>whnf
 refine Both.no b63 ?_
 conv=>whnf
 cases h
 exact Join.mk (eA [])
 replace b63:=beq_ft b63
 obtain ⟨h,b63d⟩:=ctd b63 h
 conv=>whnf
 iterate 5 (refine Both.no (tf_beq b63) ?_;(conv=>whnf))
 refine Both.yes b63 ?_
 conv=>whnf
 cases h
 exact Join.mk (eA [])
 replace h:=hk60
 conv=>whnf
 refine Both.mk ?_ ?_<;>intro b64
 replace h:=cond_t b64 h
 conv=>whnf
 cases h
 conv=>whnf
 exact ⟨rfl,rfl⟩
 replace h:=cond_f b64 h
 conv=>whnf
 refine Nf.mk (List.length m_.Out) len_map ?_
 conv=>whnf
 refine Nf.mk (List.length m_.Next) len_map ?_
 conv=>whnf
 refine Both.mk ?_ ?_<;>intro b65
 obtain ⟨h,b65d⟩:=ctd b65 h
 conv=>whnf
 cases h
 conv=>whnf
 exact ⟨rfl,rfl⟩
 obtain ⟨h,b65d⟩:=cfd b65 h
 conv=>whnf
 obtain ⟨oc,hc,hk66⟩:=bind_some h
 clear h
 have h:=hc
 clear hc
 refine Cut.mkS oc (Y:=Unit) (fun (_:Unit)=>mkSt [] [] []) (fun (_:Unit)=>True) (by rintro ⟨⟩;exact (hT)) ?_ ?_
 conv=>whnf
 refine Loops.iter (fun (s:Nat)=>R06_Valid.s2 m_ s) (fun s81=>mkSt [(1,.im (.ref (c_api_Mealy m_))),(3,.im (nI (↑s81:Int)))] [] []) (fun s81=>True) h (eA []) (by rintro s81;exact (hT)) ?_
 clear h
 rintro k s81 o hp h ho85
 replace h:R06_Valid.s2 m_ s81=some o:=h
 unfold R06_Valid.s2 at h
 conv=>whnf
 refine Nf.mk (List.length m_.Next) len_map ?_
 conv=>whnf
 refine Both.mk ?_ ?_<;>intro b86
 obtain ⟨h,b86d⟩:=ctd b86 h
 conv=>whnf
 obtain ⟨c87,hc87,h⟩:=bind_some h
 refine ⟨_,(sp_R06_row m_ (↑s81:Int) c87 (fun _ _=>hc87)),?_⟩
 conv=>whnf
 refine Both.mk ?_ ?_<;>intro b88
 obtain ⟨h,b88d⟩:=ctd b88 h
 conv=>whnf
 cases h
 have ho85:_=_:=ho85
 cases ho85
 replace h:some _=some _:=hk66
 cases h
 conv=>whnf
 exact ⟨rfl,rfl⟩
 obtain ⟨h,b88d⟩:=cfd b88 h
 conv=>whnf
 refine Arith.mk (by show inR _;unfold inR;omega) ?_
 conv=>whnf
 cases h
 exact Nxt.mk _ ho85 (eA [])
 obtain ⟨h,b86d⟩:=cfd b86 h
 conv=>whnf
 cases h
 have ho85:_=_:=ho85
 cases ho85
 exact JoinS.mk' _ rfl (eA [])
 rintro ⟨⟩ rfl hp
 replace h:=sum_inl hk66
 conv=>whnf
 cases h
 conv=>whnf
 exact ⟨rfl,rfl⟩
theorem sp_R19_costs (l_:T_api_Latency) (r:Bool) (h:Ok (.agg (c_api_Latency l_))→R19_costs l_=some r):Sp Tryz.prog 72 [.im (.agg (c_api_Latency l_))] (.im (nB r)):=by
 refine sp_of rfl [700001] rfl rfl rfl (Nat.le_of_ble_eq_true rfl) rfl fun hk=>?_
 replace h:=h hk.1
 have z1:lZ l_.Step:=ok_len (Ok.agg_at hk.1 0 rfl)
 unfold R19_costs at h
 conv=>whnf
 obtain ⟨oc,hc,hk51⟩:=bind_some h
 clear h
 have h:=hc
 clear hc
 refine Cut.mkS oc (Y:=Unit) (fun (_:Unit)=>mkSt [(1,.im (.ref (c_api_Latency l_)))] [] []) (fun (_:Unit)=>True) (by rintro ⟨⟩;exact (hT)) ?_ ?_
 conv=>whnf
 refine Loops.iter (fun (s:Nat)=>R19_costs.s2 l_ s) (fun i98=>mkSt [(1,.im (.ref (c_api_Latency l_))),(3,.im (nI (↑i98:Int)))] [] []) (fun i98=>True) h (eA []) (by rintro i98;exact (hT)) ?_
 clear h
 rintro k i98 o hp h ho110
 replace h:R19_costs.s2 l_ i98=some o:=h
 unfold R19_costs.s2 at h
 conv=>whnf
 refine Nf.mk (List.length l_.Step) len_map ?_
 conv=>whnf
 refine Both.mk ?_ ?_<;>intro b111
 obtain ⟨h,b111d⟩:=ctd b111 h
 conv=>whnf
 obtain ⟨y117,hc,hk113⟩:=bind_some h
 clear h
 have h:=hc
 clear hc
 refine Cut.mk (mkSt [(1,.im (.ref (c_api_Latency l_))),(3,.im (nI (↑i98:Int))),(24,.im (nB y117))] [] []) (True) (hT) ?_ (fun hp=>?_)
 conv=>whnf
 obtain ⟨e118,he118,h⟩:=idxn_some h
 refine ⟨_,⟨(by omega),map_at he118,rfl⟩,?_⟩
 conv=>whnf
 refine Both.mk ?_ ?_<;>intro b119
 replace b119:=beq_ff b119
 obtain ⟨h,b119d⟩:=cfd b119 h
 conv=>whnf
 iterate 3 (refine Both.yes (ff_beq b119) ?_;(conv=>whnf))
 obtain ⟨e120,he120,h⟩:=idxn_some h
 refine ⟨_,⟨(by omega),map_at he120,rfl⟩,?_⟩
 conv=>whnf
 iterate 2 (refine Both.yes (ff_beq b119) ?_;(conv=>whnf))
 refine Both.no b119 ?_
 conv=>whnf
 cases h
 exact Join.mk (eA [])
 replace b119:=beq_ft b119
 obtain ⟨h,b119d⟩:=ctd b119 h
 conv=>whnf
 iterate 5 (refine Both.no (tf_beq b119) ?_;(conv=>whnf))
 refine Both.yes b119 ?_
 conv=>whnf
 cases h
 exact Join.mk (eA [])
 replace h:=hk113
 conv=>whnf
 refine Both.mk ?_ ?_<;>intro b121
 replace h:=cond_t b121 h
 conv=>whnf
 cases h
 have ho110:_=_:=ho110
 cases ho110
 replace h:some _=some _:=hk51
 cases h
 conv=>whnf
 exact ⟨rfl,rfl⟩
 replace h:=cond_f b121 h
 conv=>whnf
 refine Arith.mk (by show inR _;unfold inR;omega) ?_
 conv=>whnf
 cases h
 exact Nxt.mk _ ho110 (eA [])
 obtain ⟨h,b111d⟩:=cfd b111 h
 conv=>whnf
 cases h
 have ho110:_=_:=ho110
 cases ho110
 exact JoinS.mk' _ rfl (eA [])
 rintro ⟨⟩ rfl hp
 replace h:=sum_inl hk51
 conv=>whnf
 obtain ⟨y125,hc,hk123⟩:=bind_some h
 clear h
 have h:=hc
 clear hc
 refine Cut.mk (mkSt [(2,.im (nB y125))] [] []) (True) (hT) ?_ (fun hp=>?_)
 conv=>whnf
 refine Both.mk ?_ ?_<;>intro b126
 replace b126:=beq_tt b126
 obtain ⟨h,b126d⟩:=ctd b126 h
 conv=>whnf
 iterate 2 (refine Both.yes (tt_beq b126) ?_;(conv=>whnf))
 refine Both.yes b126 ?_
 conv=>whnf
 cases h
 exact Join.mk (eA [])
 replace b126:=beq_tf b126
 obtain ⟨h,b126d⟩:=cfd b126 h
 conv=>whnf
 iterate 2 (refine Both.no (ft_beq b126) ?_;(conv=>whnf))
 refine Both.no b126 ?_
 conv=>whnf
 cases h
 exact Join.mk (eA [])
 replace h:=hk123
 conv=>whnf
 cases h
 conv=>whnf
 exact ⟨rfl,rfl⟩
theorem sp_R19_Fits (l_:T_api_Latency) (inputs_:Int) (r:Int) (h:Ok (.agg (c_api_Latency l_))→Ok (nI inputs_)→R19_Fits l_ inputs_=some r):Sp Tryz.prog 37 [.im (.agg (c_api_Latency l_)),.im (nI inputs_)] (.im (nI r)):=by
 refine sp_of rfl [700002] rfl rfl rfl (Nat.le_of_ble_eq_true rfl) rfl fun hk=>?_
 replace h:=h hk.1 hk.2.1
 have z1:lZ l_.Step:=ok_len (Ok.agg_at hk.1 0 rfl)
 unfold R19_Fits at h
 conv=>whnf
 refine Nf.mk (List.length l_.Step) len_map ?_
 conv=>whnf
 refine Both.mk ?_ ?_<;>intro b51
 obtain ⟨h,b51d⟩:=ctd b51 h
 conv=>whnf
 cases h
 conv=>whnf
 exact ⟨rfl,rfl⟩
 obtain ⟨h,b51d⟩:=cfd b51 h
 conv=>whnf
 obtain ⟨c52,hc52,h⟩:=bind_some h
 refine ⟨_,(sp_R19_costs l_ c52 (fun _=>hc52)),?_⟩
 conv=>whnf
 refine Both.mk ?_ ?_<;>intro b53
 replace h:=cond_t b53 h
 conv=>whnf
 cases h
 conv=>whnf
 exact ⟨rfl,rfl⟩
 replace h:=cond_f b53 h
 conv=>whnf
 cases h
 conv=>whnf
 exact ⟨rfl,rfl⟩
theorem sp_R19_rate (n_:Int) (r:Bool) (h:Ok (nI n_)→R19_rate n_=some r):Sp Tryz.prog 38 [.im (nI n_)] (.im (nB r)):=by
 refine sp_of rfl [] rfl rfl rfl (Nat.le_of_ble_eq_true rfl) rfl fun hk=>?_
 replace h:=h hk.1
 unfold R19_rate at h
 conv=>whnf
 obtain ⟨y54,hc,hk52⟩:=bind_some h
 clear h
 have h:=hc
 clear hc
 refine Cut.mk (mkSt [(2,.im (nB y54))] [] []) (True) (hT) ?_ (fun hp=>?_)
 conv=>whnf
 refine Both.mk ?_ ?_<;>intro b55
 replace b55:=beq_tt b55
 obtain ⟨h,b55d⟩:=ctd b55 h
 conv=>whnf
 refine Both.yes (tt_beq b55) ?_
 conv=>whnf
 refine Both.yes b55 ?_
 conv=>whnf
 cases h
 exact Join.mk (eA [])
 replace b55:=beq_tf b55
 obtain ⟨h,b55d⟩:=cfd b55 h
 conv=>whnf
 refine Both.no (ft_beq b55) ?_
 conv=>whnf
 refine Both.no b55 ?_
 conv=>whnf
 cases h
 exact Join.mk (eA [])
 replace h:=hk52
 conv=>whnf
 cases h
 conv=>whnf
 exact ⟨rfl,rfl⟩
theorem sp_R19_counter (n_:Int) (r:Bool) (h:Ok (nI n_)→R19_counter n_=some r):Sp Tryz.prog 39 [.im (nI n_)] (.im (nB r)):=by
 refine sp_of rfl [] rfl rfl rfl (Nat.le_of_ble_eq_true rfl) rfl fun hk=>?_
 replace h:=h hk.1
 unfold R19_counter at h
 conv=>whnf
 obtain ⟨y54,hc,hk52⟩:=bind_some h
 clear h
 have h:=hc
 clear hc
 refine Cut.mk (mkSt [(2,.im (nB y54))] [] []) (True) (hT) ?_ (fun hp=>?_)
 conv=>whnf
 refine Both.mk ?_ ?_<;>intro b55
 replace b55:=beq_tt b55
 obtain ⟨h,b55d⟩:=ctd b55 h
 conv=>whnf
 refine Both.yes (tt_beq b55) ?_
 conv=>whnf
 refine Both.yes b55 ?_
 conv=>whnf
 cases h
 exact Join.mk (eA [])
 replace b55:=beq_tf b55
 obtain ⟨h,b55d⟩:=cfd b55 h
 conv=>whnf
 refine Both.no (ft_beq b55) ?_
 conv=>whnf
 refine Both.no b55 ?_
 conv=>whnf
 cases h
 exact Join.mk (eA [])
 replace h:=hk52
 conv=>whnf
 cases h
 conv=>whnf
 exact ⟨rfl,rfl⟩
theorem sp_R19_Valid (d_:T_api_Device) (r:Int) (h:Ok (.agg (c_api_Device d_))→R19_Valid d_=some r):Sp Tryz.prog 16 [.im (.agg (c_api_Device d_))] (.im (nI r)):=by
 refine sp_of rfl [700001] rfl rfl rfl (Nat.le_of_ble_eq_true rfl) rfl fun hk=>?_
 replace h:=h hk.1
 have z1:lZ d_.M.Next:=ok_len (Ok.agg_at hk.1 2 rfl)
 have z2:lZ d_.M.Out:=ok_len (Ok.agg_at hk.1 3 rfl)
 have z3:lZ d_.Latency.Step:=ok_len (Ok.agg_at hk.1 6 rfl)
 unfold R19_Valid at h
 conv=>whnf
 refine Side.mk rfl ?_
 conv=>whnf
 obtain ⟨c51,hc51,h⟩:=bind_some h
 refine ⟨_,(sp_R06_Valid d_.M c51 (fun _=>hc51)),?_⟩
 conv=>whnf
 refine Both.mk ?_ ?_<;>intro b52
 obtain ⟨h,b52d⟩:=ctd b52 h
 conv=>whnf
 obtain ⟨c53,hc53,h⟩:=bind_some h
 refine ⟨_,(sp_R06_Valid d_.M c53 (fun _=>hc53)),?_⟩
 conv=>whnf
 cases h
 conv=>whnf
 exact ⟨rfl,rfl⟩
 obtain ⟨h,b52d⟩:=cfd b52 h
 conv=>whnf
 obtain ⟨y57,hc,hk55⟩:=bind_some h
 clear h
 have h:=hc
 clear hc
 refine Cut.mk (mkSt [(1,.im (.ref (c_api_Device d_))),(3,.own 86 1 0),(14,.im (nB y57))] [(86,.box 29 3)] [(86,0,.im (nI d_.Faults.Lost)),(86,1,.im (nI d_.Faults.Wrong)),(86,2,.im (nI d_.Faults.Crash))]) (True) (hT) ?_ (fun hp=>?_)
 conv=>whnf
 refine Both.mk ?_ ?_<;>intro b58
 replace b58:=beq_ff b58
 obtain ⟨h,b58d⟩:=cfd b58 h
 conv=>whnf
 iterate 5 (refine Both.yes (ff_beq b58) ?_;(conv=>whnf))
 refine Nf.mk (List.length d_.M.Next) len_map ?_
 conv=>whnf
 refine Both.yes (ff_beq b58) ?_
 conv=>whnf
 refine Both.no b58 ?_
 conv=>whnf
 cases h
 exact Join.mk (eA [(86,some 3)])
 replace b58:=beq_ft b58
 obtain ⟨h,b58d⟩:=ctd b58 h
 conv=>whnf
 iterate 6 (refine Both.no (tf_beq b58) ?_;(conv=>whnf))
 refine Both.yes b58 ?_
 conv=>whnf
 cases h
 exact Join.mk (eA [(86,some 3)])
 replace h:=hk55
 conv=>whnf
 refine Both.mk ?_ ?_<;>intro b59
 replace h:=cond_t b59 h
 conv=>whnf
 cases h
 conv=>whnf
 exact ⟨rfl,rfl⟩
 replace h:=cond_f b59 h
 conv=>whnf
 obtain ⟨c60,hc60,h⟩:=bind_some h
 refine ⟨_,(sp_R19_Fits d_.Latency d_.M.Inputs c60 (fun _ _=>hc60)),?_⟩
 conv=>whnf
 refine Both.mk ?_ ?_<;>intro b61
 obtain ⟨h,b61d⟩:=ctd b61 h
 conv=>whnf
 obtain ⟨c62,hc62,h⟩:=bind_some h
 refine ⟨_,(sp_R19_Fits d_.Latency d_.M.Inputs c62 (fun _ _=>hc62)),?_⟩
 conv=>whnf
 cases h
 conv=>whnf
 exact ⟨rfl,rfl⟩
 obtain ⟨h,b61d⟩:=cfd b61 h
 conv=>whnf
 obtain ⟨y73,hc,hk64⟩:=bind_some h
 clear h
 have h:=hc
 clear hc
 refine Cut.mk (mkSt [(1,.im (.ref (c_api_Device d_))),(41,.im (nB y73))] [] []) (True) (hT) ?_ (fun hp=>?_)
 conv=>whnf
 refine Side.mk rfl ?_
 conv=>whnf
 refine Side.mk rfl ?_
 conv=>whnf
 obtain ⟨c74,hc74,h⟩:=bind_some h
 refine ⟨_,(sp_R19_rate d_.Faults.Lost c74 (fun _=>hc74)),?_⟩
 conv=>whnf
 refine Both.mk ?_ ?_<;>intro b75
 replace b75:=beq_ff b75
 replace h:=cond_f b75 h
 conv=>whnf
 refine Side.mk rfl ?_
 conv=>whnf
 refine Both.yes (ff_beq b75) ?_
 conv=>whnf
 refine Side.mk rfl ?_
 conv=>whnf
 refine Both.yes (ff_beq b75) ?_
 conv=>whnf
 obtain ⟨c76,hc76,h⟩:=bind_some h
 refine ⟨_,(sp_R19_rate d_.Faults.Wrong c76 (fun _=>hc76)),?_⟩
 conv=>whnf
 refine Both.yes (ff_beq b75) ?_
 conv=>whnf
 refine Both.no b75 ?_
 conv=>whnf
 refine Both.mk ?_ ?_<;>intro b77
 replace b77:=beq_ff b77
 replace h:=cond_f b77 h
 conv=>whnf
 refine Side.mk rfl ?_
 conv=>whnf
 refine Both.yes (ff_beq b77) ?_
 conv=>whnf
 refine Side.mk rfl ?_
 conv=>whnf
 refine Both.yes (ff_beq b77) ?_
 conv=>whnf
 obtain ⟨c78,hc78,h⟩:=bind_some h
 refine ⟨_,(sp_R19_rate d_.Faults.Crash c78 (fun _=>hc78)),?_⟩
 conv=>whnf
 refine Both.yes (ff_beq b77) ?_
 conv=>whnf
 refine Both.no b77 ?_
 conv=>whnf
 refine Both.mk ?_ ?_<;>intro b79
 replace b79:=beq_ff b79
 replace h:=cond_f b79 h
 conv=>whnf
 refine Side.mk rfl ?_
 conv=>whnf
 refine Both.yes (ff_beq b79) ?_
 conv=>whnf
 refine Side.mk rfl ?_
 conv=>whnf
 refine Both.yes (ff_beq b79) ?_
 conv=>whnf
 refine Side.mk rfl ?_
 conv=>whnf
 refine Both.yes (ff_beq b79) ?_
 conv=>whnf
 refine Side.mk rfl ?_
 conv=>whnf
 refine Both.yes (ff_beq b79) ?_
 conv=>whnf
 obtain ⟨c80,h⟩:=chk_some h
 refine Arith.mk c80 ?_
 conv=>whnf
 refine Both.yes (ff_beq b79) ?_
 conv=>whnf
 refine Side.mk rfl ?_
 conv=>whnf
 refine Both.yes (ff_beq b79) ?_
 conv=>whnf
 refine Side.mk rfl ?_
 conv=>whnf
 refine Both.yes (ff_beq b79) ?_
 conv=>whnf
 obtain ⟨c81,h⟩:=chk_some h
 refine Arith.mk c81 ?_
 conv=>whnf
 refine Both.yes (ff_beq b79) ?_
 conv=>whnf
 refine Both.no b79 ?_
 conv=>whnf
 cases h
 exact Join.mk (eA [])
 replace b79:=beq_ft b79
 replace h:=cond_t b79 h
 conv=>whnf
 iterate 8 (refine Both.no (tf_beq b79) ?_;(conv=>whnf))
 refine Both.yes b79 ?_
 conv=>whnf
 cases h
 exact Join.mk (eA [])
 replace b77:=beq_ft b77
 replace h:=cond_t b77 h
 conv=>whnf
 iterate 3 (refine Both.no (tf_beq b77) ?_;(conv=>whnf))
 refine Both.yes b77 ?_
 conv=>whnf
 iterate 9 (refine Both.no rfl ?_;(conv=>whnf))
 refine Both.yes rfl ?_
 conv=>whnf
 cases h
 exact Join.mk (eA [])
 replace b75:=beq_ft b75
 replace h:=cond_t b75 h
 conv=>whnf
 iterate 3 (refine Both.no (tf_beq b75) ?_;(conv=>whnf))
 refine Both.yes b75 ?_
 conv=>whnf
 iterate 4 (refine Both.no rfl ?_;(conv=>whnf))
 refine Both.yes rfl ?_
 conv=>whnf
 iterate 9 (refine Both.no rfl ?_;(conv=>whnf))
 refine Both.yes rfl ?_
 conv=>whnf
 cases h
 exact Join.mk (eA [])
 replace h:=hk64
 conv=>whnf
 refine Both.mk ?_ ?_<;>intro b82
 replace h:=cond_t b82 h
 conv=>whnf
 cases h
 conv=>whnf
 exact ⟨rfl,rfl⟩
 replace h:=cond_f b82 h
 conv=>whnf
 obtain ⟨y90,hc,hk84⟩:=bind_some h
 clear h
 have h:=hc
 clear hc
 refine Cut.mk (mkSt [(69,.im (nB y90))] [] []) (True) (hT) ?_ (fun hp=>?_)
 conv=>whnf
 obtain ⟨c91,hc91,h⟩:=bind_some h
 refine ⟨_,(sp_R19_counter d_.Steps c91 (fun _=>hc91)),?_⟩
 conv=>whnf
 refine Both.mk ?_ ?_<;>intro b92
 replace b92:=beq_ff b92
 replace h:=cond_f b92 h
 conv=>whnf
 iterate 2 (refine Both.yes (ff_beq b92) ?_;(conv=>whnf))
 obtain ⟨c93,hc93,h⟩:=bind_some h
 refine ⟨_,(sp_R19_counter d_.Resets c93 (fun _=>hc93)),?_⟩
 conv=>whnf
 refine Both.yes (ff_beq b92) ?_
 conv=>whnf
 refine Both.no b92 ?_
 conv=>whnf
 refine Both.mk ?_ ?_<;>intro b94
 replace b94:=beq_ff b94
 replace h:=cond_f b94 h
 conv=>whnf
 iterate 2 (refine Both.yes (ff_beq b94) ?_;(conv=>whnf))
 obtain ⟨c95,hc95,h⟩:=bind_some h
 refine ⟨_,(sp_R19_counter d_.Time c95 (fun _=>hc95)),?_⟩
 conv=>whnf
 refine Both.yes (ff_beq b94) ?_
 conv=>whnf
 refine Both.no b94 ?_
 conv=>whnf
 cases h
 exact Join.mk (eA [])
 replace b94:=beq_ft b94
 replace h:=cond_t b94 h
 conv=>whnf
 iterate 3 (refine Both.no (tf_beq b94) ?_;(conv=>whnf))
 refine Both.yes b94 ?_
 conv=>whnf
 cases h
 exact Join.mk (eA [])
 replace b92:=beq_ft b92
 replace h:=cond_t b92 h
 conv=>whnf
 iterate 3 (refine Both.no (tf_beq b92) ?_;(conv=>whnf))
 refine Both.yes b92 ?_
 conv=>whnf
 iterate 4 (refine Both.no rfl ?_;(conv=>whnf))
 refine Both.yes rfl ?_
 conv=>whnf
 cases h
 exact Join.mk (eA [])
 replace h:=hk84
 conv=>whnf
 refine Both.mk ?_ ?_<;>intro b96
 replace h:=cond_t b96 h
 conv=>whnf
 cases h
 conv=>whnf
 exact ⟨rfl,rfl⟩
 replace h:=cond_f b96 h
 conv=>whnf
 cases h
 conv=>whnf
 exact ⟨rfl,rfl⟩
theorem sp_R19_Reset (d_:T_api_Device) (r:T_api_Device×Int) (h:Ok (.agg (c_api_Device d_))→R19_Reset d_=some r):Sp Tryz.prog 61 [.im (.agg (c_api_Device d_))] (.tup [.agg (c_api_Device r.1),nI r.2]):=by
 refine sp_of rfl [] rfl rfl rfl (Nat.le_of_ble_eq_true rfl) rfl fun hk=>?_
 replace h:=h hk.1
 have z1:lZ d_.M.Next:=ok_len (Ok.agg_at hk.1 2 rfl)
 have z2:lZ d_.M.Out:=ok_len (Ok.agg_at hk.1 3 rfl)
 have z3:lZ d_.Latency.Step:=ok_len (Ok.agg_at hk.1 6 rfl)
 unfold R19_Reset at h
 conv=>whnf
 refine Side.mk rfl ?_
 conv=>whnf
 obtain ⟨c51,hc51,h⟩:=bind_some h
 refine ⟨_,(sp_R19_Valid d_ c51 (fun _=>hc51)),?_⟩
 conv=>whnf
 refine Both.mk ?_ ?_<;>intro b52
 obtain ⟨h,b52d⟩:=ctd b52 h
 conv=>whnf
 refine Side.mk rfl ?_
 conv=>whnf
 refine Side.mk rfl ?_
 conv=>whnf
 obtain ⟨c53,hc53,h⟩:=bind_some h
 refine ⟨_,(sp_R19_Valid d_ c53 (fun _=>hc53)),?_⟩
 conv=>whnf
 refine Side.mk rfl ?_
 conv=>whnf
 cases h
 conv=>whnf
 refine Side.mk ⟨rfl,trivial⟩ ?_
 conv=>whnf
 exact ⟨rfl,rfl⟩
 obtain ⟨h,b52d⟩:=cfd b52 h
 conv=>whnf
 obtain ⟨y61,hc,hk55⟩:=bind_some h
 clear h
 have h:=hc
 clear hc
 refine Cut.mk (mkSt [(1,.own 64 1 0),(2,.own 65 1 0),(24,.im (nB y61))] [(64,.box 32 15),(65,.box 32 15)] [(64,0,.im (nI d_.M.Inputs)),(64,1,.im (nI d_.M.Start)),(64,2,.im (nL (cL cI) d_.M.Next)),(64,3,.im (nL (cL cI) d_.M.Out)),(64,4,.im (nI d_.State)),(64,5,.im (nB d_.Ready)),(64,6,.im (nL cI d_.Latency.Step)),(64,7,.im (nI d_.Latency.Reset)),(64,8,.im (nI d_.Faults.Lost)),(64,9,.im (nI d_.Faults.Wrong)),(64,10,.im (nI d_.Faults.Crash)),(64,11,.im (nU d_.Seed)),(64,12,.im (nI d_.Steps)),(64,13,.im (nI d_.Resets)),(64,14,.im (nI d_.Time)),(65,0,.im (nI 0)),(65,1,.im (nI 0)),(65,2,.im (.val (.slice none 0 0))),(65,3,.im (.val (.slice none 0 0))),(65,4,.im (nI 0)),(65,5,.im (nB false)),(65,6,.im (.val (.slice none 0 0))),(65,7,.im (nI 0)),(65,8,.im (nI 0)),(65,9,.im (nI 0)),(65,10,.im (nI 0)),(65,11,.im (nU 0)),(65,12,.im (nI 0)),(65,13,.im (nI 0)),(65,14,.im (nI 0))]) (lZ d_.M.Next∧lZ d_.M.Out∧lZ d_.Latency.Step∧True) ((Holds.cel 64 2 rfl (by decide) rfl).and ((Holds.cel 64 3 rfl (by decide) rfl).and ((Holds.cel 64 6 rfl (by decide) rfl).and (hT)))) ?_ (fun hp=>?_)
 conv=>whnf
 refine Side.mk rfl ?_
 conv=>whnf
 refine Side.mk rfl ?_
 conv=>whnf
 obtain ⟨c62,h⟩:=chk_some h
 refine Arith.mk c62 ?_
 conv=>whnf
 obtain ⟨c63,hc63,h⟩:=bind_some h
 refine ⟨_,(sp_R19_counter (d_.Resets+1) c63 (fun _=>hc63)),?_⟩
 conv=>whnf
 refine Both.mk ?_ ?_<;>intro b64
 replace b64:=beq_ff b64
 replace h:=cond_f b64 h
 conv=>whnf
 refine Side.mk rfl ?_
 conv=>whnf
 refine Both.yes (ff_beq b64) ?_
 conv=>whnf
 refine Side.mk rfl ?_
 conv=>whnf
 refine Both.yes (ff_beq b64) ?_
 conv=>whnf
 refine Side.mk rfl ?_
 conv=>whnf
 refine Both.yes (ff_beq b64) ?_
 conv=>whnf
 refine Side.mk rfl ?_
 conv=>whnf
 refine Both.yes (ff_beq b64) ?_
 conv=>whnf
 refine Side.mk rfl ?_
 conv=>whnf
 refine Both.yes (ff_beq b64) ?_
 conv=>whnf
 obtain ⟨c65,h⟩:=chk_some h
 refine Arith.mk c65 ?_
 conv=>whnf
 refine Both.yes (ff_beq b64) ?_
 conv=>whnf
 obtain ⟨c66,hc66,h⟩:=bind_some h
 refine ⟨_,(sp_R19_counter (d_.Time+d_.Latency.Reset) c66 (fun _=>hc66)),?_⟩
 conv=>whnf
 refine Both.yes (ff_beq b64) ?_
 conv=>whnf
 refine Both.no b64 ?_
 conv=>whnf
 cases h
 exact Join.mk (eA [(64,some 1),(65,some 2)])
 replace b64:=beq_ft b64
 replace h:=cond_t b64 h
 conv=>whnf
 iterate 7 (refine Both.no (tf_beq b64) ?_;(conv=>whnf))
 refine Both.yes b64 ?_
 conv=>whnf
 cases h
 exact Join.mk (eA [(64,some 1),(65,some 2)])
 replace h:=hk55
 obtain ⟨z67,z68,z69,_⟩:=hp
 conv=>whnf
 refine Both.mk ?_ ?_<;>intro b70
 replace h:=cond_t b70 h
 conv=>whnf
 refine Side.mk rfl ?_
 conv=>whnf
 refine Side.mk rfl ?_
 conv=>whnf
 cases h
 conv=>whnf
 refine Side.mk ⟨rfl,trivial⟩ ?_
 conv=>whnf
 exact ⟨rfl,rfl⟩
 replace h:=cond_f b70 h
 conv=>whnf
 refine Side.mk rfl ?_
 conv=>whnf
 refine Side.mk rfl ?_
 conv=>whnf
 refine Side.mk rfl ?_
 conv=>whnf
 refine Side.mk rfl ?_
 conv=>whnf
 refine Side.mk rfl ?_
 conv=>whnf
 refine Side.mk rfl ?_
 conv=>whnf
 refine Side.mk rfl ?_
 conv=>whnf
 refine Side.mk rfl ?_
 conv=>whnf
 refine Side.mk rfl ?_
 conv=>whnf
 obtain ⟨c71,h⟩:=chk_some h
 refine Arith.mk c71 ?_
 conv=>whnf
 refine Side.mk rfl ?_
 conv=>whnf
 refine Side.mk rfl ?_
 conv=>whnf
 refine Side.mk rfl ?_
 conv=>whnf
 refine Side.mk rfl ?_
 conv=>whnf
 refine Side.mk rfl ?_
 conv=>whnf
 refine Side.mk rfl ?_
 conv=>whnf
 refine Side.mk rfl ?_
 conv=>whnf
 obtain ⟨c72,h⟩:=chk_some h
 refine Arith.mk c72 ?_
 conv=>whnf
 refine Side.mk rfl ?_
 conv=>whnf
 refine Side.mk rfl ?_
 conv=>whnf
 refine Side.mk rfl ?_
 conv=>whnf
 refine Side.mk rfl ?_
 conv=>whnf
 cases h
 conv=>whnf
 refine Side.mk ⟨rfl,trivial⟩ ?_
 conv=>whnf
 exact ⟨rfl,rfl⟩
theorem sp_R04_Next (state_:Int) (r:Int×Int) (h:Ok (nU state_)→R04_Next state_=some r):Sp Tryz.prog 117 [.im (nU state_)] (.tup [nU r.1,nU r.2]):=by
 refine sp_of rfl [] rfl rfl rfl (Nat.le_of_ble_eq_true rfl) rfl fun hk=>?_
 replace h:=h hk.1
 unfold R04_Next at h
 conv=>whnf
 refine Arith.wr _ (mdU_eq _) ?_
 conv=>whnf
 obtain ⟨c51,h⟩:=chk_some h
 refine Side.mk ⟨⟨by show (0:Int)≤(mdU (state_+11400714819323198485)) / 2^30;omega,by show (mdU (state_+11400714819323198485)) / 2^30≤(18446744073709551615:Int);omega⟩,c51.1,by decide,by decide⟩ ?_
 conv=>whnf
 refine Arith.wr _ (mdU_eq _) ?_
 conv=>whnf
 obtain ⟨c52,h⟩:=chk_some h
 refine Side.mk ⟨⟨by show (0:Int)≤(mdU ((xorK .u64 (mdU (state_+11400714819323198485)) ((mdU (state_+11400714819323198485)) / 2^30))*13787848793156543929)) / 2^27;omega,by show (mdU ((xorK .u64 (mdU (state_+11400714819323198485)) ((mdU (state_+11400714819323198485)) / 2^30))*13787848793156543929)) / 2^27≤(18446744073709551615:Int);omega⟩,c52.1,by decide,by decide⟩ ?_
 conv=>whnf
 refine Arith.wr _ (mdU_eq _) ?_
 conv=>whnf
 obtain ⟨c53,h⟩:=chk_some h
 refine Side.mk ⟨⟨by show (0:Int)≤(mdU ((xorK .u64 (mdU ((xorK .u64 (mdU (state_+11400714819323198485)) ((mdU (state_+11400714819323198485)) / 2^30))*13787848793156543929)) ((mdU ((xorK .u64 (mdU (state_+11400714819323198485)) ((mdU (state_+11400714819323198485)) / 2^30))*13787848793156543929)) / 2^27))*10723151780598845931)) / 2^31;omega,by show (mdU ((xorK .u64 (mdU ((xorK .u64 (mdU (state_+11400714819323198485)) ((mdU (state_+11400714819323198485)) / 2^30))*13787848793156543929)) ((mdU ((xorK .u64 (mdU (state_+11400714819323198485)) ((mdU (state_+11400714819323198485)) / 2^30))*13787848793156543929)) / 2^27))*10723151780598845931)) / 2^31≤(18446744073709551615:Int);omega⟩,c53.1,by decide,by decide⟩ ?_
 conv=>whnf
 cases h
 conv=>whnf
 exact ⟨rfl,rfl⟩
theorem sp_R04_draw (state_:Int) (n_:Int) (r:Int×Int) (h:Ok (nU state_)→Ok (nI n_)→R04_draw state_ n_=some r):Sp Tryz.prog 105 [.im (nU state_),.im (nI n_)] (.tup [nI r.1,nU r.2]):=by
 refine sp_of rfl [] rfl rfl rfl (Nat.le_of_ble_eq_true rfl) rfl fun hk=>?_
 replace h:=h hk.1 hk.2.1
 unfold R04_draw at h
 conv=>whnf
 obtain ⟨c51,h⟩:=chk_some h
 refine Side.mk c51 ?_
 conv=>whnf
 refine Arith.wr _ (mdU_eq _) ?_
 conv=>whnf
 refine Arith.wr _ (mdU_eq _) ?_
 conv=>whnf
 obtain ⟨c52,h⟩:=chk_some h
 refine Side.mk c52 ?_
 conv=>whnf
 obtain ⟨c53,h⟩:=chk_some h
 refine Side.mk c53 ?_
 conv=>whnf
 obtain ⟨c54,hc54,h⟩:=bind_some h
 refine ⟨_,(sp_R04_Next state_ c54 (fun _=>hc54)),?_⟩
 conv=>whnf
 obtain ⟨⟨x80,next81⟩,hc,hk55⟩:=bind_some h
 clear h
 have h:=hc
 clear hc
 refine Cut.mk (mkSt [(1,.im (nI n_)),(7,.im (nU x80)),(8,.im (nU next81))] [] []) (True) (hT) ?_ (fun hp=>?_)
 conv=>whnf
 refine Loops.iter (fun (s:Int×Int)=>R04_draw.s2 n_ s.1 s.2) (fun (x89,next90)=>mkSt [(1,.im (nI n_)),(6,.im (nU ((mdU ((mdU (18446744073709551615-n_))+1))%n_))),(7,.im (nU x89)),(8,.im (nU next90))] [] []) (fun (x89,next90)=>True) h (eA []) (by rintro ⟨x89,next90⟩;exact (hT)) ?_
 clear h
 rintro k ⟨x89,next90⟩ o hp h ho98
 replace h:R04_draw.s2 n_ x89 next90=some o:=h
 unfold R04_draw.s2 at h
 conv=>whnf
 obtain ⟨y102,hc,hk100⟩:=bind_some h
 clear h
 have h:=hc
 clear hc
 refine Cut.mk (mkSt [(1,.im (nI n_)),(6,.im (nU ((mdU ((mdU (18446744073709551615-n_))+1))%n_))),(7,.im (nU x89)),(8,.im (nU next90)),(28,.im (nB y102))] [] []) (True) (hT) ?_ (fun hp=>?_)
 conv=>whnf
 refine Both.mk ?_ ?_<;>intro b103
 replace b103:=beq_tt b103
 obtain ⟨h,b103d⟩:=ctd b103 h
 conv=>whnf
 iterate 2 (refine Both.yes (tt_beq b103) ?_;(conv=>whnf))
 refine Arith.wr _ (mdU_eq _) ?_
 conv=>whnf
 refine Both.yes (tt_beq b103) ?_
 conv=>whnf
 refine Both.yes b103 ?_
 conv=>whnf
 cases h
 exact Join.mk (eA [])
 replace b103:=beq_tf b103
 obtain ⟨h,b103d⟩:=cfd b103 h
 conv=>whnf
 iterate 3 (refine Both.no (ft_beq b103) ?_;(conv=>whnf))
 refine Both.no b103 ?_
 conv=>whnf
 cases h
 exact Join.mk (eA [])
 replace h:=hk100
 conv=>whnf
 refine Both.mk ?_ ?_<;>intro b104
 replace h:=cond_t b104 h
 conv=>whnf
 obtain ⟨c105,hc105,h⟩:=bind_some h
 refine ⟨_,(sp_R04_Next next90 c105 (fun _=>hc105)),?_⟩
 conv=>whnf
 cases h
 exact Nxt.mk _ ho98 (eA [])
 replace h:=cond_f b104 h
 conv=>whnf
 cases h
 have ho98:_=_:=ho98
 cases ho98
 exact Join.mk (eA [])
 replace h:R04_draw.k3 n_ x80 next81=some _:=hk55
 unfold R04_draw.k3 at h
 conv=>whnf
 obtain ⟨c106,h⟩:=chk_some h
 refine Side.mk c106 ?_
 conv=>whnf
 obtain ⟨c107,h⟩:=chk_some h
 refine Side.mk c107 ?_
 conv=>whnf
 obtain ⟨c108,h⟩:=chk_some h
 refine Side.mk c108 ?_
 conv=>whnf
 cases h
 conv=>whnf
 exact ⟨rfl,rfl⟩
theorem sp_R04_Below (state_:Int) (n_:Int) (r:Int×Int×Int) (h:Ok (nU state_)→Ok (nI n_)→R04_Below state_ n_=some r):Sp Tryz.prog 87 [.im (nU state_),.im (nI n_)] (.tup [nI r.1,nU r.2.1,nI r.2.2]):=by
 refine sp_of rfl [] rfl rfl rfl (Nat.le_of_ble_eq_true rfl) rfl fun hk=>?_
 replace h:=h hk.1 hk.2.1
 unfold R04_Below at h
 conv=>whnf
 obtain ⟨y54,hc,hk52⟩:=bind_some h
 clear h
 have h:=hc
 clear hc
 refine Cut.mk (mkSt [(0,.im (nU state_)),(1,.im (nI n_)),(14,.im (nB y54))] [] []) (True) (hT) ?_ (fun hp=>?_)
 conv=>whnf
 refine Both.mk ?_ ?_<;>intro b55
 replace b55:=beq_ff b55
 obtain ⟨h,b55d⟩:=cfd b55 h
 conv=>whnf
 refine Both.yes (ff_beq b55) ?_
 conv=>whnf
 refine Both.no b55 ?_
 conv=>whnf
 cases h
 exact Join.mk (eA [])
 replace b55:=beq_ft b55
 obtain ⟨h,b55d⟩:=ctd b55 h
 conv=>whnf
 refine Both.no (tf_beq b55) ?_
 conv=>whnf
 refine Both.yes b55 ?_
 conv=>whnf
 cases h
 exact Join.mk (eA [])
 replace h:=hk52
 conv=>whnf
 refine Both.mk ?_ ?_<;>intro b56
 replace h:=cond_t b56 h
 conv=>whnf
 cases h
 conv=>whnf
 exact ⟨rfl,rfl⟩
 replace h:=cond_f b56 h
 conv=>whnf
 obtain ⟨c57,hc57,h⟩:=bind_some h
 refine ⟨_,(sp_R04_draw state_ n_ c57 (fun _ _=>hc57)),?_⟩
 conv=>whnf
 cases h
 conv=>whnf
 exact ⟨rfl,rfl⟩
theorem sp_R19_Step (d_:T_api_Device) (a_:Int) (r:T_api_Device×Int×Int) (h:Ok (.agg (c_api_Device d_))→Ok (nI a_)→R19_Step d_ a_=some r):Sp Tryz.prog 62 [.im (.agg (c_api_Device d_)),.im (nI a_)] (.tup [.agg (c_api_Device r.1),nI r.2.1,nI r.2.2]):=by
 refine sp_of rfl [] rfl rfl rfl (Nat.le_of_ble_eq_true rfl) rfl fun hk=>?_
 replace h:=h hk.1 hk.2.1
 have z1:lZ d_.M.Next:=ok_len (Ok.agg_at hk.1 2 rfl)
 have z2:lZ d_.M.Out:=ok_len (Ok.agg_at hk.1 3 rfl)
 have z3:lZ d_.Latency.Step:=ok_len (Ok.agg_at hk.1 6 rfl)
 unfold R19_Step at h
 conv=>whnf
 refine Side.mk rfl ?_
 conv=>whnf
 obtain ⟨c51,hc51,h⟩:=bind_some h
 refine ⟨_,(sp_R19_Valid d_ c51 (fun _=>hc51)),?_⟩
 conv=>whnf
 refine Both.mk ?_ ?_<;>intro b52
 obtain ⟨h,b52d⟩:=ctd b52 h
 conv=>whnf
 refine Side.mk rfl ?_
 conv=>whnf
 refine Side.mk rfl ?_
 conv=>whnf
 obtain ⟨c53,hc53,h⟩:=bind_some h
 refine ⟨_,(sp_R19_Valid d_ c53 (fun _=>hc53)),?_⟩
 conv=>whnf
 refine Side.mk rfl ?_
 conv=>whnf
 cases h
 conv=>whnf
 refine Side.mk ⟨rfl,trivial⟩ ?_
 conv=>whnf
 exact ⟨rfl,rfl⟩
 obtain ⟨h,b52d⟩:=cfd b52 h
 conv=>whnf
 refine Side.mk rfl ?_
 conv=>whnf
 refine Side.mk rfl ?_
 conv=>whnf
 refine Both.mk ?_ ?_<;>intro b54
 replace h:=cond_t b54 h
 conv=>whnf
 refine Side.mk rfl ?_
 conv=>whnf
 refine Side.mk rfl ?_
 conv=>whnf
 cases h
 conv=>whnf
 refine Side.mk ⟨rfl,trivial⟩ ?_
 conv=>whnf
 exact ⟨rfl,rfl⟩
 replace h:=cond_f b54 h
 conv=>whnf
 obtain ⟨y58,hc,hk56⟩:=bind_some h
 clear h
 have h:=hc
 clear hc
 refine Cut.mk (mkSt [(1,.im (nI a_)),(2,.own 144 1 0),(4,.own 145 1 0),(24,.im (nB y58))] [(144,.box 32 15),(145,.box 32 15)] [(144,0,.im (nI d_.M.Inputs)),(144,1,.im (nI d_.M.Start)),(144,2,.im (nL (cL cI) d_.M.Next)),(144,3,.im (nL (cL cI) d_.M.Out)),(144,4,.im (nI d_.State)),(144,5,.im (nB d_.Ready)),(144,6,.im (nL cI d_.Latency.Step)),(144,7,.im (nI d_.Latency.Reset)),(144,8,.im (nI d_.Faults.Lost)),(144,9,.im (nI d_.Faults.Wrong)),(144,10,.im (nI d_.Faults.Crash)),(144,11,.im (nU d_.Seed)),(144,12,.im (nI d_.Steps)),(144,13,.im (nI d_.Resets)),(144,14,.im (nI d_.Time)),(145,0,.im (nI 0)),(145,1,.im (nI 0)),(145,2,.im (.val (.slice none 0 0))),(145,3,.im (.val (.slice none 0 0))),(145,4,.im (nI 0)),(145,5,.im (nB false)),(145,6,.im (.val (.slice none 0 0))),(145,7,.im (nI 0)),(145,8,.im (nI 0)),(145,9,.im (nI 0)),(145,10,.im (nI 0)),(145,11,.im (nU 0)),(145,12,.im (nI 0)),(145,13,.im (nI 0)),(145,14,.im (nI 0))]) (lZ d_.M.Next∧lZ d_.M.Out∧lZ d_.Latency.Step∧True) ((Holds.cel 144 2 rfl (by decide) rfl).and ((Holds.cel 144 3 rfl (by decide) rfl).and ((Holds.cel 144 6 rfl (by decide) rfl).and (hT)))) ?_ (fun hp=>?_)
 conv=>whnf
 refine Both.mk ?_ ?_<;>intro b59
 replace b59:=beq_ff b59
 obtain ⟨h,b59d⟩:=cfd b59 h
 conv=>whnf
 refine Both.yes (ff_beq b59) ?_
 conv=>whnf
 refine Side.mk rfl ?_
 conv=>whnf
 refine Both.yes (ff_beq b59) ?_
 conv=>whnf
 refine Side.mk rfl ?_
 conv=>whnf
 refine Both.yes (ff_beq b59) ?_
 conv=>whnf
 refine Side.mk rfl ?_
 conv=>whnf
 refine Both.yes (ff_beq b59) ?_
 conv=>whnf
 refine Both.no b59 ?_
 conv=>whnf
 cases h
 exact Join.mk (eA [(144,some 2),(145,some 4)])
 replace b59:=beq_ft b59
 obtain ⟨h,b59d⟩:=ctd b59 h
 conv=>whnf
 iterate 4 (refine Both.no (tf_beq b59) ?_;(conv=>whnf))
 refine Both.yes b59 ?_
 conv=>whnf
 cases h
 exact Join.mk (eA [(144,some 2),(145,some 4)])
 replace h:=hk56
 obtain ⟨z60,z61,z62,_⟩:=hp
 conv=>whnf
 refine Both.mk ?_ ?_<;>intro b63
 replace h:=cond_t b63 h
 conv=>whnf
 refine Side.mk rfl ?_
 conv=>whnf
 refine Side.mk rfl ?_
 conv=>whnf
 cases h
 conv=>whnf
 refine Side.mk ⟨rfl,trivial⟩ ?_
 conv=>whnf
 exact ⟨rfl,rfl⟩
 replace h:=cond_f b63 h
 conv=>whnf
 obtain ⟨y72,hc,hk65⟩:=bind_some h
 clear h
 have h:=hc
 clear hc
 refine Cut.mk (mkSt [(1,.im (nI a_)),(2,.own 144 1 0),(4,.own 145 1 0),(35,.im (nB y72))] [(144,.box 32 15),(145,.box 32 15)] [(144,0,.im (nI d_.M.Inputs)),(144,1,.im (nI d_.M.Start)),(144,2,.im (nL (cL cI) d_.M.Next)),(144,3,.im (nL (cL cI) d_.M.Out)),(144,4,.im (nI d_.State)),(144,5,.im (nB d_.Ready)),(144,6,.im (nL cI d_.Latency.Step)),(144,7,.im (nI d_.Latency.Reset)),(144,8,.im (nI d_.Faults.Lost)),(144,9,.im (nI d_.Faults.Wrong)),(144,10,.im (nI d_.Faults.Crash)),(144,11,.im (nU d_.Seed)),(144,12,.im (nI d_.Steps)),(144,13,.im (nI d_.Resets)),(144,14,.im (nI d_.Time)),(145,0,.im (nI 0)),(145,1,.im (nI 0)),(145,2,.im (.val (.slice none 0 0))),(145,3,.im (.val (.slice none 0 0))),(145,4,.im (nI 0)),(145,5,.im (nB false)),(145,6,.im (.val (.slice none 0 0))),(145,7,.im (nI 0)),(145,8,.im (nI 0)),(145,9,.im (nI 0)),(145,10,.im (nI 0)),(145,11,.im (nU 0)),(145,12,.im (nI 0)),(145,13,.im (nI 0)),(145,14,.im (nI 0))]) (lZ d_.M.Next∧lZ d_.M.Out∧lZ d_.Latency.Step∧True) ((Holds.cel 144 2 rfl (by decide) rfl).and ((Holds.cel 144 3 rfl (by decide) rfl).and ((Holds.cel 144 6 rfl (by decide) rfl).and (hT)))) ?_ (fun hp=>?_)
 conv=>whnf
 refine Side.mk rfl ?_
 conv=>whnf
 refine Side.mk rfl ?_
 conv=>whnf
 obtain ⟨c73,h⟩:=chk_some h
 refine Arith.mk c73 ?_
 conv=>whnf
 obtain ⟨c74,hc74,h⟩:=bind_some h
 refine ⟨_,(sp_R19_counter (d_.Steps+1) c74 (fun _=>hc74)),?_⟩
 conv=>whnf
 refine Both.mk ?_ ?_<;>intro b75
 replace b75:=beq_ff b75
 replace h:=cond_f b75 h
 conv=>whnf
 refine Side.mk rfl ?_
 conv=>whnf
 refine Both.yes (ff_beq b75) ?_
 conv=>whnf
 refine Side.mk rfl ?_
 conv=>whnf
 refine Both.yes (ff_beq b75) ?_
 conv=>whnf
 refine Side.mk rfl ?_
 conv=>whnf
 refine Both.yes (ff_beq b75) ?_
 conv=>whnf
 refine Side.mk rfl ?_
 conv=>whnf
 refine Both.yes (ff_beq b75) ?_
 conv=>whnf
 refine Side.mk rfl ?_
 conv=>whnf
 iterate 2 (refine Both.yes (ff_beq b75) ?_;(conv=>whnf))
 obtain ⟨e76,he76z,he76,h⟩:=idx_some h
 refine ⟨_,⟨he76z,map_at he76,rfl⟩,?_⟩
 conv=>whnf
 iterate 2 (refine Both.yes (ff_beq b75) ?_;(conv=>whnf))
 obtain ⟨c77,h⟩:=chk_some h
 refine Arith.mk c77 ?_
 conv=>whnf
 refine Both.yes (ff_beq b75) ?_
 conv=>whnf
 obtain ⟨c78,hc78,h⟩:=bind_some h
 refine ⟨_,(sp_R19_counter (d_.Time+e76) c78 (fun _=>hc78)),?_⟩
 conv=>whnf
 refine Both.yes (ff_beq b75) ?_
 conv=>whnf
 refine Both.no b75 ?_
 conv=>whnf
 cases h
 exact Join.mk (eA [(144,some 144),(145,some 145)])
 replace b75:=beq_ft b75
 replace h:=cond_t b75 h
 conv=>whnf
 iterate 10 (refine Both.no (tf_beq b75) ?_;(conv=>whnf))
 refine Both.yes b75 ?_
 conv=>whnf
 cases h
 exact Join.mk (eA [(144,some 144),(145,some 145)])
 replace h:=hk65
 obtain ⟨z79,z80,z81,_⟩:=hp
 conv=>whnf
 refine Both.mk ?_ ?_<;>intro b82
 replace h:=cond_t b82 h
 conv=>whnf
 refine Side.mk rfl ?_
 conv=>whnf
 refine Side.mk rfl ?_
 conv=>whnf
 cases h
 conv=>whnf
 refine Side.mk ⟨rfl,trivial⟩ ?_
 conv=>whnf
 exact ⟨rfl,rfl⟩
 replace h:=cond_f b82 h
 conv=>whnf
 refine Side.mk rfl ?_
 conv=>whnf
 refine Side.mk rfl ?_
 conv=>whnf
 refine Side.mk rfl ?_
 conv=>whnf
 refine Side.mk rfl ?_
 conv=>whnf
 refine Side.mk rfl ?_
 conv=>whnf
 obtain ⟨e83,he83z,he83,h⟩:=idx_some h
 refine ⟨_,⟨he83z,map_at he83,rfl⟩,?_⟩
 conv=>whnf
 obtain ⟨e84,he84z,he84,h⟩:=idx_some h
 refine ⟨_,⟨he84z,map_at he84,rfl⟩,?_⟩
 conv=>whnf
 refine Side.mk rfl ?_
 conv=>whnf
 refine Side.mk rfl ?_
 conv=>whnf
 obtain ⟨c85,hc85,h⟩:=bind_some h
 refine ⟨_,(sp_R04_Below d_.Seed 10000 c85 (fun _ _=>hc85)),?_⟩
 conv=>whnf
 refine Side.mk rfl ?_
 conv=>whnf
 refine Side.mk rfl ?_
 conv=>whnf
 refine Side.mk rfl ?_
 conv=>whnf
 refine Side.mk rfl ?_
 conv=>whnf
 refine Side.mk rfl ?_
 conv=>whnf
 obtain ⟨e86,he86z,he86,h⟩:=idx_some h
 refine ⟨_,⟨he86z,map_at he86,rfl⟩,?_⟩
 conv=>whnf
 obtain ⟨e87,he87z,he87,h⟩:=idx_some h
 refine ⟨_,⟨he87z,map_at he87,rfl⟩,?_⟩
 conv=>whnf
 refine Side.mk rfl ?_
 conv=>whnf
 refine Side.mk rfl ?_
 conv=>whnf
 refine Side.mk rfl ?_
 conv=>whnf
 refine Side.mk rfl ?_
 conv=>whnf
 obtain ⟨c88,h⟩:=chk_some h
 refine Arith.mk c88 ?_
 conv=>whnf
 refine Side.mk rfl ?_
 conv=>whnf
 refine Side.mk rfl ?_
 conv=>whnf
 refine Side.mk rfl ?_
 conv=>whnf
 refine Side.mk rfl ?_
 conv=>whnf
 refine Side.mk rfl ?_
 conv=>whnf
 refine Side.mk rfl ?_
 conv=>whnf
 refine Side.mk rfl ?_
 conv=>whnf
 obtain ⟨e89,he89z,he89,h⟩:=idx_some h
 refine ⟨_,⟨he89z,map_at he89,rfl⟩,?_⟩
 conv=>whnf
 obtain ⟨c90,h⟩:=chk_some h
 refine Arith.mk c90 ?_
 conv=>whnf
 refine Side.mk rfl ?_
 conv=>whnf
 refine Side.mk rfl ?_
 conv=>whnf
 refine Side.mk rfl ?_
 conv=>whnf
 refine Side.mk rfl ?_
 conv=>whnf
 refine Side.mk rfl ?_
 conv=>whnf
 refine Side.mk rfl ?_
 conv=>whnf
 refine Side.mk rfl ?_
 conv=>whnf
 refine Side.mk rfl ?_
 conv=>whnf
 refine Side.mk rfl ?_
 conv=>whnf
 refine Both.mk ?_ ?_<;>intro b91
 obtain ⟨h,b91d⟩:=ctd b91 h
 conv=>whnf
 refine Side.mk rfl ?_
 conv=>whnf
 refine Side.mk rfl ?_
 conv=>whnf
 cases h
 conv=>whnf
 refine Side.mk ⟨rfl,trivial⟩ ?_
 conv=>whnf
 exact ⟨rfl,rfl⟩
 obtain ⟨h,b91d⟩:=cfd b91 h
 conv=>whnf
 obtain ⟨y96,hc,hk93⟩:=bind_some h
 clear h
 have h:=hc
 clear hc
 refine Cut.mk (mkSt [(2,.own 144 1 0),(4,.own 145 1 0),(7,.im (nI e84)),(8,.im (nI c85.1)),(11,.own 146 1 0),(106,.im (nB y96))] [(144,.box 32 15),(145,.box 32 15),(146,.box 29 3)] [(144,0,.im (nI d_.M.Inputs)),(144,1,.im (nI d_.M.Start)),(144,2,.im (nL (cL cI) d_.M.Next)),(144,3,.im (nL (cL cI) d_.M.Out)),(144,4,.im (nI e87)),(144,5,.im (nB d_.Ready)),(144,6,.im (nL cI d_.Latency.Step)),(144,7,.im (nI d_.Latency.Reset)),(144,8,.im (nI d_.Faults.Lost)),(144,9,.im (nI d_.Faults.Wrong)),(144,10,.im (nI d_.Faults.Crash)),(144,11,.im (nU c85.2.1)),(144,12,.im (nI (d_.Steps+1))),(144,13,.im (nI d_.Resets)),(144,14,.im (nI (d_.Time+e89))),(145,0,.im (nI 0)),(145,1,.im (nI 0)),(145,2,.im (.val (.slice none 0 0))),(145,3,.im (.val (.slice none 0 0))),(145,4,.im (nI 0)),(145,5,.im (nB false)),(145,6,.im (.val (.slice none 0 0))),(145,7,.im (nI 0)),(145,8,.im (nI 0)),(145,9,.im (nI 0)),(145,10,.im (nI 0)),(145,11,.im (nU 0)),(145,12,.im (nI 0)),(145,13,.im (nI 0)),(145,14,.im (nI 0)),(146,0,.im (nI d_.Faults.Lost)),(146,1,.im (nI d_.Faults.Wrong)),(146,2,.im (nI d_.Faults.Crash))]) (lZ d_.M.Next∧lZ d_.M.Out∧lZ d_.Latency.Step∧True) ((Holds.cel 144 2 rfl (by decide) rfl).and ((Holds.cel 144 3 rfl (by decide) rfl).and ((Holds.cel 144 6 rfl (by decide) rfl).and (hT)))) ?_ (fun hp=>?_)
 conv=>whnf
 refine Side.mk rfl ?_
 conv=>whnf
 refine Side.mk rfl ?_
 conv=>whnf
 refine Side.mk rfl ?_
 conv=>whnf
 refine Side.mk rfl ?_
 conv=>whnf
 obtain ⟨c97,h⟩:=chk_some h
 refine Arith.mk c97 ?_
 conv=>whnf
 refine Both.mk ?_ ?_<;>intro b98
 replace b98:=beq_tt b98
 obtain ⟨h,b98d⟩:=ctd b98 h
 conv=>whnf
 refine Both.yes (tt_beq b98) ?_
 conv=>whnf
 refine Both.yes b98 ?_
 conv=>whnf
 cases h
 exact Join.mk (eA [(144,some 144),(145,some 145),(146,some 11)])
 replace b98:=beq_tf b98
 obtain ⟨h,b98d⟩:=cfd b98 h
 conv=>whnf
 refine Both.no (ft_beq b98) ?_
 conv=>whnf
 refine Both.no b98 ?_
 conv=>whnf
 cases h
 exact Join.mk (eA [(144,some 144),(145,some 145),(146,some 11)])
 replace h:=hk93
 obtain ⟨z99,z100,z101,_⟩:=hp
 conv=>whnf
 refine Both.mk ?_ ?_<;>intro b102
 replace h:=cond_t b102 h
 conv=>whnf
 obtain ⟨c103,h⟩:=chk_some h
 refine Arith.mk c103 ?_
 conv=>whnf
 refine Side.mk rfl ?_
 conv=>whnf
 refine Side.mk rfl ?_
 conv=>whnf
 cases h
 conv=>whnf
 refine Side.mk ⟨rfl,trivial⟩ ?_
 conv=>whnf
 exact ⟨rfl,rfl⟩
 replace h:=cond_f b102 h
 conv=>whnf
 refine Side.mk rfl ?_
 conv=>whnf
 refine Side.mk rfl ?_
 conv=>whnf
 refine Side.mk rfl ?_
 conv=>whnf
 refine Side.mk rfl ?_
 conv=>whnf
 obtain ⟨c104,h⟩:=chk_some h
 refine Arith.mk c104 ?_
 conv=>whnf
 refine Both.mk ?_ ?_<;>intro b105
 obtain ⟨h,b105d⟩:=ctd b105 h
 conv=>whnf
 obtain ⟨c106,h⟩:=chk_some h
 refine Arith.mk c106 ?_
 conv=>whnf
 refine Side.mk rfl ?_
 conv=>whnf
 refine Side.mk rfl ?_
 conv=>whnf
 cases h
 conv=>whnf
 refine Side.mk ⟨rfl,trivial⟩ ?_
 conv=>whnf
 exact ⟨rfl,rfl⟩
 obtain ⟨h,b105d⟩:=cfd b105 h
 conv=>whnf
 refine Side.mk rfl ?_
 conv=>whnf
 refine Side.mk rfl ?_
 conv=>whnf
 refine Side.mk rfl ?_
 conv=>whnf
 refine Side.mk rfl ?_
 conv=>whnf
 obtain ⟨c107,h⟩:=chk_some h
 refine Arith.mk c107 ?_
 conv=>whnf
 refine Side.mk rfl ?_
 conv=>whnf
 refine Side.mk rfl ?_
 conv=>whnf
 obtain ⟨c108,h⟩:=chk_some h
 refine Arith.mk c108 ?_
 conv=>whnf
 refine Both.mk ?_ ?_<;>intro b109
 obtain ⟨h,b109d⟩:=ctd b109 h
 conv=>whnf
 refine Side.mk rfl ?_
 conv=>whnf
 refine Side.mk rfl ?_
 conv=>whnf
 refine Side.mk rfl ?_
 conv=>whnf
 refine Side.mk rfl ?_
 conv=>whnf
 cases h
 conv=>whnf
 refine Side.mk ⟨rfl,trivial⟩ ?_
 conv=>whnf
 exact ⟨rfl,rfl⟩
 obtain ⟨h,b109d⟩:=cfd b109 h
 conv=>whnf
 refine Side.mk rfl ?_
 conv=>whnf
 refine Side.mk rfl ?_
 conv=>whnf
 cases h
 conv=>whnf
 refine Side.mk ⟨rfl,trivial⟩ ?_
 conv=>whnf
 exact ⟨rfl,rfl⟩
theorem sp_R19_Query (d_:T_api_Device) (w_:List Int) (r:T_api_Device×List Int×Int) (h:Ok (.agg (c_api_Device d_))→Ok (nL cI w_)→R19_Query d_ w_=some r):Sp Tryz.prog 29 [.im (.agg (c_api_Device d_)),.im (nL cI w_)] (.tup [.agg (c_api_Device r.1),nL cI r.2.1,nI r.2.2]):=by
 refine sp_of rfl [] rfl rfl rfl (Nat.le_of_ble_eq_true rfl) rfl fun hk=>?_
 replace h:=h hk.1 hk.2.1
 have z1:lZ d_.M.Next:=ok_len (Ok.agg_at hk.1 2 rfl)
 have z2:lZ d_.M.Out:=ok_len (Ok.agg_at hk.1 3 rfl)
 have z3:lZ d_.Latency.Step:=ok_len (Ok.agg_at hk.1 6 rfl)
 have z4:lZ w_:=ok_len hk.2.1
 unfold R19_Query at h
 conv=>whnf
 refine Side.mk rfl ?_
 conv=>whnf
 obtain ⟨c51,hc51,h⟩:=bind_some h
 refine ⟨_,(sp_R19_Valid d_ c51 (fun _=>hc51)),?_⟩
 conv=>whnf
 refine Both.mk ?_ ?_<;>intro b52
 obtain ⟨h,b52d⟩:=ctd b52 h
 conv=>whnf
 refine Side.mk rfl ?_
 conv=>whnf
 refine Side.mk rfl ?_
 conv=>whnf
 obtain ⟨c53,hc53,h⟩:=bind_some h
 refine ⟨_,(sp_R19_Valid d_ c53 (fun _=>hc53)),?_⟩
 conv=>whnf
 refine Side.mk rfl ?_
 conv=>whnf
 cases h
 conv=>whnf
 refine Side.mk ⟨rfl,trivial⟩ ?_
 conv=>whnf
 exact ⟨rfl,rfl⟩
 obtain ⟨h,b52d⟩:=cfd b52 h
 conv=>whnf
 refine Side.mk rfl ?_
 conv=>whnf
 refine Side.mk rfl ?_
 conv=>whnf
 refine Side.mk rfl ?_
 conv=>whnf
 obtain ⟨c54,hc54,h⟩:=bind_some h
 refine ⟨_,(sp_R01_Check w_ d_.M.Inputs c54 (fun _ _=>hc54)),?_⟩
 conv=>whnf
 refine Both.mk ?_ ?_<;>intro b55
 obtain ⟨h,b55d⟩:=ctd b55 h
 conv=>whnf
 refine Side.mk rfl ?_
 conv=>whnf
 refine Side.mk rfl ?_
 conv=>whnf
 cases h
 conv=>whnf
 refine Side.mk ⟨rfl,trivial⟩ ?_
 conv=>whnf
 exact ⟨rfl,rfl⟩
 obtain ⟨h,b55d⟩:=cfd b55 h
 conv=>whnf
 refine Side.mk rfl ?_
 conv=>whnf
 obtain ⟨c56,hc56,h⟩:=bind_some h
 refine ⟨_,(sp_R19_Reset d_ c56 (fun _=>hc56)),?_⟩
 conv=>whnf
 refine Side.mk rfl ?_
 conv=>whnf
 refine Both.mk ?_ ?_<;>intro b57
 obtain ⟨h,b57d⟩:=ctd b57 h
 conv=>whnf
 refine Side.mk rfl ?_
 conv=>whnf
 refine Side.mk rfl ?_
 conv=>whnf
 cases h
 conv=>whnf
 refine Side.mk ⟨rfl,trivial⟩ ?_
 conv=>whnf
 exact ⟨rfl,rfl⟩
 obtain ⟨h,b57d⟩:=cfd b57 h
 conv=>whnf
 obtain ⟨oc,hc,hk58⟩:=bind_some h
 clear h
 have h:=hc
 clear hc
 refine Cut.mkS oc (Y:=Int×Int×List (List Int)×List (List Int)×Int×Bool×List Int×Int×Int×Int×Int×Int×Int×Int×Int×List Int) (fun (y134,y135,y136,y137,y138,y139,y140,y141,y142,y143,y144,y145,y146,y147,y148,y149)=>mkSt [(2,.own 76 1 0),(4,.own 77 1 0),(8,.osl 78 1)] [(76,.box 32 15),(77,.box 32 15),(78,.row 3 1 (List.map cI y149))] [(76,0,.im (nI y134)),(76,1,.im (nI y135)),(76,2,.im (nL (cL cI) y136)),(76,3,.im (nL (cL cI) y137)),(76,4,.im (nI y138)),(76,5,.im (nB y139)),(76,6,.im (nL cI y140)),(76,7,.im (nI y141)),(76,8,.im (nI y142)),(76,9,.im (nI y143)),(76,10,.im (nI y144)),(76,11,.im (nU y145)),(76,12,.im (nI y146)),(76,13,.im (nI y147)),(76,14,.im (nI y148)),(77,0,.im (nI 0)),(77,1,.im (nI 0)),(77,2,.im (.val (.slice none 0 0))),(77,3,.im (.val (.slice none 0 0))),(77,4,.im (nI 0)),(77,5,.im (nB false)),(77,6,.im (.val (.slice none 0 0))),(77,7,.im (nI 0)),(77,8,.im (nI 0)),(77,9,.im (nI 0)),(77,10,.im (nI 0)),(77,11,.im (nU 0)),(77,12,.im (nI 0)),(77,13,.im (nI 0)),(77,14,.im (nI 0))]) (fun (y134,y135,y136,y137,y138,y139,y140,y141,y142,y143,y144,y145,y146,y147,y148,y149)=>lZ y136∧lZ y137∧lZ y140∧lZ y149∧True) (by rintro ⟨y134,y135,y136,y137,y138,y139,y140,y141,y142,y143,y144,y145,y146,y147,y148,y149⟩;exact ((Holds.cel 76 2 rfl (by decide) rfl).and ((Holds.cel 76 3 rfl (by decide) rfl).and ((Holds.cel 76 6 rfl (by decide) rfl).and ((Holds.kdl 78 rfl).and (hT)))))) ?_ ?_
 conv=>whnf
 refine Loops.iter (fun (s:Int×Int×List (List Int)×List (List Int)×Int×Bool×List Int×Int×Int×Int×Int×Int×Int×Int×Int×List Int×Nat)=>R19_Query.s2 w_ s.1 s.2.1 s.2.2.1 s.2.2.2.1 s.2.2.2.2.1 s.2.2.2.2.2.1 s.2.2.2.2.2.2.1 s.2.2.2.2.2.2.2.1 s.2.2.2.2.2.2.2.2.1 s.2.2.2.2.2.2.2.2.2.1 s.2.2.2.2.2.2.2.2.2.2.1 s.2.2.2.2.2.2.2.2.2.2.2.1 s.2.2.2.2.2.2.2.2.2.2.2.2.1 s.2.2.2.2.2.2.2.2.2.2.2.2.2.1 s.2.2.2.2.2.2.2.2.2.2.2.2.2.2.1 s.2.2.2.2.2.2.2.2.2.2.2.2.2.2.2.1 s.2.2.2.2.2.2.2.2.2.2.2.2.2.2.2.2) (fun (y166,y167,y168,y169,y170,y171,y172,y173,y174,y175,y176,y177,y178,y179,y180,y181,i182)=>mkSt [(1,.im (nL cI w_)),(2,.own 76 1 0),(4,.own 77 1 0),(8,.osl 78 1),(9,.im (nI (↑i182:Int)))] [(76,.box 32 15),(77,.box 32 15),(78,.row 3 1 (List.map cI y181))] [(76,0,.im (nI y166)),(76,1,.im (nI y167)),(76,2,.im (nL (cL cI) y168)),(76,3,.im (nL (cL cI) y169)),(76,4,.im (nI y170)),(76,5,.im (nB y171)),(76,6,.im (nL cI y172)),(76,7,.im (nI y173)),(76,8,.im (nI y174)),(76,9,.im (nI y175)),(76,10,.im (nI y176)),(76,11,.im (nU y177)),(76,12,.im (nI y178)),(76,13,.im (nI y179)),(76,14,.im (nI y180)),(77,0,.im (nI 0)),(77,1,.im (nI 0)),(77,2,.im (.val (.slice none 0 0))),(77,3,.im (.val (.slice none 0 0))),(77,4,.im (nI 0)),(77,5,.im (nB false)),(77,6,.im (.val (.slice none 0 0))),(77,7,.im (nI 0)),(77,8,.im (nI 0)),(77,9,.im (nI 0)),(77,10,.im (nI 0)),(77,11,.im (nU 0)),(77,12,.im (nI 0)),(77,13,.im (nI 0)),(77,14,.im (nI 0))]) (fun (y166,y167,y168,y169,y170,y171,y172,y173,y174,y175,y176,y177,y178,y179,y180,y181,i182)=>lZ w_∧lZ y168∧lZ y169∧lZ y172∧lZ y181∧True) h (eA [(76,some 2),(77,some 4),(78,none)]) (by rintro ⟨y166,y167,y168,y169,y170,y171,y172,y173,y174,y175,y176,y177,y178,y179,y180,y181,i182⟩;exact ((Holds.avl 1 rfl).and ((Holds.cel 76 2 rfl (by decide) rfl).and ((Holds.cel 76 3 rfl (by decide) rfl).and ((Holds.cel 76 6 rfl (by decide) rfl).and ((Holds.kdl 78 rfl).and (hT))))))) ?_
 clear h
 rintro k ⟨y166,y167,y168,y169,y170,y171,y172,y173,y174,y175,y176,y177,y178,y179,y180,y181,i182⟩ o hp h ho201
 replace h:R19_Query.s2 w_ y166 y167 y168 y169 y170 y171 y172 y173 y174 y175 y176 y177 y178 y179 y180 y181 i182=some o:=h
 unfold R19_Query.s2 at h
 obtain ⟨z220,z221,z222,z223,z224,_⟩:=hp
 conv=>whnf
 refine Nf.mk (List.length w_) len_map ?_
 conv=>whnf
 refine Both.mk ?_ ?_<;>intro b202
 obtain ⟨h,b202d⟩:=ctd b202 h
 conv=>whnf
 refine Side.mk rfl ?_
 conv=>whnf
 obtain ⟨e203,he203,h⟩:=idxn_some h
 refine ⟨_,⟨(by omega),map_at he203,rfl⟩,?_⟩
 conv=>whnf
 obtain ⟨c204,hc204,h⟩:=bind_some h
 refine ⟨_,(sp_R19_Step (⟨(⟨y166,y167,y168,y169⟩:T_api_Mealy),y170,y171,(⟨y172,y173⟩:T_api_Latency),(⟨y174,y175,y176⟩:T_api_Faults),y177,y178,y179,y180⟩:T_api_Device) e203 c204 (fun _ _=>hc204)),?_⟩
 conv=>whnf
 refine Side.mk rfl ?_
 conv=>whnf
 refine Both.mk ?_ ?_<;>intro b205
 obtain ⟨h,b205d⟩:=ctd b205 h
 conv=>whnf
 refine Side.mk rfl ?_
 conv=>whnf
 refine Side.mk rfl ?_
 conv=>whnf
 cases h
 have ho201:_=_:=ho201
 cases ho201
 replace h:some _=some _:=hk58
 cases h
 conv=>whnf
 refine Side.mk ⟨rfl,trivial⟩ ?_
 conv=>whnf
 exact ⟨rfl,rfl⟩
 obtain ⟨h,b205d⟩:=cfd b205 h
 conv=>whnf
 obtain ⟨y210,hc,hk207⟩:=bind_some h
 clear h
 have h:=hc
 clear hc
 refine Cut.mk (mkSt [(1,.im (nL cI w_)),(2,.own 76 1 0),(4,.own 77 1 0),(8,.osl 78 1),(9,.im (nI (↑i182:Int))),(10,.im (nI c204.2.1)),(68,.im (nB y210))] [(76,.box 32 15),(77,.box 32 15),(78,.row 3 1 (List.map cI y181))] [(76,0,.im (nI c204.1.M.Inputs)),(76,1,.im (nI c204.1.M.Start)),(76,2,.im (nL (cL cI) c204.1.M.Next)),(76,3,.im (nL (cL cI) c204.1.M.Out)),(76,4,.im (nI c204.1.State)),(76,5,.im (nB c204.1.Ready)),(76,6,.im (nL cI c204.1.Latency.Step)),(76,7,.im (nI c204.1.Latency.Reset)),(76,8,.im (nI c204.1.Faults.Lost)),(76,9,.im (nI c204.1.Faults.Wrong)),(76,10,.im (nI c204.1.Faults.Crash)),(76,11,.im (nU c204.1.Seed)),(76,12,.im (nI c204.1.Steps)),(76,13,.im (nI c204.1.Resets)),(76,14,.im (nI c204.1.Time)),(77,0,.im (nI 0)),(77,1,.im (nI 0)),(77,2,.im (.val (.slice none 0 0))),(77,3,.im (.val (.slice none 0 0))),(77,4,.im (nI 0)),(77,5,.im (nB false)),(77,6,.im (.val (.slice none 0 0))),(77,7,.im (nI 0)),(77,8,.im (nI 0)),(77,9,.im (nI 0)),(77,10,.im (nI 0)),(77,11,.im (nU 0)),(77,12,.im (nI 0)),(77,13,.im (nI 0)),(77,14,.im (nI 0))]) (lZ w_∧lZ c204.1.M.Next∧lZ c204.1.M.Out∧lZ c204.1.Latency.Step∧lZ y181∧True) ((Holds.avl 1 rfl).and ((Holds.cel 76 2 rfl (by decide) rfl).and ((Holds.cel 76 3 rfl (by decide) rfl).and ((Holds.cel 76 6 rfl (by decide) rfl).and ((Holds.kdl 78 rfl).and (hT)))))) ?_ (fun hp=>?_)
 conv=>whnf
 refine Both.mk ?_ ?_<;>intro b211
 replace b211:=beq_ff b211
 obtain ⟨h,b211d⟩:=cfd b211 h
 conv=>whnf
 refine Side.mk rfl ?_
 conv=>whnf
 refine Both.yes (ff_beq b211) ?_
 conv=>whnf
 refine Side.mk rfl ?_
 conv=>whnf
 iterate 2 (refine Both.yes (ff_beq b211) ?_;(conv=>whnf))
 refine Both.mk ?_ ?_<;>intro b212
 replace b212:=beq_tt b212
 replace h:=cond_t b212 h
 conv=>whnf
 iterate 2 (refine Both.yes (tt_beq b212) ?_;(conv=>whnf))
 refine Nf.mk (List.length w_) len_map ?_
 conv=>whnf
 refine Both.yes (tt_beq b212) ?_
 conv=>whnf
 refine Arith.mk (by show inR _;unfold inR;omega) ?_
 conv=>whnf
 refine Both.yes (tt_beq b212) ?_
 conv=>whnf
 refine Both.yes (ff_beq b211) ?_
 conv=>whnf
 refine Both.yes b212 ?_
 conv=>whnf
 refine Both.no b211 ?_
 conv=>whnf
 cases h
 exact Join.mk (eA [(76,some 76),(77,some 77),(78,some 78)])
 replace b212:=beq_tf b212
 replace h:=cond_f b212 h
 conv=>whnf
 iterate 4 (refine Both.no (ft_beq b212) ?_;(conv=>whnf))
 refine Both.yes (ff_beq b211) ?_
 conv=>whnf
 refine Both.no b212 ?_
 conv=>whnf
 refine Both.no b211 ?_
 conv=>whnf
 cases h
 exact Join.mk (eA [(76,some 76),(77,some 77),(78,some 78)])
 replace b211:=beq_ft b211
 obtain ⟨h,b211d⟩:=ctd b211 h
 conv=>whnf
 iterate 4 (refine Both.no (tf_beq b211) ?_;(conv=>whnf))
 refine Both.yes b211 ?_
 conv=>whnf
 cases h
 exact Join.mk (eA [(76,some 76),(77,some 77),(78,some 78)])
 replace h:=hk207
 obtain ⟨z213,z214,z215,z216,z217,_⟩:=hp
 conv=>whnf
 refine Both.mk ?_ ?_<;>intro b218
 replace h:=cond_t b218 h
 conv=>whnf
 refine Side.mk rfl ?_
 conv=>whnf
 refine Side.mk rfl ?_
 conv=>whnf
 cases h
 have ho201:_=_:=ho201
 cases ho201
 replace h:some _=some _:=hk58
 cases h
 conv=>whnf
 refine Side.mk ⟨rfl,trivial⟩ ?_
 conv=>whnf
 exact ⟨rfl,rfl⟩
 replace h:=cond_f b218 h
 conv=>whnf
 obtain ⟨c219,h⟩:=chk_some h
 refine Side.mk ⟨rfl,map_len (l:=[c204.2.1]) (c:=cI) fun _=>rfl,show capOk _ 8 by simpa only [List.length_map,List.length_cons,List.length_nil,Nat.zero_add] using c219⟩ ?_
 conv=>whnf
 refine Nf.mk (List.map cI (y181++[c204.2.1])) (app_map (l:=y181) (m:=[c204.2.1]) (c:=cI)) ?_
 conv=>whnf
 refine Arith.mk (by show inR _;unfold inR;omega) ?_
 conv=>whnf
 cases h
 exact Nxt.mk _ ho201 (eA [(76,some 76),(77,some 77),(78,some 78)])
 obtain ⟨h,b202d⟩:=cfd b202 h
 conv=>whnf
 cases h
 have ho201:_=_:=ho201
 cases ho201
 exact JoinS.mk' _ rfl (eA [(76,some 76),(77,some 77),(78,some 78)])
 rintro ⟨y134,y135,y136,y137,y138,y139,y140,y141,y142,y143,y144,y145,y146,y147,y148,y149⟩ rfl hp
 have hx_:=sum_inl hk58
 replace h:R19_Query.k3 y134 y135 y136 y137 y138 y139 y140 y141 y142 y143 y144 y145 y146 y147 y148 y149=some _:=hx_
 clear hx_
 unfold R19_Query.k3 at h
 obtain ⟨z225,z226,z227,z228,_⟩:=hp
 conv=>whnf
 refine Side.mk rfl ?_
 conv=>whnf
 refine Side.mk rfl ?_
 conv=>whnf
 cases h
 conv=>whnf
 refine Side.mk ⟨rfl,trivial⟩ ?_
 conv=>whnf
 exact Side.mk ⟨rfl,trivial⟩ ⟨rfl,rfl⟩
theorem sp_R06_Ints (a_:List Int) (b_:List Int) (r:Bool) (h:Ok (nL cI a_)→Ok (nL cI b_)→R06_Ints a_ b_=some r):Sp Tryz.prog 11 [.im (nL cI a_),.im (nL cI b_)] (.im (nB r)):=by
 refine sp_of rfl [] rfl rfl rfl (Nat.le_of_ble_eq_true rfl) rfl fun hk=>?_
 replace h:=h hk.1 hk.2.1
 have z1:lZ a_:=ok_len hk.1
 have z2:lZ b_:=ok_len hk.2.1
 unfold R06_Ints at h
 conv=>whnf
 refine Nf.mk (List.length a_) len_map ?_
 conv=>whnf
 refine Nf.mk (List.length b_) len_map ?_
 conv=>whnf
 refine Both.mk ?_ ?_<;>intro b51
 obtain ⟨h,b51d⟩:=ctd b51 h
 conv=>whnf
 cases h
 conv=>whnf
 exact ⟨rfl,rfl⟩
 obtain ⟨h,b51d⟩:=cfd b51 h
 conv=>whnf
 obtain ⟨oc,hc,hk52⟩:=bind_some h
 clear h
 have h:=hc
 clear hc
 refine Cut.mkS oc (Y:=Unit) (fun (_:Unit)=>mkSt [] [] []) (fun (_:Unit)=>True) (by rintro ⟨⟩;exact (hT)) ?_ ?_
 conv=>whnf
 refine Loops.iter (fun (s:Nat)=>R06_Ints.s2 a_ b_ s) (fun i73=>mkSt [(0,.im (nL cI a_)),(1,.im (nL cI b_)),(5,.im (nI (↑i73:Int)))] [] []) (fun i73=>lZ a_∧lZ b_∧True) h (eA []) (by rintro i73;exact ((Holds.avl 0 rfl).and ((Holds.avl 1 rfl).and (hT)))) ?_
 clear h
 rintro k i73 o hp h ho78
 replace h:R06_Ints.s2 a_ b_ i73=some o:=h
 unfold R06_Ints.s2 at h
 obtain ⟨z83,z84,_⟩:=hp
 conv=>whnf
 refine Nf.mk (List.length a_) len_map ?_
 conv=>whnf
 refine Both.mk ?_ ?_<;>intro b79
 obtain ⟨h,b79d⟩:=ctd b79 h
 conv=>whnf
 obtain ⟨e80,he80,h⟩:=idxn_some h
 refine ⟨_,⟨(by omega),map_at he80,rfl⟩,?_⟩
 conv=>whnf
 obtain ⟨e81,he81,h⟩:=idxn_some h
 refine ⟨_,⟨(by omega),map_at he81,rfl⟩,?_⟩
 conv=>whnf
 refine Both.mk ?_ ?_<;>intro b82
 obtain ⟨h,b82d⟩:=ctd b82 h
 conv=>whnf
 cases h
 have ho78:_=_:=ho78
 cases ho78
 replace h:some _=some _:=hk52
 cases h
 conv=>whnf
 exact ⟨rfl,rfl⟩
 obtain ⟨h,b82d⟩:=cfd b82 h
 conv=>whnf
 refine Arith.mk (by show inR _;unfold inR;omega) ?_
 conv=>whnf
 cases h
 exact Nxt.mk _ ho78 (eA [])
 obtain ⟨h,b79d⟩:=cfd b79 h
 conv=>whnf
 cases h
 have ho78:_=_:=ho78
 cases ho78
 exact JoinS.mk' _ rfl (eA [])
 rintro ⟨⟩ rfl hp
 replace h:=sum_inl hk52
 conv=>whnf
 cases h
 conv=>whnf
 exact ⟨rfl,rfl⟩
theorem sp_R21_times (l_:List (List Int)) (w_:List Int) (r:Int) (h:Ok (nL (cL cI) l_)→Ok (nL cI w_)→R21_times l_ w_=some r):Sp Tryz.prog 30 [.im (nL (cL cI) l_),.im (nL cI w_)] (.im (nI r)):=by
 refine sp_of rfl [] rfl rfl rfl (Nat.le_of_ble_eq_true rfl) rfl fun hk=>?_
 replace h:=h hk.1 hk.2.1
 have z1:lZ l_:=ok_len hk.1
 have z2:lZ w_:=ok_len hk.2.1
 unfold R21_times at h
 conv=>whnf
 obtain ⟨n71,hc,hk51⟩:=bind_some h
 clear h
 have h:=hc
 clear hc
 refine Cut.mk (mkSt [(5,.im (nI (↑n71:Int)))] [] []) (True) (hT) ?_ (fun hp=>?_)
 conv=>whnf
 refine Loops.iter (fun (s:Nat×Nat)=>R21_times.s2 l_ w_ s.1 s.2) (fun (n76,i77)=>mkSt [(0,.im (nL (cL cI) l_)),(1,.im (nL cI w_)),(5,.im (nI (↑n76:Int))),(6,.im (nI (↑i77:Int)))] [] []) (fun (n76,i77)=>lZ l_∧lZ w_∧True) h (eA []) (by rintro ⟨n76,i77⟩;exact ((Holds.avl 0 rfl).and ((Holds.avl 1 rfl).and (hT)))) ?_
 clear h
 rintro k ⟨n76,i77⟩ o hp h ho83
 replace h:R21_times.s2 l_ w_ n76 i77=some o:=h
 unfold R21_times.s2 at h
 obtain ⟨z89,z90,_⟩:=hp
 conv=>whnf
 refine Nf.mk (List.length l_) len_map ?_
 conv=>whnf
 refine Both.mk ?_ ?_<;>intro b84
 obtain ⟨h,b84d⟩:=ctd b84 h
 conv=>whnf
 obtain ⟨e85,he85,h⟩:=idxn_some h
 refine ⟨_,⟨(by omega),map_at he85,rfl⟩,?_⟩
 conv=>whnf
 obtain ⟨c86,hc86,h⟩:=bind_some h
 refine ⟨_,(sp_R06_Ints e85 w_ c86 (fun _ _=>hc86)),?_⟩
 conv=>whnf
 refine Both.mk ?_ ?_<;>intro b87
 replace h:=cond_t b87 h
 conv=>whnf
 obtain ⟨c88,h⟩:=chk_some h
 refine Arith.mk c88 ?_
 conv=>whnf
 refine Arith.mk (by show inR _;unfold inR;omega) ?_
 conv=>whnf
 cases h
 exact Nxt.mk _ ho83 (eA [])
 replace h:=cond_f b87 h
 conv=>whnf
 refine Arith.mk (by show inR _;unfold inR;omega) ?_
 conv=>whnf
 cases h
 exact Nxt.mk _ ho83 (eA [])
 obtain ⟨h,b84d⟩:=cfd b84 h
 conv=>whnf
 cases h
 have ho83:_=_:=ho83
 cases ho83
 exact Join.mk (eA [])
 replace h:=hk51
 conv=>whnf
 cases h
 conv=>whnf
 exact ⟨rfl,rfl⟩
theorem sp_R16_Proper (t_:T_api_Trace) (inputs_:Int) (r:Int) (h:Ok (.agg (c_api_Trace t_))→Ok (nI inputs_)→R16_Proper t_ inputs_=some r):Sp Tryz.prog 40 [.im (.agg (c_api_Trace t_)),.im (nI inputs_)] (.im (nI r)):=by
 refine sp_of rfl [700002] rfl rfl rfl (Nat.le_of_ble_eq_true rfl) rfl fun hk=>?_
 replace h:=h hk.1 hk.2.1
 have z1:lZ t_.In:=ok_len (Ok.agg_at hk.1 0 rfl)
 have z2:lZ t_.Out:=ok_len (Ok.agg_at hk.1 1 rfl)
 unfold R16_Proper at h
 conv=>whnf
 obtain ⟨c51,hc51,h⟩:=bind_some h
 refine ⟨_,(sp_R01_Check t_.In inputs_ c51 (fun _ _=>hc51)),?_⟩
 conv=>whnf
 refine Both.mk ?_ ?_<;>intro b52
 obtain ⟨h,b52d⟩:=ctd b52 h
 conv=>whnf
 cases h
 conv=>whnf
 exact ⟨rfl,rfl⟩
 obtain ⟨h,b52d⟩:=cfd b52 h
 conv=>whnf
 refine Nf.mk (List.length t_.Out) len_map ?_
 conv=>whnf
 refine Nf.mk (List.length t_.In) len_map ?_
 conv=>whnf
 refine Both.mk ?_ ?_<;>intro b53
 obtain ⟨h,b53d⟩:=ctd b53 h
 conv=>whnf
 cases h
 conv=>whnf
 exact ⟨rfl,rfl⟩
 obtain ⟨h,b53d⟩:=cfd b53 h
 conv=>whnf
 obtain ⟨oc,hc,hk54⟩:=bind_some h
 clear h
 have h:=hc
 clear hc
 refine Cut.mkS oc (Y:=Unit) (fun (_:Unit)=>mkSt [] [] []) (fun (_:Unit)=>True) (by rintro ⟨⟩;exact (hT)) ?_ ?_
 conv=>whnf
 refine Loops.iter (fun (s:Nat)=>R16_Proper.s2 t_ s) (fun i101=>mkSt [(2,.im (.ref (c_api_Trace t_))),(6,.im (nI (↑i101:Int)))] [] []) (fun i101=>True) h (eA []) (by rintro i101;exact (hT)) ?_
 clear h
 rintro k i101 o hp h ho113
 replace h:R16_Proper.s2 t_ i101=some o:=h
 unfold R16_Proper.s2 at h
 conv=>whnf
 refine Nf.mk (List.length t_.Out) len_map ?_
 conv=>whnf
 refine Both.mk ?_ ?_<;>intro b114
 obtain ⟨h,b114d⟩:=ctd b114 h
 conv=>whnf
 obtain ⟨y120,hc,hk116⟩:=bind_some h
 clear h
 have h:=hc
 clear hc
 refine Cut.mk (mkSt [(2,.im (.ref (c_api_Trace t_))),(6,.im (nI (↑i101:Int))),(41,.im (nB y120))] [] []) (True) (hT) ?_ (fun hp=>?_)
 conv=>whnf
 obtain ⟨e121,he121,h⟩:=idxn_some h
 refine ⟨_,⟨(by omega),map_at he121,rfl⟩,?_⟩
 conv=>whnf
 refine Both.mk ?_ ?_<;>intro b122
 replace b122:=beq_ff b122
 obtain ⟨h,b122d⟩:=cfd b122 h
 conv=>whnf
 iterate 3 (refine Both.yes (ff_beq b122) ?_;(conv=>whnf))
 obtain ⟨e123,he123,h⟩:=idxn_some h
 refine ⟨_,⟨(by omega),map_at he123,rfl⟩,?_⟩
 conv=>whnf
 iterate 2 (refine Both.yes (ff_beq b122) ?_;(conv=>whnf))
 refine Both.no b122 ?_
 conv=>whnf
 cases h
 exact Join.mk (eA [])
 replace b122:=beq_ft b122
 obtain ⟨h,b122d⟩:=ctd b122 h
 conv=>whnf
 iterate 5 (refine Both.no (tf_beq b122) ?_;(conv=>whnf))
 refine Both.yes b122 ?_
 conv=>whnf
 cases h
 exact Join.mk (eA [])
 replace h:=hk116
 conv=>whnf
 refine Both.mk ?_ ?_<;>intro b124
 replace h:=cond_t b124 h
 conv=>whnf
 cases h
 have ho113:_=_:=ho113
 cases ho113
 replace h:some _=some _:=hk54
 cases h
 conv=>whnf
 exact ⟨rfl,rfl⟩
 replace h:=cond_f b124 h
 conv=>whnf
 refine Arith.mk (by show inR _;unfold inR;omega) ?_
 conv=>whnf
 cases h
 exact Nxt.mk _ ho113 (eA [])
 obtain ⟨h,b114d⟩:=cfd b114 h
 conv=>whnf
 cases h
 have ho113:_=_:=ho113
 cases ho113
 exact JoinS.mk' _ rfl (eA [])
 rintro ⟨⟩ rfl hp
 replace h:=sum_inl hk54
 conv=>whnf
 cases h
 conv=>whnf
 exact ⟨rfl,rfl⟩
theorem sp_R16_Differ (a_:T_api_Trace) (b_:T_api_Trace) (r:Int) (h:Ok (.agg (c_api_Trace a_))→Ok (.agg (c_api_Trace b_))→R16_Differ a_ b_=some r):Sp Tryz.prog 63 [.im (.agg (c_api_Trace a_)),.im (.agg (c_api_Trace b_))] (.im (nI r)):=by
 refine sp_of rfl [700002,700003] rfl rfl rfl (Nat.le_of_ble_eq_true rfl) rfl fun hk=>?_
 replace h:=h hk.1 hk.2.1
 have z1:lZ a_.In:=ok_len (Ok.agg_at hk.1 0 rfl)
 have z2:lZ a_.Out:=ok_len (Ok.agg_at hk.1 1 rfl)
 have z3:lZ b_.In:=ok_len (Ok.agg_at hk.2.1 0 rfl)
 have z4:lZ b_.Out:=ok_len (Ok.agg_at hk.2.1 1 rfl)
 unfold R16_Differ at h
 conv=>whnf
 obtain ⟨c51,hc51,h⟩:=bind_some h
 refine ⟨_,(sp_R01_Common a_.In b_.In c51 (fun _ _=>hc51)),?_⟩
 conv=>whnf
 obtain ⟨oc,hc,hk52⟩:=bind_some h
 clear h
 have h:=hc
 clear hc
 refine Cut.mkS oc (Y:=Unit) (fun (_:Unit)=>mkSt [] [] []) (fun (_:Unit)=>True) (by rintro ⟨⟩;exact (hT)) ?_ ?_
 conv=>whnf
 refine Loops.iter (fun (s:Nat)=>R16_Differ.s2 a_ b_ c51 s) (fun i73=>mkSt [(2,.im (.ref (c_api_Trace a_))),(3,.im (.ref (c_api_Trace b_))),(5,.im (nI c51)),(6,.im (nI (↑i73:Int)))] [] []) (fun i73=>True) h (eA []) (by rintro i73;exact (hT)) ?_
 clear h
 rintro k i73 o hp h ho79
 replace h:R16_Differ.s2 a_ b_ c51 i73=some o:=h
 unfold R16_Differ.s2 at h
 conv=>whnf
 refine Both.mk ?_ ?_<;>intro b80
 obtain ⟨h,b80d⟩:=ctd b80 h
 conv=>whnf
 obtain ⟨e81,he81,h⟩:=idxn_some h
 refine ⟨_,⟨(by omega),map_at he81,rfl⟩,?_⟩
 conv=>whnf
 obtain ⟨e82,he82,h⟩:=idxn_some h
 refine ⟨_,⟨(by omega),map_at he82,rfl⟩,?_⟩
 conv=>whnf
 refine Both.mk ?_ ?_<;>intro b83
 obtain ⟨h,b83d⟩:=ctd b83 h
 conv=>whnf
 cases h
 have ho79:_=_:=ho79
 cases ho79
 replace h:some _=some _:=hk52
 cases h
 conv=>whnf
 exact ⟨rfl,rfl⟩
 obtain ⟨h,b83d⟩:=cfd b83 h
 conv=>whnf
 obtain ⟨c84,h⟩:=chk_some h
 refine Arith.mk c84 ?_
 conv=>whnf
 cases h
 exact Nxt.mk _ ho79 (eA [])
 obtain ⟨h,b80d⟩:=cfd b80 h
 conv=>whnf
 cases h
 have ho79:_=_:=ho79
 cases ho79
 exact JoinS.mk' _ rfl (eA [])
 rintro ⟨⟩ rfl hp
 replace h:=sum_inl hk52
 conv=>whnf
 cases h
 conv=>whnf
 exact ⟨rfl,rfl⟩
theorem sp_R01_Lex (a_:List Int) (b_:List Int) (r:Int) (h:Ok (nL cI a_)→Ok (nL cI b_)→R01_Lex a_ b_=some r):Sp Tryz.prog 73 [.im (nL cI a_),.im (nL cI b_)] (.im (nI r)):=by
 refine sp_of rfl [] rfl rfl rfl (Nat.le_of_ble_eq_true rfl) rfl fun hk=>?_
 replace h:=h hk.1 hk.2.1
 have z1:lZ a_:=ok_len hk.1
 have z2:lZ b_:=ok_len hk.2.1
 unfold R01_Lex at h
 conv=>whnf
 obtain ⟨c51,hc51,h⟩:=bind_some h
 refine ⟨_,(sp_R01_Common a_ b_ c51 (fun _ _=>hc51)),?_⟩
 conv=>whnf
 obtain ⟨y55,hc,hk53⟩:=bind_some h
 clear h
 have h:=hc
 clear hc
 refine Cut.mk (mkSt [(0,.im (nL cI a_)),(1,.im (nL cI b_)),(5,.im (nI c51)),(9,.im (nB y55))] [] []) (lZ a_∧lZ b_∧True) ((Holds.avl 0 rfl).and ((Holds.avl 1 rfl).and (hT))) ?_ (fun hp=>?_)
 conv=>whnf
 refine Nf.mk (List.length a_) len_map ?_
 conv=>whnf
 refine Both.mk ?_ ?_<;>intro b56
 replace b56:=beq_tt b56
 obtain ⟨h,b56d⟩:=ctd b56 h
 conv=>whnf
 iterate 2 (refine Both.yes (tt_beq b56) ?_;(conv=>whnf))
 refine Nf.mk (List.length b_) len_map ?_
 conv=>whnf
 refine Both.yes (tt_beq b56) ?_
 conv=>whnf
 refine Both.yes b56 ?_
 conv=>whnf
 cases h
 exact Join.mk (eA [])
 replace b56:=beq_tf b56
 obtain ⟨h,b56d⟩:=cfd b56 h
 conv=>whnf
 iterate 3 (refine Both.no (ft_beq b56) ?_;(conv=>whnf))
 refine Both.no b56 ?_
 conv=>whnf
 cases h
 exact Join.mk (eA [])
 replace h:=hk53
 obtain ⟨z57,z58,_⟩:=hp
 conv=>whnf
 refine Both.mk ?_ ?_<;>intro b59
 replace h:=cond_t b59 h
 conv=>whnf
 cases h
 conv=>whnf
 exact ⟨rfl,rfl⟩
 replace h:=cond_f b59 h
 conv=>whnf
 obtain ⟨y66,hc,hk61⟩:=bind_some h
 clear h
 have h:=hc
 clear hc
 refine Cut.mk (mkSt [(20,.im (nB y66))] [] []) (True) (hT) ?_ (fun hp=>?_)
 conv=>whnf
 refine Nf.mk (List.length a_) len_map ?_
 conv=>whnf
 refine Both.mk ?_ ?_<;>intro b67
 obtain ⟨h,b67d⟩:=ctd b67 h
 conv=>whnf
 cases h
 exact Join.mk (eA [])
 obtain ⟨h,b67d⟩:=cfd b67 h
 conv=>whnf
 refine Nf.mk (List.length b_) len_map ?_
 conv=>whnf
 refine Both.mk ?_ ?_<;>intro b68
 replace b68:=beq_tt b68
 obtain ⟨h,b68d⟩:=ctd b68 h
 conv=>whnf
 iterate 2 (refine Both.yes (tt_beq b68) ?_;(conv=>whnf))
 obtain ⟨e69,he69z,he69,h⟩:=idx_some h
 refine ⟨_,⟨he69z,map_at he69,rfl⟩,?_⟩
 conv=>whnf
 iterate 4 (refine Both.yes (tt_beq b68) ?_;(conv=>whnf))
 obtain ⟨e70,he70z,he70,h⟩:=idx_some h
 refine ⟨_,⟨he70z,map_at he70,rfl⟩,?_⟩
 conv=>whnf
 iterate 2 (refine Both.yes (tt_beq b68) ?_;(conv=>whnf))
 refine Both.yes b68 ?_
 conv=>whnf
 cases h
 exact Join.mk (eA [])
 replace b68:=beq_tf b68
 obtain ⟨h,b68d⟩:=cfd b68 h
 conv=>whnf
 iterate 8 (refine Both.no (ft_beq b68) ?_;(conv=>whnf))
 refine Both.no b68 ?_
 conv=>whnf
 cases h
 exact Join.mk (eA [])
 replace h:=hk61
 conv=>whnf
 refine Both.mk ?_ ?_<;>intro b71
 replace h:=cond_t b71 h
 conv=>whnf
 cases h
 conv=>whnf
 exact ⟨rfl,rfl⟩
 replace h:=cond_f b71 h
 conv=>whnf
 cases h
 conv=>whnf
 exact ⟨rfl,rfl⟩
theorem sp_R01_Compare (a_:List Int) (b_:List Int) (r:Int) (h:Ok (nL cI a_)→Ok (nL cI b_)→R01_Compare a_ b_=some r):Sp Tryz.prog 41 [.im (nL cI a_),.im (nL cI b_)] (.im (nI r)):=by
 refine sp_of rfl [] rfl rfl rfl (Nat.le_of_ble_eq_true rfl) rfl fun hk=>?_
 replace h:=h hk.1 hk.2.1
 have z1:lZ a_:=ok_len hk.1
 have z2:lZ b_:=ok_len hk.2.1
 unfold R01_Compare at h
 conv=>whnf
 refine Nf.mk (List.length a_) len_map ?_
 conv=>whnf
 refine Nf.mk (List.length b_) len_map ?_
 conv=>whnf
 refine Both.mk ?_ ?_<;>intro b51
 obtain ⟨h,b51d⟩:=ctd b51 h
 conv=>whnf
 cases h
 conv=>whnf
 exact ⟨rfl,rfl⟩
 obtain ⟨h,b51d⟩:=cfd b51 h
 conv=>whnf
 refine Nf.mk (List.length a_) len_map ?_
 conv=>whnf
 refine Nf.mk (List.length b_) len_map ?_
 conv=>whnf
 refine Both.mk ?_ ?_<;>intro b52
 obtain ⟨h,b52d⟩:=ctd b52 h
 conv=>whnf
 cases h
 conv=>whnf
 exact ⟨rfl,rfl⟩
 obtain ⟨h,b52d⟩:=cfd b52 h
 conv=>whnf
 obtain ⟨c53,hc53,h⟩:=bind_some h
 refine ⟨_,(sp_R01_Lex a_ b_ c53 (fun _ _=>hc53)),?_⟩
 conv=>whnf
 cases h
 conv=>whnf
 exact ⟨rfl,rfl⟩
theorem sp_R16_copied (t_:T_api_Trace) (r:T_api_Trace) (h:Ok (.agg (c_api_Trace t_))→R16_copied t_=some r):Sp Tryz.prog 88 [.im (.agg (c_api_Trace t_))] (.im (.agg (c_api_Trace r))):=by
 refine sp_of rfl [700001] rfl rfl rfl (Nat.le_of_ble_eq_true rfl) rfl fun hk=>?_
 replace h:=h hk.1
 have z1:lZ t_.In:=ok_len (Ok.agg_at hk.1 0 rfl)
 have z2:lZ t_.Out:=ok_len (Ok.agg_at hk.1 1 rfl)
 unfold R16_copied at h
 conv=>whnf
 obtain ⟨c51,hc51,h⟩:=bind_some h
 refine ⟨_,(sp_R01_Join [t_.In] c51 (fun _=>hc51)).im,?_⟩
 conv=>whnf
 obtain ⟨c52,hc52,h⟩:=bind_some h
 refine ⟨_,(sp_R01_Join [t_.Out] c52 (fun _=>hc52)).im,?_⟩
 conv=>whnf
 refine Side.mk rfl ?_
 conv=>whnf
 cases h
 conv=>whnf
 refine Side.mk ⟨rfl,trivial⟩ ?_
 conv=>whnf
 exact ⟨rfl,rfl⟩
theorem sp_R16_add (o_:T_api_Obs) (t_:T_api_Trace) (r:T_api_Obs) (h:Ok (.agg (c_api_Obs o_))→Ok (.agg (c_api_Trace t_))→R16_add o_ t_=some r):Sp Tryz.prog 64 [.im (.agg (c_api_Obs o_)),.im (.agg (c_api_Trace t_))] (.im (.agg (c_api_Obs r))):=by
 refine sp_of rfl [700002,700003] rfl rfl rfl (Nat.le_of_ble_eq_true rfl) rfl fun hk=>?_
 replace h:=h hk.1 hk.2.1
 have z1:lZ o_.Traces:=ok_len (Ok.agg_at hk.1 1 rfl)
 have z2:lZ t_.In:=ok_len (Ok.agg_at hk.2.1 0 rfl)
 have z3:lZ t_.Out:=ok_len (Ok.agg_at hk.2.1 1 rfl)
 unfold R16_add at h
 conv=>whnf
 refine Side.mk rfl ?_
 conv=>whnf
 refine Nf.mk (List.length t_.In) len_map ?_
 conv=>whnf
 obtain ⟨done67,hc,hk51⟩:=bind_some h
 clear h
 have h:=hc
 clear hc
 refine Cut.mk (mkSt [(2,.im (.ref (c_api_Obs o_))),(3,.im (.ref (c_api_Trace t_))),(4,.own 97 1 0),(5,.own 98 1 0),(6,.im (nB done67))] [(97,.box 35 2),(98,.box 35 2)] [(97,0,.im (nI 0)),(97,1,.im (.val (.slice none 0 0))),(98,0,.im (nI o_.Inputs)),(98,1,.im (.val (.slice none 0 0)))]) (True) (hT) ?_ (fun hp=>?_)
 conv=>whnf
 refine Loops.iter (fun (s:Bool×Nat)=>R16_add.s2 o_ t_ s.1 s.2) (fun (done72,i73)=>mkSt [(2,.im (.ref (c_api_Obs o_))),(3,.im (.ref (c_api_Trace t_))),(4,.own 97 1 0),(5,.own 98 1 0),(6,.im (nB done72)),(7,.im (nI (↑i73:Int)))] [(97,.box 35 2),(98,.box 35 2)] [(97,0,.im (nI 0)),(97,1,.im (.val (.slice none 0 0))),(98,0,.im (nI o_.Inputs)),(98,1,.im (.val (.slice none 0 0)))]) (fun (done72,i73)=>True) h (eA [(97,some 4),(98,some 5)]) (by rintro ⟨done72,i73⟩;exact (hT)) ?_
 clear h
 rintro k ⟨done72,i73⟩ o hp h ho78
 replace h:R16_add.s2 o_ t_ done72 i73=some o:=h
 unfold R16_add.s2 at h
 conv=>whnf
 refine Nf.mk (List.length o_.Traces) len_map ?_
 conv=>whnf
 refine Both.mk ?_ ?_<;>intro b79
 obtain ⟨h,b79d⟩:=ctd b79 h
 conv=>whnf
 refine Both.mk ?_ ?_<;>intro b80
 replace b80:=beq_ff b80
 replace h:=cond_f b80 h
 conv=>whnf
 iterate 3 (refine Both.yes (ff_beq b80) ?_;(conv=>whnf))
 obtain ⟨e81,he81,h⟩:=idxn_some h
 refine ⟨_,⟨(by omega),map_at he81,rfl⟩,?_⟩
 conv=>whnf
 iterate 5 (refine Both.yes (ff_beq b80) ?_;(conv=>whnf))
 obtain ⟨c82,hc82,h⟩:=bind_some h
 refine ⟨_,(sp_R01_HasPrefix e81.In t_.In c82 (fun _ _=>hc82)),?_⟩
 conv=>whnf
 refine Both.no b80 ?_
 conv=>whnf
 refine Arith.mk (by show inR _;unfold inR;omega) ?_
 conv=>whnf
 cases h
 exact Nxt.mk _ ho78 (eA [(97,some 97),(98,some 98)])
 replace b80:=beq_ft b80
 replace h:=cond_t b80 h
 conv=>whnf
 iterate 8 (refine Both.no (tf_beq b80) ?_;(conv=>whnf))
 refine Both.yes b80 ?_
 conv=>whnf
 refine Arith.mk (by show inR _;unfold inR;omega) ?_
 conv=>whnf
 cases h
 exact Nxt.mk _ ho78 (eA [(97,some 97),(98,some 98)])
 obtain ⟨h,b79d⟩:=cfd b79 h
 conv=>whnf
 cases h
 have ho78:_=_:=ho78
 cases ho78
 exact Join.mk (eA [(97,some 97),(98,some 98)])
 replace h:=hk51
 conv=>whnf
 obtain ⟨⟨y229,done230⟩,hc,hk83⟩:=bind_some h
 clear h
 have h:=hc
 clear hc
 refine Cut.mk (mkSt [(3,.im (.ref (c_api_Trace t_))),(4,.own 97 1 0),(5,.own 98 1 0),(6,.im (nB done230))] [(97,.box 35 2),(98,.box 35 2),(99,.row 72 2 (List.map c_api_Trace y229))] [(97,0,.im (nI 0)),(97,1,.im (.val (.slice none 0 0))),(98,0,.im (nI o_.Inputs)),(98,1,.osl 99 1)]) (lZ y229∧True) ((Holds.kdl 99 rfl).and (hT)) ?_ (fun hp=>?_)
 conv=>whnf
 refine Loops.iter (fun (s:List T_api_Trace×Bool×Nat)=>R16_add.s10 o_ t_ s.1 s.2.1 s.2.2) (fun (y275,done276,i277)=>mkSt [(2,.im (.ref (c_api_Obs o_))),(3,.im (.ref (c_api_Trace t_))),(4,.own 97 1 0),(5,.own 98 1 0),(6,.im (nB done276)),(8,.im (nI (↑i277:Int)))] [(97,.box 35 2),(98,.box 35 2),(99,.row 72 2 (List.map c_api_Trace y275))] [(97,0,.im (nI 0)),(97,1,.im (.val (.slice none 0 0))),(98,0,.im (nI o_.Inputs)),(98,1,.osl 99 1)]) (fun (y275,done276,i277)=>lZ y275∧True) h (Ent.mk [(97,some 97),(98,some 98),(99,none)] rfl ⟨eI rfl rfl,eI rfl rfl,⟨.own 97 _ 0,rfl,.own rfl rfl rfl⟩,⟨.own 98 _ 0,rfl,.own rfl rfl rfl⟩,eI rfl rfl,eI rfl rfl,trivial⟩ ⟨.inl ⟨97,rfl,rfl,trivial⟩,.inl ⟨98,rfl,rfl,trivial⟩,.inr ⟨rfl,rfl,.inl ⟨_,_,rfl,by decide⟩⟩,trivial⟩ ⟨⟨97,.im _,rfl,rfl,.im (Sub.rfl' rfl)⟩,⟨97,.im (.val (.slice none 0 0)),rfl,rfl,.im (Sub.rfl' rfl)⟩,⟨98,.im _,rfl,rfl,.im (Sub.rfl' rfl)⟩,⟨98,.im (.val (.slice none 0 0)),rfl,rfl,.made rfl rfl⟩,trivial⟩) (by rintro ⟨y275,done276,i277⟩;exact ((Holds.kdl 99 rfl).and (hT))) ?_
 clear h
 rintro k ⟨y275,done276,i277⟩ o hp h ho326
 replace h:R16_add.s10 o_ t_ y275 done276 i277=some o:=h
 unfold R16_add.s10 at h
 obtain ⟨z375,_⟩:=hp
 conv=>whnf
 refine Nf.mk (List.length o_.Traces) len_map ?_
 conv=>whnf
 refine Both.mk ?_ ?_<;>intro b327
 obtain ⟨h,b327d⟩:=ctd b327 h
 conv=>whnf
 obtain ⟨e328,he328,h⟩:=idxn_some h
 refine ⟨_,⟨(by omega),map_at he328,rfl⟩,?_⟩
 conv=>whnf
 refine Side.mk rfl ?_
 conv=>whnf
 obtain ⟨⟨y344,done345⟩,hc,hk330⟩:=bind_some h
 clear h
 have h:=hc
 clear hc
 refine Cut.mk (mkSt [(2,.im (.ref (c_api_Obs o_))),(3,.im (.ref (c_api_Trace t_))),(4,.own 97 1 0),(5,.own 98 1 0),(6,.im (nB done345)),(8,.im (nI (↑i277:Int))),(9,.own 100 1 0)] [(97,.box 35 2),(98,.box 35 2),(99,.row 72 2 (List.map c_api_Trace y344)),(100,.box 72 2)] [(97,0,.im (nI 0)),(97,1,.im (.val (.slice none 0 0))),(98,0,.im (nI o_.Inputs)),(98,1,.osl 99 1),(100,0,.im (nL cI e328.In)),(100,1,.im (nL cI e328.Out))]) (lZ y344∧lZ e328.In∧lZ e328.Out∧True) ((Holds.kdl 99 rfl).and ((Holds.cel 100 0 rfl (by decide) rfl).and ((Holds.cel 100 1 rfl (by decide) rfl).and (hT)))) ?_ (fun hp=>?_)
 conv=>whnf
 obtain ⟨y350,hc,hk347⟩:=bind_some h
 clear h
 have h:=hc
 clear hc
 refine Cut.mk (mkSt [(2,.im (.ref (c_api_Obs o_))),(3,.im (.ref (c_api_Trace t_))),(4,.own 97 1 0),(5,.own 98 1 0),(6,.im (nB done276)),(8,.im (nI (↑i277:Int))),(9,.own 100 1 0),(57,.im (nB y350))] [(97,.box 35 2),(98,.box 35 2),(99,.row 72 2 (List.map c_api_Trace y275)),(100,.box 72 2)] [(97,0,.im (nI 0)),(97,1,.im (.val (.slice none 0 0))),(98,0,.im (nI o_.Inputs)),(98,1,.osl 99 1),(100,0,.im (nL cI e328.In)),(100,1,.im (nL cI e328.Out))]) (lZ y275∧lZ e328.In∧lZ e328.Out∧True) ((Holds.kdl 99 rfl).and ((Holds.cel 100 0 rfl (by decide) rfl).and ((Holds.cel 100 1 rfl (by decide) rfl).and (hT)))) ?_ (fun hp=>?_)
 conv=>whnf
 refine Both.mk ?_ ?_<;>intro b351
 replace b351:=beq_tt b351
 replace h:=cond_t b351 h
 conv=>whnf
 iterate 2 (refine Both.yes (tt_beq b351) ?_;(conv=>whnf))
 refine Side.mk rfl ?_
 conv=>whnf
 refine Both.yes (tt_beq b351) ?_
 conv=>whnf
 refine Side.mk rfl ?_
 conv=>whnf
 refine Both.yes (tt_beq b351) ?_
 conv=>whnf
 obtain ⟨c352,hc352,h⟩:=bind_some h
 refine ⟨_,(sp_R01_Compare t_.In e328.In c352 (fun _ _=>hc352)),?_⟩
 conv=>whnf
 refine Both.yes (tt_beq b351) ?_
 conv=>whnf
 refine Both.yes b351 ?_
 conv=>whnf
 cases h
 exact Join.mk (eA [(97,some 97),(98,some 98),(99,some 99),(100,some 9)])
 replace b351:=beq_tf b351
 replace h:=cond_f b351 h
 conv=>whnf
 iterate 5 (refine Both.no (ft_beq b351) ?_;(conv=>whnf))
 refine Both.no b351 ?_
 conv=>whnf
 cases h
 exact Join.mk (eA [(97,some 97),(98,some 98),(99,some 99),(100,some 9)])
 replace h:=hk347
 obtain ⟨z353,z354,z355,_⟩:=hp
 conv=>whnf
 refine Both.mk ?_ ?_<;>intro b356
 replace h:=cond_t b356 h
 conv=>whnf
 refine Side.mk rfl ?_
 conv=>whnf
 refine Side.mk rfl ?_
 conv=>whnf
 obtain ⟨c357,hc357,h⟩:=bind_some h
 refine ⟨_,(sp_R16_copied t_ c357 (fun _=>hc357)),?_⟩
 conv=>whnf
 obtain ⟨c358,h⟩:=chk_some h
 refine Side.mk ⟨rfl,map_len (l:=[c357]) (c:=c_api_Trace) fun _=>rfl,show capOk _ 48 by simpa only [List.length_map,List.length_cons,List.length_nil,Nat.zero_add] using c358⟩ ?_
 conv=>whnf
 refine Nf.mk (List.map c_api_Trace (y275++[c357])) (app_map (l:=y275) (m:=[c357]) (c:=c_api_Trace)) ?_
 conv=>whnf
 refine Side.mk rfl ?_
 conv=>whnf
 refine Side.mk rfl ?_
 conv=>whnf
 cases h
 exact Join.mk (eA [(97,some 97),(98,some 98),(99,some 99),(100,some 100)])
 replace h:=cond_f b356 h
 conv=>whnf
 cases h
 exact Join.mk (eA [(97,some 97),(98,some 98),(99,some 99),(100,some 100)])
 replace h:R16_add.k9 t_ i277 e328 y344 done345=some _:=hk330
 unfold R16_add.k9 at h
 obtain ⟨z359,z360,z361,_⟩:=hp
 conv=>whnf
 obtain ⟨y366,hc,hk363⟩:=bind_some h
 clear h
 have h:=hc
 clear hc
 refine Cut.mk (mkSt [(2,.im (.ref (c_api_Obs o_))),(3,.im (.ref (c_api_Trace t_))),(4,.own 97 1 0),(5,.own 98 1 0),(6,.im (nB done345)),(8,.im (nI (↑i277:Int))),(9,.own 100 1 0),(79,.im (nB y366))] [(97,.box 35 2),(98,.box 35 2),(99,.row 72 2 (List.map c_api_Trace y344)),(100,.box 72 2)] [(97,0,.im (nI 0)),(97,1,.im (.val (.slice none 0 0))),(98,0,.im (nI o_.Inputs)),(98,1,.osl 99 1),(100,0,.im (nL cI e328.In)),(100,1,.im (nL cI e328.Out))]) (lZ y344∧lZ e328.In∧lZ e328.Out∧True) ((Holds.kdl 99 rfl).and ((Holds.cel 100 0 rfl (by decide) rfl).and ((Holds.cel 100 1 rfl (by decide) rfl).and (hT)))) ?_ (fun hp=>?_)
 conv=>whnf
 refine Side.mk rfl ?_
 conv=>whnf
 refine Side.mk rfl ?_
 conv=>whnf
 obtain ⟨c367,hc367,h⟩:=bind_some h
 refine ⟨_,(sp_R01_HasPrefix t_.In e328.In c367 (fun _ _=>hc367)),?_⟩
 conv=>whnf
 refine Both.mk ?_ ?_<;>intro b368
 replace b368:=beq_ff b368
 replace h:=cond_f b368 h
 conv=>whnf
 iterate 2 (refine Both.yes (ff_beq b368) ?_;(conv=>whnf))
 refine Nf.mk (List.length t_.In) len_map ?_
 conv=>whnf
 refine Both.yes (ff_beq b368) ?_
 conv=>whnf
 refine Side.mk rfl ?_
 conv=>whnf
 refine Both.yes (ff_beq b368) ?_
 conv=>whnf
 refine Side.mk rfl ?_
 conv=>whnf
 refine Both.yes (ff_beq b368) ?_
 conv=>whnf
 refine Nf.mk (List.length e328.In) len_map ?_
 conv=>whnf
 refine Both.yes (ff_beq b368) ?_
 conv=>whnf
 refine Both.no b368 ?_
 conv=>whnf
 cases h
 exact Join.mk (eA [(97,some 97),(98,some 98),(99,some 99),(100,some 100)])
 replace b368:=beq_ft b368
 replace h:=cond_t b368 h
 conv=>whnf
 iterate 6 (refine Both.no (tf_beq b368) ?_;(conv=>whnf))
 refine Both.yes b368 ?_
 conv=>whnf
 cases h
 exact Join.mk (eA [(97,some 97),(98,some 98),(99,some 99),(100,some 100)])
 replace h:=hk363
 obtain ⟨z369,z370,z371,_⟩:=hp
 conv=>whnf
 refine Both.mk ?_ ?_<;>intro b372
 replace h:=cond_t b372 h
 conv=>whnf
 refine Side.mk rfl ?_
 conv=>whnf
 refine Side.mk rfl ?_
 conv=>whnf
 refine Side.mk rfl ?_
 conv=>whnf
 obtain ⟨c373,hc373,h⟩:=bind_some h
 refine ⟨_,(sp_R16_copied e328 c373 (fun _=>hc373)),?_⟩
 conv=>whnf
 obtain ⟨c374,h⟩:=chk_some h
 refine Side.mk ⟨rfl,map_len (l:=[c373]) (c:=c_api_Trace) fun _=>rfl,show capOk _ 48 by simpa only [List.length_map,List.length_cons,List.length_nil,Nat.zero_add] using c374⟩ ?_
 conv=>whnf
 refine Nf.mk (List.map c_api_Trace (y344++[c373])) (app_map (l:=y344) (m:=[c373]) (c:=c_api_Trace)) ?_
 conv=>whnf
 refine Side.mk rfl ?_
 conv=>whnf
 refine Side.mk rfl ?_
 conv=>whnf
 refine Arith.mk (by show inR _;unfold inR;omega) ?_
 conv=>whnf
 cases h
 exact Nxt.mk _ ho326 (eA [(97,some 97),(98,some 98),(99,some 99)])
 replace h:=cond_f b372 h
 conv=>whnf
 refine Arith.mk (by show inR _;unfold inR;omega) ?_
 conv=>whnf
 cases h
 exact Nxt.mk _ ho326 (eA [(97,some 97),(98,some 98),(99,some 99)])
 obtain ⟨h,b327d⟩:=cfd b327 h
 conv=>whnf
 cases h
 have ho326:_=_:=ho326
 cases ho326
 exact Join.mk (eA [(97,some 97),(98,some 98),(99,some 99)])
 replace h:R16_add.k11 o_ t_ y229 done230=some _:=hk83
 unfold R16_add.k11 at h
 obtain ⟨z376,_⟩:=hp
 conv=>whnf
 obtain ⟨y382,hc,hk378⟩:=bind_some h
 clear h
 have h:=hc
 clear hc
 refine Cut.mk (mkSt [(4,.own 97 1 0),(5,.own 98 1 0)] [(97,.box 35 2),(98,.box 35 2),(99,.row 72 2 (List.map c_api_Trace y382))] [(97,0,.im (nI 0)),(97,1,.im (.val (.slice none 0 0))),(98,0,.im (nI o_.Inputs)),(98,1,.osl 99 1)]) (lZ y382∧True) ((Holds.kdl 99 rfl).and (hT)) ?_ (fun hp=>?_)
 conv=>whnf
 refine Both.mk ?_ ?_<;>intro b383
 replace h:=cond_t b383 h
 conv=>whnf
 refine Side.mk rfl ?_
 conv=>whnf
 refine Side.mk rfl ?_
 conv=>whnf
 obtain ⟨c384,hc384,h⟩:=bind_some h
 refine ⟨_,(sp_R16_copied t_ c384 (fun _=>hc384)),?_⟩
 conv=>whnf
 obtain ⟨c385,h⟩:=chk_some h
 refine Side.mk ⟨rfl,map_len (l:=[c384]) (c:=c_api_Trace) fun _=>rfl,show capOk _ 48 by simpa only [List.length_map,List.length_cons,List.length_nil,Nat.zero_add] using c385⟩ ?_
 conv=>whnf
 refine Nf.mk (List.map c_api_Trace (y229++[c384])) (app_map (l:=y229) (m:=[c384]) (c:=c_api_Trace)) ?_
 conv=>whnf
 refine Side.mk rfl ?_
 conv=>whnf
 refine Side.mk rfl ?_
 conv=>whnf
 cases h
 exact Join.mk (eA [(97,some 97),(98,some 98),(99,some 99)])
 replace h:=cond_f b383 h
 conv=>whnf
 cases h
 exact Join.mk (eA [(97,some 97),(98,some 98),(99,some 99)])
 replace h:=hk378
 obtain ⟨z386,_⟩:=hp
 conv=>whnf
 refine Side.mk rfl ?_
 conv=>whnf
 refine Side.mk rfl ?_
 conv=>whnf
 cases h
 conv=>whnf
 refine Side.mk ⟨rfl,trivial⟩ ?_
 conv=>whnf
 exact Side.mk ⟨rfl,trivial⟩ ⟨rfl,rfl⟩
theorem sp_R16_Add (o_:T_api_Obs) (t_:T_api_Trace) (r:T_api_Obs×Int) (h:Ok (.agg (c_api_Obs o_))→Ok (.agg (c_api_Trace t_))→R16_Add o_ t_=some r):Sp Tryz.prog 31 [.im (.agg (c_api_Obs o_)),.im (.agg (c_api_Trace t_))] (.tup [.agg (c_api_Obs r.1),nI r.2]):=by
 refine sp_of rfl [700002,700003] rfl rfl rfl (Nat.le_of_ble_eq_true rfl) rfl fun hk=>?_
 replace h:=h hk.1 hk.2.1
 have z1:lZ o_.Traces:=ok_len (Ok.agg_at hk.1 1 rfl)
 have z2:lZ t_.In:=ok_len (Ok.agg_at hk.2.1 0 rfl)
 have z3:lZ t_.Out:=ok_len (Ok.agg_at hk.2.1 1 rfl)
 unfold R16_Add at h
 conv=>whnf
 obtain ⟨c51,hc51,h⟩:=bind_some h
 refine ⟨_,(sp_R16_Proper t_ o_.Inputs c51 (fun _ _=>hc51)),?_⟩
 conv=>whnf
 refine Both.mk ?_ ?_<;>intro b52
 obtain ⟨h,b52d⟩:=ctd b52 h
 conv=>whnf
 refine Side.mk rfl ?_
 conv=>whnf
 cases h
 conv=>whnf
 refine Side.mk ⟨rfl,trivial⟩ ?_
 conv=>whnf
 exact ⟨rfl,rfl⟩
 obtain ⟨h,b52d⟩:=cfd b52 h
 conv=>whnf
 obtain ⟨oc,hc,hk53⟩:=bind_some h
 clear h
 have h:=hc
 clear hc
 refine Cut.mkS oc (Y:=Unit) (fun (_:Unit)=>mkSt [(2,.im (.ref (c_api_Obs o_))),(3,.im (.ref (c_api_Trace t_))),(4,.own 64 1 0)] [(64,.box 35 2)] [(64,0,.im (nI 0)),(64,1,.im (.val (.slice none 0 0)))]) (fun (_:Unit)=>True) (by rintro ⟨⟩;exact (hT)) ?_ ?_
 conv=>whnf
 refine Loops.iter (fun (s:Nat)=>R16_Add.s2 o_ t_ s) (fun i72=>mkSt [(2,.im (.ref (c_api_Obs o_))),(3,.im (.ref (c_api_Trace t_))),(4,.own 64 1 0),(7,.im (nI (↑i72:Int)))] [(64,.box 35 2)] [(64,0,.im (nI 0)),(64,1,.im (.val (.slice none 0 0)))]) (fun i72=>True) h (eA [(64,some 4)]) (by rintro i72;exact (hT)) ?_
 clear h
 rintro k i72 o hp h ho77
 replace h:R16_Add.s2 o_ t_ i72=some o:=h
 unfold R16_Add.s2 at h
 conv=>whnf
 refine Nf.mk (List.length o_.Traces) len_map ?_
 conv=>whnf
 refine Both.mk ?_ ?_<;>intro b78
 obtain ⟨h,b78d⟩:=ctd b78 h
 conv=>whnf
 obtain ⟨e79,he79,h⟩:=idxn_some h
 refine ⟨_,⟨(by omega),map_at he79,rfl⟩,?_⟩
 conv=>whnf
 obtain ⟨c80,hc80,h⟩:=bind_some h
 refine ⟨_,(sp_R16_Differ e79 t_ c80 (fun _ _=>hc80)),?_⟩
 conv=>whnf
 refine Both.mk ?_ ?_<;>intro b81
 obtain ⟨h,b81d⟩:=ctd b81 h
 conv=>whnf
 refine Side.mk rfl ?_
 conv=>whnf
 cases h
 have ho77:_=_:=ho77
 cases ho77
 replace h:some _=some _:=hk53
 cases h
 conv=>whnf
 refine Side.mk ⟨rfl,trivial⟩ ?_
 conv=>whnf
 exact ⟨rfl,rfl⟩
 obtain ⟨h,b81d⟩:=cfd b81 h
 conv=>whnf
 refine Arith.mk (by show inR _;unfold inR;omega) ?_
 conv=>whnf
 cases h
 exact Nxt.mk _ ho77 (eA [(64,some 64)])
 obtain ⟨h,b78d⟩:=cfd b78 h
 conv=>whnf
 cases h
 have ho77:_=_:=ho77
 cases ho77
 exact JoinS.mk' _ rfl (eA [(64,some 64)])
 rintro ⟨⟩ rfl hp
 replace h:=sum_inl hk53
 conv=>whnf
 obtain ⟨c82,hc82,h⟩:=bind_some h
 refine ⟨_,(sp_R16_add o_ t_ c82 (fun _ _=>hc82)),?_⟩
 conv=>whnf
 refine Side.mk rfl ?_
 conv=>whnf
 refine Side.mk rfl ?_
 conv=>whnf
 refine Side.mk rfl ?_
 conv=>whnf
 refine Nf.mk (List.length c82.Traces) len_map ?_
 conv=>whnf
 refine Both.mk ?_ ?_<;>intro b83
 obtain ⟨h,b83d⟩:=ctd b83 h
 conv=>whnf
 refine Side.mk rfl ?_
 conv=>whnf
 cases h
 conv=>whnf
 refine Side.mk ⟨rfl,trivial⟩ ?_
 conv=>whnf
 exact ⟨rfl,rfl⟩
 obtain ⟨h,b83d⟩:=cfd b83 h
 conv=>whnf
 refine Side.mk rfl ?_
 conv=>whnf
 refine Side.mk rfl ?_
 conv=>whnf
 cases h
 conv=>whnf
 refine Side.mk ⟨rfl,trivial⟩ ?_
 conv=>whnf
 exact ⟨rfl,rfl⟩
theorem sp_R21_Ask (q_:T_api_Oracle) (w_:List Int) (r:T_api_Oracle×List Int×Int) (h:Ok (.agg (c_api_Oracle q_))→Ok (nL cI w_)→R21_Ask q_ w_=some r):Sp Tryz.prog 9 [.im (.agg (c_api_Oracle q_)),.im (nL cI w_)] (.tup [.agg (c_api_Oracle r.1),nL cI r.2.1,nI r.2.2]):=by
 refine sp_of rfl [500069] rfl rfl rfl (Nat.le_of_ble_eq_true rfl) rfl fun hk=>?_
 replace h:=h hk.1 hk.2.1
 have z1:lZ q_.Device.M.Next:=ok_len (Ok.agg_at hk.1 2 rfl)
 have z2:lZ q_.Device.M.Out:=ok_len (Ok.agg_at hk.1 3 rfl)
 have z3:lZ q_.Device.Latency.Step:=ok_len (Ok.agg_at hk.1 6 rfl)
 have z4:lZ q_.Obs.Traces:=ok_len (Ok.agg_at hk.1 16 rfl)
 have z5:lZ w_:=ok_len hk.2.1
 unfold R21_Ask at h
 conv=>whnf
 refine Side.mk rfl ?_
 conv=>whnf
 refine Side.mk rfl ?_
 conv=>whnf
 refine Side.mk rfl ?_
 conv=>whnf
 refine Side.mk rfl ?_
 conv=>whnf
 obtain ⟨c51,hc51,h⟩:=bind_some h
 refine ⟨_,(sp_R01_Check w_ q_.Device.M.Inputs c51 (fun _ _=>hc51)),?_⟩
 conv=>whnf
 refine Both.mk ?_ ?_<;>intro b52
 obtain ⟨h,b52d⟩:=ctd b52 h
 conv=>whnf
 refine Side.mk rfl ?_
 conv=>whnf
 refine Side.mk rfl ?_
 conv=>whnf
 cases h
 conv=>whnf
 refine Side.mk ⟨rfl,trivial⟩ ?_
 conv=>whnf
 exact ⟨rfl,rfl⟩
 obtain ⟨h,b52d⟩:=cfd b52 h
 conv=>whnf
 refine Side.mk rfl ?_
 conv=>whnf
 refine Side.mk rfl ?_
 conv=>whnf
 obtain ⟨c53,hc53,h⟩:=bind_some h
 refine ⟨_,(sp_R16_Answer q_.Obs w_ c53 (fun _ _=>hc53)),?_⟩
 conv=>whnf
 refine Both.mk ?_ ?_<;>intro b54
 replace h:=cond_t b54 h
 conv=>whnf
 refine Side.mk rfl ?_
 conv=>whnf
 refine Side.mk rfl ?_
 conv=>whnf
 refine Arith.wr _ (mdI_eq _) ?_
 conv=>whnf
 refine Side.mk rfl ?_
 conv=>whnf
 refine Side.mk rfl ?_
 conv=>whnf
 refine Side.mk rfl ?_
 conv=>whnf
 refine Side.mk rfl ?_
 conv=>whnf
 cases h
 conv=>whnf
 refine Side.mk ⟨rfl,trivial⟩ ?_
 conv=>whnf
 exact ⟨rfl,rfl⟩
 replace h:=cond_f b54 h
 conv=>whnf
 obtain ⟨oc,hc,hk55⟩:=bind_some h
 clear h
 have h:=hc
 clear hc
 refine Cut.mkS oc (Y:=Int×Int×List (List Int)×List (List Int)×Int×Bool×List Int×Int×Int×Int×Int×Int×Int×Int×Int×Int×List (List Int)) (fun (y249,y250,y251,y252,y253,y254,y255,y256,y257,y258,y259,y260,y261,y262,y263,y264,y265)=>mkSt [(2,.own 95 1 0),(4,.own 96 1 0),(10,.osl 97 1)] [(95,.box 37 21),(96,.box 37 21),(97,.row 25 1 (List.map (cL cI) y265))] [(95,0,.im (nI y249)),(95,1,.im (nI y250)),(95,2,.im (nL (cL cI) y251)),(95,3,.im (nL (cL cI) y252)),(95,4,.im (nI y253)),(95,5,.im (nB y254)),(95,6,.im (nL cI y255)),(95,7,.im (nI y256)),(95,8,.im (nI y257)),(95,9,.im (nI y258)),(95,10,.im (nI y259)),(95,11,.im (nU y260)),(95,12,.im (nI y261)),(95,13,.im (nI y262)),(95,14,.im (nI y263)),(95,15,.im (nI q_.Obs.Inputs)),(95,16,.im (nL c_api_Trace q_.Obs.Traces)),(95,17,.im (nI q_.Votes)),(95,18,.im (nI q_.Tries)),(95,19,.im (nI y264)),(95,20,.im (nI q_.Hits)),(96,0,.im (nI 0)),(96,1,.im (nI 0)),(96,2,.im (.val (.slice none 0 0))),(96,3,.im (.val (.slice none 0 0))),(96,4,.im (nI 0)),(96,5,.im (nB false)),(96,6,.im (.val (.slice none 0 0))),(96,7,.im (nI 0)),(96,8,.im (nI 0)),(96,9,.im (nI 0)),(96,10,.im (nI 0)),(96,11,.im (nU 0)),(96,12,.im (nI 0)),(96,13,.im (nI 0)),(96,14,.im (nI 0)),(96,15,.im (nI 0)),(96,16,.im (.val (.slice none 0 0))),(96,17,.im (nI 0)),(96,18,.im (nI 0)),(96,19,.im (nI 0)),(96,20,.im (nI 0))]) (fun (y249,y250,y251,y252,y253,y254,y255,y256,y257,y258,y259,y260,y261,y262,y263,y264,y265)=>lZ y251∧lZ y252∧lZ y255∧lZ q_.Obs.Traces∧lZ y265∧True) (by rintro ⟨y249,y250,y251,y252,y253,y254,y255,y256,y257,y258,y259,y260,y261,y262,y263,y264,y265⟩;exact ((Holds.cel 95 2 rfl (by decide) rfl).and ((Holds.cel 95 3 rfl (by decide) rfl).and ((Holds.cel 95 6 rfl (by decide) rfl).and ((Holds.cel 95 16 rfl (by decide) rfl).and ((Holds.kdl 97 rfl).and (hT))))))) ?_ ?_
 conv=>whnf
 refine Loops.iter (fun (s:Int×Int×List (List Int)×List (List Int)×Int×Bool×List Int×Int×Int×Int×Int×Int×Int×Int×Int×Int×List (List Int)×Int)=>R21_Ask.s10 q_ w_ s.1 s.2.1 s.2.2.1 s.2.2.2.1 s.2.2.2.2.1 s.2.2.2.2.2.1 s.2.2.2.2.2.2.1 s.2.2.2.2.2.2.2.1 s.2.2.2.2.2.2.2.2.1 s.2.2.2.2.2.2.2.2.2.1 s.2.2.2.2.2.2.2.2.2.2.1 s.2.2.2.2.2.2.2.2.2.2.2.1 s.2.2.2.2.2.2.2.2.2.2.2.2.1 s.2.2.2.2.2.2.2.2.2.2.2.2.2.1 s.2.2.2.2.2.2.2.2.2.2.2.2.2.2.1 s.2.2.2.2.2.2.2.2.2.2.2.2.2.2.2.1 s.2.2.2.2.2.2.2.2.2.2.2.2.2.2.2.2.1 s.2.2.2.2.2.2.2.2.2.2.2.2.2.2.2.2.2) (fun (y358,y359,y360,y361,y362,y363,y364,y365,y366,y367,y368,y369,y370,y371,y372,y373,y374,i375)=>mkSt [(1,.im (nL cI w_)),(2,.own 95 1 0),(4,.own 96 1 0),(10,.osl 97 1),(11,.im (nI i375))] [(95,.box 37 21),(96,.box 37 21),(97,.row 25 1 (List.map (cL cI) y374))] [(95,0,.im (nI y358)),(95,1,.im (nI y359)),(95,2,.im (nL (cL cI) y360)),(95,3,.im (nL (cL cI) y361)),(95,4,.im (nI y362)),(95,5,.im (nB y363)),(95,6,.im (nL cI y364)),(95,7,.im (nI y365)),(95,8,.im (nI y366)),(95,9,.im (nI y367)),(95,10,.im (nI y368)),(95,11,.im (nU y369)),(95,12,.im (nI y370)),(95,13,.im (nI y371)),(95,14,.im (nI y372)),(95,15,.im (nI q_.Obs.Inputs)),(95,16,.im (nL c_api_Trace q_.Obs.Traces)),(95,17,.im (nI q_.Votes)),(95,18,.im (nI q_.Tries)),(95,19,.im (nI y373)),(95,20,.im (nI q_.Hits)),(96,0,.im (nI 0)),(96,1,.im (nI 0)),(96,2,.im (.val (.slice none 0 0))),(96,3,.im (.val (.slice none 0 0))),(96,4,.im (nI 0)),(96,5,.im (nB false)),(96,6,.im (.val (.slice none 0 0))),(96,7,.im (nI 0)),(96,8,.im (nI 0)),(96,9,.im (nI 0)),(96,10,.im (nI 0)),(96,11,.im (nU 0)),(96,12,.im (nI 0)),(96,13,.im (nI 0)),(96,14,.im (nI 0)),(96,15,.im (nI 0)),(96,16,.im (.val (.slice none 0 0))),(96,17,.im (nI 0)),(96,18,.im (nI 0)),(96,19,.im (nI 0)),(96,20,.im (nI 0))]) (fun (y358,y359,y360,y361,y362,y363,y364,y365,y366,y367,y368,y369,y370,y371,y372,y373,y374,i375)=>lZ w_∧lZ y360∧lZ y361∧lZ y364∧lZ q_.Obs.Traces∧lZ y374∧True) h (eA [(95,some 2),(96,some 4),(97,none)]) (by rintro ⟨y358,y359,y360,y361,y362,y363,y364,y365,y366,y367,y368,y369,y370,y371,y372,y373,y374,i375⟩;exact ((Holds.avl 1 rfl).and ((Holds.cel 95 2 rfl (by decide) rfl).and ((Holds.cel 95 3 rfl (by decide) rfl).and ((Holds.cel 95 6 rfl (by decide) rfl).and ((Holds.cel 95 16 rfl (by decide) rfl).and ((Holds.kdl 97 rfl).and (hT)))))))) ?_
 clear h
 rintro k ⟨y358,y359,y360,y361,y362,y363,y364,y365,y366,y367,y368,y369,y370,y371,y372,y373,y374,i375⟩ o hp h ho414
 replace h:R21_Ask.s10 q_ w_ y358 y359 y360 y361 y362 y363 y364 y365 y366 y367 y368 y369 y370 y371 y372 y373 y374 i375=some o:=h
 unfold R21_Ask.s10 at h
 obtain ⟨z453,z454,z455,z456,z457,z458,_⟩:=hp
 conv=>whnf
 refine Side.mk rfl ?_
 conv=>whnf
 refine Side.mk rfl ?_
 conv=>whnf
 refine Both.mk ?_ ?_<;>intro b415
 obtain ⟨h,b415d⟩:=ctd b415 h
 conv=>whnf
 obtain ⟨oc,hc,hk416⟩:=bind_some h
 clear h
 have h:=hc
 clear hc
 refine Cut.mkS oc (Y:=Int×Int×List (List Int)×List (List Int)×Int×Bool×List Int×Int×Int×Int×Int×Int×Int×Int×Int×List (List Int)) (fun (y424,y425,y426,y427,y428,y429,y430,y431,y432,y433,y434,y435,y436,y437,y438,y439)=>mkSt [(1,.im (nL cI w_)),(2,.own 95 1 0),(4,.own 96 1 0),(10,.osl 97 1),(11,.im (nI i375))] [(95,.box 37 21),(96,.box 37 21),(97,.row 25 1 (List.map (cL cI) y439))] [(95,0,.im (nI y424)),(95,1,.im (nI y425)),(95,2,.im (nL (cL cI) y426)),(95,3,.im (nL (cL cI) y427)),(95,4,.im (nI y428)),(95,5,.im (nB y429)),(95,6,.im (nL cI y430)),(95,7,.im (nI y431)),(95,8,.im (nI y432)),(95,9,.im (nI y433)),(95,10,.im (nI y434)),(95,11,.im (nU y435)),(95,12,.im (nI y436)),(95,13,.im (nI y437)),(95,14,.im (nI y438)),(95,15,.im (nI q_.Obs.Inputs)),(95,16,.im (nL c_api_Trace q_.Obs.Traces)),(95,17,.im (nI q_.Votes)),(95,18,.im (nI q_.Tries)),(95,19,.im (nI (mdI (y373+1)))),(95,20,.im (nI q_.Hits)),(96,0,.im (nI 0)),(96,1,.im (nI 0)),(96,2,.im (.val (.slice none 0 0))),(96,3,.im (.val (.slice none 0 0))),(96,4,.im (nI 0)),(96,5,.im (nB false)),(96,6,.im (.val (.slice none 0 0))),(96,7,.im (nI 0)),(96,8,.im (nI 0)),(96,9,.im (nI 0)),(96,10,.im (nI 0)),(96,11,.im (nU 0)),(96,12,.im (nI 0)),(96,13,.im (nI 0)),(96,14,.im (nI 0)),(96,15,.im (nI 0)),(96,16,.im (.val (.slice none 0 0))),(96,17,.im (nI 0)),(96,18,.im (nI 0)),(96,19,.im (nI 0)),(96,20,.im (nI 0))]) (fun (y424,y425,y426,y427,y428,y429,y430,y431,y432,y433,y434,y435,y436,y437,y438,y439)=>lZ w_∧lZ y426∧lZ y427∧lZ y430∧lZ q_.Obs.Traces∧lZ y439∧True) (by rintro ⟨y424,y425,y426,y427,y428,y429,y430,y431,y432,y433,y434,y435,y436,y437,y438,y439⟩;exact ((Holds.avl 1 rfl).and ((Holds.cel 95 2 rfl (by decide) rfl).and ((Holds.cel 95 3 rfl (by decide) rfl).and ((Holds.cel 95 6 rfl (by decide) rfl).and ((Holds.cel 95 16 rfl (by decide) rfl).and ((Holds.kdl 97 rfl).and (hT)))))))) ?_ ?_
 conv=>whnf
 refine Side.mk rfl ?_
 conv=>whnf
 refine Side.mk rfl ?_
 conv=>whnf
 obtain ⟨c440,hc440,h⟩:=bind_some h
 refine ⟨_,(sp_R19_Query (⟨(⟨y358,y359,y360,y361⟩:T_api_Mealy),y362,y363,(⟨y364,y365⟩:T_api_Latency),(⟨y366,y367,y368⟩:T_api_Faults),y369,y370,y371,y372⟩:T_api_Device) w_ c440 (fun _ _=>hc440)),?_⟩
 conv=>whnf
 refine Side.mk rfl ?_
 conv=>whnf
 refine Side.mk rfl ?_
 conv=>whnf
 refine Side.mk rfl ?_
 conv=>whnf
 refine Side.mk rfl ?_
 conv=>whnf
 refine Side.mk rfl ?_
 conv=>whnf
 refine Side.mk rfl ?_
 conv=>whnf
 refine Arith.wr _ (mdI_eq _) ?_
 conv=>whnf
 refine Side.mk rfl ?_
 conv=>whnf
 refine Side.mk rfl ?_
 conv=>whnf
 refine Both.mk ?_ ?_<;>intro b441
 obtain ⟨h,b441d⟩:=ctd b441 h
 conv=>whnf
 cases h
 exact JoinS.mk' _ rfl (eA [(95,some 95),(96,some 96),(97,some 97)])
 obtain ⟨h,b441d⟩:=cfd b441 h
 conv=>whnf
 obtain ⟨c442,h⟩:=chk_some h
 refine Side.mk ⟨rfl,map_len (l:=[c440.2.1]) (c:=cL cI) fun _=>rfl,show capOk _ 24 by simpa only [List.length_map,List.length_cons,List.length_nil,Nat.zero_add] using c442⟩ ?_
 conv=>whnf
 refine Nf.mk (List.map (cL cI) (y374++[c440.2.1])) (app_map (l:=y374) (m:=[c440.2.1]) (c:=cL cI)) ?_
 conv=>whnf
 refine Side.mk ⟨rfl,trivial⟩ ?_
 conv=>whnf
 obtain ⟨c443,hc443,h⟩:=bind_some h
 refine ⟨_,(sp_R21_times (y374++[c440.2.1]) c440.2.1 c443 (fun _ _=>hc443)),?_⟩
 conv=>whnf
 refine Side.mk flat_one ?_
 conv=>whnf
 refine Side.mk rfl ?_
 conv=>whnf
 refine Side.mk rfl ?_
 conv=>whnf
 refine Both.mk ?_ ?_<;>intro b444
 obtain ⟨h,b444d⟩:=ctd b444 h
 conv=>whnf
 cases h
 exact JoinS.mk' _ rfl (eA [(95,some 95),(96,some 96),(97,some 97)])
 obtain ⟨h,b444d⟩:=cfd b444 h
 conv=>whnf
 refine Side.mk rfl ?_
 conv=>whnf
 refine Side.mk rfl ?_
 conv=>whnf
 obtain ⟨c445,hc445,h⟩:=bind_some h
 refine ⟨_,(sp_R16_Add q_.Obs (⟨w_,c440.2.1⟩:T_api_Trace) c445 (fun _ _=>hc445)),?_⟩
 conv=>whnf
 refine Side.mk rfl ?_
 conv=>whnf
 refine Both.mk ?_ ?_<;>intro b446
 obtain ⟨h,b446d⟩:=ctd b446 h
 conv=>whnf
 refine Side.mk rfl ?_
 conv=>whnf
 refine Side.mk rfl ?_
 conv=>whnf
 cases h
 replace h:some _=some _:=hk416
 cases h
 have ho414:_=_:=ho414
 cases ho414
 replace h:some _=some _:=hk55
 cases h
 conv=>whnf
 refine Side.mk ⟨rfl,trivial⟩ ?_
 conv=>whnf
 exact ⟨rfl,rfl⟩
 obtain ⟨h,b446d⟩:=cfd b446 h
 conv=>whnf
 refine Side.mk rfl ?_
 conv=>whnf
 refine Side.mk rfl ?_
 conv=>whnf
 refine Side.mk rfl ?_
 conv=>whnf
 refine Side.mk rfl ?_
 conv=>whnf
 refine Side.mk rfl ?_
 conv=>whnf
 cases h
 replace h:some _=some _:=hk416
 cases h
 have ho414:_=_:=ho414
 cases ho414
 replace h:some _=some _:=hk55
 cases h
 conv=>whnf
 refine Side.mk ⟨rfl,trivial⟩ ?_
 conv=>whnf
 exact ⟨rfl,rfl⟩
 rintro ⟨y424,y425,y426,y427,y428,y429,y430,y431,y432,y433,y434,y435,y436,y437,y438,y439⟩ rfl hp
 have hx_:=sum_inl hk416
 replace h:R21_Ask.k9 y373 i375 y424 y425 y426 y427 y428 y429 y430 y431 y432 y433 y434 y435 y436 y437 y438 y439=some _:=hx_
 clear hx_
 unfold R21_Ask.k9 at h
 obtain ⟨z447,z448,z449,z450,z451,z452,_⟩:=hp
 conv=>whnf
 refine Arith.wr _ (mdI_eq _) ?_
 conv=>whnf
 cases h
 exact Nxt.mk _ ho414 (eA [(95,some 95),(96,some 96),(97,some 97)])
 obtain ⟨h,b415d⟩:=cfd b415 h
 conv=>whnf
 cases h
 have ho414:_=_:=ho414
 cases ho414
 exact JoinS.mk' _ rfl (eA [(95,some 95),(96,some 96),(97,some 97)])
 rintro ⟨y249,y250,y251,y252,y253,y254,y255,y256,y257,y258,y259,y260,y261,y262,y263,y264,y265⟩ rfl hp
 have hx_:=sum_inl hk55
 replace h:R21_Ask.k11 q_ y249 y250 y251 y252 y253 y254 y255 y256 y257 y258 y259 y260 y261 y262 y263 y264 y265=some _:=hx_
 clear hx_
 unfold R21_Ask.k11 at h
 obtain ⟨z459,z460,z461,z462,z463,_⟩:=hp
 conv=>whnf
 refine Side.mk rfl ?_
 conv=>whnf
 refine Nf.mk (List.length y265) len_map ?_
 conv=>whnf
 refine Both.mk ?_ ?_<;>intro b464
 obtain ⟨h,b464d⟩:=ctd b464 h
 conv=>whnf
 refine Side.mk rfl ?_
 conv=>whnf
 refine Side.mk rfl ?_
 conv=>whnf
 cases h
 conv=>whnf
 refine Side.mk ⟨rfl,trivial⟩ ?_
 conv=>whnf
 exact ⟨rfl,rfl⟩
 obtain ⟨h,b464d⟩:=cfd b464 h
 conv=>whnf
 refine Side.mk rfl ?_
 conv=>whnf
 refine Side.mk rfl ?_
 conv=>whnf
 cases h
 conv=>whnf
 refine Side.mk ⟨rfl,trivial⟩ ?_
 conv=>whnf
 exact ⟨rfl,rfl⟩
theorem sp_L16_Great (o_:T_api_Obs) (r:Bool) (h:Ok (.agg (c_api_Obs o_))→L16_Great o_=some r):Sp Tryz.prog 15 [.im (.agg (c_api_Obs o_))] (.im (nB r)):=by
 refine sp_of rfl [700001] rfl rfl rfl (Nat.le_of_ble_eq_true rfl) rfl fun hk=>?_
 replace h:=h hk.1
 have z1:lZ o_.Traces:=ok_len (Ok.agg_at hk.1 1 rfl)
 unfold L16_Great at h
 conv=>whnf
 refine Nf.mk (List.length o_.Traces) len_map ?_
 conv=>whnf
 refine Both.mk ?_ ?_<;>intro b51
 obtain ⟨h,b51d⟩:=ctd b51 h
 conv=>whnf
 cases h
 conv=>whnf
 exact ⟨rfl,rfl⟩
 obtain ⟨h,b51d⟩:=cfd b51 h
 conv=>whnf
 obtain ⟨oc,hc,hk52⟩:=bind_some h
 clear h
 have h:=hc
 clear hc
 refine Cut.mkS oc (Y:=Unit) (fun (_:Unit)=>mkSt [] [] []) (fun (_:Unit)=>True) (by rintro ⟨⟩;exact (hT)) ?_ ?_
 conv=>whnf
 refine Loops.iter (fun (s:Nat)=>L16_Great.s2 o_ s) (fun i99=>mkSt [(1,.im (.ref (c_api_Obs o_))),(3,.im (nI (↑i99:Int)))] [] []) (fun i99=>True) h (eA []) (by rintro i99;exact (hT)) ?_
 clear h
 rintro k i99 o hp h ho111
 replace h:L16_Great.s2 o_ i99=some o:=h
 unfold L16_Great.s2 at h
 conv=>whnf
 refine Nf.mk (List.length o_.Traces) len_map ?_
 conv=>whnf
 refine Both.mk ?_ ?_<;>intro b112
 obtain ⟨h,b112d⟩:=ctd b112 h
 conv=>whnf
 obtain ⟨y118,hc,hk114⟩:=bind_some h
 clear h
 have h:=hc
 clear hc
 refine Cut.mk (mkSt [(1,.im (.ref (c_api_Obs o_))),(3,.im (nI (↑i99:Int))),(32,.im (nB y118))] [] []) (True) (hT) ?_ (fun hp=>?_)
 conv=>whnf
 obtain ⟨e119,he119,h⟩:=idxn_some h
 refine ⟨_,⟨(by omega),map_at he119,rfl⟩,?_⟩
 conv=>whnf
 refine Nf.mk (List.length e119.In) len_map ?_
 conv=>whnf
 refine Both.mk ?_ ?_<;>intro b120
 replace b120:=beq_ff b120
 obtain ⟨h,b120d⟩:=cfd b120 h
 conv=>whnf
 iterate 3 (refine Both.yes (ff_beq b120) ?_;(conv=>whnf))
 obtain ⟨e121,he121,h⟩:=idxn_some h
 refine ⟨_,⟨(by omega),map_at he121,rfl⟩,?_⟩
 conv=>whnf
 iterate 3 (refine Both.yes (ff_beq b120) ?_;(conv=>whnf))
 refine Nf.mk (List.length e121.Out) len_map ?_
 conv=>whnf
 refine Both.yes (ff_beq b120) ?_
 conv=>whnf
 refine Both.no b120 ?_
 conv=>whnf
 cases h
 exact Join.mk (eA [])
 replace b120:=beq_ft b120
 obtain ⟨h,b120d⟩:=ctd b120 h
 conv=>whnf
 iterate 7 (refine Both.no (tf_beq b120) ?_;(conv=>whnf))
 refine Both.yes b120 ?_
 conv=>whnf
 cases h
 exact Join.mk (eA [])
 replace h:=hk114
 conv=>whnf
 refine Both.mk ?_ ?_<;>intro b122
 replace h:=cond_t b122 h
 conv=>whnf
 cases h
 have ho111:_=_:=ho111
 cases ho111
 replace h:some _=some _:=hk52
 cases h
 conv=>whnf
 exact ⟨rfl,rfl⟩
 replace h:=cond_f b122 h
 conv=>whnf
 refine Arith.mk (by show inR _;unfold inR;omega) ?_
 conv=>whnf
 cases h
 exact Nxt.mk _ ho111 (eA [])
 obtain ⟨h,b112d⟩:=cfd b112 h
 conv=>whnf
 cases h
 have ho111:_=_:=ho111
 cases ho111
 exact JoinS.mk' _ rfl (eA [])
 rintro ⟨⟩ rfl hp
 replace h:=sum_inl hk52
 conv=>whnf
 cases h
 conv=>whnf
 exact ⟨rfl,rfl⟩
theorem sp_L21_Great (q_:T_api_Oracle) (r:Bool) (h:Ok (.agg (c_api_Oracle q_))→L21_Great q_=some r):Sp Tryz.prog 5 [.im (.agg (c_api_Oracle q_))] (.im (nB r)):=by
 refine sp_of rfl [700001] rfl rfl rfl (Nat.le_of_ble_eq_true rfl) rfl fun hk=>?_
 replace h:=h hk.1
 have z1:lZ q_.Device.M.Next:=ok_len (Ok.agg_at hk.1 2 rfl)
 have z2:lZ q_.Device.M.Out:=ok_len (Ok.agg_at hk.1 3 rfl)
 have z3:lZ q_.Device.Latency.Step:=ok_len (Ok.agg_at hk.1 6 rfl)
 have z4:lZ q_.Obs.Traces:=ok_len (Ok.agg_at hk.1 16 rfl)
 unfold L21_Great at h
 conv=>whnf
 obtain ⟨y57,hc,hk52⟩:=bind_some h
 clear h
 have h:=hc
 clear hc
 refine Cut.mk (mkSt [(2,.im (nB y57))] [] []) (True) (hT) ?_ (fun hp=>?_)
 conv=>whnf
 refine Nf.mk (List.length q_.Device.M.Next) len_map ?_
 conv=>whnf
 refine Both.mk ?_ ?_<;>intro b58
 replace b58:=beq_ff b58
 obtain ⟨h,b58d⟩:=cfd b58 h
 conv=>whnf
 iterate 4 (refine Both.yes (ff_beq b58) ?_;(conv=>whnf))
 refine Both.no b58 ?_
 conv=>whnf
 refine Both.mk ?_ ?_<;>intro b59
 replace b59:=beq_ff b59
 obtain ⟨h,b59d⟩:=cfd b59 h
 conv=>whnf
 iterate 4 (refine Both.yes (ff_beq b59) ?_;(conv=>whnf))
 refine Nf.mk (List.length q_.Device.Latency.Step) len_map ?_
 conv=>whnf
 refine Both.yes (ff_beq b59) ?_
 conv=>whnf
 refine Both.no b59 ?_
 conv=>whnf
 refine Both.mk ?_ ?_<;>intro b60
 replace b60:=beq_ff b60
 obtain ⟨h,b60d⟩:=cfd b60 h
 conv=>whnf
 iterate 2 (refine Both.yes (ff_beq b60) ?_;(conv=>whnf))
 obtain ⟨c61,hc61,h⟩:=bind_some h
 refine ⟨_,(sp_L16_Great q_.Obs c61 (fun _=>hc61)),?_⟩
 conv=>whnf
 refine Both.no b60 ?_
 conv=>whnf
 cases h
 exact Join.mk (eA [])
 replace b60:=beq_ft b60
 obtain ⟨h,b60d⟩:=ctd b60 h
 conv=>whnf
 iterate 2 (refine Both.no (tf_beq b60) ?_;(conv=>whnf))
 refine Both.yes b60 ?_
 conv=>whnf
 cases h
 exact Join.mk (eA [])
 replace b59:=beq_ft b59
 obtain ⟨h,b59d⟩:=ctd b59 h
 conv=>whnf
 iterate 5 (refine Both.no (tf_beq b59) ?_;(conv=>whnf))
 refine Both.yes b59 ?_
 conv=>whnf
 iterate 3 (refine Both.no rfl ?_;(conv=>whnf))
 refine Both.yes rfl ?_
 conv=>whnf
 cases h
 exact Join.mk (eA [])
 replace b58:=beq_ft b58
 obtain ⟨h,b58d⟩:=ctd b58 h
 conv=>whnf
 iterate 4 (refine Both.no (tf_beq b58) ?_;(conv=>whnf))
 refine Both.yes b58 ?_
 conv=>whnf
 iterate 6 (refine Both.no rfl ?_;(conv=>whnf))
 refine Both.yes rfl ?_
 conv=>whnf
 iterate 3 (refine Both.no rfl ?_;(conv=>whnf))
 refine Both.yes rfl ?_
 conv=>whnf
 cases h
 exact Join.mk (eA [])
 replace h:=hk52
 conv=>whnf
 cases h
 conv=>whnf
 exact ⟨rfl,rfl⟩
theorem sp_R16_apart (o_:T_api_Obs) (r:Int) (h:Ok (.agg (c_api_Obs o_))→R16_apart o_=some r):Sp Tryz.prog 42 [.im (.agg (c_api_Obs o_))] (.im (nI r)):=by
 refine sp_of rfl [700001] rfl rfl rfl (Nat.le_of_ble_eq_true rfl) rfl fun hk=>?_
 replace h:=h hk.1
 have z1:lZ o_.Traces:=ok_len (Ok.agg_at hk.1 1 rfl)
 unfold R16_apart at h
 conv=>whnf
 obtain ⟨oc,hc,hk51⟩:=bind_some h
 clear h
 have h:=hc
 clear hc
 refine Cut.mkS oc (Y:=Unit) (fun (_:Unit)=>mkSt [] [] []) (fun (_:Unit)=>True) (by rintro ⟨⟩;exact (hT)) ?_ ?_
 conv=>whnf
 refine Loops.iter (fun (s:Nat)=>R16_apart.s32 o_ s) (fun i518=>mkSt [(1,.im (.ref (c_api_Obs o_))),(3,.im (nI (↑i518:Int)))] [] []) (fun i518=>True) h (eA []) (by rintro i518;exact (hT)) ?_
 clear h
 rintro k i518 o hp h ho635
 replace h:R16_apart.s32 o_ i518=some o:=h
 unfold R16_apart.s32 at h
 conv=>whnf
 refine Nf.mk (List.length o_.Traces) len_map ?_
 conv=>whnf
 refine Both.mk ?_ ?_<;>intro b636
 obtain ⟨h,b636d⟩:=ctd b636 h
 conv=>whnf
 refine Arith.mk (by show inR _;unfold inR;omega) ?_
 conv=>whnf
 obtain ⟨⟨prefix693,clash694⟩,hc,hk637⟩:=bind_some h
 clear h
 have h:=hc
 clear hc
 refine Cut.mk (mkSt [(1,.im (.ref (c_api_Obs o_))),(3,.im (nI (↑i518:Int))),(4,.im (nB prefix693)),(5,.im (nB clash694))] [] []) (True) (hT) ?_ (fun hp=>?_)
 conv=>whnf
 refine Loops.iter (fun (s:Bool×Bool×Nat)=>R16_apart.s30 o_ i518 s.1 s.2.1 s.2.2) (fun (prefix714,clash715,k716)=>mkSt [(1,.im (.ref (c_api_Obs o_))),(3,.im (nI (↑i518:Int))),(4,.im (nB prefix714)),(5,.im (nB clash715)),(6,.im (nI (↑k716:Int)))] [] []) (fun (prefix714,clash715,k716)=>True) h (eA []) (by rintro ⟨prefix714,clash715,k716⟩;exact (hT)) ?_
 clear h
 rintro k ⟨prefix714,clash715,k716⟩ o hp h ho733
 replace h:R16_apart.s30 o_ i518 prefix714 clash715 k716=some o:=h
 unfold R16_apart.s30 at h
 conv=>whnf
 refine Nf.mk (List.length o_.Traces) len_map ?_
 conv=>whnf
 refine Both.mk ?_ ?_<;>intro b734
 obtain ⟨h,b734d⟩:=ctd b734 h
 conv=>whnf
 obtain ⟨prefix741,hc,hk736⟩:=bind_some h
 clear h
 have h:=hc
 clear hc
 refine Cut.mk (mkSt [(1,.im (.ref (c_api_Obs o_))),(3,.im (nI (↑i518:Int))),(4,.im (nB prefix741)),(5,.im (nB clash715)),(6,.im (nI (↑k716:Int)))] [] []) (True) (hT) ?_ (fun hp=>?_)
 conv=>whnf
 refine Both.mk ?_ ?_<;>intro b742
 replace b742:=beq_ff b742
 replace h:=cond_f b742 h
 conv=>whnf
 iterate 3 (refine Both.yes (ff_beq b742) ?_;(conv=>whnf))
 obtain ⟨e743,he743,h⟩:=idxn_some h
 refine ⟨_,⟨(by omega),map_at he743,rfl⟩,?_⟩
 conv=>whnf
 iterate 6 (refine Both.yes (ff_beq b742) ?_;(conv=>whnf))
 obtain ⟨e744,he744,h⟩:=idxn_some h
 refine ⟨_,⟨(by omega),map_at he744,rfl⟩,?_⟩
 conv=>whnf
 iterate 3 (refine Both.yes (ff_beq b742) ?_;(conv=>whnf))
 obtain ⟨c745,hc745,h⟩:=bind_some h
 refine ⟨_,(sp_R01_HasPrefix e743.In e744.In c745 (fun _ _=>hc745)),?_⟩
 conv=>whnf
 refine Both.no b742 ?_
 conv=>whnf
 cases h
 exact Join.mk (eA [])
 replace b742:=beq_ft b742
 replace h:=cond_t b742 h
 conv=>whnf
 iterate 12 (refine Both.no (tf_beq b742) ?_;(conv=>whnf))
 refine Both.yes b742 ?_
 conv=>whnf
 cases h
 exact Join.mk (eA [])
 replace h:=hk736
 conv=>whnf
 refine Both.mk ?_ ?_<;>intro b746
 replace b746:=beq_ff b746
 replace h:=cond_f b746 h
 conv=>whnf
 iterate 3 (refine Both.yes (ff_beq b746) ?_;(conv=>whnf))
 obtain ⟨e747,he747,h⟩:=idxn_some h
 refine ⟨_,⟨(by omega),map_at he747,rfl⟩,?_⟩
 conv=>whnf
 iterate 5 (refine Both.yes (ff_beq b746) ?_;(conv=>whnf))
 obtain ⟨e748,he748,h⟩:=idxn_some h
 refine ⟨_,⟨(by omega),map_at he748,rfl⟩,?_⟩
 conv=>whnf
 iterate 2 (refine Both.yes (ff_beq b746) ?_;(conv=>whnf))
 obtain ⟨c749,hc749,h⟩:=bind_some h
 refine ⟨_,(sp_R16_Differ e747 e748 c749 (fun _ _=>hc749)),?_⟩
 conv=>whnf
 refine Both.yes (ff_beq b746) ?_
 conv=>whnf
 refine Both.no b746 ?_
 conv=>whnf
 refine Arith.mk (by show inR _;unfold inR;omega) ?_
 conv=>whnf
 cases h
 exact Nxt.mk _ ho733 (eA [])
 replace b746:=beq_ft b746
 replace h:=cond_t b746 h
 conv=>whnf
 iterate 11 (refine Both.no (tf_beq b746) ?_;(conv=>whnf))
 refine Both.yes b746 ?_
 conv=>whnf
 refine Arith.mk (by show inR _;unfold inR;omega) ?_
 conv=>whnf
 cases h
 exact Nxt.mk _ ho733 (eA [])
 obtain ⟨h,b734d⟩:=cfd b734 h
 conv=>whnf
 cases h
 have ho733:_=_:=ho733
 cases ho733
 exact Join.mk (eA [])
 replace h:R16_apart.k31 i518 prefix693 clash694=some _:=hk637
 unfold R16_apart.k31 at h
 conv=>whnf
 refine Both.mk ?_ ?_<;>intro b750
 replace h:=cond_t b750 h
 conv=>whnf
 cases h
 have ho635:_=_:=ho635
 cases ho635
 replace h:some _=some _:=hk51
 cases h
 conv=>whnf
 exact ⟨rfl,rfl⟩
 replace h:=cond_f b750 h
 conv=>whnf
 refine Both.mk ?_ ?_<;>intro b751
 replace h:=cond_t b751 h
 conv=>whnf
 cases h
 have ho635:_=_:=ho635
 cases ho635
 replace h:some _=some _:=hk51
 cases h
 conv=>whnf
 exact ⟨rfl,rfl⟩
 replace h:=cond_f b751 h
 conv=>whnf
 refine Arith.mk (by show inR _;unfold inR;omega) ?_
 conv=>whnf
 cases h
 exact Nxt.mk _ ho635 (eA [])
 obtain ⟨h,b636d⟩:=cfd b636 h
 conv=>whnf
 cases h
 have ho635:_=_:=ho635
 cases ho635
 exact JoinS.mk' _ rfl (eA [])
 rintro ⟨⟩ rfl hp
 replace h:=sum_inl hk51
 conv=>whnf
 cases h
 conv=>whnf
 exact ⟨rfl,rfl⟩
theorem sp_R16_Valid (o_:T_api_Obs) (r:Int) (h:Ok (.agg (c_api_Obs o_))→R16_Valid o_=some r):Sp Tryz.prog 17 [.im (.agg (c_api_Obs o_))] (.im (nI r)):=by
 refine sp_of rfl [700001] rfl rfl rfl (Nat.le_of_ble_eq_true rfl) rfl fun hk=>?_
 replace h:=h hk.1
 have z1:lZ o_.Traces:=ok_len (Ok.agg_at hk.1 1 rfl)
 unfold R16_Valid at h
 conv=>whnf
 obtain ⟨y54,hc,hk52⟩:=bind_some h
 clear h
 have h:=hc
 clear hc
 refine Cut.mk (mkSt [(1,.im (.ref (c_api_Obs o_))),(14,.im (nB y54))] [] []) (True) (hT) ?_ (fun hp=>?_)
 conv=>whnf
 refine Both.mk ?_ ?_<;>intro b55
 replace b55:=beq_ff b55
 obtain ⟨h,b55d⟩:=cfd b55 h
 conv=>whnf
 iterate 2 (refine Both.yes (ff_beq b55) ?_;(conv=>whnf))
 refine Both.no b55 ?_
 conv=>whnf
 cases h
 exact Join.mk (eA [])
 replace b55:=beq_ft b55
 obtain ⟨h,b55d⟩:=ctd b55 h
 conv=>whnf
 iterate 2 (refine Both.no (tf_beq b55) ?_;(conv=>whnf))
 refine Both.yes b55 ?_
 conv=>whnf
 cases h
 exact Join.mk (eA [])
 replace h:=hk52
 conv=>whnf
 refine Both.mk ?_ ?_<;>intro b56
 replace h:=cond_t b56 h
 conv=>whnf
 cases h
 conv=>whnf
 exact ⟨rfl,rfl⟩
 replace h:=cond_f b56 h
 conv=>whnf
 refine Nf.mk (List.length o_.Traces) len_map ?_
 conv=>whnf
 refine Both.mk ?_ ?_<;>intro b57
 obtain ⟨h,b57d⟩:=ctd b57 h
 conv=>whnf
 cases h
 conv=>whnf
 exact ⟨rfl,rfl⟩
 obtain ⟨h,b57d⟩:=cfd b57 h
 conv=>whnf
 obtain ⟨oc,hc,hk58⟩:=bind_some h
 clear h
 have h:=hc
 clear hc
 refine Cut.mkS oc (Y:=Unit) (fun (_:Unit)=>mkSt [(1,.im (.ref (c_api_Obs o_)))] [] []) (fun (_:Unit)=>True) (by rintro ⟨⟩;exact (hT)) ?_ ?_
 conv=>whnf
 refine Loops.iter (fun (s:Nat)=>R16_Valid.s2 o_ s) (fun i129=>mkSt [(1,.im (.ref (c_api_Obs o_))),(3,.im (nI (↑i129:Int)))] [] []) (fun i129=>True) h (eA []) (by rintro i129;exact (hT)) ?_
 clear h
 rintro k i129 o hp h ho147
 replace h:R16_Valid.s2 o_ i129=some o:=h
 unfold R16_Valid.s2 at h
 conv=>whnf
 refine Nf.mk (List.length o_.Traces) len_map ?_
 conv=>whnf
 refine Both.mk ?_ ?_<;>intro b148
 obtain ⟨h,b148d⟩:=ctd b148 h
 conv=>whnf
 obtain ⟨e149,he149,h⟩:=idxn_some h
 refine ⟨_,⟨(by omega),map_at he149,rfl⟩,?_⟩
 conv=>whnf
 refine Side.mk rfl ?_
 conv=>whnf
 refine Side.mk rfl ?_
 conv=>whnf
 refine Side.mk rfl ?_
 conv=>whnf
 obtain ⟨c150,hc150,h⟩:=bind_some h
 refine ⟨_,(sp_R01_Check e149.In o_.Inputs c150 (fun _ _=>hc150)),?_⟩
 conv=>whnf
 refine Both.mk ?_ ?_<;>intro b151
 obtain ⟨h,b151d⟩:=ctd b151 h
 conv=>whnf
 cases h
 have ho147:_=_:=ho147
 cases ho147
 replace h:some _=some _:=hk58
 cases h
 conv=>whnf
 exact ⟨rfl,rfl⟩
 obtain ⟨h,b151d⟩:=cfd b151 h
 conv=>whnf
 refine Side.mk rfl ?_
 conv=>whnf
 refine Side.mk rfl ?_
 conv=>whnf
 refine Nf.mk (List.length e149.In) len_map ?_
 conv=>whnf
 refine Both.mk ?_ ?_<;>intro b152
 obtain ⟨h,b152d⟩:=ctd b152 h
 conv=>whnf
 cases h
 have ho147:_=_:=ho147
 cases ho147
 replace h:some _=some _:=hk58
 cases h
 conv=>whnf
 exact ⟨rfl,rfl⟩
 obtain ⟨h,b152d⟩:=cfd b152 h
 conv=>whnf
 refine Side.mk rfl ?_
 conv=>whnf
 obtain ⟨c153,hc153,h⟩:=bind_some h
 refine ⟨_,(sp_R16_Proper e149 o_.Inputs c153 (fun _ _=>hc153)),?_⟩
 conv=>whnf
 refine Both.mk ?_ ?_<;>intro b154
 obtain ⟨h,b154d⟩:=ctd b154 h
 conv=>whnf
 cases h
 have ho147:_=_:=ho147
 cases ho147
 replace h:some _=some _:=hk58
 cases h
 conv=>whnf
 exact ⟨rfl,rfl⟩
 obtain ⟨h,b154d⟩:=cfd b154 h
 conv=>whnf
 obtain ⟨y160,hc,hk156⟩:=bind_some h
 clear h
 have h:=hc
 clear hc
 refine Cut.mk (mkSt [(1,.im (.ref (c_api_Obs o_))),(3,.im (nI (↑i129:Int))),(64,.im (nB y160))] [] []) (True) (hT) ?_ (fun hp=>?_)
 conv=>whnf
 refine Both.mk ?_ ?_<;>intro b161
 replace b161:=beq_tt b161
 obtain ⟨h,b161d⟩:=ctd b161 h
 conv=>whnf
 iterate 3 (refine Both.yes (tt_beq b161) ?_;(conv=>whnf))
 refine Arith.mk (by show inR _;unfold inR;omega) ?_
 conv=>whnf
 refine Both.yes (tt_beq b161) ?_
 conv=>whnf
 obtain ⟨e162,he162z,he162,h⟩:=idx_some h
 refine ⟨_,⟨he162z,map_at he162,rfl⟩,?_⟩
 conv=>whnf
 iterate 3 (refine Both.yes (tt_beq b161) ?_;(conv=>whnf))
 refine Side.mk rfl ?_
 conv=>whnf
 refine Both.yes (tt_beq b161) ?_
 conv=>whnf
 refine Side.mk rfl ?_
 conv=>whnf
 refine Both.yes (tt_beq b161) ?_
 conv=>whnf
 obtain ⟨c163,hc163,h⟩:=bind_some h
 refine ⟨_,(sp_R01_Compare e162.In e149.In c163 (fun _ _=>hc163)),?_⟩
 conv=>whnf
 refine Both.yes (tt_beq b161) ?_
 conv=>whnf
 refine Both.yes b161 ?_
 conv=>whnf
 cases h
 exact Join.mk (eA [])
 replace b161:=beq_tf b161
 obtain ⟨h,b161d⟩:=cfd b161 h
 conv=>whnf
 iterate 10 (refine Both.no (ft_beq b161) ?_;(conv=>whnf))
 refine Both.no b161 ?_
 conv=>whnf
 cases h
 exact Join.mk (eA [])
 replace h:=hk156
 conv=>whnf
 refine Both.mk ?_ ?_<;>intro b164
 replace h:=cond_t b164 h
 conv=>whnf
 cases h
 have ho147:_=_:=ho147
 cases ho147
 replace h:some _=some _:=hk58
 cases h
 conv=>whnf
 exact ⟨rfl,rfl⟩
 replace h:=cond_f b164 h
 conv=>whnf
 refine Arith.mk (by show inR _;unfold inR;omega) ?_
 conv=>whnf
 cases h
 exact Nxt.mk _ ho147 (eA [])
 obtain ⟨h,b148d⟩:=cfd b148 h
 conv=>whnf
 cases h
 have ho147:_=_:=ho147
 cases ho147
 exact JoinS.mk' _ rfl (eA [])
 rintro ⟨⟩ rfl hp
 replace h:=sum_inl hk58
 conv=>whnf
 obtain ⟨c165,hc165,h⟩:=bind_some h
 refine ⟨_,(sp_R16_apart o_ c165 (fun _=>hc165)),?_⟩
 conv=>whnf
 cases h
 conv=>whnf
 exact ⟨rfl,rfl⟩
theorem sp_R21_Valid (q_:T_api_Oracle) (r:Bool) (h:Ok (.agg (c_api_Oracle q_))→R21_Valid q_=some r):Sp Tryz.prog 6 [.im (.agg (c_api_Oracle q_))] (.im (nB r)):=by
 refine sp_of rfl [700001] rfl rfl rfl (Nat.le_of_ble_eq_true rfl) rfl fun hk=>?_
 replace h:=h hk.1
 have z1:lZ q_.Device.M.Next:=ok_len (Ok.agg_at hk.1 2 rfl)
 have z2:lZ q_.Device.M.Out:=ok_len (Ok.agg_at hk.1 3 rfl)
 have z3:lZ q_.Device.Latency.Step:=ok_len (Ok.agg_at hk.1 6 rfl)
 have z4:lZ q_.Obs.Traces:=ok_len (Ok.agg_at hk.1 16 rfl)
 unfold R21_Valid at h
 conv=>whnf
 obtain ⟨y61,hc,hk52⟩:=bind_some h
 clear h
 have h:=hc
 clear hc
 refine Cut.mk (mkSt [(2,.im (nB y61))] [] []) (True) (hT) ?_ (fun hp=>?_)
 conv=>whnf
 obtain ⟨c62,hc62,h⟩:=bind_some h
 refine ⟨_,(sp_R19_Valid q_.Device c62 (fun _=>hc62)),?_⟩
 conv=>whnf
 refine Both.mk ?_ ?_<;>intro b63
 replace b63:=beq_tt b63
 obtain ⟨h,b63d⟩:=ctd b63 h
 conv=>whnf
 iterate 2 (refine Both.yes (tt_beq b63) ?_;(conv=>whnf))
 obtain ⟨c64,hc64,h⟩:=bind_some h
 refine ⟨_,(sp_R16_Valid q_.Obs c64 (fun _=>hc64)),?_⟩
 conv=>whnf
 refine Both.yes (tt_beq b63) ?_
 conv=>whnf
 refine Both.yes b63 ?_
 conv=>whnf
 refine Both.mk ?_ ?_<;>intro b65
 replace b65:=beq_tt b65
 obtain ⟨h,b65d⟩:=ctd b65 h
 conv=>whnf
 iterate 7 (refine Both.yes (tt_beq b65) ?_;(conv=>whnf))
 refine Both.yes b65 ?_
 conv=>whnf
 refine Both.mk ?_ ?_<;>intro b66
 replace b66:=beq_tt b66
 obtain ⟨h,b66d⟩:=ctd b66 h
 conv=>whnf
 iterate 2 (refine Both.yes (tt_beq b66) ?_;(conv=>whnf))
 refine Both.yes b66 ?_
 conv=>whnf
 refine Both.mk ?_ ?_<;>intro b67
 replace b67:=beq_tt b67
 obtain ⟨h,b67d⟩:=ctd b67 h
 conv=>whnf
 iterate 2 (refine Both.yes (tt_beq b67) ?_;(conv=>whnf))
 refine Both.yes b67 ?_
 conv=>whnf
 refine Both.mk ?_ ?_<;>intro b68
 replace b68:=beq_tt b68
 obtain ⟨h,b68d⟩:=ctd b68 h
 conv=>whnf
 iterate 4 (refine Both.yes (tt_beq b68) ?_;(conv=>whnf))
 refine Both.yes b68 ?_
 conv=>whnf
 refine Both.mk ?_ ?_<;>intro b69
 replace b69:=beq_tt b69
 obtain ⟨h,b69d⟩:=ctd b69 h
 conv=>whnf
 iterate 2 (refine Both.yes (tt_beq b69) ?_;(conv=>whnf))
 refine Both.yes b69 ?_
 conv=>whnf
 cases h
 exact Join.mk (eA [])
 replace b69:=beq_tf b69
 obtain ⟨h,b69d⟩:=cfd b69 h
 conv=>whnf
 iterate 2 (refine Both.no (ft_beq b69) ?_;(conv=>whnf))
 refine Both.no b69 ?_
 conv=>whnf
 cases h
 exact Join.mk (eA [])
 replace b68:=beq_tf b68
 obtain ⟨h,b68d⟩:=cfd b68 h
 conv=>whnf
 iterate 4 (refine Both.no (ft_beq b68) ?_;(conv=>whnf))
 refine Both.no b68 ?_
 conv=>whnf
 iterate 4 (refine Both.no rfl ?_;(conv=>whnf))
 cases h
 exact Join.mk (eA [])
 replace b67:=beq_tf b67
 obtain ⟨h,b67d⟩:=cfd b67 h
 conv=>whnf
 iterate 2 (refine Both.no (ft_beq b67) ?_;(conv=>whnf))
 refine Both.no b67 ?_
 conv=>whnf
 iterate 10 (refine Both.no rfl ?_;(conv=>whnf))
 cases h
 exact Join.mk (eA [])
 replace b66:=beq_tf b66
 obtain ⟨h,b66d⟩:=cfd b66 h
 conv=>whnf
 iterate 2 (refine Both.no (ft_beq b66) ?_;(conv=>whnf))
 refine Both.no b66 ?_
 conv=>whnf
 iterate 14 (refine Both.no rfl ?_;(conv=>whnf))
 cases h
 exact Join.mk (eA [])
 replace b65:=beq_tf b65
 obtain ⟨h,b65d⟩:=cfd b65 h
 conv=>whnf
 iterate 7 (refine Both.no (ft_beq b65) ?_;(conv=>whnf))
 refine Both.no b65 ?_
 conv=>whnf
 iterate 18 (refine Both.no rfl ?_;(conv=>whnf))
 cases h
 exact Join.mk (eA [])
 replace b63:=beq_tf b63
 obtain ⟨h,b63d⟩:=cfd b63 h
 conv=>whnf
 iterate 3 (refine Both.no (ft_beq b63) ?_;(conv=>whnf))
 refine Both.no b63 ?_
 conv=>whnf
 iterate 27 (refine Both.no rfl ?_;(conv=>whnf))
 cases h
 exact Join.mk (eA [])
 replace h:=hk52
 conv=>whnf
 cases h
 conv=>whnf
 exact ⟨rfl,rfl⟩
theorem sp_device_New (m_:T_api_Mealy) (l_:T_api_Latency) (f_:T_api_Faults) (seed_:Int) (r:T_api_Device×Int) (h:Ok (.agg (c_api_Mealy m_))→Ok (.agg (c_api_Latency l_))→Ok (.agg (c_api_Faults f_))→Ok (nU seed_)→device_New m_ l_ f_ seed_=some r):Sp Tryz.prog 43 [.im (.agg (c_api_Mealy m_)),.im (.agg (c_api_Latency l_)),.im (.agg (c_api_Faults f_)),.im (nU seed_)] (.tup [.agg (c_api_Device r.1),nI r.2]):=by
 refine sp_of rfl [700004,700005,700006] rfl rfl rfl (Nat.le_of_ble_eq_true rfl) rfl fun hk=>?_
 replace h:=h hk.1 hk.2.1 hk.2.2.1 hk.2.2.2.1
 have z1:lZ m_.Next:=ok_len (Ok.agg_at hk.1 2 rfl)
 have z2:lZ m_.Out:=ok_len (Ok.agg_at hk.1 3 rfl)
 have z3:lZ l_.Step:=ok_len (Ok.agg_at hk.2.1 0 rfl)
 unfold device_New at h
 conv=>whnf
 refine Side.mk rfl ?_
 conv=>whnf
 refine Side.mk rfl ?_
 conv=>whnf
 obtain ⟨c51,hc51,h⟩:=bind_some h
 refine ⟨_,(sp_device_Valid (⟨m_,m_.Start,false,l_,f_,seed_,0,0,0⟩:T_api_Device) c51 (fun _=>hc51)),?_⟩
 conv=>whnf
 refine Both.mk ?_ ?_<;>intro b52
 obtain ⟨h,b52d⟩:=ctd b52 h
 conv=>whnf
 refine Side.mk rfl ?_
 conv=>whnf
 cases h
 conv=>whnf
 refine Side.mk ⟨rfl,trivial⟩ ?_
 conv=>whnf
 exact ⟨rfl,rfl⟩
 obtain ⟨h,b52d⟩:=cfd b52 h
 conv=>whnf
 refine Side.mk rfl ?_
 conv=>whnf
 obtain ⟨c53,hc53,h⟩:=bind_some h
 refine ⟨_,(sp_device_copied (⟨m_,m_.Start,false,l_,f_,seed_,0,0,0⟩:T_api_Device) c53 (fun _=>hc53)),?_⟩
 conv=>whnf
 refine Side.mk rfl ?_
 conv=>whnf
 cases h
 conv=>whnf
 refine Side.mk ⟨rfl,trivial⟩ ?_
 conv=>whnf
 exact ⟨rfl,rfl⟩
theorem sp_L21_gate (r:T_api_Device×Int) (h:L21_gate=some r):Sp Tryz.prog 18 [] (.tup [.agg (c_api_Device r.1),nI r.2]):=by
 refine sp_of rfl [] rfl rfl rfl (Nat.le_of_ble_eq_true rfl) rfl fun hk=>?_
 unfold L21_gate at h
 conv=>whnf
 refine Side.mk rfl ?_
 conv=>whnf
 refine Side.mk rfl ?_
 conv=>whnf
 obtain ⟨c51,hc51,h⟩:=bind_some h
 refine ⟨_,(sp_device_New (⟨2,0,[[1,0],[1,0]],[[1,0],[1,2]]⟩:T_api_Mealy) (⟨[1,1],1⟩:T_api_Latency) (⟨0,0,0⟩:T_api_Faults) 7 c51 (fun _ _ _ _=>hc51)),?_⟩
 conv=>whnf
 refine Side.mk rfl ?_
 conv=>whnf
 cases h
 conv=>whnf
 refine Side.mk ⟨rfl,trivial⟩ ?_
 conv=>whnf
 exact ⟨rfl,rfl⟩
theorem sp_observe_New (inputs_:Int) (r:T_api_Obs×Int) (h:Ok (nI inputs_)→observe_New inputs_=some r):Sp Tryz.prog 45 [.im (nI inputs_)] (.tup [.agg (c_api_Obs r.1),nI r.2]):=by
 refine sp_of rfl [] rfl rfl rfl (Nat.le_of_ble_eq_true rfl) rfl fun hk=>?_
 replace h:=h hk.1
 unfold observe_New at h
 conv=>whnf
 obtain ⟨y54,hc,hk52⟩:=bind_some h
 clear h
 have h:=hc
 clear hc
 refine Cut.mk (mkSt [(0,.im (nI inputs_)),(2,.own 64 1 0),(9,.im (nB y54))] [(64,.box 35 2)] [(64,0,.im (nI 0)),(64,1,.im (.val (.slice none 0 0)))]) (True) (hT) ?_ (fun hp=>?_)
 conv=>whnf
 refine Both.mk ?_ ?_<;>intro b55
 replace b55:=beq_ff b55
 obtain ⟨h,b55d⟩:=cfd b55 h
 conv=>whnf
 refine Both.yes (ff_beq b55) ?_
 conv=>whnf
 refine Both.no b55 ?_
 conv=>whnf
 cases h
 exact Join.mk (eA [(64,some 2)])
 replace b55:=beq_ft b55
 obtain ⟨h,b55d⟩:=ctd b55 h
 conv=>whnf
 refine Both.no (tf_beq b55) ?_
 conv=>whnf
 refine Both.yes b55 ?_
 conv=>whnf
 cases h
 exact Join.mk (eA [(64,some 2)])
 replace h:=hk52
 conv=>whnf
 refine Both.mk ?_ ?_<;>intro b56
 replace h:=cond_t b56 h
 conv=>whnf
 refine Side.mk rfl ?_
 conv=>whnf
 cases h
 conv=>whnf
 refine Side.mk ⟨rfl,trivial⟩ ?_
 conv=>whnf
 exact ⟨rfl,rfl⟩
 replace h:=cond_f b56 h
 conv=>whnf
 refine Side.mk rfl ?_
 conv=>whnf
 cases h
 conv=>whnf
 refine Side.mk ⟨rfl,trivial⟩ ?_
 conv=>whnf
 exact ⟨rfl,rfl⟩
theorem sp_oracle_New (d_:T_api_Device) (votes_:Int) (tries_:Int) (r:T_api_Oracle×Int) (h:Ok (.agg (c_api_Device d_))→Ok (nI votes_)→Ok (nI tries_)→oracle_New d_ votes_ tries_=some r):Sp Tryz.prog 19 [.im (.agg (c_api_Device d_)),.im (nI votes_),.im (nI tries_)] (.tup [.agg (c_api_Oracle r.1),nI r.2]):=by
 refine sp_of rfl [700003] rfl rfl rfl (Nat.le_of_ble_eq_true rfl) rfl fun hk=>?_
 replace h:=h hk.1 hk.2.1 hk.2.2.1
 have z1:lZ d_.M.Next:=ok_len (Ok.agg_at hk.1 2 rfl)
 have z2:lZ d_.M.Out:=ok_len (Ok.agg_at hk.1 3 rfl)
 have z3:lZ d_.Latency.Step:=ok_len (Ok.agg_at hk.1 6 rfl)
 unfold oracle_New at h
 conv=>whnf
 obtain ⟨c51,hc51,h⟩:=bind_some h
 refine ⟨_,(sp_device_Valid d_ c51 (fun _=>hc51)),?_⟩
 conv=>whnf
 refine Both.mk ?_ ?_<;>intro b52
 obtain ⟨h,b52d⟩:=ctd b52 h
 conv=>whnf
 refine Side.mk rfl ?_
 conv=>whnf
 cases h
 conv=>whnf
 refine Side.mk ⟨rfl,trivial⟩ ?_
 conv=>whnf
 exact ⟨rfl,rfl⟩
 obtain ⟨h,b52d⟩:=cfd b52 h
 conv=>whnf
 obtain ⟨y58,hc,hk54⟩:=bind_some h
 clear h
 have h:=hc
 clear hc
 refine Cut.mk (mkSt [(1,.im (nI votes_)),(2,.im (nI tries_)),(3,.im (.ref (c_api_Device d_))),(6,.own 64 1 0),(31,.im (nB y58))] [(64,.box 37 21)] [(64,0,.im (nI 0)),(64,1,.im (nI 0)),(64,2,.im (.val (.slice none 0 0))),(64,3,.im (.val (.slice none 0 0))),(64,4,.im (nI 0)),(64,5,.im (nB false)),(64,6,.im (.val (.slice none 0 0))),(64,7,.im (nI 0)),(64,8,.im (nI 0)),(64,9,.im (nI 0)),(64,10,.im (nI 0)),(64,11,.im (nU 0)),(64,12,.im (nI 0)),(64,13,.im (nI 0)),(64,14,.im (nI 0)),(64,15,.im (nI 0)),(64,16,.im (.val (.slice none 0 0))),(64,17,.im (nI 0)),(64,18,.im (nI 0)),(64,19,.im (nI 0)),(64,20,.im (nI 0))]) (True) (hT) ?_ (fun hp=>?_)
 conv=>whnf
 refine Both.mk ?_ ?_<;>intro b59
 replace b59:=beq_ff b59
 obtain ⟨h,b59d⟩:=cfd b59 h
 conv=>whnf
 refine Both.yes (ff_beq b59) ?_
 conv=>whnf
 refine Both.no b59 ?_
 conv=>whnf
 refine Both.mk ?_ ?_<;>intro b60
 replace b60:=beq_ff b60
 obtain ⟨h,b60d⟩:=cfd b60 h
 conv=>whnf
 iterate 2 (refine Both.yes (ff_beq b60) ?_;(conv=>whnf))
 refine Both.no b60 ?_
 conv=>whnf
 refine Both.mk ?_ ?_<;>intro b61
 replace b61:=beq_ff b61
 obtain ⟨h,b61d⟩:=cfd b61 h
 conv=>whnf
 refine Both.yes (ff_beq b61) ?_
 conv=>whnf
 refine Both.no b61 ?_
 conv=>whnf
 cases h
 exact Join.mk (eA [(64,some 6)])
 replace b61:=beq_ft b61
 obtain ⟨h,b61d⟩:=ctd b61 h
 conv=>whnf
 refine Both.no (tf_beq b61) ?_
 conv=>whnf
 refine Both.yes b61 ?_
 conv=>whnf
 cases h
 exact Join.mk (eA [(64,some 6)])
 replace b60:=beq_ft b60
 obtain ⟨h,b60d⟩:=ctd b60 h
 conv=>whnf
 iterate 2 (refine Both.no (tf_beq b60) ?_;(conv=>whnf))
 refine Both.yes b60 ?_
 conv=>whnf
 iterate 2 (refine Both.no rfl ?_;(conv=>whnf))
 refine Both.yes rfl ?_
 conv=>whnf
 cases h
 exact Join.mk (eA [(64,some 6)])
 replace b59:=beq_ft b59
 obtain ⟨h,b59d⟩:=ctd b59 h
 conv=>whnf
 refine Both.no (tf_beq b59) ?_
 conv=>whnf
 refine Both.yes b59 ?_
 conv=>whnf
 iterate 3 (refine Both.no rfl ?_;(conv=>whnf))
 refine Both.yes rfl ?_
 conv=>whnf
 iterate 2 (refine Both.no rfl ?_;(conv=>whnf))
 refine Both.yes rfl ?_
 conv=>whnf
 cases h
 exact Join.mk (eA [(64,some 6)])
 replace h:=hk54
 conv=>whnf
 refine Both.mk ?_ ?_<;>intro b62
 replace h:=cond_t b62 h
 conv=>whnf
 refine Side.mk rfl ?_
 conv=>whnf
 cases h
 conv=>whnf
 refine Side.mk ⟨rfl,trivial⟩ ?_
 conv=>whnf
 exact ⟨rfl,rfl⟩
 replace h:=cond_f b62 h
 conv=>whnf
 obtain ⟨c63,hc63,h⟩:=bind_some h
 refine ⟨_,(sp_observe_New d_.M.Inputs c63 (fun _=>hc63)),?_⟩
 conv=>whnf
 refine Side.mk rfl ?_
 conv=>whnf
 refine Both.mk ?_ ?_<;>intro b64
 obtain ⟨h,b64d⟩:=ctd b64 h
 conv=>whnf
 refine Side.mk rfl ?_
 conv=>whnf
 cases h
 conv=>whnf
 refine Side.mk ⟨rfl,trivial⟩ ?_
 conv=>whnf
 exact ⟨rfl,rfl⟩
 obtain ⟨h,b64d⟩:=cfd b64 h
 conv=>whnf
 refine Side.mk rfl ?_
 conv=>whnf
 obtain ⟨c65,hc65,h⟩:=bind_some h
 refine ⟨_,(sp_oracle_copied (⟨d_,c63.1,votes_,tries_,0,0⟩:T_api_Oracle) c65 (fun _=>hc65)),?_⟩
 conv=>whnf
 refine Side.mk rfl ?_
 conv=>whnf
 cases h
 conv=>whnf
 refine Side.mk ⟨rfl,trivial⟩ ?_
 conv=>whnf
 exact ⟨rfl,rfl⟩
theorem sp_L21_awake (r:Bool) (h:L21_awake=some r):Sp Tryz.prog 7 [] (.im (nB r)):=by
 refine sp_of rfl [] rfl rfl rfl (Nat.le_of_ble_eq_true rfl) rfl fun hk=>?_
 unfold L21_awake at h
 conv=>whnf
 obtain ⟨c51,hc51,h⟩:=bind_some h
 refine ⟨_,(sp_L21_gate  c51 (hc51)),?_⟩
 conv=>whnf
 refine Side.mk rfl ?_
 conv=>whnf
 refine Side.mk rfl ?_
 conv=>whnf
 obtain ⟨c52,hc52,h⟩:=bind_some h
 refine ⟨_,(sp_oracle_New c51.1 2 3 c52 (fun _ _ _=>hc52)),?_⟩
 conv=>whnf
 refine Side.mk rfl ?_
 conv=>whnf
 refine Side.mk rfl ?_
 conv=>whnf
 obtain ⟨c53,hc53,h⟩:=bind_some h
 refine ⟨_,(sp_oracle_Ask c52.1 [0,1] c53 (fun _ _=>hc53)),?_⟩
 conv=>whnf
 refine Side.mk rfl ?_
 conv=>whnf
 refine Side.mk rfl ?_
 conv=>whnf
 obtain ⟨c54,hc54,h⟩:=bind_some h
 refine ⟨_,(sp_oracle_Ask c53.1 [0] c54 (fun _ _=>hc54)),?_⟩
 conv=>whnf
 refine Side.mk rfl ?_
 conv=>whnf
 obtain ⟨y66,hc,hk56⟩:=bind_some h
 clear h
 have h:=hc
 clear hc
 refine Cut.mk (mkSt [(0,.im (nB y66))] [] []) (True) (hT) ?_ (fun hp=>?_)
 conv=>whnf
 refine Both.mk ?_ ?_<;>intro b67
 replace b67:=beq_tt b67
 obtain ⟨h,b67d⟩:=ctd b67 h
 conv=>whnf
 refine Both.yes (tt_beq b67) ?_
 conv=>whnf
 refine Both.yes b67 ?_
 conv=>whnf
 refine Both.mk ?_ ?_<;>intro b68
 replace b68:=beq_tt b68
 obtain ⟨h,b68d⟩:=ctd b68 h
 conv=>whnf
 refine Both.yes (tt_beq b68) ?_
 conv=>whnf
 refine Both.yes b68 ?_
 conv=>whnf
 refine Both.mk ?_ ?_<;>intro b69
 replace b69:=beq_tt b69
 obtain ⟨h,b69d⟩:=ctd b69 h
 conv=>whnf
 refine Both.yes (tt_beq b69) ?_
 conv=>whnf
 refine Both.yes b69 ?_
 conv=>whnf
 refine Both.mk ?_ ?_<;>intro b70
 replace b70:=beq_tt b70
 obtain ⟨h,b70d⟩:=ctd b70 h
 conv=>whnf
 iterate 2 (refine Both.yes (tt_beq b70) ?_;(conv=>whnf))
 obtain ⟨c71,hc71,h⟩:=bind_some h
 refine ⟨_,(sp_R06_Ints c53.2.1 [1,2] c71 (fun _ _=>hc71)),?_⟩
 conv=>whnf
 refine Both.yes b70 ?_
 conv=>whnf
 refine Both.mk ?_ ?_<;>intro b72
 replace b72:=beq_tt b72
 replace h:=cond_t b72 h
 conv=>whnf
 iterate 2 (refine Both.yes (tt_beq b72) ?_;(conv=>whnf))
 obtain ⟨c73,hc73,h⟩:=bind_some h
 refine ⟨_,(sp_R06_Ints c54.2.1 [1] c73 (fun _ _=>hc73)),?_⟩
 conv=>whnf
 refine Both.yes b72 ?_
 conv=>whnf
 refine Both.mk ?_ ?_<;>intro b74
 replace b74:=beq_tt b74
 replace h:=cond_t b74 h
 conv=>whnf
 refine Side.mk rfl ?_
 conv=>whnf
 refine Both.yes (tt_beq b74) ?_
 conv=>whnf
 refine Side.mk rfl ?_
 conv=>whnf
 refine Both.yes (tt_beq b74) ?_
 conv=>whnf
 refine Both.yes b74 ?_
 conv=>whnf
 refine Both.mk ?_ ?_<;>intro b75
 replace b75:=beq_tt b75
 obtain ⟨h,b75d⟩:=ctd b75 h
 conv=>whnf
 refine Side.mk rfl ?_
 conv=>whnf
 refine Both.yes (tt_beq b75) ?_
 conv=>whnf
 refine Side.mk rfl ?_
 conv=>whnf
 refine Both.yes (tt_beq b75) ?_
 conv=>whnf
 refine Both.yes b75 ?_
 conv=>whnf
 cases h
 exact Join.mk (eA [])
 replace b75:=beq_tf b75
 obtain ⟨h,b75d⟩:=cfd b75 h
 conv=>whnf
 iterate 2 (refine Both.no (ft_beq b75) ?_;(conv=>whnf))
 refine Both.no b75 ?_
 conv=>whnf
 cases h
 exact Join.mk (eA [])
 replace b74:=beq_tf b74
 replace h:=cond_f b74 h
 conv=>whnf
 iterate 2 (refine Both.no (ft_beq b74) ?_;(conv=>whnf))
 refine Both.no b74 ?_
 conv=>whnf
 iterate 4 (refine Both.no rfl ?_;(conv=>whnf))
 cases h
 exact Join.mk (eA [])
 replace b72:=beq_tf b72
 replace h:=cond_f b72 h
 conv=>whnf
 iterate 2 (refine Both.no (ft_beq b72) ?_;(conv=>whnf))
 refine Both.no b72 ?_
 conv=>whnf
 iterate 8 (refine Both.no rfl ?_;(conv=>whnf))
 cases h
 exact Join.mk (eA [])
 replace b70:=beq_tf b70
 obtain ⟨h,b70d⟩:=cfd b70 h
 conv=>whnf
 iterate 2 (refine Both.no (ft_beq b70) ?_;(conv=>whnf))
 refine Both.no b70 ?_
 conv=>whnf
 iterate 12 (refine Both.no rfl ?_;(conv=>whnf))
 cases h
 exact Join.mk (eA [])
 replace b69:=beq_tf b69
 obtain ⟨h,b69d⟩:=cfd b69 h
 conv=>whnf
 refine Both.no (ft_beq b69) ?_
 conv=>whnf
 refine Both.no b69 ?_
 conv=>whnf
 iterate 16 (refine Both.no rfl ?_;(conv=>whnf))
 cases h
 exact Join.mk (eA [])
 replace b68:=beq_tf b68
 obtain ⟨h,b68d⟩:=cfd b68 h
 conv=>whnf
 refine Both.no (ft_beq b68) ?_
 conv=>whnf
 refine Both.no b68 ?_
 conv=>whnf
 iterate 19 (refine Both.no rfl ?_;(conv=>whnf))
 cases h
 exact Join.mk (eA [])
 replace b67:=beq_tf b67
 obtain ⟨h,b67d⟩:=cfd b67 h
 conv=>whnf
 refine Both.no (ft_beq b67) ?_
 conv=>whnf
 refine Both.no b67 ?_
 conv=>whnf
 iterate 22 (refine Both.no rfl ?_;(conv=>whnf))
 cases h
 exact Join.mk (eA [])
 replace h:=hk56
 conv=>whnf
 cases h
 conv=>whnf
 exact ⟨rfl,rfl⟩
theorem sp_R01_Same (a_:List Int) (b_:List Int) (r:Bool) (h:Ok (nL cI a_)→Ok (nL cI b_)→R01_Same a_ b_=some r):Sp Tryz.prog 66 [.im (nL cI a_),.im (nL cI b_)] (.im (nB r)):=by
 refine sp_of rfl [] rfl rfl rfl (Nat.le_of_ble_eq_true rfl) rfl fun hk=>?_
 replace h:=h hk.1 hk.2.1
 have z1:lZ a_:=ok_len hk.1
 have z2:lZ b_:=ok_len hk.2.1
 unfold R01_Same at h
 conv=>whnf
 obtain ⟨y55,hc,hk52⟩:=bind_some h
 clear h
 have h:=hc
 clear hc
 refine Cut.mk (mkSt [(4,.im (nB y55))] [] []) (True) (hT) ?_ (fun hp=>?_)
 conv=>whnf
 refine Nf.mk (List.length a_) len_map ?_
 conv=>whnf
 refine Nf.mk (List.length b_) len_map ?_
 conv=>whnf
 refine Both.mk ?_ ?_<;>intro b56
 replace b56:=beq_tt b56
 obtain ⟨h,b56d⟩:=ctd b56 h
 conv=>whnf
 iterate 2 (refine Both.yes (tt_beq b56) ?_;(conv=>whnf))
 obtain ⟨c57,hc57,h⟩:=bind_some h
 refine ⟨_,(sp_R01_Common a_ b_ c57 (fun _ _=>hc57)),?_⟩
 conv=>whnf
 iterate 2 (refine Both.yes (tt_beq b56) ?_;(conv=>whnf))
 refine Nf.mk (List.length a_) len_map ?_
 conv=>whnf
 refine Both.yes (tt_beq b56) ?_
 conv=>whnf
 refine Both.yes b56 ?_
 conv=>whnf
 cases h
 exact Join.mk (eA [])
 replace b56:=beq_tf b56
 obtain ⟨h,b56d⟩:=cfd b56 h
 conv=>whnf
 iterate 5 (refine Both.no (ft_beq b56) ?_;(conv=>whnf))
 refine Both.no b56 ?_
 conv=>whnf
 cases h
 exact Join.mk (eA [])
 replace h:=hk52
 conv=>whnf
 cases h
 conv=>whnf
 exact ⟨rfl,rfl⟩
end Go.Proofs.YtajipjnfegmlcaaGreatDoor.Sym

/-
  The contracts of the functions, read from the code by a program (ext.py): each function has its plain twin as its contract.
-/
namespace Go.Proofs.YtajipjnfegmlcaaGreatDoor.Sym
open Go.RowKit
set_option maxRecDepth 100000
set_option linter.unusedVariables false
set_option maxHeartbeats 4000000
theorem sp_R06_Lists (a_:List (List Int)) (b_:List (List Int)) (r:Bool) (h:Ok (nL (cL cI) a_)→Ok (nL (cL cI) b_)→R06_Lists a_ b_=some r):Sp Tryz.prog 89 [.im (nL (cL cI) a_),.im (nL (cL cI) b_)] (.im (nB r)):=by
 refine sp_of rfl [] rfl rfl rfl (Nat.le_of_ble_eq_true rfl) rfl fun hk=>?_
 replace h:=h hk.1 hk.2.1
 have z1:lZ a_:=ok_len hk.1
 have z2:lZ b_:=ok_len hk.2.1
 unfold R06_Lists at h
 conv=>whnf
 refine Nf.mk (List.length a_) len_map ?_
 conv=>whnf
 refine Nf.mk (List.length b_) len_map ?_
 conv=>whnf
 refine Both.mk ?_ ?_<;>intro b51
 obtain ⟨h,b51d⟩:=ctd b51 h
 conv=>whnf
 cases h
 conv=>whnf
 exact ⟨rfl,rfl⟩
 obtain ⟨h,b51d⟩:=cfd b51 h
 conv=>whnf
 obtain ⟨oc,hc,hk52⟩:=bind_some h
 clear h
 have h:=hc
 clear hc
 refine Cut.mkS oc (Y:=Unit) (fun (_:Unit)=>mkSt [] [] []) (fun (_:Unit)=>True) (by rintro ⟨⟩;exact (hT)) ?_ ?_
 conv=>whnf
 refine Loops.iter (fun (s:Nat)=>R06_Lists.s2 a_ b_ s) (fun i77=>mkSt [(0,.im (nL (cL cI) a_)),(1,.im (nL (cL cI) b_)),(5,.im (nI (↑i77:Int)))] [] []) (fun i77=>lZ a_∧lZ b_∧True) h (eA []) (by rintro i77;exact ((Holds.avl 0 rfl).and ((Holds.avl 1 rfl).and (hT)))) ?_
 clear h
 rintro k i77 o hp h ho83
 replace h:R06_Lists.s2 a_ b_ i77=some o:=h
 unfold R06_Lists.s2 at h
 obtain ⟨z89,z90,_⟩:=hp
 conv=>whnf
 refine Nf.mk (List.length a_) len_map ?_
 conv=>whnf
 refine Both.mk ?_ ?_<;>intro b84
 obtain ⟨h,b84d⟩:=ctd b84 h
 conv=>whnf
 obtain ⟨e85,he85,h⟩:=idxn_some h
 refine ⟨_,⟨(by omega),map_at he85,rfl⟩,?_⟩
 conv=>whnf
 obtain ⟨e86,he86,h⟩:=idxn_some h
 refine ⟨_,⟨(by omega),map_at he86,rfl⟩,?_⟩
 conv=>whnf
 obtain ⟨c87,hc87,h⟩:=bind_some h
 refine ⟨_,(sp_R06_Ints e85 e86 c87 (fun _ _=>hc87)),?_⟩
 conv=>whnf
 refine Both.mk ?_ ?_<;>intro b88
 replace h:=cond_t b88 h
 conv=>whnf
 cases h
 have ho83:_=_:=ho83
 cases ho83
 replace h:some _=some _:=hk52
 cases h
 conv=>whnf
 exact ⟨rfl,rfl⟩
 replace h:=cond_f b88 h
 conv=>whnf
 refine Arith.mk (by show inR _;unfold inR;omega) ?_
 conv=>whnf
 cases h
 exact Nxt.mk _ ho83 (eA [])
 obtain ⟨h,b84d⟩:=cfd b84 h
 conv=>whnf
 cases h
 have ho83:_=_:=ho83
 cases ho83
 exact JoinS.mk' _ rfl (eA [])
 rintro ⟨⟩ rfl hp
 replace h:=sum_inl hk52
 conv=>whnf
 cases h
 conv=>whnf
 exact ⟨rfl,rfl⟩
theorem sp_R06_Same (a_:T_api_Mealy) (b_:T_api_Mealy) (r:Bool) (h:Ok (.agg (c_api_Mealy a_))→Ok (.agg (c_api_Mealy b_))→R06_Same a_ b_=some r):Sp Tryz.prog 65 [.im (.agg (c_api_Mealy a_)),.im (.agg (c_api_Mealy b_))] (.im (nB r)):=by
 refine sp_of rfl [700002,700003] rfl rfl rfl (Nat.le_of_ble_eq_true rfl) rfl fun hk=>?_
 replace h:=h hk.1 hk.2.1
 have z1:lZ a_.Next:=ok_len (Ok.agg_at hk.1 2 rfl)
 have z2:lZ a_.Out:=ok_len (Ok.agg_at hk.1 3 rfl)
 have z3:lZ b_.Next:=ok_len (Ok.agg_at hk.2.1 2 rfl)
 have z4:lZ b_.Out:=ok_len (Ok.agg_at hk.2.1 3 rfl)
 unfold R06_Same at h
 conv=>whnf
 obtain ⟨y58,hc,hk52⟩:=bind_some h
 clear h
 have h:=hc
 clear hc
 refine Cut.mk (mkSt [(4,.im (nB y58))] [] []) (True) (hT) ?_ (fun hp=>?_)
 conv=>whnf
 refine Both.mk ?_ ?_<;>intro b59
 replace b59:=beq_tt b59
 obtain ⟨h,b59d⟩:=ctd b59 h
 conv=>whnf
 iterate 4 (refine Both.yes (tt_beq b59) ?_;(conv=>whnf))
 refine Both.yes b59 ?_
 conv=>whnf
 refine Both.mk ?_ ?_<;>intro b60
 replace b60:=beq_tt b60
 obtain ⟨h,b60d⟩:=ctd b60 h
 conv=>whnf
 iterate 4 (refine Both.yes (tt_beq b60) ?_;(conv=>whnf))
 obtain ⟨c61,hc61,h⟩:=bind_some h
 refine ⟨_,(sp_R06_Lists a_.Next b_.Next c61 (fun _ _=>hc61)),?_⟩
 conv=>whnf
 refine Both.yes b60 ?_
 conv=>whnf
 refine Both.mk ?_ ?_<;>intro b62
 replace b62:=beq_tt b62
 replace h:=cond_t b62 h
 conv=>whnf
 iterate 4 (refine Both.yes (tt_beq b62) ?_;(conv=>whnf))
 obtain ⟨c63,hc63,h⟩:=bind_some h
 refine ⟨_,(sp_R06_Lists a_.Out b_.Out c63 (fun _ _=>hc63)),?_⟩
 conv=>whnf
 refine Both.yes b62 ?_
 conv=>whnf
 cases h
 exact Join.mk (eA [])
 replace b62:=beq_tf b62
 replace h:=cond_f b62 h
 conv=>whnf
 iterate 4 (refine Both.no (ft_beq b62) ?_;(conv=>whnf))
 refine Both.no b62 ?_
 conv=>whnf
 cases h
 exact Join.mk (eA [])
 replace b60:=beq_tf b60
 obtain ⟨h,b60d⟩:=cfd b60 h
 conv=>whnf
 iterate 4 (refine Both.no (ft_beq b60) ?_;(conv=>whnf))
 refine Both.no b60 ?_
 conv=>whnf
 iterate 6 (refine Both.no rfl ?_;(conv=>whnf))
 cases h
 exact Join.mk (eA [])
 replace b59:=beq_tf b59
 obtain ⟨h,b59d⟩:=cfd b59 h
 conv=>whnf
 iterate 4 (refine Both.no (ft_beq b59) ?_;(conv=>whnf))
 refine Both.no b59 ?_
 conv=>whnf
 iterate 12 (refine Both.no rfl ?_;(conv=>whnf))
 cases h
 exact Join.mk (eA [])
 replace h:=hk52
 conv=>whnf
 cases h
 conv=>whnf
 exact ⟨rfl,rfl⟩
theorem sp_R19_Same (a_:T_api_Device) (b_:T_api_Device) (r:Bool) (h:Ok (.agg (c_api_Device a_))→Ok (.agg (c_api_Device b_))→R19_Same a_ b_=some r):Sp Tryz.prog 32 [.im (.agg (c_api_Device a_)),.im (.agg (c_api_Device b_))] (.im (nB r)):=by
 refine sp_of rfl [700002,700003] rfl rfl rfl (Nat.le_of_ble_eq_true rfl) rfl fun hk=>?_
 replace h:=h hk.1 hk.2.1
 have z1:lZ a_.M.Next:=ok_len (Ok.agg_at hk.1 2 rfl)
 have z2:lZ a_.M.Out:=ok_len (Ok.agg_at hk.1 3 rfl)
 have z3:lZ a_.Latency.Step:=ok_len (Ok.agg_at hk.1 6 rfl)
 have z4:lZ b_.M.Next:=ok_len (Ok.agg_at hk.2.1 2 rfl)
 have z5:lZ b_.M.Out:=ok_len (Ok.agg_at hk.2.1 3 rfl)
 have z6:lZ b_.Latency.Step:=ok_len (Ok.agg_at hk.2.1 6 rfl)
 unfold R19_Same at h
 conv=>whnf
 obtain ⟨y64,hc,hk52⟩:=bind_some h
 clear h
 have h:=hc
 clear hc
 refine Cut.mk (mkSt [(4,.im (nB y64))] [] []) (True) (hT) ?_ (fun hp=>?_)
 conv=>whnf
 obtain ⟨c65,hc65,h⟩:=bind_some h
 refine ⟨_,(sp_R06_Same a_.M b_.M c65 (fun _ _=>hc65)),?_⟩
 conv=>whnf
 refine Both.mk ?_ ?_<;>intro b66
 replace b66:=beq_tt b66
 replace h:=cond_t b66 h
 conv=>whnf
 iterate 4 (refine Both.yes (tt_beq b66) ?_;(conv=>whnf))
 refine Both.yes b66 ?_
 conv=>whnf
 refine Both.mk ?_ ?_<;>intro b67
 replace b67:=beq_tt b67
 obtain ⟨h,b67d⟩:=ctd b67 h
 conv=>whnf
 iterate 4 (refine Both.yes (tt_beq b67) ?_;(conv=>whnf))
 refine Both.yes b67 ?_
 conv=>whnf
 refine Both.mk ?_ ?_<;>intro b68
 replace b68:=beq_tt b68
 replace h:=cond_t b68 h
 conv=>whnf
 iterate 6 (refine Both.yes (tt_beq b68) ?_;(conv=>whnf))
 obtain ⟨c69,hc69,h⟩:=bind_some h
 refine ⟨_,(sp_R01_Same a_.Latency.Step b_.Latency.Step c69 (fun _ _=>hc69)),?_⟩
 conv=>whnf
 refine Both.yes b68 ?_
 conv=>whnf
 refine Both.mk ?_ ?_<;>intro b70
 replace b70:=beq_tt b70
 replace h:=cond_t b70 h
 conv=>whnf
 iterate 6 (refine Both.yes (tt_beq b70) ?_;(conv=>whnf))
 refine Both.yes b70 ?_
 conv=>whnf
 refine Both.mk ?_ ?_<;>intro b71
 replace b71:=beq_tt b71
 obtain ⟨h,b71d⟩:=ctd b71 h
 conv=>whnf
 iterate 4 (refine Both.yes (tt_beq b71) ?_;(conv=>whnf))
 refine Side.mk (by kernel_rfl) ?_
 conv=>whnf
 refine Nf.mk (decide (a_.Faults.Lost=b_.Faults.Lost)&&(decide (a_.Faults.Wrong=b_.Faults.Wrong)&&(decide (a_.Faults.Crash=b_.Faults.Crash)&&true))) rfl ?_
 conv=>whnf
 refine Both.yes b71 ?_
 conv=>whnf
 refine Both.mk ?_ ?_<;>intro b72
 replace b72:=beq_tt b72
 replace h:=cond_t b72 h
 conv=>whnf
 iterate 4 (refine Both.yes (tt_beq b72) ?_;(conv=>whnf))
 refine Both.yes b72 ?_
 conv=>whnf
 refine Both.mk ?_ ?_<;>intro b73
 replace b73:=beq_tt b73
 obtain ⟨h,b73d⟩:=ctd b73 h
 conv=>whnf
 iterate 4 (refine Both.yes (tt_beq b73) ?_;(conv=>whnf))
 refine Both.yes b73 ?_
 conv=>whnf
 refine Both.mk ?_ ?_<;>intro b74
 replace b74:=beq_tt b74
 obtain ⟨h,b74d⟩:=ctd b74 h
 conv=>whnf
 iterate 4 (refine Both.yes (tt_beq b74) ?_;(conv=>whnf))
 refine Both.yes b74 ?_
 conv=>whnf
 refine Both.mk ?_ ?_<;>intro b75
 replace b75:=beq_tt b75
 obtain ⟨h,b75d⟩:=ctd b75 h
 conv=>whnf
 iterate 4 (refine Both.yes (tt_beq b75) ?_;(conv=>whnf))
 refine Both.yes b75 ?_
 conv=>whnf
 cases h
 exact Join.mk (eA [])
 replace b75:=beq_tf b75
 obtain ⟨h,b75d⟩:=cfd b75 h
 conv=>whnf
 iterate 4 (refine Both.no (ft_beq b75) ?_;(conv=>whnf))
 refine Both.no b75 ?_
 conv=>whnf
 cases h
 exact Join.mk (eA [])
 replace b74:=beq_tf b74
 obtain ⟨h,b74d⟩:=cfd b74 h
 conv=>whnf
 iterate 4 (refine Both.no (ft_beq b74) ?_;(conv=>whnf))
 refine Both.no b74 ?_
 conv=>whnf
 iterate 6 (refine Both.no rfl ?_;(conv=>whnf))
 cases h
 exact Join.mk (eA [])
 replace b73:=beq_tf b73
 obtain ⟨h,b73d⟩:=cfd b73 h
 conv=>whnf
 iterate 4 (refine Both.no (ft_beq b73) ?_;(conv=>whnf))
 refine Both.no b73 ?_
 conv=>whnf
 iterate 12 (refine Both.no rfl ?_;(conv=>whnf))
 cases h
 exact Join.mk (eA [])
 replace b72:=beq_tf b72
 replace h:=cond_f b72 h
 conv=>whnf
 iterate 4 (refine Both.no (ft_beq b72) ?_;(conv=>whnf))
 refine Both.no b72 ?_
 conv=>whnf
 iterate 18 (refine Both.no rfl ?_;(conv=>whnf))
 cases h
 exact Join.mk (eA [])
 replace b71:=beq_tf b71
 obtain ⟨h,b71d⟩:=cfd b71 h
 conv=>whnf
 iterate 4 (refine Both.no (ft_beq b71) ?_;(conv=>whnf))
 refine Both.no b71 ?_
 conv=>whnf
 iterate 24 (refine Both.no rfl ?_;(conv=>whnf))
 cases h
 exact Join.mk (eA [])
 replace b70:=beq_tf b70
 replace h:=cond_f b70 h
 conv=>whnf
 iterate 6 (refine Both.no (ft_beq b70) ?_;(conv=>whnf))
 refine Both.no b70 ?_
 conv=>whnf
 iterate 30 (refine Both.no rfl ?_;(conv=>whnf))
 cases h
 exact Join.mk (eA [])
 replace b68:=beq_tf b68
 replace h:=cond_f b68 h
 conv=>whnf
 iterate 6 (refine Both.no (ft_beq b68) ?_;(conv=>whnf))
 refine Both.no b68 ?_
 conv=>whnf
 iterate 38 (refine Both.no rfl ?_;(conv=>whnf))
 cases h
 exact Join.mk (eA [])
 replace b67:=beq_tf b67
 obtain ⟨h,b67d⟩:=cfd b67 h
 conv=>whnf
 iterate 4 (refine Both.no (ft_beq b67) ?_;(conv=>whnf))
 refine Both.no b67 ?_
 conv=>whnf
 iterate 46 (refine Both.no rfl ?_;(conv=>whnf))
 cases h
 exact Join.mk (eA [])
 replace b66:=beq_tf b66
 replace h:=cond_f b66 h
 conv=>whnf
 iterate 4 (refine Both.no (ft_beq b66) ?_;(conv=>whnf))
 refine Both.no b66 ?_
 conv=>whnf
 iterate 52 (refine Both.no rfl ?_;(conv=>whnf))
 cases h
 exact Join.mk (eA [])
 replace h:=hk52
 conv=>whnf
 cases h
 conv=>whnf
 exact ⟨rfl,rfl⟩
theorem sp_R06_SameTraces (a_:List T_api_Trace) (b_:List T_api_Trace) (r:Bool) (h:Ok (nL c_api_Trace a_)→Ok (nL c_api_Trace b_)→R06_SameTraces a_ b_=some r):Sp Tryz.prog 67 [.im (nL c_api_Trace a_),.im (nL c_api_Trace b_)] (.im (nB r)):=by
 refine sp_of rfl [] rfl rfl rfl (Nat.le_of_ble_eq_true rfl) rfl fun hk=>?_
 replace h:=h hk.1 hk.2.1
 have z1:lZ a_:=ok_len hk.1
 have z2:lZ b_:=ok_len hk.2.1
 unfold R06_SameTraces at h
 conv=>whnf
 refine Nf.mk (List.length a_) len_map ?_
 conv=>whnf
 refine Nf.mk (List.length b_) len_map ?_
 conv=>whnf
 refine Both.mk ?_ ?_<;>intro b51
 obtain ⟨h,b51d⟩:=ctd b51 h
 conv=>whnf
 cases h
 conv=>whnf
 exact ⟨rfl,rfl⟩
 obtain ⟨h,b51d⟩:=cfd b51 h
 conv=>whnf
 obtain ⟨oc,hc,hk52⟩:=bind_some h
 clear h
 have h:=hc
 clear hc
 refine Cut.mkS oc (Y:=Unit) (fun (_:Unit)=>mkSt [] [] []) (fun (_:Unit)=>True) (by rintro ⟨⟩;exact (hT)) ?_ ?_
 conv=>whnf
 refine Loops.iter (fun (s:Nat)=>R06_SameTraces.s2 a_ b_ s) (fun i141=>mkSt [(0,.im (nL c_api_Trace a_)),(1,.im (nL c_api_Trace b_)),(5,.im (nI (↑i141:Int)))] [] []) (fun i141=>lZ a_∧lZ b_∧True) h (eA []) (by rintro i141;exact ((Holds.avl 0 rfl).and ((Holds.avl 1 rfl).and (hT)))) ?_
 clear h
 rintro k i141 o hp h ho163
 replace h:R06_SameTraces.s2 a_ b_ i141=some o:=h
 unfold R06_SameTraces.s2 at h
 obtain ⟨z185,z186,_⟩:=hp
 conv=>whnf
 refine Nf.mk (List.length a_) len_map ?_
 conv=>whnf
 refine Both.mk ?_ ?_<;>intro b164
 obtain ⟨h,b164d⟩:=ctd b164 h
 conv=>whnf
 obtain ⟨y174,hc,hk166⟩:=bind_some h
 clear h
 have h:=hc
 clear hc
 refine Cut.mk (mkSt [(0,.im (nL c_api_Trace a_)),(1,.im (nL c_api_Trace b_)),(5,.im (nI (↑i141:Int))),(42,.im (nB y174))] [] []) (lZ a_∧lZ b_∧True) ((Holds.avl 0 rfl).and ((Holds.avl 1 rfl).and (hT))) ?_ (fun hp=>?_)
 conv=>whnf
 obtain ⟨e175,he175,h⟩:=idxn_some h
 refine ⟨_,⟨(by omega),map_at he175,rfl⟩,?_⟩
 conv=>whnf
 obtain ⟨e176,he176,h⟩:=idxn_some h
 refine ⟨_,⟨(by omega),map_at he176,rfl⟩,?_⟩
 conv=>whnf
 obtain ⟨c177,hc177,h⟩:=bind_some h
 refine ⟨_,(sp_R06_Ints e175.In e176.In c177 (fun _ _=>hc177)),?_⟩
 conv=>whnf
 refine Both.mk ?_ ?_<;>intro b178
 replace b178:=beq_ff b178
 replace h:=cond_f b178 h
 conv=>whnf
 iterate 2 (refine Both.yes (ff_beq b178) ?_;(conv=>whnf))
 obtain ⟨e179,he179,h⟩:=idxn_some h
 refine ⟨_,⟨(by omega),map_at he179,rfl⟩,?_⟩
 conv=>whnf
 iterate 5 (refine Both.yes (ff_beq b178) ?_;(conv=>whnf))
 obtain ⟨e180,he180,h⟩:=idxn_some h
 refine ⟨_,⟨(by omega),map_at he180,rfl⟩,?_⟩
 conv=>whnf
 iterate 3 (refine Both.yes (ff_beq b178) ?_;(conv=>whnf))
 obtain ⟨c181,hc181,h⟩:=bind_some h
 refine ⟨_,(sp_R06_Ints e179.Out e180.Out c181 (fun _ _=>hc181)),?_⟩
 conv=>whnf
 refine Both.yes (ff_beq b178) ?_
 conv=>whnf
 refine Both.no b178 ?_
 conv=>whnf
 cases h
 exact Join.mk (eA [])
 replace b178:=beq_ft b178
 replace h:=cond_t b178 h
 conv=>whnf
 iterate 11 (refine Both.no (tf_beq b178) ?_;(conv=>whnf))
 refine Both.yes b178 ?_
 conv=>whnf
 cases h
 exact Join.mk (eA [])
 replace h:=hk166
 obtain ⟨z182,z183,_⟩:=hp
 conv=>whnf
 refine Both.mk ?_ ?_<;>intro b184
 replace h:=cond_t b184 h
 conv=>whnf
 cases h
 have ho163:_=_:=ho163
 cases ho163
 replace h:some _=some _:=hk52
 cases h
 conv=>whnf
 exact ⟨rfl,rfl⟩
 replace h:=cond_f b184 h
 conv=>whnf
 refine Arith.mk (by show inR _;unfold inR;omega) ?_
 conv=>whnf
 cases h
 exact Nxt.mk _ ho163 (eA [])
 obtain ⟨h,b164d⟩:=cfd b164 h
 conv=>whnf
 cases h
 have ho163:_=_:=ho163
 cases ho163
 exact JoinS.mk' _ rfl (eA [])
 rintro ⟨⟩ rfl hp
 replace h:=sum_inl hk52
 conv=>whnf
 cases h
 conv=>whnf
 exact ⟨rfl,rfl⟩
theorem sp_R16_Same (a_:T_api_Obs) (b_:T_api_Obs) (r:Bool) (h:Ok (.agg (c_api_Obs a_))→Ok (.agg (c_api_Obs b_))→R16_Same a_ b_=some r):Sp Tryz.prog 33 [.im (.agg (c_api_Obs a_)),.im (.agg (c_api_Obs b_))] (.im (nB r)):=by
 refine sp_of rfl [700002,700003] rfl rfl rfl (Nat.le_of_ble_eq_true rfl) rfl fun hk=>?_
 replace h:=h hk.1 hk.2.1
 have z1:lZ a_.Traces:=ok_len (Ok.agg_at hk.1 1 rfl)
 have z2:lZ b_.Traces:=ok_len (Ok.agg_at hk.2.1 1 rfl)
 unfold R16_Same at h
 conv=>whnf
 obtain ⟨y55,hc,hk52⟩:=bind_some h
 clear h
 have h:=hc
 clear hc
 refine Cut.mk (mkSt [(4,.im (nB y55))] [] []) (True) (hT) ?_ (fun hp=>?_)
 conv=>whnf
 refine Both.mk ?_ ?_<;>intro b56
 replace b56:=beq_tt b56
 obtain ⟨h,b56d⟩:=ctd b56 h
 conv=>whnf
 iterate 4 (refine Both.yes (tt_beq b56) ?_;(conv=>whnf))
 obtain ⟨c57,hc57,h⟩:=bind_some h
 refine ⟨_,(sp_R06_SameTraces a_.Traces b_.Traces c57 (fun _ _=>hc57)),?_⟩
 conv=>whnf
 refine Both.yes b56 ?_
 conv=>whnf
 cases h
 exact Join.mk (eA [])
 replace b56:=beq_tf b56
 obtain ⟨h,b56d⟩:=cfd b56 h
 conv=>whnf
 iterate 4 (refine Both.no (ft_beq b56) ?_;(conv=>whnf))
 refine Both.no b56 ?_
 conv=>whnf
 cases h
 exact Join.mk (eA [])
 replace h:=hk52
 conv=>whnf
 cases h
 conv=>whnf
 exact ⟨rfl,rfl⟩
theorem sp_R21_Same (a_:T_api_Oracle) (b_:T_api_Oracle) (r:Bool) (h:Ok (.agg (c_api_Oracle a_))→Ok (.agg (c_api_Oracle b_))→R21_Same a_ b_=some r):Sp Tryz.prog 10 [.im (.agg (c_api_Oracle a_)),.im (.agg (c_api_Oracle b_))] (.im (nB r)):=by
 refine sp_of rfl [700002,700003] rfl rfl rfl (Nat.le_of_ble_eq_true rfl) rfl fun hk=>?_
 replace h:=h hk.1 hk.2.1
 have z1:lZ a_.Device.M.Next:=ok_len (Ok.agg_at hk.1 2 rfl)
 have z2:lZ a_.Device.M.Out:=ok_len (Ok.agg_at hk.1 3 rfl)
 have z3:lZ a_.Device.Latency.Step:=ok_len (Ok.agg_at hk.1 6 rfl)
 have z4:lZ a_.Obs.Traces:=ok_len (Ok.agg_at hk.1 16 rfl)
 have z5:lZ b_.Device.M.Next:=ok_len (Ok.agg_at hk.2.1 2 rfl)
 have z6:lZ b_.Device.M.Out:=ok_len (Ok.agg_at hk.2.1 3 rfl)
 have z7:lZ b_.Device.Latency.Step:=ok_len (Ok.agg_at hk.2.1 6 rfl)
 have z8:lZ b_.Obs.Traces:=ok_len (Ok.agg_at hk.2.1 16 rfl)
 unfold R21_Same at h
 conv=>whnf
 obtain ⟨y60,hc,hk52⟩:=bind_some h
 clear h
 have h:=hc
 clear hc
 refine Cut.mk (mkSt [(4,.im (nB y60))] [] []) (True) (hT) ?_ (fun hp=>?_)
 conv=>whnf
 obtain ⟨c61,hc61,h⟩:=bind_some h
 refine ⟨_,(sp_R19_Same a_.Device b_.Device c61 (fun _ _=>hc61)),?_⟩
 conv=>whnf
 refine Both.mk ?_ ?_<;>intro b62
 replace b62:=beq_tt b62
 replace h:=cond_t b62 h
 conv=>whnf
 iterate 4 (refine Both.yes (tt_beq b62) ?_;(conv=>whnf))
 obtain ⟨c63,hc63,h⟩:=bind_some h
 refine ⟨_,(sp_R16_Same a_.Obs b_.Obs c63 (fun _ _=>hc63)),?_⟩
 conv=>whnf
 refine Both.yes b62 ?_
 conv=>whnf
 refine Both.mk ?_ ?_<;>intro b64
 replace b64:=beq_tt b64
 replace h:=cond_t b64 h
 conv=>whnf
 iterate 4 (refine Both.yes (tt_beq b64) ?_;(conv=>whnf))
 refine Both.yes b64 ?_
 conv=>whnf
 refine Both.mk ?_ ?_<;>intro b65
 replace b65:=beq_tt b65
 obtain ⟨h,b65d⟩:=ctd b65 h
 conv=>whnf
 iterate 4 (refine Both.yes (tt_beq b65) ?_;(conv=>whnf))
 refine Both.yes b65 ?_
 conv=>whnf
 refine Both.mk ?_ ?_<;>intro b66
 replace b66:=beq_tt b66
 obtain ⟨h,b66d⟩:=ctd b66 h
 conv=>whnf
 iterate 4 (refine Both.yes (tt_beq b66) ?_;(conv=>whnf))
 refine Both.yes b66 ?_
 conv=>whnf
 refine Both.mk ?_ ?_<;>intro b67
 replace b67:=beq_tt b67
 obtain ⟨h,b67d⟩:=ctd b67 h
 conv=>whnf
 iterate 4 (refine Both.yes (tt_beq b67) ?_;(conv=>whnf))
 refine Both.yes b67 ?_
 conv=>whnf
 cases h
 exact Join.mk (eA [])
 replace b67:=beq_tf b67
 obtain ⟨h,b67d⟩:=cfd b67 h
 conv=>whnf
 iterate 4 (refine Both.no (ft_beq b67) ?_;(conv=>whnf))
 refine Both.no b67 ?_
 conv=>whnf
 cases h
 exact Join.mk (eA [])
 replace b66:=beq_tf b66
 obtain ⟨h,b66d⟩:=cfd b66 h
 conv=>whnf
 iterate 4 (refine Both.no (ft_beq b66) ?_;(conv=>whnf))
 refine Both.no b66 ?_
 conv=>whnf
 iterate 6 (refine Both.no rfl ?_;(conv=>whnf))
 cases h
 exact Join.mk (eA [])
 replace b65:=beq_tf b65
 obtain ⟨h,b65d⟩:=cfd b65 h
 conv=>whnf
 iterate 4 (refine Both.no (ft_beq b65) ?_;(conv=>whnf))
 refine Both.no b65 ?_
 conv=>whnf
 iterate 12 (refine Both.no rfl ?_;(conv=>whnf))
 cases h
 exact Join.mk (eA [])
 replace b64:=beq_tf b64
 replace h:=cond_f b64 h
 conv=>whnf
 iterate 4 (refine Both.no (ft_beq b64) ?_;(conv=>whnf))
 refine Both.no b64 ?_
 conv=>whnf
 iterate 18 (refine Both.no rfl ?_;(conv=>whnf))
 cases h
 exact Join.mk (eA [])
 replace b62:=beq_tf b62
 replace h:=cond_f b62 h
 conv=>whnf
 iterate 4 (refine Both.no (ft_beq b62) ?_;(conv=>whnf))
 refine Both.no b62 ?_
 conv=>whnf
 iterate 24 (refine Both.no rfl ?_;(conv=>whnf))
 cases h
 exact Join.mk (eA [])
 replace h:=hk52
 conv=>whnf
 cases h
 conv=>whnf
 exact ⟨rfl,rfl⟩
theorem sp_L21_long (l_:List (List Int)) (r:Bool) (h:Ok (nL (cL cI) l_)→L21_long l_=some r):Sp Tryz.prog 12 [.im (nL (cL cI) l_)] (.im (nB r)):=by
 refine sp_of rfl [] rfl rfl rfl (Nat.le_of_ble_eq_true rfl) rfl fun hk=>?_
 replace h:=h hk.1
 have z1:lZ l_:=ok_len hk.1
 unfold L21_long at h
 conv=>whnf
 refine Nf.mk (List.length l_) len_map ?_
 conv=>whnf
 refine Both.mk ?_ ?_<;>intro b51
 obtain ⟨h,b51d⟩:=ctd b51 h
 conv=>whnf
 cases h
 conv=>whnf
 exact ⟨rfl,rfl⟩
 obtain ⟨h,b51d⟩:=cfd b51 h
 conv=>whnf
 obtain ⟨oc,hc,hk52⟩:=bind_some h
 clear h
 have h:=hc
 clear hc
 refine Cut.mkS oc (Y:=Unit) (fun (_:Unit)=>mkSt [] [] []) (fun (_:Unit)=>True) (by rintro ⟨⟩;exact (hT)) ?_ ?_
 conv=>whnf
 refine Loops.iter (fun (s:Nat)=>L21_long.s2 l_ s) (fun i68=>mkSt [(0,.im (nL (cL cI) l_)),(3,.im (nI (↑i68:Int)))] [] []) (fun i68=>lZ l_∧True) h (eA []) (by rintro i68;exact ((Holds.avl 0 rfl).and (hT))) ?_
 clear h
 rintro k i68 o hp h ho72
 replace h:L21_long.s2 l_ i68=some o:=h
 unfold L21_long.s2 at h
 obtain ⟨z76,_⟩:=hp
 conv=>whnf
 refine Nf.mk (List.length l_) len_map ?_
 conv=>whnf
 refine Both.mk ?_ ?_<;>intro b73
 obtain ⟨h,b73d⟩:=ctd b73 h
 conv=>whnf
 obtain ⟨e74,he74,h⟩:=idxn_some h
 refine ⟨_,⟨(by omega),map_at he74,rfl⟩,?_⟩
 conv=>whnf
 refine Nf.mk (List.length e74) len_map ?_
 conv=>whnf
 refine Both.mk ?_ ?_<;>intro b75
 obtain ⟨h,b75d⟩:=ctd b75 h
 conv=>whnf
 cases h
 have ho72:_=_:=ho72
 cases ho72
 replace h:some _=some _:=hk52
 cases h
 conv=>whnf
 exact ⟨rfl,rfl⟩
 obtain ⟨h,b75d⟩:=cfd b75 h
 conv=>whnf
 refine Arith.mk (by show inR _;unfold inR;omega) ?_
 conv=>whnf
 cases h
 exact Nxt.mk _ ho72 (eA [])
 obtain ⟨h,b73d⟩:=cfd b73 h
 conv=>whnf
 cases h
 have ho72:_=_:=ho72
 cases ho72
 exact JoinS.mk' _ rfl (eA [])
 rintro ⟨⟩ rfl hp
 replace h:=sum_inl hk52
 conv=>whnf
 cases h
 conv=>whnf
 exact ⟨rfl,rfl⟩
theorem sp_wordset_ordered_1 (a_:List Int) (b_:List Int) (p2_:(List Int)→(List Int)→Option Int) (f2_:FuncId) (hf2:∀ x0 x1 r,p2_ x0 x1=some r→Sp Tryz.prog f2_ [.im (nL cI x0),.im (nL cI x1)] (.im (nI r))) (r:Bool) (h:Ok (nL cI a_)→Ok (nL cI b_)→Ok (.ref [.fn f2_ []])→wordset_ordered_1 a_ b_ p2_=some r):Sp Tryz.prog 109 [.im (nL cI a_),.im (nL cI b_),.im (.ref [.fn f2_ []])] (.im (nB r)):=by
 refine sp_of rfl [] rfl rfl rfl (Nat.le_of_ble_eq_true rfl) rfl fun hk=>?_
 replace h:=h hk.1 hk.2.1 hk.2.2.1
 have z1:lZ a_:=ok_len hk.1
 have z2:lZ b_:=ok_len hk.2.1
 unfold wordset_ordered_1 at h
 conv=>whnf
 obtain ⟨c51,hc51,h⟩:=bind_some h
 refine ⟨_,hf2 a_ b_ c51 hc51,?_⟩
 conv=>whnf
 cases h
 conv=>whnf
 exact ⟨rfl,rfl⟩
theorem sp_slices_CompactFunc_SSint_Sint_n1 (s_:List (List Int)) (eq_:(List Int)→(List Int)→Option Bool) (f1_:FuncId) (k1_0:IV) (hk1_0:nz k1_0=k1_0) (hf1:∀ x0 x1 r,eq_ x0 x1=some r→Sp Tryz.prog f1_ [.im (nL cI x0),.im (nL cI x1),.im k1_0] (.im (nB r))) (r:List (List Int)) (h:OkL (List.map (cL cI) s_)→Ok (.fn f1_ [k1_0])→slices_CompactFunc_SSint_Sint_n1 s_ eq_=some r):Sp Tryz.prog 108 [.row 25 1 (List.map (cL cI) s_),.im (.fn f1_ [k1_0])] (.row 25 1 (List.map (cL cI) r)):=by
 refine sp_of rfl [] rfl rfl rfl (Nat.le_of_ble_eq_true rfl) rfl fun hk=>?_
 replace h:=h hk.1 hk.2.1
 have z1:lZ s_:=okl_len hk.1
 unfold slices_CompactFunc_SSint_Sint_n1 at h
 conv=>whnf
 refine Side.mk rfl ?_
 conv=>whnf
 refine Nf.mk (List.length s_) len_map ?_
 conv=>whnf
 refine Both.mk ?_ ?_<;>intro b51
 obtain ⟨h,b51d⟩:=ctd b51 h
 conv=>whnf
 cases h
 conv=>whnf
 exact Side.mk ⟨rfl,trivial⟩ ⟨rfl,rfl⟩
 obtain ⟨h,b51d⟩:=cfd b51 h
 conv=>whnf
 obtain ⟨oc,hc,hk52⟩:=bind_some h
 clear h
 have h:=hc
 clear hc
 refine Cut.mkS oc (Y:=Unit) (fun (_:Unit)=>mkSt [(0,.osl 66 1)] [(66,.row 25 1 (List.map (cL cI) s_))] []) (fun (_:Unit)=>lZ s_∧True) (by rintro ⟨⟩;exact ((Holds.kdl 66 rfl).and (hT))) ?_ ?_
 conv=>whnf
 refine Loops.iter (fun (s:Nat)=>slices_CompactFunc_SSint_Sint_n1.s20 s_ eq_ s) (fun k356=>mkSt [(0,.osl 66 1),(1,.im (.fn f1_ [k1_0])),(5,.im (nI (↑k356:Int)))] [(66,.row 25 1 (List.map (cL cI) s_))] []) (fun k356=>lZ s_∧True) h (eA [(66,some 0)]) (by rintro k356;exact ((Holds.kdl 66 rfl).and (hT))) ?_
 clear h
 rintro k k356 o hp h ho432
 replace h:slices_CompactFunc_SSint_Sint_n1.s20 s_ eq_ k356=some o:=h
 unfold slices_CompactFunc_SSint_Sint_n1.s20 at h
 obtain ⟨z508,_⟩:=hp
 conv=>whnf
 refine Side.mk rfl ?_
 conv=>whnf
 refine Nf.mk (List.length s_) len_map ?_
 conv=>whnf
 refine Both.mk ?_ ?_<;>intro b433
 obtain ⟨h,b433d⟩:=ctd b433 h
 conv=>whnf
 obtain ⟨e434,he434,h⟩:=idxn_some h
 refine Side.mk ⟨(by omega),rfl,map_lt he434⟩ ?_
 conv=>whnf
 refine ⟨_,_,⟨rfl,map_at he434,rfl,rfl⟩,?_⟩
 conv=>whnf
 refine Arith.mk (by show inR _;unfold inR;omega) ?_
 conv=>whnf
 obtain ⟨e435,he435z,he435,h⟩:=idx_some h
 refine Side.mk ⟨he435z,rfl,map_lt he435⟩ ?_
 conv=>whnf
 refine ⟨_,_,⟨rfl,map_at he435,rfl,rfl⟩,?_⟩
 conv=>whnf
 obtain ⟨c436,hc436,h⟩:=bind_some h
 refine ⟨_,Sp.args (hf1 e434 e435 c436 hc436) (by rw [hk1_0];try rfl),?_⟩
 conv=>whnf
 refine Both.mk ?_ ?_<;>intro b437
 replace h:=cond_t b437 h
 conv=>whnf
 obtain ⟨c438,h⟩:=chk_some h
 refine Side.mk ⟨rfl,c438.1,by have hh_:=c438;simp only [List.length_map];omega,by have hh_:=c438;simp only [List.length_map];omega⟩ ?_
 conv=>whnf
 obtain ⟨⟨y471,k472⟩,hc,hk439⟩:=bind_some h
 clear h
 have h:=hc
 clear hc
 refine Cut.mk (mkSt [(0,.osl 66 1),(5,.im (nI (↑k472:Int)))] [(66,.row 25 1 (List.map (cL cI) y471))] []) (lZ y471∧True) ((Holds.kdl 66 rfl).and (hT)) ?_ (fun hp=>?_)
 conv=>whnf
 refine Loops.iter (fun (s:List (List Int)×Nat×Nat)=>slices_CompactFunc_SSint_Sint_n1.s18 eq_ k356 s.1 s.2.1 s.2.2) (fun (y481,k482,y483)=>mkSt [(0,.osl 66 1),(1,.im (.fn f1_ [k1_0])),(5,.im (nI (↑k482:Int))),(6,.osv 66 1 k356 1),(7,.im (nI (↑y483:Int)))] [(66,.row 25 1 (List.map (cL cI) y481))] []) (fun (y481,k482,y483)=>lZ y481∧True) h (Ent.mk [(66,some 66)] rfl ⟨⟨.osl 66 _,rfl,.osl rfl rfl rfl⟩,eI rfl rfl,eI rfl rfl,⟨.osv 66 _ _ _,rfl,.osv rfl rfl rfl⟩,eI rfl rfl,trivial⟩ ⟨.inl ⟨66,rfl,rfl,trivial⟩,trivial⟩ trivial) (by rintro ⟨y481,k482,y483⟩;exact ((Holds.kdl 66 rfl).and (hT))) ?_
 clear h
 rintro k ⟨y481,k482,y483⟩ o hp h ho493
 replace h:slices_CompactFunc_SSint_Sint_n1.s18 eq_ k356 y481 k482 y483=some o:=h
 unfold slices_CompactFunc_SSint_Sint_n1.s18 at h
 obtain ⟨z503,_⟩:=hp
 conv=>whnf
 refine Side.mk rfl ?_
 conv=>whnf
 refine Nf.mk (List.length y481-k356) len_own ?_
 conv=>whnf
 refine Both.mk ?_ ?_<;>intro b494
 obtain ⟨h,b494d⟩:=ctd b494 h
 conv=>whnf
 obtain ⟨e495,he495,h⟩:=idxn_some h
 refine Side.mk ⟨(by omega),rfl,map_lt he495⟩ ?_
 conv=>whnf
 refine Nf.mk (k356+y483) rfl ?_
 conv=>whnf
 refine ⟨_,_,⟨rfl,map_at he495,rfl,rfl⟩,?_⟩
 conv=>whnf
 refine Arith.mk (by show inR _;unfold inR;omega) ?_
 conv=>whnf
 obtain ⟨c497,h⟩:=chk_some h
 obtain ⟨e496,he496,h⟩:=idxn_some h
 refine Side.mk ⟨c497,rfl,map_lt he496⟩ ?_
 conv=>whnf
 refine Nf.mk (k356+(Int.toNat ((↑y483:Int)-1))) rfl ?_
 conv=>whnf
 refine ⟨_,_,⟨rfl,map_at he496,rfl,rfl⟩,?_⟩
 conv=>whnf
 obtain ⟨c498,hc498,h⟩:=bind_some h
 refine ⟨_,Sp.args (hf1 e495 e496 c498 hc498) (by rw [hk1_0];try rfl),?_⟩
 conv=>whnf
 refine Both.mk ?_ ?_<;>intro b499
 replace h:=cond_t b499 h
 conv=>whnf
 obtain ⟨e500,he500,h⟩:=idxn_some h
 refine Side.mk ⟨(by omega),rfl,map_lt he500⟩ ?_
 conv=>whnf
 refine Nf.mk (k356+y483) rfl ?_
 conv=>whnf
 refine ⟨_,_,⟨rfl,map_at he500,rfl,rfl⟩,?_⟩
 conv=>whnf
 obtain ⟨e501,he501,h⟩:=idxn_some h
 refine Side.mk ⟨(by omega),rfl,map_lt he501⟩ ?_
 conv=>whnf
 refine Side.mk ⟨rfl,trivial⟩ ?_
 conv=>whnf
 refine ⟨_,map_at he501,?_⟩
 conv=>whnf
 refine Nf.mk (List.map (cL cI) (List.set y481 k482 e500)) (set_map rfl) ?_
 conv=>whnf
 obtain ⟨c502,h⟩:=chk_some h
 refine Arith.mk c502 ?_
 conv=>whnf
 refine Arith.mk (by show inR _;unfold inR;omega) ?_
 conv=>whnf
 cases h
 exact Nxt.mk _ ho493 (Ent.mk [(66,some 66)] rfl ⟨⟨.osl 66 _,rfl,.osl rfl rfl rfl⟩,eI rfl rfl,eI rfl rfl,⟨.osv 66 _ _ _,rfl,.osv rfl rfl rfl⟩,eI rfl rfl,trivial⟩ ⟨.inl ⟨66,rfl,rfl,trivial⟩,trivial⟩ trivial)
 replace h:=cond_f b499 h
 conv=>whnf
 refine Arith.mk (by show inR _;unfold inR;omega) ?_
 conv=>whnf
 cases h
 exact Nxt.mk _ ho493 (Ent.mk [(66,some 66)] rfl ⟨⟨.osl 66 _,rfl,.osl rfl rfl rfl⟩,eI rfl rfl,eI rfl rfl,⟨.osv 66 _ _ _,rfl,.osv rfl rfl rfl⟩,eI rfl rfl,trivial⟩ ⟨.inl ⟨66,rfl,rfl,trivial⟩,trivial⟩ trivial)
 obtain ⟨h,b494d⟩:=cfd b494 h
 conv=>whnf
 cases h
 have ho493:_=_:=ho493
 cases ho493
 exact Join.mk (eA [(66,some 66)])
 replace h:slices_CompactFunc_SSint_Sint_n1.k19 y471 k472=some _:=hk439
 unfold slices_CompactFunc_SSint_Sint_n1.k19 at h
 obtain ⟨z504,_⟩:=hp
 conv=>whnf
 obtain ⟨c505,h⟩:=chk_some h
 refine Side.mk ⟨rfl,c505.1,by have hh_:=c505;simp only [List.length_map];omega,by have hh_:=c505;simp only [List.length_map];omega⟩ ?_
 conv=>whnf
 obtain ⟨c506,h⟩:=chk_some h
 refine Side.mk ⟨rfl,by have hh_:=c506;simp only [List.length_map];omega⟩ ?_
 conv=>whnf
 refine Nf.mk (List.map (cL cI) (List.take k472 y471++List.replicate (List.length y471-k472) [])) (clr_map (z:=[]) rfl) ?_
 conv=>whnf
 obtain ⟨c507,h⟩:=chk_some h
 refine Side.mk ⟨rfl,c507.1,by have hh_:=c507;simp only [List.length_map];omega,by have hh_:=c507;simp only [List.length_map];omega⟩ ?_
 conv=>whnf
 refine Nf.mk (List.map (cL cI) (List.take k472 (List.take k472 y471++List.replicate (List.length y471-k472) []))) cut_own ?_
 conv=>whnf
 cases h
 have ho432:_=_:=ho432
 cases ho432
 replace h:some _=some _:=hk52
 cases h
 conv=>whnf
 exact Side.mk ⟨rfl,trivial⟩ ⟨rfl,rfl⟩
 replace h:=cond_f b437 h
 conv=>whnf
 refine Arith.mk (by show inR _;unfold inR;omega) ?_
 conv=>whnf
 cases h
 exact Nxt.mk _ ho432 (eA [(66,some 66)])
 obtain ⟨h,b433d⟩:=cfd b433 h
 conv=>whnf
 cases h
 have ho432:_=_:=ho432
 cases ho432
 exact JoinS.mk' _ rfl (eA [(66,some 66)])
 rintro ⟨⟩ rfl hp
 replace h:=sum_inl hk52
 obtain ⟨z509,_⟩:=hp
 conv=>whnf
 cases h
 conv=>whnf
 exact Side.mk ⟨rfl,trivial⟩ ⟨rfl,rfl⟩
theorem sp_wordset_ordered (l_:List (List Int)) (order_:(List Int)→(List Int)→Option Int) (f1_:FuncId) (hf1:∀ x0 x1 r,order_ x0 x1=some r→Sp Tryz.prog f1_ [.im (nL cI x0),.im (nL cI x1)] (.im (nI r))) (hd1:CmpE Tryz.prog f1_ (fun x=>nL cI x) order_) (r:List (List Int)) (h:Ok (nL (cL cI) l_)→Ok (.fn f1_ [])→wordset_ordered l_ order_=some r):Sp Tryz.prog 90 [.im (nL (cL cI) l_),.im (.fn f1_ [])] (.row 25 1 (List.map (cL cI) r)):=by
 refine sp_of rfl [13000,16000,2013000] rfl rfl rfl (Nat.le_of_ble_eq_true rfl) rfl fun hk=>?_
 replace h:=h hk.1 hk.2.1
 have z1:lZ l_:=ok_len hk.1
 unfold wordset_ordered at h
 conv=>whnf
 obtain ⟨c51,hc51,h⟩:=bind_some h
 refine ⟨_,(sp_lib_Clone_words l_ c51 (hc51)),?_⟩
 conv=>whnf
 refine Side.mk rfl ?_
 conv=>whnf
 refine Side.mk ⟨rfl,trivial⟩ ?_
 conv=>whnf
 obtain ⟨c52,hc52,h⟩:=bind_some h
 refine ⟨_,(sp_lib_SortFunc_words c51 order_ f1_ hd1 c52 (hc52)),?_⟩
 conv=>whnf
 refine Side.mk ⟨rfl,rfl,trivial⟩ ?_
 conv=>whnf
 obtain ⟨c53,hc53,h⟩:=bind_some h
 refine ⟨_,(sp_slices_CompactFunc_SSint_Sint_n1 c52 (fun u0 u1=>wordset_ordered_1 u0 u1 order_) 109 (.ref [.fn f1_ []]) rfl (fun u0 u1 r h=>(sp_wordset_ordered_1 u0 u1 order_ f1_ hf1 r (fun _ _ _=>h))) c53 (fun _ _=>hc53)),?_⟩
 conv=>whnf
 refine Side.mk rfl ?_
 conv=>whnf
 refine Nf.mk (List.length c53) len_map ?_
 conv=>whnf
 obtain ⟨y73,hc,hk54⟩:=bind_some h
 clear h
 have h:=hc
 clear hc
 refine Cut.mk (mkSt [(5,.osl 64 1)] [(64,.row 25 1 (List.map (cL cI) y73))] []) (lZ y73∧True) ((Holds.kdl 64 rfl).and (hT)) ?_ (fun hp=>?_)
 conv=>whnf
 refine Loops.iter (fun (s:List (List Int)×Nat)=>wordset_ordered.s2 c53 s.1 s.2) (fun (y78,y79)=>mkSt [(5,.osl 64 1),(16,.osl 64 1),(17,.im (nI (↑(List.length c53):Int))),(18,.im (nI (↑y79:Int)))] [(64,.row 25 1 (List.map (cL cI) y78))] []) (fun (y78,y79)=>lZ y78∧True) h (eA [(64,some 15)]) (by rintro ⟨y78,y79⟩;exact ((Holds.kdl 64 rfl).and (hT))) ?_
 clear h
 rintro k ⟨y78,y79⟩ o hp h ho85
 replace h:wordset_ordered.s2 c53 y78 y79=some o:=h
 unfold wordset_ordered.s2 at h
 obtain ⟨z91,_⟩:=hp
 conv=>whnf
 refine Both.mk ?_ ?_<;>intro b86
 obtain ⟨h,b86d⟩:=ctd b86 h
 conv=>whnf
 obtain ⟨e87,he87,h⟩:=idxn_some h
 refine Side.mk ⟨(by omega),rfl,map_lt he87⟩ ?_
 conv=>whnf
 refine ⟨_,_,⟨rfl,map_at he87,rfl,rfl⟩,?_⟩
 conv=>whnf
 obtain ⟨c88,hc88,h⟩:=bind_some h
 refine ⟨_,(sp_lib_Clone_int e87 c88 (hc88)).im,?_⟩
 conv=>whnf
 obtain ⟨e89,he89,h⟩:=idxn_some h
 refine Side.mk ⟨(by omega),rfl,map_lt he89⟩ ?_
 conv=>whnf
 refine Side.mk ⟨rfl,trivial⟩ ?_
 conv=>whnf
 refine ⟨_,map_at he89,?_⟩
 conv=>whnf
 refine Nf.mk (List.map (cL cI) (List.set y78 y79 c88)) (set_map rfl) ?_
 conv=>whnf
 obtain ⟨c90,h⟩:=chk_some h
 refine Arith.mk c90 ?_
 conv=>whnf
 cases h
 exact Nxt.mk _ ho85 (eA [(64,some 64)])
 obtain ⟨h,b86d⟩:=cfd b86 h
 conv=>whnf
 cases h
 have ho85:_=_:=ho85
 cases ho85
 exact Join.mk (eA [(64,some 64)])
 replace h:=hk54
 obtain ⟨z92,_⟩:=hp
 conv=>whnf
 cases h
 conv=>whnf
 exact Side.mk ⟨rfl,trivial⟩ ⟨rfl,rfl⟩
theorem sp_wordset_Sorted (l_:List (List Int)) (r:List (List Int)) (h:Ok (nL (cL cI) l_)→wordset_Sorted l_=some r):Sp Tryz.prog 92 [.im (nL (cL cI) l_)] (.row 25 1 (List.map (cL cI) r)):=by
 refine sp_of rfl [] rfl rfl rfl (Nat.le_of_ble_eq_true rfl) rfl fun hk=>?_
 replace h:=h hk.1
 have z1:lZ l_:=ok_len hk.1
 unfold wordset_Sorted at h
 conv=>whnf
 obtain ⟨c51,hc51,h⟩:=bind_some h
 refine ⟨_,(sp_wordset_ordered l_ (fun u0 u1=>word_Compare u0 u1) 111 (fun u0 u1 r h=>(sp_word_Compare u0 u1 r (fun _ _=>h))) cmpE_word_Compare c51 (fun _ _=>hc51)),?_⟩
 conv=>whnf
 cases h
 conv=>whnf
 exact Side.mk ⟨rfl,trivial⟩ ⟨rfl,rfl⟩
theorem sp_word_Lex (a_:List Int) (b_:List Int) (r:Int) (h:Ok (nL cI a_)→Ok (nL cI b_)→word_Lex a_ b_=some r):Sp Tryz.prog 91 [.im (nL cI a_),.im (nL cI b_)] (.im (nI r)):=by
 refine sp_of rfl [] rfl rfl rfl (Nat.le_of_ble_eq_true rfl) rfl fun hk=>?_
 replace h:=h hk.1 hk.2.1
 have z1:lZ a_:=ok_len hk.1
 have z2:lZ b_:=ok_len hk.2.1
 unfold word_Lex at h
 conv=>whnf
 obtain ⟨c51,hc51,h⟩:=bind_some h
 refine ⟨_,(sp_slices_Compare_Sint_int a_ b_ c51 (fun _ _=>hc51)),?_⟩
 conv=>whnf
 cases h
 conv=>whnf
 exact ⟨rfl,rfl⟩
theorem sp_wordset_Maximal (l_:List (List Int)) (r:List (List Int)) (h:Ok (nL (cL cI) l_)→wordset_Maximal l_=some r):Sp Tryz.prog 68 [.im (nL (cL cI) l_)] (.im (nL (cL cI) r)):=by
 refine sp_of rfl [] rfl rfl rfl (Nat.le_of_ble_eq_true rfl) rfl fun hk=>?_
 replace h:=h hk.1
 have z1:lZ l_:=ok_len hk.1
 unfold wordset_Maximal at h
 conv=>whnf
 obtain ⟨c51,hc51,h⟩:=bind_some h
 refine ⟨_,(sp_wordset_ordered l_ (fun u0 u1=>word_Lex u0 u1) 91 (fun u0 u1 r h=>(sp_word_Lex u0 u1 r (fun _ _=>h))) cmpE_word_Lex c51 (fun _ _=>hc51)).im,?_⟩
 conv=>whnf
 refine Nf.mk (List.length c51) len_map ?_
 conv=>whnf
 obtain ⟨y104,hc,hk52⟩:=bind_some h
 clear h
 have h:=hc
 clear hc
 refine Cut.mk (mkSt [(4,.osl 64 1)] [(64,.row 25 1 (List.map (cL cI) y104))] []) (lZ y104∧True) ((Holds.kdl 64 rfl).and (hT)) ?_ (fun hp=>?_)
 conv=>whnf
 refine Loops.iter (fun (s:List (List Int)×Nat)=>wordset_Maximal.s2 c51 s.1 s.2) (fun (y119,y120)=>mkSt [(3,.im (nL (cL cI) c51)),(4,.osl 64 1),(9,.im (nL (cL cI) c51)),(10,.im (nI (↑(List.length c51):Int))),(11,.im (nI (↑y120:Int)))] [(64,.row 25 1 (List.map (cL cI) y119))] []) (fun (y119,y120)=>lZ c51∧lZ y119∧True) h (eA [(64,none)]) (by rintro ⟨y119,y120⟩;exact ((Holds.avl 3 rfl).and ((Holds.kdl 64 rfl).and (hT)))) ?_
 clear h
 rintro k ⟨y119,y120⟩ o hp h ho137
 replace h:wordset_Maximal.s2 c51 y119 y120=some o:=h
 unfold wordset_Maximal.s2 at h
 obtain ⟨z154,z155,_⟩:=hp
 conv=>whnf
 refine Both.mk ?_ ?_<;>intro b138
 obtain ⟨h,b138d⟩:=ctd b138 h
 conv=>whnf
 obtain ⟨e139,he139,h⟩:=idxn_some h
 refine ⟨_,⟨(by omega),map_at he139,rfl⟩,?_⟩
 conv=>whnf
 obtain ⟨y145,hc,hk141⟩:=bind_some h
 clear h
 have h:=hc
 clear hc
 refine Cut.mk (mkSt [(3,.im (nL (cL cI) c51)),(4,.osl 64 1),(6,.im (nL cI e139)),(9,.im (nL (cL cI) c51)),(10,.im (nI (↑(List.length c51):Int))),(11,.im (nI (↑y120:Int))),(30,.im (nB y145))] [(64,.row 25 1 (List.map (cL cI) y119))] []) (lZ c51∧lZ e139∧lZ y119∧True) ((Holds.avl 3 rfl).and ((Holds.avl 6 rfl).and ((Holds.kdl 64 rfl).and (hT)))) ?_ (fun hp=>?_)
 conv=>whnf
 refine Arith.mk (by show inR _;unfold inR;omega) ?_
 conv=>whnf
 refine Nf.mk (List.length c51) len_map ?_
 conv=>whnf
 refine Both.mk ?_ ?_<;>intro b146
 replace b146:=beq_ff b146
 obtain ⟨h,b146d⟩:=cfd b146 h
 conv=>whnf
 iterate 2 (refine Both.yes (ff_beq b146) ?_;(conv=>whnf))
 refine Arith.mk (by show inR _;unfold inR;omega) ?_
 conv=>whnf
 refine Both.yes (ff_beq b146) ?_
 conv=>whnf
 obtain ⟨e147,he147,h⟩:=idxn_some h
 refine ⟨_,⟨(by omega),map_at he147,rfl⟩,?_⟩
 conv=>whnf
 iterate 3 (refine Both.yes (ff_beq b146) ?_;(conv=>whnf))
 obtain ⟨c148,hc148,h⟩:=bind_some h
 refine ⟨_,(sp_word_HasPrefix e147 e139 c148 (fun _ _=>hc148)),?_⟩
 conv=>whnf
 refine Both.yes (ff_beq b146) ?_
 conv=>whnf
 refine Both.no b146 ?_
 conv=>whnf
 cases h
 exact Join.mk (eA [(64,some 64)])
 replace b146:=beq_ft b146
 obtain ⟨h,b146d⟩:=ctd b146 h
 conv=>whnf
 iterate 7 (refine Both.no (tf_beq b146) ?_;(conv=>whnf))
 refine Both.yes b146 ?_
 conv=>whnf
 cases h
 exact Join.mk (eA [(64,some 64)])
 replace h:=hk141
 obtain ⟨z149,z150,z151,_⟩:=hp
 conv=>whnf
 refine Both.mk ?_ ?_<;>intro b152
 replace h:=cond_t b152 h
 conv=>whnf
 obtain ⟨c153,h⟩:=chk_some h
 refine Side.mk ⟨rfl,map_len (l:=[e139]) (c:=cL cI) fun _=>rfl,show capOk _ 24 by simpa only [List.length_map,List.length_cons,List.length_nil,Nat.zero_add] using c153⟩ ?_
 conv=>whnf
 refine Nf.mk (List.map (cL cI) (y119++[e139])) (app_map (l:=y119) (m:=[e139]) (c:=cL cI)) ?_
 conv=>whnf
 refine Arith.mk (by show inR _;unfold inR;omega) ?_
 conv=>whnf
 cases h
 exact Nxt.mk _ ho137 (eA [(64,some 64)])
 replace h:=cond_f b152 h
 conv=>whnf
 refine Arith.mk (by show inR _;unfold inR;omega) ?_
 conv=>whnf
 cases h
 exact Nxt.mk _ ho137 (eA [(64,some 64)])
 obtain ⟨h,b138d⟩:=cfd b138 h
 conv=>whnf
 cases h
 have ho137:_=_:=ho137
 cases ho137
 exact Join.mk (eA [(64,some 64)])
 replace h:=hk52
 obtain ⟨z156,_⟩:=hp
 conv=>whnf
 refine Side.mk ⟨rfl,trivial⟩ ?_
 conv=>whnf
 obtain ⟨c157,hc157,h⟩:=bind_some h
 refine ⟨_,(sp_wordset_Sorted y104 c157 (fun _=>hc157)).im,?_⟩
 conv=>whnf
 cases h
 conv=>whnf
 exact ⟨rfl,rfl⟩
theorem sp_batch_Plan (o_:T_api_Obs) (queries_:List (List Int)) (r:List (List Int)×Int) (h:Ok (.agg (c_api_Obs o_))→Ok (nL (cL cI) queries_)→batch_Plan o_ queries_=some r):Sp Tryz.prog 34 [.im (.agg (c_api_Obs o_)),.im (nL (cL cI) queries_)] (.tup [nL (cL cI) r.1,nI r.2]):=by
 refine sp_of rfl [700002] rfl rfl rfl (Nat.le_of_ble_eq_true rfl) rfl fun hk=>?_
 replace h:=h hk.1 hk.2.1
 have z1:lZ o_.Traces:=ok_len (Ok.agg_at hk.1 1 rfl)
 have z2:lZ queries_:=ok_len hk.2.1
 unfold batch_Plan at h
 conv=>whnf
 refine Nf.mk (List.length queries_) len_map ?_
 conv=>whnf
 obtain ⟨oc,hc,hk51⟩:=bind_some h
 clear h
 have h:=hc
 clear hc
 refine Cut.mkS oc (Y:=Unit) (fun (_:Unit)=>mkSt [(1,.im (nL (cL cI) queries_)),(2,.im (.ref (c_api_Obs o_)))] [] []) (fun (_:Unit)=>lZ queries_∧True) (by rintro ⟨⟩;exact ((Holds.avl 1 rfl).and (hT))) ?_ ?_
 conv=>whnf
 refine Loops.iter (fun (s:Nat)=>batch_Plan.s2 o_ queries_ s) (fun y71=>mkSt [(1,.im (nL (cL cI) queries_)),(2,.im (.ref (c_api_Obs o_))),(14,.im (nL (cL cI) queries_)),(15,.im (nI (↑(List.length queries_):Int))),(16,.im (nI (↑y71:Int)))] [] []) (fun y71=>lZ queries_∧True) h (eA []) (by rintro y71;exact ((Holds.avl 1 rfl).and (hT))) ?_
 clear h
 rintro k y71 o hp h ho76
 replace h:batch_Plan.s2 o_ queries_ y71=some o:=h
 unfold batch_Plan.s2 at h
 obtain ⟨z81,_⟩:=hp
 conv=>whnf
 refine Both.mk ?_ ?_<;>intro b77
 obtain ⟨h,b77d⟩:=ctd b77 h
 conv=>whnf
 obtain ⟨e78,he78,h⟩:=idxn_some h
 refine ⟨_,⟨(by omega),map_at he78,rfl⟩,?_⟩
 conv=>whnf
 obtain ⟨c79,hc79,h⟩:=bind_some h
 refine ⟨_,(sp_word_Check e78 o_.Inputs c79 (fun _ _=>hc79)),?_⟩
 conv=>whnf
 refine Both.mk ?_ ?_<;>intro b80
 obtain ⟨h,b80d⟩:=ctd b80 h
 conv=>whnf
 cases h
 have ho76:_=_:=ho76
 cases ho76
 replace h:some _=some _:=hk51
 cases h
 conv=>whnf
 exact ⟨rfl,rfl⟩
 obtain ⟨h,b80d⟩:=cfd b80 h
 conv=>whnf
 refine Arith.mk (by show inR _;unfold inR;omega) ?_
 conv=>whnf
 cases h
 exact Nxt.mk _ ho76 (eA [])
 obtain ⟨h,b77d⟩:=cfd b77 h
 conv=>whnf
 cases h
 have ho76:_=_:=ho76
 cases ho76
 exact JoinS.mk' _ rfl (eA [])
 rintro ⟨⟩ rfl hp
 replace h:=sum_inl hk51
 obtain ⟨z82,_⟩:=hp
 conv=>whnf
 refine Nf.mk (List.length queries_) len_map ?_
 conv=>whnf
 obtain ⟨c83,h⟩:=chk_some h
 refine Side.mk c83 ?_
 conv=>whnf
 refine Nf.mk (List.map (cL cI) []) rfl ?_
 conv=>whnf
 refine Nf.mk (List.length queries_) len_map ?_
 conv=>whnf
 obtain ⟨y105,hc,hk84⟩:=bind_some h
 clear h
 have h:=hc
 clear hc
 refine Cut.mk (mkSt [(9,.osl 64 1)] [(64,.row 25 1 (List.map (cL cI) y105))] []) (lZ y105∧True) ((Holds.kdl 64 rfl).and (hT)) ?_ (fun hp=>?_)
 conv=>whnf
 refine Loops.iter (fun (s:List (List Int)×Nat)=>batch_Plan.s4 o_ queries_ s.1 s.2) (fun (y111,y112)=>mkSt [(2,.im (.ref (c_api_Obs o_))),(9,.osl 64 1),(31,.im (nL (cL cI) queries_)),(32,.im (nI (↑(List.length queries_):Int))),(33,.im (nI (↑y112:Int)))] [(64,.row 25 1 (List.map (cL cI) y111))] []) (fun (y111,y112)=>lZ queries_∧lZ y111∧True) h (eA [(64,some 30)]) (by rintro ⟨y111,y112⟩;exact ((Holds.avl 31 rfl).and ((Holds.kdl 64 rfl).and (hT)))) ?_
 clear h
 rintro k ⟨y111,y112⟩ o hp h ho118
 replace h:batch_Plan.s4 o_ queries_ y111 y112=some o:=h
 unfold batch_Plan.s4 at h
 obtain ⟨z124,z125,_⟩:=hp
 conv=>whnf
 refine Both.mk ?_ ?_<;>intro b119
 obtain ⟨h,b119d⟩:=ctd b119 h
 conv=>whnf
 obtain ⟨e120,he120,h⟩:=idxn_some h
 refine ⟨_,⟨(by omega),map_at he120,rfl⟩,?_⟩
 conv=>whnf
 obtain ⟨c121,hc121,h⟩:=bind_some h
 refine ⟨_,(sp_observe_Answer o_ e120 c121 (fun _ _=>hc121)),?_⟩
 conv=>whnf
 refine Both.mk ?_ ?_<;>intro b122
 replace h:=cond_t b122 h
 conv=>whnf
 obtain ⟨c123,h⟩:=chk_some h
 refine Side.mk ⟨rfl,map_len (l:=[e120]) (c:=cL cI) fun _=>rfl,show capOk _ 24 by simpa only [List.length_map,List.length_cons,List.length_nil,Nat.zero_add] using c123⟩ ?_
 conv=>whnf
 refine Nf.mk (List.map (cL cI) (y111++[e120])) (app_map (l:=y111) (m:=[e120]) (c:=cL cI)) ?_
 conv=>whnf
 refine Arith.mk (by show inR _;unfold inR;omega) ?_
 conv=>whnf
 cases h
 exact Nxt.mk _ ho118 (eA [(64,some 64)])
 replace h:=cond_f b122 h
 conv=>whnf
 refine Arith.mk (by show inR _;unfold inR;omega) ?_
 conv=>whnf
 cases h
 exact Nxt.mk _ ho118 (eA [(64,some 64)])
 obtain ⟨h,b119d⟩:=cfd b119 h
 conv=>whnf
 cases h
 have ho118:_=_:=ho118
 cases ho118
 exact Join.mk (eA [(64,some 64)])
 replace h:=hk84
 obtain ⟨z126,_⟩:=hp
 conv=>whnf
 refine Side.mk ⟨rfl,trivial⟩ ?_
 conv=>whnf
 obtain ⟨c127,hc127,h⟩:=bind_some h
 refine ⟨_,(sp_wordset_Maximal y105 c127 (fun _=>hc127)),?_⟩
 conv=>whnf
 cases h
 conv=>whnf
 exact ⟨rfl,rfl⟩
theorem sp_oracle_All (q_:T_api_Oracle) (words_:List (List Int)) (r:T_api_Oracle×Int) (h:Ok (.agg (c_api_Oracle q_))→Ok (nL (cL cI) words_)→oracle_All q_ words_=some r):Sp Tryz.prog 13 [.im (.agg (c_api_Oracle q_)),.im (nL (cL cI) words_)] (.tup [.agg (c_api_Oracle r.1),nI r.2]):=by
 refine sp_of rfl [] rfl rfl rfl (Nat.le_of_ble_eq_true rfl) rfl fun hk=>?_
 replace h:=h hk.1 hk.2.1
 have z1:lZ q_.Device.M.Next:=ok_len (Ok.agg_at hk.1 2 rfl)
 have z2:lZ q_.Device.M.Out:=ok_len (Ok.agg_at hk.1 3 rfl)
 have z3:lZ q_.Device.Latency.Step:=ok_len (Ok.agg_at hk.1 6 rfl)
 have z4:lZ q_.Obs.Traces:=ok_len (Ok.agg_at hk.1 16 rfl)
 have z5:lZ words_:=ok_len hk.2.1
 unfold oracle_All at h
 conv=>whnf
 refine Nf.mk (List.length words_) len_map ?_
 conv=>whnf
 refine Both.mk ?_ ?_<;>intro b51
 obtain ⟨h,b51d⟩:=ctd b51 h
 conv=>whnf
 refine Side.mk rfl ?_
 conv=>whnf
 refine Side.mk rfl ?_
 conv=>whnf
 cases h
 conv=>whnf
 refine Side.mk ⟨rfl,trivial⟩ ?_
 conv=>whnf
 exact ⟨rfl,rfl⟩
 obtain ⟨h,b51d⟩:=cfd b51 h
 conv=>whnf
 refine Nf.mk (List.length words_) len_map ?_
 conv=>whnf
 obtain ⟨oc,hc,hk52⟩:=bind_some h
 clear h
 have h:=hc
 clear hc
 refine Cut.mkS oc (Y:=Unit) (fun (_:Unit)=>mkSt [(1,.im (nL (cL cI) words_)),(2,.own 68 1 0),(4,.own 69 1 0)] [(68,.box 37 21),(69,.box 37 21)] [(68,0,.im (nI q_.Device.M.Inputs)),(68,1,.im (nI q_.Device.M.Start)),(68,2,.im (nL (cL cI) q_.Device.M.Next)),(68,3,.im (nL (cL cI) q_.Device.M.Out)),(68,4,.im (nI q_.Device.State)),(68,5,.im (nB q_.Device.Ready)),(68,6,.im (nL cI q_.Device.Latency.Step)),(68,7,.im (nI q_.Device.Latency.Reset)),(68,8,.im (nI q_.Device.Faults.Lost)),(68,9,.im (nI q_.Device.Faults.Wrong)),(68,10,.im (nI q_.Device.Faults.Crash)),(68,11,.im (nU q_.Device.Seed)),(68,12,.im (nI q_.Device.Steps)),(68,13,.im (nI q_.Device.Resets)),(68,14,.im (nI q_.Device.Time)),(68,15,.im (nI q_.Obs.Inputs)),(68,16,.im (nL c_api_Trace q_.Obs.Traces)),(68,17,.im (nI q_.Votes)),(68,18,.im (nI q_.Tries)),(68,19,.im (nI q_.Asked)),(68,20,.im (nI q_.Hits)),(69,0,.im (nI 0)),(69,1,.im (nI 0)),(69,2,.im (.val (.slice none 0 0))),(69,3,.im (.val (.slice none 0 0))),(69,4,.im (nI 0)),(69,5,.im (nB false)),(69,6,.im (.val (.slice none 0 0))),(69,7,.im (nI 0)),(69,8,.im (nI 0)),(69,9,.im (nI 0)),(69,10,.im (nI 0)),(69,11,.im (nU 0)),(69,12,.im (nI 0)),(69,13,.im (nI 0)),(69,14,.im (nI 0)),(69,15,.im (nI 0)),(69,16,.im (.val (.slice none 0 0))),(69,17,.im (nI 0)),(69,18,.im (nI 0)),(69,19,.im (nI 0)),(69,20,.im (nI 0))]) (fun (_:Unit)=>lZ words_∧lZ q_.Device.M.Next∧lZ q_.Device.M.Out∧lZ q_.Device.Latency.Step∧lZ q_.Obs.Traces∧True) (by rintro ⟨⟩;exact ((Holds.avl 1 rfl).and ((Holds.cel 68 2 rfl (by decide) rfl).and ((Holds.cel 68 3 rfl (by decide) rfl).and ((Holds.cel 68 6 rfl (by decide) rfl).and ((Holds.cel 68 16 rfl (by decide) rfl).and (hT))))))) ?_ ?_
 conv=>whnf
 refine Loops.iter (fun (s:Nat)=>oracle_All.s2 q_ words_ s) (fun y76=>mkSt [(1,.im (nL (cL cI) words_)),(2,.own 68 1 0),(4,.own 69 1 0),(20,.im (nL (cL cI) words_)),(21,.im (nI (↑(List.length words_):Int))),(22,.im (nI (↑y76:Int)))] [(68,.box 37 21),(69,.box 37 21)] [(68,0,.im (nI q_.Device.M.Inputs)),(68,1,.im (nI q_.Device.M.Start)),(68,2,.im (nL (cL cI) q_.Device.M.Next)),(68,3,.im (nL (cL cI) q_.Device.M.Out)),(68,4,.im (nI q_.Device.State)),(68,5,.im (nB q_.Device.Ready)),(68,6,.im (nL cI q_.Device.Latency.Step)),(68,7,.im (nI q_.Device.Latency.Reset)),(68,8,.im (nI q_.Device.Faults.Lost)),(68,9,.im (nI q_.Device.Faults.Wrong)),(68,10,.im (nI q_.Device.Faults.Crash)),(68,11,.im (nU q_.Device.Seed)),(68,12,.im (nI q_.Device.Steps)),(68,13,.im (nI q_.Device.Resets)),(68,14,.im (nI q_.Device.Time)),(68,15,.im (nI q_.Obs.Inputs)),(68,16,.im (nL c_api_Trace q_.Obs.Traces)),(68,17,.im (nI q_.Votes)),(68,18,.im (nI q_.Tries)),(68,19,.im (nI q_.Asked)),(68,20,.im (nI q_.Hits)),(69,0,.im (nI 0)),(69,1,.im (nI 0)),(69,2,.im (.val (.slice none 0 0))),(69,3,.im (.val (.slice none 0 0))),(69,4,.im (nI 0)),(69,5,.im (nB false)),(69,6,.im (.val (.slice none 0 0))),(69,7,.im (nI 0)),(69,8,.im (nI 0)),(69,9,.im (nI 0)),(69,10,.im (nI 0)),(69,11,.im (nU 0)),(69,12,.im (nI 0)),(69,13,.im (nI 0)),(69,14,.im (nI 0)),(69,15,.im (nI 0)),(69,16,.im (.val (.slice none 0 0))),(69,17,.im (nI 0)),(69,18,.im (nI 0)),(69,19,.im (nI 0)),(69,20,.im (nI 0))]) (fun y76=>lZ words_∧lZ q_.Device.M.Next∧lZ q_.Device.M.Out∧lZ q_.Device.Latency.Step∧lZ q_.Obs.Traces∧True) h (eA [(68,some 2),(69,some 4)]) (by rintro y76;exact ((Holds.avl 1 rfl).and ((Holds.cel 68 2 rfl (by decide) rfl).and ((Holds.cel 68 3 rfl (by decide) rfl).and ((Holds.cel 68 6 rfl (by decide) rfl).and ((Holds.cel 68 16 rfl (by decide) rfl).and (hT))))))) ?_
 clear h
 rintro k y76 o hp h ho81
 replace h:oracle_All.s2 q_ words_ y76=some o:=h
 unfold oracle_All.s2 at h
 obtain ⟨z86,z87,z88,z89,z90,_⟩:=hp
 conv=>whnf
 refine Both.mk ?_ ?_<;>intro b82
 obtain ⟨h,b82d⟩:=ctd b82 h
 conv=>whnf
 obtain ⟨e83,he83,h⟩:=idxn_some h
 refine ⟨_,⟨(by omega),map_at he83,rfl⟩,?_⟩
 conv=>whnf
 refine Side.mk rfl ?_
 conv=>whnf
 refine Side.mk rfl ?_
 conv=>whnf
 refine Side.mk rfl ?_
 conv=>whnf
 refine Side.mk rfl ?_
 conv=>whnf
 obtain ⟨c84,hc84,h⟩:=bind_some h
 refine ⟨_,(sp_word_Check e83 q_.Device.M.Inputs c84 (fun _ _=>hc84)),?_⟩
 conv=>whnf
 refine Both.mk ?_ ?_<;>intro b85
 obtain ⟨h,b85d⟩:=ctd b85 h
 conv=>whnf
 refine Side.mk rfl ?_
 conv=>whnf
 refine Side.mk rfl ?_
 conv=>whnf
 cases h
 have ho81:_=_:=ho81
 cases ho81
 replace h:some _=some _:=hk52
 cases h
 conv=>whnf
 refine Side.mk ⟨rfl,trivial⟩ ?_
 conv=>whnf
 exact ⟨rfl,rfl⟩
 obtain ⟨h,b85d⟩:=cfd b85 h
 conv=>whnf
 refine Arith.mk (by show inR _;unfold inR;omega) ?_
 conv=>whnf
 cases h
 exact Nxt.mk _ ho81 (eA [(68,some 68),(69,some 69)])
 obtain ⟨h,b82d⟩:=cfd b82 h
 conv=>whnf
 cases h
 have ho81:_=_:=ho81
 cases ho81
 exact JoinS.mk' _ rfl (eA [(68,some 68),(69,some 69)])
 rintro ⟨⟩ rfl hp
 replace h:=sum_inl hk52
 obtain ⟨z91,z92,z93,z94,z95,_⟩:=hp
 conv=>whnf
 refine Side.mk rfl ?_
 conv=>whnf
 refine Side.mk rfl ?_
 conv=>whnf
 obtain ⟨c96,hc96,h⟩:=bind_some h
 refine ⟨_,(sp_batch_Plan q_.Obs words_ c96 (fun _ _=>hc96)),?_⟩
 conv=>whnf
 refine Both.mk ?_ ?_<;>intro b97
 obtain ⟨h,b97d⟩:=ctd b97 h
 conv=>whnf
 refine Side.mk rfl ?_
 conv=>whnf
 refine Side.mk rfl ?_
 conv=>whnf
 cases h
 conv=>whnf
 refine Side.mk ⟨rfl,trivial⟩ ?_
 conv=>whnf
 exact ⟨rfl,rfl⟩
 obtain ⟨h,b97d⟩:=cfd b97 h
 conv=>whnf
 refine Nf.mk (List.length c96.1) len_map ?_
 conv=>whnf
 obtain ⟨oc,hc,hk98⟩:=bind_some h
 clear h
 have h:=hc
 clear hc
 refine Cut.mkS oc (Y:=Int×Int×List (List Int)×List (List Int)×Int×Bool×List Int×Int×Int×Int×Int×Int×Int×Int×Int×Int×List T_api_Trace×Int×Int×Int×Int) (fun (y139,y140,y141,y142,y143,y144,y145,y146,y147,y148,y149,y150,y151,y152,y153,y154,y155,y156,y157,y158,y159)=>mkSt [(2,.own 68 1 0),(4,.own 69 1 0)] [(68,.box 37 21),(69,.box 37 21)] [(68,0,.im (nI y139)),(68,1,.im (nI y140)),(68,2,.im (nL (cL cI) y141)),(68,3,.im (nL (cL cI) y142)),(68,4,.im (nI y143)),(68,5,.im (nB y144)),(68,6,.im (nL cI y145)),(68,7,.im (nI y146)),(68,8,.im (nI y147)),(68,9,.im (nI y148)),(68,10,.im (nI y149)),(68,11,.im (nU y150)),(68,12,.im (nI y151)),(68,13,.im (nI y152)),(68,14,.im (nI y153)),(68,15,.im (nI y154)),(68,16,.im (nL c_api_Trace y155)),(68,17,.im (nI y156)),(68,18,.im (nI y157)),(68,19,.im (nI y158)),(68,20,.im (nI y159)),(69,0,.im (nI 0)),(69,1,.im (nI 0)),(69,2,.im (.val (.slice none 0 0))),(69,3,.im (.val (.slice none 0 0))),(69,4,.im (nI 0)),(69,5,.im (nB false)),(69,6,.im (.val (.slice none 0 0))),(69,7,.im (nI 0)),(69,8,.im (nI 0)),(69,9,.im (nI 0)),(69,10,.im (nI 0)),(69,11,.im (nU 0)),(69,12,.im (nI 0)),(69,13,.im (nI 0)),(69,14,.im (nI 0)),(69,15,.im (nI 0)),(69,16,.im (.val (.slice none 0 0))),(69,17,.im (nI 0)),(69,18,.im (nI 0)),(69,19,.im (nI 0)),(69,20,.im (nI 0))]) (fun (y139,y140,y141,y142,y143,y144,y145,y146,y147,y148,y149,y150,y151,y152,y153,y154,y155,y156,y157,y158,y159)=>lZ y141∧lZ y142∧lZ y145∧lZ y155∧True) (by rintro ⟨y139,y140,y141,y142,y143,y144,y145,y146,y147,y148,y149,y150,y151,y152,y153,y154,y155,y156,y157,y158,y159⟩;exact ((Holds.cel 68 2 rfl (by decide) rfl).and ((Holds.cel 68 3 rfl (by decide) rfl).and ((Holds.cel 68 6 rfl (by decide) rfl).and ((Holds.cel 68 16 rfl (by decide) rfl).and (hT)))))) ?_ ?_
 conv=>whnf
 refine Loops.iter (fun (s:Int×Int×List (List Int)×List (List Int)×Int×Bool×List Int×Int×Int×Int×Int×Int×Int×Int×Int×Int×List T_api_Trace×Int×Int×Int×Int×Nat)=>oracle_All.s4 c96 s.1 s.2.1 s.2.2.1 s.2.2.2.1 s.2.2.2.2.1 s.2.2.2.2.2.1 s.2.2.2.2.2.2.1 s.2.2.2.2.2.2.2.1 s.2.2.2.2.2.2.2.2.1 s.2.2.2.2.2.2.2.2.2.1 s.2.2.2.2.2.2.2.2.2.2.1 s.2.2.2.2.2.2.2.2.2.2.2.1 s.2.2.2.2.2.2.2.2.2.2.2.2.1 s.2.2.2.2.2.2.2.2.2.2.2.2.2.1 s.2.2.2.2.2.2.2.2.2.2.2.2.2.2.1 s.2.2.2.2.2.2.2.2.2.2.2.2.2.2.2.1 s.2.2.2.2.2.2.2.2.2.2.2.2.2.2.2.2.1 s.2.2.2.2.2.2.2.2.2.2.2.2.2.2.2.2.2.1 s.2.2.2.2.2.2.2.2.2.2.2.2.2.2.2.2.2.2.1 s.2.2.2.2.2.2.2.2.2.2.2.2.2.2.2.2.2.2.2.1 s.2.2.2.2.2.2.2.2.2.2.2.2.2.2.2.2.2.2.2.2.1 s.2.2.2.2.2.2.2.2.2.2.2.2.2.2.2.2.2.2.2.2.2) (fun (y164,y165,y166,y167,y168,y169,y170,y171,y172,y173,y174,y175,y176,y177,y178,y179,y180,y181,y182,y183,y184,y185)=>mkSt [(2,.own 68 1 0),(4,.own 69 1 0),(48,.im (nL (cL cI) c96.1)),(49,.im (nI (↑(List.length c96.1):Int))),(50,.im (nI (↑y185:Int)))] [(68,.box 37 21),(69,.box 37 21)] [(68,0,.im (nI y164)),(68,1,.im (nI y165)),(68,2,.im (nL (cL cI) y166)),(68,3,.im (nL (cL cI) y167)),(68,4,.im (nI y168)),(68,5,.im (nB y169)),(68,6,.im (nL cI y170)),(68,7,.im (nI y171)),(68,8,.im (nI y172)),(68,9,.im (nI y173)),(68,10,.im (nI y174)),(68,11,.im (nU y175)),(68,12,.im (nI y176)),(68,13,.im (nI y177)),(68,14,.im (nI y178)),(68,15,.im (nI y179)),(68,16,.im (nL c_api_Trace y180)),(68,17,.im (nI y181)),(68,18,.im (nI y182)),(68,19,.im (nI y183)),(68,20,.im (nI y184)),(69,0,.im (nI 0)),(69,1,.im (nI 0)),(69,2,.im (.val (.slice none 0 0))),(69,3,.im (.val (.slice none 0 0))),(69,4,.im (nI 0)),(69,5,.im (nB false)),(69,6,.im (.val (.slice none 0 0))),(69,7,.im (nI 0)),(69,8,.im (nI 0)),(69,9,.im (nI 0)),(69,10,.im (nI 0)),(69,11,.im (nU 0)),(69,12,.im (nI 0)),(69,13,.im (nI 0)),(69,14,.im (nI 0)),(69,15,.im (nI 0)),(69,16,.im (.val (.slice none 0 0))),(69,17,.im (nI 0)),(69,18,.im (nI 0)),(69,19,.im (nI 0)),(69,20,.im (nI 0))]) (fun (y164,y165,y166,y167,y168,y169,y170,y171,y172,y173,y174,y175,y176,y177,y178,y179,y180,y181,y182,y183,y184,y185)=>lZ c96.1∧lZ y166∧lZ y167∧lZ y170∧lZ y180∧True) h (eA [(68,some 68),(69,some 69)]) (by rintro ⟨y164,y165,y166,y167,y168,y169,y170,y171,y172,y173,y174,y175,y176,y177,y178,y179,y180,y181,y182,y183,y184,y185⟩;exact ((Holds.avl 48 rfl).and ((Holds.cel 68 2 rfl (by decide) rfl).and ((Holds.cel 68 3 rfl (by decide) rfl).and ((Holds.cel 68 6 rfl (by decide) rfl).and ((Holds.cel 68 16 rfl (by decide) rfl).and (hT))))))) ?_
 clear h
 rintro k ⟨y164,y165,y166,y167,y168,y169,y170,y171,y172,y173,y174,y175,y176,y177,y178,y179,y180,y181,y182,y183,y184,y185⟩ o hp h ho190
 replace h:oracle_All.s4 c96 y164 y165 y166 y167 y168 y169 y170 y171 y172 y173 y174 y175 y176 y177 y178 y179 y180 y181 y182 y183 y184 y185=some o:=h
 unfold oracle_All.s4 at h
 obtain ⟨z195,z196,z197,z198,z199,_⟩:=hp
 conv=>whnf
 refine Both.mk ?_ ?_<;>intro b191
 obtain ⟨h,b191d⟩:=ctd b191 h
 conv=>whnf
 obtain ⟨e192,he192,h⟩:=idxn_some h
 refine ⟨_,⟨(by omega),map_at he192,rfl⟩,?_⟩
 conv=>whnf
 refine Side.mk rfl ?_
 conv=>whnf
 obtain ⟨c193,hc193,h⟩:=bind_some h
 refine ⟨_,(sp_oracle_Ask (⟨(⟨(⟨y164,y165,y166,y167⟩:T_api_Mealy),y168,y169,(⟨y170,y171⟩:T_api_Latency),(⟨y172,y173,y174⟩:T_api_Faults),y175,y176,y177,y178⟩:T_api_Device),(⟨y179,y180⟩:T_api_Obs),y181,y182,y183,y184⟩:T_api_Oracle) e192 c193 (fun _ _=>hc193)),?_⟩
 conv=>whnf
 refine Side.mk rfl ?_
 conv=>whnf
 refine Both.mk ?_ ?_<;>intro b194
 obtain ⟨h,b194d⟩:=ctd b194 h
 conv=>whnf
 refine Side.mk rfl ?_
 conv=>whnf
 refine Side.mk rfl ?_
 conv=>whnf
 cases h
 have ho190:_=_:=ho190
 cases ho190
 replace h:some _=some _:=hk98
 cases h
 conv=>whnf
 refine Side.mk ⟨rfl,trivial⟩ ?_
 conv=>whnf
 exact ⟨rfl,rfl⟩
 obtain ⟨h,b194d⟩:=cfd b194 h
 conv=>whnf
 refine Side.mk rfl ?_
 conv=>whnf
 refine Side.mk rfl ?_
 conv=>whnf
 refine Arith.mk (by show inR _;unfold inR;omega) ?_
 conv=>whnf
 cases h
 exact Nxt.mk _ ho190 (eA [(68,some 68),(69,some 69)])
 obtain ⟨h,b191d⟩:=cfd b191 h
 conv=>whnf
 cases h
 have ho190:_=_:=ho190
 cases ho190
 exact JoinS.mk' _ rfl (eA [(68,some 68),(69,some 69)])
 rintro ⟨y139,y140,y141,y142,y143,y144,y145,y146,y147,y148,y149,y150,y151,y152,y153,y154,y155,y156,y157,y158,y159⟩ rfl hp
 have hx_:=sum_inl hk98
 replace h:oracle_All.k5 y139 y140 y141 y142 y143 y144 y145 y146 y147 y148 y149 y150 y151 y152 y153 y154 y155 y156 y157 y158 y159=some _:=hx_
 clear hx_
 unfold oracle_All.k5 at h
 obtain ⟨z200,z201,z202,z203,_⟩:=hp
 conv=>whnf
 refine Side.mk rfl ?_
 conv=>whnf
 refine Side.mk rfl ?_
 conv=>whnf
 cases h
 conv=>whnf
 refine Side.mk ⟨rfl,trivial⟩ ?_
 conv=>whnf
 exact ⟨rfl,rfl⟩
theorem sp_R20_check (words_:List (List Int)) (inputs_:Int) (r:Int) (h:Ok (nL (cL cI) words_)→Ok (nI inputs_)→R20_check words_ inputs_=some r):Sp Tryz.prog 69 [.im (nL (cL cI) words_),.im (nI inputs_)] (.im (nI r)):=by
 refine sp_of rfl [] rfl rfl rfl (Nat.le_of_ble_eq_true rfl) rfl fun hk=>?_
 replace h:=h hk.1 hk.2.1
 have z1:lZ words_:=ok_len hk.1
 unfold R20_check at h
 conv=>whnf
 obtain ⟨oc,hc,hk51⟩:=bind_some h
 clear h
 have h:=hc
 clear hc
 refine Cut.mkS oc (Y:=Unit) (fun (_:Unit)=>mkSt [] [] []) (fun (_:Unit)=>True) (by rintro ⟨⟩;exact (hT)) ?_ ?_
 conv=>whnf
 refine Loops.iter (fun (s:Nat)=>R20_check.s2 words_ inputs_ s) (fun i71=>mkSt [(0,.im (nL (cL cI) words_)),(1,.im (nI inputs_)),(5,.im (nI (↑i71:Int)))] [] []) (fun i71=>lZ words_∧True) h (eA []) (by rintro i71;exact ((Holds.avl 0 rfl).and (hT))) ?_
 clear h
 rintro k i71 o hp h ho76
 replace h:R20_check.s2 words_ inputs_ i71=some o:=h
 unfold R20_check.s2 at h
 obtain ⟨z81,_⟩:=hp
 conv=>whnf
 refine Nf.mk (List.length words_) len_map ?_
 conv=>whnf
 refine Both.mk ?_ ?_<;>intro b77
 obtain ⟨h,b77d⟩:=ctd b77 h
 conv=>whnf
 obtain ⟨e78,he78,h⟩:=idxn_some h
 refine ⟨_,⟨(by omega),map_at he78,rfl⟩,?_⟩
 conv=>whnf
 obtain ⟨c79,hc79,h⟩:=bind_some h
 refine ⟨_,(sp_R01_Check e78 inputs_ c79 (fun _ _=>hc79)),?_⟩
 conv=>whnf
 refine Both.mk ?_ ?_<;>intro b80
 obtain ⟨h,b80d⟩:=ctd b80 h
 conv=>whnf
 cases h
 have ho76:_=_:=ho76
 cases ho76
 replace h:some _=some _:=hk51
 cases h
 conv=>whnf
 exact ⟨rfl,rfl⟩
 obtain ⟨h,b80d⟩:=cfd b80 h
 conv=>whnf
 refine Arith.mk (by show inR _;unfold inR;omega) ?_
 conv=>whnf
 cases h
 exact Nxt.mk _ ho76 (eA [])
 obtain ⟨h,b77d⟩:=cfd b77 h
 conv=>whnf
 cases h
 have ho76:_=_:=ho76
 cases ho76
 exact JoinS.mk' _ rfl (eA [])
 rintro ⟨⟩ rfl hp
 replace h:=sum_inl hk51
 conv=>whnf
 cases h
 conv=>whnf
 exact ⟨rfl,rfl⟩
theorem sp_R02_place (l_:List (List Int)) (w_:List Int) (r:Int) (h:Ok (nL (cL cI) l_)→Ok (nL cI w_)→R02_place l_ w_=some r):Sp Tryz.prog 122 [.im (nL (cL cI) l_),.im (nL cI w_)] (.im (nI r)):=by
 refine sp_of rfl [] rfl rfl rfl (Nat.le_of_ble_eq_true rfl) rfl fun hk=>?_
 replace h:=h hk.1 hk.2.1
 have z1:lZ l_:=ok_len hk.1
 have z2:lZ w_:=ok_len hk.2.1
 unfold R02_place at h
 conv=>whnf
 refine Nf.mk (List.length l_) len_map ?_
 conv=>whnf
 obtain ⟨low77,hc,hk51⟩:=bind_some h
 clear h
 have h:=hc
 clear hc
 refine Cut.mk (mkSt [(5,.im (nI (↑low77:Int)))] [] []) (True) (hT) ?_ (fun hp=>?_)
 conv=>whnf
 refine Loops.iter (fun (s:Nat×Nat)=>R02_place.s2 l_ w_ s.1 s.2) (fun (low84,high85)=>mkSt [(0,.im (nL (cL cI) l_)),(1,.im (nL cI w_)),(5,.im (nI (↑low84:Int))),(6,.im (nI (↑high85:Int)))] [] []) (fun (low84,high85)=>lZ l_∧lZ w_∧True) h (eA []) (by rintro ⟨low84,high85⟩;exact ((Holds.avl 0 rfl).and ((Holds.avl 1 rfl).and (hT)))) ?_
 clear h
 rintro k ⟨low84,high85⟩ o hp h ho93
 replace h:R02_place.s2 l_ w_ low84 high85=some o:=h
 unfold R02_place.s2 at h
 obtain ⟨z101,z102,_⟩:=hp
 conv=>whnf
 refine Both.mk ?_ ?_<;>intro b94
 obtain ⟨h,b94d⟩:=ctd b94 h
 conv=>whnf
 obtain ⟨c95,h⟩:=chk_some h
 refine Arith.mk c95 ?_
 conv=>whnf
 obtain ⟨c96,h⟩:=chk_some h
 refine Side.mk c96 ?_
 conv=>whnf
 obtain ⟨e97,he97,h⟩:=idxn_some h
 refine ⟨_,⟨(by omega),map_at he97,rfl⟩,?_⟩
 conv=>whnf
 obtain ⟨c98,hc98,h⟩:=bind_some h
 refine ⟨_,(sp_R01_Compare e97 w_ c98 (fun _ _=>hc98)),?_⟩
 conv=>whnf
 refine Both.mk ?_ ?_<;>intro b99
 obtain ⟨h,b99d⟩:=ctd b99 h
 conv=>whnf
 obtain ⟨c100,h⟩:=chk_some h
 refine Arith.mk c100 ?_
 conv=>whnf
 cases h
 exact Nxt.mk _ ho93 (eA [])
 obtain ⟨h,b99d⟩:=cfd b99 h
 conv=>whnf
 cases h
 exact Nxt.mk _ ho93 (eA [])
 obtain ⟨h,b94d⟩:=cfd b94 h
 conv=>whnf
 cases h
 have ho93:_=_:=ho93
 cases ho93
 exact Join.mk (eA [])
 replace h:=hk51
 conv=>whnf
 cases h
 conv=>whnf
 exact ⟨rfl,rfl⟩
theorem sp_R02_with (l_:List (List Int)) (w_:List Int) (r:List (List Int)) (h:OkL (List.map (cL cI) l_)→Ok (nL cI w_)→R02_with l_ w_=some r):Sp Tryz.prog 112 [.row 25 1 (List.map (cL cI) l_),.im (nL cI w_)] (.row 25 1 (List.map (cL cI) r)):=by
 refine sp_of rfl [44,500009] rfl rfl rfl (Nat.le_of_ble_eq_true rfl) rfl fun hk=>?_
 replace h:=h hk.1 hk.2.1
 have z1:lZ l_:=okl_len hk.1
 have z2:lZ w_:=ok_len hk.2.1
 unfold R02_with at h
 conv=>whnf
 refine Side.mk ⟨rfl,trivial⟩ ?_
 conv=>whnf
 obtain ⟨c51,hc51,h⟩:=bind_some h
 refine ⟨_,(sp_R02_place l_ w_ c51 (fun _ _=>hc51)),?_⟩
 conv=>whnf
 refine Side.mk flat_one ?_
 conv=>whnf
 obtain ⟨y57,hc,hk53⟩:=bind_some h
 clear h
 have h:=hc
 clear hc
 refine Cut.mk (mkSt [(0,.osl 64 1),(1,.im (nL cI w_)),(5,.im (nI c51)),(21,.im (nB y57))] [(64,.row 25 1 (List.map (cL cI) l_))] []) (lZ w_∧lZ l_∧True) ((Holds.avl 1 rfl).and ((Holds.kdl 64 rfl).and (hT))) ?_ (fun hp=>?_)
 conv=>whnf
 refine Side.mk rfl ?_
 conv=>whnf
 refine Nf.mk (List.length l_) len_map ?_
 conv=>whnf
 refine Both.mk ?_ ?_<;>intro b58
 replace b58:=beq_tt b58
 obtain ⟨h,b58d⟩:=ctd b58 h
 conv=>whnf
 iterate 2 (refine Both.yes (tt_beq b58) ?_;(conv=>whnf))
 obtain ⟨e59,he59z,he59,h⟩:=idx_some h
 refine Side.mk ⟨he59z,rfl,map_lt he59⟩ ?_
 conv=>whnf
 refine Both.yes (tt_beq b58) ?_
 conv=>whnf
 refine ⟨_,_,⟨rfl,map_at he59,rfl,rfl⟩,?_⟩
 conv=>whnf
 iterate 2 (refine Both.yes (tt_beq b58) ?_;(conv=>whnf))
 obtain ⟨c60,hc60,h⟩:=bind_some h
 refine ⟨_,(sp_R01_Same e59 w_ c60 (fun _ _=>hc60)),?_⟩
 conv=>whnf
 refine Both.yes b58 ?_
 conv=>whnf
 cases h
 exact Join.mk (eA [(64,some 0)])
 replace b58:=beq_tf b58
 obtain ⟨h,b58d⟩:=cfd b58 h
 conv=>whnf
 iterate 5 (refine Both.no (ft_beq b58) ?_;(conv=>whnf))
 refine Both.no b58 ?_
 conv=>whnf
 cases h
 exact Join.mk (eA [(64,some 0)])
 replace h:=hk53
 obtain ⟨z61,z62,_⟩:=hp
 conv=>whnf
 refine Both.mk ?_ ?_<;>intro b63
 replace h:=cond_t b63 h
 conv=>whnf
 cases h
 conv=>whnf
 exact Side.mk ⟨rfl,trivial⟩ ⟨rfl,rfl⟩
 replace h:=cond_f b63 h
 conv=>whnf
 obtain ⟨c64,h⟩:=chk_some h
 refine Side.mk ⟨rfl,map_len (l:=[[]]) (c:=cL cI) fun _=>rfl,show capOk _ 24 by simpa only [List.length_map,List.length_cons,List.length_nil,Nat.zero_add] using c64⟩ ?_
 conv=>whnf
 refine Nf.mk (List.map (cL cI) (l_++[[]])) (app_map (l:=l_) (m:=[[]]) (c:=cL cI)) ?_
 conv=>whnf
 refine Side.mk rfl ?_
 conv=>whnf
 refine Nf.mk (List.length (l_++[[]])) len_map ?_
 conv=>whnf
 obtain ⟨c65,h⟩:=chk_some h
 refine Arith.mk c65 ?_
 conv=>whnf
 obtain ⟨y87,hc,hk66⟩:=bind_some h
 clear h
 have h:=hc
 clear hc
 refine Cut.mk (mkSt [(0,.osl 64 1),(1,.im (nL cI w_)),(5,.im (nI c51))] [(64,.row 25 1 (List.map (cL cI) y87))] []) (lZ w_∧lZ y87∧True) ((Holds.avl 1 rfl).and ((Holds.kdl 64 rfl).and (hT))) ?_ (fun hp=>?_)
 conv=>whnf
 refine Loops.iter (fun (s:List (List Int)×Int)=>R02_with.s2 c51 s.1 s.2) (fun (y93,i94)=>mkSt [(0,.osl 64 1),(1,.im (nL cI w_)),(5,.im (nI c51)),(6,.im (nI i94))] [(64,.row 25 1 (List.map (cL cI) y93))] []) (fun (y93,i94)=>lZ w_∧lZ y93∧True) h (eA [(64,some 64)]) (by rintro ⟨y93,i94⟩;exact ((Holds.avl 1 rfl).and ((Holds.kdl 64 rfl).and (hT)))) ?_
 clear h
 rintro k ⟨y93,i94⟩ o hp h ho100
 replace h:R02_with.s2 c51 y93 i94=some o:=h
 unfold R02_with.s2 at h
 obtain ⟨z106,z107,_⟩:=hp
 conv=>whnf
 refine Both.mk ?_ ?_<;>intro b101
 obtain ⟨h,b101d⟩:=ctd b101 h
 conv=>whnf
 obtain ⟨c102,h⟩:=chk_some h
 refine Arith.mk c102 ?_
 conv=>whnf
 obtain ⟨e103,he103z,he103,h⟩:=idx_some h
 refine Side.mk ⟨he103z,rfl,map_lt he103⟩ ?_
 conv=>whnf
 refine ⟨_,_,⟨rfl,map_at he103,rfl,rfl⟩,?_⟩
 conv=>whnf
 obtain ⟨e104,he104z,he104,h⟩:=idx_some h
 refine Side.mk ⟨he104z,rfl,map_lt he104⟩ ?_
 conv=>whnf
 refine Side.mk ⟨rfl,trivial⟩ ?_
 conv=>whnf
 refine ⟨_,map_at he104,?_⟩
 conv=>whnf
 refine Nf.mk (List.map (cL cI) (List.set y93 i94.toNat e103)) (set_map rfl) ?_
 conv=>whnf
 obtain ⟨c105,h⟩:=chk_some h
 refine Arith.mk c105 ?_
 conv=>whnf
 cases h
 exact Nxt.mk _ ho100 (eA [(64,some 64)])
 obtain ⟨h,b101d⟩:=cfd b101 h
 conv=>whnf
 cases h
 have ho100:_=_:=ho100
 cases ho100
 exact Join.mk (eA [(64,some 64)])
 replace h:=hk66
 obtain ⟨z108,z109,_⟩:=hp
 conv=>whnf
 obtain ⟨c110,h⟩:=chk_some h
 refine Side.mk ⟨rfl,map_len (l:=w_) (c:=cI) fun _=>rfl,show capOk _ 8 by simpa only [List.length_map,List.length_cons,List.length_nil,Nat.zero_add] using c110⟩ ?_
 conv=>whnf
 refine Nf.mk (List.map cI ([]++w_)) (app_map (l:=[]) (m:=w_) (c:=cI)) ?_
 conv=>whnf
 obtain ⟨e111,he111z,he111,h⟩:=idx_some h
 refine Side.mk ⟨he111z,rfl,map_lt he111⟩ ?_
 conv=>whnf
 refine Side.mk ⟨rfl,rfl,trivial⟩ ?_
 conv=>whnf
 refine ⟨_,map_at he111,?_⟩
 conv=>whnf
 refine Nf.mk (List.map (cL cI) (List.set y87 c51.toNat ([]++w_))) (set_map rfl) ?_
 conv=>whnf
 cases h
 conv=>whnf
 exact Side.mk ⟨rfl,trivial⟩ ⟨rfl,rfl⟩
theorem sp_R02_Sorted (l_:List (List Int)) (r:List (List Int)) (h:Ok (nL (cL cI) l_)→R02_Sorted l_=some r):Sp Tryz.prog 93 [.im (nL (cL cI) l_)] (.row 25 1 (List.map (cL cI) r)):=by
 refine sp_of rfl [17000] rfl rfl rfl (Nat.le_of_ble_eq_true rfl) rfl fun hk=>?_
 replace h:=h hk.1
 have z1:lZ l_:=ok_len hk.1
 unfold R02_Sorted at h
 conv=>whnf
 obtain ⟨y66,hc,hk51⟩:=bind_some h
 clear h
 have h:=hc
 clear hc
 refine Cut.mk (mkSt [(3,.osl 64 1)] [(64,.row 25 1 (List.map (cL cI) y66))] []) (lZ y66∧True) ((Holds.kdl 64 rfl).and (hT)) ?_ (fun hp=>?_)
 conv=>whnf
 refine Loops.iter (fun (s:List (List Int)×Nat)=>R02_Sorted.s2 l_ s.1 s.2) (fun (y70,i71)=>mkSt [(0,.im (nL (cL cI) l_)),(3,.osl 64 1),(4,.im (nI (↑i71:Int)))] [(64,.row 25 1 (List.map (cL cI) y70))] []) (fun (y70,i71)=>lZ l_∧lZ y70∧True) h (eA [(64,none)]) (by rintro ⟨y70,i71⟩;exact ((Holds.avl 0 rfl).and ((Holds.kdl 64 rfl).and (hT)))) ?_
 clear h
 rintro k ⟨y70,i71⟩ o hp h ho75
 replace h:R02_Sorted.s2 l_ y70 i71=some o:=h
 unfold R02_Sorted.s2 at h
 obtain ⟨z79,z80,_⟩:=hp
 conv=>whnf
 refine Nf.mk (List.length l_) len_map ?_
 conv=>whnf
 refine Both.mk ?_ ?_<;>intro b76
 obtain ⟨h,b76d⟩:=ctd b76 h
 conv=>whnf
 obtain ⟨e77,he77,h⟩:=idxn_some h
 refine ⟨_,⟨(by omega),map_at he77,rfl⟩,?_⟩
 conv=>whnf
 refine Side.mk ⟨rfl,trivial⟩ ?_
 conv=>whnf
 obtain ⟨c78,hc78,h⟩:=bind_some h
 refine ⟨_,(sp_R02_with y70 e77 c78 (fun _ _=>hc78)),?_⟩
 conv=>whnf
 refine Arith.mk (by show inR _;unfold inR;omega) ?_
 conv=>whnf
 cases h
 exact Nxt.mk _ ho75 (eA [(64,some 16)])
 obtain ⟨h,b76d⟩:=cfd b76 h
 conv=>whnf
 cases h
 have ho75:_=_:=ho75
 cases ho75
 exact Join.mk (eA [(64,some 64)])
 replace h:=hk51
 obtain ⟨z81,_⟩:=hp
 conv=>whnf
 cases h
 conv=>whnf
 exact Side.mk ⟨rfl,trivial⟩ ⟨rfl,rfl⟩
theorem sp_R02_Maximal (l_:List (List Int)) (r:List (List Int)) (h:Ok (nL (cL cI) l_)→R02_Maximal l_=some r):Sp Tryz.prog 70 [.im (nL (cL cI) l_)] (.row 25 1 (List.map (cL cI) r)):=by
 refine sp_of rfl [] rfl rfl rfl (Nat.le_of_ble_eq_true rfl) rfl fun hk=>?_
 replace h:=h hk.1
 have z1:lZ l_:=ok_len hk.1
 unfold R02_Maximal at h
 conv=>whnf
 obtain ⟨c51,hc51,h⟩:=bind_some h
 refine ⟨_,(sp_R02_Sorted l_ c51 (fun _=>hc51)).im,?_⟩
 conv=>whnf
 obtain ⟨y246,hc,hk52⟩:=bind_some h
 clear h
 have h:=hc
 clear hc
 refine Cut.mk (mkSt [(4,.osl 64 1)] [(64,.row 25 1 (List.map (cL cI) y246))] []) (lZ y246∧True) ((Holds.kdl 64 rfl).and (hT)) ?_ (fun hp=>?_)
 conv=>whnf
 refine Loops.iter (fun (s:List (List Int)×Nat)=>R02_Maximal.s14 c51 s.1 s.2) (fun (y307,i308)=>mkSt [(3,.im (nL (cL cI) c51)),(4,.osl 64 1),(5,.im (nI (↑i308:Int)))] [(64,.row 25 1 (List.map (cL cI) y307))] []) (fun (y307,i308)=>lZ c51∧lZ y307∧True) h (eA [(64,none)]) (by rintro ⟨y307,i308⟩;exact ((Holds.avl 3 rfl).and ((Holds.kdl 64 rfl).and (hT)))) ?_
 clear h
 rintro k ⟨y307,i308⟩ o hp h ho373
 replace h:R02_Maximal.s14 c51 y307 i308=some o:=h
 unfold R02_Maximal.s14 at h
 obtain ⟨z438,z439,_⟩:=hp
 conv=>whnf
 refine Nf.mk (List.length c51) len_map ?_
 conv=>whnf
 refine Both.mk ?_ ?_<;>intro b374
 obtain ⟨h,b374d⟩:=ctd b374 h
 conv=>whnf
 refine Arith.mk (by show inR _;unfold inR;omega) ?_
 conv=>whnf
 obtain ⟨top404,hc,hk375⟩:=bind_some h
 clear h
 have h:=hc
 clear hc
 refine Cut.mk (mkSt [(3,.im (nL (cL cI) c51)),(4,.osl 64 1),(5,.im (nI (↑i308:Int))),(6,.im (nB top404))] [(64,.row 25 1 (List.map (cL cI) y307))] []) (lZ c51∧lZ y307∧True) ((Holds.avl 3 rfl).and ((Holds.kdl 64 rfl).and (hT))) ?_ (fun hp=>?_)
 conv=>whnf
 refine Loops.iter (fun (s:Bool×Nat)=>R02_Maximal.s13 c51 i308 s.1 s.2) (fun (top412,k413)=>mkSt [(3,.im (nL (cL cI) c51)),(4,.osl 64 1),(5,.im (nI (↑i308:Int))),(6,.im (nB top412)),(7,.im (nI (↑k413:Int)))] [(64,.row 25 1 (List.map (cL cI) y307))] []) (fun (top412,k413)=>lZ c51∧lZ y307∧True) h (eA [(64,some 64)]) (by rintro ⟨top412,k413⟩;exact ((Holds.avl 3 rfl).and ((Holds.kdl 64 rfl).and (hT)))) ?_
 clear h
 rintro k ⟨top412,k413⟩ o hp h ho422
 replace h:R02_Maximal.s13 c51 i308 top412 k413=some o:=h
 unfold R02_Maximal.s13 at h
 obtain ⟨z431,z432,_⟩:=hp
 conv=>whnf
 refine Nf.mk (List.length c51) len_map ?_
 conv=>whnf
 refine Both.mk ?_ ?_<;>intro b423
 obtain ⟨h,b423d⟩:=ctd b423 h
 conv=>whnf
 refine Both.mk ?_ ?_<;>intro b424
 replace b424:=beq_tt b424
 replace h:=cond_t b424 h
 conv=>whnf
 iterate 2 (refine Both.yes (tt_beq b424) ?_;(conv=>whnf))
 obtain ⟨e425,he425,h⟩:=idxn_some h
 refine ⟨_,⟨(by omega),map_at he425,rfl⟩,?_⟩
 conv=>whnf
 iterate 2 (refine Both.yes (tt_beq b424) ?_;(conv=>whnf))
 refine Nf.mk (List.length e425) len_map ?_
 conv=>whnf
 iterate 3 (refine Both.yes (tt_beq b424) ?_;(conv=>whnf))
 obtain ⟨e426,he426,h⟩:=idxn_some h
 refine ⟨_,⟨(by omega),map_at he426,rfl⟩,?_⟩
 conv=>whnf
 iterate 2 (refine Both.yes (tt_beq b424) ?_;(conv=>whnf))
 refine Nf.mk (List.length e426) len_map ?_
 conv=>whnf
 iterate 2 (refine Both.yes (tt_beq b424) ?_;(conv=>whnf))
 refine Both.mk ?_ ?_<;>intro b427
 replace b427:=beq_ff b427
 obtain ⟨h,b427d⟩:=cfd b427 h
 conv=>whnf
 iterate 2 (refine Both.yes (ff_beq b427) ?_;(conv=>whnf))
 obtain ⟨e428,he428,h⟩:=idxn_some h
 refine ⟨_,⟨(by omega),map_at he428,rfl⟩,?_⟩
 conv=>whnf
 iterate 4 (refine Both.yes (ff_beq b427) ?_;(conv=>whnf))
 obtain ⟨e429,he429,h⟩:=idxn_some h
 refine ⟨_,⟨(by omega),map_at he429,rfl⟩,?_⟩
 conv=>whnf
 iterate 2 (refine Both.yes (ff_beq b427) ?_;(conv=>whnf))
 obtain ⟨c430,hc430,h⟩:=bind_some h
 refine ⟨_,(sp_R01_HasPrefix e428 e429 c430 (fun _ _=>hc430)),?_⟩
 conv=>whnf
 refine Both.yes (ff_beq b427) ?_
 conv=>whnf
 refine Both.yes (tt_beq b424) ?_
 conv=>whnf
 refine Both.no b427 ?_
 conv=>whnf
 refine Both.yes b424 ?_
 conv=>whnf
 refine Arith.mk (by show inR _;unfold inR;omega) ?_
 conv=>whnf
 cases h
 exact Nxt.mk _ ho422 (eA [(64,some 64)])
 replace b427:=beq_ft b427
 obtain ⟨h,b427d⟩:=ctd b427 h
 conv=>whnf
 iterate 9 (refine Both.no (tf_beq b427) ?_;(conv=>whnf))
 refine Both.yes (tt_beq b424) ?_
 conv=>whnf
 refine Both.yes b427 ?_
 conv=>whnf
 refine Both.yes b424 ?_
 conv=>whnf
 refine Arith.mk (by show inR _;unfold inR;omega) ?_
 conv=>whnf
 cases h
 exact Nxt.mk _ ho422 (eA [(64,some 64)])
 replace b424:=beq_tf b424
 replace h:=cond_f b424 h
 conv=>whnf
 iterate 12 (refine Both.no (ft_beq b424) ?_;(conv=>whnf))
 refine Both.no b424 ?_
 conv=>whnf
 refine Arith.mk (by show inR _;unfold inR;omega) ?_
 conv=>whnf
 cases h
 exact Nxt.mk _ ho422 (eA [(64,some 64)])
 obtain ⟨h,b423d⟩:=cfd b423 h
 conv=>whnf
 cases h
 have ho422:_=_:=ho422
 cases ho422
 exact Join.mk (eA [(64,some 64)])
 replace h:=hk375
 obtain ⟨z433,z434,_⟩:=hp
 conv=>whnf
 refine Both.mk ?_ ?_<;>intro b435
 replace h:=cond_t b435 h
 conv=>whnf
 obtain ⟨e436,he436,h⟩:=idxn_some h
 refine ⟨_,⟨(by omega),map_at he436,rfl⟩,?_⟩
 conv=>whnf
 obtain ⟨c437,h⟩:=chk_some h
 refine Side.mk ⟨rfl,map_len (l:=[e436]) (c:=cL cI) fun _=>rfl,show capOk _ 24 by simpa only [List.length_map,List.length_cons,List.length_nil,Nat.zero_add] using c437⟩ ?_
 conv=>whnf
 refine Nf.mk (List.map (cL cI) (y307++[e436])) (app_map (l:=y307) (m:=[e436]) (c:=cL cI)) ?_
 conv=>whnf
 refine Arith.mk (by show inR _;unfold inR;omega) ?_
 conv=>whnf
 cases h
 exact Nxt.mk _ ho373 (eA [(64,some 64)])
 replace h:=cond_f b435 h
 conv=>whnf
 refine Arith.mk (by show inR _;unfold inR;omega) ?_
 conv=>whnf
 cases h
 exact Nxt.mk _ ho373 (eA [(64,some 64)])
 obtain ⟨h,b374d⟩:=cfd b374 h
 conv=>whnf
 cases h
 have ho373:_=_:=ho373
 cases ho373
 exact Join.mk (eA [(64,some 64)])
 replace h:=hk52
 obtain ⟨z440,_⟩:=hp
 conv=>whnf
 cases h
 conv=>whnf
 exact Side.mk ⟨rfl,trivial⟩ ⟨rfl,rfl⟩
theorem sp_R20_Plan (o_:T_api_Obs) (queries_:List (List Int)) (r:List (List Int)×Int) (h:Ok (.agg (c_api_Obs o_))→Ok (nL (cL cI) queries_)→R20_Plan o_ queries_=some r):Sp Tryz.prog 35 [.im (.agg (c_api_Obs o_)),.im (nL (cL cI) queries_)] (.tup [nL (cL cI) r.1,nI r.2]):=by
 refine sp_of rfl [700002] rfl rfl rfl (Nat.le_of_ble_eq_true rfl) rfl fun hk=>?_
 replace h:=h hk.1 hk.2.1
 have z1:lZ o_.Traces:=ok_len (Ok.agg_at hk.1 1 rfl)
 have z2:lZ queries_:=ok_len hk.2.1
 unfold R20_Plan at h
 conv=>whnf
 obtain ⟨c51,hc51,h⟩:=bind_some h
 refine ⟨_,(sp_R20_check queries_ o_.Inputs c51 (fun _ _=>hc51)),?_⟩
 conv=>whnf
 refine Both.mk ?_ ?_<;>intro b52
 obtain ⟨h,b52d⟩:=ctd b52 h
 conv=>whnf
 cases h
 conv=>whnf
 exact ⟨rfl,rfl⟩
 obtain ⟨h,b52d⟩:=cfd b52 h
 conv=>whnf
 obtain ⟨y76,hc,hk53⟩:=bind_some h
 clear h
 have h:=hc
 clear hc
 refine Cut.mk (mkSt [(7,.osl 64 1)] [(64,.row 25 1 (List.map (cL cI) y76))] []) (lZ y76∧True) ((Holds.kdl 64 rfl).and (hT)) ?_ (fun hp=>?_)
 conv=>whnf
 refine Loops.iter (fun (s:List (List Int)×Nat)=>R20_Plan.s2 o_ queries_ s.1 s.2) (fun (y82,i83)=>mkSt [(1,.im (nL (cL cI) queries_)),(2,.im (.ref (c_api_Obs o_))),(7,.osl 64 1),(8,.im (nI (↑i83:Int)))] [(64,.row 25 1 (List.map (cL cI) y82))] []) (fun (y82,i83)=>lZ queries_∧lZ y82∧True) h (eA [(64,none)]) (by rintro ⟨y82,i83⟩;exact ((Holds.avl 1 rfl).and ((Holds.kdl 64 rfl).and (hT)))) ?_
 clear h
 rintro k ⟨y82,i83⟩ o hp h ho90
 replace h:R20_Plan.s2 o_ queries_ y82 i83=some o:=h
 unfold R20_Plan.s2 at h
 obtain ⟨z97,z98,_⟩:=hp
 conv=>whnf
 refine Nf.mk (List.length queries_) len_map ?_
 conv=>whnf
 refine Both.mk ?_ ?_<;>intro b91
 obtain ⟨h,b91d⟩:=ctd b91 h
 conv=>whnf
 obtain ⟨e92,he92,h⟩:=idxn_some h
 refine ⟨_,⟨(by omega),map_at he92,rfl⟩,?_⟩
 conv=>whnf
 obtain ⟨c93,hc93,h⟩:=bind_some h
 refine ⟨_,(sp_R16_Answer o_ e92 c93 (fun _ _=>hc93)),?_⟩
 conv=>whnf
 refine Both.mk ?_ ?_<;>intro b94
 replace h:=cond_t b94 h
 conv=>whnf
 obtain ⟨e95,he95,h⟩:=idxn_some h
 refine ⟨_,⟨(by omega),map_at he95,rfl⟩,?_⟩
 conv=>whnf
 obtain ⟨c96,h⟩:=chk_some h
 refine Side.mk ⟨rfl,map_len (l:=[e95]) (c:=cL cI) fun _=>rfl,show capOk _ 24 by simpa only [List.length_map,List.length_cons,List.length_nil,Nat.zero_add] using c96⟩ ?_
 conv=>whnf
 refine Nf.mk (List.map (cL cI) (y82++[e95])) (app_map (l:=y82) (m:=[e95]) (c:=cL cI)) ?_
 conv=>whnf
 refine Arith.mk (by show inR _;unfold inR;omega) ?_
 conv=>whnf
 cases h
 exact Nxt.mk _ ho90 (eA [(64,some 64)])
 replace h:=cond_f b94 h
 conv=>whnf
 refine Arith.mk (by show inR _;unfold inR;omega) ?_
 conv=>whnf
 cases h
 exact Nxt.mk _ ho90 (eA [(64,some 64)])
 obtain ⟨h,b91d⟩:=cfd b91 h
 conv=>whnf
 cases h
 have ho90:_=_:=ho90
 cases ho90
 exact Join.mk (eA [(64,some 64)])
 replace h:=hk53
 obtain ⟨z99,_⟩:=hp
 conv=>whnf
 refine Side.mk ⟨rfl,trivial⟩ ?_
 conv=>whnf
 obtain ⟨c100,hc100,h⟩:=bind_some h
 refine ⟨_,(sp_R02_Maximal y76 c100 (fun _=>hc100)).im,?_⟩
 conv=>whnf
 cases h
 conv=>whnf
 exact ⟨rfl,rfl⟩
theorem sp_R21_All (q_:T_api_Oracle) (words_:List (List Int)) (r:T_api_Oracle×Int) (h:Ok (.agg (c_api_Oracle q_))→Ok (nL (cL cI) words_)→R21_All q_ words_=some r):Sp Tryz.prog 14 [.im (.agg (c_api_Oracle q_)),.im (nL (cL cI) words_)] (.tup [.agg (c_api_Oracle r.1),nI r.2]):=by
 refine sp_of rfl [] rfl rfl rfl (Nat.le_of_ble_eq_true rfl) rfl fun hk=>?_
 replace h:=h hk.1 hk.2.1
 have z1:lZ q_.Device.M.Next:=ok_len (Ok.agg_at hk.1 2 rfl)
 have z2:lZ q_.Device.M.Out:=ok_len (Ok.agg_at hk.1 3 rfl)
 have z3:lZ q_.Device.Latency.Step:=ok_len (Ok.agg_at hk.1 6 rfl)
 have z4:lZ q_.Obs.Traces:=ok_len (Ok.agg_at hk.1 16 rfl)
 have z5:lZ words_:=ok_len hk.2.1
 unfold R21_All at h
 conv=>whnf
 refine Nf.mk (List.length words_) len_map ?_
 conv=>whnf
 refine Both.mk ?_ ?_<;>intro b51
 obtain ⟨h,b51d⟩:=ctd b51 h
 conv=>whnf
 refine Side.mk rfl ?_
 conv=>whnf
 refine Side.mk rfl ?_
 conv=>whnf
 cases h
 conv=>whnf
 refine Side.mk ⟨rfl,trivial⟩ ?_
 conv=>whnf
 exact ⟨rfl,rfl⟩
 obtain ⟨h,b51d⟩:=cfd b51 h
 conv=>whnf
 obtain ⟨oc,hc,hk52⟩:=bind_some h
 clear h
 have h:=hc
 clear hc
 refine Cut.mkS oc (Y:=Unit) (fun (_:Unit)=>mkSt [(1,.im (nL (cL cI) words_)),(2,.own 70 1 0),(4,.own 71 1 0)] [(70,.box 37 21),(71,.box 37 21)] [(70,0,.im (nI q_.Device.M.Inputs)),(70,1,.im (nI q_.Device.M.Start)),(70,2,.im (nL (cL cI) q_.Device.M.Next)),(70,3,.im (nL (cL cI) q_.Device.M.Out)),(70,4,.im (nI q_.Device.State)),(70,5,.im (nB q_.Device.Ready)),(70,6,.im (nL cI q_.Device.Latency.Step)),(70,7,.im (nI q_.Device.Latency.Reset)),(70,8,.im (nI q_.Device.Faults.Lost)),(70,9,.im (nI q_.Device.Faults.Wrong)),(70,10,.im (nI q_.Device.Faults.Crash)),(70,11,.im (nU q_.Device.Seed)),(70,12,.im (nI q_.Device.Steps)),(70,13,.im (nI q_.Device.Resets)),(70,14,.im (nI q_.Device.Time)),(70,15,.im (nI q_.Obs.Inputs)),(70,16,.im (nL c_api_Trace q_.Obs.Traces)),(70,17,.im (nI q_.Votes)),(70,18,.im (nI q_.Tries)),(70,19,.im (nI q_.Asked)),(70,20,.im (nI q_.Hits)),(71,0,.im (nI 0)),(71,1,.im (nI 0)),(71,2,.im (.val (.slice none 0 0))),(71,3,.im (.val (.slice none 0 0))),(71,4,.im (nI 0)),(71,5,.im (nB false)),(71,6,.im (.val (.slice none 0 0))),(71,7,.im (nI 0)),(71,8,.im (nI 0)),(71,9,.im (nI 0)),(71,10,.im (nI 0)),(71,11,.im (nU 0)),(71,12,.im (nI 0)),(71,13,.im (nI 0)),(71,14,.im (nI 0)),(71,15,.im (nI 0)),(71,16,.im (.val (.slice none 0 0))),(71,17,.im (nI 0)),(71,18,.im (nI 0)),(71,19,.im (nI 0)),(71,20,.im (nI 0))]) (fun (_:Unit)=>lZ words_∧lZ q_.Device.M.Next∧lZ q_.Device.M.Out∧lZ q_.Device.Latency.Step∧lZ q_.Obs.Traces∧True) (by rintro ⟨⟩;exact ((Holds.avl 1 rfl).and ((Holds.cel 70 2 rfl (by decide) rfl).and ((Holds.cel 70 3 rfl (by decide) rfl).and ((Holds.cel 70 6 rfl (by decide) rfl).and ((Holds.cel 70 16 rfl (by decide) rfl).and (hT))))))) ?_ ?_
 conv=>whnf
 refine Loops.iter (fun (s:Nat)=>R21_All.s2 q_ words_ s) (fun i76=>mkSt [(1,.im (nL (cL cI) words_)),(2,.own 70 1 0),(4,.own 71 1 0),(6,.im (nI (↑i76:Int)))] [(70,.box 37 21),(71,.box 37 21)] [(70,0,.im (nI q_.Device.M.Inputs)),(70,1,.im (nI q_.Device.M.Start)),(70,2,.im (nL (cL cI) q_.Device.M.Next)),(70,3,.im (nL (cL cI) q_.Device.M.Out)),(70,4,.im (nI q_.Device.State)),(70,5,.im (nB q_.Device.Ready)),(70,6,.im (nL cI q_.Device.Latency.Step)),(70,7,.im (nI q_.Device.Latency.Reset)),(70,8,.im (nI q_.Device.Faults.Lost)),(70,9,.im (nI q_.Device.Faults.Wrong)),(70,10,.im (nI q_.Device.Faults.Crash)),(70,11,.im (nU q_.Device.Seed)),(70,12,.im (nI q_.Device.Steps)),(70,13,.im (nI q_.Device.Resets)),(70,14,.im (nI q_.Device.Time)),(70,15,.im (nI q_.Obs.Inputs)),(70,16,.im (nL c_api_Trace q_.Obs.Traces)),(70,17,.im (nI q_.Votes)),(70,18,.im (nI q_.Tries)),(70,19,.im (nI q_.Asked)),(70,20,.im (nI q_.Hits)),(71,0,.im (nI 0)),(71,1,.im (nI 0)),(71,2,.im (.val (.slice none 0 0))),(71,3,.im (.val (.slice none 0 0))),(71,4,.im (nI 0)),(71,5,.im (nB false)),(71,6,.im (.val (.slice none 0 0))),(71,7,.im (nI 0)),(71,8,.im (nI 0)),(71,9,.im (nI 0)),(71,10,.im (nI 0)),(71,11,.im (nU 0)),(71,12,.im (nI 0)),(71,13,.im (nI 0)),(71,14,.im (nI 0)),(71,15,.im (nI 0)),(71,16,.im (.val (.slice none 0 0))),(71,17,.im (nI 0)),(71,18,.im (nI 0)),(71,19,.im (nI 0)),(71,20,.im (nI 0))]) (fun i76=>lZ words_∧lZ q_.Device.M.Next∧lZ q_.Device.M.Out∧lZ q_.Device.Latency.Step∧lZ q_.Obs.Traces∧True) h (eA [(70,some 2),(71,some 4)]) (by rintro i76;exact ((Holds.avl 1 rfl).and ((Holds.cel 70 2 rfl (by decide) rfl).and ((Holds.cel 70 3 rfl (by decide) rfl).and ((Holds.cel 70 6 rfl (by decide) rfl).and ((Holds.cel 70 16 rfl (by decide) rfl).and (hT))))))) ?_
 clear h
 rintro k i76 o hp h ho81
 replace h:R21_All.s2 q_ words_ i76=some o:=h
 unfold R21_All.s2 at h
 obtain ⟨z86,z87,z88,z89,z90,_⟩:=hp
 conv=>whnf
 refine Nf.mk (List.length words_) len_map ?_
 conv=>whnf
 refine Both.mk ?_ ?_<;>intro b82
 obtain ⟨h,b82d⟩:=ctd b82 h
 conv=>whnf
 obtain ⟨e83,he83,h⟩:=idxn_some h
 refine ⟨_,⟨(by omega),map_at he83,rfl⟩,?_⟩
 conv=>whnf
 refine Side.mk rfl ?_
 conv=>whnf
 refine Side.mk rfl ?_
 conv=>whnf
 refine Side.mk rfl ?_
 conv=>whnf
 refine Side.mk rfl ?_
 conv=>whnf
 obtain ⟨c84,hc84,h⟩:=bind_some h
 refine ⟨_,(sp_R01_Check e83 q_.Device.M.Inputs c84 (fun _ _=>hc84)),?_⟩
 conv=>whnf
 refine Both.mk ?_ ?_<;>intro b85
 obtain ⟨h,b85d⟩:=ctd b85 h
 conv=>whnf
 refine Side.mk rfl ?_
 conv=>whnf
 refine Side.mk rfl ?_
 conv=>whnf
 cases h
 have ho81:_=_:=ho81
 cases ho81
 replace h:some _=some _:=hk52
 cases h
 conv=>whnf
 refine Side.mk ⟨rfl,trivial⟩ ?_
 conv=>whnf
 exact ⟨rfl,rfl⟩
 obtain ⟨h,b85d⟩:=cfd b85 h
 conv=>whnf
 refine Arith.mk (by show inR _;unfold inR;omega) ?_
 conv=>whnf
 cases h
 exact Nxt.mk _ ho81 (eA [(70,some 70),(71,some 71)])
 obtain ⟨h,b82d⟩:=cfd b82 h
 conv=>whnf
 cases h
 have ho81:_=_:=ho81
 cases ho81
 exact JoinS.mk' _ rfl (eA [(70,some 70),(71,some 71)])
 rintro ⟨⟩ rfl hp
 replace h:=sum_inl hk52
 obtain ⟨z91,z92,z93,z94,z95,_⟩:=hp
 conv=>whnf
 refine Side.mk rfl ?_
 conv=>whnf
 refine Side.mk rfl ?_
 conv=>whnf
 obtain ⟨c96,hc96,h⟩:=bind_some h
 refine ⟨_,(sp_R20_Plan q_.Obs words_ c96 (fun _ _=>hc96)),?_⟩
 conv=>whnf
 refine Both.mk ?_ ?_<;>intro b97
 obtain ⟨h,b97d⟩:=ctd b97 h
 conv=>whnf
 refine Side.mk rfl ?_
 conv=>whnf
 refine Side.mk rfl ?_
 conv=>whnf
 cases h
 conv=>whnf
 refine Side.mk ⟨rfl,trivial⟩ ?_
 conv=>whnf
 exact ⟨rfl,rfl⟩
 obtain ⟨h,b97d⟩:=cfd b97 h
 conv=>whnf
 obtain ⟨oc,hc,hk98⟩:=bind_some h
 clear h
 have h:=hc
 clear hc
 refine Cut.mkS oc (Y:=Int×Int×List (List Int)×List (List Int)×Int×Bool×List Int×Int×Int×Int×Int×Int×Int×Int×Int×Int×List T_api_Trace×Int×Int×Int×Int) (fun (y139,y140,y141,y142,y143,y144,y145,y146,y147,y148,y149,y150,y151,y152,y153,y154,y155,y156,y157,y158,y159)=>mkSt [(2,.own 70 1 0),(4,.own 71 1 0)] [(70,.box 37 21),(71,.box 37 21)] [(70,0,.im (nI y139)),(70,1,.im (nI y140)),(70,2,.im (nL (cL cI) y141)),(70,3,.im (nL (cL cI) y142)),(70,4,.im (nI y143)),(70,5,.im (nB y144)),(70,6,.im (nL cI y145)),(70,7,.im (nI y146)),(70,8,.im (nI y147)),(70,9,.im (nI y148)),(70,10,.im (nI y149)),(70,11,.im (nU y150)),(70,12,.im (nI y151)),(70,13,.im (nI y152)),(70,14,.im (nI y153)),(70,15,.im (nI y154)),(70,16,.im (nL c_api_Trace y155)),(70,17,.im (nI y156)),(70,18,.im (nI y157)),(70,19,.im (nI y158)),(70,20,.im (nI y159)),(71,0,.im (nI 0)),(71,1,.im (nI 0)),(71,2,.im (.val (.slice none 0 0))),(71,3,.im (.val (.slice none 0 0))),(71,4,.im (nI 0)),(71,5,.im (nB false)),(71,6,.im (.val (.slice none 0 0))),(71,7,.im (nI 0)),(71,8,.im (nI 0)),(71,9,.im (nI 0)),(71,10,.im (nI 0)),(71,11,.im (nU 0)),(71,12,.im (nI 0)),(71,13,.im (nI 0)),(71,14,.im (nI 0)),(71,15,.im (nI 0)),(71,16,.im (.val (.slice none 0 0))),(71,17,.im (nI 0)),(71,18,.im (nI 0)),(71,19,.im (nI 0)),(71,20,.im (nI 0))]) (fun (y139,y140,y141,y142,y143,y144,y145,y146,y147,y148,y149,y150,y151,y152,y153,y154,y155,y156,y157,y158,y159)=>lZ y141∧lZ y142∧lZ y145∧lZ y155∧True) (by rintro ⟨y139,y140,y141,y142,y143,y144,y145,y146,y147,y148,y149,y150,y151,y152,y153,y154,y155,y156,y157,y158,y159⟩;exact ((Holds.cel 70 2 rfl (by decide) rfl).and ((Holds.cel 70 3 rfl (by decide) rfl).and ((Holds.cel 70 6 rfl (by decide) rfl).and ((Holds.cel 70 16 rfl (by decide) rfl).and (hT)))))) ?_ ?_
 conv=>whnf
 refine Loops.iter (fun (s:Int×Int×List (List Int)×List (List Int)×Int×Bool×List Int×Int×Int×Int×Int×Int×Int×Int×Int×Int×List T_api_Trace×Int×Int×Int×Int×Nat)=>R21_All.s4 c96 s.1 s.2.1 s.2.2.1 s.2.2.2.1 s.2.2.2.2.1 s.2.2.2.2.2.1 s.2.2.2.2.2.2.1 s.2.2.2.2.2.2.2.1 s.2.2.2.2.2.2.2.2.1 s.2.2.2.2.2.2.2.2.2.1 s.2.2.2.2.2.2.2.2.2.2.1 s.2.2.2.2.2.2.2.2.2.2.2.1 s.2.2.2.2.2.2.2.2.2.2.2.2.1 s.2.2.2.2.2.2.2.2.2.2.2.2.2.1 s.2.2.2.2.2.2.2.2.2.2.2.2.2.2.1 s.2.2.2.2.2.2.2.2.2.2.2.2.2.2.2.1 s.2.2.2.2.2.2.2.2.2.2.2.2.2.2.2.2.1 s.2.2.2.2.2.2.2.2.2.2.2.2.2.2.2.2.2.1 s.2.2.2.2.2.2.2.2.2.2.2.2.2.2.2.2.2.2.1 s.2.2.2.2.2.2.2.2.2.2.2.2.2.2.2.2.2.2.2.1 s.2.2.2.2.2.2.2.2.2.2.2.2.2.2.2.2.2.2.2.2.1 s.2.2.2.2.2.2.2.2.2.2.2.2.2.2.2.2.2.2.2.2.2) (fun (y164,y165,y166,y167,y168,y169,y170,y171,y172,y173,y174,y175,y176,y177,y178,y179,y180,y181,y182,y183,y184,i185)=>mkSt [(2,.own 70 1 0),(4,.own 71 1 0),(8,.im (nL (cL cI) c96.1)),(10,.im (nI (↑i185:Int)))] [(70,.box 37 21),(71,.box 37 21)] [(70,0,.im (nI y164)),(70,1,.im (nI y165)),(70,2,.im (nL (cL cI) y166)),(70,3,.im (nL (cL cI) y167)),(70,4,.im (nI y168)),(70,5,.im (nB y169)),(70,6,.im (nL cI y170)),(70,7,.im (nI y171)),(70,8,.im (nI y172)),(70,9,.im (nI y173)),(70,10,.im (nI y174)),(70,11,.im (nU y175)),(70,12,.im (nI y176)),(70,13,.im (nI y177)),(70,14,.im (nI y178)),(70,15,.im (nI y179)),(70,16,.im (nL c_api_Trace y180)),(70,17,.im (nI y181)),(70,18,.im (nI y182)),(70,19,.im (nI y183)),(70,20,.im (nI y184)),(71,0,.im (nI 0)),(71,1,.im (nI 0)),(71,2,.im (.val (.slice none 0 0))),(71,3,.im (.val (.slice none 0 0))),(71,4,.im (nI 0)),(71,5,.im (nB false)),(71,6,.im (.val (.slice none 0 0))),(71,7,.im (nI 0)),(71,8,.im (nI 0)),(71,9,.im (nI 0)),(71,10,.im (nI 0)),(71,11,.im (nU 0)),(71,12,.im (nI 0)),(71,13,.im (nI 0)),(71,14,.im (nI 0)),(71,15,.im (nI 0)),(71,16,.im (.val (.slice none 0 0))),(71,17,.im (nI 0)),(71,18,.im (nI 0)),(71,19,.im (nI 0)),(71,20,.im (nI 0))]) (fun (y164,y165,y166,y167,y168,y169,y170,y171,y172,y173,y174,y175,y176,y177,y178,y179,y180,y181,y182,y183,y184,i185)=>lZ c96.1∧lZ y166∧lZ y167∧lZ y170∧lZ y180∧True) h (eA [(70,some 70),(71,some 71)]) (by rintro ⟨y164,y165,y166,y167,y168,y169,y170,y171,y172,y173,y174,y175,y176,y177,y178,y179,y180,y181,y182,y183,y184,i185⟩;exact ((Holds.avl 8 rfl).and ((Holds.cel 70 2 rfl (by decide) rfl).and ((Holds.cel 70 3 rfl (by decide) rfl).and ((Holds.cel 70 6 rfl (by decide) rfl).and ((Holds.cel 70 16 rfl (by decide) rfl).and (hT))))))) ?_
 clear h
 rintro k ⟨y164,y165,y166,y167,y168,y169,y170,y171,y172,y173,y174,y175,y176,y177,y178,y179,y180,y181,y182,y183,y184,i185⟩ o hp h ho190
 replace h:R21_All.s4 c96 y164 y165 y166 y167 y168 y169 y170 y171 y172 y173 y174 y175 y176 y177 y178 y179 y180 y181 y182 y183 y184 i185=some o:=h
 unfold R21_All.s4 at h
 obtain ⟨z195,z196,z197,z198,z199,_⟩:=hp
 conv=>whnf
 refine Nf.mk (List.length c96.1) len_map ?_
 conv=>whnf
 refine Both.mk ?_ ?_<;>intro b191
 obtain ⟨h,b191d⟩:=ctd b191 h
 conv=>whnf
 refine Side.mk rfl ?_
 conv=>whnf
 obtain ⟨e192,he192,h⟩:=idxn_some h
 refine ⟨_,⟨(by omega),map_at he192,rfl⟩,?_⟩
 conv=>whnf
 obtain ⟨c193,hc193,h⟩:=bind_some h
 refine ⟨_,(sp_R21_Ask (⟨(⟨(⟨y164,y165,y166,y167⟩:T_api_Mealy),y168,y169,(⟨y170,y171⟩:T_api_Latency),(⟨y172,y173,y174⟩:T_api_Faults),y175,y176,y177,y178⟩:T_api_Device),(⟨y179,y180⟩:T_api_Obs),y181,y182,y183,y184⟩:T_api_Oracle) e192 c193 (fun _ _=>hc193)),?_⟩
 conv=>whnf
 refine Side.mk rfl ?_
 conv=>whnf
 refine Side.mk rfl ?_
 conv=>whnf
 refine Side.mk rfl ?_
 conv=>whnf
 refine Both.mk ?_ ?_<;>intro b194
 obtain ⟨h,b194d⟩:=ctd b194 h
 conv=>whnf
 refine Side.mk rfl ?_
 conv=>whnf
 refine Side.mk rfl ?_
 conv=>whnf
 cases h
 have ho190:_=_:=ho190
 cases ho190
 replace h:some _=some _:=hk98
 cases h
 conv=>whnf
 refine Side.mk ⟨rfl,trivial⟩ ?_
 conv=>whnf
 exact ⟨rfl,rfl⟩
 obtain ⟨h,b194d⟩:=cfd b194 h
 conv=>whnf
 refine Arith.mk (by show inR _;unfold inR;omega) ?_
 conv=>whnf
 cases h
 exact Nxt.mk _ ho190 (eA [(70,some 70),(71,some 71)])
 obtain ⟨h,b191d⟩:=cfd b191 h
 conv=>whnf
 cases h
 have ho190:_=_:=ho190
 cases ho190
 exact JoinS.mk' _ rfl (eA [(70,some 70),(71,some 71)])
 rintro ⟨y139,y140,y141,y142,y143,y144,y145,y146,y147,y148,y149,y150,y151,y152,y153,y154,y155,y156,y157,y158,y159⟩ rfl hp
 have hx_:=sum_inl hk98
 replace h:R21_All.k5 y139 y140 y141 y142 y143 y144 y145 y146 y147 y148 y149 y150 y151 y152 y153 y154 y155 y156 y157 y158 y159=some _:=hx_
 clear hx_
 unfold R21_All.k5 at h
 obtain ⟨z200,z201,z202,z203,_⟩:=hp
 conv=>whnf
 refine Side.mk rfl ?_
 conv=>whnf
 refine Side.mk rfl ?_
 conv=>whnf
 cases h
 conv=>whnf
 refine Side.mk ⟨rfl,trivial⟩ ?_
 conv=>whnf
 exact ⟨rfl,rfl⟩
theorem sp_L21_OracleAll (q_:T_api_Oracle) (words_:List (List Int)) (r:Bool) (h:Ok (.agg (c_api_Oracle q_))→Ok (nL (cL cI) words_)→L21_OracleAll q_ words_=some r):Sp Tryz.prog 4 [.im (.agg (c_api_Oracle q_)),.im (nL (cL cI) words_)] (.im (nB r)):=by
 refine sp_of rfl [700002] rfl rfl rfl (Nat.le_of_ble_eq_true rfl) rfl fun hk=>?_
 replace h:=h hk.1 hk.2.1
 have z1:lZ q_.Device.M.Next:=ok_len (Ok.agg_at hk.1 2 rfl)
 have z2:lZ q_.Device.M.Out:=ok_len (Ok.agg_at hk.1 3 rfl)
 have z3:lZ q_.Device.Latency.Step:=ok_len (Ok.agg_at hk.1 6 rfl)
 have z4:lZ q_.Obs.Traces:=ok_len (Ok.agg_at hk.1 16 rfl)
 have z5:lZ words_:=ok_len hk.2.1
 unfold L21_OracleAll at h
 conv=>whnf
 obtain ⟨y58,hc,hk52⟩:=bind_some h
 clear h
 have h:=hc
 clear hc
 refine Cut.mk (mkSt [(1,.im (nL (cL cI) words_)),(2,.im (.ref (c_api_Oracle q_))),(19,.im (nB y58))] [] []) (lZ words_∧True) ((Holds.avl 1 rfl).and (hT)) ?_ (fun hp=>?_)
 conv=>whnf
 obtain ⟨c59,hc59,h⟩:=bind_some h
 refine ⟨_,(sp_L21_Great q_ c59 (fun _=>hc59)),?_⟩
 conv=>whnf
 refine Both.mk ?_ ?_<;>intro b60
 replace b60:=beq_ff b60
 replace h:=cond_f b60 h
 conv=>whnf
 refine Both.yes (ff_beq b60) ?_
 conv=>whnf
 obtain ⟨c61,hc61,h⟩:=bind_some h
 refine ⟨_,(sp_L21_long words_ c61 (fun _=>hc61)),?_⟩
 conv=>whnf
 refine Both.no b60 ?_
 conv=>whnf
 refine Both.mk ?_ ?_<;>intro b62
 replace b62:=beq_ff b62
 replace h:=cond_f b62 h
 conv=>whnf
 refine Both.yes (ff_beq b62) ?_
 conv=>whnf
 obtain ⟨c63,hc63,h⟩:=bind_some h
 refine ⟨_,(sp_R21_Valid q_ c63 (fun _=>hc63)),?_⟩
 conv=>whnf
 refine Both.yes (ff_beq b62) ?_
 conv=>whnf
 refine Both.no b62 ?_
 conv=>whnf
 cases h
 exact Join.mk (eA [])
 replace b62:=beq_ft b62
 replace h:=cond_t b62 h
 conv=>whnf
 iterate 2 (refine Both.no (tf_beq b62) ?_;(conv=>whnf))
 refine Both.yes b62 ?_
 conv=>whnf
 cases h
 exact Join.mk (eA [])
 replace b60:=beq_ft b60
 replace h:=cond_t b60 h
 conv=>whnf
 refine Both.no (tf_beq b60) ?_
 conv=>whnf
 refine Both.yes b60 ?_
 conv=>whnf
 iterate 3 (refine Both.no rfl ?_;(conv=>whnf))
 refine Both.yes rfl ?_
 conv=>whnf
 cases h
 exact Join.mk (eA [])
 replace h:=hk52
 obtain ⟨z64,_⟩:=hp
 conv=>whnf
 refine Both.mk ?_ ?_<;>intro b65
 replace h:=cond_t b65 h
 conv=>whnf
 obtain ⟨c66,hc66,h⟩:=bind_some h
 refine ⟨_,(sp_L21_awake  c66 (hc66)),?_⟩
 conv=>whnf
 cases h
 conv=>whnf
 exact ⟨rfl,rfl⟩
 replace h:=cond_f b65 h
 conv=>whnf
 obtain ⟨c67,hc67,h⟩:=bind_some h
 refine ⟨_,(sp_oracle_All q_ words_ c67 (fun _ _=>hc67)),?_⟩
 conv=>whnf
 refine Side.mk rfl ?_
 conv=>whnf
 obtain ⟨c68,hc68,h⟩:=bind_some h
 refine ⟨_,(sp_R21_All q_ words_ c68 (fun _ _=>hc68)),?_⟩
 conv=>whnf
 refine Side.mk rfl ?_
 conv=>whnf
 obtain ⟨y75,hc,hk70⟩:=bind_some h
 clear h
 have h:=hc
 clear hc
 refine Cut.mk (mkSt [(4,.im (nB y75))] [] []) (True) (hT) ?_ (fun hp=>?_)
 conv=>whnf
 refine Side.mk rfl ?_
 conv=>whnf
 refine Side.mk rfl ?_
 conv=>whnf
 obtain ⟨c76,hc76,h⟩:=bind_some h
 refine ⟨_,(sp_R21_Same c67.1 c68.1 c76 (fun _ _=>hc76)),?_⟩
 conv=>whnf
 refine Both.mk ?_ ?_<;>intro b77
 replace b77:=beq_tt b77
 replace h:=cond_t b77 h
 conv=>whnf
 iterate 2 (refine Both.yes (tt_beq b77) ?_;(conv=>whnf))
 refine Both.yes b77 ?_
 conv=>whnf
 refine Both.mk ?_ ?_<;>intro b78
 replace b78:=beq_tt b78
 obtain ⟨h,b78d⟩:=ctd b78 h
 conv=>whnf
 obtain ⟨c79,hc79,h⟩:=bind_some h
 refine ⟨_,(sp_L21_awake  c79 (hc79)),?_⟩
 conv=>whnf
 refine Both.yes b78 ?_
 conv=>whnf
 cases h
 exact Join.mk (eA [])
 replace b78:=beq_tf b78
 obtain ⟨h,b78d⟩:=cfd b78 h
 conv=>whnf
 refine Both.no b78 ?_
 conv=>whnf
 cases h
 exact Join.mk (eA [])
 replace b77:=beq_tf b77
 replace h:=cond_f b77 h
 conv=>whnf
 iterate 2 (refine Both.no (ft_beq b77) ?_;(conv=>whnf))
 refine Both.no b77 ?_
 conv=>whnf
 iterate 2 (refine Both.no rfl ?_;(conv=>whnf))
 cases h
 exact Join.mk (eA [])
 replace h:=hk70
 conv=>whnf
 cases h
 conv=>whnf
 exact ⟨rfl,rfl⟩
end Go.Proofs.YtajipjnfegmlcaaGreatDoor.Sym
