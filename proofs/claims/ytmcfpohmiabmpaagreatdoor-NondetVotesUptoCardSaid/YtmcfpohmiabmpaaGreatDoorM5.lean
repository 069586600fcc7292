/-
  The contracts of the functions, read from the code by a program (ext.py): each function has its plain twin as its contract.
-/
import Derived.Test.YtmcfpohmiabmpaaGreatDoorM4
set_option linter.all false
namespace Go.Proofs.YtmcfpohmiabmpaaGreatDoor.Sym
open Go.RowKit
set_option maxRecDepth 100000
set_option linter.unusedVariables false
set_option maxHeartbeats 4000000
theorem sp_R06_SameTraces (a_:List T_api_Trace) (b_:List T_api_Trace) (r:Bool) (h:Ok (nL c_api_Trace a_)→Ok (nL c_api_Trace b_)→R06_SameTraces a_ b_=some r):Sp Tryz.prog 53 [.im (nL c_api_Trace a_),.im (nL c_api_Trace b_)] (.im (nB r)):=by
 refine sp_of rfl [] rfl rfl rfl (Nat.le_of_ble_eq_true rfl) rfl fun hk=>?_
 replace h:=h hk.1 hk.2.1
 have z1:lZ a_:=ok_len hk.1
 have z2:lZ b_:=ok_len hk.2.1
 unfold R06_SameTraces at h
 conv=>whnf
 refine Nf.mk (List.length a_) len_map ?_
 conv=>whnf
 refine Nf.mk (List.length b_) len_map ?_
 conv=>whnf
 refine Both.mk ?_ ?_<;>intro b51
 obtain ⟨h,b51d⟩:=ctd b51 h
 conv=>whnf
 cases h
 conv=>whnf
 exact ⟨rfl,rfl⟩
 obtain ⟨h,b51d⟩:=cfd b51 h
 conv=>whnf
 obtain ⟨oc,hc,hk52⟩:=bind_some h
 clear h
 have h:=hc
 clear hc
 refine Cut.mkS oc (Y:=Unit) (fun (_:Unit)=>mkSt [] [] []) (fun (_:Unit)=>True) (by rintro ⟨⟩;exact (hT)) ?_ ?_
 conv=>whnf
 refine Loops.iter (fun (s:Nat)=>R06_SameTraces.s2 a_ b_ s) (fun i141=>mkSt [(0,.im (nL c_api_Trace a_)),(1,.im (nL c_api_Trace b_)),(5,.im (nI (↑i141:Int)))] [] []) (fun i141=>lZ a_∧lZ b_∧True) h (eA []) (by rintro i141;exact ((Holds.avl 0 rfl).and ((Holds.avl 1 rfl).and (hT)))) ?_
 clear h
 rintro k i141 o hp h ho163
 replace h:R06_SameTraces.s2 a_ b_ i141=some o:=h
 unfold R06_SameTraces.s2 at h
 obtain ⟨z185,z186,_⟩:=hp
 conv=>whnf
 refine Nf.mk (List.length a_) len_map ?_
 conv=>whnf
 refine Both.mk ?_ ?_<;>intro b164
 obtain ⟨h,b164d⟩:=ctd b164 h
 conv=>whnf
 obtain ⟨y174,hc,hk166⟩:=bind_some h
 clear h
 have h:=hc
 clear hc
 refine Cut.mk (mkSt [(0,.im (nL c_api_Trace a_)),(1,.im (nL c_api_Trace b_)),(5,.im (nI (↑i141:Int))),(42,.im (nB y174))] [] []) (lZ a_∧lZ b_∧True) ((Holds.avl 0 rfl).and ((Holds.avl 1 rfl).and (hT))) ?_ (fun hp=>?_)
 conv=>whnf
 obtain ⟨e175,he175,h⟩:=idxn_some h
 refine ⟨_,⟨(by omega),map_at he175,rfl⟩,?_⟩
 conv=>whnf
 obtain ⟨e176,he176,h⟩:=idxn_some h
 refine ⟨_,⟨(by omega),map_at he176,rfl⟩,?_⟩
 conv=>whnf
 obtain ⟨c177,hc177,h⟩:=bind_some h
 refine ⟨_,(sp_R06_Ints e175.In e176.In c177 (fun _ _=>hc177)),?_⟩
 conv=>whnf
 refine Both.mk ?_ ?_<;>intro b178
 replace b178:=beq_ff b178
 replace h:=cond_f b178 h
 conv=>whnf
 iterate 2 (refine Both.yes (ff_beq b178) ?_;(conv=>whnf))
 obtain ⟨e179,he179,h⟩:=idxn_some h
 refine ⟨_,⟨(by omega),map_at he179,rfl⟩,?_⟩
 conv=>whnf
 iterate 5 (refine Both.yes (ff_beq b178) ?_;(conv=>whnf))
 obtain ⟨e180,he180,h⟩:=idxn_some h
 refine ⟨_,⟨(by omega),map_at he180,rfl⟩,?_⟩
 conv=>whnf
 iterate 3 (refine Both.yes (ff_beq b178) ?_;(conv=>whnf))
 obtain ⟨c181,hc181,h⟩:=bind_some h
 refine ⟨_,(sp_R06_Ints e179.Out e180.Out c181 (fun _ _=>hc181)),?_⟩
 conv=>whnf
 refine Both.yes (ff_beq b178) ?_
 conv=>whnf
 refine Both.no b178 ?_
 conv=>whnf
 cases h
 exact Join.mk (eA [])
 replace b178:=beq_ft b178
 replace h:=cond_t b178 h
 conv=>whnf
 iterate 11 (refine Both.no (tf_beq b178) ?_;(conv=>whnf))
 refine Both.yes b178 ?_
 conv=>whnf
 cases h
 exact Join.mk (eA [])
 replace h:=hk166
 obtain ⟨z182,z183,_⟩:=hp
 conv=>whnf
 refine Both.mk ?_ ?_<;>intro b184
 replace h:=cond_t b184 h
 conv=>whnf
 cases h
 have ho163:_=_:=ho163
 cases ho163
 replace h:some _=some _:=hk52
 cases h
 conv=>whnf
 exact ⟨rfl,rfl⟩
 replace h:=cond_f b184 h
 conv=>whnf
 refine Arith.mk (by show inR _;unfold inR;omega) ?_
 conv=>whnf
 cases h
 exact Nxt.mk _ ho163 (eA [])
 obtain ⟨h,b164d⟩:=cfd b164 h
 conv=>whnf
 cases h
 have ho163:_=_:=ho163
 cases ho163
 exact JoinS.mk' _ rfl (eA [])
 rintro ⟨⟩ rfl hp
 replace h:=sum_inl hk52
 conv=>whnf
 cases h
 conv=>whnf
 exact ⟨rfl,rfl⟩
theorem sp_R16_Same (a_:T_api_Obs) (b_:T_api_Obs) (r:Bool) (h:Ok (.agg (c_api_Obs a_))→Ok (.agg (c_api_Obs b_))→R16_Same a_ b_=some r):Sp Tryz.prog 23 [.im (.agg (c_api_Obs a_)),.im (.agg (c_api_Obs b_))] (.im (nB r)):=by
 refine sp_of rfl [700002,700003] rfl rfl rfl (Nat.le_of_ble_eq_true rfl) rfl fun hk=>?_
 replace h:=h hk.1 hk.2.1
 have z1:lZ a_.Traces:=ok_len (Ok.agg_at hk.1 1 rfl)
 have z2:lZ b_.Traces:=ok_len (Ok.agg_at hk.2.1 1 rfl)
 unfold R16_Same at h
 conv=>whnf
 obtain ⟨y55,hc,hk52⟩:=bind_some h
 clear h
 have h:=hc
 clear hc
 refine Cut.mk (mkSt [(4,.im (nB y55))] [] []) (True) (hT) ?_ (fun hp=>?_)
 conv=>whnf
 refine Both.mk ?_ ?_<;>intro b56
 replace b56:=beq_tt b56
 obtain ⟨h,b56d⟩:=ctd b56 h
 conv=>whnf
 iterate 4 (refine Both.yes (tt_beq b56) ?_;(conv=>whnf))
 obtain ⟨c57,hc57,h⟩:=bind_some h
 refine ⟨_,(sp_R06_SameTraces a_.Traces b_.Traces c57 (fun _ _=>hc57)),?_⟩
 conv=>whnf
 refine Both.yes b56 ?_
 conv=>whnf
 cases h
 exact Join.mk (eA [])
 replace b56:=beq_tf b56
 obtain ⟨h,b56d⟩:=cfd b56 h
 conv=>whnf
 iterate 4 (refine Both.no (ft_beq b56) ?_;(conv=>whnf))
 refine Both.no b56 ?_
 conv=>whnf
 cases h
 exact Join.mk (eA [])
 replace h:=hk52
 conv=>whnf
 cases h
 conv=>whnf
 exact ⟨rfl,rfl⟩
theorem sp_L18_awake (r:Bool) (h:L18_awake=some r):Sp Tryz.prog 10 [] (.im (nB r)):=by
 refine sp_of rfl [] rfl rfl rfl (Nat.le_of_ble_eq_true rfl) rfl fun hk=>?_
 unfold L18_awake at h
 conv=>whnf
 obtain ⟨c51,hc51,h⟩:=bind_some h
 refine ⟨_,(sp_nondet_Vote [[1,2],[1,0],[1,2],[1,0]] 2 c51 (fun _ _=>hc51)),?_⟩
 conv=>whnf
 obtain ⟨c52,hc52,h⟩:=bind_some h
 refine ⟨_,(sp_nondet_Vote [[1,2],[1,0],[1,2],[1,0]] 3 c52 (fun _ _=>hc52)),?_⟩
 conv=>whnf
 obtain ⟨c53,hc53,h⟩:=bind_some h
 refine ⟨_,(sp_nondet_Vote [[1,2],[1,0],[1,2],[1,0]] 10 c53 (fun _ _=>hc53)),?_⟩
 conv=>whnf
 obtain ⟨c54,hc54,h⟩:=bind_some h
 refine ⟨_,(sp_nondet_Distinct [[1,2],[1,0],[1,2],[1,0]] c54 (fun _=>hc54)),?_⟩
 conv=>whnf
 obtain ⟨c55,hc55,h⟩:=bind_some h
 refine ⟨_,(sp_nondet_Settle [(⟨[0,1],[1,2]⟩:T_api_Trace),(⟨[0,1,1],[1,0,0]⟩:T_api_Trace),(⟨[0],[1]⟩:T_api_Trace)] 2 c55 (fun _ _=>hc55)),?_⟩
 conv=>whnf
 refine Side.mk rfl ?_
 conv=>whnf
 obtain ⟨y75,hc,hk57⟩:=bind_some h
 clear h
 have h:=hc
 clear hc
 refine Cut.mk (mkSt [(0,.im (nB y75))] [] []) (True) (hT) ?_ (fun hp=>?_)
 conv=>whnf
 obtain ⟨c76,hc76,h⟩:=bind_some h
 refine ⟨_,(sp_R01_Same c51.1 [1,2] c76 (fun _ _=>hc76)),?_⟩
 conv=>whnf
 refine Both.mk ?_ ?_<;>intro b77
 replace b77:=beq_tt b77
 replace h:=cond_t b77 h
 conv=>whnf
 refine Both.yes (tt_beq b77) ?_
 conv=>whnf
 refine Both.yes b77 ?_
 conv=>whnf
 refine Both.mk ?_ ?_<;>intro b78
 replace b78:=beq_tt b78
 obtain ⟨h,b78d⟩:=ctd b78 h
 conv=>whnf
 refine Both.yes (tt_beq b78) ?_
 conv=>whnf
 refine Both.yes b78 ?_
 conv=>whnf
 refine Both.mk ?_ ?_<;>intro b79
 replace b79:=beq_tt b79
 obtain ⟨h,b79d⟩:=ctd b79 h
 conv=>whnf
 refine Both.yes (tt_beq b79) ?_
 conv=>whnf
 refine Both.yes b79 ?_
 conv=>whnf
 refine Both.mk ?_ ?_<;>intro b80
 replace b80:=beq_tt b80
 obtain ⟨h,b80d⟩:=ctd b80 h
 conv=>whnf
 iterate 4 (refine Both.yes (tt_beq b80) ?_;(conv=>whnf))
 obtain ⟨c81,hc81,h⟩:=bind_some h
 refine ⟨_,(sp_R01_SameWords c54.1 [[1,0],[1,2]] c81 (fun _ _=>hc81)),?_⟩
 conv=>whnf
 refine Both.yes b80 ?_
 conv=>whnf
 refine Both.mk ?_ ?_<;>intro b82
 replace b82:=beq_tt b82
 replace h:=cond_t b82 h
 conv=>whnf
 iterate 2 (refine Both.yes (tt_beq b82) ?_;(conv=>whnf))
 obtain ⟨c83,hc83,h⟩:=bind_some h
 refine ⟨_,(sp_R01_Same c54.2 [2,2] c83 (fun _ _=>hc83)),?_⟩
 conv=>whnf
 refine Both.yes b82 ?_
 conv=>whnf
 refine Both.mk ?_ ?_<;>intro b84
 replace b84:=beq_tt b84
 replace h:=cond_t b84 h
 conv=>whnf
 refine Both.yes (tt_beq b84) ?_
 conv=>whnf
 obtain ⟨c85,hc85,h⟩:=bind_some h
 refine ⟨_,(sp_nondet_Clashes [(⟨[0,1],[1,2]⟩:T_api_Trace),(⟨[0,1,1],[1,0,0]⟩:T_api_Trace),(⟨[0],[1]⟩:T_api_Trace)] c85 (hc85)).im,?_⟩
 conv=>whnf
 iterate 2 (refine Both.yes (tt_beq b84) ?_;(conv=>whnf))
 obtain ⟨c86,hc86,h⟩:=bind_some h
 refine ⟨_,(sp_R18_Same c85 [(⟨[0,1],0,2⟩:T_api_Clash)] c86 (fun _ _=>hc86)),?_⟩
 conv=>whnf
 refine Both.yes b84 ?_
 conv=>whnf
 refine Both.mk ?_ ?_<;>intro b87
 replace b87:=beq_tt b87
 replace h:=cond_t b87 h
 conv=>whnf
 iterate 2 (refine Both.yes (tt_beq b87) ?_;(conv=>whnf))
 obtain ⟨c88,hc88,h⟩:=bind_some h
 refine ⟨_,(sp_R18_Same c55.2.1 [(⟨[0,1],0,2⟩:T_api_Clash)] c88 (fun _ _=>hc88)),?_⟩
 conv=>whnf
 refine Both.yes b87 ?_
 conv=>whnf
 refine Both.mk ?_ ?_<;>intro b89
 replace b89:=beq_tt b89
 replace h:=cond_t b89 h
 conv=>whnf
 refine Side.mk rfl ?_
 conv=>whnf
 iterate 2 (refine Both.yes (tt_beq b89) ?_;(conv=>whnf))
 obtain ⟨c90,h⟩:=chk_some h
 refine Side.mk (show (0:Int)≤2∧2≤(↑(List.length (List.map c_api_Trace [(⟨[0,1],[1,2]⟩:T_api_Trace),(⟨[0,1,1],[1,0,0]⟩:T_api_Trace),(⟨[0],[1]⟩:T_api_Trace)])):Int)∧(↑(List.length (List.map c_api_Trace [(⟨[0,1],[1,2]⟩:T_api_Trace),(⟨[0,1,1],[1,0,0]⟩:T_api_Trace),(⟨[0],[1]⟩:T_api_Trace)])):Int)≤(↑(List.length (List.map c_api_Trace [(⟨[0,1],[1,2]⟩:T_api_Trace),(⟨[0,1,1],[1,0,0]⟩:T_api_Trace),(⟨[0],[1]⟩:T_api_Trace)])):Int)∧(∀ e∈List.map c_api_Trace [(⟨[0,1],[1,2]⟩:T_api_Trace),(⟨[0,1,1],[1,0,0]⟩:T_api_Trace),(⟨[0],[1]⟩:T_api_Trace)],List.length e=2) from ⟨by omega,by first | omega | (simp only [List.length_map];omega),by first | omega | (simp only [List.length_map];omega),map_len fun _=>rfl⟩) ?_
 conv=>whnf
 refine Nf.mk (List.map c_api_Trace (List.drop 2 [(⟨[0,1],[1,2]⟩:T_api_Trace),(⟨[0,1,1],[1,0,0]⟩:T_api_Trace),(⟨[0],[1]⟩:T_api_Trace)])) drop_map ?_
 conv=>whnf
 iterate 2 (refine Both.yes (tt_beq b89) ?_;(conv=>whnf))
 obtain ⟨c91,hc91,h⟩:=bind_some h
 refine ⟨_,(sp_R16_Same c55.1 (⟨2,(List.drop 2 [(⟨[0,1],[1,2]⟩:T_api_Trace),(⟨[0,1,1],[1,0,0]⟩:T_api_Trace),(⟨[0],[1]⟩:T_api_Trace)])⟩:T_api_Obs) c91 (fun _ _=>hc91)),?_⟩
 conv=>whnf
 refine Both.yes b89 ?_
 conv=>whnf
 refine Both.mk ?_ ?_<;>intro b92
 replace b92:=beq_tt b92
 replace h:=cond_t b92 h
 conv=>whnf
 refine Both.yes (tt_beq b92) ?_
 conv=>whnf
 refine Both.yes b92 ?_
 conv=>whnf
 cases h
 exact Join.mk (eA [])
 replace b92:=beq_tf b92
 replace h:=cond_f b92 h
 conv=>whnf
 refine Both.no (ft_beq b92) ?_
 conv=>whnf
 refine Both.no b92 ?_
 conv=>whnf
 cases h
 exact Join.mk (eA [])
 replace b89:=beq_tf b89
 replace h:=cond_f b89 h
 conv=>whnf
 iterate 4 (refine Both.no (ft_beq b89) ?_;(conv=>whnf))
 refine Both.no b89 ?_
 conv=>whnf
 iterate 3 (refine Both.no rfl ?_;(conv=>whnf))
 cases h
 exact Join.mk (eA [])
 replace b87:=beq_tf b87
 replace h:=cond_f b87 h
 conv=>whnf
 iterate 2 (refine Both.no (ft_beq b87) ?_;(conv=>whnf))
 refine Both.no b87 ?_
 conv=>whnf
 iterate 9 (refine Both.no rfl ?_;(conv=>whnf))
 cases h
 exact Join.mk (eA [])
 replace b84:=beq_tf b84
 replace h:=cond_f b84 h
 conv=>whnf
 iterate 3 (refine Both.no (ft_beq b84) ?_;(conv=>whnf))
 refine Both.no b84 ?_
 conv=>whnf
 iterate 13 (refine Both.no rfl ?_;(conv=>whnf))
 cases h
 exact Join.mk (eA [])
 replace b82:=beq_tf b82
 replace h:=cond_f b82 h
 conv=>whnf
 iterate 2 (refine Both.no (ft_beq b82) ?_;(conv=>whnf))
 refine Both.no b82 ?_
 conv=>whnf
 iterate 18 (refine Both.no rfl ?_;(conv=>whnf))
 cases h
 exact Join.mk (eA [])
 replace b80:=beq_tf b80
 obtain ⟨h,b80d⟩:=cfd b80 h
 conv=>whnf
 iterate 4 (refine Both.no (ft_beq b80) ?_;(conv=>whnf))
 refine Both.no b80 ?_
 conv=>whnf
 iterate 22 (refine Both.no rfl ?_;(conv=>whnf))
 cases h
 exact Join.mk (eA [])
 replace b79:=beq_tf b79
 obtain ⟨h,b79d⟩:=cfd b79 h
 conv=>whnf
 refine Both.no (ft_beq b79) ?_
 conv=>whnf
 refine Both.no b79 ?_
 conv=>whnf
 iterate 28 (refine Both.no rfl ?_;(conv=>whnf))
 cases h
 exact Join.mk (eA [])
 replace b78:=beq_tf b78
 obtain ⟨h,b78d⟩:=cfd b78 h
 conv=>whnf
 refine Both.no (ft_beq b78) ?_
 conv=>whnf
 refine Both.no b78 ?_
 conv=>whnf
 iterate 31 (refine Both.no rfl ?_;(conv=>whnf))
 cases h
 exact Join.mk (eA [])
 replace b77:=beq_tf b77
 replace h:=cond_f b77 h
 conv=>whnf
 refine Both.no (ft_beq b77) ?_
 conv=>whnf
 refine Both.no b77 ?_
 conv=>whnf
 iterate 34 (refine Both.no rfl ?_;(conv=>whnf))
 cases h
 exact Join.mk (eA [])
 replace h:=hk57
 conv=>whnf
 cases h
 conv=>whnf
 exact ⟨rfl,rfl⟩
theorem sp_L18_NondetVotes (l_:List (List Int)) (need_:Int) (r:Bool) (h:Ok (nL (cL cI) l_)→Ok (nI need_)→L18_NondetVotes l_ need_=some r):Sp Tryz.prog 3 [.im (nL (cL cI) l_),.im (nI need_)] (.im (nB r)):=by
 refine sp_of rfl [] rfl rfl rfl (Nat.le_of_ble_eq_true rfl) rfl fun hk=>?_
 replace h:=h hk.1 hk.2.1
 have z1:lZ l_:=ok_len hk.1
 unfold L18_NondetVotes at h
 conv=>whnf
 obtain ⟨c51,hc51,h⟩:=bind_some h
 refine ⟨_,(sp_R02_Great l_ 40 40 c51 (fun _ _ _=>hc51)),?_⟩
 conv=>whnf
 refine Both.mk ?_ ?_<;>intro b52
 replace h:=cond_t b52 h
 conv=>whnf
 obtain ⟨c53,hc53,h⟩:=bind_some h
 refine ⟨_,(sp_L18_awake  c53 (hc53)),?_⟩
 conv=>whnf
 cases h
 conv=>whnf
 exact ⟨rfl,rfl⟩
 replace h:=cond_f b52 h
 conv=>whnf
 obtain ⟨c54,hc54,h⟩:=bind_some h
 refine ⟨_,(sp_nondet_Vote l_ need_ c54 (fun _ _=>hc54)),?_⟩
 conv=>whnf
 obtain ⟨c55,hc55,h⟩:=bind_some h
 refine ⟨_,(sp_R18_Vote l_ need_ c55 (fun _ _=>hc55)),?_⟩
 conv=>whnf
 obtain ⟨c56,hc56,h⟩:=bind_some h
 refine ⟨_,(sp_nondet_Distinct l_ c56 (fun _=>hc56)),?_⟩
 conv=>whnf
 obtain ⟨c57,hc57,h⟩:=bind_some h
 refine ⟨_,(sp_R18_Distinct l_ c57 (fun _=>hc57)),?_⟩
 conv=>whnf
 obtain ⟨y68,hc,hk59⟩:=bind_some h
 clear h
 have h:=hc
 clear hc
 refine Cut.mk (mkSt [(4,.im (nB y68))] [] []) (True) (hT) ?_ (fun hp=>?_)
 conv=>whnf
 obtain ⟨c69,hc69,h⟩:=bind_some h
 refine ⟨_,(sp_R01_Same c54.1 c55.1 c69 (fun _ _=>hc69)),?_⟩
 conv=>whnf
 refine Both.mk ?_ ?_<;>intro b70
 replace b70:=beq_tt b70
 replace h:=cond_t b70 h
 conv=>whnf
 iterate 2 (refine Both.yes (tt_beq b70) ?_;(conv=>whnf))
 refine Both.yes b70 ?_
 conv=>whnf
 refine Both.mk ?_ ?_<;>intro b71
 replace b71:=beq_tt b71
 obtain ⟨h,b71d⟩:=ctd b71 h
 conv=>whnf
 iterate 2 (refine Both.yes (tt_beq b71) ?_;(conv=>whnf))
 obtain ⟨c72,hc72,h⟩:=bind_some h
 refine ⟨_,(sp_R01_SameWords c56.1 c57.1 c72 (fun _ _=>hc72)),?_⟩
 conv=>whnf
 refine Both.yes b71 ?_
 conv=>whnf
 refine Both.mk ?_ ?_<;>intro b73
 replace b73:=beq_tt b73
 replace h:=cond_t b73 h
 conv=>whnf
 iterate 2 (refine Both.yes (tt_beq b73) ?_;(conv=>whnf))
 obtain ⟨c74,hc74,h⟩:=bind_some h
 refine ⟨_,(sp_R01_Same c56.2 c57.2 c74 (fun _ _=>hc74)),?_⟩
 conv=>whnf
 refine Both.yes b73 ?_
 conv=>whnf
 refine Both.mk ?_ ?_<;>intro b75
 replace b75:=beq_tt b75
 replace h:=cond_t b75 h
 conv=>whnf
 obtain ⟨c76,hc76,h⟩:=bind_some h
 refine ⟨_,(sp_L18_awake  c76 (hc76)),?_⟩
 conv=>whnf
 refine Both.yes b75 ?_
 conv=>whnf
 cases h
 exact Join.mk (eA [])
 replace b75:=beq_tf b75
 replace h:=cond_f b75 h
 conv=>whnf
 refine Both.no b75 ?_
 conv=>whnf
 cases h
 exact Join.mk (eA [])
 replace b73:=beq_tf b73
 replace h:=cond_f b73 h
 conv=>whnf
 iterate 2 (refine Both.no (ft_beq b73) ?_;(conv=>whnf))
 refine Both.no b73 ?_
 conv=>whnf
 iterate 2 (refine Both.no rfl ?_;(conv=>whnf))
 cases h
 exact Join.mk (eA [])
 replace b71:=beq_tf b71
 obtain ⟨h,b71d⟩:=cfd b71 h
 conv=>whnf
 iterate 2 (refine Both.no (ft_beq b71) ?_;(conv=>whnf))
 refine Both.no b71 ?_
 conv=>whnf
 iterate 6 (refine Both.no rfl ?_;(conv=>whnf))
 cases h
 exact Join.mk (eA [])
 replace b70:=beq_tf b70
 replace h:=cond_f b70 h
 conv=>whnf
 iterate 2 (refine Both.no (ft_beq b70) ?_;(conv=>whnf))
 refine Both.no b70 ?_
 conv=>whnf
 iterate 10 (refine Both.no rfl ?_;(conv=>whnf))
 cases h
 exact Join.mk (eA [])
 replace h:=hk59
 conv=>whnf
 cases h
 conv=>whnf
 exact ⟨rfl,rfl⟩
end Go.Proofs.YtmcfpohmiabmpaaGreatDoor.Sym
