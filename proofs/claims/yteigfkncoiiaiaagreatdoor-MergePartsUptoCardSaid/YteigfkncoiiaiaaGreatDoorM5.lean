/-
  The contracts of the functions, read from the code by a program (ext.py): each function has its plain twin as its contract.
-/
import Derived.Test.YteigfkncoiiaiaaGreatDoorM4
set_option linter.all false
namespace Go.Proofs.YteigfkncoiiaiaaGreatDoor.Sym
open Go.RowKit
set_option maxRecDepth 100000
set_option linter.unusedVariables false
set_option maxHeartbeats 4000000
theorem eI {σ:St} {src:List (Nat×Option Nat)} {γ:Nat→Nat} {t:Nat} {y b:IV} (h1:σ.av t=.im y) (h2:AV.im y=.im b):∃ x,σ.av t=x∧SubR σ src γ x (.im b):=⟨.im y,h1,.im (Sub.rfl' h2)⟩
theorem odt {p:Prop} [Decidable p] (h:decide p=true):p:=of_decide_eq_true h
theorem odf {p:Prop} [Decidable p] (h:decide p=false):¬ p:=of_decide_eq_false h
theorem ctd {α:Type} {p:Prop} [Decidable p] {x y z:α} (hb:decide p=true) (h:cond (decide p) x y=z):x=z∧p:=⟨cond_t hb h,odt hb⟩
theorem cfd {α:Type} {p:Prop} [Decidable p] {x y z:α} (hb:decide p=false) (h:cond (decide p) x y=z):y=z∧¬ p:=⟨cond_f hb h,odf hb⟩
theorem hT {σ:St}:Holds σ True:=Holds.true_ _
abbrev lZ {α:Type} (l:List α):Prop:=List.length l≤17592186044416
theorem eA {σ:St} {avs:List (Nat×AV)} {kds:List (Nat×Kd)} {cels:List (Nat×Nat×AV)} (src:List (Nat×Option Nat)) (hn:ndB (srcs src) []=true:=by exact rfl) (ha:SubL σ src (gnM kds) avs:=by repeat' (first | exact trivial | refine ⟨eI rfl rfl,?_⟩ | refine ⟨⟨.own _ _ _,rfl,.own rfl rfl rfl⟩,?_⟩ | refine ⟨⟨.osl _ _,rfl,.osl rfl rfl rfl⟩,?_⟩ | refine ⟨⟨.im (.val (.slice none 0 0)),rfl,.made rfl rfl⟩,?_⟩)) (hk:KdL σ src kds:=by repeat' (first | exact trivial | refine ⟨.inl ⟨_,rfl,rfl,trivial⟩,?_⟩ | refine ⟨.inl ⟨_,rfl,rfl,⟨rfl,rfl⟩⟩,?_⟩ | refine ⟨.inr ⟨rfl,rfl,.inl ⟨_,_,rfl,by decide⟩⟩,?_⟩)) (hc:CeL σ src (gnM kds) cels:=by repeat' (first | exact trivial | refine ⟨⟨_,.im _,rfl,rfl,.im (Sub.rfl' rfl)⟩,?_⟩ | refine ⟨⟨_,.own _ _ _,rfl,rfl,.own rfl rfl rfl⟩,?_⟩ | refine ⟨⟨_,.osl _ _,rfl,rfl,.osl rfl rfl rfl⟩,?_⟩)):Ent σ (mkSt avs kds cels):=Ent.mk src hn ha hk hc
theorem sp_merge_Valid (p_:T_api_Part) (r:Int) (h:Ok (.agg (c_api_Part p_))→merge_Valid p_=some r):Sp Tryz.prog 15 [.im (.agg (c_api_Part p_))] (.im (nI r)):=by
 refine sp_of rfl [700001] rfl rfl rfl (Nat.le_of_ble_eq_true rfl) rfl fun hk=>?_
 replace h:=h hk.1
 have z1:lZ p_.Next:=ok_len (Ok.agg_at hk.1 2 rfl)
 have z2:lZ p_.Out:=ok_len (Ok.agg_at hk.1 3 rfl)
 unfold merge_Valid at h
 conv=>whnf
 refine Nf.mk (List.length p_.Next) len_map ?_
 conv=>whnf
 obtain ⟨y54,hc,hk52⟩:=bind_some h
 clear h
 have h:=hc
 clear hc
 refine Cut.mk (mkSt [(1,.im (.ref (c_api_Part p_))),(3,.im (nI (↑(List.length p_.Next):Int))),(11,.im (nB y54))] [] []) (True) (hT) ?_ (fun hp=>?_)
 conv=>whnf
 refine Both.mk ?_ ?_<;>intro b55
 replace b55:=beq_ff b55
 obtain ⟨h,b55d⟩:=cfd b55 h
 conv=>whnf
 iterate 2 (refine Both.yes (ff_beq b55) ?_;(conv=>whnf))
 refine Both.no b55 ?_
 conv=>whnf
 cases h
 exact Join.mk (eA [])
 replace b55:=beq_ft b55
 obtain ⟨h,b55d⟩:=ctd b55 h
 conv=>whnf
 iterate 2 (refine Both.no (tf_beq b55) ?_;(conv=>whnf))
 refine Both.yes b55 ?_
 conv=>whnf
 cases h
 exact Join.mk (eA [])
 replace h:=hk52
 conv=>whnf
 refine Both.mk ?_ ?_<;>intro b56
 replace h:=cond_t b56 h
 conv=>whnf
 cases h
 conv=>whnf
 exact ⟨rfl,rfl⟩
 replace h:=cond_f b56 h
 conv=>whnf
 refine Both.mk ?_ ?_<;>intro b57
 obtain ⟨h,b57d⟩:=ctd b57 h
 conv=>whnf
 cases h
 conv=>whnf
 exact ⟨rfl,rfl⟩
 obtain ⟨h,b57d⟩:=cfd b57 h
 conv=>whnf
 refine Both.mk ?_ ?_<;>intro b58
 obtain ⟨h,b58d⟩:=ctd b58 h
 conv=>whnf
 cases h
 conv=>whnf
 exact ⟨rfl,rfl⟩
 obtain ⟨h,b58d⟩:=cfd b58 h
 conv=>whnf
 obtain ⟨y62,hc,hk60⟩:=bind_some h
 clear h
 have h:=hc
 clear hc
 refine Cut.mk (mkSt [(1,.im (.ref (c_api_Part p_))),(3,.im (nI (↑(List.length p_.Next):Int))),(26,.im (nB y62))] [] []) (True) (hT) ?_ (fun hp=>?_)
 conv=>whnf
 refine Both.mk ?_ ?_<;>intro b63
 replace b63:=beq_ff b63
 obtain ⟨h,b63d⟩:=cfd b63 h
 conv=>whnf
 iterate 3 (refine Both.yes (ff_beq b63) ?_;(conv=>whnf))
 refine Both.no b63 ?_
 conv=>whnf
 cases h
 exact Join.mk (eA [])
 replace b63:=beq_ft b63
 obtain ⟨h,b63d⟩:=ctd b63 h
 conv=>whnf
 iterate 3 (refine Both.no (tf_beq b63) ?_;(conv=>whnf))
 refine Both.yes b63 ?_
 conv=>whnf
 cases h
 exact Join.mk (eA [])
 replace h:=hk60
 conv=>whnf
 refine Both.mk ?_ ?_<;>intro b64
 replace h:=cond_t b64 h
 conv=>whnf
 cases h
 conv=>whnf
 exact ⟨rfl,rfl⟩
 replace h:=cond_f b64 h
 conv=>whnf
 refine Nf.mk (List.length p_.Out) len_map ?_
 conv=>whnf
 refine Both.mk ?_ ?_<;>intro b65
 obtain ⟨h,b65d⟩:=ctd b65 h
 conv=>whnf
 cases h
 conv=>whnf
 exact ⟨rfl,rfl⟩
 obtain ⟨h,b65d⟩:=cfd b65 h
 conv=>whnf
 obtain ⟨oc,hc,hk66⟩:=bind_some h
 clear h
 have h:=hc
 clear hc
 refine Cut.mkS oc (Y:=Unit) (fun (_:Unit)=>mkSt [] [] []) (fun (_:Unit)=>True) (by rintro ⟨⟩;exact (hT)) ?_ ?_
 conv=>whnf
 refine Loops.iter (fun (s:Nat)=>merge_Valid.s14 p_ s) (fun y529=>mkSt [(1,.im (.ref (c_api_Part p_))),(3,.im (nI (↑(List.length p_.Next):Int))),(42,.im (nI (↑(List.length p_.Next):Int))),(43,.im (nI (↑y529:Int)))] [] []) (fun y529=>True) h (eA []) (by rintro y529;exact (hT)) ?_
 clear h
 rintro k y529 o hp h ho645
 replace h:merge_Valid.s14 p_ y529=some o:=h
 unfold merge_Valid.s14 at h
 conv=>whnf
 refine Both.mk ?_ ?_<;>intro b646
 obtain ⟨h,b646d⟩:=ctd b646 h
 conv=>whnf
 obtain ⟨y652,hc,hk648⟩:=bind_some h
 clear h
 have h:=hc
 clear hc
 refine Cut.mk (mkSt [(1,.im (.ref (c_api_Part p_))),(3,.im (nI (↑(List.length p_.Next):Int))),(4,.im (nI (↑y529:Int))),(42,.im (nI (↑(List.length p_.Next):Int))),(43,.im (nI (↑y529:Int))),(65,.im (nB y652))] [] []) (True) (hT) ?_ (fun hp=>?_)
 conv=>whnf
 obtain ⟨e653,he653,h⟩:=idxn_some h
 refine ⟨_,⟨(by omega),map_at he653,rfl⟩,?_⟩
 conv=>whnf
 refine Nf.mk (List.length e653) len_map ?_
 conv=>whnf
 refine Both.mk ?_ ?_<;>intro b654
 replace b654:=beq_ff b654
 obtain ⟨h,b654d⟩:=cfd b654 h
 conv=>whnf
 iterate 3 (refine Both.yes (ff_beq b654) ?_;(conv=>whnf))
 obtain ⟨e655,he655,h⟩:=idxn_some h
 refine ⟨_,⟨(by omega),map_at he655,rfl⟩,?_⟩
 conv=>whnf
 iterate 2 (refine Both.yes (ff_beq b654) ?_;(conv=>whnf))
 refine Nf.mk (List.length e655) len_map ?_
 conv=>whnf
 iterate 3 (refine Both.yes (ff_beq b654) ?_;(conv=>whnf))
 refine Both.no b654 ?_
 conv=>whnf
 cases h
 exact Join.mk (eA [])
 replace b654:=beq_ft b654
 obtain ⟨h,b654d⟩:=ctd b654 h
 conv=>whnf
 iterate 8 (refine Both.no (tf_beq b654) ?_;(conv=>whnf))
 refine Both.yes b654 ?_
 conv=>whnf
 cases h
 exact Join.mk (eA [])
 replace h:=hk648
 conv=>whnf
 refine Both.mk ?_ ?_<;>intro b656
 replace h:=cond_t b656 h
 conv=>whnf
 cases h
 have ho645:_=_:=ho645
 cases ho645
 replace h:some _=some _:=hk66
 cases h
 conv=>whnf
 exact ⟨rfl,rfl⟩
 replace h:=cond_f b656 h
 conv=>whnf
 obtain ⟨e657,he657,h⟩:=idxn_some h
 refine ⟨_,⟨(by omega),map_at he657,rfl⟩,?_⟩
 conv=>whnf
 refine Nf.mk (List.length e657) len_map ?_
 conv=>whnf
 obtain ⟨oc,hc,hk658⟩:=bind_some h
 clear h
 have h:=hc
 clear hc
 refine Cut.mkS oc (Y:=Unit) (fun (_:Unit)=>mkSt [(1,.im (.ref (c_api_Part p_))),(3,.im (nI (↑(List.length p_.Next):Int))),(42,.im (nI (↑(List.length p_.Next):Int))),(43,.im (nI (↑y529:Int)))] [] []) (fun (_:Unit)=>True) (by rintro ⟨⟩;exact (hT)) ?_ ?_
 conv=>whnf
 refine Loops.iter (fun (s:Nat)=>merge_Valid.s13 p_ y529 e657 s) (fun y726=>mkSt [(1,.im (.ref (c_api_Part p_))),(3,.im (nI (↑(List.length p_.Next):Int))),(4,.im (nI (↑y529:Int))),(42,.im (nI (↑(List.length p_.Next):Int))),(43,.im (nI (↑y529:Int))),(70,.im (nL cI e657)),(71,.im (nI (↑(List.length e657):Int))),(72,.im (nI (↑y726:Int)))] [] []) (fun y726=>lZ e657∧True) h (eA []) (by rintro y726;exact ((Holds.avl 70 rfl).and (hT))) ?_
 clear h
 rintro k y726 o hp h ho743
 replace h:merge_Valid.s13 p_ y529 e657 y726=some o:=h
 unfold merge_Valid.s13 at h
 obtain ⟨z760,_⟩:=hp
 conv=>whnf
 refine Both.mk ?_ ?_<;>intro b744
 obtain ⟨h,b744d⟩:=ctd b744 h
 conv=>whnf
 obtain ⟨e745,he745,h⟩:=idxn_some h
 refine ⟨_,⟨(by omega),map_at he745,rfl⟩,?_⟩
 conv=>whnf
 obtain ⟨e746,he746,h⟩:=idxn_some h
 refine ⟨_,⟨(by omega),map_at he746,rfl⟩,?_⟩
 conv=>whnf
 obtain ⟨e747,he747,h⟩:=idxn_some h
 refine ⟨_,⟨(by omega),map_at he747,rfl⟩,?_⟩
 conv=>whnf
 obtain ⟨y753,hc,hk749⟩:=bind_some h
 clear h
 have h:=hc
 clear hc
 refine Cut.mk (mkSt [(1,.im (.ref (c_api_Part p_))),(3,.im (nI (↑(List.length p_.Next):Int))),(4,.im (nI (↑y529:Int))),(6,.im (nI e745)),(7,.im (nI e747)),(42,.im (nI (↑(List.length p_.Next):Int))),(43,.im (nI (↑y529:Int))),(70,.im (nL cI e657)),(71,.im (nI (↑(List.length e657):Int))),(72,.im (nI (↑y726:Int))),(99,.im (nB y753))] [] []) (lZ e657∧True) ((Holds.avl 70 rfl).and (hT)) ?_ (fun hp=>?_)
 conv=>whnf
 refine Both.mk ?_ ?_<;>intro b754
 replace b754:=beq_ff b754
 obtain ⟨h,b754d⟩:=cfd b754 h
 conv=>whnf
 iterate 2 (refine Both.yes (ff_beq b754) ?_;(conv=>whnf))
 refine Both.no b754 ?_
 conv=>whnf
 refine Both.mk ?_ ?_<;>intro b755
 replace b755:=beq_ff b755
 obtain ⟨h,b755d⟩:=cfd b755 h
 conv=>whnf
 refine Both.yes (ff_beq b755) ?_
 conv=>whnf
 refine Both.no b755 ?_
 conv=>whnf
 refine Both.mk ?_ ?_<;>intro b756
 replace b756:=beq_ff b756
 obtain ⟨h,b756d⟩:=cfd b756 h
 conv=>whnf
 refine Both.yes (ff_beq b756) ?_
 conv=>whnf
 refine Both.no b756 ?_
 conv=>whnf
 cases h
 exact Join.mk (eA [])
 replace b756:=beq_ft b756
 obtain ⟨h,b756d⟩:=ctd b756 h
 conv=>whnf
 refine Both.no (tf_beq b756) ?_
 conv=>whnf
 refine Both.yes b756 ?_
 conv=>whnf
 cases h
 exact Join.mk (eA [])
 replace b755:=beq_ft b755
 obtain ⟨h,b755d⟩:=ctd b755 h
 conv=>whnf
 refine Both.no (tf_beq b755) ?_
 conv=>whnf
 refine Both.yes b755 ?_
 conv=>whnf
 iterate 2 (refine Both.no rfl ?_;(conv=>whnf))
 refine Both.yes rfl ?_
 conv=>whnf
 cases h
 exact Join.mk (eA [])
 replace b754:=beq_ft b754
 obtain ⟨h,b754d⟩:=ctd b754 h
 conv=>whnf
 iterate 2 (refine Both.no (tf_beq b754) ?_;(conv=>whnf))
 refine Both.yes b754 ?_
 conv=>whnf
 iterate 2 (refine Both.no rfl ?_;(conv=>whnf))
 refine Both.yes rfl ?_
 conv=>whnf
 iterate 2 (refine Both.no rfl ?_;(conv=>whnf))
 refine Both.yes rfl ?_
 conv=>whnf
 cases h
 exact Join.mk (eA [])
 replace h:=hk749
 obtain ⟨z757,_⟩:=hp
 conv=>whnf
 refine Both.mk ?_ ?_<;>intro b758
 replace h:=cond_t b758 h
 conv=>whnf
 cases h
 have ho743:_=_:=ho743
 cases ho743
 replace h:some _=some _:=hk658
 cases h
 have ho645:_=_:=ho645
 cases ho645
 replace h:some _=some _:=hk66
 cases h
 conv=>whnf
 exact ⟨rfl,rfl⟩
 replace h:=cond_f b758 h
 conv=>whnf
 refine Both.mk ?_ ?_<;>intro b759
 replace h:=cond_t b759 h
 conv=>whnf
 cases h
 have ho743:_=_:=ho743
 cases ho743
 replace h:some _=some _:=hk658
 cases h
 have ho645:_=_:=ho645
 cases ho645
 replace h:some _=some _:=hk66
 cases h
 conv=>whnf
 exact ⟨rfl,rfl⟩
 replace h:=cond_f b759 h
 conv=>whnf
 refine Arith.mk (by show inR _;unfold inR;omega) ?_
 conv=>whnf
 cases h
 exact Nxt.mk _ ho743 (eA [])
 obtain ⟨h,b744d⟩:=cfd b744 h
 conv=>whnf
 cases h
 have ho743:_=_:=ho743
 cases ho743
 exact JoinS.mk' _ rfl (eA [])
 rintro ⟨⟩ rfl hp
 replace h:=sum_inl hk658
 conv=>whnf
 refine Arith.mk (by show inR _;unfold inR;omega) ?_
 conv=>whnf
 cases h
 exact Nxt.mk _ ho645 (eA [])
 obtain ⟨h,b646d⟩:=cfd b646 h
 conv=>whnf
 cases h
 have ho645:_=_:=ho645
 cases ho645
 exact JoinS.mk' _ rfl (eA [])
 rintro ⟨⟩ rfl hp
 replace h:=sum_inl hk66
 conv=>whnf
 cases h
 conv=>whnf
 exact ⟨rfl,rfl⟩
theorem sp_merge_Run (p_:T_api_Part) (w_:List Int) (r:List Int×Bool) (h:Ok (.agg (c_api_Part p_))→Ok (nL cI w_)→merge_Run p_ w_=some r):Sp Tryz.prog 9 [.im (.agg (c_api_Part p_)),.im (nL cI w_)] (.tup [nL cI r.1,nB r.2]):=by
 refine sp_of rfl [700002] rfl rfl rfl (Nat.le_of_ble_eq_true rfl) rfl fun hk=>?_
 replace h:=h hk.1 hk.2.1
 have z1:lZ p_.Next:=ok_len (Ok.agg_at hk.1 2 rfl)
 have z2:lZ p_.Out:=ok_len (Ok.agg_at hk.1 3 rfl)
 have z3:lZ w_:=ok_len hk.2.1
 unfold merge_Run at h
 conv=>whnf
 obtain ⟨c51,hc51,h⟩:=bind_some h
 refine ⟨_,(sp_merge_Valid p_ c51 (fun _=>hc51)),?_⟩
 conv=>whnf
 refine Both.mk ?_ ?_<;>intro b52
 obtain ⟨h,b52d⟩:=ctd b52 h
 conv=>whnf
 cases h
 conv=>whnf
 exact ⟨rfl,rfl⟩
 obtain ⟨h,b52d⟩:=cfd b52 h
 conv=>whnf
 refine Nf.mk (List.length w_) len_map ?_
 conv=>whnf
 obtain ⟨oc,hc,hk53⟩:=bind_some h
 clear h
 have h:=hc
 clear hc
 refine Cut.mkS oc (Y:=List Int) (fun y121=>mkSt [(7,.osl 64 1)] [(64,.row 3 1 (List.map cI y121))] []) (fun y121=>lZ y121∧True) (by rintro y121;exact ((Holds.kdl 64 rfl).and (hT))) ?_ ?_
 conv=>whnf
 refine Loops.iter (fun (s:Int×List Int×Nat)=>merge_Run.s2 p_ w_ s.1 s.2.1 s.2.2) (fun (s141,y142,y143)=>mkSt [(2,.im (.ref (c_api_Part p_))),(6,.im (nI s141)),(7,.osl 64 1),(15,.im (nL cI w_)),(16,.im (nI (↑(List.length w_):Int))),(17,.im (nI (↑y143:Int)))] [(64,.row 3 1 (List.map cI y142))] []) (fun (s141,y142,y143)=>lZ w_∧lZ y142∧True) h (eA [(64,none)]) (by rintro ⟨s141,y142,y143⟩;exact ((Holds.avl 15 rfl).and ((Holds.kdl 64 rfl).and (hT)))) ?_
 clear h
 rintro k ⟨s141,y142,y143⟩ o hp h ho165
 replace h:merge_Run.s2 p_ w_ s141 y142 y143=some o:=h
 unfold merge_Run.s2 at h
 obtain ⟨z187,z188,_⟩:=hp
 conv=>whnf
 refine Both.mk ?_ ?_<;>intro b166
 obtain ⟨h,b166d⟩:=ctd b166 h
 conv=>whnf
 obtain ⟨e167,he167,h⟩:=idxn_some h
 refine ⟨_,⟨(by omega),map_at he167,rfl⟩,?_⟩
 conv=>whnf
 obtain ⟨y174,hc,hk169⟩:=bind_some h
 clear h
 have h:=hc
 clear hc
 refine Cut.mk (mkSt [(2,.im (.ref (c_api_Part p_))),(6,.im (nI s141)),(7,.osl 64 1),(9,.im (nI e167)),(15,.im (nL cI w_)),(16,.im (nI (↑(List.length w_):Int))),(17,.im (nI (↑y143:Int))),(39,.im (nB y174))] [(64,.row 3 1 (List.map cI y142))] []) (lZ w_∧lZ y142∧True) ((Holds.avl 15 rfl).and ((Holds.kdl 64 rfl).and (hT))) ?_ (fun hp=>?_)
 conv=>whnf
 refine Both.mk ?_ ?_<;>intro b175
 replace b175:=beq_ff b175
 obtain ⟨h,b175d⟩:=cfd b175 h
 conv=>whnf
 iterate 3 (refine Both.yes (ff_beq b175) ?_;(conv=>whnf))
 refine Both.no b175 ?_
 conv=>whnf
 refine Both.mk ?_ ?_<;>intro b176
 replace b176:=beq_ff b176
 obtain ⟨h,b176d⟩:=cfd b176 h
 conv=>whnf
 iterate 3 (refine Both.yes (ff_beq b176) ?_;(conv=>whnf))
 obtain ⟨e177,he177z,he177,h⟩:=idx_some h
 refine ⟨_,⟨he177z,map_at he177,rfl⟩,?_⟩
 conv=>whnf
 iterate 3 (refine Both.yes (ff_beq b176) ?_;(conv=>whnf))
 obtain ⟨e178,he178z,he178,h⟩:=idx_some h
 refine ⟨_,⟨he178z,map_at he178,rfl⟩,?_⟩
 conv=>whnf
 iterate 2 (refine Both.yes (ff_beq b176) ?_;(conv=>whnf))
 refine Both.no b176 ?_
 conv=>whnf
 cases h
 exact Join.mk (eA [(64,some 64)])
 replace b176:=beq_ft b176
 obtain ⟨h,b176d⟩:=ctd b176 h
 conv=>whnf
 iterate 8 (refine Both.no (tf_beq b176) ?_;(conv=>whnf))
 refine Both.yes b176 ?_
 conv=>whnf
 cases h
 exact Join.mk (eA [(64,some 64)])
 replace b175:=beq_ft b175
 obtain ⟨h,b175d⟩:=ctd b175 h
 conv=>whnf
 iterate 3 (refine Both.no (tf_beq b175) ?_;(conv=>whnf))
 refine Both.yes b175 ?_
 conv=>whnf
 iterate 9 (refine Both.no rfl ?_;(conv=>whnf))
 refine Both.yes rfl ?_
 conv=>whnf
 cases h
 exact Join.mk (eA [(64,some 64)])
 replace h:=hk169
 obtain ⟨z179,z180,_⟩:=hp
 conv=>whnf
 refine Both.mk ?_ ?_<;>intro b181
 replace h:=cond_t b181 h
 conv=>whnf
 cases h
 have ho165:_=_:=ho165
 cases ho165
 replace h:some _=some _:=hk53
 cases h
 conv=>whnf
 exact ⟨rfl,rfl⟩
 replace h:=cond_f b181 h
 conv=>whnf
 obtain ⟨e182,he182z,he182,h⟩:=idx_some h
 refine ⟨_,⟨he182z,map_at he182,rfl⟩,?_⟩
 conv=>whnf
 obtain ⟨e183,he183z,he183,h⟩:=idx_some h
 refine ⟨_,⟨he183z,map_at he183,rfl⟩,?_⟩
 conv=>whnf
 obtain ⟨c184,h⟩:=chk_some h
 refine Side.mk ⟨rfl,map_len (l:=[e183]) (c:=cI) fun _=>rfl,show capOk _ 8 by simpa only [List.length_map,List.length_cons,List.length_nil,Nat.zero_add] using c184⟩ ?_
 conv=>whnf
 refine Nf.mk (List.map cI (y142++[e183])) (app_map (l:=y142) (m:=[e183]) (c:=cI)) ?_
 conv=>whnf
 obtain ⟨e185,he185z,he185,h⟩:=idx_some h
 refine ⟨_,⟨he185z,map_at he185,rfl⟩,?_⟩
 conv=>whnf
 obtain ⟨e186,he186z,he186,h⟩:=idx_some h
 refine ⟨_,⟨he186z,map_at he186,rfl⟩,?_⟩
 conv=>whnf
 refine Arith.mk (by show inR _;unfold inR;omega) ?_
 conv=>whnf
 cases h
 exact Nxt.mk _ ho165 (eA [(64,some 64)])
 obtain ⟨h,b166d⟩:=cfd b166 h
 conv=>whnf
 cases h
 have ho165:_=_:=ho165
 cases ho165
 exact JoinS.mk' _ rfl (eA [(64,some 64)])
 rintro y121 rfl hp
 replace h:=sum_inl hk53
 obtain ⟨z189,_⟩:=hp
 conv=>whnf
 cases h
 conv=>whnf
 exact Side.mk ⟨rfl,trivial⟩ ⟨rfl,rfl⟩
theorem sp_R35_Valid (p_:T_api_Part) (r:Int) (h:Ok (.agg (c_api_Part p_))→R35_Valid p_=some r):Sp Tryz.prog 16 [.im (.agg (c_api_Part p_))] (.im (nI r)):=by
 refine sp_of rfl [700001] rfl rfl rfl (Nat.le_of_ble_eq_true rfl) rfl fun hk=>?_
 replace h:=h hk.1
 have z1:lZ p_.Next:=ok_len (Ok.agg_at hk.1 2 rfl)
 have z2:lZ p_.Out:=ok_len (Ok.agg_at hk.1 3 rfl)
 unfold R35_Valid at h
 conv=>whnf
 refine Nf.mk (List.length p_.Next) len_map ?_
 conv=>whnf
 obtain ⟨y54,hc,hk52⟩:=bind_some h
 clear h
 have h:=hc
 clear hc
 refine Cut.mk (mkSt [(1,.im (.ref (c_api_Part p_))),(3,.im (nI (↑(List.length p_.Next):Int))),(11,.im (nB y54))] [] []) (True) (hT) ?_ (fun hp=>?_)
 conv=>whnf
 refine Both.mk ?_ ?_<;>intro b55
 replace b55:=beq_ff b55
 obtain ⟨h,b55d⟩:=cfd b55 h
 conv=>whnf
 iterate 2 (refine Both.yes (ff_beq b55) ?_;(conv=>whnf))
 refine Both.no b55 ?_
 conv=>whnf
 cases h
 exact Join.mk (eA [])
 replace b55:=beq_ft b55
 obtain ⟨h,b55d⟩:=ctd b55 h
 conv=>whnf
 iterate 2 (refine Both.no (tf_beq b55) ?_;(conv=>whnf))
 refine Both.yes b55 ?_
 conv=>whnf
 cases h
 exact Join.mk (eA [])
 replace h:=hk52
 conv=>whnf
 refine Both.mk ?_ ?_<;>intro b56
 replace h:=cond_t b56 h
 conv=>whnf
 cases h
 conv=>whnf
 exact ⟨rfl,rfl⟩
 replace h:=cond_f b56 h
 conv=>whnf
 refine Both.mk ?_ ?_<;>intro b57
 obtain ⟨h,b57d⟩:=ctd b57 h
 conv=>whnf
 cases h
 conv=>whnf
 exact ⟨rfl,rfl⟩
 obtain ⟨h,b57d⟩:=cfd b57 h
 conv=>whnf
 refine Both.mk ?_ ?_<;>intro b58
 obtain ⟨h,b58d⟩:=ctd b58 h
 conv=>whnf
 cases h
 conv=>whnf
 exact ⟨rfl,rfl⟩
 obtain ⟨h,b58d⟩:=cfd b58 h
 conv=>whnf
 obtain ⟨y62,hc,hk60⟩:=bind_some h
 clear h
 have h:=hc
 clear hc
 refine Cut.mk (mkSt [(1,.im (.ref (c_api_Part p_))),(3,.im (nI (↑(List.length p_.Next):Int))),(26,.im (nB y62))] [] []) (True) (hT) ?_ (fun hp=>?_)
 conv=>whnf
 refine Both.mk ?_ ?_<;>intro b63
 replace b63:=beq_ff b63
 obtain ⟨h,b63d⟩:=cfd b63 h
 conv=>whnf
 iterate 3 (refine Both.yes (ff_beq b63) ?_;(conv=>whnf))
 refine Both.no b63 ?_
 conv=>whnf
 cases h
 exact Join.mk (eA [])
 replace b63:=beq_ft b63
 obtain ⟨h,b63d⟩:=ctd b63 h
 conv=>whnf
 iterate 3 (refine Both.no (tf_beq b63) ?_;(conv=>whnf))
 refine Both.yes b63 ?_
 conv=>whnf
 cases h
 exact Join.mk (eA [])
 replace h:=hk60
 conv=>whnf
 refine Both.mk ?_ ?_<;>intro b64
 replace h:=cond_t b64 h
 conv=>whnf
 cases h
 conv=>whnf
 exact ⟨rfl,rfl⟩
 replace h:=cond_f b64 h
 conv=>whnf
 refine Nf.mk (List.length p_.Out) len_map ?_
 conv=>whnf
 refine Both.mk ?_ ?_<;>intro b65
 obtain ⟨h,b65d⟩:=ctd b65 h
 conv=>whnf
 cases h
 conv=>whnf
 exact ⟨rfl,rfl⟩
 obtain ⟨h,b65d⟩:=cfd b65 h
 conv=>whnf
 obtain ⟨oc,hc,hk66⟩:=bind_some h
 clear h
 have h:=hc
 clear hc
 refine Cut.mkS oc (Y:=Unit) (fun (_:Unit)=>mkSt [] [] []) (fun (_:Unit)=>True) (by rintro ⟨⟩;exact (hT)) ?_ ?_
 conv=>whnf
 refine Loops.iter (fun (s:Nat)=>R35_Valid.s14 p_ s) (fun s533=>mkSt [(1,.im (.ref (c_api_Part p_))),(3,.im (nI (↑(List.length p_.Next):Int))),(4,.im (nI (↑s533:Int)))] [] []) (fun s533=>True) h (eA []) (by rintro s533;exact (hT)) ?_
 clear h
 rintro k s533 o hp h ho650
 replace h:R35_Valid.s14 p_ s533=some o:=h
 unfold R35_Valid.s14 at h
 conv=>whnf
 refine Both.mk ?_ ?_<;>intro b651
 obtain ⟨h,b651d⟩:=ctd b651 h
 conv=>whnf
 obtain ⟨y657,hc,hk653⟩:=bind_some h
 clear h
 have h:=hc
 clear hc
 refine Cut.mk (mkSt [(1,.im (.ref (c_api_Part p_))),(3,.im (nI (↑(List.length p_.Next):Int))),(4,.im (nI (↑s533:Int))),(66,.im (nB y657))] [] []) (True) (hT) ?_ (fun hp=>?_)
 conv=>whnf
 obtain ⟨e658,he658,h⟩:=idxn_some h
 refine ⟨_,⟨(by omega),map_at he658,rfl⟩,?_⟩
 conv=>whnf
 refine Nf.mk (List.length e658) len_map ?_
 conv=>whnf
 refine Both.mk ?_ ?_<;>intro b659
 replace b659:=beq_ff b659
 obtain ⟨h,b659d⟩:=cfd b659 h
 conv=>whnf
 iterate 3 (refine Both.yes (ff_beq b659) ?_;(conv=>whnf))
 obtain ⟨e660,he660,h⟩:=idxn_some h
 refine ⟨_,⟨(by omega),map_at he660,rfl⟩,?_⟩
 conv=>whnf
 iterate 2 (refine Both.yes (ff_beq b659) ?_;(conv=>whnf))
 refine Nf.mk (List.length e660) len_map ?_
 conv=>whnf
 iterate 3 (refine Both.yes (ff_beq b659) ?_;(conv=>whnf))
 refine Both.no b659 ?_
 conv=>whnf
 cases h
 exact Join.mk (eA [])
 replace b659:=beq_ft b659
 obtain ⟨h,b659d⟩:=ctd b659 h
 conv=>whnf
 iterate 8 (refine Both.no (tf_beq b659) ?_;(conv=>whnf))
 refine Both.yes b659 ?_
 conv=>whnf
 cases h
 exact Join.mk (eA [])
 replace h:=hk653
 conv=>whnf
 refine Both.mk ?_ ?_<;>intro b661
 replace h:=cond_t b661 h
 conv=>whnf
 cases h
 have ho650:_=_:=ho650
 cases ho650
 replace h:some _=some _:=hk66
 cases h
 conv=>whnf
 exact ⟨rfl,rfl⟩
 replace h:=cond_f b661 h
 conv=>whnf
 obtain ⟨oc,hc,hk662⟩:=bind_some h
 clear h
 have h:=hc
 clear hc
 refine Cut.mkS oc (Y:=Unit) (fun (_:Unit)=>mkSt [(1,.im (.ref (c_api_Part p_))),(3,.im (nI (↑(List.length p_.Next):Int))),(4,.im (nI (↑s533:Int)))] [] []) (fun (_:Unit)=>True) (by rintro ⟨⟩;exact (hT)) ?_ ?_
 conv=>whnf
 refine Loops.iter (fun (s:Nat)=>R35_Valid.s13 p_ s533 s) (fun a731=>mkSt [(1,.im (.ref (c_api_Part p_))),(3,.im (nI (↑(List.length p_.Next):Int))),(4,.im (nI (↑s533:Int))),(5,.im (nI (↑a731:Int)))] [] []) (fun a731=>True) h (eA []) (by rintro a731;exact (hT)) ?_
 clear h
 rintro k a731 o hp h ho749
 replace h:R35_Valid.s13 p_ s533 a731=some o:=h
 unfold R35_Valid.s13 at h
 conv=>whnf
 refine Both.mk ?_ ?_<;>intro b750
 obtain ⟨h,b750d⟩:=ctd b750 h
 conv=>whnf
 obtain ⟨e751,he751,h⟩:=idxn_some h
 refine ⟨_,⟨(by omega),map_at he751,rfl⟩,?_⟩
 conv=>whnf
 obtain ⟨e752,he752,h⟩:=idxn_some h
 refine ⟨_,⟨(by omega),map_at he752,rfl⟩,?_⟩
 conv=>whnf
 obtain ⟨e753,he753,h⟩:=idxn_some h
 refine ⟨_,⟨(by omega),map_at he753,rfl⟩,?_⟩
 conv=>whnf
 obtain ⟨e754,he754,h⟩:=idxn_some h
 refine ⟨_,⟨(by omega),map_at he754,rfl⟩,?_⟩
 conv=>whnf
 obtain ⟨y760,hc,hk756⟩:=bind_some h
 clear h
 have h:=hc
 clear hc
 refine Cut.mk (mkSt [(1,.im (.ref (c_api_Part p_))),(3,.im (nI (↑(List.length p_.Next):Int))),(4,.im (nI (↑s533:Int))),(5,.im (nI (↑a731:Int))),(6,.im (nI e752)),(7,.im (nI e754)),(103,.im (nB y760))] [] []) (True) (hT) ?_ (fun hp=>?_)
 conv=>whnf
 refine Both.mk ?_ ?_<;>intro b761
 replace b761:=beq_ff b761
 obtain ⟨h,b761d⟩:=cfd b761 h
 conv=>whnf
 iterate 2 (refine Both.yes (ff_beq b761) ?_;(conv=>whnf))
 refine Both.no b761 ?_
 conv=>whnf
 refine Both.mk ?_ ?_<;>intro b762
 replace b762:=beq_ff b762
 obtain ⟨h,b762d⟩:=cfd b762 h
 conv=>whnf
 refine Both.yes (ff_beq b762) ?_
 conv=>whnf
 refine Both.no b762 ?_
 conv=>whnf
 refine Both.mk ?_ ?_<;>intro b763
 replace b763:=beq_ff b763
 obtain ⟨h,b763d⟩:=cfd b763 h
 conv=>whnf
 refine Both.yes (ff_beq b763) ?_
 conv=>whnf
 refine Both.no b763 ?_
 conv=>whnf
 cases h
 exact Join.mk (eA [])
 replace b763:=beq_ft b763
 obtain ⟨h,b763d⟩:=ctd b763 h
 conv=>whnf
 refine Both.no (tf_beq b763) ?_
 conv=>whnf
 refine Both.yes b763 ?_
 conv=>whnf
 cases h
 exact Join.mk (eA [])
 replace b762:=beq_ft b762
 obtain ⟨h,b762d⟩:=ctd b762 h
 conv=>whnf
 refine Both.no (tf_beq b762) ?_
 conv=>whnf
 refine Both.yes b762 ?_
 conv=>whnf
 iterate 2 (refine Both.no rfl ?_;(conv=>whnf))
 refine Both.yes rfl ?_
 conv=>whnf
 cases h
 exact Join.mk (eA [])
 replace b761:=beq_ft b761
 obtain ⟨h,b761d⟩:=ctd b761 h
 conv=>whnf
 iterate 2 (refine Both.no (tf_beq b761) ?_;(conv=>whnf))
 refine Both.yes b761 ?_
 conv=>whnf
 iterate 2 (refine Both.no rfl ?_;(conv=>whnf))
 refine Both.yes rfl ?_
 conv=>whnf
 iterate 2 (refine Both.no rfl ?_;(conv=>whnf))
 refine Both.yes rfl ?_
 conv=>whnf
 cases h
 exact Join.mk (eA [])
 replace h:=hk756
 conv=>whnf
 refine Both.mk ?_ ?_<;>intro b764
 replace h:=cond_t b764 h
 conv=>whnf
 cases h
 have ho749:_=_:=ho749
 cases ho749
 replace h:some _=some _:=hk662
 cases h
 have ho650:_=_:=ho650
 cases ho650
 replace h:some _=some _:=hk66
 cases h
 conv=>whnf
 exact ⟨rfl,rfl⟩
 replace h:=cond_f b764 h
 conv=>whnf
 refine Both.mk ?_ ?_<;>intro b765
 replace h:=cond_t b765 h
 conv=>whnf
 cases h
 have ho749:_=_:=ho749
 cases ho749
 replace h:some _=some _:=hk662
 cases h
 have ho650:_=_:=ho650
 cases ho650
 replace h:some _=some _:=hk66
 cases h
 conv=>whnf
 exact ⟨rfl,rfl⟩
 replace h:=cond_f b765 h
 conv=>whnf
 obtain ⟨c766,h⟩:=chk_some h
 refine Arith.mk c766 ?_
 conv=>whnf
 cases h
 exact Nxt.mk _ ho749 (eA [])
 obtain ⟨h,b750d⟩:=cfd b750 h
 conv=>whnf
 cases h
 have ho749:_=_:=ho749
 cases ho749
 exact JoinS.mk' _ rfl (eA [])
 rintro ⟨⟩ rfl hp
 replace h:=sum_inl hk662
 conv=>whnf
 refine Arith.mk (by show inR _;unfold inR;omega) ?_
 conv=>whnf
 cases h
 exact Nxt.mk _ ho650 (eA [])
 obtain ⟨h,b651d⟩:=cfd b651 h
 conv=>whnf
 cases h
 have ho650:_=_:=ho650
 cases ho650
 exact JoinS.mk' _ rfl (eA [])
 rintro ⟨⟩ rfl hp
 replace h:=sum_inl hk66
 conv=>whnf
 cases h
 conv=>whnf
 exact ⟨rfl,rfl⟩
theorem sp_R35_Run (p_:T_api_Part) (w_:List Int) (r:List Int×Bool) (h:Ok (.agg (c_api_Part p_))→Ok (nL cI w_)→R35_Run p_ w_=some r):Sp Tryz.prog 10 [.im (.agg (c_api_Part p_)),.im (nL cI w_)] (.tup [nL cI r.1,nB r.2]):=by
 refine sp_of rfl [700002] rfl rfl rfl (Nat.le_of_ble_eq_true rfl) rfl fun hk=>?_
 replace h:=h hk.1 hk.2.1
 have z1:lZ p_.Next:=ok_len (Ok.agg_at hk.1 2 rfl)
 have z2:lZ p_.Out:=ok_len (Ok.agg_at hk.1 3 rfl)
 have z3:lZ w_:=ok_len hk.2.1
 unfold R35_Run at h
 conv=>whnf
 obtain ⟨c51,hc51,h⟩:=bind_some h
 refine ⟨_,(sp_R35_Valid p_ c51 (fun _=>hc51)),?_⟩
 conv=>whnf
 refine Both.mk ?_ ?_<;>intro b52
 obtain ⟨h,b52d⟩:=ctd b52 h
 conv=>whnf
 cases h
 conv=>whnf
 exact ⟨rfl,rfl⟩
 obtain ⟨h,b52d⟩:=cfd b52 h
 conv=>whnf
 obtain ⟨oc,hc,hk53⟩:=bind_some h
 clear h
 have h:=hc
 clear hc
 refine Cut.mkS oc (Y:=List Int) (fun y142=>mkSt [(7,.osl 74 1)] [(74,.row 3 1 (List.map cI y142))] []) (fun y142=>lZ y142∧True) (by rintro y142;exact ((Holds.kdl 74 rfl).and (hT))) ?_ ?_
 conv=>whnf
 refine Loops.iter (fun (s:Int×List Int×Nat)=>R35_Run.s2 p_ w_ s.1 s.2.1 s.2.2) (fun (s169,y170,i171)=>mkSt [(1,.im (nL cI w_)),(2,.im (.ref (c_api_Part p_))),(6,.im (nI s169)),(7,.osl 74 1),(8,.im (nI (↑i171:Int)))] [(74,.row 3 1 (List.map cI y170))] []) (fun (s169,y170,i171)=>lZ w_∧lZ y170∧True) h (eA [(74,none)]) (by rintro ⟨s169,y170,i171⟩;exact ((Holds.avl 1 rfl).and ((Holds.kdl 74 rfl).and (hT)))) ?_
 clear h
 rintro k ⟨s169,y170,i171⟩ o hp h ho200
 replace h:R35_Run.s2 p_ w_ s169 y170 i171=some o:=h
 unfold R35_Run.s2 at h
 obtain ⟨z229,z230,_⟩:=hp
 conv=>whnf
 refine Nf.mk (List.length w_) len_map ?_
 conv=>whnf
 refine Both.mk ?_ ?_<;>intro b201
 obtain ⟨h,b201d⟩:=ctd b201 h
 conv=>whnf
 obtain ⟨y211,hc,hk203⟩:=bind_some h
 clear h
 have h:=hc
 clear hc
 refine Cut.mk (mkSt [(1,.im (nL cI w_)),(2,.im (.ref (c_api_Part p_))),(6,.im (nI s169)),(7,.osl 74 1),(8,.im (nI (↑i171:Int))),(47,.im (nB y211))] [(74,.row 3 1 (List.map cI y170))] []) (lZ w_∧lZ y170∧True) ((Holds.avl 1 rfl).and ((Holds.kdl 74 rfl).and (hT))) ?_ (fun hp=>?_)
 conv=>whnf
 obtain ⟨e212,he212,h⟩:=idxn_some h
 refine ⟨_,⟨(by omega),map_at he212,rfl⟩,?_⟩
 conv=>whnf
 refine Both.mk ?_ ?_<;>intro b213
 replace b213:=beq_ff b213
 obtain ⟨h,b213d⟩:=cfd b213 h
 conv=>whnf
 iterate 2 (refine Both.yes (ff_beq b213) ?_;(conv=>whnf))
 obtain ⟨e214,he214,h⟩:=idxn_some h
 refine ⟨_,⟨(by omega),map_at he214,rfl⟩,?_⟩
 conv=>whnf
 iterate 4 (refine Both.yes (ff_beq b213) ?_;(conv=>whnf))
 refine Both.no b213 ?_
 conv=>whnf
 refine Both.mk ?_ ?_<;>intro b215
 replace b215:=beq_ff b215
 obtain ⟨h,b215d⟩:=cfd b215 h
 conv=>whnf
 iterate 3 (refine Both.yes (ff_beq b215) ?_;(conv=>whnf))
 obtain ⟨e216,he216z,he216,h⟩:=idx_some h
 refine ⟨_,⟨he216z,map_at he216,rfl⟩,?_⟩
 conv=>whnf
 iterate 4 (refine Both.yes (ff_beq b215) ?_;(conv=>whnf))
 obtain ⟨e217,he217,h⟩:=idxn_some h
 refine ⟨_,⟨(by omega),map_at he217,rfl⟩,?_⟩
 conv=>whnf
 iterate 2 (refine Both.yes (ff_beq b215) ?_;(conv=>whnf))
 obtain ⟨e218,he218z,he218,h⟩:=idx_some h
 refine ⟨_,⟨he218z,map_at he218,rfl⟩,?_⟩
 conv=>whnf
 iterate 2 (refine Both.yes (ff_beq b215) ?_;(conv=>whnf))
 refine Both.no b215 ?_
 conv=>whnf
 cases h
 exact Join.mk (eA [(74,some 74)])
 replace b215:=beq_ft b215
 obtain ⟨h,b215d⟩:=ctd b215 h
 conv=>whnf
 iterate 11 (refine Both.no (tf_beq b215) ?_;(conv=>whnf))
 refine Both.yes b215 ?_
 conv=>whnf
 cases h
 exact Join.mk (eA [(74,some 74)])
 replace b213:=beq_ft b213
 obtain ⟨h,b213d⟩:=ctd b213 h
 conv=>whnf
 iterate 6 (refine Both.no (tf_beq b213) ?_;(conv=>whnf))
 refine Both.yes b213 ?_
 conv=>whnf
 iterate 12 (refine Both.no rfl ?_;(conv=>whnf))
 refine Both.yes rfl ?_
 conv=>whnf
 cases h
 exact Join.mk (eA [(74,some 74)])
 replace h:=hk203
 obtain ⟨z219,z220,_⟩:=hp
 conv=>whnf
 refine Both.mk ?_ ?_<;>intro b221
 replace h:=cond_t b221 h
 conv=>whnf
 cases h
 have ho200:_=_:=ho200
 cases ho200
 replace h:some _=some _:=hk53
 cases h
 conv=>whnf
 exact ⟨rfl,rfl⟩
 replace h:=cond_f b221 h
 conv=>whnf
 obtain ⟨e222,he222z,he222,h⟩:=idx_some h
 refine ⟨_,⟨he222z,map_at he222,rfl⟩,?_⟩
 conv=>whnf
 obtain ⟨e223,he223,h⟩:=idxn_some h
 refine ⟨_,⟨(by omega),map_at he223,rfl⟩,?_⟩
 conv=>whnf
 obtain ⟨e224,he224z,he224,h⟩:=idx_some h
 refine ⟨_,⟨he224z,map_at he224,rfl⟩,?_⟩
 conv=>whnf
 obtain ⟨c225,h⟩:=chk_some h
 refine Side.mk ⟨rfl,map_len (l:=[e224]) (c:=cI) fun _=>rfl,show capOk _ 8 by simpa only [List.length_map,List.length_cons,List.length_nil,Nat.zero_add] using c225⟩ ?_
 conv=>whnf
 refine Nf.mk (List.map cI (y170++[e224])) (app_map (l:=y170) (m:=[e224]) (c:=cI)) ?_
 conv=>whnf
 obtain ⟨e226,he226z,he226,h⟩:=idx_some h
 refine ⟨_,⟨he226z,map_at he226,rfl⟩,?_⟩
 conv=>whnf
 obtain ⟨e227,he227,h⟩:=idxn_some h
 refine ⟨_,⟨(by omega),map_at he227,rfl⟩,?_⟩
 conv=>whnf
 obtain ⟨e228,he228z,he228,h⟩:=idx_some h
 refine ⟨_,⟨he228z,map_at he228,rfl⟩,?_⟩
 conv=>whnf
 refine Arith.mk (by show inR _;unfold inR;omega) ?_
 conv=>whnf
 cases h
 exact Nxt.mk _ ho200 (eA [(74,some 74)])
 obtain ⟨h,b201d⟩:=cfd b201 h
 conv=>whnf
 cases h
 have ho200:_=_:=ho200
 cases ho200
 exact JoinS.mk' _ rfl (eA [(74,some 74)])
 rintro y142 rfl hp
 replace h:=sum_inl hk53
 obtain ⟨z231,_⟩:=hp
 conv=>whnf
 cases h
 conv=>whnf
 exact Side.mk ⟨rfl,trivial⟩ ⟨rfl,rfl⟩
theorem sp_R01_Common (a_:List Int) (b_:List Int) (r:Int) (h:Ok (nL cI a_)→Ok (nL cI b_)→R01_Common a_ b_=some r):Sp Tryz.prog 37 [.im (nL cI a_),.im (nL cI b_)] (.im (nI r)):=by
 refine sp_of rfl [] rfl rfl rfl (Nat.le_of_ble_eq_true rfl) rfl fun hk=>?_
 replace h:=h hk.1 hk.2.1
 have z1:lZ a_:=ok_len hk.1
 have z2:lZ b_:=ok_len hk.2.1
 unfold R01_Common at h
 conv=>whnf
 obtain ⟨i100,hc,hk51⟩:=bind_some h
 clear h
 have h:=hc
 clear hc
 refine Cut.mk (mkSt [(5,.im (nI (↑i100:Int)))] [] []) (True) (hT) ?_ (fun hp=>?_)
 conv=>whnf
 refine Loops.iter (fun (s:Nat)=>R01_Common.s2 a_ b_ s) (fun i115=>mkSt [(0,.im (nL cI a_)),(1,.im (nL cI b_)),(5,.im (nI (↑i115:Int)))] [] []) (fun i115=>lZ a_∧lZ b_∧True) h (eA []) (by rintro i115;exact ((Holds.avl 0 rfl).and ((Holds.avl 1 rfl).and (hT)))) ?_
 clear h
 rintro k i115 o hp h ho131
 replace h:R01_Common.s2 a_ b_ i115=some o:=h
 unfold R01_Common.s2 at h
 obtain ⟨z147,z148,_⟩:=hp
 conv=>whnf
 obtain ⟨y138,hc,hk133⟩:=bind_some h
 clear h
 have h:=hc
 clear hc
 refine Cut.mk (mkSt [(0,.im (nL cI a_)),(1,.im (nL cI b_)),(5,.im (nI (↑i115:Int))),(26,.im (nB y138))] [] []) (lZ a_∧lZ b_∧True) ((Holds.avl 0 rfl).and ((Holds.avl 1 rfl).and (hT))) ?_ (fun hp=>?_)
 conv=>whnf
 refine Nf.mk (List.length a_) len_map ?_
 conv=>whnf
 refine Both.mk ?_ ?_<;>intro b139
 replace b139:=beq_tt b139
 obtain ⟨h,b139d⟩:=ctd b139 h
 conv=>whnf
 iterate 2 (refine Both.yes (tt_beq b139) ?_;(conv=>whnf))
 refine Nf.mk (List.length b_) len_map ?_
 conv=>whnf
 refine Both.yes (tt_beq b139) ?_
 conv=>whnf
 refine Both.yes b139 ?_
 conv=>whnf
 refine Both.mk ?_ ?_<;>intro b140
 replace b140:=beq_tt b140
 obtain ⟨h,b140d⟩:=ctd b140 h
 conv=>whnf
 iterate 2 (refine Both.yes (tt_beq b140) ?_;(conv=>whnf))
 obtain ⟨e141,he141,h⟩:=idxn_some h
 refine ⟨_,⟨(by omega),map_at he141,rfl⟩,?_⟩
 conv=>whnf
 iterate 4 (refine Both.yes (tt_beq b140) ?_;(conv=>whnf))
 obtain ⟨e142,he142,h⟩:=idxn_some h
 refine ⟨_,⟨(by omega),map_at he142,rfl⟩,?_⟩
 conv=>whnf
 iterate 2 (refine Both.yes (tt_beq b140) ?_;(conv=>whnf))
 refine Both.yes b140 ?_
 conv=>whnf
 cases h
 exact Join.mk (eA [])
 replace b140:=beq_tf b140
 obtain ⟨h,b140d⟩:=cfd b140 h
 conv=>whnf
 iterate 8 (refine Both.no (ft_beq b140) ?_;(conv=>whnf))
 refine Both.no b140 ?_
 conv=>whnf
 cases h
 exact Join.mk (eA [])
 replace b139:=beq_tf b139
 obtain ⟨h,b139d⟩:=cfd b139 h
 conv=>whnf
 iterate 3 (refine Both.no (ft_beq b139) ?_;(conv=>whnf))
 refine Both.no b139 ?_
 conv=>whnf
 iterate 10 (refine Both.no rfl ?_;(conv=>whnf))
 cases h
 exact Join.mk (eA [])
 replace h:=hk133
 obtain ⟨z143,z144,_⟩:=hp
 conv=>whnf
 refine Both.mk ?_ ?_<;>intro b145
 replace h:=cond_t b145 h
 conv=>whnf
 obtain ⟨c146,h⟩:=chk_some h
 refine Arith.mk c146 ?_
 conv=>whnf
 cases h
 exact Nxt.mk _ ho131 (eA [])
 replace h:=cond_f b145 h
 conv=>whnf
 cases h
 have ho131:_=_:=ho131
 cases ho131
 exact Join.mk (eA [])
 replace h:=hk51
 conv=>whnf
 cases h
 conv=>whnf
 exact ⟨rfl,rfl⟩
theorem sp_R01_Same (a_:List Int) (b_:List Int) (r:Bool) (h:Ok (nL cI a_)→Ok (nL cI b_)→R01_Same a_ b_=some r):Sp Tryz.prog 17 [.im (nL cI a_),.im (nL cI b_)] (.im (nB r)):=by
 refine sp_of rfl [] rfl rfl rfl (Nat.le_of_ble_eq_true rfl) rfl fun hk=>?_
 replace h:=h hk.1 hk.2.1
 have z1:lZ a_:=ok_len hk.1
 have z2:lZ b_:=ok_len hk.2.1
 unfold R01_Same at h
 conv=>whnf
 obtain ⟨y55,hc,hk52⟩:=bind_some h
 clear h
 have h:=hc
 clear hc
 refine Cut.mk (mkSt [(4,.im (nB y55))] [] []) (True) (hT) ?_ (fun hp=>?_)
 conv=>whnf
 refine Nf.mk (List.length a_) len_map ?_
 conv=>whnf
 refine Nf.mk (List.length b_) len_map ?_
 conv=>whnf
 refine Both.mk ?_ ?_<;>intro b56
 replace b56:=beq_tt b56
 obtain ⟨h,b56d⟩:=ctd b56 h
 conv=>whnf
 iterate 2 (refine Both.yes (tt_beq b56) ?_;(conv=>whnf))
 obtain ⟨c57,hc57,h⟩:=bind_some h
 refine ⟨_,(sp_R01_Common a_ b_ c57 (fun _ _=>hc57)),?_⟩
 conv=>whnf
 iterate 2 (refine Both.yes (tt_beq b56) ?_;(conv=>whnf))
 refine Nf.mk (List.length a_) len_map ?_
 conv=>whnf
 refine Both.yes (tt_beq b56) ?_
 conv=>whnf
 refine Both.yes b56 ?_
 conv=>whnf
 cases h
 exact Join.mk (eA [])
 replace b56:=beq_tf b56
 obtain ⟨h,b56d⟩:=cfd b56 h
 conv=>whnf
 iterate 5 (refine Both.no (ft_beq b56) ?_;(conv=>whnf))
 refine Both.no b56 ?_
 conv=>whnf
 cases h
 exact Join.mk (eA [])
 replace h:=hk52
 conv=>whnf
 cases h
 conv=>whnf
 exact ⟨rfl,rfl⟩
theorem sp_R35_Great (p_:T_api_Part) (r:Bool) (h:Ok (.agg (c_api_Part p_))→R35_Great p_=some r):Sp Tryz.prog 7 [.im (.agg (c_api_Part p_))] (.im (nB r)):=by
 refine sp_of rfl [700001] rfl rfl rfl (Nat.le_of_ble_eq_true rfl) rfl fun hk=>?_
 replace h:=h hk.1
 have z1:lZ p_.Next:=ok_len (Ok.agg_at hk.1 2 rfl)
 have z2:lZ p_.Out:=ok_len (Ok.agg_at hk.1 3 rfl)
 unfold R35_Great at h
 conv=>whnf
 obtain ⟨oc,hc,hk51⟩:=bind_some h
 clear h
 have h:=hc
 clear hc
 refine Cut.mkS oc (Y:=Unit) (fun (_:Unit)=>mkSt [(1,.im (.ref (c_api_Part p_)))] [] []) (fun (_:Unit)=>True) (by rintro ⟨⟩;exact (hT)) ?_ ?_
 conv=>whnf
 refine Loops.iter (fun (s:Nat)=>R35_Great.s2 p_ s) (fun s88=>mkSt [(1,.im (.ref (c_api_Part p_))),(3,.im (nI (↑s88:Int)))] [] []) (fun s88=>True) h (eA []) (by rintro s88;exact (hT)) ?_
 clear h
 rintro k s88 o hp h ho98
 replace h:R35_Great.s2 p_ s88=some o:=h
 unfold R35_Great.s2 at h
 conv=>whnf
 obtain ⟨y102,hc,hk100⟩:=bind_some h
 clear h
 have h:=hc
 clear hc
 refine Cut.mk (mkSt [(1,.im (.ref (c_api_Part p_))),(3,.im (nI (↑s88:Int))),(13,.im (nB y102))] [] []) (True) (hT) ?_ (fun hp=>?_)
 conv=>whnf
 refine Nf.mk (List.length p_.Next) len_map ?_
 conv=>whnf
 refine Both.mk ?_ ?_<;>intro b103
 replace b103:=beq_tt b103
 obtain ⟨h,b103d⟩:=ctd b103 h
 conv=>whnf
 refine Both.yes (tt_beq b103) ?_
 conv=>whnf
 refine Both.yes b103 ?_
 conv=>whnf
 cases h
 exact Join.mk (eA [])
 replace b103:=beq_tf b103
 obtain ⟨h,b103d⟩:=cfd b103 h
 conv=>whnf
 refine Both.no (ft_beq b103) ?_
 conv=>whnf
 refine Both.no b103 ?_
 conv=>whnf
 cases h
 exact Join.mk (eA [])
 replace h:=hk100
 conv=>whnf
 refine Both.mk ?_ ?_<;>intro b104
 replace h:=cond_t b104 h
 conv=>whnf
 obtain ⟨e105,he105,h⟩:=idxn_some h
 refine ⟨_,⟨(by omega),map_at he105,rfl⟩,?_⟩
 conv=>whnf
 refine Nf.mk (List.length e105) len_map ?_
 conv=>whnf
 refine Both.mk ?_ ?_<;>intro b106
 obtain ⟨h,b106d⟩:=ctd b106 h
 conv=>whnf
 cases h
 have ho98:_=_:=ho98
 cases ho98
 replace h:some _=some _:=hk51
 cases h
 conv=>whnf
 exact ⟨rfl,rfl⟩
 obtain ⟨h,b106d⟩:=cfd b106 h
 conv=>whnf
 obtain ⟨c107,h⟩:=chk_some h
 refine Arith.mk c107 ?_
 conv=>whnf
 cases h
 exact Nxt.mk _ ho98 (eA [])
 replace h:=cond_f b104 h
 conv=>whnf
 cases h
 have ho98:_=_:=ho98
 cases ho98
 exact JoinS.mk' _ rfl (eA [])
 rintro ⟨⟩ rfl hp
 replace h:=sum_inl hk51
 conv=>whnf
 obtain ⟨oc,hc,hk108⟩:=bind_some h
 clear h
 have h:=hc
 clear hc
 refine Cut.mkS oc (Y:=Unit) (fun (_:Unit)=>mkSt [(1,.im (.ref (c_api_Part p_)))] [] []) (fun (_:Unit)=>True) (by rintro ⟨⟩;exact (hT)) ?_ ?_
 conv=>whnf
 refine Loops.iter (fun (s:Nat)=>R35_Great.s4 p_ s) (fun s145=>mkSt [(1,.im (.ref (c_api_Part p_))),(4,.im (nI (↑s145:Int)))] [] []) (fun s145=>True) h (eA []) (by rintro s145;exact (hT)) ?_
 clear h
 rintro k s145 o hp h ho155
 replace h:R35_Great.s4 p_ s145=some o:=h
 unfold R35_Great.s4 at h
 conv=>whnf
 obtain ⟨y159,hc,hk157⟩:=bind_some h
 clear h
 have h:=hc
 clear hc
 refine Cut.mk (mkSt [(1,.im (.ref (c_api_Part p_))),(4,.im (nI (↑s145:Int))),(31,.im (nB y159))] [] []) (True) (hT) ?_ (fun hp=>?_)
 conv=>whnf
 refine Nf.mk (List.length p_.Out) len_map ?_
 conv=>whnf
 refine Both.mk ?_ ?_<;>intro b160
 replace b160:=beq_tt b160
 obtain ⟨h,b160d⟩:=ctd b160 h
 conv=>whnf
 refine Both.yes (tt_beq b160) ?_
 conv=>whnf
 refine Both.yes b160 ?_
 conv=>whnf
 cases h
 exact Join.mk (eA [])
 replace b160:=beq_tf b160
 obtain ⟨h,b160d⟩:=cfd b160 h
 conv=>whnf
 refine Both.no (ft_beq b160) ?_
 conv=>whnf
 refine Both.no b160 ?_
 conv=>whnf
 cases h
 exact Join.mk (eA [])
 replace h:=hk157
 conv=>whnf
 refine Both.mk ?_ ?_<;>intro b161
 replace h:=cond_t b161 h
 conv=>whnf
 obtain ⟨e162,he162,h⟩:=idxn_some h
 refine ⟨_,⟨(by omega),map_at he162,rfl⟩,?_⟩
 conv=>whnf
 refine Nf.mk (List.length e162) len_map ?_
 conv=>whnf
 refine Both.mk ?_ ?_<;>intro b163
 obtain ⟨h,b163d⟩:=ctd b163 h
 conv=>whnf
 cases h
 have ho155:_=_:=ho155
 cases ho155
 replace h:some _=some _:=hk108
 cases h
 conv=>whnf
 exact ⟨rfl,rfl⟩
 obtain ⟨h,b163d⟩:=cfd b163 h
 conv=>whnf
 obtain ⟨c164,h⟩:=chk_some h
 refine Arith.mk c164 ?_
 conv=>whnf
 cases h
 exact Nxt.mk _ ho155 (eA [])
 replace h:=cond_f b161 h
 conv=>whnf
 cases h
 have ho155:_=_:=ho155
 cases ho155
 exact JoinS.mk' _ rfl (eA [])
 rintro ⟨⟩ rfl hp
 replace h:=sum_inl hk108
 conv=>whnf
 obtain ⟨y168,hc,hk166⟩:=bind_some h
 clear h
 have h:=hc
 clear hc
 refine Cut.mk (mkSt [(2,.im (nB y168))] [] []) (True) (hT) ?_ (fun hp=>?_)
 conv=>whnf
 refine Nf.mk (List.length p_.Next) len_map ?_
 conv=>whnf
 refine Both.mk ?_ ?_<;>intro b169
 replace b169:=beq_ff b169
 obtain ⟨h,b169d⟩:=cfd b169 h
 conv=>whnf
 iterate 2 (refine Both.yes (ff_beq b169) ?_;(conv=>whnf))
 refine Nf.mk (List.length p_.Out) len_map ?_
 conv=>whnf
 refine Both.yes (ff_beq b169) ?_
 conv=>whnf
 refine Both.no b169 ?_
 conv=>whnf
 cases h
 exact Join.mk (eA [])
 replace b169:=beq_ft b169
 obtain ⟨h,b169d⟩:=ctd b169 h
 conv=>whnf
 iterate 3 (refine Both.no (tf_beq b169) ?_;(conv=>whnf))
 refine Both.yes b169 ?_
 conv=>whnf
 cases h
 exact Join.mk (eA [])
 replace h:=hk166
 conv=>whnf
 cases h
 conv=>whnf
 exact ⟨rfl,rfl⟩
theorem sp_R01_SameWords (a_:List (List Int)) (b_:List (List Int)) (r:Bool) (h:Ok (nL (cL cI) a_)→Ok (nL (cL cI) b_)→R01_SameWords a_ b_=some r):Sp Tryz.prog 32 [.im (nL (cL cI) a_),.im (nL (cL cI) b_)] (.im (nB r)):=by
 refine sp_of rfl [] rfl rfl rfl (Nat.le_of_ble_eq_true rfl) rfl fun hk=>?_
 replace h:=h hk.1 hk.2.1
 have z1:lZ a_:=ok_len hk.1
 have z2:lZ b_:=ok_len hk.2.1
 unfold R01_SameWords at h
 conv=>whnf
 refine Nf.mk (List.length a_) len_map ?_
 conv=>whnf
 refine Nf.mk (List.length b_) len_map ?_
 conv=>whnf
 refine Both.mk ?_ ?_<;>intro b51
 obtain ⟨h,b51d⟩:=ctd b51 h
 conv=>whnf
 cases h
 conv=>whnf
 exact ⟨rfl,rfl⟩
 obtain ⟨h,b51d⟩:=cfd b51 h
 conv=>whnf
 obtain ⟨oc,hc,hk52⟩:=bind_some h
 clear h
 have h:=hc
 clear hc
 refine Cut.mkS oc (Y:=Unit) (fun (_:Unit)=>mkSt [] [] []) (fun (_:Unit)=>True) (by rintro ⟨⟩;exact (hT)) ?_ ?_
 conv=>whnf
 refine Loops.iter (fun (s:Nat)=>R01_SameWords.s2 a_ b_ s) (fun i77=>mkSt [(0,.im (nL (cL cI) a_)),(1,.im (nL (cL cI) b_)),(5,.im (nI (↑i77:Int)))] [] []) (fun i77=>lZ a_∧lZ b_∧True) h (eA []) (by rintro i77;exact ((Holds.avl 0 rfl).and ((Holds.avl 1 rfl).and (hT)))) ?_
 clear h
 rintro k i77 o hp h ho83
 replace h:R01_SameWords.s2 a_ b_ i77=some o:=h
 unfold R01_SameWords.s2 at h
 obtain ⟨z89,z90,_⟩:=hp
 conv=>whnf
 refine Nf.mk (List.length a_) len_map ?_
 conv=>whnf
 refine Both.mk ?_ ?_<;>intro b84
 obtain ⟨h,b84d⟩:=ctd b84 h
 conv=>whnf
 obtain ⟨e85,he85,h⟩:=idxn_some h
 refine ⟨_,⟨(by omega),map_at he85,rfl⟩,?_⟩
 conv=>whnf
 obtain ⟨e86,he86,h⟩:=idxn_some h
 refine ⟨_,⟨(by omega),map_at he86,rfl⟩,?_⟩
 conv=>whnf
 obtain ⟨c87,hc87,h⟩:=bind_some h
 refine ⟨_,(sp_R01_Same e85 e86 c87 (fun _ _=>hc87)),?_⟩
 conv=>whnf
 refine Both.mk ?_ ?_<;>intro b88
 replace h:=cond_t b88 h
 conv=>whnf
 cases h
 have ho83:_=_:=ho83
 cases ho83
 replace h:some _=some _:=hk52
 cases h
 conv=>whnf
 exact ⟨rfl,rfl⟩
 replace h:=cond_f b88 h
 conv=>whnf
 refine Arith.mk (by show inR _;unfold inR;omega) ?_
 conv=>whnf
 cases h
 exact Nxt.mk _ ho83 (eA [])
 obtain ⟨h,b84d⟩:=cfd b84 h
 conv=>whnf
 cases h
 have ho83:_=_:=ho83
 cases ho83
 exact JoinS.mk' _ rfl (eA [])
 rintro ⟨⟩ rfl hp
 replace h:=sum_inl hk52
 conv=>whnf
 cases h
 conv=>whnf
 exact ⟨rfl,rfl⟩
theorem sp_slices_IndexFunc_Sint_int (s_:List Int) (f_:Int→Option Bool) (f1_:FuncId) (hf1:∀ x0 r,f_ x0=some r→Sp Tryz.prog f1_ [.im (nI x0)] (.im (nB r))) (r:Int) (h:Ok (nL cI s_)→Ok (.fn f1_ [])→slices_IndexFunc_Sint_int s_ f_=some r):Sp Tryz.prog 137 [.im (nL cI s_),.im (.fn f1_ [])] (.im (nI r)):=by
 refine sp_of rfl [] rfl rfl rfl (Nat.le_of_ble_eq_true rfl) rfl fun hk=>?_
 replace h:=h hk.1 hk.2.1
 have z1:lZ s_:=ok_len hk.1
 unfold slices_IndexFunc_Sint_int at h
 conv=>whnf
 refine Nf.mk (List.length s_) len_map ?_
 conv=>whnf
 obtain ⟨oc,hc,hk51⟩:=bind_some h
 clear h
 have h:=hc
 clear hc
 refine Cut.mkS oc (Y:=Unit) (fun (_:Unit)=>mkSt [] [] []) (fun (_:Unit)=>True) (by rintro ⟨⟩;exact (hT)) ?_ ?_
 conv=>whnf
 refine Loops.iter (fun (s:Nat)=>slices_IndexFunc_Sint_int.s2 s_ f_ s) (fun y71=>mkSt [(0,.im (nL cI s_)),(1,.im (.fn f1_ [])),(7,.im (nI (↑(List.length s_):Int))),(8,.im (nI (↑y71:Int)))] [] []) (fun y71=>lZ s_∧True) h (eA []) (by rintro y71;exact ((Holds.avl 0 rfl).and (hT))) ?_
 clear h
 rintro k y71 o hp h ho76
 replace h:slices_IndexFunc_Sint_int.s2 s_ f_ y71=some o:=h
 unfold slices_IndexFunc_Sint_int.s2 at h
 obtain ⟨z81,_⟩:=hp
 conv=>whnf
 refine Both.mk ?_ ?_<;>intro b77
 obtain ⟨h,b77d⟩:=ctd b77 h
 conv=>whnf
 obtain ⟨e78,he78,h⟩:=idxn_some h
 refine ⟨_,⟨(by omega),map_at he78,rfl⟩,?_⟩
 conv=>whnf
 obtain ⟨c79,hc79,h⟩:=bind_some h
 refine ⟨_,hf1 e78 c79 hc79,?_⟩
 conv=>whnf
 refine Both.mk ?_ ?_<;>intro b80
 replace h:=cond_t b80 h
 conv=>whnf
 cases h
 have ho76:_=_:=ho76
 cases ho76
 replace h:some _=some _:=hk51
 cases h
 conv=>whnf
 exact ⟨rfl,rfl⟩
 replace h:=cond_f b80 h
 conv=>whnf
 refine Arith.mk (by show inR _;unfold inR;omega) ?_
 conv=>whnf
 cases h
 exact Nxt.mk _ ho76 (eA [])
 obtain ⟨h,b77d⟩:=cfd b77 h
 conv=>whnf
 cases h
 have ho76:_=_:=ho76
 cases ho76
 exact JoinS.mk' _ rfl (eA [])
 rintro ⟨⟩ rfl hp
 replace h:=sum_inl hk51
 conv=>whnf
 cases h
 conv=>whnf
 exact ⟨rfl,rfl⟩
theorem sp_slices_ContainsFunc_Sint_int (s_:List Int) (f_:Int→Option Bool) (f1_:FuncId) (hf1:∀ x0 r,f_ x0=some r→Sp Tryz.prog f1_ [.im (nI x0)] (.im (nB r))) (r:Bool) (h:Ok (nL cI s_)→Ok (.fn f1_ [])→slices_ContainsFunc_Sint_int s_ f_=some r):Sp Tryz.prog 105 [.im (nL cI s_),.im (.fn f1_ [])] (.im (nB r)):=by
 refine sp_of rfl [] rfl rfl rfl (Nat.le_of_ble_eq_true rfl) rfl fun hk=>?_
 replace h:=h hk.1 hk.2.1
 have z1:lZ s_:=ok_len hk.1
 unfold slices_ContainsFunc_Sint_int at h
 conv=>whnf
 obtain ⟨c51,hc51,h⟩:=bind_some h
 refine ⟨_,(sp_slices_IndexFunc_Sint_int s_ f_ f1_ hf1 c51 (fun _ _=>hc51)),?_⟩
 conv=>whnf
 cases h
 conv=>whnf
 exact ⟨rfl,rfl⟩
theorem sp_word_permitted (inputs_:Int) (r:Bool) (h:Ok (nI inputs_)→word_permitted inputs_=some r):Sp Tryz.prog 104 [.im (nI inputs_)] (.im (nB r)):=by
 refine sp_of rfl [] rfl rfl rfl (Nat.le_of_ble_eq_true rfl) rfl fun hk=>?_
 replace h:=h hk.1
 unfold word_permitted at h
 conv=>whnf
 obtain ⟨y54,hc,hk52⟩:=bind_some h
 clear h
 have h:=hc
 clear hc
 refine Cut.mk (mkSt [(2,.im (nB y54))] [] []) (True) (hT) ?_ (fun hp=>?_)
 conv=>whnf
 refine Both.mk ?_ ?_<;>intro b55
 replace b55:=beq_tt b55
 obtain ⟨h,b55d⟩:=ctd b55 h
 conv=>whnf
 refine Both.yes (tt_beq b55) ?_
 conv=>whnf
 refine Both.yes b55 ?_
 conv=>whnf
 cases h
 exact Join.mk (eA [])
 replace b55:=beq_tf b55
 obtain ⟨h,b55d⟩:=cfd b55 h
 conv=>whnf
 refine Both.no (ft_beq b55) ?_
 conv=>whnf
 refine Both.no b55 ?_
 conv=>whnf
 cases h
 exact Join.mk (eA [])
 replace h:=hk52
 conv=>whnf
 cases h
 conv=>whnf
 exact ⟨rfl,rfl⟩
theorem sp_word_Check_1 (a_:Int) (p1_:Int) (r:Bool) (h:Ok (nI a_)→Ok (.ref (cI p1_))→word_Check_1 a_ p1_=some r):Sp Tryz.prog 106 [.im (nI a_),.im (.ref (cI p1_))] (.im (nB r)):=by
 refine sp_of rfl [] rfl rfl rfl (Nat.le_of_ble_eq_true rfl) rfl fun hk=>?_
 replace h:=h hk.1 hk.2.1
 unfold word_Check_1 at h
 conv=>whnf
 obtain ⟨y54,hc,hk52⟩:=bind_some h
 clear h
 have h:=hc
 clear hc
 refine Cut.mk (mkSt [(3,.im (nB y54))] [] []) (True) (hT) ?_ (fun hp=>?_)
 conv=>whnf
 refine Both.mk ?_ ?_<;>intro b55
 replace b55:=beq_ff b55
 obtain ⟨h,b55d⟩:=cfd b55 h
 conv=>whnf
 iterate 2 (refine Both.yes (ff_beq b55) ?_;(conv=>whnf))
 refine Both.no b55 ?_
 conv=>whnf
 cases h
 exact Join.mk (eA [])
 replace b55:=beq_ft b55
 obtain ⟨h,b55d⟩:=ctd b55 h
 conv=>whnf
 iterate 2 (refine Both.no (tf_beq b55) ?_;(conv=>whnf))
 refine Both.yes b55 ?_
 conv=>whnf
 cases h
 exact Join.mk (eA [])
 replace h:=hk52
 conv=>whnf
 cases h
 conv=>whnf
 exact ⟨rfl,rfl⟩
theorem sp_slices_IndexFunc_Sint_int_n1 (s_:List Int) (f_:Int→Option Bool) (f1_:FuncId) (k1_0:IV) (hk1_0:nz k1_0=k1_0) (hf1:∀ x0 r,f_ x0=some r→Sp Tryz.prog f1_ [.im (nI x0),.im k1_0] (.im (nB r))) (r:Int) (h:Ok (nL cI s_)→Ok (.fn f1_ [k1_0])→slices_IndexFunc_Sint_int_n1 s_ f_=some r):Sp Tryz.prog 137 [.im (nL cI s_),.im (.fn f1_ [k1_0])] (.im (nI r)):=by
 refine sp_of rfl [] rfl rfl rfl (Nat.le_of_ble_eq_true rfl) rfl fun hk=>?_
 replace h:=h hk.1 hk.2.1
 have z1:lZ s_:=ok_len hk.1
 unfold slices_IndexFunc_Sint_int_n1 at h
 conv=>whnf
 refine Nf.mk (List.length s_) len_map ?_
 conv=>whnf
 obtain ⟨oc,hc,hk51⟩:=bind_some h
 clear h
 have h:=hc
 clear hc
 refine Cut.mkS oc (Y:=Unit) (fun (_:Unit)=>mkSt [] [] []) (fun (_:Unit)=>True) (by rintro ⟨⟩;exact (hT)) ?_ ?_
 conv=>whnf
 refine Loops.iter (fun (s:Nat)=>slices_IndexFunc_Sint_int_n1.s2 s_ f_ s) (fun y71=>mkSt [(0,.im (nL cI s_)),(1,.im (.fn f1_ [k1_0])),(7,.im (nI (↑(List.length s_):Int))),(8,.im (nI (↑y71:Int)))] [] []) (fun y71=>lZ s_∧True) h (eA []) (by rintro y71;exact ((Holds.avl 0 rfl).and (hT))) ?_
 clear h
 rintro k y71 o hp h ho76
 replace h:slices_IndexFunc_Sint_int_n1.s2 s_ f_ y71=some o:=h
 unfold slices_IndexFunc_Sint_int_n1.s2 at h
 obtain ⟨z81,_⟩:=hp
 conv=>whnf
 refine Both.mk ?_ ?_<;>intro b77
 obtain ⟨h,b77d⟩:=ctd b77 h
 conv=>whnf
 obtain ⟨e78,he78,h⟩:=idxn_some h
 refine ⟨_,⟨(by omega),map_at he78,rfl⟩,?_⟩
 conv=>whnf
 obtain ⟨c79,hc79,h⟩:=bind_some h
 refine ⟨_,Sp.args (hf1 e78 c79 hc79) (by rw [hk1_0];try rfl),?_⟩
 conv=>whnf
 refine Both.mk ?_ ?_<;>intro b80
 replace h:=cond_t b80 h
 conv=>whnf
 cases h
 have ho76:_=_:=ho76
 cases ho76
 replace h:some _=some _:=hk51
 cases h
 conv=>whnf
 exact ⟨rfl,rfl⟩
 replace h:=cond_f b80 h
 conv=>whnf
 refine Arith.mk (by show inR _;unfold inR;omega) ?_
 conv=>whnf
 cases h
 exact Nxt.mk _ ho76 (eA [])
 obtain ⟨h,b77d⟩:=cfd b77 h
 conv=>whnf
 cases h
 have ho76:_=_:=ho76
 cases ho76
 exact JoinS.mk' _ rfl (eA [])
 rintro ⟨⟩ rfl hp
 replace h:=sum_inl hk51
 conv=>whnf
 cases h
 conv=>whnf
 exact ⟨rfl,rfl⟩
theorem sp_slices_ContainsFunc_Sint_int_n1 (s_:List Int) (f_:Int→Option Bool) (f1_:FuncId) (k1_0:IV) (hk1_0:nz k1_0=k1_0) (hf1:∀ x0 r,f_ x0=some r→Sp Tryz.prog f1_ [.im (nI x0),.im k1_0] (.im (nB r))) (r:Bool) (h:Ok (nL cI s_)→Ok (.fn f1_ [k1_0])→slices_ContainsFunc_Sint_int_n1 s_ f_=some r):Sp Tryz.prog 105 [.im (nL cI s_),.im (.fn f1_ [k1_0])] (.im (nB r)):=by
 refine sp_of rfl [] rfl rfl rfl (Nat.le_of_ble_eq_true rfl) rfl fun hk=>?_
 replace h:=h hk.1 hk.2.1
 have z1:lZ s_:=ok_len hk.1
 unfold slices_ContainsFunc_Sint_int_n1 at h
 conv=>whnf
 obtain ⟨c51,hc51,h⟩:=bind_some h
 refine ⟨_,(sp_slices_IndexFunc_Sint_int_n1 s_ f_ f1_ k1_0 hk1_0 hf1 c51 (fun _ _=>hc51)),?_⟩
 conv=>whnf
 cases h
 conv=>whnf
 exact ⟨rfl,rfl⟩
theorem sp_word_Check (w_:List Int) (inputs_:Int) (r:Int) (h:Ok (nL cI w_)→Ok (nI inputs_)→word_Check w_ inputs_=some r):Sp Tryz.prog 75 [.im (nL cI w_),.im (nI inputs_)] (.im (nI r)):=by
 refine sp_of rfl [700003] rfl rfl rfl (Nat.le_of_ble_eq_true rfl) rfl fun hk=>?_
 replace h:=h hk.1 hk.2.1
 have z1:lZ w_:=ok_len hk.1
 unfold word_Check at h
 conv=>whnf
 obtain ⟨c51,hc51,h⟩:=bind_some h
 refine ⟨_,(sp_word_permitted inputs_ c51 (fun _=>hc51)),?_⟩
 conv=>whnf
 refine Both.mk ?_ ?_<;>intro b52
 replace h:=cond_t b52 h
 conv=>whnf
 cases h
 conv=>whnf
 exact ⟨rfl,rfl⟩
 replace h:=cond_f b52 h
 conv=>whnf
 refine Nf.mk (List.length w_) len_map ?_
 conv=>whnf
 refine Both.mk ?_ ?_<;>intro b53
 obtain ⟨h,b53d⟩:=ctd b53 h
 conv=>whnf
 cases h
 conv=>whnf
 exact ⟨rfl,rfl⟩
 obtain ⟨h,b53d⟩:=cfd b53 h
 conv=>whnf
 obtain ⟨c54,hc54,h⟩:=bind_some h
 refine ⟨_,(sp_slices_ContainsFunc_Sint_int_n1 w_ (fun u0=>word_Check_1 u0 inputs_) 106 (.ref (cI inputs_)) rfl (fun u0 r h=>(sp_word_Check_1 u0 inputs_ r (fun _ _=>h))) c54 (fun _ _=>hc54)),?_⟩
 conv=>whnf
 refine Both.mk ?_ ?_<;>intro b55
 replace h:=cond_t b55 h
 conv=>whnf
 cases h
 conv=>whnf
 exact ⟨rfl,rfl⟩
 replace h:=cond_f b55 h
 conv=>whnf
 cases h
 conv=>whnf
 exact ⟨rfl,rfl⟩
theorem sp_word_Common (a_:List Int) (b_:List Int) (r:Int) (h:Ok (nL cI a_)→Ok (nL cI b_)→word_Common a_ b_=some r):Sp Tryz.prog 112 [.im (nL cI a_),.im (nL cI b_)] (.im (nI r)):=by
 refine sp_of rfl [] rfl rfl rfl (Nat.le_of_ble_eq_true rfl) rfl fun hk=>?_
 replace h:=h hk.1 hk.2.1
 have z1:lZ a_:=ok_len hk.1
 have z2:lZ b_:=ok_len hk.2.1
 unfold word_Common at h
 conv=>whnf
 refine Nf.mk (List.length a_) len_map ?_
 conv=>whnf
 refine Nf.mk (List.length b_) len_map ?_
 conv=>whnf
 obtain ⟨oc,hc,hk51⟩:=bind_some h
 clear h
 have h:=hc
 clear hc
 refine Cut.mkS oc (Y:=Unit) (fun (_:Unit)=>mkSt [(0,.im (nL cI a_)),(1,.im (nL cI b_))] [] []) (fun (_:Unit)=>lZ a_∧lZ b_∧True) (by rintro ⟨⟩;exact ((Holds.avl 0 rfl).and ((Holds.avl 1 rfl).and (hT)))) ?_ ?_
 conv=>whnf
 refine Loops.iter (fun (s:Nat)=>word_Common.s2 a_ b_ s) (fun y72=>mkSt [(0,.im (nL cI a_)),(1,.im (nL cI b_)),(10,.im (nI (min (↑(List.length a_):Int) (↑(List.length b_):Int)))),(11,.im (nI (↑y72:Int)))] [] []) (fun y72=>lZ a_∧lZ b_∧True) h (eA []) (by rintro y72;exact ((Holds.avl 0 rfl).and ((Holds.avl 1 rfl).and (hT)))) ?_
 clear h
 rintro k y72 o hp h ho77
 replace h:word_Common.s2 a_ b_ y72=some o:=h
 unfold word_Common.s2 at h
 obtain ⟨z82,z83,_⟩:=hp
 conv=>whnf
 refine Both.mk ?_ ?_<;>intro b78
 obtain ⟨h,b78d⟩:=ctd b78 h
 conv=>whnf
 obtain ⟨e79,he79,h⟩:=idxn_some h
 refine ⟨_,⟨(by omega),map_at he79,rfl⟩,?_⟩
 conv=>whnf
 obtain ⟨e80,he80,h⟩:=idxn_some h
 refine ⟨_,⟨(by omega),map_at he80,rfl⟩,?_⟩
 conv=>whnf
 refine Both.mk ?_ ?_<;>intro b81
 obtain ⟨h,b81d⟩:=ctd b81 h
 conv=>whnf
 cases h
 have ho77:_=_:=ho77
 cases ho77
 replace h:some _=some _:=hk51
 cases h
 conv=>whnf
 exact ⟨rfl,rfl⟩
 obtain ⟨h,b81d⟩:=cfd b81 h
 conv=>whnf
 refine Arith.mk (by show inR _;unfold inR;omega) ?_
 conv=>whnf
 cases h
 exact Nxt.mk _ ho77 (eA [])
 obtain ⟨h,b78d⟩:=cfd b78 h
 conv=>whnf
 cases h
 have ho77:_=_:=ho77
 cases ho77
 exact JoinS.mk' _ rfl (eA [])
 rintro ⟨⟩ rfl hp
 replace h:=sum_inl hk51
 obtain ⟨z84,z85,_⟩:=hp
 conv=>whnf
 refine Nf.mk (List.length a_) len_map ?_
 conv=>whnf
 refine Nf.mk (List.length b_) len_map ?_
 conv=>whnf
 cases h
 conv=>whnf
 exact ⟨rfl,rfl⟩
theorem sp_word_HasPrefix (w_:List Int) (p_:List Int) (r:Bool) (h:Ok (nL cI w_)→Ok (nL cI p_)→word_HasPrefix w_ p_=some r):Sp Tryz.prog 81 [.im (nL cI w_),.im (nL cI p_)] (.im (nB r)):=by
 refine sp_of rfl [] rfl rfl rfl (Nat.le_of_ble_eq_true rfl) rfl fun hk=>?_
 replace h:=h hk.1 hk.2.1
 have z1:lZ w_:=ok_len hk.1
 have z2:lZ p_:=ok_len hk.2.1
 unfold word_HasPrefix at h
 conv=>whnf
 obtain ⟨c51,hc51,h⟩:=bind_some h
 refine ⟨_,(sp_word_Common w_ p_ c51 (fun _ _=>hc51)),?_⟩
 conv=>whnf
 refine Nf.mk (List.length p_) len_map ?_
 conv=>whnf
 cases h
 conv=>whnf
 exact ⟨rfl,rfl⟩
theorem sp_observe_differ (a_:T_api_Trace) (b_:T_api_Trace) (r:Int) (h:Ok (.agg (c_api_Trace a_))→Ok (.agg (c_api_Trace b_))→observe_differ a_ b_=some r):Sp Tryz.prog 83 [.im (.agg (c_api_Trace a_)),.im (.agg (c_api_Trace b_))] (.im (nI r)):=by
 refine sp_of rfl [700002,700003] rfl rfl rfl (Nat.le_of_ble_eq_true rfl) rfl fun hk=>?_
 replace h:=h hk.1 hk.2.1
 have z1:lZ a_.In:=ok_len (Ok.agg_at hk.1 0 rfl)
 have z2:lZ a_.Out:=ok_len (Ok.agg_at hk.1 1 rfl)
 have z3:lZ b_.In:=ok_len (Ok.agg_at hk.2.1 0 rfl)
 have z4:lZ b_.Out:=ok_len (Ok.agg_at hk.2.1 1 rfl)
 unfold observe_differ at h
 conv=>whnf
 obtain ⟨c51,hc51,h⟩:=bind_some h
 refine ⟨_,(sp_word_Common a_.In b_.In c51 (fun _ _=>hc51)),?_⟩
 conv=>whnf
 refine Nf.mk (List.length a_.Out) len_map ?_
 conv=>whnf
 refine Nf.mk (List.length b_.Out) len_map ?_
 conv=>whnf
 obtain ⟨c52,h⟩:=chk_some h
 refine Side.mk (show (0:Int)≤(0:Int)∧(0:Int)≤(min (min c51 (↑(List.length a_.Out):Int)) (↑(List.length b_.Out):Int))∧(min (min c51 (↑(List.length a_.Out):Int)) (↑(List.length b_.Out):Int))≤(↑(List.length (List.map cI a_.Out)):Int)∧(∀ e∈List.map cI a_.Out,List.length e=1) from ⟨by omega,by first | omega | (simp only [List.length_map];omega),by first | omega | (simp only [List.length_map];omega),map_len fun _=>rfl⟩) ?_
 conv=>whnf
 refine Nf.mk (List.map cI (List.take (Int.toNat (min (min c51 (↑(List.length a_.Out):Int)) (↑(List.length b_.Out):Int))) a_.Out)) take_map ?_
 conv=>whnf
 obtain ⟨c53,h⟩:=chk_some h
 refine Side.mk (show (0:Int)≤(0:Int)∧(0:Int)≤(min (min c51 (↑(List.length a_.Out):Int)) (↑(List.length b_.Out):Int))∧(min (min c51 (↑(List.length a_.Out):Int)) (↑(List.length b_.Out):Int))≤(↑(List.length (List.map cI b_.Out)):Int)∧(∀ e∈List.map cI b_.Out,List.length e=1) from ⟨by omega,by first | omega | (simp only [List.length_map];omega),by first | omega | (simp only [List.length_map];omega),map_len fun _=>rfl⟩) ?_
 conv=>whnf
 refine Nf.mk (List.map cI (List.take (Int.toNat (min (min c51 (↑(List.length a_.Out):Int)) (↑(List.length b_.Out):Int))) b_.Out)) take_map ?_
 conv=>whnf
 obtain ⟨c54,hc54,h⟩:=bind_some h
 refine ⟨_,(sp_word_Common (List.take (Int.toNat (min (min c51 (↑(List.length a_.Out):Int)) (↑(List.length b_.Out):Int))) a_.Out) (List.take (Int.toNat (min (min c51 (↑(List.length a_.Out):Int)) (↑(List.length b_.Out):Int))) b_.Out) c54 (fun _ _=>hc54)),?_⟩
 conv=>whnf
 refine Both.mk ?_ ?_<;>intro b55
 obtain ⟨h,b55d⟩:=ctd b55 h
 conv=>whnf
 cases h
 conv=>whnf
 exact ⟨rfl,rfl⟩
 obtain ⟨h,b55d⟩:=cfd b55 h
 conv=>whnf
 cases h
 conv=>whnf
 exact ⟨rfl,rfl⟩
theorem sp_cmp_isNaN_int (x_:Int) (r:Bool) (h:Ok (nI x_)→cmp_isNaN_int x_=some r):Sp Tryz.prog 152 [.im (nI x_)] (.im (nB r)):=by
 refine sp_of rfl [] rfl rfl rfl (Nat.le_of_ble_eq_true rfl) rfl fun hk=>?_
 replace h:=h hk.1
 unfold cmp_isNaN_int at h
 conv=>whnf
 cases h
 conv=>whnf
 exact ⟨rfl,rfl⟩
theorem sp_cmp_Compare_int (x_:Int) (y_:Int) (r:Int) (h:Ok (nI x_)→Ok (nI y_)→cmp_Compare_int x_ y_=some r):Sp Tryz.prog 129 [.im (nI x_),.im (nI y_)] (.im (nI r)):=by
 refine sp_of rfl [] rfl rfl rfl (Nat.le_of_ble_eq_true rfl) rfl fun hk=>?_
 replace h:=h hk.1 hk.2.1
 unfold cmp_Compare_int at h
 conv=>whnf
 obtain ⟨c51,hc51,h⟩:=bind_some h
 refine ⟨_,(sp_cmp_isNaN_int x_ c51 (fun _=>hc51)),?_⟩
 conv=>whnf
 obtain ⟨c52,hc52,h⟩:=bind_some h
 refine ⟨_,(sp_cmp_isNaN_int y_ c52 (fun _=>hc52)),?_⟩
 conv=>whnf
 refine Both.mk ?_ ?_<;>intro b53
 replace h:=cond_t b53 h
 conv=>whnf
 refine Both.mk ?_ ?_<;>intro b54
 replace h:=cond_t b54 h
 conv=>whnf
 cases h
 conv=>whnf
 exact ⟨rfl,rfl⟩
 replace h:=cond_f b54 h
 conv=>whnf
 cases h
 conv=>whnf
 exact ⟨rfl,rfl⟩
 replace h:=cond_f b53 h
 conv=>whnf
 refine Both.mk ?_ ?_<;>intro b55
 replace h:=cond_t b55 h
 conv=>whnf
 cases h
 conv=>whnf
 exact ⟨rfl,rfl⟩
 replace h:=cond_f b55 h
 conv=>whnf
 refine Both.mk ?_ ?_<;>intro b56
 obtain ⟨h,b56d⟩:=ctd b56 h
 conv=>whnf
 cases h
 conv=>whnf
 exact ⟨rfl,rfl⟩
 obtain ⟨h,b56d⟩:=cfd b56 h
 conv=>whnf
 refine Both.mk ?_ ?_<;>intro b57
 obtain ⟨h,b57d⟩:=ctd b57 h
 conv=>whnf
 cases h
 conv=>whnf
 exact ⟨rfl,rfl⟩
 obtain ⟨h,b57d⟩:=cfd b57 h
 conv=>whnf
 cases h
 conv=>whnf
 exact ⟨rfl,rfl⟩
theorem sp_slices_Compare_Sint_int (s1_:List Int) (s2_:List Int) (r:Int) (h:Ok (nL cI s1_)→Ok (nL cI s2_)→slices_Compare_Sint_int s1_ s2_=some r):Sp Tryz.prog 130 [.im (nL cI s1_),.im (nL cI s2_)] (.im (nI r)):=by
 refine sp_of rfl [] rfl rfl rfl (Nat.le_of_ble_eq_true rfl) rfl fun hk=>?_
 replace h:=h hk.1 hk.2.1
 have z1:lZ s1_:=ok_len hk.1
 have z2:lZ s2_:=ok_len hk.2.1
 unfold slices_Compare_Sint_int at h
 conv=>whnf
 refine Nf.mk (List.length s1_) len_map ?_
 conv=>whnf
 obtain ⟨oc,hc,hk51⟩:=bind_some h
 clear h
 have h:=hc
 clear hc
 refine Cut.mkS oc (Y:=Unit) (fun (_:Unit)=>mkSt [(0,.im (nL cI s1_)),(1,.im (nL cI s2_))] [] []) (fun (_:Unit)=>lZ s1_∧lZ s2_∧True) (by rintro ⟨⟩;exact ((Holds.avl 0 rfl).and ((Holds.avl 1 rfl).and (hT)))) ?_ ?_
 conv=>whnf
 refine Loops.iter (fun (s:Nat)=>slices_Compare_Sint_int.s2 s1_ s2_ s) (fun y80=>mkSt [(0,.im (nL cI s1_)),(1,.im (nL cI s2_)),(9,.im (nL cI s1_)),(10,.im (nI (↑(List.length s1_):Int))),(11,.im (nI (↑y80:Int)))] [] []) (fun y80=>lZ s1_∧lZ s2_∧True) h (eA []) (by rintro y80;exact ((Holds.avl 0 rfl).and ((Holds.avl 1 rfl).and (hT)))) ?_
 clear h
 rintro k y80 o hp h ho87
 replace h:slices_Compare_Sint_int.s2 s1_ s2_ y80=some o:=h
 unfold slices_Compare_Sint_int.s2 at h
 obtain ⟨z94,z95,_⟩:=hp
 conv=>whnf
 refine Both.mk ?_ ?_<;>intro b88
 obtain ⟨h,b88d⟩:=ctd b88 h
 conv=>whnf
 obtain ⟨e89,he89,h⟩:=idxn_some h
 refine ⟨_,⟨(by omega),map_at he89,rfl⟩,?_⟩
 conv=>whnf
 refine Nf.mk (List.length s2_) len_map ?_
 conv=>whnf
 refine Both.mk ?_ ?_<;>intro b90
 obtain ⟨h,b90d⟩:=ctd b90 h
 conv=>whnf
 cases h
 have ho87:_=_:=ho87
 cases ho87
 replace h:some _=some _:=hk51
 cases h
 conv=>whnf
 exact ⟨rfl,rfl⟩
 obtain ⟨h,b90d⟩:=cfd b90 h
 conv=>whnf
 obtain ⟨e91,he91,h⟩:=idxn_some h
 refine ⟨_,⟨(by omega),map_at he91,rfl⟩,?_⟩
 conv=>whnf
 obtain ⟨c92,hc92,h⟩:=bind_some h
 refine ⟨_,(sp_cmp_Compare_int e89 e91 c92 (fun _ _=>hc92)),?_⟩
 conv=>whnf
 refine Both.mk ?_ ?_<;>intro b93
 obtain ⟨h,b93d⟩:=ctd b93 h
 conv=>whnf
 cases h
 have ho87:_=_:=ho87
 cases ho87
 replace h:some _=some _:=hk51
 cases h
 conv=>whnf
 exact ⟨rfl,rfl⟩
 obtain ⟨h,b93d⟩:=cfd b93 h
 conv=>whnf
 refine Arith.mk (by show inR _;unfold inR;omega) ?_
 conv=>whnf
 cases h
 exact Nxt.mk _ ho87 (eA [])
 obtain ⟨h,b88d⟩:=cfd b88 h
 conv=>whnf
 cases h
 have ho87:_=_:=ho87
 cases ho87
 exact JoinS.mk' _ rfl (eA [])
 rintro ⟨⟩ rfl hp
 replace h:=sum_inl hk51
 obtain ⟨z96,z97,_⟩:=hp
 conv=>whnf
 refine Nf.mk (List.length s1_) len_map ?_
 conv=>whnf
 refine Nf.mk (List.length s2_) len_map ?_
 conv=>whnf
 refine Both.mk ?_ ?_<;>intro b98
 obtain ⟨h,b98d⟩:=ctd b98 h
 conv=>whnf
 cases h
 conv=>whnf
 exact ⟨rfl,rfl⟩
 obtain ⟨h,b98d⟩:=cfd b98 h
 conv=>whnf
 cases h
 conv=>whnf
 exact ⟨rfl,rfl⟩
theorem sp_word_Lex (a_:List Int) (b_:List Int) (r:Int) (h:Ok (nL cI a_)→Ok (nL cI b_)→word_Lex a_ b_=some r):Sp Tryz.prog 99 [.im (nL cI a_),.im (nL cI b_)] (.im (nI r)):=by
 refine sp_of rfl [] rfl rfl rfl (Nat.le_of_ble_eq_true rfl) rfl fun hk=>?_
 replace h:=h hk.1 hk.2.1
 have z1:lZ a_:=ok_len hk.1
 have z2:lZ b_:=ok_len hk.2.1
 unfold word_Lex at h
 conv=>whnf
 obtain ⟨c51,hc51,h⟩:=bind_some h
 refine ⟨_,(sp_slices_Compare_Sint_int a_ b_ c51 (fun _ _=>hc51)),?_⟩
 conv=>whnf
 cases h
 conv=>whnf
 exact ⟨rfl,rfl⟩
theorem sp_observe_fits (l_:List T_api_Trace) (r:Bool) (h:Ok (nL c_api_Trace l_)→observe_fits l_=some r):Sp Tryz.prog 78 [.im (nL c_api_Trace l_)] (.im (nB r)):=by
 refine sp_of rfl [8000,2008000] rfl rfl rfl (Nat.le_of_ble_eq_true rfl) rfl fun hk=>?_
 replace h:=h hk.1
 have z1:lZ l_:=ok_len hk.1
 unfold observe_fits at h
 conv=>whnf
 obtain ⟨c51,hc51,h⟩:=bind_some h
 refine ⟨_,(sp_lib_Clone_traces l_ c51 (hc51)),?_⟩
 conv=>whnf
 refine Side.mk ⟨rfl,trivial⟩ ?_
 conv=>whnf
 obtain ⟨c52,hc52,h⟩:=bind_some h
 refine ⟨_,(sp_lib_SortFunc_traces c51 (fun u0 u1=>observe_fits_1 u0 u1) 110 cmpE_observe_fits_1 c52 (hc52)),?_⟩
 conv=>whnf
 obtain ⟨oc,hc,hk53⟩:=bind_some h
 clear h
 have h:=hc
 clear hc
 refine Cut.mkS oc (Y:=Unit) (fun (_:Unit)=>mkSt [] [] []) (fun (_:Unit)=>True) (by rintro ⟨⟩;exact (hT)) ?_ ?_
 conv=>whnf
 refine Loops.iter (fun (s:Nat)=>observe_fits.s2 c52 s) (fun i137=>mkSt [(0,.osl 64 1),(3,.im (nI (↑i137:Int)))] [(64,.row 58 2 (List.map c_api_Trace c52))] []) (fun i137=>lZ c52∧True) h (eA [(64,some 5)]) (by rintro i137;exact ((Holds.kdl 64 rfl).and (hT))) ?_
 clear h
 rintro k i137 o hp h ho158
 replace h:observe_fits.s2 c52 i137=some o:=h
 unfold observe_fits.s2 at h
 obtain ⟨z179,_⟩:=hp
 conv=>whnf
 refine Side.mk rfl ?_
 conv=>whnf
 refine Nf.mk (List.length c52) len_map ?_
 conv=>whnf
 refine Both.mk ?_ ?_<;>intro b159
 obtain ⟨h,b159d⟩:=ctd b159 h
 conv=>whnf
 obtain ⟨y169,hc,hk161⟩:=bind_some h
 clear h
 have h:=hc
 clear hc
 refine Cut.mk (mkSt [(0,.osl 64 1),(3,.im (nI (↑i137:Int))),(38,.im (nB y169))] [(64,.row 58 2 (List.map c_api_Trace c52))] []) (lZ c52∧True) ((Holds.kdl 64 rfl).and (hT)) ?_ (fun hp=>?_)
 conv=>whnf
 obtain ⟨e170,he170,h⟩:=idxn_some h
 refine Side.mk ⟨(by omega),rfl,map_lt he170⟩ ?_
 conv=>whnf
 refine Side.mk rfl ?_
 conv=>whnf
 refine ⟨_,_,⟨rfl,map_at he170,rfl,rfl⟩,?_⟩
 conv=>whnf
 refine Arith.mk (by show inR _;unfold inR;omega) ?_
 conv=>whnf
 obtain ⟨e171,he171z,he171,h⟩:=idx_some h
 refine Side.mk ⟨he171z,rfl,map_lt he171⟩ ?_
 conv=>whnf
 refine Side.mk rfl ?_
 conv=>whnf
 refine ⟨_,_,⟨rfl,map_at he171,rfl,rfl⟩,?_⟩
 conv=>whnf
 obtain ⟨c172,hc172,h⟩:=bind_some h
 refine ⟨_,(sp_word_HasPrefix e170.In e171.In c172 (fun _ _=>hc172)),?_⟩
 conv=>whnf
 refine Both.mk ?_ ?_<;>intro b173
 replace b173:=beq_ff b173
 replace h:=cond_f b173 h
 conv=>whnf
 iterate 2 (refine Both.yes (ff_beq b173) ?_;(conv=>whnf))
 refine Arith.mk (by show inR _;unfold inR;omega) ?_
 conv=>whnf
 refine Both.yes (ff_beq b173) ?_
 conv=>whnf
 obtain ⟨e174,he174z,he174,h⟩:=idx_some h
 refine Side.mk ⟨he174z,rfl,map_lt he174⟩ ?_
 conv=>whnf
 refine Both.yes (ff_beq b173) ?_
 conv=>whnf
 refine ⟨_,⟨rfl,map_at he174,of_decide_eq_true rfl,rfl⟩,?_⟩
 conv=>whnf
 iterate 3 (refine Both.yes (ff_beq b173) ?_;(conv=>whnf))
 obtain ⟨e175,he175,h⟩:=idxn_some h
 refine Side.mk ⟨(by omega),rfl,map_lt he175⟩ ?_
 conv=>whnf
 refine Both.yes (ff_beq b173) ?_
 conv=>whnf
 refine ⟨_,⟨rfl,map_at he175,of_decide_eq_true rfl,rfl⟩,?_⟩
 conv=>whnf
 refine Both.yes (ff_beq b173) ?_
 conv=>whnf
 obtain ⟨c176,hc176,h⟩:=bind_some h
 refine ⟨_,(sp_observe_differ e174 e175 c176 (fun _ _=>hc176)),?_⟩
 conv=>whnf
 refine Both.yes (ff_beq b173) ?_
 conv=>whnf
 refine Both.no b173 ?_
 conv=>whnf
 cases h
 exact Join.mk (eA [(64,some 64)])
 replace b173:=beq_ft b173
 replace h:=cond_t b173 h
 conv=>whnf
 iterate 10 (refine Both.no (tf_beq b173) ?_;(conv=>whnf))
 refine Both.yes b173 ?_
 conv=>whnf
 cases h
 exact Join.mk (eA [(64,some 64)])
 replace h:=hk161
 obtain ⟨z177,_⟩:=hp
 conv=>whnf
 refine Both.mk ?_ ?_<;>intro b178
 replace h:=cond_t b178 h
 conv=>whnf
 cases h
 have ho158:_=_:=ho158
 cases ho158
 replace h:some _=some _:=hk53
 cases h
 conv=>whnf
 exact ⟨rfl,rfl⟩
 replace h:=cond_f b178 h
 conv=>whnf
 refine Arith.mk (by show inR _;unfold inR;omega) ?_
 conv=>whnf
 cases h
 exact Nxt.mk _ ho158 (eA [(64,some 64)])
 obtain ⟨h,b159d⟩:=cfd b159 h
 conv=>whnf
 cases h
 have ho158:_=_:=ho158
 cases ho158
 exact JoinS.mk' _ rfl (eA [])
 rintro ⟨⟩ rfl hp
 replace h:=sum_inl hk53
 conv=>whnf
 cases h
 conv=>whnf
 exact ⟨rfl,rfl⟩
theorem sp_observe_proper_1 (o_:Int) (r:Bool) (h:Ok (nI o_)→observe_proper_1 o_=some r):Sp Tryz.prog 107 [.im (nI o_)] (.im (nB r)):=by
 refine sp_of rfl [] rfl rfl rfl (Nat.le_of_ble_eq_true rfl) rfl fun hk=>?_
 replace h:=h hk.1
 unfold observe_proper_1 at h
 conv=>whnf
 obtain ⟨y54,hc,hk52⟩:=bind_some h
 clear h
 have h:=hc
 clear hc
 refine Cut.mk (mkSt [(2,.im (nB y54))] [] []) (True) (hT) ?_ (fun hp=>?_)
 conv=>whnf
 refine Both.mk ?_ ?_<;>intro b55
 replace b55:=beq_ff b55
 obtain ⟨h,b55d⟩:=cfd b55 h
 conv=>whnf
 refine Both.yes (ff_beq b55) ?_
 conv=>whnf
 refine Both.no b55 ?_
 conv=>whnf
 cases h
 exact Join.mk (eA [])
 replace b55:=beq_ft b55
 obtain ⟨h,b55d⟩:=ctd b55 h
 conv=>whnf
 refine Both.no (tf_beq b55) ?_
 conv=>whnf
 refine Both.yes b55 ?_
 conv=>whnf
 cases h
 exact Join.mk (eA [])
 replace h:=hk52
 conv=>whnf
 cases h
 conv=>whnf
 exact ⟨rfl,rfl⟩
theorem sp_observe_proper (t_:T_api_Trace) (inputs_:Int) (r:Int) (h:Ok (.agg (c_api_Trace t_))→Ok (nI inputs_)→observe_proper t_ inputs_=some r):Sp Tryz.prog 76 [.im (.agg (c_api_Trace t_)),.im (nI inputs_)] (.im (nI r)):=by
 refine sp_of rfl [700002] rfl rfl rfl (Nat.le_of_ble_eq_true rfl) rfl fun hk=>?_
 replace h:=h hk.1 hk.2.1
 have z1:lZ t_.In:=ok_len (Ok.agg_at hk.1 0 rfl)
 have z2:lZ t_.Out:=ok_len (Ok.agg_at hk.1 1 rfl)
 unfold observe_proper at h
 conv=>whnf
 obtain ⟨c51,hc51,h⟩:=bind_some h
 refine ⟨_,(sp_word_Check t_.In inputs_ c51 (fun _ _=>hc51)),?_⟩
 conv=>whnf
 refine Both.mk ?_ ?_<;>intro b52
 obtain ⟨h,b52d⟩:=ctd b52 h
 conv=>whnf
 cases h
 conv=>whnf
 exact ⟨rfl,rfl⟩
 obtain ⟨h,b52d⟩:=cfd b52 h
 conv=>whnf
 refine Nf.mk (List.length t_.Out) len_map ?_
 conv=>whnf
 refine Nf.mk (List.length t_.In) len_map ?_
 conv=>whnf
 refine Both.mk ?_ ?_<;>intro b53
 obtain ⟨h,b53d⟩:=ctd b53 h
 conv=>whnf
 cases h
 conv=>whnf
 exact ⟨rfl,rfl⟩
 obtain ⟨h,b53d⟩:=cfd b53 h
 conv=>whnf
 obtain ⟨c54,hc54,h⟩:=bind_some h
 refine ⟨_,(sp_slices_ContainsFunc_Sint_int t_.Out (fun u0=>observe_proper_1 u0) 107 (fun u0 r h=>(sp_observe_proper_1 u0 r (fun _=>h))) c54 (fun _ _=>hc54)),?_⟩
 conv=>whnf
 refine Both.mk ?_ ?_<;>intro b55
 replace h:=cond_t b55 h
 conv=>whnf
 cases h
 conv=>whnf
 exact ⟨rfl,rfl⟩
 replace h:=cond_f b55 h
 conv=>whnf
 cases h
 conv=>whnf
 exact ⟨rfl,rfl⟩
theorem sp_cmp_Or_int (vals_:List Int) (r:Int) (h:Ok (nL cI vals_)→cmp_Or_int vals_=some r):Sp Tryz.prog 128 [.im (nL cI vals_)] (.im (nI r)):=by
 refine sp_of rfl [] rfl rfl rfl (Nat.le_of_ble_eq_true rfl) rfl fun hk=>?_
 replace h:=h hk.1
 have z1:lZ vals_:=ok_len hk.1
 unfold cmp_Or_int at h
 conv=>whnf
 refine Nf.mk (List.length vals_) len_map ?_
 conv=>whnf
 obtain ⟨oc,hc,hk51⟩:=bind_some h
 clear h
 have h:=hc
 clear hc
 refine Cut.mkS oc (Y:=Unit) (fun (_:Unit)=>mkSt [(3,.im (nI 0))] [] []) (fun (_:Unit)=>True) (by rintro ⟨⟩;exact (hT)) ?_ ?_
 conv=>whnf
 refine Loops.iter (fun (s:Nat)=>cmp_Or_int.s2 vals_ s) (fun y67=>mkSt [(3,.im (nI 0)),(6,.im (nL cI vals_)),(7,.im (nI (↑(List.length vals_):Int))),(8,.im (nI (↑y67:Int)))] [] []) (fun y67=>lZ vals_∧True) h (eA []) (by rintro y67;exact ((Holds.avl 6 rfl).and (hT))) ?_
 clear h
 rintro k y67 o hp h ho71
 replace h:cmp_Or_int.s2 vals_ y67=some o:=h
 unfold cmp_Or_int.s2 at h
 obtain ⟨z75,_⟩:=hp
 conv=>whnf
 refine Both.mk ?_ ?_<;>intro b72
 obtain ⟨h,b72d⟩:=ctd b72 h
 conv=>whnf
 obtain ⟨e73,he73,h⟩:=idxn_some h
 refine ⟨_,⟨(by omega),map_at he73,rfl⟩,?_⟩
 conv=>whnf
 refine Both.mk ?_ ?_<;>intro b74
 obtain ⟨h,b74d⟩:=ctd b74 h
 conv=>whnf
 cases h
 have ho71:_=_:=ho71
 cases ho71
 replace h:some _=some _:=hk51
 cases h
 conv=>whnf
 exact ⟨rfl,rfl⟩
 obtain ⟨h,b74d⟩:=cfd b74 h
 conv=>whnf
 refine Arith.mk (by show inR _;unfold inR;omega) ?_
 conv=>whnf
 cases h
 exact Nxt.mk _ ho71 (eA [])
 obtain ⟨h,b72d⟩:=cfd b72 h
 conv=>whnf
 cases h
 have ho71:_=_:=ho71
 cases ho71
 exact JoinS.mk' _ rfl (eA [])
 rintro ⟨⟩ rfl hp
 replace h:=sum_inl hk51
 conv=>whnf
 cases h
 conv=>whnf
 exact ⟨rfl,rfl⟩
theorem sp_word_Compare (a_:List Int) (b_:List Int) (r:Int) (h:Ok (nL cI a_)→Ok (nL cI b_)→word_Compare a_ b_=some r):Sp Tryz.prog 96 [.im (nL cI a_),.im (nL cI b_)] (.im (nI r)):=by
 refine sp_of rfl [] rfl rfl rfl (Nat.le_of_ble_eq_true rfl) rfl fun hk=>?_
 replace h:=h hk.1 hk.2.1
 have z1:lZ a_:=ok_len hk.1
 have z2:lZ b_:=ok_len hk.2.1
 unfold word_Compare at h
 conv=>whnf
 refine Nf.mk (List.length a_) len_map ?_
 conv=>whnf
 refine Nf.mk (List.length b_) len_map ?_
 conv=>whnf
 obtain ⟨c51,hc51,h⟩:=bind_some h
 refine ⟨_,(sp_cmp_Compare_int (↑(List.length a_):Int) (↑(List.length b_):Int) c51 (fun _ _=>hc51)),?_⟩
 conv=>whnf
 obtain ⟨c52,hc52,h⟩:=bind_some h
 refine ⟨_,(sp_slices_Compare_Sint_int a_ b_ c52 (fun _ _=>hc52)),?_⟩
 conv=>whnf
 obtain ⟨c53,hc53,h⟩:=bind_some h
 refine ⟨_,(sp_cmp_Or_int [c51,c52] c53 (fun _=>hc53)),?_⟩
 conv=>whnf
 cases h
 conv=>whnf
 exact ⟨rfl,rfl⟩
theorem sp_observe_order (a_:T_api_Trace) (b_:T_api_Trace) (r:Int) (h:Ok (.agg (c_api_Trace a_))→Ok (.agg (c_api_Trace b_))→observe_order a_ b_=some r):Sp Tryz.prog 77 [.im (.agg (c_api_Trace a_)),.im (.agg (c_api_Trace b_))] (.im (nI r)):=by
 refine sp_of rfl [700002,700003] rfl rfl rfl (Nat.le_of_ble_eq_true rfl) rfl fun hk=>?_
 replace h:=h hk.1 hk.2.1
 have z1:lZ a_.In:=ok_len (Ok.agg_at hk.1 0 rfl)
 have z2:lZ a_.Out:=ok_len (Ok.agg_at hk.1 1 rfl)
 have z3:lZ b_.In:=ok_len (Ok.agg_at hk.2.1 0 rfl)
 have z4:lZ b_.Out:=ok_len (Ok.agg_at hk.2.1 1 rfl)
 unfold observe_order at h
 conv=>whnf
 obtain ⟨c51,hc51,h⟩:=bind_some h
 refine ⟨_,(sp_word_Compare a_.In b_.In c51 (fun _ _=>hc51)),?_⟩
 conv=>whnf
 cases h
 conv=>whnf
 exact ⟨rfl,rfl⟩
theorem sp_observe_Valid_1 (u_:T_api_Trace) (p1_:T_api_Trace) (r:Bool) (h:Ok (.agg (c_api_Trace u_))→Ok (.ref (c_api_Trace p1_))→observe_Valid_1 u_ p1_=some r):Sp Tryz.prog 80 [.im (.agg (c_api_Trace u_)),.im (.ref (c_api_Trace p1_))] (.im (nB r)):=by
 refine sp_of rfl [700002] rfl rfl rfl (Nat.le_of_ble_eq_true rfl) rfl fun hk=>?_
 replace h:=h hk.1 hk.2.1
 have z1:lZ u_.In:=ok_len (Ok.agg_at hk.1 0 rfl)
 have z2:lZ u_.Out:=ok_len (Ok.agg_at hk.1 1 rfl)
 have z3:lZ p1_.In:=ok_len (Ok.ref_at hk.2.1 0 rfl)
 have z4:lZ p1_.Out:=ok_len (Ok.ref_at hk.2.1 1 rfl)
 unfold observe_Valid_1 at h
 conv=>whnf
 obtain ⟨c51,hc51,h⟩:=bind_some h
 refine ⟨_,(sp_word_HasPrefix u_.In p1_.In c51 (fun _ _=>hc51)),?_⟩
 conv=>whnf
 cases h
 conv=>whnf
 exact ⟨rfl,rfl⟩
theorem sp_observe_Valid_2 (u_:T_api_Trace) (p1_:T_api_Trace) (r:Bool) (h:Ok (.agg (c_api_Trace u_))→Ok (.ref (c_api_Trace p1_))→observe_Valid_2 u_ p1_=some r):Sp Tryz.prog 82 [.im (.agg (c_api_Trace u_)),.im (.ref (c_api_Trace p1_))] (.im (nB r)):=by
 refine sp_of rfl [700002] rfl rfl rfl (Nat.le_of_ble_eq_true rfl) rfl fun hk=>?_
 replace h:=h hk.1 hk.2.1
 have z1:lZ u_.In:=ok_len (Ok.agg_at hk.1 0 rfl)
 have z2:lZ u_.Out:=ok_len (Ok.agg_at hk.1 1 rfl)
 have z3:lZ p1_.In:=ok_len (Ok.ref_at hk.2.1 0 rfl)
 have z4:lZ p1_.Out:=ok_len (Ok.ref_at hk.2.1 1 rfl)
 unfold observe_Valid_2 at h
 conv=>whnf
 obtain ⟨c51,hc51,h⟩:=bind_some h
 refine ⟨_,(sp_observe_differ p1_ u_ c51 (fun _ _=>hc51)),?_⟩
 conv=>whnf
 cases h
 conv=>whnf
 exact ⟨rfl,rfl⟩
theorem sp_slices_IndexFunc_Sapi_Trace_api_Trace_n1 (s_:List T_api_Trace) (f_:T_api_Trace→Option Bool) (f1_:FuncId) (k1_0:IV) (hk1_0:nz k1_0=k1_0) (hf1:∀ x0 r,f_ x0=some r→Sp Tryz.prog f1_ [.im (.agg (c_api_Trace x0)),.im k1_0] (.im (nB r))) (r:Int) (h:Ok (nL c_api_Trace s_)→Ok (.fn f1_ [k1_0])→slices_IndexFunc_Sapi_Trace_api_Trace_n1 s_ f_=some r):Sp Tryz.prog 111 [.im (nL c_api_Trace s_),.im (.fn f1_ [k1_0])] (.im (nI r)):=by
 refine sp_of rfl [] rfl rfl rfl (Nat.le_of_ble_eq_true rfl) rfl fun hk=>?_
 replace h:=h hk.1 hk.2.1
 have z1:lZ s_:=ok_len hk.1
 unfold slices_IndexFunc_Sapi_Trace_api_Trace_n1 at h
 conv=>whnf
 refine Nf.mk (List.length s_) len_map ?_
 conv=>whnf
 obtain ⟨oc,hc,hk51⟩:=bind_some h
 clear h
 have h:=hc
 clear hc
 refine Cut.mkS oc (Y:=Unit) (fun (_:Unit)=>mkSt [] [] []) (fun (_:Unit)=>True) (by rintro ⟨⟩;exact (hT)) ?_ ?_
 conv=>whnf
 refine Loops.iter (fun (s:Nat)=>slices_IndexFunc_Sapi_Trace_api_Trace_n1.s2 s_ f_ s) (fun y71=>mkSt [(0,.im (nL c_api_Trace s_)),(1,.im (.fn f1_ [k1_0])),(7,.im (nI (↑(List.length s_):Int))),(8,.im (nI (↑y71:Int)))] [] []) (fun y71=>lZ s_∧True) h (eA []) (by rintro y71;exact ((Holds.avl 0 rfl).and (hT))) ?_
 clear h
 rintro k y71 o hp h ho76
 replace h:slices_IndexFunc_Sapi_Trace_api_Trace_n1.s2 s_ f_ y71=some o:=h
 unfold slices_IndexFunc_Sapi_Trace_api_Trace_n1.s2 at h
 obtain ⟨z81,_⟩:=hp
 conv=>whnf
 refine Both.mk ?_ ?_<;>intro b77
 obtain ⟨h,b77d⟩:=ctd b77 h
 conv=>whnf
 obtain ⟨e78,he78,h⟩:=idxn_some h
 refine ⟨_,⟨(by omega),map_at he78,rfl⟩,?_⟩
 conv=>whnf
 obtain ⟨c79,hc79,h⟩:=bind_some h
 refine ⟨_,Sp.args (hf1 e78 c79 hc79) (by rw [hk1_0];try rfl),?_⟩
 conv=>whnf
 refine Both.mk ?_ ?_<;>intro b80
 replace h:=cond_t b80 h
 conv=>whnf
 cases h
 have ho76:_=_:=ho76
 cases ho76
 replace h:some _=some _:=hk51
 cases h
 conv=>whnf
 exact ⟨rfl,rfl⟩
 replace h:=cond_f b80 h
 conv=>whnf
 refine Arith.mk (by show inR _;unfold inR;omega) ?_
 conv=>whnf
 cases h
 exact Nxt.mk _ ho76 (eA [])
 obtain ⟨h,b77d⟩:=cfd b77 h
 conv=>whnf
 cases h
 have ho76:_=_:=ho76
 cases ho76
 exact JoinS.mk' _ rfl (eA [])
 rintro ⟨⟩ rfl hp
 replace h:=sum_inl hk51
 conv=>whnf
 cases h
 conv=>whnf
 exact ⟨rfl,rfl⟩
theorem sp_slices_ContainsFunc_Sapi_Trace_api_Trace_n1 (s_:List T_api_Trace) (f_:T_api_Trace→Option Bool) (f1_:FuncId) (k1_0:IV) (hk1_0:nz k1_0=k1_0) (hf1:∀ x0 r,f_ x0=some r→Sp Tryz.prog f1_ [.im (.agg (c_api_Trace x0)),.im k1_0] (.im (nB r))) (r:Bool) (h:Ok (nL c_api_Trace s_)→Ok (.fn f1_ [k1_0])→slices_ContainsFunc_Sapi_Trace_api_Trace_n1 s_ f_=some r):Sp Tryz.prog 79 [.im (nL c_api_Trace s_),.im (.fn f1_ [k1_0])] (.im (nB r)):=by
 refine sp_of rfl [] rfl rfl rfl (Nat.le_of_ble_eq_true rfl) rfl fun hk=>?_
 replace h:=h hk.1 hk.2.1
 have z1:lZ s_:=ok_len hk.1
 unfold slices_ContainsFunc_Sapi_Trace_api_Trace_n1 at h
 conv=>whnf
 obtain ⟨c51,hc51,h⟩:=bind_some h
 refine ⟨_,(sp_slices_IndexFunc_Sapi_Trace_api_Trace_n1 s_ f_ f1_ k1_0 hk1_0 hf1 c51 (fun _ _=>hc51)),?_⟩
 conv=>whnf
 cases h
 conv=>whnf
 exact ⟨rfl,rfl⟩
theorem sp_observe_Valid (o_:T_api_Obs) (r:Int) (h:Ok (.agg (c_api_Obs o_))→observe_Valid o_=some r):Sp Tryz.prog 43 [.im (.agg (c_api_Obs o_))] (.im (nI r)):=by
 refine sp_of rfl [700001,800008] rfl rfl rfl (Nat.le_of_ble_eq_true rfl) rfl fun hk=>?_
 replace h:=h hk.1
 have z1:lZ o_.Traces:=ok_len (Ok.agg_at hk.1 1 rfl)
 unfold observe_Valid at h
 conv=>whnf
 obtain ⟨y54,hc,hk52⟩:=bind_some h
 clear h
 have h:=hc
 clear hc
 refine Cut.mk (mkSt [(1,.im (.ref (c_api_Obs o_))),(17,.im (nB y54))] [] []) (True) (hT) ?_ (fun hp=>?_)
 conv=>whnf
 refine Both.mk ?_ ?_<;>intro b55
 replace b55:=beq_ff b55
 obtain ⟨h,b55d⟩:=cfd b55 h
 conv=>whnf
 iterate 2 (refine Both.yes (ff_beq b55) ?_;(conv=>whnf))
 refine Both.no b55 ?_
 conv=>whnf
 cases h
 exact Join.mk (eA [])
 replace b55:=beq_ft b55
 obtain ⟨h,b55d⟩:=ctd b55 h
 conv=>whnf
 iterate 2 (refine Both.no (tf_beq b55) ?_;(conv=>whnf))
 refine Both.yes b55 ?_
 conv=>whnf
 cases h
 exact Join.mk (eA [])
 replace h:=hk52
 conv=>whnf
 refine Both.mk ?_ ?_<;>intro b56
 replace h:=cond_t b56 h
 conv=>whnf
 cases h
 conv=>whnf
 exact ⟨rfl,rfl⟩
 replace h:=cond_f b56 h
 conv=>whnf
 refine Nf.mk (List.length o_.Traces) len_map ?_
 conv=>whnf
 refine Both.mk ?_ ?_<;>intro b57
 obtain ⟨h,b57d⟩:=ctd b57 h
 conv=>whnf
 cases h
 conv=>whnf
 exact ⟨rfl,rfl⟩
 obtain ⟨h,b57d⟩:=cfd b57 h
 conv=>whnf
 refine Nf.mk (List.length o_.Traces) len_map ?_
 conv=>whnf
 obtain ⟨oc,hc,hk58⟩:=bind_some h
 clear h
 have h:=hc
 clear hc
 refine Cut.mkS oc (Y:=Unit) (fun (_:Unit)=>mkSt [(1,.im (.ref (c_api_Obs o_)))] [] []) (fun (_:Unit)=>True) (by rintro ⟨⟩;exact (hT)) ?_ ?_
 conv=>whnf
 refine Loops.iter (fun (s:Nat)=>observe_Valid.s2 o_ s) (fun y134=>mkSt [(1,.im (.ref (c_api_Obs o_))),(23,.im (nL c_api_Trace o_.Traces)),(24,.im (nI (↑(List.length o_.Traces):Int))),(25,.im (nI (↑y134:Int)))] [] []) (fun y134=>lZ o_.Traces∧True) h (eA []) (by rintro y134;exact ((Holds.avl 23 rfl).and (hT))) ?_
 clear h
 rintro k y134 o hp h ho153
 replace h:observe_Valid.s2 o_ y134=some o:=h
 unfold observe_Valid.s2 at h
 obtain ⟨z172,_⟩:=hp
 conv=>whnf
 refine Both.mk ?_ ?_<;>intro b154
 obtain ⟨h,b154d⟩:=ctd b154 h
 conv=>whnf
 obtain ⟨e155,he155,h⟩:=idxn_some h
 refine ⟨_,⟨(by omega),map_at he155,rfl⟩,?_⟩
 conv=>whnf
 refine Side.mk rfl ?_
 conv=>whnf
 refine Side.mk rfl ?_
 conv=>whnf
 refine Side.mk rfl ?_
 conv=>whnf
 obtain ⟨c156,hc156,h⟩:=bind_some h
 refine ⟨_,(sp_word_Check e155.In o_.Inputs c156 (fun _ _=>hc156)),?_⟩
 conv=>whnf
 refine Both.mk ?_ ?_<;>intro b157
 obtain ⟨h,b157d⟩:=ctd b157 h
 conv=>whnf
 cases h
 have ho153:_=_:=ho153
 cases ho153
 replace h:some _=some _:=hk58
 cases h
 conv=>whnf
 exact ⟨rfl,rfl⟩
 obtain ⟨h,b157d⟩:=cfd b157 h
 conv=>whnf
 refine Side.mk rfl ?_
 conv=>whnf
 refine Side.mk rfl ?_
 conv=>whnf
 refine Nf.mk (List.length e155.In) len_map ?_
 conv=>whnf
 refine Both.mk ?_ ?_<;>intro b158
 obtain ⟨h,b158d⟩:=ctd b158 h
 conv=>whnf
 cases h
 have ho153:_=_:=ho153
 cases ho153
 replace h:some _=some _:=hk58
 cases h
 conv=>whnf
 exact ⟨rfl,rfl⟩
 obtain ⟨h,b158d⟩:=cfd b158 h
 conv=>whnf
 refine Side.mk rfl ?_
 conv=>whnf
 obtain ⟨c159,hc159,h⟩:=bind_some h
 refine ⟨_,(sp_observe_proper e155 o_.Inputs c159 (fun _ _=>hc159)),?_⟩
 conv=>whnf
 refine Both.mk ?_ ?_<;>intro b160
 obtain ⟨h,b160d⟩:=ctd b160 h
 conv=>whnf
 cases h
 have ho153:_=_:=ho153
 cases ho153
 replace h:some _=some _:=hk58
 cases h
 conv=>whnf
 exact ⟨rfl,rfl⟩
 obtain ⟨h,b160d⟩:=cfd b160 h
 conv=>whnf
 obtain ⟨y166,hc,hk162⟩:=bind_some h
 clear h
 have h:=hc
 clear hc
 refine Cut.mk (mkSt [(1,.im (.ref (c_api_Obs o_))),(23,.im (nL c_api_Trace o_.Traces)),(24,.im (nI (↑(List.length o_.Traces):Int))),(25,.im (nI (↑y134:Int))),(61,.im (nB y166))] [] []) (lZ o_.Traces∧True) ((Holds.avl 23 rfl).and (hT)) ?_ (fun hp=>?_)
 conv=>whnf
 refine Both.mk ?_ ?_<;>intro b167
 replace b167:=beq_tt b167
 obtain ⟨h,b167d⟩:=ctd b167 h
 conv=>whnf
 iterate 3 (refine Both.yes (tt_beq b167) ?_;(conv=>whnf))
 refine Arith.mk (by show inR _;unfold inR;omega) ?_
 conv=>whnf
 refine Both.yes (tt_beq b167) ?_
 conv=>whnf
 obtain ⟨e168,he168z,he168,h⟩:=idx_some h
 refine ⟨_,⟨he168z,map_at he168,rfl⟩,?_⟩
 conv=>whnf
 iterate 2 (refine Both.yes (tt_beq b167) ?_;(conv=>whnf))
 refine Side.mk rfl ?_
 conv=>whnf
 refine Both.yes (tt_beq b167) ?_
 conv=>whnf
 obtain ⟨c169,hc169,h⟩:=bind_some h
 refine ⟨_,(sp_observe_order e168 e155 c169 (fun _ _=>hc169)),?_⟩
 conv=>whnf
 refine Both.yes (tt_beq b167) ?_
 conv=>whnf
 refine Both.yes b167 ?_
 conv=>whnf
 cases h
 exact Join.mk (eA [])
 replace b167:=beq_tf b167
 obtain ⟨h,b167d⟩:=cfd b167 h
 conv=>whnf
 iterate 8 (refine Both.no (ft_beq b167) ?_;(conv=>whnf))
 refine Both.no b167 ?_
 conv=>whnf
 cases h
 exact Join.mk (eA [])
 replace h:=hk162
 obtain ⟨z170,_⟩:=hp
 conv=>whnf
 refine Both.mk ?_ ?_<;>intro b171
 replace h:=cond_t b171 h
 conv=>whnf
 cases h
 have ho153:_=_:=ho153
 cases ho153
 replace h:some _=some _:=hk58
 cases h
 conv=>whnf
 exact ⟨rfl,rfl⟩
 replace h:=cond_f b171 h
 conv=>whnf
 refine Arith.mk (by show inR _;unfold inR;omega) ?_
 conv=>whnf
 cases h
 exact Nxt.mk _ ho153 (eA [])
 obtain ⟨h,b154d⟩:=cfd b154 h
 conv=>whnf
 cases h
 have ho153:_=_:=ho153
 cases ho153
 exact JoinS.mk' _ rfl (eA [])
 rintro ⟨⟩ rfl hp
 replace h:=sum_inl hk58
 conv=>whnf
 obtain ⟨c173,hc173,h⟩:=bind_some h
 refine ⟨_,(sp_observe_fits o_.Traces c173 (fun _=>hc173)),?_⟩
 conv=>whnf
 refine Both.mk ?_ ?_<;>intro b174
 replace h:=cond_t b174 h
 conv=>whnf
 cases h
 conv=>whnf
 exact ⟨rfl,rfl⟩
 replace h:=cond_f b174 h
 conv=>whnf
 refine Nf.mk (List.length o_.Traces) len_map ?_
 conv=>whnf
 obtain ⟨oc,hc,hk175⟩:=bind_some h
 clear h
 have h:=hc
 clear hc
 refine Cut.mkS oc (Y:=Unit) (fun (_:Unit)=>mkSt [] [] []) (fun (_:Unit)=>True) (by rintro ⟨⟩;exact (hT)) ?_ ?_
 conv=>whnf
 refine Loops.iter (fun (s:Nat)=>observe_Valid.s4 o_ s) (fun y207=>mkSt [(1,.im (.ref (c_api_Obs o_))),(67,.im (nL c_api_Trace o_.Traces)),(68,.im (nI (↑(List.length o_.Traces):Int))),(69,.im (nI (↑y207:Int)))] [] []) (fun y207=>lZ o_.Traces∧True) h (eA []) (by rintro y207;exact ((Holds.avl 67 rfl).and (hT))) ?_
 clear h
 rintro k y207 o hp h ho215
 replace h:observe_Valid.s4 o_ y207=some o:=h
 unfold observe_Valid.s4 at h
 obtain ⟨z223,_⟩:=hp
 conv=>whnf
 refine Both.mk ?_ ?_<;>intro b216
 obtain ⟨h,b216d⟩:=ctd b216 h
 conv=>whnf
 obtain ⟨e217,he217,h⟩:=idxn_some h
 refine ⟨_,⟨(by omega),map_at he217,rfl⟩,?_⟩
 conv=>whnf
 refine Side.mk rfl ?_
 conv=>whnf
 refine Arith.mk (by show inR _;unfold inR;omega) ?_
 conv=>whnf
 obtain ⟨c218,h⟩:=chk_some h
 refine Side.mk (show (0:Int)≤((↑y207:Int)+1)∧((↑y207:Int)+1)≤(↑(List.length (List.map c_api_Trace o_.Traces)):Int)∧(↑(List.length (List.map c_api_Trace o_.Traces)):Int)≤(↑(List.length (List.map c_api_Trace o_.Traces)):Int)∧(∀ e∈List.map c_api_Trace o_.Traces,List.length e=2) from ⟨by omega,by first | omega | (simp only [List.length_map];omega),by first | omega | (simp only [List.length_map];omega),map_len fun _=>rfl⟩) ?_
 conv=>whnf
 refine Nf.mk (List.map c_api_Trace (List.drop (y207+1) o_.Traces)) drop_map ?_
 conv=>whnf
 refine Side.mk ⟨rfl,trivial⟩ ?_
 conv=>whnf
 obtain ⟨c219,hc219,h⟩:=bind_some h
 refine ⟨_,(sp_slices_ContainsFunc_Sapi_Trace_api_Trace_n1 (List.drop (y207+1) o_.Traces) (fun u0=>observe_Valid_1 u0 e217) 80 (.ref (c_api_Trace e217)) rfl (fun u0 r h=>(sp_observe_Valid_1 u0 e217 r (fun _ _=>h))) c219 (fun _ _=>hc219)),?_⟩
 conv=>whnf
 refine Both.mk ?_ ?_<;>intro b220
 replace h:=cond_t b220 h
 conv=>whnf
 cases h
 have ho215:_=_:=ho215
 cases ho215
 replace h:some _=some _:=hk175
 cases h
 conv=>whnf
 exact ⟨rfl,rfl⟩
 replace h:=cond_f b220 h
 conv=>whnf
 obtain ⟨c221,hc221,h⟩:=bind_some h
 refine ⟨_,(sp_slices_ContainsFunc_Sapi_Trace_api_Trace_n1 (List.drop (y207+1) o_.Traces) (fun u0=>observe_Valid_2 u0 e217) 82 (.ref (c_api_Trace e217)) rfl (fun u0 r h=>(sp_observe_Valid_2 u0 e217 r (fun _ _=>h))) c221 (fun _ _=>hc221)),?_⟩
 conv=>whnf
 refine Both.mk ?_ ?_<;>intro b222
 replace h:=cond_t b222 h
 conv=>whnf
 cases h
 have ho215:_=_:=ho215
 cases ho215
 replace h:some _=some _:=hk175
 cases h
 conv=>whnf
 exact ⟨rfl,rfl⟩
 replace h:=cond_f b222 h
 conv=>whnf
 refine Arith.mk (by show inR _;unfold inR;omega) ?_
 conv=>whnf
 cases h
 exact Nxt.mk _ ho215 (eA [])
 obtain ⟨h,b216d⟩:=cfd b216 h
 conv=>whnf
 cases h
 have ho215:_=_:=ho215
 cases ho215
 exact JoinS.mk' _ rfl (eA [])
 rintro ⟨⟩ rfl hp
 replace h:=sum_inl hk175
 conv=>whnf
 cases h
 conv=>whnf
 exact ⟨rfl,rfl⟩
theorem sp_merge_row (inputs_:Int) (r:List Int) (h:Ok (nI inputs_)→merge_row inputs_=some r):Sp Tryz.prog 44 [.im (nI inputs_)] (.row 3 1 (List.map cI r)):=by
 refine sp_of rfl [] rfl rfl rfl (Nat.le_of_ble_eq_true rfl) rfl fun hk=>?_
 replace h:=h hk.1
 unfold merge_row at h
 conv=>whnf
 obtain ⟨c51,h⟩:=chk_some h
 refine Side.mk c51 ?_
 conv=>whnf
 refine Nf.mk (List.map cI (List.replicate (Int.toNat inputs_) (0:Int))) (rep_map (c:=cI) (z:=0) (n:=(Int.toNat inputs_)) rfl rfl) ?_
 conv=>whnf
 refine Side.mk rfl ?_
 conv=>whnf
 refine Nf.mk (List.length (List.replicate (Int.toNat inputs_) (0:Int))) len_map ?_
 conv=>whnf
 obtain ⟨y65,hc,hk52⟩:=bind_some h
 clear h
 have h:=hc
 clear hc
 refine Cut.mk (mkSt [(3,.osl 64 1)] [(64,.row 3 1 (List.map cI y65))] []) (lZ y65∧True) ((Holds.kdl 64 rfl).and (hT)) ?_ (fun hp=>?_)
 conv=>whnf
 refine Loops.iter (fun (s:List Int×Nat)=>merge_row.s2 inputs_ s.1 s.2) (fun (y68,y69)=>mkSt [(3,.osl 64 1),(8,.im (nI (↑(List.length (List.replicate (Int.toNat inputs_) (0:Int))):Int))),(9,.im (nI (↑y69:Int)))] [(64,.row 3 1 (List.map cI y68))] []) (fun (y68,y69)=>lZ y68∧True) h (eA [(64,some 6)]) (by rintro ⟨y68,y69⟩;exact ((Holds.kdl 64 rfl).and (hT))) ?_
 clear h
 rintro k ⟨y68,y69⟩ o hp h ho73
 replace h:merge_row.s2 inputs_ y68 y69=some o:=h
 unfold merge_row.s2 at h
 obtain ⟨z77,_⟩:=hp
 conv=>whnf
 refine Both.mk ?_ ?_<;>intro b74
 obtain ⟨h,b74d⟩:=ctd b74 h
 conv=>whnf
 obtain ⟨e75,he75,h⟩:=idxn_some h
 refine Side.mk ⟨(by omega),rfl,map_lt he75⟩ ?_
 conv=>whnf
 refine Side.mk ⟨rfl,trivial⟩ ?_
 conv=>whnf
 refine ⟨_,map_at he75,?_⟩
 conv=>whnf
 refine Nf.mk (List.map cI (List.set y68 y69 (-1:Int))) (set_map rfl) ?_
 conv=>whnf
 obtain ⟨c76,h⟩:=chk_some h
 refine Arith.mk c76 ?_
 conv=>whnf
 cases h
 exact Nxt.mk _ ho73 (eA [(64,some 64)])
 obtain ⟨h,b74d⟩:=cfd b74 h
 conv=>whnf
 cases h
 have ho73:_=_:=ho73
 cases ho73
 exact Join.mk (eA [(64,some 64)])
 replace h:=hk52
 obtain ⟨z78,_⟩:=hp
 conv=>whnf
 cases h
 conv=>whnf
 exact Side.mk ⟨rfl,trivial⟩ ⟨rfl,rfl⟩
theorem sp_merge_renumbered (p_:T_api_Part) (r:T_api_Part×List Int) (h:Ok (.agg (c_api_Part p_))→merge_renumbered p_=some r):Sp Tryz.prog 45 [.im (.agg (c_api_Part p_))] (.tup [.agg (c_api_Part r.1),nL cI r.2]):=by
 refine sp_of rfl [26,700001] rfl rfl rfl (Nat.le_of_ble_eq_true rfl) rfl fun hk=>?_
 replace h:=h hk.1
 have z1:lZ p_.Next:=ok_len (Ok.agg_at hk.1 2 rfl)
 have z2:lZ p_.Out:=ok_len (Ok.agg_at hk.1 3 rfl)
 unfold merge_renumbered at h
 conv=>whnf
 refine Nf.mk (List.length p_.Next) len_map ?_
 conv=>whnf
 obtain ⟨c51,hc51,h⟩:=bind_some h
 refine ⟨_,(sp_merge_row (↑(List.length p_.Next):Int) c51 (fun _=>hc51)),?_⟩
 conv=>whnf
 obtain ⟨e52,he52z,he52,h⟩:=idx_some h
 refine Side.mk ⟨he52z,rfl,map_lt he52⟩ ?_
 conv=>whnf
 refine Side.mk ⟨rfl,trivial⟩ ?_
 conv=>whnf
 refine ⟨_,map_at he52,?_⟩
 conv=>whnf
 refine Nf.mk (List.map cI (List.set c51 p_.Start.toNat 0)) (set_map rfl) ?_
 conv=>whnf
 obtain ⟨⟨y396,y397⟩,hc,hk53⟩:=bind_some h
 clear h
 have h:=hc
 clear hc
 refine Cut.mk (mkSt [(1,.im (.ref (c_api_Part p_))),(2,.own 127 1 0),(4,.osl 128 1),(5,.osl 129 1)] [(127,.box 24 4),(128,.row 3 1 (List.map cI y396)),(129,.row 3 1 (List.map cI y397))] [(127,0,.im (nI 0)),(127,1,.im (nI 0)),(127,2,.im (.val (.slice none 0 0))),(127,3,.im (.val (.slice none 0 0)))]) (lZ y396∧lZ y397∧True) ((Holds.kdl 128 rfl).and ((Holds.kdl 129 rfl).and (hT))) ?_ (fun hp=>?_)
 conv=>whnf
 refine Loops.iter (fun (s:List Int×List Int×Nat)=>merge_renumbered.s20 p_ s.1 s.2.1 s.2.2) (fun (y510,y511,i512)=>mkSt [(1,.im (.ref (c_api_Part p_))),(2,.own 127 1 0),(4,.osl 128 1),(5,.osl 129 1),(6,.im (nI (↑i512:Int)))] [(127,.box 24 4),(128,.row 3 1 (List.map cI y510)),(129,.row 3 1 (List.map cI y511))] [(127,0,.im (nI 0)),(127,1,.im (nI 0)),(127,2,.im (.val (.slice none 0 0))),(127,3,.im (.val (.slice none 0 0)))]) (fun (y510,y511,i512)=>lZ y510∧lZ y511∧True) h (eA [(127,some 2),(128,some 19),(129,some 26)]) (by rintro ⟨y510,y511,i512⟩;exact ((Holds.kdl 128 rfl).and ((Holds.kdl 129 rfl).and (hT)))) ?_
 clear h
 rintro k ⟨y510,y511,i512⟩ o hp h ho625
 replace h:merge_renumbered.s20 p_ y510 y511 i512=some o:=h
 unfold merge_renumbered.s20 at h
 obtain ⟨z738,z739,_⟩:=hp
 conv=>whnf
 refine Side.mk rfl ?_
 conv=>whnf
 refine Nf.mk (List.length y511) len_map ?_
 conv=>whnf
 refine Both.mk ?_ ?_<;>intro b626
 obtain ⟨h,b626d⟩:=ctd b626 h
 conv=>whnf
 obtain ⟨e627,he627,h⟩:=idxn_some h
 refine Side.mk ⟨(by omega),rfl,map_lt he627⟩ ?_
 conv=>whnf
 refine ⟨_,_,⟨rfl,map_at he627,rfl,rfl⟩,?_⟩
 conv=>whnf
 obtain ⟨e628,he628z,he628,h⟩:=idx_some h
 refine ⟨_,⟨he628z,map_at he628,rfl⟩,?_⟩
 conv=>whnf
 refine Nf.mk (List.length e628) len_map ?_
 conv=>whnf
 obtain ⟨⟨y682,y683⟩,hc,hk629⟩:=bind_some h
 clear h
 have h:=hc
 clear hc
 refine Cut.mk (mkSt [(1,.im (.ref (c_api_Part p_))),(2,.own 127 1 0),(4,.osl 128 1),(5,.osl 129 1),(6,.im (nI (↑i512:Int)))] [(127,.box 24 4),(128,.row 3 1 (List.map cI y682)),(129,.row 3 1 (List.map cI y683))] [(127,0,.im (nI 0)),(127,1,.im (nI 0)),(127,2,.im (.val (.slice none 0 0))),(127,3,.im (.val (.slice none 0 0)))]) (lZ y682∧lZ y683∧True) ((Holds.kdl 128 rfl).and ((Holds.kdl 129 rfl).and (hT))) ?_ (fun hp=>?_)
 conv=>whnf
 refine Loops.iter (fun (s:List Int×List Int×Nat)=>merge_renumbered.s18 e628 s.1 s.2.1 s.2.2) (fun (y699,y700,y701)=>mkSt [(1,.im (.ref (c_api_Part p_))),(2,.own 127 1 0),(4,.osl 128 1),(5,.osl 129 1),(6,.im (nI (↑i512:Int))),(40,.im (nL cI e628)),(41,.im (nI (↑(List.length e628):Int))),(42,.im (nI (↑y701:Int)))] [(127,.box 24 4),(128,.row 3 1 (List.map cI y699)),(129,.row 3 1 (List.map cI y700))] [(127,0,.im (nI 0)),(127,1,.im (nI 0)),(127,2,.im (.val (.slice none 0 0))),(127,3,.im (.val (.slice none 0 0)))]) (fun (y699,y700,y701)=>lZ e628∧lZ y699∧lZ y700∧True) h (eA [(127,some 127),(128,some 128),(129,some 129)]) (by rintro ⟨y699,y700,y701⟩;exact ((Holds.avl 40 rfl).and ((Holds.kdl 128 rfl).and ((Holds.kdl 129 rfl).and (hT))))) ?_
 clear h
 rintro k ⟨y699,y700,y701⟩ o hp h ho717
 replace h:merge_renumbered.s18 e628 y699 y700 y701=some o:=h
 unfold merge_renumbered.s18 at h
 obtain ⟨z733,z734,z735,_⟩:=hp
 conv=>whnf
 refine Both.mk ?_ ?_<;>intro b718
 obtain ⟨h,b718d⟩:=ctd b718 h
 conv=>whnf
 obtain ⟨e719,he719,h⟩:=idxn_some h
 refine ⟨_,⟨(by omega),map_at he719,rfl⟩,?_⟩
 conv=>whnf
 obtain ⟨y724,hc,hk721⟩:=bind_some h
 clear h
 have h:=hc
 clear hc
 refine Cut.mk (mkSt [(1,.im (.ref (c_api_Part p_))),(2,.own 127 1 0),(4,.osl 128 1),(5,.osl 129 1),(6,.im (nI (↑i512:Int))),(8,.im (nI e719)),(40,.im (nL cI e628)),(41,.im (nI (↑(List.length e628):Int))),(42,.im (nI (↑y701:Int))),(54,.im (nB y724))] [(127,.box 24 4),(128,.row 3 1 (List.map cI y699)),(129,.row 3 1 (List.map cI y700))] [(127,0,.im (nI 0)),(127,1,.im (nI 0)),(127,2,.im (.val (.slice none 0 0))),(127,3,.im (.val (.slice none 0 0)))]) (lZ e628∧lZ y699∧lZ y700∧True) ((Holds.avl 40 rfl).and ((Holds.kdl 128 rfl).and ((Holds.kdl 129 rfl).and (hT)))) ?_ (fun hp=>?_)
 conv=>whnf
 refine Both.mk ?_ ?_<;>intro b725
 replace b725:=beq_tt b725
 obtain ⟨h,b725d⟩:=ctd b725 h
 conv=>whnf
 iterate 2 (refine Both.yes (tt_beq b725) ?_;(conv=>whnf))
 obtain ⟨e726,he726z,he726,h⟩:=idx_some h
 refine Side.mk ⟨he726z,rfl,map_lt he726⟩ ?_
 conv=>whnf
 refine Both.yes (tt_beq b725) ?_
 conv=>whnf
 refine ⟨_,_,⟨rfl,map_at he726,rfl,rfl⟩,?_⟩
 conv=>whnf
 refine Both.yes (tt_beq b725) ?_
 conv=>whnf
 refine Both.yes b725 ?_
 conv=>whnf
 cases h
 exact Join.mk (eA [(127,some 127),(128,some 128),(129,some 129)])
 replace b725:=beq_tf b725
 obtain ⟨h,b725d⟩:=cfd b725 h
 conv=>whnf
 iterate 4 (refine Both.no (ft_beq b725) ?_;(conv=>whnf))
 refine Both.no b725 ?_
 conv=>whnf
 cases h
 exact Join.mk (eA [(127,some 127),(128,some 128),(129,some 129)])
 replace h:=hk721
 obtain ⟨z727,z728,z729,_⟩:=hp
 conv=>whnf
 refine Both.mk ?_ ?_<;>intro b730
 replace h:=cond_t b730 h
 conv=>whnf
 refine Side.mk rfl ?_
 conv=>whnf
 refine Nf.mk (List.length y700) len_map ?_
 conv=>whnf
 obtain ⟨e731,he731z,he731,h⟩:=idx_some h
 refine Side.mk ⟨he731z,rfl,map_lt he731⟩ ?_
 conv=>whnf
 refine Side.mk ⟨rfl,trivial⟩ ?_
 conv=>whnf
 refine ⟨_,map_at he731,?_⟩
 conv=>whnf
 refine Nf.mk (List.map cI (List.set y699 e719.toNat (↑(List.length y700):Int))) (set_map rfl) ?_
 conv=>whnf
 obtain ⟨c732,h⟩:=chk_some h
 refine Side.mk ⟨rfl,map_len (l:=[e719]) (c:=cI) fun _=>rfl,show capOk _ 8 by simpa only [List.length_map,List.length_cons,List.length_nil,Nat.zero_add] using c732⟩ ?_
 conv=>whnf
 refine Nf.mk (List.map cI (y700++[e719])) (app_map (l:=y700) (m:=[e719]) (c:=cI)) ?_
 conv=>whnf
 refine Arith.mk (by show inR _;unfold inR;omega) ?_
 conv=>whnf
 cases h
 exact Nxt.mk _ ho717 (eA [(127,some 127),(128,some 128),(129,some 129)])
 replace h:=cond_f b730 h
 conv=>whnf
 refine Arith.mk (by show inR _;unfold inR;omega) ?_
 conv=>whnf
 cases h
 exact Nxt.mk _ ho717 (eA [(127,some 127),(128,some 128),(129,some 129)])
 obtain ⟨h,b718d⟩:=cfd b718 h
 conv=>whnf
 cases h
 have ho717:_=_:=ho717
 cases ho717
 exact Join.mk (eA [(127,some 127),(128,some 128),(129,some 129)])
 replace h:merge_renumbered.k19 i512 y682 y683=some _:=hk629
 unfold merge_renumbered.k19 at h
 obtain ⟨z736,z737,_⟩:=hp
 conv=>whnf
 refine Arith.mk (by show inR _;unfold inR;omega) ?_
 conv=>whnf
 cases h
 exact Nxt.mk _ ho625 (eA [(127,some 127),(128,some 128),(129,some 129)])
 obtain ⟨h,b626d⟩:=cfd b626 h
 conv=>whnf
 cases h
 have ho625:_=_:=ho625
 cases ho625
 exact Join.mk (eA [(127,some 127),(128,some 128),(129,some 129)])
 replace h:merge_renumbered.k42 p_ y396 y397=some _:=hk53
 unfold merge_renumbered.k42 at h
 obtain ⟨z740,z741,_⟩:=hp
 conv=>whnf
 refine Side.mk rfl ?_
 conv=>whnf
 refine Side.mk rfl ?_
 conv=>whnf
 refine Nf.mk (List.length y397) len_map ?_
 conv=>whnf
 obtain ⟨⟨y1001,y1002⟩,hc,hk742⟩:=bind_some h
 clear h
 have h:=hc
 clear hc
 refine Cut.mk (mkSt [(2,.own 127 1 0),(4,.osl 128 1),(9,.own 129 1 0)] [(127,.box 24 4),(128,.row 3 1 (List.map cI y396)),(129,.box 24 4),(130,.row 25 1 (List.map (cL cI) y1001)),(131,.row 25 1 (List.map (cL cI) y1002))] [(127,0,.im (nI 0)),(127,1,.im (nI 0)),(127,2,.im (.val (.slice none 0 0))),(127,3,.im (.val (.slice none 0 0))),(129,0,.im (nI p_.Inputs)),(129,1,.im (nI 0)),(129,2,.osl 130 1),(129,3,.osl 131 1)]) (lZ y396∧lZ y1001∧lZ y1002∧True) ((Holds.kdl 128 rfl).and ((Holds.kdl 130 rfl).and ((Holds.kdl 131 rfl).and (hT)))) ?_ (fun hp=>?_)
 conv=>whnf
 refine Loops.iter (fun (s:List (List Int)×List (List Int)×Nat)=>merge_renumbered.s40 p_ y396 y397 s.1 s.2.1 s.2.2) (fun (y1081,y1082,y1083)=>mkSt [(1,.im (.ref (c_api_Part p_))),(2,.own 127 1 0),(4,.osl 128 1),(9,.own 129 1 0),(68,.osl 132 1),(69,.im (nI (↑(List.length y397):Int))),(70,.im (nI (↑y1083:Int)))] [(127,.box 24 4),(128,.row 3 1 (List.map cI y396)),(129,.box 24 4),(130,.row 25 1 (List.map (cL cI) y1081)),(131,.row 25 1 (List.map (cL cI) y1082)),(132,.row 3 1 (List.map cI y397))] [(127,0,.im (nI 0)),(127,1,.im (nI 0)),(127,2,.im (.val (.slice none 0 0))),(127,3,.im (.val (.slice none 0 0))),(129,0,.im (nI p_.Inputs)),(129,1,.im (nI 0)),(129,2,.osl 130 1),(129,3,.osl 131 1)]) (fun (y1081,y1082,y1083)=>lZ y396∧lZ y1081∧lZ y1082∧lZ y397∧True) h (Ent.mk [(127,some 127),(128,some 128),(129,some 9),(130,none),(131,none),(132,some 129)] rfl ⟨eI rfl rfl,⟨.own 127 _ 0,rfl,.own rfl rfl rfl⟩,⟨.osl 128 _,rfl,.osl rfl rfl rfl⟩,⟨.own 9 _ 0,rfl,.own rfl rfl rfl⟩,⟨.osl 129 _,rfl,.osl rfl rfl rfl⟩,eI rfl rfl,eI rfl rfl,trivial⟩ ⟨.inl ⟨127,rfl,rfl,trivial⟩,.inl ⟨128,rfl,rfl,trivial⟩,.inl ⟨9,rfl,rfl,trivial⟩,.inr ⟨rfl,rfl,.inl ⟨_,_,rfl,by decide⟩⟩,.inr ⟨rfl,rfl,.inl ⟨_,_,rfl,by decide⟩⟩,.inl ⟨129,rfl,rfl,trivial⟩,trivial⟩ ⟨⟨127,.im _,rfl,rfl,.im (Sub.rfl' rfl)⟩,⟨127,.im _,rfl,rfl,.im (Sub.rfl' rfl)⟩,⟨127,.im (.val (.slice none 0 0)),rfl,rfl,.im (Sub.rfl' rfl)⟩,⟨127,.im (.val (.slice none 0 0)),rfl,rfl,.im (Sub.rfl' rfl)⟩,⟨9,.im _,rfl,rfl,.im (Sub.rfl' rfl)⟩,⟨9,.im _,rfl,rfl,.im (Sub.rfl' rfl)⟩,⟨9,.im (.val (.slice none 0 0)),rfl,rfl,.made rfl rfl⟩,⟨9,.im (.val (.slice none 0 0)),rfl,rfl,.made rfl rfl⟩,trivial⟩) (by rintro ⟨y1081,y1082,y1083⟩;exact ((Holds.kdl 128 rfl).and ((Holds.kdl 130 rfl).and ((Holds.kdl 131 rfl).and ((Holds.kdl 132 rfl).and (hT)))))) ?_
 clear h
 rintro k ⟨y1081,y1082,y1083⟩ o hp h ho1170
 replace h:merge_renumbered.s40 p_ y396 y397 y1081 y1082 y1083=some o:=h
 unfold merge_renumbered.s40 at h
 obtain ⟨z1257,z1258,z1259,z1260,_⟩:=hp
 conv=>whnf
 refine Both.mk ?_ ?_<;>intro b1171
 obtain ⟨h,b1171d⟩:=ctd b1171 h
 conv=>whnf
 obtain ⟨e1172,he1172,h⟩:=idxn_some h
 refine Side.mk ⟨(by omega),rfl,map_lt he1172⟩ ?_
 conv=>whnf
 refine ⟨_,_,⟨rfl,map_at he1172,rfl,rfl⟩,?_⟩
 conv=>whnf
 obtain ⟨c1173,hc1173,h⟩:=bind_some h
 refine ⟨_,(sp_merge_row p_.Inputs c1173 (fun _=>hc1173)),?_⟩
 conv=>whnf
 obtain ⟨c1174,hc1174,h⟩:=bind_some h
 refine ⟨_,(sp_merge_row p_.Inputs c1174 (fun _=>hc1174)),?_⟩
 conv=>whnf
 obtain ⟨e1175,he1175z,he1175,h⟩:=idx_some h
 refine ⟨_,⟨he1175z,map_at he1175,rfl⟩,?_⟩
 conv=>whnf
 refine Nf.mk (List.length e1175) len_map ?_
 conv=>whnf
 obtain ⟨⟨y1212,y1213⟩,hc,hk1176⟩:=bind_some h
 clear h
 have h:=hc
 clear hc
 refine Cut.mk (mkSt [(1,.im (.ref (c_api_Part p_))),(2,.own 127 1 0),(4,.osl 128 1),(9,.own 129 1 0),(12,.osl 132 1),(13,.osl 133 1),(68,.osl 134 1),(69,.im (nI (↑(List.length y397):Int))),(70,.im (nI (↑y1083:Int)))] [(127,.box 24 4),(128,.row 3 1 (List.map cI y396)),(129,.box 24 4),(130,.row 25 1 (List.map (cL cI) y1081)),(131,.row 25 1 (List.map (cL cI) y1082)),(132,.row 3 1 (List.map cI y1212)),(133,.row 3 1 (List.map cI y1213)),(134,.row 3 1 (List.map cI y397))] [(127,0,.im (nI 0)),(127,1,.im (nI 0)),(127,2,.im (.val (.slice none 0 0))),(127,3,.im (.val (.slice none 0 0))),(129,0,.im (nI p_.Inputs)),(129,1,.im (nI 0)),(129,2,.osl 130 1),(129,3,.osl 131 1)]) (lZ y396∧lZ y1081∧lZ y1082∧lZ y1212∧lZ y1213∧lZ y397∧True) ((Holds.kdl 128 rfl).and ((Holds.kdl 130 rfl).and ((Holds.kdl 131 rfl).and ((Holds.kdl 132 rfl).and ((Holds.kdl 133 rfl).and ((Holds.kdl 134 rfl).and (hT))))))) ?_ (fun hp=>?_)
 conv=>whnf
 refine Loops.iter (fun (s:List Int×List Int×Nat)=>merge_renumbered.s38 p_ y396 e1172 e1175 s.1 s.2.1 s.2.2) (fun (y1222,y1223,y1224)=>mkSt [(1,.im (.ref (c_api_Part p_))),(2,.own 127 1 0),(4,.osl 128 1),(9,.own 129 1 0),(11,.im (nI e1172)),(12,.osl 132 1),(13,.osl 133 1),(68,.osl 134 1),(69,.im (nI (↑(List.length y397):Int))),(70,.im (nI (↑y1083:Int))),(84,.im (nL cI e1175)),(85,.im (nI (↑(List.length e1175):Int))),(86,.im (nI (↑y1224:Int)))] [(127,.box 24 4),(128,.row 3 1 (List.map cI y396)),(129,.box 24 4),(130,.row 25 1 (List.map (cL cI) y1081)),(131,.row 25 1 (List.map (cL cI) y1082)),(132,.row 3 1 (List.map cI y1222)),(133,.row 3 1 (List.map cI y1223)),(134,.row 3 1 (List.map cI y397))] [(127,0,.im (nI 0)),(127,1,.im (nI 0)),(127,2,.im (.val (.slice none 0 0))),(127,3,.im (.val (.slice none 0 0))),(129,0,.im (nI p_.Inputs)),(129,1,.im (nI 0)),(129,2,.osl 130 1),(129,3,.osl 131 1)]) (fun (y1222,y1223,y1224)=>lZ e1175∧lZ y396∧lZ y1081∧lZ y1082∧lZ y1222∧lZ y1223∧lZ y397∧True) h (eA [(127,some 127),(128,some 128),(129,some 129),(130,some 130),(131,some 131),(132,some 76),(133,some 79),(134,some 132)]) (by rintro ⟨y1222,y1223,y1224⟩;exact ((Holds.avl 84 rfl).and ((Holds.kdl 128 rfl).and ((Holds.kdl 130 rfl).and ((Holds.kdl 131 rfl).and ((Holds.kdl 132 rfl).and ((Holds.kdl 133 rfl).and ((Holds.kdl 134 rfl).and (hT))))))))) ?_
 clear h
 rintro k ⟨y1222,y1223,y1224⟩ o hp h ho1233
 replace h:merge_renumbered.s38 p_ y396 e1172 e1175 y1222 y1223 y1224=some o:=h
 unfold merge_renumbered.s38 at h
 obtain ⟨z1242,z1243,z1244,z1245,z1246,z1247,z1248,_⟩:=hp
 conv=>whnf
 refine Both.mk ?_ ?_<;>intro b1234
 obtain ⟨h,b1234d⟩:=ctd b1234 h
 conv=>whnf
 obtain ⟨e1235,he1235,h⟩:=idxn_some h
 refine ⟨_,⟨(by omega),map_at he1235,rfl⟩,?_⟩
 conv=>whnf
 refine Both.mk ?_ ?_<;>intro b1236
 obtain ⟨h,b1236d⟩:=ctd b1236 h
 conv=>whnf
 obtain ⟨e1237,he1237z,he1237,h⟩:=idx_some h
 refine Side.mk ⟨he1237z,rfl,map_lt he1237⟩ ?_
 conv=>whnf
 refine ⟨_,_,⟨rfl,map_at he1237,rfl,rfl⟩,?_⟩
 conv=>whnf
 obtain ⟨e1238,he1238z,he1238,h⟩:=idx_some h
 refine ⟨_,⟨he1238z,map_at he1238,rfl⟩,?_⟩
 conv=>whnf
 obtain ⟨e1239,he1239,h⟩:=idxn_some h
 refine ⟨_,⟨(by omega),map_at he1239,rfl⟩,?_⟩
 conv=>whnf
 obtain ⟨e1240,he1240,h⟩:=idxn_some h
 refine Side.mk ⟨(by omega),rfl,map_lt he1240⟩ ?_
 conv=>whnf
 refine Side.mk ⟨rfl,trivial⟩ ?_
 conv=>whnf
 refine ⟨_,map_at he1240,?_⟩
 conv=>whnf
 refine Nf.mk (List.map cI (List.set y1222 y1224 e1237)) (set_map rfl) ?_
 conv=>whnf
 obtain ⟨e1241,he1241,h⟩:=idxn_some h
 refine Side.mk ⟨(by omega),rfl,map_lt he1241⟩ ?_
 conv=>whnf
 refine Side.mk ⟨rfl,trivial⟩ ?_
 conv=>whnf
 refine ⟨_,map_at he1241,?_⟩
 conv=>whnf
 refine Nf.mk (List.map cI (List.set y1223 y1224 e1239)) (set_map rfl) ?_
 conv=>whnf
 refine Arith.mk (by show inR _;unfold inR;omega) ?_
 conv=>whnf
 cases h
 exact Nxt.mk _ ho1233 (eA [(127,some 127),(128,some 128),(129,some 129),(130,some 130),(131,some 131),(132,some 132),(133,some 133),(134,some 134)])
 obtain ⟨h,b1236d⟩:=cfd b1236 h
 conv=>whnf
 refine Arith.mk (by show inR _;unfold inR;omega) ?_
 conv=>whnf
 cases h
 exact Nxt.mk _ ho1233 (eA [(127,some 127),(128,some 128),(129,some 129),(130,some 130),(131,some 131),(132,some 132),(133,some 133),(134,some 134)])
 obtain ⟨h,b1234d⟩:=cfd b1234 h
 conv=>whnf
 cases h
 have ho1233:_=_:=ho1233
 cases ho1233
 exact Join.mk (eA [(127,some 127),(128,some 128),(129,some 129),(130,some 130),(131,some 131),(132,some 132),(133,some 133),(134,some 134)])
 replace h:merge_renumbered.k39 y1081 y1082 y1083 y1212 y1213=some _:=hk1176
 unfold merge_renumbered.k39 at h
 obtain ⟨z1249,z1250,z1251,z1252,z1253,z1254,_⟩:=hp
 conv=>whnf
 refine Side.mk rfl ?_
 conv=>whnf
 refine Side.mk rfl ?_
 conv=>whnf
 refine Side.mk ⟨rfl,trivial⟩ ?_
 conv=>whnf
 obtain ⟨c1255,h⟩:=chk_some h
 refine Side.mk ⟨rfl,map_len (l:=[y1212]) (c:=cL cI) fun _=>rfl,show capOk _ 24 by simpa only [List.length_map,List.length_cons,List.length_nil,Nat.zero_add] using c1255⟩ ?_
 conv=>whnf
 refine Nf.mk (List.map (cL cI) (y1081++[y1212])) (app_map (l:=y1081) (m:=[y1212]) (c:=cL cI)) ?_
 conv=>whnf
 refine Side.mk rfl ?_
 conv=>whnf
 refine Side.mk rfl ?_
 conv=>whnf
 refine Side.mk ⟨rfl,trivial⟩ ?_
 conv=>whnf
 obtain ⟨c1256,h⟩:=chk_some h
 refine Side.mk ⟨rfl,map_len (l:=[y1213]) (c:=cL cI) fun _=>rfl,show capOk _ 24 by simpa only [List.length_map,List.length_cons,List.length_nil,Nat.zero_add] using c1256⟩ ?_
 conv=>whnf
 refine Nf.mk (List.map (cL cI) (y1082++[y1213])) (app_map (l:=y1082) (m:=[y1213]) (c:=cL cI)) ?_
 conv=>whnf
 refine Side.mk rfl ?_
 conv=>whnf
 refine Side.mk rfl ?_
 conv=>whnf
 refine Side.mk rfl ?_
 conv=>whnf
 refine Side.mk rfl ?_
 conv=>whnf
 refine Arith.mk (by show inR _;unfold inR;omega) ?_
 conv=>whnf
 cases h
 exact Nxt.mk _ ho1170 (eA [(127,some 127),(128,some 128),(129,some 129),(130,some 130),(131,some 131),(132,some 134)])
 obtain ⟨h,b1171d⟩:=cfd b1171 h
 conv=>whnf
 cases h
 have ho1170:_=_:=ho1170
 cases ho1170
 exact Join.mk (eA [(127,some 127),(128,some 128),(129,some 129),(130,some 130),(131,some 131)])
 replace h:merge_renumbered.k41 p_ y396 y1001 y1002=some _:=hk742
 unfold merge_renumbered.k41 at h
 obtain ⟨z1261,z1262,z1263,_⟩:=hp
 conv=>whnf
 refine Side.mk rfl ?_
 conv=>whnf
 refine Side.mk rfl ?_
 conv=>whnf
 cases h
 conv=>whnf
 refine Side.mk ⟨rfl,trivial⟩ ?_
 conv=>whnf
 exact Side.mk ⟨rfl,rfl,rfl,trivial⟩ ⟨rfl,rfl⟩
theorem sp_merge_Tree (o_:T_api_Obs) (r:T_api_Part×Int) (h:Ok (.agg (c_api_Obs o_))→merge_Tree o_=some r):Sp Tryz.prog 22 [.im (.agg (c_api_Obs o_))] (.tup [.agg (c_api_Part r.1),nI r.2]):=by
 refine sp_of rfl [700001,9000023,9000027,9000078,9000084] rfl rfl rfl (Nat.le_of_ble_eq_true rfl) rfl fun hk=>?_
 replace h:=h hk.1
 have z1:lZ o_.Traces:=ok_len (Ok.agg_at hk.1 1 rfl)
 unfold merge_Tree at h
 conv=>whnf
 obtain ⟨c51,hc51,h⟩:=bind_some h
 refine ⟨_,(sp_observe_Valid o_ c51 (fun _=>hc51)),?_⟩
 conv=>whnf
 refine Both.mk ?_ ?_<;>intro b52
 obtain ⟨h,b52d⟩:=ctd b52 h
 conv=>whnf
 refine Side.mk rfl ?_
 conv=>whnf
 cases h
 conv=>whnf
 refine Side.mk ⟨rfl,trivial⟩ ?_
 conv=>whnf
 exact ⟨rfl,rfl⟩
 obtain ⟨h,b52d⟩:=cfd b52 h
 conv=>whnf
 obtain ⟨c53,hc53,h⟩:=bind_some h
 refine ⟨_,(sp_merge_row o_.Inputs c53 (fun _=>hc53)),?_⟩
 conv=>whnf
 refine Side.mk ⟨rfl,trivial⟩ ?_
 conv=>whnf
 refine Nf.mk (List.map (cL cI) [c53]) rfl ?_
 conv=>whnf
 obtain ⟨c54,hc54,h⟩:=bind_some h
 refine ⟨_,(sp_merge_row o_.Inputs c54 (fun _=>hc54)),?_⟩
 conv=>whnf
 refine Side.mk ⟨rfl,trivial⟩ ?_
 conv=>whnf
 refine Nf.mk (List.map (cL cI) [c54]) rfl ?_
 conv=>whnf
 refine Nf.mk (List.length o_.Traces) len_map ?_
 conv=>whnf
 obtain ⟨oc,hc,hk55⟩:=bind_some h
 clear h
 have h:=hc
 clear hc
 refine Cut.mkS oc (Y:=List (List Int)×List (List Int)) (fun (y849,y850)=>mkSt [(1,.im (.ref (c_api_Obs o_))),(2,.own 105 1 0),(5,.osl 106 1),(6,.osl 107 1)] [(105,.box 24 4),(106,.grid 25 3 1 (List.map (cL cI) y849) none),(107,.grid 25 3 1 (List.map (cL cI) y850) none)] [(105,0,.im (nI 0)),(105,1,.im (nI 0)),(105,2,.im (.val (.slice none 0 0))),(105,3,.im (.val (.slice none 0 0)))]) (fun (y849,y850)=>lZ y849∧lZ y850∧True) (by rintro ⟨y849,y850⟩;exact ((Holds.kdg 106 rfl).and ((Holds.kdg 107 rfl).and (hT)))) ?_ ?_
 conv=>whnf
 refine Loops.iter (fun (s:List (List Int)×List (List Int)×Nat)=>merge_Tree.s56 o_ s.1 s.2.1 s.2.2) (fun (y1113,y1114,y1115)=>mkSt [(1,.im (.ref (c_api_Obs o_))),(2,.own 105 1 0),(5,.osl 106 1),(6,.osl 107 1),(29,.im (nL c_api_Trace o_.Traces)),(30,.im (nI (↑(List.length o_.Traces):Int))),(31,.im (nI (↑y1115:Int)))] [(105,.box 24 4),(106,.grid 25 3 1 (List.map (cL cI) y1113) none),(107,.grid 25 3 1 (List.map (cL cI) y1114) none)] [(105,0,.im (nI 0)),(105,1,.im (nI 0)),(105,2,.im (.val (.slice none 0 0))),(105,3,.im (.val (.slice none 0 0)))]) (fun (y1113,y1114,y1115)=>lZ o_.Traces∧lZ y1113∧lZ y1114∧True) h (eA [(105,some 2),(106,some 23),(107,some 27)]) (by rintro ⟨y1113,y1114,y1115⟩;exact ((Holds.avl 29 rfl).and ((Holds.kdg 106 rfl).and ((Holds.kdg 107 rfl).and (hT))))) ?_
 clear h
 rintro k ⟨y1113,y1114,y1115⟩ o hp h ho1378
 replace h:merge_Tree.s56 o_ y1113 y1114 y1115=some o:=h
 unfold merge_Tree.s56 at h
 obtain ⟨z1641,z1642,z1643,_⟩:=hp
 conv=>whnf
 refine Both.mk ?_ ?_<;>intro b1379
 obtain ⟨h,b1379d⟩:=ctd b1379 h
 conv=>whnf
 obtain ⟨e1380,he1380,h⟩:=idxn_some h
 refine ⟨_,⟨(by omega),map_at he1380,rfl⟩,?_⟩
 conv=>whnf
 refine Side.mk rfl ?_
 conv=>whnf
 refine Side.mk rfl ?_
 conv=>whnf
 refine Side.mk rfl ?_
 conv=>whnf
 refine Nf.mk (List.length e1380.In) len_map ?_
 conv=>whnf
 obtain ⟨oc,hc,hk1381⟩:=bind_some h
 clear h
 have h:=hc
 clear hc
 refine Cut.mkS oc (Y:=List (List Int)×List (List Int)) (fun (y1509,y1510)=>mkSt [(1,.im (.ref (c_api_Obs o_))),(2,.own 105 1 0),(5,.osl 106 1),(6,.osl 107 1),(29,.im (nL c_api_Trace o_.Traces)),(30,.im (nI (↑(List.length o_.Traces):Int))),(31,.im (nI (↑y1115:Int)))] [(105,.box 24 4),(106,.grid 25 3 1 (List.map (cL cI) y1509) none),(107,.grid 25 3 1 (List.map (cL cI) y1510) none)] [(105,0,.im (nI 0)),(105,1,.im (nI 0)),(105,2,.im (.val (.slice none 0 0))),(105,3,.im (.val (.slice none 0 0)))]) (fun (y1509,y1510)=>lZ o_.Traces∧lZ y1509∧lZ y1510∧True) (by rintro ⟨y1509,y1510⟩;exact ((Holds.avl 29 rfl).and ((Holds.kdg 106 rfl).and ((Holds.kdg 107 rfl).and (hT))))) ?_ ?_
 conv=>whnf
 refine Loops.iter (fun (s:List (List Int)×List (List Int)×Int×Nat)=>merge_Tree.s54 o_ e1380 s.1 s.2.1 s.2.2.1 s.2.2.2) (fun (y1550,y1551,s1552,y1553)=>mkSt [(1,.im (.ref (c_api_Obs o_))),(2,.own 105 1 0),(5,.osl 106 1),(6,.osl 107 1),(8,.own 108 1 0),(9,.im (nI s1552)),(29,.im (nL c_api_Trace o_.Traces)),(30,.im (nI (↑(List.length o_.Traces):Int))),(31,.im (nI (↑y1115:Int))),(36,.im (nL cI e1380.In)),(37,.im (nI (↑(List.length e1380.In):Int))),(38,.im (nI (↑y1553:Int)))] [(105,.box 24 4),(106,.grid 25 3 1 (List.map (cL cI) y1550) none),(107,.grid 25 3 1 (List.map (cL cI) y1551) none),(108,.box 58 2)] [(105,0,.im (nI 0)),(105,1,.im (nI 0)),(105,2,.im (.val (.slice none 0 0))),(105,3,.im (.val (.slice none 0 0))),(108,0,.im (nL cI e1380.In)),(108,1,.im (nL cI e1380.Out))]) (fun (y1550,y1551,s1552,y1553)=>lZ o_.Traces∧lZ e1380.In∧lZ y1550∧lZ y1551∧lZ e1380.Out∧True) h (eA [(105,some 105),(106,some 106),(107,some 107),(108,some 8)]) (by rintro ⟨y1550,y1551,s1552,y1553⟩;exact ((Holds.avl 29 rfl).and ((Holds.avl 36 rfl).and ((Holds.kdg 106 rfl).and ((Holds.kdg 107 rfl).and ((Holds.cel 108 1 rfl (by decide) rfl).and (hT))))))) ?_
 clear h
 rintro k ⟨y1550,y1551,s1552,y1553⟩ o hp h ho1593
 replace h:merge_Tree.s54 o_ e1380 y1550 y1551 s1552 y1553=some o:=h
 unfold merge_Tree.s54 at h
 obtain ⟨z1633,z1634,z1635,z1636,z1637,_⟩:=hp
 conv=>whnf
 refine Both.mk ?_ ?_<;>intro b1594
 obtain ⟨h,b1594d⟩:=ctd b1594 h
 conv=>whnf
 obtain ⟨e1595,he1595,h⟩:=idxn_some h
 refine ⟨_,⟨(by omega),map_at he1595,rfl⟩,?_⟩
 conv=>whnf
 obtain ⟨oc,hc,hk1597⟩:=bind_some h
 clear h
 have h:=hc
 clear hc
 refine Cut.mkS oc (Y:=List (List Int)×List (List Int)) (fun (y1611,y1612)=>mkSt [(1,.im (.ref (c_api_Obs o_))),(2,.own 105 1 0),(5,.osl 106 1),(6,.osl 107 1),(8,.own 108 1 0),(9,.im (nI s1552)),(11,.im (nI e1595)),(29,.im (nL c_api_Trace o_.Traces)),(30,.im (nI (↑(List.length o_.Traces):Int))),(31,.im (nI (↑y1115:Int))),(36,.im (nL cI e1380.In)),(37,.im (nI (↑(List.length e1380.In):Int))),(38,.im (nI (↑y1553:Int)))] [(105,.box 24 4),(106,.grid 25 3 1 (List.map (cL cI) y1611) none),(107,.grid 25 3 1 (List.map (cL cI) y1612) none),(108,.box 58 2)] [(105,0,.im (nI 0)),(105,1,.im (nI 0)),(105,2,.im (.val (.slice none 0 0))),(105,3,.im (.val (.slice none 0 0))),(108,0,.im (nL cI e1380.In)),(108,1,.im (nL cI e1380.Out))]) (fun (y1611,y1612)=>lZ o_.Traces∧lZ e1380.In∧lZ y1611∧lZ y1612∧lZ e1380.Out∧True) (by rintro ⟨y1611,y1612⟩;exact ((Holds.avl 29 rfl).and ((Holds.avl 36 rfl).and ((Holds.kdg 106 rfl).and ((Holds.kdg 107 rfl).and ((Holds.cel 108 1 rfl (by decide) rfl).and (hT))))))) ?_ ?_
 conv=>whnf
 obtain ⟨e1613,he1613z,he1613,h⟩:=idx_some h
 refine Side.mk ⟨he1613z,rfl,map_lt he1613⟩ ?_
 conv=>whnf
 refine Side.mk ⟨rfl,map_lt he1613⟩ ?_
 conv=>whnf
 obtain ⟨e1614,he1614z,he1614,h⟩:=idx_some h
 refine ⟨_,⟨he1614z,rfl,map_at he1613,map_lt he1614⟩,?_⟩
 conv=>whnf
 refine ⟨_,_,_,⟨rfl,map_at he1613,map_at he1614,rfl⟩,?_⟩
 conv=>whnf
 refine Both.mk ?_ ?_<;>intro b1615
 obtain ⟨h,b1615d⟩:=ctd b1615 h
 conv=>whnf
 refine Side.mk rfl ?_
 conv=>whnf
 refine Nf.mk (List.length y1550) len_map ?_
 conv=>whnf
 refine Both.mk ?_ ?_<;>intro b1616
 obtain ⟨h,b1616d⟩:=ctd b1616 h
 conv=>whnf
 refine Side.mk rfl ?_
 conv=>whnf
 cases h
 replace h:some _=some _:=hk1597
 cases h
 have ho1593:_=_:=ho1593
 cases ho1593
 replace h:some _=some _:=hk1381
 cases h
 have ho1378:_=_:=ho1378
 cases ho1378
 replace h:some _=some _:=hk55
 cases h
 conv=>whnf
 refine Side.mk ⟨rfl,trivial⟩ ?_
 conv=>whnf
 exact ⟨rfl,rfl⟩
 obtain ⟨h,b1616d⟩:=cfd b1616 h
 conv=>whnf
 obtain ⟨e1617,he1617z,he1617,h⟩:=idx_some h
 refine Side.mk ⟨he1617z,rfl,map_lt he1617⟩ ?_
 conv=>whnf
 refine Side.mk ⟨rfl,map_lt he1617⟩ ?_
 conv=>whnf
 obtain ⟨e1618,he1618z,he1618,h⟩:=idx_some h
 refine Side.mk ⟨he1618z,rfl,map_lt he1618⟩ ?_
 conv=>whnf
 refine Side.mk ⟨rfl,map_lt he1618⟩ ?_
 conv=>whnf
 refine Side.mk rfl ?_
 conv=>whnf
 refine Nf.mk (List.length y1550) len_map ?_
 conv=>whnf
 refine Side.mk rfl ?_
 conv=>whnf
 refine Side.mk rfl ?_
 conv=>whnf
 obtain ⟨e1619,he1619,h⟩:=idxn_some h
 refine ⟨_,⟨(by omega),map_at he1619,rfl⟩,?_⟩
 conv=>whnf
 obtain ⟨e1620,he1620z,he1620,h⟩:=idx_some h
 refine ⟨_,⟨he1620z,rfl,map_at he1617,map_lt he1620⟩,?_⟩
 conv=>whnf
 refine ⟨_,_,⟨rfl,map_at he1617,map_at he1620⟩,?_⟩
 conv=>whnf
 refine Nf.mk (List.map (cL cI) (List.set y1550 (Int.toNat s1552) (List.set e1617 (Int.toNat e1595) (↑(List.length y1550):Int)))) (set_grid2 rfl) ?_
 conv=>whnf
 obtain ⟨e1621,he1621z,he1621,h⟩:=idx_some h
 refine ⟨_,⟨he1621z,rfl,map_at he1618,map_lt he1621⟩,?_⟩
 conv=>whnf
 refine ⟨_,_,⟨rfl,map_at he1618,map_at he1621⟩,?_⟩
 conv=>whnf
 refine Nf.mk (List.map (cL cI) (List.set y1551 (Int.toNat s1552) (List.set e1618 (Int.toNat e1595) e1619))) (set_grid2 rfl) ?_
 conv=>whnf
 obtain ⟨c1622,hc1622,h⟩:=bind_some h
 refine ⟨_,(sp_merge_row o_.Inputs c1622 (fun _=>hc1622)),?_⟩
 conv=>whnf
 refine Side.mk ⟨rfl,trivial⟩ ?_
 conv=>whnf
 refine Nf.mk (List.map (cL cI) [c1622]) rfl ?_
 conv=>whnf
 obtain ⟨c1623,h⟩:=chk_some h
 refine Side.mk ⟨rfl,rfl,trivial⟩ ?_
 conv=>whnf
 refine Side.mk (show capOk _ 24 by have hh_:=c1623;simpa only [List.length_map] using hh_) ?_
 conv=>whnf
 refine Nf.mk (List.map (cL cI) ((List.set y1550 (Int.toNat s1552) (List.set e1617 (Int.toNat e1595) (↑(List.length y1550):Int)))++[c1622])) (app_map (l:=(List.set y1550 (Int.toNat s1552) (List.set e1617 (Int.toNat e1595) (↑(List.length y1550):Int)))) (m:=[c1622]) (c:=cL cI)) ?_
 conv=>whnf
 obtain ⟨c1624,hc1624,h⟩:=bind_some h
 refine ⟨_,(sp_merge_row o_.Inputs c1624 (fun _=>hc1624)),?_⟩
 conv=>whnf
 refine Side.mk ⟨rfl,trivial⟩ ?_
 conv=>whnf
 refine Nf.mk (List.map (cL cI) [c1624]) rfl ?_
 conv=>whnf
 obtain ⟨c1625,h⟩:=chk_some h
 refine Side.mk ⟨rfl,rfl,trivial⟩ ?_
 conv=>whnf
 refine Side.mk (show capOk _ 24 by have hh_:=c1625;simpa only [List.length_map] using hh_) ?_
 conv=>whnf
 refine Nf.mk (List.map (cL cI) ((List.set y1551 (Int.toNat s1552) (List.set e1618 (Int.toNat e1595) e1619))++[c1624])) (app_map (l:=(List.set y1551 (Int.toNat s1552) (List.set e1618 (Int.toNat e1595) e1619))) (m:=[c1624]) (c:=cL cI)) ?_
 conv=>whnf
 cases h
 exact JoinS.mk' _ rfl (eA [(105,some 105),(106,some 79),(107,some 85),(108,some 108)])
 obtain ⟨h,b1615d⟩:=cfd b1615 h
 conv=>whnf
 cases h
 exact JoinS.mk' _ rfl (eA [(105,some 105),(106,some 106),(107,some 107),(108,some 108)])
 rintro ⟨y1611,y1612⟩ rfl hp
 have hx_:=sum_inl hk1597
 replace h:merge_Tree.k53 s1552 y1553 e1595 y1611 y1612=some _:=hx_
 clear hx_
 unfold merge_Tree.k53 at h
 obtain ⟨z1626,z1627,z1628,z1629,z1630,_⟩:=hp
 conv=>whnf
 obtain ⟨e1631,he1631z,he1631,h⟩:=idx_some h
 refine Side.mk ⟨he1631z,rfl,map_lt he1631⟩ ?_
 conv=>whnf
 refine Side.mk ⟨rfl,map_lt he1631⟩ ?_
 conv=>whnf
 obtain ⟨e1632,he1632z,he1632,h⟩:=idx_some h
 refine ⟨_,⟨he1632z,rfl,map_at he1631,map_lt he1632⟩,?_⟩
 conv=>whnf
 refine ⟨_,_,_,⟨rfl,map_at he1631,map_at he1632,rfl⟩,?_⟩
 conv=>whnf
 refine Arith.mk (by show inR _;unfold inR;omega) ?_
 conv=>whnf
 cases h
 exact Nxt.mk _ ho1593 (eA [(105,some 105),(106,some 106),(107,some 107),(108,some 108)])
 obtain ⟨h,b1594d⟩:=cfd b1594 h
 conv=>whnf
 cases h
 have ho1593:_=_:=ho1593
 cases ho1593
 exact JoinS.mk' _ rfl (eA [(105,some 105),(106,some 106),(107,some 107)])
 rintro ⟨y1509,y1510⟩ rfl hp
 have hx_:=sum_inl hk1381
 replace h:merge_Tree.k55 y1115 y1509 y1510=some _:=hx_
 clear hx_
 unfold merge_Tree.k55 at h
 obtain ⟨z1638,z1639,z1640,_⟩:=hp
 conv=>whnf
 refine Arith.mk (by show inR _;unfold inR;omega) ?_
 conv=>whnf
 cases h
 exact Nxt.mk _ ho1378 (eA [(105,some 105),(106,some 106),(107,some 107)])
 obtain ⟨h,b1379d⟩:=cfd b1379 h
 conv=>whnf
 cases h
 have ho1378:_=_:=ho1378
 cases ho1378
 exact JoinS.mk' _ rfl (eA [(105,some 105),(106,some 106),(107,some 107)])
 rintro ⟨y849,y850⟩ rfl hp
 have hx_:=sum_inl hk55
 replace h:merge_Tree.k57 o_ y849 y850=some _:=hx_
 clear hx_
 unfold merge_Tree.k57 at h
 obtain ⟨z1644,z1645,_⟩:=hp
 conv=>whnf
 refine Side.mk ⟨rfl,rfl,trivial⟩ ?_
 conv=>whnf
 obtain ⟨c1646,hc1646,h⟩:=bind_some h
 refine ⟨_,(sp_merge_renumbered (⟨o_.Inputs,0,y849,y850⟩:T_api_Part) c1646 (fun _=>hc1646)),?_⟩
 conv=>whnf
 refine Side.mk rfl ?_
 conv=>whnf
 refine Side.mk rfl ?_
 conv=>whnf
 refine Side.mk rfl ?_
 conv=>whnf
 cases h
 conv=>whnf
 refine Side.mk ⟨rfl,trivial⟩ ?_
 conv=>whnf
 exact ⟨rfl,rfl⟩
theorem sp_merge_blocks_int_of (b_:T_merge_blocks_int_) (x_:Int) (r:Int×(List (Int×Int))) (h:OkA (.lent (.map (mapV wI wI b_.up)))→Ok (nI x_)→merge_blocks_int_of b_ x_=some r):SpX Tryz.prog 65 (.lent .dead::.box 0 [.im .any]::[.lent (.map (mapV wI wI b_.up)),.im (nI x_)]) (.mk false [.im (nI r.1)] [.lent (.map (mapV wI wI r.2))]):=by
 refine sp_ofA rfl [] 0 [.im .any] 1 rfl rfl rfl rfl (Nat.le_of_ble_eq_true rfl) (Nat.le_of_ble_eq_true rfl) rfl fun hk=>?_
 replace h:=h hk.1 hk.2.1
 unfold merge_blocks_int_of at h
 conv=>whnf
 refine Loops.iter (fun (s:Int)=>merge_blocks_int_of.s1 b_ s) (fun x52=>mkSt [(0,.agg [.osl 0 0]),(1,.im (nI x52)),(2,.own 65 1 0)] [(0,.map (mapV wI wI b_.up)),(65,.box 104 1)] [(65,0,.osl 0 0)]) (fun x52=>True) h (Ent.mk [(0,some 0),(65,some 2)] rfl ⟨⟨.agg [.osl 0 _],rfl,.agg (.cons (.osl rfl rfl rfl) (.nil))⟩,eI rfl rfl,⟨.own 2 _ 0,rfl,.own rfl rfl rfl⟩,trivial⟩ ⟨.inl ⟨0,rfl,rfl,⟨rfl,rfl⟩⟩,.inl ⟨2,rfl,rfl,trivial⟩,trivial⟩ ⟨⟨2,.osl 0 _,rfl,rfl,.osl rfl rfl rfl⟩,trivial⟩) (by rintro x52;exact (hT)) ?_
 clear h
 rintro k x52 o hp h ho54
 replace h:merge_blocks_int_of.s1 b_ x52=some o:=h
 unfold merge_blocks_int_of.s1 at h
 conv=>whnf
 refine Side.mk rfl ?_
 conv=>whnf
 refine Side.mk rfl ?_
 conv=>whnf
 refine Side.mk rfl ?_
 conv=>whnf
 refine ⟨_,find_int _ wI _,?_⟩
 conv=>whnf
 refine Nf.mk (wI ((mget x52 b_.up).getD 0)) (getD_map rfl _) ?_
 conv=>whnf
 refine Nf.mk (mget x52 b_.up).isSome (isSome_map _) ?_
 conv=>whnf
 refine Both.mk ?_ ?_<;>intro b55
 replace h:=cond_t b55 h
 conv=>whnf
 cases h
 have ho54:_=_:=ho54
 cases ho54
 conv=>whnf
 exact Side.mk ⟨rfl,trivial⟩ ⟨rfl,rfl⟩
 replace h:=cond_f b55 h
 conv=>whnf
 cases h
 exact Nxt.mk _ ho54 (Ent.mk [(0,some 0),(65,some 65)] rfl ⟨⟨.agg [.osl 0 _],rfl,.agg (.cons (.osl rfl rfl rfl) (.nil))⟩,eI rfl rfl,⟨.own 65 _ 0,rfl,.own rfl rfl rfl⟩,trivial⟩ ⟨.inl ⟨0,rfl,rfl,⟨rfl,rfl⟩⟩,.inl ⟨65,rfl,rfl,trivial⟩,trivial⟩ ⟨⟨65,.osl 0 _,rfl,rfl,.osl rfl rfl rfl⟩,trivial⟩)
theorem sp_merge_blocks_int_join (b_:T_merge_blocks_int_) (x_:Int) (y_:Int) (r:List (Int×Int)) (h:OkA (.lent (.map (mapV wI wI b_.up)))→Ok (nI x_)→Ok (nI y_)→merge_blocks_int_join b_ x_ y_=some r):SpX Tryz.prog 66 (.lent .dead::.box 0 [.im .any]::[.lent (.map (mapV wI wI b_.up)),.im (nI x_),.im (nI y_)]) (.mk true [] [.lent (.map (mapV wI wI r))]):=by
 refine sp_ofA rfl [] 0 [.im .any] 2 rfl rfl rfl rfl (Nat.le_of_ble_eq_true rfl) (Nat.le_of_ble_eq_true rfl) rfl fun hk=>?_
 replace h:=h hk.1 hk.2.1 hk.2.2.1
 unfold merge_blocks_int_join at h
 conv=>whnf
 refine Side.mk rfl ?_
 conv=>whnf
 refine Side.mk rfl ?_
 conv=>whnf
 refine Side.mk rfl ?_
 conv=>whnf
 refine ⟨_,set_int _ x_ wI _,?_⟩
 conv=>whnf
 cases h
 conv=>whnf
 exact Side.mk ⟨rfl,trivial⟩ ⟨rfl,rfl⟩
end Go.Proofs.YteigfkncoiiaiaaGreatDoor.Sym

/-
  The contracts of the functions, read from the code by a program (ext.py): each function has its plain twin as its contract.
-/
namespace Go.Proofs.YteigfkncoiiaiaaGreatDoor.Sym
open Go.RowKit
set_option maxRecDepth 100000
set_option linter.unusedVariables false
set_option maxHeartbeats 4000000
theorem sp_merge_folded (p_:T_api_Part) (s_:Int) (t_:Int) (r:T_api_Part×List Int×Bool) (h:Ok (.agg (c_api_Part p_))→Ok (nI s_)→Ok (nI t_)→merge_folded p_ s_ t_=some r):Sp Tryz.prog 34 [.im (.agg (c_api_Part p_)),.im (nI s_),.im (nI t_)] (.tup [.agg (c_api_Part r.1),nL cI r.2.1,nB r.2.2]):=by
 refine sp_of rfl [35,47,63,73000,79000,94000,202000,209000,229000,700003,2073000,2079000,2094000,2202000,2209000,2229000,8000072,8000078,8000093,8000201,8000208,8000228,9000042,9000054] rfl rfl rfl (Nat.le_of_ble_eq_true rfl) rfl fun hk=>?_
 replace h:=h hk.1 hk.2.1 hk.2.2.1
 have z1:lZ p_.Next:=ok_len (Ok.agg_at hk.1 2 rfl)
 have z2:lZ p_.Out:=ok_len (Ok.agg_at hk.1 3 rfl)
 unfold merge_folded at h
 conv=>whnf
 refine Side.mk rfl ?_
 conv=>whnf
 refine Nf.mk (List.length p_.Next) len_map ?_
 conv=>whnf
 obtain ⟨⟨y77,y78⟩,hc,hk51⟩:=bind_some h
 clear h
 have h:=hc
 clear hc
 refine Cut.mk (mkSt [(1,.im (nI s_)),(2,.im (nI t_)),(3,.im (.ref (c_api_Part p_))),(6,.own 235 1 0),(9,.own 236 1 0)] [(235,.box 24 4),(236,.box 24 4),(237,.grid 25 3 1 (List.map (cL cI) y77) none),(238,.grid 25 3 1 (List.map (cL cI) y78) none)] [(235,0,.im (nI 0)),(235,1,.im (nI 0)),(235,2,.im (.val (.slice none 0 0))),(235,3,.im (.val (.slice none 0 0))),(236,0,.im (nI p_.Inputs)),(236,1,.im (nI 0)),(236,2,.osl 237 1),(236,3,.osl 238 1)]) (lZ y77∧lZ y78∧True) ((Holds.kdg 237 rfl).and ((Holds.kdg 238 rfl).and (hT))) ?_ (fun hp=>?_)
 conv=>whnf
 refine Loops.iter (fun (s:List (List Int)×List (List Int)×Nat)=>merge_folded.s2 p_ s.1 s.2.1 s.2.2) (fun (y84,y85,y86)=>mkSt [(1,.im (nI s_)),(2,.im (nI t_)),(3,.im (.ref (c_api_Part p_))),(6,.own 235 1 0),(9,.own 236 1 0),(29,.im (nI (↑(List.length p_.Next):Int))),(30,.im (nI (↑y86:Int)))] [(235,.box 24 4),(236,.box 24 4),(237,.grid 25 3 1 (List.map (cL cI) y84) none),(238,.grid 25 3 1 (List.map (cL cI) y85) none)] [(235,0,.im (nI 0)),(235,1,.im (nI 0)),(235,2,.im (.val (.slice none 0 0))),(235,3,.im (.val (.slice none 0 0))),(236,0,.im (nI p_.Inputs)),(236,1,.im (nI 0)),(236,2,.osl 237 1),(236,3,.osl 238 1)]) (fun (y84,y85,y86)=>lZ y84∧lZ y85∧True) h (Ent.mk [(235,some 6),(236,some 9),(237,none),(238,none)] rfl ⟨eI rfl rfl,eI rfl rfl,eI rfl rfl,⟨.own 6 _ 0,rfl,.own rfl rfl rfl⟩,⟨.own 9 _ 0,rfl,.own rfl rfl rfl⟩,eI rfl rfl,eI rfl rfl,trivial⟩ ⟨.inl ⟨6,rfl,rfl,trivial⟩,.inl ⟨9,rfl,rfl,trivial⟩,.inr ⟨rfl,rfl,.inr (.inl ⟨_,_,_,rfl⟩)⟩,.inr ⟨rfl,rfl,.inr (.inl ⟨_,_,_,rfl⟩)⟩,trivial⟩ ⟨⟨6,.im _,rfl,rfl,.im (Sub.rfl' rfl)⟩,⟨6,.im _,rfl,rfl,.im (Sub.rfl' rfl)⟩,⟨6,.im (.val (.slice none 0 0)),rfl,rfl,.im (Sub.rfl' rfl)⟩,⟨6,.im (.val (.slice none 0 0)),rfl,rfl,.im (Sub.rfl' rfl)⟩,⟨9,.im _,rfl,rfl,.im (Sub.rfl' rfl)⟩,⟨9,.im _,rfl,rfl,.im (Sub.rfl' rfl)⟩,⟨9,.im (.val (.slice none 0 0)),rfl,rfl,.made rfl rfl⟩,⟨9,.im (.val (.slice none 0 0)),rfl,rfl,.made rfl rfl⟩,trivial⟩) (by rintro ⟨y84,y85,y86⟩;exact ((Holds.kdg 237 rfl).and ((Holds.kdg 238 rfl).and (hT)))) ?_
 clear h
 rintro k ⟨y84,y85,y86⟩ o hp h ho94
 replace h:merge_folded.s2 p_ y84 y85 y86=some o:=h
 unfold merge_folded.s2 at h
 obtain ⟨z102,z103,_⟩:=hp
 conv=>whnf
 refine Both.mk ?_ ?_<;>intro b95
 obtain ⟨h,b95d⟩:=ctd b95 h
 conv=>whnf
 refine Side.mk rfl ?_
 conv=>whnf
 refine Side.mk rfl ?_
 conv=>whnf
 obtain ⟨e96,he96,h⟩:=idxn_some h
 refine ⟨_,⟨(by omega),map_at he96,rfl⟩,?_⟩
 conv=>whnf
 obtain ⟨c97,h⟩:=chk_some h
 refine Side.mk ⟨rfl,map_len (l:=e96) (c:=cI) fun _=>rfl,show capOk _ 8 by simpa only [List.length_map,List.length_cons,List.length_nil,Nat.zero_add] using c97⟩ ?_
 conv=>whnf
 refine Nf.mk (List.map cI ([]++e96)) (app_map (l:=[]) (m:=e96) (c:=cI)) ?_
 conv=>whnf
 refine Side.mk ⟨rfl,trivial⟩ ?_
 conv=>whnf
 refine Nf.mk (List.map (cL cI) [([]++e96)]) rfl ?_
 conv=>whnf
 obtain ⟨c98,h⟩:=chk_some h
 refine Side.mk ⟨rfl,rfl,trivial⟩ ?_
 conv=>whnf
 refine Side.mk (show capOk _ 24 by have hh_:=c98;simpa only [List.length_map] using hh_) ?_
 conv=>whnf
 refine Nf.mk (List.map (cL cI) (y84++[([]++e96)])) (app_map (l:=y84) (m:=[([]++e96)]) (c:=cL cI)) ?_
 conv=>whnf
 refine Side.mk rfl ?_
 conv=>whnf
 refine Side.mk rfl ?_
 conv=>whnf
 refine Side.mk rfl ?_
 conv=>whnf
 refine Side.mk rfl ?_
 conv=>whnf
 obtain ⟨e99,he99,h⟩:=idxn_some h
 refine ⟨_,⟨(by omega),map_at he99,rfl⟩,?_⟩
 conv=>whnf
 obtain ⟨c100,h⟩:=chk_some h
 refine Side.mk ⟨rfl,map_len (l:=e99) (c:=cI) fun _=>rfl,show capOk _ 8 by simpa only [List.length_map,List.length_cons,List.length_nil,Nat.zero_add] using c100⟩ ?_
 conv=>whnf
 refine Nf.mk (List.map cI ([]++e99)) (app_map (l:=[]) (m:=e99) (c:=cI)) ?_
 conv=>whnf
 refine Side.mk ⟨rfl,trivial⟩ ?_
 conv=>whnf
 refine Nf.mk (List.map (cL cI) [([]++e99)]) rfl ?_
 conv=>whnf
 obtain ⟨c101,h⟩:=chk_some h
 refine Side.mk ⟨rfl,rfl,trivial⟩ ?_
 conv=>whnf
 refine Side.mk (show capOk _ 24 by have hh_:=c101;simpa only [List.length_map] using hh_) ?_
 conv=>whnf
 refine Nf.mk (List.map (cL cI) (y85++[([]++e99)])) (app_map (l:=y85) (m:=[([]++e99)]) (c:=cL cI)) ?_
 conv=>whnf
 refine Side.mk rfl ?_
 conv=>whnf
 refine Side.mk rfl ?_
 conv=>whnf
 refine Arith.mk (by show inR _;unfold inR;omega) ?_
 conv=>whnf
 cases h
 exact Nxt.mk _ ho94 (eA [(235,some 235),(236,some 236),(237,some 43),(238,some 55)])
 obtain ⟨h,b95d⟩:=cfd b95 h
 conv=>whnf
 cases h
 have ho94:_=_:=ho94
 cases ho94
 exact Join.mk (eA [(235,some 235),(236,some 236),(237,some 237),(238,some 238)])
 replace h:merge_folded.k71 p_ s_ t_ y77 y78=some _:=hk51
 unfold merge_folded.k71 at h
 obtain ⟨z104,z105,_⟩:=hp
 conv=>whnf
 refine Side.mk rfl ?_
 conv=>whnf
 obtain ⟨oc,hc,hk106⟩:=bind_some h
 clear h
 have h:=hc
 clear hc
 refine Cut.mkS oc (Y:=List (List Int)×List (List Int)×(List (Int×Int))) (fun (y1156,y1157,y1158)=>mkSt [(3,.im (.ref (c_api_Part p_))),(6,.own 235 1 0),(9,.own 236 1 0),(11,.own 239 1 0)] [(235,.box 24 4),(236,.box 24 4),(237,.grid 25 3 1 (List.map (cL cI) y1156) none),(238,.grid 25 3 1 (List.map (cL cI) y1157) none),(239,.box 104 1),(240,.map (mapV wI wI y1158))] [(235,0,.im (nI 0)),(235,1,.im (nI 0)),(235,2,.im (.val (.slice none 0 0))),(235,3,.im (.val (.slice none 0 0))),(236,0,.im (nI p_.Inputs)),(236,1,.im (nI 0)),(236,2,.osl 237 1),(236,3,.osl 238 1),(239,0,.osl 240 1)]) (fun (y1156,y1157,y1158)=>lZ y1156∧lZ y1157∧True) (by rintro ⟨y1156,y1157,y1158⟩;exact ((Holds.kdg 237 rfl).and ((Holds.kdg 238 rfl).and (hT)))) ?_ ?_
 conv=>whnf
 refine Loops.iter (fun (s:List (List Int)×List (List Int)×(List (Int×Int))×List T_A2)=>merge_folded.s46 s.1 s.2.1 s.2.2.1 s.2.2.2) (fun (y1506,y1507,y1508,y1509)=>mkSt [(3,.im (.ref (c_api_Part p_))),(6,.own 235 1 0),(9,.own 236 1 0),(11,.own 239 1 0),(12,.osl 241 1)] [(235,.box 24 4),(236,.box 24 4),(237,.grid 25 3 1 (List.map (cL cI) y1506) none),(238,.grid 25 3 1 (List.map (cL cI) y1507) none),(239,.box 104 1),(240,.map (mapV wI wI y1508)),(241,.que 105 2 (List.map c_A2 y1509))] [(235,0,.im (nI 0)),(235,1,.im (nI 0)),(235,2,.im (.val (.slice none 0 0))),(235,3,.im (.val (.slice none 0 0))),(236,0,.im (nI p_.Inputs)),(236,1,.im (nI 0)),(236,2,.osl 237 1),(236,3,.osl 238 1),(239,0,.osl 240 1)]) (fun (y1506,y1507,y1508,y1509)=>lZ y1506∧lZ y1507∧lZ y1509∧True) h ((Ent.que 63 rfl).trans (eA [(235,some 235),(236,some 236),(237,some 237),(238,some 238),(239,some 11),(240,some 58),(241,some 63)])) (by rintro ⟨y1506,y1507,y1508,y1509⟩;exact ((Holds.kdg 237 rfl).and ((Holds.kdg 238 rfl).and ((Holds.kdql 241 rfl).and (hT))))) ?_
 clear h
 rintro k ⟨y1506,y1507,y1508,y1509⟩ o hp h ho1857
 replace h:merge_folded.s46 y1506 y1507 y1508 y1509=some o:=h
 unfold merge_folded.s46 at h
 obtain ⟨z2205,z2206,z2207,_⟩:=hp
 conv=>whnf
 refine Side.mk rfl ?_
 conv=>whnf
 refine Nf.mk (List.length y1509) len_map ?_
 conv=>whnf
 refine Both.mk ?_ ?_<;>intro b1858
 obtain ⟨h,b1858d⟩:=ctd b1858 h
 conv=>whnf
 obtain ⟨oc,hc,hk1859⟩:=bind_some h
 clear h
 have h:=hc
 clear hc
 refine Cut.mkS oc (Y:=List (List Int)×List (List Int)×(List (Int×Int))×List T_A2) (fun (y2029,y2030,y2031,y2032)=>mkSt [(3,.im (.ref (c_api_Part p_))),(6,.own 235 1 0),(9,.own 236 1 0),(11,.own 239 1 0),(12,.osl 241 1)] [(235,.box 24 4),(236,.box 24 4),(237,.grid 25 3 1 (List.map (cL cI) y2029) none),(238,.grid 25 3 1 (List.map (cL cI) y2030) none),(239,.box 104 1),(240,.map (mapV wI wI y2031)),(241,.que 105 2 (List.map c_A2 y2032))] [(235,0,.im (nI 0)),(235,1,.im (nI 0)),(235,2,.im (.val (.slice none 0 0))),(235,3,.im (.val (.slice none 0 0))),(236,0,.im (nI p_.Inputs)),(236,1,.im (nI 0)),(236,2,.osl 237 1),(236,3,.osl 238 1),(239,0,.osl 240 1)]) (fun (y2029,y2030,y2031,y2032)=>lZ y2029∧lZ y2030∧lZ y2032∧True) (by rintro ⟨y2029,y2030,y2031,y2032⟩;exact ((Holds.kdg 237 rfl).and ((Holds.kdg 238 rfl).and ((Holds.kdql 241 rfl).and (hT))))) ?_ ?_
 conv=>whnf
 refine Side.mk rfl ?_
 conv=>whnf
 obtain ⟨e2033,he2033,h⟩:=idxn_some h
 refine Side.mk ⟨(by omega),rfl,map_lt he2033⟩ ?_
 conv=>whnf
 refine Side.mk ⟨by decide,by decide,rfl⟩ ?_
 conv=>whnf
 refine ⟨_,_,⟨rfl,map_at he2033,rfl,rfl⟩,?_⟩
 conv=>whnf
 refine Side.mk ⟨rfl,trivial⟩ ?_
 conv=>whnf
 obtain ⟨c2034,hc2034,h⟩:=bind_some h
 refine ⟨_,(sp_merge_blocks_int_of (⟨y1508⟩:T_merge_blocks_int_) e2033.f0 c2034 (fun _ _=>hc2034)),?_⟩
 conv=>whnf
 refine Side.mk rfl ?_
 conv=>whnf
 obtain ⟨e2035,he2035,h⟩:=idxn_some h
 refine Side.mk ⟨(by omega),rfl,map_lt he2035⟩ ?_
 conv=>whnf
 refine Side.mk ⟨by decide,by decide,rfl⟩ ?_
 conv=>whnf
 refine ⟨_,_,⟨rfl,map_at he2035,rfl,rfl⟩,?_⟩
 conv=>whnf
 refine Side.mk ⟨rfl,trivial⟩ ?_
 conv=>whnf
 obtain ⟨c2036,hc2036,h⟩:=bind_some h
 refine ⟨_,(sp_merge_blocks_int_of (⟨c2034.2⟩:T_merge_blocks_int_) e2035.f1 c2036 (fun _ _=>hc2036)),?_⟩
 conv=>whnf
 obtain ⟨c2037,h⟩:=chk_some h
 refine Side.mk ⟨rfl,by decide,by have hh_:=c2037;simp only [List.length_map];exact hh_⟩ ?_
 conv=>whnf
 refine Nf.mk (List.map c_A2 (List.drop 1 y1509)) List.map_drop ?_
 conv=>whnf
 refine Both.mk ?_ ?_<;>intro b2038
 obtain ⟨h,b2038d⟩:=ctd b2038 h
 conv=>whnf
 cases h
 exact JoinS.mk' _ rfl (eA [(235,some 235),(236,some 236),(237,some 237),(238,some 238),(239,some 239),(240,some 240),(241,some 241)])
 obtain ⟨h,b2038d⟩:=cfd b2038 h
 conv=>whnf
 refine Side.mk rfl ?_
 conv=>whnf
 refine Side.mk ⟨rfl,trivial⟩ ?_
 conv=>whnf
 obtain ⟨c2039,hc2039,h⟩:=bind_some h
 refine ⟨_,(sp_merge_blocks_int_join (⟨c2036.2⟩:T_merge_blocks_int_) (min c2034.1 c2036.1) (max c2034.1 c2036.1) c2039 (fun _ _ _=>hc2039)),?_⟩
 conv=>whnf
 refine Side.mk rfl ?_
 conv=>whnf
 refine Side.mk rfl ?_
 conv=>whnf
 obtain ⟨e2040,he2040z,he2040,h⟩:=idx_some h
 refine Side.mk ⟨he2040z,rfl,map_lt he2040⟩ ?_
 conv=>whnf
 refine Side.mk ⟨rfl,map_lt he2040⟩ ?_
 conv=>whnf
 refine ⟨_,⟨rfl,map_at he2040⟩,?_⟩
 conv=>whnf
 refine Nf.mk (List.length e2040) len_map ?_
 conv=>whnf
 obtain ⟨oc,hc,hk2041⟩:=bind_some h
 clear h
 have h:=hc
 clear hc
 refine Cut.mkS oc (Y:=List (List Int)×List (List Int)×List T_A2) (fun (y2119,y2120,y2121)=>mkSt [(3,.im (.ref (c_api_Part p_))),(6,.own 235 1 0),(9,.own 236 1 0),(11,.own 239 1 0),(12,.osl 241 1)] [(235,.box 24 4),(236,.box 24 4),(237,.grid 25 3 1 (List.map (cL cI) y2119) none),(238,.grid 25 3 1 (List.map (cL cI) y2120) none),(239,.box 104 1),(240,.map (mapV wI wI c2039)),(241,.que 105 2 (List.map c_A2 y2121))] [(235,0,.im (nI 0)),(235,1,.im (nI 0)),(235,2,.im (.val (.slice none 0 0))),(235,3,.im (.val (.slice none 0 0))),(236,0,.im (nI p_.Inputs)),(236,1,.im (nI 0)),(236,2,.osl 237 1),(236,3,.osl 238 1),(239,0,.osl 240 1)]) (fun (y2119,y2120,y2121)=>lZ y2119∧lZ y2120∧lZ y2121∧True) (by rintro ⟨y2119,y2120,y2121⟩;exact ((Holds.kdg 237 rfl).and ((Holds.kdg 238 rfl).and ((Holds.kdql 241 rfl).and (hT))))) ?_ ?_
 conv=>whnf
 refine Loops.iter (fun (s:List (List Int)×List (List Int)×List T_A2×Nat)=>merge_folded.s43 c2034 c2036 e2040 s.1 s.2.1 s.2.2.1 s.2.2.2) (fun (y2143,y2144,y2145,y2146)=>mkSt [(3,.im (.ref (c_api_Part p_))),(6,.own 235 1 0),(9,.own 236 1 0),(11,.own 239 1 0),(12,.osl 241 1),(13,.im (nI (min c2034.1 c2036.1))),(14,.im (nI (max c2034.1 c2036.1))),(98,.sub 237 0 (Int.toNat (max c2034.1 c2036.1))),(99,.im (nI (↑(List.length e2040):Int))),(100,.im (nI (↑y2146:Int)))] [(235,.box 24 4),(236,.box 24 4),(237,.grid 25 3 1 (List.map (cL cI) y2143) none),(238,.grid 25 3 1 (List.map (cL cI) y2144) none),(239,.box 104 1),(240,.map (mapV wI wI c2039)),(241,.que 105 2 (List.map c_A2 y2145))] [(235,0,.im (nI 0)),(235,1,.im (nI 0)),(235,2,.im (.val (.slice none 0 0))),(235,3,.im (.val (.slice none 0 0))),(236,0,.im (nI p_.Inputs)),(236,1,.im (nI 0)),(236,2,.osl 237 1),(236,3,.osl 238 1),(239,0,.osl 240 1)]) (fun (y2143,y2144,y2145,y2146)=>lZ y2143∧lZ y2144∧lZ y2145∧True) h (Ent.mk [(235,some 235),(236,some 236),(237,some 237),(238,some 238),(239,some 239),(240,some 240),(241,some 241)] rfl ⟨eI rfl rfl,⟨.own 235 _ 0,rfl,.own rfl rfl rfl⟩,⟨.own 236 _ 0,rfl,.own rfl rfl rfl⟩,⟨.own 239 _ 0,rfl,.own rfl rfl rfl⟩,⟨.osl 241 _,rfl,.osl rfl rfl rfl⟩,eI rfl rfl,eI rfl rfl,⟨.sub 237 _ _,rfl,.sub rfl rfl⟩,eI rfl rfl,eI rfl rfl,trivial⟩ ⟨.inl ⟨235,rfl,rfl,trivial⟩,.inl ⟨236,rfl,rfl,trivial⟩,.inl ⟨237,rfl,rfl,trivial⟩,.inl ⟨238,rfl,rfl,trivial⟩,.inl ⟨239,rfl,rfl,trivial⟩,.inl ⟨240,rfl,rfl,trivial⟩,.inl ⟨241,rfl,rfl,trivial⟩,trivial⟩ ⟨⟨235,.im _,rfl,rfl,.im (Sub.rfl' rfl)⟩,⟨235,.im _,rfl,rfl,.im (Sub.rfl' rfl)⟩,⟨235,.im (.val (.slice none 0 0)),rfl,rfl,.im (Sub.rfl' rfl)⟩,⟨235,.im (.val (.slice none 0 0)),rfl,rfl,.im (Sub.rfl' rfl)⟩,⟨236,.im _,rfl,rfl,.im (Sub.rfl' rfl)⟩,⟨236,.im _,rfl,rfl,.im (Sub.rfl' rfl)⟩,⟨236,.osl 237 _,rfl,rfl,.osl rfl rfl rfl⟩,⟨236,.osl 238 _,rfl,rfl,.osl rfl rfl rfl⟩,⟨239,.osl 240 _,rfl,rfl,.osl rfl rfl rfl⟩,trivial⟩) (by rintro ⟨y2143,y2144,y2145,y2146⟩;exact ((Holds.kdg 237 rfl).and ((Holds.kdg 238 rfl).and ((Holds.kdql 241 rfl).and (hT))))) ?_
 clear h
 rintro k ⟨y2143,y2144,y2145,y2146⟩ o hp h ho2171
 replace h:merge_folded.s43 c2034 c2036 e2040 y2143 y2144 y2145 y2146=some o:=h
 unfold merge_folded.s43 at h
 obtain ⟨z2196,z2197,z2198,_⟩:=hp
 conv=>whnf
 refine Both.mk ?_ ?_<;>intro b2172
 obtain ⟨h,b2172d⟩:=ctd b2172 h
 conv=>whnf
 obtain ⟨e2174,he2174,h⟩:=idxn_some h
 obtain ⟨e2173,he2173,h⟩:=idxn_some h
 refine ⟨_,⟨(by omega),rfl,map_at he2174,map_lt he2173⟩,?_⟩
 conv=>whnf
 refine ⟨_,_,_,⟨rfl,map_at he2174,map_at he2173,rfl⟩,?_⟩
 conv=>whnf
 refine Both.mk ?_ ?_<;>intro b2175
 obtain ⟨h,b2175d⟩:=ctd b2175 h
 conv=>whnf
 obtain ⟨c2176,h⟩:=chk_some h
 refine Arith.mk c2176 ?_
 conv=>whnf
 cases h
 exact Nxt.mk _ ho2171 (Ent.mk [(235,some 235),(236,some 236),(237,some 237),(238,some 238),(239,some 239),(240,some 240),(241,some 241)] rfl ⟨eI rfl rfl,⟨.own 235 _ 0,rfl,.own rfl rfl rfl⟩,⟨.own 236 _ 0,rfl,.own rfl rfl rfl⟩,⟨.own 239 _ 0,rfl,.own rfl rfl rfl⟩,⟨.osl 241 _,rfl,.osl rfl rfl rfl⟩,eI rfl rfl,eI rfl rfl,⟨.sub 237 _ _,rfl,.sub rfl rfl⟩,eI rfl rfl,eI rfl rfl,trivial⟩ ⟨.inl ⟨235,rfl,rfl,trivial⟩,.inl ⟨236,rfl,rfl,trivial⟩,.inl ⟨237,rfl,rfl,trivial⟩,.inl ⟨238,rfl,rfl,trivial⟩,.inl ⟨239,rfl,rfl,trivial⟩,.inl ⟨240,rfl,rfl,trivial⟩,.inl ⟨241,rfl,rfl,trivial⟩,trivial⟩ ⟨⟨235,.im _,rfl,rfl,.im (Sub.rfl' rfl)⟩,⟨235,.im _,rfl,rfl,.im (Sub.rfl' rfl)⟩,⟨235,.im (.val (.slice none 0 0)),rfl,rfl,.im (Sub.rfl' rfl)⟩,⟨235,.im (.val (.slice none 0 0)),rfl,rfl,.im (Sub.rfl' rfl)⟩,⟨236,.im _,rfl,rfl,.im (Sub.rfl' rfl)⟩,⟨236,.im _,rfl,rfl,.im (Sub.rfl' rfl)⟩,⟨236,.osl 237 _,rfl,rfl,.osl rfl rfl rfl⟩,⟨236,.osl 238 _,rfl,rfl,.osl rfl rfl rfl⟩,⟨239,.osl 240 _,rfl,rfl,.osl rfl rfl rfl⟩,trivial⟩)
 obtain ⟨h,b2175d⟩:=cfd b2175 h
 conv=>whnf
 refine Side.mk rfl ?_
 conv=>whnf
 refine Side.mk rfl ?_
 conv=>whnf
 obtain ⟨e2177,he2177z,he2177,h⟩:=idx_some h
 refine Side.mk ⟨he2177z,rfl,map_lt he2177⟩ ?_
 conv=>whnf
 refine Side.mk ⟨rfl,map_lt he2177⟩ ?_
 conv=>whnf
 obtain ⟨e2178,he2178,h⟩:=idxn_some h
 refine ⟨_,⟨(by omega),rfl,map_at he2177,map_lt he2178⟩,?_⟩
 conv=>whnf
 refine ⟨_,_,_,⟨rfl,map_at he2177,map_at he2178,rfl⟩,?_⟩
 conv=>whnf
 refine Both.mk ?_ ?_<;>intro b2179
 obtain ⟨h,b2179d⟩:=ctd b2179 h
 conv=>whnf
 refine Side.mk rfl ?_
 conv=>whnf
 refine Side.mk rfl ?_
 conv=>whnf
 obtain ⟨e2180,he2180z,he2180,h⟩:=idx_some h
 refine Side.mk ⟨he2180z,rfl,map_lt he2180⟩ ?_
 conv=>whnf
 refine Side.mk ⟨rfl,map_lt he2180⟩ ?_
 conv=>whnf
 refine Side.mk rfl ?_
 conv=>whnf
 refine Side.mk rfl ?_
 conv=>whnf
 obtain ⟨e2181,he2181z,he2181,h⟩:=idx_some h
 refine Side.mk ⟨he2181z,rfl,map_lt he2181⟩ ?_
 conv=>whnf
 refine Side.mk ⟨rfl,map_lt he2181⟩ ?_
 conv=>whnf
 refine Side.mk rfl ?_
 conv=>whnf
 refine Side.mk rfl ?_
 conv=>whnf
 obtain ⟨e2182,he2182z,he2182,h⟩:=idx_some h
 refine Side.mk ⟨he2182z,rfl,map_lt he2182⟩ ?_
 conv=>whnf
 refine Side.mk ⟨rfl,map_lt he2182⟩ ?_
 conv=>whnf
 obtain ⟨e2183,he2183,h⟩:=idxn_some h
 refine ⟨_,⟨(by omega),rfl,map_at he2182,map_lt he2183⟩,?_⟩
 conv=>whnf
 refine ⟨_,_,_,⟨rfl,map_at he2182,map_at he2183,rfl⟩,?_⟩
 conv=>whnf
 obtain ⟨e2184,he2184,h⟩:=idxn_some h
 refine ⟨_,⟨(by omega),rfl,map_at he2180,map_lt he2184⟩,?_⟩
 conv=>whnf
 refine ⟨_,_,⟨rfl,map_at he2180,map_at he2184⟩,?_⟩
 conv=>whnf
 refine Nf.mk (List.map (cL cI) (List.set y2143 (Int.toNat (min c2034.1 c2036.1)) (List.set e2180 y2146 e2173))) (set_grid2 rfl) ?_
 conv=>whnf
 obtain ⟨e2185,he2185,h⟩:=idxn_some h
 refine ⟨_,⟨(by omega),rfl,map_at he2181,map_lt he2185⟩,?_⟩
 conv=>whnf
 refine ⟨_,_,⟨rfl,map_at he2181,map_at he2185⟩,?_⟩
 conv=>whnf
 refine Nf.mk (List.map (cL cI) (List.set y2144 (Int.toNat (min c2034.1 c2036.1)) (List.set e2181 y2146 e2183))) (set_grid2 rfl) ?_
 conv=>whnf
 obtain ⟨c2186,h⟩:=chk_some h
 refine Arith.mk c2186 ?_
 conv=>whnf
 cases h
 exact Nxt.mk _ ho2171 (Ent.mk [(235,some 235),(236,some 236),(237,some 237),(238,some 238),(239,some 239),(240,some 240),(241,some 241)] rfl ⟨eI rfl rfl,⟨.own 235 _ 0,rfl,.own rfl rfl rfl⟩,⟨.own 236 _ 0,rfl,.own rfl rfl rfl⟩,⟨.own 239 _ 0,rfl,.own rfl rfl rfl⟩,⟨.osl 241 _,rfl,.osl rfl rfl rfl⟩,eI rfl rfl,eI rfl rfl,⟨.sub 237 _ _,rfl,.sub rfl rfl⟩,eI rfl rfl,eI rfl rfl,trivial⟩ ⟨.inl ⟨235,rfl,rfl,trivial⟩,.inl ⟨236,rfl,rfl,trivial⟩,.inl ⟨237,rfl,rfl,trivial⟩,.inl ⟨238,rfl,rfl,trivial⟩,.inl ⟨239,rfl,rfl,trivial⟩,.inl ⟨240,rfl,rfl,trivial⟩,.inl ⟨241,rfl,rfl,trivial⟩,trivial⟩ ⟨⟨235,.im _,rfl,rfl,.im (Sub.rfl' rfl)⟩,⟨235,.im _,rfl,rfl,.im (Sub.rfl' rfl)⟩,⟨235,.im (.val (.slice none 0 0)),rfl,rfl,.im (Sub.rfl' rfl)⟩,⟨235,.im (.val (.slice none 0 0)),rfl,rfl,.im (Sub.rfl' rfl)⟩,⟨236,.im _,rfl,rfl,.im (Sub.rfl' rfl)⟩,⟨236,.im _,rfl,rfl,.im (Sub.rfl' rfl)⟩,⟨236,.osl 237 _,rfl,rfl,.osl rfl rfl rfl⟩,⟨236,.osl 238 _,rfl,rfl,.osl rfl rfl rfl⟩,⟨239,.osl 240 _,rfl,rfl,.osl rfl rfl rfl⟩,trivial⟩)
 obtain ⟨h,b2179d⟩:=cfd b2179 h
 conv=>whnf
 refine Side.mk rfl ?_
 conv=>whnf
 refine Side.mk rfl ?_
 conv=>whnf
 obtain ⟨e2187,he2187z,he2187,h⟩:=idx_some h
 refine Side.mk ⟨he2187z,rfl,map_lt he2187⟩ ?_
 conv=>whnf
 refine Side.mk ⟨rfl,map_lt he2187⟩ ?_
 conv=>whnf
 obtain ⟨e2188,he2188,h⟩:=idxn_some h
 refine ⟨_,⟨(by omega),rfl,map_at he2187,map_lt he2188⟩,?_⟩
 conv=>whnf
 refine ⟨_,_,_,⟨rfl,map_at he2187,map_at he2188,rfl⟩,?_⟩
 conv=>whnf
 refine Side.mk rfl ?_
 conv=>whnf
 refine Side.mk rfl ?_
 conv=>whnf
 obtain ⟨e2189,he2189z,he2189,h⟩:=idx_some h
 refine Side.mk ⟨he2189z,rfl,map_lt he2189⟩ ?_
 conv=>whnf
 refine Side.mk ⟨rfl,map_lt he2189⟩ ?_
 conv=>whnf
 obtain ⟨e2190,he2190,h⟩:=idxn_some h
 refine ⟨_,⟨(by omega),rfl,map_at he2189,map_lt he2190⟩,?_⟩
 conv=>whnf
 refine ⟨_,_,_,⟨rfl,map_at he2189,map_at he2190,rfl⟩,?_⟩
 conv=>whnf
 refine Both.mk ?_ ?_<;>intro b2191
 obtain ⟨h,b2191d⟩:=ctd b2191 h
 conv=>whnf
 refine Side.mk rfl ?_
 conv=>whnf
 cases h
 have ho2171:_=_:=ho2171
 cases ho2171
 replace h:some _=some _:=hk2041
 cases h
 replace h:some _=some _:=hk1859
 cases h
 have ho1857:_=_:=ho1857
 cases ho1857
 replace h:some _=some _:=hk106
 cases h
 conv=>whnf
 refine Side.mk ⟨rfl,trivial⟩ ?_
 conv=>whnf
 exact ⟨rfl,rfl⟩
 obtain ⟨h,b2191d⟩:=cfd b2191 h
 conv=>whnf
 refine Side.mk rfl ?_
 conv=>whnf
 refine Side.mk rfl ?_
 conv=>whnf
 obtain ⟨e2192,he2192z,he2192,h⟩:=idx_some h
 refine Side.mk ⟨he2192z,rfl,map_lt he2192⟩ ?_
 conv=>whnf
 refine Side.mk ⟨rfl,map_lt he2192⟩ ?_
 conv=>whnf
 obtain ⟨e2193,he2193,h⟩:=idxn_some h
 refine ⟨_,⟨(by omega),rfl,map_at he2192,map_lt he2193⟩,?_⟩
 conv=>whnf
 refine ⟨_,_,_,⟨rfl,map_at he2192,map_at he2193,rfl⟩,?_⟩
 conv=>whnf
 obtain ⟨c2194,h⟩:=chk_some h
 refine Side.mk ⟨rfl,Nat.succ_pos _,map_len (l:=[(⟨e2193,e2173⟩:T_A2)]) (c:=c_A2) fun _=>rfl,show capOk _ 16 by simpa only [List.length_map,List.length_cons,List.length_nil,Nat.zero_add] using c2194⟩ ?_
 conv=>whnf
 refine Nf.mk (List.map c_A2 (y2145++[(⟨e2193,e2173⟩:T_A2)])) (app_map (l:=y2145) (m:=[(⟨e2193,e2173⟩:T_A2)]) (c:=c_A2)) ?_
 conv=>whnf
 obtain ⟨c2195,h⟩:=chk_some h
 refine Arith.mk c2195 ?_
 conv=>whnf
 cases h
 exact Nxt.mk _ ho2171 (Ent.mk [(235,some 235),(236,some 236),(237,some 237),(238,some 238),(239,some 239),(240,some 240),(241,some 241)] rfl ⟨eI rfl rfl,⟨.own 235 _ 0,rfl,.own rfl rfl rfl⟩,⟨.own 236 _ 0,rfl,.own rfl rfl rfl⟩,⟨.own 239 _ 0,rfl,.own rfl rfl rfl⟩,⟨.osl 241 _,rfl,.osl rfl rfl rfl⟩,eI rfl rfl,eI rfl rfl,⟨.sub 237 _ _,rfl,.sub rfl rfl⟩,eI rfl rfl,eI rfl rfl,trivial⟩ ⟨.inl ⟨235,rfl,rfl,trivial⟩,.inl ⟨236,rfl,rfl,trivial⟩,.inl ⟨237,rfl,rfl,trivial⟩,.inl ⟨238,rfl,rfl,trivial⟩,.inl ⟨239,rfl,rfl,trivial⟩,.inl ⟨240,rfl,rfl,trivial⟩,.inl ⟨241,rfl,rfl,trivial⟩,trivial⟩ ⟨⟨235,.im _,rfl,rfl,.im (Sub.rfl' rfl)⟩,⟨235,.im _,rfl,rfl,.im (Sub.rfl' rfl)⟩,⟨235,.im (.val (.slice none 0 0)),rfl,rfl,.im (Sub.rfl' rfl)⟩,⟨235,.im (.val (.slice none 0 0)),rfl,rfl,.im (Sub.rfl' rfl)⟩,⟨236,.im _,rfl,rfl,.im (Sub.rfl' rfl)⟩,⟨236,.im _,rfl,rfl,.im (Sub.rfl' rfl)⟩,⟨236,.osl 237 _,rfl,rfl,.osl rfl rfl rfl⟩,⟨236,.osl 238 _,rfl,rfl,.osl rfl rfl rfl⟩,⟨239,.osl 240 _,rfl,rfl,.osl rfl rfl rfl⟩,trivial⟩)
 obtain ⟨h,b2172d⟩:=cfd b2172 h
 conv=>whnf
 cases h
 have ho2171:_=_:=ho2171
 cases ho2171
 exact JoinS.mk' _ rfl (eA [(235,some 235),(236,some 236),(237,some 237),(238,some 238),(239,some 239),(240,some 240),(241,some 241)])
 rintro ⟨y2119,y2120,y2121⟩ rfl hp
 have hx_:=sum_inl hk2041
 replace h:merge_folded.k44 c2039 y2119 y2120 y2121=some _:=hx_
 clear hx_
 unfold merge_folded.k44 at h
 obtain ⟨z2199,z2200,z2201,_⟩:=hp
 conv=>whnf
 cases h
 exact JoinS.mk' _ rfl (eA [(235,some 235),(236,some 236),(237,some 237),(238,some 238),(239,some 239),(240,some 240),(241,some 241)])
 rintro ⟨y2029,y2030,y2031,y2032⟩ rfl hp
 have hx_:=sum_inl hk1859
 replace h:merge_folded.k45 y2029 y2030 y2031 y2032=some _:=hx_
 clear hx_
 unfold merge_folded.k45 at h
 obtain ⟨z2202,z2203,z2204,_⟩:=hp
 conv=>whnf
 cases h
 exact Nxt.mk _ ho1857 (eA [(235,some 235),(236,some 236),(237,some 237),(238,some 238),(239,some 239),(240,some 240),(241,some 241)])
 obtain ⟨h,b1858d⟩:=cfd b1858 h
 conv=>whnf
 cases h
 have ho1857:_=_:=ho1857
 cases ho1857
 exact JoinS.mk' _ rfl (eA [(235,some 235),(236,some 236),(237,some 237),(238,some 238),(239,some 239),(240,some 240)])
 rintro ⟨y1156,y1157,y1158⟩ rfl hp
 have hx_:=sum_inl hk106
 replace h:merge_folded.k70 p_ y1156 y1157 y1158=some _:=hx_
 clear hx_
 unfold merge_folded.k70 at h
 obtain ⟨z2208,z2209,_⟩:=hp
 conv=>whnf
 refine Side.mk rfl ?_
 conv=>whnf
 refine Side.mk rfl ?_
 conv=>whnf
 refine Side.mk rfl ?_
 conv=>whnf
 refine Nf.mk (List.length y1156) len_map ?_
 conv=>whnf
 obtain ⟨⟨y2424,y2425⟩,hc,hk2210⟩:=bind_some h
 clear h
 have h:=hc
 clear hc
 refine Cut.mk (mkSt [(3,.im (.ref (c_api_Part p_))),(6,.own 235 1 0),(9,.own 236 1 0),(11,.own 239 1 0)] [(235,.box 24 4),(236,.box 24 4),(237,.grid 25 3 1 (List.map (cL cI) y2424) none),(238,.grid 25 3 1 (List.map (cL cI) y1157) none),(239,.box 104 1),(240,.map (mapV wI wI y2425))] [(235,0,.im (nI 0)),(235,1,.im (nI 0)),(235,2,.im (.val (.slice none 0 0))),(235,3,.im (.val (.slice none 0 0))),(236,0,.im (nI p_.Inputs)),(236,1,.im (nI 0)),(236,2,.osl 237 1),(236,3,.osl 238 1),(239,0,.osl 240 1)]) (lZ y2424∧lZ y1157∧True) ((Holds.kdg 237 rfl).and ((Holds.kdg 238 rfl).and (hT))) ?_ (fun hp=>?_)
 conv=>whnf
 refine Loops.iter (fun (s:List (List Int)×(List (Int×Int))×Nat)=>merge_folded.s66 y1156 s.1 s.2.1 s.2.2) (fun (y2495,y2496,y2497)=>mkSt [(3,.im (.ref (c_api_Part p_))),(6,.own 235 1 0),(9,.own 236 1 0),(11,.own 239 1 0),(176,.im (nI (↑(List.length y1156):Int))),(177,.im (nI (↑y2497:Int)))] [(235,.box 24 4),(236,.box 24 4),(237,.grid 25 3 1 (List.map (cL cI) y2495) none),(238,.grid 25 3 1 (List.map (cL cI) y1157) none),(239,.box 104 1),(240,.map (mapV wI wI y2496))] [(235,0,.im (nI 0)),(235,1,.im (nI 0)),(235,2,.im (.val (.slice none 0 0))),(235,3,.im (.val (.slice none 0 0))),(236,0,.im (nI p_.Inputs)),(236,1,.im (nI 0)),(236,2,.osl 237 1),(236,3,.osl 238 1),(239,0,.osl 240 1)]) (fun (y2495,y2496,y2497)=>lZ y2495∧lZ y1157∧True) h (eA [(235,some 235),(236,some 236),(237,some 237),(238,some 238),(239,some 239),(240,some 240)]) (by rintro ⟨y2495,y2496,y2497⟩;exact ((Holds.kdg 237 rfl).and ((Holds.kdg 238 rfl).and (hT)))) ?_
 clear h
 rintro k ⟨y2495,y2496,y2497⟩ o hp h ho2567
 replace h:merge_folded.s66 y1156 y2495 y2496 y2497=some o:=h
 unfold merge_folded.s66 at h
 obtain ⟨z2637,z2638,_⟩:=hp
 conv=>whnf
 refine Both.mk ?_ ?_<;>intro b2568
 obtain ⟨h,b2568d⟩:=ctd b2568 h
 conv=>whnf
 refine Side.mk rfl ?_
 conv=>whnf
 refine Side.mk rfl ?_
 conv=>whnf
 obtain ⟨e2569,he2569,h⟩:=idxn_some h
 refine Side.mk ⟨(by omega),rfl,map_lt he2569⟩ ?_
 conv=>whnf
 refine Side.mk ⟨rfl,map_lt he2569⟩ ?_
 conv=>whnf
 refine ⟨_,⟨rfl,map_at he2569⟩,?_⟩
 conv=>whnf
 refine Nf.mk (List.length e2569) len_map ?_
 conv=>whnf
 obtain ⟨⟨y2602,y2603⟩,hc,hk2570⟩:=bind_some h
 clear h
 have h:=hc
 clear hc
 refine Cut.mk (mkSt [(3,.im (.ref (c_api_Part p_))),(6,.own 235 1 0),(9,.own 236 1 0),(11,.own 239 1 0),(176,.im (nI (↑(List.length y1156):Int))),(177,.im (nI (↑y2497:Int)))] [(235,.box 24 4),(236,.box 24 4),(237,.grid 25 3 1 (List.map (cL cI) y2602) none),(238,.grid 25 3 1 (List.map (cL cI) y1157) none),(239,.box 104 1),(240,.map (mapV wI wI y2603))] [(235,0,.im (nI 0)),(235,1,.im (nI 0)),(235,2,.im (.val (.slice none 0 0))),(235,3,.im (.val (.slice none 0 0))),(236,0,.im (nI p_.Inputs)),(236,1,.im (nI 0)),(236,2,.osl 237 1),(236,3,.osl 238 1),(239,0,.osl 240 1)]) (lZ y2602∧lZ y1157∧True) ((Holds.kdg 237 rfl).and ((Holds.kdg 238 rfl).and (hT))) ?_ (fun hp=>?_)
 conv=>whnf
 refine Loops.iter (fun (s:List (List Int)×(List (Int×Int))×Nat)=>merge_folded.s64 y2497 e2569 s.1 s.2.1 s.2.2) (fun (y2611,y2612,y2613)=>mkSt [(3,.im (.ref (c_api_Part p_))),(6,.own 235 1 0),(9,.own 236 1 0),(11,.own 239 1 0),(17,.im (nI (↑y2497:Int))),(176,.im (nI (↑(List.length y1156):Int))),(177,.im (nI (↑y2497:Int))),(184,.sub 237 0 y2497),(185,.im (nI (↑(List.length e2569):Int))),(186,.im (nI (↑y2613:Int)))] [(235,.box 24 4),(236,.box 24 4),(237,.grid 25 3 1 (List.map (cL cI) y2611) none),(238,.grid 25 3 1 (List.map (cL cI) y1157) none),(239,.box 104 1),(240,.map (mapV wI wI y2612))] [(235,0,.im (nI 0)),(235,1,.im (nI 0)),(235,2,.im (.val (.slice none 0 0))),(235,3,.im (.val (.slice none 0 0))),(236,0,.im (nI p_.Inputs)),(236,1,.im (nI 0)),(236,2,.osl 237 1),(236,3,.osl 238 1),(239,0,.osl 240 1)]) (fun (y2611,y2612,y2613)=>lZ y2611∧lZ y1157∧True) h (Ent.mk [(235,some 235),(236,some 236),(237,some 237),(238,some 238),(239,some 239),(240,some 240)] rfl ⟨eI rfl rfl,⟨.own 235 _ 0,rfl,.own rfl rfl rfl⟩,⟨.own 236 _ 0,rfl,.own rfl rfl rfl⟩,⟨.own 239 _ 0,rfl,.own rfl rfl rfl⟩,eI rfl rfl,eI rfl rfl,eI rfl rfl,⟨.sub 237 _ _,rfl,.sub rfl rfl⟩,eI rfl rfl,eI rfl rfl,trivial⟩ ⟨.inl ⟨235,rfl,rfl,trivial⟩,.inl ⟨236,rfl,rfl,trivial⟩,.inl ⟨237,rfl,rfl,trivial⟩,.inl ⟨238,rfl,rfl,trivial⟩,.inl ⟨239,rfl,rfl,trivial⟩,.inl ⟨240,rfl,rfl,trivial⟩,trivial⟩ ⟨⟨235,.im _,rfl,rfl,.im (Sub.rfl' rfl)⟩,⟨235,.im _,rfl,rfl,.im (Sub.rfl' rfl)⟩,⟨235,.im (.val (.slice none 0 0)),rfl,rfl,.im (Sub.rfl' rfl)⟩,⟨235,.im (.val (.slice none 0 0)),rfl,rfl,.im (Sub.rfl' rfl)⟩,⟨236,.im _,rfl,rfl,.im (Sub.rfl' rfl)⟩,⟨236,.im _,rfl,rfl,.im (Sub.rfl' rfl)⟩,⟨236,.osl 237 _,rfl,rfl,.osl rfl rfl rfl⟩,⟨236,.osl 238 _,rfl,rfl,.osl rfl rfl rfl⟩,⟨239,.osl 240 _,rfl,rfl,.osl rfl rfl rfl⟩,trivial⟩) (by rintro ⟨y2611,y2612,y2613⟩;exact ((Holds.kdg 237 rfl).and ((Holds.kdg 238 rfl).and (hT)))) ?_
 clear h
 rintro k ⟨y2611,y2612,y2613⟩ o hp h ho2623
 replace h:merge_folded.s64 y2497 e2569 y2611 y2612 y2613=some o:=h
 unfold merge_folded.s64 at h
 obtain ⟨z2633,z2634,_⟩:=hp
 conv=>whnf
 refine Both.mk ?_ ?_<;>intro b2624
 obtain ⟨h,b2624d⟩:=ctd b2624 h
 conv=>whnf
 obtain ⟨e2626,he2626,h⟩:=idxn_some h
 obtain ⟨e2625,he2625,h⟩:=idxn_some h
 refine ⟨_,⟨(by omega),rfl,map_at he2626,map_lt he2625⟩,?_⟩
 conv=>whnf
 refine ⟨_,_,_,⟨rfl,map_at he2626,map_at he2625,rfl⟩,?_⟩
 conv=>whnf
 refine Both.mk ?_ ?_<;>intro b2627
 obtain ⟨h,b2627d⟩:=ctd b2627 h
 conv=>whnf
 refine Side.mk rfl ?_
 conv=>whnf
 refine Side.mk rfl ?_
 conv=>whnf
 obtain ⟨e2628,he2628,h⟩:=idxn_some h
 refine Side.mk ⟨(by omega),rfl,map_lt he2628⟩ ?_
 conv=>whnf
 refine Side.mk ⟨rfl,map_lt he2628⟩ ?_
 conv=>whnf
 refine Side.mk rfl ?_
 conv=>whnf
 refine Side.mk ⟨rfl,trivial⟩ ?_
 conv=>whnf
 obtain ⟨c2629,hc2629,h⟩:=bind_some h
 refine ⟨_,(sp_merge_blocks_int_of (⟨y2612⟩:T_merge_blocks_int_) e2625 c2629 (fun _ _=>hc2629)),?_⟩
 conv=>whnf
 obtain ⟨e2630,he2630,h⟩:=idxn_some h
 refine ⟨_,⟨(by omega),rfl,map_at he2628,map_lt he2630⟩,?_⟩
 conv=>whnf
 refine ⟨_,_,⟨rfl,map_at he2628,map_at he2630⟩,?_⟩
 conv=>whnf
 refine Nf.mk (List.map (cL cI) (List.set y2611 y2497 (List.set e2628 y2613 c2629.1))) (set_grid2 rfl) ?_
 conv=>whnf
 obtain ⟨c2631,h⟩:=chk_some h
 refine Arith.mk c2631 ?_
 conv=>whnf
 cases h
 exact Nxt.mk _ ho2623 (Ent.mk [(235,some 235),(236,some 236),(237,some 237),(238,some 238),(239,some 239),(240,some 240)] rfl ⟨eI rfl rfl,⟨.own 235 _ 0,rfl,.own rfl rfl rfl⟩,⟨.own 236 _ 0,rfl,.own rfl rfl rfl⟩,⟨.own 239 _ 0,rfl,.own rfl rfl rfl⟩,eI rfl rfl,eI rfl rfl,eI rfl rfl,⟨.sub 237 _ _,rfl,.sub rfl rfl⟩,eI rfl rfl,eI rfl rfl,trivial⟩ ⟨.inl ⟨235,rfl,rfl,trivial⟩,.inl ⟨236,rfl,rfl,trivial⟩,.inl ⟨237,rfl,rfl,trivial⟩,.inl ⟨238,rfl,rfl,trivial⟩,.inl ⟨239,rfl,rfl,trivial⟩,.inl ⟨240,rfl,rfl,trivial⟩,trivial⟩ ⟨⟨235,.im _,rfl,rfl,.im (Sub.rfl' rfl)⟩,⟨235,.im _,rfl,rfl,.im (Sub.rfl' rfl)⟩,⟨235,.im (.val (.slice none 0 0)),rfl,rfl,.im (Sub.rfl' rfl)⟩,⟨235,.im (.val (.slice none 0 0)),rfl,rfl,.im (Sub.rfl' rfl)⟩,⟨236,.im _,rfl,rfl,.im (Sub.rfl' rfl)⟩,⟨236,.im _,rfl,rfl,.im (Sub.rfl' rfl)⟩,⟨236,.osl 237 _,rfl,rfl,.osl rfl rfl rfl⟩,⟨236,.osl 238 _,rfl,rfl,.osl rfl rfl rfl⟩,⟨239,.osl 240 _,rfl,rfl,.osl rfl rfl rfl⟩,trivial⟩)
 obtain ⟨h,b2627d⟩:=cfd b2627 h
 conv=>whnf
 obtain ⟨c2632,h⟩:=chk_some h
 refine Arith.mk c2632 ?_
 conv=>whnf
 cases h
 exact Nxt.mk _ ho2623 (Ent.mk [(235,some 235),(236,some 236),(237,some 237),(238,some 238),(239,some 239),(240,some 240)] rfl ⟨eI rfl rfl,⟨.own 235 _ 0,rfl,.own rfl rfl rfl⟩,⟨.own 236 _ 0,rfl,.own rfl rfl rfl⟩,⟨.own 239 _ 0,rfl,.own rfl rfl rfl⟩,eI rfl rfl,eI rfl rfl,eI rfl rfl,⟨.sub 237 _ _,rfl,.sub rfl rfl⟩,eI rfl rfl,eI rfl rfl,trivial⟩ ⟨.inl ⟨235,rfl,rfl,trivial⟩,.inl ⟨236,rfl,rfl,trivial⟩,.inl ⟨237,rfl,rfl,trivial⟩,.inl ⟨238,rfl,rfl,trivial⟩,.inl ⟨239,rfl,rfl,trivial⟩,.inl ⟨240,rfl,rfl,trivial⟩,trivial⟩ ⟨⟨235,.im _,rfl,rfl,.im (Sub.rfl' rfl)⟩,⟨235,.im _,rfl,rfl,.im (Sub.rfl' rfl)⟩,⟨235,.im (.val (.slice none 0 0)),rfl,rfl,.im (Sub.rfl' rfl)⟩,⟨235,.im (.val (.slice none 0 0)),rfl,rfl,.im (Sub.rfl' rfl)⟩,⟨236,.im _,rfl,rfl,.im (Sub.rfl' rfl)⟩,⟨236,.im _,rfl,rfl,.im (Sub.rfl' rfl)⟩,⟨236,.osl 237 _,rfl,rfl,.osl rfl rfl rfl⟩,⟨236,.osl 238 _,rfl,rfl,.osl rfl rfl rfl⟩,⟨239,.osl 240 _,rfl,rfl,.osl rfl rfl rfl⟩,trivial⟩)
 obtain ⟨h,b2624d⟩:=cfd b2624 h
 conv=>whnf
 cases h
 have ho2623:_=_:=ho2623
 cases ho2623
 exact Join.mk (eA [(235,some 235),(236,some 236),(237,some 237),(238,some 238),(239,some 239),(240,some 240)])
 replace h:merge_folded.k65 y2497 y2602 y2603=some _:=hk2570
 unfold merge_folded.k65 at h
 obtain ⟨z2635,z2636,_⟩:=hp
 conv=>whnf
 refine Arith.mk (by show inR _;unfold inR;omega) ?_
 conv=>whnf
 cases h
 exact Nxt.mk _ ho2567 (eA [(235,some 235),(236,some 236),(237,some 237),(238,some 238),(239,some 239),(240,some 240)])
 obtain ⟨h,b2568d⟩:=cfd b2568 h
 conv=>whnf
 cases h
 have ho2567:_=_:=ho2567
 cases ho2567
 exact Join.mk (eA [(235,some 235),(236,some 236),(237,some 237),(238,some 238),(239,some 239),(240,some 240)])
 replace h:merge_folded.k69 p_ y1157 y2424 y2425=some _:=hk2210
 unfold merge_folded.k69 at h
 obtain ⟨z2639,z2640,_⟩:=hp
 conv=>whnf
 refine Side.mk rfl ?_
 conv=>whnf
 refine Side.mk ⟨rfl,trivial⟩ ?_
 conv=>whnf
 obtain ⟨c2641,hc2641,h⟩:=bind_some h
 refine ⟨_,(sp_merge_blocks_int_of (⟨y2425⟩:T_merge_blocks_int_) p_.Start c2641 (fun _ _=>hc2641)),?_⟩
 conv=>whnf
 refine Side.mk rfl ?_
 conv=>whnf
 refine Side.mk rfl ?_
 conv=>whnf
 refine Side.mk rfl ?_
 conv=>whnf
 refine Side.mk ⟨rfl,rfl,trivial⟩ ?_
 conv=>whnf
 obtain ⟨c2642,hc2642,h⟩:=bind_some h
 refine ⟨_,(sp_merge_renumbered (⟨p_.Inputs,c2641.1,y2424,y1157⟩:T_api_Part) c2642 (fun _=>hc2642)),?_⟩
 conv=>whnf
 refine Side.mk rfl ?_
 conv=>whnf
 refine Nf.mk (List.length c2642.2) len_map ?_
 conv=>whnf
 obtain ⟨c2643,h⟩:=chk_some h
 refine Side.mk c2643 ?_
 conv=>whnf
 refine Nf.mk (List.map cI (List.replicate (List.length c2642.2) (0:Int))) (rep_map (c:=cI) (z:=0) (n:=(List.length c2642.2)) rfl rfl) ?_
 conv=>whnf
 refine Side.mk rfl ?_
 conv=>whnf
 refine Nf.mk (List.length (List.replicate (List.length c2642.2) (0:Int))) len_map ?_
 conv=>whnf
 obtain ⟨y2667,hc,hk2644⟩:=bind_some h
 clear h
 have h:=hc
 clear hc
 refine Cut.mk (mkSt [(6,.own 235 1 0),(20,.own 236 1 0),(22,.osl 237 1)] [(235,.box 24 4),(236,.box 24 4),(237,.row 3 1 (List.map cI y2667))] [(235,0,.im (nI 0)),(235,1,.im (nI 0)),(235,2,.im (.val (.slice none 0 0))),(235,3,.im (.val (.slice none 0 0))),(236,0,.im (nI c2642.1.Inputs)),(236,1,.im (nI c2642.1.Start)),(236,2,.im (nL (cL cI) c2642.1.Next)),(236,3,.im (nL (cL cI) c2642.1.Out))]) (lZ c2642.1.Next∧lZ c2642.1.Out∧lZ y2667∧True) ((Holds.cel 236 2 rfl (by decide) rfl).and ((Holds.cel 236 3 rfl (by decide) rfl).and ((Holds.kdl 237 rfl).and (hT)))) ?_ (fun hp=>?_)
 conv=>whnf
 refine Loops.iter (fun (s:(List (Int×Int))×List Int×Nat)=>merge_folded.s68 c2642 s.1 s.2.1 s.2.2) (fun (y2672,y2673,y2674)=>mkSt [(6,.own 235 1 0),(11,.own 236 1 0),(20,.own 238 1 0),(21,.im (nL cI c2642.2)),(22,.osl 239 1),(219,.im (nI (↑(List.length (List.replicate (List.length c2642.2) (0:Int))):Int))),(220,.im (nI (↑y2674:Int)))] [(235,.box 24 4),(236,.box 104 1),(237,.map (mapV wI wI y2672)),(238,.box 24 4),(239,.row 3 1 (List.map cI y2673))] [(235,0,.im (nI 0)),(235,1,.im (nI 0)),(235,2,.im (.val (.slice none 0 0))),(235,3,.im (.val (.slice none 0 0))),(236,0,.osl 237 1),(238,0,.im (nI c2642.1.Inputs)),(238,1,.im (nI c2642.1.Start)),(238,2,.im (nL (cL cI) c2642.1.Next)),(238,3,.im (nL (cL cI) c2642.1.Out))]) (fun (y2672,y2673,y2674)=>lZ c2642.2∧lZ c2642.1.Next∧lZ c2642.1.Out∧lZ y2673∧True) h (eA [(235,some 235),(236,some 239),(237,some 240),(238,some 20),(239,some 217)]) (by rintro ⟨y2672,y2673,y2674⟩;exact ((Holds.avl 21 rfl).and ((Holds.cel 238 2 rfl (by decide) rfl).and ((Holds.cel 238 3 rfl (by decide) rfl).and ((Holds.kdl 239 rfl).and (hT)))))) ?_
 clear h
 rintro k ⟨y2672,y2673,y2674⟩ o hp h ho2680
 replace h:merge_folded.s68 c2642 y2672 y2673 y2674=some o:=h
 unfold merge_folded.s68 at h
 obtain ⟨z2686,z2687,z2688,z2689,_⟩:=hp
 conv=>whnf
 refine Both.mk ?_ ?_<;>intro b2681
 obtain ⟨h,b2681d⟩:=ctd b2681 h
 conv=>whnf
 refine Side.mk rfl ?_
 conv=>whnf
 refine Side.mk ⟨rfl,trivial⟩ ?_
 conv=>whnf
 obtain ⟨c2682,hc2682,h⟩:=bind_some h
 refine ⟨_,(sp_merge_blocks_int_of (⟨y2672⟩:T_merge_blocks_int_) (↑y2674:Int) c2682 (fun _ _=>hc2682)),?_⟩
 conv=>whnf
 obtain ⟨e2683,he2683z,he2683,h⟩:=idx_some h
 refine ⟨_,⟨he2683z,map_at he2683,rfl⟩,?_⟩
 conv=>whnf
 obtain ⟨e2684,he2684,h⟩:=idxn_some h
 refine Side.mk ⟨(by omega),rfl,map_lt he2684⟩ ?_
 conv=>whnf
 refine Side.mk ⟨rfl,trivial⟩ ?_
 conv=>whnf
 refine ⟨_,map_at he2684,?_⟩
 conv=>whnf
 refine Nf.mk (List.map cI (List.set y2673 y2674 e2683)) (set_map rfl) ?_
 conv=>whnf
 obtain ⟨c2685,h⟩:=chk_some h
 refine Arith.mk c2685 ?_
 conv=>whnf
 cases h
 exact Nxt.mk _ ho2680 (eA [(235,some 235),(236,some 236),(237,some 237),(238,some 238),(239,some 239)])
 obtain ⟨h,b2681d⟩:=cfd b2681 h
 conv=>whnf
 cases h
 have ho2680:_=_:=ho2680
 cases ho2680
 exact Join.mk (eA [(235,some 235),(236,some 238),(237,some 239)])
 replace h:=hk2644
 obtain ⟨z2690,z2691,z2692,_⟩:=hp
 conv=>whnf
 refine Side.mk rfl ?_
 conv=>whnf
 refine Side.mk rfl ?_
 conv=>whnf
 cases h
 conv=>whnf
 refine Side.mk ⟨rfl,trivial⟩ ?_
 conv=>whnf
 exact Side.mk ⟨rfl,trivial⟩ ⟨rfl,rfl⟩
theorem sp_merge_Fold (p_:T_api_Part) (s_:Int) (t_:Int) (r:T_api_Part×Bool×Int) (h:Ok (.agg (c_api_Part p_))→Ok (nI s_)→Ok (nI t_)→merge_Fold p_ s_ t_=some r):Sp Tryz.prog 11 [.im (.agg (c_api_Part p_)),.im (nI s_),.im (nI t_)] (.tup [.agg (c_api_Part r.1),nB r.2.1,nI r.2.2]):=by
 refine sp_of rfl [700003] rfl rfl rfl (Nat.le_of_ble_eq_true rfl) rfl fun hk=>?_
 replace h:=h hk.1 hk.2.1 hk.2.2.1
 have z1:lZ p_.Next:=ok_len (Ok.agg_at hk.1 2 rfl)
 have z2:lZ p_.Out:=ok_len (Ok.agg_at hk.1 3 rfl)
 unfold merge_Fold at h
 conv=>whnf
 obtain ⟨c51,hc51,h⟩:=bind_some h
 refine ⟨_,(sp_merge_Valid p_ c51 (fun _=>hc51)),?_⟩
 conv=>whnf
 refine Both.mk ?_ ?_<;>intro b52
 obtain ⟨h,b52d⟩:=ctd b52 h
 conv=>whnf
 refine Side.mk rfl ?_
 conv=>whnf
 cases h
 conv=>whnf
 refine Side.mk ⟨rfl,trivial⟩ ?_
 conv=>whnf
 exact ⟨rfl,rfl⟩
 obtain ⟨h,b52d⟩:=cfd b52 h
 conv=>whnf
 obtain ⟨y56,hc,hk54⟩:=bind_some h
 clear h
 have h:=hc
 clear hc
 refine Cut.mk (mkSt [(1,.im (nI s_)),(2,.im (nI t_)),(3,.im (.ref (c_api_Part p_))),(6,.own 64 1 0),(31,.im (nB y56))] [(64,.box 24 4)] [(64,0,.im (nI 0)),(64,1,.im (nI 0)),(64,2,.im (.val (.slice none 0 0))),(64,3,.im (.val (.slice none 0 0)))]) (True) (hT) ?_ (fun hp=>?_)
 conv=>whnf
 refine Both.mk ?_ ?_<;>intro b57
 replace b57:=beq_ff b57
 obtain ⟨h,b57d⟩:=cfd b57 h
 conv=>whnf
 iterate 5 (refine Both.yes (ff_beq b57) ?_;(conv=>whnf))
 refine Nf.mk (List.length p_.Next) len_map ?_
 conv=>whnf
 refine Both.yes (ff_beq b57) ?_
 conv=>whnf
 refine Both.no b57 ?_
 conv=>whnf
 cases h
 exact Join.mk (eA [(64,some 6)])
 replace b57:=beq_ft b57
 obtain ⟨h,b57d⟩:=ctd b57 h
 conv=>whnf
 iterate 6 (refine Both.no (tf_beq b57) ?_;(conv=>whnf))
 refine Both.yes b57 ?_
 conv=>whnf
 cases h
 exact Join.mk (eA [(64,some 6)])
 replace h:=hk54
 conv=>whnf
 refine Both.mk ?_ ?_<;>intro b58
 replace h:=cond_t b58 h
 conv=>whnf
 refine Side.mk rfl ?_
 conv=>whnf
 cases h
 conv=>whnf
 refine Side.mk ⟨rfl,trivial⟩ ?_
 conv=>whnf
 exact ⟨rfl,rfl⟩
 replace h:=cond_f b58 h
 conv=>whnf
 obtain ⟨c59,hc59,h⟩:=bind_some h
 refine ⟨_,(sp_merge_folded p_ s_ t_ c59 (fun _ _ _=>hc59)),?_⟩
 conv=>whnf
 refine Side.mk rfl ?_
 conv=>whnf
 refine Side.mk rfl ?_
 conv=>whnf
 refine Side.mk rfl ?_
 conv=>whnf
 cases h
 conv=>whnf
 refine Side.mk ⟨rfl,trivial⟩ ?_
 conv=>whnf
 exact ⟨rfl,rfl⟩
theorem sp_merge_blue (p_:T_api_Part) (red_:List Bool) (r:Int×Bool) (h:Ok (.agg (c_api_Part p_))→Ok (nL cB red_)→merge_blue p_ red_=some r):Sp Tryz.prog 49 [.im (.agg (c_api_Part p_)),.im (nL cB red_)] (.tup [nI r.1,nB r.2]):=by
 refine sp_of rfl [700002] rfl rfl rfl (Nat.le_of_ble_eq_true rfl) rfl fun hk=>?_
 replace h:=h hk.1 hk.2.1
 have z1:lZ p_.Next:=ok_len (Ok.agg_at hk.1 2 rfl)
 have z2:lZ p_.Out:=ok_len (Ok.agg_at hk.1 3 rfl)
 have z3:lZ red_:=ok_len hk.2.1
 unfold merge_blue at h
 conv=>whnf
 refine Nf.mk (List.length red_) len_map ?_
 conv=>whnf
 refine Nf.mk (List.length red_) len_map ?_
 conv=>whnf
 obtain ⟨best596,hc,hk51⟩:=bind_some h
 clear h
 have h:=hc
 clear hc
 refine Cut.mk (mkSt [(1,.im (nL cB red_)),(6,.im (nI best596))] [] []) (lZ red_∧True) ((Holds.avl 1 rfl).and (hT)) ?_ (fun hp=>?_)
 conv=>whnf
 refine Loops.iter (fun (s:Int×Nat)=>merge_blue.s26 p_ red_ s.1 s.2) (fun (best777,y778)=>mkSt [(1,.im (nL cB red_)),(2,.im (.ref (c_api_Part p_))),(6,.im (nI best777)),(13,.im (nL cB red_)),(14,.im (nI (↑(List.length red_):Int))),(15,.im (nI (↑y778:Int)))] [] []) (fun (best777,y778)=>lZ red_∧True) h (eA []) (by rintro ⟨best777,y778⟩;exact ((Holds.avl 1 rfl).and (hT))) ?_
 clear h
 rintro k ⟨best777,y778⟩ o hp h ho959
 replace h:merge_blue.s26 p_ red_ best777 y778=some o:=h
 unfold merge_blue.s26 at h
 obtain ⟨z1140,_⟩:=hp
 conv=>whnf
 refine Both.mk ?_ ?_<;>intro b960
 obtain ⟨h,b960d⟩:=ctd b960 h
 conv=>whnf
 obtain ⟨best1050,hc,hk961⟩:=bind_some h
 clear h
 have h:=hc
 clear hc
 refine Cut.mk (mkSt [(1,.im (nL cB red_)),(2,.im (.ref (c_api_Part p_))),(6,.im (nI best1050)),(13,.im (nL cB red_)),(14,.im (nI (↑(List.length red_):Int))),(15,.im (nI (↑y778:Int)))] [] []) (lZ red_∧True) ((Holds.avl 1 rfl).and (hT)) ?_ (fun hp=>?_)
 conv=>whnf
 obtain ⟨e1051,he1051,h⟩:=idxn_some h
 refine ⟨_,⟨(by omega),map_at he1051,rfl⟩,?_⟩
 conv=>whnf
 refine Both.mk ?_ ?_<;>intro b1052
 replace h:=cond_t b1052 h
 conv=>whnf
 cases h
 exact Join.mk (eA [])
 replace h:=cond_f b1052 h
 conv=>whnf
 obtain ⟨e1053,he1053,h⟩:=idxn_some h
 refine ⟨_,⟨(by omega),map_at he1053,rfl⟩,?_⟩
 conv=>whnf
 refine Nf.mk (List.length e1053) len_map ?_
 conv=>whnf
 obtain ⟨best1096,hc,hk1054⟩:=bind_some h
 clear h
 have h:=hc
 clear hc
 refine Cut.mk (mkSt [(1,.im (nL cB red_)),(2,.im (.ref (c_api_Part p_))),(6,.im (nI best1096)),(13,.im (nL cB red_)),(14,.im (nI (↑(List.length red_):Int))),(15,.im (nI (↑y778:Int)))] [] []) (lZ red_∧True) ((Holds.avl 1 rfl).and (hT)) ?_ (fun hp=>?_)
 conv=>whnf
 refine Loops.iter (fun (s:Int×Nat)=>merge_blue.s25 red_ e1053 s.1 s.2) (fun (best1109,y1110)=>mkSt [(1,.im (nL cB red_)),(2,.im (.ref (c_api_Part p_))),(6,.im (nI best1109)),(13,.im (nL cB red_)),(14,.im (nI (↑(List.length red_):Int))),(15,.im (nI (↑y778:Int))),(26,.im (nL cI e1053)),(27,.im (nI (↑(List.length e1053):Int))),(28,.im (nI (↑y1110:Int)))] [] []) (fun (best1109,y1110)=>lZ red_∧lZ e1053∧True) h (eA []) (by rintro ⟨best1109,y1110⟩;exact ((Holds.avl 1 rfl).and ((Holds.avl 26 rfl).and (hT)))) ?_
 clear h
 rintro k ⟨best1109,y1110⟩ o hp h ho1123
 replace h:merge_blue.s25 red_ e1053 best1109 y1110=some o:=h
 unfold merge_blue.s25 at h
 obtain ⟨z1136,z1137,_⟩:=hp
 conv=>whnf
 refine Both.mk ?_ ?_<;>intro b1124
 obtain ⟨h,b1124d⟩:=ctd b1124 h
 conv=>whnf
 obtain ⟨e1125,he1125,h⟩:=idxn_some h
 refine ⟨_,⟨(by omega),map_at he1125,rfl⟩,?_⟩
 conv=>whnf
 obtain ⟨y1130,hc,hk1127⟩:=bind_some h
 clear h
 have h:=hc
 clear hc
 refine Cut.mk (mkSt [(1,.im (nL cB red_)),(2,.im (.ref (c_api_Part p_))),(6,.im (nI best1109)),(10,.im (nI e1125)),(13,.im (nL cB red_)),(14,.im (nI (↑(List.length red_):Int))),(15,.im (nI (↑y778:Int))),(26,.im (nL cI e1053)),(27,.im (nI (↑(List.length e1053):Int))),(28,.im (nI (↑y1110:Int))),(40,.im (nB y1130))] [] []) (lZ red_∧lZ e1053∧True) ((Holds.avl 1 rfl).and ((Holds.avl 26 rfl).and (hT))) ?_ (fun hp=>?_)
 conv=>whnf
 refine Both.mk ?_ ?_<;>intro b1131
 replace b1131:=beq_tt b1131
 obtain ⟨h,b1131d⟩:=ctd b1131 h
 conv=>whnf
 iterate 2 (refine Both.yes (tt_beq b1131) ?_;(conv=>whnf))
 obtain ⟨e1132,he1132z,he1132,h⟩:=idx_some h
 refine ⟨_,⟨he1132z,map_at he1132,rfl⟩,?_⟩
 conv=>whnf
 iterate 2 (refine Both.yes (tt_beq b1131) ?_;(conv=>whnf))
 refine Both.yes b1131 ?_
 conv=>whnf
 cases h
 exact Join.mk (eA [])
 replace b1131:=beq_tf b1131
 obtain ⟨h,b1131d⟩:=cfd b1131 h
 conv=>whnf
 iterate 4 (refine Both.no (ft_beq b1131) ?_;(conv=>whnf))
 refine Both.no b1131 ?_
 conv=>whnf
 cases h
 exact Join.mk (eA [])
 replace h:=hk1127
 obtain ⟨z1133,z1134,_⟩:=hp
 conv=>whnf
 refine Both.mk ?_ ?_<;>intro b1135
 replace h:=cond_t b1135 h
 conv=>whnf
 refine Arith.mk (by show inR _;unfold inR;omega) ?_
 conv=>whnf
 cases h
 exact Nxt.mk _ ho1123 (eA [])
 replace h:=cond_f b1135 h
 conv=>whnf
 refine Arith.mk (by show inR _;unfold inR;omega) ?_
 conv=>whnf
 cases h
 exact Nxt.mk _ ho1123 (eA [])
 obtain ⟨h,b1124d⟩:=cfd b1124 h
 conv=>whnf
 cases h
 have ho1123:_=_:=ho1123
 cases ho1123
 exact Join.mk (eA [])
 replace h:=hk1054
 obtain ⟨z1138,_⟩:=hp
 conv=>whnf
 cases h
 exact Join.mk (eA [])
 replace h:=hk961
 obtain ⟨z1139,_⟩:=hp
 conv=>whnf
 refine Arith.mk (by show inR _;unfold inR;omega) ?_
 conv=>whnf
 cases h
 exact Nxt.mk _ ho959 (eA [])
 obtain ⟨h,b960d⟩:=cfd b960 h
 conv=>whnf
 cases h
 have ho959:_=_:=ho959
 cases ho959
 exact Join.mk (eA [])
 replace h:=hk51
 obtain ⟨z1141,_⟩:=hp
 conv=>whnf
 refine Nf.mk (List.length red_) len_map ?_
 conv=>whnf
 cases h
 conv=>whnf
 exact ⟨rfl,rfl⟩
theorem sp_merge_merged (p_:T_api_Part) (red_:List Bool) (b_:Int) (r:T_api_Part×List Bool) (h:Ok (.agg (c_api_Part p_))→Ok (nL cB red_)→Ok (nI b_)→merge_merged p_ red_ b_=some r):Sp Tryz.prog 50 [.im (.agg (c_api_Part p_)),.im (nL cB red_),.im (nI b_)] (.tup [.agg (c_api_Part r.1),nL cB r.2]):=by
 refine sp_of rfl [65,700003] rfl rfl rfl (Nat.le_of_ble_eq_true rfl) rfl fun hk=>?_
 replace h:=h hk.1 hk.2.1 hk.2.2.1
 have z1:lZ p_.Next:=ok_len (Ok.agg_at hk.1 2 rfl)
 have z2:lZ p_.Out:=ok_len (Ok.agg_at hk.1 3 rfl)
 have z3:lZ red_:=ok_len hk.2.1
 unfold merge_merged at h
 conv=>whnf
 refine Nf.mk (List.length red_) len_map ?_
 conv=>whnf
 obtain ⟨oc,hc,hk51⟩:=bind_some h
 clear h
 have h:=hc
 clear hc
 refine Cut.mkS oc (Y:=Unit) (fun (_:Unit)=>mkSt [(1,.im (nL cB red_)),(2,.im (nI b_)),(3,.im (.ref (c_api_Part p_))),(6,.own 73 1 0)] [(73,.box 24 4)] [(73,0,.im (nI 0)),(73,1,.im (nI 0)),(73,2,.im (.val (.slice none 0 0))),(73,3,.im (.val (.slice none 0 0)))]) (fun (_:Unit)=>lZ red_∧True) (by rintro ⟨⟩;exact ((Holds.avl 1 rfl).and (hT))) ?_ ?_
 conv=>whnf
 refine Loops.iter (fun (s:Nat)=>merge_merged.s26 p_ red_ b_ s) (fun y1083=>mkSt [(1,.im (nL cB red_)),(2,.im (nI b_)),(3,.im (.ref (c_api_Part p_))),(6,.own 73 1 0),(17,.im (nL cB red_)),(18,.im (nI (↑(List.length red_):Int))),(19,.im (nI (↑y1083:Int)))] [(73,.box 24 4)] [(73,0,.im (nI 0)),(73,1,.im (nI 0)),(73,2,.im (.val (.slice none 0 0))),(73,3,.im (.val (.slice none 0 0)))]) (fun y1083=>lZ red_∧True) h (eA [(73,some 6)]) (by rintro y1083;exact ((Holds.avl 1 rfl).and (hT))) ?_
 clear h
 rintro k y1083 o hp h ho1343
 replace h:merge_merged.s26 p_ red_ b_ y1083=some o:=h
 unfold merge_merged.s26 at h
 obtain ⟨z1603,_⟩:=hp
 conv=>whnf
 refine Both.mk ?_ ?_<;>intro b1344
 obtain ⟨h,b1344d⟩:=ctd b1344 h
 conv=>whnf
 obtain ⟨oc,hc,hk1345⟩:=bind_some h
 clear h
 have h:=hc
 clear hc
 refine Cut.mkS oc (Y:=Unit) (fun (_:Unit)=>mkSt [(1,.im (nL cB red_)),(2,.im (nI b_)),(3,.im (.ref (c_api_Part p_))),(6,.own 73 1 0),(17,.im (nL cB red_)),(18,.im (nI (↑(List.length red_):Int))),(19,.im (nI (↑y1083:Int)))] [(73,.box 24 4)] [(73,0,.im (nI 0)),(73,1,.im (nI 0)),(73,2,.im (.val (.slice none 0 0))),(73,3,.im (.val (.slice none 0 0)))]) (fun (_:Unit)=>lZ red_∧True) (by rintro ⟨⟩;exact ((Holds.avl 1 rfl).and (hT))) ?_ ?_
 conv=>whnf
 obtain ⟨e1474,he1474,h⟩:=idxn_some h
 refine ⟨_,⟨(by omega),map_at he1474,rfl⟩,?_⟩
 conv=>whnf
 refine Both.mk ?_ ?_<;>intro b1475
 replace h:=cond_t b1475 h
 conv=>whnf
 cases h
 exact JoinS.mk' _ rfl (eA [(73,some 73)])
 replace h:=cond_f b1475 h
 conv=>whnf
 obtain ⟨c1476,hc1476,h⟩:=bind_some h
 refine ⟨_,(sp_merge_folded p_ (↑y1083:Int) b_ c1476 (fun _ _ _=>hc1476)),?_⟩
 conv=>whnf
 refine Side.mk rfl ?_
 conv=>whnf
 refine Both.mk ?_ ?_<;>intro b1477
 replace h:=cond_t b1477 h
 conv=>whnf
 cases h
 exact JoinS.mk' _ rfl (eA [(73,some 73)])
 replace h:=cond_f b1477 h
 conv=>whnf
 refine Side.mk rfl ?_
 conv=>whnf
 refine Side.mk rfl ?_
 conv=>whnf
 refine Nf.mk (List.length c1476.1.Next) len_map ?_
 conv=>whnf
 obtain ⟨c1478,h⟩:=chk_some h
 refine Side.mk c1478 ?_
 conv=>whnf
 refine Nf.mk (List.map cB (List.replicate (List.length c1476.1.Next) false)) (rep_map (c:=cB) (z:=false) (n:=(List.length c1476.1.Next)) rfl rfl) ?_
 conv=>whnf
 refine Nf.mk (List.length red_) len_map ?_
 conv=>whnf
 obtain ⟨y1539,hc,hk1479⟩:=bind_some h
 clear h
 have h:=hc
 clear hc
 refine Cut.mk (mkSt [(6,.own 73 1 0),(10,.own 74 1 0),(13,.osl 75 1)] [(73,.box 24 4),(74,.box 24 4),(75,.row 4 1 (List.map cB y1539))] [(73,0,.im (nI 0)),(73,1,.im (nI 0)),(73,2,.im (.val (.slice none 0 0))),(73,3,.im (.val (.slice none 0 0))),(74,0,.im (nI c1476.1.Inputs)),(74,1,.im (nI c1476.1.Start)),(74,2,.im (nL (cL cI) c1476.1.Next)),(74,3,.im (nL (cL cI) c1476.1.Out))]) (lZ c1476.1.Next∧lZ c1476.1.Out∧lZ y1539∧True) ((Holds.cel 74 2 rfl (by decide) rfl).and ((Holds.cel 74 3 rfl (by decide) rfl).and ((Holds.kdl 75 rfl).and (hT)))) ?_ (fun hp=>?_)
 conv=>whnf
 refine Loops.iter (fun (s:List Bool×Nat)=>merge_merged.s25 red_ c1476 s.1 s.2) (fun (y1557,y1558)=>mkSt [(6,.own 73 1 0),(10,.own 74 1 0),(11,.im (nL cI c1476.2.1)),(13,.osl 75 1),(40,.im (nL cB red_)),(41,.im (nI (↑(List.length red_):Int))),(42,.im (nI (↑y1558:Int)))] [(73,.box 24 4),(74,.box 24 4),(75,.row 4 1 (List.map cB y1557))] [(73,0,.im (nI 0)),(73,1,.im (nI 0)),(73,2,.im (.val (.slice none 0 0))),(73,3,.im (.val (.slice none 0 0))),(74,0,.im (nI c1476.1.Inputs)),(74,1,.im (nI c1476.1.Start)),(74,2,.im (nL (cL cI) c1476.1.Next)),(74,3,.im (nL (cL cI) c1476.1.Out))]) (fun (y1557,y1558)=>lZ c1476.2.1∧lZ red_∧lZ c1476.1.Next∧lZ c1476.1.Out∧lZ y1557∧True) h (eA [(73,some 73),(74,some 10),(75,some 39)]) (by rintro ⟨y1557,y1558⟩;exact ((Holds.avl 11 rfl).and ((Holds.avl 40 rfl).and ((Holds.cel 74 2 rfl (by decide) rfl).and ((Holds.cel 74 3 rfl (by decide) rfl).and ((Holds.kdl 75 rfl).and (hT))))))) ?_
 clear h
 rintro k ⟨y1557,y1558⟩ o hp h ho1576
 replace h:merge_merged.s25 red_ c1476 y1557 y1558=some o:=h
 unfold merge_merged.s25 at h
 obtain ⟨z1594,z1595,z1596,z1597,z1598,_⟩:=hp
 conv=>whnf
 refine Both.mk ?_ ?_<;>intro b1577
 obtain ⟨h,b1577d⟩:=ctd b1577 h
 conv=>whnf
 obtain ⟨e1578,he1578,h⟩:=idxn_some h
 refine ⟨_,⟨(by omega),map_at he1578,rfl⟩,?_⟩
 conv=>whnf
 obtain ⟨y1583,hc,hk1580⟩:=bind_some h
 clear h
 have h:=hc
 clear hc
 refine Cut.mk (mkSt [(6,.own 73 1 0),(10,.own 74 1 0),(11,.im (nL cI c1476.2.1)),(13,.osl 75 1),(14,.im (nI (↑y1558:Int))),(40,.im (nL cB red_)),(41,.im (nI (↑(List.length red_):Int))),(42,.im (nI (↑y1558:Int))),(54,.im (nB y1583))] [(73,.box 24 4),(74,.box 24 4),(75,.row 4 1 (List.map cB y1557))] [(73,0,.im (nI 0)),(73,1,.im (nI 0)),(73,2,.im (.val (.slice none 0 0))),(73,3,.im (.val (.slice none 0 0))),(74,0,.im (nI c1476.1.Inputs)),(74,1,.im (nI c1476.1.Start)),(74,2,.im (nL (cL cI) c1476.1.Next)),(74,3,.im (nL (cL cI) c1476.1.Out))]) (lZ c1476.2.1∧lZ red_∧lZ c1476.1.Next∧lZ c1476.1.Out∧lZ y1557∧True) ((Holds.avl 11 rfl).and ((Holds.avl 40 rfl).and ((Holds.cel 74 2 rfl (by decide) rfl).and ((Holds.cel 74 3 rfl (by decide) rfl).and ((Holds.kdl 75 rfl).and (hT)))))) ?_ (fun hp=>?_)
 conv=>whnf
 refine Both.mk ?_ ?_<;>intro b1584
 replace b1584:=beq_tt b1584
 replace h:=cond_t b1584 h
 conv=>whnf
 iterate 2 (refine Both.yes (tt_beq b1584) ?_;(conv=>whnf))
 obtain ⟨e1585,he1585,h⟩:=idxn_some h
 refine ⟨_,⟨(by omega),map_at he1585,rfl⟩,?_⟩
 conv=>whnf
 iterate 2 (refine Both.yes (tt_beq b1584) ?_;(conv=>whnf))
 refine Both.yes b1584 ?_
 conv=>whnf
 cases h
 exact Join.mk (eA [(73,some 73),(74,some 74),(75,some 75)])
 replace b1584:=beq_tf b1584
 replace h:=cond_f b1584 h
 conv=>whnf
 iterate 4 (refine Both.no (ft_beq b1584) ?_;(conv=>whnf))
 refine Both.no b1584 ?_
 conv=>whnf
 cases h
 exact Join.mk (eA [(73,some 73),(74,some 74),(75,some 75)])
 replace h:=hk1580
 obtain ⟨z1586,z1587,z1588,z1589,z1590,_⟩:=hp
 conv=>whnf
 refine Both.mk ?_ ?_<;>intro b1591
 replace h:=cond_t b1591 h
 conv=>whnf
 obtain ⟨e1592,he1592,h⟩:=idxn_some h
 refine ⟨_,⟨(by omega),map_at he1592,rfl⟩,?_⟩
 conv=>whnf
 obtain ⟨e1593,he1593z,he1593,h⟩:=idx_some h
 refine Side.mk ⟨he1593z,rfl,map_lt he1593⟩ ?_
 conv=>whnf
 refine Side.mk ⟨rfl,trivial⟩ ?_
 conv=>whnf
 refine ⟨_,map_at he1593,?_⟩
 conv=>whnf
 refine Nf.mk (List.map cB (List.set y1557 e1592.toNat true)) (set_map rfl) ?_
 conv=>whnf
 refine Arith.mk (by show inR _;unfold inR;omega) ?_
 conv=>whnf
 cases h
 exact Nxt.mk _ ho1576 (eA [(73,some 73),(74,some 74),(75,some 75)])
 replace h:=cond_f b1591 h
 conv=>whnf
 refine Arith.mk (by show inR _;unfold inR;omega) ?_
 conv=>whnf
 cases h
 exact Nxt.mk _ ho1576 (eA [(73,some 73),(74,some 74),(75,some 75)])
 obtain ⟨h,b1577d⟩:=cfd b1577 h
 conv=>whnf
 cases h
 have ho1576:_=_:=ho1576
 cases ho1576
 exact Join.mk (eA [(73,some 73),(74,some 74),(75,some 75)])
 replace h:=hk1479
 obtain ⟨z1599,z1600,z1601,_⟩:=hp
 conv=>whnf
 refine Side.mk rfl ?_
 conv=>whnf
 refine Side.mk rfl ?_
 conv=>whnf
 cases h
 replace h:some _=some _:=hk1345
 cases h
 have ho1343:_=_:=ho1343
 cases ho1343
 replace h:some _=some _:=hk51
 cases h
 conv=>whnf
 refine Side.mk ⟨rfl,trivial⟩ ?_
 conv=>whnf
 exact Side.mk ⟨rfl,trivial⟩ ⟨rfl,rfl⟩
 rintro ⟨⟩ rfl hp
 replace h:=sum_inl hk1345
 obtain ⟨z1602,_⟩:=hp
 conv=>whnf
 refine Arith.mk (by show inR _;unfold inR;omega) ?_
 conv=>whnf
 cases h
 exact Nxt.mk _ ho1343 (eA [(73,some 73)])
 obtain ⟨h,b1344d⟩:=cfd b1344 h
 conv=>whnf
 cases h
 have ho1343:_=_:=ho1343
 cases ho1343
 exact JoinS.mk' _ rfl (eA [(73,some 73)])
 rintro ⟨⟩ rfl hp
 replace h:=sum_inl hk51
 obtain ⟨z1604,_⟩:=hp
 conv=>whnf
 obtain ⟨c1605,h⟩:=chk_some h
 refine Side.mk ⟨rfl,map_len (l:=red_) (c:=cB) fun _=>rfl,show capOk _ 1 by simpa only [List.length_map,List.length_cons,List.length_nil,Nat.zero_add] using c1605⟩ ?_
 conv=>whnf
 refine Nf.mk (List.map cB ([]++red_)) (app_map (l:=[]) (m:=red_) (c:=cB)) ?_
 conv=>whnf
 obtain ⟨e1606,he1606z,he1606,h⟩:=idx_some h
 refine Side.mk ⟨he1606z,rfl,map_lt he1606⟩ ?_
 conv=>whnf
 refine Side.mk ⟨rfl,trivial⟩ ?_
 conv=>whnf
 refine ⟨_,map_at he1606,?_⟩
 conv=>whnf
 refine Nf.mk (List.map cB (List.set ([]++red_) b_.toNat true)) (set_map rfl) ?_
 conv=>whnf
 refine Side.mk rfl ?_
 conv=>whnf
 cases h
 conv=>whnf
 refine Side.mk ⟨rfl,trivial⟩ ?_
 conv=>whnf
 exact Side.mk ⟨rfl,trivial⟩ ⟨rfl,rfl⟩
theorem sp_merge_Learn (o_:T_api_Obs) (r:T_api_Part×Int) (h:Ok (.agg (c_api_Obs o_))→merge_Learn o_=some r):Sp Tryz.prog 24 [.im (.agg (c_api_Obs o_))] (.tup [.agg (c_api_Part r.1),nI r.2]):=by
 refine sp_of rfl [700001] rfl rfl rfl (Nat.le_of_ble_eq_true rfl) rfl fun hk=>?_
 replace h:=h hk.1
 have z1:lZ o_.Traces:=ok_len (Ok.agg_at hk.1 1 rfl)
 unfold merge_Learn at h
 conv=>whnf
 obtain ⟨c51,hc51,h⟩:=bind_some h
 refine ⟨_,(sp_merge_Tree o_ c51 (fun _=>hc51)),?_⟩
 conv=>whnf
 refine Side.mk rfl ?_
 conv=>whnf
 refine Both.mk ?_ ?_<;>intro b52
 obtain ⟨h,b52d⟩:=ctd b52 h
 conv=>whnf
 refine Side.mk rfl ?_
 conv=>whnf
 cases h
 conv=>whnf
 refine Side.mk ⟨rfl,trivial⟩ ?_
 conv=>whnf
 exact ⟨rfl,rfl⟩
 obtain ⟨h,b52d⟩:=cfd b52 h
 conv=>whnf
 refine Side.mk rfl ?_
 conv=>whnf
 refine Side.mk rfl ?_
 conv=>whnf
 refine Nf.mk (List.length c51.1.Next) len_map ?_
 conv=>whnf
 obtain ⟨c53,h⟩:=chk_some h
 refine Side.mk c53 ?_
 conv=>whnf
 refine Nf.mk (List.map cB (List.replicate (List.length c51.1.Next) false)) (rep_map (c:=cB) (z:=false) (n:=(List.length c51.1.Next)) rfl rfl) ?_
 conv=>whnf
 refine Side.mk rfl ?_
 conv=>whnf
 refine Side.mk rfl ?_
 conv=>whnf
 obtain ⟨e54,he54z,he54,h⟩:=idx_some h
 refine Side.mk ⟨he54z,rfl,map_lt he54⟩ ?_
 conv=>whnf
 refine Side.mk ⟨rfl,trivial⟩ ?_
 conv=>whnf
 refine ⟨_,map_at he54,?_⟩
 conv=>whnf
 refine Nf.mk (List.map cB (List.set (List.replicate (List.length c51.1.Next) false) c51.1.Start.toNat true)) (set_map rfl) ?_
 conv=>whnf
 refine Loops.iter (fun (s:Int×Int×List (List Int)×List (List Int)×List Bool)=>merge_Learn.s1 s.1 s.2.1 s.2.2.1 s.2.2.2.1 s.2.2.2.2) (fun (y58,y59,y60,y61,red62)=>mkSt [(2,.own 64 1 0),(4,.own 65 1 0),(6,.im (nL cB red62))] [(64,.box 24 4),(65,.box 24 4)] [(64,0,.im (nI 0)),(64,1,.im (nI 0)),(64,2,.im (.val (.slice none 0 0))),(64,3,.im (.val (.slice none 0 0))),(65,0,.im (nI y58)),(65,1,.im (nI y59)),(65,2,.im (nL (cL cI) y60)),(65,3,.im (nL (cL cI) y61))]) (fun (y58,y59,y60,y61,red62)=>lZ red62∧lZ y60∧lZ y61∧True) h ((Ent.fz 6 rfl (by exact ⟨rfl,trivial⟩)).trans (eA [(64,some 2),(65,some 4)])) (by rintro ⟨y58,y59,y60,y61,red62⟩;exact ((Holds.avl 6 rfl).and ((Holds.cel 65 2 rfl (by decide) rfl).and ((Holds.cel 65 3 rfl (by decide) rfl).and (hT))))) ?_
 clear h
 rintro k ⟨y58,y59,y60,y61,red62⟩ o hp h ho66
 replace h:merge_Learn.s1 y58 y59 y60 y61 red62=some o:=h
 unfold merge_Learn.s1 at h
 obtain ⟨z70,z71,z72,_⟩:=hp
 conv=>whnf
 refine Side.mk rfl ?_
 conv=>whnf
 obtain ⟨c67,hc67,h⟩:=bind_some h
 refine ⟨_,(sp_merge_blue (⟨y58,y59,y60,y61⟩:T_api_Part) red62 c67 (fun _ _=>hc67)),?_⟩
 conv=>whnf
 refine Both.mk ?_ ?_<;>intro b68
 replace h:=cond_t b68 h
 conv=>whnf
 refine Side.mk rfl ?_
 conv=>whnf
 refine Side.mk rfl ?_
 conv=>whnf
 cases h
 have ho66:_=_:=ho66
 cases ho66
 conv=>whnf
 refine Side.mk ⟨rfl,trivial⟩ ?_
 conv=>whnf
 exact ⟨rfl,rfl⟩
 replace h:=cond_f b68 h
 conv=>whnf
 refine Side.mk rfl ?_
 conv=>whnf
 obtain ⟨c69,hc69,h⟩:=bind_some h
 refine ⟨_,(sp_merge_merged (⟨y58,y59,y60,y61⟩:T_api_Part) red62 c67.1 c69 (fun _ _ _=>hc69)),?_⟩
 conv=>whnf
 refine Side.mk rfl ?_
 conv=>whnf
 cases h
 exact Nxt.mk _ ho66 (eA [(64,some 64),(65,some 65)])
theorem sp_L35_gate (r:T_api_Mealy) (h:L35_gate=some r):Sp Tryz.prog 33 [] (.im (.agg (c_api_Mealy r))):=by
 refine sp_of rfl [] rfl rfl rfl (Nat.le_of_ble_eq_true rfl) rfl fun hk=>?_
 unfold L35_gate at h
 conv=>whnf
 refine Side.mk rfl ?_
 conv=>whnf
 cases h
 conv=>whnf
 refine Side.mk ⟨rfl,trivial⟩ ?_
 conv=>whnf
 exact ⟨rfl,rfl⟩
theorem sp_slices_Concat_SSint_Sint (slices_:List (List (List Int))) (r:List (List Int)) (h:Ok (nL (cL (cL cI)) slices_)→slices_Concat_SSint_Sint slices_=some r):Sp Tryz.prog 97 [.im (nL (cL (cL cI)) slices_)] (.row 25 1 (List.map (cL cI) r)):=by
 refine sp_of rfl [4025000] rfl rfl rfl (Nat.le_of_ble_eq_true rfl) rfl fun hk=>?_
 replace h:=h hk.1
 have z1:lZ slices_:=ok_len hk.1
 unfold slices_Concat_SSint_Sint at h
 conv=>whnf
 refine Nf.mk (List.length slices_) len_map ?_
 conv=>whnf
 obtain ⟨size68,hc,hk51⟩:=bind_some h
 clear h
 have h:=hc
 clear hc
 refine Cut.mk (mkSt [(0,.im (nL (cL (cL cI)) slices_)),(3,.im (nI (↑size68:Int)))] [] []) (lZ slices_∧True) ((Holds.avl 0 rfl).and (hT)) ?_ (fun hp=>?_)
 conv=>whnf
 refine Loops.iter (fun (s:Nat×Nat)=>slices_Concat_SSint_Sint.s2 slices_ s.1 s.2) (fun (size73,y74)=>mkSt [(0,.im (nL (cL (cL cI)) slices_)),(3,.im (nI (↑size73:Int))),(9,.im (nL (cL (cL cI)) slices_)),(10,.im (nI (↑(List.length slices_):Int))),(11,.im (nI (↑y74:Int)))] [] []) (fun (size73,y74)=>lZ slices_∧True) h (eA []) (by rintro ⟨size73,y74⟩;exact ((Holds.avl 0 rfl).and (hT))) ?_
 clear h
 rintro k ⟨size73,y74⟩ o hp h ho79
 replace h:slices_Concat_SSint_Sint.s2 slices_ size73 y74=some o:=h
 unfold slices_Concat_SSint_Sint.s2 at h
 obtain ⟨z84,_⟩:=hp
 conv=>whnf
 refine Both.mk ?_ ?_<;>intro b80
 obtain ⟨h,b80d⟩:=ctd b80 h
 conv=>whnf
 obtain ⟨e81,he81,h⟩:=idxn_some h
 refine ⟨_,⟨(by omega),map_at he81,rfl⟩,?_⟩
 conv=>whnf
 refine Nf.mk (List.length e81) len_map ?_
 conv=>whnf
 obtain ⟨c82,h⟩:=chk_some h
 refine Arith.mk c82 ?_
 conv=>whnf
 refine Both.mk ?_ ?_<;>intro b83
 obtain ⟨h,b83d⟩:=ctd b83 h
 conv=>whnf
 cases h
 obtain ⟨h,b83d⟩:=cfd b83 h
 conv=>whnf
 refine Arith.mk (by show inR _;unfold inR;omega) ?_
 conv=>whnf
 cases h
 exact Nxt.mk _ ho79 (eA [])
 obtain ⟨h,b80d⟩:=cfd b80 h
 conv=>whnf
 cases h
 have ho79:_=_:=ho79
 cases ho79
 exact Join.mk (eA [])
 replace h:=hk51
 obtain ⟨z85,_⟩:=hp
 conv=>whnf
 obtain ⟨c86,hc86,h⟩:=bind_some h
 refine ⟨_,(sp_lib_Grow_words (↑size68:Int) c86 (hc86)),?_⟩
 conv=>whnf
 refine Nf.mk (List.length slices_) len_map ?_
 conv=>whnf
 obtain ⟨y102,hc,hk87⟩:=bind_some h
 clear h
 have h:=hc
 clear hc
 refine Cut.mk (mkSt [(6,.osl 64 1)] [(64,.row 25 1 (List.map (cL cI) y102))] []) (lZ y102∧True) ((Holds.kdl 64 rfl).and (hT)) ?_ (fun hp=>?_)
 conv=>whnf
 refine Loops.iter (fun (s:List (List Int)×Nat)=>slices_Concat_SSint_Sint.s4 slices_ s.1 s.2) (fun (y106,y107)=>mkSt [(6,.osl 64 1),(25,.im (nL (cL (cL cI)) slices_)),(26,.im (nI (↑(List.length slices_):Int))),(27,.im (nI (↑y107:Int)))] [(64,.row 25 1 (List.map (cL cI) y106))] []) (fun (y106,y107)=>lZ slices_∧lZ y106∧True) h (eA [(64,some 24)]) (by rintro ⟨y106,y107⟩;exact ((Holds.avl 25 rfl).and ((Holds.kdl 64 rfl).and (hT)))) ?_
 clear h
 rintro k ⟨y106,y107⟩ o hp h ho111
 replace h:slices_Concat_SSint_Sint.s4 slices_ y106 y107=some o:=h
 unfold slices_Concat_SSint_Sint.s4 at h
 obtain ⟨z115,z116,_⟩:=hp
 conv=>whnf
 refine Both.mk ?_ ?_<;>intro b112
 obtain ⟨h,b112d⟩:=ctd b112 h
 conv=>whnf
 obtain ⟨e113,he113,h⟩:=idxn_some h
 refine ⟨_,⟨(by omega),map_at he113,rfl⟩,?_⟩
 conv=>whnf
 obtain ⟨c114,h⟩:=chk_some h
 refine Side.mk ⟨rfl,map_len (l:=e113) (c:=cL cI) fun _=>rfl,show capOk _ 24 by simpa only [List.length_map,List.length_cons,List.length_nil,Nat.zero_add] using c114⟩ ?_
 conv=>whnf
 refine Nf.mk (List.map (cL cI) (y106++e113)) (app_map (l:=y106) (m:=e113) (c:=cL cI)) ?_
 conv=>whnf
 refine Arith.mk (by show inR _;unfold inR;omega) ?_
 conv=>whnf
 cases h
 exact Nxt.mk _ ho111 (eA [(64,some 64)])
 obtain ⟨h,b112d⟩:=cfd b112 h
 conv=>whnf
 cases h
 have ho111:_=_:=ho111
 cases ho111
 exact Join.mk (eA [(64,some 64)])
 replace h:=hk87
 obtain ⟨z117,_⟩:=hp
 conv=>whnf
 cases h
 conv=>whnf
 exact Side.mk ⟨rfl,trivial⟩ ⟨rfl,rfl⟩
theorem sp_wordset_ordered_1 (a_:List Int) (b_:List Int) (p2_:(List Int)→(List Int)→Option Int) (f2_:FuncId) (hf2:∀ x0 x1 r,p2_ x0 x1=some r→Sp Tryz.prog f2_ [.im (nL cI x0),.im (nL cI x1)] (.im (nI r))) (r:Bool) (h:Ok (nL cI a_)→Ok (nL cI b_)→Ok (.ref [.fn f2_ []])→wordset_ordered_1 a_ b_ p2_=some r):Sp Tryz.prog 134 [.im (nL cI a_),.im (nL cI b_),.im (.ref [.fn f2_ []])] (.im (nB r)):=by
 refine sp_of rfl [] rfl rfl rfl (Nat.le_of_ble_eq_true rfl) rfl fun hk=>?_
 replace h:=h hk.1 hk.2.1 hk.2.2.1
 have z1:lZ a_:=ok_len hk.1
 have z2:lZ b_:=ok_len hk.2.1
 unfold wordset_ordered_1 at h
 conv=>whnf
 obtain ⟨c51,hc51,h⟩:=bind_some h
 refine ⟨_,hf2 a_ b_ c51 hc51,?_⟩
 conv=>whnf
 cases h
 conv=>whnf
 exact ⟨rfl,rfl⟩
theorem sp_slices_CompactFunc_SSint_Sint_n1 (s_:List (List Int)) (eq_:(List Int)→(List Int)→Option Bool) (f1_:FuncId) (k1_0:IV) (hk1_0:nz k1_0=k1_0) (hf1:∀ x0 x1 r,eq_ x0 x1=some r→Sp Tryz.prog f1_ [.im (nL cI x0),.im (nL cI x1),.im k1_0] (.im (nB r))) (r:List (List Int)) (h:OkL (List.map (cL cI) s_)→Ok (.fn f1_ [k1_0])→slices_CompactFunc_SSint_Sint_n1 s_ eq_=some r):Sp Tryz.prog 133 [.row 25 1 (List.map (cL cI) s_),.im (.fn f1_ [k1_0])] (.row 25 1 (List.map (cL cI) r)):=by
 refine sp_of rfl [] rfl rfl rfl (Nat.le_of_ble_eq_true rfl) rfl fun hk=>?_
 replace h:=h hk.1 hk.2.1
 have z1:lZ s_:=okl_len hk.1
 unfold slices_CompactFunc_SSint_Sint_n1 at h
 conv=>whnf
 refine Side.mk rfl ?_
 conv=>whnf
 refine Nf.mk (List.length s_) len_map ?_
 conv=>whnf
 refine Both.mk ?_ ?_<;>intro b51
 obtain ⟨h,b51d⟩:=ctd b51 h
 conv=>whnf
 cases h
 conv=>whnf
 exact Side.mk ⟨rfl,trivial⟩ ⟨rfl,rfl⟩
 obtain ⟨h,b51d⟩:=cfd b51 h
 conv=>whnf
 obtain ⟨oc,hc,hk52⟩:=bind_some h
 clear h
 have h:=hc
 clear hc
 refine Cut.mkS oc (Y:=Unit) (fun (_:Unit)=>mkSt [(0,.osl 66 1)] [(66,.row 25 1 (List.map (cL cI) s_))] []) (fun (_:Unit)=>lZ s_∧True) (by rintro ⟨⟩;exact ((Holds.kdl 66 rfl).and (hT))) ?_ ?_
 conv=>whnf
 refine Loops.iter (fun (s:Nat)=>slices_CompactFunc_SSint_Sint_n1.s20 s_ eq_ s) (fun k356=>mkSt [(0,.osl 66 1),(1,.im (.fn f1_ [k1_0])),(5,.im (nI (↑k356:Int)))] [(66,.row 25 1 (List.map (cL cI) s_))] []) (fun k356=>lZ s_∧True) h (eA [(66,some 0)]) (by rintro k356;exact ((Holds.kdl 66 rfl).and (hT))) ?_
 clear h
 rintro k k356 o hp h ho432
 replace h:slices_CompactFunc_SSint_Sint_n1.s20 s_ eq_ k356=some o:=h
 unfold slices_CompactFunc_SSint_Sint_n1.s20 at h
 obtain ⟨z508,_⟩:=hp
 conv=>whnf
 refine Side.mk rfl ?_
 conv=>whnf
 refine Nf.mk (List.length s_) len_map ?_
 conv=>whnf
 refine Both.mk ?_ ?_<;>intro b433
 obtain ⟨h,b433d⟩:=ctd b433 h
 conv=>whnf
 obtain ⟨e434,he434,h⟩:=idxn_some h
 refine Side.mk ⟨(by omega),rfl,map_lt he434⟩ ?_
 conv=>whnf
 refine ⟨_,_,⟨rfl,map_at he434,rfl,rfl⟩,?_⟩
 conv=>whnf
 refine Arith.mk (by show inR _;unfold inR;omega) ?_
 conv=>whnf
 obtain ⟨e435,he435z,he435,h⟩:=idx_some h
 refine Side.mk ⟨he435z,rfl,map_lt he435⟩ ?_
 conv=>whnf
 refine ⟨_,_,⟨rfl,map_at he435,rfl,rfl⟩,?_⟩
 conv=>whnf
 obtain ⟨c436,hc436,h⟩:=bind_some h
 refine ⟨_,Sp.args (hf1 e434 e435 c436 hc436) (by rw [hk1_0];try rfl),?_⟩
 conv=>whnf
 refine Both.mk ?_ ?_<;>intro b437
 replace h:=cond_t b437 h
 conv=>whnf
 obtain ⟨c438,h⟩:=chk_some h
 refine Side.mk ⟨rfl,c438.1,by have hh_:=c438;simp only [List.length_map];omega,by have hh_:=c438;simp only [List.length_map];omega⟩ ?_
 conv=>whnf
 obtain ⟨⟨y471,k472⟩,hc,hk439⟩:=bind_some h
 clear h
 have h:=hc
 clear hc
 refine Cut.mk (mkSt [(0,.osl 66 1),(5,.im (nI (↑k472:Int)))] [(66,.row 25 1 (List.map (cL cI) y471))] []) (lZ y471∧True) ((Holds.kdl 66 rfl).and (hT)) ?_ (fun hp=>?_)
 conv=>whnf
 refine Loops.iter (fun (s:List (List Int)×Nat×Nat)=>slices_CompactFunc_SSint_Sint_n1.s18 eq_ k356 s.1 s.2.1 s.2.2) (fun (y481,k482,y483)=>mkSt [(0,.osl 66 1),(1,.im (.fn f1_ [k1_0])),(5,.im (nI (↑k482:Int))),(6,.osv 66 1 k356 1),(7,.im (nI (↑y483:Int)))] [(66,.row 25 1 (List.map (cL cI) y481))] []) (fun (y481,k482,y483)=>lZ y481∧True) h (Ent.mk [(66,some 66)] rfl ⟨⟨.osl 66 _,rfl,.osl rfl rfl rfl⟩,eI rfl rfl,eI rfl rfl,⟨.osv 66 _ _ _,rfl,.osv rfl rfl rfl⟩,eI rfl rfl,trivial⟩ ⟨.inl ⟨66,rfl,rfl,trivial⟩,trivial⟩ trivial) (by rintro ⟨y481,k482,y483⟩;exact ((Holds.kdl 66 rfl).and (hT))) ?_
 clear h
 rintro k ⟨y481,k482,y483⟩ o hp h ho493
 replace h:slices_CompactFunc_SSint_Sint_n1.s18 eq_ k356 y481 k482 y483=some o:=h
 unfold slices_CompactFunc_SSint_Sint_n1.s18 at h
 obtain ⟨z503,_⟩:=hp
 conv=>whnf
 refine Side.mk rfl ?_
 conv=>whnf
 refine Nf.mk (List.length y481-k356) len_own ?_
 conv=>whnf
 refine Both.mk ?_ ?_<;>intro b494
 obtain ⟨h,b494d⟩:=ctd b494 h
 conv=>whnf
 obtain ⟨e495,he495,h⟩:=idxn_some h
 refine Side.mk ⟨(by omega),rfl,map_lt he495⟩ ?_
 conv=>whnf
 refine Nf.mk (k356+y483) rfl ?_
 conv=>whnf
 refine ⟨_,_,⟨rfl,map_at he495,rfl,rfl⟩,?_⟩
 conv=>whnf
 refine Arith.mk (by show inR _;unfold inR;omega) ?_
 conv=>whnf
 obtain ⟨c497,h⟩:=chk_some h
 obtain ⟨e496,he496,h⟩:=idxn_some h
 refine Side.mk ⟨c497,rfl,map_lt he496⟩ ?_
 conv=>whnf
 refine Nf.mk (k356+(Int.toNat ((↑y483:Int)-1))) rfl ?_
 conv=>whnf
 refine ⟨_,_,⟨rfl,map_at he496,rfl,rfl⟩,?_⟩
 conv=>whnf
 obtain ⟨c498,hc498,h⟩:=bind_some h
 refine ⟨_,Sp.args (hf1 e495 e496 c498 hc498) (by rw [hk1_0];try rfl),?_⟩
 conv=>whnf
 refine Both.mk ?_ ?_<;>intro b499
 replace h:=cond_t b499 h
 conv=>whnf
 obtain ⟨e500,he500,h⟩:=idxn_some h
 refine Side.mk ⟨(by omega),rfl,map_lt he500⟩ ?_
 conv=>whnf
 refine Nf.mk (k356+y483) rfl ?_
 conv=>whnf
 refine ⟨_,_,⟨rfl,map_at he500,rfl,rfl⟩,?_⟩
 conv=>whnf
 obtain ⟨e501,he501,h⟩:=idxn_some h
 refine Side.mk ⟨(by omega),rfl,map_lt he501⟩ ?_
 conv=>whnf
 refine Side.mk ⟨rfl,trivial⟩ ?_
 conv=>whnf
 refine ⟨_,map_at he501,?_⟩
 conv=>whnf
 refine Nf.mk (List.map (cL cI) (List.set y481 k482 e500)) (set_map rfl) ?_
 conv=>whnf
 obtain ⟨c502,h⟩:=chk_some h
 refine Arith.mk c502 ?_
 conv=>whnf
 refine Arith.mk (by show inR _;unfold inR;omega) ?_
 conv=>whnf
 cases h
 exact Nxt.mk _ ho493 (Ent.mk [(66,some 66)] rfl ⟨⟨.osl 66 _,rfl,.osl rfl rfl rfl⟩,eI rfl rfl,eI rfl rfl,⟨.osv 66 _ _ _,rfl,.osv rfl rfl rfl⟩,eI rfl rfl,trivial⟩ ⟨.inl ⟨66,rfl,rfl,trivial⟩,trivial⟩ trivial)
 replace h:=cond_f b499 h
 conv=>whnf
 refine Arith.mk (by show inR _;unfold inR;omega) ?_
 conv=>whnf
 cases h
 exact Nxt.mk _ ho493 (Ent.mk [(66,some 66)] rfl ⟨⟨.osl 66 _,rfl,.osl rfl rfl rfl⟩,eI rfl rfl,eI rfl rfl,⟨.osv 66 _ _ _,rfl,.osv rfl rfl rfl⟩,eI rfl rfl,trivial⟩ ⟨.inl ⟨66,rfl,rfl,trivial⟩,trivial⟩ trivial)
 obtain ⟨h,b494d⟩:=cfd b494 h
 conv=>whnf
 cases h
 have ho493:_=_:=ho493
 cases ho493
 exact Join.mk (eA [(66,some 66)])
 replace h:slices_CompactFunc_SSint_Sint_n1.k19 y471 k472=some _:=hk439
 unfold slices_CompactFunc_SSint_Sint_n1.k19 at h
 obtain ⟨z504,_⟩:=hp
 conv=>whnf
 obtain ⟨c505,h⟩:=chk_some h
 refine Side.mk ⟨rfl,c505.1,by have hh_:=c505;simp only [List.length_map];omega,by have hh_:=c505;simp only [List.length_map];omega⟩ ?_
 conv=>whnf
 obtain ⟨c506,h⟩:=chk_some h
 refine Side.mk ⟨rfl,by have hh_:=c506;simp only [List.length_map];omega⟩ ?_
 conv=>whnf
 refine Nf.mk (List.map (cL cI) (List.take k472 y471++List.replicate (List.length y471-k472) [])) (clr_map (z:=[]) rfl) ?_
 conv=>whnf
 obtain ⟨c507,h⟩:=chk_some h
 refine Side.mk ⟨rfl,c507.1,by have hh_:=c507;simp only [List.length_map];omega,by have hh_:=c507;simp only [List.length_map];omega⟩ ?_
 conv=>whnf
 refine Nf.mk (List.map (cL cI) (List.take k472 (List.take k472 y471++List.replicate (List.length y471-k472) []))) cut_own ?_
 conv=>whnf
 cases h
 have ho432:_=_:=ho432
 cases ho432
 replace h:some _=some _:=hk52
 cases h
 conv=>whnf
 exact Side.mk ⟨rfl,trivial⟩ ⟨rfl,rfl⟩
 replace h:=cond_f b437 h
 conv=>whnf
 refine Arith.mk (by show inR _;unfold inR;omega) ?_
 conv=>whnf
 cases h
 exact Nxt.mk _ ho432 (eA [(66,some 66)])
 obtain ⟨h,b433d⟩:=cfd b433 h
 conv=>whnf
 cases h
 have ho432:_=_:=ho432
 cases ho432
 exact JoinS.mk' _ rfl (eA [(66,some 66)])
 rintro ⟨⟩ rfl hp
 replace h:=sum_inl hk52
 obtain ⟨z509,_⟩:=hp
 conv=>whnf
 cases h
 conv=>whnf
 exact Side.mk ⟨rfl,trivial⟩ ⟨rfl,rfl⟩
theorem sp_wordset_ordered (l_:List (List Int)) (order_:(List Int)→(List Int)→Option Int) (f1_:FuncId) (hf1:∀ x0 x1 r,order_ x0 x1=some r→Sp Tryz.prog f1_ [.im (nL cI x0),.im (nL cI x1)] (.im (nI r))) (hd1:CmpE Tryz.prog f1_ (fun x=>nL cI x) order_) (r:List (List Int)) (h:Ok (nL (cL cI) l_)→Ok (.fn f1_ [])→wordset_ordered l_ order_=some r):Sp Tryz.prog 98 [.im (nL (cL cI) l_),.im (.fn f1_ [])] (.row 25 1 (List.map (cL cI) r)):=by
 refine sp_of rfl [13000,16000,2013000] rfl rfl rfl (Nat.le_of_ble_eq_true rfl) rfl fun hk=>?_
 replace h:=h hk.1 hk.2.1
 have z1:lZ l_:=ok_len hk.1
 unfold wordset_ordered at h
 conv=>whnf
 obtain ⟨c51,hc51,h⟩:=bind_some h
 refine ⟨_,(sp_lib_Clone_words l_ c51 (hc51)),?_⟩
 conv=>whnf
 refine Side.mk rfl ?_
 conv=>whnf
 refine Side.mk ⟨rfl,trivial⟩ ?_
 conv=>whnf
 obtain ⟨c52,hc52,h⟩:=bind_some h
 refine ⟨_,(sp_lib_SortFunc_words c51 order_ f1_ hd1 c52 (hc52)),?_⟩
 conv=>whnf
 refine Side.mk ⟨rfl,rfl,trivial⟩ ?_
 conv=>whnf
 obtain ⟨c53,hc53,h⟩:=bind_some h
 refine ⟨_,(sp_slices_CompactFunc_SSint_Sint_n1 c52 (fun u0 u1=>wordset_ordered_1 u0 u1 order_) 134 (.ref [.fn f1_ []]) rfl (fun u0 u1 r h=>(sp_wordset_ordered_1 u0 u1 order_ f1_ hf1 r (fun _ _ _=>h))) c53 (fun _ _=>hc53)),?_⟩
 conv=>whnf
 refine Side.mk rfl ?_
 conv=>whnf
 refine Nf.mk (List.length c53) len_map ?_
 conv=>whnf
 obtain ⟨y73,hc,hk54⟩:=bind_some h
 clear h
 have h:=hc
 clear hc
 refine Cut.mk (mkSt [(5,.osl 64 1)] [(64,.row 25 1 (List.map (cL cI) y73))] []) (lZ y73∧True) ((Holds.kdl 64 rfl).and (hT)) ?_ (fun hp=>?_)
 conv=>whnf
 refine Loops.iter (fun (s:List (List Int)×Nat)=>wordset_ordered.s2 c53 s.1 s.2) (fun (y78,y79)=>mkSt [(5,.osl 64 1),(16,.osl 64 1),(17,.im (nI (↑(List.length c53):Int))),(18,.im (nI (↑y79:Int)))] [(64,.row 25 1 (List.map (cL cI) y78))] []) (fun (y78,y79)=>lZ y78∧True) h (eA [(64,some 15)]) (by rintro ⟨y78,y79⟩;exact ((Holds.kdl 64 rfl).and (hT))) ?_
 clear h
 rintro k ⟨y78,y79⟩ o hp h ho85
 replace h:wordset_ordered.s2 c53 y78 y79=some o:=h
 unfold wordset_ordered.s2 at h
 obtain ⟨z91,_⟩:=hp
 conv=>whnf
 refine Both.mk ?_ ?_<;>intro b86
 obtain ⟨h,b86d⟩:=ctd b86 h
 conv=>whnf
 obtain ⟨e87,he87,h⟩:=idxn_some h
 refine Side.mk ⟨(by omega),rfl,map_lt he87⟩ ?_
 conv=>whnf
 refine ⟨_,_,⟨rfl,map_at he87,rfl,rfl⟩,?_⟩
 conv=>whnf
 obtain ⟨c88,hc88,h⟩:=bind_some h
 refine ⟨_,(sp_lib_Clone_int e87 c88 (hc88)).im,?_⟩
 conv=>whnf
 obtain ⟨e89,he89,h⟩:=idxn_some h
 refine Side.mk ⟨(by omega),rfl,map_lt he89⟩ ?_
 conv=>whnf
 refine Side.mk ⟨rfl,trivial⟩ ?_
 conv=>whnf
 refine ⟨_,map_at he89,?_⟩
 conv=>whnf
 refine Nf.mk (List.map (cL cI) (List.set y78 y79 c88)) (set_map rfl) ?_
 conv=>whnf
 obtain ⟨c90,h⟩:=chk_some h
 refine Arith.mk c90 ?_
 conv=>whnf
 cases h
 exact Nxt.mk _ ho85 (eA [(64,some 64)])
 obtain ⟨h,b86d⟩:=cfd b86 h
 conv=>whnf
 cases h
 have ho85:_=_:=ho85
 cases ho85
 exact Join.mk (eA [(64,some 64)])
 replace h:=hk54
 obtain ⟨z92,_⟩:=hp
 conv=>whnf
 cases h
 conv=>whnf
 exact Side.mk ⟨rfl,trivial⟩ ⟨rfl,rfl⟩
theorem sp_wordset_Sorted (l_:List (List Int)) (r:List (List Int)) (h:Ok (nL (cL cI) l_)→wordset_Sorted l_=some r):Sp Tryz.prog 89 [.im (nL (cL cI) l_)] (.row 25 1 (List.map (cL cI) r)):=by
 refine sp_of rfl [] rfl rfl rfl (Nat.le_of_ble_eq_true rfl) rfl fun hk=>?_
 replace h:=h hk.1
 have z1:lZ l_:=ok_len hk.1
 unfold wordset_Sorted at h
 conv=>whnf
 obtain ⟨c51,hc51,h⟩:=bind_some h
 refine ⟨_,(sp_wordset_ordered l_ (fun u0 u1=>word_Compare u0 u1) 96 (fun u0 u1 r h=>(sp_word_Compare u0 u1 r (fun _ _=>h))) cmpE_word_Compare c51 (fun _ _=>hc51)),?_⟩
 conv=>whnf
 cases h
 conv=>whnf
 exact Side.mk ⟨rfl,trivial⟩ ⟨rfl,rfl⟩
theorem sp_wordset_Union (lists_:List (List (List Int))) (r:List (List Int)) (h:Ok (nL (cL (cL cI)) lists_)→wordset_Union lists_=some r):Sp Tryz.prog 60 [.im (nL (cL (cL cI)) lists_)] (.im (nL (cL cI) r)):=by
 refine sp_of rfl [] rfl rfl rfl (Nat.le_of_ble_eq_true rfl) rfl fun hk=>?_
 replace h:=h hk.1
 have z1:lZ lists_:=ok_len hk.1
 unfold wordset_Union at h
 conv=>whnf
 obtain ⟨c51,hc51,h⟩:=bind_some h
 refine ⟨_,(sp_slices_Concat_SSint_Sint lists_ c51 (fun _=>hc51)).im,?_⟩
 conv=>whnf
 obtain ⟨c52,hc52,h⟩:=bind_some h
 refine ⟨_,(sp_wordset_Sorted c51 c52 (fun _=>hc52)).im,?_⟩
 conv=>whnf
 cases h
 conv=>whnf
 exact ⟨rfl,rfl⟩
theorem sp_wordset_longest (l_:List (List Int)) (r:Int) (h:Ok (nL (cL cI) l_)→wordset_longest l_=some r):Sp Tryz.prog 93 [.im (nL (cL cI) l_)] (.im (nI r)):=by
 refine sp_of rfl [] rfl rfl rfl (Nat.le_of_ble_eq_true rfl) rfl fun hk=>?_
 replace h:=h hk.1
 have z1:lZ l_:=ok_len hk.1
 unfold wordset_longest at h
 conv=>whnf
 refine Nf.mk (List.length l_) len_map ?_
 conv=>whnf
 obtain ⟨n62,hc,hk51⟩:=bind_some h
 clear h
 have h:=hc
 clear hc
 refine Cut.mk (mkSt [(3,.im (nI n62))] [] []) (True) (hT) ?_ (fun hp=>?_)
 conv=>whnf
 refine Loops.iter (fun (s:Int×Nat)=>wordset_longest.s2 l_ s.1 s.2) (fun (n65,y66)=>mkSt [(3,.im (nI n65)),(6,.im (nL (cL cI) l_)),(7,.im (nI (↑(List.length l_):Int))),(8,.im (nI (↑y66:Int)))] [] []) (fun (n65,y66)=>lZ l_∧True) h (eA []) (by rintro ⟨n65,y66⟩;exact ((Holds.avl 6 rfl).and (hT))) ?_
 clear h
 rintro k ⟨n65,y66⟩ o hp h ho69
 replace h:wordset_longest.s2 l_ n65 y66=some o:=h
 unfold wordset_longest.s2 at h
 obtain ⟨z72,_⟩:=hp
 conv=>whnf
 refine Both.mk ?_ ?_<;>intro b70
 obtain ⟨h,b70d⟩:=ctd b70 h
 conv=>whnf
 obtain ⟨e71,he71,h⟩:=idxn_some h
 refine ⟨_,⟨(by omega),map_at he71,rfl⟩,?_⟩
 conv=>whnf
 refine Nf.mk (List.length e71) len_map ?_
 conv=>whnf
 refine Arith.mk (by show inR _;unfold inR;omega) ?_
 conv=>whnf
 cases h
 exact Nxt.mk _ ho69 (eA [])
 obtain ⟨h,b70d⟩:=cfd b70 h
 conv=>whnf
 cases h
 have ho69:_=_:=ho69
 cases ho69
 exact Join.mk (eA [])
 replace h:=hk51
 conv=>whnf
 cases h
 conv=>whnf
 exact ⟨rfl,rfl⟩
theorem sp_slices_Concat_Sint_int (slices_:List (List Int)) (r:List Int) (h:Ok (nL (cL cI) slices_)→slices_Concat_Sint_int slices_=some r):Sp Tryz.prog 118 [.im (nL (cL cI) slices_)] (.row 3 1 (List.map cI r)):=by
 refine sp_of rfl [4025000] rfl rfl rfl (Nat.le_of_ble_eq_true rfl) rfl fun hk=>?_
 replace h:=h hk.1
 have z1:lZ slices_:=ok_len hk.1
 unfold slices_Concat_Sint_int at h
 conv=>whnf
 refine Nf.mk (List.length slices_) len_map ?_
 conv=>whnf
 obtain ⟨size68,hc,hk51⟩:=bind_some h
 clear h
 have h:=hc
 clear hc
 refine Cut.mk (mkSt [(0,.im (nL (cL cI) slices_)),(3,.im (nI (↑size68:Int)))] [] []) (lZ slices_∧True) ((Holds.avl 0 rfl).and (hT)) ?_ (fun hp=>?_)
 conv=>whnf
 refine Loops.iter (fun (s:Nat×Nat)=>slices_Concat_Sint_int.s2 slices_ s.1 s.2) (fun (size73,y74)=>mkSt [(0,.im (nL (cL cI) slices_)),(3,.im (nI (↑size73:Int))),(9,.im (nL (cL cI) slices_)),(10,.im (nI (↑(List.length slices_):Int))),(11,.im (nI (↑y74:Int)))] [] []) (fun (size73,y74)=>lZ slices_∧True) h (eA []) (by rintro ⟨size73,y74⟩;exact ((Holds.avl 0 rfl).and (hT))) ?_
 clear h
 rintro k ⟨size73,y74⟩ o hp h ho79
 replace h:slices_Concat_Sint_int.s2 slices_ size73 y74=some o:=h
 unfold slices_Concat_Sint_int.s2 at h
 obtain ⟨z84,_⟩:=hp
 conv=>whnf
 refine Both.mk ?_ ?_<;>intro b80
 obtain ⟨h,b80d⟩:=ctd b80 h
 conv=>whnf
 obtain ⟨e81,he81,h⟩:=idxn_some h
 refine ⟨_,⟨(by omega),map_at he81,rfl⟩,?_⟩
 conv=>whnf
 refine Nf.mk (List.length e81) len_map ?_
 conv=>whnf
 obtain ⟨c82,h⟩:=chk_some h
 refine Arith.mk c82 ?_
 conv=>whnf
 refine Both.mk ?_ ?_<;>intro b83
 obtain ⟨h,b83d⟩:=ctd b83 h
 conv=>whnf
 cases h
 obtain ⟨h,b83d⟩:=cfd b83 h
 conv=>whnf
 refine Arith.mk (by show inR _;unfold inR;omega) ?_
 conv=>whnf
 cases h
 exact Nxt.mk _ ho79 (eA [])
 obtain ⟨h,b80d⟩:=cfd b80 h
 conv=>whnf
 cases h
 have ho79:_=_:=ho79
 cases ho79
 exact Join.mk (eA [])
 replace h:=hk51
 obtain ⟨z85,_⟩:=hp
 conv=>whnf
 obtain ⟨c86,hc86,h⟩:=bind_some h
 refine ⟨_,(sp_lib_Grow_int (↑size68:Int) c86 (hc86)),?_⟩
 conv=>whnf
 refine Nf.mk (List.length slices_) len_map ?_
 conv=>whnf
 obtain ⟨y102,hc,hk87⟩:=bind_some h
 clear h
 have h:=hc
 clear hc
 refine Cut.mk (mkSt [(6,.osl 64 1)] [(64,.row 3 1 (List.map cI y102))] []) (lZ y102∧True) ((Holds.kdl 64 rfl).and (hT)) ?_ (fun hp=>?_)
 conv=>whnf
 refine Loops.iter (fun (s:List Int×Nat)=>slices_Concat_Sint_int.s4 slices_ s.1 s.2) (fun (y106,y107)=>mkSt [(6,.osl 64 1),(25,.im (nL (cL cI) slices_)),(26,.im (nI (↑(List.length slices_):Int))),(27,.im (nI (↑y107:Int)))] [(64,.row 3 1 (List.map cI y106))] []) (fun (y106,y107)=>lZ slices_∧lZ y106∧True) h (eA [(64,some 24)]) (by rintro ⟨y106,y107⟩;exact ((Holds.avl 25 rfl).and ((Holds.kdl 64 rfl).and (hT)))) ?_
 clear h
 rintro k ⟨y106,y107⟩ o hp h ho111
 replace h:slices_Concat_Sint_int.s4 slices_ y106 y107=some o:=h
 unfold slices_Concat_Sint_int.s4 at h
 obtain ⟨z115,z116,_⟩:=hp
 conv=>whnf
 refine Both.mk ?_ ?_<;>intro b112
 obtain ⟨h,b112d⟩:=ctd b112 h
 conv=>whnf
 obtain ⟨e113,he113,h⟩:=idxn_some h
 refine ⟨_,⟨(by omega),map_at he113,rfl⟩,?_⟩
 conv=>whnf
 obtain ⟨c114,h⟩:=chk_some h
 refine Side.mk ⟨rfl,map_len (l:=e113) (c:=cI) fun _=>rfl,show capOk _ 8 by simpa only [List.length_map,List.length_cons,List.length_nil,Nat.zero_add] using c114⟩ ?_
 conv=>whnf
 refine Nf.mk (List.map cI (y106++e113)) (app_map (l:=y106) (m:=e113) (c:=cI)) ?_
 conv=>whnf
 refine Arith.mk (by show inR _;unfold inR;omega) ?_
 conv=>whnf
 cases h
 exact Nxt.mk _ ho111 (eA [(64,some 64)])
 obtain ⟨h,b112d⟩:=cfd b112 h
 conv=>whnf
 cases h
 have ho111:_=_:=ho111
 cases ho111
 exact Join.mk (eA [(64,some 64)])
 replace h:=hk87
 obtain ⟨z117,_⟩:=hp
 conv=>whnf
 cases h
 conv=>whnf
 exact Side.mk ⟨rfl,trivial⟩ ⟨rfl,rfl⟩
theorem sp_word_Join (parts_:List (List Int)) (r:List Int) (h:Ok (nL (cL cI) parts_)→word_Join parts_=some r):Sp Tryz.prog 88 [.im (nL (cL cI) parts_)] (.im (nL cI r)):=by
 refine sp_of rfl [] rfl rfl rfl (Nat.le_of_ble_eq_true rfl) rfl fun hk=>?_
 replace h:=h hk.1
 have z1:lZ parts_:=ok_len hk.1
 unfold word_Join at h
 conv=>whnf
 obtain ⟨c51,hc51,h⟩:=bind_some h
 refine ⟨_,(sp_slices_Concat_Sint_int parts_ c51 (fun _=>hc51)).im,?_⟩
 conv=>whnf
 cases h
 conv=>whnf
 exact ⟨rfl,rfl⟩
theorem sp_wordset_Product (a_:List (List Int)) (b_:List (List Int)) (r:List (List Int)×Int) (h:Ok (nL (cL cI) a_)→Ok (nL (cL cI) b_)→wordset_Product a_ b_=some r):Sp Tryz.prog 59 [.im (nL (cL cI) a_),.im (nL (cL cI) b_)] (.tup [nL (cL cI) r.1,nI r.2]):=by
 refine sp_of rfl [73000,2073000] rfl rfl rfl (Nat.le_of_ble_eq_true rfl) rfl fun hk=>?_
 replace h:=h hk.1 hk.2.1
 have z1:lZ a_:=ok_len hk.1
 have z2:lZ b_:=ok_len hk.2.1
 unfold wordset_Product at h
 conv=>whnf
 obtain ⟨y54,hc,hk52⟩:=bind_some h
 clear h
 have h:=hc
 clear hc
 refine Cut.mk (mkSt [(0,.im (nL (cL cI) a_)),(1,.im (nL (cL cI) b_)),(21,.im (nB y54))] [] []) (lZ a_∧lZ b_∧True) ((Holds.avl 0 rfl).and ((Holds.avl 1 rfl).and (hT))) ?_ (fun hp=>?_)
 conv=>whnf
 refine Nf.mk (List.length a_) len_map ?_
 conv=>whnf
 refine Both.mk ?_ ?_<;>intro b55
 replace b55:=beq_ff b55
 obtain ⟨h,b55d⟩:=cfd b55 h
 conv=>whnf
 refine Both.yes (ff_beq b55) ?_
 conv=>whnf
 refine Nf.mk (List.length b_) len_map ?_
 conv=>whnf
 refine Both.yes (ff_beq b55) ?_
 conv=>whnf
 refine Both.no b55 ?_
 conv=>whnf
 cases h
 exact Join.mk (eA [])
 replace b55:=beq_ft b55
 obtain ⟨h,b55d⟩:=ctd b55 h
 conv=>whnf
 iterate 2 (refine Both.no (tf_beq b55) ?_;(conv=>whnf))
 refine Both.yes b55 ?_
 conv=>whnf
 cases h
 exact Join.mk (eA [])
 replace h:=hk52
 obtain ⟨z56,z57,_⟩:=hp
 conv=>whnf
 refine Both.mk ?_ ?_<;>intro b58
 replace h:=cond_t b58 h
 conv=>whnf
 cases h
 conv=>whnf
 exact ⟨rfl,rfl⟩
 replace h:=cond_f b58 h
 conv=>whnf
 obtain ⟨c59,hc59,h⟩:=bind_some h
 refine ⟨_,(sp_wordset_longest a_ c59 (fun _=>hc59)),?_⟩
 conv=>whnf
 obtain ⟨c60,hc60,h⟩:=bind_some h
 refine ⟨_,(sp_wordset_longest b_ c60 (fun _=>hc60)),?_⟩
 conv=>whnf
 obtain ⟨c61,h⟩:=chk_some h
 refine Arith.mk c61 ?_
 conv=>whnf
 refine Both.mk ?_ ?_<;>intro b62
 obtain ⟨h,b62d⟩:=ctd b62 h
 conv=>whnf
 cases h
 conv=>whnf
 exact ⟨rfl,rfl⟩
 obtain ⟨h,b62d⟩:=cfd b62 h
 conv=>whnf
 obtain ⟨c63,hc63,h⟩:=bind_some h
 refine ⟨_,(sp_wordset_Sorted a_ c63 (fun _=>hc63)).im,?_⟩
 conv=>whnf
 obtain ⟨c64,hc64,h⟩:=bind_some h
 refine ⟨_,(sp_wordset_Sorted b_ c64 (fun _=>hc64)).im,?_⟩
 conv=>whnf
 refine Nf.mk (List.length c63) len_map ?_
 conv=>whnf
 refine Nf.mk (List.length c64) len_map ?_
 conv=>whnf
 refine Both.mk ?_ ?_<;>intro b65
 obtain ⟨h,b65d⟩:=ctd b65 h
 conv=>whnf
 cases h
 conv=>whnf
 exact ⟨rfl,rfl⟩
 obtain ⟨h,b65d⟩:=cfd b65 h
 conv=>whnf
 refine Nf.mk (List.length c63) len_map ?_
 conv=>whnf
 obtain ⟨oc,hc,hk66⟩:=bind_some h
 clear h
 have h:=hc
 clear hc
 refine Cut.mkS oc (Y:=List (List Int)) (fun y502=>mkSt [(7,.osl 74 1)] [(74,.row 25 1 (List.map (cL cI) y502))] []) (fun y502=>lZ y502∧True) (by rintro y502;exact ((Holds.kdl 74 rfl).and (hT))) ?_ ?_
 conv=>whnf
 refine Loops.iter (fun (s:(List (ByteArray×Bool))×List (List Int)×Nat)=>wordset_Product.s56 c63 c64 s.1 s.2.1 s.2.2) (fun (y643,y644,y645)=>mkSt [(1,.im (nL (cL cI) c64)),(6,.osl 74 1),(7,.osl 75 1),(39,.im (nL (cL cI) c63)),(40,.im (nI (↑(List.length c63):Int))),(41,.im (nI (↑y645:Int)))] [(74,.map (mapV wS wB y643)),(75,.row 25 1 (List.map (cL cI) y644))] []) (fun (y643,y644,y645)=>lZ c64∧lZ c63∧lZ y644∧True) h (eA [(74,some 38),(75,none)]) (by rintro ⟨y643,y644,y645⟩;exact ((Holds.avl 1 rfl).and ((Holds.avl 39 rfl).and ((Holds.kdl 75 rfl).and (hT))))) ?_
 clear h
 rintro k ⟨y643,y644,y645⟩ o hp h ho790
 replace h:wordset_Product.s56 c63 c64 y643 y644 y645=some o:=h
 unfold wordset_Product.s56 at h
 obtain ⟨z935,z936,z937,_⟩:=hp
 conv=>whnf
 refine Both.mk ?_ ?_<;>intro b791
 obtain ⟨h,b791d⟩:=ctd b791 h
 conv=>whnf
 obtain ⟨e792,he792,h⟩:=idxn_some h
 refine ⟨_,⟨(by omega),map_at he792,rfl⟩,?_⟩
 conv=>whnf
 refine Nf.mk (List.length c64) len_map ?_
 conv=>whnf
 obtain ⟨oc,hc,hk793⟩:=bind_some h
 clear h
 have h:=hc
 clear hc
 refine Cut.mkS oc (Y:=(List (ByteArray×Bool))×List (List Int)) (fun (y862,y863)=>mkSt [(1,.im (nL (cL cI) c64)),(6,.osl 74 1),(7,.osl 75 1),(39,.im (nL (cL cI) c63)),(40,.im (nI (↑(List.length c63):Int))),(41,.im (nI (↑y645:Int)))] [(74,.map (mapV wS wB y862)),(75,.row 25 1 (List.map (cL cI) y863))] []) (fun (y862,y863)=>lZ c64∧lZ c63∧lZ y863∧True) (by rintro ⟨y862,y863⟩;exact ((Holds.avl 1 rfl).and ((Holds.avl 39 rfl).and ((Holds.kdl 75 rfl).and (hT))))) ?_ ?_
 conv=>whnf
 refine Loops.iter (fun (s:(List (ByteArray×Bool))×List (List Int)×Nat)=>wordset_Product.s54 c64 e792 s.1 s.2.1 s.2.2) (fun (y884,y885,y886)=>mkSt [(1,.im (nL (cL cI) c64)),(6,.osl 74 1),(7,.osl 75 1),(9,.im (nL cI e792)),(39,.im (nL (cL cI) c63)),(40,.im (nI (↑(List.length c63):Int))),(41,.im (nI (↑y645:Int))),(45,.im (nL (cL cI) c64)),(46,.im (nI (↑(List.length c64):Int))),(47,.im (nI (↑y886:Int)))] [(74,.map (mapV wS wB y884)),(75,.row 25 1 (List.map (cL cI) y885))] []) (fun (y884,y885,y886)=>lZ c64∧lZ e792∧lZ c63∧lZ y885∧True) h (eA [(74,some 74),(75,some 75)]) (by rintro ⟨y884,y885,y886⟩;exact ((Holds.avl 1 rfl).and ((Holds.avl 9 rfl).and ((Holds.avl 39 rfl).and ((Holds.kdl 75 rfl).and (hT)))))) ?_
 clear h
 rintro k ⟨y884,y885,y886⟩ o hp h ho907
 replace h:wordset_Product.s54 c64 e792 y884 y885 y886=some o:=h
 unfold wordset_Product.s54 at h
 obtain ⟨z928,z929,z930,z931,_⟩:=hp
 conv=>whnf
 refine Both.mk ?_ ?_<;>intro b908
 obtain ⟨h,b908d⟩:=ctd b908 h
 conv=>whnf
 obtain ⟨oc,hc,hk909⟩:=bind_some h
 clear h
 have h:=hc
 clear hc
 refine Cut.mkS oc (Y:=(List (ByteArray×Bool))×List (List Int)) (fun (y916,y917)=>mkSt [(1,.im (nL (cL cI) c64)),(6,.osl 74 1),(7,.osl 75 1),(9,.im (nL cI e792)),(39,.im (nL (cL cI) c63)),(40,.im (nI (↑(List.length c63):Int))),(41,.im (nI (↑y645:Int))),(45,.im (nL (cL cI) c64)),(46,.im (nI (↑(List.length c64):Int))),(47,.im (nI (↑y886:Int)))] [(74,.map (mapV wS wB y916)),(75,.row 25 1 (List.map (cL cI) y917))] []) (fun (y916,y917)=>lZ c64∧lZ e792∧lZ c63∧lZ y917∧True) (by rintro ⟨y916,y917⟩;exact ((Holds.avl 1 rfl).and ((Holds.avl 9 rfl).and ((Holds.avl 39 rfl).and ((Holds.kdl 75 rfl).and (hT)))))) ?_ ?_
 conv=>whnf
 obtain ⟨e918,he918,h⟩:=idxn_some h
 refine ⟨_,⟨(by omega),map_at he918,rfl⟩,?_⟩
 conv=>whnf
 obtain ⟨c919,hc919,h⟩:=bind_some h
 refine ⟨_,(sp_word_Join [e792,e918] c919 (fun _=>hc919)),?_⟩
 conv=>whnf
 obtain ⟨c920,hc920,h⟩:=bind_some h
 refine ⟨_,(sp_wordset_key c919 c920 (hc920)),?_⟩
 conv=>whnf
 refine Side.mk rfl ?_
 conv=>whnf
 refine ⟨_,find_str _ wB _,?_⟩
 conv=>whnf
 refine Nf.mk (wB ((mget c920 y884).getD false)) (getD_map rfl _) ?_
 conv=>whnf
 refine Both.mk ?_ ?_<;>intro b921
 replace h:=cond_t b921 h
 conv=>whnf
 cases h
 exact JoinS.mk' _ rfl (eA [(74,some 74),(75,some 75)])
 replace h:=cond_f b921 h
 conv=>whnf
 refine Side.mk rfl ?_
 conv=>whnf
 refine Nf.mk (List.length y885) len_map ?_
 conv=>whnf
 refine Both.mk ?_ ?_<;>intro b922
 obtain ⟨h,b922d⟩:=ctd b922 h
 conv=>whnf
 cases h
 replace h:some _=some _:=hk909
 cases h
 have ho907:_=_:=ho907
 cases ho907
 replace h:some _=some _:=hk793
 cases h
 have ho790:_=_:=ho790
 cases ho790
 replace h:some _=some _:=hk66
 cases h
 conv=>whnf
 exact ⟨rfl,rfl⟩
 obtain ⟨h,b922d⟩:=cfd b922 h
 conv=>whnf
 refine Side.mk rfl ?_
 conv=>whnf
 refine ⟨_,set_str _ true wB _,?_⟩
 conv=>whnf
 obtain ⟨c923,h⟩:=chk_some h
 refine Side.mk ⟨rfl,map_len (l:=[c919]) (c:=cL cI) fun _=>rfl,show capOk _ 24 by simpa only [List.length_map,List.length_cons,List.length_nil,Nat.zero_add] using c923⟩ ?_
 conv=>whnf
 refine Nf.mk (List.map (cL cI) (y885++[c919])) (app_map (l:=y885) (m:=[c919]) (c:=cL cI)) ?_
 conv=>whnf
 cases h
 exact JoinS.mk' _ rfl (eA [(74,some 74),(75,some 75)])
 rintro ⟨y916,y917⟩ rfl hp
 have hx_:=sum_inl hk909
 replace h:wordset_Product.k53 y886 y916 y917=some _:=hx_
 clear hx_
 unfold wordset_Product.k53 at h
 obtain ⟨z924,z925,z926,z927,_⟩:=hp
 conv=>whnf
 refine Arith.mk (by show inR _;unfold inR;omega) ?_
 conv=>whnf
 cases h
 exact Nxt.mk _ ho907 (eA [(74,some 74),(75,some 75)])
 obtain ⟨h,b908d⟩:=cfd b908 h
 conv=>whnf
 cases h
 have ho907:_=_:=ho907
 cases ho907
 exact JoinS.mk' _ rfl (eA [(74,some 74),(75,some 75)])
 rintro ⟨y862,y863⟩ rfl hp
 have hx_:=sum_inl hk793
 replace h:wordset_Product.k55 y645 y862 y863=some _:=hx_
 clear hx_
 unfold wordset_Product.k55 at h
 obtain ⟨z932,z933,z934,_⟩:=hp
 conv=>whnf
 refine Arith.mk (by show inR _;unfold inR;omega) ?_
 conv=>whnf
 cases h
 exact Nxt.mk _ ho790 (eA [(74,some 74),(75,some 75)])
 obtain ⟨h,b791d⟩:=cfd b791 h
 conv=>whnf
 cases h
 have ho790:_=_:=ho790
 cases ho790
 exact JoinS.mk' _ rfl (eA [(74,some 75)])
 rintro y502 rfl hp
 replace h:=sum_inl hk66
 obtain ⟨z938,_⟩:=hp
 conv=>whnf
 refine Side.mk ⟨rfl,trivial⟩ ?_
 conv=>whnf
 obtain ⟨c939,hc939,h⟩:=bind_some h
 refine ⟨_,(sp_lib_SortFunc_words y502 (fun u0 u1=>word_Compare u0 u1) 96 cmpE_word_Compare c939 (hc939)),?_⟩
 conv=>whnf
 cases h
 conv=>whnf
 exact Side.mk ⟨rfl,trivial⟩ ⟨rfl,rfl⟩
theorem sp_wordset_Maximal (l_:List (List Int)) (r:List (List Int)) (h:Ok (nL (cL cI) l_)→wordset_Maximal l_=some r):Sp Tryz.prog 61 [.im (nL (cL cI) l_)] (.im (nL (cL cI) r)):=by
 refine sp_of rfl [] rfl rfl rfl (Nat.le_of_ble_eq_true rfl) rfl fun hk=>?_
 replace h:=h hk.1
 have z1:lZ l_:=ok_len hk.1
 unfold wordset_Maximal at h
 conv=>whnf
 obtain ⟨c51,hc51,h⟩:=bind_some h
 refine ⟨_,(sp_wordset_ordered l_ (fun u0 u1=>word_Lex u0 u1) 99 (fun u0 u1 r h=>(sp_word_Lex u0 u1 r (fun _ _=>h))) cmpE_word_Lex c51 (fun _ _=>hc51)).im,?_⟩
 conv=>whnf
 refine Nf.mk (List.length c51) len_map ?_
 conv=>whnf
 obtain ⟨y104,hc,hk52⟩:=bind_some h
 clear h
 have h:=hc
 clear hc
 refine Cut.mk (mkSt [(4,.osl 64 1)] [(64,.row 25 1 (List.map (cL cI) y104))] []) (lZ y104∧True) ((Holds.kdl 64 rfl).and (hT)) ?_ (fun hp=>?_)
 conv=>whnf
 refine Loops.iter (fun (s:List (List Int)×Nat)=>wordset_Maximal.s2 c51 s.1 s.2) (fun (y119,y120)=>mkSt [(3,.im (nL (cL cI) c51)),(4,.osl 64 1),(9,.im (nL (cL cI) c51)),(10,.im (nI (↑(List.length c51):Int))),(11,.im (nI (↑y120:Int)))] [(64,.row 25 1 (List.map (cL cI) y119))] []) (fun (y119,y120)=>lZ c51∧lZ y119∧True) h (eA [(64,none)]) (by rintro ⟨y119,y120⟩;exact ((Holds.avl 3 rfl).and ((Holds.kdl 64 rfl).and (hT)))) ?_
 clear h
 rintro k ⟨y119,y120⟩ o hp h ho137
 replace h:wordset_Maximal.s2 c51 y119 y120=some o:=h
 unfold wordset_Maximal.s2 at h
 obtain ⟨z154,z155,_⟩:=hp
 conv=>whnf
 refine Both.mk ?_ ?_<;>intro b138
 obtain ⟨h,b138d⟩:=ctd b138 h
 conv=>whnf
 obtain ⟨e139,he139,h⟩:=idxn_some h
 refine ⟨_,⟨(by omega),map_at he139,rfl⟩,?_⟩
 conv=>whnf
 obtain ⟨y145,hc,hk141⟩:=bind_some h
 clear h
 have h:=hc
 clear hc
 refine Cut.mk (mkSt [(3,.im (nL (cL cI) c51)),(4,.osl 64 1),(6,.im (nL cI e139)),(9,.im (nL (cL cI) c51)),(10,.im (nI (↑(List.length c51):Int))),(11,.im (nI (↑y120:Int))),(30,.im (nB y145))] [(64,.row 25 1 (List.map (cL cI) y119))] []) (lZ c51∧lZ e139∧lZ y119∧True) ((Holds.avl 3 rfl).and ((Holds.avl 6 rfl).and ((Holds.kdl 64 rfl).and (hT)))) ?_ (fun hp=>?_)
 conv=>whnf
 refine Arith.mk (by show inR _;unfold inR;omega) ?_
 conv=>whnf
 refine Nf.mk (List.length c51) len_map ?_
 conv=>whnf
 refine Both.mk ?_ ?_<;>intro b146
 replace b146:=beq_ff b146
 obtain ⟨h,b146d⟩:=cfd b146 h
 conv=>whnf
 iterate 2 (refine Both.yes (ff_beq b146) ?_;(conv=>whnf))
 refine Arith.mk (by show inR _;unfold inR;omega) ?_
 conv=>whnf
 refine Both.yes (ff_beq b146) ?_
 conv=>whnf
 obtain ⟨e147,he147,h⟩:=idxn_some h
 refine ⟨_,⟨(by omega),map_at he147,rfl⟩,?_⟩
 conv=>whnf
 iterate 3 (refine Both.yes (ff_beq b146) ?_;(conv=>whnf))
 obtain ⟨c148,hc148,h⟩:=bind_some h
 refine ⟨_,(sp_word_HasPrefix e147 e139 c148 (fun _ _=>hc148)),?_⟩
 conv=>whnf
 refine Both.yes (ff_beq b146) ?_
 conv=>whnf
 refine Both.no b146 ?_
 conv=>whnf
 cases h
 exact Join.mk (eA [(64,some 64)])
 replace b146:=beq_ft b146
 obtain ⟨h,b146d⟩:=ctd b146 h
 conv=>whnf
 iterate 7 (refine Both.no (tf_beq b146) ?_;(conv=>whnf))
 refine Both.yes b146 ?_
 conv=>whnf
 cases h
 exact Join.mk (eA [(64,some 64)])
 replace h:=hk141
 obtain ⟨z149,z150,z151,_⟩:=hp
 conv=>whnf
 refine Both.mk ?_ ?_<;>intro b152
 replace h:=cond_t b152 h
 conv=>whnf
 obtain ⟨c153,h⟩:=chk_some h
 refine Side.mk ⟨rfl,map_len (l:=[e139]) (c:=cL cI) fun _=>rfl,show capOk _ 24 by simpa only [List.length_map,List.length_cons,List.length_nil,Nat.zero_add] using c153⟩ ?_
 conv=>whnf
 refine Nf.mk (List.map (cL cI) (y119++[e139])) (app_map (l:=y119) (m:=[e139]) (c:=cL cI)) ?_
 conv=>whnf
 refine Arith.mk (by show inR _;unfold inR;omega) ?_
 conv=>whnf
 cases h
 exact Nxt.mk _ ho137 (eA [(64,some 64)])
 replace h:=cond_f b152 h
 conv=>whnf
 refine Arith.mk (by show inR _;unfold inR;omega) ?_
 conv=>whnf
 cases h
 exact Nxt.mk _ ho137 (eA [(64,some 64)])
 obtain ⟨h,b138d⟩:=cfd b138 h
 conv=>whnf
 cases h
 have ho137:_=_:=ho137
 cases ho137
 exact Join.mk (eA [(64,some 64)])
 replace h:=hk52
 obtain ⟨z156,_⟩:=hp
 conv=>whnf
 refine Side.mk ⟨rfl,trivial⟩ ?_
 conv=>whnf
 obtain ⟨c157,hc157,h⟩:=bind_some h
 refine ⟨_,(sp_wordset_Sorted y104 c157 (fun _=>hc157)).im,?_⟩
 conv=>whnf
 cases h
 conv=>whnf
 exact ⟨rfl,rfl⟩
theorem sp_mealy_Valid (m_:T_api_Mealy) (r:Int) (h:Ok (.agg (c_api_Mealy m_))→mealy_Valid m_=some r):Sp Tryz.prog 54 [.im (.agg (c_api_Mealy m_))] (.im (nI r)):=by
 refine sp_of rfl [700001] rfl rfl rfl (Nat.le_of_ble_eq_true rfl) rfl fun hk=>?_
 replace h:=h hk.1
 have z1:lZ m_.Next:=ok_len (Ok.agg_at hk.1 2 rfl)
 have z2:lZ m_.Out:=ok_len (Ok.agg_at hk.1 3 rfl)
 unfold mealy_Valid at h
 conv=>whnf
 refine Nf.mk (List.length m_.Next) len_map ?_
 conv=>whnf
 obtain ⟨y54,hc,hk52⟩:=bind_some h
 clear h
 have h:=hc
 clear hc
 refine Cut.mk (mkSt [(1,.im (.ref (c_api_Mealy m_))),(3,.im (nI (↑(List.length m_.Next):Int))),(11,.im (nB y54))] [] []) (True) (hT) ?_ (fun hp=>?_)
 conv=>whnf
 refine Both.mk ?_ ?_<;>intro b55
 replace b55:=beq_ff b55
 obtain ⟨h,b55d⟩:=cfd b55 h
 conv=>whnf
 iterate 2 (refine Both.yes (ff_beq b55) ?_;(conv=>whnf))
 refine Both.no b55 ?_
 conv=>whnf
 cases h
 exact Join.mk (eA [])
 replace b55:=beq_ft b55
 obtain ⟨h,b55d⟩:=ctd b55 h
 conv=>whnf
 iterate 2 (refine Both.no (tf_beq b55) ?_;(conv=>whnf))
 refine Both.yes b55 ?_
 conv=>whnf
 cases h
 exact Join.mk (eA [])
 replace h:=hk52
 conv=>whnf
 refine Both.mk ?_ ?_<;>intro b56
 replace h:=cond_t b56 h
 conv=>whnf
 cases h
 conv=>whnf
 exact ⟨rfl,rfl⟩
 replace h:=cond_f b56 h
 conv=>whnf
 refine Both.mk ?_ ?_<;>intro b57
 obtain ⟨h,b57d⟩:=ctd b57 h
 conv=>whnf
 cases h
 conv=>whnf
 exact ⟨rfl,rfl⟩
 obtain ⟨h,b57d⟩:=cfd b57 h
 conv=>whnf
 refine Both.mk ?_ ?_<;>intro b58
 obtain ⟨h,b58d⟩:=ctd b58 h
 conv=>whnf
 cases h
 conv=>whnf
 exact ⟨rfl,rfl⟩
 obtain ⟨h,b58d⟩:=cfd b58 h
 conv=>whnf
 obtain ⟨y62,hc,hk60⟩:=bind_some h
 clear h
 have h:=hc
 clear hc
 refine Cut.mk (mkSt [(1,.im (.ref (c_api_Mealy m_))),(3,.im (nI (↑(List.length m_.Next):Int))),(26,.im (nB y62))] [] []) (True) (hT) ?_ (fun hp=>?_)
 conv=>whnf
 refine Both.mk ?_ ?_<;>intro b63
 replace b63:=beq_ff b63
 obtain ⟨h,b63d⟩:=cfd b63 h
 conv=>whnf
 iterate 3 (refine Both.yes (ff_beq b63) ?_;(conv=>whnf))
 refine Both.no b63 ?_
 conv=>whnf
 cases h
 exact Join.mk (eA [])
 replace b63:=beq_ft b63
 obtain ⟨h,b63d⟩:=ctd b63 h
 conv=>whnf
 iterate 3 (refine Both.no (tf_beq b63) ?_;(conv=>whnf))
 refine Both.yes b63 ?_
 conv=>whnf
 cases h
 exact Join.mk (eA [])
 replace h:=hk60
 conv=>whnf
 refine Both.mk ?_ ?_<;>intro b64
 replace h:=cond_t b64 h
 conv=>whnf
 cases h
 conv=>whnf
 exact ⟨rfl,rfl⟩
 replace h:=cond_f b64 h
 conv=>whnf
 refine Nf.mk (List.length m_.Out) len_map ?_
 conv=>whnf
 refine Both.mk ?_ ?_<;>intro b65
 obtain ⟨h,b65d⟩:=ctd b65 h
 conv=>whnf
 cases h
 conv=>whnf
 exact ⟨rfl,rfl⟩
 obtain ⟨h,b65d⟩:=cfd b65 h
 conv=>whnf
 obtain ⟨oc,hc,hk66⟩:=bind_some h
 clear h
 have h:=hc
 clear hc
 refine Cut.mkS oc (Y:=Unit) (fun (_:Unit)=>mkSt [] [] []) (fun (_:Unit)=>True) (by rintro ⟨⟩;exact (hT)) ?_ ?_
 conv=>whnf
 refine Loops.iter (fun (s:Nat)=>mealy_Valid.s14 m_ s) (fun y509=>mkSt [(1,.im (.ref (c_api_Mealy m_))),(3,.im (nI (↑(List.length m_.Next):Int))),(42,.im (nI (↑(List.length m_.Next):Int))),(43,.im (nI (↑y509:Int)))] [] []) (fun y509=>True) h (eA []) (by rintro y509;exact (hT)) ?_
 clear h
 rintro k y509 o hp h ho620
 replace h:mealy_Valid.s14 m_ y509=some o:=h
 unfold mealy_Valid.s14 at h
 conv=>whnf
 refine Both.mk ?_ ?_<;>intro b621
 obtain ⟨h,b621d⟩:=ctd b621 h
 conv=>whnf
 obtain ⟨y627,hc,hk623⟩:=bind_some h
 clear h
 have h:=hc
 clear hc
 refine Cut.mk (mkSt [(1,.im (.ref (c_api_Mealy m_))),(3,.im (nI (↑(List.length m_.Next):Int))),(4,.im (nI (↑y509:Int))),(42,.im (nI (↑(List.length m_.Next):Int))),(43,.im (nI (↑y509:Int))),(65,.im (nB y627))] [] []) (True) (hT) ?_ (fun hp=>?_)
 conv=>whnf
 obtain ⟨e628,he628,h⟩:=idxn_some h
 refine ⟨_,⟨(by omega),map_at he628,rfl⟩,?_⟩
 conv=>whnf
 refine Nf.mk (List.length e628) len_map ?_
 conv=>whnf
 refine Both.mk ?_ ?_<;>intro b629
 replace b629:=beq_ff b629
 obtain ⟨h,b629d⟩:=cfd b629 h
 conv=>whnf
 iterate 3 (refine Both.yes (ff_beq b629) ?_;(conv=>whnf))
 obtain ⟨e630,he630,h⟩:=idxn_some h
 refine ⟨_,⟨(by omega),map_at he630,rfl⟩,?_⟩
 conv=>whnf
 iterate 2 (refine Both.yes (ff_beq b629) ?_;(conv=>whnf))
 refine Nf.mk (List.length e630) len_map ?_
 conv=>whnf
 iterate 3 (refine Both.yes (ff_beq b629) ?_;(conv=>whnf))
 refine Both.no b629 ?_
 conv=>whnf
 cases h
 exact Join.mk (eA [])
 replace b629:=beq_ft b629
 obtain ⟨h,b629d⟩:=ctd b629 h
 conv=>whnf
 iterate 8 (refine Both.no (tf_beq b629) ?_;(conv=>whnf))
 refine Both.yes b629 ?_
 conv=>whnf
 cases h
 exact Join.mk (eA [])
 replace h:=hk623
 conv=>whnf
 refine Both.mk ?_ ?_<;>intro b631
 replace h:=cond_t b631 h
 conv=>whnf
 cases h
 have ho620:_=_:=ho620
 cases ho620
 replace h:some _=some _:=hk66
 cases h
 conv=>whnf
 exact ⟨rfl,rfl⟩
 replace h:=cond_f b631 h
 conv=>whnf
 obtain ⟨oc,hc,hk632⟩:=bind_some h
 clear h
 have h:=hc
 clear hc
 refine Cut.mkS oc (Y:=Unit) (fun (_:Unit)=>mkSt [(1,.im (.ref (c_api_Mealy m_))),(3,.im (nI (↑(List.length m_.Next):Int))),(42,.im (nI (↑(List.length m_.Next):Int))),(43,.im (nI (↑y509:Int)))] [] []) (fun (_:Unit)=>True) (by rintro ⟨⟩;exact (hT)) ?_ ?_
 conv=>whnf
 refine Loops.iter (fun (s:Nat)=>mealy_Valid.s13 m_ y509 s) (fun y697=>mkSt [(1,.im (.ref (c_api_Mealy m_))),(3,.im (nI (↑(List.length m_.Next):Int))),(4,.im (nI (↑y509:Int))),(42,.im (nI (↑(List.length m_.Next):Int))),(43,.im (nI (↑y509:Int))),(67,.im (nI m_.Inputs)),(68,.im (nI (↑y697:Int)))] [] []) (fun y697=>True) h (eA []) (by rintro y697;exact (hT)) ?_
 clear h
 rintro k y697 o hp h ho714
 replace h:mealy_Valid.s13 m_ y509 y697=some o:=h
 unfold mealy_Valid.s13 at h
 conv=>whnf
 refine Both.mk ?_ ?_<;>intro b715
 obtain ⟨h,b715d⟩:=ctd b715 h
 conv=>whnf
 obtain ⟨e716,he716,h⟩:=idxn_some h
 refine ⟨_,⟨(by omega),map_at he716,rfl⟩,?_⟩
 conv=>whnf
 obtain ⟨e717,he717,h⟩:=idxn_some h
 refine ⟨_,⟨(by omega),map_at he717,rfl⟩,?_⟩
 conv=>whnf
 obtain ⟨e718,he718,h⟩:=idxn_some h
 refine ⟨_,⟨(by omega),map_at he718,rfl⟩,?_⟩
 conv=>whnf
 obtain ⟨e719,he719,h⟩:=idxn_some h
 refine ⟨_,⟨(by omega),map_at he719,rfl⟩,?_⟩
 conv=>whnf
 obtain ⟨y725,hc,hk721⟩:=bind_some h
 clear h
 have h:=hc
 clear hc
 refine Cut.mk (mkSt [(1,.im (.ref (c_api_Mealy m_))),(3,.im (nI (↑(List.length m_.Next):Int))),(4,.im (nI (↑y509:Int))),(42,.im (nI (↑(List.length m_.Next):Int))),(43,.im (nI (↑y509:Int))),(67,.im (nI m_.Inputs)),(68,.im (nI (↑y697:Int))),(101,.im (nB y725))] [] []) (True) (hT) ?_ (fun hp=>?_)
 conv=>whnf
 refine Both.mk ?_ ?_<;>intro b726
 replace b726:=beq_ff b726
 obtain ⟨h,b726d⟩:=cfd b726 h
 conv=>whnf
 iterate 2 (refine Both.yes (ff_beq b726) ?_;(conv=>whnf))
 refine Both.no b726 ?_
 conv=>whnf
 refine Both.mk ?_ ?_<;>intro b727
 replace b727:=beq_ff b727
 obtain ⟨h,b727d⟩:=cfd b727 h
 conv=>whnf
 refine Both.yes (ff_beq b727) ?_
 conv=>whnf
 refine Both.no b727 ?_
 conv=>whnf
 refine Both.mk ?_ ?_<;>intro b728
 replace b728:=beq_ff b728
 obtain ⟨h,b728d⟩:=cfd b728 h
 conv=>whnf
 refine Both.yes (ff_beq b728) ?_
 conv=>whnf
 refine Both.no b728 ?_
 conv=>whnf
 cases h
 exact Join.mk (eA [])
 replace b728:=beq_ft b728
 obtain ⟨h,b728d⟩:=ctd b728 h
 conv=>whnf
 refine Both.no (tf_beq b728) ?_
 conv=>whnf
 refine Both.yes b728 ?_
 conv=>whnf
 cases h
 exact Join.mk (eA [])
 replace b727:=beq_ft b727
 obtain ⟨h,b727d⟩:=ctd b727 h
 conv=>whnf
 refine Both.no (tf_beq b727) ?_
 conv=>whnf
 refine Both.yes b727 ?_
 conv=>whnf
 iterate 2 (refine Both.no rfl ?_;(conv=>whnf))
 refine Both.yes rfl ?_
 conv=>whnf
 cases h
 exact Join.mk (eA [])
 replace b726:=beq_ft b726
 obtain ⟨h,b726d⟩:=ctd b726 h
 conv=>whnf
 iterate 2 (refine Both.no (tf_beq b726) ?_;(conv=>whnf))
 refine Both.yes b726 ?_
 conv=>whnf
 iterate 2 (refine Both.no rfl ?_;(conv=>whnf))
 refine Both.yes rfl ?_
 conv=>whnf
 iterate 2 (refine Both.no rfl ?_;(conv=>whnf))
 refine Both.yes rfl ?_
 conv=>whnf
 cases h
 exact Join.mk (eA [])
 replace h:=hk721
 conv=>whnf
 refine Both.mk ?_ ?_<;>intro b729
 replace h:=cond_t b729 h
 conv=>whnf
 cases h
 have ho714:_=_:=ho714
 cases ho714
 replace h:some _=some _:=hk632
 cases h
 have ho620:_=_:=ho620
 cases ho620
 replace h:some _=some _:=hk66
 cases h
 conv=>whnf
 exact ⟨rfl,rfl⟩
 replace h:=cond_f b729 h
 conv=>whnf
 obtain ⟨c730,h⟩:=chk_some h
 refine Arith.mk c730 ?_
 conv=>whnf
 cases h
 exact Nxt.mk _ ho714 (eA [])
 obtain ⟨h,b715d⟩:=cfd b715 h
 conv=>whnf
 cases h
 have ho714:_=_:=ho714
 cases ho714
 exact JoinS.mk' _ rfl (eA [])
 rintro ⟨⟩ rfl hp
 replace h:=sum_inl hk632
 conv=>whnf
 refine Arith.mk (by show inR _;unfold inR;omega) ?_
 conv=>whnf
 cases h
 exact Nxt.mk _ ho620 (eA [])
 obtain ⟨h,b621d⟩:=cfd b621 h
 conv=>whnf
 cases h
 have ho620:_=_:=ho620
 cases ho620
 exact JoinS.mk' _ rfl (eA [])
 rintro ⟨⟩ rfl hp
 replace h:=sum_inl hk66
 conv=>whnf
 cases h
 conv=>whnf
 exact ⟨rfl,rfl⟩
theorem sp_mealy_Reach (m_:T_api_Mealy) (r:List Int) (h:Ok (.agg (c_api_Mealy m_))→mealy_Reach m_=some r):Sp Tryz.prog 114 [.im (.agg (c_api_Mealy m_))] (.row 3 1 (List.map cI r)):=by
 refine sp_of rfl [21,700001] rfl rfl rfl (Nat.le_of_ble_eq_true rfl) rfl fun hk=>?_
 replace h:=h hk.1
 have z1:lZ m_.Next:=ok_len (Ok.agg_at hk.1 2 rfl)
 have z2:lZ m_.Out:=ok_len (Ok.agg_at hk.1 3 rfl)
 unfold mealy_Reach at h
 conv=>whnf
 obtain ⟨c51,hc51,h⟩:=bind_some h
 refine ⟨_,(sp_mealy_Valid m_ c51 (fun _=>hc51)),?_⟩
 conv=>whnf
 refine Both.mk ?_ ?_<;>intro b52
 obtain ⟨h,b52d⟩:=ctd b52 h
 conv=>whnf
 cases h
 conv=>whnf
 exact ⟨rfl,rfl⟩
 obtain ⟨h,b52d⟩:=cfd b52 h
 conv=>whnf
 refine Nf.mk (List.length m_.Next) len_map ?_
 conv=>whnf
 obtain ⟨c53,h⟩:=chk_some h
 refine Side.mk c53 ?_
 conv=>whnf
 refine Nf.mk (List.map cB (List.replicate (List.length m_.Next) false)) (rep_map (c:=cB) (z:=false) (n:=(List.length m_.Next)) rfl rfl) ?_
 conv=>whnf
 obtain ⟨e54,he54z,he54,h⟩:=idx_some h
 refine Side.mk ⟨he54z,rfl,map_lt he54⟩ ?_
 conv=>whnf
 refine Side.mk ⟨rfl,trivial⟩ ?_
 conv=>whnf
 refine ⟨_,map_at he54,?_⟩
 conv=>whnf
 refine Nf.mk (List.map cB (List.set (List.replicate (List.length m_.Next) false) m_.Start.toNat true)) (set_map rfl) ?_
 conv=>whnf
 obtain ⟨y236,hc,hk55⟩:=bind_some h
 clear h
 have h:=hc
 clear hc
 refine Cut.mk (mkSt [(4,.osl 64 1)] [(64,.row 3 1 (List.map cI y236))] []) (lZ y236∧True) ((Holds.kdl 64 rfl).and (hT)) ?_ (fun hp=>?_)
 conv=>whnf
 refine Loops.iter (fun (s:List Bool×List Int×Nat)=>mealy_Reach.s20 m_ s.1 s.2.1 s.2.2) (fun (y295,y296,i297)=>mkSt [(1,.im (.ref (c_api_Mealy m_))),(3,.osl 64 1),(4,.osl 65 1),(5,.im (nI (↑i297:Int)))] [(64,.row 4 1 (List.map cB y295)),(65,.row 3 1 (List.map cI y296))] []) (fun (y295,y296,i297)=>lZ y295∧lZ y296∧True) h (eA [(64,some 14),(65,some 21)]) (by rintro ⟨y295,y296,i297⟩;exact ((Holds.kdl 64 rfl).and ((Holds.kdl 65 rfl).and (hT)))) ?_
 clear h
 rintro k ⟨y295,y296,i297⟩ o hp h ho356
 replace h:mealy_Reach.s20 m_ y295 y296 i297=some o:=h
 unfold mealy_Reach.s20 at h
 obtain ⟨z415,z416,_⟩:=hp
 conv=>whnf
 refine Side.mk rfl ?_
 conv=>whnf
 refine Nf.mk (List.length y296) len_map ?_
 conv=>whnf
 refine Both.mk ?_ ?_<;>intro b357
 obtain ⟨h,b357d⟩:=ctd b357 h
 conv=>whnf
 obtain ⟨e358,he358,h⟩:=idxn_some h
 refine Side.mk ⟨(by omega),rfl,map_lt he358⟩ ?_
 conv=>whnf
 refine ⟨_,_,⟨rfl,map_at he358,rfl,rfl⟩,?_⟩
 conv=>whnf
 obtain ⟨e359,he359z,he359,h⟩:=idx_some h
 refine ⟨_,⟨he359z,map_at he359,rfl⟩,?_⟩
 conv=>whnf
 refine Nf.mk (List.length e359) len_map ?_
 conv=>whnf
 obtain ⟨⟨y386,y387⟩,hc,hk360⟩:=bind_some h
 clear h
 have h:=hc
 clear hc
 refine Cut.mk (mkSt [(1,.im (.ref (c_api_Mealy m_))),(3,.osl 64 1),(4,.osl 65 1),(5,.im (nI (↑i297:Int)))] [(64,.row 4 1 (List.map cB y386)),(65,.row 3 1 (List.map cI y387))] []) (lZ y386∧lZ y387∧True) ((Holds.kdl 64 rfl).and ((Holds.kdl 65 rfl).and (hT))) ?_ (fun hp=>?_)
 conv=>whnf
 refine Loops.iter (fun (s:List Bool×List Int×Nat)=>mealy_Reach.s18 e359 s.1 s.2.1 s.2.2) (fun (y394,y395,y396)=>mkSt [(1,.im (.ref (c_api_Mealy m_))),(3,.osl 64 1),(4,.osl 65 1),(5,.im (nI (↑i297:Int))),(35,.im (nL cI e359)),(36,.im (nI (↑(List.length e359):Int))),(37,.im (nI (↑y396:Int)))] [(64,.row 4 1 (List.map cB y394)),(65,.row 3 1 (List.map cI y395))] []) (fun (y394,y395,y396)=>lZ e359∧lZ y394∧lZ y395∧True) h (eA [(64,some 64),(65,some 65)]) (by rintro ⟨y394,y395,y396⟩;exact ((Holds.avl 35 rfl).and ((Holds.kdl 64 rfl).and ((Holds.kdl 65 rfl).and (hT))))) ?_
 clear h
 rintro k ⟨y394,y395,y396⟩ o hp h ho403
 replace h:mealy_Reach.s18 e359 y394 y395 y396=some o:=h
 unfold mealy_Reach.s18 at h
 obtain ⟨z410,z411,z412,_⟩:=hp
 conv=>whnf
 refine Both.mk ?_ ?_<;>intro b404
 obtain ⟨h,b404d⟩:=ctd b404 h
 conv=>whnf
 obtain ⟨e405,he405,h⟩:=idxn_some h
 refine ⟨_,⟨(by omega),map_at he405,rfl⟩,?_⟩
 conv=>whnf
 obtain ⟨e406,he406z,he406,h⟩:=idx_some h
 refine Side.mk ⟨he406z,rfl,map_lt he406⟩ ?_
 conv=>whnf
 refine ⟨_,_,⟨rfl,map_at he406,rfl,rfl⟩,?_⟩
 conv=>whnf
 refine Both.mk ?_ ?_<;>intro b407
 replace h:=cond_t b407 h
 conv=>whnf
 obtain ⟨e408,he408z,he408,h⟩:=idx_some h
 refine Side.mk ⟨he408z,rfl,map_lt he408⟩ ?_
 conv=>whnf
 refine Side.mk ⟨rfl,trivial⟩ ?_
 conv=>whnf
 refine ⟨_,map_at he408,?_⟩
 conv=>whnf
 refine Nf.mk (List.map cB (List.set y394 e405.toNat true)) (set_map rfl) ?_
 conv=>whnf
 obtain ⟨c409,h⟩:=chk_some h
 refine Side.mk ⟨rfl,map_len (l:=[e405]) (c:=cI) fun _=>rfl,show capOk _ 8 by simpa only [List.length_map,List.length_cons,List.length_nil,Nat.zero_add] using c409⟩ ?_
 conv=>whnf
 refine Nf.mk (List.map cI (y395++[e405])) (app_map (l:=y395) (m:=[e405]) (c:=cI)) ?_
 conv=>whnf
 refine Arith.mk (by show inR _;unfold inR;omega) ?_
 conv=>whnf
 cases h
 exact Nxt.mk _ ho403 (eA [(64,some 64),(65,some 65)])
 replace h:=cond_f b407 h
 conv=>whnf
 refine Arith.mk (by show inR _;unfold inR;omega) ?_
 conv=>whnf
 cases h
 exact Nxt.mk _ ho403 (eA [(64,some 64),(65,some 65)])
 obtain ⟨h,b404d⟩:=cfd b404 h
 conv=>whnf
 cases h
 have ho403:_=_:=ho403
 cases ho403
 exact Join.mk (eA [(64,some 64),(65,some 65)])
 replace h:mealy_Reach.k19 i297 y386 y387=some _:=hk360
 unfold mealy_Reach.k19 at h
 obtain ⟨z413,z414,_⟩:=hp
 conv=>whnf
 refine Arith.mk (by show inR _;unfold inR;omega) ?_
 conv=>whnf
 cases h
 exact Nxt.mk _ ho356 (eA [(64,some 64),(65,some 65)])
 obtain ⟨h,b357d⟩:=cfd b357 h
 conv=>whnf
 cases h
 have ho356:_=_:=ho356
 cases ho356
 exact Join.mk (eA [(64,some 65)])
 replace h:=hk55
 obtain ⟨z417,_⟩:=hp
 conv=>whnf
 cases h
 conv=>whnf
 exact Side.mk ⟨rfl,trivial⟩ ⟨rfl,rfl⟩
theorem sp_mealy_Trim (m_:T_api_Mealy) (r:T_api_Mealy×Int) (h:Ok (.agg (c_api_Mealy m_))→mealy_Trim m_=some r):Sp Tryz.prog 85 [.im (.agg (c_api_Mealy m_))] (.tup [.agg (c_api_Mealy r.1),nI r.2]):=by
 refine sp_of rfl [700001] rfl rfl rfl (Nat.le_of_ble_eq_true rfl) rfl fun hk=>?_
 replace h:=h hk.1
 have z1:lZ m_.Next:=ok_len (Ok.agg_at hk.1 2 rfl)
 have z2:lZ m_.Out:=ok_len (Ok.agg_at hk.1 3 rfl)
 unfold mealy_Trim at h
 conv=>whnf
 obtain ⟨c51,hc51,h⟩:=bind_some h
 refine ⟨_,(sp_mealy_Valid m_ c51 (fun _=>hc51)),?_⟩
 conv=>whnf
 refine Both.mk ?_ ?_<;>intro b52
 obtain ⟨h,b52d⟩:=ctd b52 h
 conv=>whnf
 refine Side.mk rfl ?_
 conv=>whnf
 cases h
 conv=>whnf
 refine Side.mk ⟨rfl,trivial⟩ ?_
 conv=>whnf
 exact ⟨rfl,rfl⟩
 obtain ⟨h,b52d⟩:=cfd b52 h
 conv=>whnf
 obtain ⟨c53,hc53,h⟩:=bind_some h
 refine ⟨_,(sp_mealy_Reach m_ c53 (fun _=>hc53)).im,?_⟩
 conv=>whnf
 refine Nf.mk (List.length m_.Next) len_map ?_
 conv=>whnf
 obtain ⟨c54,h⟩:=chk_some h
 refine Side.mk c54 ?_
 conv=>whnf
 refine Nf.mk (List.map cI (List.replicate (List.length m_.Next) (0:Int))) (rep_map (c:=cI) (z:=0) (n:=(List.length m_.Next)) rfl rfl) ?_
 conv=>whnf
 refine Nf.mk (List.length c53) len_map ?_
 conv=>whnf
 obtain ⟨y70,hc,hk55⟩:=bind_some h
 clear h
 have h:=hc
 clear hc
 refine Cut.mk (mkSt [(1,.im (.ref (c_api_Mealy m_))),(2,.own 89 1 0),(5,.im (nL cI c53)),(6,.osl 90 1)] [(89,.box 37 4),(90,.row 3 1 (List.map cI y70))] [(89,0,.im (nI 0)),(89,1,.im (nI 0)),(89,2,.im (.val (.slice none 0 0))),(89,3,.im (.val (.slice none 0 0)))]) (lZ c53∧lZ y70∧True) ((Holds.avl 5 rfl).and ((Holds.kdl 90 rfl).and (hT))) ?_ (fun hp=>?_)
 conv=>whnf
 refine Loops.iter (fun (s:List Int×Nat)=>mealy_Trim.s2 c53 s.1 s.2) (fun (y74,y75)=>mkSt [(1,.im (.ref (c_api_Mealy m_))),(2,.own 89 1 0),(5,.im (nL cI c53)),(6,.osl 90 1),(27,.im (nL cI c53)),(28,.im (nI (↑(List.length c53):Int))),(29,.im (nI (↑y75:Int)))] [(89,.box 37 4),(90,.row 3 1 (List.map cI y74))] [(89,0,.im (nI 0)),(89,1,.im (nI 0)),(89,2,.im (.val (.slice none 0 0))),(89,3,.im (.val (.slice none 0 0)))]) (fun (y74,y75)=>lZ c53∧lZ y74∧True) h (eA [(89,some 2),(90,some 26)]) (by rintro ⟨y74,y75⟩;exact ((Holds.avl 5 rfl).and ((Holds.kdl 90 rfl).and (hT)))) ?_
 clear h
 rintro k ⟨y74,y75⟩ o hp h ho79
 replace h:mealy_Trim.s2 c53 y74 y75=some o:=h
 unfold mealy_Trim.s2 at h
 obtain ⟨z83,z84,_⟩:=hp
 conv=>whnf
 refine Both.mk ?_ ?_<;>intro b80
 obtain ⟨h,b80d⟩:=ctd b80 h
 conv=>whnf
 obtain ⟨e81,he81,h⟩:=idxn_some h
 refine ⟨_,⟨(by omega),map_at he81,rfl⟩,?_⟩
 conv=>whnf
 obtain ⟨e82,he82z,he82,h⟩:=idx_some h
 refine Side.mk ⟨he82z,rfl,map_lt he82⟩ ?_
 conv=>whnf
 refine Side.mk ⟨rfl,trivial⟩ ?_
 conv=>whnf
 refine ⟨_,map_at he82,?_⟩
 conv=>whnf
 refine Nf.mk (List.map cI (List.set y74 e81.toNat (↑y75:Int))) (set_map rfl) ?_
 conv=>whnf
 refine Arith.mk (by show inR _;unfold inR;omega) ?_
 conv=>whnf
 cases h
 exact Nxt.mk _ ho79 (eA [(89,some 89),(90,some 90)])
 obtain ⟨h,b80d⟩:=cfd b80 h
 conv=>whnf
 cases h
 have ho79:_=_:=ho79
 cases ho79
 exact Join.mk (eA [(89,some 89),(90,some 90)])
 replace h:=hk55
 obtain ⟨z85,z86,_⟩:=hp
 conv=>whnf
 refine Side.mk rfl ?_
 conv=>whnf
 refine Nf.mk (List.length c53) len_map ?_
 conv=>whnf
 obtain ⟨⟨y259,y260⟩,hc,hk87⟩:=bind_some h
 clear h
 have h:=hc
 clear hc
 refine Cut.mk (mkSt [(2,.own 89 1 0),(9,.own 90 1 0)] [(89,.box 37 4),(90,.box 37 4),(91,.row 25 1 (List.map (cL cI) y259)),(92,.row 25 1 (List.map (cL cI) y260))] [(89,0,.im (nI 0)),(89,1,.im (nI 0)),(89,2,.im (.val (.slice none 0 0))),(89,3,.im (.val (.slice none 0 0))),(90,0,.im (nI m_.Inputs)),(90,1,.im (nI 0)),(90,2,.osl 91 1),(90,3,.osl 92 1)]) (lZ y259∧lZ y260∧True) ((Holds.kdl 91 rfl).and ((Holds.kdl 92 rfl).and (hT))) ?_ (fun hp=>?_)
 conv=>whnf
 refine Loops.iter (fun (s:List (List Int)×List (List Int)×Nat)=>mealy_Trim.s16 m_ c53 y70 s.1 s.2.1 s.2.2) (fun (y310,y311,y312)=>mkSt [(1,.im (.ref (c_api_Mealy m_))),(2,.own 89 1 0),(6,.osl 90 1),(9,.own 91 1 0),(42,.im (nL cI c53)),(43,.im (nI (↑(List.length c53):Int))),(44,.im (nI (↑y312:Int)))] [(89,.box 37 4),(90,.row 3 1 (List.map cI y70)),(91,.box 37 4),(92,.row 25 1 (List.map (cL cI) y310)),(93,.row 25 1 (List.map (cL cI) y311))] [(89,0,.im (nI 0)),(89,1,.im (nI 0)),(89,2,.im (.val (.slice none 0 0))),(89,3,.im (.val (.slice none 0 0))),(91,0,.im (nI m_.Inputs)),(91,1,.im (nI 0)),(91,2,.osl 92 1),(91,3,.osl 93 1)]) (fun (y310,y311,y312)=>lZ c53∧lZ y70∧lZ y310∧lZ y311∧True) h (Ent.mk [(89,some 89),(90,some 90),(91,some 9),(92,none),(93,none)] rfl ⟨eI rfl rfl,⟨.own 89 _ 0,rfl,.own rfl rfl rfl⟩,⟨.osl 90 _,rfl,.osl rfl rfl rfl⟩,⟨.own 9 _ 0,rfl,.own rfl rfl rfl⟩,eI rfl rfl,eI rfl rfl,eI rfl rfl,trivial⟩ ⟨.inl ⟨89,rfl,rfl,trivial⟩,.inl ⟨90,rfl,rfl,trivial⟩,.inl ⟨9,rfl,rfl,trivial⟩,.inr ⟨rfl,rfl,.inl ⟨_,_,rfl,by decide⟩⟩,.inr ⟨rfl,rfl,.inl ⟨_,_,rfl,by decide⟩⟩,trivial⟩ ⟨⟨89,.im _,rfl,rfl,.im (Sub.rfl' rfl)⟩,⟨89,.im _,rfl,rfl,.im (Sub.rfl' rfl)⟩,⟨89,.im (.val (.slice none 0 0)),rfl,rfl,.im (Sub.rfl' rfl)⟩,⟨89,.im (.val (.slice none 0 0)),rfl,rfl,.im (Sub.rfl' rfl)⟩,⟨9,.im _,rfl,rfl,.im (Sub.rfl' rfl)⟩,⟨9,.im _,rfl,rfl,.im (Sub.rfl' rfl)⟩,⟨9,.im (.val (.slice none 0 0)),rfl,rfl,.made rfl rfl⟩,⟨9,.im (.val (.slice none 0 0)),rfl,rfl,.made rfl rfl⟩,trivial⟩) (by rintro ⟨y310,y311,y312⟩;exact ((Holds.avl 42 rfl).and ((Holds.kdl 90 rfl).and ((Holds.kdl 92 rfl).and ((Holds.kdl 93 rfl).and (hT)))))) ?_
 clear h
 rintro k ⟨y310,y311,y312⟩ o hp h ho370
 replace h:mealy_Trim.s16 m_ c53 y70 y310 y311 y312=some o:=h
 unfold mealy_Trim.s16 at h
 obtain ⟨z428,z429,z430,z431,_⟩:=hp
 conv=>whnf
 refine Both.mk ?_ ?_<;>intro b371
 obtain ⟨h,b371d⟩:=ctd b371 h
 conv=>whnf
 obtain ⟨e372,he372,h⟩:=idxn_some h
 refine ⟨_,⟨(by omega),map_at he372,rfl⟩,?_⟩
 conv=>whnf
 obtain ⟨c373,h⟩:=chk_some h
 refine Side.mk c373 ?_
 conv=>whnf
 refine Nf.mk (List.map cI (List.replicate (Int.toNat m_.Inputs) (0:Int))) (rep_map (c:=cI) (z:=0) (n:=(Int.toNat m_.Inputs)) rfl rfl) ?_
 conv=>whnf
 obtain ⟨e374,he374z,he374,h⟩:=idx_some h
 refine ⟨_,⟨he374z,map_at he374,rfl⟩,?_⟩
 conv=>whnf
 refine Nf.mk (List.length e374) len_map ?_
 conv=>whnf
 obtain ⟨y397,hc,hk375⟩:=bind_some h
 clear h
 have h:=hc
 clear hc
 refine Cut.mk (mkSt [(1,.im (.ref (c_api_Mealy m_))),(2,.own 89 1 0),(6,.osl 90 1),(9,.own 91 1 0),(11,.im (nI e372)),(12,.osl 94 1),(42,.im (nL cI c53)),(43,.im (nI (↑(List.length c53):Int))),(44,.im (nI (↑y312:Int)))] [(89,.box 37 4),(90,.row 3 1 (List.map cI y70)),(91,.box 37 4),(92,.row 25 1 (List.map (cL cI) y310)),(93,.row 25 1 (List.map (cL cI) y311)),(94,.row 3 1 (List.map cI y397))] [(89,0,.im (nI 0)),(89,1,.im (nI 0)),(89,2,.im (.val (.slice none 0 0))),(89,3,.im (.val (.slice none 0 0))),(91,0,.im (nI m_.Inputs)),(91,1,.im (nI 0)),(91,2,.osl 92 1),(91,3,.osl 93 1)]) (lZ c53∧lZ y70∧lZ y310∧lZ y311∧lZ y397∧True) ((Holds.avl 42 rfl).and ((Holds.kdl 90 rfl).and ((Holds.kdl 92 rfl).and ((Holds.kdl 93 rfl).and ((Holds.kdl 94 rfl).and (hT)))))) ?_ (fun hp=>?_)
 conv=>whnf
 refine Loops.iter (fun (s:List Int×Nat)=>mealy_Trim.s15 y70 e374 s.1 s.2) (fun (y402,y403)=>mkSt [(1,.im (.ref (c_api_Mealy m_))),(2,.own 89 1 0),(6,.osl 90 1),(9,.own 91 1 0),(11,.im (nI e372)),(12,.osl 94 1),(42,.im (nL cI c53)),(43,.im (nI (↑(List.length c53):Int))),(44,.im (nI (↑y312:Int))),(55,.im (nL cI e374)),(56,.im (nI (↑(List.length e374):Int))),(57,.im (nI (↑y403:Int)))] [(89,.box 37 4),(90,.row 3 1 (List.map cI y70)),(91,.box 37 4),(92,.row 25 1 (List.map (cL cI) y310)),(93,.row 25 1 (List.map (cL cI) y311)),(94,.row 3 1 (List.map cI y402))] [(89,0,.im (nI 0)),(89,1,.im (nI 0)),(89,2,.im (.val (.slice none 0 0))),(89,3,.im (.val (.slice none 0 0))),(91,0,.im (nI m_.Inputs)),(91,1,.im (nI 0)),(91,2,.osl 92 1),(91,3,.osl 93 1)]) (fun (y402,y403)=>lZ c53∧lZ e374∧lZ y70∧lZ y310∧lZ y311∧lZ y402∧True) h (eA [(89,some 89),(90,some 90),(91,some 91),(92,some 92),(93,some 93),(94,some 50)]) (by rintro ⟨y402,y403⟩;exact ((Holds.avl 42 rfl).and ((Holds.avl 55 rfl).and ((Holds.kdl 90 rfl).and ((Holds.kdl 92 rfl).and ((Holds.kdl 93 rfl).and ((Holds.kdl 94 rfl).and (hT)))))))) ?_
 clear h
 rintro k ⟨y402,y403⟩ o hp h ho408
 replace h:mealy_Trim.s15 y70 e374 y402 y403=some o:=h
 unfold mealy_Trim.s15 at h
 obtain ⟨z413,z414,z415,z416,z417,z418,_⟩:=hp
 conv=>whnf
 refine Both.mk ?_ ?_<;>intro b409
 obtain ⟨h,b409d⟩:=ctd b409 h
 conv=>whnf
 obtain ⟨e410,he410,h⟩:=idxn_some h
 refine ⟨_,⟨(by omega),map_at he410,rfl⟩,?_⟩
 conv=>whnf
 obtain ⟨e411,he411z,he411,h⟩:=idx_some h
 refine Side.mk ⟨he411z,rfl,map_lt he411⟩ ?_
 conv=>whnf
 refine ⟨_,_,⟨rfl,map_at he411,rfl,rfl⟩,?_⟩
 conv=>whnf
 obtain ⟨e412,he412,h⟩:=idxn_some h
 refine Side.mk ⟨(by omega),rfl,map_lt he412⟩ ?_
 conv=>whnf
 refine Side.mk ⟨rfl,trivial⟩ ?_
 conv=>whnf
 refine ⟨_,map_at he412,?_⟩
 conv=>whnf
 refine Nf.mk (List.map cI (List.set y402 y403 e411)) (set_map rfl) ?_
 conv=>whnf
 refine Arith.mk (by show inR _;unfold inR;omega) ?_
 conv=>whnf
 cases h
 exact Nxt.mk _ ho408 (eA [(89,some 89),(90,some 90),(91,some 91),(92,some 92),(93,some 93),(94,some 94)])
 obtain ⟨h,b409d⟩:=cfd b409 h
 conv=>whnf
 cases h
 have ho408:_=_:=ho408
 cases ho408
 exact Join.mk (eA [(89,some 89),(90,some 90),(91,some 91),(92,some 92),(93,some 93),(94,some 94)])
 replace h:=hk375
 obtain ⟨z419,z420,z421,z422,z423,_⟩:=hp
 conv=>whnf
 refine Side.mk rfl ?_
 conv=>whnf
 refine Side.mk rfl ?_
 conv=>whnf
 refine Side.mk ⟨rfl,trivial⟩ ?_
 conv=>whnf
 obtain ⟨c424,h⟩:=chk_some h
 refine Side.mk ⟨rfl,map_len (l:=[y397]) (c:=cL cI) fun _=>rfl,show capOk _ 24 by simpa only [List.length_map,List.length_cons,List.length_nil,Nat.zero_add] using c424⟩ ?_
 conv=>whnf
 refine Nf.mk (List.map (cL cI) (y310++[y397])) (app_map (l:=y310) (m:=[y397]) (c:=cL cI)) ?_
 conv=>whnf
 refine Side.mk rfl ?_
 conv=>whnf
 refine Side.mk rfl ?_
 conv=>whnf
 refine Side.mk rfl ?_
 conv=>whnf
 refine Side.mk rfl ?_
 conv=>whnf
 obtain ⟨e425,he425z,he425,h⟩:=idx_some h
 refine ⟨_,⟨he425z,map_at he425,rfl⟩,?_⟩
 conv=>whnf
 obtain ⟨c426,hc426,h⟩:=bind_some h
 refine ⟨_,(sp_lib_Clone_int e425 c426 (hc426)).im,?_⟩
 conv=>whnf
 obtain ⟨c427,h⟩:=chk_some h
 refine Side.mk ⟨rfl,map_len (l:=[c426]) (c:=cL cI) fun _=>rfl,show capOk _ 24 by simpa only [List.length_map,List.length_cons,List.length_nil,Nat.zero_add] using c427⟩ ?_
 conv=>whnf
 refine Nf.mk (List.map (cL cI) (y311++[c426])) (app_map (l:=y311) (m:=[c426]) (c:=cL cI)) ?_
 conv=>whnf
 refine Side.mk rfl ?_
 conv=>whnf
 refine Side.mk rfl ?_
 conv=>whnf
 refine Arith.mk (by show inR _;unfold inR;omega) ?_
 conv=>whnf
 cases h
 exact Nxt.mk _ ho370 (eA [(89,some 89),(90,some 90),(91,some 91),(92,some 92),(93,some 93)])
 obtain ⟨h,b371d⟩:=cfd b371 h
 conv=>whnf
 cases h
 have ho370:_=_:=ho370
 cases ho370
 exact Join.mk (eA [(89,some 89),(90,some 91),(91,some 92),(92,some 93)])
 replace h:mealy_Trim.k17 m_ y259 y260=some _:=hk87
 unfold mealy_Trim.k17 at h
 obtain ⟨z432,z433,_⟩:=hp
 conv=>whnf
 refine Side.mk rfl ?_
 conv=>whnf
 refine Side.mk rfl ?_
 conv=>whnf
 cases h
 conv=>whnf
 refine Side.mk ⟨rfl,trivial⟩ ?_
 conv=>whnf
 exact Side.mk ⟨rfl,rfl,trivial⟩ ⟨rfl,rfl⟩
theorem sp_minimize_next (m_:T_api_Mealy) (class_:List Int) (r:List Int×Int) (h:Ok (.agg (c_api_Mealy m_))→Ok (nL cI class_)→minimize_next m_ class_=some r):Sp Tryz.prog 162 [.im (.agg (c_api_Mealy m_)),.im (nL cI class_)] (.tup [nL cI r.1,nI r.2]):=by
 refine sp_of rfl [700002] rfl rfl rfl (Nat.le_of_ble_eq_true rfl) rfl fun hk=>?_
 replace h:=h hk.1 hk.2.1
 have z1:lZ m_.Next:=ok_len (Ok.agg_at hk.1 2 rfl)
 have z2:lZ m_.Out:=ok_len (Ok.agg_at hk.1 3 rfl)
 have z3:lZ class_:=ok_len hk.2.1
 unfold minimize_next at h
 conv=>whnf
 refine Nf.mk (List.length class_) len_map ?_
 conv=>whnf
 obtain ⟨c51,h⟩:=chk_some h
 refine Side.mk c51 ?_
 conv=>whnf
 refine Nf.mk (List.map cI (List.replicate (List.length class_) (0:Int))) (rep_map (c:=cI) (z:=0) (n:=(List.length class_)) rfl rfl) ?_
 conv=>whnf
 refine Nf.mk (List.length class_) len_map ?_
 conv=>whnf
 obtain ⟨⟨y362,y363⟩,hc,hk52⟩:=bind_some h
 clear h
 have h:=hc
 clear hc
 refine Cut.mk (mkSt [(6,.osl 73 1),(7,.osl 74 1)] [(73,.map (mapV wA wI y362)),(74,.row 3 1 (List.map cI y363))] []) (lZ y363∧True) ((Holds.kdl 74 rfl).and (hT)) ?_ (fun hp=>?_)
 conv=>whnf
 refine Loops.iter (fun (s:(List (List Int×Int))×List Int×Nat)=>minimize_next.s20 m_ class_ s.1 s.2.1 s.2.2) (fun (y465,y466,y467)=>mkSt [(1,.im (nL cI class_)),(2,.im (.ref (c_api_Mealy m_))),(6,.osl 73 1),(7,.osl 74 1),(18,.im (nI (↑(List.length class_):Int))),(19,.im (nI (↑y467:Int)))] [(73,.map (mapV wA wI y465)),(74,.row 3 1 (List.map cI y466))] []) (fun (y465,y466,y467)=>lZ class_∧lZ y466∧True) h (eA [(73,some 13),(74,some 16)]) (by rintro ⟨y465,y466,y467⟩;exact ((Holds.avl 1 rfl).and ((Holds.kdl 74 rfl).and (hT)))) ?_
 clear h
 rintro k ⟨y465,y466,y467⟩ o hp h ho569
 replace h:minimize_next.s20 m_ class_ y465 y466 y467=some o:=h
 unfold minimize_next.s20 at h
 obtain ⟨z671,z672,_⟩:=hp
 conv=>whnf
 refine Both.mk ?_ ?_<;>intro b570
 obtain ⟨h,b570d⟩:=ctd b570 h
 conv=>whnf
 refine Nf.mk (List.map cI (List.replicate 128 0)) rfl ?_
 conv=>whnf
 obtain ⟨y612,hc,hk571⟩:=bind_some h
 clear h
 have h:=hc
 clear hc
 refine Cut.mk (mkSt [(1,.im (nL cI class_)),(2,.im (.ref (c_api_Mealy m_))),(6,.osl 73 1),(7,.osl 74 1),(8,.im (nI (↑y467:Int))),(9,.elt 75 1 1 0 0),(18,.im (nI (↑(List.length class_):Int))),(19,.im (nI (↑y467:Int)))] [(73,.map (mapV wA wI y465)),(74,.row 3 1 (List.map cI y466)),(75,.row 201 1 (List.map cI y612))] []) (lZ class_∧lZ y466∧lZ y612∧True) ((Holds.avl 1 rfl).and ((Holds.kdl 74 rfl).and ((Holds.kdl 75 rfl).and (hT)))) ?_ (fun hp=>?_)
 conv=>whnf
 refine Loops.iter (fun (s:List Int×Nat)=>minimize_next.s18 m_ class_ y467 s.1 s.2) (fun (y623,y624)=>mkSt [(1,.im (nL cI class_)),(2,.im (.ref (c_api_Mealy m_))),(6,.osl 73 1),(7,.osl 74 1),(8,.im (nI (↑y467:Int))),(9,.elt 75 1 1 0 0),(18,.im (nI (↑(List.length class_):Int))),(19,.im (nI (↑y467:Int))),(23,.im (nI m_.Inputs)),(24,.im (nI (↑y624:Int)))] [(73,.map (mapV wA wI y465)),(74,.row 3 1 (List.map cI y466)),(75,.row 201 1 (List.map cI y623))] []) (fun (y623,y624)=>lZ class_∧lZ y466∧lZ y623∧True) h (Ent.mk [(73,some 73),(74,some 74),(75,some 9)] rfl ⟨eI rfl rfl,eI rfl rfl,⟨.osl 73 _,rfl,.osl rfl rfl rfl⟩,⟨.osl 74 _,rfl,.osl rfl rfl rfl⟩,eI rfl rfl,⟨.elt 9 _ _ _ _,rfl,.elt rfl rfl rfl⟩,eI rfl rfl,eI rfl rfl,eI rfl rfl,eI rfl rfl,trivial⟩ ⟨.inl ⟨73,rfl,rfl,trivial⟩,.inl ⟨74,rfl,rfl,trivial⟩,.inl ⟨9,rfl,rfl,trivial⟩,trivial⟩ trivial) (by rintro ⟨y623,y624⟩;exact ((Holds.avl 1 rfl).and ((Holds.kdl 74 rfl).and ((Holds.kdl 75 rfl).and (hT))))) ?_
 clear h
 rintro k ⟨y623,y624⟩ o hp h ho637
 replace h:minimize_next.s18 m_ class_ y467 y623 y624=some o:=h
 unfold minimize_next.s18 at h
 obtain ⟨z650,z651,z652,_⟩:=hp
 conv=>whnf
 refine Both.mk ?_ ?_<;>intro b638
 obtain ⟨h,b638d⟩:=ctd b638 h
 conv=>whnf
 obtain ⟨e639,he639,h⟩:=idxn_some h
 refine ⟨_,⟨(by omega),map_at he639,rfl⟩,?_⟩
 conv=>whnf
 obtain ⟨e640,he640,h⟩:=idxn_some h
 refine ⟨_,⟨(by omega),map_at he640,rfl⟩,?_⟩
 conv=>whnf
 obtain ⟨c642,h⟩:=chk_some h
 obtain ⟨e641,he641,h⟩:=idxn_some h
 refine Side.mk ⟨by omega,c642,rfl⟩ ?_
 conv=>whnf
 refine Side.mk ⟨rfl,trivial⟩ ?_
 conv=>whnf
 refine ⟨_,map_at he641,?_⟩
 conv=>whnf
 refine Nf.mk (List.map cI (List.set y623 y624 e640)) (set_map rfl) ?_
 conv=>whnf
 obtain ⟨c643,h⟩:=chk_some h
 refine Arith.mk c643 ?_
 conv=>whnf
 obtain ⟨e644,he644,h⟩:=idxn_some h
 refine ⟨_,⟨(by omega),map_at he644,rfl⟩,?_⟩
 conv=>whnf
 obtain ⟨e645,he645,h⟩:=idxn_some h
 refine ⟨_,⟨(by omega),map_at he645,rfl⟩,?_⟩
 conv=>whnf
 obtain ⟨e646,he646z,he646,h⟩:=idx_some h
 refine ⟨_,⟨he646z,map_at he646,rfl⟩,?_⟩
 conv=>whnf
 obtain ⟨c648,h⟩:=chk_some h
 obtain ⟨e647,he647,h⟩:=idxn_some h
 refine Side.mk ⟨by omega,c648,rfl⟩ ?_
 conv=>whnf
 refine Side.mk ⟨rfl,trivial⟩ ?_
 conv=>whnf
 refine ⟨_,map_at he647,?_⟩
 conv=>whnf
 refine Nf.mk (List.map cI (List.set (List.set y623 y624 e640) (64+y624) e646)) (set_map rfl) ?_
 conv=>whnf
 obtain ⟨c649,h⟩:=chk_some h
 refine Arith.mk c649 ?_
 conv=>whnf
 cases h
 exact Nxt.mk _ ho637 (Ent.mk [(73,some 73),(74,some 74),(75,some 75)] rfl ⟨eI rfl rfl,eI rfl rfl,⟨.osl 73 _,rfl,.osl rfl rfl rfl⟩,⟨.osl 74 _,rfl,.osl rfl rfl rfl⟩,eI rfl rfl,⟨.elt 75 _ _ _ _,rfl,.elt rfl rfl rfl⟩,eI rfl rfl,eI rfl rfl,eI rfl rfl,eI rfl rfl,trivial⟩ ⟨.inl ⟨73,rfl,rfl,trivial⟩,.inl ⟨74,rfl,rfl,trivial⟩,.inl ⟨75,rfl,rfl,trivial⟩,trivial⟩ trivial)
 obtain ⟨h,b638d⟩:=cfd b638 h
 conv=>whnf
 cases h
 have ho637:_=_:=ho637
 cases ho637
 exact Join.mk (Ent.mk [(73,some 73),(74,some 74),(75,some 75)] rfl ⟨eI rfl rfl,eI rfl rfl,⟨.osl 73 _,rfl,.osl rfl rfl rfl⟩,⟨.osl 74 _,rfl,.osl rfl rfl rfl⟩,eI rfl rfl,⟨.elt 75 _ _ _ _,rfl,.elt rfl rfl rfl⟩,eI rfl rfl,eI rfl rfl,trivial⟩ ⟨.inl ⟨73,rfl,rfl,trivial⟩,.inl ⟨74,rfl,rfl,trivial⟩,.inl ⟨75,rfl,rfl,trivial⟩,trivial⟩ trivial)
 replace h:=hk571
 obtain ⟨z653,z654,z655,_⟩:=hp
 conv=>whnf
 obtain ⟨c656,h⟩:=chk_some h
 refine Side.mk ⟨rfl,by rw [List.length_map];exact c656⟩ ?_
 conv=>whnf
 refine Nf.mk (cA y612) flat_cA ?_
 conv=>whnf
 obtain ⟨c657,h⟩:=chk_some h
 refine Side.mk rfl ?_
 conv=>whnf
 refine ⟨y612,_,keys_arr (g:=wI) rfl c657,?_⟩
 conv=>whnf
 refine Nf.mk (wI ((mget y612 y465).getD 0)) ((getD_map rfl _).trans (congrArg (Option.getD · _) (get_arr _ _ _).symm)) ?_
 conv=>whnf
 refine Nf.mk (mget y612 y465).isSome ((isSome_map _).trans (congrArg Option.isSome (get_arr _ _ _).symm)) ?_
 conv=>whnf
 obtain ⟨⟨y663,n664⟩,hc,hk659⟩:=bind_some h
 clear h
 have h:=hc
 clear hc
 refine Cut.mk (mkSt [(1,.im (nL cI class_)),(2,.im (.ref (c_api_Mealy m_))),(6,.osl 73 1),(7,.osl 74 1),(8,.im (nI (↑y467:Int))),(11,.im (nI n664)),(18,.im (nI (↑(List.length class_):Int))),(19,.im (nI (↑y467:Int)))] [(73,.map (mapV wA wI y663)),(74,.row 3 1 (List.map cI y466))] []) (lZ class_∧lZ y466∧True) ((Holds.avl 1 rfl).and ((Holds.kdl 74 rfl).and (hT))) ?_ (fun hp=>?_)
 conv=>whnf
 refine Both.mk ?_ ?_<;>intro b665
 replace h:=cond_t b665 h
 conv=>whnf
 refine Side.mk rfl ?_
 conv=>whnf
 refine Nf.mk (List.length y465) len_mapV ?_
 conv=>whnf
 obtain ⟨c666,h⟩:=chk_some h
 refine Side.mk ⟨rfl,by rw [List.length_map];exact c666⟩ ?_
 conv=>whnf
 refine Nf.mk (cA y612) flat_cA ?_
 conv=>whnf
 obtain ⟨c667,h⟩:=chk_some h
 refine Side.mk rfl ?_
 conv=>whnf
 refine ⟨y612,_,keys_arr (g:=wI) rfl c667,?_⟩
 conv=>whnf
 refine Nf.mk (mapV wA wI (mset y612 (↑(List.length y465):Int) y465)) (by rw [set_arr];exact mapA_set _ _) ?_
 conv=>whnf
 cases h
 exact Join.mk (eA [(73,some 73),(74,some 74)])
 replace h:=cond_f b665 h
 conv=>whnf
 cases h
 exact Join.mk (eA [(73,some 73),(74,some 74)])
 replace h:minimize_next.k19 y466 y467 y663 n664=some _:=hk659
 unfold minimize_next.k19 at h
 obtain ⟨z668,z669,_⟩:=hp
 conv=>whnf
 obtain ⟨e670,he670,h⟩:=idxn_some h
 refine Side.mk ⟨(by omega),rfl,map_lt he670⟩ ?_
 conv=>whnf
 refine Side.mk ⟨rfl,trivial⟩ ?_
 conv=>whnf
 refine ⟨_,map_at he670,?_⟩
 conv=>whnf
 refine Nf.mk (List.map cI (List.set y466 y467 n664)) (set_map rfl) ?_
 conv=>whnf
 refine Arith.mk (by show inR _;unfold inR;omega) ?_
 conv=>whnf
 cases h
 exact Nxt.mk _ ho569 (eA [(73,some 73),(74,some 74)])
 obtain ⟨h,b570d⟩:=cfd b570 h
 conv=>whnf
 cases h
 have ho569:_=_:=ho569
 cases ho569
 exact Join.mk (eA [(73,some 73),(74,some 74)])
 replace h:minimize_next.k21 y362 y363=some _:=hk52
 unfold minimize_next.k21 at h
 obtain ⟨z673,_⟩:=hp
 conv=>whnf
 refine Side.mk rfl ?_
 conv=>whnf
 refine Nf.mk (List.length y362) len_mapV ?_
 conv=>whnf
 cases h
 conv=>whnf
 exact Side.mk ⟨rfl,trivial⟩ ⟨rfl,rfl⟩
theorem sp_minimize_refine (m_:T_api_Mealy) (k_:Int) (r:List Int×Int) (h:Ok (.agg (c_api_Mealy m_))→Ok (nI k_)→minimize_refine m_ k_=some r):Sp Tryz.prog 139 [.im (.agg (c_api_Mealy m_)),.im (nI k_)] (.tup [nL cI r.1,nI r.2]):=by
 refine sp_of rfl [700002,6000014] rfl rfl rfl (Nat.le_of_ble_eq_true rfl) rfl fun hk=>?_
 replace h:=h hk.1 hk.2.1
 have z1:lZ m_.Next:=ok_len (Ok.agg_at hk.1 2 rfl)
 have z2:lZ m_.Out:=ok_len (Ok.agg_at hk.1 3 rfl)
 unfold minimize_refine at h
 conv=>whnf
 refine Nf.mk (List.length m_.Next) len_map ?_
 conv=>whnf
 obtain ⟨c51,h⟩:=chk_some h
 refine Side.mk c51 ?_
 conv=>whnf
 refine Nf.mk (List.map cI (List.replicate (List.length m_.Next) (0:Int))) (rep_map (c:=cI) (z:=0) (n:=(List.length m_.Next)) rfl rfl) ?_
 conv=>whnf
 refine Nf.mk (List.length m_.Next) len_map ?_
 conv=>whnf
 obtain ⟨oc,hc,hk52⟩:=bind_some h
 clear h
 have h:=hc
 clear hc
 refine Cut.mkS oc (Y:=List Int) (fun class67=>mkSt [(1,.im (nI k_)),(2,.im (.ref (c_api_Mealy m_))),(6,.im (nL cI class67))] [] []) (fun class67=>lZ class67∧True) (by rintro class67;exact ((Holds.avl 6 rfl).and (hT))) ?_ ?_
 conv=>whnf
 refine Loops.iter (fun (s:List Int×Int×Nat)=>minimize_refine.s2 m_ k_ s.1 s.2.1 s.2.2) (fun (class71,n72,y73)=>mkSt [(1,.im (nI k_)),(2,.im (.ref (c_api_Mealy m_))),(6,.im (nL cI class71)),(7,.im (nI n72)),(20,.im (nI (min (max k_ 0) (↑(List.length m_.Next):Int)))),(21,.im (nI (↑y73:Int)))] [] []) (fun (class71,n72,y73)=>lZ class71∧True) h (eA []) (by rintro ⟨class71,n72,y73⟩;exact ((Holds.avl 6 rfl).and (hT))) ?_
 clear h
 rintro k ⟨class71,n72,y73⟩ o hp h ho77
 replace h:minimize_refine.s2 m_ k_ class71 n72 y73=some o:=h
 unfold minimize_refine.s2 at h
 obtain ⟨z81,_⟩:=hp
 conv=>whnf
 refine Both.mk ?_ ?_<;>intro b78
 obtain ⟨h,b78d⟩:=ctd b78 h
 conv=>whnf
 obtain ⟨c79,hc79,h⟩:=bind_some h
 refine ⟨_,(sp_minimize_next m_ class71 c79 (fun _ _=>hc79)),?_⟩
 conv=>whnf
 refine Both.mk ?_ ?_<;>intro b80
 obtain ⟨h,b80d⟩:=ctd b80 h
 conv=>whnf
 cases h
 have ho77:_=_:=ho77
 cases ho77
 replace h:some _=some _:=hk52
 cases h
 conv=>whnf
 exact ⟨rfl,rfl⟩
 obtain ⟨h,b80d⟩:=cfd b80 h
 conv=>whnf
 refine Arith.mk (by show inR _;unfold inR;omega) ?_
 conv=>whnf
 cases h
 exact Nxt.mk _ ho77 (eA [])
 obtain ⟨h,b78d⟩:=cfd b78 h
 conv=>whnf
 cases h
 have ho77:_=_:=ho77
 cases ho77
 exact JoinS.mk' _ rfl (eA [])
 rintro class67 rfl hp
 replace h:=sum_inl hk52
 obtain ⟨z82,_⟩:=hp
 conv=>whnf
 refine Nf.mk (List.length m_.Next) len_map ?_
 conv=>whnf
 cases h
 conv=>whnf
 exact ⟨rfl,rfl⟩
theorem sp_minimize_Partition (m_:T_api_Mealy) (k_:Int) (r:List Int×Int) (h:Ok (.agg (c_api_Mealy m_))→Ok (nI k_)→minimize_Partition m_ k_=some r):Sp Tryz.prog 116 [.im (.agg (c_api_Mealy m_)),.im (nI k_)] (.tup [nL cI r.1,nI r.2]):=by
 refine sp_of rfl [700002] rfl rfl rfl (Nat.le_of_ble_eq_true rfl) rfl fun hk=>?_
 replace h:=h hk.1 hk.2.1
 have z1:lZ m_.Next:=ok_len (Ok.agg_at hk.1 2 rfl)
 have z2:lZ m_.Out:=ok_len (Ok.agg_at hk.1 3 rfl)
 unfold minimize_Partition at h
 conv=>whnf
 obtain ⟨c51,hc51,h⟩:=bind_some h
 refine ⟨_,(sp_mealy_Valid m_ c51 (fun _=>hc51)),?_⟩
 conv=>whnf
 refine Both.mk ?_ ?_<;>intro b52
 obtain ⟨h,b52d⟩:=ctd b52 h
 conv=>whnf
 cases h
 conv=>whnf
 exact ⟨rfl,rfl⟩
 obtain ⟨h,b52d⟩:=cfd b52 h
 conv=>whnf
 obtain ⟨c53,hc53,h⟩:=bind_some h
 refine ⟨_,(sp_minimize_refine m_ k_ c53 (fun _ _=>hc53)),?_⟩
 conv=>whnf
 cases h
 conv=>whnf
 exact ⟨rfl,rfl⟩
theorem sp_minimize_Classes (m_:T_api_Mealy) (r:List Int×Int) (h:Ok (.agg (c_api_Mealy m_))→minimize_Classes m_=some r):Sp Tryz.prog 86 [.im (.agg (c_api_Mealy m_))] (.tup [nL cI r.1,nI r.2]):=by
 refine sp_of rfl [700001] rfl rfl rfl (Nat.le_of_ble_eq_true rfl) rfl fun hk=>?_
 replace h:=h hk.1
 have z1:lZ m_.Next:=ok_len (Ok.agg_at hk.1 2 rfl)
 have z2:lZ m_.Out:=ok_len (Ok.agg_at hk.1 3 rfl)
 unfold minimize_Classes at h
 conv=>whnf
 obtain ⟨c51,hc51,h⟩:=bind_some h
 refine ⟨_,(sp_minimize_Partition m_ 128 c51 (fun _ _=>hc51)),?_⟩
 conv=>whnf
 cases h
 conv=>whnf
 exact ⟨rfl,rfl⟩
end Go.Proofs.YteigfkncoiiaiaaGreatDoor.Sym
