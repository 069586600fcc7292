/-
  The contracts of the functions, read from the code by a program (ext.py): each function has its plain twin as its contract.
-/
import Derived.Test.YtmcfpohmiabmpaaGreatDoorM4
set_option linter.all false
namespace Go.Proofs.YtmcfpohmiabmpaaGreatDoor.Sym
open Go.RowKit
set_option maxRecDepth 100000
set_option linter.unusedVariables false
set_option maxHeartbeats 4000000
theorem eI {σ:St} {src:List (Nat×Option Nat)} {γ:Nat→Nat} {t:Nat} {y b:IV} (h1:σ.av t=.im y) (h2:AV.im y=.im b):∃ x,σ.av t=x∧SubR σ src γ x (.im b):=⟨.im y,h1,.im (Sub.rfl' h2)⟩
theorem odt {p:Prop} [Decidable p] (h:decide p=true):p:=of_decide_eq_true h
theorem odf {p:Prop} [Decidable p] (h:decide p=false):¬ p:=of_decide_eq_false h
theorem ctd {α:Type} {p:Prop} [Decidable p] {x y z:α} (hb:decide p=true) (h:cond (decide p) x y=z):x=z∧p:=⟨cond_t hb h,odt hb⟩
theorem cfd {α:Type} {p:Prop} [Decidable p] {x y z:α} (hb:decide p=false) (h:cond (decide p) x y=z):y=z∧¬ p:=⟨cond_f hb h,odf hb⟩
theorem hT {σ:St}:Holds σ True:=Holds.true_ _
abbrev lZ {α:Type} (l:List α):Prop:=List.length l≤17592186044416
theorem eA {σ:St} {avs:List (Nat×AV)} {kds:List (Nat×Kd)} {cels:List (Nat×Nat×AV)} (src:List (Nat×Option Nat)) (hn:ndB (srcs src) []=true:=by exact rfl) (ha:SubL σ src (gnM kds) avs:=by repeat' (first | exact trivial | refine ⟨eI rfl rfl,?_⟩ | refine ⟨⟨.own _ _ _,rfl,.own rfl rfl rfl⟩,?_⟩ | refine ⟨⟨.osl _ _,rfl,.osl rfl rfl rfl⟩,?_⟩ | refine ⟨⟨.im (.val (.slice none 0 0)),rfl,.made rfl rfl⟩,?_⟩)) (hk:KdL σ src kds:=by repeat' (first | exact trivial | refine ⟨.inl ⟨_,rfl,rfl,trivial⟩,?_⟩ | refine ⟨.inl ⟨_,rfl,rfl,⟨rfl,rfl⟩⟩,?_⟩ | refine ⟨.inr ⟨rfl,rfl,.inl ⟨_,_,rfl,by decide⟩⟩,?_⟩)) (hc:CeL σ src (gnM kds) cels:=by repeat' (first | exact trivial | refine ⟨⟨_,.im _,rfl,rfl,.im (Sub.rfl' rfl)⟩,?_⟩ | refine ⟨⟨_,.own _ _ _,rfl,rfl,.own rfl rfl rfl⟩,?_⟩ | refine ⟨⟨_,.osl _ _,rfl,rfl,.osl rfl rfl rfl⟩,?_⟩)):Ent σ (mkSt avs kds cels):=Ent.mk src hn ha hk hc
theorem sp_nondet_Vote (l_:List (List Int)) (need_:Int) (r:List Int×Int) (h:Ok (nL (cL cI) l_)→Ok (nI need_)→nondet_Vote l_ need_=some r):Sp Tryz.prog 11 [.im (nL (cL cI) l_),.im (nI need_)] (.tup [nL cI r.1,nI r.2]):=by
 refine sp_of rfl [] rfl rfl rfl (Nat.le_of_ble_eq_true rfl) rfl fun hk=>?_
 replace h:=h hk.1 hk.2.1
 have z1:lZ l_:=ok_len hk.1
 unfold nondet_Vote at h
 conv=>whnf
 obtain ⟨y54,hc,hk52⟩:=bind_some h
 clear h
 have h:=hc
 clear hc
 refine Cut.mk (mkSt [(0,.im (nL (cL cI) l_)),(1,.im (nI need_)),(15,.im (nB y54))] [] []) (lZ l_∧True) ((Holds.avl 0 rfl).and (hT)) ?_ (fun hp=>?_)
 conv=>whnf
 refine Both.mk ?_ ?_<;>intro b55
 replace b55:=beq_ff b55
 obtain ⟨h,b55d⟩:=cfd b55 h
 conv=>whnf
 refine Both.yes (ff_beq b55) ?_
 conv=>whnf
 refine Both.no b55 ?_
 conv=>whnf
 cases h
 exact Join.mk (eA [])
 replace b55:=beq_ft b55
 obtain ⟨h,b55d⟩:=ctd b55 h
 conv=>whnf
 refine Both.no (tf_beq b55) ?_
 conv=>whnf
 refine Both.yes b55 ?_
 conv=>whnf
 cases h
 exact Join.mk (eA [])
 replace h:=hk52
 obtain ⟨z56,_⟩:=hp
 conv=>whnf
 refine Both.mk ?_ ?_<;>intro b57
 replace h:=cond_t b57 h
 conv=>whnf
 cases h
 conv=>whnf
 exact ⟨rfl,rfl⟩
 replace h:=cond_f b57 h
 conv=>whnf
 refine Nf.mk (List.length l_) len_map ?_
 conv=>whnf
 obtain ⟨oc,hc,hk58⟩:=bind_some h
 clear h
 have h:=hc
 clear hc
 refine Cut.mkS oc (Y:=Unit) (fun (_:Unit)=>mkSt [] [] []) (fun (_:Unit)=>True) (by rintro ⟨⟩;exact (hT)) ?_ ?_
 conv=>whnf
 refine Loops.iter (fun (s:(List (ByteArray×Int))×Nat)=>nondet_Vote.s2 l_ need_ s.1 s.2) (fun (y87,y88)=>mkSt [(1,.im (nI need_)),(6,.osl 64 1),(17,.im (nL (cL cI) l_)),(18,.im (nI (↑(List.length l_):Int))),(19,.im (nI (↑y88:Int)))] [(64,.map (mapV wS wI y87))] []) (fun (y87,y88)=>lZ l_∧True) h (eA [(64,some 16)]) (by rintro ⟨y87,y88⟩;exact ((Holds.avl 17 rfl).and (hT))) ?_
 clear h
 rintro k ⟨y87,y88⟩ o hp h ho95
 replace h:nondet_Vote.s2 l_ need_ y87 y88=some o:=h
 unfold nondet_Vote.s2 at h
 obtain ⟨z102,_⟩:=hp
 conv=>whnf
 refine Both.mk ?_ ?_<;>intro b96
 obtain ⟨h,b96d⟩:=ctd b96 h
 conv=>whnf
 obtain ⟨e97,he97,h⟩:=idxn_some h
 refine ⟨_,⟨(by omega),map_at he97,rfl⟩,?_⟩
 conv=>whnf
 obtain ⟨c98,hc98,h⟩:=bind_some h
 refine ⟨_,(sp_nondet_key e97 c98 (hc98)),?_⟩
 conv=>whnf
 refine Side.mk rfl ?_
 conv=>whnf
 refine ⟨_,find_str _ wI _,?_⟩
 conv=>whnf
 refine Nf.mk (wI ((mget c98 y87).getD 0)) (getD_map rfl _) ?_
 conv=>whnf
 obtain ⟨c99,h⟩:=chk_some h
 refine Arith.mk c99 ?_
 conv=>whnf
 refine Side.mk rfl ?_
 conv=>whnf
 refine ⟨_,set_str _ (((mget c98 y87).getD 0)+1) wI _,?_⟩
 conv=>whnf
 refine Side.mk rfl ?_
 conv=>whnf
 refine ⟨_,find_str _ wI _,?_⟩
 conv=>whnf
 refine Nf.mk (wI ((mget c98 (mset c98 (((mget c98 y87).getD 0)+1) y87)).getD 0)) (getD_map rfl _) ?_
 conv=>whnf
 refine Both.mk ?_ ?_<;>intro b100
 obtain ⟨h,b100d⟩:=ctd b100 h
 conv=>whnf
 obtain ⟨c101,hc101,h⟩:=bind_some h
 refine ⟨_,(sp_lib_Clone_int e97 c101 (hc101)).im,?_⟩
 conv=>whnf
 cases h
 have ho95:_=_:=ho95
 cases ho95
 replace h:some _=some _:=hk58
 cases h
 conv=>whnf
 exact ⟨rfl,rfl⟩
 obtain ⟨h,b100d⟩:=cfd b100 h
 conv=>whnf
 refine Arith.mk (by show inR _;unfold inR;omega) ?_
 conv=>whnf
 cases h
 exact Nxt.mk _ ho95 (eA [(64,some 64)])
 obtain ⟨h,b96d⟩:=cfd b96 h
 conv=>whnf
 cases h
 have ho95:_=_:=ho95
 cases ho95
 exact JoinS.mk' _ rfl (eA [])
 rintro ⟨⟩ rfl hp
 replace h:=sum_inl hk58
 conv=>whnf
 cases h
 conv=>whnf
 exact ⟨rfl,rfl⟩
theorem sp_R01_Common (a_:List Int) (b_:List Int) (r:Int) (h:Ok (nL cI a_)→Ok (nL cI b_)→R01_Common a_ b_=some r):Sp Tryz.prog 38 [.im (nL cI a_),.im (nL cI b_)] (.im (nI r)):=by
 refine sp_of rfl [] rfl rfl rfl (Nat.le_of_ble_eq_true rfl) rfl fun hk=>?_
 replace h:=h hk.1 hk.2.1
 have z1:lZ a_:=ok_len hk.1
 have z2:lZ b_:=ok_len hk.2.1
 unfold R01_Common at h
 conv=>whnf
 obtain ⟨i100,hc,hk51⟩:=bind_some h
 clear h
 have h:=hc
 clear hc
 refine Cut.mk (mkSt [(5,.im (nI (↑i100:Int)))] [] []) (True) (hT) ?_ (fun hp=>?_)
 conv=>whnf
 refine Loops.iter (fun (s:Nat)=>R01_Common.s2 a_ b_ s) (fun i115=>mkSt [(0,.im (nL cI a_)),(1,.im (nL cI b_)),(5,.im (nI (↑i115:Int)))] [] []) (fun i115=>lZ a_∧lZ b_∧True) h (eA []) (by rintro i115;exact ((Holds.avl 0 rfl).and ((Holds.avl 1 rfl).and (hT)))) ?_
 clear h
 rintro k i115 o hp h ho131
 replace h:R01_Common.s2 a_ b_ i115=some o:=h
 unfold R01_Common.s2 at h
 obtain ⟨z147,z148,_⟩:=hp
 conv=>whnf
 obtain ⟨y138,hc,hk133⟩:=bind_some h
 clear h
 have h:=hc
 clear hc
 refine Cut.mk (mkSt [(0,.im (nL cI a_)),(1,.im (nL cI b_)),(5,.im (nI (↑i115:Int))),(26,.im (nB y138))] [] []) (lZ a_∧lZ b_∧True) ((Holds.avl 0 rfl).and ((Holds.avl 1 rfl).and (hT))) ?_ (fun hp=>?_)
 conv=>whnf
 refine Nf.mk (List.length a_) len_map ?_
 conv=>whnf
 refine Both.mk ?_ ?_<;>intro b139
 replace b139:=beq_tt b139
 obtain ⟨h,b139d⟩:=ctd b139 h
 conv=>whnf
 iterate 2 (refine Both.yes (tt_beq b139) ?_;(conv=>whnf))
 refine Nf.mk (List.length b_) len_map ?_
 conv=>whnf
 refine Both.yes (tt_beq b139) ?_
 conv=>whnf
 refine Both.yes b139 ?_
 conv=>whnf
 refine Both.mk ?_ ?_<;>intro b140
 replace b140:=beq_tt b140
 obtain ⟨h,b140d⟩:=ctd b140 h
 conv=>whnf
 iterate 2 (refine Both.yes (tt_beq b140) ?_;(conv=>whnf))
 obtain ⟨e141,he141,h⟩:=idxn_some h
 refine ⟨_,⟨(by omega),map_at he141,rfl⟩,?_⟩
 conv=>whnf
 iterate 4 (refine Both.yes (tt_beq b140) ?_;(conv=>whnf))
 obtain ⟨e142,he142,h⟩:=idxn_some h
 refine ⟨_,⟨(by omega),map_at he142,rfl⟩,?_⟩
 conv=>whnf
 iterate 2 (refine Both.yes (tt_beq b140) ?_;(conv=>whnf))
 refine Both.yes b140 ?_
 conv=>whnf
 cases h
 exact Join.mk (eA [])
 replace b140:=beq_tf b140
 obtain ⟨h,b140d⟩:=cfd b140 h
 conv=>whnf
 iterate 8 (refine Both.no (ft_beq b140) ?_;(conv=>whnf))
 refine Both.no b140 ?_
 conv=>whnf
 cases h
 exact Join.mk (eA [])
 replace b139:=beq_tf b139
 obtain ⟨h,b139d⟩:=cfd b139 h
 conv=>whnf
 iterate 3 (refine Both.no (ft_beq b139) ?_;(conv=>whnf))
 refine Both.no b139 ?_
 conv=>whnf
 iterate 10 (refine Both.no rfl ?_;(conv=>whnf))
 cases h
 exact Join.mk (eA [])
 replace h:=hk133
 obtain ⟨z143,z144,_⟩:=hp
 conv=>whnf
 refine Both.mk ?_ ?_<;>intro b145
 replace h:=cond_t b145 h
 conv=>whnf
 obtain ⟨c146,h⟩:=chk_some h
 refine Arith.mk c146 ?_
 conv=>whnf
 cases h
 exact Nxt.mk _ ho131 (eA [])
 replace h:=cond_f b145 h
 conv=>whnf
 cases h
 have ho131:_=_:=ho131
 cases ho131
 exact Join.mk (eA [])
 replace h:=hk51
 conv=>whnf
 cases h
 conv=>whnf
 exact ⟨rfl,rfl⟩
theorem sp_R01_Same (a_:List Int) (b_:List Int) (r:Bool) (h:Ok (nL cI a_)→Ok (nL cI b_)→R01_Same a_ b_=some r):Sp Tryz.prog 15 [.im (nL cI a_),.im (nL cI b_)] (.im (nB r)):=by
 refine sp_of rfl [] rfl rfl rfl (Nat.le_of_ble_eq_true rfl) rfl fun hk=>?_
 replace h:=h hk.1 hk.2.1
 have z1:lZ a_:=ok_len hk.1
 have z2:lZ b_:=ok_len hk.2.1
 unfold R01_Same at h
 conv=>whnf
 obtain ⟨y55,hc,hk52⟩:=bind_some h
 clear h
 have h:=hc
 clear hc
 refine Cut.mk (mkSt [(4,.im (nB y55))] [] []) (True) (hT) ?_ (fun hp=>?_)
 conv=>whnf
 refine Nf.mk (List.length a_) len_map ?_
 conv=>whnf
 refine Nf.mk (List.length b_) len_map ?_
 conv=>whnf
 refine Both.mk ?_ ?_<;>intro b56
 replace b56:=beq_tt b56
 obtain ⟨h,b56d⟩:=ctd b56 h
 conv=>whnf
 iterate 2 (refine Both.yes (tt_beq b56) ?_;(conv=>whnf))
 obtain ⟨c57,hc57,h⟩:=bind_some h
 refine ⟨_,(sp_R01_Common a_ b_ c57 (fun _ _=>hc57)),?_⟩
 conv=>whnf
 iterate 2 (refine Both.yes (tt_beq b56) ?_;(conv=>whnf))
 refine Nf.mk (List.length a_) len_map ?_
 conv=>whnf
 refine Both.yes (tt_beq b56) ?_
 conv=>whnf
 refine Both.yes b56 ?_
 conv=>whnf
 cases h
 exact Join.mk (eA [])
 replace b56:=beq_tf b56
 obtain ⟨h,b56d⟩:=cfd b56 h
 conv=>whnf
 iterate 5 (refine Both.no (ft_beq b56) ?_;(conv=>whnf))
 refine Both.no b56 ?_
 conv=>whnf
 cases h
 exact Join.mk (eA [])
 replace h:=hk52
 conv=>whnf
 cases h
 conv=>whnf
 exact ⟨rfl,rfl⟩
theorem sp_cmp_isNaN_int (x_:Int) (r:Bool) (h:Ok (nI x_)→cmp_isNaN_int x_=some r):Sp Tryz.prog 92 [.im (nI x_)] (.im (nB r)):=by
 refine sp_of rfl [] rfl rfl rfl (Nat.le_of_ble_eq_true rfl) rfl fun hk=>?_
 replace h:=h hk.1
 unfold cmp_isNaN_int at h
 conv=>whnf
 cases h
 conv=>whnf
 exact ⟨rfl,rfl⟩
theorem sp_cmp_Compare_int (x_:Int) (y_:Int) (r:Int) (h:Ok (nI x_)→Ok (nI y_)→cmp_Compare_int x_ y_=some r):Sp Tryz.prog 64 [.im (nI x_),.im (nI y_)] (.im (nI r)):=by
 refine sp_of rfl [] rfl rfl rfl (Nat.le_of_ble_eq_true rfl) rfl fun hk=>?_
 replace h:=h hk.1 hk.2.1
 unfold cmp_Compare_int at h
 conv=>whnf
 obtain ⟨c51,hc51,h⟩:=bind_some h
 refine ⟨_,(sp_cmp_isNaN_int x_ c51 (fun _=>hc51)),?_⟩
 conv=>whnf
 obtain ⟨c52,hc52,h⟩:=bind_some h
 refine ⟨_,(sp_cmp_isNaN_int y_ c52 (fun _=>hc52)),?_⟩
 conv=>whnf
 refine Both.mk ?_ ?_<;>intro b53
 replace h:=cond_t b53 h
 conv=>whnf
 refine Both.mk ?_ ?_<;>intro b54
 replace h:=cond_t b54 h
 conv=>whnf
 cases h
 conv=>whnf
 exact ⟨rfl,rfl⟩
 replace h:=cond_f b54 h
 conv=>whnf
 cases h
 conv=>whnf
 exact ⟨rfl,rfl⟩
 replace h:=cond_f b53 h
 conv=>whnf
 refine Both.mk ?_ ?_<;>intro b55
 replace h:=cond_t b55 h
 conv=>whnf
 cases h
 conv=>whnf
 exact ⟨rfl,rfl⟩
 replace h:=cond_f b55 h
 conv=>whnf
 refine Both.mk ?_ ?_<;>intro b56
 obtain ⟨h,b56d⟩:=ctd b56 h
 conv=>whnf
 cases h
 conv=>whnf
 exact ⟨rfl,rfl⟩
 obtain ⟨h,b56d⟩:=cfd b56 h
 conv=>whnf
 refine Both.mk ?_ ?_<;>intro b57
 obtain ⟨h,b57d⟩:=ctd b57 h
 conv=>whnf
 cases h
 conv=>whnf
 exact ⟨rfl,rfl⟩
 obtain ⟨h,b57d⟩:=cfd b57 h
 conv=>whnf
 cases h
 conv=>whnf
 exact ⟨rfl,rfl⟩
theorem sp_slices_Compare_Sint_int (s1_:List Int) (s2_:List Int) (r:Int) (h:Ok (nL cI s1_)→Ok (nL cI s2_)→slices_Compare_Sint_int s1_ s2_=some r):Sp Tryz.prog 65 [.im (nL cI s1_),.im (nL cI s2_)] (.im (nI r)):=by
 refine sp_of rfl [] rfl rfl rfl (Nat.le_of_ble_eq_true rfl) rfl fun hk=>?_
 replace h:=h hk.1 hk.2.1
 have z1:lZ s1_:=ok_len hk.1
 have z2:lZ s2_:=ok_len hk.2.1
 unfold slices_Compare_Sint_int at h
 conv=>whnf
 refine Nf.mk (List.length s1_) len_map ?_
 conv=>whnf
 obtain ⟨oc,hc,hk51⟩:=bind_some h
 clear h
 have h:=hc
 clear hc
 refine Cut.mkS oc (Y:=Unit) (fun (_:Unit)=>mkSt [(0,.im (nL cI s1_)),(1,.im (nL cI s2_))] [] []) (fun (_:Unit)=>lZ s1_∧lZ s2_∧True) (by rintro ⟨⟩;exact ((Holds.avl 0 rfl).and ((Holds.avl 1 rfl).and (hT)))) ?_ ?_
 conv=>whnf
 refine Loops.iter (fun (s:Nat)=>slices_Compare_Sint_int.s2 s1_ s2_ s) (fun y80=>mkSt [(0,.im (nL cI s1_)),(1,.im (nL cI s2_)),(9,.im (nL cI s1_)),(10,.im (nI (↑(List.length s1_):Int))),(11,.im (nI (↑y80:Int)))] [] []) (fun y80=>lZ s1_∧lZ s2_∧True) h (eA []) (by rintro y80;exact ((Holds.avl 0 rfl).and ((Holds.avl 1 rfl).and (hT)))) ?_
 clear h
 rintro k y80 o hp h ho87
 replace h:slices_Compare_Sint_int.s2 s1_ s2_ y80=some o:=h
 unfold slices_Compare_Sint_int.s2 at h
 obtain ⟨z94,z95,_⟩:=hp
 conv=>whnf
 refine Both.mk ?_ ?_<;>intro b88
 obtain ⟨h,b88d⟩:=ctd b88 h
 conv=>whnf
 obtain ⟨e89,he89,h⟩:=idxn_some h
 refine ⟨_,⟨(by omega),map_at he89,rfl⟩,?_⟩
 conv=>whnf
 refine Nf.mk (List.length s2_) len_map ?_
 conv=>whnf
 refine Both.mk ?_ ?_<;>intro b90
 obtain ⟨h,b90d⟩:=ctd b90 h
 conv=>whnf
 cases h
 have ho87:_=_:=ho87
 cases ho87
 replace h:some _=some _:=hk51
 cases h
 conv=>whnf
 exact ⟨rfl,rfl⟩
 obtain ⟨h,b90d⟩:=cfd b90 h
 conv=>whnf
 obtain ⟨e91,he91,h⟩:=idxn_some h
 refine ⟨_,⟨(by omega),map_at he91,rfl⟩,?_⟩
 conv=>whnf
 obtain ⟨c92,hc92,h⟩:=bind_some h
 refine ⟨_,(sp_cmp_Compare_int e89 e91 c92 (fun _ _=>hc92)),?_⟩
 conv=>whnf
 refine Both.mk ?_ ?_<;>intro b93
 obtain ⟨h,b93d⟩:=ctd b93 h
 conv=>whnf
 cases h
 have ho87:_=_:=ho87
 cases ho87
 replace h:some _=some _:=hk51
 cases h
 conv=>whnf
 exact ⟨rfl,rfl⟩
 obtain ⟨h,b93d⟩:=cfd b93 h
 conv=>whnf
 refine Arith.mk (by show inR _;unfold inR;omega) ?_
 conv=>whnf
 cases h
 exact Nxt.mk _ ho87 (eA [])
 obtain ⟨h,b88d⟩:=cfd b88 h
 conv=>whnf
 cases h
 have ho87:_=_:=ho87
 cases ho87
 exact JoinS.mk' _ rfl (eA [])
 rintro ⟨⟩ rfl hp
 replace h:=sum_inl hk51
 obtain ⟨z96,z97,_⟩:=hp
 conv=>whnf
 refine Nf.mk (List.length s1_) len_map ?_
 conv=>whnf
 refine Nf.mk (List.length s2_) len_map ?_
 conv=>whnf
 refine Both.mk ?_ ?_<;>intro b98
 obtain ⟨h,b98d⟩:=ctd b98 h
 conv=>whnf
 cases h
 conv=>whnf
 exact ⟨rfl,rfl⟩
 obtain ⟨h,b98d⟩:=cfd b98 h
 conv=>whnf
 cases h
 conv=>whnf
 exact ⟨rfl,rfl⟩
theorem sp_cmp_Or_int (vals_:List Int) (r:Int) (h:Ok (nL cI vals_)→cmp_Or_int vals_=some r):Sp Tryz.prog 63 [.im (nL cI vals_)] (.im (nI r)):=by
 refine sp_of rfl [] rfl rfl rfl (Nat.le_of_ble_eq_true rfl) rfl fun hk=>?_
 replace h:=h hk.1
 have z1:lZ vals_:=ok_len hk.1
 unfold cmp_Or_int at h
 conv=>whnf
 refine Nf.mk (List.length vals_) len_map ?_
 conv=>whnf
 obtain ⟨oc,hc,hk51⟩:=bind_some h
 clear h
 have h:=hc
 clear hc
 refine Cut.mkS oc (Y:=Unit) (fun (_:Unit)=>mkSt [(3,.im (nI 0))] [] []) (fun (_:Unit)=>True) (by rintro ⟨⟩;exact (hT)) ?_ ?_
 conv=>whnf
 refine Loops.iter (fun (s:Nat)=>cmp_Or_int.s2 vals_ s) (fun y67=>mkSt [(3,.im (nI 0)),(6,.im (nL cI vals_)),(7,.im (nI (↑(List.length vals_):Int))),(8,.im (nI (↑y67:Int)))] [] []) (fun y67=>lZ vals_∧True) h (eA []) (by rintro y67;exact ((Holds.avl 6 rfl).and (hT))) ?_
 clear h
 rintro k y67 o hp h ho71
 replace h:cmp_Or_int.s2 vals_ y67=some o:=h
 unfold cmp_Or_int.s2 at h
 obtain ⟨z75,_⟩:=hp
 conv=>whnf
 refine Both.mk ?_ ?_<;>intro b72
 obtain ⟨h,b72d⟩:=ctd b72 h
 conv=>whnf
 obtain ⟨e73,he73,h⟩:=idxn_some h
 refine ⟨_,⟨(by omega),map_at he73,rfl⟩,?_⟩
 conv=>whnf
 refine Both.mk ?_ ?_<;>intro b74
 obtain ⟨h,b74d⟩:=ctd b74 h
 conv=>whnf
 cases h
 have ho71:_=_:=ho71
 cases ho71
 replace h:some _=some _:=hk51
 cases h
 conv=>whnf
 exact ⟨rfl,rfl⟩
 obtain ⟨h,b74d⟩:=cfd b74 h
 conv=>whnf
 refine Arith.mk (by show inR _;unfold inR;omega) ?_
 conv=>whnf
 cases h
 exact Nxt.mk _ ho71 (eA [])
 obtain ⟨h,b72d⟩:=cfd b72 h
 conv=>whnf
 cases h
 have ho71:_=_:=ho71
 cases ho71
 exact JoinS.mk' _ rfl (eA [])
 rintro ⟨⟩ rfl hp
 replace h:=sum_inl hk51
 conv=>whnf
 cases h
 conv=>whnf
 exact ⟨rfl,rfl⟩
theorem sp_word_Compare (a_:List Int) (b_:List Int) (r:Int) (h:Ok (nL cI a_)→Ok (nL cI b_)→word_Compare a_ b_=some r):Sp Tryz.prog 36 [.im (nL cI a_),.im (nL cI b_)] (.im (nI r)):=by
 refine sp_of rfl [] rfl rfl rfl (Nat.le_of_ble_eq_true rfl) rfl fun hk=>?_
 replace h:=h hk.1 hk.2.1
 have z1:lZ a_:=ok_len hk.1
 have z2:lZ b_:=ok_len hk.2.1
 unfold word_Compare at h
 conv=>whnf
 refine Nf.mk (List.length a_) len_map ?_
 conv=>whnf
 refine Nf.mk (List.length b_) len_map ?_
 conv=>whnf
 obtain ⟨c51,hc51,h⟩:=bind_some h
 refine ⟨_,(sp_cmp_Compare_int (↑(List.length a_):Int) (↑(List.length b_):Int) c51 (fun _ _=>hc51)),?_⟩
 conv=>whnf
 obtain ⟨c52,hc52,h⟩:=bind_some h
 refine ⟨_,(sp_slices_Compare_Sint_int a_ b_ c52 (fun _ _=>hc52)),?_⟩
 conv=>whnf
 obtain ⟨c53,hc53,h⟩:=bind_some h
 refine ⟨_,(sp_cmp_Or_int [c51,c52] c53 (fun _=>hc53)),?_⟩
 conv=>whnf
 cases h
 conv=>whnf
 exact ⟨rfl,rfl⟩
theorem sp_nondet_Distinct (l_:List (List Int)) (r:List (List Int)×List Int) (h:Ok (nL (cL cI) l_)→nondet_Distinct l_=some r):Sp Tryz.prog 13 [.im (nL (cL cI) l_)] (.tup [nL (cL cI) r.1,nL cI r.2]):=by
 refine sp_of rfl [31000,2031000] rfl rfl rfl (Nat.le_of_ble_eq_true rfl) rfl fun hk=>?_
 replace h:=h hk.1
 have z1:lZ l_:=ok_len hk.1
 unfold nondet_Distinct at h
 conv=>whnf
 refine Nf.mk (List.length l_) len_map ?_
 conv=>whnf
 obtain ⟨y68,hc,hk51⟩:=bind_some h
 clear h
 have h:=hc
 clear hc
 refine Cut.mk (mkSt [(0,.im (nL (cL cI) l_)),(4,.osl 64 1)] [(64,.map (mapV wS wI y68))] []) (lZ l_∧True) ((Holds.avl 0 rfl).and (hT)) ?_ (fun hp=>?_)
 conv=>whnf
 refine Loops.iter (fun (s:(List (ByteArray×Int))×Nat)=>nondet_Distinct.s2 l_ s.1 s.2) (fun (y73,y74)=>mkSt [(0,.im (nL (cL cI) l_)),(4,.osl 64 1),(15,.im (nL (cL cI) l_)),(16,.im (nI (↑(List.length l_):Int))),(17,.im (nI (↑y74:Int)))] [(64,.map (mapV wS wI y73))] []) (fun (y73,y74)=>lZ l_∧True) h (eA [(64,some 14)]) (by rintro ⟨y73,y74⟩;exact ((Holds.avl 0 rfl).and (hT))) ?_
 clear h
 rintro k ⟨y73,y74⟩ o hp h ho79
 replace h:nondet_Distinct.s2 l_ y73 y74=some o:=h
 unfold nondet_Distinct.s2 at h
 obtain ⟨z84,_⟩:=hp
 conv=>whnf
 refine Both.mk ?_ ?_<;>intro b80
 obtain ⟨h,b80d⟩:=ctd b80 h
 conv=>whnf
 obtain ⟨e81,he81,h⟩:=idxn_some h
 refine ⟨_,⟨(by omega),map_at he81,rfl⟩,?_⟩
 conv=>whnf
 obtain ⟨c82,hc82,h⟩:=bind_some h
 refine ⟨_,(sp_nondet_key e81 c82 (hc82)),?_⟩
 conv=>whnf
 refine Side.mk rfl ?_
 conv=>whnf
 refine ⟨_,find_str _ wI _,?_⟩
 conv=>whnf
 refine Nf.mk (wI ((mget c82 y73).getD 0)) (getD_map rfl _) ?_
 conv=>whnf
 obtain ⟨c83,h⟩:=chk_some h
 refine Arith.mk c83 ?_
 conv=>whnf
 refine Side.mk rfl ?_
 conv=>whnf
 refine ⟨_,set_str _ (((mget c82 y73).getD 0)+1) wI _,?_⟩
 conv=>whnf
 refine Arith.mk (by show inR _;unfold inR;omega) ?_
 conv=>whnf
 cases h
 exact Nxt.mk _ ho79 (eA [(64,some 64)])
 obtain ⟨h,b80d⟩:=cfd b80 h
 conv=>whnf
 cases h
 have ho79:_=_:=ho79
 cases ho79
 exact Join.mk (eA [(64,some 64)])
 replace h:=hk51
 obtain ⟨z85,_⟩:=hp
 conv=>whnf
 obtain ⟨c86,hc86,h⟩:=bind_some h
 refine ⟨_,(sp_lib_Clone_words l_ c86 (hc86)),?_⟩
 conv=>whnf
 refine Side.mk ⟨rfl,trivial⟩ ?_
 conv=>whnf
 obtain ⟨c87,hc87,h⟩:=bind_some h
 refine ⟨_,(sp_lib_SortFunc_words c86 (fun u0 u1=>word_Compare u0 u1) 36 cmpE_word_Compare c87 (hc87)),?_⟩
 conv=>whnf
 refine Side.mk rfl ?_
 conv=>whnf
 refine Nf.mk (List.length c87) len_map ?_
 conv=>whnf
 obtain ⟨⟨y119,y120⟩,hc,hk88⟩:=bind_some h
 clear h
 have h:=hc
 clear hc
 refine Cut.mk (mkSt [(8,.osl 64 1),(9,.osl 65 1)] [(64,.row 25 1 (List.map (cL cI) y119)),(65,.row 3 1 (List.map cI y120))] []) (lZ y119∧lZ y120∧True) ((Holds.kdl 64 rfl).and ((Holds.kdl 65 rfl).and (hT))) ?_ (fun hp=>?_)
 conv=>whnf
 refine Loops.iter (fun (s:(List (ByteArray×Int))×List (List Int)×List Int×Nat)=>nondet_Distinct.s4 c87 s.1 s.2.1 s.2.2.1 s.2.2.2) (fun (y127,y128,y129,y130)=>mkSt [(4,.osl 64 1),(8,.osl 65 1),(9,.osl 66 1),(31,.osl 67 1),(32,.im (nI (↑(List.length c87):Int))),(33,.im (nI (↑y130:Int)))] [(64,.map (mapV wS wI y127)),(65,.row 25 1 (List.map (cL cI) y128)),(66,.row 3 1 (List.map cI y129)),(67,.row 25 1 (List.map (cL cI) c87))] []) (fun (y127,y128,y129,y130)=>lZ y128∧lZ y129∧lZ c87∧True) h (eA [(64,some 64),(65,none),(66,none),(67,some 28)]) (by rintro ⟨y127,y128,y129,y130⟩;exact ((Holds.kdl 65 rfl).and ((Holds.kdl 66 rfl).and ((Holds.kdl 67 rfl).and (hT))))) ?_
 clear h
 rintro k ⟨y127,y128,y129,y130⟩ o hp h ho139
 replace h:nondet_Distinct.s4 c87 y127 y128 y129 y130=some o:=h
 unfold nondet_Distinct.s4 at h
 obtain ⟨z148,z149,z150,_⟩:=hp
 conv=>whnf
 refine Both.mk ?_ ?_<;>intro b140
 obtain ⟨h,b140d⟩:=ctd b140 h
 conv=>whnf
 obtain ⟨e141,he141,h⟩:=idxn_some h
 refine Side.mk ⟨(by omega),rfl,map_lt he141⟩ ?_
 conv=>whnf
 refine ⟨_,_,⟨rfl,map_at he141,rfl,rfl⟩,?_⟩
 conv=>whnf
 obtain ⟨c142,hc142,h⟩:=bind_some h
 refine ⟨_,(sp_nondet_key e141 c142 (hc142)),?_⟩
 conv=>whnf
 refine Side.mk rfl ?_
 conv=>whnf
 refine ⟨_,find_str _ wI _,?_⟩
 conv=>whnf
 refine Nf.mk (wI ((mget c142 y127).getD 0)) (getD_map rfl _) ?_
 conv=>whnf
 refine Nf.mk (mget c142 y127).isSome (isSome_map _) ?_
 conv=>whnf
 refine Both.mk ?_ ?_<;>intro b143
 replace h:=cond_t b143 h
 conv=>whnf
 obtain ⟨c144,hc144,h⟩:=bind_some h
 refine ⟨_,(sp_lib_Clone_int e141 c144 (hc144)).im,?_⟩
 conv=>whnf
 obtain ⟨c145,h⟩:=chk_some h
 refine Side.mk ⟨rfl,map_len (l:=[c144]) (c:=cL cI) fun _=>rfl,show capOk _ 24 by simpa only [List.length_map,List.length_cons,List.length_nil,Nat.zero_add] using c145⟩ ?_
 conv=>whnf
 refine Nf.mk (List.map (cL cI) (y128++[c144])) (app_map (l:=y128) (m:=[c144]) (c:=cL cI)) ?_
 conv=>whnf
 obtain ⟨c146,h⟩:=chk_some h
 refine Side.mk ⟨rfl,map_len (l:=[((mget c142 y127).getD 0)]) (c:=cI) fun _=>rfl,show capOk _ 8 by simpa only [List.length_map,List.length_cons,List.length_nil,Nat.zero_add] using c146⟩ ?_
 conv=>whnf
 refine Nf.mk (List.map cI (y129++[((mget c142 y127).getD 0)])) (app_map (l:=y129) (m:=[((mget c142 y127).getD 0)]) (c:=cI)) ?_
 conv=>whnf
 obtain ⟨c147,hc147,h⟩:=bind_some h
 refine ⟨_,(sp_nondet_key e141 c147 (hc147)),?_⟩
 conv=>whnf
 refine Side.mk rfl ?_
 conv=>whnf
 refine ⟨_,del_str _ wI _,?_⟩
 conv=>whnf
 refine Arith.mk (by show inR _;unfold inR;omega) ?_
 conv=>whnf
 cases h
 exact Nxt.mk _ ho139 (eA [(64,some 64),(65,some 65),(66,some 66),(67,some 67)])
 replace h:=cond_f b143 h
 conv=>whnf
 refine Arith.mk (by show inR _;unfold inR;omega) ?_
 conv=>whnf
 cases h
 exact Nxt.mk _ ho139 (eA [(64,some 64),(65,some 65),(66,some 66),(67,some 67)])
 obtain ⟨h,b140d⟩:=cfd b140 h
 conv=>whnf
 cases h
 have ho139:_=_:=ho139
 cases ho139
 exact Join.mk (eA [(64,some 65),(65,some 66)])
 replace h:nondet_Distinct.k5 y119 y120=some _:=hk88
 unfold nondet_Distinct.k5 at h
 obtain ⟨z151,z152,_⟩:=hp
 conv=>whnf
 cases h
 conv=>whnf
 exact Side.mk ⟨rfl,rfl,trivial⟩ ⟨rfl,rfl⟩
theorem sp_R01_Lex (a_:List Int) (b_:List Int) (r:Int) (h:Ok (nL cI a_)→Ok (nL cI b_)→R01_Lex a_ b_=some r):Sp Tryz.prog 54 [.im (nL cI a_),.im (nL cI b_)] (.im (nI r)):=by
 refine sp_of rfl [] rfl rfl rfl (Nat.le_of_ble_eq_true rfl) rfl fun hk=>?_
 replace h:=h hk.1 hk.2.1
 have z1:lZ a_:=ok_len hk.1
 have z2:lZ b_:=ok_len hk.2.1
 unfold R01_Lex at h
 conv=>whnf
 obtain ⟨c51,hc51,h⟩:=bind_some h
 refine ⟨_,(sp_R01_Common a_ b_ c51 (fun _ _=>hc51)),?_⟩
 conv=>whnf
 obtain ⟨y55,hc,hk53⟩:=bind_some h
 clear h
 have h:=hc
 clear hc
 refine Cut.mk (mkSt [(0,.im (nL cI a_)),(1,.im (nL cI b_)),(5,.im (nI c51)),(9,.im (nB y55))] [] []) (lZ a_∧lZ b_∧True) ((Holds.avl 0 rfl).and ((Holds.avl 1 rfl).and (hT))) ?_ (fun hp=>?_)
 conv=>whnf
 refine Nf.mk (List.length a_) len_map ?_
 conv=>whnf
 refine Both.mk ?_ ?_<;>intro b56
 replace b56:=beq_tt b56
 obtain ⟨h,b56d⟩:=ctd b56 h
 conv=>whnf
 iterate 2 (refine Both.yes (tt_beq b56) ?_;(conv=>whnf))
 refine Nf.mk (List.length b_) len_map ?_
 conv=>whnf
 refine Both.yes (tt_beq b56) ?_
 conv=>whnf
 refine Both.yes b56 ?_
 conv=>whnf
 cases h
 exact Join.mk (eA [])
 replace b56:=beq_tf b56
 obtain ⟨h,b56d⟩:=cfd b56 h
 conv=>whnf
 iterate 3 (refine Both.no (ft_beq b56) ?_;(conv=>whnf))
 refine Both.no b56 ?_
 conv=>whnf
 cases h
 exact Join.mk (eA [])
 replace h:=hk53
 obtain ⟨z57,z58,_⟩:=hp
 conv=>whnf
 refine Both.mk ?_ ?_<;>intro b59
 replace h:=cond_t b59 h
 conv=>whnf
 cases h
 conv=>whnf
 exact ⟨rfl,rfl⟩
 replace h:=cond_f b59 h
 conv=>whnf
 obtain ⟨y66,hc,hk61⟩:=bind_some h
 clear h
 have h:=hc
 clear hc
 refine Cut.mk (mkSt [(20,.im (nB y66))] [] []) (True) (hT) ?_ (fun hp=>?_)
 conv=>whnf
 refine Nf.mk (List.length a_) len_map ?_
 conv=>whnf
 refine Both.mk ?_ ?_<;>intro b67
 obtain ⟨h,b67d⟩:=ctd b67 h
 conv=>whnf
 cases h
 exact Join.mk (eA [])
 obtain ⟨h,b67d⟩:=cfd b67 h
 conv=>whnf
 refine Nf.mk (List.length b_) len_map ?_
 conv=>whnf
 refine Both.mk ?_ ?_<;>intro b68
 replace b68:=beq_tt b68
 obtain ⟨h,b68d⟩:=ctd b68 h
 conv=>whnf
 iterate 2 (refine Both.yes (tt_beq b68) ?_;(conv=>whnf))
 obtain ⟨e69,he69z,he69,h⟩:=idx_some h
 refine ⟨_,⟨he69z,map_at he69,rfl⟩,?_⟩
 conv=>whnf
 iterate 4 (refine Both.yes (tt_beq b68) ?_;(conv=>whnf))
 obtain ⟨e70,he70z,he70,h⟩:=idx_some h
 refine ⟨_,⟨he70z,map_at he70,rfl⟩,?_⟩
 conv=>whnf
 iterate 2 (refine Both.yes (tt_beq b68) ?_;(conv=>whnf))
 refine Both.yes b68 ?_
 conv=>whnf
 cases h
 exact Join.mk (eA [])
 replace b68:=beq_tf b68
 obtain ⟨h,b68d⟩:=cfd b68 h
 conv=>whnf
 iterate 8 (refine Both.no (ft_beq b68) ?_;(conv=>whnf))
 refine Both.no b68 ?_
 conv=>whnf
 cases h
 exact Join.mk (eA [])
 replace h:=hk61
 conv=>whnf
 refine Both.mk ?_ ?_<;>intro b71
 replace h:=cond_t b71 h
 conv=>whnf
 cases h
 conv=>whnf
 exact ⟨rfl,rfl⟩
 replace h:=cond_f b71 h
 conv=>whnf
 cases h
 conv=>whnf
 exact ⟨rfl,rfl⟩
theorem sp_R01_Compare (a_:List Int) (b_:List Int) (r:Int) (h:Ok (nL cI a_)→Ok (nL cI b_)→R01_Compare a_ b_=some r):Sp Tryz.prog 24 [.im (nL cI a_),.im (nL cI b_)] (.im (nI r)):=by
 refine sp_of rfl [] rfl rfl rfl (Nat.le_of_ble_eq_true rfl) rfl fun hk=>?_
 replace h:=h hk.1 hk.2.1
 have z1:lZ a_:=ok_len hk.1
 have z2:lZ b_:=ok_len hk.2.1
 unfold R01_Compare at h
 conv=>whnf
 refine Nf.mk (List.length a_) len_map ?_
 conv=>whnf
 refine Nf.mk (List.length b_) len_map ?_
 conv=>whnf
 refine Both.mk ?_ ?_<;>intro b51
 obtain ⟨h,b51d⟩:=ctd b51 h
 conv=>whnf
 cases h
 conv=>whnf
 exact ⟨rfl,rfl⟩
 obtain ⟨h,b51d⟩:=cfd b51 h
 conv=>whnf
 refine Nf.mk (List.length a_) len_map ?_
 conv=>whnf
 refine Nf.mk (List.length b_) len_map ?_
 conv=>whnf
 refine Both.mk ?_ ?_<;>intro b52
 obtain ⟨h,b52d⟩:=ctd b52 h
 conv=>whnf
 cases h
 conv=>whnf
 exact ⟨rfl,rfl⟩
 obtain ⟨h,b52d⟩:=cfd b52 h
 conv=>whnf
 obtain ⟨c53,hc53,h⟩:=bind_some h
 refine ⟨_,(sp_R01_Lex a_ b_ c53 (fun _ _=>hc53)),?_⟩
 conv=>whnf
 cases h
 conv=>whnf
 exact ⟨rfl,rfl⟩
theorem sp_R01_SameWords (a_:List (List Int)) (b_:List (List Int)) (r:Bool) (h:Ok (nL (cL cI) a_)→Ok (nL (cL cI) b_)→R01_SameWords a_ b_=some r):Sp Tryz.prog 16 [.im (nL (cL cI) a_),.im (nL (cL cI) b_)] (.im (nB r)):=by
 refine sp_of rfl [] rfl rfl rfl (Nat.le_of_ble_eq_true rfl) rfl fun hk=>?_
 replace h:=h hk.1 hk.2.1
 have z1:lZ a_:=ok_len hk.1
 have z2:lZ b_:=ok_len hk.2.1
 unfold R01_SameWords at h
 conv=>whnf
 refine Nf.mk (List.length a_) len_map ?_
 conv=>whnf
 refine Nf.mk (List.length b_) len_map ?_
 conv=>whnf
 refine Both.mk ?_ ?_<;>intro b51
 obtain ⟨h,b51d⟩:=ctd b51 h
 conv=>whnf
 cases h
 conv=>whnf
 exact ⟨rfl,rfl⟩
 obtain ⟨h,b51d⟩:=cfd b51 h
 conv=>whnf
 obtain ⟨oc,hc,hk52⟩:=bind_some h
 clear h
 have h:=hc
 clear hc
 refine Cut.mkS oc (Y:=Unit) (fun (_:Unit)=>mkSt [] [] []) (fun (_:Unit)=>True) (by rintro ⟨⟩;exact (hT)) ?_ ?_
 conv=>whnf
 refine Loops.iter (fun (s:Nat)=>R01_SameWords.s2 a_ b_ s) (fun i77=>mkSt [(0,.im (nL (cL cI) a_)),(1,.im (nL (cL cI) b_)),(5,.im (nI (↑i77:Int)))] [] []) (fun i77=>lZ a_∧lZ b_∧True) h (eA []) (by rintro i77;exact ((Holds.avl 0 rfl).and ((Holds.avl 1 rfl).and (hT)))) ?_
 clear h
 rintro k i77 o hp h ho83
 replace h:R01_SameWords.s2 a_ b_ i77=some o:=h
 unfold R01_SameWords.s2 at h
 obtain ⟨z89,z90,_⟩:=hp
 conv=>whnf
 refine Nf.mk (List.length a_) len_map ?_
 conv=>whnf
 refine Both.mk ?_ ?_<;>intro b84
 obtain ⟨h,b84d⟩:=ctd b84 h
 conv=>whnf
 obtain ⟨e85,he85,h⟩:=idxn_some h
 refine ⟨_,⟨(by omega),map_at he85,rfl⟩,?_⟩
 conv=>whnf
 obtain ⟨e86,he86,h⟩:=idxn_some h
 refine ⟨_,⟨(by omega),map_at he86,rfl⟩,?_⟩
 conv=>whnf
 obtain ⟨c87,hc87,h⟩:=bind_some h
 refine ⟨_,(sp_R01_Same e85 e86 c87 (fun _ _=>hc87)),?_⟩
 conv=>whnf
 refine Both.mk ?_ ?_<;>intro b88
 replace h:=cond_t b88 h
 conv=>whnf
 cases h
 have ho83:_=_:=ho83
 cases ho83
 replace h:some _=some _:=hk52
 cases h
 conv=>whnf
 exact ⟨rfl,rfl⟩
 replace h:=cond_f b88 h
 conv=>whnf
 refine Arith.mk (by show inR _;unfold inR;omega) ?_
 conv=>whnf
 cases h
 exact Nxt.mk _ ho83 (eA [])
 obtain ⟨h,b84d⟩:=cfd b84 h
 conv=>whnf
 cases h
 have ho83:_=_:=ho83
 cases ho83
 exact JoinS.mk' _ rfl (eA [])
 rintro ⟨⟩ rfl hp
 replace h:=sum_inl hk52
 conv=>whnf
 cases h
 conv=>whnf
 exact ⟨rfl,rfl⟩
theorem sp_slices_Index_Sint_int (s_:List Int) (v_:Int) (r:Int) (h:Ok (nL cI s_)→Ok (nI v_)→slices_Index_Sint_int s_ v_=some r):Sp Tryz.prog 67 [.im (nL cI s_),.im (nI v_)] (.im (nI r)):=by
 refine sp_of rfl [] rfl rfl rfl (Nat.le_of_ble_eq_true rfl) rfl fun hk=>?_
 replace h:=h hk.1 hk.2.1
 have z1:lZ s_:=ok_len hk.1
 unfold slices_Index_Sint_int at h
 conv=>whnf
 refine Nf.mk (List.length s_) len_map ?_
 conv=>whnf
 obtain ⟨oc,hc,hk51⟩:=bind_some h
 clear h
 have h:=hc
 clear hc
 refine Cut.mkS oc (Y:=Unit) (fun (_:Unit)=>mkSt [] [] []) (fun (_:Unit)=>True) (by rintro ⟨⟩;exact (hT)) ?_ ?_
 conv=>whnf
 refine Loops.iter (fun (s:Nat)=>slices_Index_Sint_int.s2 s_ v_ s) (fun y67=>mkSt [(0,.im (nL cI s_)),(1,.im (nI v_)),(7,.im (nI (↑(List.length s_):Int))),(8,.im (nI (↑y67:Int)))] [] []) (fun y67=>lZ s_∧True) h (eA []) (by rintro y67;exact ((Holds.avl 0 rfl).and (hT))) ?_
 clear h
 rintro k y67 o hp h ho71
 replace h:slices_Index_Sint_int.s2 s_ v_ y67=some o:=h
 unfold slices_Index_Sint_int.s2 at h
 obtain ⟨z75,_⟩:=hp
 conv=>whnf
 refine Both.mk ?_ ?_<;>intro b72
 obtain ⟨h,b72d⟩:=ctd b72 h
 conv=>whnf
 obtain ⟨e73,he73,h⟩:=idxn_some h
 refine ⟨_,⟨(by omega),map_at he73,rfl⟩,?_⟩
 conv=>whnf
 refine Both.mk ?_ ?_<;>intro b74
 obtain ⟨h,b74d⟩:=ctd b74 h
 conv=>whnf
 cases h
 have ho71:_=_:=ho71
 cases ho71
 replace h:some _=some _:=hk51
 cases h
 conv=>whnf
 exact ⟨rfl,rfl⟩
 obtain ⟨h,b74d⟩:=cfd b74 h
 conv=>whnf
 refine Arith.mk (by show inR _;unfold inR;omega) ?_
 conv=>whnf
 cases h
 exact Nxt.mk _ ho71 (eA [])
 obtain ⟨h,b72d⟩:=cfd b72 h
 conv=>whnf
 cases h
 have ho71:_=_:=ho71
 cases ho71
 exact JoinS.mk' _ rfl (eA [])
 rintro ⟨⟩ rfl hp
 replace h:=sum_inl hk51
 conv=>whnf
 cases h
 conv=>whnf
 exact ⟨rfl,rfl⟩
theorem sp_slices_Contains_Sint_int (s_:List Int) (v_:Int) (r:Bool) (h:Ok (nL cI s_)→Ok (nI v_)→slices_Contains_Sint_int s_ v_=some r):Sp Tryz.prog 39 [.im (nL cI s_),.im (nI v_)] (.im (nB r)):=by
 refine sp_of rfl [] rfl rfl rfl (Nat.le_of_ble_eq_true rfl) rfl fun hk=>?_
 replace h:=h hk.1 hk.2.1
 have z1:lZ s_:=ok_len hk.1
 unfold slices_Contains_Sint_int at h
 conv=>whnf
 obtain ⟨c51,hc51,h⟩:=bind_some h
 refine ⟨_,(sp_slices_Index_Sint_int s_ v_ c51 (fun _ _=>hc51)),?_⟩
 conv=>whnf
 cases h
 conv=>whnf
 exact ⟨rfl,rfl⟩
theorem sp_cmp_Less_int (x_:Int) (y_:Int) (r:Bool) (h:Ok (nI x_)→Ok (nI y_)→cmp_Less_int x_ y_=some r):Sp Tryz.prog 100 [.im (nI x_),.im (nI y_)] (.im (nB r)):=by
 refine sp_of rfl [] rfl rfl rfl (Nat.le_of_ble_eq_true rfl) rfl fun hk=>?_
 replace h:=h hk.1 hk.2.1
 unfold cmp_Less_int at h
 conv=>whnf
 obtain ⟨y57,hc,hk52⟩:=bind_some h
 clear h
 have h:=hc
 clear hc
 refine Cut.mk (mkSt [(4,.im (nB y57))] [] []) (True) (hT) ?_ (fun hp=>?_)
 conv=>whnf
 obtain ⟨c58,hc58,h⟩:=bind_some h
 refine ⟨_,(sp_cmp_isNaN_int x_ c58 (fun _=>hc58)),?_⟩
 conv=>whnf
 refine Both.mk ?_ ?_<;>intro b59
 replace b59:=beq_tt b59
 replace h:=cond_t b59 h
 conv=>whnf
 refine Both.yes (tt_beq b59) ?_
 conv=>whnf
 obtain ⟨c60,hc60,h⟩:=bind_some h
 refine ⟨_,(sp_cmp_isNaN_int y_ c60 (fun _=>hc60)),?_⟩
 conv=>whnf
 refine Both.yes (tt_beq b59) ?_
 conv=>whnf
 refine Both.yes b59 ?_
 conv=>whnf
 refine Both.mk ?_ ?_<;>intro b61
 replace b61:=beq_ff b61
 replace h:=cond_f b61 h
 conv=>whnf
 iterate 2 (refine Both.yes (ff_beq b61) ?_;(conv=>whnf))
 refine Both.no b61 ?_
 conv=>whnf
 cases h
 exact Join.mk (eA [])
 replace b61:=beq_ft b61
 replace h:=cond_t b61 h
 conv=>whnf
 iterate 2 (refine Both.no (tf_beq b61) ?_;(conv=>whnf))
 refine Both.yes b61 ?_
 conv=>whnf
 cases h
 exact Join.mk (eA [])
 replace b59:=beq_tf b59
 replace h:=cond_f b59 h
 conv=>whnf
 iterate 2 (refine Both.no (ft_beq b59) ?_;(conv=>whnf))
 refine Both.no b59 ?_
 conv=>whnf
 iterate 3 (refine Both.yes rfl ?_;(conv=>whnf))
 refine Both.no rfl ?_
 conv=>whnf
 cases h
 exact Join.mk (eA [])
 replace h:=hk52
 conv=>whnf
 cases h
 conv=>whnf
 exact ⟨rfl,rfl⟩
theorem sp_slices_insertionSortOrdered_int (data_:List Int) (a_:Int) (b_:Int) (r:List Int) (h:OkL (List.map cI data_)→Ok (nI a_)→Ok (nI b_)→slices_insertionSortOrdered_int data_ a_ b_=some r):Sp Tryz.prog 94 [.lent (.row 3 1 (List.map cI data_)),.im (nI a_),.im (nI b_)] (.mk true [] [.lent (.row 3 1 (List.map cI r))]):=by
 refine sp_of rfl [] rfl rfl rfl (Nat.le_of_ble_eq_true rfl) rfl fun hk=>?_
 replace h:=h hk.1 hk.2.1 hk.2.2.1
 have z1:lZ data_:=okl_len hk.1
 unfold slices_insertionSortOrdered_int at h
 conv=>whnf
 obtain ⟨c51,h⟩:=chk_some h
 refine Arith.mk c51 ?_
 conv=>whnf
 obtain ⟨y492,hc,hk52⟩:=bind_some h
 clear h
 have h:=hc
 clear hc
 refine Cut.mk (mkSt [(0,.osl 0 0)] [(0,.row 3 1 (List.map cI y492))] []) (lZ y492∧True) ((Holds.kdl 0 rfl).and (hT)) ?_ (fun hp=>?_)
 conv=>whnf
 refine Loops.iter (fun (s:List Int×Int)=>slices_insertionSortOrdered_int.s14 a_ b_ s.1 s.2) (fun (y638,i639)=>mkSt [(0,.osl 0 0),(1,.im (nI a_)),(2,.im (nI b_)),(6,.im (nI i639))] [(0,.row 3 1 (List.map cI y638))] []) (fun (y638,i639)=>lZ y638∧True) h (eA [(0,some 0)]) (by rintro ⟨y638,i639⟩;exact ((Holds.kdl 0 rfl).and (hT))) ?_
 clear h
 rintro k ⟨y638,i639⟩ o hp h ho785
 replace h:slices_insertionSortOrdered_int.s14 a_ b_ y638 i639=some o:=h
 unfold slices_insertionSortOrdered_int.s14 at h
 obtain ⟨z931,_⟩:=hp
 conv=>whnf
 refine Both.mk ?_ ?_<;>intro b786
 obtain ⟨h,b786d⟩:=ctd b786 h
 conv=>whnf
 obtain ⟨y858,hc,hk787⟩:=bind_some h
 clear h
 have h:=hc
 clear hc
 refine Cut.mk (mkSt [(0,.osl 0 0),(1,.im (nI a_)),(2,.im (nI b_)),(6,.im (nI i639))] [(0,.row 3 1 (List.map cI y858))] []) (lZ y858∧True) ((Holds.kdl 0 rfl).and (hT)) ?_ (fun hp=>?_)
 conv=>whnf
 refine Loops.iter (fun (s:List Int×Int)=>slices_insertionSortOrdered_int.s13 a_ s.1 s.2) (fun (y881,j882)=>mkSt [(0,.osl 0 0),(1,.im (nI a_)),(2,.im (nI b_)),(6,.im (nI i639)),(7,.im (nI j882))] [(0,.row 3 1 (List.map cI y881))] []) (fun (y881,j882)=>lZ y881∧True) h (eA [(0,some 0)]) (by rintro ⟨y881,j882⟩;exact ((Holds.kdl 0 rfl).and (hT))) ?_
 clear h
 rintro k ⟨y881,j882⟩ o hp h ho905
 replace h:slices_insertionSortOrdered_int.s13 a_ y881 j882=some o:=h
 unfold slices_insertionSortOrdered_int.s13 at h
 obtain ⟨z928,_⟩:=hp
 conv=>whnf
 obtain ⟨y913,hc,hk907⟩:=bind_some h
 clear h
 have h:=hc
 clear hc
 refine Cut.mk (mkSt [(0,.osl 0 0),(1,.im (nI a_)),(2,.im (nI b_)),(6,.im (nI i639)),(7,.im (nI j882)),(30,.im (nB y913))] [(0,.row 3 1 (List.map cI y881))] []) (lZ y881∧True) ((Holds.kdl 0 rfl).and (hT)) ?_ (fun hp=>?_)
 conv=>whnf
 refine Both.mk ?_ ?_<;>intro b914
 replace b914:=beq_tt b914
 obtain ⟨h,b914d⟩:=ctd b914 h
 conv=>whnf
 iterate 2 (refine Both.yes (tt_beq b914) ?_;(conv=>whnf))
 obtain ⟨e915,he915z,he915,h⟩:=idx_some h
 refine Side.mk ⟨he915z,rfl,map_lt he915⟩ ?_
 conv=>whnf
 refine Both.yes (tt_beq b914) ?_
 conv=>whnf
 refine ⟨_,_,⟨rfl,map_at he915,rfl,rfl⟩,?_⟩
 conv=>whnf
 iterate 3 (refine Both.yes (tt_beq b914) ?_;(conv=>whnf))
 obtain ⟨c916,h⟩:=chk_some h
 refine Arith.mk c916 ?_
 conv=>whnf
 refine Both.yes (tt_beq b914) ?_
 conv=>whnf
 obtain ⟨e917,he917z,he917,h⟩:=idx_some h
 refine Side.mk ⟨he917z,rfl,map_lt he917⟩ ?_
 conv=>whnf
 refine Both.yes (tt_beq b914) ?_
 conv=>whnf
 refine ⟨_,_,⟨rfl,map_at he917,rfl,rfl⟩,?_⟩
 conv=>whnf
 refine Both.yes (tt_beq b914) ?_
 conv=>whnf
 obtain ⟨c918,hc918,h⟩:=bind_some h
 refine ⟨_,(sp_cmp_Less_int e915 e917 c918 (fun _ _=>hc918)),?_⟩
 conv=>whnf
 refine Both.yes b914 ?_
 conv=>whnf
 cases h
 exact Join.mk (eA [(0,some 0)])
 replace b914:=beq_tf b914
 obtain ⟨h,b914d⟩:=cfd b914 h
 conv=>whnf
 iterate 9 (refine Both.no (ft_beq b914) ?_;(conv=>whnf))
 refine Both.no b914 ?_
 conv=>whnf
 cases h
 exact Join.mk (eA [(0,some 0)])
 replace h:=hk907
 obtain ⟨z919,_⟩:=hp
 conv=>whnf
 refine Both.mk ?_ ?_<;>intro b920
 replace h:=cond_t b920 h
 conv=>whnf
 obtain ⟨c921,h⟩:=chk_some h
 refine Arith.mk c921 ?_
 conv=>whnf
 obtain ⟨c922,h⟩:=chk_some h
 refine Arith.mk c922 ?_
 conv=>whnf
 obtain ⟨e923,he923z,he923,h⟩:=idx_some h
 refine Side.mk ⟨he923z,rfl,map_lt he923⟩ ?_
 conv=>whnf
 refine ⟨_,_,⟨rfl,map_at he923,rfl,rfl⟩,?_⟩
 conv=>whnf
 obtain ⟨e924,he924z,he924,h⟩:=idx_some h
 refine Side.mk ⟨he924z,rfl,map_lt he924⟩ ?_
 conv=>whnf
 refine ⟨_,_,⟨rfl,map_at he924,rfl,rfl⟩,?_⟩
 conv=>whnf
 obtain ⟨e925,he925z,he925,h⟩:=idx_some h
 refine Side.mk ⟨he925z,rfl,map_lt he925⟩ ?_
 conv=>whnf
 refine Side.mk ⟨rfl,trivial⟩ ?_
 conv=>whnf
 refine ⟨_,map_at he925,?_⟩
 conv=>whnf
 refine Nf.mk (List.map cI (List.set y881 j882.toNat e923)) (set_map rfl) ?_
 conv=>whnf
 obtain ⟨e926,he926z,he926,h⟩:=idx_some h
 refine Side.mk ⟨he926z,rfl,map_lt he926⟩ ?_
 conv=>whnf
 refine Side.mk ⟨rfl,trivial⟩ ?_
 conv=>whnf
 refine ⟨_,map_at he926,?_⟩
 conv=>whnf
 refine Nf.mk (List.map cI (List.set (List.set y881 j882.toNat e923) ((j882-1).toNat) e924)) (set_map rfl) ?_
 conv=>whnf
 obtain ⟨c927,h⟩:=chk_some h
 refine Arith.mk c927 ?_
 conv=>whnf
 cases h
 exact Nxt.mk _ ho905 (eA [(0,some 0)])
 replace h:=cond_f b920 h
 conv=>whnf
 cases h
 have ho905:_=_:=ho905
 cases ho905
 exact Join.mk (eA [(0,some 0)])
 replace h:=hk787
 obtain ⟨z929,_⟩:=hp
 conv=>whnf
 obtain ⟨c930,h⟩:=chk_some h
 refine Arith.mk c930 ?_
 conv=>whnf
 cases h
 exact Nxt.mk _ ho785 (eA [(0,some 0)])
 obtain ⟨h,b786d⟩:=cfd b786 h
 conv=>whnf
 cases h
 have ho785:_=_:=ho785
 cases ho785
 exact Join.mk (eA [(0,some 0)])
 replace h:=hk52
 obtain ⟨z932,_⟩:=hp
 conv=>whnf
 cases h
 conv=>whnf
 exact Side.mk ⟨rfl,trivial⟩ ⟨rfl,rfl⟩
theorem sp_slices_Equal_Sint_int (s1_:List Int) (s2_:List Int) (r:Bool) (h:Ok (nL cI s1_)→Ok (nL cI s2_)→slices_Equal_Sint_int s1_ s2_=some r):Sp Tryz.prog 46 [.im (nL cI s1_),.im (nL cI s2_)] (.im (nB r)):=by
 refine sp_of rfl [] rfl rfl rfl (Nat.le_of_ble_eq_true rfl) rfl fun hk=>?_
 replace h:=h hk.1 hk.2.1
 have z1:lZ s1_:=ok_len hk.1
 have z2:lZ s2_:=ok_len hk.2.1
 unfold slices_Equal_Sint_int at h
 conv=>whnf
 refine Nf.mk (List.length s1_) len_map ?_
 conv=>whnf
 refine Nf.mk (List.length s2_) len_map ?_
 conv=>whnf
 refine Both.mk ?_ ?_<;>intro b51
 obtain ⟨h,b51d⟩:=ctd b51 h
 conv=>whnf
 cases h
 conv=>whnf
 exact ⟨rfl,rfl⟩
 obtain ⟨h,b51d⟩:=cfd b51 h
 conv=>whnf
 refine Nf.mk (List.length s1_) len_map ?_
 conv=>whnf
 obtain ⟨oc,hc,hk52⟩:=bind_some h
 clear h
 have h:=hc
 clear hc
 refine Cut.mkS oc (Y:=Unit) (fun (_:Unit)=>mkSt [] [] []) (fun (_:Unit)=>True) (by rintro ⟨⟩;exact (hT)) ?_ ?_
 conv=>whnf
 refine Loops.iter (fun (s:Nat)=>slices_Equal_Sint_int.s2 s1_ s2_ s) (fun y73=>mkSt [(0,.im (nL cI s1_)),(1,.im (nL cI s2_)),(12,.im (nI (↑(List.length s1_):Int))),(13,.im (nI (↑y73:Int)))] [] []) (fun y73=>lZ s1_∧lZ s2_∧True) h (eA []) (by rintro y73;exact ((Holds.avl 0 rfl).and ((Holds.avl 1 rfl).and (hT)))) ?_
 clear h
 rintro k y73 o hp h ho78
 replace h:slices_Equal_Sint_int.s2 s1_ s2_ y73=some o:=h
 unfold slices_Equal_Sint_int.s2 at h
 obtain ⟨z83,z84,_⟩:=hp
 conv=>whnf
 refine Both.mk ?_ ?_<;>intro b79
 obtain ⟨h,b79d⟩:=ctd b79 h
 conv=>whnf
 obtain ⟨e80,he80,h⟩:=idxn_some h
 refine ⟨_,⟨(by omega),map_at he80,rfl⟩,?_⟩
 conv=>whnf
 obtain ⟨e81,he81,h⟩:=idxn_some h
 refine ⟨_,⟨(by omega),map_at he81,rfl⟩,?_⟩
 conv=>whnf
 refine Both.mk ?_ ?_<;>intro b82
 obtain ⟨h,b82d⟩:=ctd b82 h
 conv=>whnf
 cases h
 have ho78:_=_:=ho78
 cases ho78
 replace h:some _=some _:=hk52
 cases h
 conv=>whnf
 exact ⟨rfl,rfl⟩
 obtain ⟨h,b82d⟩:=cfd b82 h
 conv=>whnf
 refine Arith.mk (by show inR _;unfold inR;omega) ?_
 conv=>whnf
 cases h
 exact Nxt.mk _ ho78 (eA [])
 obtain ⟨h,b79d⟩:=cfd b79 h
 conv=>whnf
 cases h
 have ho78:_=_:=ho78
 cases ho78
 exact JoinS.mk' _ rfl (eA [])
 rintro ⟨⟩ rfl hp
 replace h:=sum_inl hk52
 conv=>whnf
 cases h
 conv=>whnf
 exact ⟨rfl,rfl⟩
theorem sp_slices_CompactFunc_S_nondet_group_nondet_group (s_:List Grp) (eq_:Grp→Grp→Option Bool) (f1_:FuncId) (hf1:∀ x0 x1 r,eq_ x0 x1=some r→Sp Tryz.prog f1_ [.im (vG x0),.im (vG x1)] (.im (nB r))) (r:List Grp) (h:OkL (List.map cG s_)→Ok (.fn f1_ [])→slices_CompactFunc_S_nondet_group_nondet_group s_ eq_=some r):Sp Tryz.prog 44 [.row 69 1 (List.map cG s_),.im (.fn f1_ [])] (.row 69 1 (List.map cG r)):=by
 refine sp_of rfl [] rfl rfl rfl (Nat.le_of_ble_eq_true rfl) rfl fun hk=>?_
 replace h:=h hk.1 hk.2.1
 have z1:lZ s_:=okl_len hk.1
 unfold slices_CompactFunc_S_nondet_group_nondet_group at h
 conv=>whnf
 refine Side.mk rfl ?_
 conv=>whnf
 refine Nf.mk (List.length s_) len_map ?_
 conv=>whnf
 refine Both.mk ?_ ?_<;>intro b51
 obtain ⟨h,b51d⟩:=ctd b51 h
 conv=>whnf
 cases h
 conv=>whnf
 exact Side.mk ⟨rfl,trivial⟩ ⟨rfl,rfl⟩
 obtain ⟨h,b51d⟩:=cfd b51 h
 conv=>whnf
 obtain ⟨oc,hc,hk52⟩:=bind_some h
 clear h
 have h:=hc
 clear hc
 refine Cut.mkS oc (Y:=Unit) (fun (_:Unit)=>mkSt [(0,.osl 66 1)] [(66,.row 69 1 (List.map cG s_))] []) (fun (_:Unit)=>lZ s_∧True) (by rintro ⟨⟩;exact ((Holds.kdl 66 rfl).and (hT))) ?_ ?_
 conv=>whnf
 refine Loops.iter (fun (s:Nat)=>slices_CompactFunc_S_nondet_group_nondet_group.s20 s_ eq_ s) (fun k356=>mkSt [(0,.osl 66 1),(1,.im (.fn f1_ [])),(5,.im (nI (↑k356:Int)))] [(66,.row 69 1 (List.map cG s_))] []) (fun k356=>lZ s_∧True) h (eA [(66,some 0)]) (by rintro k356;exact ((Holds.kdl 66 rfl).and (hT))) ?_
 clear h
 rintro k k356 o hp h ho432
 replace h:slices_CompactFunc_S_nondet_group_nondet_group.s20 s_ eq_ k356=some o:=h
 unfold slices_CompactFunc_S_nondet_group_nondet_group.s20 at h
 obtain ⟨z508,_⟩:=hp
 conv=>whnf
 refine Side.mk rfl ?_
 conv=>whnf
 refine Nf.mk (List.length s_) len_map ?_
 conv=>whnf
 refine Both.mk ?_ ?_<;>intro b433
 obtain ⟨h,b433d⟩:=ctd b433 h
 conv=>whnf
 obtain ⟨e434,he434,h⟩:=idxn_some h
 refine Side.mk ⟨(by omega),rfl,map_lt he434⟩ ?_
 conv=>whnf
 refine ⟨_,_,⟨rfl,map_at he434,rfl,rfl⟩,?_⟩
 conv=>whnf
 refine Arith.mk (by show inR _;unfold inR;omega) ?_
 conv=>whnf
 obtain ⟨e435,he435z,he435,h⟩:=idx_some h
 refine Side.mk ⟨he435z,rfl,map_lt he435⟩ ?_
 conv=>whnf
 refine ⟨_,_,⟨rfl,map_at he435,rfl,rfl⟩,?_⟩
 conv=>whnf
 obtain ⟨c436,hc436,h⟩:=bind_some h
 refine ⟨_,hf1 e434 e435 c436 hc436,?_⟩
 conv=>whnf
 refine Both.mk ?_ ?_<;>intro b437
 replace h:=cond_t b437 h
 conv=>whnf
 obtain ⟨c438,h⟩:=chk_some h
 refine Side.mk ⟨rfl,c438.1,by have hh_:=c438;simp only [List.length_map];omega,by have hh_:=c438;simp only [List.length_map];omega⟩ ?_
 conv=>whnf
 obtain ⟨⟨y471,k472⟩,hc,hk439⟩:=bind_some h
 clear h
 have h:=hc
 clear hc
 refine Cut.mk (mkSt [(0,.osl 66 1),(5,.im (nI (↑k472:Int)))] [(66,.row 69 1 (List.map cG y471))] []) (lZ y471∧True) ((Holds.kdl 66 rfl).and (hT)) ?_ (fun hp=>?_)
 conv=>whnf
 refine Loops.iter (fun (s:List Grp×Nat×Nat)=>slices_CompactFunc_S_nondet_group_nondet_group.s18 eq_ k356 s.1 s.2.1 s.2.2) (fun (y481,k482,y483)=>mkSt [(0,.osl 66 1),(1,.im (.fn f1_ [])),(5,.im (nI (↑k482:Int))),(6,.osv 66 1 k356 1),(7,.im (nI (↑y483:Int)))] [(66,.row 69 1 (List.map cG y481))] []) (fun (y481,k482,y483)=>lZ y481∧True) h (Ent.mk [(66,some 66)] rfl ⟨⟨.osl 66 _,rfl,.osl rfl rfl rfl⟩,eI rfl rfl,eI rfl rfl,⟨.osv 66 _ _ _,rfl,.osv rfl rfl rfl⟩,eI rfl rfl,trivial⟩ ⟨.inl ⟨66,rfl,rfl,trivial⟩,trivial⟩ trivial) (by rintro ⟨y481,k482,y483⟩;exact ((Holds.kdl 66 rfl).and (hT))) ?_
 clear h
 rintro k ⟨y481,k482,y483⟩ o hp h ho493
 replace h:slices_CompactFunc_S_nondet_group_nondet_group.s18 eq_ k356 y481 k482 y483=some o:=h
 unfold slices_CompactFunc_S_nondet_group_nondet_group.s18 at h
 obtain ⟨z503,_⟩:=hp
 conv=>whnf
 refine Side.mk rfl ?_
 conv=>whnf
 refine Nf.mk (List.length y481-k356) len_own ?_
 conv=>whnf
 refine Both.mk ?_ ?_<;>intro b494
 obtain ⟨h,b494d⟩:=ctd b494 h
 conv=>whnf
 obtain ⟨e495,he495,h⟩:=idxn_some h
 refine Side.mk ⟨(by omega),rfl,map_lt he495⟩ ?_
 conv=>whnf
 refine Nf.mk (k356+y483) rfl ?_
 conv=>whnf
 refine ⟨_,_,⟨rfl,map_at he495,rfl,rfl⟩,?_⟩
 conv=>whnf
 refine Arith.mk (by show inR _;unfold inR;omega) ?_
 conv=>whnf
 obtain ⟨c497,h⟩:=chk_some h
 obtain ⟨e496,he496,h⟩:=idxn_some h
 refine Side.mk ⟨c497,rfl,map_lt he496⟩ ?_
 conv=>whnf
 refine Nf.mk (k356+(Int.toNat ((↑y483:Int)-1))) rfl ?_
 conv=>whnf
 refine ⟨_,_,⟨rfl,map_at he496,rfl,rfl⟩,?_⟩
 conv=>whnf
 obtain ⟨c498,hc498,h⟩:=bind_some h
 refine ⟨_,hf1 e495 e496 c498 hc498,?_⟩
 conv=>whnf
 refine Both.mk ?_ ?_<;>intro b499
 replace h:=cond_t b499 h
 conv=>whnf
 obtain ⟨e500,he500,h⟩:=idxn_some h
 refine Side.mk ⟨(by omega),rfl,map_lt he500⟩ ?_
 conv=>whnf
 refine Nf.mk (k356+y483) rfl ?_
 conv=>whnf
 refine ⟨_,_,⟨rfl,map_at he500,rfl,rfl⟩,?_⟩
 conv=>whnf
 obtain ⟨e501,he501,h⟩:=idxn_some h
 refine Side.mk ⟨(by omega),rfl,map_lt he501⟩ ?_
 conv=>whnf
 refine Side.mk ⟨rfl,trivial⟩ ?_
 conv=>whnf
 refine ⟨_,map_at he501,?_⟩
 conv=>whnf
 refine Nf.mk (List.map cG (List.set y481 k482 e500)) (set_map rfl) ?_
 conv=>whnf
 obtain ⟨c502,h⟩:=chk_some h
 refine Arith.mk c502 ?_
 conv=>whnf
 refine Arith.mk (by show inR _;unfold inR;omega) ?_
 conv=>whnf
 cases h
 exact Nxt.mk _ ho493 (Ent.mk [(66,some 66)] rfl ⟨⟨.osl 66 _,rfl,.osl rfl rfl rfl⟩,eI rfl rfl,eI rfl rfl,⟨.osv 66 _ _ _,rfl,.osv rfl rfl rfl⟩,eI rfl rfl,trivial⟩ ⟨.inl ⟨66,rfl,rfl,trivial⟩,trivial⟩ trivial)
 replace h:=cond_f b499 h
 conv=>whnf
 refine Arith.mk (by show inR _;unfold inR;omega) ?_
 conv=>whnf
 cases h
 exact Nxt.mk _ ho493 (Ent.mk [(66,some 66)] rfl ⟨⟨.osl 66 _,rfl,.osl rfl rfl rfl⟩,eI rfl rfl,eI rfl rfl,⟨.osv 66 _ _ _,rfl,.osv rfl rfl rfl⟩,eI rfl rfl,trivial⟩ ⟨.inl ⟨66,rfl,rfl,trivial⟩,trivial⟩ trivial)
 obtain ⟨h,b494d⟩:=cfd b494 h
 conv=>whnf
 cases h
 have ho493:_=_:=ho493
 cases ho493
 exact Join.mk (eA [(66,some 66)])
 replace h:slices_CompactFunc_S_nondet_group_nondet_group.k19 y471 k472=some _:=hk439
 unfold slices_CompactFunc_S_nondet_group_nondet_group.k19 at h
 obtain ⟨z504,_⟩:=hp
 conv=>whnf
 obtain ⟨c505,h⟩:=chk_some h
 refine Side.mk ⟨rfl,c505.1,by have hh_:=c505;simp only [List.length_map];omega,by have hh_:=c505;simp only [List.length_map];omega⟩ ?_
 conv=>whnf
 obtain ⟨c506,h⟩:=chk_some h
 refine Side.mk ⟨rfl,by have hh_:=c506;simp only [List.length_map];omega⟩ ?_
 conv=>whnf
 refine Nf.mk (List.take k472 (List.map cG y471)++List.replicate ((List.map cG y471).length-k472) [.val (.pointer none)]) rfl ?_
 conv=>whnf
 obtain ⟨c507,h⟩:=chk_some h
 refine Side.mk ⟨rfl,c507.1,by have hh_:=c507;simp only [List.length_map,List.length_append,List.length_take,List.length_replicate] at hh_ ⊢;omega,by have hh_:=c507;simp only [List.length_map,List.length_append,List.length_take,List.length_replicate] at hh_ ⊢;omega⟩ ?_
 conv=>whnf
 refine Nf.mk (List.map cG (List.take k472 (List.take k472 y471++List.replicate (List.length y471-k472) (([],[],[]):Grp)))) (cut_clr (by have hh_:=c506;omega)) ?_
 conv=>whnf
 cases h
 have ho432:_=_:=ho432
 cases ho432
 replace h:some _=some _:=hk52
 cases h
 conv=>whnf
 exact Side.mk ⟨rfl,trivial⟩ ⟨rfl,rfl⟩
 replace h:=cond_f b437 h
 conv=>whnf
 refine Arith.mk (by show inR _;unfold inR;omega) ?_
 conv=>whnf
 cases h
 exact Nxt.mk _ ho432 (eA [(66,some 66)])
 obtain ⟨h,b433d⟩:=cfd b433 h
 conv=>whnf
 cases h
 have ho432:_=_:=ho432
 cases ho432
 exact JoinS.mk' _ rfl (eA [(66,some 66)])
 rintro ⟨⟩ rfl hp
 replace h:=sum_inl hk52
 obtain ⟨z509,_⟩:=hp
 conv=>whnf
 cases h
 conv=>whnf
 exact Side.mk ⟨rfl,trivial⟩ ⟨rfl,rfl⟩
theorem pl_lib_SortFunc_groups (l:List Grp) (f:Grp→Grp→Option Int) (g:FuncId) (hd:CmpE Tryz.prog g vG f) (r:List Grp) (h:lib_SortFunc_groups l f=some r):Sp Tryz.prog 41 [.lent (.row 69 1 (List.map cG l)),.im (.fn g [])] (.mk true [] [.lent (.row 69 1 (List.map cG r))]) :=
  sp_of_sort (fun args w=>run_enter rfl rfl rfl args w) sortC_groups (by decide) (fun _=>rfl) (fun W S us x hl h1 hr=>rep_of_one hl hr) hd.1 hd.2 h
theorem cmpE_nondet_cmp:CmpE Tryz.prog 42 vG (fun u0 u1=>nondet_cmp u0 u1) :=
  ⟨fun args w=>run_enter rfl rfl rfl args w,cmpG_groups fun x y r h=>by
    unfold nondet_cmp at h
    intro h1 h2
    rw [word_Compare_eq _ _ (by omega),Option.bind_some] at h
    by_cases h0:cmpW x.1 y.1=0
    · rw [decide_eq_false (by simpa using h0),cond_false,word_Lex_eq _ _ (by omega)] at h
      exact .inr ⟨h0,(Option.some.inj h).symm⟩
    · rw [decide_eq_true h0,cond_true] at h
      exact .inl ⟨h0,(Option.some.inj h).symm⟩⟩
theorem pl_nondet_eq (g g':Grp) (r:Bool) (h:nondet_eq g g'=some r):Sp Tryz.prog 45 [.im (vG g),.im (vG g')] (.im (nB r)):=by
  refine sp_of rfl [] rfl rfl rfl (Nat.le_of_ble_eq_true rfl) rfl fun hk=>?_
  conv=>whnf
  refine ⟨_,sp_slices_Equal_Sint_int g.1 g'.1 r (fun _ _=>h),?_⟩
  conv=>whnf
  exact ⟨rfl,rfl⟩
theorem pl_pdq (l:List Int) (lim:Int) (r:List Int) (hl:l.length≤12) (h:slices_insertionSortOrdered_int l 0 l.length=some r):Sp Tryz.prog 68 [.lent (.row 3 1 (List.map cI l)),.im (nI 0),.im (nI l.length),.im (nI lim)] (.mk true [] [.lent (.row 3 1 (List.map cI r))]):=by
  refine sp_of rfl [28000,2028000] rfl rfl rfl (Nat.le_of_ble_eq_true rfl) rfl fun hk=>?_
  conv=>whnf
  refine Loops.mkX (A:=Unit) (fun _=>mkSt [(0,.osl 0 0),(1,.im (nI 0)),(2,.im (nI l.length))] [(0,.row 3 1 (List.map cI l))] []) (fun _=>True) (fun _=>0) () trivial (Ent.mk [(0,some 0)] rfl ⟨⟨.osl 0 _,rfl,.osl rfl rfl rfl⟩,⟨.im _,rfl,.im (Sub.rfl' rfl)⟩,⟨.im _,rfl,.im (Sub.rfl' rfl)⟩,trivial⟩ ⟨.inl ⟨0,rfl,rfl,⟨rfl,rfl⟩⟩,trivial⟩ trivial) fun _ _=>?_
  conv=>whnf
  refine Cut.mkX (A:=Empty) (fun e=>e.elim) (fun _=>True) ?_ (fun e=>e.elim)
  conv=>whnf
  refine Arith.mk (by show inR _;unfold inR;omega) ?_
  conv=>whnf
  refine Both.yes (decide_eq_true (by omega)) ?_
  conv=>whnf
  refine Side.mk ⟨rfl,trivial⟩ ?_
  conv=>whnf
  refine ⟨_,sp_slices_insertionSortOrdered_int l 0 l.length r (fun _ _ _=>h),?_⟩
  conv=>whnf
  exact Side.mk ⟨rfl,trivial⟩ ⟨rfl,rfl⟩
theorem pl_lib_Sort_int (l r:List Int) (h:lib_Sort_int l=some r):Sp Tryz.prog 40 [.lent (.row 3 1 (List.map cI l))] (.mk true [] [.lent (.row 3 1 (List.map cI r))]):=by
  obtain ⟨hl,h⟩:=chk_some h
  refine sp_of rfl [11000,2011000] rfl rfl rfl (Nat.le_of_ble_eq_true rfl) rfl fun hk=>?_
  conv=>whnf
  refine Side.mk rfl ?_
  conv=>whnf
  refine Nf.mk (List.length l) len_map ?_
  conv=>whnf
  refine Side.mk (by show (0:Int)≤l.length∧(l.length:Int)≤18446744073709551615;omega) ?_
  conv=>whnf
  refine ⟨_,sp_bitsLen l.length (by omega),?_⟩
  conv=>whnf
  refine Side.mk ⟨rfl,trivial⟩ ?_
  conv=>whnf
  refine ⟨_,pl_pdq l (Lib.bitLen l.length:Nat) r hl h,?_⟩
  conv=>whnf
  exact Side.mk ⟨rfl,trivial⟩ ⟨rfl,rfl⟩
theorem containsC {l:List Int} {x:Int} (hl:l.length≤2000000):slices_Contains_Sint_int l x=some (decide (x∈l)):=by
  unfold slices_Contains_Sint_int slices_Index_Sint_int
  have key:=iter_post (step:=fun s=>slices_Index_Sint_int.s2 l x s) (fun k=>k≤l.length∧x∉l.take k) (fun k=>l.length-k) (fun r=>match r with | .inl ()=>x∉l | .inr n=>0≤n∧x∈l) (fun k ⟨g1,g2⟩=>by
    simp only [slices_Index_Sint_int.s2]
    by_cases g3:k<l.length
    · have hx:=List.getElem?_eq_getElem g3
      rw [dec_lt hx,cond_true,idxn_at hx]
      by_cases e:x=l[k]
      · right
        exact ⟨.inr (k:Int),by rw [decide_eq_true e,cond_true],by omega,by rw [e];exact List.getElem_mem _⟩
      · left
        refine ⟨k+1,by rw [decide_eq_false e,cond_false],⟨g3,?_⟩,by omega⟩
        rw [List.take_add_one,hx]
        exact fun h=>(List.mem_append.1 h).elim g2 fun h=>e (List.mem_singleton.1 h)
    · right
      rw [List.take_of_length_le (by omega)] at g2
      exact ⟨.inl (),by rw [decide_eq_false (by omega),cond_false],g2⟩) fuel 0 ⟨Nat.zero_le _,by simp⟩ (by have:=fuel_big;omega)
  obtain ⟨r,e,hq⟩:=key
  rw [e,obind]
  cases r with
  | inl u =>
    have hq:x∉l:=hq
    simp only [Sum.elim_inl]
    rw [obind,decide_eq_false hq]
    rfl
  | inr n =>
    have hq:0≤n∧x∈l:=hq
    simp only [Sum.elim_inr]
    rw [obind,decide_eq_true hq.1,decide_eq_true hq.2]
theorem cmp_Less_int_eq (a b:Int):cmp_Less_int a b=some (decide (a<b)):=by
  unfold cmp_Less_int cmp_isNaN_int
  simp
theorem sortC3 {l:List Int} {y:Int} (h:LOk l) (hy:y∉l):lib_Sort_int (l++[y])=some (insI y l):=by
  obtain ⟨n,hn⟩:∃ n,fuel=n+5:=⟨fuel-5,by unfold fuel;omega⟩
  unfold lib_Sort_int slices_insertionSortOrdered_int
  rw [hn]
  match l,h,hy with
  | [],_,_=>simp [iter,slices_insertionSortOrdered_int.s14,chk,insI,inR]
  | [a],_,hy =>
    simp only [List.mem_singleton] at hy
    by_cases h1:y<a
    · simp [iter,slices_insertionSortOrdered_int.s14,slices_insertionSortOrdered_int.s13,hn,chk,idx,insI,inR,cmp_Less_int_eq,h1]
    · simp [iter,slices_insertionSortOrdered_int.s14,slices_insertionSortOrdered_int.s13,hn,chk,idx,insI,inR,cmp_Less_int_eq,h1]
  | [a,b],h,hy =>
    have hab:a<b:=by have:=h.2;simp at this;exact this
    simp only [List.mem_cons,List.not_mem_nil,or_false,not_or] at hy
    have hba:¬ b<a:=by omega
    by_cases h1:y<a
    · have h2:y<b:=by omega
      simp [iter,slices_insertionSortOrdered_int.s14,slices_insertionSortOrdered_int.s13,hn,chk,idx,insI,inR,cmp_Less_int_eq,h1,h2,hba]
    · by_cases h2:y<b
      · simp [iter,slices_insertionSortOrdered_int.s14,slices_insertionSortOrdered_int.s13,hn,chk,idx,insI,inR,cmp_Less_int_eq,h1,h2,hba]
      · simp [iter,slices_insertionSortOrdered_int.s14,slices_insertionSortOrdered_int.s13,hn,chk,idx,insI,inR,cmp_Less_int_eq,h1,h2,hba]
abbrev TG:Nat:=71
abbrev TT:Nat:=55
def stO (l:List T_api_Trace) (x:List Xg×Nat):St:=mkSt [(3,.osl 66 1),(16,.im (nL c_api_Trace l)),(17,.im (nI (↑(List.length l):Int))),(18,.im (nI (↑x.2:Int)))] [(66,.map (mapV wS pv (mpX x.1))),(67,.bag TG 3 1 (bgX x.1) none)] []
def stP (X:List Xg):St:=mkSt [(3,.osl 66 1)] [(66,.map (mapV wS pv (mpX X))),(67,.bag TG 3 1 (bgX X) none)] []
def stI (l:List T_api_Trace) (t:T_api_Trace) (i:Nat) (x:List Xg×Nat):St:=mkSt [(3,.osl 66 1),(5,.own 68 1 0),(16,.im (nL c_api_Trace l)),(17,.im (nI (↑(List.length l):Int))),(18,.im (nI (↑i:Int))),(28,.im (nI (min (↑(List.length t.In):Int) (↑(List.length t.Out):Int)))),(29,.im (nI (↑x.2:Int)))]
  [(66,.map (mapV wS pv (mpX x.1))),(67,.bag TG 3 1 (bgX x.1) none),(68,.box TT 2)] [(68,0,.im (nL cI t.In)),(68,1,.im (nL cI t.Out))]
def stJ (l:List T_api_Trace) (i:Nat) (X:List Xg):St:=mkSt [(3,.osl 66 1),(16,.im (nL c_api_Trace l)),(17,.im (nI (↑(List.length l):Int))),(18,.im (nI (↑i:Int)))] [(66,.map (mapV wS pv (mpX X))),(67,.bag TG 3 1 (bgX X) none)] []
def stK (l:List T_api_Trace) (t:T_api_Trace) (i j:Nat) (w b ls:List Int) (X:List Xg) (l0:List Ge) (p:Nat):St:=mkSt [(3,.osl 66 1),(5,.own 68 1 0),(6,.im (nI (↑j:Int))),(8,.own 69 1 0),(16,.im (nL c_api_Trace l)),(17,.im (nI (↑(List.length l):Int))),(18,.im (nI (↑i:Int))),(28,.im (nI (min (↑(List.length t.In):Int) (↑(List.length t.Out):Int)))),(29,.im (nI (↑j:Int)))]
  [(66,.map (mapV wS pv (mpX X))),(67,.bag TG 3 1 l0 (some p)),(68,.box TT 2),(69,.box TG 3),(70,.row 3 1 (List.map cI ls))] [(67,0,.own 69 1 0),(68,0,.im (nL cI t.In)),(68,1,.im (nL cI t.Out)),(69,0,.im (nL cI w)),(69,1,.im (nL cI b)),(69,2,.osl 70 1)]
theorem bag_eq {t e:TypeId} {k:Nat} {l l':List Ge} {h:Option Nat} (e1:l=l'):Kd.bag t e k l h=Kd.bag t e k l' h:=by rw [e1]
theorem map_eq {m m':List (ByteArray×Nat)} (e1:m=m'):Kd.map (mapV wS pv m)=Kd.map (mapV wS pv m'):=by rw [e1]
def stN (l:List T_api_Trace) (t:T_api_Trace) (i j:Nat) (X:List Xg) (l0:List Ge) (p:Nat):St:=mkSt [(3,.osl 66 1),(5,.own 68 1 0),(6,.im (nI (↑j:Int))),(8,.im (.val (pv p))),(16,.im (nL c_api_Trace l)),(17,.im (nI (↑(List.length l):Int))),(18,.im (nI (↑i:Int))),(28,.im (nI (min (↑(List.length t.In):Int) (↑(List.length t.Out):Int)))),(29,.im (nI (↑j:Int)))]
  [(66,.map (mapV wS pv (mpX X))),(67,.bag TG 3 1 l0 none),(68,.box TT 2)] [(68,0,.im (nL cI t.In)),(68,1,.im (nL cI t.Out))]
def stW (l:List T_api_Trace) (t:T_api_Trace) (i j:Nat) (w b:List Int) (X:List Xg):St:=mkSt [(3,.osl 66 1),(5,.own 68 1 0),(6,.im (nI (↑j:Int))),(7,.im (nS (kq w b))),(8,.own 69 1 0),(16,.im (nL c_api_Trace l)),(17,.im (nI (↑(List.length l):Int))),(18,.im (nI (↑i:Int))),(28,.im (nI (min (↑(List.length t.In):Int) (↑(List.length t.Out):Int)))),(29,.im (nI (↑j:Int)))]
  [(66,.map (mapV wS pv (mpX X))),(67,.bag TG 3 1 (bgX X) none),(68,.box TT 2),(69,.box TG 3)] [(68,0,.im (nL cI t.In)),(68,1,.im (nL cI t.Out)),(69,0,.im (nL cI w)),(69,1,.im (nL cI b)),(69,2,.im (.val (.slice none 0 0)))]
def stE (l:List T_api_Trace) (t:T_api_Trace) (i j:Nat) (w b ls:List Int) (X:List Xg) (l0:List Ge) (p:Nat):St:=mkSt [(3,.osl 66 1),(5,.own 68 1 0),(16,.im (nL c_api_Trace l)),(17,.im (nI (↑(List.length l):Int))),(18,.im (nI (↑i:Int))),(28,.im (nI (min (↑(List.length t.In):Int) (↑(List.length t.Out):Int)))),(29,.im (nI (↑j:Int)))]
  [(66,.map (mapV wS pv (mpX X))),(67,.bag TG 3 1 l0 (some p)),(68,.box TT 2),(69,.box TG 3),(70,.row 3 1 (List.map cI ls))] [(67,0,.own 69 1 0),(68,0,.im (nL cI t.In)),(68,1,.im (nL cI t.Out)),(69,0,.im (nL cI w)),(69,1,.im (nL cI b)),(69,2,.osl 70 1)]
theorem ent_back (l:List T_api_Trace) (t:T_api_Trace) (i j:Nat) (w b ls ls':List Int) (X1 X2:List Xg) (p:Nat):Ent (stE l t i j w b ls' (X1++((w,b,ls),p)::X2) (bgX X1++bgX X2) p) (stI l t i (X1++((w,b,ls'),p)::X2,j)):=by
  refine Ent.trans (Ent.giveB (o:=67) (p:=69) (q:=70) (n:=2) (v:=p) (l1:=bgX X1) (l2:=bgX X2) (xs:=[nL cI w,nL cI b]) (es:=List.map cI ls') rfl rfl rfl rfl rfl (fun k x hx=>?_) rfl rfl rfl) ?_
  · match k,hx with
    | 0,hx=>simp only [List.getElem?_cons_zero,Option.some.injEq] at hx;rw [← hx];rfl
    | 1,hx=>simp only [List.getElem?_cons_succ,List.getElem?_cons_zero,Option.some.injEq] at hx;rw [← hx];rfl
    | k+2,hx=>simp at hx
  · exact Ent.mk [(66,some 66),(67,some 67),(68,some 68)] rfl ⟨⟨.osl 66 _,rfl,.osl rfl rfl rfl⟩,⟨.own 68 _ 0,rfl,.own rfl rfl rfl⟩,⟨.im _,rfl,.im (Sub.rfl' rfl)⟩,⟨.im _,rfl,.im (Sub.rfl' rfl)⟩,⟨.im _,rfl,.im (Sub.rfl' rfl)⟩,⟨.im _,rfl,.im (Sub.rfl' rfl)⟩,⟨.im _,rfl,.im (Sub.rfl' rfl)⟩,trivial⟩ ⟨.inl ⟨66,rfl,map_eq (mpX_mid X1 X2 (w,b,ls) (w,b,ls') p rfl rfl),trivial⟩,.inl ⟨67,rfl,bag_eq (bgX_mid X1 X2 ((w,b,ls'),p)).symm,trivial⟩,.inl ⟨68,rfl,rfl,trivial⟩,trivial⟩ ⟨⟨68,.im _,rfl,rfl,.im (Sub.rfl' rfl)⟩,⟨68,.im _,rfl,rfl,.im (Sub.rfl' rfl)⟩,trivial⟩
theorem bgX_ref (X:List Xg):(bgX X).map refG=(X.map (·.1)).map vG:=by unfold bgX;rw [List.map_map,List.map_map];rfl
theorem go_eq {l l':List IV} {c:Option IV} (h:l=l'):Kd.mapI l c=Kd.mapI l' c:=by rw [h]
theorem take_min (l:List Int):List.take 2 l=List.take (Int.toNat (min 2 (↑(List.length l):Int))) l:=by
  rcases Nat.lt_or_ge l.length 2 with h | h
  · rw [List.take_of_length_le (by omega),List.take_of_length_le (by omega)]
  · rw [show Int.toNat (min 2 (↑(List.length l):Int))=2 by omega]
theorem nkey_eq {w:List Int} (h:w.length≤1000) (h2:∀ a∈w,inR a):nondet_key w=some ⟨(keyL w).toArray⟩∧(⟨(keyL w).toArray⟩:ByteArray).size≤15000:=by
  refine ⟨?_,?_⟩
  · unfold nondet_key
    rw [chk_pos h2,chk_pos (by omega)]
  · have:=keyL_len (xs:=w) (fun a ha=>h2 a ha)
    show (keyL w).toArray.size≤15000
    rw [List.size_toArray]
    omega
theorem sp_nondet_Clashes (l:List T_api_Trace) (r:List T_api_Clash) (h:nondet_Clashes l=some r):Sp Tryz.prog 19 [.im (nL c_api_Trace l)] (.row 58 3 (List.map c_api_Clash r)):=by
  obtain ⟨⟨hl,hb⟩,h⟩:=chk_some h
  refine sp_ofH rfl [128000,130000,2128000,94000,500073,2094000] [12,20,21,22] rfl rfl rfl (Nat.le_of_ble_eq_true rfl) rfl fun hk=>?_
  have z1:List.length l≤17592186044416:=by omega
  conv=>whnf
  refine Nf.mk (List.length l) len_map ?_
  conv=>whnf
  refine Cut.mkX stP (fun X=>XOk X∧X.map (·.1)=grpsN l) ?_ fun X hX=>?_
  · conv=>whnf
    refine Loops.mkX (stO l) (fun x=>x.2≤l.length∧XOk x.1∧x.1.map (·.1)=grpsN (l.take x.2)) (fun x=>l.length-x.2) ([],0) ⟨Nat.zero_le _,fun x hx=>by simp at hx,rfl⟩ (Ent.mk [(66,some 15),(67,none)] rfl ⟨⟨.osl 15 _,rfl,.osl rfl rfl rfl⟩,⟨.im _,rfl,.im (Sub.rfl' rfl)⟩,⟨.im _,rfl,.im (Sub.rfl' rfl)⟩,⟨.im _,rfl,.im (Sub.rfl' rfl)⟩,trivial⟩ ⟨.inl ⟨15,rfl,rfl,trivial⟩,.inr ⟨rfl,rfl,.inr (.inr ⟨_,_,_,rfl⟩)⟩,trivial⟩ trivial) ?_
    rintro ⟨X,i⟩ ⟨hi,hX,hG⟩
    dsimp only at hi hX hG
    conv=>whnf
    refine Both.mk (fun b1=>?_) (fun b1=>?_)
    · have hlt:i<l.length:=by have:=of_decide_eq_true b1;omega
      obtain ⟨t,ht⟩:∃ t,l[i]?=some t:=⟨_,List.getElem?_eq_getElem hlt⟩
      have htl:=hb t (List.mem_of_getElem? ht)
      conv=>whnf
      refine ⟨_,⟨(by omega),map_at ht,rfl⟩,?_⟩
      conv=>whnf
      refine Side.mk rfl ?_
      conv=>whnf
      refine Side.mk rfl ?_
      conv=>whnf
      refine Side.mk rfl ?_
      conv=>whnf
      refine Nf.mk (List.length t.In) len_map ?_
      conv=>whnf
      refine Side.mk rfl ?_
      conv=>whnf
      refine Side.mk rfl ?_
      conv=>whnf
      refine Nf.mk (List.length t.Out) len_map ?_
      conv=>whnf
      refine Cut.mkX (stJ l i) (fun X=>XOk X∧X.map (·.1)=grpsN (l.take (i+1))) ?_ fun X hX'=>?_
      · conv=>whnf
        refine Loops.mkX (stI l t i) (fun x=>x.2≤min t.In.length t.Out.length∧XOk x.1∧x.1.map (·.1)=grpA (grpsN (l.take i)) t x.2) (fun x=>min t.In.length t.Out.length-x.2) (X,0) ⟨Nat.zero_le _,hX,hG⟩ (Ent.mk [(66,some 66),(67,some 67),(68,some 5)] rfl ⟨⟨.osl 66 _,rfl,.osl rfl rfl rfl⟩,⟨.own 5 _ 0,rfl,.own rfl rfl rfl⟩,⟨.im _,rfl,.im (Sub.rfl' rfl)⟩,⟨.im _,rfl,.im (Sub.rfl' rfl)⟩,⟨.im _,rfl,.im (Sub.rfl' rfl)⟩,⟨.im _,rfl,.im (Sub.rfl' rfl)⟩,⟨.im _,rfl,.im (Sub.rfl' rfl)⟩,trivial⟩ ⟨.inl ⟨66,rfl,rfl,trivial⟩,.inl ⟨67,rfl,rfl,trivial⟩,.inl ⟨5,rfl,rfl,trivial⟩,trivial⟩ ⟨⟨5,.im _,rfl,rfl,.im (Sub.rfl' rfl)⟩,⟨5,.im _,rfl,rfl,.im (Sub.rfl' rfl)⟩,trivial⟩) ?_
        rintro ⟨X',j⟩ ⟨hj,hX',hG'⟩
        dsimp only at hj hX' hG'
        conv=>whnf
        refine Both.mk (fun b2=>?_) (fun b2=>?_)
        · have hjlt:j<min t.In.length t.Out.length:=by have:=of_decide_eq_true b2;omega
          have e1:Int.toNat ((↑j:Int)+1)=j+1:=by omega
          have e2:Int.toNat (↑j:Int)=j:=by omega
          obtain ⟨k1,s1⟩:=nkey_eq (w:=t.In.take (j+1)) (by simp;omega) fun a ha=>htl.2.2.1 a (List.mem_of_mem_take ha)
          obtain ⟨k2,s2⟩:=nkey_eq (w:=t.Out.take j) (by simp;omega) fun a ha=>htl.2.2.2 a (List.mem_of_mem_take ha)
          conv=>whnf
          refine Side.mk rfl ?_
          conv=>whnf
          refine Side.mk rfl ?_
          conv=>whnf
          refine Arith.mk (by show inR _;unfold inR;omega) ?_
          conv=>whnf
          refine Side.mk (show (0:Int)≤(0:Int)∧(0:Int)≤((↑j:Int)+1)∧((↑j:Int)+1)≤(↑(List.length (List.map cI t.In)):Int)∧(∀ e∈List.map cI t.In,List.length e=1) from ⟨by omega,by omega,by simp only [List.length_map];omega,map_len fun _=>rfl⟩) ?_
          conv=>whnf
          refine Nf.mk (List.map cI (List.take (j+1) t.In)) (by rw [← e1];exact take_map) ?_
          conv=>whnf
          refine ⟨_,sp_nondet_key _ _ k1,?_⟩
          conv=>whnf
          refine Side.mk (by show (⟨(keyL (t.In.take (j+1))).toArray⟩:ByteArray).size+1≤9223372036854775807;omega) ?_
          conv=>whnf
          refine Side.mk rfl ?_
          conv=>whnf
          refine Side.mk rfl ?_
          conv=>whnf
          refine Side.mk (show (0:Int)≤(0:Int)∧(0:Int)≤(↑j:Int)∧(↑j:Int)≤(↑(List.length (List.map cI t.Out)):Int)∧(∀ e∈List.map cI t.Out,List.length e=1) from ⟨by omega,by omega,by simp only [List.length_map];omega,map_len fun _=>rfl⟩) ?_
          conv=>whnf
          refine Nf.mk (List.map cI (List.take j t.Out)) (by rw [show List.take j t.Out=List.take (Int.toNat (↑j:Int)) t.Out by rw [e2]];exact take_map) ?_
          conv=>whnf
          refine ⟨_,sp_nondet_key _ _ k2,?_⟩
          conv=>whnf
          refine Side.mk (by rw [ByteArray.size_append];show (⟨(keyL (t.In.take (j+1))).toArray⟩:ByteArray).size+1+(⟨(keyL (t.Out.take j)).toArray⟩:ByteArray).size≤9223372036854775807;omega) ?_
          conv=>whnf
          refine Side.mk rfl ?_
          conv=>whnf
          obtain ⟨v,hv⟩:∃ v,(Option.map pv (mget (kq (t.In.take (j+1)) (t.Out.take j)) (mpX X'))).getD (.pointer none)=v:=⟨_,rfl⟩
          refine ⟨_,find_str (kq (t.In.take (j+1)) (t.Out.take j)) pv (mpX X'),?_⟩
          conv=>whnf
          refine Nf.mk v hv.symm ?_
          conv=>whnf
          obtain ⟨y,hy⟩:∃ y,t.Out[j]?=some y:=⟨_,List.getElem?_eq_getElem (by omega)⟩
          have hstep:grpA (grpsN (l.take i)) t (j+1)=grpAdd (X'.map (·.1)) (t.In.take (j+1)) (t.Out.take j) y:=by rw [grpA_succ,hG',hy];rfl
          generalize hw:t.In.take (j+1)=w at *
          generalize hb':t.Out.take j=bb at *
          refine Cut.mkX (fun x:List Xg×List Xg×List Int×Nat=>stK l t i j w bb x.2.2.1 (x.1++((w,bb,x.2.2.1),x.2.2.2)::x.2.1) (bgX x.1++bgX x.2.1) x.2.2.2) (fun x=>LOk x.2.2.1∧XOk (x.1++((w,bb,x.2.2.1),x.2.2.2)::x.2.1)∧∀ y,grpAdd (X'.map (·.1)) w bb y=(x.1++((w,bb,leastI x.2.2.1 y),x.2.2.2)::x.2.1).map (·.1)) ?_ ?_
          · rcases grps_look w bb X' with ⟨g1,g2,g3⟩ | ⟨X1,g,p,X2,g1,g2,g3,g4,g5⟩
            · rw [g1] at hv
              subst hv
              conv=>whnf
              refine Both.yes rfl ?_
              conv=>whnf
              refine Side.mk rfl ?_
              conv=>whnf
              refine Side.mk rfl ?_
              conv=>whnf
              refine Arith.mk (by show inR _;unfold inR;omega) ?_
              conv=>whnf
              refine Side.mk (show (0:Int)≤(0:Int)∧(0:Int)≤((↑j:Int)+1)∧((↑j:Int)+1)≤(↑(List.length (List.map cI t.In)):Int)∧(∀ e∈List.map cI t.In,List.length e=1) from ⟨by omega,by omega,by simp only [List.length_map];omega,map_len fun _=>rfl⟩) ?_
              conv=>whnf
              refine Nf.mk (List.map cI w) (by rw [← hw,← e1];exact take_map) ?_
              conv=>whnf
              refine Side.mk rfl ?_
              conv=>whnf
              refine Side.mk rfl ?_
              conv=>whnf
              refine Side.mk (show (0:Int)≤(0:Int)∧(0:Int)≤(↑j:Int)∧(↑j:Int)≤(↑(List.length (List.map cI t.Out)):Int)∧(∀ e∈List.map cI t.Out,List.length e=1) from ⟨by omega,by omega,by simp only [List.length_map];omega,map_len fun _=>rfl⟩) ?_
              conv=>whnf
              refine Nf.mk (List.map cI bb) (by rw [← hb',show List.take j t.Out=List.take (Int.toNat (↑j:Int)) t.Out by rw [e2]];exact take_map) ?_
              conv=>whnf
              refine Rh.pre _ _ _ _ _ (fun σ1=>∃ v:Nat,σ1=app (stW l t i j w bb X') [(.knd 67,.kd (.bag TG 3 1 (bgX X') (some v))),(.cel 67 0,.av (.own 69 1 0)),(.tmp 8,.av (.im (.val (pv v))))]) (fun B a w0 hs=>?_) ?_
              · have hs1:Sat B (stW l t i j w bb X') a w0:=by
                  refine (show Ent _ (stW l t i j w bb X') from ?_) B a w0 hs
                  exact Ent.mk [(66,some 66),(67,some 67),(68,some 68),(69,some 60)] rfl ⟨⟨.osl 66 _,rfl,.osl rfl rfl rfl⟩,⟨.own 68 _ 0,rfl,.own rfl rfl rfl⟩,⟨.im _,rfl,.im (Sub.rfl' rfl)⟩,⟨.im _,rfl,.im (Sub.rfl' rfl)⟩,⟨.own 60 _ 0,rfl,.own rfl rfl rfl⟩,⟨.im _,rfl,.im (Sub.rfl' rfl)⟩,⟨.im _,rfl,.im (Sub.rfl' rfl)⟩,⟨.im _,rfl,.im (Sub.rfl' rfl)⟩,⟨.im _,rfl,.im (Sub.rfl' rfl)⟩,⟨.im _,rfl,.im (Sub.rfl' rfl)⟩,trivial⟩ ⟨.inl ⟨66,rfl,rfl,trivial⟩,.inl ⟨67,rfl,rfl,trivial⟩,.inl ⟨68,rfl,rfl,trivial⟩,.inl ⟨60,rfl,rfl,trivial⟩,trivial⟩ ⟨⟨68,.im _,rfl,rfl,.im (Sub.rfl' rfl)⟩,⟨68,.im _,rfl,rfl,.im (Sub.rfl' rfl)⟩,⟨60,.im _,rfl,rfl,.im (Sub.rfl' rfl)⟩,⟨60,.im _,rfl,rfl,.im (Sub.rfl' rfl)⟩,⟨60,.im _,rfl,rfl,.im (Sub.rfl' rfl)⟩,trivial⟩
                obtain ⟨v,hv⟩:=Sat.join (o:=67) (p:=69) (s:=8) hs1 rfl rfl rfl rfl
                exact ⟨_,⟨v,rfl⟩,hv⟩
              · rintro _ ⟨v,rfl⟩
                conv=>whnf
                refine Side.mk rfl ?_
                conv=>whnf
                refine ⟨_,set_str (kq w bb) v pv (mpX X'),?_⟩
                conv=>whnf
                refine JoinX.mk (X',[],[],v) ⟨⟨Nat.zero_le _,List.Pairwise.nil⟩,fun x hx=>?_,fun y=>by rw [g3,List.map_append];rfl⟩ ?_
                · rcases List.mem_append.1 hx with hx | hx
                  · exact hX' x hx
                  · rw [List.mem_singleton.1 hx]
                    exact ⟨Nat.zero_le _,List.Pairwise.nil⟩
                · refine Ent.trans (Ent.own1 (o:=67) (s:=8) rfl rfl rfl) ?_
                  refine Ent.mk [(66,some 66),(67,some 67),(68,some 68),(69,some 69),(70,none)] rfl ⟨⟨.osl 66 _,rfl,.osl rfl rfl rfl⟩,⟨.own 68 _ 0,rfl,.own rfl rfl rfl⟩,⟨.im _,rfl,.im (Sub.rfl' rfl)⟩,⟨.own 69 _ 0,rfl,.own rfl rfl rfl⟩,⟨.im _,rfl,.im (Sub.rfl' rfl)⟩,⟨.im _,rfl,.im (Sub.rfl' rfl)⟩,⟨.im _,rfl,.im (Sub.rfl' rfl)⟩,⟨.im _,rfl,.im (Sub.rfl' rfl)⟩,⟨.im _,rfl,.im (Sub.rfl' rfl)⟩,trivial⟩ ⟨.inl ⟨66,rfl,map_eq ((g2 v).trans (mpX_snoc X' (w,bb,[]) v)),trivial⟩,.inl ⟨67,rfl,bag_eq (List.append_nil _).symm,trivial⟩,.inl ⟨68,rfl,rfl,trivial⟩,.inl ⟨69,rfl,rfl,trivial⟩,.inr ⟨rfl,rfl,.inl ⟨_,_,rfl,by decide⟩⟩,trivial⟩ ⟨⟨67,.own 69 _ 0,rfl,rfl,.own rfl rfl rfl⟩,⟨68,.im _,rfl,rfl,.im (Sub.rfl' rfl)⟩,⟨68,.im _,rfl,rfl,.im (Sub.rfl' rfl)⟩,⟨69,.im _,rfl,rfl,.im (Sub.rfl' rfl)⟩,⟨69,.im _,rfl,rfl,.im (Sub.rfl' rfl)⟩,⟨69,.im (.val (.slice none 0 0)),rfl,rfl,.made rfl rfl⟩,trivial⟩
            · rw [g4] at hv
              subst hv
              conv=>whnf
              refine Both.no rfl ?_
              conv=>whnf
              obtain ⟨gw,gb,gl⟩:=g
              dsimp only at g2 g3 g5
              subst g2 g3
              subst g1
              refine JoinX.mk (X1,X2,gl,p) ⟨hX' _ (List.mem_append_right _ List.mem_cons_self),hX',g5⟩ ?_
              refine Ent.trans (σ':=stN l t i j (X1++((gw,gb,gl),p)::X2) (bgX X1++gE (gw,gb,gl) p::bgX X2) p) (Ent.mk [(66,some 66),(67,some 67),(68,some 68)] rfl ⟨⟨.osl 66 _,rfl,.osl rfl rfl rfl⟩,⟨.own 68 _ 0,rfl,.own rfl rfl rfl⟩,⟨.im _,rfl,.im (Sub.rfl' rfl)⟩,⟨.im _,rfl,.im (Sub.rfl' rfl)⟩,⟨.im _,rfl,.im (Sub.rfl' rfl)⟩,⟨.im _,rfl,.im (Sub.rfl' rfl)⟩,⟨.im _,rfl,.im (Sub.rfl' rfl)⟩,⟨.im _,rfl,.im (Sub.rfl' rfl)⟩,⟨.im _,rfl,.im (Sub.rfl' rfl)⟩,trivial⟩ ⟨.inl ⟨66,rfl,rfl,trivial⟩,.inl ⟨67,rfl,bag_eq (bgX_mid X1 X2 ((gw,gb,gl),p)),trivial⟩,.inl ⟨68,rfl,rfl,trivial⟩,trivial⟩ ⟨⟨68,.im _,rfl,rfl,.im (Sub.rfl' rfl)⟩,⟨68,.im _,rfl,rfl,.im (Sub.rfl' rfl)⟩,trivial⟩) ?_
              refine Ent.trans (Ent.take (o:=67) (p:=69) (q:=70) (n:=2) (g:=gE (gw,gb,gl) p) rfl rfl rfl (by decide) rfl) ?_
              refine Ent.trans (Ent.own1 (o:=67) (s:=8) rfl rfl rfl) ?_
              refine Ent.mk [(66,some 66),(67,some 67),(68,some 68),(69,some 69),(70,some 70)] rfl ⟨⟨.osl 66 _,rfl,.osl rfl rfl rfl⟩,⟨.own 68 _ 0,rfl,.own rfl rfl rfl⟩,⟨.im _,rfl,.im (Sub.rfl' rfl)⟩,⟨.own 69 _ 0,rfl,.own rfl rfl rfl⟩,⟨.im _,rfl,.im (Sub.rfl' rfl)⟩,⟨.im _,rfl,.im (Sub.rfl' rfl)⟩,⟨.im _,rfl,.im (Sub.rfl' rfl)⟩,⟨.im _,rfl,.im (Sub.rfl' rfl)⟩,⟨.im _,rfl,.im (Sub.rfl' rfl)⟩,trivial⟩ ⟨.inl ⟨66,rfl,rfl,trivial⟩,.inl ⟨67,rfl,rfl,trivial⟩,.inl ⟨68,rfl,rfl,trivial⟩,.inl ⟨69,rfl,rfl,trivial⟩,.inl ⟨70,rfl,rfl,trivial⟩,trivial⟩ ⟨⟨67,.own 69 _ 0,rfl,rfl,.own rfl rfl rfl⟩,⟨68,.im _,rfl,rfl,.im (Sub.rfl' rfl)⟩,⟨68,.im _,rfl,rfl,.im (Sub.rfl' rfl)⟩,⟨69,.im _,rfl,rfl,.im (Sub.rfl' rfl)⟩,⟨69,.im _,rfl,rfl,.im (Sub.rfl' rfl)⟩,⟨69,.osl 70 _,rfl,rfl,.osl rfl rfl rfl⟩,trivial⟩
          · rintro ⟨X1,X2,ls,p⟩ ⟨hls,hXk,hadd⟩
            dsimp only at hls hXk hadd ⊢
            conv=>whnf
            refine Side.mk rfl ?_
            conv=>whnf
            refine Side.mk rfl ?_
            conv=>whnf
            refine Side.mk rfl ?_
            conv=>whnf
            refine Side.mk rfl ?_
            conv=>whnf
            refine Side.mk rfl ?_
            conv=>whnf
            refine ⟨_,⟨(by omega),map_at hy,rfl⟩,?_⟩
            conv=>whnf
            refine Side.mk ⟨rfl,trivial⟩ ?_
            conv=>whnf
            refine ⟨_,sp_slices_Contains_Sint_int ls y (decide (y∈ls)) (fun _ _=>containsC (by have:=hls.1;omega)),?_⟩
            conv=>whnf
            refine Side.mk flat_one ?_
            conv=>whnf
            refine Both.mk (fun b53=>?_) (fun b53=>?_)
            · have hny:y∉ls:=fun hm=>by rw [decide_eq_true hm] at b53;cases b53
              conv=>whnf
              refine Side.mk rfl ?_
              conv=>whnf
              refine Side.mk rfl ?_
              conv=>whnf
              refine Side.mk rfl ?_
              conv=>whnf
              refine Side.mk rfl ?_
              conv=>whnf
              refine Side.mk rfl ?_
              conv=>whnf
              refine ⟨_,⟨(by omega),map_at hy,rfl⟩,?_⟩
              conv=>whnf
              refine Side.mk ⟨rfl,map_len (l:=[y]) (c:=cI) fun _=>rfl,show capOk _ 8 by simp only [List.length_map,List.length_cons,List.length_nil,Nat.zero_add];unfold capOk;have:=hls.1;omega⟩ ?_
              conv=>whnf
              refine Nf.mk (List.map cI (ls++[y])) (app_map (l:=ls) (m:=[y]) (c:=cI)) ?_
              conv=>whnf
              refine Side.mk rfl ?_
              conv=>whnf
              refine Side.mk rfl ?_
              conv=>whnf
              refine Side.mk rfl ?_
              conv=>whnf
              refine Side.mk rfl ?_
              conv=>whnf
              refine Side.mk rfl ?_
              conv=>whnf
              refine Side.mk rfl ?_
              conv=>whnf
              refine Side.mk ⟨rfl,trivial⟩ ?_
              conv=>whnf
              refine ⟨_,(pl_lib_Sort_int (ls++[y]) (insI y ls) (sortC3 hls hny)),?_⟩
              conv=>whnf
              refine Side.mk rfl ?_
              conv=>whnf
              refine Side.mk rfl ?_
              conv=>whnf
              refine Side.mk rfl ?_
              conv=>whnf
              refine Side.mk rfl ?_
              conv=>whnf
              refine Side.mk rfl ?_
              conv=>whnf
              refine Side.mk rfl ?_
              conv=>whnf
              refine Side.mk rfl ?_
              conv=>whnf
              refine Nf.mk (List.length (insI y ls)) len_map ?_
              conv=>whnf
              have hil:0<(insI y ls).length:=by cases hq:insI y ls with | nil=>exact absurd ((insI_mem y ls y).2 (.inl rfl)) (by rw [hq];simp) | cons _ _=>simp
              refine Side.mk ⟨rfl,(by omega),by simp only [List.length_map];omega,by simp only [List.length_map];omega⟩ ?_
              conv=>whnf
              refine Nf.mk (List.map cI (leastI ls y)) (by rw [leastI,if_neg hny,show List.take 2 (insI y ls)=List.take (Int.toNat (min 2 (↑(List.length (insI y ls)):Int))) (insI y ls) by rw [← take_min]];exact cut_own) ?_
              conv=>whnf
              refine Side.mk rfl ?_
              conv=>whnf
              refine Side.mk rfl ?_
              conv=>whnf
              refine Side.mk rfl ?_
              conv=>whnf
              refine Arith.mk (by show inR _;unfold inR;omega) ?_
              conv=>whnf
              refine NxtX.mk (X1++((w,bb,leastI ls y),p)::X2,j+1) (by show min t.In.length t.Out.length-(j+1)<min t.In.length t.Out.length-j;omega) ⟨hjlt,hXk.mid (leastI_ok hls y),by rw [hstep,hadd]⟩ ?_
              exact Ent.trans (σ':=stE l t i (j+1) w bb (leastI ls y) (X1++((w,bb,ls),p)::X2) (bgX X1++bgX X2) p) (Ent.mk [(66,some 66),(67,some 67),(68,some 68),(69,some 69),(70,some 70)] rfl ⟨⟨.osl 66 _,rfl,.osl rfl rfl rfl⟩,⟨.own 68 _ 0,rfl,.own rfl rfl rfl⟩,⟨.im _,rfl,.im (Sub.rfl' rfl)⟩,⟨.im _,rfl,.im (Sub.rfl' rfl)⟩,⟨.im _,rfl,.im (Sub.rfl' rfl)⟩,⟨.im _,rfl,.im (Sub.rfl' rfl)⟩,⟨.im _,rfl,.im (Sub.rfl' rfl)⟩,trivial⟩ ⟨.inl ⟨66,rfl,rfl,trivial⟩,.inl ⟨67,rfl,rfl,trivial⟩,.inl ⟨68,rfl,rfl,trivial⟩,.inl ⟨69,rfl,rfl,trivial⟩,.inl ⟨70,rfl,rfl,trivial⟩,trivial⟩ ⟨⟨67,.own 69 _ 0,rfl,rfl,.own rfl rfl rfl⟩,⟨68,.im _,rfl,rfl,.im (Sub.rfl' rfl)⟩,⟨68,.im _,rfl,rfl,.im (Sub.rfl' rfl)⟩,⟨69,.im _,rfl,rfl,.im (Sub.rfl' rfl)⟩,⟨69,.im _,rfl,rfl,.im (Sub.rfl' rfl)⟩,⟨69,.osl 70 _,rfl,rfl,.osl rfl rfl rfl⟩,trivial⟩) (ent_back l t i (j+1) w bb ls (leastI ls y) X1 X2 p)
            · have hny:y∈ls:=by
                by_cases hm:y∈ls
                · exact hm
                · rw [decide_eq_false hm] at b53;cases b53
              have hle:leastI ls y=ls:=by rw [leastI,if_pos hny]
              conv=>whnf
              refine Arith.mk (by show inR _;unfold inR;omega) ?_
              conv=>whnf
              refine NxtX.mk (X1++((w,bb,ls),p)::X2,j+1) (by show min t.In.length t.Out.length-(j+1)<min t.In.length t.Out.length-j;omega) ⟨hjlt,hXk,by rw [hstep,hadd,hle]⟩ ?_
              exact Ent.trans (σ':=stE l t i (j+1) w bb (ls) (X1++((w,bb,ls),p)::X2) (bgX X1++bgX X2) p) (Ent.mk [(66,some 66),(67,some 67),(68,some 68),(69,some 69),(70,some 70)] rfl ⟨⟨.osl 66 _,rfl,.osl rfl rfl rfl⟩,⟨.own 68 _ 0,rfl,.own rfl rfl rfl⟩,⟨.im _,rfl,.im (Sub.rfl' rfl)⟩,⟨.im _,rfl,.im (Sub.rfl' rfl)⟩,⟨.im _,rfl,.im (Sub.rfl' rfl)⟩,⟨.im _,rfl,.im (Sub.rfl' rfl)⟩,⟨.im _,rfl,.im (Sub.rfl' rfl)⟩,trivial⟩ ⟨.inl ⟨66,rfl,rfl,trivial⟩,.inl ⟨67,rfl,rfl,trivial⟩,.inl ⟨68,rfl,rfl,trivial⟩,.inl ⟨69,rfl,rfl,trivial⟩,.inl ⟨70,rfl,rfl,trivial⟩,trivial⟩ ⟨⟨67,.own 69 _ 0,rfl,rfl,.own rfl rfl rfl⟩,⟨68,.im _,rfl,rfl,.im (Sub.rfl' rfl)⟩,⟨68,.im _,rfl,rfl,.im (Sub.rfl' rfl)⟩,⟨69,.im _,rfl,rfl,.im (Sub.rfl' rfl)⟩,⟨69,.im _,rfl,rfl,.im (Sub.rfl' rfl)⟩,⟨69,.osl 70 _,rfl,rfl,.osl rfl rfl rfl⟩,trivial⟩) (ent_back l t i (j+1) w bb ls (ls) X1 X2 p)
        · have hje:j=min t.In.length t.Out.length:=by have:=of_decide_eq_false b2;omega
          subst hje
          conv=>whnf
          refine JoinX.mk X' ⟨hX',hG'.trans (grps_succ l i t ht).symm⟩ ?_
          exact Ent.mk [(66,some 66),(67,some 67)] rfl ⟨⟨.osl 66 _,rfl,.osl rfl rfl rfl⟩,⟨.im _,rfl,.im (Sub.rfl' rfl)⟩,⟨.im _,rfl,.im (Sub.rfl' rfl)⟩,⟨.im _,rfl,.im (Sub.rfl' rfl)⟩,trivial⟩ ⟨.inl ⟨66,rfl,rfl,trivial⟩,.inl ⟨67,rfl,rfl,trivial⟩,trivial⟩ trivial
      · conv=>whnf
        refine Arith.mk (by show inR _;unfold inR;omega) ?_
        conv=>whnf
        refine NxtX.mk (X,i+1) (by show l.length-(i+1)<l.length-i;omega) ⟨hlt,hX'.1,hX'.2⟩ ?_
        exact Ent.mk [(66,some 66),(67,some 67)] rfl ⟨⟨.osl 66 _,rfl,.osl rfl rfl rfl⟩,⟨.im _,rfl,.im (Sub.rfl' rfl)⟩,⟨.im _,rfl,.im (Sub.rfl' rfl)⟩,⟨.im _,rfl,.im (Sub.rfl' rfl)⟩,trivial⟩ ⟨.inl ⟨66,rfl,rfl,trivial⟩,.inl ⟨67,rfl,rfl,trivial⟩,trivial⟩ trivial
    · have hie:i=l.length:=by have:=of_decide_eq_false b1;omega
      subst hie
      conv=>whnf
      refine JoinX.mk X ⟨hX,by rw [hG,List.take_length]⟩ ?_
      exact Ent.mk [(66,some 66),(67,some 67)] rfl ⟨⟨.osl 66 _,rfl,.osl rfl rfl rfl⟩,trivial⟩ ⟨.inl ⟨66,rfl,rfl,trivial⟩,.inl ⟨67,rfl,rfl,trivial⟩,trivial⟩ trivial
  · conv=>whnf
    refine Rh.ops _ _ 1 _ _ ?_
    conv=>whnf
    refine ⟨66,1,67,1,TG,3,bgX X,mapV wS pv (mpX X),rfl,rfl,rfl,rfl,rfl,mpX_ptr X,?_⟩
    conv=>whnf
    have hgl:(grpsN l).length≤1000000:=by
      have:=grps_len l [] fun t ht=>(hb t ht).1
      simp only [List.length_nil] at this
      unfold grpsN
      omega
    refine Cut.mkX (fun F:List Grp=>mkSt [(9,.osl 70 1)] [(70,.row 69 1 (List.map cG F))] []) (fun F=>F.Perm ((grpsN l).filter fun g=>decide (g.2.2.length=2))) ?_ fun F hF=>?_
    · conv=>whnf
      refine Loops.mkX (fun x:List Grp×List Grp×Option IV=>mkSt [(9,.osl 70 1),(111,.sub 66 0 0)] [(66,.mapI (List.map vG x.2.1) x.2.2),(70,.row 69 1 (List.map cG x.1))] []) (fun x=>(x.1++x.2.1.filter fun g=>decide (g.2.2.length=2)).Perm ((grpsN l).filter fun g=>decide (g.2.2.length=2))) (fun x=>x.2.1.length) ([],X.map (·.1),none) (by rw [hX.2];exact .refl _) (Ent.mk [(66,some 66),(70,none)] rfl ⟨⟨.im (.val (.slice none 0 0)),rfl,.made rfl rfl⟩,⟨.sub 66 _ 0,rfl,.sub rfl rfl⟩,trivial⟩ ⟨.inl ⟨66,rfl,(by rw [← bgX_ref];rfl),trivial⟩,.inr ⟨rfl,rfl,.inl ⟨_,_,rfl,by decide⟩⟩,trivial⟩ trivial) ?_
      rintro ⟨F,left,c⟩ hF
      dsimp only at hF ⊢
      conv=>whnf
      refine Rh.ops _ _ 0 _ _ ?_
      conv=>whnf
      refine ⟨66,0,List.map vG left,c,rfl,rfl,rfl,fun hl0=>?_,fun k y hy=>?_⟩
      · conv=>whnf
        refine Both.no rfl ?_
        conv=>whnf
        rw [List.map_eq_nil_iff] at hl0
        subst hl0
        refine JoinX.mk F (by simpa using hF) ?_
        exact Ent.mk [(70,some 70)] rfl ⟨⟨.osl 70 _,rfl,.osl rfl rfl rfl⟩,trivial⟩ ⟨.inl ⟨70,rfl,rfl,trivial⟩,trivial⟩ trivial
      · obtain ⟨g,hg,rfl⟩:∃ g,left[k]?=some g∧vG g=y:=by
          rw [List.getElem?_map] at hy
          cases hq:left[k]? with
          | none=>rw [hq] at hy;cases hy
          | some g=>rw [hq] at hy;exact ⟨g,rfl,Option.some.inj hy⟩
        have hpe:=erase_perm hg
        have hlk:k<left.length:=(List.getElem?_eq_some_iff.1 hg).1
        have hml:(left.eraseIdx k).length<left.length:=by rw [List.length_eraseIdx,if_pos hlk];omega
        conv=>whnf
        refine Both.yes rfl ?_
        conv=>whnf
        refine Rh.ops _ _ 0 _ _ ?_
        conv=>whnf
        refine ⟨66,0,_,vG g,rfl,rfl,rfl,?_⟩
        conv=>whnf
        refine Nf.mk (List.length g.2.2) len_map ?_
        conv=>whnf
        refine Both.mk (fun b3=>?_) (fun b3=>?_)
        · have hq:decide (g.2.2.length=2)=true:=by have:=of_decide_eq_true b3;exact decide_eq_true (by omega)
          have hF':(F++[g]++(left.eraseIdx k).filter fun g=>decide (g.2.2.length=2)).Perm ((grpsN l).filter fun g=>decide (g.2.2.length=2)):=by
            refine List.Perm.trans ?_ hF
            rw [List.append_assoc]
            refine List.Perm.append_left F ?_
            refine List.Perm.trans ?_ (hpe.filter _).symm
            rw [List.filter_cons,if_pos hq]
            exact .refl _
          have hcap:F.length+1≤1000000:=by
            have h1:=hF'.length_eq
            have h2:=List.length_filter_le (fun g:Grp=>decide (g.2.2.length=2)) (grpsN l)
            simp only [List.length_append,List.length_cons,List.length_nil] at h1
            omega
          conv=>whnf
          refine Side.mk ⟨rfl,map_len (l:=[g]) (c:=cG) fun _=>rfl,show capOk _ 8 by simp only [List.length_map,List.length_cons,List.length_nil,Nat.zero_add];unfold capOk;omega⟩ ?_
          conv=>whnf
          refine Nf.mk (List.map cG (F++[g])) (app_map (l:=F) (m:=[g]) (c:=cG)) ?_
          conv=>whnf
          refine NxtX.mk (F++[g],left.eraseIdx k,some (vG g)) hml hF' ?_
          exact Ent.mk [(66,some 66),(70,some 70)] rfl ⟨⟨.osl 70 _,rfl,.osl rfl rfl rfl⟩,⟨.sub 66 _ 0,rfl,.sub rfl rfl⟩,trivial⟩ ⟨.inl ⟨66,rfl,go_eq (map_erase vG left k),trivial⟩,.inl ⟨70,rfl,rfl,trivial⟩,trivial⟩ trivial
        · have hq:decide (g.2.2.length=2)=false:=by have:=of_decide_eq_false b3;exact decide_eq_false (by omega)
          conv=>whnf
          refine NxtX.mk (F,left.eraseIdx k,some (vG g)) hml (List.Perm.trans (List.Perm.append_left F ?_) hF) ?_
          · refine List.Perm.trans ?_ (hpe.filter _).symm
            rw [List.filter_cons,if_neg (by rw [hq];decide)]
          · exact Ent.mk [(66,some 66),(70,some 70)] rfl ⟨⟨.osl 70 _,rfl,.osl rfl rfl rfl⟩,⟨.sub 66 _ 0,rfl,.sub rfl rfl⟩,trivial⟩ ⟨.inl ⟨66,rfl,go_eq (map_erase vG left k),trivial⟩,.inl ⟨70,rfl,rfl,trivial⟩,trivial⟩ trivial
    · replace h:nondet_rest F=some r:=by
        rw [← h]
        unfold nondet_rest lib_SortFunc_groups
        rw [libSort_perm hF]
      unfold nondet_rest at h
      conv=>whnf
      refine Side.mk ⟨rfl,trivial⟩ ?_
      conv=>whnf
      obtain ⟨c51,hc51,h⟩:=bind_some h
      refine ⟨_,(pl_lib_SortFunc_groups F (fun u0 u1=>nondet_cmp u0 u1) 42 cmpE_nondet_cmp c51 (hc51)),?_⟩
      conv=>whnf
      refine Side.mk ⟨rfl,trivial⟩ ?_
      conv=>whnf
      obtain ⟨c52,hc52,h⟩:=bind_some h
      refine ⟨_,(sp_slices_CompactFunc_S_nondet_group_nondet_group c51 (fun u0 u1=>nondet_eq u0 u1) 45 (fun u0 u1 r h=>(pl_nondet_eq u0 u1 r h)) c52 (fun _ _=>hc52)),?_⟩
      conv=>whnf
      refine Side.mk rfl ?_
      conv=>whnf
      refine Nf.mk (List.length c52) len_map ?_
      conv=>whnf
      obtain ⟨y76,hc,hk53⟩:=bind_some h
      clear h
      have h:=hc
      clear hc
      refine Cut.mk (mkSt [(12,.osl 159 1)] [(159,.row 58 3 (List.map c_api_Clash y76))] []) (List.length y76≤17592186044416∧True) ((Holds.kdl 159 rfl).and (Holds.true_ _)) ?_ (fun hp=>?_)
      · conv=>whnf
        refine Loops.iter (fun (s:List T_api_Clash×Nat)=>nondet_rest.s2 c52 s.1 s.2) (fun (y82,y83)=>mkSt [(12,.osl 159 1),(130,.osl 160 1),(131,.im (nI (↑(List.length c52):Int))),(132,.im (nI (↑y83:Int)))] [(159,.row 58 3 (List.map c_api_Clash y82)),(160,.row 69 1 (List.map cG c52))] []) (fun (y82,y83)=>List.length y82≤17592186044416∧List.length c52≤17592186044416∧True) h (Ent.mk [(159,none),(160,some 129)] rfl ⟨⟨.im (.val (.slice none 0 0)),rfl,.made rfl rfl⟩,⟨.osl 129 _,rfl,.osl rfl rfl rfl⟩,⟨.im _,rfl,.im (Sub.rfl' rfl)⟩,⟨.im _,rfl,.im (Sub.rfl' rfl)⟩,trivial⟩ ⟨.inr ⟨rfl,rfl,.inl ⟨_,_,rfl,by decide⟩⟩,.inl ⟨129,rfl,rfl,trivial⟩,trivial⟩ trivial) (by rintro ⟨y82,y83⟩;exact ((Holds.kdl 159 rfl).and ((Holds.kdl 160 rfl).and (Holds.true_ _)))) ?_
        clear h
        rintro k ⟨y82,y83⟩ o hp h ho90
        replace h:nondet_rest.s2 c52 y82 y83=some o:=h
        unfold nondet_rest.s2 at h
        obtain ⟨z97,z98,_⟩:=hp
        conv=>whnf
        refine Both.mk (fun b91=>?_) (fun b91=>?_)
        · replace h:=cond_t b91 h
          have b91d:=of_decide_eq_true b91
          conv=>whnf
          obtain ⟨e92,he92,h⟩:=idxn_some h
          refine Side.mk ⟨(by omega),rfl,map_lt he92⟩ ?_
          conv=>whnf
          refine ⟨_,_,⟨rfl,map_at he92,rfl,rfl⟩,?_⟩
          conv=>whnf
          obtain ⟨c93,hc93,h⟩:=bind_some h
          refine ⟨_,(sp_lib_Clone_int e92.1 c93 (hc93)).im,?_⟩
          conv=>whnf
          obtain ⟨e94,he94,h⟩:=idxn_some h
          refine ⟨_,⟨(by omega),map_at he94,rfl⟩,?_⟩
          conv=>whnf
          obtain ⟨e95,he95,h⟩:=idxn_some h
          refine ⟨_,⟨(by omega),map_at he95,rfl⟩,?_⟩
          conv=>whnf
          obtain ⟨c96,h⟩:=chk_some h
          refine Side.mk ⟨rfl,map_len (l:=[(⟨c93,e94,e95⟩:T_api_Clash)]) (c:=c_api_Clash) fun _=>rfl,show capOk _ 40 by simpa only [List.length_map,List.length_cons,List.length_nil,Nat.zero_add] using c96⟩ ?_
          conv=>whnf
          refine Nf.mk (List.map c_api_Clash (y82++[(⟨c93,e94,e95⟩:T_api_Clash)])) (app_map (l:=y82) (m:=[(⟨c93,e94,e95⟩:T_api_Clash)]) (c:=c_api_Clash)) ?_
          conv=>whnf
          refine Arith.mk (by show inR _;unfold inR;omega) ?_
          conv=>whnf
          obtain rfl:=Option.some.inj h
          exact Nxt.mk _ ho90 (Ent.mk [(159,some 159),(160,some 160)] rfl ⟨⟨.osl 159 _,rfl,.osl rfl rfl rfl⟩,⟨.osl 160 _,rfl,.osl rfl rfl rfl⟩,⟨.im _,rfl,.im (Sub.rfl' rfl)⟩,⟨.im _,rfl,.im (Sub.rfl' rfl)⟩,trivial⟩ ⟨.inl ⟨159,rfl,rfl,trivial⟩,.inl ⟨160,rfl,rfl,trivial⟩,trivial⟩ trivial)
        · replace h:=cond_f b91 h
          have b91d:=of_decide_eq_false b91
          conv=>whnf
          obtain rfl:=Option.some.inj h
          have ho90:_=_:=ho90
          cases ho90
          exact Join.mk (Ent.mk [(159,some 159)] rfl ⟨⟨.osl 159 _,rfl,.osl rfl rfl rfl⟩,trivial⟩ ⟨.inl ⟨159,rfl,rfl,trivial⟩,trivial⟩ trivial)
      · replace h:=hk53
        obtain ⟨z99,_⟩:=hp
        conv=>whnf
        obtain rfl:=Option.some.inj h
        conv=>whnf
        exact Side.mk ⟨rfl,trivial⟩ ⟨rfl,rfl⟩
theorem sp_observe_New (inputs_:Int) (r:T_api_Obs×Int) (h:Ok (nI inputs_)→observe_New inputs_=some r):Sp Tryz.prog 25 [.im (nI inputs_)] (.tup [.agg (c_api_Obs r.1),nI r.2]):=by
 refine sp_of rfl [] rfl rfl rfl (Nat.le_of_ble_eq_true rfl) rfl fun hk=>?_
 replace h:=h hk.1
 unfold observe_New at h
 conv=>whnf
 obtain ⟨y54,hc,hk52⟩:=bind_some h
 clear h
 have h:=hc
 clear hc
 refine Cut.mk (mkSt [(0,.im (nI inputs_)),(2,.own 64 1 0),(9,.im (nB y54))] [(64,.box 42 2)] [(64,0,.im (nI 0)),(64,1,.im (.val (.slice none 0 0)))]) (True) (hT) ?_ (fun hp=>?_)
 conv=>whnf
 refine Both.mk ?_ ?_<;>intro b55
 replace b55:=beq_ff b55
 obtain ⟨h,b55d⟩:=cfd b55 h
 conv=>whnf
 refine Both.yes (ff_beq b55) ?_
 conv=>whnf
 refine Both.no b55 ?_
 conv=>whnf
 cases h
 exact Join.mk (eA [(64,some 2)])
 replace b55:=beq_ft b55
 obtain ⟨h,b55d⟩:=ctd b55 h
 conv=>whnf
 refine Both.no (tf_beq b55) ?_
 conv=>whnf
 refine Both.yes b55 ?_
 conv=>whnf
 cases h
 exact Join.mk (eA [(64,some 2)])
 replace h:=hk52
 conv=>whnf
 refine Both.mk ?_ ?_<;>intro b56
 replace h:=cond_t b56 h
 conv=>whnf
 refine Side.mk rfl ?_
 conv=>whnf
 cases h
 conv=>whnf
 refine Side.mk ⟨rfl,trivial⟩ ?_
 conv=>whnf
 exact ⟨rfl,rfl⟩
 replace h:=cond_f b56 h
 conv=>whnf
 refine Side.mk rfl ?_
 conv=>whnf
 cases h
 conv=>whnf
 refine Side.mk ⟨rfl,trivial⟩ ?_
 conv=>whnf
 exact ⟨rfl,rfl⟩
theorem sp_slices_IndexFunc_Sint_int (s_:List Int) (f_:Int→Option Bool) (f1_:FuncId) (hf1:∀ x0 r,f_ x0=some r→Sp Tryz.prog f1_ [.im (nI x0)] (.im (nB r))) (r:Int) (h:Ok (nL cI s_)→Ok (.fn f1_ [])→slices_IndexFunc_Sint_int s_ f_=some r):Sp Tryz.prog 113 [.im (nL cI s_),.im (.fn f1_ [])] (.im (nI r)):=by
 refine sp_of rfl [] rfl rfl rfl (Nat.le_of_ble_eq_true rfl) rfl fun hk=>?_
 replace h:=h hk.1 hk.2.1
 have z1:lZ s_:=ok_len hk.1
 unfold slices_IndexFunc_Sint_int at h
 conv=>whnf
 refine Nf.mk (List.length s_) len_map ?_
 conv=>whnf
 obtain ⟨oc,hc,hk51⟩:=bind_some h
 clear h
 have h:=hc
 clear hc
 refine Cut.mkS oc (Y:=Unit) (fun (_:Unit)=>mkSt [] [] []) (fun (_:Unit)=>True) (by rintro ⟨⟩;exact (hT)) ?_ ?_
 conv=>whnf
 refine Loops.iter (fun (s:Nat)=>slices_IndexFunc_Sint_int.s2 s_ f_ s) (fun y71=>mkSt [(0,.im (nL cI s_)),(1,.im (.fn f1_ [])),(7,.im (nI (↑(List.length s_):Int))),(8,.im (nI (↑y71:Int)))] [] []) (fun y71=>lZ s_∧True) h (eA []) (by rintro y71;exact ((Holds.avl 0 rfl).and (hT))) ?_
 clear h
 rintro k y71 o hp h ho76
 replace h:slices_IndexFunc_Sint_int.s2 s_ f_ y71=some o:=h
 unfold slices_IndexFunc_Sint_int.s2 at h
 obtain ⟨z81,_⟩:=hp
 conv=>whnf
 refine Both.mk ?_ ?_<;>intro b77
 obtain ⟨h,b77d⟩:=ctd b77 h
 conv=>whnf
 obtain ⟨e78,he78,h⟩:=idxn_some h
 refine ⟨_,⟨(by omega),map_at he78,rfl⟩,?_⟩
 conv=>whnf
 obtain ⟨c79,hc79,h⟩:=bind_some h
 refine ⟨_,hf1 e78 c79 hc79,?_⟩
 conv=>whnf
 refine Both.mk ?_ ?_<;>intro b80
 replace h:=cond_t b80 h
 conv=>whnf
 cases h
 have ho76:_=_:=ho76
 cases ho76
 replace h:some _=some _:=hk51
 cases h
 conv=>whnf
 exact ⟨rfl,rfl⟩
 replace h:=cond_f b80 h
 conv=>whnf
 refine Arith.mk (by show inR _;unfold inR;omega) ?_
 conv=>whnf
 cases h
 exact Nxt.mk _ ho76 (eA [])
 obtain ⟨h,b77d⟩:=cfd b77 h
 conv=>whnf
 cases h
 have ho76:_=_:=ho76
 cases ho76
 exact JoinS.mk' _ rfl (eA [])
 rintro ⟨⟩ rfl hp
 replace h:=sum_inl hk51
 conv=>whnf
 cases h
 conv=>whnf
 exact ⟨rfl,rfl⟩
theorem sp_slices_ContainsFunc_Sint_int (s_:List Int) (f_:Int→Option Bool) (f1_:FuncId) (hf1:∀ x0 r,f_ x0=some r→Sp Tryz.prog f1_ [.im (nI x0)] (.im (nB r))) (r:Bool) (h:Ok (nL cI s_)→Ok (.fn f1_ [])→slices_ContainsFunc_Sint_int s_ f_=some r):Sp Tryz.prog 72 [.im (nL cI s_),.im (.fn f1_ [])] (.im (nB r)):=by
 refine sp_of rfl [] rfl rfl rfl (Nat.le_of_ble_eq_true rfl) rfl fun hk=>?_
 replace h:=h hk.1 hk.2.1
 have z1:lZ s_:=ok_len hk.1
 unfold slices_ContainsFunc_Sint_int at h
 conv=>whnf
 obtain ⟨c51,hc51,h⟩:=bind_some h
 refine ⟨_,(sp_slices_IndexFunc_Sint_int s_ f_ f1_ hf1 c51 (fun _ _=>hc51)),?_⟩
 conv=>whnf
 cases h
 conv=>whnf
 exact ⟨rfl,rfl⟩
theorem sp_word_permitted (inputs_:Int) (r:Bool) (h:Ok (nI inputs_)→word_permitted inputs_=some r):Sp Tryz.prog 111 [.im (nI inputs_)] (.im (nB r)):=by
 refine sp_of rfl [] rfl rfl rfl (Nat.le_of_ble_eq_true rfl) rfl fun hk=>?_
 replace h:=h hk.1
 unfold word_permitted at h
 conv=>whnf
 obtain ⟨y54,hc,hk52⟩:=bind_some h
 clear h
 have h:=hc
 clear hc
 refine Cut.mk (mkSt [(2,.im (nB y54))] [] []) (True) (hT) ?_ (fun hp=>?_)
 conv=>whnf
 refine Both.mk ?_ ?_<;>intro b55
 replace b55:=beq_tt b55
 obtain ⟨h,b55d⟩:=ctd b55 h
 conv=>whnf
 refine Both.yes (tt_beq b55) ?_
 conv=>whnf
 refine Both.yes b55 ?_
 conv=>whnf
 cases h
 exact Join.mk (eA [])
 replace b55:=beq_tf b55
 obtain ⟨h,b55d⟩:=cfd b55 h
 conv=>whnf
 refine Both.no (ft_beq b55) ?_
 conv=>whnf
 refine Both.no b55 ?_
 conv=>whnf
 cases h
 exact Join.mk (eA [])
 replace h:=hk52
 conv=>whnf
 cases h
 conv=>whnf
 exact ⟨rfl,rfl⟩
theorem sp_word_Check_1 (a_:Int) (p1_:Int) (r:Bool) (h:Ok (nI a_)→Ok (.ref (cI p1_))→word_Check_1 a_ p1_=some r):Sp Tryz.prog 112 [.im (nI a_),.im (.ref (cI p1_))] (.im (nB r)):=by
 refine sp_of rfl [] rfl rfl rfl (Nat.le_of_ble_eq_true rfl) rfl fun hk=>?_
 replace h:=h hk.1 hk.2.1
 unfold word_Check_1 at h
 conv=>whnf
 obtain ⟨y54,hc,hk52⟩:=bind_some h
 clear h
 have h:=hc
 clear hc
 refine Cut.mk (mkSt [(3,.im (nB y54))] [] []) (True) (hT) ?_ (fun hp=>?_)
 conv=>whnf
 refine Both.mk ?_ ?_<;>intro b55
 replace b55:=beq_ff b55
 obtain ⟨h,b55d⟩:=cfd b55 h
 conv=>whnf
 iterate 2 (refine Both.yes (ff_beq b55) ?_;(conv=>whnf))
 refine Both.no b55 ?_
 conv=>whnf
 cases h
 exact Join.mk (eA [])
 replace b55:=beq_ft b55
 obtain ⟨h,b55d⟩:=ctd b55 h
 conv=>whnf
 iterate 2 (refine Both.no (tf_beq b55) ?_;(conv=>whnf))
 refine Both.yes b55 ?_
 conv=>whnf
 cases h
 exact Join.mk (eA [])
 replace h:=hk52
 conv=>whnf
 cases h
 conv=>whnf
 exact ⟨rfl,rfl⟩
theorem sp_slices_IndexFunc_Sint_int_n1 (s_:List Int) (f_:Int→Option Bool) (f1_:FuncId) (k1_0:IV) (hk1_0:nz k1_0=k1_0) (hf1:∀ x0 r,f_ x0=some r→Sp Tryz.prog f1_ [.im (nI x0),.im k1_0] (.im (nB r))) (r:Int) (h:Ok (nL cI s_)→Ok (.fn f1_ [k1_0])→slices_IndexFunc_Sint_int_n1 s_ f_=some r):Sp Tryz.prog 113 [.im (nL cI s_),.im (.fn f1_ [k1_0])] (.im (nI r)):=by
 refine sp_of rfl [] rfl rfl rfl (Nat.le_of_ble_eq_true rfl) rfl fun hk=>?_
 replace h:=h hk.1 hk.2.1
 have z1:lZ s_:=ok_len hk.1
 unfold slices_IndexFunc_Sint_int_n1 at h
 conv=>whnf
 refine Nf.mk (List.length s_) len_map ?_
 conv=>whnf
 obtain ⟨oc,hc,hk51⟩:=bind_some h
 clear h
 have h:=hc
 clear hc
 refine Cut.mkS oc (Y:=Unit) (fun (_:Unit)=>mkSt [] [] []) (fun (_:Unit)=>True) (by rintro ⟨⟩;exact (hT)) ?_ ?_
 conv=>whnf
 refine Loops.iter (fun (s:Nat)=>slices_IndexFunc_Sint_int_n1.s2 s_ f_ s) (fun y71=>mkSt [(0,.im (nL cI s_)),(1,.im (.fn f1_ [k1_0])),(7,.im (nI (↑(List.length s_):Int))),(8,.im (nI (↑y71:Int)))] [] []) (fun y71=>lZ s_∧True) h (eA []) (by rintro y71;exact ((Holds.avl 0 rfl).and (hT))) ?_
 clear h
 rintro k y71 o hp h ho76
 replace h:slices_IndexFunc_Sint_int_n1.s2 s_ f_ y71=some o:=h
 unfold slices_IndexFunc_Sint_int_n1.s2 at h
 obtain ⟨z81,_⟩:=hp
 conv=>whnf
 refine Both.mk ?_ ?_<;>intro b77
 obtain ⟨h,b77d⟩:=ctd b77 h
 conv=>whnf
 obtain ⟨e78,he78,h⟩:=idxn_some h
 refine ⟨_,⟨(by omega),map_at he78,rfl⟩,?_⟩
 conv=>whnf
 obtain ⟨c79,hc79,h⟩:=bind_some h
 refine ⟨_,Sp.args (hf1 e78 c79 hc79) (by rw [hk1_0];try rfl),?_⟩
 conv=>whnf
 refine Both.mk ?_ ?_<;>intro b80
 replace h:=cond_t b80 h
 conv=>whnf
 cases h
 have ho76:_=_:=ho76
 cases ho76
 replace h:some _=some _:=hk51
 cases h
 conv=>whnf
 exact ⟨rfl,rfl⟩
 replace h:=cond_f b80 h
 conv=>whnf
 refine Arith.mk (by show inR _;unfold inR;omega) ?_
 conv=>whnf
 cases h
 exact Nxt.mk _ ho76 (eA [])
 obtain ⟨h,b77d⟩:=cfd b77 h
 conv=>whnf
 cases h
 have ho76:_=_:=ho76
 cases ho76
 exact JoinS.mk' _ rfl (eA [])
 rintro ⟨⟩ rfl hp
 replace h:=sum_inl hk51
 conv=>whnf
 cases h
 conv=>whnf
 exact ⟨rfl,rfl⟩
theorem sp_slices_ContainsFunc_Sint_int_n1 (s_:List Int) (f_:Int→Option Bool) (f1_:FuncId) (k1_0:IV) (hk1_0:nz k1_0=k1_0) (hf1:∀ x0 r,f_ x0=some r→Sp Tryz.prog f1_ [.im (nI x0),.im k1_0] (.im (nB r))) (r:Bool) (h:Ok (nL cI s_)→Ok (.fn f1_ [k1_0])→slices_ContainsFunc_Sint_int_n1 s_ f_=some r):Sp Tryz.prog 72 [.im (nL cI s_),.im (.fn f1_ [k1_0])] (.im (nB r)):=by
 refine sp_of rfl [] rfl rfl rfl (Nat.le_of_ble_eq_true rfl) rfl fun hk=>?_
 replace h:=h hk.1 hk.2.1
 have z1:lZ s_:=ok_len hk.1
 unfold slices_ContainsFunc_Sint_int_n1 at h
 conv=>whnf
 obtain ⟨c51,hc51,h⟩:=bind_some h
 refine ⟨_,(sp_slices_IndexFunc_Sint_int_n1 s_ f_ f1_ k1_0 hk1_0 hf1 c51 (fun _ _=>hc51)),?_⟩
 conv=>whnf
 cases h
 conv=>whnf
 exact ⟨rfl,rfl⟩
theorem sp_word_Check (w_:List Int) (inputs_:Int) (r:Int) (h:Ok (nL cI w_)→Ok (nI inputs_)→word_Check w_ inputs_=some r):Sp Tryz.prog 71 [.im (nL cI w_),.im (nI inputs_)] (.im (nI r)):=by
 refine sp_of rfl [700003] rfl rfl rfl (Nat.le_of_ble_eq_true rfl) rfl fun hk=>?_
 replace h:=h hk.1 hk.2.1
 have z1:lZ w_:=ok_len hk.1
 unfold word_Check at h
 conv=>whnf
 obtain ⟨c51,hc51,h⟩:=bind_some h
 refine ⟨_,(sp_word_permitted inputs_ c51 (fun _=>hc51)),?_⟩
 conv=>whnf
 refine Both.mk ?_ ?_<;>intro b52
 replace h:=cond_t b52 h
 conv=>whnf
 cases h
 conv=>whnf
 exact ⟨rfl,rfl⟩
 replace h:=cond_f b52 h
 conv=>whnf
 refine Nf.mk (List.length w_) len_map ?_
 conv=>whnf
 refine Both.mk ?_ ?_<;>intro b53
 obtain ⟨h,b53d⟩:=ctd b53 h
 conv=>whnf
 cases h
 conv=>whnf
 exact ⟨rfl,rfl⟩
 obtain ⟨h,b53d⟩:=cfd b53 h
 conv=>whnf
 obtain ⟨c54,hc54,h⟩:=bind_some h
 refine ⟨_,(sp_slices_ContainsFunc_Sint_int_n1 w_ (fun u0=>word_Check_1 u0 inputs_) 112 (.ref (cI inputs_)) rfl (fun u0 r h=>(sp_word_Check_1 u0 inputs_ r (fun _ _=>h))) c54 (fun _ _=>hc54)),?_⟩
 conv=>whnf
 refine Both.mk ?_ ?_<;>intro b55
 replace h:=cond_t b55 h
 conv=>whnf
 cases h
 conv=>whnf
 exact ⟨rfl,rfl⟩
 replace h:=cond_f b55 h
 conv=>whnf
 cases h
 conv=>whnf
 exact ⟨rfl,rfl⟩
theorem sp_nondet_proper_1 (o_:Int) (r:Bool) (h:Ok (nI o_)→nondet_proper_1 o_=some r):Sp Tryz.prog 73 [.im (nI o_)] (.im (nB r)):=by
 refine sp_of rfl [] rfl rfl rfl (Nat.le_of_ble_eq_true rfl) rfl fun hk=>?_
 replace h:=h hk.1
 unfold nondet_proper_1 at h
 conv=>whnf
 obtain ⟨y54,hc,hk52⟩:=bind_some h
 clear h
 have h:=hc
 clear hc
 refine Cut.mk (mkSt [(2,.im (nB y54))] [] []) (True) (hT) ?_ (fun hp=>?_)
 conv=>whnf
 refine Both.mk ?_ ?_<;>intro b55
 replace b55:=beq_ff b55
 obtain ⟨h,b55d⟩:=cfd b55 h
 conv=>whnf
 refine Both.yes (ff_beq b55) ?_
 conv=>whnf
 refine Both.no b55 ?_
 conv=>whnf
 cases h
 exact Join.mk (eA [])
 replace b55:=beq_ft b55
 obtain ⟨h,b55d⟩:=ctd b55 h
 conv=>whnf
 refine Both.no (tf_beq b55) ?_
 conv=>whnf
 refine Both.yes b55 ?_
 conv=>whnf
 cases h
 exact Join.mk (eA [])
 replace h:=hk52
 conv=>whnf
 cases h
 conv=>whnf
 exact ⟨rfl,rfl⟩
theorem sp_nondet_proper (t_:T_api_Trace) (inputs_:Int) (r:Int) (h:Ok (.agg (c_api_Trace t_))→Ok (nI inputs_)→nondet_proper t_ inputs_=some r):Sp Tryz.prog 49 [.im (.agg (c_api_Trace t_)),.im (nI inputs_)] (.im (nI r)):=by
 refine sp_of rfl [700002] rfl rfl rfl (Nat.le_of_ble_eq_true rfl) rfl fun hk=>?_
 replace h:=h hk.1 hk.2.1
 have z1:lZ t_.In:=ok_len (Ok.agg_at hk.1 0 rfl)
 have z2:lZ t_.Out:=ok_len (Ok.agg_at hk.1 1 rfl)
 unfold nondet_proper at h
 conv=>whnf
 obtain ⟨c51,hc51,h⟩:=bind_some h
 refine ⟨_,(sp_word_Check t_.In inputs_ c51 (fun _ _=>hc51)),?_⟩
 conv=>whnf
 refine Both.mk ?_ ?_<;>intro b52
 obtain ⟨h,b52d⟩:=ctd b52 h
 conv=>whnf
 cases h
 conv=>whnf
 exact ⟨rfl,rfl⟩
 obtain ⟨h,b52d⟩:=cfd b52 h
 conv=>whnf
 refine Nf.mk (List.length t_.Out) len_map ?_
 conv=>whnf
 refine Nf.mk (List.length t_.In) len_map ?_
 conv=>whnf
 refine Both.mk ?_ ?_<;>intro b53
 obtain ⟨h,b53d⟩:=ctd b53 h
 conv=>whnf
 cases h
 conv=>whnf
 exact ⟨rfl,rfl⟩
 obtain ⟨h,b53d⟩:=cfd b53 h
 conv=>whnf
 obtain ⟨c54,hc54,h⟩:=bind_some h
 refine ⟨_,(sp_slices_ContainsFunc_Sint_int t_.Out (fun u0=>nondet_proper_1 u0) 73 (fun u0 r h=>(sp_nondet_proper_1 u0 r (fun _=>h))) c54 (fun _ _=>hc54)),?_⟩
 conv=>whnf
 refine Both.mk ?_ ?_<;>intro b55
 replace h:=cond_t b55 h
 conv=>whnf
 cases h
 conv=>whnf
 exact ⟨rfl,rfl⟩
 replace h:=cond_f b55 h
 conv=>whnf
 cases h
 conv=>whnf
 exact ⟨rfl,rfl⟩
theorem sp_observe_copied (t_:T_api_Trace) (r:T_api_Trace) (h:Ok (.agg (c_api_Trace t_))→observe_copied t_=some r):Sp Tryz.prog 116 [.im (.agg (c_api_Trace t_))] (.im (.agg (c_api_Trace r))):=by
 refine sp_of rfl [700001] rfl rfl rfl (Nat.le_of_ble_eq_true rfl) rfl fun hk=>?_
 replace h:=h hk.1
 have z1:lZ t_.In:=ok_len (Ok.agg_at hk.1 0 rfl)
 have z2:lZ t_.Out:=ok_len (Ok.agg_at hk.1 1 rfl)
 unfold observe_copied at h
 conv=>whnf
 obtain ⟨c51,hc51,h⟩:=bind_some h
 refine ⟨_,(sp_lib_Clone_int t_.In c51 (hc51)).im,?_⟩
 conv=>whnf
 obtain ⟨c52,hc52,h⟩:=bind_some h
 refine ⟨_,(sp_lib_Clone_int t_.Out c52 (hc52)).im,?_⟩
 conv=>whnf
 refine Side.mk rfl ?_
 conv=>whnf
 cases h
 conv=>whnf
 refine Side.mk ⟨rfl,trivial⟩ ?_
 conv=>whnf
 exact ⟨rfl,rfl⟩
theorem sp_observe_owned (l_:List T_api_Trace) (r:List T_api_Trace) (h:Ok (nL c_api_Trace l_)→observe_owned l_=some r):Sp Tryz.prog 77 [.im (nL c_api_Trace l_)] (.row 55 2 (List.map c_api_Trace r)):=by
 refine sp_of rfl [] rfl rfl rfl (Nat.le_of_ble_eq_true rfl) rfl fun hk=>?_
 replace h:=h hk.1
 have z1:lZ l_:=ok_len hk.1
 unfold observe_owned at h
 conv=>whnf
 refine Nf.mk (List.length l_) len_map ?_
 conv=>whnf
 refine Arith.mk (by show inR _;unfold inR;omega) ?_
 conv=>whnf
 obtain ⟨c51,h⟩:=chk_some h
 refine Side.mk c51 ?_
 conv=>whnf
 refine Nf.mk (List.map c_api_Trace []) rfl ?_
 conv=>whnf
 refine Nf.mk (List.length l_) len_map ?_
 conv=>whnf
 obtain ⟨y70,hc,hk52⟩:=bind_some h
 clear h
 have h:=hc
 clear hc
 refine Cut.mk (mkSt [(3,.osl 64 1)] [(64,.row 55 2 (List.map c_api_Trace y70))] []) (lZ y70∧True) ((Holds.kdl 64 rfl).and (hT)) ?_ (fun hp=>?_)
 conv=>whnf
 refine Loops.iter (fun (s:List T_api_Trace×Nat)=>observe_owned.s2 l_ s.1 s.2) (fun (y75,y76)=>mkSt [(3,.osl 64 1),(10,.im (nL c_api_Trace l_)),(11,.im (nI (↑(List.length l_):Int))),(12,.im (nI (↑y76:Int)))] [(64,.row 55 2 (List.map c_api_Trace y75))] []) (fun (y75,y76)=>lZ l_∧lZ y75∧True) h (eA [(64,some 9)]) (by rintro ⟨y75,y76⟩;exact ((Holds.avl 10 rfl).and ((Holds.kdl 64 rfl).and (hT)))) ?_
 clear h
 rintro k ⟨y75,y76⟩ o hp h ho81
 replace h:observe_owned.s2 l_ y75 y76=some o:=h
 unfold observe_owned.s2 at h
 obtain ⟨z86,z87,_⟩:=hp
 conv=>whnf
 refine Both.mk ?_ ?_<;>intro b82
 obtain ⟨h,b82d⟩:=ctd b82 h
 conv=>whnf
 obtain ⟨e83,he83,h⟩:=idxn_some h
 refine ⟨_,⟨(by omega),map_at he83,rfl⟩,?_⟩
 conv=>whnf
 refine Side.mk rfl ?_
 conv=>whnf
 refine Side.mk rfl ?_
 conv=>whnf
 obtain ⟨c84,hc84,h⟩:=bind_some h
 refine ⟨_,(sp_observe_copied e83 c84 (fun _=>hc84)),?_⟩
 conv=>whnf
 obtain ⟨c85,h⟩:=chk_some h
 refine Side.mk ⟨rfl,map_len (l:=[c84]) (c:=c_api_Trace) fun _=>rfl,show capOk _ 48 by simpa only [List.length_map,List.length_cons,List.length_nil,Nat.zero_add] using c85⟩ ?_
 conv=>whnf
 refine Nf.mk (List.map c_api_Trace (y75++[c84])) (app_map (l:=y75) (m:=[c84]) (c:=c_api_Trace)) ?_
 conv=>whnf
 refine Arith.mk (by show inR _;unfold inR;omega) ?_
 conv=>whnf
 cases h
 exact Nxt.mk _ ho81 (eA [(64,some 64)])
 obtain ⟨h,b82d⟩:=cfd b82 h
 conv=>whnf
 cases h
 have ho81:_=_:=ho81
 cases ho81
 exact Join.mk (eA [(64,some 64)])
 replace h:=hk52
 obtain ⟨z88,_⟩:=hp
 conv=>whnf
 cases h
 conv=>whnf
 exact Side.mk ⟨rfl,trivial⟩ ⟨rfl,rfl⟩
theorem sp_word_Common (a_:List Int) (b_:List Int) (r:Int) (h:Ok (nL cI a_)→Ok (nL cI b_)→word_Common a_ b_=some r):Sp Tryz.prog 80 [.im (nL cI a_),.im (nL cI b_)] (.im (nI r)):=by
 refine sp_of rfl [] rfl rfl rfl (Nat.le_of_ble_eq_true rfl) rfl fun hk=>?_
 replace h:=h hk.1 hk.2.1
 have z1:lZ a_:=ok_len hk.1
 have z2:lZ b_:=ok_len hk.2.1
 unfold word_Common at h
 conv=>whnf
 refine Nf.mk (List.length a_) len_map ?_
 conv=>whnf
 refine Nf.mk (List.length b_) len_map ?_
 conv=>whnf
 obtain ⟨oc,hc,hk51⟩:=bind_some h
 clear h
 have h:=hc
 clear hc
 refine Cut.mkS oc (Y:=Unit) (fun (_:Unit)=>mkSt [(0,.im (nL cI a_)),(1,.im (nL cI b_))] [] []) (fun (_:Unit)=>lZ a_∧lZ b_∧True) (by rintro ⟨⟩;exact ((Holds.avl 0 rfl).and ((Holds.avl 1 rfl).and (hT)))) ?_ ?_
 conv=>whnf
 refine Loops.iter (fun (s:Nat)=>word_Common.s2 a_ b_ s) (fun y72=>mkSt [(0,.im (nL cI a_)),(1,.im (nL cI b_)),(10,.im (nI (min (↑(List.length a_):Int) (↑(List.length b_):Int)))),(11,.im (nI (↑y72:Int)))] [] []) (fun y72=>lZ a_∧lZ b_∧True) h (eA []) (by rintro y72;exact ((Holds.avl 0 rfl).and ((Holds.avl 1 rfl).and (hT)))) ?_
 clear h
 rintro k y72 o hp h ho77
 replace h:word_Common.s2 a_ b_ y72=some o:=h
 unfold word_Common.s2 at h
 obtain ⟨z82,z83,_⟩:=hp
 conv=>whnf
 refine Both.mk ?_ ?_<;>intro b78
 obtain ⟨h,b78d⟩:=ctd b78 h
 conv=>whnf
 obtain ⟨e79,he79,h⟩:=idxn_some h
 refine ⟨_,⟨(by omega),map_at he79,rfl⟩,?_⟩
 conv=>whnf
 obtain ⟨e80,he80,h⟩:=idxn_some h
 refine ⟨_,⟨(by omega),map_at he80,rfl⟩,?_⟩
 conv=>whnf
 refine Both.mk ?_ ?_<;>intro b81
 obtain ⟨h,b81d⟩:=ctd b81 h
 conv=>whnf
 cases h
 have ho77:_=_:=ho77
 cases ho77
 replace h:some _=some _:=hk51
 cases h
 conv=>whnf
 exact ⟨rfl,rfl⟩
 obtain ⟨h,b81d⟩:=cfd b81 h
 conv=>whnf
 refine Arith.mk (by show inR _;unfold inR;omega) ?_
 conv=>whnf
 cases h
 exact Nxt.mk _ ho77 (eA [])
 obtain ⟨h,b78d⟩:=cfd b78 h
 conv=>whnf
 cases h
 have ho77:_=_:=ho77
 cases ho77
 exact JoinS.mk' _ rfl (eA [])
 rintro ⟨⟩ rfl hp
 replace h:=sum_inl hk51
 obtain ⟨z84,z85,_⟩:=hp
 conv=>whnf
 refine Nf.mk (List.length a_) len_map ?_
 conv=>whnf
 refine Nf.mk (List.length b_) len_map ?_
 conv=>whnf
 cases h
 conv=>whnf
 exact ⟨rfl,rfl⟩
theorem sp_word_HasPrefix (w_:List Int) (p_:List Int) (r:Bool) (h:Ok (nL cI w_)→Ok (nL cI p_)→word_HasPrefix w_ p_=some r):Sp Tryz.prog 59 [.im (nL cI w_),.im (nL cI p_)] (.im (nB r)):=by
 refine sp_of rfl [] rfl rfl rfl (Nat.le_of_ble_eq_true rfl) rfl fun hk=>?_
 replace h:=h hk.1 hk.2.1
 have z1:lZ w_:=ok_len hk.1
 have z2:lZ p_:=ok_len hk.2.1
 unfold word_HasPrefix at h
 conv=>whnf
 obtain ⟨c51,hc51,h⟩:=bind_some h
 refine ⟨_,(sp_word_Common w_ p_ c51 (fun _ _=>hc51)),?_⟩
 conv=>whnf
 refine Nf.mk (List.length p_) len_map ?_
 conv=>whnf
 cases h
 conv=>whnf
 exact ⟨rfl,rfl⟩
theorem sp_slices_BinarySearchFunc_Sapi_Trace_api_Trace_api_Trace (x_:List T_api_Trace) (target_:T_api_Trace) (cmp_:T_api_Trace→T_api_Trace→Option Int) (f2_:FuncId) (hf2:∀ x0 x1 r,cmp_ x0 x1=some r→Sp Tryz.prog f2_ [.im (.agg (c_api_Trace x0)),.im (.agg (c_api_Trace x1))] (.im (nI r))) (r:Int×Bool) (h:Ok (nL c_api_Trace x_)→Ok (.agg (c_api_Trace target_))→Ok (.fn f2_ [])→slices_BinarySearchFunc_Sapi_Trace_api_Trace_api_Trace x_ target_ cmp_=some r):Sp Tryz.prog 121 [.im (nL c_api_Trace x_),.im (.agg (c_api_Trace target_)),.im (.fn f2_ [])] (.tup [nI r.1,nB r.2]):=by
 refine sp_of rfl [700004] rfl rfl rfl (Nat.le_of_ble_eq_true rfl) rfl fun hk=>?_
 replace h:=h hk.1 hk.2.1 hk.2.2.1
 have z1:lZ x_:=ok_len hk.1
 have z2:lZ target_.In:=ok_len (Ok.agg_at hk.2.1 0 rfl)
 have z3:lZ target_.Out:=ok_len (Ok.agg_at hk.2.1 1 rfl)
 unfold slices_BinarySearchFunc_Sapi_Trace_api_Trace_api_Trace at h
 conv=>whnf
 refine Nf.mk (List.length x_) len_map ?_
 conv=>whnf
 obtain ⟨i81,hc,hk51⟩:=bind_some h
 clear h
 have h:=hc
 clear hc
 refine Cut.mk (mkSt [(0,.im (nL c_api_Trace x_)),(2,.im (.fn f2_ [])),(4,.im (.ref (c_api_Trace target_))),(8,.im (nI (↑(List.length x_):Int))),(9,.im (nI i81))] [] []) (lZ x_∧True) ((Holds.avl 0 rfl).and (hT)) ?_ (fun hp=>?_)
 conv=>whnf
 refine Loops.iter (fun (s:Int×Int)=>slices_BinarySearchFunc_Sapi_Trace_api_Trace_api_Trace.s2 x_ target_ cmp_ s.1 s.2) (fun (i89,j90)=>mkSt [(0,.im (nL c_api_Trace x_)),(2,.im (.fn f2_ [])),(4,.im (.ref (c_api_Trace target_))),(8,.im (nI (↑(List.length x_):Int))),(9,.im (nI i89)),(10,.im (nI j90))] [] []) (fun (i89,j90)=>lZ x_∧True) h (eA []) (by rintro ⟨i89,j90⟩;exact ((Holds.avl 0 rfl).and (hT))) ?_
 clear h
 rintro k ⟨i89,j90⟩ o hp h ho100
 replace h:slices_BinarySearchFunc_Sapi_Trace_api_Trace_api_Trace.s2 x_ target_ cmp_ i89 j90=some o:=h
 unfold slices_BinarySearchFunc_Sapi_Trace_api_Trace_api_Trace.s2 at h
 obtain ⟨z110,_⟩:=hp
 conv=>whnf
 refine Both.mk ?_ ?_<;>intro b101
 obtain ⟨h,b101d⟩:=ctd b101 h
 conv=>whnf
 obtain ⟨c102,h⟩:=chk_some h
 refine Arith.mk c102 ?_
 conv=>whnf
 obtain ⟨c103,h⟩:=chk_some h
 refine Side.mk c103 ?_
 conv=>whnf
 obtain ⟨c104,h⟩:=chk_some h
 refine Side.mk ⟨⟨by show (0:Int)≤(i89+j90) / 2^1;omega,by show (i89+j90) / 2^1≤(18446744073709551615:Int);omega⟩,c104.1,by decide,by decide⟩ ?_
 conv=>whnf
 obtain ⟨c105,h⟩:=chk_some h
 refine Side.mk c105 ?_
 conv=>whnf
 obtain ⟨e106,he106z,he106,h⟩:=idx_some h
 refine ⟨_,⟨he106z,map_at he106,rfl⟩,?_⟩
 conv=>whnf
 obtain ⟨c107,hc107,h⟩:=bind_some h
 refine ⟨_,hf2 e106 target_ c107 hc107,?_⟩
 conv=>whnf
 refine Both.mk ?_ ?_<;>intro b108
 obtain ⟨h,b108d⟩:=ctd b108 h
 conv=>whnf
 obtain ⟨c109,h⟩:=chk_some h
 refine Arith.mk c109 ?_
 conv=>whnf
 cases h
 exact Nxt.mk _ ho100 (eA [])
 obtain ⟨h,b108d⟩:=cfd b108 h
 conv=>whnf
 cases h
 exact Nxt.mk _ ho100 (eA [])
 obtain ⟨h,b101d⟩:=cfd b101 h
 conv=>whnf
 cases h
 have ho100:_=_:=ho100
 cases ho100
 exact Join.mk (eA [])
 replace h:=hk51
 obtain ⟨z111,_⟩:=hp
 conv=>whnf
 obtain ⟨y117,hc,hk113⟩:=bind_some h
 clear h
 have h:=hc
 clear hc
 refine Cut.mk (mkSt [(6,.im (nI i81)),(7,.im (nB y117))] [] []) (True) (hT) ?_ (fun hp=>?_)
 conv=>whnf
 refine Both.mk ?_ ?_<;>intro b118
 replace b118:=beq_tt b118
 obtain ⟨h,b118d⟩:=ctd b118 h
 conv=>whnf
 iterate 3 (refine Both.yes (tt_beq b118) ?_;(conv=>whnf))
 obtain ⟨e119,he119z,he119,h⟩:=idx_some h
 refine ⟨_,⟨he119z,map_at he119,rfl⟩,?_⟩
 conv=>whnf
 iterate 3 (refine Both.yes (tt_beq b118) ?_;(conv=>whnf))
 obtain ⟨c120,hc120,h⟩:=bind_some h
 refine ⟨_,hf2 e119 target_ c120 hc120,?_⟩
 conv=>whnf
 refine Both.yes (tt_beq b118) ?_
 conv=>whnf
 refine Both.yes b118 ?_
 conv=>whnf
 cases h
 exact Join.mk (eA [])
 replace b118:=beq_tf b118
 obtain ⟨h,b118d⟩:=cfd b118 h
 conv=>whnf
 iterate 7 (refine Both.no (ft_beq b118) ?_;(conv=>whnf))
 refine Both.no b118 ?_
 conv=>whnf
 cases h
 exact Join.mk (eA [])
 replace h:=hk113
 conv=>whnf
 cases h
 conv=>whnf
 exact ⟨rfl,rfl⟩
theorem sp_observe_differ (a_:T_api_Trace) (b_:T_api_Trace) (r:Int) (h:Ok (.agg (c_api_Trace a_))→Ok (.agg (c_api_Trace b_))→observe_differ a_ b_=some r):Sp Tryz.prog 118 [.im (.agg (c_api_Trace a_)),.im (.agg (c_api_Trace b_))] (.im (nI r)):=by
 refine sp_of rfl [700002,700003] rfl rfl rfl (Nat.le_of_ble_eq_true rfl) rfl fun hk=>?_
 replace h:=h hk.1 hk.2.1
 have z1:lZ a_.In:=ok_len (Ok.agg_at hk.1 0 rfl)
 have z2:lZ a_.Out:=ok_len (Ok.agg_at hk.1 1 rfl)
 have z3:lZ b_.In:=ok_len (Ok.agg_at hk.2.1 0 rfl)
 have z4:lZ b_.Out:=ok_len (Ok.agg_at hk.2.1 1 rfl)
 unfold observe_differ at h
 conv=>whnf
 obtain ⟨c51,hc51,h⟩:=bind_some h
 refine ⟨_,(sp_word_Common a_.In b_.In c51 (fun _ _=>hc51)),?_⟩
 conv=>whnf
 refine Nf.mk (List.length a_.Out) len_map ?_
 conv=>whnf
 refine Nf.mk (List.length b_.Out) len_map ?_
 conv=>whnf
 obtain ⟨c52,h⟩:=chk_some h
 refine Side.mk (show (0:Int)≤(0:Int)∧(0:Int)≤(min (min c51 (↑(List.length a_.Out):Int)) (↑(List.length b_.Out):Int))∧(min (min c51 (↑(List.length a_.Out):Int)) (↑(List.length b_.Out):Int))≤(↑(List.length (List.map cI a_.Out)):Int)∧(∀ e∈List.map cI a_.Out,List.length e=1) from ⟨by omega,by first | omega | (simp only [List.length_map];omega),by first | omega | (simp only [List.length_map];omega),map_len fun _=>rfl⟩) ?_
 conv=>whnf
 refine Nf.mk (List.map cI (List.take (Int.toNat (min (min c51 (↑(List.length a_.Out):Int)) (↑(List.length b_.Out):Int))) a_.Out)) take_map ?_
 conv=>whnf
 obtain ⟨c53,h⟩:=chk_some h
 refine Side.mk (show (0:Int)≤(0:Int)∧(0:Int)≤(min (min c51 (↑(List.length a_.Out):Int)) (↑(List.length b_.Out):Int))∧(min (min c51 (↑(List.length a_.Out):Int)) (↑(List.length b_.Out):Int))≤(↑(List.length (List.map cI b_.Out)):Int)∧(∀ e∈List.map cI b_.Out,List.length e=1) from ⟨by omega,by first | omega | (simp only [List.length_map];omega),by first | omega | (simp only [List.length_map];omega),map_len fun _=>rfl⟩) ?_
 conv=>whnf
 refine Nf.mk (List.map cI (List.take (Int.toNat (min (min c51 (↑(List.length a_.Out):Int)) (↑(List.length b_.Out):Int))) b_.Out)) take_map ?_
 conv=>whnf
 obtain ⟨c54,hc54,h⟩:=bind_some h
 refine ⟨_,(sp_word_Common (List.take (Int.toNat (min (min c51 (↑(List.length a_.Out):Int)) (↑(List.length b_.Out):Int))) a_.Out) (List.take (Int.toNat (min (min c51 (↑(List.length a_.Out):Int)) (↑(List.length b_.Out):Int))) b_.Out) c54 (fun _ _=>hc54)),?_⟩
 conv=>whnf
 refine Both.mk ?_ ?_<;>intro b55
 obtain ⟨h,b55d⟩:=ctd b55 h
 conv=>whnf
 cases h
 conv=>whnf
 exact ⟨rfl,rfl⟩
 obtain ⟨h,b55d⟩:=cfd b55 h
 conv=>whnf
 cases h
 conv=>whnf
 exact ⟨rfl,rfl⟩
theorem sp_observe_add_1 (u_:T_api_Trace) (p1_:T_api_Trace) (r:Bool) (h:Ok (.agg (c_api_Trace u_))→Ok (.ref (c_api_Trace p1_))→observe_add_1 u_ p1_=some r):Sp Tryz.prog 120 [.im (.agg (c_api_Trace u_)),.im (.ref (c_api_Trace p1_))] (.im (nB r)):=by
 refine sp_of rfl [700002] rfl rfl rfl (Nat.le_of_ble_eq_true rfl) rfl fun hk=>?_
 replace h:=h hk.1 hk.2.1
 have z1:lZ u_.In:=ok_len (Ok.agg_at hk.1 0 rfl)
 have z2:lZ u_.Out:=ok_len (Ok.agg_at hk.1 1 rfl)
 have z3:lZ p1_.In:=ok_len (Ok.ref_at hk.2.1 0 rfl)
 have z4:lZ p1_.Out:=ok_len (Ok.ref_at hk.2.1 1 rfl)
 unfold observe_add_1 at h
 conv=>whnf
 obtain ⟨c51,hc51,h⟩:=bind_some h
 refine ⟨_,(sp_word_HasPrefix p1_.In u_.In c51 (fun _ _=>hc51)),?_⟩
 conv=>whnf
 cases h
 conv=>whnf
 exact ⟨rfl,rfl⟩
theorem sp_slices_IndexFunc_Sapi_Trace_api_Trace_n1 (s_:List T_api_Trace) (f_:T_api_Trace→Option Bool) (f1_:FuncId) (k1_0:IV) (hk1_0:nz k1_0=k1_0) (hf1:∀ x0 r,f_ x0=some r→Sp Tryz.prog f1_ [.im (.agg (c_api_Trace x0)),.im k1_0] (.im (nB r))) (r:Int) (h:Ok (nL c_api_Trace s_)→Ok (.fn f1_ [k1_0])→slices_IndexFunc_Sapi_Trace_api_Trace_n1 s_ f_=some r):Sp Tryz.prog 57 [.im (nL c_api_Trace s_),.im (.fn f1_ [k1_0])] (.im (nI r)):=by
 refine sp_of rfl [] rfl rfl rfl (Nat.le_of_ble_eq_true rfl) rfl fun hk=>?_
 replace h:=h hk.1 hk.2.1
 have z1:lZ s_:=ok_len hk.1
 unfold slices_IndexFunc_Sapi_Trace_api_Trace_n1 at h
 conv=>whnf
 refine Nf.mk (List.length s_) len_map ?_
 conv=>whnf
 obtain ⟨oc,hc,hk51⟩:=bind_some h
 clear h
 have h:=hc
 clear hc
 refine Cut.mkS oc (Y:=Unit) (fun (_:Unit)=>mkSt [] [] []) (fun (_:Unit)=>True) (by rintro ⟨⟩;exact (hT)) ?_ ?_
 conv=>whnf
 refine Loops.iter (fun (s:Nat)=>slices_IndexFunc_Sapi_Trace_api_Trace_n1.s2 s_ f_ s) (fun y71=>mkSt [(0,.im (nL c_api_Trace s_)),(1,.im (.fn f1_ [k1_0])),(7,.im (nI (↑(List.length s_):Int))),(8,.im (nI (↑y71:Int)))] [] []) (fun y71=>lZ s_∧True) h (eA []) (by rintro y71;exact ((Holds.avl 0 rfl).and (hT))) ?_
 clear h
 rintro k y71 o hp h ho76
 replace h:slices_IndexFunc_Sapi_Trace_api_Trace_n1.s2 s_ f_ y71=some o:=h
 unfold slices_IndexFunc_Sapi_Trace_api_Trace_n1.s2 at h
 obtain ⟨z81,_⟩:=hp
 conv=>whnf
 refine Both.mk ?_ ?_<;>intro b77
 obtain ⟨h,b77d⟩:=ctd b77 h
 conv=>whnf
 obtain ⟨e78,he78,h⟩:=idxn_some h
 refine ⟨_,⟨(by omega),map_at he78,rfl⟩,?_⟩
 conv=>whnf
 obtain ⟨c79,hc79,h⟩:=bind_some h
 refine ⟨_,Sp.args (hf1 e78 c79 hc79) (by rw [hk1_0];try rfl),?_⟩
 conv=>whnf
 refine Both.mk ?_ ?_<;>intro b80
 replace h:=cond_t b80 h
 conv=>whnf
 cases h
 have ho76:_=_:=ho76
 cases ho76
 replace h:some _=some _:=hk51
 cases h
 conv=>whnf
 exact ⟨rfl,rfl⟩
 replace h:=cond_f b80 h
 conv=>whnf
 refine Arith.mk (by show inR _;unfold inR;omega) ?_
 conv=>whnf
 cases h
 exact Nxt.mk _ ho76 (eA [])
 obtain ⟨h,b77d⟩:=cfd b77 h
 conv=>whnf
 cases h
 have ho76:_=_:=ho76
 cases ho76
 exact JoinS.mk' _ rfl (eA [])
 rintro ⟨⟩ rfl hp
 replace h:=sum_inl hk51
 conv=>whnf
 cases h
 conv=>whnf
 exact ⟨rfl,rfl⟩
theorem sp_slices_DeleteFunc_Sapi_Trace_api_Trace_n1 (s_:List T_api_Trace) (del_:T_api_Trace→Option Bool) (f1_:FuncId) (k1_0:IV) (hk1_0:nz k1_0=k1_0) (hf1:∀ x0 r,del_ x0=some r→Sp Tryz.prog f1_ [.im (.agg (c_api_Trace x0)),.im k1_0] (.im (nB r))) (r:List T_api_Trace) (h:OkL (List.map c_api_Trace s_)→Ok (.fn f1_ [k1_0])→slices_DeleteFunc_Sapi_Trace_api_Trace_n1 s_ del_=some r):Sp Tryz.prog 119 [.row 55 2 (List.map c_api_Trace s_),.im (.fn f1_ [k1_0])] (.row 55 2 (List.map c_api_Trace r)):=by
 refine sp_of rfl [500010] rfl rfl rfl (Nat.le_of_ble_eq_true rfl) rfl fun hk=>?_
 replace h:=h hk.1 hk.2.1
 have z1:lZ s_:=okl_len hk.1
 unfold slices_DeleteFunc_Sapi_Trace_api_Trace_n1 at h
 conv=>whnf
 refine Side.mk ⟨rfl,trivial⟩ ?_
 conv=>whnf
 obtain ⟨c51,hc51,h⟩:=bind_some h
 refine ⟨_,(sp_slices_IndexFunc_Sapi_Trace_api_Trace_n1 s_ del_ f1_ k1_0 hk1_0 hf1 c51 (fun _ _=>hc51)),?_⟩
 conv=>whnf
 refine Side.mk flat_one ?_
 conv=>whnf
 refine Both.mk ?_ ?_<;>intro b52
 obtain ⟨h,b52d⟩:=ctd b52 h
 conv=>whnf
 cases h
 conv=>whnf
 exact Side.mk ⟨rfl,trivial⟩ ⟨rfl,rfl⟩
 obtain ⟨h,b52d⟩:=cfd b52 h
 conv=>whnf
 obtain ⟨c53,h⟩:=chk_some h
 refine Arith.mk c53 ?_
 conv=>whnf
 obtain ⟨⟨y84,i85⟩,hc,hk54⟩:=bind_some h
 clear h
 have h:=hc
 clear hc
 refine Cut.mk (mkSt [(0,.osl 64 1),(5,.im (nI i85))] [(64,.row 55 2 (List.map c_api_Trace y84))] []) (lZ y84∧True) ((Holds.kdl 64 rfl).and (hT)) ?_ (fun hp=>?_)
 conv=>whnf
 refine Loops.iter (fun (s:List T_api_Trace×Int×Int)=>slices_DeleteFunc_Sapi_Trace_api_Trace_n1.s2 del_ s.1 s.2.1 s.2.2) (fun (y94,i95,j96)=>mkSt [(0,.osl 64 1),(1,.im (.fn f1_ [k1_0])),(5,.im (nI i95)),(6,.im (nI j96))] [(64,.row 55 2 (List.map c_api_Trace y94))] []) (fun (y94,i95,j96)=>lZ y94∧True) h (eA [(64,some 0)]) (by rintro ⟨y94,i95,j96⟩;exact ((Holds.kdl 64 rfl).and (hT))) ?_
 clear h
 rintro k ⟨y94,i95,j96⟩ o hp h ho105
 replace h:slices_DeleteFunc_Sapi_Trace_api_Trace_n1.s2 del_ y94 i95 j96=some o:=h
 unfold slices_DeleteFunc_Sapi_Trace_api_Trace_n1.s2 at h
 obtain ⟨z114,_⟩:=hp
 conv=>whnf
 refine Side.mk rfl ?_
 conv=>whnf
 refine Nf.mk (List.length y94) len_map ?_
 conv=>whnf
 refine Both.mk ?_ ?_<;>intro b106
 obtain ⟨h,b106d⟩:=ctd b106 h
 conv=>whnf
 obtain ⟨e107,he107z,he107,h⟩:=idx_some h
 refine Side.mk ⟨he107z,rfl,map_lt he107⟩ ?_
 conv=>whnf
 refine ⟨_,⟨rfl,map_at he107,of_decide_eq_true rfl,rfl⟩,?_⟩
 conv=>whnf
 refine Side.mk rfl ?_
 conv=>whnf
 refine Side.mk rfl ?_
 conv=>whnf
 obtain ⟨c108,hc108,h⟩:=bind_some h
 refine ⟨_,Sp.args (hf1 e107 c108 hc108) (by rw [hk1_0];try rfl),?_⟩
 conv=>whnf
 refine Both.mk ?_ ?_<;>intro b109
 replace h:=cond_t b109 h
 conv=>whnf
 refine Side.mk rfl ?_
 conv=>whnf
 obtain ⟨e110,he110z,he110,h⟩:=idx_some h
 refine Side.mk ⟨he110z,rfl,map_lt he110⟩ ?_
 conv=>whnf
 refine Side.mk ⟨rfl,trivial⟩ ?_
 conv=>whnf
 refine ⟨_,map_at he110,?_⟩
 conv=>whnf
 refine Nf.mk (List.map c_api_Trace (List.set y94 i95.toNat e107)) (set_map rfl) ?_
 conv=>whnf
 obtain ⟨c111,h⟩:=chk_some h
 refine Arith.mk c111 ?_
 conv=>whnf
 obtain ⟨c112,h⟩:=chk_some h
 refine Arith.mk c112 ?_
 conv=>whnf
 cases h
 exact Nxt.mk _ ho105 (eA [(64,some 64)])
 replace h:=cond_f b109 h
 conv=>whnf
 obtain ⟨c113,h⟩:=chk_some h
 refine Arith.mk c113 ?_
 conv=>whnf
 cases h
 exact Nxt.mk _ ho105 (eA [(64,some 64)])
 obtain ⟨h,b106d⟩:=cfd b106 h
 conv=>whnf
 cases h
 have ho105:_=_:=ho105
 cases ho105
 exact Join.mk (eA [(64,some 64)])
 replace h:slices_DeleteFunc_Sapi_Trace_api_Trace_n1.k3 y84 i85=some _:=hk54
 unfold slices_DeleteFunc_Sapi_Trace_api_Trace_n1.k3 at h
 obtain ⟨z115,_⟩:=hp
 conv=>whnf
 obtain ⟨c116,h⟩:=chk_some h
 refine Side.mk ⟨rfl,c116.1,by have hh_:=c116;simp only [List.length_map];omega,by have hh_:=c116;simp only [List.length_map];omega⟩ ?_
 conv=>whnf
 obtain ⟨c117,h⟩:=chk_some h
 refine Side.mk ⟨rfl,by have hh_:=c117;simp only [List.length_map];omega⟩ ?_
 conv=>whnf
 refine Nf.mk (List.map c_api_Trace (List.take (Int.toNat i85) y84++List.replicate (List.length y84-(Int.toNat i85)) (⟨[],[]⟩:T_api_Trace))) (clr_map (z:=(⟨[],[]⟩:T_api_Trace)) rfl) ?_
 conv=>whnf
 obtain ⟨c118,h⟩:=chk_some h
 refine Side.mk ⟨rfl,c118.1,by have hh_:=c118;simp only [List.length_map];omega,by have hh_:=c118;simp only [List.length_map];omega⟩ ?_
 conv=>whnf
 refine Nf.mk (List.map c_api_Trace (List.take (Int.toNat i85) (List.take (Int.toNat i85) y84++List.replicate (List.length y84-(Int.toNat i85)) (⟨[],[]⟩:T_api_Trace)))) cut_own ?_
 conv=>whnf
 cases h
 conv=>whnf
 exact Side.mk ⟨rfl,trivial⟩ ⟨rfl,rfl⟩
theorem sp_observe_order (a_:T_api_Trace) (b_:T_api_Trace) (r:Int) (h:Ok (.agg (c_api_Trace a_))→Ok (.agg (c_api_Trace b_))→observe_order a_ b_=some r):Sp Tryz.prog 122 [.im (.agg (c_api_Trace a_)),.im (.agg (c_api_Trace b_))] (.im (nI r)):=by
 refine sp_of rfl [700002,700003] rfl rfl rfl (Nat.le_of_ble_eq_true rfl) rfl fun hk=>?_
 replace h:=h hk.1 hk.2.1
 have z1:lZ a_.In:=ok_len (Ok.agg_at hk.1 0 rfl)
 have z2:lZ a_.Out:=ok_len (Ok.agg_at hk.1 1 rfl)
 have z3:lZ b_.In:=ok_len (Ok.agg_at hk.2.1 0 rfl)
 have z4:lZ b_.Out:=ok_len (Ok.agg_at hk.2.1 1 rfl)
 unfold observe_order at h
 conv=>whnf
 obtain ⟨c51,hc51,h⟩:=bind_some h
 refine ⟨_,(sp_word_Compare a_.In b_.In c51 (fun _ _=>hc51)),?_⟩
 conv=>whnf
 cases h
 conv=>whnf
 exact ⟨rfl,rfl⟩
theorem sp_observe_add (l_:List T_api_Trace) (t_:T_api_Trace) (r:List T_api_Trace×Int) (h:OkL (List.map c_api_Trace l_)→Ok (.agg (c_api_Trace t_))→observe_add l_ t_=some r):Sp Tryz.prog 79 [.row 55 2 (List.map c_api_Trace l_),.im (.agg (c_api_Trace t_))] (.mk true [.ow (.row 55 2 (List.map c_api_Trace r.1)),.im (nI r.2)] []):=by
 refine sp_of rfl [54,41000,56000,56002,500047,700003] rfl rfl rfl (Nat.le_of_ble_eq_true rfl) rfl fun hk=>?_
 replace h:=h hk.1 hk.2.1
 have z1:lZ l_:=okl_len hk.1
 have z2:lZ t_.In:=ok_len (Ok.agg_at hk.2.1 0 rfl)
 have z3:lZ t_.Out:=ok_len (Ok.agg_at hk.2.1 1 rfl)
 unfold observe_add at h
 conv=>whnf
 refine Side.mk rfl ?_
 conv=>whnf
 refine Nf.mk (List.length l_) len_map ?_
 conv=>whnf
 obtain ⟨oc,hc,hk51⟩:=bind_some h
 clear h
 have h:=hc
 clear hc
 refine Cut.mkS oc (Y:=Bool) (fun inside73=>mkSt [(0,.osl 64 1),(3,.im (.ref (c_api_Trace t_))),(6,.im (nB inside73))] [(64,.row 55 2 (List.map c_api_Trace l_))] []) (fun inside73=>lZ l_∧True) (by rintro inside73;exact ((Holds.kdl 64 rfl).and (hT))) ?_ ?_
 conv=>whnf
 refine Loops.iter (fun (s:Bool×Nat)=>observe_add.s2 l_ t_ s.1 s.2) (fun (inside79,y80)=>mkSt [(0,.osl 64 1),(3,.im (.ref (c_api_Trace t_))),(6,.im (nB inside79)),(11,.osl 64 1),(12,.im (nI (↑(List.length l_):Int))),(13,.im (nI (↑y80:Int)))] [(64,.row 55 2 (List.map c_api_Trace l_))] []) (fun (inside79,y80)=>lZ l_∧True) h (eA [(64,some 0)]) (by rintro ⟨inside79,y80⟩;exact ((Holds.kdl 64 rfl).and (hT))) ?_
 clear h
 rintro k ⟨inside79,y80⟩ o hp h ho87
 replace h:observe_add.s2 l_ t_ inside79 y80=some o:=h
 unfold observe_add.s2 at h
 obtain ⟨z94,_⟩:=hp
 conv=>whnf
 refine Both.mk ?_ ?_<;>intro b88
 obtain ⟨h,b88d⟩:=ctd b88 h
 conv=>whnf
 obtain ⟨e89,he89,h⟩:=idxn_some h
 refine Side.mk ⟨(by omega),rfl,map_lt he89⟩ ?_
 conv=>whnf
 refine ⟨_,⟨rfl,map_at he89,of_decide_eq_true rfl,rfl⟩,?_⟩
 conv=>whnf
 refine Side.mk rfl ?_
 conv=>whnf
 refine Side.mk rfl ?_
 conv=>whnf
 obtain ⟨c90,hc90,h⟩:=bind_some h
 refine ⟨_,(sp_observe_differ e89 t_ c90 (fun _ _=>hc90)),?_⟩
 conv=>whnf
 refine Both.mk ?_ ?_<;>intro b91
 obtain ⟨h,b91d⟩:=ctd b91 h
 conv=>whnf
 cases h
 have ho87:_=_:=ho87
 cases ho87
 replace h:some _=some _:=hk51
 cases h
 conv=>whnf
 exact ⟨rfl,rfl⟩
 obtain ⟨h,b91d⟩:=cfd b91 h
 conv=>whnf
 refine Both.mk ?_ ?_<;>intro b92
 replace b92:=beq_ff b92
 replace h:=cond_f b92 h
 conv=>whnf
 refine Side.mk rfl ?_
 conv=>whnf
 refine Both.yes (ff_beq b92) ?_
 conv=>whnf
 refine Side.mk rfl ?_
 conv=>whnf
 iterate 3 (refine Both.yes (ff_beq b92) ?_;(conv=>whnf))
 obtain ⟨c93,hc93,h⟩:=bind_some h
 refine ⟨_,(sp_word_HasPrefix e89.In t_.In c93 (fun _ _=>hc93)),?_⟩
 conv=>whnf
 refine Both.no b92 ?_
 conv=>whnf
 refine Arith.mk (by show inR _;unfold inR;omega) ?_
 conv=>whnf
 cases h
 exact Nxt.mk _ ho87 (eA [(64,some 64)])
 replace b92:=beq_ft b92
 replace h:=cond_t b92 h
 conv=>whnf
 iterate 4 (refine Both.no (tf_beq b92) ?_;(conv=>whnf))
 refine Both.yes b92 ?_
 conv=>whnf
 refine Arith.mk (by show inR _;unfold inR;omega) ?_
 conv=>whnf
 cases h
 exact Nxt.mk _ ho87 (eA [(64,some 64)])
 obtain ⟨h,b88d⟩:=cfd b88 h
 conv=>whnf
 cases h
 have ho87:_=_:=ho87
 cases ho87
 exact JoinS.mk' _ rfl (eA [(64,some 64)])
 rintro inside73 rfl hp
 replace h:=sum_inl hk51
 obtain ⟨z95,_⟩:=hp
 conv=>whnf
 obtain ⟨y99,hc,hk97⟩:=bind_some h
 clear h
 have h:=hc
 clear hc
 refine Cut.mk (mkSt [(0,.osl 64 1),(3,.im (.ref (c_api_Trace t_))),(36,.im (nB y99))] [(64,.row 55 2 (List.map c_api_Trace l_))] []) (lZ l_∧True) ((Holds.kdl 64 rfl).and (hT)) ?_ (fun hp=>?_)
 conv=>whnf
 refine Both.mk ?_ ?_<;>intro b100
 replace b100:=beq_ff b100
 replace h:=cond_f b100 h
 conv=>whnf
 iterate 2 (refine Both.yes (ff_beq b100) ?_;(conv=>whnf))
 refine Nf.mk (List.length t_.In) len_map ?_
 conv=>whnf
 refine Both.yes (ff_beq b100) ?_
 conv=>whnf
 refine Both.no b100 ?_
 conv=>whnf
 cases h
 exact Join.mk (eA [(64,some 64)])
 replace b100:=beq_ft b100
 replace h:=cond_t b100 h
 conv=>whnf
 iterate 3 (refine Both.no (tf_beq b100) ?_;(conv=>whnf))
 refine Both.yes b100 ?_
 conv=>whnf
 cases h
 exact Join.mk (eA [(64,some 64)])
 replace h:=hk97
 obtain ⟨z101,_⟩:=hp
 conv=>whnf
 refine Both.mk ?_ ?_<;>intro b102
 replace h:=cond_t b102 h
 conv=>whnf
 cases h
 conv=>whnf
 exact Side.mk ⟨rfl,trivial⟩ ⟨rfl,rfl⟩
 replace h:=cond_f b102 h
 conv=>whnf
 refine Side.mk ⟨rfl,trivial⟩ ?_
 conv=>whnf
 obtain ⟨c103,hc103,h⟩:=bind_some h
 refine ⟨_,(sp_slices_DeleteFunc_Sapi_Trace_api_Trace_n1 l_ (fun u0=>observe_add_1 u0 t_) 120 (.ref (c_api_Trace t_)) rfl (fun u0 r h=>(sp_observe_add_1 u0 t_ r (fun _ _=>h))) c103 (fun _ _=>hc103)),?_⟩
 conv=>whnf
 refine Side.mk rfl ?_
 conv=>whnf
 refine Nf.mk (List.length c103) len_map ?_
 conv=>whnf
 refine Both.mk ?_ ?_<;>intro b104
 obtain ⟨h,b104d⟩:=ctd b104 h
 conv=>whnf
 cases h
 conv=>whnf
 exact ⟨rfl,rfl⟩
 obtain ⟨h,b104d⟩:=cfd b104 h
 conv=>whnf
 refine Side.mk ⟨rfl,trivial⟩ ?_
 conv=>whnf
 obtain ⟨c105,hc105,h⟩:=bind_some h
 refine ⟨_,(sp_slices_BinarySearchFunc_Sapi_Trace_api_Trace_api_Trace c103 t_ (fun u0 u1=>observe_order u0 u1) 122 (fun u0 u1 r h=>(sp_observe_order u0 u1 r (fun _ _=>h))) c105 (fun _ _ _=>hc105)),?_⟩
 conv=>whnf
 refine Side.mk (by simp [flatRs,flatOc]) ?_
 conv=>whnf
 obtain ⟨c106,hc106,h⟩:=bind_some h
 refine ⟨_,(sp_observe_copied t_ c106 (fun _=>hc106)),?_⟩
 conv=>whnf
 refine Side.mk ⟨rfl,rfl,trivial⟩ ?_
 conv=>whnf
 obtain ⟨c107,hc107,h⟩:=bind_some h
 refine ⟨_,(sp_lib_Insert_traces c103 c105.1 [c106] c107 (hc107)),?_⟩
 conv=>whnf
 cases h
 conv=>whnf
 exact Side.mk ⟨rfl,trivial⟩ ⟨rfl,rfl⟩
theorem sp_observe_proper_1 (o_:Int) (r:Bool) (h:Ok (nI o_)→observe_proper_1 o_=some r):Sp Tryz.prog 117 [.im (nI o_)] (.im (nB r)):=by
 refine sp_of rfl [] rfl rfl rfl (Nat.le_of_ble_eq_true rfl) rfl fun hk=>?_
 replace h:=h hk.1
 unfold observe_proper_1 at h
 conv=>whnf
 obtain ⟨y54,hc,hk52⟩:=bind_some h
 clear h
 have h:=hc
 clear hc
 refine Cut.mk (mkSt [(2,.im (nB y54))] [] []) (True) (hT) ?_ (fun hp=>?_)
 conv=>whnf
 refine Both.mk ?_ ?_<;>intro b55
 replace b55:=beq_ff b55
 obtain ⟨h,b55d⟩:=cfd b55 h
 conv=>whnf
 refine Both.yes (ff_beq b55) ?_
 conv=>whnf
 refine Both.no b55 ?_
 conv=>whnf
 cases h
 exact Join.mk (eA [])
 replace b55:=beq_ft b55
 obtain ⟨h,b55d⟩:=ctd b55 h
 conv=>whnf
 refine Both.no (tf_beq b55) ?_
 conv=>whnf
 refine Both.yes b55 ?_
 conv=>whnf
 cases h
 exact Join.mk (eA [])
 replace h:=hk52
 conv=>whnf
 cases h
 conv=>whnf
 exact ⟨rfl,rfl⟩
theorem sp_observe_proper (t_:T_api_Trace) (inputs_:Int) (r:Int) (h:Ok (.agg (c_api_Trace t_))→Ok (nI inputs_)→observe_proper t_ inputs_=some r):Sp Tryz.prog 78 [.im (.agg (c_api_Trace t_)),.im (nI inputs_)] (.im (nI r)):=by
 refine sp_of rfl [700002] rfl rfl rfl (Nat.le_of_ble_eq_true rfl) rfl fun hk=>?_
 replace h:=h hk.1 hk.2.1
 have z1:lZ t_.In:=ok_len (Ok.agg_at hk.1 0 rfl)
 have z2:lZ t_.Out:=ok_len (Ok.agg_at hk.1 1 rfl)
 unfold observe_proper at h
 conv=>whnf
 obtain ⟨c51,hc51,h⟩:=bind_some h
 refine ⟨_,(sp_word_Check t_.In inputs_ c51 (fun _ _=>hc51)),?_⟩
 conv=>whnf
 refine Both.mk ?_ ?_<;>intro b52
 obtain ⟨h,b52d⟩:=ctd b52 h
 conv=>whnf
 cases h
 conv=>whnf
 exact ⟨rfl,rfl⟩
 obtain ⟨h,b52d⟩:=cfd b52 h
 conv=>whnf
 refine Nf.mk (List.length t_.Out) len_map ?_
 conv=>whnf
 refine Nf.mk (List.length t_.In) len_map ?_
 conv=>whnf
 refine Both.mk ?_ ?_<;>intro b53
 obtain ⟨h,b53d⟩:=ctd b53 h
 conv=>whnf
 cases h
 conv=>whnf
 exact ⟨rfl,rfl⟩
 obtain ⟨h,b53d⟩:=cfd b53 h
 conv=>whnf
 obtain ⟨c54,hc54,h⟩:=bind_some h
 refine ⟨_,(sp_slices_ContainsFunc_Sint_int t_.Out (fun u0=>observe_proper_1 u0) 117 (fun u0 r h=>(sp_observe_proper_1 u0 r (fun _=>h))) c54 (fun _ _=>hc54)),?_⟩
 conv=>whnf
 refine Both.mk ?_ ?_<;>intro b55
 replace h:=cond_t b55 h
 conv=>whnf
 cases h
 conv=>whnf
 exact ⟨rfl,rfl⟩
 replace h:=cond_f b55 h
 conv=>whnf
 cases h
 conv=>whnf
 exact ⟨rfl,rfl⟩
theorem sp_observe_all (o_:T_api_Obs) (l_:List T_api_Trace) (r:T_api_Obs×Int) (h:Ok (.agg (c_api_Obs o_))→Ok (nL c_api_Trace l_)→observe_all o_ l_=some r):Sp Tryz.prog 56 [.im (.agg (c_api_Obs o_)),.im (nL c_api_Trace l_)] (.tup [.agg (c_api_Obs r.1),nI r.2]):=by
 refine sp_of rfl [33000,700002] rfl rfl rfl (Nat.le_of_ble_eq_true rfl) rfl fun hk=>?_
 replace h:=h hk.1 hk.2.1
 have z1:lZ o_.Traces:=ok_len (Ok.agg_at hk.1 1 rfl)
 have z2:lZ l_:=ok_len hk.2.1
 unfold observe_all at h
 conv=>whnf
 obtain ⟨c51,hc51,h⟩:=bind_some h
 refine ⟨_,(sp_observe_owned o_.Traces c51 (fun _=>hc51)),?_⟩
 conv=>whnf
 refine Nf.mk (List.length l_) len_map ?_
 conv=>whnf
 obtain ⟨oc,hc,hk52⟩:=bind_some h
 clear h
 have h:=hc
 clear hc
 refine Cut.mkS oc (Y:=List T_api_Trace) (fun y76=>mkSt [(2,.im (.ref (c_api_Obs o_))),(4,.own 64 1 0),(6,.osl 65 1)] [(64,.box 42 2),(65,.row 55 2 (List.map c_api_Trace y76))] [(64,0,.im (nI 0)),(64,1,.im (.val (.slice none 0 0)))]) (fun y76=>lZ y76∧True) (by rintro y76;exact ((Holds.kdl 65 rfl).and (hT))) ?_ ?_
 conv=>whnf
 refine Loops.iter (fun (s:List T_api_Trace×Nat)=>observe_all.s2 o_ l_ s.1 s.2) (fun (y83,y84)=>mkSt [(2,.im (.ref (c_api_Obs o_))),(4,.own 64 1 0),(6,.osl 65 1),(15,.im (nL c_api_Trace l_)),(16,.im (nI (↑(List.length l_):Int))),(17,.im (nI (↑y84:Int)))] [(64,.box 42 2),(65,.row 55 2 (List.map c_api_Trace y83))] [(64,0,.im (nI 0)),(64,1,.im (.val (.slice none 0 0)))]) (fun (y83,y84)=>lZ l_∧lZ y83∧True) h (eA [(64,some 4),(65,some 14)]) (by rintro ⟨y83,y84⟩;exact ((Holds.avl 15 rfl).and ((Holds.kdl 65 rfl).and (hT)))) ?_
 clear h
 rintro k ⟨y83,y84⟩ o hp h ho91
 replace h:observe_all.s2 o_ l_ y83 y84=some o:=h
 unfold observe_all.s2 at h
 obtain ⟨z98,z99,_⟩:=hp
 conv=>whnf
 refine Both.mk ?_ ?_<;>intro b92
 obtain ⟨h,b92d⟩:=ctd b92 h
 conv=>whnf
 obtain ⟨e93,he93,h⟩:=idxn_some h
 refine ⟨_,⟨(by omega),map_at he93,rfl⟩,?_⟩
 conv=>whnf
 refine Side.mk rfl ?_
 conv=>whnf
 refine Side.mk rfl ?_
 conv=>whnf
 obtain ⟨c94,hc94,h⟩:=bind_some h
 refine ⟨_,(sp_observe_proper e93 o_.Inputs c94 (fun _ _=>hc94)),?_⟩
 conv=>whnf
 refine Both.mk ?_ ?_<;>intro b95
 obtain ⟨h,b95d⟩:=ctd b95 h
 conv=>whnf
 refine Side.mk rfl ?_
 conv=>whnf
 cases h
 have ho91:_=_:=ho91
 cases ho91
 replace h:some _=some _:=hk52
 cases h
 conv=>whnf
 refine Side.mk ⟨rfl,trivial⟩ ?_
 conv=>whnf
 exact ⟨rfl,rfl⟩
 obtain ⟨h,b95d⟩:=cfd b95 h
 conv=>whnf
 refine Side.mk rfl ?_
 conv=>whnf
 refine Side.mk ⟨rfl,trivial⟩ ?_
 conv=>whnf
 obtain ⟨c96,hc96,h⟩:=bind_some h
 refine ⟨_,(sp_observe_add y83 e93 c96 (fun _ _=>hc96)),?_⟩
 conv=>whnf
 refine Both.mk ?_ ?_<;>intro b97
 obtain ⟨h,b97d⟩:=ctd b97 h
 conv=>whnf
 refine Side.mk rfl ?_
 conv=>whnf
 cases h
 have ho91:_=_:=ho91
 cases ho91
 replace h:some _=some _:=hk52
 cases h
 conv=>whnf
 refine Side.mk ⟨rfl,trivial⟩ ?_
 conv=>whnf
 exact ⟨rfl,rfl⟩
 obtain ⟨h,b97d⟩:=cfd b97 h
 conv=>whnf
 refine Arith.mk (by show inR _;unfold inR;omega) ?_
 conv=>whnf
 cases h
 exact Nxt.mk _ ho91 (eA [(64,some 64),(65,some 3228)])
 obtain ⟨h,b92d⟩:=cfd b92 h
 conv=>whnf
 cases h
 have ho91:_=_:=ho91
 cases ho91
 exact JoinS.mk' _ rfl (eA [(64,some 64),(65,some 65)])
 rintro y76 rfl hp
 replace h:=sum_inl hk52
 obtain ⟨z100,_⟩:=hp
 conv=>whnf
 refine Side.mk rfl ?_
 conv=>whnf
 cases h
 conv=>whnf
 refine Side.mk ⟨rfl,trivial⟩ ?_
 conv=>whnf
 exact Side.mk ⟨rfl,trivial⟩ ⟨rfl,rfl⟩
theorem sp_observe_Add (o_:T_api_Obs) (t_:T_api_Trace) (r:T_api_Obs×Int) (h:Ok (.agg (c_api_Obs o_))→Ok (.agg (c_api_Trace t_))→observe_Add o_ t_=some r):Sp Tryz.prog 27 [.im (.agg (c_api_Obs o_)),.im (.agg (c_api_Trace t_))] (.tup [.agg (c_api_Obs r.1),nI r.2]):=by
 refine sp_of rfl [700002,700003] rfl rfl rfl (Nat.le_of_ble_eq_true rfl) rfl fun hk=>?_
 replace h:=h hk.1 hk.2.1
 have z1:lZ o_.Traces:=ok_len (Ok.agg_at hk.1 1 rfl)
 have z2:lZ t_.In:=ok_len (Ok.agg_at hk.2.1 0 rfl)
 have z3:lZ t_.Out:=ok_len (Ok.agg_at hk.2.1 1 rfl)
 unfold observe_Add at h
 conv=>whnf
 obtain ⟨c51,hc51,h⟩:=bind_some h
 refine ⟨_,(sp_observe_all o_ [t_] c51 (fun _ _=>hc51)),?_⟩
 conv=>whnf
 refine Side.mk rfl ?_
 conv=>whnf
 cases h
 conv=>whnf
 refine Side.mk ⟨rfl,trivial⟩ ?_
 conv=>whnf
 exact ⟨rfl,rfl⟩
theorem sp_nondet_Settle (l_:List T_api_Trace) (inputs_:Int) (r:T_api_Obs×List T_api_Clash×Int) (h:Ok (nL c_api_Trace l_)→Ok (nI inputs_)→nondet_Settle l_ inputs_=some r):Sp Tryz.prog 21 [.im (nL c_api_Trace l_),.im (nI inputs_)] (.tup [.agg (c_api_Obs r.1),nL c_api_Clash r.2.1,nI r.2.2]):=by
 refine sp_of rfl [] rfl rfl rfl (Nat.le_of_ble_eq_true rfl) rfl fun hk=>?_
 replace h:=h hk.1 hk.2.1
 have z1:lZ l_:=ok_len hk.1
 unfold nondet_Settle at h
 conv=>whnf
 obtain ⟨c51,hc51,h⟩:=bind_some h
 refine ⟨_,(sp_observe_New inputs_ c51 (fun _=>hc51)),?_⟩
 conv=>whnf
 refine Side.mk rfl ?_
 conv=>whnf
 refine Both.mk ?_ ?_<;>intro b52
 obtain ⟨h,b52d⟩:=ctd b52 h
 conv=>whnf
 refine Side.mk rfl ?_
 conv=>whnf
 cases h
 conv=>whnf
 refine Side.mk ⟨rfl,trivial⟩ ?_
 conv=>whnf
 exact ⟨rfl,rfl⟩
 obtain ⟨h,b52d⟩:=cfd b52 h
 conv=>whnf
 refine Nf.mk (List.length l_) len_map ?_
 conv=>whnf
 obtain ⟨oc,hc,hk53⟩:=bind_some h
 clear h
 have h:=hc
 clear hc
 refine Cut.mkS oc (Y:=Unit) (fun (_:Unit)=>mkSt [(0,.im (nL c_api_Trace l_)),(4,.own 104 1 0),(7,.own 105 1 0)] [(104,.box 42 2),(105,.box 42 2)] [(104,0,.im (nI 0)),(104,1,.im (.val (.slice none 0 0))),(105,0,.im (nI c51.1.Inputs)),(105,1,.im (nL c_api_Trace c51.1.Traces))]) (fun (_:Unit)=>lZ l_∧lZ c51.1.Traces∧True) (by rintro ⟨⟩;exact ((Holds.avl 0 rfl).and ((Holds.cel 105 1 rfl (by decide) rfl).and (hT)))) ?_ ?_
 conv=>whnf
 refine Loops.iter (fun (s:Nat)=>nondet_Settle.s2 l_ inputs_ s) (fun y74=>mkSt [(0,.im (nL c_api_Trace l_)),(1,.im (nI inputs_)),(4,.own 104 1 0),(7,.own 105 1 0),(30,.im (nL c_api_Trace l_)),(31,.im (nI (↑(List.length l_):Int))),(32,.im (nI (↑y74:Int)))] [(104,.box 42 2),(105,.box 42 2)] [(104,0,.im (nI 0)),(104,1,.im (.val (.slice none 0 0))),(105,0,.im (nI c51.1.Inputs)),(105,1,.im (nL c_api_Trace c51.1.Traces))]) (fun y74=>lZ l_∧lZ c51.1.Traces∧True) h (eA [(104,some 4),(105,some 7)]) (by rintro y74;exact ((Holds.avl 0 rfl).and ((Holds.cel 105 1 rfl (by decide) rfl).and (hT)))) ?_
 clear h
 rintro k y74 o hp h ho79
 replace h:nondet_Settle.s2 l_ inputs_ y74=some o:=h
 unfold nondet_Settle.s2 at h
 obtain ⟨z84,z85,_⟩:=hp
 conv=>whnf
 refine Both.mk ?_ ?_<;>intro b80
 obtain ⟨h,b80d⟩:=ctd b80 h
 conv=>whnf
 obtain ⟨e81,he81,h⟩:=idxn_some h
 refine ⟨_,⟨(by omega),map_at he81,rfl⟩,?_⟩
 conv=>whnf
 refine Side.mk rfl ?_
 conv=>whnf
 refine Side.mk rfl ?_
 conv=>whnf
 obtain ⟨c82,hc82,h⟩:=bind_some h
 refine ⟨_,(sp_nondet_proper e81 inputs_ c82 (fun _ _=>hc82)),?_⟩
 conv=>whnf
 refine Both.mk ?_ ?_<;>intro b83
 obtain ⟨h,b83d⟩:=ctd b83 h
 conv=>whnf
 refine Side.mk rfl ?_
 conv=>whnf
 cases h
 have ho79:_=_:=ho79
 cases ho79
 replace h:some _=some _:=hk53
 cases h
 conv=>whnf
 refine Side.mk ⟨rfl,trivial⟩ ?_
 conv=>whnf
 exact ⟨rfl,rfl⟩
 obtain ⟨h,b83d⟩:=cfd b83 h
 conv=>whnf
 refine Arith.mk (by show inR _;unfold inR;omega) ?_
 conv=>whnf
 cases h
 exact Nxt.mk _ ho79 (eA [(104,some 104),(105,some 105)])
 obtain ⟨h,b80d⟩:=cfd b80 h
 conv=>whnf
 cases h
 have ho79:_=_:=ho79
 cases ho79
 exact JoinS.mk' _ rfl (eA [(104,some 104),(105,some 105)])
 rintro ⟨⟩ rfl hp
 replace h:=sum_inl hk53
 obtain ⟨z86,z87,_⟩:=hp
 conv=>whnf
 obtain ⟨c88,hc88,h⟩:=bind_some h
 refine ⟨_,(sp_nondet_Clashes l_ c88 (hc88)).im,?_⟩
 conv=>whnf
 refine Nf.mk (List.length c88) len_map ?_
 conv=>whnf
 obtain ⟨y105,hc,hk89⟩:=bind_some h
 clear h
 have h:=hc
 clear hc
 refine Cut.mk (mkSt [(0,.im (nL c_api_Trace l_)),(4,.own 104 1 0),(7,.own 105 1 0),(12,.im (nL c_api_Clash c88)),(13,.osl 106 1)] [(104,.box 42 2),(105,.box 42 2),(106,.map (mapV wS wB y105))] [(104,0,.im (nI 0)),(104,1,.im (.val (.slice none 0 0))),(105,0,.im (nI c51.1.Inputs)),(105,1,.im (nL c_api_Trace c51.1.Traces))]) (lZ l_∧lZ c88∧lZ c51.1.Traces∧True) ((Holds.avl 0 rfl).and ((Holds.avl 12 rfl).and ((Holds.cel 105 1 rfl (by decide) rfl).and (hT)))) ?_ (fun hp=>?_)
 conv=>whnf
 refine Loops.iter (fun (s:(List (ByteArray×Bool))×Nat)=>nondet_Settle.s4 c88 s.1 s.2) (fun (y109,y110)=>mkSt [(0,.im (nL c_api_Trace l_)),(4,.own 104 1 0),(7,.own 105 1 0),(12,.im (nL c_api_Clash c88)),(13,.osl 106 1),(47,.im (nL c_api_Clash c88)),(48,.im (nI (↑(List.length c88):Int))),(49,.im (nI (↑y110:Int)))] [(104,.box 42 2),(105,.box 42 2),(106,.map (mapV wS wB y109))] [(104,0,.im (nI 0)),(104,1,.im (.val (.slice none 0 0))),(105,0,.im (nI c51.1.Inputs)),(105,1,.im (nL c_api_Trace c51.1.Traces))]) (fun (y109,y110)=>lZ l_∧lZ c88∧lZ c51.1.Traces∧True) h (eA [(104,some 104),(105,some 105),(106,some 46)]) (by rintro ⟨y109,y110⟩;exact ((Holds.avl 0 rfl).and ((Holds.avl 12 rfl).and ((Holds.cel 105 1 rfl (by decide) rfl).and (hT))))) ?_
 clear h
 rintro k ⟨y109,y110⟩ o hp h ho114
 replace h:nondet_Settle.s4 c88 y109 y110=some o:=h
 unfold nondet_Settle.s4 at h
 obtain ⟨z118,z119,z120,_⟩:=hp
 conv=>whnf
 refine Both.mk ?_ ?_<;>intro b115
 obtain ⟨h,b115d⟩:=ctd b115 h
 conv=>whnf
 obtain ⟨e116,he116,h⟩:=idxn_some h
 refine ⟨_,⟨(by omega),map_at he116,rfl⟩,?_⟩
 conv=>whnf
 refine Side.mk rfl ?_
 conv=>whnf
 refine Side.mk rfl ?_
 conv=>whnf
 refine Side.mk rfl ?_
 conv=>whnf
 obtain ⟨c117,hc117,h⟩:=bind_some h
 refine ⟨_,(sp_nondet_key e116.Word c117 (hc117)),?_⟩
 conv=>whnf
 refine Side.mk rfl ?_
 conv=>whnf
 refine ⟨_,set_str _ true wB _,?_⟩
 conv=>whnf
 refine Arith.mk (by show inR _;unfold inR;omega) ?_
 conv=>whnf
 cases h
 exact Nxt.mk _ ho114 (eA [(104,some 104),(105,some 105),(106,some 106)])
 obtain ⟨h,b115d⟩:=cfd b115 h
 conv=>whnf
 cases h
 have ho114:_=_:=ho114
 cases ho114
 exact Join.mk (eA [(104,some 104),(105,some 105),(106,some 106)])
 replace h:=hk89
 obtain ⟨z121,z122,z123,_⟩:=hp
 conv=>whnf
 refine Nf.mk (List.length l_) len_map ?_
 conv=>whnf
 obtain ⟨oc,hc,hk124⟩:=bind_some h
 clear h
 have h:=hc
 clear hc
 refine Cut.mkS oc (Y:=Int×List T_api_Trace) (fun (y495,y496)=>mkSt [(4,.own 104 1 0),(7,.own 105 1 0),(12,.im (nL c_api_Clash c88))] [(104,.box 42 2),(105,.box 42 2)] [(104,0,.im (nI 0)),(104,1,.im (.val (.slice none 0 0))),(105,0,.im (nI y495)),(105,1,.im (nL c_api_Trace y496))]) (fun (y495,y496)=>lZ c88∧lZ y496∧True) (by rintro ⟨y495,y496⟩;exact ((Holds.avl 12 rfl).and ((Holds.cel 105 1 rfl (by decide) rfl).and (hT)))) ?_ ?_
 conv=>whnf
 refine Loops.iter (fun (s:Int×List T_api_Trace×Nat)=>nondet_Settle.s18 l_ y105 s.1 s.2.1 s.2.2) (fun (y618,y619,y620)=>mkSt [(4,.own 104 1 0),(7,.own 105 1 0),(12,.im (nL c_api_Clash c88)),(13,.osl 106 1),(58,.im (nL c_api_Trace l_)),(59,.im (nI (↑(List.length l_):Int))),(60,.im (nI (↑y620:Int)))] [(104,.box 42 2),(105,.box 42 2),(106,.map (mapV wS wB y105))] [(104,0,.im (nI 0)),(104,1,.im (.val (.slice none 0 0))),(105,0,.im (nI y618)),(105,1,.im (nL c_api_Trace y619))]) (fun (y618,y619,y620)=>lZ c88∧lZ l_∧lZ y619∧True) h (eA [(104,some 104),(105,some 105),(106,some 106)]) (by rintro ⟨y618,y619,y620⟩;exact ((Holds.avl 12 rfl).and ((Holds.avl 58 rfl).and ((Holds.cel 105 1 rfl (by decide) rfl).and (hT))))) ?_
 clear h
 rintro k ⟨y618,y619,y620⟩ o hp h ho742
 replace h:nondet_Settle.s18 l_ y105 y618 y619 y620=some o:=h
 unfold nondet_Settle.s18 at h
 obtain ⟨z864,z865,z866,_⟩:=hp
 conv=>whnf
 refine Both.mk ?_ ?_<;>intro b743
 obtain ⟨h,b743d⟩:=ctd b743 h
 conv=>whnf
 obtain ⟨e744,he744,h⟩:=idxn_some h
 refine ⟨_,⟨(by omega),map_at he744,rfl⟩,?_⟩
 conv=>whnf
 refine Side.mk rfl ?_
 conv=>whnf
 obtain ⟨n800,hc,hk745⟩:=bind_some h
 clear h
 have h:=hc
 clear hc
 refine Cut.mk (mkSt [(4,.own 104 1 0),(7,.own 105 1 0),(12,.im (nL c_api_Clash c88)),(13,.osl 106 1),(17,.own 107 1 0),(18,.im (nI (↑n800:Int))),(58,.im (nL c_api_Trace l_)),(59,.im (nI (↑(List.length l_):Int))),(60,.im (nI (↑y620:Int)))] [(104,.box 42 2),(105,.box 42 2),(106,.map (mapV wS wB y105)),(107,.box 55 2)] [(104,0,.im (nI 0)),(104,1,.im (.val (.slice none 0 0))),(105,0,.im (nI y618)),(105,1,.im (nL c_api_Trace y619)),(107,0,.im (nL cI e744.In)),(107,1,.im (nL cI e744.Out))]) (lZ c88∧lZ l_∧lZ y619∧lZ e744.In∧lZ e744.Out∧True) ((Holds.avl 12 rfl).and ((Holds.avl 58 rfl).and ((Holds.cel 105 1 rfl (by decide) rfl).and ((Holds.cel 107 0 rfl (by decide) rfl).and ((Holds.cel 107 1 rfl (by decide) rfl).and (hT)))))) ?_ (fun hp=>?_)
 conv=>whnf
 refine Loops.iter (fun (s:Nat)=>nondet_Settle.s17 y105 e744 s) (fun n816=>mkSt [(4,.own 104 1 0),(7,.own 105 1 0),(12,.im (nL c_api_Clash c88)),(13,.osl 106 1),(17,.own 107 1 0),(18,.im (nI (↑n816:Int))),(58,.im (nL c_api_Trace l_)),(59,.im (nI (↑(List.length l_):Int))),(60,.im (nI (↑y620:Int)))] [(104,.box 42 2),(105,.box 42 2),(106,.map (mapV wS wB y105)),(107,.box 55 2)] [(104,0,.im (nI 0)),(104,1,.im (.val (.slice none 0 0))),(105,0,.im (nI y618)),(105,1,.im (nL c_api_Trace y619)),(107,0,.im (nL cI e744.In)),(107,1,.im (nL cI e744.Out))]) (fun n816=>lZ c88∧lZ l_∧lZ y619∧lZ e744.In∧lZ e744.Out∧True) h (eA [(104,some 104),(105,some 105),(106,some 106),(107,some 17)]) (by rintro n816;exact ((Holds.avl 12 rfl).and ((Holds.avl 58 rfl).and ((Holds.cel 105 1 rfl (by decide) rfl).and ((Holds.cel 107 0 rfl (by decide) rfl).and ((Holds.cel 107 1 rfl (by decide) rfl).and (hT))))))) ?_
 clear h
 rintro k n816 o hp h ho833
 replace h:nondet_Settle.s17 y105 e744 n816=some o:=h
 unfold nondet_Settle.s17 at h
 obtain ⟨z850,z851,z852,z853,z854,_⟩:=hp
 conv=>whnf
 obtain ⟨y839,hc,hk835⟩:=bind_some h
 clear h
 have h:=hc
 clear hc
 refine Cut.mk (mkSt [(4,.own 104 1 0),(7,.own 105 1 0),(12,.im (nL c_api_Clash c88)),(13,.osl 106 1),(17,.own 107 1 0),(18,.im (nI (↑n816:Int))),(58,.im (nL c_api_Trace l_)),(59,.im (nI (↑(List.length l_):Int))),(60,.im (nI (↑y620:Int))),(79,.im (nB y839))] [(104,.box 42 2),(105,.box 42 2),(106,.map (mapV wS wB y105)),(107,.box 55 2)] [(104,0,.im (nI 0)),(104,1,.im (.val (.slice none 0 0))),(105,0,.im (nI y618)),(105,1,.im (nL c_api_Trace y619)),(107,0,.im (nL cI e744.In)),(107,1,.im (nL cI e744.Out))]) (lZ c88∧lZ l_∧lZ y619∧lZ e744.In∧lZ e744.Out∧True) ((Holds.avl 12 rfl).and ((Holds.avl 58 rfl).and ((Holds.cel 105 1 rfl (by decide) rfl).and ((Holds.cel 107 0 rfl (by decide) rfl).and ((Holds.cel 107 1 rfl (by decide) rfl).and (hT)))))) ?_ (fun hp=>?_)
 conv=>whnf
 refine Side.mk rfl ?_
 conv=>whnf
 refine Side.mk rfl ?_
 conv=>whnf
 refine Nf.mk (List.length e744.In) len_map ?_
 conv=>whnf
 refine Both.mk ?_ ?_<;>intro b840
 replace b840:=beq_tt b840
 obtain ⟨h,b840d⟩:=ctd b840 h
 conv=>whnf
 refine Both.yes (tt_beq b840) ?_
 conv=>whnf
 refine Side.mk rfl ?_
 conv=>whnf
 refine Both.yes (tt_beq b840) ?_
 conv=>whnf
 refine Side.mk rfl ?_
 conv=>whnf
 iterate 2 (refine Both.yes (tt_beq b840) ?_;(conv=>whnf))
 refine Arith.mk (by show inR _;unfold inR;omega) ?_
 conv=>whnf
 refine Both.yes (tt_beq b840) ?_
 conv=>whnf
 obtain ⟨c841,h⟩:=chk_some h
 refine Side.mk (show (0:Int)≤(0:Int)∧(0:Int)≤((↑n816:Int)+1)∧((↑n816:Int)+1)≤(↑(List.length (List.map cI e744.In)):Int)∧(∀ e∈List.map cI e744.In,List.length e=1) from ⟨by omega,by first | omega | (simp only [List.length_map];omega),by first | omega | (simp only [List.length_map];omega),map_len fun _=>rfl⟩) ?_
 conv=>whnf
 refine Nf.mk (List.map cI (List.take (n816+1) e744.In)) take_map ?_
 conv=>whnf
 refine Both.yes (tt_beq b840) ?_
 conv=>whnf
 obtain ⟨c842,hc842,h⟩:=bind_some h
 refine ⟨_,(sp_nondet_key (List.take (n816+1) e744.In) c842 (hc842)),?_⟩
 conv=>whnf
 refine Both.yes (tt_beq b840) ?_
 conv=>whnf
 refine Side.mk rfl ?_
 conv=>whnf
 refine ⟨_,find_str _ wB _,?_⟩
 conv=>whnf
 refine Nf.mk (wB ((mget c842 y105).getD false)) (getD_map rfl _) ?_
 conv=>whnf
 refine Both.yes (tt_beq b840) ?_
 conv=>whnf
 refine Both.yes b840 ?_
 conv=>whnf
 cases h
 exact Join.mk (eA [(104,some 104),(105,some 105),(106,some 106),(107,some 107)])
 replace b840:=beq_tf b840
 obtain ⟨h,b840d⟩:=cfd b840 h
 conv=>whnf
 iterate 8 (refine Both.no (ft_beq b840) ?_;(conv=>whnf))
 refine Both.no b840 ?_
 conv=>whnf
 cases h
 exact Join.mk (eA [(104,some 104),(105,some 105),(106,some 106),(107,some 107)])
 replace h:=hk835
 obtain ⟨z843,z844,z845,z846,z847,_⟩:=hp
 conv=>whnf
 refine Both.mk ?_ ?_<;>intro b848
 replace h:=cond_t b848 h
 conv=>whnf
 obtain ⟨c849,h⟩:=chk_some h
 refine Arith.mk c849 ?_
 conv=>whnf
 cases h
 exact Nxt.mk _ ho833 (eA [(104,some 104),(105,some 105),(106,some 106),(107,some 107)])
 replace h:=cond_f b848 h
 conv=>whnf
 cases h
 have ho833:_=_:=ho833
 cases ho833
 exact Join.mk (eA [(104,some 104),(105,some 105),(106,some 106),(107,some 107)])
 replace h:=hk745
 obtain ⟨z855,z856,z857,z858,z859,_⟩:=hp
 conv=>whnf
 refine Side.mk rfl ?_
 conv=>whnf
 refine Side.mk rfl ?_
 conv=>whnf
 refine Side.mk rfl ?_
 conv=>whnf
 obtain ⟨c860,h⟩:=chk_some h
 refine Side.mk (show (0:Int)≤(0:Int)∧(0:Int)≤(↑n800:Int)∧(↑n800:Int)≤(↑(List.length (List.map cI e744.In)):Int)∧(∀ e∈List.map cI e744.In,List.length e=1) from ⟨by omega,by first | omega | (simp only [List.length_map];omega),by first | omega | (simp only [List.length_map];omega),map_len fun _=>rfl⟩) ?_
 conv=>whnf
 refine Nf.mk (List.map cI (List.take n800 e744.In)) take_map ?_
 conv=>whnf
 refine Side.mk rfl ?_
 conv=>whnf
 refine Side.mk rfl ?_
 conv=>whnf
 obtain ⟨c861,h⟩:=chk_some h
 refine Side.mk (show (0:Int)≤(0:Int)∧(0:Int)≤(↑n800:Int)∧(↑n800:Int)≤(↑(List.length (List.map cI e744.Out)):Int)∧(∀ e∈List.map cI e744.Out,List.length e=1) from ⟨by omega,by first | omega | (simp only [List.length_map];omega),by first | omega | (simp only [List.length_map];omega),map_len fun _=>rfl⟩) ?_
 conv=>whnf
 refine Nf.mk (List.map cI (List.take n800 e744.Out)) take_map ?_
 conv=>whnf
 obtain ⟨c862,hc862,h⟩:=bind_some h
 refine ⟨_,(sp_observe_Add (⟨y618,y619⟩:T_api_Obs) (⟨(List.take n800 e744.In),(List.take n800 e744.Out)⟩:T_api_Trace) c862 (fun _ _=>hc862)),?_⟩
 conv=>whnf
 refine Side.mk rfl ?_
 conv=>whnf
 refine Both.mk ?_ ?_<;>intro b863
 obtain ⟨h,b863d⟩:=ctd b863 h
 conv=>whnf
 refine Side.mk rfl ?_
 conv=>whnf
 cases h
 have ho742:_=_:=ho742
 cases ho742
 replace h:some _=some _:=hk124
 cases h
 conv=>whnf
 refine Side.mk ⟨rfl,trivial⟩ ?_
 conv=>whnf
 exact ⟨rfl,rfl⟩
 obtain ⟨h,b863d⟩:=cfd b863 h
 conv=>whnf
 refine Side.mk rfl ?_
 conv=>whnf
 refine Side.mk rfl ?_
 conv=>whnf
 refine Arith.mk (by show inR _;unfold inR;omega) ?_
 conv=>whnf
 cases h
 exact Nxt.mk _ ho742 (eA [(104,some 104),(105,some 105),(106,some 106)])
 obtain ⟨h,b743d⟩:=cfd b743 h
 conv=>whnf
 cases h
 have ho742:_=_:=ho742
 cases ho742
 exact JoinS.mk' _ rfl (eA [(104,some 104),(105,some 105)])
 rintro ⟨y495,y496⟩ rfl hp
 have hx_:=sum_inl hk124
 replace h:nondet_Settle.k19 c88 y495 y496=some _:=hx_
 clear hx_
 unfold nondet_Settle.k19 at h
 obtain ⟨z867,z868,_⟩:=hp
 conv=>whnf
 refine Side.mk rfl ?_
 conv=>whnf
 refine Side.mk rfl ?_
 conv=>whnf
 cases h
 conv=>whnf
 refine Side.mk ⟨rfl,trivial⟩ ?_
 conv=>whnf
 exact ⟨rfl,rfl⟩
theorem sp_R18_Same (a_:List T_api_Clash) (b_:List T_api_Clash) (r:Bool) (h:Ok (nL c_api_Clash a_)→Ok (nL c_api_Clash b_)→R18_Same a_ b_=some r):Sp Tryz.prog 18 [.im (nL c_api_Clash a_),.im (nL c_api_Clash b_)] (.im (nB r)):=by
 refine sp_of rfl [] rfl rfl rfl (Nat.le_of_ble_eq_true rfl) rfl fun hk=>?_
 replace h:=h hk.1 hk.2.1
 have z1:lZ a_:=ok_len hk.1
 have z2:lZ b_:=ok_len hk.2.1
 unfold R18_Same at h
 conv=>whnf
 refine Nf.mk (List.length a_) len_map ?_
 conv=>whnf
 refine Nf.mk (List.length b_) len_map ?_
 conv=>whnf
 refine Both.mk ?_ ?_<;>intro b51
 obtain ⟨h,b51d⟩:=ctd b51 h
 conv=>whnf
 cases h
 conv=>whnf
 exact ⟨rfl,rfl⟩
 obtain ⟨h,b51d⟩:=cfd b51 h
 conv=>whnf
 obtain ⟨oc,hc,hk52⟩:=bind_some h
 clear h
 have h:=hc
 clear hc
 refine Cut.mkS oc (Y:=Unit) (fun (_:Unit)=>mkSt [] [] []) (fun (_:Unit)=>True) (by rintro ⟨⟩;exact (hT)) ?_ ?_
 conv=>whnf
 refine Loops.iter (fun (s:Nat)=>R18_Same.s2 a_ b_ s) (fun i157=>mkSt [(0,.im (nL c_api_Clash a_)),(1,.im (nL c_api_Clash b_)),(5,.im (nI (↑i157:Int)))] [] []) (fun i157=>lZ a_∧lZ b_∧True) h (eA []) (by rintro i157;exact ((Holds.avl 0 rfl).and ((Holds.avl 1 rfl).and (hT)))) ?_
 clear h
 rintro k i157 o hp h ho183
 replace h:R18_Same.s2 a_ b_ i157=some o:=h
 unfold R18_Same.s2 at h
 obtain ⟨z209,z210,_⟩:=hp
 conv=>whnf
 refine Nf.mk (List.length a_) len_map ?_
 conv=>whnf
 refine Both.mk ?_ ?_<;>intro b184
 obtain ⟨h,b184d⟩:=ctd b184 h
 conv=>whnf
 obtain ⟨y196,hc,hk186⟩:=bind_some h
 clear h
 have h:=hc
 clear hc
 refine Cut.mk (mkSt [(0,.im (nL c_api_Clash a_)),(1,.im (nL c_api_Clash b_)),(5,.im (nI (↑i157:Int))),(54,.im (nB y196))] [] []) (lZ a_∧lZ b_∧True) ((Holds.avl 0 rfl).and ((Holds.avl 1 rfl).and (hT))) ?_ (fun hp=>?_)
 conv=>whnf
 obtain ⟨e197,he197,h⟩:=idxn_some h
 refine ⟨_,⟨(by omega),map_at he197,rfl⟩,?_⟩
 conv=>whnf
 obtain ⟨e198,he198,h⟩:=idxn_some h
 refine ⟨_,⟨(by omega),map_at he198,rfl⟩,?_⟩
 conv=>whnf
 obtain ⟨c199,hc199,h⟩:=bind_some h
 refine ⟨_,(sp_R01_Same e197.Word e198.Word c199 (fun _ _=>hc199)),?_⟩
 conv=>whnf
 refine Both.mk ?_ ?_<;>intro b200
 replace b200:=beq_ff b200
 replace h:=cond_f b200 h
 conv=>whnf
 iterate 2 (refine Both.yes (ff_beq b200) ?_;(conv=>whnf))
 obtain ⟨e201,he201,h⟩:=idxn_some h
 refine ⟨_,⟨(by omega),map_at he201,rfl⟩,?_⟩
 conv=>whnf
 iterate 5 (refine Both.yes (ff_beq b200) ?_;(conv=>whnf))
 obtain ⟨e202,he202,h⟩:=idxn_some h
 refine ⟨_,⟨(by omega),map_at he202,rfl⟩,?_⟩
 conv=>whnf
 iterate 3 (refine Both.yes (ff_beq b200) ?_;(conv=>whnf))
 refine Both.no b200 ?_
 conv=>whnf
 refine Both.mk ?_ ?_<;>intro b203
 replace b203:=beq_ff b203
 obtain ⟨h,b203d⟩:=cfd b203 h
 conv=>whnf
 iterate 2 (refine Both.yes (ff_beq b203) ?_;(conv=>whnf))
 obtain ⟨e204,he204,h⟩:=idxn_some h
 refine ⟨_,⟨(by omega),map_at he204,rfl⟩,?_⟩
 conv=>whnf
 iterate 5 (refine Both.yes (ff_beq b203) ?_;(conv=>whnf))
 obtain ⟨e205,he205,h⟩:=idxn_some h
 refine ⟨_,⟨(by omega),map_at he205,rfl⟩,?_⟩
 conv=>whnf
 iterate 3 (refine Both.yes (ff_beq b203) ?_;(conv=>whnf))
 refine Both.no b203 ?_
 conv=>whnf
 cases h
 exact Join.mk (eA [])
 replace b203:=beq_ft b203
 obtain ⟨h,b203d⟩:=ctd b203 h
 conv=>whnf
 iterate 10 (refine Both.no (tf_beq b203) ?_;(conv=>whnf))
 refine Both.yes b203 ?_
 conv=>whnf
 cases h
 exact Join.mk (eA [])
 replace b200:=beq_ft b200
 replace h:=cond_t b200 h
 conv=>whnf
 iterate 10 (refine Both.no (tf_beq b200) ?_;(conv=>whnf))
 refine Both.yes b200 ?_
 conv=>whnf
 iterate 11 (refine Both.no rfl ?_;(conv=>whnf))
 refine Both.yes rfl ?_
 conv=>whnf
 cases h
 exact Join.mk (eA [])
 replace h:=hk186
 obtain ⟨z206,z207,_⟩:=hp
 conv=>whnf
 refine Both.mk ?_ ?_<;>intro b208
 replace h:=cond_t b208 h
 conv=>whnf
 cases h
 have ho183:_=_:=ho183
 cases ho183
 replace h:some _=some _:=hk52
 cases h
 conv=>whnf
 exact ⟨rfl,rfl⟩
 replace h:=cond_f b208 h
 conv=>whnf
 refine Arith.mk (by show inR _;unfold inR;omega) ?_
 conv=>whnf
 cases h
 exact Nxt.mk _ ho183 (eA [])
 obtain ⟨h,b184d⟩:=cfd b184 h
 conv=>whnf
 cases h
 have ho183:_=_:=ho183
 cases ho183
 exact JoinS.mk' _ rfl (eA [])
 rintro ⟨⟩ rfl hp
 replace h:=sum_inl hk52
 conv=>whnf
 cases h
 conv=>whnf
 exact ⟨rfl,rfl⟩
theorem sp_R06_Ints (a_:List Int) (b_:List Int) (r:Bool) (h:Ok (nL cI a_)→Ok (nL cI b_)→R06_Ints a_ b_=some r):Sp Tryz.prog 75 [.im (nL cI a_),.im (nL cI b_)] (.im (nB r)):=by
 refine sp_of rfl [] rfl rfl rfl (Nat.le_of_ble_eq_true rfl) rfl fun hk=>?_
 replace h:=h hk.1 hk.2.1
 have z1:lZ a_:=ok_len hk.1
 have z2:lZ b_:=ok_len hk.2.1
 unfold R06_Ints at h
 conv=>whnf
 refine Nf.mk (List.length a_) len_map ?_
 conv=>whnf
 refine Nf.mk (List.length b_) len_map ?_
 conv=>whnf
 refine Both.mk ?_ ?_<;>intro b51
 obtain ⟨h,b51d⟩:=ctd b51 h
 conv=>whnf
 cases h
 conv=>whnf
 exact ⟨rfl,rfl⟩
 obtain ⟨h,b51d⟩:=cfd b51 h
 conv=>whnf
 obtain ⟨oc,hc,hk52⟩:=bind_some h
 clear h
 have h:=hc
 clear hc
 refine Cut.mkS oc (Y:=Unit) (fun (_:Unit)=>mkSt [] [] []) (fun (_:Unit)=>True) (by rintro ⟨⟩;exact (hT)) ?_ ?_
 conv=>whnf
 refine Loops.iter (fun (s:Nat)=>R06_Ints.s2 a_ b_ s) (fun i73=>mkSt [(0,.im (nL cI a_)),(1,.im (nL cI b_)),(5,.im (nI (↑i73:Int)))] [] []) (fun i73=>lZ a_∧lZ b_∧True) h (eA []) (by rintro i73;exact ((Holds.avl 0 rfl).and ((Holds.avl 1 rfl).and (hT)))) ?_
 clear h
 rintro k i73 o hp h ho78
 replace h:R06_Ints.s2 a_ b_ i73=some o:=h
 unfold R06_Ints.s2 at h
 obtain ⟨z83,z84,_⟩:=hp
 conv=>whnf
 refine Nf.mk (List.length a_) len_map ?_
 conv=>whnf
 refine Both.mk ?_ ?_<;>intro b79
 obtain ⟨h,b79d⟩:=ctd b79 h
 conv=>whnf
 obtain ⟨e80,he80,h⟩:=idxn_some h
 refine ⟨_,⟨(by omega),map_at he80,rfl⟩,?_⟩
 conv=>whnf
 obtain ⟨e81,he81,h⟩:=idxn_some h
 refine ⟨_,⟨(by omega),map_at he81,rfl⟩,?_⟩
 conv=>whnf
 refine Both.mk ?_ ?_<;>intro b82
 obtain ⟨h,b82d⟩:=ctd b82 h
 conv=>whnf
 cases h
 have ho78:_=_:=ho78
 cases ho78
 replace h:some _=some _:=hk52
 cases h
 conv=>whnf
 exact ⟨rfl,rfl⟩
 obtain ⟨h,b82d⟩:=cfd b82 h
 conv=>whnf
 refine Arith.mk (by show inR _;unfold inR;omega) ?_
 conv=>whnf
 cases h
 exact Nxt.mk _ ho78 (eA [])
 obtain ⟨h,b79d⟩:=cfd b79 h
 conv=>whnf
 cases h
 have ho78:_=_:=ho78
 cases ho78
 exact JoinS.mk' _ rfl (eA [])
 rintro ⟨⟩ rfl hp
 replace h:=sum_inl hk52
 conv=>whnf
 cases h
 conv=>whnf
 exact ⟨rfl,rfl⟩
theorem sp_R06_SameTraces (a_:List T_api_Trace) (b_:List T_api_Trace) (r:Bool) (h:Ok (nL c_api_Trace a_)→Ok (nL c_api_Trace b_)→R06_SameTraces a_ b_=some r):Sp Tryz.prog 53 [.im (nL c_api_Trace a_),.im (nL c_api_Trace b_)] (.im (nB r)):=by
 refine sp_of rfl [] rfl rfl rfl (Nat.le_of_ble_eq_true rfl) rfl fun hk=>?_
 replace h:=h hk.1 hk.2.1
 have z1:lZ a_:=ok_len hk.1
 have z2:lZ b_:=ok_len hk.2.1
 unfold R06_SameTraces at h
 conv=>whnf
 refine Nf.mk (List.length a_) len_map ?_
 conv=>whnf
 refine Nf.mk (List.length b_) len_map ?_
 conv=>whnf
 refine Both.mk ?_ ?_<;>intro b51
 obtain ⟨h,b51d⟩:=ctd b51 h
 conv=>whnf
 cases h
 conv=>whnf
 exact ⟨rfl,rfl⟩
 obtain ⟨h,b51d⟩:=cfd b51 h
 conv=>whnf
 obtain ⟨oc,hc,hk52⟩:=bind_some h
 clear h
 have h:=hc
 clear hc
 refine Cut.mkS oc (Y:=Unit) (fun (_:Unit)=>mkSt [] [] []) (fun (_:Unit)=>True) (by rintro ⟨⟩;exact (hT)) ?_ ?_
 conv=>whnf
 refine Loops.iter (fun (s:Nat)=>R06_SameTraces.s2 a_ b_ s) (fun i141=>mkSt [(0,.im (nL c_api_Trace a_)),(1,.im (nL c_api_Trace b_)),(5,.im (nI (↑i141:Int)))] [] []) (fun i141=>lZ a_∧lZ b_∧True) h (eA []) (by rintro i141;exact ((Holds.avl 0 rfl).and ((Holds.avl 1 rfl).and (hT)))) ?_
 clear h
 rintro k i141 o hp h ho163
 replace h:R06_SameTraces.s2 a_ b_ i141=some o:=h
 unfold R06_SameTraces.s2 at h
 obtain ⟨z185,z186,_⟩:=hp
 conv=>whnf
 refine Nf.mk (List.length a_) len_map ?_
 conv=>whnf
 refine Both.mk ?_ ?_<;>intro b164
 obtain ⟨h,b164d⟩:=ctd b164 h
 conv=>whnf
 obtain ⟨y174,hc,hk166⟩:=bind_some h
 clear h
 have h:=hc
 clear hc
 refine Cut.mk (mkSt [(0,.im (nL c_api_Trace a_)),(1,.im (nL c_api_Trace b_)),(5,.im (nI (↑i141:Int))),(42,.im (nB y174))] [] []) (lZ a_∧lZ b_∧True) ((Holds.avl 0 rfl).and ((Holds.avl 1 rfl).and (hT))) ?_ (fun hp=>?_)
 conv=>whnf
 obtain ⟨e175,he175,h⟩:=idxn_some h
 refine ⟨_,⟨(by omega),map_at he175,rfl⟩,?_⟩
 conv=>whnf
 obtain ⟨e176,he176,h⟩:=idxn_some h
 refine ⟨_,⟨(by omega),map_at he176,rfl⟩,?_⟩
 conv=>whnf
 obtain ⟨c177,hc177,h⟩:=bind_some h
 refine ⟨_,(sp_R06_Ints e175.In e176.In c177 (fun _ _=>hc177)),?_⟩
 conv=>whnf
 refine Both.mk ?_ ?_<;>intro b178
 replace b178:=beq_ff b178
 replace h:=cond_f b178 h
 conv=>whnf
 iterate 2 (refine Both.yes (ff_beq b178) ?_;(conv=>whnf))
 obtain ⟨e179,he179,h⟩:=idxn_some h
 refine ⟨_,⟨(by omega),map_at he179,rfl⟩,?_⟩
 conv=>whnf
 iterate 5 (refine Both.yes (ff_beq b178) ?_;(conv=>whnf))
 obtain ⟨e180,he180,h⟩:=idxn_some h
 refine ⟨_,⟨(by omega),map_at he180,rfl⟩,?_⟩
 conv=>whnf
 iterate 3 (refine Both.yes (ff_beq b178) ?_;(conv=>whnf))
 obtain ⟨c181,hc181,h⟩:=bind_some h
 refine ⟨_,(sp_R06_Ints e179.Out e180.Out c181 (fun _ _=>hc181)),?_⟩
 conv=>whnf
 refine Both.yes (ff_beq b178) ?_
 conv=>whnf
 refine Both.no b178 ?_
 conv=>whnf
 cases h
 exact Join.mk (eA [])
 replace b178:=beq_ft b178
 replace h:=cond_t b178 h
 conv=>whnf
 iterate 11 (refine Both.no (tf_beq b178) ?_;(conv=>whnf))
 refine Both.yes b178 ?_
 conv=>whnf
 cases h
 exact Join.mk (eA [])
 replace h:=hk166
 obtain ⟨z182,z183,_⟩:=hp
 conv=>whnf
 refine Both.mk ?_ ?_<;>intro b184
 replace h:=cond_t b184 h
 conv=>whnf
 cases h
 have ho163:_=_:=ho163
 cases ho163
 replace h:some _=some _:=hk52
 cases h
 conv=>whnf
 exact ⟨rfl,rfl⟩
 replace h:=cond_f b184 h
 conv=>whnf
 refine Arith.mk (by show inR _;unfold inR;omega) ?_
 conv=>whnf
 cases h
 exact Nxt.mk _ ho163 (eA [])
 obtain ⟨h,b164d⟩:=cfd b164 h
 conv=>whnf
 cases h
 have ho163:_=_:=ho163
 cases ho163
 exact JoinS.mk' _ rfl (eA [])
 rintro ⟨⟩ rfl hp
 replace h:=sum_inl hk52
 conv=>whnf
 cases h
 conv=>whnf
 exact ⟨rfl,rfl⟩
theorem sp_R16_Same (a_:T_api_Obs) (b_:T_api_Obs) (r:Bool) (h:Ok (.agg (c_api_Obs a_))→Ok (.agg (c_api_Obs b_))→R16_Same a_ b_=some r):Sp Tryz.prog 23 [.im (.agg (c_api_Obs a_)),.im (.agg (c_api_Obs b_))] (.im (nB r)):=by
 refine sp_of rfl [700002,700003] rfl rfl rfl (Nat.le_of_ble_eq_true rfl) rfl fun hk=>?_
 replace h:=h hk.1 hk.2.1
 have z1:lZ a_.Traces:=ok_len (Ok.agg_at hk.1 1 rfl)
 have z2:lZ b_.Traces:=ok_len (Ok.agg_at hk.2.1 1 rfl)
 unfold R16_Same at h
 conv=>whnf
 obtain ⟨y55,hc,hk52⟩:=bind_some h
 clear h
 have h:=hc
 clear hc
 refine Cut.mk (mkSt [(4,.im (nB y55))] [] []) (True) (hT) ?_ (fun hp=>?_)
 conv=>whnf
 refine Both.mk ?_ ?_<;>intro b56
 replace b56:=beq_tt b56
 obtain ⟨h,b56d⟩:=ctd b56 h
 conv=>whnf
 iterate 4 (refine Both.yes (tt_beq b56) ?_;(conv=>whnf))
 obtain ⟨c57,hc57,h⟩:=bind_some h
 refine ⟨_,(sp_R06_SameTraces a_.Traces b_.Traces c57 (fun _ _=>hc57)),?_⟩
 conv=>whnf
 refine Both.yes b56 ?_
 conv=>whnf
 cases h
 exact Join.mk (eA [])
 replace b56:=beq_tf b56
 obtain ⟨h,b56d⟩:=cfd b56 h
 conv=>whnf
 iterate 4 (refine Both.no (ft_beq b56) ?_;(conv=>whnf))
 refine Both.no b56 ?_
 conv=>whnf
 cases h
 exact Join.mk (eA [])
 replace h:=hk52
 conv=>whnf
 cases h
 conv=>whnf
 exact ⟨rfl,rfl⟩
theorem sp_L18_awake (r:Bool) (h:L18_awake=some r):Sp Tryz.prog 10 [] (.im (nB r)):=by
 refine sp_of rfl [] rfl rfl rfl (Nat.le_of_ble_eq_true rfl) rfl fun hk=>?_
 unfold L18_awake at h
 conv=>whnf
 obtain ⟨c51,hc51,h⟩:=bind_some h
 refine ⟨_,(sp_nondet_Vote [[1,2],[1,0],[1,2],[1,0]] 2 c51 (fun _ _=>hc51)),?_⟩
 conv=>whnf
 obtain ⟨c52,hc52,h⟩:=bind_some h
 refine ⟨_,(sp_nondet_Vote [[1,2],[1,0],[1,2],[1,0]] 3 c52 (fun _ _=>hc52)),?_⟩
 conv=>whnf
 obtain ⟨c53,hc53,h⟩:=bind_some h
 refine ⟨_,(sp_nondet_Vote [[1,2],[1,0],[1,2],[1,0]] 10 c53 (fun _ _=>hc53)),?_⟩
 conv=>whnf
 obtain ⟨c54,hc54,h⟩:=bind_some h
 refine ⟨_,(sp_nondet_Distinct [[1,2],[1,0],[1,2],[1,0]] c54 (fun _=>hc54)),?_⟩
 conv=>whnf
 obtain ⟨c55,hc55,h⟩:=bind_some h
 refine ⟨_,(sp_nondet_Settle [(⟨[0,1],[1,2]⟩:T_api_Trace),(⟨[0,1,1],[1,0,0]⟩:T_api_Trace),(⟨[0],[1]⟩:T_api_Trace)] 2 c55 (fun _ _=>hc55)),?_⟩
 conv=>whnf
 refine Side.mk rfl ?_
 conv=>whnf
 obtain ⟨y75,hc,hk57⟩:=bind_some h
 clear h
 have h:=hc
 clear hc
 refine Cut.mk (mkSt [(0,.im (nB y75))] [] []) (True) (hT) ?_ (fun hp=>?_)
 conv=>whnf
 obtain ⟨c76,hc76,h⟩:=bind_some h
 refine ⟨_,(sp_R01_Same c51.1 [1,2] c76 (fun _ _=>hc76)),?_⟩
 conv=>whnf
 refine Both.mk ?_ ?_<;>intro b77
 replace b77:=beq_tt b77
 replace h:=cond_t b77 h
 conv=>whnf
 refine Both.yes (tt_beq b77) ?_
 conv=>whnf
 refine Both.yes b77 ?_
 conv=>whnf
 refine Both.mk ?_ ?_<;>intro b78
 replace b78:=beq_tt b78
 obtain ⟨h,b78d⟩:=ctd b78 h
 conv=>whnf
 refine Both.yes (tt_beq b78) ?_
 conv=>whnf
 refine Both.yes b78 ?_
 conv=>whnf
 refine Both.mk ?_ ?_<;>intro b79
 replace b79:=beq_tt b79
 obtain ⟨h,b79d⟩:=ctd b79 h
 conv=>whnf
 refine Both.yes (tt_beq b79) ?_
 conv=>whnf
 refine Both.yes b79 ?_
 conv=>whnf
 refine Both.mk ?_ ?_<;>intro b80
 replace b80:=beq_tt b80
 obtain ⟨h,b80d⟩:=ctd b80 h
 conv=>whnf
 iterate 4 (refine Both.yes (tt_beq b80) ?_;(conv=>whnf))
 obtain ⟨c81,hc81,h⟩:=bind_some h
 refine ⟨_,(sp_R01_SameWords c54.1 [[1,0],[1,2]] c81 (fun _ _=>hc81)),?_⟩
 conv=>whnf
 refine Both.yes b80 ?_
 conv=>whnf
 refine Both.mk ?_ ?_<;>intro b82
 replace b82:=beq_tt b82
 replace h:=cond_t b82 h
 conv=>whnf
 iterate 2 (refine Both.yes (tt_beq b82) ?_;(conv=>whnf))
 obtain ⟨c83,hc83,h⟩:=bind_some h
 refine ⟨_,(sp_R01_Same c54.2 [2,2] c83 (fun _ _=>hc83)),?_⟩
 conv=>whnf
 refine Both.yes b82 ?_
 conv=>whnf
 refine Both.mk ?_ ?_<;>intro b84
 replace b84:=beq_tt b84
 replace h:=cond_t b84 h
 conv=>whnf
 refine Both.yes (tt_beq b84) ?_
 conv=>whnf
 obtain ⟨c85,hc85,h⟩:=bind_some h
 refine ⟨_,(sp_nondet_Clashes [(⟨[0,1],[1,2]⟩:T_api_Trace),(⟨[0,1,1],[1,0,0]⟩:T_api_Trace),(⟨[0],[1]⟩:T_api_Trace)] c85 (hc85)).im,?_⟩
 conv=>whnf
 iterate 2 (refine Both.yes (tt_beq b84) ?_;(conv=>whnf))
 obtain ⟨c86,hc86,h⟩:=bind_some h
 refine ⟨_,(sp_R18_Same c85 [(⟨[0,1],0,2⟩:T_api_Clash)] c86 (fun _ _=>hc86)),?_⟩
 conv=>whnf
 refine Both.yes b84 ?_
 conv=>whnf
 refine Both.mk ?_ ?_<;>intro b87
 replace b87:=beq_tt b87
 replace h:=cond_t b87 h
 conv=>whnf
 iterate 2 (refine Both.yes (tt_beq b87) ?_;(conv=>whnf))
 obtain ⟨c88,hc88,h⟩:=bind_some h
 refine ⟨_,(sp_R18_Same c55.2.1 [(⟨[0,1],0,2⟩:T_api_Clash)] c88 (fun _ _=>hc88)),?_⟩
 conv=>whnf
 refine Both.yes b87 ?_
 conv=>whnf
 refine Both.mk ?_ ?_<;>intro b89
 replace b89:=beq_tt b89
 replace h:=cond_t b89 h
 conv=>whnf
 refine Side.mk rfl ?_
 conv=>whnf
 iterate 2 (refine Both.yes (tt_beq b89) ?_;(conv=>whnf))
 obtain ⟨c90,h⟩:=chk_some h
 refine Side.mk (show (0:Int)≤2∧2≤(↑(List.length (List.map c_api_Trace [(⟨[0,1],[1,2]⟩:T_api_Trace),(⟨[0,1,1],[1,0,0]⟩:T_api_Trace),(⟨[0],[1]⟩:T_api_Trace)])):Int)∧(↑(List.length (List.map c_api_Trace [(⟨[0,1],[1,2]⟩:T_api_Trace),(⟨[0,1,1],[1,0,0]⟩:T_api_Trace),(⟨[0],[1]⟩:T_api_Trace)])):Int)≤(↑(List.length (List.map c_api_Trace [(⟨[0,1],[1,2]⟩:T_api_Trace),(⟨[0,1,1],[1,0,0]⟩:T_api_Trace),(⟨[0],[1]⟩:T_api_Trace)])):Int)∧(∀ e∈List.map c_api_Trace [(⟨[0,1],[1,2]⟩:T_api_Trace),(⟨[0,1,1],[1,0,0]⟩:T_api_Trace),(⟨[0],[1]⟩:T_api_Trace)],List.length e=2) from ⟨by omega,by first | omega | (simp only [List.length_map];omega),by first | omega | (simp only [List.length_map];omega),map_len fun _=>rfl⟩) ?_
 conv=>whnf
 refine Nf.mk (List.map c_api_Trace (List.drop 2 [(⟨[0,1],[1,2]⟩:T_api_Trace),(⟨[0,1,1],[1,0,0]⟩:T_api_Trace),(⟨[0],[1]⟩:T_api_Trace)])) drop_map ?_
 conv=>whnf
 iterate 2 (refine Both.yes (tt_beq b89) ?_;(conv=>whnf))
 obtain ⟨c91,hc91,h⟩:=bind_some h
 refine ⟨_,(sp_R16_Same c55.1 (⟨2,(List.drop 2 [(⟨[0,1],[1,2]⟩:T_api_Trace),(⟨[0,1,1],[1,0,0]⟩:T_api_Trace),(⟨[0],[1]⟩:T_api_Trace)])⟩:T_api_Obs) c91 (fun _ _=>hc91)),?_⟩
 conv=>whnf
 refine Both.yes b89 ?_
 conv=>whnf
 refine Both.mk ?_ ?_<;>intro b92
 replace b92:=beq_tt b92
 replace h:=cond_t b92 h
 conv=>whnf
 refine Both.yes (tt_beq b92) ?_
 conv=>whnf
 refine Both.yes b92 ?_
 conv=>whnf
 cases h
 exact Join.mk (eA [])
 replace b92:=beq_tf b92
 replace h:=cond_f b92 h
 conv=>whnf
 refine Both.no (ft_beq b92) ?_
 conv=>whnf
 refine Both.no b92 ?_
 conv=>whnf
 cases h
 exact Join.mk (eA [])
 replace b89:=beq_tf b89
 replace h:=cond_f b89 h
 conv=>whnf
 iterate 4 (refine Both.no (ft_beq b89) ?_;(conv=>whnf))
 refine Both.no b89 ?_
 conv=>whnf
 iterate 3 (refine Both.no rfl ?_;(conv=>whnf))
 cases h
 exact Join.mk (eA [])
 replace b87:=beq_tf b87
 replace h:=cond_f b87 h
 conv=>whnf
 iterate 2 (refine Both.no (ft_beq b87) ?_;(conv=>whnf))
 refine Both.no b87 ?_
 conv=>whnf
 iterate 9 (refine Both.no rfl ?_;(conv=>whnf))
 cases h
 exact Join.mk (eA [])
 replace b84:=beq_tf b84
 replace h:=cond_f b84 h
 conv=>whnf
 iterate 3 (refine Both.no (ft_beq b84) ?_;(conv=>whnf))
 refine Both.no b84 ?_
 conv=>whnf
 iterate 13 (refine Both.no rfl ?_;(conv=>whnf))
 cases h
 exact Join.mk (eA [])
 replace b82:=beq_tf b82
 replace h:=cond_f b82 h
 conv=>whnf
 iterate 2 (refine Both.no (ft_beq b82) ?_;(conv=>whnf))
 refine Both.no b82 ?_
 conv=>whnf
 iterate 18 (refine Both.no rfl ?_;(conv=>whnf))
 cases h
 exact Join.mk (eA [])
 replace b80:=beq_tf b80
 obtain ⟨h,b80d⟩:=cfd b80 h
 conv=>whnf
 iterate 4 (refine Both.no (ft_beq b80) ?_;(conv=>whnf))
 refine Both.no b80 ?_
 conv=>whnf
 iterate 22 (refine Both.no rfl ?_;(conv=>whnf))
 cases h
 exact Join.mk (eA [])
 replace b79:=beq_tf b79
 obtain ⟨h,b79d⟩:=cfd b79 h
 conv=>whnf
 refine Both.no (ft_beq b79) ?_
 conv=>whnf
 refine Both.no b79 ?_
 conv=>whnf
 iterate 28 (refine Both.no rfl ?_;(conv=>whnf))
 cases h
 exact Join.mk (eA [])
 replace b78:=beq_tf b78
 obtain ⟨h,b78d⟩:=cfd b78 h
 conv=>whnf
 refine Both.no (ft_beq b78) ?_
 conv=>whnf
 refine Both.no b78 ?_
 conv=>whnf
 iterate 31 (refine Both.no rfl ?_;(conv=>whnf))
 cases h
 exact Join.mk (eA [])
 replace b77:=beq_tf b77
 replace h:=cond_f b77 h
 conv=>whnf
 refine Both.no (ft_beq b77) ?_
 conv=>whnf
 refine Both.no b77 ?_
 conv=>whnf
 iterate 34 (refine Both.no rfl ?_;(conv=>whnf))
 cases h
 exact Join.mk (eA [])
 replace h:=hk57
 conv=>whnf
 cases h
 conv=>whnf
 exact ⟨rfl,rfl⟩
theorem sp_L18_few (l_:List T_api_Trace) (r:Bool) (h:Ok (nL c_api_Trace l_)→L18_few l_=some r):Sp Tryz.prog 17 [.im (nL c_api_Trace l_)] (.im (nB r)):=by
 refine sp_of rfl [] rfl rfl rfl (Nat.le_of_ble_eq_true rfl) rfl fun hk=>?_
 replace h:=h hk.1
 have z1:lZ l_:=ok_len hk.1
 unfold L18_few at h
 conv=>whnf
 obtain ⟨oc,hc,hk51⟩:=bind_some h
 clear h
 have h:=hc
 clear hc
 refine Cut.mkS oc (Y:=Unit) (fun (_:Unit)=>mkSt [(0,.im (nL c_api_Trace l_))] [] []) (fun (_:Unit)=>lZ l_∧True) (by rintro ⟨⟩;exact ((Holds.avl 0 rfl).and (hT))) ?_ ?_
 conv=>whnf
 refine Loops.iter (fun (s:Nat)=>L18_few.s2 l_ s) (fun i129=>mkSt [(0,.im (nL c_api_Trace l_)),(3,.im (nI (↑i129:Int)))] [] []) (fun i129=>lZ l_∧True) h (eA []) (by rintro i129;exact ((Holds.avl 0 rfl).and (hT))) ?_
 clear h
 rintro k i129 o hp h ho149
 replace h:L18_few.s2 l_ i129=some o:=h
 unfold L18_few.s2 at h
 obtain ⟨z169,_⟩:=hp
 conv=>whnf
 obtain ⟨y153,hc,hk151⟩:=bind_some h
 clear h
 have h:=hc
 clear hc
 refine Cut.mk (mkSt [(0,.im (nL c_api_Trace l_)),(3,.im (nI (↑i129:Int))),(11,.im (nB y153))] [] []) (lZ l_∧True) ((Holds.avl 0 rfl).and (hT)) ?_ (fun hp=>?_)
 conv=>whnf
 refine Nf.mk (List.length l_) len_map ?_
 conv=>whnf
 refine Both.mk ?_ ?_<;>intro b154
 replace b154:=beq_tt b154
 obtain ⟨h,b154d⟩:=ctd b154 h
 conv=>whnf
 refine Both.yes (tt_beq b154) ?_
 conv=>whnf
 refine Both.yes b154 ?_
 conv=>whnf
 cases h
 exact Join.mk (eA [])
 replace b154:=beq_tf b154
 obtain ⟨h,b154d⟩:=cfd b154 h
 conv=>whnf
 refine Both.no (ft_beq b154) ?_
 conv=>whnf
 refine Both.no b154 ?_
 conv=>whnf
 cases h
 exact Join.mk (eA [])
 replace h:=hk151
 obtain ⟨z155,_⟩:=hp
 conv=>whnf
 refine Both.mk ?_ ?_<;>intro b156
 replace h:=cond_t b156 h
 conv=>whnf
 obtain ⟨y162,hc,hk158⟩:=bind_some h
 clear h
 have h:=hc
 clear hc
 refine Cut.mk (mkSt [(0,.im (nL c_api_Trace l_)),(3,.im (nI (↑i129:Int))),(29,.im (nB y162))] [] []) (lZ l_∧True) ((Holds.avl 0 rfl).and (hT)) ?_ (fun hp=>?_)
 conv=>whnf
 obtain ⟨e163,he163,h⟩:=idxn_some h
 refine ⟨_,⟨(by omega),map_at he163,rfl⟩,?_⟩
 conv=>whnf
 refine Nf.mk (List.length e163.In) len_map ?_
 conv=>whnf
 refine Both.mk ?_ ?_<;>intro b164
 replace b164:=beq_ff b164
 obtain ⟨h,b164d⟩:=cfd b164 h
 conv=>whnf
 iterate 2 (refine Both.yes (ff_beq b164) ?_;(conv=>whnf))
 obtain ⟨e165,he165,h⟩:=idxn_some h
 refine ⟨_,⟨(by omega),map_at he165,rfl⟩,?_⟩
 conv=>whnf
 iterate 3 (refine Both.yes (ff_beq b164) ?_;(conv=>whnf))
 refine Nf.mk (List.length e165.Out) len_map ?_
 conv=>whnf
 refine Both.yes (ff_beq b164) ?_
 conv=>whnf
 refine Both.no b164 ?_
 conv=>whnf
 cases h
 exact Join.mk (eA [])
 replace b164:=beq_ft b164
 obtain ⟨h,b164d⟩:=ctd b164 h
 conv=>whnf
 iterate 6 (refine Both.no (tf_beq b164) ?_;(conv=>whnf))
 refine Both.yes b164 ?_
 conv=>whnf
 cases h
 exact Join.mk (eA [])
 replace h:=hk158
 obtain ⟨z166,_⟩:=hp
 conv=>whnf
 refine Both.mk ?_ ?_<;>intro b167
 replace h:=cond_t b167 h
 conv=>whnf
 cases h
 have ho149:_=_:=ho149
 cases ho149
 replace h:some _=some _:=hk51
 cases h
 conv=>whnf
 exact ⟨rfl,rfl⟩
 replace h:=cond_f b167 h
 conv=>whnf
 obtain ⟨c168,h⟩:=chk_some h
 refine Arith.mk c168 ?_
 conv=>whnf
 cases h
 exact Nxt.mk _ ho149 (eA [])
 replace h:=cond_f b156 h
 conv=>whnf
 cases h
 have ho149:_=_:=ho149
 cases ho149
 exact JoinS.mk' _ rfl (eA [])
 rintro ⟨⟩ rfl hp
 replace h:=sum_inl hk51
 obtain ⟨z170,_⟩:=hp
 conv=>whnf
 refine Nf.mk (List.length l_) len_map ?_
 conv=>whnf
 cases h
 conv=>whnf
 exact ⟨rfl,rfl⟩
theorem sp_R01_HasPrefix (w_:List Int) (p_:List Int) (r:Bool) (h:Ok (nL cI w_)→Ok (nL cI p_)→R01_HasPrefix w_ p_=some r):Sp Tryz.prog 29 [.im (nL cI w_),.im (nL cI p_)] (.im (nB r)):=by
 refine sp_of rfl [] rfl rfl rfl (Nat.le_of_ble_eq_true rfl) rfl fun hk=>?_
 replace h:=h hk.1 hk.2.1
 have z1:lZ w_:=ok_len hk.1
 have z2:lZ p_:=ok_len hk.2.1
 unfold R01_HasPrefix at h
 conv=>whnf
 obtain ⟨c51,hc51,h⟩:=bind_some h
 refine ⟨_,(sp_R01_Common w_ p_ c51 (fun _ _=>hc51)),?_⟩
 conv=>whnf
 refine Nf.mk (List.length p_) len_map ?_
 conv=>whnf
 cases h
 conv=>whnf
 exact ⟨rfl,rfl⟩
theorem sp_R01_Size (inputs_:Int) (r:Bool) (h:Ok (nI inputs_)→R01_Size inputs_=some r):Sp Tryz.prog 76 [.im (nI inputs_)] (.im (nB r)):=by
 refine sp_of rfl [] rfl rfl rfl (Nat.le_of_ble_eq_true rfl) rfl fun hk=>?_
 replace h:=h hk.1
 unfold R01_Size at h
 conv=>whnf
 obtain ⟨y54,hc,hk52⟩:=bind_some h
 clear h
 have h:=hc
 clear hc
 refine Cut.mk (mkSt [(2,.im (nB y54))] [] []) (True) (hT) ?_ (fun hp=>?_)
 conv=>whnf
 refine Both.mk ?_ ?_<;>intro b55
 replace b55:=beq_tt b55
 obtain ⟨h,b55d⟩:=ctd b55 h
 conv=>whnf
 refine Both.yes (tt_beq b55) ?_
 conv=>whnf
 refine Both.yes b55 ?_
 conv=>whnf
 cases h
 exact Join.mk (eA [])
 replace b55:=beq_tf b55
 obtain ⟨h,b55d⟩:=cfd b55 h
 conv=>whnf
 refine Both.no (ft_beq b55) ?_
 conv=>whnf
 refine Both.no b55 ?_
 conv=>whnf
 cases h
 exact Join.mk (eA [])
 replace h:=hk52
 conv=>whnf
 cases h
 conv=>whnf
 exact ⟨rfl,rfl⟩
theorem sp_R01_Check (w_:List Int) (inputs_:Int) (r:Int) (h:Ok (nL cI w_)→Ok (nI inputs_)→R01_Check w_ inputs_=some r):Sp Tryz.prog 55 [.im (nL cI w_),.im (nI inputs_)] (.im (nI r)):=by
 refine sp_of rfl [] rfl rfl rfl (Nat.le_of_ble_eq_true rfl) rfl fun hk=>?_
 replace h:=h hk.1 hk.2.1
 have z1:lZ w_:=ok_len hk.1
 unfold R01_Check at h
 conv=>whnf
 obtain ⟨c51,hc51,h⟩:=bind_some h
 refine ⟨_,(sp_R01_Size inputs_ c51 (fun _=>hc51)),?_⟩
 conv=>whnf
 refine Both.mk ?_ ?_<;>intro b52
 replace h:=cond_t b52 h
 conv=>whnf
 cases h
 conv=>whnf
 exact ⟨rfl,rfl⟩
 replace h:=cond_f b52 h
 conv=>whnf
 refine Nf.mk (List.length w_) len_map ?_
 conv=>whnf
 refine Both.mk ?_ ?_<;>intro b53
 obtain ⟨h,b53d⟩:=ctd b53 h
 conv=>whnf
 cases h
 conv=>whnf
 exact ⟨rfl,rfl⟩
 obtain ⟨h,b53d⟩:=cfd b53 h
 conv=>whnf
 obtain ⟨oc,hc,hk54⟩:=bind_some h
 clear h
 have h:=hc
 clear hc
 refine Cut.mkS oc (Y:=Unit) (fun (_:Unit)=>mkSt [] [] []) (fun (_:Unit)=>True) (by rintro ⟨⟩;exact (hT)) ?_ ?_
 conv=>whnf
 refine Loops.iter (fun (s:Nat)=>R01_Check.s2 w_ inputs_ s) (fun i106=>mkSt [(0,.im (nL cI w_)),(1,.im (nI inputs_)),(5,.im (nI (↑i106:Int)))] [] []) (fun i106=>lZ w_∧True) h (eA []) (by rintro i106;exact ((Holds.avl 0 rfl).and (hT))) ?_
 clear h
 rintro k i106 o hp h ho119
 replace h:R01_Check.s2 w_ inputs_ i106=some o:=h
 unfold R01_Check.s2 at h
 obtain ⟨z132,_⟩:=hp
 conv=>whnf
 refine Nf.mk (List.length w_) len_map ?_
 conv=>whnf
 refine Both.mk ?_ ?_<;>intro b120
 obtain ⟨h,b120d⟩:=ctd b120 h
 conv=>whnf
 obtain ⟨y126,hc,hk122⟩:=bind_some h
 clear h
 have h:=hc
 clear hc
 refine Cut.mk (mkSt [(0,.im (nL cI w_)),(1,.im (nI inputs_)),(5,.im (nI (↑i106:Int))),(30,.im (nB y126))] [] []) (lZ w_∧True) ((Holds.avl 0 rfl).and (hT)) ?_ (fun hp=>?_)
 conv=>whnf
 obtain ⟨e127,he127,h⟩:=idxn_some h
 refine ⟨_,⟨(by omega),map_at he127,rfl⟩,?_⟩
 conv=>whnf
 refine Both.mk ?_ ?_<;>intro b128
 replace b128:=beq_ff b128
 obtain ⟨h,b128d⟩:=cfd b128 h
 conv=>whnf
 iterate 2 (refine Both.yes (ff_beq b128) ?_;(conv=>whnf))
 obtain ⟨e129,he129,h⟩:=idxn_some h
 refine ⟨_,⟨(by omega),map_at he129,rfl⟩,?_⟩
 conv=>whnf
 iterate 3 (refine Both.yes (ff_beq b128) ?_;(conv=>whnf))
 refine Both.no b128 ?_
 conv=>whnf
 cases h
 exact Join.mk (eA [])
 replace b128:=beq_ft b128
 obtain ⟨h,b128d⟩:=ctd b128 h
 conv=>whnf
 iterate 5 (refine Both.no (tf_beq b128) ?_;(conv=>whnf))
 refine Both.yes b128 ?_
 conv=>whnf
 cases h
 exact Join.mk (eA [])
 replace h:=hk122
 obtain ⟨z130,_⟩:=hp
 conv=>whnf
 refine Both.mk ?_ ?_<;>intro b131
 replace h:=cond_t b131 h
 conv=>whnf
 cases h
 have ho119:_=_:=ho119
 cases ho119
 replace h:some _=some _:=hk54
 cases h
 conv=>whnf
 exact ⟨rfl,rfl⟩
 replace h:=cond_f b131 h
 conv=>whnf
 refine Arith.mk (by show inR _;unfold inR;omega) ?_
 conv=>whnf
 cases h
 exact Nxt.mk _ ho119 (eA [])
 obtain ⟨h,b120d⟩:=cfd b120 h
 conv=>whnf
 cases h
 have ho119:_=_:=ho119
 cases ho119
 exact JoinS.mk' _ rfl (eA [])
 rintro ⟨⟩ rfl hp
 replace h:=sum_inl hk54
 conv=>whnf
 cases h
 conv=>whnf
 exact ⟨rfl,rfl⟩
end Go.Proofs.YtmcfpohmiabmpaaGreatDoor.Sym

/-
  The contracts of the functions, read from the code by a program (ext.py): each function has its plain twin as its contract.
-/
namespace Go.Proofs.YtmcfpohmiabmpaaGreatDoor.Sym
open Go.RowKit
set_option maxRecDepth 100000
set_option linter.unusedVariables false
set_option maxHeartbeats 4000000
theorem sp_R16_Proper (t_:T_api_Trace) (inputs_:Int) (r:Int) (h:Ok (.agg (c_api_Trace t_))→Ok (nI inputs_)→R16_Proper t_ inputs_=some r):Sp Tryz.prog 26 [.im (.agg (c_api_Trace t_)),.im (nI inputs_)] (.im (nI r)):=by
 refine sp_of rfl [700002] rfl rfl rfl (Nat.le_of_ble_eq_true rfl) rfl fun hk=>?_
 replace h:=h hk.1 hk.2.1
 have z1:lZ t_.In:=ok_len (Ok.agg_at hk.1 0 rfl)
 have z2:lZ t_.Out:=ok_len (Ok.agg_at hk.1 1 rfl)
 unfold R16_Proper at h
 conv=>whnf
 obtain ⟨c51,hc51,h⟩:=bind_some h
 refine ⟨_,(sp_R01_Check t_.In inputs_ c51 (fun _ _=>hc51)),?_⟩
 conv=>whnf
 refine Both.mk ?_ ?_<;>intro b52
 obtain ⟨h,b52d⟩:=ctd b52 h
 conv=>whnf
 cases h
 conv=>whnf
 exact ⟨rfl,rfl⟩
 obtain ⟨h,b52d⟩:=cfd b52 h
 conv=>whnf
 refine Nf.mk (List.length t_.Out) len_map ?_
 conv=>whnf
 refine Nf.mk (List.length t_.In) len_map ?_
 conv=>whnf
 refine Both.mk ?_ ?_<;>intro b53
 obtain ⟨h,b53d⟩:=ctd b53 h
 conv=>whnf
 cases h
 conv=>whnf
 exact ⟨rfl,rfl⟩
 obtain ⟨h,b53d⟩:=cfd b53 h
 conv=>whnf
 obtain ⟨oc,hc,hk54⟩:=bind_some h
 clear h
 have h:=hc
 clear hc
 refine Cut.mkS oc (Y:=Unit) (fun (_:Unit)=>mkSt [] [] []) (fun (_:Unit)=>True) (by rintro ⟨⟩;exact (hT)) ?_ ?_
 conv=>whnf
 refine Loops.iter (fun (s:Nat)=>R16_Proper.s2 t_ s) (fun i101=>mkSt [(2,.im (.ref (c_api_Trace t_))),(6,.im (nI (↑i101:Int)))] [] []) (fun i101=>True) h (eA []) (by rintro i101;exact (hT)) ?_
 clear h
 rintro k i101 o hp h ho113
 replace h:R16_Proper.s2 t_ i101=some o:=h
 unfold R16_Proper.s2 at h
 conv=>whnf
 refine Nf.mk (List.length t_.Out) len_map ?_
 conv=>whnf
 refine Both.mk ?_ ?_<;>intro b114
 obtain ⟨h,b114d⟩:=ctd b114 h
 conv=>whnf
 obtain ⟨y120,hc,hk116⟩:=bind_some h
 clear h
 have h:=hc
 clear hc
 refine Cut.mk (mkSt [(2,.im (.ref (c_api_Trace t_))),(6,.im (nI (↑i101:Int))),(41,.im (nB y120))] [] []) (True) (hT) ?_ (fun hp=>?_)
 conv=>whnf
 obtain ⟨e121,he121,h⟩:=idxn_some h
 refine ⟨_,⟨(by omega),map_at he121,rfl⟩,?_⟩
 conv=>whnf
 refine Both.mk ?_ ?_<;>intro b122
 replace b122:=beq_ff b122
 obtain ⟨h,b122d⟩:=cfd b122 h
 conv=>whnf
 iterate 3 (refine Both.yes (ff_beq b122) ?_;(conv=>whnf))
 obtain ⟨e123,he123,h⟩:=idxn_some h
 refine ⟨_,⟨(by omega),map_at he123,rfl⟩,?_⟩
 conv=>whnf
 iterate 2 (refine Both.yes (ff_beq b122) ?_;(conv=>whnf))
 refine Both.no b122 ?_
 conv=>whnf
 cases h
 exact Join.mk (eA [])
 replace b122:=beq_ft b122
 obtain ⟨h,b122d⟩:=ctd b122 h
 conv=>whnf
 iterate 5 (refine Both.no (tf_beq b122) ?_;(conv=>whnf))
 refine Both.yes b122 ?_
 conv=>whnf
 cases h
 exact Join.mk (eA [])
 replace h:=hk116
 conv=>whnf
 refine Both.mk ?_ ?_<;>intro b124
 replace h:=cond_t b124 h
 conv=>whnf
 cases h
 have ho113:_=_:=ho113
 cases ho113
 replace h:some _=some _:=hk54
 cases h
 conv=>whnf
 exact ⟨rfl,rfl⟩
 replace h:=cond_f b124 h
 conv=>whnf
 refine Arith.mk (by show inR _;unfold inR;omega) ?_
 conv=>whnf
 cases h
 exact Nxt.mk _ ho113 (eA [])
 obtain ⟨h,b114d⟩:=cfd b114 h
 conv=>whnf
 cases h
 have ho113:_=_:=ho113
 cases ho113
 exact JoinS.mk' _ rfl (eA [])
 rintro ⟨⟩ rfl hp
 replace h:=sum_inl hk54
 conv=>whnf
 cases h
 conv=>whnf
 exact ⟨rfl,rfl⟩
theorem sp_R17_Great (l_:List T_api_Trace) (r:Bool) (h:Ok (nL c_api_Trace l_)→R17_Great l_=some r):Sp Tryz.prog 28 [.im (nL c_api_Trace l_)] (.im (nB r)):=by
 refine sp_of rfl [] rfl rfl rfl (Nat.le_of_ble_eq_true rfl) rfl fun hk=>?_
 replace h:=h hk.1
 have z1:lZ l_:=ok_len hk.1
 unfold R17_Great at h
 conv=>whnf
 obtain ⟨oc,hc,hk51⟩:=bind_some h
 clear h
 have h:=hc
 clear hc
 refine Cut.mkS oc (Y:=Unit) (fun (_:Unit)=>mkSt [(0,.im (nL c_api_Trace l_))] [] []) (fun (_:Unit)=>lZ l_∧True) (by rintro ⟨⟩;exact ((Holds.avl 0 rfl).and (hT))) ?_ ?_
 conv=>whnf
 refine Loops.iter (fun (s:Nat)=>R17_Great.s2 l_ s) (fun i129=>mkSt [(0,.im (nL c_api_Trace l_)),(3,.im (nI (↑i129:Int)))] [] []) (fun i129=>lZ l_∧True) h (eA []) (by rintro i129;exact ((Holds.avl 0 rfl).and (hT))) ?_
 clear h
 rintro k i129 o hp h ho149
 replace h:R17_Great.s2 l_ i129=some o:=h
 unfold R17_Great.s2 at h
 obtain ⟨z169,_⟩:=hp
 conv=>whnf
 obtain ⟨y153,hc,hk151⟩:=bind_some h
 clear h
 have h:=hc
 clear hc
 refine Cut.mk (mkSt [(0,.im (nL c_api_Trace l_)),(3,.im (nI (↑i129:Int))),(11,.im (nB y153))] [] []) (lZ l_∧True) ((Holds.avl 0 rfl).and (hT)) ?_ (fun hp=>?_)
 conv=>whnf
 refine Nf.mk (List.length l_) len_map ?_
 conv=>whnf
 refine Both.mk ?_ ?_<;>intro b154
 replace b154:=beq_tt b154
 obtain ⟨h,b154d⟩:=ctd b154 h
 conv=>whnf
 refine Both.yes (tt_beq b154) ?_
 conv=>whnf
 refine Both.yes b154 ?_
 conv=>whnf
 cases h
 exact Join.mk (eA [])
 replace b154:=beq_tf b154
 obtain ⟨h,b154d⟩:=cfd b154 h
 conv=>whnf
 refine Both.no (ft_beq b154) ?_
 conv=>whnf
 refine Both.no b154 ?_
 conv=>whnf
 cases h
 exact Join.mk (eA [])
 replace h:=hk151
 obtain ⟨z155,_⟩:=hp
 conv=>whnf
 refine Both.mk ?_ ?_<;>intro b156
 replace h:=cond_t b156 h
 conv=>whnf
 obtain ⟨y162,hc,hk158⟩:=bind_some h
 clear h
 have h:=hc
 clear hc
 refine Cut.mk (mkSt [(0,.im (nL c_api_Trace l_)),(3,.im (nI (↑i129:Int))),(29,.im (nB y162))] [] []) (lZ l_∧True) ((Holds.avl 0 rfl).and (hT)) ?_ (fun hp=>?_)
 conv=>whnf
 obtain ⟨e163,he163,h⟩:=idxn_some h
 refine ⟨_,⟨(by omega),map_at he163,rfl⟩,?_⟩
 conv=>whnf
 refine Nf.mk (List.length e163.In) len_map ?_
 conv=>whnf
 refine Both.mk ?_ ?_<;>intro b164
 replace b164:=beq_ff b164
 obtain ⟨h,b164d⟩:=cfd b164 h
 conv=>whnf
 iterate 2 (refine Both.yes (ff_beq b164) ?_;(conv=>whnf))
 obtain ⟨e165,he165,h⟩:=idxn_some h
 refine ⟨_,⟨(by omega),map_at he165,rfl⟩,?_⟩
 conv=>whnf
 iterate 3 (refine Both.yes (ff_beq b164) ?_;(conv=>whnf))
 refine Nf.mk (List.length e165.Out) len_map ?_
 conv=>whnf
 refine Both.yes (ff_beq b164) ?_
 conv=>whnf
 refine Both.no b164 ?_
 conv=>whnf
 cases h
 exact Join.mk (eA [])
 replace b164:=beq_ft b164
 obtain ⟨h,b164d⟩:=ctd b164 h
 conv=>whnf
 iterate 6 (refine Both.no (tf_beq b164) ?_;(conv=>whnf))
 refine Both.yes b164 ?_
 conv=>whnf
 cases h
 exact Join.mk (eA [])
 replace h:=hk158
 obtain ⟨z166,_⟩:=hp
 conv=>whnf
 refine Both.mk ?_ ?_<;>intro b167
 replace h:=cond_t b167 h
 conv=>whnf
 cases h
 have ho149:_=_:=ho149
 cases ho149
 replace h:some _=some _:=hk51
 cases h
 conv=>whnf
 exact ⟨rfl,rfl⟩
 replace h:=cond_f b167 h
 conv=>whnf
 obtain ⟨c168,h⟩:=chk_some h
 refine Arith.mk c168 ?_
 conv=>whnf
 cases h
 exact Nxt.mk _ ho149 (eA [])
 replace h:=cond_f b156 h
 conv=>whnf
 cases h
 have ho149:_=_:=ho149
 cases ho149
 exact JoinS.mk' _ rfl (eA [])
 rintro ⟨⟩ rfl hp
 replace h:=sum_inl hk51
 obtain ⟨z170,_⟩:=hp
 conv=>whnf
 refine Nf.mk (List.length l_) len_map ?_
 conv=>whnf
 cases h
 conv=>whnf
 exact ⟨rfl,rfl⟩
theorem sp_observe_Answer_1 (t_:T_api_Trace) (p1_:List Int) (r:Bool) (h:Ok (.agg (c_api_Trace t_))→Ok (.ref (cL cI p1_))→observe_Answer_1 t_ p1_=some r):Sp Tryz.prog 58 [.im (.agg (c_api_Trace t_)),.im (.ref (cL cI p1_))] (.im (nB r)):=by
 refine sp_of rfl [700002] rfl rfl rfl (Nat.le_of_ble_eq_true rfl) rfl fun hk=>?_
 replace h:=h hk.1 hk.2.1
 have z1:lZ t_.In:=ok_len (Ok.agg_at hk.1 0 rfl)
 have z2:lZ t_.Out:=ok_len (Ok.agg_at hk.1 1 rfl)
 have z3:lZ p1_:=ok_len (Ok.ref_at hk.2.1 0 rfl)
 unfold observe_Answer_1 at h
 conv=>whnf
 obtain ⟨c51,hc51,h⟩:=bind_some h
 refine ⟨_,(sp_word_HasPrefix t_.In p1_ c51 (fun _ _=>hc51)),?_⟩
 conv=>whnf
 cases h
 conv=>whnf
 exact ⟨rfl,rfl⟩
theorem sp_observe_Answer (o_:T_api_Obs) (w_:List Int) (r:List Int×Bool) (h:Ok (.agg (c_api_Obs o_))→Ok (nL cI w_)→observe_Answer o_ w_=some r):Sp Tryz.prog 30 [.im (.agg (c_api_Obs o_)),.im (nL cI w_)] (.tup [nL cI r.1,nB r.2]):=by
 refine sp_of rfl [700002,700003] rfl rfl rfl (Nat.le_of_ble_eq_true rfl) rfl fun hk=>?_
 replace h:=h hk.1 hk.2.1
 have z1:lZ o_.Traces:=ok_len (Ok.agg_at hk.1 1 rfl)
 have z2:lZ w_:=ok_len hk.2.1
 unfold observe_Answer at h
 conv=>whnf
 refine Nf.mk (List.length w_) len_map ?_
 conv=>whnf
 refine Both.mk ?_ ?_<;>intro b51
 obtain ⟨h,b51d⟩:=ctd b51 h
 conv=>whnf
 cases h
 conv=>whnf
 exact ⟨rfl,rfl⟩
 obtain ⟨h,b51d⟩:=cfd b51 h
 conv=>whnf
 obtain ⟨c52,hc52,h⟩:=bind_some h
 refine ⟨_,(sp_slices_IndexFunc_Sapi_Trace_api_Trace_n1 o_.Traces (fun u0=>observe_Answer_1 u0 w_) 58 (.ref (cL cI w_)) rfl (fun u0 r h=>(sp_observe_Answer_1 u0 w_ r (fun _ _=>h))) c52 (fun _ _=>hc52)),?_⟩
 conv=>whnf
 refine Both.mk ?_ ?_<;>intro b53
 obtain ⟨h,b53d⟩:=ctd b53 h
 conv=>whnf
 cases h
 conv=>whnf
 exact ⟨rfl,rfl⟩
 obtain ⟨h,b53d⟩:=cfd b53 h
 conv=>whnf
 obtain ⟨e54,he54z,he54,h⟩:=idx_some h
 refine ⟨_,⟨he54z,map_at he54,rfl⟩,?_⟩
 conv=>whnf
 refine Nf.mk (List.length w_) len_map ?_
 conv=>whnf
 refine Nf.mk (List.length e54.Out) len_map ?_
 conv=>whnf
 obtain ⟨c55,h⟩:=chk_some h
 refine Side.mk (show (0:Int)≤(0:Int)∧(0:Int)≤(min (↑(List.length w_):Int) (↑(List.length e54.Out):Int))∧(min (↑(List.length w_):Int) (↑(List.length e54.Out):Int))≤(↑(List.length (List.map cI e54.Out)):Int)∧(∀ e∈List.map cI e54.Out,List.length e=1) from ⟨by omega,by first | omega | (simp only [List.length_map];omega),by first | omega | (simp only [List.length_map];omega),map_len fun _=>rfl⟩) ?_
 conv=>whnf
 refine Nf.mk (List.map cI (List.take (Int.toNat (min (↑(List.length w_):Int) (↑(List.length e54.Out):Int))) e54.Out)) take_map ?_
 conv=>whnf
 obtain ⟨c56,hc56,h⟩:=bind_some h
 refine ⟨_,(sp_lib_Clone_int (List.take (Int.toNat (min (↑(List.length w_):Int) (↑(List.length e54.Out):Int))) e54.Out) c56 (hc56)).im,?_⟩
 conv=>whnf
 cases h
 conv=>whnf
 exact ⟨rfl,rfl⟩
theorem sp_L18_NondetCertain (l_:List T_api_Trace) (r:Bool) (h:Ok (nL c_api_Trace l_)→L18_NondetCertain l_=some r):Sp Tryz.prog 8 [.im (nL c_api_Trace l_)] (.im (nB r)):=by
 refine sp_of rfl [] rfl rfl rfl (Nat.le_of_ble_eq_true rfl) rfl fun hk=>?_
 replace h:=h hk.1
 have z1:lZ l_:=ok_len hk.1
 unfold L18_NondetCertain at h
 conv=>whnf
 obtain ⟨c51,hc51,h⟩:=bind_some h
 refine ⟨_,(sp_L18_few l_ c51 (fun _=>hc51)),?_⟩
 conv=>whnf
 refine Both.mk ?_ ?_<;>intro b52
 replace h:=cond_t b52 h
 conv=>whnf
 obtain ⟨c53,hc53,h⟩:=bind_some h
 refine ⟨_,(sp_L18_awake  c53 (hc53)),?_⟩
 conv=>whnf
 cases h
 conv=>whnf
 exact ⟨rfl,rfl⟩
 replace h:=cond_f b52 h
 conv=>whnf
 obtain ⟨oc,hc,hk54⟩:=bind_some h
 clear h
 have h:=hc
 clear hc
 refine Cut.mkS oc (Y:=Unit) (fun (_:Unit)=>mkSt [(0,.im (nL c_api_Trace l_))] [] []) (fun (_:Unit)=>lZ l_∧True) (by rintro ⟨⟩;exact ((Holds.avl 0 rfl).and (hT))) ?_ ?_
 conv=>whnf
 refine Loops.iter (fun (s:Nat)=>L18_NondetCertain.s2 l_ s) (fun i78=>mkSt [(0,.im (nL c_api_Trace l_)),(3,.im (nI (↑i78:Int)))] [] []) (fun i78=>lZ l_∧True) h (eA []) (by rintro i78;exact ((Holds.avl 0 rfl).and (hT))) ?_
 clear h
 rintro k i78 o hp h ho84
 replace h:L18_NondetCertain.s2 l_ i78=some o:=h
 unfold L18_NondetCertain.s2 at h
 obtain ⟨z90,_⟩:=hp
 conv=>whnf
 refine Nf.mk (List.length l_) len_map ?_
 conv=>whnf
 refine Both.mk ?_ ?_<;>intro b85
 obtain ⟨h,b85d⟩:=ctd b85 h
 conv=>whnf
 obtain ⟨e86,he86,h⟩:=idxn_some h
 refine ⟨_,⟨(by omega),map_at he86,rfl⟩,?_⟩
 conv=>whnf
 obtain ⟨c87,hc87,h⟩:=bind_some h
 refine ⟨_,(sp_R16_Proper e86 2 c87 (fun _ _=>hc87)),?_⟩
 conv=>whnf
 refine Both.mk ?_ ?_<;>intro b88
 obtain ⟨h,b88d⟩:=ctd b88 h
 conv=>whnf
 obtain ⟨c89,hc89,h⟩:=bind_some h
 refine ⟨_,(sp_L18_awake  c89 (hc89)),?_⟩
 conv=>whnf
 cases h
 have ho84:_=_:=ho84
 cases ho84
 replace h:some _=some _:=hk54
 cases h
 conv=>whnf
 exact ⟨rfl,rfl⟩
 obtain ⟨h,b88d⟩:=cfd b88 h
 conv=>whnf
 refine Arith.mk (by show inR _;unfold inR;omega) ?_
 conv=>whnf
 cases h
 exact Nxt.mk _ ho84 (eA [])
 obtain ⟨h,b85d⟩:=cfd b85 h
 conv=>whnf
 cases h
 have ho84:_=_:=ho84
 cases ho84
 exact JoinS.mk' _ rfl (eA [])
 rintro ⟨⟩ rfl hp
 replace h:=sum_inl hk54
 obtain ⟨z91,_⟩:=hp
 conv=>whnf
 obtain ⟨c92,hc92,h⟩:=bind_some h
 refine ⟨_,(sp_nondet_Settle l_ 2 c92 (fun _ _=>hc92)),?_⟩
 conv=>whnf
 refine Side.mk rfl ?_
 conv=>whnf
 obtain ⟨y97,hc,hk94⟩:=bind_some h
 clear h
 have h:=hc
 clear hc
 refine Cut.mk (mkSt [(0,.im (nL c_api_Trace l_)),(4,.own 173 1 0),(5,.im (nL c_api_Clash c92.2.1)),(43,.im (nB y97))] [(173,.box 42 2)] [(173,0,.im (nI c92.1.Inputs)),(173,1,.im (nL c_api_Trace c92.1.Traces))]) (lZ l_∧lZ c92.2.1∧lZ c92.1.Traces∧True) ((Holds.avl 0 rfl).and ((Holds.avl 5 rfl).and ((Holds.cel 173 1 rfl (by decide) rfl).and (hT)))) ?_ (fun hp=>?_)
 conv=>whnf
 refine Both.mk ?_ ?_<;>intro b98
 replace b98:=beq_ff b98
 obtain ⟨h,b98d⟩:=cfd b98 h
 conv=>whnf
 refine Side.mk rfl ?_
 conv=>whnf
 refine Both.yes (ff_beq b98) ?_
 conv=>whnf
 refine Side.mk rfl ?_
 conv=>whnf
 refine Both.yes (ff_beq b98) ?_
 conv=>whnf
 obtain ⟨c99,hc99,h⟩:=bind_some h
 refine ⟨_,(sp_R17_Great c92.1.Traces c99 (fun _=>hc99)),?_⟩
 conv=>whnf
 refine Both.no b98 ?_
 conv=>whnf
 cases h
 exact Join.mk (eA [(173,some 4)])
 replace b98:=beq_ft b98
 obtain ⟨h,b98d⟩:=ctd b98 h
 conv=>whnf
 iterate 2 (refine Both.no (tf_beq b98) ?_;(conv=>whnf))
 refine Both.yes b98 ?_
 conv=>whnf
 cases h
 exact Join.mk (eA [(173,some 4)])
 replace h:=hk94
 obtain ⟨z100,z101,z102,_⟩:=hp
 conv=>whnf
 refine Both.mk ?_ ?_<;>intro b103
 replace h:=cond_t b103 h
 conv=>whnf
 cases h
 conv=>whnf
 exact ⟨rfl,rfl⟩
 replace h:=cond_f b103 h
 conv=>whnf
 obtain ⟨oc,hc,hk104⟩:=bind_some h
 clear h
 have h:=hc
 clear hc
 refine Cut.mkS oc (Y:=Unit) (fun (_:Unit)=>mkSt [(0,.im (nL c_api_Trace l_)),(4,.own 173 1 0),(5,.im (nL c_api_Clash c92.2.1))] [(173,.box 42 2)] [(173,0,.im (nI c92.1.Inputs)),(173,1,.im (nL c_api_Trace c92.1.Traces))]) (fun (_:Unit)=>lZ l_∧lZ c92.2.1∧lZ c92.1.Traces∧True) (by rintro ⟨⟩;exact ((Holds.avl 0 rfl).and ((Holds.avl 5 rfl).and ((Holds.cel 173 1 rfl (by decide) rfl).and (hT))))) ?_ ?_
 conv=>whnf
 refine Loops.iter (fun (s:Nat)=>L18_NondetCertain.s16 c92 s) (fun i390=>mkSt [(0,.im (nL c_api_Trace l_)),(4,.own 173 1 0),(5,.im (nL c_api_Clash c92.2.1)),(7,.im (nI (↑i390:Int)))] [(173,.box 42 2)] [(173,0,.im (nI c92.1.Inputs)),(173,1,.im (nL c_api_Trace c92.1.Traces))]) (fun i390=>lZ l_∧lZ c92.2.1∧lZ c92.1.Traces∧True) h (eA [(173,some 173)]) (by rintro i390;exact ((Holds.avl 0 rfl).and ((Holds.avl 5 rfl).and ((Holds.cel 173 1 rfl (by decide) rfl).and (hT))))) ?_
 clear h
 rintro k i390 o hp h ho461
 replace h:L18_NondetCertain.s16 c92 i390=some o:=h
 unfold L18_NondetCertain.s16 at h
 obtain ⟨z532,z533,z534,_⟩:=hp
 conv=>whnf
 refine Nf.mk (List.length c92.2.1) len_map ?_
 conv=>whnf
 refine Both.mk ?_ ?_<;>intro b462
 obtain ⟨h,b462d⟩:=ctd b462 h
 conv=>whnf
 obtain ⟨y474,hc,hk464⟩:=bind_some h
 clear h
 have h:=hc
 clear hc
 refine Cut.mk (mkSt [(0,.im (nL c_api_Trace l_)),(4,.own 173 1 0),(5,.im (nL c_api_Clash c92.2.1)),(7,.im (nI (↑i390:Int))),(88,.im (nB y474))] [(173,.box 42 2)] [(173,0,.im (nI c92.1.Inputs)),(173,1,.im (nL c_api_Trace c92.1.Traces))]) (lZ l_∧lZ c92.2.1∧lZ c92.1.Traces∧True) ((Holds.avl 0 rfl).and ((Holds.avl 5 rfl).and ((Holds.cel 173 1 rfl (by decide) rfl).and (hT)))) ?_ (fun hp=>?_)
 conv=>whnf
 obtain ⟨e475,he475,h⟩:=idxn_some h
 refine ⟨_,⟨(by omega),map_at he475,rfl⟩,?_⟩
 conv=>whnf
 refine Nf.mk (List.length e475.Word) len_map ?_
 conv=>whnf
 refine Both.mk ?_ ?_<;>intro b476
 replace b476:=beq_ff b476
 obtain ⟨h,b476d⟩:=cfd b476 h
 conv=>whnf
 iterate 2 (refine Both.yes (ff_beq b476) ?_;(conv=>whnf))
 obtain ⟨e477,he477,h⟩:=idxn_some h
 refine ⟨_,⟨(by omega),map_at he477,rfl⟩,?_⟩
 conv=>whnf
 iterate 5 (refine Both.yes (ff_beq b476) ?_;(conv=>whnf))
 obtain ⟨e478,he478,h⟩:=idxn_some h
 refine ⟨_,⟨(by omega),map_at he478,rfl⟩,?_⟩
 conv=>whnf
 iterate 3 (refine Both.yes (ff_beq b476) ?_;(conv=>whnf))
 refine Both.no b476 ?_
 conv=>whnf
 refine Both.mk ?_ ?_<;>intro b479
 replace b479:=beq_ff b479
 obtain ⟨h,b479d⟩:=cfd b479 h
 conv=>whnf
 iterate 2 (refine Both.yes (ff_beq b479) ?_;(conv=>whnf))
 refine Both.mk ?_ ?_<;>intro b480
 replace b480:=beq_tt b480
 obtain ⟨h,b480d⟩:=ctd b480 h
 conv=>whnf
 iterate 2 (refine Both.yes (tt_beq b480) ?_;(conv=>whnf))
 refine Arith.mk (by show inR _;unfold inR;omega) ?_
 conv=>whnf
 refine Both.yes (tt_beq b480) ?_
 conv=>whnf
 obtain ⟨e481,he481z,he481,h⟩:=idx_some h
 refine ⟨_,⟨he481z,map_at he481,rfl⟩,?_⟩
 conv=>whnf
 iterate 5 (refine Both.yes (tt_beq b480) ?_;(conv=>whnf))
 obtain ⟨e482,he482,h⟩:=idxn_some h
 refine ⟨_,⟨(by omega),map_at he482,rfl⟩,?_⟩
 conv=>whnf
 iterate 3 (refine Both.yes (tt_beq b480) ?_;(conv=>whnf))
 obtain ⟨c483,hc483,h⟩:=bind_some h
 refine ⟨_,(sp_R01_Compare e481.Word e482.Word c483 (fun _ _=>hc483)),?_⟩
 conv=>whnf
 refine Both.yes (tt_beq b480) ?_
 conv=>whnf
 refine Both.yes (ff_beq b479) ?_
 conv=>whnf
 refine Both.yes b480 ?_
 conv=>whnf
 refine Both.no b479 ?_
 conv=>whnf
 cases h
 exact Join.mk (eA [(173,some 173)])
 replace b480:=beq_tf b480
 obtain ⟨h,b480d⟩:=cfd b480 h
 conv=>whnf
 iterate 12 (refine Both.no (ft_beq b480) ?_;(conv=>whnf))
 refine Both.yes (ff_beq b479) ?_
 conv=>whnf
 refine Both.no b480 ?_
 conv=>whnf
 refine Both.no b479 ?_
 conv=>whnf
 cases h
 exact Join.mk (eA [(173,some 173)])
 replace b479:=beq_ft b479
 obtain ⟨h,b479d⟩:=ctd b479 h
 conv=>whnf
 iterate 3 (refine Both.no (tf_beq b479) ?_;(conv=>whnf))
 refine Both.yes b479 ?_
 conv=>whnf
 cases h
 exact Join.mk (eA [(173,some 173)])
 replace b476:=beq_ft b476
 obtain ⟨h,b476d⟩:=ctd b476 h
 conv=>whnf
 iterate 10 (refine Both.no (tf_beq b476) ?_;(conv=>whnf))
 refine Both.yes b476 ?_
 conv=>whnf
 iterate 4 (refine Both.no rfl ?_;(conv=>whnf))
 refine Both.yes rfl ?_
 conv=>whnf
 cases h
 exact Join.mk (eA [(173,some 173)])
 replace h:=hk464
 obtain ⟨z484,z485,z486,_⟩:=hp
 conv=>whnf
 refine Both.mk ?_ ?_<;>intro b487
 replace h:=cond_t b487 h
 conv=>whnf
 cases h
 have ho461:_=_:=ho461
 cases ho461
 replace h:some _=some _:=hk104
 cases h
 conv=>whnf
 exact ⟨rfl,rfl⟩
 replace h:=cond_f b487 h
 conv=>whnf
 obtain ⟨oc,hc,hk488⟩:=bind_some h
 clear h
 have h:=hc
 clear hc
 refine Cut.mkS oc (Y:=Unit) (fun (_:Unit)=>mkSt [(0,.im (nL c_api_Trace l_)),(4,.own 173 1 0),(5,.im (nL c_api_Clash c92.2.1)),(7,.im (nI (↑i390:Int)))] [(173,.box 42 2)] [(173,0,.im (nI c92.1.Inputs)),(173,1,.im (nL c_api_Trace c92.1.Traces))]) (fun (_:Unit)=>lZ l_∧lZ c92.2.1∧lZ c92.1.Traces∧True) (by rintro ⟨⟩;exact ((Holds.avl 0 rfl).and ((Holds.avl 5 rfl).and ((Holds.cel 173 1 rfl (by decide) rfl).and (hT))))) ?_ ?_
 conv=>whnf
 refine Loops.iter (fun (s:Nat)=>L18_NondetCertain.s15 c92 i390 s) (fun k514=>mkSt [(0,.im (nL c_api_Trace l_)),(4,.own 173 1 0),(5,.im (nL c_api_Clash c92.2.1)),(7,.im (nI (↑i390:Int))),(8,.im (nI (↑k514:Int)))] [(173,.box 42 2)] [(173,0,.im (nI c92.1.Inputs)),(173,1,.im (nL c_api_Trace c92.1.Traces))]) (fun k514=>lZ l_∧lZ c92.2.1∧lZ c92.1.Traces∧True) h (eA [(173,some 173)]) (by rintro k514;exact ((Holds.avl 0 rfl).and ((Holds.avl 5 rfl).and ((Holds.cel 173 1 rfl (by decide) rfl).and (hT))))) ?_
 clear h
 rintro k k514 o hp h ho520
 replace h:L18_NondetCertain.s15 c92 i390 k514=some o:=h
 unfold L18_NondetCertain.s15 at h
 obtain ⟨z526,z527,z528,_⟩:=hp
 conv=>whnf
 refine Side.mk rfl ?_
 conv=>whnf
 refine Side.mk rfl ?_
 conv=>whnf
 refine Nf.mk (List.length c92.1.Traces) len_map ?_
 conv=>whnf
 refine Both.mk ?_ ?_<;>intro b521
 obtain ⟨h,b521d⟩:=ctd b521 h
 conv=>whnf
 refine Side.mk rfl ?_
 conv=>whnf
 refine Side.mk rfl ?_
 conv=>whnf
 obtain ⟨e522,he522,h⟩:=idxn_some h
 refine ⟨_,⟨(by omega),map_at he522,rfl⟩,?_⟩
 conv=>whnf
 obtain ⟨e523,he523,h⟩:=idxn_some h
 refine ⟨_,⟨(by omega),map_at he523,rfl⟩,?_⟩
 conv=>whnf
 obtain ⟨c524,hc524,h⟩:=bind_some h
 refine ⟨_,(sp_R01_HasPrefix e522.In e523.Word c524 (fun _ _=>hc524)),?_⟩
 conv=>whnf
 refine Both.mk ?_ ?_<;>intro b525
 replace h:=cond_t b525 h
 conv=>whnf
 cases h
 have ho520:_=_:=ho520
 cases ho520
 replace h:some _=some _:=hk488
 cases h
 have ho461:_=_:=ho461
 cases ho461
 replace h:some _=some _:=hk104
 cases h
 conv=>whnf
 exact ⟨rfl,rfl⟩
 replace h:=cond_f b525 h
 conv=>whnf
 refine Arith.mk (by show inR _;unfold inR;omega) ?_
 conv=>whnf
 cases h
 exact Nxt.mk _ ho520 (eA [(173,some 173)])
 obtain ⟨h,b521d⟩:=cfd b521 h
 conv=>whnf
 cases h
 have ho520:_=_:=ho520
 cases ho520
 exact JoinS.mk' _ rfl (eA [(173,some 173)])
 rintro ⟨⟩ rfl hp
 replace h:=sum_inl hk488
 obtain ⟨z529,z530,z531,_⟩:=hp
 conv=>whnf
 refine Arith.mk (by show inR _;unfold inR;omega) ?_
 conv=>whnf
 cases h
 exact Nxt.mk _ ho461 (eA [(173,some 173)])
 obtain ⟨h,b462d⟩:=cfd b462 h
 conv=>whnf
 cases h
 have ho461:_=_:=ho461
 cases ho461
 exact JoinS.mk' _ rfl (eA [(173,some 173)])
 rintro ⟨⟩ rfl hp
 replace h:=sum_inl hk104
 obtain ⟨z535,z536,z537,_⟩:=hp
 conv=>whnf
 obtain ⟨oc,hc,hk538⟩:=bind_some h
 clear h
 have h:=hc
 clear hc
 refine Cut.mkS oc (Y:=Unit) (fun (_:Unit)=>mkSt [] [] []) (fun (_:Unit)=>True) (by rintro ⟨⟩;exact (hT)) ?_ ?_
 conv=>whnf
 refine Loops.iter (fun (s:Nat)=>L18_NondetCertain.s30 l_ c92 s) (fun i860=>mkSt [(0,.im (nL c_api_Trace l_)),(4,.own 173 1 0),(5,.im (nL c_api_Clash c92.2.1)),(9,.im (nI (↑i860:Int)))] [(173,.box 42 2)] [(173,0,.im (nI c92.1.Inputs)),(173,1,.im (nL c_api_Trace c92.1.Traces))]) (fun i860=>lZ l_∧lZ c92.2.1∧lZ c92.1.Traces∧True) h (eA [(173,some 173)]) (by rintro i860;exact ((Holds.avl 0 rfl).and ((Holds.avl 5 rfl).and ((Holds.cel 173 1 rfl (by decide) rfl).and (hT))))) ?_
 clear h
 rintro k i860 o hp h ho940
 replace h:L18_NondetCertain.s30 l_ c92 i860=some o:=h
 unfold L18_NondetCertain.s30 at h
 obtain ⟨z1020,z1021,z1022,_⟩:=hp
 conv=>whnf
 refine Nf.mk (List.length l_) len_map ?_
 conv=>whnf
 refine Both.mk ?_ ?_<;>intro b941
 obtain ⟨h,b941d⟩:=ctd b941 h
 conv=>whnf
 obtain ⟨e942,he942,h⟩:=idxn_some h
 refine ⟨_,⟨(by omega),map_at he942,rfl⟩,?_⟩
 conv=>whnf
 refine Nf.mk (List.length e942.In) len_map ?_
 conv=>whnf
 obtain ⟨n971,hc,hk943⟩:=bind_some h
 clear h
 have h:=hc
 clear hc
 refine Cut.mk (mkSt [(0,.im (nL c_api_Trace l_)),(4,.own 173 1 0),(5,.im (nL c_api_Clash c92.2.1)),(9,.im (nI (↑i860:Int))),(10,.im (nI n971))] [(173,.box 42 2)] [(173,0,.im (nI c92.1.Inputs)),(173,1,.im (nL c_api_Trace c92.1.Traces))]) (lZ l_∧lZ c92.2.1∧lZ c92.1.Traces∧True) ((Holds.avl 0 rfl).and ((Holds.avl 5 rfl).and ((Holds.cel 173 1 rfl (by decide) rfl).and (hT)))) ?_ (fun hp=>?_)
 conv=>whnf
 refine Loops.iter (fun (s:Int×Nat)=>L18_NondetCertain.s29 l_ c92 i860 s.1 s.2) (fun (n979,k980)=>mkSt [(0,.im (nL c_api_Trace l_)),(4,.own 173 1 0),(5,.im (nL c_api_Clash c92.2.1)),(9,.im (nI (↑i860:Int))),(10,.im (nI n979)),(11,.im (nI (↑k980:Int)))] [(173,.box 42 2)] [(173,0,.im (nI c92.1.Inputs)),(173,1,.im (nL c_api_Trace c92.1.Traces))]) (fun (n979,k980)=>lZ l_∧lZ c92.2.1∧lZ c92.1.Traces∧True) h (eA [(173,some 173)]) (by rintro ⟨n979,k980⟩;exact ((Holds.avl 0 rfl).and ((Holds.avl 5 rfl).and ((Holds.cel 173 1 rfl (by decide) rfl).and (hT))))) ?_
 clear h
 rintro k ⟨n979,k980⟩ o hp h ho988
 replace h:L18_NondetCertain.s29 l_ c92 i860 n979 k980=some o:=h
 unfold L18_NondetCertain.s29 at h
 obtain ⟨z996,z997,z998,_⟩:=hp
 conv=>whnf
 refine Nf.mk (List.length c92.2.1) len_map ?_
 conv=>whnf
 refine Both.mk ?_ ?_<;>intro b989
 obtain ⟨h,b989d⟩:=ctd b989 h
 conv=>whnf
 obtain ⟨e990,he990,h⟩:=idxn_some h
 refine ⟨_,⟨(by omega),map_at he990,rfl⟩,?_⟩
 conv=>whnf
 obtain ⟨e991,he991,h⟩:=idxn_some h
 refine ⟨_,⟨(by omega),map_at he991,rfl⟩,?_⟩
 conv=>whnf
 obtain ⟨c992,hc992,h⟩:=bind_some h
 refine ⟨_,(sp_R01_HasPrefix e990.In e991.Word c992 (fun _ _=>hc992)),?_⟩
 conv=>whnf
 refine Both.mk ?_ ?_<;>intro b993
 replace h:=cond_t b993 h
 conv=>whnf
 obtain ⟨e994,he994,h⟩:=idxn_some h
 refine ⟨_,⟨(by omega),map_at he994,rfl⟩,?_⟩
 conv=>whnf
 refine Nf.mk (List.length e994.Word) len_map ?_
 conv=>whnf
 obtain ⟨c995,h⟩:=chk_some h
 refine Arith.mk c995 ?_
 conv=>whnf
 refine Arith.mk (by show inR _;unfold inR;omega) ?_
 conv=>whnf
 cases h
 exact Nxt.mk _ ho988 (eA [(173,some 173)])
 replace h:=cond_f b993 h
 conv=>whnf
 refine Arith.mk (by show inR _;unfold inR;omega) ?_
 conv=>whnf
 cases h
 exact Nxt.mk _ ho988 (eA [(173,some 173)])
 obtain ⟨h,b989d⟩:=cfd b989 h
 conv=>whnf
 cases h
 have ho988:_=_:=ho988
 cases ho988
 exact Join.mk (eA [(173,some 173)])
 replace h:=hk943
 obtain ⟨z999,z1000,z1001,_⟩:=hp
 conv=>whnf
 refine Side.mk rfl ?_
 conv=>whnf
 obtain ⟨e1002,he1002,h⟩:=idxn_some h
 refine ⟨_,⟨(by omega),map_at he1002,rfl⟩,?_⟩
 conv=>whnf
 obtain ⟨c1003,h⟩:=chk_some h
 refine Side.mk (show (0:Int)≤(0:Int)∧(0:Int)≤n971∧n971≤(↑(List.length (List.map cI e1002.In)):Int)∧(∀ e∈List.map cI e1002.In,List.length e=1) from ⟨by omega,by first | omega | (simp only [List.length_map];omega),by first | omega | (simp only [List.length_map];omega),map_len fun _=>rfl⟩) ?_
 conv=>whnf
 refine Nf.mk (List.map cI (List.take (Int.toNat n971) e1002.In)) take_map ?_
 conv=>whnf
 obtain ⟨c1004,hc1004,h⟩:=bind_some h
 refine ⟨_,(sp_observe_Answer c92.1 (List.take (Int.toNat n971) e1002.In) c1004 (fun _ _=>hc1004)),?_⟩
 conv=>whnf
 obtain ⟨y1011,hc,hk1006⟩:=bind_some h
 clear h
 have h:=hc
 clear hc
 refine Cut.mk (mkSt [(0,.im (nL c_api_Trace l_)),(4,.own 173 1 0),(5,.im (nL c_api_Clash c92.2.1)),(9,.im (nI (↑i860:Int))),(171,.im (nB y1011))] [(173,.box 42 2)] [(173,0,.im (nI c92.1.Inputs)),(173,1,.im (nL c_api_Trace c92.1.Traces))]) (lZ l_∧lZ c92.2.1∧lZ c92.1.Traces∧True) ((Holds.avl 0 rfl).and ((Holds.avl 5 rfl).and ((Holds.cel 173 1 rfl (by decide) rfl).and (hT)))) ?_ (fun hp=>?_)
 conv=>whnf
 refine Both.mk ?_ ?_<;>intro b1012
 replace b1012:=beq_ff b1012
 replace h:=cond_f b1012 h
 conv=>whnf
 iterate 3 (refine Both.yes (ff_beq b1012) ?_;(conv=>whnf))
 obtain ⟨e1013,he1013,h⟩:=idxn_some h
 refine ⟨_,⟨(by omega),map_at he1013,rfl⟩,?_⟩
 conv=>whnf
 iterate 4 (refine Both.yes (ff_beq b1012) ?_;(conv=>whnf))
 obtain ⟨c1014,h⟩:=chk_some h
 refine Side.mk (show (0:Int)≤(0:Int)∧(0:Int)≤n971∧n971≤(↑(List.length (List.map cI e1013.Out)):Int)∧(∀ e∈List.map cI e1013.Out,List.length e=1) from ⟨by omega,by first | omega | (simp only [List.length_map];omega),by first | omega | (simp only [List.length_map];omega),map_len fun _=>rfl⟩) ?_
 conv=>whnf
 refine Nf.mk (List.map cI (List.take (Int.toNat n971) e1013.Out)) take_map ?_
 conv=>whnf
 refine Both.yes (ff_beq b1012) ?_
 conv=>whnf
 obtain ⟨c1015,hc1015,h⟩:=bind_some h
 refine ⟨_,(sp_R01_Same c1004.1 (List.take (Int.toNat n971) e1013.Out) c1015 (fun _ _=>hc1015)),?_⟩
 conv=>whnf
 refine Both.yes (ff_beq b1012) ?_
 conv=>whnf
 refine Both.no b1012 ?_
 conv=>whnf
 cases h
 exact Join.mk (eA [(173,some 173)])
 replace b1012:=beq_ft b1012
 replace h:=cond_t b1012 h
 conv=>whnf
 iterate 9 (refine Both.no (tf_beq b1012) ?_;(conv=>whnf))
 refine Both.yes b1012 ?_
 conv=>whnf
 cases h
 exact Join.mk (eA [(173,some 173)])
 replace h:=hk1006
 obtain ⟨z1016,z1017,z1018,_⟩:=hp
 conv=>whnf
 refine Both.mk ?_ ?_<;>intro b1019
 replace h:=cond_t b1019 h
 conv=>whnf
 cases h
 have ho940:_=_:=ho940
 cases ho940
 replace h:some _=some _:=hk538
 cases h
 conv=>whnf
 exact ⟨rfl,rfl⟩
 replace h:=cond_f b1019 h
 conv=>whnf
 refine Arith.mk (by show inR _;unfold inR;omega) ?_
 conv=>whnf
 cases h
 exact Nxt.mk _ ho940 (eA [(173,some 173)])
 obtain ⟨h,b941d⟩:=cfd b941 h
 conv=>whnf
 cases h
 have ho940:_=_:=ho940
 cases ho940
 exact JoinS.mk' _ rfl (eA [])
 rintro ⟨⟩ rfl hp
 replace h:=sum_inl hk538
 conv=>whnf
 obtain ⟨c1023,hc1023,h⟩:=bind_some h
 refine ⟨_,(sp_L18_awake  c1023 (hc1023)),?_⟩
 conv=>whnf
 cases h
 conv=>whnf
 exact ⟨rfl,rfl⟩
end Go.Proofs.YtmcfpohmiabmpaaGreatDoor.Sym
