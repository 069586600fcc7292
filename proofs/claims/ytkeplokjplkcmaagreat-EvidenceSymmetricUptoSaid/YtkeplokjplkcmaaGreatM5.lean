/-
  The contracts of the functions, read from the code by a program (ext.py): each function has its plain twin as its contract.
-/
import Derived.Test.YtkeplokjplkcmaaGreatM4
set_option linter.all false
namespace Go.Proofs.YtkeplokjplkcmaaGreat.Sym
open Go.RowKit
set_option maxRecDepth 100000
set_option linter.unusedVariables false
set_option maxHeartbeats 4000000
theorem eI {σ:St} {src:List (Nat×Option Nat)} {γ:Nat→Nat} {t:Nat} {y b:IV} (h1:σ.av t=.im y) (h2:AV.im y=.im b):∃ x,σ.av t=x∧SubR σ src γ x (.im b):=⟨.im y,h1,.im (Sub.rfl' h2)⟩
theorem odt {p:Prop} [Decidable p] (h:decide p=true):p:=of_decide_eq_true h
theorem odf {p:Prop} [Decidable p] (h:decide p=false):¬ p:=of_decide_eq_false h
theorem ctd {α:Type} {p:Prop} [Decidable p] {x y z:α} (hb:decide p=true) (h:cond (decide p) x y=z):x=z∧p:=⟨cond_t hb h,odt hb⟩
theorem cfd {α:Type} {p:Prop} [Decidable p] {x y z:α} (hb:decide p=false) (h:cond (decide p) x y=z):y=z∧¬ p:=⟨cond_f hb h,odf hb⟩
theorem hT {σ:St}:Holds σ True:=Holds.true_ _
abbrev lZ {α:Type} (l:List α):Prop:=List.length l≤17592186044416
theorem eA {σ:St} {avs:List (Nat×AV)} {kds:List (Nat×Kd)} {cels:List (Nat×Nat×AV)} (src:List (Nat×Option Nat)) (hn:ndB (srcs src) []=true:=by exact rfl) (ha:SubL σ src (gnM kds) avs:=by repeat' (first | exact trivial | refine ⟨eI rfl rfl,?_⟩ | refine ⟨⟨.own _ _ _,rfl,.own rfl rfl rfl⟩,?_⟩ | refine ⟨⟨.osl _ _,rfl,.osl rfl rfl rfl⟩,?_⟩ | refine ⟨⟨.im (.val (.slice none 0 0)),rfl,.made rfl rfl⟩,?_⟩)) (hk:KdL σ src kds:=by repeat' (first | exact trivial | refine ⟨.inl ⟨_,rfl,rfl,trivial⟩,?_⟩ | refine ⟨.inl ⟨_,rfl,rfl,⟨rfl,rfl⟩⟩,?_⟩ | refine ⟨.inr ⟨rfl,rfl,.inl ⟨_,_,rfl,by decide⟩⟩,?_⟩)) (hc:CeL σ src (gnM kds) cels:=by repeat' (first | exact trivial | refine ⟨⟨_,.im _,rfl,rfl,.im (Sub.rfl' rfl)⟩,?_⟩ | refine ⟨⟨_,.own _ _ _,rfl,rfl,.own rfl rfl rfl⟩,?_⟩ | refine ⟨⟨_,.osl _ _,rfl,rfl,.osl rfl rfl rfl⟩,?_⟩)):Ent σ (mkSt avs kds cels):=Ent.mk src hn ha hk hc
theorem sp_R35_Great (p_:T_api_Part) (r:Bool) (h:Ok (.agg (c_api_Part p_))→R35_Great p_=some r):Sp Tryz.prog 8 [.im (.agg (c_api_Part p_))] (.im (nB r)):=by
 refine sp_of rfl [700001] rfl rfl rfl (Nat.le_of_ble_eq_true rfl) rfl fun hk=>?_
 replace h:=h hk.1
 have z1:lZ p_.Next:=ok_len (Ok.agg_at hk.1 2 rfl)
 have z2:lZ p_.Out:=ok_len (Ok.agg_at hk.1 3 rfl)
 unfold R35_Great at h
 conv=>whnf
 obtain ⟨oc,hc,hk51⟩:=bind_some h
 clear h
 have h:=hc
 clear hc
 refine Cut.mkS oc (Y:=Unit) (fun (_:Unit)=>mkSt [(1,.im (.ref (c_api_Part p_)))] [] []) (fun (_:Unit)=>True) (by rintro ⟨⟩;exact (hT)) ?_ ?_
 conv=>whnf
 refine Loops.iter (fun (s:Nat)=>R35_Great.s2 p_ s) (fun s88=>mkSt [(1,.im (.ref (c_api_Part p_))),(3,.im (nI (↑s88:Int)))] [] []) (fun s88=>True) h (eA []) (by rintro s88;exact (hT)) ?_
 clear h
 rintro k s88 o hp h ho98
 replace h:R35_Great.s2 p_ s88=some o:=h
 unfold R35_Great.s2 at h
 conv=>whnf
 obtain ⟨y102,hc,hk100⟩:=bind_some h
 clear h
 have h:=hc
 clear hc
 refine Cut.mk (mkSt [(1,.im (.ref (c_api_Part p_))),(3,.im (nI (↑s88:Int))),(13,.im (nB y102))] [] []) (True) (hT) ?_ (fun hp=>?_)
 conv=>whnf
 refine Nf.mk (List.length p_.Next) len_map ?_
 conv=>whnf
 refine Both.mk ?_ ?_<;>intro b103
 replace b103:=beq_tt b103
 obtain ⟨h,b103d⟩:=ctd b103 h
 conv=>whnf
 refine Both.yes (tt_beq b103) ?_
 conv=>whnf
 refine Both.yes b103 ?_
 conv=>whnf
 cases h
 exact Join.mk (eA [])
 replace b103:=beq_tf b103
 obtain ⟨h,b103d⟩:=cfd b103 h
 conv=>whnf
 refine Both.no (ft_beq b103) ?_
 conv=>whnf
 refine Both.no b103 ?_
 conv=>whnf
 cases h
 exact Join.mk (eA [])
 replace h:=hk100
 conv=>whnf
 refine Both.mk ?_ ?_<;>intro b104
 replace h:=cond_t b104 h
 conv=>whnf
 obtain ⟨e105,he105,h⟩:=idxn_some h
 refine ⟨_,⟨(by omega),map_at he105,rfl⟩,?_⟩
 conv=>whnf
 refine Nf.mk (List.length e105) len_map ?_
 conv=>whnf
 refine Both.mk ?_ ?_<;>intro b106
 obtain ⟨h,b106d⟩:=ctd b106 h
 conv=>whnf
 cases h
 have ho98:_=_:=ho98
 cases ho98
 replace h:some _=some _:=hk51
 cases h
 conv=>whnf
 exact ⟨rfl,rfl⟩
 obtain ⟨h,b106d⟩:=cfd b106 h
 conv=>whnf
 obtain ⟨c107,h⟩:=chk_some h
 refine Arith.mk c107 ?_
 conv=>whnf
 cases h
 exact Nxt.mk _ ho98 (eA [])
 replace h:=cond_f b104 h
 conv=>whnf
 cases h
 have ho98:_=_:=ho98
 cases ho98
 exact JoinS.mk' _ rfl (eA [])
 rintro ⟨⟩ rfl hp
 replace h:=sum_inl hk51
 conv=>whnf
 obtain ⟨oc,hc,hk108⟩:=bind_some h
 clear h
 have h:=hc
 clear hc
 refine Cut.mkS oc (Y:=Unit) (fun (_:Unit)=>mkSt [(1,.im (.ref (c_api_Part p_)))] [] []) (fun (_:Unit)=>True) (by rintro ⟨⟩;exact (hT)) ?_ ?_
 conv=>whnf
 refine Loops.iter (fun (s:Nat)=>R35_Great.s4 p_ s) (fun s145=>mkSt [(1,.im (.ref (c_api_Part p_))),(4,.im (nI (↑s145:Int)))] [] []) (fun s145=>True) h (eA []) (by rintro s145;exact (hT)) ?_
 clear h
 rintro k s145 o hp h ho155
 replace h:R35_Great.s4 p_ s145=some o:=h
 unfold R35_Great.s4 at h
 conv=>whnf
 obtain ⟨y159,hc,hk157⟩:=bind_some h
 clear h
 have h:=hc
 clear hc
 refine Cut.mk (mkSt [(1,.im (.ref (c_api_Part p_))),(4,.im (nI (↑s145:Int))),(31,.im (nB y159))] [] []) (True) (hT) ?_ (fun hp=>?_)
 conv=>whnf
 refine Nf.mk (List.length p_.Out) len_map ?_
 conv=>whnf
 refine Both.mk ?_ ?_<;>intro b160
 replace b160:=beq_tt b160
 obtain ⟨h,b160d⟩:=ctd b160 h
 conv=>whnf
 refine Both.yes (tt_beq b160) ?_
 conv=>whnf
 refine Both.yes b160 ?_
 conv=>whnf
 cases h
 exact Join.mk (eA [])
 replace b160:=beq_tf b160
 obtain ⟨h,b160d⟩:=cfd b160 h
 conv=>whnf
 refine Both.no (ft_beq b160) ?_
 conv=>whnf
 refine Both.no b160 ?_
 conv=>whnf
 cases h
 exact Join.mk (eA [])
 replace h:=hk157
 conv=>whnf
 refine Both.mk ?_ ?_<;>intro b161
 replace h:=cond_t b161 h
 conv=>whnf
 obtain ⟨e162,he162,h⟩:=idxn_some h
 refine ⟨_,⟨(by omega),map_at he162,rfl⟩,?_⟩
 conv=>whnf
 refine Nf.mk (List.length e162) len_map ?_
 conv=>whnf
 refine Both.mk ?_ ?_<;>intro b163
 obtain ⟨h,b163d⟩:=ctd b163 h
 conv=>whnf
 cases h
 have ho155:_=_:=ho155
 cases ho155
 replace h:some _=some _:=hk108
 cases h
 conv=>whnf
 exact ⟨rfl,rfl⟩
 obtain ⟨h,b163d⟩:=cfd b163 h
 conv=>whnf
 obtain ⟨c164,h⟩:=chk_some h
 refine Arith.mk c164 ?_
 conv=>whnf
 cases h
 exact Nxt.mk _ ho155 (eA [])
 replace h:=cond_f b161 h
 conv=>whnf
 cases h
 have ho155:_=_:=ho155
 cases ho155
 exact JoinS.mk' _ rfl (eA [])
 rintro ⟨⟩ rfl hp
 replace h:=sum_inl hk108
 conv=>whnf
 obtain ⟨y168,hc,hk166⟩:=bind_some h
 clear h
 have h:=hc
 clear hc
 refine Cut.mk (mkSt [(2,.im (nB y168))] [] []) (True) (hT) ?_ (fun hp=>?_)
 conv=>whnf
 refine Nf.mk (List.length p_.Next) len_map ?_
 conv=>whnf
 refine Both.mk ?_ ?_<;>intro b169
 replace b169:=beq_ff b169
 obtain ⟨h,b169d⟩:=cfd b169 h
 conv=>whnf
 iterate 2 (refine Both.yes (ff_beq b169) ?_;(conv=>whnf))
 refine Nf.mk (List.length p_.Out) len_map ?_
 conv=>whnf
 refine Both.yes (ff_beq b169) ?_
 conv=>whnf
 refine Both.no b169 ?_
 conv=>whnf
 cases h
 exact Join.mk (eA [])
 replace b169:=beq_ft b169
 obtain ⟨h,b169d⟩:=ctd b169 h
 conv=>whnf
 iterate 3 (refine Both.no (tf_beq b169) ?_;(conv=>whnf))
 refine Both.yes b169 ?_
 conv=>whnf
 cases h
 exact Join.mk (eA [])
 replace h:=hk166
 conv=>whnf
 cases h
 conv=>whnf
 exact ⟨rfl,rfl⟩
theorem sp_R01_Common (a_:List Int) (b_:List Int) (r:Int) (h:Ok (nL cI a_)→Ok (nL cI b_)→R01_Common a_ b_=some r):Sp Tryz.prog 74 [.im (nL cI a_),.im (nL cI b_)] (.im (nI r)):=by
 refine sp_of rfl [] rfl rfl rfl (Nat.le_of_ble_eq_true rfl) rfl fun hk=>?_
 replace h:=h hk.1 hk.2.1
 have z1:lZ a_:=ok_len hk.1
 have z2:lZ b_:=ok_len hk.2.1
 unfold R01_Common at h
 conv=>whnf
 obtain ⟨i100,hc,hk51⟩:=bind_some h
 clear h
 have h:=hc
 clear hc
 refine Cut.mk (mkSt [(5,.im (nI (↑i100:Int)))] [] []) (True) (hT) ?_ (fun hp=>?_)
 conv=>whnf
 refine Loops.iter (fun (s:Nat)=>R01_Common.s2 a_ b_ s) (fun i115=>mkSt [(0,.im (nL cI a_)),(1,.im (nL cI b_)),(5,.im (nI (↑i115:Int)))] [] []) (fun i115=>lZ a_∧lZ b_∧True) h (eA []) (by rintro i115;exact ((Holds.avl 0 rfl).and ((Holds.avl 1 rfl).and (hT)))) ?_
 clear h
 rintro k i115 o hp h ho131
 replace h:R01_Common.s2 a_ b_ i115=some o:=h
 unfold R01_Common.s2 at h
 obtain ⟨z147,z148,_⟩:=hp
 conv=>whnf
 obtain ⟨y138,hc,hk133⟩:=bind_some h
 clear h
 have h:=hc
 clear hc
 refine Cut.mk (mkSt [(0,.im (nL cI a_)),(1,.im (nL cI b_)),(5,.im (nI (↑i115:Int))),(26,.im (nB y138))] [] []) (lZ a_∧lZ b_∧True) ((Holds.avl 0 rfl).and ((Holds.avl 1 rfl).and (hT))) ?_ (fun hp=>?_)
 conv=>whnf
 refine Nf.mk (List.length a_) len_map ?_
 conv=>whnf
 refine Both.mk ?_ ?_<;>intro b139
 replace b139:=beq_tt b139
 obtain ⟨h,b139d⟩:=ctd b139 h
 conv=>whnf
 iterate 2 (refine Both.yes (tt_beq b139) ?_;(conv=>whnf))
 refine Nf.mk (List.length b_) len_map ?_
 conv=>whnf
 refine Both.yes (tt_beq b139) ?_
 conv=>whnf
 refine Both.yes b139 ?_
 conv=>whnf
 refine Both.mk ?_ ?_<;>intro b140
 replace b140:=beq_tt b140
 obtain ⟨h,b140d⟩:=ctd b140 h
 conv=>whnf
 iterate 2 (refine Both.yes (tt_beq b140) ?_;(conv=>whnf))
 obtain ⟨e141,he141,h⟩:=idxn_some h
 refine ⟨_,⟨(by omega),map_at he141,rfl⟩,?_⟩
 conv=>whnf
 iterate 4 (refine Both.yes (tt_beq b140) ?_;(conv=>whnf))
 obtain ⟨e142,he142,h⟩:=idxn_some h
 refine ⟨_,⟨(by omega),map_at he142,rfl⟩,?_⟩
 conv=>whnf
 iterate 2 (refine Both.yes (tt_beq b140) ?_;(conv=>whnf))
 refine Both.yes b140 ?_
 conv=>whnf
 cases h
 exact Join.mk (eA [])
 replace b140:=beq_tf b140
 obtain ⟨h,b140d⟩:=cfd b140 h
 conv=>whnf
 iterate 8 (refine Both.no (ft_beq b140) ?_;(conv=>whnf))
 refine Both.no b140 ?_
 conv=>whnf
 cases h
 exact Join.mk (eA [])
 replace b139:=beq_tf b139
 obtain ⟨h,b139d⟩:=cfd b139 h
 conv=>whnf
 iterate 3 (refine Both.no (ft_beq b139) ?_;(conv=>whnf))
 refine Both.no b139 ?_
 conv=>whnf
 iterate 10 (refine Both.no rfl ?_;(conv=>whnf))
 cases h
 exact Join.mk (eA [])
 replace h:=hk133
 obtain ⟨z143,z144,_⟩:=hp
 conv=>whnf
 refine Both.mk ?_ ?_<;>intro b145
 replace h:=cond_t b145 h
 conv=>whnf
 obtain ⟨c146,h⟩:=chk_some h
 refine Arith.mk c146 ?_
 conv=>whnf
 cases h
 exact Nxt.mk _ ho131 (eA [])
 replace h:=cond_f b145 h
 conv=>whnf
 cases h
 have ho131:_=_:=ho131
 cases ho131
 exact Join.mk (eA [])
 replace h:=hk51
 conv=>whnf
 cases h
 conv=>whnf
 exact ⟨rfl,rfl⟩
theorem sp_R01_Lex (a_:List Int) (b_:List Int) (r:Int) (h:Ok (nL cI a_)→Ok (nL cI b_)→R01_Lex a_ b_=some r):Sp Tryz.prog 75 [.im (nL cI a_),.im (nL cI b_)] (.im (nI r)):=by
 refine sp_of rfl [] rfl rfl rfl (Nat.le_of_ble_eq_true rfl) rfl fun hk=>?_
 replace h:=h hk.1 hk.2.1
 have z1:lZ a_:=ok_len hk.1
 have z2:lZ b_:=ok_len hk.2.1
 unfold R01_Lex at h
 conv=>whnf
 obtain ⟨c51,hc51,h⟩:=bind_some h
 refine ⟨_,(sp_R01_Common a_ b_ c51 (fun _ _=>hc51)),?_⟩
 conv=>whnf
 obtain ⟨y55,hc,hk53⟩:=bind_some h
 clear h
 have h:=hc
 clear hc
 refine Cut.mk (mkSt [(0,.im (nL cI a_)),(1,.im (nL cI b_)),(5,.im (nI c51)),(9,.im (nB y55))] [] []) (lZ a_∧lZ b_∧True) ((Holds.avl 0 rfl).and ((Holds.avl 1 rfl).and (hT))) ?_ (fun hp=>?_)
 conv=>whnf
 refine Nf.mk (List.length a_) len_map ?_
 conv=>whnf
 refine Both.mk ?_ ?_<;>intro b56
 replace b56:=beq_tt b56
 obtain ⟨h,b56d⟩:=ctd b56 h
 conv=>whnf
 iterate 2 (refine Both.yes (tt_beq b56) ?_;(conv=>whnf))
 refine Nf.mk (List.length b_) len_map ?_
 conv=>whnf
 refine Both.yes (tt_beq b56) ?_
 conv=>whnf
 refine Both.yes b56 ?_
 conv=>whnf
 cases h
 exact Join.mk (eA [])
 replace b56:=beq_tf b56
 obtain ⟨h,b56d⟩:=cfd b56 h
 conv=>whnf
 iterate 3 (refine Both.no (ft_beq b56) ?_;(conv=>whnf))
 refine Both.no b56 ?_
 conv=>whnf
 cases h
 exact Join.mk (eA [])
 replace h:=hk53
 obtain ⟨z57,z58,_⟩:=hp
 conv=>whnf
 refine Both.mk ?_ ?_<;>intro b59
 replace h:=cond_t b59 h
 conv=>whnf
 cases h
 conv=>whnf
 exact ⟨rfl,rfl⟩
 replace h:=cond_f b59 h
 conv=>whnf
 obtain ⟨y66,hc,hk61⟩:=bind_some h
 clear h
 have h:=hc
 clear hc
 refine Cut.mk (mkSt [(20,.im (nB y66))] [] []) (True) (hT) ?_ (fun hp=>?_)
 conv=>whnf
 refine Nf.mk (List.length a_) len_map ?_
 conv=>whnf
 refine Both.mk ?_ ?_<;>intro b67
 obtain ⟨h,b67d⟩:=ctd b67 h
 conv=>whnf
 cases h
 exact Join.mk (eA [])
 obtain ⟨h,b67d⟩:=cfd b67 h
 conv=>whnf
 refine Nf.mk (List.length b_) len_map ?_
 conv=>whnf
 refine Both.mk ?_ ?_<;>intro b68
 replace b68:=beq_tt b68
 obtain ⟨h,b68d⟩:=ctd b68 h
 conv=>whnf
 iterate 2 (refine Both.yes (tt_beq b68) ?_;(conv=>whnf))
 obtain ⟨e69,he69z,he69,h⟩:=idx_some h
 refine ⟨_,⟨he69z,map_at he69,rfl⟩,?_⟩
 conv=>whnf
 iterate 4 (refine Both.yes (tt_beq b68) ?_;(conv=>whnf))
 obtain ⟨e70,he70z,he70,h⟩:=idx_some h
 refine ⟨_,⟨he70z,map_at he70,rfl⟩,?_⟩
 conv=>whnf
 iterate 2 (refine Both.yes (tt_beq b68) ?_;(conv=>whnf))
 refine Both.yes b68 ?_
 conv=>whnf
 cases h
 exact Join.mk (eA [])
 replace b68:=beq_tf b68
 obtain ⟨h,b68d⟩:=cfd b68 h
 conv=>whnf
 iterate 8 (refine Both.no (ft_beq b68) ?_;(conv=>whnf))
 refine Both.no b68 ?_
 conv=>whnf
 cases h
 exact Join.mk (eA [])
 replace h:=hk61
 conv=>whnf
 refine Both.mk ?_ ?_<;>intro b71
 replace h:=cond_t b71 h
 conv=>whnf
 cases h
 conv=>whnf
 exact ⟨rfl,rfl⟩
 replace h:=cond_f b71 h
 conv=>whnf
 cases h
 conv=>whnf
 exact ⟨rfl,rfl⟩
theorem sp_R01_Compare (a_:List Int) (b_:List Int) (r:Int) (h:Ok (nL cI a_)→Ok (nL cI b_)→R01_Compare a_ b_=some r):Sp Tryz.prog 34 [.im (nL cI a_),.im (nL cI b_)] (.im (nI r)):=by
 refine sp_of rfl [] rfl rfl rfl (Nat.le_of_ble_eq_true rfl) rfl fun hk=>?_
 replace h:=h hk.1 hk.2.1
 have z1:lZ a_:=ok_len hk.1
 have z2:lZ b_:=ok_len hk.2.1
 unfold R01_Compare at h
 conv=>whnf
 refine Nf.mk (List.length a_) len_map ?_
 conv=>whnf
 refine Nf.mk (List.length b_) len_map ?_
 conv=>whnf
 refine Both.mk ?_ ?_<;>intro b51
 obtain ⟨h,b51d⟩:=ctd b51 h
 conv=>whnf
 cases h
 conv=>whnf
 exact ⟨rfl,rfl⟩
 obtain ⟨h,b51d⟩:=cfd b51 h
 conv=>whnf
 refine Nf.mk (List.length a_) len_map ?_
 conv=>whnf
 refine Nf.mk (List.length b_) len_map ?_
 conv=>whnf
 refine Both.mk ?_ ?_<;>intro b52
 obtain ⟨h,b52d⟩:=ctd b52 h
 conv=>whnf
 cases h
 conv=>whnf
 exact ⟨rfl,rfl⟩
 obtain ⟨h,b52d⟩:=cfd b52 h
 conv=>whnf
 obtain ⟨c53,hc53,h⟩:=bind_some h
 refine ⟨_,(sp_R01_Lex a_ b_ c53 (fun _ _=>hc53)),?_⟩
 conv=>whnf
 cases h
 conv=>whnf
 exact ⟨rfl,rfl⟩
theorem sp_R02_place (l_:List (List Int)) (w_:List Int) (r:Int) (h:Ok (nL (cL cI) l_)→Ok (nL cI w_)→R02_place l_ w_=some r):Sp Tryz.prog 105 [.im (nL (cL cI) l_),.im (nL cI w_)] (.im (nI r)):=by
 refine sp_of rfl [] rfl rfl rfl (Nat.le_of_ble_eq_true rfl) rfl fun hk=>?_
 replace h:=h hk.1 hk.2.1
 have z1:lZ l_:=ok_len hk.1
 have z2:lZ w_:=ok_len hk.2.1
 unfold R02_place at h
 conv=>whnf
 refine Nf.mk (List.length l_) len_map ?_
 conv=>whnf
 obtain ⟨low77,hc,hk51⟩:=bind_some h
 clear h
 have h:=hc
 clear hc
 refine Cut.mk (mkSt [(5,.im (nI (↑low77:Int)))] [] []) (True) (hT) ?_ (fun hp=>?_)
 conv=>whnf
 refine Loops.iter (fun (s:Nat×Nat)=>R02_place.s2 l_ w_ s.1 s.2) (fun (low84,high85)=>mkSt [(0,.im (nL (cL cI) l_)),(1,.im (nL cI w_)),(5,.im (nI (↑low84:Int))),(6,.im (nI (↑high85:Int)))] [] []) (fun (low84,high85)=>lZ l_∧lZ w_∧True) h (eA []) (by rintro ⟨low84,high85⟩;exact ((Holds.avl 0 rfl).and ((Holds.avl 1 rfl).and (hT)))) ?_
 clear h
 rintro k ⟨low84,high85⟩ o hp h ho93
 replace h:R02_place.s2 l_ w_ low84 high85=some o:=h
 unfold R02_place.s2 at h
 obtain ⟨z101,z102,_⟩:=hp
 conv=>whnf
 refine Both.mk ?_ ?_<;>intro b94
 obtain ⟨h,b94d⟩:=ctd b94 h
 conv=>whnf
 obtain ⟨c95,h⟩:=chk_some h
 refine Arith.mk c95 ?_
 conv=>whnf
 obtain ⟨c96,h⟩:=chk_some h
 refine Side.mk c96 ?_
 conv=>whnf
 obtain ⟨e97,he97,h⟩:=idxn_some h
 refine ⟨_,⟨(by omega),map_at he97,rfl⟩,?_⟩
 conv=>whnf
 obtain ⟨c98,hc98,h⟩:=bind_some h
 refine ⟨_,(sp_R01_Compare e97 w_ c98 (fun _ _=>hc98)),?_⟩
 conv=>whnf
 refine Both.mk ?_ ?_<;>intro b99
 obtain ⟨h,b99d⟩:=ctd b99 h
 conv=>whnf
 obtain ⟨c100,h⟩:=chk_some h
 refine Arith.mk c100 ?_
 conv=>whnf
 cases h
 exact Nxt.mk _ ho93 (eA [])
 obtain ⟨h,b99d⟩:=cfd b99 h
 conv=>whnf
 cases h
 exact Nxt.mk _ ho93 (eA [])
 obtain ⟨h,b94d⟩:=cfd b94 h
 conv=>whnf
 cases h
 have ho93:_=_:=ho93
 cases ho93
 exact Join.mk (eA [])
 replace h:=hk51
 conv=>whnf
 cases h
 conv=>whnf
 exact ⟨rfl,rfl⟩
theorem sp_R01_Same (a_:List Int) (b_:List Int) (r:Bool) (h:Ok (nL cI a_)→Ok (nL cI b_)→R01_Same a_ b_=some r):Sp Tryz.prog 33 [.im (nL cI a_),.im (nL cI b_)] (.im (nB r)):=by
 refine sp_of rfl [] rfl rfl rfl (Nat.le_of_ble_eq_true rfl) rfl fun hk=>?_
 replace h:=h hk.1 hk.2.1
 have z1:lZ a_:=ok_len hk.1
 have z2:lZ b_:=ok_len hk.2.1
 unfold R01_Same at h
 conv=>whnf
 obtain ⟨y55,hc,hk52⟩:=bind_some h
 clear h
 have h:=hc
 clear hc
 refine Cut.mk (mkSt [(4,.im (nB y55))] [] []) (True) (hT) ?_ (fun hp=>?_)
 conv=>whnf
 refine Nf.mk (List.length a_) len_map ?_
 conv=>whnf
 refine Nf.mk (List.length b_) len_map ?_
 conv=>whnf
 refine Both.mk ?_ ?_<;>intro b56
 replace b56:=beq_tt b56
 obtain ⟨h,b56d⟩:=ctd b56 h
 conv=>whnf
 iterate 2 (refine Both.yes (tt_beq b56) ?_;(conv=>whnf))
 obtain ⟨c57,hc57,h⟩:=bind_some h
 refine ⟨_,(sp_R01_Common a_ b_ c57 (fun _ _=>hc57)),?_⟩
 conv=>whnf
 iterate 2 (refine Both.yes (tt_beq b56) ?_;(conv=>whnf))
 refine Nf.mk (List.length a_) len_map ?_
 conv=>whnf
 refine Both.yes (tt_beq b56) ?_
 conv=>whnf
 refine Both.yes b56 ?_
 conv=>whnf
 cases h
 exact Join.mk (eA [])
 replace b56:=beq_tf b56
 obtain ⟨h,b56d⟩:=cfd b56 h
 conv=>whnf
 iterate 5 (refine Both.no (ft_beq b56) ?_;(conv=>whnf))
 refine Both.no b56 ?_
 conv=>whnf
 cases h
 exact Join.mk (eA [])
 replace h:=hk52
 conv=>whnf
 cases h
 conv=>whnf
 exact ⟨rfl,rfl⟩
theorem sp_R02_with (l_:List (List Int)) (w_:List Int) (r:List (List Int)) (h:OkL (List.map (cL cI) l_)→Ok (nL cI w_)→R02_with l_ w_=some r):Sp Tryz.prog 72 [.row 60 1 (List.map (cL cI) l_),.im (nL cI w_)] (.row 60 1 (List.map (cL cI) r)):=by
 refine sp_of rfl [44,500009] rfl rfl rfl (Nat.le_of_ble_eq_true rfl) rfl fun hk=>?_
 replace h:=h hk.1 hk.2.1
 have z1:lZ l_:=okl_len hk.1
 have z2:lZ w_:=ok_len hk.2.1
 unfold R02_with at h
 conv=>whnf
 refine Side.mk ⟨rfl,trivial⟩ ?_
 conv=>whnf
 obtain ⟨c51,hc51,h⟩:=bind_some h
 refine ⟨_,(sp_R02_place l_ w_ c51 (fun _ _=>hc51)),?_⟩
 conv=>whnf
 refine Side.mk flat_one ?_
 conv=>whnf
 obtain ⟨y57,hc,hk53⟩:=bind_some h
 clear h
 have h:=hc
 clear hc
 refine Cut.mk (mkSt [(0,.osl 64 1),(1,.im (nL cI w_)),(5,.im (nI c51)),(21,.im (nB y57))] [(64,.row 60 1 (List.map (cL cI) l_))] []) (lZ w_∧lZ l_∧True) ((Holds.avl 1 rfl).and ((Holds.kdl 64 rfl).and (hT))) ?_ (fun hp=>?_)
 conv=>whnf
 refine Side.mk rfl ?_
 conv=>whnf
 refine Nf.mk (List.length l_) len_map ?_
 conv=>whnf
 refine Both.mk ?_ ?_<;>intro b58
 replace b58:=beq_tt b58
 obtain ⟨h,b58d⟩:=ctd b58 h
 conv=>whnf
 iterate 2 (refine Both.yes (tt_beq b58) ?_;(conv=>whnf))
 obtain ⟨e59,he59z,he59,h⟩:=idx_some h
 refine Side.mk ⟨he59z,rfl,map_lt he59⟩ ?_
 conv=>whnf
 refine Both.yes (tt_beq b58) ?_
 conv=>whnf
 refine ⟨_,_,⟨rfl,map_at he59,rfl,rfl⟩,?_⟩
 conv=>whnf
 iterate 2 (refine Both.yes (tt_beq b58) ?_;(conv=>whnf))
 obtain ⟨c60,hc60,h⟩:=bind_some h
 refine ⟨_,(sp_R01_Same e59 w_ c60 (fun _ _=>hc60)),?_⟩
 conv=>whnf
 refine Both.yes b58 ?_
 conv=>whnf
 cases h
 exact Join.mk (eA [(64,some 0)])
 replace b58:=beq_tf b58
 obtain ⟨h,b58d⟩:=cfd b58 h
 conv=>whnf
 iterate 5 (refine Both.no (ft_beq b58) ?_;(conv=>whnf))
 refine Both.no b58 ?_
 conv=>whnf
 cases h
 exact Join.mk (eA [(64,some 0)])
 replace h:=hk53
 obtain ⟨z61,z62,_⟩:=hp
 conv=>whnf
 refine Both.mk ?_ ?_<;>intro b63
 replace h:=cond_t b63 h
 conv=>whnf
 cases h
 conv=>whnf
 exact Side.mk ⟨rfl,trivial⟩ ⟨rfl,rfl⟩
 replace h:=cond_f b63 h
 conv=>whnf
 obtain ⟨c64,h⟩:=chk_some h
 refine Side.mk ⟨rfl,map_len (l:=[[]]) (c:=cL cI) fun _=>rfl,show capOk _ 24 by simpa only [List.length_map,List.length_cons,List.length_nil,Nat.zero_add] using c64⟩ ?_
 conv=>whnf
 refine Nf.mk (List.map (cL cI) (l_++[[]])) (app_map (l:=l_) (m:=[[]]) (c:=cL cI)) ?_
 conv=>whnf
 refine Side.mk rfl ?_
 conv=>whnf
 refine Nf.mk (List.length (l_++[[]])) len_map ?_
 conv=>whnf
 obtain ⟨c65,h⟩:=chk_some h
 refine Arith.mk c65 ?_
 conv=>whnf
 obtain ⟨y87,hc,hk66⟩:=bind_some h
 clear h
 have h:=hc
 clear hc
 refine Cut.mk (mkSt [(0,.osl 64 1),(1,.im (nL cI w_)),(5,.im (nI c51))] [(64,.row 60 1 (List.map (cL cI) y87))] []) (lZ w_∧lZ y87∧True) ((Holds.avl 1 rfl).and ((Holds.kdl 64 rfl).and (hT))) ?_ (fun hp=>?_)
 conv=>whnf
 refine Loops.iter (fun (s:List (List Int)×Int)=>R02_with.s2 c51 s.1 s.2) (fun (y93,i94)=>mkSt [(0,.osl 64 1),(1,.im (nL cI w_)),(5,.im (nI c51)),(6,.im (nI i94))] [(64,.row 60 1 (List.map (cL cI) y93))] []) (fun (y93,i94)=>lZ w_∧lZ y93∧True) h (eA [(64,some 64)]) (by rintro ⟨y93,i94⟩;exact ((Holds.avl 1 rfl).and ((Holds.kdl 64 rfl).and (hT)))) ?_
 clear h
 rintro k ⟨y93,i94⟩ o hp h ho100
 replace h:R02_with.s2 c51 y93 i94=some o:=h
 unfold R02_with.s2 at h
 obtain ⟨z106,z107,_⟩:=hp
 conv=>whnf
 refine Both.mk ?_ ?_<;>intro b101
 obtain ⟨h,b101d⟩:=ctd b101 h
 conv=>whnf
 obtain ⟨c102,h⟩:=chk_some h
 refine Arith.mk c102 ?_
 conv=>whnf
 obtain ⟨e103,he103z,he103,h⟩:=idx_some h
 refine Side.mk ⟨he103z,rfl,map_lt he103⟩ ?_
 conv=>whnf
 refine ⟨_,_,⟨rfl,map_at he103,rfl,rfl⟩,?_⟩
 conv=>whnf
 obtain ⟨e104,he104z,he104,h⟩:=idx_some h
 refine Side.mk ⟨he104z,rfl,map_lt he104⟩ ?_
 conv=>whnf
 refine Side.mk ⟨rfl,trivial⟩ ?_
 conv=>whnf
 refine ⟨_,map_at he104,?_⟩
 conv=>whnf
 refine Nf.mk (List.map (cL cI) (List.set y93 i94.toNat e103)) (set_map rfl) ?_
 conv=>whnf
 obtain ⟨c105,h⟩:=chk_some h
 refine Arith.mk c105 ?_
 conv=>whnf
 cases h
 exact Nxt.mk _ ho100 (eA [(64,some 64)])
 obtain ⟨h,b101d⟩:=cfd b101 h
 conv=>whnf
 cases h
 have ho100:_=_:=ho100
 cases ho100
 exact Join.mk (eA [(64,some 64)])
 replace h:=hk66
 obtain ⟨z108,z109,_⟩:=hp
 conv=>whnf
 obtain ⟨c110,h⟩:=chk_some h
 refine Side.mk ⟨rfl,map_len (l:=w_) (c:=cI) fun _=>rfl,show capOk _ 8 by simpa only [List.length_map,List.length_cons,List.length_nil,Nat.zero_add] using c110⟩ ?_
 conv=>whnf
 refine Nf.mk (List.map cI ([]++w_)) (app_map (l:=[]) (m:=w_) (c:=cI)) ?_
 conv=>whnf
 obtain ⟨e111,he111z,he111,h⟩:=idx_some h
 refine Side.mk ⟨he111z,rfl,map_lt he111⟩ ?_
 conv=>whnf
 refine Side.mk ⟨rfl,rfl,trivial⟩ ?_
 conv=>whnf
 refine ⟨_,map_at he111,?_⟩
 conv=>whnf
 refine Nf.mk (List.map (cL cI) (List.set y87 c51.toNat ([]++w_))) (set_map rfl) ?_
 conv=>whnf
 cases h
 conv=>whnf
 exact Side.mk ⟨rfl,trivial⟩ ⟨rfl,rfl⟩
theorem sp_R02_Prefixes (l_:List (List Int)) (r:List (List Int)) (h:Ok (nL (cL cI) l_)→R02_Prefixes l_=some r):Sp Tryz.prog 36 [.im (nL (cL cI) l_)] (.row 60 1 (List.map (cL cI) r)):=by
 refine sp_of rfl [29000] rfl rfl rfl (Nat.le_of_ble_eq_true rfl) rfl fun hk=>?_
 replace h:=h hk.1
 have z1:lZ l_:=ok_len hk.1
 unfold R02_Prefixes at h
 conv=>whnf
 obtain ⟨y204,hc,hk51⟩:=bind_some h
 clear h
 have h:=hc
 clear hc
 refine Cut.mk (mkSt [(3,.osl 64 1)] [(64,.row 60 1 (List.map (cL cI) y204))] []) (lZ y204∧True) ((Holds.kdl 64 rfl).and (hT)) ?_ (fun hp=>?_)
 conv=>whnf
 refine Loops.iter (fun (s:List (List Int)×Nat)=>R02_Prefixes.s14 l_ s.1 s.2) (fun (y254,i255)=>mkSt [(0,.im (nL (cL cI) l_)),(3,.osl 64 1),(4,.im (nI (↑i255:Int)))] [(64,.row 60 1 (List.map (cL cI) y254))] []) (fun (y254,i255)=>lZ l_∧lZ y254∧True) h (eA [(64,none)]) (by rintro ⟨y254,i255⟩;exact ((Holds.avl 0 rfl).and ((Holds.kdl 64 rfl).and (hT)))) ?_
 clear h
 rintro k ⟨y254,i255⟩ o hp h ho305
 replace h:R02_Prefixes.s14 l_ y254 i255=some o:=h
 unfold R02_Prefixes.s14 at h
 obtain ⟨z355,z356,_⟩:=hp
 conv=>whnf
 refine Nf.mk (List.length l_) len_map ?_
 conv=>whnf
 refine Both.mk ?_ ?_<;>intro b306
 obtain ⟨h,b306d⟩:=ctd b306 h
 conv=>whnf
 obtain ⟨y330,hc,hk307⟩:=bind_some h
 clear h
 have h:=hc
 clear hc
 refine Cut.mk (mkSt [(0,.im (nL (cL cI) l_)),(3,.osl 64 1),(4,.im (nI (↑i255:Int)))] [(64,.row 60 1 (List.map (cL cI) y330))] []) (lZ l_∧lZ y330∧True) ((Holds.avl 0 rfl).and ((Holds.kdl 64 rfl).and (hT))) ?_ (fun hp=>?_)
 conv=>whnf
 refine Loops.iter (fun (s:List (List Int)×Nat)=>R02_Prefixes.s13 l_ i255 s.1 s.2) (fun (y336,k337)=>mkSt [(0,.im (nL (cL cI) l_)),(3,.osl 64 1),(4,.im (nI (↑i255:Int))),(5,.im (nI (↑k337:Int)))] [(64,.row 60 1 (List.map (cL cI) y336))] []) (fun (y336,k337)=>lZ l_∧lZ y336∧True) h (eA [(64,some 64)]) (by rintro ⟨y336,k337⟩;exact ((Holds.avl 0 rfl).and ((Holds.kdl 64 rfl).and (hT)))) ?_
 clear h
 rintro k ⟨y336,k337⟩ o hp h ho344
 replace h:R02_Prefixes.s13 l_ i255 y336 k337=some o:=h
 unfold R02_Prefixes.s13 at h
 obtain ⟨z351,z352,_⟩:=hp
 conv=>whnf
 obtain ⟨e345,he345,h⟩:=idxn_some h
 refine ⟨_,⟨(by omega),map_at he345,rfl⟩,?_⟩
 conv=>whnf
 refine Nf.mk (List.length e345) len_map ?_
 conv=>whnf
 refine Both.mk ?_ ?_<;>intro b346
 obtain ⟨h,b346d⟩:=ctd b346 h
 conv=>whnf
 obtain ⟨e347,he347,h⟩:=idxn_some h
 refine ⟨_,⟨(by omega),map_at he347,rfl⟩,?_⟩
 conv=>whnf
 obtain ⟨c348,h⟩:=chk_some h
 refine Side.mk (show (0:Int)≤(0:Int)∧(0:Int)≤(↑k337:Int)∧(↑k337:Int)≤(↑(List.length (List.map cI e347)):Int)∧(∀ e∈List.map cI e347,List.length e=1) from ⟨by omega,by first | omega | (simp only [List.length_map];omega),by first | omega | (simp only [List.length_map];omega),map_len fun _=>rfl⟩) ?_
 conv=>whnf
 refine Nf.mk (List.map cI (List.take k337 e347)) take_map ?_
 conv=>whnf
 refine Side.mk ⟨rfl,trivial⟩ ?_
 conv=>whnf
 obtain ⟨c349,hc349,h⟩:=bind_some h
 refine ⟨_,(sp_R02_with y336 (List.take k337 e347) c349 (fun _ _=>hc349)),?_⟩
 conv=>whnf
 obtain ⟨c350,h⟩:=chk_some h
 refine Arith.mk c350 ?_
 conv=>whnf
 cases h
 exact Nxt.mk _ ho344 (eA [(64,some 28)])
 obtain ⟨h,b346d⟩:=cfd b346 h
 conv=>whnf
 cases h
 have ho344:_=_:=ho344
 cases ho344
 exact Join.mk (eA [(64,some 64)])
 replace h:=hk307
 obtain ⟨z353,z354,_⟩:=hp
 conv=>whnf
 refine Arith.mk (by show inR _;unfold inR;omega) ?_
 conv=>whnf
 cases h
 exact Nxt.mk _ ho305 (eA [(64,some 64)])
 obtain ⟨h,b306d⟩:=cfd b306 h
 conv=>whnf
 cases h
 have ho305:_=_:=ho305
 cases ho305
 exact Join.mk (eA [(64,some 64)])
 replace h:=hk51
 obtain ⟨z357,_⟩:=hp
 conv=>whnf
 cases h
 conv=>whnf
 exact Side.mk ⟨rfl,trivial⟩ ⟨rfl,rfl⟩
theorem sp_R35_find (l_:List (List Int)) (w_:List Int) (r:Int) (h:Ok (nL (cL cI) l_)→Ok (nL cI w_)→R35_find l_ w_=some r):Sp Tryz.prog 77 [.im (nL (cL cI) l_),.im (nL cI w_)] (.im (nI r)):=by
 refine sp_of rfl [] rfl rfl rfl (Nat.le_of_ble_eq_true rfl) rfl fun hk=>?_
 replace h:=h hk.1 hk.2.1
 have z1:lZ l_:=ok_len hk.1
 have z2:lZ w_:=ok_len hk.2.1
 unfold R35_find at h
 conv=>whnf
 obtain ⟨i94,hc,hk51⟩:=bind_some h
 clear h
 have h:=hc
 clear hc
 refine Cut.mk (mkSt [(5,.im (nI (↑i94:Int)))] [] []) (True) (hT) ?_ (fun hp=>?_)
 conv=>whnf
 refine Loops.iter (fun (s:Nat)=>R35_find.s2 l_ w_ s) (fun i107=>mkSt [(0,.im (nL (cL cI) l_)),(1,.im (nL cI w_)),(5,.im (nI (↑i107:Int)))] [] []) (fun i107=>lZ l_∧lZ w_∧True) h (eA []) (by rintro i107;exact ((Holds.avl 0 rfl).and ((Holds.avl 1 rfl).and (hT)))) ?_
 clear h
 rintro k i107 o hp h ho121
 replace h:R35_find.s2 l_ w_ i107=some o:=h
 unfold R35_find.s2 at h
 obtain ⟨z135,z136,_⟩:=hp
 conv=>whnf
 obtain ⟨y127,hc,hk123⟩:=bind_some h
 clear h
 have h:=hc
 clear hc
 refine Cut.mk (mkSt [(0,.im (nL (cL cI) l_)),(1,.im (nL cI w_)),(5,.im (nI (↑i107:Int))),(18,.im (nB y127))] [] []) (lZ l_∧lZ w_∧True) ((Holds.avl 0 rfl).and ((Holds.avl 1 rfl).and (hT))) ?_ (fun hp=>?_)
 conv=>whnf
 refine Nf.mk (List.length l_) len_map ?_
 conv=>whnf
 refine Both.mk ?_ ?_<;>intro b128
 replace b128:=beq_tt b128
 obtain ⟨h,b128d⟩:=ctd b128 h
 conv=>whnf
 iterate 2 (refine Both.yes (tt_beq b128) ?_;(conv=>whnf))
 obtain ⟨e129,he129,h⟩:=idxn_some h
 refine ⟨_,⟨(by omega),map_at he129,rfl⟩,?_⟩
 conv=>whnf
 iterate 3 (refine Both.yes (tt_beq b128) ?_;(conv=>whnf))
 obtain ⟨c130,hc130,h⟩:=bind_some h
 refine ⟨_,(sp_R01_Same e129 w_ c130 (fun _ _=>hc130)),?_⟩
 conv=>whnf
 refine Both.yes (tt_beq b128) ?_
 conv=>whnf
 refine Both.yes b128 ?_
 conv=>whnf
 cases h
 exact Join.mk (eA [])
 replace b128:=beq_tf b128
 obtain ⟨h,b128d⟩:=cfd b128 h
 conv=>whnf
 iterate 6 (refine Both.no (ft_beq b128) ?_;(conv=>whnf))
 refine Both.no b128 ?_
 conv=>whnf
 cases h
 exact Join.mk (eA [])
 replace h:=hk123
 obtain ⟨z131,z132,_⟩:=hp
 conv=>whnf
 refine Both.mk ?_ ?_<;>intro b133
 replace h:=cond_t b133 h
 conv=>whnf
 obtain ⟨c134,h⟩:=chk_some h
 refine Arith.mk c134 ?_
 conv=>whnf
 cases h
 exact Nxt.mk _ ho121 (eA [])
 replace h:=cond_f b133 h
 conv=>whnf
 cases h
 have ho121:_=_:=ho121
 cases ho121
 exact Join.mk (eA [])
 replace h:=hk51
 conv=>whnf
 cases h
 conv=>whnf
 exact ⟨rfl,rfl⟩
theorem sp_R35_blank (inputs_:Int) (states_:Int) (r:T_api_Part) (h:Ok (nI inputs_)→Ok (nI states_)→R35_blank inputs_ states_=some r):SpX Tryz.prog 76 (.lent .dead::.ow .dead::[.im (nI inputs_),.im (nI states_)]) (.mk true [.im (nI r.Inputs),.im (nI r.Start),.ow (.grid 60 3 1 (List.map (cL cI) r.Next) none),.ow (.grid 60 3 1 (List.map (cL cI) r.Out) none)] []):=by
 refine sp_ofT rfl [9000031,9000037] rfl rfl rfl (Nat.le_of_ble_eq_true rfl) rfl fun hk=>?_
 replace h:=h hk.1 hk.2.1
 unfold R35_blank at h
 conv=>whnf
 refine Side.mk rfl ?_
 conv=>whnf
 obtain ⟨⟨y184,y185⟩,hc,hk51⟩:=bind_some h
 clear h
 have h:=hc
 clear hc
 refine Cut.mk (mkSt [(4,.own 64 1 0),(5,.own 65 1 0)] [(64,.box 24 4),(65,.box 24 4),(66,.grid 60 3 1 (List.map (cL cI) y184) none),(67,.grid 60 3 1 (List.map (cL cI) y185) none)] [(64,0,.im (nI 0)),(64,1,.im (nI 0)),(64,2,.im (.val (.slice none 0 0))),(64,3,.im (.val (.slice none 0 0))),(65,0,.im (nI inputs_)),(65,1,.im (nI 0)),(65,2,.osl 66 1),(65,3,.osl 67 1)]) (lZ y184∧lZ y185∧True) ((Holds.kdg 66 rfl).and ((Holds.kdg 67 rfl).and (hT))) ?_ (fun hp=>?_)
 conv=>whnf
 refine Loops.iter (fun (s:List (List Int)×List (List Int)×Nat)=>R35_blank.s20 inputs_ states_ s.1 s.2.1 s.2.2) (fun (y222,y223,s224)=>mkSt [(0,.im (nI inputs_)),(1,.im (nI states_)),(4,.own 64 1 0),(5,.own 65 1 0),(6,.im (nI (↑s224:Int)))] [(64,.box 24 4),(65,.box 24 4),(66,.grid 60 3 1 (List.map (cL cI) y222) none),(67,.grid 60 3 1 (List.map (cL cI) y223) none)] [(64,0,.im (nI 0)),(64,1,.im (nI 0)),(64,2,.im (.val (.slice none 0 0))),(64,3,.im (.val (.slice none 0 0))),(65,0,.im (nI inputs_)),(65,1,.im (nI 0)),(65,2,.osl 66 1),(65,3,.osl 67 1)]) (fun (y222,y223,s224)=>lZ y222∧lZ y223∧True) h (Ent.mk [(64,some 4),(65,some 5),(66,none),(67,none)] rfl ⟨eI rfl rfl,eI rfl rfl,⟨.own 4 _ 0,rfl,.own rfl rfl rfl⟩,⟨.own 5 _ 0,rfl,.own rfl rfl rfl⟩,eI rfl rfl,trivial⟩ ⟨.inl ⟨4,rfl,rfl,trivial⟩,.inl ⟨5,rfl,rfl,trivial⟩,.inr ⟨rfl,rfl,.inr (.inl ⟨_,_,_,rfl⟩)⟩,.inr ⟨rfl,rfl,.inr (.inl ⟨_,_,_,rfl⟩)⟩,trivial⟩ ⟨⟨4,.im _,rfl,rfl,.im (Sub.rfl' rfl)⟩,⟨4,.im _,rfl,rfl,.im (Sub.rfl' rfl)⟩,⟨4,.im (.val (.slice none 0 0)),rfl,rfl,.im (Sub.rfl' rfl)⟩,⟨4,.im (.val (.slice none 0 0)),rfl,rfl,.im (Sub.rfl' rfl)⟩,⟨5,.im _,rfl,rfl,.im (Sub.rfl' rfl)⟩,⟨5,.im _,rfl,rfl,.im (Sub.rfl' rfl)⟩,⟨5,.im (.val (.slice none 0 0)),rfl,rfl,.made rfl rfl⟩,⟨5,.im (.val (.slice none 0 0)),rfl,rfl,.made rfl rfl⟩,trivial⟩) (by rintro ⟨y222,y223,s224⟩;exact ((Holds.kdg 66 rfl).and ((Holds.kdg 67 rfl).and (hT)))) ?_
 clear h
 rintro k ⟨y222,y223,s224⟩ o hp h ho270
 replace h:R35_blank.s20 inputs_ states_ y222 y223 s224=some o:=h
 unfold R35_blank.s20 at h
 obtain ⟨z316,z317,_⟩:=hp
 conv=>whnf
 refine Both.mk ?_ ?_<;>intro b271
 obtain ⟨h,b271d⟩:=ctd b271 h
 conv=>whnf
 obtain ⟨⟨y290,y291⟩,hc,hk272⟩:=bind_some h
 clear h
 have h:=hc
 clear hc
 refine Cut.mk (mkSt [(0,.im (nI inputs_)),(1,.im (nI states_)),(4,.own 64 1 0),(5,.own 65 1 0),(6,.im (nI (↑s224:Int))),(7,.osl 68 1),(8,.osl 69 1)] [(64,.box 24 4),(65,.box 24 4),(66,.grid 60 3 1 (List.map (cL cI) y222) none),(67,.grid 60 3 1 (List.map (cL cI) y223) none),(68,.row 3 1 (List.map cI y290)),(69,.row 3 1 (List.map cI y291))] [(64,0,.im (nI 0)),(64,1,.im (nI 0)),(64,2,.im (.val (.slice none 0 0))),(64,3,.im (.val (.slice none 0 0))),(65,0,.im (nI inputs_)),(65,1,.im (nI 0)),(65,2,.osl 66 1),(65,3,.osl 67 1)]) (lZ y222∧lZ y223∧lZ y290∧lZ y291∧True) ((Holds.kdg 66 rfl).and ((Holds.kdg 67 rfl).and ((Holds.kdl 68 rfl).and ((Holds.kdl 69 rfl).and (hT))))) ?_ (fun hp=>?_)
 conv=>whnf
 refine Loops.iter (fun (s:List Int×List Int×Nat)=>R35_blank.s18 inputs_ s.1 s.2.1 s.2.2) (fun (y293,y294,a295)=>mkSt [(0,.im (nI inputs_)),(1,.im (nI states_)),(4,.own 64 1 0),(5,.own 65 1 0),(6,.im (nI (↑s224:Int))),(7,.osl 68 1),(8,.osl 69 1),(9,.im (nI (↑a295:Int)))] [(64,.box 24 4),(65,.box 24 4),(66,.grid 60 3 1 (List.map (cL cI) y222) none),(67,.grid 60 3 1 (List.map (cL cI) y223) none),(68,.row 3 1 (List.map cI y293)),(69,.row 3 1 (List.map cI y294))] [(64,0,.im (nI 0)),(64,1,.im (nI 0)),(64,2,.im (.val (.slice none 0 0))),(64,3,.im (.val (.slice none 0 0))),(65,0,.im (nI inputs_)),(65,1,.im (nI 0)),(65,2,.osl 66 1),(65,3,.osl 67 1)]) (fun (y293,y294,a295)=>lZ y222∧lZ y223∧lZ y293∧lZ y294∧True) h (eA [(64,some 64),(65,some 65),(66,some 66),(67,some 67),(68,none),(69,none)]) (by rintro ⟨y293,y294,a295⟩;exact ((Holds.kdg 66 rfl).and ((Holds.kdg 67 rfl).and ((Holds.kdl 68 rfl).and ((Holds.kdl 69 rfl).and (hT)))))) ?_
 clear h
 rintro k ⟨y293,y294,a295⟩ o hp h ho300
 replace h:R35_blank.s18 inputs_ y293 y294 a295=some o:=h
 unfold R35_blank.s18 at h
 obtain ⟨z305,z306,z307,z308,_⟩:=hp
 conv=>whnf
 refine Both.mk ?_ ?_<;>intro b301
 obtain ⟨h,b301d⟩:=ctd b301 h
 conv=>whnf
 obtain ⟨c302,h⟩:=chk_some h
 refine Side.mk ⟨rfl,map_len (l:=[(-1:Int)]) (c:=cI) fun _=>rfl,show capOk _ 8 by simpa only [List.length_map,List.length_cons,List.length_nil,Nat.zero_add] using c302⟩ ?_
 conv=>whnf
 refine Nf.mk (List.map cI (y293++[(-1:Int)])) (app_map (l:=y293) (m:=[(-1:Int)]) (c:=cI)) ?_
 conv=>whnf
 obtain ⟨c303,h⟩:=chk_some h
 refine Side.mk ⟨rfl,map_len (l:=[(-1:Int)]) (c:=cI) fun _=>rfl,show capOk _ 8 by simpa only [List.length_map,List.length_cons,List.length_nil,Nat.zero_add] using c303⟩ ?_
 conv=>whnf
 refine Nf.mk (List.map cI (y294++[(-1:Int)])) (app_map (l:=y294) (m:=[(-1:Int)]) (c:=cI)) ?_
 conv=>whnf
 obtain ⟨c304,h⟩:=chk_some h
 refine Arith.mk c304 ?_
 conv=>whnf
 cases h
 exact Nxt.mk _ ho300 (eA [(64,some 64),(65,some 65),(66,some 66),(67,some 67),(68,some 68),(69,some 69)])
 obtain ⟨h,b301d⟩:=cfd b301 h
 conv=>whnf
 cases h
 have ho300:_=_:=ho300
 cases ho300
 exact Join.mk (eA [(64,some 64),(65,some 65),(66,some 66),(67,some 67),(68,some 68),(69,some 69)])
 replace h:R35_blank.k19 y222 y223 s224 y290 y291=some _:=hk272
 unfold R35_blank.k19 at h
 obtain ⟨z309,z310,z311,z312,_⟩:=hp
 conv=>whnf
 refine Side.mk rfl ?_
 conv=>whnf
 refine Side.mk rfl ?_
 conv=>whnf
 refine Side.mk ⟨rfl,trivial⟩ ?_
 conv=>whnf
 refine Nf.mk (List.map (cL cI) [y290]) rfl ?_
 conv=>whnf
 obtain ⟨c313,h⟩:=chk_some h
 refine Side.mk ⟨rfl,rfl,trivial⟩ ?_
 conv=>whnf
 refine Side.mk (show capOk _ 24 by have hh_:=c313;simpa only [List.length_map] using hh_) ?_
 conv=>whnf
 refine Nf.mk (List.map (cL cI) (y222++[y290])) (app_map (l:=y222) (m:=[y290]) (c:=cL cI)) ?_
 conv=>whnf
 refine Side.mk rfl ?_
 conv=>whnf
 refine Side.mk rfl ?_
 conv=>whnf
 refine Side.mk rfl ?_
 conv=>whnf
 refine Side.mk rfl ?_
 conv=>whnf
 refine Side.mk ⟨rfl,trivial⟩ ?_
 conv=>whnf
 refine Nf.mk (List.map (cL cI) [y291]) rfl ?_
 conv=>whnf
 obtain ⟨c314,h⟩:=chk_some h
 refine Side.mk ⟨rfl,rfl,trivial⟩ ?_
 conv=>whnf
 refine Side.mk (show capOk _ 24 by have hh_:=c314;simpa only [List.length_map] using hh_) ?_
 conv=>whnf
 refine Nf.mk (List.map (cL cI) (y223++[y291])) (app_map (l:=y223) (m:=[y291]) (c:=cL cI)) ?_
 conv=>whnf
 refine Side.mk rfl ?_
 conv=>whnf
 refine Side.mk rfl ?_
 conv=>whnf
 obtain ⟨c315,h⟩:=chk_some h
 refine Arith.mk c315 ?_
 conv=>whnf
 cases h
 exact Nxt.mk _ ho270 (eA [(64,some 64),(65,some 65),(66,some 32),(67,some 38)])
 obtain ⟨h,b271d⟩:=cfd b271 h
 conv=>whnf
 cases h
 have ho270:_=_:=ho270
 cases ho270
 exact Join.mk (eA [(64,some 64),(65,some 65),(66,some 66),(67,some 67)])
 replace h:R35_blank.k21 inputs_ y184 y185=some _:=hk51
 unfold R35_blank.k21 at h
 obtain ⟨z318,z319,_⟩:=hp
 conv=>whnf
 refine Side.mk rfl ?_
 conv=>whnf
 refine Side.mk rfl ?_
 conv=>whnf
 cases h
 conv=>whnf
 refine Side.mk ⟨rfl,trivial⟩ ?_
 conv=>whnf
 exact Side.mk ⟨rfl,rfl,trivial⟩ ⟨rfl,rfl⟩
theorem sp_R35_Tree (o_:T_api_Obs) (r:T_api_Part×Int) (h:Ok (.agg (c_api_Obs o_))→R35_Tree o_=some r):Sp Tryz.prog 37 [.im (.agg (c_api_Obs o_))] (.tup [.agg (c_api_Part r.1),nI r.2]):=by
 refine sp_of rfl [11,500063,500080,700001,8000038,8700038] rfl rfl rfl (Nat.le_of_ble_eq_true rfl) rfl fun hk=>?_
 replace h:=h hk.1
 have z1:lZ o_.Traces:=ok_len (Ok.agg_at hk.1 1 rfl)
 unfold R35_Tree at h
 conv=>whnf
 obtain ⟨y65,hc,hk51⟩:=bind_some h
 clear h
 have h:=hc
 clear hc
 refine Cut.mk (mkSt [(1,.im (.ref (c_api_Obs o_))),(2,.own 99 1 0),(4,.osl 100 1)] [(99,.box 24 4),(100,.row 60 1 (List.map (cL cI) y65))] [(99,0,.im (nI 0)),(99,1,.im (nI 0)),(99,2,.im (.val (.slice none 0 0))),(99,3,.im (.val (.slice none 0 0)))]) (lZ y65∧True) ((Holds.kdl 100 rfl).and (hT)) ?_ (fun hp=>?_)
 conv=>whnf
 refine Loops.iter (fun (s:List (List Int)×Nat)=>R35_Tree.s2 o_ s.1 s.2) (fun (y69,i70)=>mkSt [(1,.im (.ref (c_api_Obs o_))),(2,.own 99 1 0),(4,.osl 100 1),(5,.im (nI (↑i70:Int)))] [(99,.box 24 4),(100,.row 60 1 (List.map (cL cI) y69))] [(99,0,.im (nI 0)),(99,1,.im (nI 0)),(99,2,.im (.val (.slice none 0 0))),(99,3,.im (.val (.slice none 0 0)))]) (fun (y69,i70)=>lZ y69∧True) h (eA [(99,some 2),(100,some 11)]) (by rintro ⟨y69,i70⟩;exact ((Holds.kdl 100 rfl).and (hT))) ?_
 clear h
 rintro k ⟨y69,i70⟩ o hp h ho74
 replace h:R35_Tree.s2 o_ y69 i70=some o:=h
 unfold R35_Tree.s2 at h
 obtain ⟨z78,_⟩:=hp
 conv=>whnf
 refine Nf.mk (List.length o_.Traces) len_map ?_
 conv=>whnf
 refine Both.mk ?_ ?_<;>intro b75
 obtain ⟨h,b75d⟩:=ctd b75 h
 conv=>whnf
 obtain ⟨e76,he76,h⟩:=idxn_some h
 refine ⟨_,⟨(by omega),map_at he76,rfl⟩,?_⟩
 conv=>whnf
 obtain ⟨c77,h⟩:=chk_some h
 refine Side.mk ⟨rfl,map_len (l:=[e76.In]) (c:=cL cI) fun _=>rfl,show capOk _ 24 by simpa only [List.length_map,List.length_cons,List.length_nil,Nat.zero_add] using c77⟩ ?_
 conv=>whnf
 refine Nf.mk (List.map (cL cI) (y69++[e76.In])) (app_map (l:=y69) (m:=[e76.In]) (c:=cL cI)) ?_
 conv=>whnf
 refine Arith.mk (by show inR _;unfold inR;omega) ?_
 conv=>whnf
 cases h
 exact Nxt.mk _ ho74 (eA [(99,some 99),(100,some 100)])
 obtain ⟨h,b75d⟩:=cfd b75 h
 conv=>whnf
 cases h
 have ho74:_=_:=ho74
 cases ho74
 exact Join.mk (eA [(99,some 99),(100,some 100)])
 replace h:=hk51
 obtain ⟨z79,_⟩:=hp
 conv=>whnf
 refine Side.mk ⟨rfl,trivial⟩ ?_
 conv=>whnf
 obtain ⟨c80,hc80,h⟩:=bind_some h
 refine ⟨_,(sp_R02_Prefixes y65 c80 (fun _=>hc80)),?_⟩
 conv=>whnf
 refine Side.mk rfl ?_
 conv=>whnf
 refine Nf.mk (List.length c80) len_map ?_
 conv=>whnf
 refine Both.mk ?_ ?_<;>intro b81
 obtain ⟨h,b81d⟩:=ctd b81 h
 conv=>whnf
 refine Side.mk rfl ?_
 conv=>whnf
 cases h
 conv=>whnf
 refine Side.mk ⟨rfl,trivial⟩ ?_
 conv=>whnf
 exact ⟨rfl,rfl⟩
 obtain ⟨h,b81d⟩:=cfd b81 h
 conv=>whnf
 refine Side.mk rfl ?_
 conv=>whnf
 refine Nf.mk (List.length c80) len_map ?_
 conv=>whnf
 obtain ⟨c82,hc82,h⟩:=bind_some h
 refine ⟨_,(sp_R35_blank o_.Inputs (↑(List.length c80):Int) c82 (fun _ _=>hc82)),?_⟩
 conv=>whnf
 refine Side.mk rfl ?_
 conv=>whnf
 obtain ⟨⟨y385,y386⟩,hc,hk83⟩:=bind_some h
 clear h
 have h:=hc
 clear hc
 refine Cut.mk (mkSt [(2,.own 99 1 0),(6,.own 100 1 0)] [(99,.box 24 4),(100,.box 24 4),(101,.grid 60 3 1 (List.map (cL cI) y385) none),(102,.grid 60 3 1 (List.map (cL cI) y386) none)] [(99,0,.im (nI 0)),(99,1,.im (nI 0)),(99,2,.im (.val (.slice none 0 0))),(99,3,.im (.val (.slice none 0 0))),(100,0,.im (nI c82.Inputs)),(100,1,.im (nI c82.Start)),(100,2,.osl 101 1),(100,3,.osl 102 1)]) (lZ y385∧lZ y386∧True) ((Holds.kdg 101 rfl).and ((Holds.kdg 102 rfl).and (hT))) ?_ (fun hp=>?_)
 conv=>whnf
 refine Loops.iter (fun (s:List (List Int)×List (List Int)×Nat)=>R35_Tree.s22 o_ c80 s.1 s.2.1 s.2.2) (fun (y485,y486,i487)=>mkSt [(1,.im (.ref (c_api_Obs o_))),(2,.own 99 1 0),(4,.osl 100 1),(6,.own 101 1 0),(7,.im (nI (↑i487:Int)))] [(99,.box 24 4),(100,.row 60 1 (List.map (cL cI) c80)),(101,.box 24 4),(102,.grid 60 3 1 (List.map (cL cI) y485) none),(103,.grid 60 3 1 (List.map (cL cI) y486) none)] [(99,0,.im (nI 0)),(99,1,.im (nI 0)),(99,2,.im (.val (.slice none 0 0))),(99,3,.im (.val (.slice none 0 0))),(101,0,.im (nI c82.Inputs)),(101,1,.im (nI c82.Start)),(101,2,.osl 102 1),(101,3,.osl 103 1)]) (fun (y485,y486,i487)=>lZ c80∧lZ y485∧lZ y486∧True) h (eA [(99,some 99),(100,some 29),(101,some 6),(102,some 3254),(103,some 3255)]) (by rintro ⟨y485,y486,i487⟩;exact ((Holds.kdl 100 rfl).and ((Holds.kdg 102 rfl).and ((Holds.kdg 103 rfl).and (hT))))) ?_
 clear h
 rintro k ⟨y485,y486,i487⟩ o hp h ho586
 replace h:R35_Tree.s22 o_ c80 y485 y486 i487=some o:=h
 unfold R35_Tree.s22 at h
 obtain ⟨z685,z686,z687,_⟩:=hp
 conv=>whnf
 refine Nf.mk (List.length o_.Traces) len_map ?_
 conv=>whnf
 refine Both.mk ?_ ?_<;>intro b587
 obtain ⟨h,b587d⟩:=ctd b587 h
 conv=>whnf
 obtain ⟨e588,he588,h⟩:=idxn_some h
 refine ⟨_,⟨(by omega),map_at he588,rfl⟩,?_⟩
 conv=>whnf
 refine Side.mk rfl ?_
 conv=>whnf
 obtain ⟨⟨y635,y636⟩,hc,hk589⟩:=bind_some h
 clear h
 have h:=hc
 clear hc
 refine Cut.mk (mkSt [(1,.im (.ref (c_api_Obs o_))),(2,.own 99 1 0),(4,.osl 100 1),(6,.own 101 1 0),(7,.im (nI (↑i487:Int)))] [(99,.box 24 4),(100,.row 60 1 (List.map (cL cI) c80)),(101,.box 24 4),(102,.grid 60 3 1 (List.map (cL cI) y635) none),(103,.grid 60 3 1 (List.map (cL cI) y636) none)] [(99,0,.im (nI 0)),(99,1,.im (nI 0)),(99,2,.im (.val (.slice none 0 0))),(99,3,.im (.val (.slice none 0 0))),(101,0,.im (nI c82.Inputs)),(101,1,.im (nI c82.Start)),(101,2,.osl 102 1),(101,3,.osl 103 1)]) (lZ c80∧lZ y635∧lZ y636∧True) ((Holds.kdl 100 rfl).and ((Holds.kdg 102 rfl).and ((Holds.kdg 103 rfl).and (hT)))) ?_ (fun hp=>?_)
 conv=>whnf
 refine Loops.iter (fun (s:List (List Int)×List (List Int)×Nat)=>R35_Tree.s20 c80 e588 s.1 s.2.1 s.2.2) (fun (y649,y650,k651)=>mkSt [(1,.im (.ref (c_api_Obs o_))),(2,.own 99 1 0),(4,.osl 100 1),(6,.own 101 1 0),(7,.im (nI (↑i487:Int))),(8,.own 104 1 0),(9,.im (nI (↑k651:Int)))] [(99,.box 24 4),(100,.row 60 1 (List.map (cL cI) c80)),(101,.box 24 4),(102,.grid 60 3 1 (List.map (cL cI) y649) none),(103,.grid 60 3 1 (List.map (cL cI) y650) none),(104,.box 70 2)] [(99,0,.im (nI 0)),(99,1,.im (nI 0)),(99,2,.im (.val (.slice none 0 0))),(99,3,.im (.val (.slice none 0 0))),(101,0,.im (nI c82.Inputs)),(101,1,.im (nI c82.Start)),(101,2,.osl 102 1),(101,3,.osl 103 1),(104,0,.im (nL cI e588.In)),(104,1,.im (nL cI e588.Out))]) (fun (y649,y650,k651)=>lZ c80∧lZ y649∧lZ y650∧lZ e588.In∧lZ e588.Out∧True) h (eA [(99,some 99),(100,some 100),(101,some 101),(102,some 102),(103,some 103),(104,some 8)]) (by rintro ⟨y649,y650,k651⟩;exact ((Holds.kdl 100 rfl).and ((Holds.kdg 102 rfl).and ((Holds.kdg 103 rfl).and ((Holds.cel 104 0 rfl (by decide) rfl).and ((Holds.cel 104 1 rfl (by decide) rfl).and (hT))))))) ?_
 clear h
 rintro k ⟨y649,y650,k651⟩ o hp h ho664
 replace h:R35_Tree.s20 c80 e588 y649 y650 k651=some o:=h
 unfold R35_Tree.s20 at h
 obtain ⟨z677,z678,z679,z680,z681,_⟩:=hp
 conv=>whnf
 refine Side.mk rfl ?_
 conv=>whnf
 refine Side.mk rfl ?_
 conv=>whnf
 refine Nf.mk (List.length e588.In) len_map ?_
 conv=>whnf
 refine Both.mk ?_ ?_<;>intro b665
 obtain ⟨h,b665d⟩:=ctd b665 h
 conv=>whnf
 refine Side.mk rfl ?_
 conv=>whnf
 refine Side.mk rfl ?_
 conv=>whnf
 obtain ⟨c666,h⟩:=chk_some h
 refine Side.mk (show (0:Int)≤(0:Int)∧(0:Int)≤(↑k651:Int)∧(↑k651:Int)≤(↑(List.length (List.map cI e588.In)):Int)∧(∀ e∈List.map cI e588.In,List.length e=1) from ⟨by omega,by first | omega | (simp only [List.length_map];omega),by first | omega | (simp only [List.length_map];omega),map_len fun _=>rfl⟩) ?_
 conv=>whnf
 refine Nf.mk (List.map cI (List.take k651 e588.In)) take_map ?_
 conv=>whnf
 refine Side.mk ⟨rfl,trivial⟩ ?_
 conv=>whnf
 obtain ⟨c667,hc667,h⟩:=bind_some h
 refine ⟨_,(sp_R35_find c80 (List.take k651 e588.In) c667 (fun _ _=>hc667)),?_⟩
 conv=>whnf
 refine Side.mk flat_one ?_
 conv=>whnf
 refine Side.mk rfl ?_
 conv=>whnf
 refine Side.mk rfl ?_
 conv=>whnf
 obtain ⟨e668,he668z,he668,h⟩:=idx_some h
 refine Side.mk ⟨he668z,rfl,map_lt he668⟩ ?_
 conv=>whnf
 refine Side.mk ⟨rfl,map_lt he668⟩ ?_
 conv=>whnf
 refine Side.mk rfl ?_
 conv=>whnf
 refine Side.mk rfl ?_
 conv=>whnf
 obtain ⟨e669,he669,h⟩:=idxn_some h
 refine ⟨_,⟨(by omega),map_at he669,rfl⟩,?_⟩
 conv=>whnf
 refine Side.mk rfl ?_
 conv=>whnf
 refine Side.mk rfl ?_
 conv=>whnf
 refine Arith.mk (by show inR _;unfold inR;omega) ?_
 conv=>whnf
 obtain ⟨c670,h⟩:=chk_some h
 refine Side.mk (show (0:Int)≤(0:Int)∧(0:Int)≤((↑k651:Int)+1)∧((↑k651:Int)+1)≤(↑(List.length (List.map cI e588.In)):Int)∧(∀ e∈List.map cI e588.In,List.length e=1) from ⟨by omega,by first | omega | (simp only [List.length_map];omega),by first | omega | (simp only [List.length_map];omega),map_len fun _=>rfl⟩) ?_
 conv=>whnf
 refine Nf.mk (List.map cI (List.take (k651+1) e588.In)) take_map ?_
 conv=>whnf
 refine Side.mk ⟨rfl,trivial⟩ ?_
 conv=>whnf
 obtain ⟨c671,hc671,h⟩:=bind_some h
 refine ⟨_,(sp_R35_find c80 (List.take (k651+1) e588.In) c671 (fun _ _=>hc671)),?_⟩
 conv=>whnf
 refine Side.mk flat_one ?_
 conv=>whnf
 obtain ⟨e672,he672z,he672,h⟩:=idx_some h
 refine ⟨_,⟨he672z,rfl,map_at he668,map_lt he672⟩,?_⟩
 conv=>whnf
 refine ⟨_,_,⟨rfl,map_at he668,map_at he672⟩,?_⟩
 conv=>whnf
 refine Nf.mk (List.map (cL cI) (List.set y649 (Int.toNat c667) (List.set e668 (Int.toNat e669) c671))) (set_grid2 rfl) ?_
 conv=>whnf
 refine Side.mk rfl ?_
 conv=>whnf
 refine Side.mk rfl ?_
 conv=>whnf
 obtain ⟨e673,he673z,he673,h⟩:=idx_some h
 refine Side.mk ⟨he673z,rfl,map_lt he673⟩ ?_
 conv=>whnf
 refine Side.mk ⟨rfl,map_lt he673⟩ ?_
 conv=>whnf
 refine Side.mk rfl ?_
 conv=>whnf
 refine Side.mk rfl ?_
 conv=>whnf
 obtain ⟨e674,he674,h⟩:=idxn_some h
 refine ⟨_,⟨(by omega),map_at he674,rfl⟩,?_⟩
 conv=>whnf
 refine Side.mk rfl ?_
 conv=>whnf
 refine Side.mk rfl ?_
 conv=>whnf
 obtain ⟨e675,he675,h⟩:=idxn_some h
 refine ⟨_,⟨(by omega),map_at he675,rfl⟩,?_⟩
 conv=>whnf
 obtain ⟨e676,he676z,he676,h⟩:=idx_some h
 refine ⟨_,⟨he676z,rfl,map_at he673,map_lt he676⟩,?_⟩
 conv=>whnf
 refine ⟨_,_,⟨rfl,map_at he673,map_at he676⟩,?_⟩
 conv=>whnf
 refine Nf.mk (List.map (cL cI) (List.set y650 (Int.toNat c667) (List.set e673 (Int.toNat e674) e675))) (set_grid2 rfl) ?_
 conv=>whnf
 refine Arith.mk (by show inR _;unfold inR;omega) ?_
 conv=>whnf
 cases h
 exact Nxt.mk _ ho664 (eA [(99,some 99),(100,some 100),(101,some 101),(102,some 102),(103,some 103),(104,some 104)])
 obtain ⟨h,b665d⟩:=cfd b665 h
 conv=>whnf
 cases h
 have ho664:_=_:=ho664
 cases ho664
 exact Join.mk (eA [(99,some 99),(100,some 100),(101,some 101),(102,some 102),(103,some 103)])
 replace h:R35_Tree.k21 i487 y635 y636=some _:=hk589
 unfold R35_Tree.k21 at h
 obtain ⟨z682,z683,z684,_⟩:=hp
 conv=>whnf
 refine Arith.mk (by show inR _;unfold inR;omega) ?_
 conv=>whnf
 cases h
 exact Nxt.mk _ ho586 (eA [(99,some 99),(100,some 100),(101,some 101),(102,some 102),(103,some 103)])
 obtain ⟨h,b587d⟩:=cfd b587 h
 conv=>whnf
 cases h
 have ho586:_=_:=ho586
 cases ho586
 exact Join.mk (eA [(99,some 99),(100,some 101),(101,some 102),(102,some 103)])
 replace h:R35_Tree.k23 c82 y385 y386=some _:=hk83
 unfold R35_Tree.k23 at h
 obtain ⟨z688,z689,_⟩:=hp
 conv=>whnf
 refine Side.mk rfl ?_
 conv=>whnf
 refine Side.mk rfl ?_
 conv=>whnf
 cases h
 conv=>whnf
 refine Side.mk ⟨rfl,trivial⟩ ?_
 conv=>whnf
 exact Side.mk ⟨rfl,rfl,trivial⟩ ⟨rfl,rfl⟩
theorem sp_merge_Valid (p_:T_api_Part) (r:Int) (h:Ok (.agg (c_api_Part p_))→merge_Valid p_=some r):Sp Tryz.prog 31 [.im (.agg (c_api_Part p_))] (.im (nI r)):=by
 refine sp_of rfl [700001] rfl rfl rfl (Nat.le_of_ble_eq_true rfl) rfl fun hk=>?_
 replace h:=h hk.1
 have z1:lZ p_.Next:=ok_len (Ok.agg_at hk.1 2 rfl)
 have z2:lZ p_.Out:=ok_len (Ok.agg_at hk.1 3 rfl)
 unfold merge_Valid at h
 conv=>whnf
 refine Nf.mk (List.length p_.Next) len_map ?_
 conv=>whnf
 obtain ⟨y54,hc,hk52⟩:=bind_some h
 clear h
 have h:=hc
 clear hc
 refine Cut.mk (mkSt [(1,.im (.ref (c_api_Part p_))),(3,.im (nI (↑(List.length p_.Next):Int))),(11,.im (nB y54))] [] []) (True) (hT) ?_ (fun hp=>?_)
 conv=>whnf
 refine Both.mk ?_ ?_<;>intro b55
 replace b55:=beq_ff b55
 obtain ⟨h,b55d⟩:=cfd b55 h
 conv=>whnf
 iterate 2 (refine Both.yes (ff_beq b55) ?_;(conv=>whnf))
 refine Both.no b55 ?_
 conv=>whnf
 cases h
 exact Join.mk (eA [])
 replace b55:=beq_ft b55
 obtain ⟨h,b55d⟩:=ctd b55 h
 conv=>whnf
 iterate 2 (refine Both.no (tf_beq b55) ?_;(conv=>whnf))
 refine Both.yes b55 ?_
 conv=>whnf
 cases h
 exact Join.mk (eA [])
 replace h:=hk52
 conv=>whnf
 refine Both.mk ?_ ?_<;>intro b56
 replace h:=cond_t b56 h
 conv=>whnf
 cases h
 conv=>whnf
 exact ⟨rfl,rfl⟩
 replace h:=cond_f b56 h
 conv=>whnf
 refine Both.mk ?_ ?_<;>intro b57
 obtain ⟨h,b57d⟩:=ctd b57 h
 conv=>whnf
 cases h
 conv=>whnf
 exact ⟨rfl,rfl⟩
 obtain ⟨h,b57d⟩:=cfd b57 h
 conv=>whnf
 refine Both.mk ?_ ?_<;>intro b58
 obtain ⟨h,b58d⟩:=ctd b58 h
 conv=>whnf
 cases h
 conv=>whnf
 exact ⟨rfl,rfl⟩
 obtain ⟨h,b58d⟩:=cfd b58 h
 conv=>whnf
 obtain ⟨y62,hc,hk60⟩:=bind_some h
 clear h
 have h:=hc
 clear hc
 refine Cut.mk (mkSt [(1,.im (.ref (c_api_Part p_))),(3,.im (nI (↑(List.length p_.Next):Int))),(26,.im (nB y62))] [] []) (True) (hT) ?_ (fun hp=>?_)
 conv=>whnf
 refine Both.mk ?_ ?_<;>intro b63
 replace b63:=beq_ff b63
 obtain ⟨h,b63d⟩:=cfd b63 h
 conv=>whnf
 iterate 3 (refine Both.yes (ff_beq b63) ?_;(conv=>whnf))
 refine Both.no b63 ?_
 conv=>whnf
 cases h
 exact Join.mk (eA [])
 replace b63:=beq_ft b63
 obtain ⟨h,b63d⟩:=ctd b63 h
 conv=>whnf
 iterate 3 (refine Both.no (tf_beq b63) ?_;(conv=>whnf))
 refine Both.yes b63 ?_
 conv=>whnf
 cases h
 exact Join.mk (eA [])
 replace h:=hk60
 conv=>whnf
 refine Both.mk ?_ ?_<;>intro b64
 replace h:=cond_t b64 h
 conv=>whnf
 cases h
 conv=>whnf
 exact ⟨rfl,rfl⟩
 replace h:=cond_f b64 h
 conv=>whnf
 refine Nf.mk (List.length p_.Out) len_map ?_
 conv=>whnf
 refine Both.mk ?_ ?_<;>intro b65
 obtain ⟨h,b65d⟩:=ctd b65 h
 conv=>whnf
 cases h
 conv=>whnf
 exact ⟨rfl,rfl⟩
 obtain ⟨h,b65d⟩:=cfd b65 h
 conv=>whnf
 obtain ⟨oc,hc,hk66⟩:=bind_some h
 clear h
 have h:=hc
 clear hc
 refine Cut.mkS oc (Y:=Unit) (fun (_:Unit)=>mkSt [] [] []) (fun (_:Unit)=>True) (by rintro ⟨⟩;exact (hT)) ?_ ?_
 conv=>whnf
 refine Loops.iter (fun (s:Nat)=>merge_Valid.s14 p_ s) (fun y529=>mkSt [(1,.im (.ref (c_api_Part p_))),(3,.im (nI (↑(List.length p_.Next):Int))),(42,.im (nI (↑(List.length p_.Next):Int))),(43,.im (nI (↑y529:Int)))] [] []) (fun y529=>True) h (eA []) (by rintro y529;exact (hT)) ?_
 clear h
 rintro k y529 o hp h ho645
 replace h:merge_Valid.s14 p_ y529=some o:=h
 unfold merge_Valid.s14 at h
 conv=>whnf
 refine Both.mk ?_ ?_<;>intro b646
 obtain ⟨h,b646d⟩:=ctd b646 h
 conv=>whnf
 obtain ⟨y652,hc,hk648⟩:=bind_some h
 clear h
 have h:=hc
 clear hc
 refine Cut.mk (mkSt [(1,.im (.ref (c_api_Part p_))),(3,.im (nI (↑(List.length p_.Next):Int))),(4,.im (nI (↑y529:Int))),(42,.im (nI (↑(List.length p_.Next):Int))),(43,.im (nI (↑y529:Int))),(65,.im (nB y652))] [] []) (True) (hT) ?_ (fun hp=>?_)
 conv=>whnf
 obtain ⟨e653,he653,h⟩:=idxn_some h
 refine ⟨_,⟨(by omega),map_at he653,rfl⟩,?_⟩
 conv=>whnf
 refine Nf.mk (List.length e653) len_map ?_
 conv=>whnf
 refine Both.mk ?_ ?_<;>intro b654
 replace b654:=beq_ff b654
 obtain ⟨h,b654d⟩:=cfd b654 h
 conv=>whnf
 iterate 3 (refine Both.yes (ff_beq b654) ?_;(conv=>whnf))
 obtain ⟨e655,he655,h⟩:=idxn_some h
 refine ⟨_,⟨(by omega),map_at he655,rfl⟩,?_⟩
 conv=>whnf
 iterate 2 (refine Both.yes (ff_beq b654) ?_;(conv=>whnf))
 refine Nf.mk (List.length e655) len_map ?_
 conv=>whnf
 iterate 3 (refine Both.yes (ff_beq b654) ?_;(conv=>whnf))
 refine Both.no b654 ?_
 conv=>whnf
 cases h
 exact Join.mk (eA [])
 replace b654:=beq_ft b654
 obtain ⟨h,b654d⟩:=ctd b654 h
 conv=>whnf
 iterate 8 (refine Both.no (tf_beq b654) ?_;(conv=>whnf))
 refine Both.yes b654 ?_
 conv=>whnf
 cases h
 exact Join.mk (eA [])
 replace h:=hk648
 conv=>whnf
 refine Both.mk ?_ ?_<;>intro b656
 replace h:=cond_t b656 h
 conv=>whnf
 cases h
 have ho645:_=_:=ho645
 cases ho645
 replace h:some _=some _:=hk66
 cases h
 conv=>whnf
 exact ⟨rfl,rfl⟩
 replace h:=cond_f b656 h
 conv=>whnf
 obtain ⟨e657,he657,h⟩:=idxn_some h
 refine ⟨_,⟨(by omega),map_at he657,rfl⟩,?_⟩
 conv=>whnf
 refine Nf.mk (List.length e657) len_map ?_
 conv=>whnf
 obtain ⟨oc,hc,hk658⟩:=bind_some h
 clear h
 have h:=hc
 clear hc
 refine Cut.mkS oc (Y:=Unit) (fun (_:Unit)=>mkSt [(1,.im (.ref (c_api_Part p_))),(3,.im (nI (↑(List.length p_.Next):Int))),(42,.im (nI (↑(List.length p_.Next):Int))),(43,.im (nI (↑y529:Int)))] [] []) (fun (_:Unit)=>True) (by rintro ⟨⟩;exact (hT)) ?_ ?_
 conv=>whnf
 refine Loops.iter (fun (s:Nat)=>merge_Valid.s13 p_ y529 e657 s) (fun y726=>mkSt [(1,.im (.ref (c_api_Part p_))),(3,.im (nI (↑(List.length p_.Next):Int))),(4,.im (nI (↑y529:Int))),(42,.im (nI (↑(List.length p_.Next):Int))),(43,.im (nI (↑y529:Int))),(70,.im (nL cI e657)),(71,.im (nI (↑(List.length e657):Int))),(72,.im (nI (↑y726:Int)))] [] []) (fun y726=>lZ e657∧True) h (eA []) (by rintro y726;exact ((Holds.avl 70 rfl).and (hT))) ?_
 clear h
 rintro k y726 o hp h ho743
 replace h:merge_Valid.s13 p_ y529 e657 y726=some o:=h
 unfold merge_Valid.s13 at h
 obtain ⟨z760,_⟩:=hp
 conv=>whnf
 refine Both.mk ?_ ?_<;>intro b744
 obtain ⟨h,b744d⟩:=ctd b744 h
 conv=>whnf
 obtain ⟨e745,he745,h⟩:=idxn_some h
 refine ⟨_,⟨(by omega),map_at he745,rfl⟩,?_⟩
 conv=>whnf
 obtain ⟨e746,he746,h⟩:=idxn_some h
 refine ⟨_,⟨(by omega),map_at he746,rfl⟩,?_⟩
 conv=>whnf
 obtain ⟨e747,he747,h⟩:=idxn_some h
 refine ⟨_,⟨(by omega),map_at he747,rfl⟩,?_⟩
 conv=>whnf
 obtain ⟨y753,hc,hk749⟩:=bind_some h
 clear h
 have h:=hc
 clear hc
 refine Cut.mk (mkSt [(1,.im (.ref (c_api_Part p_))),(3,.im (nI (↑(List.length p_.Next):Int))),(4,.im (nI (↑y529:Int))),(6,.im (nI e745)),(7,.im (nI e747)),(42,.im (nI (↑(List.length p_.Next):Int))),(43,.im (nI (↑y529:Int))),(70,.im (nL cI e657)),(71,.im (nI (↑(List.length e657):Int))),(72,.im (nI (↑y726:Int))),(99,.im (nB y753))] [] []) (lZ e657∧True) ((Holds.avl 70 rfl).and (hT)) ?_ (fun hp=>?_)
 conv=>whnf
 refine Both.mk ?_ ?_<;>intro b754
 replace b754:=beq_ff b754
 obtain ⟨h,b754d⟩:=cfd b754 h
 conv=>whnf
 iterate 2 (refine Both.yes (ff_beq b754) ?_;(conv=>whnf))
 refine Both.no b754 ?_
 conv=>whnf
 refine Both.mk ?_ ?_<;>intro b755
 replace b755:=beq_ff b755
 obtain ⟨h,b755d⟩:=cfd b755 h
 conv=>whnf
 refine Both.yes (ff_beq b755) ?_
 conv=>whnf
 refine Both.no b755 ?_
 conv=>whnf
 refine Both.mk ?_ ?_<;>intro b756
 replace b756:=beq_ff b756
 obtain ⟨h,b756d⟩:=cfd b756 h
 conv=>whnf
 refine Both.yes (ff_beq b756) ?_
 conv=>whnf
 refine Both.no b756 ?_
 conv=>whnf
 cases h
 exact Join.mk (eA [])
 replace b756:=beq_ft b756
 obtain ⟨h,b756d⟩:=ctd b756 h
 conv=>whnf
 refine Both.no (tf_beq b756) ?_
 conv=>whnf
 refine Both.yes b756 ?_
 conv=>whnf
 cases h
 exact Join.mk (eA [])
 replace b755:=beq_ft b755
 obtain ⟨h,b755d⟩:=ctd b755 h
 conv=>whnf
 refine Both.no (tf_beq b755) ?_
 conv=>whnf
 refine Both.yes b755 ?_
 conv=>whnf
 iterate 2 (refine Both.no rfl ?_;(conv=>whnf))
 refine Both.yes rfl ?_
 conv=>whnf
 cases h
 exact Join.mk (eA [])
 replace b754:=beq_ft b754
 obtain ⟨h,b754d⟩:=ctd b754 h
 conv=>whnf
 iterate 2 (refine Both.no (tf_beq b754) ?_;(conv=>whnf))
 refine Both.yes b754 ?_
 conv=>whnf
 iterate 2 (refine Both.no rfl ?_;(conv=>whnf))
 refine Both.yes rfl ?_
 conv=>whnf
 iterate 2 (refine Both.no rfl ?_;(conv=>whnf))
 refine Both.yes rfl ?_
 conv=>whnf
 cases h
 exact Join.mk (eA [])
 replace h:=hk749
 obtain ⟨z757,_⟩:=hp
 conv=>whnf
 refine Both.mk ?_ ?_<;>intro b758
 replace h:=cond_t b758 h
 conv=>whnf
 cases h
 have ho743:_=_:=ho743
 cases ho743
 replace h:some _=some _:=hk658
 cases h
 have ho645:_=_:=ho645
 cases ho645
 replace h:some _=some _:=hk66
 cases h
 conv=>whnf
 exact ⟨rfl,rfl⟩
 replace h:=cond_f b758 h
 conv=>whnf
 refine Both.mk ?_ ?_<;>intro b759
 replace h:=cond_t b759 h
 conv=>whnf
 cases h
 have ho743:_=_:=ho743
 cases ho743
 replace h:some _=some _:=hk658
 cases h
 have ho645:_=_:=ho645
 cases ho645
 replace h:some _=some _:=hk66
 cases h
 conv=>whnf
 exact ⟨rfl,rfl⟩
 replace h:=cond_f b759 h
 conv=>whnf
 refine Arith.mk (by show inR _;unfold inR;omega) ?_
 conv=>whnf
 cases h
 exact Nxt.mk _ ho743 (eA [])
 obtain ⟨h,b744d⟩:=cfd b744 h
 conv=>whnf
 cases h
 have ho743:_=_:=ho743
 cases ho743
 exact JoinS.mk' _ rfl (eA [])
 rintro ⟨⟩ rfl hp
 replace h:=sum_inl hk658
 conv=>whnf
 refine Arith.mk (by show inR _;unfold inR;omega) ?_
 conv=>whnf
 cases h
 exact Nxt.mk _ ho645 (eA [])
 obtain ⟨h,b646d⟩:=cfd b646 h
 conv=>whnf
 cases h
 have ho645:_=_:=ho645
 cases ho645
 exact JoinS.mk' _ rfl (eA [])
 rintro ⟨⟩ rfl hp
 replace h:=sum_inl hk66
 conv=>whnf
 cases h
 conv=>whnf
 exact ⟨rfl,rfl⟩
theorem sp_evidence_top (up_:List Int) (s_:Int) (r:Int) (h:Ok (nL cI up_)→Ok (nI s_)→evidence_top up_ s_=some r):Sp Tryz.prog 108 [.im (nL cI up_),.im (nI s_)] (.im (nI r)):=by
 refine sp_of rfl [] rfl rfl rfl (Nat.le_of_ble_eq_true rfl) rfl fun hk=>?_
 replace h:=h hk.1 hk.2.1
 have z1:lZ up_:=ok_len hk.1
 unfold evidence_top at h
 conv=>whnf
 obtain ⟨s64,hc,hk51⟩:=bind_some h
 clear h
 have h:=hc
 clear hc
 refine Cut.mk (mkSt [(1,.im (nI s64))] [] []) (True) (hT) ?_ (fun hp=>?_)
 conv=>whnf
 refine Loops.iter (fun (s:Int)=>evidence_top.s2 up_ s) (fun s68=>mkSt [(0,.im (nL cI up_)),(1,.im (nI s68))] [] []) (fun s68=>lZ up_∧True) h (eA []) (by rintro s68;exact ((Holds.avl 0 rfl).and (hT))) ?_
 clear h
 rintro k s68 o hp h ho72
 replace h:evidence_top.s2 up_ s68=some o:=h
 unfold evidence_top.s2 at h
 obtain ⟨z76,_⟩:=hp
 conv=>whnf
 obtain ⟨e73,he73z,he73,h⟩:=idx_some h
 refine ⟨_,⟨he73z,map_at he73,rfl⟩,?_⟩
 conv=>whnf
 refine Both.mk ?_ ?_<;>intro b74
 obtain ⟨h,b74d⟩:=ctd b74 h
 conv=>whnf
 obtain ⟨e75,he75z,he75,h⟩:=idx_some h
 refine ⟨_,⟨he75z,map_at he75,rfl⟩,?_⟩
 conv=>whnf
 cases h
 exact Nxt.mk _ ho72 (eA [])
 obtain ⟨h,b74d⟩:=cfd b74 h
 conv=>whnf
 cases h
 have ho72:_=_:=ho72
 cases ho72
 exact Join.mk (eA [])
 replace h:=hk51
 conv=>whnf
 cases h
 conv=>whnf
 exact ⟨rfl,rfl⟩
theorem sp_evidence_known (p_:T_api_Part) (class_:List Int) (a_:Int) (r:Int) (h:Ok (.agg (c_api_Part p_))→Ok (nL cI class_)→Ok (nI a_)→evidence_known p_ class_ a_=some r):Sp Tryz.prog 109 [.im (.agg (c_api_Part p_)),.im (nL cI class_),.im (nI a_)] (.im (nI r)):=by
 refine sp_of rfl [700003] rfl rfl rfl (Nat.le_of_ble_eq_true rfl) rfl fun hk=>?_
 replace h:=h hk.1 hk.2.1 hk.2.2.1
 have z1:lZ p_.Next:=ok_len (Ok.agg_at hk.1 2 rfl)
 have z2:lZ p_.Out:=ok_len (Ok.agg_at hk.1 3 rfl)
 have z3:lZ class_:=ok_len hk.2.1
 unfold evidence_known at h
 conv=>whnf
 refine Nf.mk (List.length class_) len_map ?_
 conv=>whnf
 obtain ⟨oc,hc,hk51⟩:=bind_some h
 clear h
 have h:=hc
 clear hc
 refine Cut.mkS oc (Y:=Unit) (fun (_:Unit)=>mkSt [] [] []) (fun (_:Unit)=>True) (by rintro ⟨⟩;exact (hT)) ?_ ?_
 conv=>whnf
 refine Loops.iter (fun (s:Nat)=>evidence_known.s2 p_ class_ a_ s) (fun y75=>mkSt [(2,.im (nI a_)),(3,.im (.ref (c_api_Part p_))),(9,.im (nL cI class_)),(10,.im (nI (↑(List.length class_):Int))),(11,.im (nI (↑y75:Int)))] [] []) (fun y75=>lZ class_∧True) h (eA []) (by rintro y75;exact ((Holds.avl 9 rfl).and (hT))) ?_
 clear h
 rintro k y75 o hp h ho81
 replace h:evidence_known.s2 p_ class_ a_ y75=some o:=h
 unfold evidence_known.s2 at h
 obtain ⟨z87,_⟩:=hp
 conv=>whnf
 refine Both.mk ?_ ?_<;>intro b82
 obtain ⟨h,b82d⟩:=ctd b82 h
 conv=>whnf
 obtain ⟨e83,he83,h⟩:=idxn_some h
 refine ⟨_,⟨(by omega),map_at he83,rfl⟩,?_⟩
 conv=>whnf
 obtain ⟨e84,he84z,he84,h⟩:=idx_some h
 refine ⟨_,⟨he84z,map_at he84,rfl⟩,?_⟩
 conv=>whnf
 obtain ⟨e85,he85z,he85,h⟩:=idx_some h
 refine ⟨_,⟨he85z,map_at he85,rfl⟩,?_⟩
 conv=>whnf
 refine Both.mk ?_ ?_<;>intro b86
 obtain ⟨h,b86d⟩:=ctd b86 h
 conv=>whnf
 cases h
 have ho81:_=_:=ho81
 cases ho81
 replace h:some _=some _:=hk51
 cases h
 conv=>whnf
 exact ⟨rfl,rfl⟩
 obtain ⟨h,b86d⟩:=cfd b86 h
 conv=>whnf
 refine Arith.mk (by show inR _;unfold inR;omega) ?_
 conv=>whnf
 cases h
 exact Nxt.mk _ ho81 (eA [])
 obtain ⟨h,b82d⟩:=cfd b82 h
 conv=>whnf
 cases h
 have ho81:_=_:=ho81
 cases ho81
 exact JoinS.mk' _ rfl (eA [])
 rintro ⟨⟩ rfl hp
 replace h:=sum_inl hk51
 conv=>whnf
 cases h
 conv=>whnf
 exact ⟨rfl,rfl⟩
theorem sp_evidence_fold (p_:T_api_Part) (s_:Int) (t_:Int) (r:List Int×Bool) (h:Ok (.agg (c_api_Part p_))→Ok (nI s_)→Ok (nI t_)→evidence_fold p_ s_ t_=some r):Sp Tryz.prog 78 [.im (.agg (c_api_Part p_)),.im (nI s_),.im (nI t_)] (.tup [nL cI r.1,nB r.2]):=by
 refine sp_of rfl [37,44,500055,500061,500076,500083,500153,600025,700003] rfl rfl rfl (Nat.le_of_ble_eq_true rfl) rfl fun hk=>?_
 replace h:=h hk.1 hk.2.1 hk.2.2.1
 have z1:lZ p_.Next:=ok_len (Ok.agg_at hk.1 2 rfl)
 have z2:lZ p_.Out:=ok_len (Ok.agg_at hk.1 3 rfl)
 unfold evidence_fold at h
 conv=>whnf
 refine Nf.mk (List.length p_.Next) len_map ?_
 conv=>whnf
 obtain ⟨c51,h⟩:=chk_some h
 refine Side.mk c51 ?_
 conv=>whnf
 refine Nf.mk (List.map cI (List.replicate (List.length p_.Next) (0:Int))) (rep_map (c:=cI) (z:=0) (n:=(List.length p_.Next)) rfl rfl) ?_
 conv=>whnf
 refine Nf.mk (List.length p_.Next) len_map ?_
 conv=>whnf
 obtain ⟨c52,h⟩:=chk_some h
 refine Side.mk c52 ?_
 conv=>whnf
 refine Nf.mk (List.map (cL cI) (List.replicate (List.length p_.Next) ([]:List Int))) (rep_map (c:=(cL cI)) (z:=([]:List Int)) (n:=(List.length p_.Next)) rfl rfl) ?_
 conv=>whnf
 refine Side.mk rfl ?_
 conv=>whnf
 refine Nf.mk (List.length (List.replicate (List.length p_.Next) (0:Int))) len_map ?_
 conv=>whnf
 obtain ⟨⟨y71,y72⟩,hc,hk53⟩:=bind_some h
 clear h
 have h:=hc
 clear hc
 refine Cut.mk (mkSt [(1,.im (nI s_)),(2,.im (nI t_)),(3,.im (.ref (c_api_Part p_))),(8,.osl 157 1),(9,.osl 158 1)] [(157,.row 3 1 (List.map cI y71)),(158,.grid 60 3 1 (List.map (cL cI) y72) none)] []) (lZ y71∧lZ y72∧True) ((Holds.kdl 157 rfl).and ((Holds.kdg 158 rfl).and (hT))) ?_ (fun hp=>?_)
 conv=>whnf
 refine Loops.iter (fun (s:List Int×List (List Int)×Nat)=>evidence_fold.s2 p_ s.1 s.2.1 s.2.2) (fun (y76,y77,y78)=>mkSt [(1,.im (nI s_)),(2,.im (nI t_)),(3,.im (.ref (c_api_Part p_))),(8,.osl 157 1),(9,.osl 158 1),(27,.im (nI (↑(List.length (List.replicate (List.length p_.Next) (0:Int))):Int))),(28,.im (nI (↑y78:Int)))] [(157,.row 3 1 (List.map cI y76)),(158,.grid 60 3 1 (List.map (cL cI) y77) none)] []) (fun (y76,y77,y78)=>lZ y76∧lZ y77∧True) h (eA [(157,some 21),(158,some 25)]) (by rintro ⟨y76,y77,y78⟩;exact ((Holds.kdl 157 rfl).and ((Holds.kdg 158 rfl).and (hT)))) ?_
 clear h
 rintro k ⟨y76,y77,y78⟩ o hp h ho83
 replace h:evidence_fold.s2 p_ y76 y77 y78=some o:=h
 unfold evidence_fold.s2 at h
 obtain ⟨z88,z89,_⟩:=hp
 conv=>whnf
 refine Both.mk ?_ ?_<;>intro b84
 obtain ⟨h,b84d⟩:=ctd b84 h
 conv=>whnf
 obtain ⟨e85,he85,h⟩:=idxn_some h
 refine Side.mk ⟨(by omega),rfl,map_lt he85⟩ ?_
 conv=>whnf
 refine Side.mk ⟨rfl,trivial⟩ ?_
 conv=>whnf
 refine ⟨_,map_at he85,?_⟩
 conv=>whnf
 refine Nf.mk (List.map cI (List.set y76 y78 (↑y78:Int))) (set_map rfl) ?_
 conv=>whnf
 obtain ⟨e86,he86,h⟩:=idxn_some h
 refine Side.mk ⟨(by omega),rfl,map_lt he86⟩ ?_
 conv=>whnf
 refine Side.mk ⟨rfl,rfl,map_lt he86,trivial⟩ ?_
 conv=>whnf
 refine Nf.mk (List.map (cL cI) (List.set y77 y78 [(↑y78:Int)])) set_grid1 ?_
 conv=>whnf
 obtain ⟨c87,h⟩:=chk_some h
 refine Arith.mk c87 ?_
 conv=>whnf
 cases h
 exact Nxt.mk _ ho83 (eA [(157,some 157),(158,some 158)])
 obtain ⟨h,b84d⟩:=cfd b84 h
 conv=>whnf
 cases h
 have ho83:_=_:=ho83
 cases ho83
 exact Join.mk (eA [(157,some 157),(158,some 158)])
 replace h:evidence_fold.k37 p_ s_ t_ y71 y72=some _:=hk53
 unfold evidence_fold.k37 at h
 obtain ⟨z90,z91,_⟩:=hp
 conv=>whnf
 obtain ⟨oc,hc,hk92⟩:=bind_some h
 clear h
 have h:=hc
 clear hc
 refine Cut.mkS oc (Y:=List Int) (fun y2185=>mkSt [(8,.osl 157 1)] [(157,.row 3 1 (List.map cI y2185))] []) (fun y2185=>lZ y2185∧True) (by rintro y2185;exact ((Holds.kdl 157 rfl).and (hT))) ?_ ?_
 conv=>whnf
 refine Loops.iter (fun (s:List Int×List (List Int)×List T_A2)=>evidence_fold.s34 p_ s.1 s.2.1 s.2.2) (fun (y2881,y2882,y2883)=>mkSt [(3,.im (.ref (c_api_Part p_))),(8,.osl 157 1),(9,.osl 158 1),(11,.osl 159 1)] [(157,.row 3 1 (List.map cI y2881)),(158,.grid 60 3 1 (List.map (cL cI) y2882) none),(159,.que 121 2 (List.map c_A2 y2883))] []) (fun (y2881,y2882,y2883)=>lZ y2881∧lZ y2882∧lZ y2883∧True) h ((Ent.que 44 rfl).trans (eA [(157,some 157),(158,some 158),(159,some 44)])) (by rintro ⟨y2881,y2882,y2883⟩;exact ((Holds.kdl 157 rfl).and ((Holds.kdg 158 rfl).and ((Holds.kdql 159 rfl).and (hT))))) ?_
 clear h
 rintro k ⟨y2881,y2882,y2883⟩ o hp h ho3579
 replace h:evidence_fold.s34 p_ y2881 y2882 y2883=some o:=h
 unfold evidence_fold.s34 at h
 obtain ⟨z4275,z4276,z4277,_⟩:=hp
 conv=>whnf
 refine Side.mk rfl ?_
 conv=>whnf
 refine Nf.mk (List.length y2883) len_map ?_
 conv=>whnf
 refine Both.mk ?_ ?_<;>intro b3580
 obtain ⟨h,b3580d⟩:=ctd b3580 h
 conv=>whnf
 obtain ⟨oc,hc,hk3581⟩:=bind_some h
 clear h
 have h:=hc
 clear hc
 refine Cut.mkS oc (Y:=List Int×List (List Int)×List T_A2) (fun (y3925,y3926,y3927)=>mkSt [(3,.im (.ref (c_api_Part p_))),(8,.osl 157 1),(9,.osl 158 1),(11,.osl 159 1)] [(157,.row 3 1 (List.map cI y3925)),(158,.grid 60 3 1 (List.map (cL cI) y3926) none),(159,.que 121 2 (List.map c_A2 y3927))] []) (fun (y3925,y3926,y3927)=>lZ y3925∧lZ y3926∧lZ y3927∧True) (by rintro ⟨y3925,y3926,y3927⟩;exact ((Holds.kdl 157 rfl).and ((Holds.kdg 158 rfl).and ((Holds.kdql 159 rfl).and (hT))))) ?_ ?_
 conv=>whnf
 obtain ⟨e3928,he3928,h⟩:=idxn_some h
 refine Side.mk ⟨(by omega),rfl,map_lt he3928⟩ ?_
 conv=>whnf
 refine Side.mk ⟨by decide,by decide,rfl⟩ ?_
 conv=>whnf
 refine ⟨_,_,⟨rfl,map_at he3928,rfl,rfl⟩,?_⟩
 conv=>whnf
 refine Side.mk ⟨rfl,trivial⟩ ?_
 conv=>whnf
 obtain ⟨c3929,hc3929,h⟩:=bind_some h
 refine ⟨_,(sp_evidence_top y2881 e3928.f0 c3929 (fun _ _=>hc3929)),?_⟩
 conv=>whnf
 refine Side.mk flat_one ?_
 conv=>whnf
 obtain ⟨e3930,he3930,h⟩:=idxn_some h
 refine Side.mk ⟨(by omega),rfl,map_lt he3930⟩ ?_
 conv=>whnf
 refine Side.mk ⟨by decide,by decide,rfl⟩ ?_
 conv=>whnf
 refine ⟨_,_,⟨rfl,map_at he3930,rfl,rfl⟩,?_⟩
 conv=>whnf
 refine Side.mk ⟨rfl,trivial⟩ ?_
 conv=>whnf
 obtain ⟨c3931,hc3931,h⟩:=bind_some h
 refine ⟨_,(sp_evidence_top y2881 e3930.f1 c3931 (fun _ _=>hc3931)),?_⟩
 conv=>whnf
 refine Side.mk flat_one ?_
 conv=>whnf
 refine Both.mk ?_ ?_<;>intro b3932
 obtain ⟨h,b3932d⟩:=ctd b3932 h
 conv=>whnf
 cases h
 exact JoinS.mk' _ rfl (eA [(157,some 157),(158,some 158),(159,some 159)])
 obtain ⟨h,b3932d⟩:=cfd b3932 h
 conv=>whnf
 obtain ⟨oc,hc,hk3933⟩:=bind_some h
 clear h
 have h:=hc
 clear hc
 refine Cut.mkS oc (Y:=List T_A2) (fun y4098=>mkSt [(3,.im (.ref (c_api_Part p_))),(8,.osl 157 1),(9,.osl 158 1),(11,.osl 159 1),(12,.im (nI c3929)),(13,.im (nI c3931))] [(157,.row 3 1 (List.map cI y2881)),(158,.grid 60 3 1 (List.map (cL cI) y2882) none),(159,.que 121 2 (List.map c_A2 y4098))] []) (fun y4098=>lZ y2881∧lZ y2882∧lZ y4098∧True) (by rintro y4098;exact ((Holds.kdl 157 rfl).and ((Holds.kdg 158 rfl).and ((Holds.kdql 159 rfl).and (hT))))) ?_ ?_
 conv=>whnf
 refine Loops.iter (fun (s:List T_A2×Nat)=>evidence_fold.s32 p_ y2882 c3929 c3931 s.1 s.2) (fun (y4151,y4152)=>mkSt [(3,.im (.ref (c_api_Part p_))),(8,.osl 157 1),(9,.osl 158 1),(11,.osl 159 1),(12,.im (nI c3929)),(13,.im (nI c3931)),(66,.im (nI p_.Inputs)),(67,.im (nI (↑y4152:Int)))] [(157,.row 3 1 (List.map cI y2881)),(158,.grid 60 3 1 (List.map (cL cI) y2882) none),(159,.que 121 2 (List.map c_A2 y4151))] []) (fun (y4151,y4152)=>lZ y2881∧lZ y2882∧lZ y4151∧True) h (eA [(157,some 157),(158,some 158),(159,some 159)]) (by rintro ⟨y4151,y4152⟩;exact ((Holds.kdl 157 rfl).and ((Holds.kdg 158 rfl).and ((Holds.kdql 159 rfl).and (hT))))) ?_
 clear h
 rintro k ⟨y4151,y4152⟩ o hp h ho4206
 replace h:evidence_fold.s32 p_ y2882 c3929 c3931 y4151 y4152=some o:=h
 unfold evidence_fold.s32 at h
 obtain ⟨z4260,z4261,z4262,_⟩:=hp
 conv=>whnf
 refine Both.mk ?_ ?_<;>intro b4207
 obtain ⟨h,b4207d⟩:=ctd b4207 h
 conv=>whnf
 obtain ⟨oc,hc,hk4208⟩:=bind_some h
 clear h
 have h:=hc
 clear hc
 refine Cut.mkS oc (Y:=List T_A2) (fun y4232=>mkSt [(3,.im (.ref (c_api_Part p_))),(8,.osl 157 1),(9,.osl 158 1),(11,.osl 159 1),(12,.im (nI c3929)),(13,.im (nI c3931)),(66,.im (nI p_.Inputs)),(67,.im (nI (↑y4152:Int)))] [(157,.row 3 1 (List.map cI y2881)),(158,.grid 60 3 1 (List.map (cL cI) y2882) none),(159,.que 121 2 (List.map c_A2 y4232))] []) (fun y4232=>lZ y2881∧lZ y2882∧lZ y4232∧True) (by rintro y4232;exact ((Holds.kdl 157 rfl).and ((Holds.kdg 158 rfl).and ((Holds.kdql 159 rfl).and (hT))))) ?_ ?_
 conv=>whnf
 obtain ⟨e4233,he4233z,he4233,h⟩:=idx_some h
 refine Side.mk ⟨he4233z,rfl,map_lt he4233⟩ ?_
 conv=>whnf
 refine Side.mk ⟨rfl,map_lt he4233⟩ ?_
 conv=>whnf
 refine Side.mk ⟨rfl,trivial⟩ ?_
 conv=>whnf
 obtain ⟨c4234,hc4234,h⟩:=bind_some h
 refine ⟨_,(sp_cast (by rw [rowAt_map he4233];try rfl) (sp_evidence_known p_ e4233 (↑y4152:Int) c4234 (fun _ _ _=>hc4234))),?_⟩
 conv=>whnf
 refine Side.mk flat_one ?_
 conv=>whnf
 obtain ⟨e4235,he4235z,he4235,h⟩:=idx_some h
 refine Side.mk ⟨he4235z,rfl,map_lt he4235⟩ ?_
 conv=>whnf
 refine Side.mk ⟨rfl,map_lt he4235⟩ ?_
 conv=>whnf
 refine Side.mk ⟨rfl,trivial⟩ ?_
 conv=>whnf
 obtain ⟨c4236,hc4236,h⟩:=bind_some h
 refine ⟨_,(sp_cast (by rw [rowAt_map he4235];try rfl) (sp_evidence_known p_ e4235 (↑y4152:Int) c4236 (fun _ _ _=>hc4236))),?_⟩
 conv=>whnf
 refine Side.mk flat_one ?_
 conv=>whnf
 obtain ⟨y4240,hc,hk4238⟩:=bind_some h
 clear h
 have h:=hc
 clear hc
 refine Cut.mk (mkSt [(3,.im (.ref (c_api_Part p_))),(8,.osl 157 1),(9,.osl 158 1),(11,.osl 159 1),(12,.im (nI c3929)),(13,.im (nI c3931)),(14,.im (nI (↑y4152:Int))),(15,.im (nI c4234)),(16,.im (nI c4236)),(66,.im (nI p_.Inputs)),(67,.im (nI (↑y4152:Int))),(89,.im (nB y4240))] [(157,.row 3 1 (List.map cI y2881)),(158,.grid 60 3 1 (List.map (cL cI) y2882) none),(159,.que 121 2 (List.map c_A2 y4151))] []) (lZ y2881∧lZ y2882∧lZ y4151∧True) ((Holds.kdl 157 rfl).and ((Holds.kdg 158 rfl).and ((Holds.kdql 159 rfl).and (hT)))) ?_ (fun hp=>?_)
 conv=>whnf
 refine Both.mk ?_ ?_<;>intro b4241
 replace b4241:=beq_ff b4241
 obtain ⟨h,b4241d⟩:=cfd b4241 h
 conv=>whnf
 refine Both.yes (ff_beq b4241) ?_
 conv=>whnf
 refine Both.no b4241 ?_
 conv=>whnf
 cases h
 exact Join.mk (eA [(157,some 157),(158,some 158),(159,some 159)])
 replace b4241:=beq_ft b4241
 obtain ⟨h,b4241d⟩:=ctd b4241 h
 conv=>whnf
 refine Both.no (tf_beq b4241) ?_
 conv=>whnf
 refine Both.yes b4241 ?_
 conv=>whnf
 cases h
 exact Join.mk (eA [(157,some 157),(158,some 158),(159,some 159)])
 replace h:=hk4238
 obtain ⟨z4242,z4243,z4244,_⟩:=hp
 conv=>whnf
 refine Both.mk ?_ ?_<;>intro b4245
 replace h:=cond_t b4245 h
 conv=>whnf
 cases h
 exact JoinS.mk' _ rfl (eA [(157,some 157),(158,some 158),(159,some 159)])
 replace h:=cond_f b4245 h
 conv=>whnf
 obtain ⟨e4246,he4246z,he4246,h⟩:=idx_some h
 refine ⟨_,⟨he4246z,map_at he4246,rfl⟩,?_⟩
 conv=>whnf
 obtain ⟨e4247,he4247,h⟩:=idxn_some h
 refine ⟨_,⟨(by omega),map_at he4247,rfl⟩,?_⟩
 conv=>whnf
 obtain ⟨e4248,he4248z,he4248,h⟩:=idx_some h
 refine ⟨_,⟨he4248z,map_at he4248,rfl⟩,?_⟩
 conv=>whnf
 obtain ⟨e4249,he4249,h⟩:=idxn_some h
 refine ⟨_,⟨(by omega),map_at he4249,rfl⟩,?_⟩
 conv=>whnf
 refine Both.mk ?_ ?_<;>intro b4250
 obtain ⟨h,b4250d⟩:=ctd b4250 h
 conv=>whnf
 cases h
 replace h:some _=some _:=hk4208
 cases h
 have ho4206:_=_:=ho4206
 cases ho4206
 replace h:some _=some _:=hk3933
 cases h
 replace h:some _=some _:=hk3581
 cases h
 have ho3579:_=_:=ho3579
 cases ho3579
 replace h:some _=some _:=hk92
 cases h
 conv=>whnf
 exact ⟨rfl,rfl⟩
 obtain ⟨h,b4250d⟩:=cfd b4250 h
 conv=>whnf
 obtain ⟨e4251,he4251z,he4251,h⟩:=idx_some h
 refine ⟨_,⟨he4251z,map_at he4251,rfl⟩,?_⟩
 conv=>whnf
 obtain ⟨e4252,he4252,h⟩:=idxn_some h
 refine ⟨_,⟨(by omega),map_at he4252,rfl⟩,?_⟩
 conv=>whnf
 obtain ⟨e4253,he4253z,he4253,h⟩:=idx_some h
 refine ⟨_,⟨he4253z,map_at he4253,rfl⟩,?_⟩
 conv=>whnf
 obtain ⟨e4254,he4254,h⟩:=idxn_some h
 refine ⟨_,⟨(by omega),map_at he4254,rfl⟩,?_⟩
 conv=>whnf
 obtain ⟨c4255,h⟩:=chk_some h
 refine Side.mk ⟨rfl,Nat.succ_pos _,map_len (l:=[(⟨e4252,e4254⟩:T_A2)]) (c:=c_A2) fun _=>rfl,show capOk _ 16 by simpa only [List.length_map,List.length_cons,List.length_nil,Nat.zero_add] using c4255⟩ ?_
 conv=>whnf
 refine Nf.mk (List.map c_A2 (y4151++[(⟨e4252,e4254⟩:T_A2)])) (app_map (l:=y4151) (m:=[(⟨e4252,e4254⟩:T_A2)]) (c:=c_A2)) ?_
 conv=>whnf
 cases h
 exact JoinS.mk' _ rfl (eA [(157,some 157),(158,some 158),(159,some 159)])
 rintro y4232 rfl hp
 replace h:=sum_inl hk4208
 obtain ⟨z4256,z4257,z4258,_⟩:=hp
 conv=>whnf
 obtain ⟨c4259,h⟩:=chk_some h
 refine Arith.mk c4259 ?_
 conv=>whnf
 cases h
 exact Nxt.mk _ ho4206 (eA [(157,some 157),(158,some 158),(159,some 159)])
 obtain ⟨h,b4207d⟩:=cfd b4207 h
 conv=>whnf
 cases h
 have ho4206:_=_:=ho4206
 cases ho4206
 exact JoinS.mk' _ rfl (eA [(157,some 157),(158,some 158),(159,some 159)])
 rintro y4098 rfl hp
 replace h:=sum_inl hk3933
 obtain ⟨z4263,z4264,z4265,_⟩:=hp
 conv=>whnf
 obtain ⟨e4266,he4266z,he4266,h⟩:=idx_some h
 refine Side.mk ⟨he4266z,rfl,map_lt he4266⟩ ?_
 conv=>whnf
 refine Side.mk ⟨rfl,trivial⟩ ?_
 conv=>whnf
 refine ⟨_,map_at he4266,?_⟩
 conv=>whnf
 refine Nf.mk (List.map cI (List.set y2881 c3931.toNat c3929)) (set_map rfl) ?_
 conv=>whnf
 obtain ⟨e4267,he4267z,he4267,h⟩:=idx_some h
 refine Side.mk ⟨he4267z,rfl,map_lt he4267⟩ ?_
 conv=>whnf
 refine Side.mk ⟨rfl,map_lt he4267⟩ ?_
 conv=>whnf
 obtain ⟨e4268,he4268z,he4268,h⟩:=idx_some h
 refine Side.mk ⟨he4268z,rfl,map_lt he4268⟩ ?_
 conv=>whnf
 refine Side.mk ⟨rfl,map_lt he4268⟩ ?_
 conv=>whnf
 obtain ⟨c4269,h⟩:=chk_some h
 refine ⟨_,_,⟨rfl,rfl,by omega,map_at he4267,map_at he4268,(show capOk _ 8 by have hh_:=c4269;simpa only [List.length_map] using hh_)⟩,?_⟩
 conv=>whnf
 refine Nf.mk (List.map cI (e4267++e4268)) (app_map (l:=e4267) (m:=e4268) (c:=cI)) ?_
 conv=>whnf
 obtain ⟨e4270,he4270z,he4270,h⟩:=idx_some h
 refine Side.mk ⟨he4270z,rfl,map_lt he4270⟩ ?_
 conv=>whnf
 refine Side.mk ⟨rfl,rfl,map_lt he4270,rfl⟩ ?_
 conv=>whnf
 refine Nf.mk (List.map (cL cI) (List.set y2882 (Int.toNat c3929) (e4267++e4268))) set_grid1 ?_
 conv=>whnf
 cases h
 exact JoinS.mk' _ rfl (eA [(157,some 157),(158,some 158),(159,some 159)])
 rintro ⟨y3925,y3926,y3927⟩ rfl hp
 have hx_:=sum_inl hk3581
 replace h:evidence_fold.k33 y3925 y3926 y3927=some _:=hx_
 clear hx_
 unfold evidence_fold.k33 at h
 obtain ⟨z4271,z4272,z4273,_⟩:=hp
 conv=>whnf
 obtain ⟨c4274,h⟩:=chk_some h
 refine Side.mk ⟨rfl,by decide,by have hh_:=c4274;simp only [List.length_map];exact hh_⟩ ?_
 conv=>whnf
 refine Nf.mk (List.map c_A2 (List.drop 1 y3927)) List.map_drop ?_
 conv=>whnf
 cases h
 exact Nxt.mk _ ho3579 (eA [(157,some 157),(158,some 158),(159,some 159)])
 obtain ⟨h,b3580d⟩:=cfd b3580 h
 conv=>whnf
 cases h
 have ho3579:_=_:=ho3579
 cases ho3579
 exact JoinS.mk' _ rfl (eA [(157,some 157)])
 rintro y2185 rfl hp
 replace h:=sum_inl hk92
 obtain ⟨z4278,_⟩:=hp
 conv=>whnf
 refine Side.mk rfl ?_
 conv=>whnf
 refine Nf.mk (List.length y2185) len_map ?_
 conv=>whnf
 obtain ⟨y4293,hc,hk4279⟩:=bind_some h
 clear h
 have h:=hc
 clear hc
 refine Cut.mk (mkSt [(8,.osl 157 1)] [(157,.row 3 1 (List.map cI y4293))] []) (lZ y4293∧True) ((Holds.kdl 157 rfl).and (hT)) ?_ (fun hp=>?_)
 conv=>whnf
 refine Loops.iter (fun (s:List Int×Nat)=>evidence_fold.s36 y2185 s.1 s.2) (fun (y4297,y4298)=>mkSt [(8,.osl 157 1),(145,.im (nI (↑(List.length y2185):Int))),(146,.im (nI (↑y4298:Int)))] [(157,.row 3 1 (List.map cI y4297))] []) (fun (y4297,y4298)=>lZ y4297∧True) h (eA [(157,some 157)]) (by rintro ⟨y4297,y4298⟩;exact ((Holds.kdl 157 rfl).and (hT))) ?_
 clear h
 rintro k ⟨y4297,y4298⟩ o hp h ho4302
 replace h:evidence_fold.s36 y2185 y4297 y4298=some o:=h
 unfold evidence_fold.s36 at h
 obtain ⟨z4306,_⟩:=hp
 conv=>whnf
 refine Both.mk ?_ ?_<;>intro b4303
 obtain ⟨h,b4303d⟩:=ctd b4303 h
 conv=>whnf
 refine Side.mk ⟨rfl,trivial⟩ ?_
 conv=>whnf
 obtain ⟨c4304,hc4304,h⟩:=bind_some h
 refine ⟨_,(sp_evidence_top y4297 (↑y4298:Int) c4304 (fun _ _=>hc4304)),?_⟩
 conv=>whnf
 refine Side.mk flat_one ?_
 conv=>whnf
 obtain ⟨e4305,he4305,h⟩:=idxn_some h
 refine Side.mk ⟨(by omega),rfl,map_lt he4305⟩ ?_
 conv=>whnf
 refine Side.mk ⟨rfl,trivial⟩ ?_
 conv=>whnf
 refine ⟨_,map_at he4305,?_⟩
 conv=>whnf
 refine Nf.mk (List.map cI (List.set y4297 y4298 c4304)) (set_map rfl) ?_
 conv=>whnf
 refine Arith.mk (by show inR _;unfold inR;omega) ?_
 conv=>whnf
 cases h
 exact Nxt.mk _ ho4302 (eA [(157,some 157)])
 obtain ⟨h,b4303d⟩:=cfd b4303 h
 conv=>whnf
 cases h
 have ho4302:_=_:=ho4302
 cases ho4302
 exact Join.mk (eA [(157,some 157)])
 replace h:=hk4279
 obtain ⟨z4307,_⟩:=hp
 conv=>whnf
 cases h
 conv=>whnf
 exact Side.mk ⟨rfl,trivial⟩ ⟨rfl,rfl⟩
theorem sp_evidence_score (p_:T_api_Part) (s_:Int) (t_:Int) (r:Int×Bool) (h:Ok (.agg (c_api_Part p_))→Ok (nI s_)→Ok (nI t_)→evidence_score p_ s_ t_=some r):Sp Tryz.prog 38 [.im (.agg (c_api_Part p_)),.im (nI s_),.im (nI t_)] (.tup [nI r.1,nB r.2]):=by
 refine sp_of rfl [700003] rfl rfl rfl (Nat.le_of_ble_eq_true rfl) rfl fun hk=>?_
 replace h:=h hk.1 hk.2.1 hk.2.2.1
 have z1:lZ p_.Next:=ok_len (Ok.agg_at hk.1 2 rfl)
 have z2:lZ p_.Out:=ok_len (Ok.agg_at hk.1 3 rfl)
 unfold evidence_score at h
 conv=>whnf
 obtain ⟨c51,hc51,h⟩:=bind_some h
 refine ⟨_,(sp_evidence_fold p_ s_ t_ c51 (fun _ _ _=>hc51)),?_⟩
 conv=>whnf
 refine Both.mk ?_ ?_<;>intro b52
 replace h:=cond_t b52 h
 conv=>whnf
 cases h
 conv=>whnf
 exact ⟨rfl,rfl⟩
 replace h:=cond_f b52 h
 conv=>whnf
 refine Nf.mk (List.length p_.Next) len_map ?_
 conv=>whnf
 obtain ⟨n825,hc,hk53⟩:=bind_some h
 clear h
 have h:=hc
 clear hc
 refine Cut.mk (mkSt [(10,.im (nI (↑n825:Int)))] [] []) (True) (hT) ?_ (fun hp=>?_)
 conv=>whnf
 refine Loops.iter (fun (s:Nat×(List (List Int×Bool))×Nat)=>evidence_score.s56 p_ c51 s.1 s.2.1 s.2.2) (fun (n1076,y1077,y1078)=>mkSt [(3,.im (.ref (c_api_Part p_))),(8,.im (nL cI c51.1)),(10,.im (nI (↑n1076:Int))),(11,.osl 64 1),(27,.im (nI (↑(List.length p_.Next):Int))),(28,.im (nI (↑y1078:Int)))] [(64,.map (mapV wA wB y1077))] []) (fun (n1076,y1077,y1078)=>lZ c51.1∧True) h (eA [(64,some 24)]) (by rintro ⟨n1076,y1077,y1078⟩;exact ((Holds.avl 8 rfl).and (hT))) ?_
 clear h
 rintro k ⟨n1076,y1077,y1078⟩ o hp h ho1337
 replace h:evidence_score.s56 p_ c51 n1076 y1077 y1078=some o:=h
 unfold evidence_score.s56 at h
 obtain ⟨z1596,_⟩:=hp
 conv=>whnf
 refine Both.mk ?_ ?_<;>intro b1338
 obtain ⟨h,b1338d⟩:=ctd b1338 h
 conv=>whnf
 obtain ⟨e1339,he1339,h⟩:=idxn_some h
 refine ⟨_,⟨(by omega),map_at he1339,rfl⟩,?_⟩
 conv=>whnf
 refine Nf.mk (List.length e1339) len_map ?_
 conv=>whnf
 obtain ⟨⟨n1467,y1468⟩,hc,hk1340⟩:=bind_some h
 clear h
 have h:=hc
 clear hc
 refine Cut.mk (mkSt [(3,.im (.ref (c_api_Part p_))),(8,.im (nL cI c51.1)),(10,.im (nI (↑n1467:Int))),(11,.osl 64 1),(27,.im (nI (↑(List.length p_.Next):Int))),(28,.im (nI (↑y1078:Int)))] [(64,.map (mapV wA wB y1468))] []) (lZ c51.1∧True) ((Holds.avl 8 rfl).and (hT)) ?_ (fun hp=>?_)
 conv=>whnf
 refine Loops.iter (fun (s:Nat×(List (List Int×Bool))×Nat)=>evidence_score.s54 c51 y1078 e1339 s.1 s.2.1 s.2.2) (fun (n1509,y1510,y1511)=>mkSt [(3,.im (.ref (c_api_Part p_))),(8,.im (nL cI c51.1)),(10,.im (nI (↑n1509:Int))),(11,.osl 64 1),(12,.im (nI (↑y1078:Int))),(27,.im (nI (↑(List.length p_.Next):Int))),(28,.im (nI (↑y1078:Int))),(35,.im (nL cI e1339)),(36,.im (nI (↑(List.length e1339):Int))),(37,.im (nI (↑y1511:Int)))] [(64,.map (mapV wA wB y1510))] []) (fun (n1509,y1510,y1511)=>lZ c51.1∧lZ e1339∧True) h (eA [(64,some 64)]) (by rintro ⟨n1509,y1510,y1511⟩;exact ((Holds.avl 8 rfl).and ((Holds.avl 35 rfl).and (hT)))) ?_
 clear h
 rintro k ⟨n1509,y1510,y1511⟩ o hp h ho1552
 replace h:evidence_score.s54 c51 y1078 e1339 n1509 y1510 y1511=some o:=h
 unfold evidence_score.s54 at h
 obtain ⟨z1593,z1594,_⟩:=hp
 conv=>whnf
 refine Both.mk ?_ ?_<;>intro b1553
 obtain ⟨h,b1553d⟩:=ctd b1553 h
 conv=>whnf
 obtain ⟨⟨n1572,y1573⟩,hc,hk1554⟩:=bind_some h
 clear h
 have h:=hc
 clear hc
 refine Cut.mk (mkSt [(3,.im (.ref (c_api_Part p_))),(8,.im (nL cI c51.1)),(10,.im (nI (↑n1572:Int))),(11,.osl 64 1),(12,.im (nI (↑y1078:Int))),(27,.im (nI (↑(List.length p_.Next):Int))),(28,.im (nI (↑y1078:Int))),(35,.im (nL cI e1339)),(36,.im (nI (↑(List.length e1339):Int))),(37,.im (nI (↑y1511:Int)))] [(64,.map (mapV wA wB y1573))] []) (lZ c51.1∧lZ e1339∧True) ((Holds.avl 8 rfl).and ((Holds.avl 35 rfl).and (hT))) ?_ (fun hp=>?_)
 conv=>whnf
 obtain ⟨e1574,he1574,h⟩:=idxn_some h
 refine ⟨_,⟨(by omega),map_at he1574,rfl⟩,?_⟩
 conv=>whnf
 refine Both.mk ?_ ?_<;>intro b1575
 obtain ⟨h,b1575d⟩:=ctd b1575 h
 conv=>whnf
 cases h
 exact Join.mk (eA [(64,some 64)])
 obtain ⟨h,b1575d⟩:=cfd b1575 h
 conv=>whnf
 obtain ⟨n1582,hc,hk1577⟩:=bind_some h
 clear h
 have h:=hc
 clear hc
 refine Cut.mk (mkSt [(3,.im (.ref (c_api_Part p_))),(8,.im (nL cI c51.1)),(10,.im (nI (↑n1582:Int))),(11,.osl 64 1),(12,.im (nI (↑y1078:Int))),(13,.im (nI (↑y1511:Int))),(27,.im (nI (↑(List.length p_.Next):Int))),(28,.im (nI (↑y1078:Int))),(35,.im (nL cI e1339)),(36,.im (nI (↑(List.length e1339):Int))),(37,.im (nI (↑y1511:Int)))] [(64,.map (mapV wA wB y1510))] []) (lZ c51.1∧lZ e1339∧True) ((Holds.avl 8 rfl).and ((Holds.avl 35 rfl).and (hT))) ?_ (fun hp=>?_)
 conv=>whnf
 obtain ⟨e1583,he1583,h⟩:=idxn_some h
 refine ⟨_,⟨(by omega),map_at he1583,rfl⟩,?_⟩
 conv=>whnf
 obtain ⟨c1584,h⟩:=chk_some h
 refine Side.mk rfl ?_
 conv=>whnf
 refine ⟨[e1583,(↑y1511:Int)],_,keys_arr (g:=wB) rfl ⟨rfl,c1584⟩,?_⟩
 conv=>whnf
 refine Nf.mk (wB ((mget [e1583,(↑y1511:Int)] y1510).getD false)) ((getD_map rfl _).trans (congrArg (Option.getD · _) (get_arr _ _ _).symm)) ?_
 conv=>whnf
 refine Both.mk ?_ ?_<;>intro b1585
 replace h:=cond_t b1585 h
 conv=>whnf
 obtain ⟨c1586,h⟩:=chk_some h
 refine Arith.mk c1586 ?_
 conv=>whnf
 cases h
 exact Join.mk (eA [(64,some 64)])
 replace h:=cond_f b1585 h
 conv=>whnf
 cases h
 exact Join.mk (eA [(64,some 64)])
 replace h:=hk1577
 obtain ⟨z1587,z1588,_⟩:=hp
 conv=>whnf
 obtain ⟨e1589,he1589,h⟩:=idxn_some h
 refine ⟨_,⟨(by omega),map_at he1589,rfl⟩,?_⟩
 conv=>whnf
 obtain ⟨c1590,h⟩:=chk_some h
 refine Side.mk rfl ?_
 conv=>whnf
 refine ⟨[e1589,(↑y1511:Int)],_,keys_arr (g:=wB) rfl ⟨rfl,c1590⟩,?_⟩
 conv=>whnf
 refine Nf.mk (mapV wA wB (mset [e1589,(↑y1511:Int)] true y1510)) (by rw [set_arr];exact mapA_set _ _) ?_
 conv=>whnf
 cases h
 exact Join.mk (eA [(64,some 64)])
 replace h:evidence_score.k53 y1511 n1572 y1573=some _:=hk1554
 unfold evidence_score.k53 at h
 obtain ⟨z1591,z1592,_⟩:=hp
 conv=>whnf
 refine Arith.mk (by show inR _;unfold inR;omega) ?_
 conv=>whnf
 cases h
 exact Nxt.mk _ ho1552 (eA [(64,some 64)])
 obtain ⟨h,b1553d⟩:=cfd b1553 h
 conv=>whnf
 cases h
 have ho1552:_=_:=ho1552
 cases ho1552
 exact Join.mk (eA [(64,some 64)])
 replace h:evidence_score.k55 y1078 n1467 y1468=some _:=hk1340
 unfold evidence_score.k55 at h
 obtain ⟨z1595,_⟩:=hp
 conv=>whnf
 refine Arith.mk (by show inR _;unfold inR;omega) ?_
 conv=>whnf
 cases h
 exact Nxt.mk _ ho1337 (eA [(64,some 64)])
 obtain ⟨h,b1338d⟩:=cfd b1338 h
 conv=>whnf
 cases h
 have ho1337:_=_:=ho1337
 cases ho1337
 exact Join.mk (eA [])
 replace h:=hk53
 conv=>whnf
 cases h
 conv=>whnf
 exact ⟨rfl,rfl⟩
theorem sp_evidence_Score (p_:T_api_Part) (s_:Int) (t_:Int) (r:Int×Bool×Int) (h:Ok (.agg (c_api_Part p_))→Ok (nI s_)→Ok (nI t_)→evidence_Score p_ s_ t_=some r):Sp Tryz.prog 10 [.im (.agg (c_api_Part p_)),.im (nI s_),.im (nI t_)] (.tup [nI r.1,nB r.2.1,nI r.2.2]):=by
 refine sp_of rfl [700003] rfl rfl rfl (Nat.le_of_ble_eq_true rfl) rfl fun hk=>?_
 replace h:=h hk.1 hk.2.1 hk.2.2.1
 have z1:lZ p_.Next:=ok_len (Ok.agg_at hk.1 2 rfl)
 have z2:lZ p_.Out:=ok_len (Ok.agg_at hk.1 3 rfl)
 unfold evidence_Score at h
 conv=>whnf
 obtain ⟨c51,hc51,h⟩:=bind_some h
 refine ⟨_,(sp_merge_Valid p_ c51 (fun _=>hc51)),?_⟩
 conv=>whnf
 refine Both.mk ?_ ?_<;>intro b52
 obtain ⟨h,b52d⟩:=ctd b52 h
 conv=>whnf
 cases h
 conv=>whnf
 exact ⟨rfl,rfl⟩
 obtain ⟨h,b52d⟩:=cfd b52 h
 conv=>whnf
 obtain ⟨y56,hc,hk54⟩:=bind_some h
 clear h
 have h:=hc
 clear hc
 refine Cut.mk (mkSt [(1,.im (nI s_)),(2,.im (nI t_)),(3,.im (.ref (c_api_Part p_))),(29,.im (nB y56))] [] []) (True) (hT) ?_ (fun hp=>?_)
 conv=>whnf
 refine Both.mk ?_ ?_<;>intro b57
 replace b57:=beq_ff b57
 obtain ⟨h,b57d⟩:=cfd b57 h
 conv=>whnf
 iterate 5 (refine Both.yes (ff_beq b57) ?_;(conv=>whnf))
 refine Nf.mk (List.length p_.Next) len_map ?_
 conv=>whnf
 refine Both.yes (ff_beq b57) ?_
 conv=>whnf
 refine Both.no b57 ?_
 conv=>whnf
 cases h
 exact Join.mk (eA [])
 replace b57:=beq_ft b57
 obtain ⟨h,b57d⟩:=ctd b57 h
 conv=>whnf
 iterate 6 (refine Both.no (tf_beq b57) ?_;(conv=>whnf))
 refine Both.yes b57 ?_
 conv=>whnf
 cases h
 exact Join.mk (eA [])
 replace h:=hk54
 conv=>whnf
 refine Both.mk ?_ ?_<;>intro b58
 replace h:=cond_t b58 h
 conv=>whnf
 cases h
 conv=>whnf
 exact ⟨rfl,rfl⟩
 replace h:=cond_f b58 h
 conv=>whnf
 obtain ⟨c59,hc59,h⟩:=bind_some h
 refine ⟨_,(sp_evidence_score p_ s_ t_ c59 (fun _ _ _=>hc59)),?_⟩
 conv=>whnf
 cases h
 conv=>whnf
 exact ⟨rfl,rfl⟩
theorem sp_evidence_blues (p_:T_api_Part) (red_:List Bool) (r:List Int) (h:Ok (.agg (c_api_Part p_))→Ok (nL cB red_)→evidence_blues p_ red_=some r):Sp Tryz.prog 46 [.im (.agg (c_api_Part p_)),.im (nL cB red_)] (.row 3 1 (List.map cI r)):=by
 refine sp_of rfl [700002] rfl rfl rfl (Nat.le_of_ble_eq_true rfl) rfl fun hk=>?_
 replace h:=h hk.1 hk.2.1
 have z1:lZ p_.Next:=ok_len (Ok.agg_at hk.1 2 rfl)
 have z2:lZ p_.Out:=ok_len (Ok.agg_at hk.1 3 rfl)
 have z3:lZ red_:=ok_len hk.2.1
 unfold evidence_blues at h
 conv=>whnf
 refine Nf.mk (List.length red_) len_map ?_
 conv=>whnf
 obtain ⟨c51,h⟩:=chk_some h
 refine Side.mk c51 ?_
 conv=>whnf
 refine Nf.mk (List.map cB (List.replicate (List.length red_) false)) (rep_map (c:=cB) (z:=false) (n:=(List.length red_)) rfl rfl) ?_
 conv=>whnf
 refine Nf.mk (List.length red_) len_map ?_
 conv=>whnf
 obtain ⟨y403,hc,hk52⟩:=bind_some h
 clear h
 have h:=hc
 clear hc
 refine Cut.mk (mkSt [(5,.osl 64 1)] [(64,.row 4 1 (List.map cB y403))] []) (lZ y403∧True) ((Holds.kdl 64 rfl).and (hT)) ?_ (fun hp=>?_)
 conv=>whnf
 refine Loops.iter (fun (s:List Bool×Nat)=>evidence_blues.s14 p_ red_ s.1 s.2) (fun (y519,y520)=>mkSt [(1,.im (nL cB red_)),(2,.im (.ref (c_api_Part p_))),(5,.osl 64 1),(16,.im (nL cB red_)),(17,.im (nI (↑(List.length red_):Int))),(18,.im (nI (↑y520:Int)))] [(64,.row 4 1 (List.map cB y519))] []) (fun (y519,y520)=>lZ red_∧lZ y519∧True) h (eA [(64,some 15)]) (by rintro ⟨y519,y520⟩;exact ((Holds.avl 1 rfl).and ((Holds.kdl 64 rfl).and (hT)))) ?_
 clear h
 rintro k ⟨y519,y520⟩ o hp h ho636
 replace h:evidence_blues.s14 p_ red_ y519 y520=some o:=h
 unfold evidence_blues.s14 at h
 obtain ⟨z752,z753,_⟩:=hp
 conv=>whnf
 refine Both.mk ?_ ?_<;>intro b637
 obtain ⟨h,b637d⟩:=ctd b637 h
 conv=>whnf
 obtain ⟨e638,he638,h⟩:=idxn_some h
 refine ⟨_,⟨(by omega),map_at he638,rfl⟩,?_⟩
 conv=>whnf
 obtain ⟨e639,he639,h⟩:=idxn_some h
 refine ⟨_,⟨(by omega),map_at he639,rfl⟩,?_⟩
 conv=>whnf
 refine Nf.mk (List.length e639) len_map ?_
 conv=>whnf
 obtain ⟨y695,hc,hk640⟩:=bind_some h
 clear h
 have h:=hc
 clear hc
 refine Cut.mk (mkSt [(1,.im (nL cB red_)),(2,.im (.ref (c_api_Part p_))),(5,.osl 64 1),(16,.im (nL cB red_)),(17,.im (nI (↑(List.length red_):Int))),(18,.im (nI (↑y520:Int)))] [(64,.row 4 1 (List.map cB y695))] []) (lZ red_∧lZ y695∧True) ((Holds.avl 1 rfl).and ((Holds.kdl 64 rfl).and (hT))) ?_ (fun hp=>?_)
 conv=>whnf
 refine Loops.iter (fun (s:List Bool×Nat)=>evidence_blues.s13 red_ e638 e639 s.1 s.2) (fun (y712,y713)=>mkSt [(1,.im (nL cB red_)),(2,.im (.ref (c_api_Part p_))),(5,.osl 64 1),(7,.im (nB e638)),(16,.im (nL cB red_)),(17,.im (nI (↑(List.length red_):Int))),(18,.im (nI (↑y520:Int))),(27,.im (nL cI e639)),(28,.im (nI (↑(List.length e639):Int))),(29,.im (nI (↑y713:Int)))] [(64,.row 4 1 (List.map cB y712))] []) (fun (y712,y713)=>lZ red_∧lZ e639∧lZ y712∧True) h (eA [(64,some 64)]) (by rintro ⟨y712,y713⟩;exact ((Holds.avl 1 rfl).and ((Holds.avl 27 rfl).and ((Holds.kdl 64 rfl).and (hT))))) ?_
 clear h
 rintro k ⟨y712,y713⟩ o hp h ho730
 replace h:evidence_blues.s13 red_ e638 e639 y712 y713=some o:=h
 unfold evidence_blues.s13 at h
 obtain ⟨z747,z748,z749,_⟩:=hp
 conv=>whnf
 refine Both.mk ?_ ?_<;>intro b731
 obtain ⟨h,b731d⟩:=ctd b731 h
 conv=>whnf
 obtain ⟨e732,he732,h⟩:=idxn_some h
 refine ⟨_,⟨(by omega),map_at he732,rfl⟩,?_⟩
 conv=>whnf
 obtain ⟨y738,hc,hk734⟩:=bind_some h
 clear h
 have h:=hc
 clear hc
 refine Cut.mk (mkSt [(1,.im (nL cB red_)),(2,.im (.ref (c_api_Part p_))),(5,.osl 64 1),(7,.im (nB e638)),(9,.im (nI e732)),(16,.im (nL cB red_)),(17,.im (nI (↑(List.length red_):Int))),(18,.im (nI (↑y520:Int))),(27,.im (nL cI e639)),(28,.im (nI (↑(List.length e639):Int))),(29,.im (nI (↑y713:Int))),(44,.im (nB y738))] [(64,.row 4 1 (List.map cB y712))] []) (lZ red_∧lZ e639∧lZ y712∧True) ((Holds.avl 1 rfl).and ((Holds.avl 27 rfl).and ((Holds.kdl 64 rfl).and (hT)))) ?_ (fun hp=>?_)
 conv=>whnf
 refine Both.mk ?_ ?_<;>intro b739
 replace b739:=beq_tt b739
 replace h:=cond_t b739 h
 conv=>whnf
 refine Both.yes (tt_beq b739) ?_
 conv=>whnf
 refine Both.yes b739 ?_
 conv=>whnf
 refine Both.mk ?_ ?_<;>intro b740
 replace b740:=beq_tt b740
 obtain ⟨h,b740d⟩:=ctd b740 h
 conv=>whnf
 iterate 2 (refine Both.yes (tt_beq b740) ?_;(conv=>whnf))
 obtain ⟨e741,he741z,he741,h⟩:=idx_some h
 refine ⟨_,⟨he741z,map_at he741,rfl⟩,?_⟩
 conv=>whnf
 iterate 2 (refine Both.yes (tt_beq b740) ?_;(conv=>whnf))
 refine Both.yes b740 ?_
 conv=>whnf
 cases h
 exact Join.mk (eA [(64,some 64)])
 replace b740:=beq_tf b740
 obtain ⟨h,b740d⟩:=cfd b740 h
 conv=>whnf
 iterate 4 (refine Both.no (ft_beq b740) ?_;(conv=>whnf))
 refine Both.no b740 ?_
 conv=>whnf
 cases h
 exact Join.mk (eA [(64,some 64)])
 replace b739:=beq_tf b739
 replace h:=cond_f b739 h
 conv=>whnf
 refine Both.no (ft_beq b739) ?_
 conv=>whnf
 refine Both.no b739 ?_
 conv=>whnf
 iterate 6 (refine Both.no rfl ?_;(conv=>whnf))
 cases h
 exact Join.mk (eA [(64,some 64)])
 replace h:=hk734
 obtain ⟨z742,z743,z744,_⟩:=hp
 conv=>whnf
 refine Both.mk ?_ ?_<;>intro b745
 replace h:=cond_t b745 h
 conv=>whnf
 obtain ⟨e746,he746z,he746,h⟩:=idx_some h
 refine Side.mk ⟨he746z,rfl,map_lt he746⟩ ?_
 conv=>whnf
 refine Side.mk ⟨rfl,trivial⟩ ?_
 conv=>whnf
 refine ⟨_,map_at he746,?_⟩
 conv=>whnf
 refine Nf.mk (List.map cB (List.set y712 e732.toNat true)) (set_map rfl) ?_
 conv=>whnf
 refine Arith.mk (by show inR _;unfold inR;omega) ?_
 conv=>whnf
 cases h
 exact Nxt.mk _ ho730 (eA [(64,some 64)])
 replace h:=cond_f b745 h
 conv=>whnf
 refine Arith.mk (by show inR _;unfold inR;omega) ?_
 conv=>whnf
 cases h
 exact Nxt.mk _ ho730 (eA [(64,some 64)])
 obtain ⟨h,b731d⟩:=cfd b731 h
 conv=>whnf
 cases h
 have ho730:_=_:=ho730
 cases ho730
 exact Join.mk (eA [(64,some 64)])
 replace h:=hk640
 obtain ⟨z750,z751,_⟩:=hp
 conv=>whnf
 refine Arith.mk (by show inR _;unfold inR;omega) ?_
 conv=>whnf
 cases h
 exact Nxt.mk _ ho636 (eA [(64,some 64)])
 obtain ⟨h,b637d⟩:=cfd b637 h
 conv=>whnf
 cases h
 have ho636:_=_:=ho636
 cases ho636
 exact Join.mk (eA [(64,some 64)])
 replace h:=hk52
 obtain ⟨z754,_⟩:=hp
 conv=>whnf
 refine Side.mk rfl ?_
 conv=>whnf
 refine Nf.mk (List.length y403) len_map ?_
 conv=>whnf
 obtain ⟨y772,hc,hk755⟩:=bind_some h
 clear h
 have h:=hc
 clear hc
 refine Cut.mk (mkSt [(10,.osl 64 1)] [(64,.row 3 1 (List.map cI y772))] []) (lZ y772∧True) ((Holds.kdl 64 rfl).and (hT)) ?_ (fun hp=>?_)
 conv=>whnf
 refine Loops.iter (fun (s:List Int×Nat)=>evidence_blues.s16 y403 s.1 s.2) (fun (y776,y777)=>mkSt [(10,.osl 64 1),(50,.osl 65 1),(51,.im (nI (↑(List.length y403):Int))),(52,.im (nI (↑y777:Int)))] [(64,.row 3 1 (List.map cI y776)),(65,.row 4 1 (List.map cB y403))] []) (fun (y776,y777)=>lZ y776∧lZ y403∧True) h (eA [(64,none),(65,some 64)]) (by rintro ⟨y776,y777⟩;exact ((Holds.kdl 64 rfl).and ((Holds.kdl 65 rfl).and (hT)))) ?_
 clear h
 rintro k ⟨y776,y777⟩ o hp h ho782
 replace h:evidence_blues.s16 y403 y776 y777=some o:=h
 unfold evidence_blues.s16 at h
 obtain ⟨z787,z788,_⟩:=hp
 conv=>whnf
 refine Both.mk ?_ ?_<;>intro b783
 obtain ⟨h,b783d⟩:=ctd b783 h
 conv=>whnf
 obtain ⟨e784,he784,h⟩:=idxn_some h
 refine Side.mk ⟨(by omega),rfl,map_lt he784⟩ ?_
 conv=>whnf
 refine ⟨_,_,⟨rfl,map_at he784,rfl,rfl⟩,?_⟩
 conv=>whnf
 refine Both.mk ?_ ?_<;>intro b785
 replace h:=cond_t b785 h
 conv=>whnf
 obtain ⟨c786,h⟩:=chk_some h
 refine Side.mk ⟨rfl,map_len (l:=[(↑y777:Int)]) (c:=cI) fun _=>rfl,show capOk _ 8 by simpa only [List.length_map,List.length_cons,List.length_nil,Nat.zero_add] using c786⟩ ?_
 conv=>whnf
 refine Nf.mk (List.map cI (y776++[(↑y777:Int)])) (app_map (l:=y776) (m:=[(↑y777:Int)]) (c:=cI)) ?_
 conv=>whnf
 refine Arith.mk (by show inR _;unfold inR;omega) ?_
 conv=>whnf
 cases h
 exact Nxt.mk _ ho782 (eA [(64,some 64),(65,some 65)])
 replace h:=cond_f b785 h
 conv=>whnf
 refine Arith.mk (by show inR _;unfold inR;omega) ?_
 conv=>whnf
 cases h
 exact Nxt.mk _ ho782 (eA [(64,some 64),(65,some 65)])
 obtain ⟨h,b783d⟩:=cfd b783 h
 conv=>whnf
 cases h
 have ho782:_=_:=ho782
 cases ho782
 exact Join.mk (eA [(64,some 64)])
 replace h:=hk755
 obtain ⟨z789,_⟩:=hp
 conv=>whnf
 cases h
 conv=>whnf
 exact Side.mk ⟨rfl,trivial⟩ ⟨rfl,rfl⟩
theorem sp_evidence_best (p_:T_api_Part) (red_:List Bool) (blue_:Int) (r:T_evidence_candidate) (h:Ok (.agg (c_api_Part p_))→Ok (nL cB red_)→Ok (nI blue_)→evidence_best p_ red_ blue_=some r):Sp Tryz.prog 86 [.im (.agg (c_api_Part p_)),.im (nL cB red_),.im (nI blue_)] (.im (.agg (c_evidence_candidate r))):=by
 refine sp_of rfl [700003] rfl rfl rfl (Nat.le_of_ble_eq_true rfl) rfl fun hk=>?_
 replace h:=h hk.1 hk.2.1 hk.2.2.1
 have z1:lZ p_.Next:=ok_len (Ok.agg_at hk.1 2 rfl)
 have z2:lZ p_.Out:=ok_len (Ok.agg_at hk.1 3 rfl)
 have z3:lZ red_:=ok_len hk.2.1
 unfold evidence_best at h
 conv=>whnf
 refine Nf.mk (List.length red_) len_map ?_
 conv=>whnf
 obtain ⟨⟨y180,y181,y182⟩,hc,hk51⟩:=bind_some h
 clear h
 have h:=hc
 clear hc
 refine Cut.mk (mkSt [(6,.own 64 1 0),(7,.own 65 1 0)] [(64,.box 84 3),(65,.box 84 3)] [(64,0,.im (nI 0)),(64,1,.im (nI 0)),(64,2,.im (nI 0)),(65,0,.im (nI y180)),(65,1,.im (nI y181)),(65,2,.im (nI (↑y182:Int)))]) (True) (hT) ?_ (fun hp=>?_)
 conv=>whnf
 refine Loops.iter (fun (s:Int×Int×Nat×Nat)=>evidence_best.s10 p_ red_ blue_ s.1 s.2.1 s.2.2.1 s.2.2.2) (fun (y245,y246,y247,y248)=>mkSt [(2,.im (nI blue_)),(3,.im (.ref (c_api_Part p_))),(6,.own 64 1 0),(7,.own 65 1 0),(12,.im (nL cB red_)),(13,.im (nI (↑(List.length red_):Int))),(14,.im (nI (↑y248:Int)))] [(64,.box 84 3),(65,.box 84 3)] [(64,0,.im (nI 0)),(64,1,.im (nI 0)),(64,2,.im (nI 0)),(65,0,.im (nI y245)),(65,1,.im (nI y246)),(65,2,.im (nI (↑y247:Int)))]) (fun (y245,y246,y247,y248)=>lZ red_∧True) h (eA [(64,some 6),(65,some 7)]) (by rintro ⟨y245,y246,y247,y248⟩;exact ((Holds.avl 12 rfl).and (hT))) ?_
 clear h
 rintro k ⟨y245,y246,y247,y248⟩ o hp h ho279
 replace h:evidence_best.s10 p_ red_ blue_ y245 y246 y247 y248=some o:=h
 unfold evidence_best.s10 at h
 obtain ⟨z310,_⟩:=hp
 conv=>whnf
 refine Both.mk ?_ ?_<;>intro b280
 obtain ⟨h,b280d⟩:=ctd b280 h
 conv=>whnf
 obtain ⟨⟨y294,y295,y296⟩,hc,hk281⟩:=bind_some h
 clear h
 have h:=hc
 clear hc
 refine Cut.mk (mkSt [(2,.im (nI blue_)),(3,.im (.ref (c_api_Part p_))),(6,.own 64 1 0),(7,.own 65 1 0),(12,.im (nL cB red_)),(13,.im (nI (↑(List.length red_):Int))),(14,.im (nI (↑y248:Int)))] [(64,.box 84 3),(65,.box 84 3)] [(64,0,.im (nI 0)),(64,1,.im (nI 0)),(64,2,.im (nI 0)),(65,0,.im (nI y294)),(65,1,.im (nI y295)),(65,2,.im (nI (↑y296:Int)))]) (lZ red_∧True) ((Holds.avl 12 rfl).and (hT)) ?_ (fun hp=>?_)
 conv=>whnf
 obtain ⟨e297,he297,h⟩:=idxn_some h
 refine ⟨_,⟨(by omega),map_at he297,rfl⟩,?_⟩
 conv=>whnf
 refine Both.mk ?_ ?_<;>intro b298
 replace h:=cond_t b298 h
 conv=>whnf
 cases h
 exact Join.mk (eA [(64,some 64),(65,some 65)])
 replace h:=cond_f b298 h
 conv=>whnf
 obtain ⟨c299,hc299,h⟩:=bind_some h
 refine ⟨_,(sp_evidence_score p_ (↑y248:Int) blue_ c299 (fun _ _ _=>hc299)),?_⟩
 conv=>whnf
 obtain ⟨y304,hc,hk301⟩:=bind_some h
 clear h
 have h:=hc
 clear hc
 refine Cut.mk (mkSt [(2,.im (nI blue_)),(3,.im (.ref (c_api_Part p_))),(6,.own 64 1 0),(7,.own 65 1 0),(8,.im (nI (↑y248:Int))),(10,.im (nI c299.1)),(12,.im (nL cB red_)),(13,.im (nI (↑(List.length red_):Int))),(14,.im (nI (↑y248:Int))),(39,.im (nB y304))] [(64,.box 84 3),(65,.box 84 3)] [(64,0,.im (nI 0)),(64,1,.im (nI 0)),(64,2,.im (nI 0)),(65,0,.im (nI y245)),(65,1,.im (nI y246)),(65,2,.im (nI (↑y247:Int)))]) (lZ red_∧True) ((Holds.avl 12 rfl).and (hT)) ?_ (fun hp=>?_)
 conv=>whnf
 refine Both.mk ?_ ?_<;>intro b305
 replace b305:=beq_tt b305
 replace h:=cond_t b305 h
 conv=>whnf
 refine Side.mk rfl ?_
 conv=>whnf
 iterate 2 (refine Both.yes (tt_beq b305) ?_;(conv=>whnf))
 refine Side.mk (by kernel_rfl) ?_
 conv=>whnf
 refine Nf.mk (decide (y245=0)&&(decide (y246=0)&&(decide ((↑y247:Int)=0)&&true))) rfl ?_
 conv=>whnf
 refine Both.yes (tt_beq b305) ?_
 conv=>whnf
 refine Both.mk ?_ ?_<;>intro b306
 replace b306:=beq_ff b306
 replace h:=cond_f b306 h
 conv=>whnf
 refine Both.yes (ff_beq b306) ?_
 conv=>whnf
 refine Side.mk rfl ?_
 conv=>whnf
 refine Both.yes (ff_beq b306) ?_
 conv=>whnf
 refine Side.mk rfl ?_
 conv=>whnf
 refine Both.yes (ff_beq b306) ?_
 conv=>whnf
 refine Both.yes (tt_beq b305) ?_
 conv=>whnf
 refine Both.no b306 ?_
 conv=>whnf
 refine Both.yes b305 ?_
 conv=>whnf
 cases h
 exact Join.mk (eA [(64,some 64),(65,some 65)])
 replace b306:=beq_ft b306
 replace h:=cond_t b306 h
 conv=>whnf
 iterate 3 (refine Both.no (tf_beq b306) ?_;(conv=>whnf))
 refine Both.yes (tt_beq b305) ?_
 conv=>whnf
 refine Both.yes b306 ?_
 conv=>whnf
 refine Both.yes b305 ?_
 conv=>whnf
 cases h
 exact Join.mk (eA [(64,some 64),(65,some 65)])
 replace b305:=beq_tf b305
 replace h:=cond_f b305 h
 conv=>whnf
 iterate 4 (refine Both.no (ft_beq b305) ?_;(conv=>whnf))
 refine Both.no b305 ?_
 conv=>whnf
 cases h
 exact Join.mk (eA [(64,some 64),(65,some 65)])
 replace h:=hk301
 obtain ⟨z307,_⟩:=hp
 conv=>whnf
 refine Both.mk ?_ ?_<;>intro b308
 replace h:=cond_t b308 h
 conv=>whnf
 refine Side.mk rfl ?_
 conv=>whnf
 cases h
 exact Join.mk (eA [(64,some 64),(65,some 65)])
 replace h:=cond_f b308 h
 conv=>whnf
 cases h
 exact Join.mk (eA [(64,some 64),(65,some 65)])
 replace h:evidence_best.k9 y248 y294 y295 y296=some _:=hk281
 unfold evidence_best.k9 at h
 obtain ⟨z309,_⟩:=hp
 conv=>whnf
 refine Arith.mk (by show inR _;unfold inR;omega) ?_
 conv=>whnf
 cases h
 exact Nxt.mk _ ho279 (eA [(64,some 64),(65,some 65)])
 obtain ⟨h,b280d⟩:=cfd b280 h
 conv=>whnf
 cases h
 have ho279:_=_:=ho279
 cases ho279
 exact Join.mk (eA [(64,some 64),(65,some 65)])
 replace h:evidence_best.k11 y180 y181 y182=some _:=hk51
 unfold evidence_best.k11 at h
 conv=>whnf
 refine Side.mk rfl ?_
 conv=>whnf
 refine Side.mk rfl ?_
 conv=>whnf
 cases h
 conv=>whnf
 refine Side.mk ⟨rfl,trivial⟩ ?_
 conv=>whnf
 exact ⟨rfl,rfl⟩
theorem sp_evidence_choose (p_:T_api_Part) (red_:List Bool) (l_:List Int) (r:T_evidence_candidate×Int) (h:Ok (.agg (c_api_Part p_))→Ok (nL cB red_)→Ok (nL cI l_)→evidence_choose p_ red_ l_=some r):Sp Tryz.prog 47 [.im (.agg (c_api_Part p_)),.im (nL cB red_),.im (nL cI l_)] (.tup [.agg (c_evidence_candidate r.1),nI r.2]):=by
 refine sp_of rfl [700003] rfl rfl rfl (Nat.le_of_ble_eq_true rfl) rfl fun hk=>?_
 replace h:=h hk.1 hk.2.1 hk.2.2.1
 have z1:lZ p_.Next:=ok_len (Ok.agg_at hk.1 2 rfl)
 have z2:lZ p_.Out:=ok_len (Ok.agg_at hk.1 3 rfl)
 have z3:lZ red_:=ok_len hk.2.1
 have z4:lZ l_:=ok_len hk.2.2.1
 unfold evidence_choose at h
 conv=>whnf
 refine Nf.mk (List.length l_) len_map ?_
 conv=>whnf
 obtain ⟨oc,hc,hk51⟩:=bind_some h
 clear h
 have h:=hc
 clear hc
 refine Cut.mkS oc (Y:=Int×Int×Int) (fun (y95,y96,y97)=>mkSt [(6,.own 64 1 0),(8,.own 65 1 0)] [(64,.box 84 3),(65,.box 84 3)] [(64,0,.im (nI 0)),(64,1,.im (nI 0)),(64,2,.im (nI 0)),(65,0,.im (nI y95)),(65,1,.im (nI y96)),(65,2,.im (nI y97))]) (fun (y95,y96,y97)=>True) (by rintro ⟨y95,y96,y97⟩;exact (hT)) ?_ ?_
 conv=>whnf
 refine Loops.iter (fun (s:Int×Int×Int×Nat)=>evidence_choose.s2 p_ red_ l_ s.1 s.2.1 s.2.2.1 s.2.2.2) (fun (y110,y111,y112,y113)=>mkSt [(1,.im (nL cB red_)),(3,.im (.ref (c_api_Part p_))),(6,.own 64 1 0),(8,.own 65 1 0),(12,.im (nL cI l_)),(13,.im (nI (↑(List.length l_):Int))),(14,.im (nI (↑y113:Int)))] [(64,.box 84 3),(65,.box 84 3)] [(64,0,.im (nI 0)),(64,1,.im (nI 0)),(64,2,.im (nI 0)),(65,0,.im (nI y110)),(65,1,.im (nI y111)),(65,2,.im (nI y112))]) (fun (y110,y111,y112,y113)=>lZ red_∧lZ l_∧True) h (eA [(64,some 6),(65,some 8)]) (by rintro ⟨y110,y111,y112,y113⟩;exact ((Holds.avl 1 rfl).and ((Holds.avl 12 rfl).and (hT)))) ?_
 clear h
 rintro k ⟨y110,y111,y112,y113⟩ o hp h ho126
 replace h:evidence_choose.s2 p_ red_ l_ y110 y111 y112 y113=some o:=h
 unfold evidence_choose.s2 at h
 obtain ⟨z139,z140,_⟩:=hp
 conv=>whnf
 refine Both.mk ?_ ?_<;>intro b127
 obtain ⟨h,b127d⟩:=ctd b127 h
 conv=>whnf
 obtain ⟨e128,he128,h⟩:=idxn_some h
 refine ⟨_,⟨(by omega),map_at he128,rfl⟩,?_⟩
 conv=>whnf
 obtain ⟨c129,hc129,h⟩:=bind_some h
 refine ⟨_,(sp_evidence_best p_ red_ e128 c129 (fun _ _ _=>hc129)),?_⟩
 conv=>whnf
 refine Side.mk rfl ?_
 conv=>whnf
 refine Side.mk rfl ?_
 conv=>whnf
 refine Side.mk (by kernel_rfl) ?_
 conv=>whnf
 refine Nf.mk (decide (c129.score=0)&&(decide (c129.blue=0)&&(decide (c129.red=0)&&true))) rfl ?_
 conv=>whnf
 refine Both.mk ?_ ?_<;>intro b130
 replace h:=cond_t b130 h
 conv=>whnf
 refine Side.mk rfl ?_
 conv=>whnf
 refine Side.mk rfl ?_
 conv=>whnf
 cases h
 have ho126:_=_:=ho126
 cases ho126
 replace h:some _=some _:=hk51
 cases h
 conv=>whnf
 refine Side.mk ⟨rfl,trivial⟩ ?_
 conv=>whnf
 exact ⟨rfl,rfl⟩
 replace h:=cond_f b130 h
 conv=>whnf
 obtain ⟨y134,hc,hk132⟩:=bind_some h
 clear h
 have h:=hc
 clear hc
 refine Cut.mk (mkSt [(1,.im (nL cB red_)),(3,.im (.ref (c_api_Part p_))),(6,.own 64 1 0),(8,.own 65 1 0),(11,.own 66 1 0),(12,.im (nL cI l_)),(13,.im (nI (↑(List.length l_):Int))),(14,.im (nI (↑y113:Int))),(36,.im (nB y134))] [(64,.box 84 3),(65,.box 84 3),(66,.box 84 3)] [(64,0,.im (nI 0)),(64,1,.im (nI 0)),(64,2,.im (nI 0)),(65,0,.im (nI y110)),(65,1,.im (nI y111)),(65,2,.im (nI y112)),(66,0,.im (nI c129.score)),(66,1,.im (nI c129.blue)),(66,2,.im (nI c129.red))]) (lZ red_∧lZ l_∧True) ((Holds.avl 1 rfl).and ((Holds.avl 12 rfl).and (hT))) ?_ (fun hp=>?_)
 conv=>whnf
 refine Side.mk rfl ?_
 conv=>whnf
 refine Side.mk (by kernel_rfl) ?_
 conv=>whnf
 refine Nf.mk (decide (y110=0)&&(decide (y111=0)&&(decide (y112=0)&&true))) rfl ?_
 conv=>whnf
 refine Both.mk ?_ ?_<;>intro b135
 replace b135:=beq_ff b135
 replace h:=cond_f b135 h
 conv=>whnf
 refine Side.mk rfl ?_
 conv=>whnf
 refine Both.yes (ff_beq b135) ?_
 conv=>whnf
 refine Side.mk rfl ?_
 conv=>whnf
 refine Both.yes (ff_beq b135) ?_
 conv=>whnf
 refine Side.mk rfl ?_
 conv=>whnf
 refine Both.yes (ff_beq b135) ?_
 conv=>whnf
 refine Side.mk rfl ?_
 conv=>whnf
 refine Both.yes (ff_beq b135) ?_
 conv=>whnf
 refine Both.no b135 ?_
 conv=>whnf
 cases h
 exact Join.mk (eA [(64,some 64),(65,some 65),(66,some 11)])
 replace b135:=beq_ft b135
 replace h:=cond_t b135 h
 conv=>whnf
 iterate 4 (refine Both.no (tf_beq b135) ?_;(conv=>whnf))
 refine Both.yes b135 ?_
 conv=>whnf
 cases h
 exact Join.mk (eA [(64,some 64),(65,some 65),(66,some 11)])
 replace h:=hk132
 obtain ⟨z136,z137,_⟩:=hp
 conv=>whnf
 refine Both.mk ?_ ?_<;>intro b138
 replace h:=cond_t b138 h
 conv=>whnf
 refine Side.mk rfl ?_
 conv=>whnf
 refine Side.mk rfl ?_
 conv=>whnf
 refine Arith.mk (by show inR _;unfold inR;omega) ?_
 conv=>whnf
 cases h
 exact Nxt.mk _ ho126 (eA [(64,some 64),(65,some 65)])
 replace h:=cond_f b138 h
 conv=>whnf
 refine Arith.mk (by show inR _;unfold inR;omega) ?_
 conv=>whnf
 cases h
 exact Nxt.mk _ ho126 (eA [(64,some 64),(65,some 65)])
 obtain ⟨h,b127d⟩:=cfd b127 h
 conv=>whnf
 cases h
 have ho126:_=_:=ho126
 cases ho126
 exact JoinS.mk' _ rfl (eA [(64,some 64),(65,some 65)])
 rintro ⟨y95,y96,y97⟩ rfl hp
 have hx_:=sum_inl hk51
 replace h:evidence_choose.k3 y95 y96 y97=some _:=hx_
 clear hx_
 unfold evidence_choose.k3 at h
 conv=>whnf
 refine Side.mk rfl ?_
 conv=>whnf
 refine Side.mk rfl ?_
 conv=>whnf
 cases h
 conv=>whnf
 refine Side.mk ⟨rfl,trivial⟩ ?_
 conv=>whnf
 exact ⟨rfl,rfl⟩
theorem sp_evidence_follow (p_:T_api_Part) (q_:T_api_Part) (red_:List Bool) (r:List Bool) (h:Ok (.agg (c_api_Part p_))→Ok (.agg (c_api_Part q_))→Ok (nL cB red_)→evidence_follow p_ q_ red_=some r):Sp Tryz.prog 48 [.im (.agg (c_api_Part p_)),.im (.agg (c_api_Part q_)),.im (nL cB red_)] (.row 4 1 (List.map cB r)):=by
 refine sp_of rfl [39,700003,700004] rfl rfl rfl (Nat.le_of_ble_eq_true rfl) rfl fun hk=>?_
 replace h:=h hk.1 hk.2.1 hk.2.2.1
 have z1:lZ p_.Next:=ok_len (Ok.agg_at hk.1 2 rfl)
 have z2:lZ p_.Out:=ok_len (Ok.agg_at hk.1 3 rfl)
 have z3:lZ q_.Next:=ok_len (Ok.agg_at hk.2.1 2 rfl)
 have z4:lZ q_.Out:=ok_len (Ok.agg_at hk.2.1 3 rfl)
 have z5:lZ red_:=ok_len hk.2.2.1
 unfold evidence_follow at h
 conv=>whnf
 refine Nf.mk (List.length p_.Next) len_map ?_
 conv=>whnf
 obtain ⟨c51,h⟩:=chk_some h
 refine Side.mk c51 ?_
 conv=>whnf
 refine Nf.mk (List.map cI (List.replicate (List.length p_.Next) (0:Int))) (rep_map (c:=cI) (z:=0) (n:=(List.length p_.Next)) rfl rfl) ?_
 conv=>whnf
 refine Side.mk rfl ?_
 conv=>whnf
 refine Nf.mk (List.length (List.replicate (List.length p_.Next) (0:Int))) len_map ?_
 conv=>whnf
 obtain ⟨y66,hc,hk52⟩:=bind_some h
 clear h
 have h:=hc
 clear hc
 refine Cut.mk (mkSt [(2,.im (nL cB red_)),(3,.im (.ref (c_api_Part p_))),(4,.im (.ref (c_api_Part q_))),(7,.osl 98 1)] [(98,.row 3 1 (List.map cI y66))] []) (lZ red_∧lZ y66∧True) ((Holds.avl 2 rfl).and ((Holds.kdl 98 rfl).and (hT))) ?_ (fun hp=>?_)
 conv=>whnf
 refine Loops.iter (fun (s:List Int×Nat)=>evidence_follow.s2 p_ s.1 s.2) (fun (y69,y70)=>mkSt [(2,.im (nL cB red_)),(3,.im (.ref (c_api_Part p_))),(4,.im (.ref (c_api_Part q_))),(7,.osl 98 1),(19,.im (nI (↑(List.length (List.replicate (List.length p_.Next) (0:Int))):Int))),(20,.im (nI (↑y70:Int)))] [(98,.row 3 1 (List.map cI y69))] []) (fun (y69,y70)=>lZ red_∧lZ y69∧True) h (eA [(98,some 17)]) (by rintro ⟨y69,y70⟩;exact ((Holds.avl 2 rfl).and ((Holds.kdl 98 rfl).and (hT)))) ?_
 clear h
 rintro k ⟨y69,y70⟩ o hp h ho74
 replace h:evidence_follow.s2 p_ y69 y70=some o:=h
 unfold evidence_follow.s2 at h
 obtain ⟨z78,z79,_⟩:=hp
 conv=>whnf
 refine Both.mk ?_ ?_<;>intro b75
 obtain ⟨h,b75d⟩:=ctd b75 h
 conv=>whnf
 obtain ⟨e76,he76,h⟩:=idxn_some h
 refine Side.mk ⟨(by omega),rfl,map_lt he76⟩ ?_
 conv=>whnf
 refine Side.mk ⟨rfl,trivial⟩ ?_
 conv=>whnf
 refine ⟨_,map_at he76,?_⟩
 conv=>whnf
 refine Nf.mk (List.map cI (List.set y69 y70 (-1:Int))) (set_map rfl) ?_
 conv=>whnf
 obtain ⟨c77,h⟩:=chk_some h
 refine Arith.mk c77 ?_
 conv=>whnf
 cases h
 exact Nxt.mk _ ho74 (eA [(98,some 98)])
 obtain ⟨h,b75d⟩:=cfd b75 h
 conv=>whnf
 cases h
 have ho74:_=_:=ho74
 cases ho74
 exact Join.mk (eA [(98,some 98)])
 replace h:=hk52
 obtain ⟨z80,z81,_⟩:=hp
 conv=>whnf
 obtain ⟨e82,he82z,he82,h⟩:=idx_some h
 refine Side.mk ⟨he82z,rfl,map_lt he82⟩ ?_
 conv=>whnf
 refine Side.mk ⟨rfl,trivial⟩ ?_
 conv=>whnf
 refine ⟨_,map_at he82,?_⟩
 conv=>whnf
 refine Nf.mk (List.map cI (List.set y66 p_.Start.toNat q_.Start)) (set_map rfl) ?_
 conv=>whnf
 refine Nf.mk (List.length q_.Next) len_map ?_
 conv=>whnf
 obtain ⟨c83,h⟩:=chk_some h
 refine Side.mk c83 ?_
 conv=>whnf
 refine Nf.mk (List.map cB (List.replicate (List.length q_.Next) false)) (rep_map (c:=cB) (z:=false) (n:=(List.length q_.Next)) rfl rfl) ?_
 conv=>whnf
 obtain ⟨y585,hc,hk84⟩:=bind_some h
 clear h
 have h:=hc
 clear hc
 refine Cut.mk (mkSt [(9,.osl 98 1)] [(98,.row 4 1 (List.map cB y585))] []) (lZ y585∧True) ((Holds.kdl 98 rfl).and (hT)) ?_ (fun hp=>?_)
 conv=>whnf
 refine Loops.iter (fun (s:List Int×List Bool×List Int)=>evidence_follow.s22 p_ q_ red_ s.1 s.2.1 s.2.2) (fun (y750,y751,y752)=>mkSt [(2,.im (nL cB red_)),(3,.im (.ref (c_api_Part p_))),(4,.im (.ref (c_api_Part q_))),(7,.osl 98 1),(9,.osl 99 1),(10,.osl 100 1)] [(98,.row 3 1 (List.map cI y750)),(99,.row 4 1 (List.map cB y751)),(100,.que 3 1 (List.map cI y752))] []) (fun (y750,y751,y752)=>lZ red_∧lZ y750∧lZ y751∧lZ y752∧True) h ((Ent.que 39 rfl).trans (eA [(98,some 98),(99,some 36),(100,some 39)])) (by rintro ⟨y750,y751,y752⟩;exact ((Holds.avl 2 rfl).and ((Holds.kdl 98 rfl).and ((Holds.kdl 99 rfl).and ((Holds.kdql 100 rfl).and (hT)))))) ?_
 clear h
 rintro k ⟨y750,y751,y752⟩ o hp h ho917
 replace h:evidence_follow.s22 p_ q_ red_ y750 y751 y752=some o:=h
 unfold evidence_follow.s22 at h
 obtain ⟨z1082,z1083,z1084,z1085,_⟩:=hp
 conv=>whnf
 refine Side.mk rfl ?_
 conv=>whnf
 refine Nf.mk (List.length y752) len_map ?_
 conv=>whnf
 refine Both.mk ?_ ?_<;>intro b918
 obtain ⟨h,b918d⟩:=ctd b918 h
 conv=>whnf
 obtain ⟨e919,he919,h⟩:=idxn_some h
 refine Side.mk ⟨(by omega),rfl,map_lt he919⟩ ?_
 conv=>whnf
 refine ⟨_,_,⟨rfl,map_at he919,rfl,rfl⟩,?_⟩
 conv=>whnf
 obtain ⟨y926,hc,hk921⟩:=bind_some h
 clear h
 have h:=hc
 clear hc
 refine Cut.mk (mkSt [(2,.im (nL cB red_)),(3,.im (.ref (c_api_Part p_))),(4,.im (.ref (c_api_Part q_))),(7,.osl 98 1),(9,.osl 99 1),(10,.osl 100 1),(11,.im (nI e919))] [(98,.row 3 1 (List.map cI y750)),(99,.row 4 1 (List.map cB y926)),(100,.que 3 1 (List.map cI y752))] []) (lZ red_∧lZ y750∧lZ y926∧lZ y752∧True) ((Holds.avl 2 rfl).and ((Holds.kdl 98 rfl).and ((Holds.kdl 99 rfl).and ((Holds.kdql 100 rfl).and (hT))))) ?_ (fun hp=>?_)
 conv=>whnf
 obtain ⟨e927,he927z,he927,h⟩:=idx_some h
 refine ⟨_,⟨he927z,map_at he927,rfl⟩,?_⟩
 conv=>whnf
 refine Both.mk ?_ ?_<;>intro b928
 replace h:=cond_t b928 h
 conv=>whnf
 obtain ⟨e929,he929z,he929,h⟩:=idx_some h
 refine Side.mk ⟨he929z,rfl,map_lt he929⟩ ?_
 conv=>whnf
 refine ⟨_,_,⟨rfl,map_at he929,rfl,rfl⟩,?_⟩
 conv=>whnf
 obtain ⟨e930,he930z,he930,h⟩:=idx_some h
 refine Side.mk ⟨he930z,rfl,map_lt he930⟩ ?_
 conv=>whnf
 refine Side.mk ⟨rfl,trivial⟩ ?_
 conv=>whnf
 refine ⟨_,map_at he930,?_⟩
 conv=>whnf
 refine Nf.mk (List.map cB (List.set y751 e929.toNat true)) (set_map rfl) ?_
 conv=>whnf
 cases h
 exact Join.mk (eA [(98,some 98),(99,some 99),(100,some 100)])
 replace h:=cond_f b928 h
 conv=>whnf
 cases h
 exact Join.mk (eA [(98,some 98),(99,some 99),(100,some 100)])
 replace h:=hk921
 obtain ⟨z931,z932,z933,z934,_⟩:=hp
 conv=>whnf
 obtain ⟨e935,he935z,he935,h⟩:=idx_some h
 refine ⟨_,⟨he935z,map_at he935,rfl⟩,?_⟩
 conv=>whnf
 refine Nf.mk (List.length e935) len_map ?_
 conv=>whnf
 obtain ⟨⟨y1006,y1007⟩,hc,hk936⟩:=bind_some h
 clear h
 have h:=hc
 clear hc
 refine Cut.mk (mkSt [(2,.im (nL cB red_)),(3,.im (.ref (c_api_Part p_))),(4,.im (.ref (c_api_Part q_))),(7,.osl 98 1),(9,.osl 99 1),(10,.osl 100 1)] [(98,.row 3 1 (List.map cI y1006)),(99,.row 4 1 (List.map cB y926)),(100,.que 3 1 (List.map cI y1007))] []) (lZ red_∧lZ y1006∧lZ y926∧lZ y1007∧True) ((Holds.avl 2 rfl).and ((Holds.kdl 98 rfl).and ((Holds.kdl 99 rfl).and ((Holds.kdql 100 rfl).and (hT))))) ?_ (fun hp=>?_)
 conv=>whnf
 refine Loops.iter (fun (s:List Int×List Int×Nat)=>evidence_follow.s20 q_ e919 e935 s.1 s.2.1 s.2.2) (fun (y1028,y1029,y1030)=>mkSt [(2,.im (nL cB red_)),(3,.im (.ref (c_api_Part p_))),(4,.im (.ref (c_api_Part q_))),(7,.osl 98 1),(9,.osl 99 1),(10,.osl 100 1),(11,.im (nI e919)),(62,.im (nL cI e935)),(63,.im (nI (↑(List.length e935):Int))),(64,.im (nI (↑y1030:Int)))] [(98,.row 3 1 (List.map cI y1028)),(99,.row 4 1 (List.map cB y926)),(100,.que 3 1 (List.map cI y1029))] []) (fun (y1028,y1029,y1030)=>lZ red_∧lZ e935∧lZ y1028∧lZ y926∧lZ y1029∧True) h (eA [(98,some 98),(99,some 99),(100,some 100)]) (by rintro ⟨y1028,y1029,y1030⟩;exact ((Holds.avl 2 rfl).and ((Holds.avl 62 rfl).and ((Holds.kdl 98 rfl).and ((Holds.kdl 99 rfl).and ((Holds.kdql 100 rfl).and (hT))))))) ?_
 clear h
 rintro k ⟨y1028,y1029,y1030⟩ o hp h ho1051
 replace h:evidence_follow.s20 q_ e919 e935 y1028 y1029 y1030=some o:=h
 unfold evidence_follow.s20 at h
 obtain ⟨z1072,z1073,z1074,z1075,z1076,_⟩:=hp
 conv=>whnf
 refine Both.mk ?_ ?_<;>intro b1052
 obtain ⟨h,b1052d⟩:=ctd b1052 h
 conv=>whnf
 obtain ⟨e1053,he1053,h⟩:=idxn_some h
 refine ⟨_,⟨(by omega),map_at he1053,rfl⟩,?_⟩
 conv=>whnf
 obtain ⟨y1058,hc,hk1055⟩:=bind_some h
 clear h
 have h:=hc
 clear hc
 refine Cut.mk (mkSt [(2,.im (nL cB red_)),(3,.im (.ref (c_api_Part p_))),(4,.im (.ref (c_api_Part q_))),(7,.osl 98 1),(9,.osl 99 1),(10,.osl 100 1),(11,.im (nI e919)),(12,.im (nI (↑y1030:Int))),(13,.im (nI e1053)),(62,.im (nL cI e935)),(63,.im (nI (↑(List.length e935):Int))),(64,.im (nI (↑y1030:Int))),(77,.im (nB y1058))] [(98,.row 3 1 (List.map cI y1028)),(99,.row 4 1 (List.map cB y926)),(100,.que 3 1 (List.map cI y1029))] []) (lZ red_∧lZ e935∧lZ y1028∧lZ y926∧lZ y1029∧True) ((Holds.avl 2 rfl).and ((Holds.avl 62 rfl).and ((Holds.kdl 98 rfl).and ((Holds.kdl 99 rfl).and ((Holds.kdql 100 rfl).and (hT)))))) ?_ (fun hp=>?_)
 conv=>whnf
 refine Both.mk ?_ ?_<;>intro b1059
 replace b1059:=beq_tt b1059
 obtain ⟨h,b1059d⟩:=ctd b1059 h
 conv=>whnf
 iterate 2 (refine Both.yes (tt_beq b1059) ?_;(conv=>whnf))
 obtain ⟨e1060,he1060z,he1060,h⟩:=idx_some h
 refine Side.mk ⟨he1060z,rfl,map_lt he1060⟩ ?_
 conv=>whnf
 refine Both.yes (tt_beq b1059) ?_
 conv=>whnf
 refine ⟨_,_,⟨rfl,map_at he1060,rfl,rfl⟩,?_⟩
 conv=>whnf
 refine Both.yes (tt_beq b1059) ?_
 conv=>whnf
 refine Both.yes b1059 ?_
 conv=>whnf
 cases h
 exact Join.mk (eA [(98,some 98),(99,some 99),(100,some 100)])
 replace b1059:=beq_tf b1059
 obtain ⟨h,b1059d⟩:=cfd b1059 h
 conv=>whnf
 iterate 4 (refine Both.no (ft_beq b1059) ?_;(conv=>whnf))
 refine Both.no b1059 ?_
 conv=>whnf
 cases h
 exact Join.mk (eA [(98,some 98),(99,some 99),(100,some 100)])
 replace h:=hk1055
 obtain ⟨z1061,z1062,z1063,z1064,z1065,_⟩:=hp
 conv=>whnf
 refine Both.mk ?_ ?_<;>intro b1066
 replace h:=cond_t b1066 h
 conv=>whnf
 obtain ⟨e1067,he1067z,he1067,h⟩:=idx_some h
 refine Side.mk ⟨he1067z,rfl,map_lt he1067⟩ ?_
 conv=>whnf
 refine ⟨_,_,⟨rfl,map_at he1067,rfl,rfl⟩,?_⟩
 conv=>whnf
 obtain ⟨e1068,he1068z,he1068,h⟩:=idx_some h
 refine ⟨_,⟨he1068z,map_at he1068,rfl⟩,?_⟩
 conv=>whnf
 obtain ⟨e1069,he1069,h⟩:=idxn_some h
 refine ⟨_,⟨(by omega),map_at he1069,rfl⟩,?_⟩
 conv=>whnf
 obtain ⟨e1070,he1070z,he1070,h⟩:=idx_some h
 refine Side.mk ⟨he1070z,rfl,map_lt he1070⟩ ?_
 conv=>whnf
 refine Side.mk ⟨rfl,trivial⟩ ?_
 conv=>whnf
 refine ⟨_,map_at he1070,?_⟩
 conv=>whnf
 refine Nf.mk (List.map cI (List.set y1028 e1053.toNat e1069)) (set_map rfl) ?_
 conv=>whnf
 obtain ⟨c1071,h⟩:=chk_some h
 refine Side.mk ⟨rfl,Nat.succ_pos _,map_len (l:=[e1053]) (c:=cI) fun _=>rfl,show capOk _ 8 by simpa only [List.length_map,List.length_cons,List.length_nil,Nat.zero_add] using c1071⟩ ?_
 conv=>whnf
 refine Nf.mk (List.map cI (y1029++[e1053])) (app_map (l:=y1029) (m:=[e1053]) (c:=cI)) ?_
 conv=>whnf
 refine Arith.mk (by show inR _;unfold inR;omega) ?_
 conv=>whnf
 cases h
 exact Nxt.mk _ ho1051 (eA [(98,some 98),(99,some 99),(100,some 100)])
 replace h:=cond_f b1066 h
 conv=>whnf
 refine Arith.mk (by show inR _;unfold inR;omega) ?_
 conv=>whnf
 cases h
 exact Nxt.mk _ ho1051 (eA [(98,some 98),(99,some 99),(100,some 100)])
 obtain ⟨h,b1052d⟩:=cfd b1052 h
 conv=>whnf
 cases h
 have ho1051:_=_:=ho1051
 cases ho1051
 exact Join.mk (eA [(98,some 98),(99,some 99),(100,some 100)])
 replace h:evidence_follow.k21 y926 y1006 y1007=some _:=hk936
 unfold evidence_follow.k21 at h
 obtain ⟨z1077,z1078,z1079,z1080,_⟩:=hp
 conv=>whnf
 obtain ⟨c1081,h⟩:=chk_some h
 refine Side.mk ⟨rfl,by decide,by have hh_:=c1081;simp only [List.length_map];exact hh_⟩ ?_
 conv=>whnf
 refine Nf.mk (List.map cI (List.drop 1 y1007)) List.map_drop ?_
 conv=>whnf
 cases h
 exact Nxt.mk _ ho917 (eA [(98,some 98),(99,some 99),(100,some 100)])
 obtain ⟨h,b918d⟩:=cfd b918 h
 conv=>whnf
 cases h
 have ho917:_=_:=ho917
 cases ho917
 exact Join.mk (eA [(98,some 99)])
 replace h:=hk84
 obtain ⟨z1086,_⟩:=hp
 conv=>whnf
 cases h
 conv=>whnf
 exact Side.mk ⟨rfl,trivial⟩ ⟨rfl,rfl⟩
theorem sp_slices_IndexFunc_Sint_int (s_:List Int) (f_:Int→Option Bool) (f1_:FuncId) (hf1:∀ x0 r,f_ x0=some r→Sp Tryz.prog f1_ [.im (nI x0)] (.im (nB r))) (r:Int) (h:Ok (nL cI s_)→Ok (.fn f1_ [])→slices_IndexFunc_Sint_int s_ f_=some r):Sp Tryz.prog 157 [.im (nL cI s_),.im (.fn f1_ [])] (.im (nI r)):=by
 refine sp_of rfl [] rfl rfl rfl (Nat.le_of_ble_eq_true rfl) rfl fun hk=>?_
 replace h:=h hk.1 hk.2.1
 have z1:lZ s_:=ok_len hk.1
 unfold slices_IndexFunc_Sint_int at h
 conv=>whnf
 refine Nf.mk (List.length s_) len_map ?_
 conv=>whnf
 obtain ⟨oc,hc,hk51⟩:=bind_some h
 clear h
 have h:=hc
 clear hc
 refine Cut.mkS oc (Y:=Unit) (fun (_:Unit)=>mkSt [] [] []) (fun (_:Unit)=>True) (by rintro ⟨⟩;exact (hT)) ?_ ?_
 conv=>whnf
 refine Loops.iter (fun (s:Nat)=>slices_IndexFunc_Sint_int.s2 s_ f_ s) (fun y71=>mkSt [(0,.im (nL cI s_)),(1,.im (.fn f1_ [])),(7,.im (nI (↑(List.length s_):Int))),(8,.im (nI (↑y71:Int)))] [] []) (fun y71=>lZ s_∧True) h (eA []) (by rintro y71;exact ((Holds.avl 0 rfl).and (hT))) ?_
 clear h
 rintro k y71 o hp h ho76
 replace h:slices_IndexFunc_Sint_int.s2 s_ f_ y71=some o:=h
 unfold slices_IndexFunc_Sint_int.s2 at h
 obtain ⟨z81,_⟩:=hp
 conv=>whnf
 refine Both.mk ?_ ?_<;>intro b77
 obtain ⟨h,b77d⟩:=ctd b77 h
 conv=>whnf
 obtain ⟨e78,he78,h⟩:=idxn_some h
 refine ⟨_,⟨(by omega),map_at he78,rfl⟩,?_⟩
 conv=>whnf
 obtain ⟨c79,hc79,h⟩:=bind_some h
 refine ⟨_,hf1 e78 c79 hc79,?_⟩
 conv=>whnf
 refine Both.mk ?_ ?_<;>intro b80
 replace h:=cond_t b80 h
 conv=>whnf
 cases h
 have ho76:_=_:=ho76
 cases ho76
 replace h:some _=some _:=hk51
 cases h
 conv=>whnf
 exact ⟨rfl,rfl⟩
 replace h:=cond_f b80 h
 conv=>whnf
 refine Arith.mk (by show inR _;unfold inR;omega) ?_
 conv=>whnf
 cases h
 exact Nxt.mk _ ho76 (eA [])
 obtain ⟨h,b77d⟩:=cfd b77 h
 conv=>whnf
 cases h
 have ho76:_=_:=ho76
 cases ho76
 exact JoinS.mk' _ rfl (eA [])
 rintro ⟨⟩ rfl hp
 replace h:=sum_inl hk51
 conv=>whnf
 cases h
 conv=>whnf
 exact ⟨rfl,rfl⟩
theorem sp_slices_ContainsFunc_Sint_int (s_:List Int) (f_:Int→Option Bool) (f1_:FuncId) (hf1:∀ x0 r,f_ x0=some r→Sp Tryz.prog f1_ [.im (nI x0)] (.im (nB r))) (r:Bool) (h:Ok (nL cI s_)→Ok (.fn f1_ [])→slices_ContainsFunc_Sint_int s_ f_=some r):Sp Tryz.prog 137 [.im (nL cI s_),.im (.fn f1_ [])] (.im (nB r)):=by
 refine sp_of rfl [] rfl rfl rfl (Nat.le_of_ble_eq_true rfl) rfl fun hk=>?_
 replace h:=h hk.1 hk.2.1
 have z1:lZ s_:=ok_len hk.1
 unfold slices_ContainsFunc_Sint_int at h
 conv=>whnf
 obtain ⟨c51,hc51,h⟩:=bind_some h
 refine ⟨_,(sp_slices_IndexFunc_Sint_int s_ f_ f1_ hf1 c51 (fun _ _=>hc51)),?_⟩
 conv=>whnf
 cases h
 conv=>whnf
 exact ⟨rfl,rfl⟩
theorem sp_word_permitted (inputs_:Int) (r:Bool) (h:Ok (nI inputs_)→word_permitted inputs_=some r):Sp Tryz.prog 136 [.im (nI inputs_)] (.im (nB r)):=by
 refine sp_of rfl [] rfl rfl rfl (Nat.le_of_ble_eq_true rfl) rfl fun hk=>?_
 replace h:=h hk.1
 unfold word_permitted at h
 conv=>whnf
 obtain ⟨y54,hc,hk52⟩:=bind_some h
 clear h
 have h:=hc
 clear hc
 refine Cut.mk (mkSt [(2,.im (nB y54))] [] []) (True) (hT) ?_ (fun hp=>?_)
 conv=>whnf
 refine Both.mk ?_ ?_<;>intro b55
 replace b55:=beq_tt b55
 obtain ⟨h,b55d⟩:=ctd b55 h
 conv=>whnf
 refine Both.yes (tt_beq b55) ?_
 conv=>whnf
 refine Both.yes b55 ?_
 conv=>whnf
 cases h
 exact Join.mk (eA [])
 replace b55:=beq_tf b55
 obtain ⟨h,b55d⟩:=cfd b55 h
 conv=>whnf
 refine Both.no (ft_beq b55) ?_
 conv=>whnf
 refine Both.no b55 ?_
 conv=>whnf
 cases h
 exact Join.mk (eA [])
 replace h:=hk52
 conv=>whnf
 cases h
 conv=>whnf
 exact ⟨rfl,rfl⟩
theorem sp_word_Check_1 (a_:Int) (p1_:Int) (r:Bool) (h:Ok (nI a_)→Ok (.ref (cI p1_))→word_Check_1 a_ p1_=some r):Sp Tryz.prog 138 [.im (nI a_),.im (.ref (cI p1_))] (.im (nB r)):=by
 refine sp_of rfl [] rfl rfl rfl (Nat.le_of_ble_eq_true rfl) rfl fun hk=>?_
 replace h:=h hk.1 hk.2.1
 unfold word_Check_1 at h
 conv=>whnf
 obtain ⟨y54,hc,hk52⟩:=bind_some h
 clear h
 have h:=hc
 clear hc
 refine Cut.mk (mkSt [(3,.im (nB y54))] [] []) (True) (hT) ?_ (fun hp=>?_)
 conv=>whnf
 refine Both.mk ?_ ?_<;>intro b55
 replace b55:=beq_ff b55
 obtain ⟨h,b55d⟩:=cfd b55 h
 conv=>whnf
 iterate 2 (refine Both.yes (ff_beq b55) ?_;(conv=>whnf))
 refine Both.no b55 ?_
 conv=>whnf
 cases h
 exact Join.mk (eA [])
 replace b55:=beq_ft b55
 obtain ⟨h,b55d⟩:=ctd b55 h
 conv=>whnf
 iterate 2 (refine Both.no (tf_beq b55) ?_;(conv=>whnf))
 refine Both.yes b55 ?_
 conv=>whnf
 cases h
 exact Join.mk (eA [])
 replace h:=hk52
 conv=>whnf
 cases h
 conv=>whnf
 exact ⟨rfl,rfl⟩
theorem sp_slices_IndexFunc_Sint_int_n1 (s_:List Int) (f_:Int→Option Bool) (f1_:FuncId) (k1_0:IV) (hk1_0:nz k1_0=k1_0) (hf1:∀ x0 r,f_ x0=some r→Sp Tryz.prog f1_ [.im (nI x0),.im k1_0] (.im (nB r))) (r:Int) (h:Ok (nL cI s_)→Ok (.fn f1_ [k1_0])→slices_IndexFunc_Sint_int_n1 s_ f_=some r):Sp Tryz.prog 157 [.im (nL cI s_),.im (.fn f1_ [k1_0])] (.im (nI r)):=by
 refine sp_of rfl [] rfl rfl rfl (Nat.le_of_ble_eq_true rfl) rfl fun hk=>?_
 replace h:=h hk.1 hk.2.1
 have z1:lZ s_:=ok_len hk.1
 unfold slices_IndexFunc_Sint_int_n1 at h
 conv=>whnf
 refine Nf.mk (List.length s_) len_map ?_
 conv=>whnf
 obtain ⟨oc,hc,hk51⟩:=bind_some h
 clear h
 have h:=hc
 clear hc
 refine Cut.mkS oc (Y:=Unit) (fun (_:Unit)=>mkSt [] [] []) (fun (_:Unit)=>True) (by rintro ⟨⟩;exact (hT)) ?_ ?_
 conv=>whnf
 refine Loops.iter (fun (s:Nat)=>slices_IndexFunc_Sint_int_n1.s2 s_ f_ s) (fun y71=>mkSt [(0,.im (nL cI s_)),(1,.im (.fn f1_ [k1_0])),(7,.im (nI (↑(List.length s_):Int))),(8,.im (nI (↑y71:Int)))] [] []) (fun y71=>lZ s_∧True) h (eA []) (by rintro y71;exact ((Holds.avl 0 rfl).and (hT))) ?_
 clear h
 rintro k y71 o hp h ho76
 replace h:slices_IndexFunc_Sint_int_n1.s2 s_ f_ y71=some o:=h
 unfold slices_IndexFunc_Sint_int_n1.s2 at h
 obtain ⟨z81,_⟩:=hp
 conv=>whnf
 refine Both.mk ?_ ?_<;>intro b77
 obtain ⟨h,b77d⟩:=ctd b77 h
 conv=>whnf
 obtain ⟨e78,he78,h⟩:=idxn_some h
 refine ⟨_,⟨(by omega),map_at he78,rfl⟩,?_⟩
 conv=>whnf
 obtain ⟨c79,hc79,h⟩:=bind_some h
 refine ⟨_,Sp.args (hf1 e78 c79 hc79) (by rw [hk1_0];try rfl),?_⟩
 conv=>whnf
 refine Both.mk ?_ ?_<;>intro b80
 replace h:=cond_t b80 h
 conv=>whnf
 cases h
 have ho76:_=_:=ho76
 cases ho76
 replace h:some _=some _:=hk51
 cases h
 conv=>whnf
 exact ⟨rfl,rfl⟩
 replace h:=cond_f b80 h
 conv=>whnf
 refine Arith.mk (by show inR _;unfold inR;omega) ?_
 conv=>whnf
 cases h
 exact Nxt.mk _ ho76 (eA [])
 obtain ⟨h,b77d⟩:=cfd b77 h
 conv=>whnf
 cases h
 have ho76:_=_:=ho76
 cases ho76
 exact JoinS.mk' _ rfl (eA [])
 rintro ⟨⟩ rfl hp
 replace h:=sum_inl hk51
 conv=>whnf
 cases h
 conv=>whnf
 exact ⟨rfl,rfl⟩
theorem sp_slices_ContainsFunc_Sint_int_n1 (s_:List Int) (f_:Int→Option Bool) (f1_:FuncId) (k1_0:IV) (hk1_0:nz k1_0=k1_0) (hf1:∀ x0 r,f_ x0=some r→Sp Tryz.prog f1_ [.im (nI x0),.im k1_0] (.im (nB r))) (r:Bool) (h:Ok (nL cI s_)→Ok (.fn f1_ [k1_0])→slices_ContainsFunc_Sint_int_n1 s_ f_=some r):Sp Tryz.prog 137 [.im (nL cI s_),.im (.fn f1_ [k1_0])] (.im (nB r)):=by
 refine sp_of rfl [] rfl rfl rfl (Nat.le_of_ble_eq_true rfl) rfl fun hk=>?_
 replace h:=h hk.1 hk.2.1
 have z1:lZ s_:=ok_len hk.1
 unfold slices_ContainsFunc_Sint_int_n1 at h
 conv=>whnf
 obtain ⟨c51,hc51,h⟩:=bind_some h
 refine ⟨_,(sp_slices_IndexFunc_Sint_int_n1 s_ f_ f1_ k1_0 hk1_0 hf1 c51 (fun _ _=>hc51)),?_⟩
 conv=>whnf
 cases h
 conv=>whnf
 exact ⟨rfl,rfl⟩
theorem sp_word_Check (w_:List Int) (inputs_:Int) (r:Int) (h:Ok (nL cI w_)→Ok (nI inputs_)→word_Check w_ inputs_=some r):Sp Tryz.prog 110 [.im (nL cI w_),.im (nI inputs_)] (.im (nI r)):=by
 refine sp_of rfl [700003] rfl rfl rfl (Nat.le_of_ble_eq_true rfl) rfl fun hk=>?_
 replace h:=h hk.1 hk.2.1
 have z1:lZ w_:=ok_len hk.1
 unfold word_Check at h
 conv=>whnf
 obtain ⟨c51,hc51,h⟩:=bind_some h
 refine ⟨_,(sp_word_permitted inputs_ c51 (fun _=>hc51)),?_⟩
 conv=>whnf
 refine Both.mk ?_ ?_<;>intro b52
 replace h:=cond_t b52 h
 conv=>whnf
 cases h
 conv=>whnf
 exact ⟨rfl,rfl⟩
 replace h:=cond_f b52 h
 conv=>whnf
 refine Nf.mk (List.length w_) len_map ?_
 conv=>whnf
 refine Both.mk ?_ ?_<;>intro b53
 obtain ⟨h,b53d⟩:=ctd b53 h
 conv=>whnf
 cases h
 conv=>whnf
 exact ⟨rfl,rfl⟩
 obtain ⟨h,b53d⟩:=cfd b53 h
 conv=>whnf
 obtain ⟨c54,hc54,h⟩:=bind_some h
 refine ⟨_,(sp_slices_ContainsFunc_Sint_int_n1 w_ (fun u0=>word_Check_1 u0 inputs_) 138 (.ref (cI inputs_)) rfl (fun u0 r h=>(sp_word_Check_1 u0 inputs_ r (fun _ _=>h))) c54 (fun _ _=>hc54)),?_⟩
 conv=>whnf
 refine Both.mk ?_ ?_<;>intro b55
 replace h:=cond_t b55 h
 conv=>whnf
 cases h
 conv=>whnf
 exact ⟨rfl,rfl⟩
 replace h:=cond_f b55 h
 conv=>whnf
 cases h
 conv=>whnf
 exact ⟨rfl,rfl⟩
theorem sp_word_Common (a_:List Int) (b_:List Int) (r:Int) (h:Ok (nL cI a_)→Ok (nL cI b_)→word_Common a_ b_=some r):Sp Tryz.prog 145 [.im (nL cI a_),.im (nL cI b_)] (.im (nI r)):=by
 refine sp_of rfl [] rfl rfl rfl (Nat.le_of_ble_eq_true rfl) rfl fun hk=>?_
 replace h:=h hk.1 hk.2.1
 have z1:lZ a_:=ok_len hk.1
 have z2:lZ b_:=ok_len hk.2.1
 unfold word_Common at h
 conv=>whnf
 refine Nf.mk (List.length a_) len_map ?_
 conv=>whnf
 refine Nf.mk (List.length b_) len_map ?_
 conv=>whnf
 obtain ⟨oc,hc,hk51⟩:=bind_some h
 clear h
 have h:=hc
 clear hc
 refine Cut.mkS oc (Y:=Unit) (fun (_:Unit)=>mkSt [(0,.im (nL cI a_)),(1,.im (nL cI b_))] [] []) (fun (_:Unit)=>lZ a_∧lZ b_∧True) (by rintro ⟨⟩;exact ((Holds.avl 0 rfl).and ((Holds.avl 1 rfl).and (hT)))) ?_ ?_
 conv=>whnf
 refine Loops.iter (fun (s:Nat)=>word_Common.s2 a_ b_ s) (fun y72=>mkSt [(0,.im (nL cI a_)),(1,.im (nL cI b_)),(10,.im (nI (min (↑(List.length a_):Int) (↑(List.length b_):Int)))),(11,.im (nI (↑y72:Int)))] [] []) (fun y72=>lZ a_∧lZ b_∧True) h (eA []) (by rintro y72;exact ((Holds.avl 0 rfl).and ((Holds.avl 1 rfl).and (hT)))) ?_
 clear h
 rintro k y72 o hp h ho77
 replace h:word_Common.s2 a_ b_ y72=some o:=h
 unfold word_Common.s2 at h
 obtain ⟨z82,z83,_⟩:=hp
 conv=>whnf
 refine Both.mk ?_ ?_<;>intro b78
 obtain ⟨h,b78d⟩:=ctd b78 h
 conv=>whnf
 obtain ⟨e79,he79,h⟩:=idxn_some h
 refine ⟨_,⟨(by omega),map_at he79,rfl⟩,?_⟩
 conv=>whnf
 obtain ⟨e80,he80,h⟩:=idxn_some h
 refine ⟨_,⟨(by omega),map_at he80,rfl⟩,?_⟩
 conv=>whnf
 refine Both.mk ?_ ?_<;>intro b81
 obtain ⟨h,b81d⟩:=ctd b81 h
 conv=>whnf
 cases h
 have ho77:_=_:=ho77
 cases ho77
 replace h:some _=some _:=hk51
 cases h
 conv=>whnf
 exact ⟨rfl,rfl⟩
 obtain ⟨h,b81d⟩:=cfd b81 h
 conv=>whnf
 refine Arith.mk (by show inR _;unfold inR;omega) ?_
 conv=>whnf
 cases h
 exact Nxt.mk _ ho77 (eA [])
 obtain ⟨h,b78d⟩:=cfd b78 h
 conv=>whnf
 cases h
 have ho77:_=_:=ho77
 cases ho77
 exact JoinS.mk' _ rfl (eA [])
 rintro ⟨⟩ rfl hp
 replace h:=sum_inl hk51
 obtain ⟨z84,z85,_⟩:=hp
 conv=>whnf
 refine Nf.mk (List.length a_) len_map ?_
 conv=>whnf
 refine Nf.mk (List.length b_) len_map ?_
 conv=>whnf
 cases h
 conv=>whnf
 exact ⟨rfl,rfl⟩
theorem sp_word_HasPrefix (w_:List Int) (p_:List Int) (r:Bool) (h:Ok (nL cI w_)→Ok (nL cI p_)→word_HasPrefix w_ p_=some r):Sp Tryz.prog 116 [.im (nL cI w_),.im (nL cI p_)] (.im (nB r)):=by
 refine sp_of rfl [] rfl rfl rfl (Nat.le_of_ble_eq_true rfl) rfl fun hk=>?_
 replace h:=h hk.1 hk.2.1
 have z1:lZ w_:=ok_len hk.1
 have z2:lZ p_:=ok_len hk.2.1
 unfold word_HasPrefix at h
 conv=>whnf
 obtain ⟨c51,hc51,h⟩:=bind_some h
 refine ⟨_,(sp_word_Common w_ p_ c51 (fun _ _=>hc51)),?_⟩
 conv=>whnf
 refine Nf.mk (List.length p_) len_map ?_
 conv=>whnf
 cases h
 conv=>whnf
 exact ⟨rfl,rfl⟩
theorem sp_observe_differ (a_:T_api_Trace) (b_:T_api_Trace) (r:Int) (h:Ok (.agg (c_api_Trace a_))→Ok (.agg (c_api_Trace b_))→observe_differ a_ b_=some r):Sp Tryz.prog 118 [.im (.agg (c_api_Trace a_)),.im (.agg (c_api_Trace b_))] (.im (nI r)):=by
 refine sp_of rfl [700002,700003] rfl rfl rfl (Nat.le_of_ble_eq_true rfl) rfl fun hk=>?_
 replace h:=h hk.1 hk.2.1
 have z1:lZ a_.In:=ok_len (Ok.agg_at hk.1 0 rfl)
 have z2:lZ a_.Out:=ok_len (Ok.agg_at hk.1 1 rfl)
 have z3:lZ b_.In:=ok_len (Ok.agg_at hk.2.1 0 rfl)
 have z4:lZ b_.Out:=ok_len (Ok.agg_at hk.2.1 1 rfl)
 unfold observe_differ at h
 conv=>whnf
 obtain ⟨c51,hc51,h⟩:=bind_some h
 refine ⟨_,(sp_word_Common a_.In b_.In c51 (fun _ _=>hc51)),?_⟩
 conv=>whnf
 refine Nf.mk (List.length a_.Out) len_map ?_
 conv=>whnf
 refine Nf.mk (List.length b_.Out) len_map ?_
 conv=>whnf
 obtain ⟨c52,h⟩:=chk_some h
 refine Side.mk (show (0:Int)≤(0:Int)∧(0:Int)≤(min (min c51 (↑(List.length a_.Out):Int)) (↑(List.length b_.Out):Int))∧(min (min c51 (↑(List.length a_.Out):Int)) (↑(List.length b_.Out):Int))≤(↑(List.length (List.map cI a_.Out)):Int)∧(∀ e∈List.map cI a_.Out,List.length e=1) from ⟨by omega,by first | omega | (simp only [List.length_map];omega),by first | omega | (simp only [List.length_map];omega),map_len fun _=>rfl⟩) ?_
 conv=>whnf
 refine Nf.mk (List.map cI (List.take (Int.toNat (min (min c51 (↑(List.length a_.Out):Int)) (↑(List.length b_.Out):Int))) a_.Out)) take_map ?_
 conv=>whnf
 obtain ⟨c53,h⟩:=chk_some h
 refine Side.mk (show (0:Int)≤(0:Int)∧(0:Int)≤(min (min c51 (↑(List.length a_.Out):Int)) (↑(List.length b_.Out):Int))∧(min (min c51 (↑(List.length a_.Out):Int)) (↑(List.length b_.Out):Int))≤(↑(List.length (List.map cI b_.Out)):Int)∧(∀ e∈List.map cI b_.Out,List.length e=1) from ⟨by omega,by first | omega | (simp only [List.length_map];omega),by first | omega | (simp only [List.length_map];omega),map_len fun _=>rfl⟩) ?_
 conv=>whnf
 refine Nf.mk (List.map cI (List.take (Int.toNat (min (min c51 (↑(List.length a_.Out):Int)) (↑(List.length b_.Out):Int))) b_.Out)) take_map ?_
 conv=>whnf
 obtain ⟨c54,hc54,h⟩:=bind_some h
 refine ⟨_,(sp_word_Common (List.take (Int.toNat (min (min c51 (↑(List.length a_.Out):Int)) (↑(List.length b_.Out):Int))) a_.Out) (List.take (Int.toNat (min (min c51 (↑(List.length a_.Out):Int)) (↑(List.length b_.Out):Int))) b_.Out) c54 (fun _ _=>hc54)),?_⟩
 conv=>whnf
 refine Both.mk ?_ ?_<;>intro b55
 obtain ⟨h,b55d⟩:=ctd b55 h
 conv=>whnf
 cases h
 conv=>whnf
 exact ⟨rfl,rfl⟩
 obtain ⟨h,b55d⟩:=cfd b55 h
 conv=>whnf
 cases h
 conv=>whnf
 exact ⟨rfl,rfl⟩
theorem sp_cmp_isNaN_int (x_:Int) (r:Bool) (h:Ok (nI x_)→cmp_isNaN_int x_=some r):Sp Tryz.prog 163 [.im (nI x_)] (.im (nB r)):=by
 refine sp_of rfl [] rfl rfl rfl (Nat.le_of_ble_eq_true rfl) rfl fun hk=>?_
 replace h:=h hk.1
 unfold cmp_isNaN_int at h
 conv=>whnf
 cases h
 conv=>whnf
 exact ⟨rfl,rfl⟩
theorem sp_cmp_Compare_int (x_:Int) (y_:Int) (r:Int) (h:Ok (nI x_)→Ok (nI y_)→cmp_Compare_int x_ y_=some r):Sp Tryz.prog 153 [.im (nI x_),.im (nI y_)] (.im (nI r)):=by
 refine sp_of rfl [] rfl rfl rfl (Nat.le_of_ble_eq_true rfl) rfl fun hk=>?_
 replace h:=h hk.1 hk.2.1
 unfold cmp_Compare_int at h
 conv=>whnf
 obtain ⟨c51,hc51,h⟩:=bind_some h
 refine ⟨_,(sp_cmp_isNaN_int x_ c51 (fun _=>hc51)),?_⟩
 conv=>whnf
 obtain ⟨c52,hc52,h⟩:=bind_some h
 refine ⟨_,(sp_cmp_isNaN_int y_ c52 (fun _=>hc52)),?_⟩
 conv=>whnf
 refine Both.mk ?_ ?_<;>intro b53
 replace h:=cond_t b53 h
 conv=>whnf
 refine Both.mk ?_ ?_<;>intro b54
 replace h:=cond_t b54 h
 conv=>whnf
 cases h
 conv=>whnf
 exact ⟨rfl,rfl⟩
 replace h:=cond_f b54 h
 conv=>whnf
 cases h
 conv=>whnf
 exact ⟨rfl,rfl⟩
 replace h:=cond_f b53 h
 conv=>whnf
 refine Both.mk ?_ ?_<;>intro b55
 replace h:=cond_t b55 h
 conv=>whnf
 cases h
 conv=>whnf
 exact ⟨rfl,rfl⟩
 replace h:=cond_f b55 h
 conv=>whnf
 refine Both.mk ?_ ?_<;>intro b56
 obtain ⟨h,b56d⟩:=ctd b56 h
 conv=>whnf
 cases h
 conv=>whnf
 exact ⟨rfl,rfl⟩
 obtain ⟨h,b56d⟩:=cfd b56 h
 conv=>whnf
 refine Both.mk ?_ ?_<;>intro b57
 obtain ⟨h,b57d⟩:=ctd b57 h
 conv=>whnf
 cases h
 conv=>whnf
 exact ⟨rfl,rfl⟩
 obtain ⟨h,b57d⟩:=cfd b57 h
 conv=>whnf
 cases h
 conv=>whnf
 exact ⟨rfl,rfl⟩
theorem sp_slices_Compare_Sint_int (s1_:List Int) (s2_:List Int) (r:Int) (h:Ok (nL cI s1_)→Ok (nL cI s2_)→slices_Compare_Sint_int s1_ s2_=some r):Sp Tryz.prog 154 [.im (nL cI s1_),.im (nL cI s2_)] (.im (nI r)):=by
 refine sp_of rfl [] rfl rfl rfl (Nat.le_of_ble_eq_true rfl) rfl fun hk=>?_
 replace h:=h hk.1 hk.2.1
 have z1:lZ s1_:=ok_len hk.1
 have z2:lZ s2_:=ok_len hk.2.1
 unfold slices_Compare_Sint_int at h
 conv=>whnf
 refine Nf.mk (List.length s1_) len_map ?_
 conv=>whnf
 obtain ⟨oc,hc,hk51⟩:=bind_some h
 clear h
 have h:=hc
 clear hc
 refine Cut.mkS oc (Y:=Unit) (fun (_:Unit)=>mkSt [(0,.im (nL cI s1_)),(1,.im (nL cI s2_))] [] []) (fun (_:Unit)=>lZ s1_∧lZ s2_∧True) (by rintro ⟨⟩;exact ((Holds.avl 0 rfl).and ((Holds.avl 1 rfl).and (hT)))) ?_ ?_
 conv=>whnf
 refine Loops.iter (fun (s:Nat)=>slices_Compare_Sint_int.s2 s1_ s2_ s) (fun y80=>mkSt [(0,.im (nL cI s1_)),(1,.im (nL cI s2_)),(9,.im (nL cI s1_)),(10,.im (nI (↑(List.length s1_):Int))),(11,.im (nI (↑y80:Int)))] [] []) (fun y80=>lZ s1_∧lZ s2_∧True) h (eA []) (by rintro y80;exact ((Holds.avl 0 rfl).and ((Holds.avl 1 rfl).and (hT)))) ?_
 clear h
 rintro k y80 o hp h ho87
 replace h:slices_Compare_Sint_int.s2 s1_ s2_ y80=some o:=h
 unfold slices_Compare_Sint_int.s2 at h
 obtain ⟨z94,z95,_⟩:=hp
 conv=>whnf
 refine Both.mk ?_ ?_<;>intro b88
 obtain ⟨h,b88d⟩:=ctd b88 h
 conv=>whnf
 obtain ⟨e89,he89,h⟩:=idxn_some h
 refine ⟨_,⟨(by omega),map_at he89,rfl⟩,?_⟩
 conv=>whnf
 refine Nf.mk (List.length s2_) len_map ?_
 conv=>whnf
 refine Both.mk ?_ ?_<;>intro b90
 obtain ⟨h,b90d⟩:=ctd b90 h
 conv=>whnf
 cases h
 have ho87:_=_:=ho87
 cases ho87
 replace h:some _=some _:=hk51
 cases h
 conv=>whnf
 exact ⟨rfl,rfl⟩
 obtain ⟨h,b90d⟩:=cfd b90 h
 conv=>whnf
 obtain ⟨e91,he91,h⟩:=idxn_some h
 refine ⟨_,⟨(by omega),map_at he91,rfl⟩,?_⟩
 conv=>whnf
 obtain ⟨c92,hc92,h⟩:=bind_some h
 refine ⟨_,(sp_cmp_Compare_int e89 e91 c92 (fun _ _=>hc92)),?_⟩
 conv=>whnf
 refine Both.mk ?_ ?_<;>intro b93
 obtain ⟨h,b93d⟩:=ctd b93 h
 conv=>whnf
 cases h
 have ho87:_=_:=ho87
 cases ho87
 replace h:some _=some _:=hk51
 cases h
 conv=>whnf
 exact ⟨rfl,rfl⟩
 obtain ⟨h,b93d⟩:=cfd b93 h
 conv=>whnf
 refine Arith.mk (by show inR _;unfold inR;omega) ?_
 conv=>whnf
 cases h
 exact Nxt.mk _ ho87 (eA [])
 obtain ⟨h,b88d⟩:=cfd b88 h
 conv=>whnf
 cases h
 have ho87:_=_:=ho87
 cases ho87
 exact JoinS.mk' _ rfl (eA [])
 rintro ⟨⟩ rfl hp
 replace h:=sum_inl hk51
 obtain ⟨z96,z97,_⟩:=hp
 conv=>whnf
 refine Nf.mk (List.length s1_) len_map ?_
 conv=>whnf
 refine Nf.mk (List.length s2_) len_map ?_
 conv=>whnf
 refine Both.mk ?_ ?_<;>intro b98
 obtain ⟨h,b98d⟩:=ctd b98 h
 conv=>whnf
 cases h
 conv=>whnf
 exact ⟨rfl,rfl⟩
 obtain ⟨h,b98d⟩:=cfd b98 h
 conv=>whnf
 cases h
 conv=>whnf
 exact ⟨rfl,rfl⟩
theorem sp_observe_fits (l_:List T_api_Trace) (r:Bool) (h:Ok (nL c_api_Trace l_)→observe_fits l_=some r):Sp Tryz.prog 113 [.im (nL c_api_Trace l_)] (.im (nB r)):=by
 refine sp_of rfl [8000,2008000] rfl rfl rfl (Nat.le_of_ble_eq_true rfl) rfl fun hk=>?_
 replace h:=h hk.1
 have z1:lZ l_:=ok_len hk.1
 unfold observe_fits at h
 conv=>whnf
 obtain ⟨c51,hc51,h⟩:=bind_some h
 refine ⟨_,(sp_lib_Clone_traces l_ c51 (hc51)),?_⟩
 conv=>whnf
 refine Side.mk ⟨rfl,trivial⟩ ?_
 conv=>whnf
 obtain ⟨c52,hc52,h⟩:=bind_some h
 refine ⟨_,(sp_lib_SortFunc_traces c51 (fun u0 u1=>observe_fits_1 u0 u1) 142 cmpE_observe_fits_1 c52 (hc52)),?_⟩
 conv=>whnf
 obtain ⟨oc,hc,hk53⟩:=bind_some h
 clear h
 have h:=hc
 clear hc
 refine Cut.mkS oc (Y:=Unit) (fun (_:Unit)=>mkSt [] [] []) (fun (_:Unit)=>True) (by rintro ⟨⟩;exact (hT)) ?_ ?_
 conv=>whnf
 refine Loops.iter (fun (s:Nat)=>observe_fits.s2 c52 s) (fun i137=>mkSt [(0,.osl 64 1),(3,.im (nI (↑i137:Int)))] [(64,.row 70 2 (List.map c_api_Trace c52))] []) (fun i137=>lZ c52∧True) h (eA [(64,some 5)]) (by rintro i137;exact ((Holds.kdl 64 rfl).and (hT))) ?_
 clear h
 rintro k i137 o hp h ho158
 replace h:observe_fits.s2 c52 i137=some o:=h
 unfold observe_fits.s2 at h
 obtain ⟨z179,_⟩:=hp
 conv=>whnf
 refine Side.mk rfl ?_
 conv=>whnf
 refine Nf.mk (List.length c52) len_map ?_
 conv=>whnf
 refine Both.mk ?_ ?_<;>intro b159
 obtain ⟨h,b159d⟩:=ctd b159 h
 conv=>whnf
 obtain ⟨y169,hc,hk161⟩:=bind_some h
 clear h
 have h:=hc
 clear hc
 refine Cut.mk (mkSt [(0,.osl 64 1),(3,.im (nI (↑i137:Int))),(38,.im (nB y169))] [(64,.row 70 2 (List.map c_api_Trace c52))] []) (lZ c52∧True) ((Holds.kdl 64 rfl).and (hT)) ?_ (fun hp=>?_)
 conv=>whnf
 obtain ⟨e170,he170,h⟩:=idxn_some h
 refine Side.mk ⟨(by omega),rfl,map_lt he170⟩ ?_
 conv=>whnf
 refine Side.mk rfl ?_
 conv=>whnf
 refine ⟨_,_,⟨rfl,map_at he170,rfl,rfl⟩,?_⟩
 conv=>whnf
 refine Arith.mk (by show inR _;unfold inR;omega) ?_
 conv=>whnf
 obtain ⟨e171,he171z,he171,h⟩:=idx_some h
 refine Side.mk ⟨he171z,rfl,map_lt he171⟩ ?_
 conv=>whnf
 refine Side.mk rfl ?_
 conv=>whnf
 refine ⟨_,_,⟨rfl,map_at he171,rfl,rfl⟩,?_⟩
 conv=>whnf
 obtain ⟨c172,hc172,h⟩:=bind_some h
 refine ⟨_,(sp_word_HasPrefix e170.In e171.In c172 (fun _ _=>hc172)),?_⟩
 conv=>whnf
 refine Both.mk ?_ ?_<;>intro b173
 replace b173:=beq_ff b173
 replace h:=cond_f b173 h
 conv=>whnf
 iterate 2 (refine Both.yes (ff_beq b173) ?_;(conv=>whnf))
 refine Arith.mk (by show inR _;unfold inR;omega) ?_
 conv=>whnf
 refine Both.yes (ff_beq b173) ?_
 conv=>whnf
 obtain ⟨e174,he174z,he174,h⟩:=idx_some h
 refine Side.mk ⟨he174z,rfl,map_lt he174⟩ ?_
 conv=>whnf
 refine Both.yes (ff_beq b173) ?_
 conv=>whnf
 refine ⟨_,⟨rfl,map_at he174,of_decide_eq_true rfl,rfl⟩,?_⟩
 conv=>whnf
 iterate 3 (refine Both.yes (ff_beq b173) ?_;(conv=>whnf))
 obtain ⟨e175,he175,h⟩:=idxn_some h
 refine Side.mk ⟨(by omega),rfl,map_lt he175⟩ ?_
 conv=>whnf
 refine Both.yes (ff_beq b173) ?_
 conv=>whnf
 refine ⟨_,⟨rfl,map_at he175,of_decide_eq_true rfl,rfl⟩,?_⟩
 conv=>whnf
 refine Both.yes (ff_beq b173) ?_
 conv=>whnf
 obtain ⟨c176,hc176,h⟩:=bind_some h
 refine ⟨_,(sp_observe_differ e174 e175 c176 (fun _ _=>hc176)),?_⟩
 conv=>whnf
 refine Both.yes (ff_beq b173) ?_
 conv=>whnf
 refine Both.no b173 ?_
 conv=>whnf
 cases h
 exact Join.mk (eA [(64,some 64)])
 replace b173:=beq_ft b173
 replace h:=cond_t b173 h
 conv=>whnf
 iterate 10 (refine Both.no (tf_beq b173) ?_;(conv=>whnf))
 refine Both.yes b173 ?_
 conv=>whnf
 cases h
 exact Join.mk (eA [(64,some 64)])
 replace h:=hk161
 obtain ⟨z177,_⟩:=hp
 conv=>whnf
 refine Both.mk ?_ ?_<;>intro b178
 replace h:=cond_t b178 h
 conv=>whnf
 cases h
 have ho158:_=_:=ho158
 cases ho158
 replace h:some _=some _:=hk53
 cases h
 conv=>whnf
 exact ⟨rfl,rfl⟩
 replace h:=cond_f b178 h
 conv=>whnf
 refine Arith.mk (by show inR _;unfold inR;omega) ?_
 conv=>whnf
 cases h
 exact Nxt.mk _ ho158 (eA [(64,some 64)])
 obtain ⟨h,b159d⟩:=cfd b159 h
 conv=>whnf
 cases h
 have ho158:_=_:=ho158
 cases ho158
 exact JoinS.mk' _ rfl (eA [])
 rintro ⟨⟩ rfl hp
 replace h:=sum_inl hk53
 conv=>whnf
 cases h
 conv=>whnf
 exact ⟨rfl,rfl⟩
theorem sp_observe_proper_1 (o_:Int) (r:Bool) (h:Ok (nI o_)→observe_proper_1 o_=some r):Sp Tryz.prog 139 [.im (nI o_)] (.im (nB r)):=by
 refine sp_of rfl [] rfl rfl rfl (Nat.le_of_ble_eq_true rfl) rfl fun hk=>?_
 replace h:=h hk.1
 unfold observe_proper_1 at h
 conv=>whnf
 obtain ⟨y54,hc,hk52⟩:=bind_some h
 clear h
 have h:=hc
 clear hc
 refine Cut.mk (mkSt [(2,.im (nB y54))] [] []) (True) (hT) ?_ (fun hp=>?_)
 conv=>whnf
 refine Both.mk ?_ ?_<;>intro b55
 replace b55:=beq_ff b55
 obtain ⟨h,b55d⟩:=cfd b55 h
 conv=>whnf
 refine Both.yes (ff_beq b55) ?_
 conv=>whnf
 refine Both.no b55 ?_
 conv=>whnf
 cases h
 exact Join.mk (eA [])
 replace b55:=beq_ft b55
 obtain ⟨h,b55d⟩:=ctd b55 h
 conv=>whnf
 refine Both.no (tf_beq b55) ?_
 conv=>whnf
 refine Both.yes b55 ?_
 conv=>whnf
 cases h
 exact Join.mk (eA [])
 replace h:=hk52
 conv=>whnf
 cases h
 conv=>whnf
 exact ⟨rfl,rfl⟩
theorem sp_observe_proper (t_:T_api_Trace) (inputs_:Int) (r:Int) (h:Ok (.agg (c_api_Trace t_))→Ok (nI inputs_)→observe_proper t_ inputs_=some r):Sp Tryz.prog 111 [.im (.agg (c_api_Trace t_)),.im (nI inputs_)] (.im (nI r)):=by
 refine sp_of rfl [700002] rfl rfl rfl (Nat.le_of_ble_eq_true rfl) rfl fun hk=>?_
 replace h:=h hk.1 hk.2.1
 have z1:lZ t_.In:=ok_len (Ok.agg_at hk.1 0 rfl)
 have z2:lZ t_.Out:=ok_len (Ok.agg_at hk.1 1 rfl)
 unfold observe_proper at h
 conv=>whnf
 obtain ⟨c51,hc51,h⟩:=bind_some h
 refine ⟨_,(sp_word_Check t_.In inputs_ c51 (fun _ _=>hc51)),?_⟩
 conv=>whnf
 refine Both.mk ?_ ?_<;>intro b52
 obtain ⟨h,b52d⟩:=ctd b52 h
 conv=>whnf
 cases h
 conv=>whnf
 exact ⟨rfl,rfl⟩
 obtain ⟨h,b52d⟩:=cfd b52 h
 conv=>whnf
 refine Nf.mk (List.length t_.Out) len_map ?_
 conv=>whnf
 refine Nf.mk (List.length t_.In) len_map ?_
 conv=>whnf
 refine Both.mk ?_ ?_<;>intro b53
 obtain ⟨h,b53d⟩:=ctd b53 h
 conv=>whnf
 cases h
 conv=>whnf
 exact ⟨rfl,rfl⟩
 obtain ⟨h,b53d⟩:=cfd b53 h
 conv=>whnf
 obtain ⟨c54,hc54,h⟩:=bind_some h
 refine ⟨_,(sp_slices_ContainsFunc_Sint_int t_.Out (fun u0=>observe_proper_1 u0) 139 (fun u0 r h=>(sp_observe_proper_1 u0 r (fun _=>h))) c54 (fun _ _=>hc54)),?_⟩
 conv=>whnf
 refine Both.mk ?_ ?_<;>intro b55
 replace h:=cond_t b55 h
 conv=>whnf
 cases h
 conv=>whnf
 exact ⟨rfl,rfl⟩
 replace h:=cond_f b55 h
 conv=>whnf
 cases h
 conv=>whnf
 exact ⟨rfl,rfl⟩
theorem sp_cmp_Or_int (vals_:List Int) (r:Int) (h:Ok (nL cI vals_)→cmp_Or_int vals_=some r):Sp Tryz.prog 152 [.im (nL cI vals_)] (.im (nI r)):=by
 refine sp_of rfl [] rfl rfl rfl (Nat.le_of_ble_eq_true rfl) rfl fun hk=>?_
 replace h:=h hk.1
 have z1:lZ vals_:=ok_len hk.1
 unfold cmp_Or_int at h
 conv=>whnf
 refine Nf.mk (List.length vals_) len_map ?_
 conv=>whnf
 obtain ⟨oc,hc,hk51⟩:=bind_some h
 clear h
 have h:=hc
 clear hc
 refine Cut.mkS oc (Y:=Unit) (fun (_:Unit)=>mkSt [(3,.im (nI 0))] [] []) (fun (_:Unit)=>True) (by rintro ⟨⟩;exact (hT)) ?_ ?_
 conv=>whnf
 refine Loops.iter (fun (s:Nat)=>cmp_Or_int.s2 vals_ s) (fun y67=>mkSt [(3,.im (nI 0)),(6,.im (nL cI vals_)),(7,.im (nI (↑(List.length vals_):Int))),(8,.im (nI (↑y67:Int)))] [] []) (fun y67=>lZ vals_∧True) h (eA []) (by rintro y67;exact ((Holds.avl 6 rfl).and (hT))) ?_
 clear h
 rintro k y67 o hp h ho71
 replace h:cmp_Or_int.s2 vals_ y67=some o:=h
 unfold cmp_Or_int.s2 at h
 obtain ⟨z75,_⟩:=hp
 conv=>whnf
 refine Both.mk ?_ ?_<;>intro b72
 obtain ⟨h,b72d⟩:=ctd b72 h
 conv=>whnf
 obtain ⟨e73,he73,h⟩:=idxn_some h
 refine ⟨_,⟨(by omega),map_at he73,rfl⟩,?_⟩
 conv=>whnf
 refine Both.mk ?_ ?_<;>intro b74
 obtain ⟨h,b74d⟩:=ctd b74 h
 conv=>whnf
 cases h
 have ho71:_=_:=ho71
 cases ho71
 replace h:some _=some _:=hk51
 cases h
 conv=>whnf
 exact ⟨rfl,rfl⟩
 obtain ⟨h,b74d⟩:=cfd b74 h
 conv=>whnf
 refine Arith.mk (by show inR _;unfold inR;omega) ?_
 conv=>whnf
 cases h
 exact Nxt.mk _ ho71 (eA [])
 obtain ⟨h,b72d⟩:=cfd b72 h
 conv=>whnf
 cases h
 have ho71:_=_:=ho71
 cases ho71
 exact JoinS.mk' _ rfl (eA [])
 rintro ⟨⟩ rfl hp
 replace h:=sum_inl hk51
 conv=>whnf
 cases h
 conv=>whnf
 exact ⟨rfl,rfl⟩
theorem sp_word_Compare (a_:List Int) (b_:List Int) (r:Int) (h:Ok (nL cI a_)→Ok (nL cI b_)→word_Compare a_ b_=some r):Sp Tryz.prog 130 [.im (nL cI a_),.im (nL cI b_)] (.im (nI r)):=by
 refine sp_of rfl [] rfl rfl rfl (Nat.le_of_ble_eq_true rfl) rfl fun hk=>?_
 replace h:=h hk.1 hk.2.1
 have z1:lZ a_:=ok_len hk.1
 have z2:lZ b_:=ok_len hk.2.1
 unfold word_Compare at h
 conv=>whnf
 refine Nf.mk (List.length a_) len_map ?_
 conv=>whnf
 refine Nf.mk (List.length b_) len_map ?_
 conv=>whnf
 obtain ⟨c51,hc51,h⟩:=bind_some h
 refine ⟨_,(sp_cmp_Compare_int (↑(List.length a_):Int) (↑(List.length b_):Int) c51 (fun _ _=>hc51)),?_⟩
 conv=>whnf
 obtain ⟨c52,hc52,h⟩:=bind_some h
 refine ⟨_,(sp_slices_Compare_Sint_int a_ b_ c52 (fun _ _=>hc52)),?_⟩
 conv=>whnf
 obtain ⟨c53,hc53,h⟩:=bind_some h
 refine ⟨_,(sp_cmp_Or_int [c51,c52] c53 (fun _=>hc53)),?_⟩
 conv=>whnf
 cases h
 conv=>whnf
 exact ⟨rfl,rfl⟩
theorem sp_observe_order (a_:T_api_Trace) (b_:T_api_Trace) (r:Int) (h:Ok (.agg (c_api_Trace a_))→Ok (.agg (c_api_Trace b_))→observe_order a_ b_=some r):Sp Tryz.prog 112 [.im (.agg (c_api_Trace a_)),.im (.agg (c_api_Trace b_))] (.im (nI r)):=by
 refine sp_of rfl [700002,700003] rfl rfl rfl (Nat.le_of_ble_eq_true rfl) rfl fun hk=>?_
 replace h:=h hk.1 hk.2.1
 have z1:lZ a_.In:=ok_len (Ok.agg_at hk.1 0 rfl)
 have z2:lZ a_.Out:=ok_len (Ok.agg_at hk.1 1 rfl)
 have z3:lZ b_.In:=ok_len (Ok.agg_at hk.2.1 0 rfl)
 have z4:lZ b_.Out:=ok_len (Ok.agg_at hk.2.1 1 rfl)
 unfold observe_order at h
 conv=>whnf
 obtain ⟨c51,hc51,h⟩:=bind_some h
 refine ⟨_,(sp_word_Compare a_.In b_.In c51 (fun _ _=>hc51)),?_⟩
 conv=>whnf
 cases h
 conv=>whnf
 exact ⟨rfl,rfl⟩
end Go.Proofs.YtkeplokjplkcmaaGreat.Sym
