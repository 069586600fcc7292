/-
  The contracts of the functions, read from the code by a program (ext.py): each function has its plain twin as its contract.
-/
import Derived.Test.YtedabpfahmealaaGreatDoorM4
set_option linter.all false
namespace Go.Proofs.YtedabpfahmealaaGreatDoor.Sym
open Go.RowKit
set_option maxRecDepth 100000
set_option linter.unusedVariables false
set_option maxHeartbeats 4000000
theorem eI {σ:St} {src:List (Nat×Option Nat)} {γ:Nat→Nat} {t:Nat} {y b:IV} (h1:σ.av t=.im y) (h2:AV.im y=.im b):∃ x,σ.av t=x∧SubR σ src γ x (.im b):=⟨.im y,h1,.im (Sub.rfl' h2)⟩
theorem odt {p:Prop} [Decidable p] (h:decide p=true):p:=of_decide_eq_true h
theorem odf {p:Prop} [Decidable p] (h:decide p=false):¬ p:=of_decide_eq_false h
theorem ctd {α:Type} {p:Prop} [Decidable p] {x y z:α} (hb:decide p=true) (h:cond (decide p) x y=z):x=z∧p:=⟨cond_t hb h,odt hb⟩
theorem cfd {α:Type} {p:Prop} [Decidable p] {x y z:α} (hb:decide p=false) (h:cond (decide p) x y=z):y=z∧¬ p:=⟨cond_f hb h,odf hb⟩
theorem hT {σ:St}:Holds σ True:=Holds.true_ _
abbrev lZ {α:Type} (l:List α):Prop:=List.length l≤17592186044416
theorem eA {σ:St} {avs:List (Nat×AV)} {kds:List (Nat×Kd)} {cels:List (Nat×Nat×AV)} (src:List (Nat×Option Nat)) (hn:ndB (srcs src) []=true:=by exact rfl) (ha:SubL σ src (gnM kds) avs:=by repeat' (first | exact trivial | refine ⟨eI rfl rfl,?_⟩ | refine ⟨⟨.own _ _ _,rfl,.own rfl rfl rfl⟩,?_⟩ | refine ⟨⟨.osl _ _,rfl,.osl rfl rfl rfl⟩,?_⟩ | refine ⟨⟨.im (.val (.slice none 0 0)),rfl,.made rfl rfl⟩,?_⟩)) (hk:KdL σ src kds:=by repeat' (first | exact trivial | refine ⟨.inl ⟨_,rfl,rfl,trivial⟩,?_⟩ | refine ⟨.inl ⟨_,rfl,rfl,⟨rfl,rfl⟩⟩,?_⟩ | refine ⟨.inr ⟨rfl,rfl,.inl ⟨_,_,rfl,by decide⟩⟩,?_⟩)) (hc:CeL σ src (gnM kds) cels:=by repeat' (first | exact trivial | refine ⟨⟨_,.im _,rfl,rfl,.im (Sub.rfl' rfl)⟩,?_⟩ | refine ⟨⟨_,.own _ _ _,rfl,rfl,.own rfl rfl rfl⟩,?_⟩ | refine ⟨⟨_,.osl _ _,rfl,rfl,.osl rfl rfl rfl⟩,?_⟩)):Ent σ (mkSt avs kds cels):=Ent.mk src hn ha hk hc
theorem sp_R01_Common (a_:List Int) (b_:List Int) (r:Int) (h:Ok (nL cI a_)→Ok (nL cI b_)→R01_Common a_ b_=some r):Sp Tryz.prog 112 [.im (nL cI a_),.im (nL cI b_)] (.im (nI r)):=by
 refine sp_of rfl [] rfl rfl rfl (Nat.le_of_ble_eq_true rfl) rfl fun hk=>?_
 replace h:=h hk.1 hk.2.1
 have z1:lZ a_:=ok_len hk.1
 have z2:lZ b_:=ok_len hk.2.1
 unfold R01_Common at h
 conv=>whnf
 obtain ⟨i100,hc,hk51⟩:=bind_some h
 clear h
 have h:=hc
 clear hc
 refine Cut.mk (mkSt [(5,.im (nI (↑i100:Int)))] [] []) (True) (hT) ?_ (fun hp=>?_)
 conv=>whnf
 refine Loops.iter (fun (s:Nat)=>R01_Common.s2 a_ b_ s) (fun i115=>mkSt [(0,.im (nL cI a_)),(1,.im (nL cI b_)),(5,.im (nI (↑i115:Int)))] [] []) (fun i115=>lZ a_∧lZ b_∧True) h (eA []) (by rintro i115;exact ((Holds.avl 0 rfl).and ((Holds.avl 1 rfl).and (hT)))) ?_
 clear h
 rintro k i115 o hp h ho131
 replace h:R01_Common.s2 a_ b_ i115=some o:=h
 unfold R01_Common.s2 at h
 obtain ⟨z147,z148,_⟩:=hp
 conv=>whnf
 obtain ⟨y138,hc,hk133⟩:=bind_some h
 clear h
 have h:=hc
 clear hc
 refine Cut.mk (mkSt [(0,.im (nL cI a_)),(1,.im (nL cI b_)),(5,.im (nI (↑i115:Int))),(26,.im (nB y138))] [] []) (lZ a_∧lZ b_∧True) ((Holds.avl 0 rfl).and ((Holds.avl 1 rfl).and (hT))) ?_ (fun hp=>?_)
 conv=>whnf
 refine Nf.mk (List.length a_) len_map ?_
 conv=>whnf
 refine Both.mk ?_ ?_<;>intro b139
 replace b139:=beq_tt b139
 obtain ⟨h,b139d⟩:=ctd b139 h
 conv=>whnf
 iterate 2 (refine Both.yes (tt_beq b139) ?_;(conv=>whnf))
 refine Nf.mk (List.length b_) len_map ?_
 conv=>whnf
 refine Both.yes (tt_beq b139) ?_
 conv=>whnf
 refine Both.yes b139 ?_
 conv=>whnf
 refine Both.mk ?_ ?_<;>intro b140
 replace b140:=beq_tt b140
 obtain ⟨h,b140d⟩:=ctd b140 h
 conv=>whnf
 iterate 2 (refine Both.yes (tt_beq b140) ?_;(conv=>whnf))
 obtain ⟨e141,he141,h⟩:=idxn_some h
 refine ⟨_,⟨(by omega),map_at he141,rfl⟩,?_⟩
 conv=>whnf
 iterate 4 (refine Both.yes (tt_beq b140) ?_;(conv=>whnf))
 obtain ⟨e142,he142,h⟩:=idxn_some h
 refine ⟨_,⟨(by omega),map_at he142,rfl⟩,?_⟩
 conv=>whnf
 iterate 2 (refine Both.yes (tt_beq b140) ?_;(conv=>whnf))
 refine Both.yes b140 ?_
 conv=>whnf
 cases h
 exact Join.mk (eA [])
 replace b140:=beq_tf b140
 obtain ⟨h,b140d⟩:=cfd b140 h
 conv=>whnf
 iterate 8 (refine Both.no (ft_beq b140) ?_;(conv=>whnf))
 refine Both.no b140 ?_
 conv=>whnf
 cases h
 exact Join.mk (eA [])
 replace b139:=beq_tf b139
 obtain ⟨h,b139d⟩:=cfd b139 h
 conv=>whnf
 iterate 3 (refine Both.no (ft_beq b139) ?_;(conv=>whnf))
 refine Both.no b139 ?_
 conv=>whnf
 iterate 10 (refine Both.no rfl ?_;(conv=>whnf))
 cases h
 exact Join.mk (eA [])
 replace h:=hk133
 obtain ⟨z143,z144,_⟩:=hp
 conv=>whnf
 refine Both.mk ?_ ?_<;>intro b145
 replace h:=cond_t b145 h
 conv=>whnf
 obtain ⟨c146,h⟩:=chk_some h
 refine Arith.mk c146 ?_
 conv=>whnf
 cases h
 exact Nxt.mk _ ho131 (eA [])
 replace h:=cond_f b145 h
 conv=>whnf
 cases h
 have ho131:_=_:=ho131
 cases ho131
 exact Join.mk (eA [])
 replace h:=hk51
 conv=>whnf
 cases h
 conv=>whnf
 exact ⟨rfl,rfl⟩
theorem sp_R01_Same (a_:List Int) (b_:List Int) (r:Bool) (h:Ok (nL cI a_)→Ok (nL cI b_)→R01_Same a_ b_=some r):Sp Tryz.prog 54 [.im (nL cI a_),.im (nL cI b_)] (.im (nB r)):=by
 refine sp_of rfl [] rfl rfl rfl (Nat.le_of_ble_eq_true rfl) rfl fun hk=>?_
 replace h:=h hk.1 hk.2.1
 have z1:lZ a_:=ok_len hk.1
 have z2:lZ b_:=ok_len hk.2.1
 unfold R01_Same at h
 conv=>whnf
 obtain ⟨y55,hc,hk52⟩:=bind_some h
 clear h
 have h:=hc
 clear hc
 refine Cut.mk (mkSt [(4,.im (nB y55))] [] []) (True) (hT) ?_ (fun hp=>?_)
 conv=>whnf
 refine Nf.mk (List.length a_) len_map ?_
 conv=>whnf
 refine Nf.mk (List.length b_) len_map ?_
 conv=>whnf
 refine Both.mk ?_ ?_<;>intro b56
 replace b56:=beq_tt b56
 obtain ⟨h,b56d⟩:=ctd b56 h
 conv=>whnf
 iterate 2 (refine Both.yes (tt_beq b56) ?_;(conv=>whnf))
 obtain ⟨c57,hc57,h⟩:=bind_some h
 refine ⟨_,(sp_R01_Common a_ b_ c57 (fun _ _=>hc57)),?_⟩
 conv=>whnf
 iterate 2 (refine Both.yes (tt_beq b56) ?_;(conv=>whnf))
 refine Nf.mk (List.length a_) len_map ?_
 conv=>whnf
 refine Both.yes (tt_beq b56) ?_
 conv=>whnf
 refine Both.yes b56 ?_
 conv=>whnf
 cases h
 exact Join.mk (eA [])
 replace b56:=beq_tf b56
 obtain ⟨h,b56d⟩:=cfd b56 h
 conv=>whnf
 iterate 5 (refine Both.no (ft_beq b56) ?_;(conv=>whnf))
 refine Both.no b56 ?_
 conv=>whnf
 cases h
 exact Join.mk (eA [])
 replace h:=hk52
 conv=>whnf
 cases h
 conv=>whnf
 exact ⟨rfl,rfl⟩
theorem sp_R01_SameWords (a_:List (List Int)) (b_:List (List Int)) (r:Bool) (h:Ok (nL (cL cI) a_)→Ok (nL (cL cI) b_)→R01_SameWords a_ b_=some r):Sp Tryz.prog 17 [.im (nL (cL cI) a_),.im (nL (cL cI) b_)] (.im (nB r)):=by
 refine sp_of rfl [] rfl rfl rfl (Nat.le_of_ble_eq_true rfl) rfl fun hk=>?_
 replace h:=h hk.1 hk.2.1
 have z1:lZ a_:=ok_len hk.1
 have z2:lZ b_:=ok_len hk.2.1
 unfold R01_SameWords at h
 conv=>whnf
 refine Nf.mk (List.length a_) len_map ?_
 conv=>whnf
 refine Nf.mk (List.length b_) len_map ?_
 conv=>whnf
 refine Both.mk ?_ ?_<;>intro b51
 obtain ⟨h,b51d⟩:=ctd b51 h
 conv=>whnf
 cases h
 conv=>whnf
 exact ⟨rfl,rfl⟩
 obtain ⟨h,b51d⟩:=cfd b51 h
 conv=>whnf
 obtain ⟨oc,hc,hk52⟩:=bind_some h
 clear h
 have h:=hc
 clear hc
 refine Cut.mkS oc (Y:=Unit) (fun (_:Unit)=>mkSt [] [] []) (fun (_:Unit)=>True) (by rintro ⟨⟩;exact (hT)) ?_ ?_
 conv=>whnf
 refine Loops.iter (fun (s:Nat)=>R01_SameWords.s2 a_ b_ s) (fun i77=>mkSt [(0,.im (nL (cL cI) a_)),(1,.im (nL (cL cI) b_)),(5,.im (nI (↑i77:Int)))] [] []) (fun i77=>lZ a_∧lZ b_∧True) h (eA []) (by rintro i77;exact ((Holds.avl 0 rfl).and ((Holds.avl 1 rfl).and (hT)))) ?_
 clear h
 rintro k i77 o hp h ho83
 replace h:R01_SameWords.s2 a_ b_ i77=some o:=h
 unfold R01_SameWords.s2 at h
 obtain ⟨z89,z90,_⟩:=hp
 conv=>whnf
 refine Nf.mk (List.length a_) len_map ?_
 conv=>whnf
 refine Both.mk ?_ ?_<;>intro b84
 obtain ⟨h,b84d⟩:=ctd b84 h
 conv=>whnf
 obtain ⟨e85,he85,h⟩:=idxn_some h
 refine ⟨_,⟨(by omega),map_at he85,rfl⟩,?_⟩
 conv=>whnf
 obtain ⟨e86,he86,h⟩:=idxn_some h
 refine ⟨_,⟨(by omega),map_at he86,rfl⟩,?_⟩
 conv=>whnf
 obtain ⟨c87,hc87,h⟩:=bind_some h
 refine ⟨_,(sp_R01_Same e85 e86 c87 (fun _ _=>hc87)),?_⟩
 conv=>whnf
 refine Both.mk ?_ ?_<;>intro b88
 replace h:=cond_t b88 h
 conv=>whnf
 cases h
 have ho83:_=_:=ho83
 cases ho83
 replace h:some _=some _:=hk52
 cases h
 conv=>whnf
 exact ⟨rfl,rfl⟩
 replace h:=cond_f b88 h
 conv=>whnf
 refine Arith.mk (by show inR _;unfold inR;omega) ?_
 conv=>whnf
 cases h
 exact Nxt.mk _ ho83 (eA [])
 obtain ⟨h,b84d⟩:=cfd b84 h
 conv=>whnf
 cases h
 have ho83:_=_:=ho83
 cases ho83
 exact JoinS.mk' _ rfl (eA [])
 rintro ⟨⟩ rfl hp
 replace h:=sum_inl hk52
 conv=>whnf
 cases h
 conv=>whnf
 exact ⟨rfl,rfl⟩
theorem sp_R28_Table (l_:T_api_Lazy) (r:T_api_Table) (h:Ok (.agg (c_api_Lazy l_))→R28_Table l_=some r):Sp Tryz.prog 38 [.im (.agg (c_api_Lazy l_))] (.im (.agg (c_api_Table r))):=by
 refine sp_of rfl [700001] rfl rfl rfl (Nat.le_of_ble_eq_true rfl) rfl fun hk=>?_
 replace h:=h hk.1
 have z1:lZ l_.Short:=ok_len (Ok.agg_at hk.1 1 rfl)
 have z2:lZ l_.Suffixes:=ok_len (Ok.agg_at hk.1 2 rfl)
 unfold R28_Table at h
 conv=>whnf
 refine Side.mk rfl ?_
 conv=>whnf
 cases h
 conv=>whnf
 refine Side.mk ⟨rfl,trivial⟩ ?_
 conv=>whnf
 exact ⟨rfl,rfl⟩
theorem sp_L23_Long (l_:List (List Int)) (most_:Int) (r:Bool) (h:Ok (nL (cL cI) l_)→Ok (nI most_)→L23_Long l_ most_=some r):Sp Tryz.prog 91 [.im (nL (cL cI) l_),.im (nI most_)] (.im (nB r)):=by
 refine sp_of rfl [] rfl rfl rfl (Nat.le_of_ble_eq_true rfl) rfl fun hk=>?_
 replace h:=h hk.1 hk.2.1
 have z1:lZ l_:=ok_len hk.1
 unfold L23_Long at h
 conv=>whnf
 refine Nf.mk (List.length l_) len_map ?_
 conv=>whnf
 refine Both.mk ?_ ?_<;>intro b51
 obtain ⟨h,b51d⟩:=ctd b51 h
 conv=>whnf
 cases h
 conv=>whnf
 exact ⟨rfl,rfl⟩
 obtain ⟨h,b51d⟩:=cfd b51 h
 conv=>whnf
 obtain ⟨oc,hc,hk52⟩:=bind_some h
 clear h
 have h:=hc
 clear hc
 refine Cut.mkS oc (Y:=Unit) (fun (_:Unit)=>mkSt [] [] []) (fun (_:Unit)=>True) (by rintro ⟨⟩;exact (hT)) ?_ ?_
 conv=>whnf
 refine Loops.iter (fun (s:Nat)=>L23_Long.s2 l_ s) (fun i68=>mkSt [(0,.im (nL (cL cI) l_)),(5,.im (nI (↑i68:Int)))] [] []) (fun i68=>lZ l_∧True) h (eA []) (by rintro i68;exact ((Holds.avl 0 rfl).and (hT))) ?_
 clear h
 rintro k i68 o hp h ho72
 replace h:L23_Long.s2 l_ i68=some o:=h
 unfold L23_Long.s2 at h
 obtain ⟨z76,_⟩:=hp
 conv=>whnf
 refine Nf.mk (List.length l_) len_map ?_
 conv=>whnf
 refine Both.mk ?_ ?_<;>intro b73
 obtain ⟨h,b73d⟩:=ctd b73 h
 conv=>whnf
 obtain ⟨e74,he74,h⟩:=idxn_some h
 refine ⟨_,⟨(by omega),map_at he74,rfl⟩,?_⟩
 conv=>whnf
 refine Nf.mk (List.length e74) len_map ?_
 conv=>whnf
 refine Both.mk ?_ ?_<;>intro b75
 obtain ⟨h,b75d⟩:=ctd b75 h
 conv=>whnf
 cases h
 have ho72:_=_:=ho72
 cases ho72
 replace h:some _=some _:=hk52
 cases h
 conv=>whnf
 exact ⟨rfl,rfl⟩
 obtain ⟨h,b75d⟩:=cfd b75 h
 conv=>whnf
 refine Arith.mk (by show inR _;unfold inR;omega) ?_
 conv=>whnf
 cases h
 exact Nxt.mk _ ho72 (eA [])
 obtain ⟨h,b73d⟩:=cfd b73 h
 conv=>whnf
 cases h
 have ho72:_=_:=ho72
 cases ho72
 exact JoinS.mk' _ rfl (eA [])
 rintro ⟨⟩ rfl hp
 replace h:=sum_inl hk52
 conv=>whnf
 cases h
 conv=>whnf
 exact ⟨rfl,rfl⟩
theorem sp_L23_Great (t_:T_api_Table) (o_:T_api_Obs) (r:Bool) (h:Ok (.agg (c_api_Table t_))→Ok (.agg (c_api_Obs o_))→L23_Great t_ o_=some r):Sp Tryz.prog 37 [.im (.agg (c_api_Table t_)),.im (.agg (c_api_Obs o_))] (.im (nB r)):=by
 refine sp_of rfl [700002,700003] rfl rfl rfl (Nat.le_of_ble_eq_true rfl) rfl fun hk=>?_
 replace h:=h hk.1 hk.2.1
 have z1:lZ t_.Prefixes:=ok_len (Ok.agg_at hk.1 1 rfl)
 have z2:lZ t_.Suffixes:=ok_len (Ok.agg_at hk.1 2 rfl)
 have z3:lZ o_.Traces:=ok_len (Ok.agg_at hk.2.1 1 rfl)
 unfold L23_Great at h
 conv=>whnf
 obtain ⟨y58,hc,hk52⟩:=bind_some h
 clear h
 have h:=hc
 clear hc
 refine Cut.mk (mkSt [(3,.im (.ref (c_api_Obs o_))),(24,.im (nB y58))] [] []) (True) (hT) ?_ (fun hp=>?_)
 conv=>whnf
 refine Both.mk ?_ ?_<;>intro b59
 replace b59:=beq_ff b59
 obtain ⟨h,b59d⟩:=cfd b59 h
 conv=>whnf
 iterate 2 (refine Both.yes (ff_beq b59) ?_;(conv=>whnf))
 obtain ⟨c60,hc60,h⟩:=bind_some h
 refine ⟨_,(sp_L23_Long t_.Prefixes 30 c60 (fun _ _=>hc60)),?_⟩
 conv=>whnf
 refine Both.no b59 ?_
 conv=>whnf
 refine Both.mk ?_ ?_<;>intro b61
 replace b61:=beq_ff b61
 replace h:=cond_f b61 h
 conv=>whnf
 iterate 2 (refine Both.yes (ff_beq b61) ?_;(conv=>whnf))
 obtain ⟨c62,hc62,h⟩:=bind_some h
 refine ⟨_,(sp_L23_Long t_.Suffixes 12 c62 (fun _ _=>hc62)),?_⟩
 conv=>whnf
 refine Both.no b61 ?_
 conv=>whnf
 refine Both.mk ?_ ?_<;>intro b63
 replace b63:=beq_ff b63
 replace h:=cond_f b63 h
 conv=>whnf
 iterate 2 (refine Both.yes (ff_beq b63) ?_;(conv=>whnf))
 refine Nf.mk (List.length o_.Traces) len_map ?_
 conv=>whnf
 refine Both.yes (ff_beq b63) ?_
 conv=>whnf
 refine Both.no b63 ?_
 conv=>whnf
 cases h
 exact Join.mk (eA [])
 replace b63:=beq_ft b63
 replace h:=cond_t b63 h
 conv=>whnf
 iterate 3 (refine Both.no (tf_beq b63) ?_;(conv=>whnf))
 refine Both.yes b63 ?_
 conv=>whnf
 cases h
 exact Join.mk (eA [])
 replace b61:=beq_ft b61
 replace h:=cond_t b61 h
 conv=>whnf
 iterate 2 (refine Both.no (tf_beq b61) ?_;(conv=>whnf))
 refine Both.yes b61 ?_
 conv=>whnf
 iterate 4 (refine Both.no rfl ?_;(conv=>whnf))
 refine Both.yes rfl ?_
 conv=>whnf
 cases h
 exact Join.mk (eA [])
 replace b59:=beq_ft b59
 obtain ⟨h,b59d⟩:=ctd b59 h
 conv=>whnf
 iterate 2 (refine Both.no (tf_beq b59) ?_;(conv=>whnf))
 refine Both.yes b59 ?_
 conv=>whnf
 iterate 3 (refine Both.no rfl ?_;(conv=>whnf))
 refine Both.yes rfl ?_
 conv=>whnf
 iterate 4 (refine Both.no rfl ?_;(conv=>whnf))
 refine Both.yes rfl ?_
 conv=>whnf
 cases h
 exact Join.mk (eA [])
 replace h:=hk52
 conv=>whnf
 refine Both.mk ?_ ?_<;>intro b64
 replace h:=cond_t b64 h
 conv=>whnf
 cases h
 conv=>whnf
 exact ⟨rfl,rfl⟩
 replace h:=cond_f b64 h
 conv=>whnf
 obtain ⟨oc,hc,hk65⟩:=bind_some h
 clear h
 have h:=hc
 clear hc
 refine Cut.mkS oc (Y:=Unit) (fun (_:Unit)=>mkSt [] [] []) (fun (_:Unit)=>True) (by rintro ⟨⟩;exact (hT)) ?_ ?_
 conv=>whnf
 refine Loops.iter (fun (s:Nat)=>L23_Great.s2 o_ s) (fun i80=>mkSt [(3,.im (.ref (c_api_Obs o_))),(5,.im (nI (↑i80:Int)))] [] []) (fun i80=>True) h (eA []) (by rintro i80;exact (hT)) ?_
 clear h
 rintro k i80 o hp h ho84
 replace h:L23_Great.s2 o_ i80=some o:=h
 unfold L23_Great.s2 at h
 conv=>whnf
 refine Nf.mk (List.length o_.Traces) len_map ?_
 conv=>whnf
 refine Both.mk ?_ ?_<;>intro b85
 obtain ⟨h,b85d⟩:=ctd b85 h
 conv=>whnf
 obtain ⟨e86,he86,h⟩:=idxn_some h
 refine ⟨_,⟨(by omega),map_at he86,rfl⟩,?_⟩
 conv=>whnf
 refine Nf.mk (List.length e86.In) len_map ?_
 conv=>whnf
 refine Both.mk ?_ ?_<;>intro b87
 obtain ⟨h,b87d⟩:=ctd b87 h
 conv=>whnf
 cases h
 have ho84:_=_:=ho84
 cases ho84
 replace h:some _=some _:=hk65
 cases h
 conv=>whnf
 exact ⟨rfl,rfl⟩
 obtain ⟨h,b87d⟩:=cfd b87 h
 conv=>whnf
 refine Arith.mk (by show inR _;unfold inR;omega) ?_
 conv=>whnf
 cases h
 exact Nxt.mk _ ho84 (eA [])
 obtain ⟨h,b85d⟩:=cfd b85 h
 conv=>whnf
 cases h
 have ho84:_=_:=ho84
 cases ho84
 exact JoinS.mk' _ rfl (eA [])
 rintro ⟨⟩ rfl hp
 replace h:=sum_inl hk65
 conv=>whnf
 cases h
 conv=>whnf
 exact ⟨rfl,rfl⟩
theorem sp_R01_Size (inputs_:Int) (r:Bool) (h:Ok (nI inputs_)→R01_Size inputs_=some r):Sp Tryz.prog 149 [.im (nI inputs_)] (.im (nB r)):=by
 refine sp_of rfl [] rfl rfl rfl (Nat.le_of_ble_eq_true rfl) rfl fun hk=>?_
 replace h:=h hk.1
 unfold R01_Size at h
 conv=>whnf
 obtain ⟨y54,hc,hk52⟩:=bind_some h
 clear h
 have h:=hc
 clear hc
 refine Cut.mk (mkSt [(2,.im (nB y54))] [] []) (True) (hT) ?_ (fun hp=>?_)
 conv=>whnf
 refine Both.mk ?_ ?_<;>intro b55
 replace b55:=beq_tt b55
 obtain ⟨h,b55d⟩:=ctd b55 h
 conv=>whnf
 refine Both.yes (tt_beq b55) ?_
 conv=>whnf
 refine Both.yes b55 ?_
 conv=>whnf
 cases h
 exact Join.mk (eA [])
 replace b55:=beq_tf b55
 obtain ⟨h,b55d⟩:=cfd b55 h
 conv=>whnf
 refine Both.no (ft_beq b55) ?_
 conv=>whnf
 refine Both.no b55 ?_
 conv=>whnf
 cases h
 exact Join.mk (eA [])
 replace h:=hk52
 conv=>whnf
 cases h
 conv=>whnf
 exact ⟨rfl,rfl⟩
theorem sp_R01_Check (w_:List Int) (inputs_:Int) (r:Int) (h:Ok (nL cI w_)→Ok (nI inputs_)→R01_Check w_ inputs_=some r):Sp Tryz.prog 85 [.im (nL cI w_),.im (nI inputs_)] (.im (nI r)):=by
 refine sp_of rfl [] rfl rfl rfl (Nat.le_of_ble_eq_true rfl) rfl fun hk=>?_
 replace h:=h hk.1 hk.2.1
 have z1:lZ w_:=ok_len hk.1
 unfold R01_Check at h
 conv=>whnf
 obtain ⟨c51,hc51,h⟩:=bind_some h
 refine ⟨_,(sp_R01_Size inputs_ c51 (fun _=>hc51)),?_⟩
 conv=>whnf
 refine Both.mk ?_ ?_<;>intro b52
 replace h:=cond_t b52 h
 conv=>whnf
 cases h
 conv=>whnf
 exact ⟨rfl,rfl⟩
 replace h:=cond_f b52 h
 conv=>whnf
 refine Nf.mk (List.length w_) len_map ?_
 conv=>whnf
 refine Both.mk ?_ ?_<;>intro b53
 obtain ⟨h,b53d⟩:=ctd b53 h
 conv=>whnf
 cases h
 conv=>whnf
 exact ⟨rfl,rfl⟩
 obtain ⟨h,b53d⟩:=cfd b53 h
 conv=>whnf
 obtain ⟨oc,hc,hk54⟩:=bind_some h
 clear h
 have h:=hc
 clear hc
 refine Cut.mkS oc (Y:=Unit) (fun (_:Unit)=>mkSt [] [] []) (fun (_:Unit)=>True) (by rintro ⟨⟩;exact (hT)) ?_ ?_
 conv=>whnf
 refine Loops.iter (fun (s:Nat)=>R01_Check.s2 w_ inputs_ s) (fun i106=>mkSt [(0,.im (nL cI w_)),(1,.im (nI inputs_)),(5,.im (nI (↑i106:Int)))] [] []) (fun i106=>lZ w_∧True) h (eA []) (by rintro i106;exact ((Holds.avl 0 rfl).and (hT))) ?_
 clear h
 rintro k i106 o hp h ho119
 replace h:R01_Check.s2 w_ inputs_ i106=some o:=h
 unfold R01_Check.s2 at h
 obtain ⟨z132,_⟩:=hp
 conv=>whnf
 refine Nf.mk (List.length w_) len_map ?_
 conv=>whnf
 refine Both.mk ?_ ?_<;>intro b120
 obtain ⟨h,b120d⟩:=ctd b120 h
 conv=>whnf
 obtain ⟨y126,hc,hk122⟩:=bind_some h
 clear h
 have h:=hc
 clear hc
 refine Cut.mk (mkSt [(0,.im (nL cI w_)),(1,.im (nI inputs_)),(5,.im (nI (↑i106:Int))),(30,.im (nB y126))] [] []) (lZ w_∧True) ((Holds.avl 0 rfl).and (hT)) ?_ (fun hp=>?_)
 conv=>whnf
 obtain ⟨e127,he127,h⟩:=idxn_some h
 refine ⟨_,⟨(by omega),map_at he127,rfl⟩,?_⟩
 conv=>whnf
 refine Both.mk ?_ ?_<;>intro b128
 replace b128:=beq_ff b128
 obtain ⟨h,b128d⟩:=cfd b128 h
 conv=>whnf
 iterate 2 (refine Both.yes (ff_beq b128) ?_;(conv=>whnf))
 obtain ⟨e129,he129,h⟩:=idxn_some h
 refine ⟨_,⟨(by omega),map_at he129,rfl⟩,?_⟩
 conv=>whnf
 iterate 3 (refine Both.yes (ff_beq b128) ?_;(conv=>whnf))
 refine Both.no b128 ?_
 conv=>whnf
 cases h
 exact Join.mk (eA [])
 replace b128:=beq_ft b128
 obtain ⟨h,b128d⟩:=ctd b128 h
 conv=>whnf
 iterate 5 (refine Both.no (tf_beq b128) ?_;(conv=>whnf))
 refine Both.yes b128 ?_
 conv=>whnf
 cases h
 exact Join.mk (eA [])
 replace h:=hk122
 obtain ⟨z130,_⟩:=hp
 conv=>whnf
 refine Both.mk ?_ ?_<;>intro b131
 replace h:=cond_t b131 h
 conv=>whnf
 cases h
 have ho119:_=_:=ho119
 cases ho119
 replace h:some _=some _:=hk54
 cases h
 conv=>whnf
 exact ⟨rfl,rfl⟩
 replace h:=cond_f b131 h
 conv=>whnf
 refine Arith.mk (by show inR _;unfold inR;omega) ?_
 conv=>whnf
 cases h
 exact Nxt.mk _ ho119 (eA [])
 obtain ⟨h,b120d⟩:=cfd b120 h
 conv=>whnf
 cases h
 have ho119:_=_:=ho119
 cases ho119
 exact JoinS.mk' _ rfl (eA [])
 rintro ⟨⟩ rfl hp
 replace h:=sum_inl hk54
 conv=>whnf
 cases h
 conv=>whnf
 exact ⟨rfl,rfl⟩
theorem sp_R01_Lex (a_:List Int) (b_:List Int) (r:Int) (h:Ok (nL cI a_)→Ok (nL cI b_)→R01_Lex a_ b_=some r):Sp Tryz.prog 150 [.im (nL cI a_),.im (nL cI b_)] (.im (nI r)):=by
 refine sp_of rfl [] rfl rfl rfl (Nat.le_of_ble_eq_true rfl) rfl fun hk=>?_
 replace h:=h hk.1 hk.2.1
 have z1:lZ a_:=ok_len hk.1
 have z2:lZ b_:=ok_len hk.2.1
 unfold R01_Lex at h
 conv=>whnf
 obtain ⟨c51,hc51,h⟩:=bind_some h
 refine ⟨_,(sp_R01_Common a_ b_ c51 (fun _ _=>hc51)),?_⟩
 conv=>whnf
 obtain ⟨y55,hc,hk53⟩:=bind_some h
 clear h
 have h:=hc
 clear hc
 refine Cut.mk (mkSt [(0,.im (nL cI a_)),(1,.im (nL cI b_)),(5,.im (nI c51)),(9,.im (nB y55))] [] []) (lZ a_∧lZ b_∧True) ((Holds.avl 0 rfl).and ((Holds.avl 1 rfl).and (hT))) ?_ (fun hp=>?_)
 conv=>whnf
 refine Nf.mk (List.length a_) len_map ?_
 conv=>whnf
 refine Both.mk ?_ ?_<;>intro b56
 replace b56:=beq_tt b56
 obtain ⟨h,b56d⟩:=ctd b56 h
 conv=>whnf
 iterate 2 (refine Both.yes (tt_beq b56) ?_;(conv=>whnf))
 refine Nf.mk (List.length b_) len_map ?_
 conv=>whnf
 refine Both.yes (tt_beq b56) ?_
 conv=>whnf
 refine Both.yes b56 ?_
 conv=>whnf
 cases h
 exact Join.mk (eA [])
 replace b56:=beq_tf b56
 obtain ⟨h,b56d⟩:=cfd b56 h
 conv=>whnf
 iterate 3 (refine Both.no (ft_beq b56) ?_;(conv=>whnf))
 refine Both.no b56 ?_
 conv=>whnf
 cases h
 exact Join.mk (eA [])
 replace h:=hk53
 obtain ⟨z57,z58,_⟩:=hp
 conv=>whnf
 refine Both.mk ?_ ?_<;>intro b59
 replace h:=cond_t b59 h
 conv=>whnf
 cases h
 conv=>whnf
 exact ⟨rfl,rfl⟩
 replace h:=cond_f b59 h
 conv=>whnf
 obtain ⟨y66,hc,hk61⟩:=bind_some h
 clear h
 have h:=hc
 clear hc
 refine Cut.mk (mkSt [(20,.im (nB y66))] [] []) (True) (hT) ?_ (fun hp=>?_)
 conv=>whnf
 refine Nf.mk (List.length a_) len_map ?_
 conv=>whnf
 refine Both.mk ?_ ?_<;>intro b67
 obtain ⟨h,b67d⟩:=ctd b67 h
 conv=>whnf
 cases h
 exact Join.mk (eA [])
 obtain ⟨h,b67d⟩:=cfd b67 h
 conv=>whnf
 refine Nf.mk (List.length b_) len_map ?_
 conv=>whnf
 refine Both.mk ?_ ?_<;>intro b68
 replace b68:=beq_tt b68
 obtain ⟨h,b68d⟩:=ctd b68 h
 conv=>whnf
 iterate 2 (refine Both.yes (tt_beq b68) ?_;(conv=>whnf))
 obtain ⟨e69,he69z,he69,h⟩:=idx_some h
 refine ⟨_,⟨he69z,map_at he69,rfl⟩,?_⟩
 conv=>whnf
 iterate 4 (refine Both.yes (tt_beq b68) ?_;(conv=>whnf))
 obtain ⟨e70,he70z,he70,h⟩:=idx_some h
 refine ⟨_,⟨he70z,map_at he70,rfl⟩,?_⟩
 conv=>whnf
 iterate 2 (refine Both.yes (tt_beq b68) ?_;(conv=>whnf))
 refine Both.yes b68 ?_
 conv=>whnf
 cases h
 exact Join.mk (eA [])
 replace b68:=beq_tf b68
 obtain ⟨h,b68d⟩:=cfd b68 h
 conv=>whnf
 iterate 8 (refine Both.no (ft_beq b68) ?_;(conv=>whnf))
 refine Both.no b68 ?_
 conv=>whnf
 cases h
 exact Join.mk (eA [])
 replace h:=hk61
 conv=>whnf
 refine Both.mk ?_ ?_<;>intro b71
 replace h:=cond_t b71 h
 conv=>whnf
 cases h
 conv=>whnf
 exact ⟨rfl,rfl⟩
 replace h:=cond_f b71 h
 conv=>whnf
 cases h
 conv=>whnf
 exact ⟨rfl,rfl⟩
theorem sp_R01_Compare (a_:List Int) (b_:List Int) (r:Int) (h:Ok (nL cI a_)→Ok (nL cI b_)→R01_Compare a_ b_=some r):Sp Tryz.prog 87 [.im (nL cI a_),.im (nL cI b_)] (.im (nI r)):=by
 refine sp_of rfl [] rfl rfl rfl (Nat.le_of_ble_eq_true rfl) rfl fun hk=>?_
 replace h:=h hk.1 hk.2.1
 have z1:lZ a_:=ok_len hk.1
 have z2:lZ b_:=ok_len hk.2.1
 unfold R01_Compare at h
 conv=>whnf
 refine Nf.mk (List.length a_) len_map ?_
 conv=>whnf
 refine Nf.mk (List.length b_) len_map ?_
 conv=>whnf
 refine Both.mk ?_ ?_<;>intro b51
 obtain ⟨h,b51d⟩:=ctd b51 h
 conv=>whnf
 cases h
 conv=>whnf
 exact ⟨rfl,rfl⟩
 obtain ⟨h,b51d⟩:=cfd b51 h
 conv=>whnf
 refine Nf.mk (List.length a_) len_map ?_
 conv=>whnf
 refine Nf.mk (List.length b_) len_map ?_
 conv=>whnf
 refine Both.mk ?_ ?_<;>intro b52
 obtain ⟨h,b52d⟩:=ctd b52 h
 conv=>whnf
 cases h
 conv=>whnf
 exact ⟨rfl,rfl⟩
 obtain ⟨h,b52d⟩:=cfd b52 h
 conv=>whnf
 obtain ⟨c53,hc53,h⟩:=bind_some h
 refine ⟨_,(sp_R01_Lex a_ b_ c53 (fun _ _=>hc53)),?_⟩
 conv=>whnf
 cases h
 conv=>whnf
 exact ⟨rfl,rfl⟩
theorem sp_R16_Proper (t_:T_api_Trace) (inputs_:Int) (r:Int) (h:Ok (.agg (c_api_Trace t_))→Ok (nI inputs_)→R16_Proper t_ inputs_=some r):Sp Tryz.prog 86 [.im (.agg (c_api_Trace t_)),.im (nI inputs_)] (.im (nI r)):=by
 refine sp_of rfl [700002] rfl rfl rfl (Nat.le_of_ble_eq_true rfl) rfl fun hk=>?_
 replace h:=h hk.1 hk.2.1
 have z1:lZ t_.In:=ok_len (Ok.agg_at hk.1 0 rfl)
 have z2:lZ t_.Out:=ok_len (Ok.agg_at hk.1 1 rfl)
 unfold R16_Proper at h
 conv=>whnf
 obtain ⟨c51,hc51,h⟩:=bind_some h
 refine ⟨_,(sp_R01_Check t_.In inputs_ c51 (fun _ _=>hc51)),?_⟩
 conv=>whnf
 refine Both.mk ?_ ?_<;>intro b52
 obtain ⟨h,b52d⟩:=ctd b52 h
 conv=>whnf
 cases h
 conv=>whnf
 exact ⟨rfl,rfl⟩
 obtain ⟨h,b52d⟩:=cfd b52 h
 conv=>whnf
 refine Nf.mk (List.length t_.Out) len_map ?_
 conv=>whnf
 refine Nf.mk (List.length t_.In) len_map ?_
 conv=>whnf
 refine Both.mk ?_ ?_<;>intro b53
 obtain ⟨h,b53d⟩:=ctd b53 h
 conv=>whnf
 cases h
 conv=>whnf
 exact ⟨rfl,rfl⟩
 obtain ⟨h,b53d⟩:=cfd b53 h
 conv=>whnf
 obtain ⟨oc,hc,hk54⟩:=bind_some h
 clear h
 have h:=hc
 clear hc
 refine Cut.mkS oc (Y:=Unit) (fun (_:Unit)=>mkSt [] [] []) (fun (_:Unit)=>True) (by rintro ⟨⟩;exact (hT)) ?_ ?_
 conv=>whnf
 refine Loops.iter (fun (s:Nat)=>R16_Proper.s2 t_ s) (fun i101=>mkSt [(2,.im (.ref (c_api_Trace t_))),(6,.im (nI (↑i101:Int)))] [] []) (fun i101=>True) h (eA []) (by rintro i101;exact (hT)) ?_
 clear h
 rintro k i101 o hp h ho113
 replace h:R16_Proper.s2 t_ i101=some o:=h
 unfold R16_Proper.s2 at h
 conv=>whnf
 refine Nf.mk (List.length t_.Out) len_map ?_
 conv=>whnf
 refine Both.mk ?_ ?_<;>intro b114
 obtain ⟨h,b114d⟩:=ctd b114 h
 conv=>whnf
 obtain ⟨y120,hc,hk116⟩:=bind_some h
 clear h
 have h:=hc
 clear hc
 refine Cut.mk (mkSt [(2,.im (.ref (c_api_Trace t_))),(6,.im (nI (↑i101:Int))),(41,.im (nB y120))] [] []) (True) (hT) ?_ (fun hp=>?_)
 conv=>whnf
 obtain ⟨e121,he121,h⟩:=idxn_some h
 refine ⟨_,⟨(by omega),map_at he121,rfl⟩,?_⟩
 conv=>whnf
 refine Both.mk ?_ ?_<;>intro b122
 replace b122:=beq_ff b122
 obtain ⟨h,b122d⟩:=cfd b122 h
 conv=>whnf
 iterate 3 (refine Both.yes (ff_beq b122) ?_;(conv=>whnf))
 obtain ⟨e123,he123,h⟩:=idxn_some h
 refine ⟨_,⟨(by omega),map_at he123,rfl⟩,?_⟩
 conv=>whnf
 iterate 2 (refine Both.yes (ff_beq b122) ?_;(conv=>whnf))
 refine Both.no b122 ?_
 conv=>whnf
 cases h
 exact Join.mk (eA [])
 replace b122:=beq_ft b122
 obtain ⟨h,b122d⟩:=ctd b122 h
 conv=>whnf
 iterate 5 (refine Both.no (tf_beq b122) ?_;(conv=>whnf))
 refine Both.yes b122 ?_
 conv=>whnf
 cases h
 exact Join.mk (eA [])
 replace h:=hk116
 conv=>whnf
 refine Both.mk ?_ ?_<;>intro b124
 replace h:=cond_t b124 h
 conv=>whnf
 cases h
 have ho113:_=_:=ho113
 cases ho113
 replace h:some _=some _:=hk54
 cases h
 conv=>whnf
 exact ⟨rfl,rfl⟩
 replace h:=cond_f b124 h
 conv=>whnf
 refine Arith.mk (by show inR _;unfold inR;omega) ?_
 conv=>whnf
 cases h
 exact Nxt.mk _ ho113 (eA [])
 obtain ⟨h,b114d⟩:=cfd b114 h
 conv=>whnf
 cases h
 have ho113:_=_:=ho113
 cases ho113
 exact JoinS.mk' _ rfl (eA [])
 rintro ⟨⟩ rfl hp
 replace h:=sum_inl hk54
 conv=>whnf
 cases h
 conv=>whnf
 exact ⟨rfl,rfl⟩
theorem sp_R01_HasPrefix (w_:List Int) (p_:List Int) (r:Bool) (h:Ok (nL cI w_)→Ok (nL cI p_)→R01_HasPrefix w_ p_=some r):Sp Tryz.prog 151 [.im (nL cI w_),.im (nL cI p_)] (.im (nB r)):=by
 refine sp_of rfl [] rfl rfl rfl (Nat.le_of_ble_eq_true rfl) rfl fun hk=>?_
 replace h:=h hk.1 hk.2.1
 have z1:lZ w_:=ok_len hk.1
 have z2:lZ p_:=ok_len hk.2.1
 unfold R01_HasPrefix at h
 conv=>whnf
 obtain ⟨c51,hc51,h⟩:=bind_some h
 refine ⟨_,(sp_R01_Common w_ p_ c51 (fun _ _=>hc51)),?_⟩
 conv=>whnf
 refine Nf.mk (List.length p_) len_map ?_
 conv=>whnf
 cases h
 conv=>whnf
 exact ⟨rfl,rfl⟩
theorem sp_R16_Differ (a_:T_api_Trace) (b_:T_api_Trace) (r:Int) (h:Ok (.agg (c_api_Trace a_))→Ok (.agg (c_api_Trace b_))→R16_Differ a_ b_=some r):Sp Tryz.prog 139 [.im (.agg (c_api_Trace a_)),.im (.agg (c_api_Trace b_))] (.im (nI r)):=by
 refine sp_of rfl [700002,700003] rfl rfl rfl (Nat.le_of_ble_eq_true rfl) rfl fun hk=>?_
 replace h:=h hk.1 hk.2.1
 have z1:lZ a_.In:=ok_len (Ok.agg_at hk.1 0 rfl)
 have z2:lZ a_.Out:=ok_len (Ok.agg_at hk.1 1 rfl)
 have z3:lZ b_.In:=ok_len (Ok.agg_at hk.2.1 0 rfl)
 have z4:lZ b_.Out:=ok_len (Ok.agg_at hk.2.1 1 rfl)
 unfold R16_Differ at h
 conv=>whnf
 obtain ⟨c51,hc51,h⟩:=bind_some h
 refine ⟨_,(sp_R01_Common a_.In b_.In c51 (fun _ _=>hc51)),?_⟩
 conv=>whnf
 obtain ⟨oc,hc,hk52⟩:=bind_some h
 clear h
 have h:=hc
 clear hc
 refine Cut.mkS oc (Y:=Unit) (fun (_:Unit)=>mkSt [] [] []) (fun (_:Unit)=>True) (by rintro ⟨⟩;exact (hT)) ?_ ?_
 conv=>whnf
 refine Loops.iter (fun (s:Nat)=>R16_Differ.s2 a_ b_ c51 s) (fun i73=>mkSt [(2,.im (.ref (c_api_Trace a_))),(3,.im (.ref (c_api_Trace b_))),(5,.im (nI c51)),(6,.im (nI (↑i73:Int)))] [] []) (fun i73=>True) h (eA []) (by rintro i73;exact (hT)) ?_
 clear h
 rintro k i73 o hp h ho79
 replace h:R16_Differ.s2 a_ b_ c51 i73=some o:=h
 unfold R16_Differ.s2 at h
 conv=>whnf
 refine Both.mk ?_ ?_<;>intro b80
 obtain ⟨h,b80d⟩:=ctd b80 h
 conv=>whnf
 obtain ⟨e81,he81,h⟩:=idxn_some h
 refine ⟨_,⟨(by omega),map_at he81,rfl⟩,?_⟩
 conv=>whnf
 obtain ⟨e82,he82,h⟩:=idxn_some h
 refine ⟨_,⟨(by omega),map_at he82,rfl⟩,?_⟩
 conv=>whnf
 refine Both.mk ?_ ?_<;>intro b83
 obtain ⟨h,b83d⟩:=ctd b83 h
 conv=>whnf
 cases h
 have ho79:_=_:=ho79
 cases ho79
 replace h:some _=some _:=hk52
 cases h
 conv=>whnf
 exact ⟨rfl,rfl⟩
 obtain ⟨h,b83d⟩:=cfd b83 h
 conv=>whnf
 obtain ⟨c84,h⟩:=chk_some h
 refine Arith.mk c84 ?_
 conv=>whnf
 cases h
 exact Nxt.mk _ ho79 (eA [])
 obtain ⟨h,b80d⟩:=cfd b80 h
 conv=>whnf
 cases h
 have ho79:_=_:=ho79
 cases ho79
 exact JoinS.mk' _ rfl (eA [])
 rintro ⟨⟩ rfl hp
 replace h:=sum_inl hk52
 conv=>whnf
 cases h
 conv=>whnf
 exact ⟨rfl,rfl⟩
theorem sp_R16_apart (o_:T_api_Obs) (r:Int) (h:Ok (.agg (c_api_Obs o_))→R16_apart o_=some r):Sp Tryz.prog 88 [.im (.agg (c_api_Obs o_))] (.im (nI r)):=by
 refine sp_of rfl [700001] rfl rfl rfl (Nat.le_of_ble_eq_true rfl) rfl fun hk=>?_
 replace h:=h hk.1
 have z1:lZ o_.Traces:=ok_len (Ok.agg_at hk.1 1 rfl)
 unfold R16_apart at h
 conv=>whnf
 obtain ⟨oc,hc,hk51⟩:=bind_some h
 clear h
 have h:=hc
 clear hc
 refine Cut.mkS oc (Y:=Unit) (fun (_:Unit)=>mkSt [] [] []) (fun (_:Unit)=>True) (by rintro ⟨⟩;exact (hT)) ?_ ?_
 conv=>whnf
 refine Loops.iter (fun (s:Nat)=>R16_apart.s32 o_ s) (fun i518=>mkSt [(1,.im (.ref (c_api_Obs o_))),(3,.im (nI (↑i518:Int)))] [] []) (fun i518=>True) h (eA []) (by rintro i518;exact (hT)) ?_
 clear h
 rintro k i518 o hp h ho635
 replace h:R16_apart.s32 o_ i518=some o:=h
 unfold R16_apart.s32 at h
 conv=>whnf
 refine Nf.mk (List.length o_.Traces) len_map ?_
 conv=>whnf
 refine Both.mk ?_ ?_<;>intro b636
 obtain ⟨h,b636d⟩:=ctd b636 h
 conv=>whnf
 refine Arith.mk (by show inR _;unfold inR;omega) ?_
 conv=>whnf
 obtain ⟨⟨prefix693,clash694⟩,hc,hk637⟩:=bind_some h
 clear h
 have h:=hc
 clear hc
 refine Cut.mk (mkSt [(1,.im (.ref (c_api_Obs o_))),(3,.im (nI (↑i518:Int))),(4,.im (nB prefix693)),(5,.im (nB clash694))] [] []) (True) (hT) ?_ (fun hp=>?_)
 conv=>whnf
 refine Loops.iter (fun (s:Bool×Bool×Nat)=>R16_apart.s30 o_ i518 s.1 s.2.1 s.2.2) (fun (prefix714,clash715,k716)=>mkSt [(1,.im (.ref (c_api_Obs o_))),(3,.im (nI (↑i518:Int))),(4,.im (nB prefix714)),(5,.im (nB clash715)),(6,.im (nI (↑k716:Int)))] [] []) (fun (prefix714,clash715,k716)=>True) h (eA []) (by rintro ⟨prefix714,clash715,k716⟩;exact (hT)) ?_
 clear h
 rintro k ⟨prefix714,clash715,k716⟩ o hp h ho733
 replace h:R16_apart.s30 o_ i518 prefix714 clash715 k716=some o:=h
 unfold R16_apart.s30 at h
 conv=>whnf
 refine Nf.mk (List.length o_.Traces) len_map ?_
 conv=>whnf
 refine Both.mk ?_ ?_<;>intro b734
 obtain ⟨h,b734d⟩:=ctd b734 h
 conv=>whnf
 obtain ⟨prefix741,hc,hk736⟩:=bind_some h
 clear h
 have h:=hc
 clear hc
 refine Cut.mk (mkSt [(1,.im (.ref (c_api_Obs o_))),(3,.im (nI (↑i518:Int))),(4,.im (nB prefix741)),(5,.im (nB clash715)),(6,.im (nI (↑k716:Int)))] [] []) (True) (hT) ?_ (fun hp=>?_)
 conv=>whnf
 refine Both.mk ?_ ?_<;>intro b742
 replace b742:=beq_ff b742
 replace h:=cond_f b742 h
 conv=>whnf
 iterate 3 (refine Both.yes (ff_beq b742) ?_;(conv=>whnf))
 obtain ⟨e743,he743,h⟩:=idxn_some h
 refine ⟨_,⟨(by omega),map_at he743,rfl⟩,?_⟩
 conv=>whnf
 iterate 6 (refine Both.yes (ff_beq b742) ?_;(conv=>whnf))
 obtain ⟨e744,he744,h⟩:=idxn_some h
 refine ⟨_,⟨(by omega),map_at he744,rfl⟩,?_⟩
 conv=>whnf
 iterate 3 (refine Both.yes (ff_beq b742) ?_;(conv=>whnf))
 obtain ⟨c745,hc745,h⟩:=bind_some h
 refine ⟨_,(sp_R01_HasPrefix e743.In e744.In c745 (fun _ _=>hc745)),?_⟩
 conv=>whnf
 refine Both.no b742 ?_
 conv=>whnf
 cases h
 exact Join.mk (eA [])
 replace b742:=beq_ft b742
 replace h:=cond_t b742 h
 conv=>whnf
 iterate 12 (refine Both.no (tf_beq b742) ?_;(conv=>whnf))
 refine Both.yes b742 ?_
 conv=>whnf
 cases h
 exact Join.mk (eA [])
 replace h:=hk736
 conv=>whnf
 refine Both.mk ?_ ?_<;>intro b746
 replace b746:=beq_ff b746
 replace h:=cond_f b746 h
 conv=>whnf
 iterate 3 (refine Both.yes (ff_beq b746) ?_;(conv=>whnf))
 obtain ⟨e747,he747,h⟩:=idxn_some h
 refine ⟨_,⟨(by omega),map_at he747,rfl⟩,?_⟩
 conv=>whnf
 iterate 5 (refine Both.yes (ff_beq b746) ?_;(conv=>whnf))
 obtain ⟨e748,he748,h⟩:=idxn_some h
 refine ⟨_,⟨(by omega),map_at he748,rfl⟩,?_⟩
 conv=>whnf
 iterate 2 (refine Both.yes (ff_beq b746) ?_;(conv=>whnf))
 obtain ⟨c749,hc749,h⟩:=bind_some h
 refine ⟨_,(sp_R16_Differ e747 e748 c749 (fun _ _=>hc749)),?_⟩
 conv=>whnf
 refine Both.yes (ff_beq b746) ?_
 conv=>whnf
 refine Both.no b746 ?_
 conv=>whnf
 refine Arith.mk (by show inR _;unfold inR;omega) ?_
 conv=>whnf
 cases h
 exact Nxt.mk _ ho733 (eA [])
 replace b746:=beq_ft b746
 replace h:=cond_t b746 h
 conv=>whnf
 iterate 11 (refine Both.no (tf_beq b746) ?_;(conv=>whnf))
 refine Both.yes b746 ?_
 conv=>whnf
 refine Arith.mk (by show inR _;unfold inR;omega) ?_
 conv=>whnf
 cases h
 exact Nxt.mk _ ho733 (eA [])
 obtain ⟨h,b734d⟩:=cfd b734 h
 conv=>whnf
 cases h
 have ho733:_=_:=ho733
 cases ho733
 exact Join.mk (eA [])
 replace h:R16_apart.k31 i518 prefix693 clash694=some _:=hk637
 unfold R16_apart.k31 at h
 conv=>whnf
 refine Both.mk ?_ ?_<;>intro b750
 replace h:=cond_t b750 h
 conv=>whnf
 cases h
 have ho635:_=_:=ho635
 cases ho635
 replace h:some _=some _:=hk51
 cases h
 conv=>whnf
 exact ⟨rfl,rfl⟩
 replace h:=cond_f b750 h
 conv=>whnf
 refine Both.mk ?_ ?_<;>intro b751
 replace h:=cond_t b751 h
 conv=>whnf
 cases h
 have ho635:_=_:=ho635
 cases ho635
 replace h:some _=some _:=hk51
 cases h
 conv=>whnf
 exact ⟨rfl,rfl⟩
 replace h:=cond_f b751 h
 conv=>whnf
 refine Arith.mk (by show inR _;unfold inR;omega) ?_
 conv=>whnf
 cases h
 exact Nxt.mk _ ho635 (eA [])
 obtain ⟨h,b636d⟩:=cfd b636 h
 conv=>whnf
 cases h
 have ho635:_=_:=ho635
 cases ho635
 exact JoinS.mk' _ rfl (eA [])
 rintro ⟨⟩ rfl hp
 replace h:=sum_inl hk51
 conv=>whnf
 cases h
 conv=>whnf
 exact ⟨rfl,rfl⟩
theorem sp_R16_Valid (o_:T_api_Obs) (r:Int) (h:Ok (.agg (c_api_Obs o_))→R16_Valid o_=some r):Sp Tryz.prog 34 [.im (.agg (c_api_Obs o_))] (.im (nI r)):=by
 refine sp_of rfl [700001] rfl rfl rfl (Nat.le_of_ble_eq_true rfl) rfl fun hk=>?_
 replace h:=h hk.1
 have z1:lZ o_.Traces:=ok_len (Ok.agg_at hk.1 1 rfl)
 unfold R16_Valid at h
 conv=>whnf
 obtain ⟨y54,hc,hk52⟩:=bind_some h
 clear h
 have h:=hc
 clear hc
 refine Cut.mk (mkSt [(1,.im (.ref (c_api_Obs o_))),(14,.im (nB y54))] [] []) (True) (hT) ?_ (fun hp=>?_)
 conv=>whnf
 refine Both.mk ?_ ?_<;>intro b55
 replace b55:=beq_ff b55
 obtain ⟨h,b55d⟩:=cfd b55 h
 conv=>whnf
 iterate 2 (refine Both.yes (ff_beq b55) ?_;(conv=>whnf))
 refine Both.no b55 ?_
 conv=>whnf
 cases h
 exact Join.mk (eA [])
 replace b55:=beq_ft b55
 obtain ⟨h,b55d⟩:=ctd b55 h
 conv=>whnf
 iterate 2 (refine Both.no (tf_beq b55) ?_;(conv=>whnf))
 refine Both.yes b55 ?_
 conv=>whnf
 cases h
 exact Join.mk (eA [])
 replace h:=hk52
 conv=>whnf
 refine Both.mk ?_ ?_<;>intro b56
 replace h:=cond_t b56 h
 conv=>whnf
 cases h
 conv=>whnf
 exact ⟨rfl,rfl⟩
 replace h:=cond_f b56 h
 conv=>whnf
 refine Nf.mk (List.length o_.Traces) len_map ?_
 conv=>whnf
 refine Both.mk ?_ ?_<;>intro b57
 obtain ⟨h,b57d⟩:=ctd b57 h
 conv=>whnf
 cases h
 conv=>whnf
 exact ⟨rfl,rfl⟩
 obtain ⟨h,b57d⟩:=cfd b57 h
 conv=>whnf
 obtain ⟨oc,hc,hk58⟩:=bind_some h
 clear h
 have h:=hc
 clear hc
 refine Cut.mkS oc (Y:=Unit) (fun (_:Unit)=>mkSt [(1,.im (.ref (c_api_Obs o_)))] [] []) (fun (_:Unit)=>True) (by rintro ⟨⟩;exact (hT)) ?_ ?_
 conv=>whnf
 refine Loops.iter (fun (s:Nat)=>R16_Valid.s2 o_ s) (fun i129=>mkSt [(1,.im (.ref (c_api_Obs o_))),(3,.im (nI (↑i129:Int)))] [] []) (fun i129=>True) h (eA []) (by rintro i129;exact (hT)) ?_
 clear h
 rintro k i129 o hp h ho147
 replace h:R16_Valid.s2 o_ i129=some o:=h
 unfold R16_Valid.s2 at h
 conv=>whnf
 refine Nf.mk (List.length o_.Traces) len_map ?_
 conv=>whnf
 refine Both.mk ?_ ?_<;>intro b148
 obtain ⟨h,b148d⟩:=ctd b148 h
 conv=>whnf
 obtain ⟨e149,he149,h⟩:=idxn_some h
 refine ⟨_,⟨(by omega),map_at he149,rfl⟩,?_⟩
 conv=>whnf
 refine Side.mk rfl ?_
 conv=>whnf
 refine Side.mk rfl ?_
 conv=>whnf
 refine Side.mk rfl ?_
 conv=>whnf
 obtain ⟨c150,hc150,h⟩:=bind_some h
 refine ⟨_,(sp_R01_Check e149.In o_.Inputs c150 (fun _ _=>hc150)),?_⟩
 conv=>whnf
 refine Both.mk ?_ ?_<;>intro b151
 obtain ⟨h,b151d⟩:=ctd b151 h
 conv=>whnf
 cases h
 have ho147:_=_:=ho147
 cases ho147
 replace h:some _=some _:=hk58
 cases h
 conv=>whnf
 exact ⟨rfl,rfl⟩
 obtain ⟨h,b151d⟩:=cfd b151 h
 conv=>whnf
 refine Side.mk rfl ?_
 conv=>whnf
 refine Side.mk rfl ?_
 conv=>whnf
 refine Nf.mk (List.length e149.In) len_map ?_
 conv=>whnf
 refine Both.mk ?_ ?_<;>intro b152
 obtain ⟨h,b152d⟩:=ctd b152 h
 conv=>whnf
 cases h
 have ho147:_=_:=ho147
 cases ho147
 replace h:some _=some _:=hk58
 cases h
 conv=>whnf
 exact ⟨rfl,rfl⟩
 obtain ⟨h,b152d⟩:=cfd b152 h
 conv=>whnf
 refine Side.mk rfl ?_
 conv=>whnf
 obtain ⟨c153,hc153,h⟩:=bind_some h
 refine ⟨_,(sp_R16_Proper e149 o_.Inputs c153 (fun _ _=>hc153)),?_⟩
 conv=>whnf
 refine Both.mk ?_ ?_<;>intro b154
 obtain ⟨h,b154d⟩:=ctd b154 h
 conv=>whnf
 cases h
 have ho147:_=_:=ho147
 cases ho147
 replace h:some _=some _:=hk58
 cases h
 conv=>whnf
 exact ⟨rfl,rfl⟩
 obtain ⟨h,b154d⟩:=cfd b154 h
 conv=>whnf
 obtain ⟨y160,hc,hk156⟩:=bind_some h
 clear h
 have h:=hc
 clear hc
 refine Cut.mk (mkSt [(1,.im (.ref (c_api_Obs o_))),(3,.im (nI (↑i129:Int))),(64,.im (nB y160))] [] []) (True) (hT) ?_ (fun hp=>?_)
 conv=>whnf
 refine Both.mk ?_ ?_<;>intro b161
 replace b161:=beq_tt b161
 obtain ⟨h,b161d⟩:=ctd b161 h
 conv=>whnf
 iterate 3 (refine Both.yes (tt_beq b161) ?_;(conv=>whnf))
 refine Arith.mk (by show inR _;unfold inR;omega) ?_
 conv=>whnf
 refine Both.yes (tt_beq b161) ?_
 conv=>whnf
 obtain ⟨e162,he162z,he162,h⟩:=idx_some h
 refine ⟨_,⟨he162z,map_at he162,rfl⟩,?_⟩
 conv=>whnf
 iterate 3 (refine Both.yes (tt_beq b161) ?_;(conv=>whnf))
 refine Side.mk rfl ?_
 conv=>whnf
 refine Both.yes (tt_beq b161) ?_
 conv=>whnf
 refine Side.mk rfl ?_
 conv=>whnf
 refine Both.yes (tt_beq b161) ?_
 conv=>whnf
 obtain ⟨c163,hc163,h⟩:=bind_some h
 refine ⟨_,(sp_R01_Compare e162.In e149.In c163 (fun _ _=>hc163)),?_⟩
 conv=>whnf
 refine Both.yes (tt_beq b161) ?_
 conv=>whnf
 refine Both.yes b161 ?_
 conv=>whnf
 cases h
 exact Join.mk (eA [])
 replace b161:=beq_tf b161
 obtain ⟨h,b161d⟩:=cfd b161 h
 conv=>whnf
 iterate 10 (refine Both.no (ft_beq b161) ?_;(conv=>whnf))
 refine Both.no b161 ?_
 conv=>whnf
 cases h
 exact Join.mk (eA [])
 replace h:=hk156
 conv=>whnf
 refine Both.mk ?_ ?_<;>intro b164
 replace h:=cond_t b164 h
 conv=>whnf
 cases h
 have ho147:_=_:=ho147
 cases ho147
 replace h:some _=some _:=hk58
 cases h
 conv=>whnf
 exact ⟨rfl,rfl⟩
 replace h:=cond_f b164 h
 conv=>whnf
 refine Arith.mk (by show inR _;unfold inR;omega) ?_
 conv=>whnf
 cases h
 exact Nxt.mk _ ho147 (eA [])
 obtain ⟨h,b148d⟩:=cfd b148 h
 conv=>whnf
 cases h
 have ho147:_=_:=ho147
 cases ho147
 exact JoinS.mk' _ rfl (eA [])
 rintro ⟨⟩ rfl hp
 replace h:=sum_inl hk58
 conv=>whnf
 obtain ⟨c165,hc165,h⟩:=bind_some h
 refine ⟨_,(sp_R16_apart o_ c165 (fun _=>hc165)),?_⟩
 conv=>whnf
 cases h
 conv=>whnf
 exact ⟨rfl,rfl⟩
theorem sp_L28_great (l_:T_api_Lazy) (o_:T_api_Obs) (r:Bool) (h:Ok (.agg (c_api_Lazy l_))→Ok (.agg (c_api_Obs o_))→L28_great l_ o_=some r):Sp Tryz.prog 10 [.im (.agg (c_api_Lazy l_)),.im (.agg (c_api_Obs o_))] (.im (nB r)):=by
 refine sp_of rfl [700002,700003] rfl rfl rfl (Nat.le_of_ble_eq_true rfl) rfl fun hk=>?_
 replace h:=h hk.1 hk.2.1
 have z1:lZ l_.Short:=ok_len (Ok.agg_at hk.1 1 rfl)
 have z2:lZ l_.Suffixes:=ok_len (Ok.agg_at hk.1 2 rfl)
 have z3:lZ o_.Traces:=ok_len (Ok.agg_at hk.2.1 1 rfl)
 unfold L28_great at h
 conv=>whnf
 obtain ⟨y57,hc,hk52⟩:=bind_some h
 clear h
 have h:=hc
 clear hc
 refine Cut.mk (mkSt [(4,.im (nB y57))] [] []) (True) (hT) ?_ (fun hp=>?_)
 conv=>whnf
 obtain ⟨c58,hc58,h⟩:=bind_some h
 refine ⟨_,(sp_R28_Table l_ c58 (fun _=>hc58)),?_⟩
 conv=>whnf
 obtain ⟨c59,hc59,h⟩:=bind_some h
 refine ⟨_,(sp_L23_Great c58 o_ c59 (fun _ _=>hc59)),?_⟩
 conv=>whnf
 refine Both.mk ?_ ?_<;>intro b60
 replace b60:=beq_ff b60
 replace h:=cond_f b60 h
 conv=>whnf
 refine Both.yes (ff_beq b60) ?_
 conv=>whnf
 obtain ⟨c61,hc61,h⟩:=bind_some h
 refine ⟨_,(sp_R16_Valid o_ c61 (fun _=>hc61)),?_⟩
 conv=>whnf
 refine Both.yes (ff_beq b60) ?_
 conv=>whnf
 refine Both.no b60 ?_
 conv=>whnf
 cases h
 exact Join.mk (eA [])
 replace b60:=beq_ft b60
 replace h:=cond_t b60 h
 conv=>whnf
 iterate 2 (refine Both.no (tf_beq b60) ?_;(conv=>whnf))
 refine Both.yes b60 ?_
 conv=>whnf
 cases h
 exact Join.mk (eA [])
 replace h:=hk52
 conv=>whnf
 cases h
 conv=>whnf
 exact ⟨rfl,rfl⟩
theorem sp_table_New (inputs_:Int) (r:T_api_Table×Int) (h:Ok (nI inputs_)→zq112 inputs_=some r):Sp Tryz.prog 40 [.im (nI inputs_)] (.tup [.agg (c_api_Table r.1),nI r.2]):=by
 refine sp_of rfl [] rfl rfl rfl (Nat.le_of_ble_eq_true rfl) rfl fun hk=>?_
 replace h:=h hk.1
 unfold zq112 at h
 conv=>whnf
 obtain ⟨y54,hc,hk52⟩:=bind_some h
 clear h
 have h:=hc
 clear hc
 refine Cut.mk (mkSt [(0,.im (nI inputs_)),(2,.own 64 1 0),(11,.im (nB y54))] [(64,.box 78 3)] [(64,0,.im (nI 0)),(64,1,.im (.val (.slice none 0 0))),(64,2,.im (.val (.slice none 0 0)))]) (True) (hT) ?_ (fun hp=>?_)
 conv=>whnf
 refine Both.mk ?_ ?_<;>intro b55
 replace b55:=beq_ff b55
 obtain ⟨h,b55d⟩:=cfd b55 h
 conv=>whnf
 refine Both.yes (ff_beq b55) ?_
 conv=>whnf
 refine Both.no b55 ?_
 conv=>whnf
 cases h
 exact Join.mk (eA [(64,some 2)])
 replace b55:=beq_ft b55
 obtain ⟨h,b55d⟩:=ctd b55 h
 conv=>whnf
 refine Both.no (tf_beq b55) ?_
 conv=>whnf
 refine Both.yes b55 ?_
 conv=>whnf
 cases h
 exact Join.mk (eA [(64,some 2)])
 replace h:=hk52
 conv=>whnf
 refine Both.mk ?_ ?_<;>intro b56
 replace h:=cond_t b56 h
 conv=>whnf
 refine Side.mk rfl ?_
 conv=>whnf
 cases h
 conv=>whnf
 refine Side.mk ⟨rfl,trivial⟩ ?_
 conv=>whnf
 exact ⟨rfl,rfl⟩
 replace h:=cond_f b56 h
 conv=>whnf
 refine Side.mk rfl ?_
 conv=>whnf
 obtain ⟨y70,hc,hk57⟩:=bind_some h
 clear h
 have h:=hc
 clear hc
 refine Cut.mk (mkSt [(2,.own 64 1 0),(4,.own 65 1 0)] [(64,.box 78 3),(65,.box 78 3),(66,.row 51 1 (List.map (cL cI) y70))] [(64,0,.im (nI 0)),(64,1,.im (.val (.slice none 0 0))),(64,2,.im (.val (.slice none 0 0))),(65,0,.im (nI inputs_)),(65,1,.im (nL (cL cI) [[]])),(65,2,.osl 66 1)]) (List.length [[]]≤17592186044416∧lZ y70∧True) ((Holds.cel 65 1 rfl (by decide) rfl).and ((Holds.kdl 66 rfl).and (hT))) ?_ (fun hp=>?_)
 conv=>whnf
 refine Loops.iter (fun (s:List (List Int)×Nat)=>zq112.s2 inputs_ s.1 s.2) (fun (y72,y73)=>mkSt [(2,.own 64 1 0),(4,.own 65 1 0),(17,.im (nI inputs_)),(18,.im (nI (↑y73:Int)))] [(64,.box 78 3),(65,.box 78 3),(66,.row 51 1 (List.map (cL cI) y72))] [(64,0,.im (nI 0)),(64,1,.im (.val (.slice none 0 0))),(64,2,.im (.val (.slice none 0 0))),(65,0,.im (nI inputs_)),(65,1,.im (nL (cL cI) [[]])),(65,2,.osl 66 1)]) (fun (y72,y73)=>List.length [[]]≤17592186044416∧lZ y72∧True) h (Ent.mk [(64,some 64),(65,some 4),(66,none)] rfl ⟨⟨.own 64 _ 0,rfl,.own rfl rfl rfl⟩,⟨.own 4 _ 0,rfl,.own rfl rfl rfl⟩,eI rfl rfl,eI rfl rfl,trivial⟩ ⟨.inl ⟨64,rfl,rfl,trivial⟩,.inl ⟨4,rfl,rfl,trivial⟩,.inr ⟨rfl,rfl,.inl ⟨_,_,rfl,by decide⟩⟩,trivial⟩ ⟨⟨64,.im _,rfl,rfl,.im (Sub.rfl' rfl)⟩,⟨64,.im (.val (.slice none 0 0)),rfl,rfl,.im (Sub.rfl' rfl)⟩,⟨64,.im (.val (.slice none 0 0)),rfl,rfl,.im (Sub.rfl' rfl)⟩,⟨4,.im _,rfl,rfl,.im (Sub.rfl' rfl)⟩,⟨4,.im _,rfl,rfl,.im (Sub.rfl' rfl)⟩,⟨4,.im (.val (.slice none 0 0)),rfl,rfl,.made rfl rfl⟩,trivial⟩) (by rintro ⟨y72,y73⟩;exact ((Holds.cel 65 1 rfl (by decide) rfl).and ((Holds.kdl 66 rfl).and (hT)))) ?_
 clear h
 rintro k ⟨y72,y73⟩ o hp h ho77
 replace h:zq112.s2 inputs_ y72 y73=some o:=h
 unfold zq112.s2 at h
 obtain ⟨z81,z82,_⟩:=hp
 conv=>whnf
 refine Both.mk ?_ ?_<;>intro b78
 obtain ⟨h,b78d⟩:=ctd b78 h
 conv=>whnf
 refine Side.mk rfl ?_
 conv=>whnf
 refine Side.mk rfl ?_
 conv=>whnf
 obtain ⟨c79,h⟩:=chk_some h
 refine Side.mk ⟨rfl,map_len (l:=[[(↑y73:Int)]]) (c:=cL cI) fun _=>rfl,show capOk _ 24 by simpa only [List.length_map,List.length_cons,List.length_nil,Nat.zero_add] using c79⟩ ?_
 conv=>whnf
 refine Nf.mk (List.map (cL cI) (y72++[[(↑y73:Int)]])) (app_map (l:=y72) (m:=[[(↑y73:Int)]]) (c:=cL cI)) ?_
 conv=>whnf
 refine Side.mk rfl ?_
 conv=>whnf
 refine Side.mk rfl ?_
 conv=>whnf
 obtain ⟨c80,h⟩:=chk_some h
 refine Arith.mk c80 ?_
 conv=>whnf
 cases h
 exact Nxt.mk _ ho77 (eA [(64,some 64),(65,some 65),(66,some 66)])
 obtain ⟨h,b78d⟩:=cfd b78 h
 conv=>whnf
 cases h
 have ho77:_=_:=ho77
 cases ho77
 exact Join.mk (eA [(64,some 64),(65,some 65),(66,some 66)])
 replace h:=hk57
 obtain ⟨z83,z84,_⟩:=hp
 conv=>whnf
 refine Side.mk rfl ?_
 conv=>whnf
 refine Side.mk rfl ?_
 conv=>whnf
 cases h
 conv=>whnf
 refine Side.mk ⟨rfl,trivial⟩ ?_
 conv=>whnf
 exact Side.mk ⟨rfl,trivial⟩ ⟨rfl,rfl⟩
theorem sp_lazy_New (inputs_:Int) (r:T_api_Lazy×Int) (h:Ok (nI inputs_)→lazy_New inputs_=some r):Sp Tryz.prog 12 [.im (nI inputs_)] (.tup [.agg (c_api_Lazy r.1),nI r.2]):=by
 refine sp_of rfl [] rfl rfl rfl (Nat.le_of_ble_eq_true rfl) rfl fun hk=>?_
 replace h:=h hk.1
 unfold lazy_New at h
 conv=>whnf
 obtain ⟨c51,hc51,h⟩:=bind_some h
 refine ⟨_,(sp_table_New inputs_ c51 (fun _=>hc51)),?_⟩
 conv=>whnf
 refine Side.mk rfl ?_
 conv=>whnf
 refine Both.mk ?_ ?_<;>intro b52
 obtain ⟨h,b52d⟩:=ctd b52 h
 conv=>whnf
 refine Side.mk rfl ?_
 conv=>whnf
 cases h
 conv=>whnf
 refine Side.mk ⟨rfl,trivial⟩ ?_
 conv=>whnf
 exact ⟨rfl,rfl⟩
 obtain ⟨h,b52d⟩:=cfd b52 h
 conv=>whnf
 refine Side.mk rfl ?_
 conv=>whnf
 refine Side.mk rfl ?_
 conv=>whnf
 refine Side.mk rfl ?_
 conv=>whnf
 refine Side.mk rfl ?_
 conv=>whnf
 refine Side.mk rfl ?_
 conv=>whnf
 cases h
 conv=>whnf
 refine Side.mk ⟨rfl,trivial⟩ ?_
 conv=>whnf
 exact ⟨rfl,rfl⟩
theorem sp_L23_Gate (r:T_api_Obs) (h:L23_Gate=some r):Sp Tryz.prog 39 [] (.im (.agg (c_api_Obs r))):=by
 refine sp_of rfl [] rfl rfl rfl (Nat.le_of_ble_eq_true rfl) rfl fun hk=>?_
 unfold L23_Gate at h
 conv=>whnf
 refine Side.mk rfl ?_
 conv=>whnf
 cases h
 conv=>whnf
 refine Side.mk ⟨rfl,trivial⟩ ?_
 conv=>whnf
 exact ⟨rfl,rfl⟩
theorem zq3 (x_:List (List Int)) (target_:List Int) (cmp_:(List Int)→(List Int)→Option Int) (f2_:FuncId) (hf2:∀ x0 x1 r,cmp_ x0 x1=some r→Sp Tryz.prog f2_ [.im (nL cI x0),.im (nL cI x1)] (.im (nI r))) (r:Int×Bool) (h:Ok (nL (cL cI) x_)→Ok (nL cI target_)→Ok (.fn f2_ [])→zq6 x_ target_ cmp_=some r):Sp Tryz.prog 100 [.im (nL (cL cI) x_),.im (nL cI target_),.im (.fn f2_ [])] (.tup [nI r.1,nB r.2]):=by
 refine sp_of rfl [] rfl rfl rfl (Nat.le_of_ble_eq_true rfl) rfl fun hk=>?_
 replace h:=h hk.1 hk.2.1 hk.2.2.1
 have z1:lZ x_:=ok_len hk.1
 have z2:lZ target_:=ok_len hk.2.1
 unfold zq6 at h
 conv=>whnf
 refine Nf.mk (List.length x_) len_map ?_
 conv=>whnf
 obtain ⟨i82,hc,hk51⟩:=bind_some h
 clear h
 have h:=hc
 clear hc
 refine Cut.mk (mkSt [(0,.im (nL (cL cI) x_)),(1,.im (nL cI target_)),(2,.im (.fn f2_ [])),(8,.im (nI (↑(List.length x_):Int))),(9,.im (nI i82))] [] []) (lZ x_∧lZ target_∧True) ((Holds.avl 0 rfl).and ((Holds.avl 1 rfl).and (hT))) ?_ (fun hp=>?_)
 conv=>whnf
 refine Loops.iter (fun (s:Int×Int)=>zq6.s2 x_ target_ cmp_ s.1 s.2) (fun (i90,j91)=>mkSt [(0,.im (nL (cL cI) x_)),(1,.im (nL cI target_)),(2,.im (.fn f2_ [])),(8,.im (nI (↑(List.length x_):Int))),(9,.im (nI i90)),(10,.im (nI j91))] [] []) (fun (i90,j91)=>lZ x_∧lZ target_∧True) h (eA []) (by rintro ⟨i90,j91⟩;exact ((Holds.avl 0 rfl).and ((Holds.avl 1 rfl).and (hT)))) ?_
 clear h
 rintro k ⟨i90,j91⟩ o hp h ho101
 replace h:zq6.s2 x_ target_ cmp_ i90 j91=some o:=h
 unfold zq6.s2 at h
 obtain ⟨z111,z112,_⟩:=hp
 conv=>whnf
 refine Both.mk ?_ ?_<;>intro b102
 obtain ⟨h,b102d⟩:=ctd b102 h
 conv=>whnf
 obtain ⟨c103,h⟩:=chk_some h
 refine Arith.mk c103 ?_
 conv=>whnf
 obtain ⟨c104,h⟩:=chk_some h
 refine Side.mk c104 ?_
 conv=>whnf
 obtain ⟨c105,h⟩:=chk_some h
 refine Side.mk ⟨⟨by show (0:Int)≤(i90+j91) / 2^1;omega,by show (i90+j91) / 2^1≤(18446744073709551615:Int);omega⟩,c105.1,by decide,by decide⟩ ?_
 conv=>whnf
 obtain ⟨c106,h⟩:=chk_some h
 refine Side.mk c106 ?_
 conv=>whnf
 obtain ⟨e107,he107z,he107,h⟩:=idx_some h
 refine ⟨_,⟨he107z,map_at he107,rfl⟩,?_⟩
 conv=>whnf
 obtain ⟨c108,hc108,h⟩:=bind_some h
 refine ⟨_,hf2 e107 target_ c108 hc108,?_⟩
 conv=>whnf
 refine Both.mk ?_ ?_<;>intro b109
 obtain ⟨h,b109d⟩:=ctd b109 h
 conv=>whnf
 obtain ⟨c110,h⟩:=chk_some h
 refine Arith.mk c110 ?_
 conv=>whnf
 cases h
 exact Nxt.mk _ ho101 (eA [])
 obtain ⟨h,b109d⟩:=cfd b109 h
 conv=>whnf
 cases h
 exact Nxt.mk _ ho101 (eA [])
 obtain ⟨h,b102d⟩:=cfd b102 h
 conv=>whnf
 cases h
 have ho101:_=_:=ho101
 cases ho101
 exact Join.mk (eA [])
 replace h:=hk51
 obtain ⟨z113,z114,_⟩:=hp
 conv=>whnf
 obtain ⟨y120,hc,hk116⟩:=bind_some h
 clear h
 have h:=hc
 clear hc
 refine Cut.mk (mkSt [(6,.im (nI i82)),(7,.im (nB y120))] [] []) (True) (hT) ?_ (fun hp=>?_)
 conv=>whnf
 refine Both.mk ?_ ?_<;>intro b121
 replace b121:=beq_tt b121
 obtain ⟨h,b121d⟩:=ctd b121 h
 conv=>whnf
 iterate 3 (refine Both.yes (tt_beq b121) ?_;(conv=>whnf))
 obtain ⟨e122,he122z,he122,h⟩:=idx_some h
 refine ⟨_,⟨he122z,map_at he122,rfl⟩,?_⟩
 conv=>whnf
 iterate 3 (refine Both.yes (tt_beq b121) ?_;(conv=>whnf))
 obtain ⟨c123,hc123,h⟩:=bind_some h
 refine ⟨_,hf2 e122 target_ c123 hc123,?_⟩
 conv=>whnf
 refine Both.yes (tt_beq b121) ?_
 conv=>whnf
 refine Both.yes b121 ?_
 conv=>whnf
 cases h
 exact Join.mk (eA [])
 replace b121:=beq_tf b121
 obtain ⟨h,b121d⟩:=cfd b121 h
 conv=>whnf
 iterate 7 (refine Both.no (ft_beq b121) ?_;(conv=>whnf))
 refine Both.no b121 ?_
 conv=>whnf
 cases h
 exact Join.mk (eA [])
 replace h:=hk116
 conv=>whnf
 cases h
 conv=>whnf
 exact ⟨rfl,rfl⟩
theorem zq67 (x_:Int) (r:Bool) (h:Ok (nI x_)→zq86 x_=some r):Sp Tryz.prog 206 [.im (nI x_)] (.im (nB r)):=by
 refine sp_of rfl [] rfl rfl rfl (Nat.le_of_ble_eq_true rfl) rfl fun hk=>?_
 replace h:=h hk.1
 unfold zq86 at h
 conv=>whnf
 cases h
 conv=>whnf
 exact ⟨rfl,rfl⟩
theorem zq52 (x_:Int) (y_:Int) (r:Int) (h:Ok (nI x_)→Ok (nI y_)→zq75 x_ y_=some r):Sp Tryz.prog 163 [.im (nI x_),.im (nI y_)] (.im (nI r)):=by
 refine sp_of rfl [] rfl rfl rfl (Nat.le_of_ble_eq_true rfl) rfl fun hk=>?_
 replace h:=h hk.1 hk.2.1
 unfold zq75 at h
 conv=>whnf
 obtain ⟨c51,hc51,h⟩:=bind_some h
 refine ⟨_,(zq67 x_ c51 (fun _=>hc51)),?_⟩
 conv=>whnf
 obtain ⟨c52,hc52,h⟩:=bind_some h
 refine ⟨_,(zq67 y_ c52 (fun _=>hc52)),?_⟩
 conv=>whnf
 refine Both.mk ?_ ?_<;>intro b53
 replace h:=cond_t b53 h
 conv=>whnf
 refine Both.mk ?_ ?_<;>intro b54
 replace h:=cond_t b54 h
 conv=>whnf
 cases h
 conv=>whnf
 exact ⟨rfl,rfl⟩
 replace h:=cond_f b54 h
 conv=>whnf
 cases h
 conv=>whnf
 exact ⟨rfl,rfl⟩
 replace h:=cond_f b53 h
 conv=>whnf
 refine Both.mk ?_ ?_<;>intro b55
 replace h:=cond_t b55 h
 conv=>whnf
 cases h
 conv=>whnf
 exact ⟨rfl,rfl⟩
 replace h:=cond_f b55 h
 conv=>whnf
 refine Both.mk ?_ ?_<;>intro b56
 obtain ⟨h,b56d⟩:=ctd b56 h
 conv=>whnf
 cases h
 conv=>whnf
 exact ⟨rfl,rfl⟩
 obtain ⟨h,b56d⟩:=cfd b56 h
 conv=>whnf
 refine Both.mk ?_ ?_<;>intro b57
 obtain ⟨h,b57d⟩:=ctd b57 h
 conv=>whnf
 cases h
 conv=>whnf
 exact ⟨rfl,rfl⟩
 obtain ⟨h,b57d⟩:=cfd b57 h
 conv=>whnf
 cases h
 conv=>whnf
 exact ⟨rfl,rfl⟩
theorem zq20 (s1_:List Int) (s2_:List Int) (r:Int) (h:Ok (nL cI s1_)→Ok (nL cI s2_)→zq27 s1_ s2_=some r):Sp Tryz.prog 164 [.im (nL cI s1_),.im (nL cI s2_)] (.im (nI r)):=by
 refine sp_of rfl [] rfl rfl rfl (Nat.le_of_ble_eq_true rfl) rfl fun hk=>?_
 replace h:=h hk.1 hk.2.1
 have z1:lZ s1_:=ok_len hk.1
 have z2:lZ s2_:=ok_len hk.2.1
 unfold zq27 at h
 conv=>whnf
 refine Nf.mk (List.length s1_) len_map ?_
 conv=>whnf
 obtain ⟨oc,hc,hk51⟩:=bind_some h
 clear h
 have h:=hc
 clear hc
 refine Cut.mkS oc (Y:=Unit) (fun (_:Unit)=>mkSt [(0,.im (nL cI s1_)),(1,.im (nL cI s2_))] [] []) (fun (_:Unit)=>lZ s1_∧lZ s2_∧True) (by rintro ⟨⟩;exact ((Holds.avl 0 rfl).and ((Holds.avl 1 rfl).and (hT)))) ?_ ?_
 conv=>whnf
 refine Loops.iter (fun (s:Nat)=>zq27.s2 s1_ s2_ s) (fun y80=>mkSt [(0,.im (nL cI s1_)),(1,.im (nL cI s2_)),(9,.im (nL cI s1_)),(10,.im (nI (↑(List.length s1_):Int))),(11,.im (nI (↑y80:Int)))] [] []) (fun y80=>lZ s1_∧lZ s2_∧True) h (eA []) (by rintro y80;exact ((Holds.avl 0 rfl).and ((Holds.avl 1 rfl).and (hT)))) ?_
 clear h
 rintro k y80 o hp h ho87
 replace h:zq27.s2 s1_ s2_ y80=some o:=h
 unfold zq27.s2 at h
 obtain ⟨z94,z95,_⟩:=hp
 conv=>whnf
 refine Both.mk ?_ ?_<;>intro b88
 obtain ⟨h,b88d⟩:=ctd b88 h
 conv=>whnf
 obtain ⟨e89,he89,h⟩:=idxn_some h
 refine ⟨_,⟨(by omega),map_at he89,rfl⟩,?_⟩
 conv=>whnf
 refine Nf.mk (List.length s2_) len_map ?_
 conv=>whnf
 refine Both.mk ?_ ?_<;>intro b90
 obtain ⟨h,b90d⟩:=ctd b90 h
 conv=>whnf
 cases h
 have ho87:_=_:=ho87
 cases ho87
 replace h:some _=some _:=hk51
 cases h
 conv=>whnf
 exact ⟨rfl,rfl⟩
 obtain ⟨h,b90d⟩:=cfd b90 h
 conv=>whnf
 obtain ⟨e91,he91,h⟩:=idxn_some h
 refine ⟨_,⟨(by omega),map_at he91,rfl⟩,?_⟩
 conv=>whnf
 obtain ⟨c92,hc92,h⟩:=bind_some h
 refine ⟨_,(zq52 e89 e91 c92 (fun _ _=>hc92)),?_⟩
 conv=>whnf
 refine Both.mk ?_ ?_<;>intro b93
 obtain ⟨h,b93d⟩:=ctd b93 h
 conv=>whnf
 cases h
 have ho87:_=_:=ho87
 cases ho87
 replace h:some _=some _:=hk51
 cases h
 conv=>whnf
 exact ⟨rfl,rfl⟩
 obtain ⟨h,b93d⟩:=cfd b93 h
 conv=>whnf
 refine Arith.mk (by show inR _;unfold inR;omega) ?_
 conv=>whnf
 cases h
 exact Nxt.mk _ ho87 (eA [])
 obtain ⟨h,b88d⟩:=cfd b88 h
 conv=>whnf
 cases h
 have ho87:_=_:=ho87
 cases ho87
 exact JoinS.mk' _ rfl (eA [])
 rintro ⟨⟩ rfl hp
 replace h:=sum_inl hk51
 obtain ⟨z96,z97,_⟩:=hp
 conv=>whnf
 refine Nf.mk (List.length s1_) len_map ?_
 conv=>whnf
 refine Nf.mk (List.length s2_) len_map ?_
 conv=>whnf
 refine Both.mk ?_ ?_<;>intro b98
 obtain ⟨h,b98d⟩:=ctd b98 h
 conv=>whnf
 cases h
 conv=>whnf
 exact ⟨rfl,rfl⟩
 obtain ⟨h,b98d⟩:=cfd b98 h
 conv=>whnf
 cases h
 conv=>whnf
 exact ⟨rfl,rfl⟩
theorem sp_cmp_Or_int (vals_:List Int) (r:Int) (h:Ok (nL cI vals_)→zq110 vals_=some r):Sp Tryz.prog 162 [.im (nL cI vals_)] (.im (nI r)):=by
 refine sp_of rfl [] rfl rfl rfl (Nat.le_of_ble_eq_true rfl) rfl fun hk=>?_
 replace h:=h hk.1
 have z1:lZ vals_:=ok_len hk.1
 unfold zq110 at h
 conv=>whnf
 refine Nf.mk (List.length vals_) len_map ?_
 conv=>whnf
 obtain ⟨oc,hc,hk51⟩:=bind_some h
 clear h
 have h:=hc
 clear hc
 refine Cut.mkS oc (Y:=Unit) (fun (_:Unit)=>mkSt [(3,.im (nI 0))] [] []) (fun (_:Unit)=>True) (by rintro ⟨⟩;exact (hT)) ?_ ?_
 conv=>whnf
 refine Loops.iter (fun (s:Nat)=>zq110.s2 vals_ s) (fun y67=>mkSt [(3,.im (nI 0)),(6,.im (nL cI vals_)),(7,.im (nI (↑(List.length vals_):Int))),(8,.im (nI (↑y67:Int)))] [] []) (fun y67=>lZ vals_∧True) h (eA []) (by rintro y67;exact ((Holds.avl 6 rfl).and (hT))) ?_
 clear h
 rintro k y67 o hp h ho71
 replace h:zq110.s2 vals_ y67=some o:=h
 unfold zq110.s2 at h
 obtain ⟨z75,_⟩:=hp
 conv=>whnf
 refine Both.mk ?_ ?_<;>intro b72
 obtain ⟨h,b72d⟩:=ctd b72 h
 conv=>whnf
 obtain ⟨e73,he73,h⟩:=idxn_some h
 refine ⟨_,⟨(by omega),map_at he73,rfl⟩,?_⟩
 conv=>whnf
 refine Both.mk ?_ ?_<;>intro b74
 obtain ⟨h,b74d⟩:=ctd b74 h
 conv=>whnf
 cases h
 have ho71:_=_:=ho71
 cases ho71
 replace h:some _=some _:=hk51
 cases h
 conv=>whnf
 exact ⟨rfl,rfl⟩
 obtain ⟨h,b74d⟩:=cfd b74 h
 conv=>whnf
 refine Arith.mk (by show inR _;unfold inR;omega) ?_
 conv=>whnf
 cases h
 exact Nxt.mk _ ho71 (eA [])
 obtain ⟨h,b72d⟩:=cfd b72 h
 conv=>whnf
 cases h
 have ho71:_=_:=ho71
 cases ho71
 exact JoinS.mk' _ rfl (eA [])
 rintro ⟨⟩ rfl hp
 replace h:=sum_inl hk51
 conv=>whnf
 cases h
 conv=>whnf
 exact ⟨rfl,rfl⟩
theorem sp_word_Compare (a_:List Int) (b_:List Int) (r:Int) (h:Ok (nL cI a_)→Ok (nL cI b_)→word_Compare a_ b_=some r):Sp Tryz.prog 101 [.im (nL cI a_),.im (nL cI b_)] (.im (nI r)):=by
 refine sp_of rfl [] rfl rfl rfl (Nat.le_of_ble_eq_true rfl) rfl fun hk=>?_
 replace h:=h hk.1 hk.2.1
 have z1:lZ a_:=ok_len hk.1
 have z2:lZ b_:=ok_len hk.2.1
 unfold word_Compare at h
 conv=>whnf
 refine Nf.mk (List.length a_) len_map ?_
 conv=>whnf
 refine Nf.mk (List.length b_) len_map ?_
 conv=>whnf
 obtain ⟨c51,hc51,h⟩:=bind_some h
 refine ⟨_,(zq52 (↑(List.length a_):Int) (↑(List.length b_):Int) c51 (fun _ _=>hc51)),?_⟩
 conv=>whnf
 obtain ⟨c52,hc52,h⟩:=bind_some h
 refine ⟨_,(zq20 a_ b_ c52 (fun _ _=>hc52)),?_⟩
 conv=>whnf
 obtain ⟨c53,hc53,h⟩:=bind_some h
 refine ⟨_,(sp_cmp_Or_int [c51,c52] c53 (fun _=>hc53)),?_⟩
 conv=>whnf
 cases h
 conv=>whnf
 exact ⟨rfl,rfl⟩
theorem zq97 (l_:List (List Int)) (w_:List Int) (r:List (List Int)) (h:Ok (nL (cL cI) l_)→Ok (nL cI w_)→zq111 l_ w_=some r):Sp Tryz.prog 47 [.im (nL (cL cI) l_),.im (nL cI w_)] (.im (nL (cL cI) r)):=by
 refine sp_of rfl [] rfl rfl rfl (Nat.le_of_ble_eq_true rfl) rfl fun hk=>?_
 replace h:=h hk.1 hk.2.1
 have z1:lZ l_:=ok_len hk.1
 have z2:lZ w_:=ok_len hk.2.1
 unfold zq111 at h
 conv=>whnf
 obtain ⟨c51,hc51,h⟩:=bind_some h
 refine ⟨_,(zq3 l_ w_ (fun u0 u1=>word_Compare u0 u1) 101 (fun u0 u1 r h=>(sp_word_Compare u0 u1 r (fun _ _=>h))) c51 (fun _ _ _=>hc51)),?_⟩
 conv=>whnf
 refine Both.mk ?_ ?_<;>intro b52
 replace h:=cond_t b52 h
 conv=>whnf
 cases h
 conv=>whnf
 exact ⟨rfl,rfl⟩
 replace h:=cond_f b52 h
 conv=>whnf
 obtain ⟨c53,h⟩:=chk_some h
 refine Side.mk (show (0:Int)≤c51.1∧c51.1≤(↑(List.length (List.map (cL cI) l_)):Int)∧c51.1=c51.1∧(∀ e∈List.map (cL cI) l_,List.length e=1) from ⟨by omega,by simp only [List.length_map];omega,rfl,map_len fun _=>rfl⟩) ?_
 conv=>whnf
 refine Nf.mk (List.map (cL cI) (List.take (Int.toNat c51.1) l_)) take_map ?_
 conv=>whnf
 obtain ⟨c54,hc54,h⟩:=bind_some h
 refine ⟨_,(sp_lib_Clone_int w_ c54 (hc54)).im,?_⟩
 conv=>whnf
 obtain ⟨c55,h⟩:=chk_some h
 refine Side.mk ⟨Nat.succ_pos _,map_len (l:=(List.take (Int.toNat c51.1) l_)) (c:=cL cI) fun _=>rfl,map_len (l:=[c54]) (c:=cL cI) fun _=>rfl,show capOk _ 24 by simpa only [List.length_map,List.length_cons,List.length_nil,Nat.zero_add] using c55⟩ ?_
 conv=>whnf
 refine Nf.mk (List.map (cL cI) ((List.take (Int.toNat c51.1) l_)++[c54])) (app_map (l:=(List.take (Int.toNat c51.1) l_)) (m:=[c54]) (c:=cL cI)) ?_
 conv=>whnf
 obtain ⟨c56,h⟩:=chk_some h
 refine Side.mk (show (0:Int)≤c51.1∧c51.1≤(↑(List.length (List.map (cL cI) l_)):Int)∧(↑(List.length (List.map (cL cI) l_)):Int)≤(↑(List.length (List.map (cL cI) l_)):Int)∧(∀ e∈List.map (cL cI) l_,List.length e=1) from ⟨by omega,by first | omega | (simp only [List.length_map];omega),by first | omega | (simp only [List.length_map];omega),map_len fun _=>rfl⟩) ?_
 conv=>whnf
 refine Nf.mk (List.map (cL cI) (List.drop (Int.toNat c51.1) l_)) drop_map ?_
 conv=>whnf
 obtain ⟨c57,h⟩:=chk_some h
 refine Side.mk ⟨rfl,map_len (l:=(List.drop (Int.toNat c51.1) l_)) (c:=cL cI) fun _=>rfl,show capOk _ 24 by simpa only [List.length_map,List.length_cons,List.length_nil,Nat.zero_add] using c57⟩ ?_
 conv=>whnf
 refine Nf.mk (List.map (cL cI) (((List.take (Int.toNat c51.1) l_)++[c54])++(List.drop (Int.toNat c51.1) l_))) (app_map (l:=((List.take (Int.toNat c51.1) l_)++[c54])) (m:=(List.drop (Int.toNat c51.1) l_)) (c:=cL cI)) ?_
 conv=>whnf
 cases h
 conv=>whnf
 exact Side.mk ⟨rfl,trivial⟩ ⟨rfl,rfl⟩
theorem zq23 (s1_:List Int) (s2_:List Int) (r:Bool) (h:Ok (nL cI s1_)→Ok (nL cI s2_)→zq32 s1_ s2_=some r):Sp Tryz.prog 122 [.im (nL cI s1_),.im (nL cI s2_)] (.im (nB r)):=by
 refine sp_of rfl [] rfl rfl rfl (Nat.le_of_ble_eq_true rfl) rfl fun hk=>?_
 replace h:=h hk.1 hk.2.1
 have z1:lZ s1_:=ok_len hk.1
 have z2:lZ s2_:=ok_len hk.2.1
 unfold zq32 at h
 conv=>whnf
 refine Nf.mk (List.length s1_) len_map ?_
 conv=>whnf
 refine Nf.mk (List.length s2_) len_map ?_
 conv=>whnf
 refine Both.mk ?_ ?_<;>intro b51
 obtain ⟨h,b51d⟩:=ctd b51 h
 conv=>whnf
 cases h
 conv=>whnf
 exact ⟨rfl,rfl⟩
 obtain ⟨h,b51d⟩:=cfd b51 h
 conv=>whnf
 refine Nf.mk (List.length s1_) len_map ?_
 conv=>whnf
 obtain ⟨oc,hc,hk52⟩:=bind_some h
 clear h
 have h:=hc
 clear hc
 refine Cut.mkS oc (Y:=Unit) (fun (_:Unit)=>mkSt [] [] []) (fun (_:Unit)=>True) (by rintro ⟨⟩;exact (hT)) ?_ ?_
 conv=>whnf
 refine Loops.iter (fun (s:Nat)=>zq32.s2 s1_ s2_ s) (fun y73=>mkSt [(0,.im (nL cI s1_)),(1,.im (nL cI s2_)),(12,.im (nI (↑(List.length s1_):Int))),(13,.im (nI (↑y73:Int)))] [] []) (fun y73=>lZ s1_∧lZ s2_∧True) h (eA []) (by rintro y73;exact ((Holds.avl 0 rfl).and ((Holds.avl 1 rfl).and (hT)))) ?_
 clear h
 rintro k y73 o hp h ho78
 replace h:zq32.s2 s1_ s2_ y73=some o:=h
 unfold zq32.s2 at h
 obtain ⟨z83,z84,_⟩:=hp
 conv=>whnf
 refine Both.mk ?_ ?_<;>intro b79
 obtain ⟨h,b79d⟩:=ctd b79 h
 conv=>whnf
 obtain ⟨e80,he80,h⟩:=idxn_some h
 refine ⟨_,⟨(by omega),map_at he80,rfl⟩,?_⟩
 conv=>whnf
 obtain ⟨e81,he81,h⟩:=idxn_some h
 refine ⟨_,⟨(by omega),map_at he81,rfl⟩,?_⟩
 conv=>whnf
 refine Both.mk ?_ ?_<;>intro b82
 obtain ⟨h,b82d⟩:=ctd b82 h
 conv=>whnf
 cases h
 have ho78:_=_:=ho78
 cases ho78
 replace h:some _=some _:=hk52
 cases h
 conv=>whnf
 exact ⟨rfl,rfl⟩
 obtain ⟨h,b82d⟩:=cfd b82 h
 conv=>whnf
 refine Arith.mk (by show inR _;unfold inR;omega) ?_
 conv=>whnf
 cases h
 exact Nxt.mk _ ho78 (eA [])
 obtain ⟨h,b79d⟩:=cfd b79 h
 conv=>whnf
 cases h
 have ho78:_=_:=ho78
 cases ho78
 exact JoinS.mk' _ rfl (eA [])
 rintro ⟨⟩ rfl hp
 replace h:=sum_inl hk52
 conv=>whnf
 cases h
 conv=>whnf
 exact ⟨rfl,rfl⟩
theorem sp_wordset_Has_1 (v_:List Int) (p1_:List Int) (r:Bool) (h:Ok (nL cI v_)→Ok (.ref (cL cI p1_))→zq85 v_ p1_=some r):Sp Tryz.prog 169 [.im (nL cI v_),.im (.ref (cL cI p1_))] (.im (nB r)):=by
 refine sp_of rfl [] rfl rfl rfl (Nat.le_of_ble_eq_true rfl) rfl fun hk=>?_
 replace h:=h hk.1 hk.2.1
 have z1:lZ v_:=ok_len hk.1
 have z2:lZ p1_:=ok_len (Ok.ref_at hk.2.1 0 rfl)
 unfold zq85 at h
 conv=>whnf
 obtain ⟨c51,hc51,h⟩:=bind_some h
 refine ⟨_,(zq23 v_ p1_ c51 (fun _ _=>hc51)),?_⟩
 conv=>whnf
 cases h
 conv=>whnf
 exact ⟨rfl,rfl⟩
theorem zq11 (s_:List (List Int)) (f_:(List Int)→Option Bool) (f1_:FuncId) (k1_0:IV) (hk1_0:nz k1_0=k1_0) (hf1:∀ x0 r,f_ x0=some r→Sp Tryz.prog f1_ [.im (nL cI x0),.im k1_0] (.im (nB r))) (r:Int) (h:Ok (nL (cL cI) s_)→Ok (.fn f1_ [k1_0])→zq16 s_ f_=some r):Sp Tryz.prog 208 [.im (nL (cL cI) s_),.im (.fn f1_ [k1_0])] (.im (nI r)):=by
 refine sp_of rfl [] rfl rfl rfl (Nat.le_of_ble_eq_true rfl) rfl fun hk=>?_
 replace h:=h hk.1 hk.2.1
 have z1:lZ s_:=ok_len hk.1
 unfold zq16 at h
 conv=>whnf
 refine Nf.mk (List.length s_) len_map ?_
 conv=>whnf
 obtain ⟨oc,hc,hk51⟩:=bind_some h
 clear h
 have h:=hc
 clear hc
 refine Cut.mkS oc (Y:=Unit) (fun (_:Unit)=>mkSt [] [] []) (fun (_:Unit)=>True) (by rintro ⟨⟩;exact (hT)) ?_ ?_
 conv=>whnf
 refine Loops.iter (fun (s:Nat)=>zq16.s2 s_ f_ s) (fun y71=>mkSt [(0,.im (nL (cL cI) s_)),(1,.im (.fn f1_ [k1_0])),(7,.im (nI (↑(List.length s_):Int))),(8,.im (nI (↑y71:Int)))] [] []) (fun y71=>lZ s_∧True) h (eA []) (by rintro y71;exact ((Holds.avl 0 rfl).and (hT))) ?_
 clear h
 rintro k y71 o hp h ho76
 replace h:zq16.s2 s_ f_ y71=some o:=h
 unfold zq16.s2 at h
 obtain ⟨z81,_⟩:=hp
 conv=>whnf
 refine Both.mk ?_ ?_<;>intro b77
 obtain ⟨h,b77d⟩:=ctd b77 h
 conv=>whnf
 obtain ⟨e78,he78,h⟩:=idxn_some h
 refine ⟨_,⟨(by omega),map_at he78,rfl⟩,?_⟩
 conv=>whnf
 obtain ⟨c79,hc79,h⟩:=bind_some h
 refine ⟨_,Sp.args (hf1 e78 c79 hc79) (by rw [hk1_0];try rfl),?_⟩
 conv=>whnf
 refine Both.mk ?_ ?_<;>intro b80
 replace h:=cond_t b80 h
 conv=>whnf
 cases h
 have ho76:_=_:=ho76
 cases ho76
 replace h:some _=some _:=hk51
 cases h
 conv=>whnf
 exact ⟨rfl,rfl⟩
 replace h:=cond_f b80 h
 conv=>whnf
 refine Arith.mk (by show inR _;unfold inR;omega) ?_
 conv=>whnf
 cases h
 exact Nxt.mk _ ho76 (eA [])
 obtain ⟨h,b77d⟩:=cfd b77 h
 conv=>whnf
 cases h
 have ho76:_=_:=ho76
 cases ho76
 exact JoinS.mk' _ rfl (eA [])
 rintro ⟨⟩ rfl hp
 replace h:=sum_inl hk51
 conv=>whnf
 cases h
 conv=>whnf
 exact ⟨rfl,rfl⟩
theorem zq8 (s_:List (List Int)) (f_:(List Int)→Option Bool) (f1_:FuncId) (k1_0:IV) (hk1_0:nz k1_0=k1_0) (hf1:∀ x0 r,f_ x0=some r→Sp Tryz.prog f1_ [.im (nL cI x0),.im k1_0] (.im (nB r))) (r:Bool) (h:Ok (nL (cL cI) s_)→Ok (.fn f1_ [k1_0])→zq12 s_ f_=some r):Sp Tryz.prog 168 [.im (nL (cL cI) s_),.im (.fn f1_ [k1_0])] (.im (nB r)):=by
 refine sp_of rfl [] rfl rfl rfl (Nat.le_of_ble_eq_true rfl) rfl fun hk=>?_
 replace h:=h hk.1 hk.2.1
 have z1:lZ s_:=ok_len hk.1
 unfold zq12 at h
 conv=>whnf
 obtain ⟨c51,hc51,h⟩:=bind_some h
 refine ⟨_,(zq11 s_ f_ f1_ k1_0 hk1_0 hf1 c51 (fun _ _=>hc51)),?_⟩
 conv=>whnf
 cases h
 conv=>whnf
 exact ⟨rfl,rfl⟩
theorem sp_wordset_Has (l_:List (List Int)) (w_:List Int) (r:Bool) (h:Ok (nL (cL cI) l_)→Ok (nL cI w_)→zq100 l_ w_=some r):Sp Tryz.prog 105 [.im (nL (cL cI) l_),.im (nL cI w_)] (.im (nB r)):=by
 refine sp_of rfl [700003] rfl rfl rfl (Nat.le_of_ble_eq_true rfl) rfl fun hk=>?_
 replace h:=h hk.1 hk.2.1
 have z1:lZ l_:=ok_len hk.1
 have z2:lZ w_:=ok_len hk.2.1
 unfold zq100 at h
 conv=>whnf
 obtain ⟨c51,hc51,h⟩:=bind_some h
 refine ⟨_,(zq8 l_ (fun u0=>zq85 u0 w_) 169 (.ref (cL cI w_)) rfl (fun u0 r h=>(sp_wordset_Has_1 u0 w_ r (fun _ _=>h))) c51 (fun _ _=>hc51)),?_⟩
 conv=>whnf
 cases h
 conv=>whnf
 exact ⟨rfl,rfl⟩
theorem zq84 (l_:T_api_Lazy) (r:T_api_Table) (h:Ok (.agg (c_api_Lazy l_))→zq108 l_=some r):Sp Tryz.prog 44 [.im (.agg (c_api_Lazy l_))] (.im (.agg (c_api_Table r))):=by
 refine sp_of rfl [700001] rfl rfl rfl (Nat.le_of_ble_eq_true rfl) rfl fun hk=>?_
 replace h:=h hk.1
 have z1:lZ l_.Short:=ok_len (Ok.agg_at hk.1 1 rfl)
 have z2:lZ l_.Suffixes:=ok_len (Ok.agg_at hk.1 2 rfl)
 unfold zq108 at h
 conv=>whnf
 refine Side.mk rfl ?_
 conv=>whnf
 cases h
 conv=>whnf
 refine Side.mk ⟨rfl,trivial⟩ ?_
 conv=>whnf
 exact ⟨rfl,rfl⟩
theorem sp_word_permitted (inputs_:Int) (r:Bool) (h:Ok (nI inputs_)→word_permitted inputs_=some r):Sp Tryz.prog 115 [.im (nI inputs_)] (.im (nB r)):=by
 refine sp_of rfl [] rfl rfl rfl (Nat.le_of_ble_eq_true rfl) rfl fun hk=>?_
 replace h:=h hk.1
 unfold word_permitted at h
 conv=>whnf
 obtain ⟨y54,hc,hk52⟩:=bind_some h
 clear h
 have h:=hc
 clear hc
 refine Cut.mk (mkSt [(2,.im (nB y54))] [] []) (True) (hT) ?_ (fun hp=>?_)
 conv=>whnf
 refine Both.mk ?_ ?_<;>intro b55
 replace b55:=beq_tt b55
 obtain ⟨h,b55d⟩:=ctd b55 h
 conv=>whnf
 refine Both.yes (tt_beq b55) ?_
 conv=>whnf
 refine Both.yes b55 ?_
 conv=>whnf
 cases h
 exact Join.mk (eA [])
 replace b55:=beq_tf b55
 obtain ⟨h,b55d⟩:=cfd b55 h
 conv=>whnf
 refine Both.no (ft_beq b55) ?_
 conv=>whnf
 refine Both.no b55 ?_
 conv=>whnf
 cases h
 exact Join.mk (eA [])
 replace h:=hk52
 conv=>whnf
 cases h
 conv=>whnf
 exact ⟨rfl,rfl⟩
theorem sp_word_Check_1 (a_:Int) (p1_:Int) (r:Bool) (h:Ok (nI a_)→Ok (.ref (cI p1_))→word_Check_1 a_ p1_=some r):Sp Tryz.prog 117 [.im (nI a_),.im (.ref (cI p1_))] (.im (nB r)):=by
 refine sp_of rfl [] rfl rfl rfl (Nat.le_of_ble_eq_true rfl) rfl fun hk=>?_
 replace h:=h hk.1 hk.2.1
 unfold word_Check_1 at h
 conv=>whnf
 obtain ⟨y54,hc,hk52⟩:=bind_some h
 clear h
 have h:=hc
 clear hc
 refine Cut.mk (mkSt [(3,.im (nB y54))] [] []) (True) (hT) ?_ (fun hp=>?_)
 conv=>whnf
 refine Both.mk ?_ ?_<;>intro b55
 replace b55:=beq_ff b55
 obtain ⟨h,b55d⟩:=cfd b55 h
 conv=>whnf
 iterate 2 (refine Both.yes (ff_beq b55) ?_;(conv=>whnf))
 refine Both.no b55 ?_
 conv=>whnf
 cases h
 exact Join.mk (eA [])
 replace b55:=beq_ft b55
 obtain ⟨h,b55d⟩:=ctd b55 h
 conv=>whnf
 iterate 2 (refine Both.no (tf_beq b55) ?_;(conv=>whnf))
 refine Both.yes b55 ?_
 conv=>whnf
 cases h
 exact Join.mk (eA [])
 replace h:=hk52
 conv=>whnf
 cases h
 conv=>whnf
 exact ⟨rfl,rfl⟩
theorem zq15 (s_:List Int) (f_:Int→Option Bool) (f1_:FuncId) (k1_0:IV) (hk1_0:nz k1_0=k1_0) (hf1:∀ x0 r,f_ x0=some r→Sp Tryz.prog f1_ [.im (nI x0),.im k1_0] (.im (nB r))) (r:Int) (h:Ok (nL cI s_)→Ok (.fn f1_ [k1_0])→zq17 s_ f_=some r):Sp Tryz.prog 179 [.im (nL cI s_),.im (.fn f1_ [k1_0])] (.im (nI r)):=by
 refine sp_of rfl [] rfl rfl rfl (Nat.le_of_ble_eq_true rfl) rfl fun hk=>?_
 replace h:=h hk.1 hk.2.1
 have z1:lZ s_:=ok_len hk.1
 unfold zq17 at h
 conv=>whnf
 refine Nf.mk (List.length s_) len_map ?_
 conv=>whnf
 obtain ⟨oc,hc,hk51⟩:=bind_some h
 clear h
 have h:=hc
 clear hc
 refine Cut.mkS oc (Y:=Unit) (fun (_:Unit)=>mkSt [] [] []) (fun (_:Unit)=>True) (by rintro ⟨⟩;exact (hT)) ?_ ?_
 conv=>whnf
 refine Loops.iter (fun (s:Nat)=>zq17.s2 s_ f_ s) (fun y71=>mkSt [(0,.im (nL cI s_)),(1,.im (.fn f1_ [k1_0])),(7,.im (nI (↑(List.length s_):Int))),(8,.im (nI (↑y71:Int)))] [] []) (fun y71=>lZ s_∧True) h (eA []) (by rintro y71;exact ((Holds.avl 0 rfl).and (hT))) ?_
 clear h
 rintro k y71 o hp h ho76
 replace h:zq17.s2 s_ f_ y71=some o:=h
 unfold zq17.s2 at h
 obtain ⟨z81,_⟩:=hp
 conv=>whnf
 refine Both.mk ?_ ?_<;>intro b77
 obtain ⟨h,b77d⟩:=ctd b77 h
 conv=>whnf
 obtain ⟨e78,he78,h⟩:=idxn_some h
 refine ⟨_,⟨(by omega),map_at he78,rfl⟩,?_⟩
 conv=>whnf
 obtain ⟨c79,hc79,h⟩:=bind_some h
 refine ⟨_,Sp.args (hf1 e78 c79 hc79) (by rw [hk1_0];try rfl),?_⟩
 conv=>whnf
 refine Both.mk ?_ ?_<;>intro b80
 replace h:=cond_t b80 h
 conv=>whnf
 cases h
 have ho76:_=_:=ho76
 cases ho76
 replace h:some _=some _:=hk51
 cases h
 conv=>whnf
 exact ⟨rfl,rfl⟩
 replace h:=cond_f b80 h
 conv=>whnf
 refine Arith.mk (by show inR _;unfold inR;omega) ?_
 conv=>whnf
 cases h
 exact Nxt.mk _ ho76 (eA [])
 obtain ⟨h,b77d⟩:=cfd b77 h
 conv=>whnf
 cases h
 have ho76:_=_:=ho76
 cases ho76
 exact JoinS.mk' _ rfl (eA [])
 rintro ⟨⟩ rfl hp
 replace h:=sum_inl hk51
 conv=>whnf
 cases h
 conv=>whnf
 exact ⟨rfl,rfl⟩
theorem zq10 (s_:List Int) (f_:Int→Option Bool) (f1_:FuncId) (k1_0:IV) (hk1_0:nz k1_0=k1_0) (hf1:∀ x0 r,f_ x0=some r→Sp Tryz.prog f1_ [.im (nI x0),.im k1_0] (.im (nB r))) (r:Bool) (h:Ok (nL cI s_)→Ok (.fn f1_ [k1_0])→zq14 s_ f_=some r):Sp Tryz.prog 116 [.im (nL cI s_),.im (.fn f1_ [k1_0])] (.im (nB r)):=by
 refine sp_of rfl [] rfl rfl rfl (Nat.le_of_ble_eq_true rfl) rfl fun hk=>?_
 replace h:=h hk.1 hk.2.1
 have z1:lZ s_:=ok_len hk.1
 unfold zq14 at h
 conv=>whnf
 obtain ⟨c51,hc51,h⟩:=bind_some h
 refine ⟨_,(zq15 s_ f_ f1_ k1_0 hk1_0 hf1 c51 (fun _ _=>hc51)),?_⟩
 conv=>whnf
 cases h
 conv=>whnf
 exact ⟨rfl,rfl⟩
theorem sp_word_Check (w_:List Int) (inputs_:Int) (r:Int) (h:Ok (nL cI w_)→Ok (nI inputs_)→word_Check w_ inputs_=some r):Sp Tryz.prog 59 [.im (nL cI w_),.im (nI inputs_)] (.im (nI r)):=by
 refine sp_of rfl [700003] rfl rfl rfl (Nat.le_of_ble_eq_true rfl) rfl fun hk=>?_
 replace h:=h hk.1 hk.2.1
 have z1:lZ w_:=ok_len hk.1
 unfold word_Check at h
 conv=>whnf
 obtain ⟨c51,hc51,h⟩:=bind_some h
 refine ⟨_,(sp_word_permitted inputs_ c51 (fun _=>hc51)),?_⟩
 conv=>whnf
 refine Both.mk ?_ ?_<;>intro b52
 replace h:=cond_t b52 h
 conv=>whnf
 cases h
 conv=>whnf
 exact ⟨rfl,rfl⟩
 replace h:=cond_f b52 h
 conv=>whnf
 refine Nf.mk (List.length w_) len_map ?_
 conv=>whnf
 refine Both.mk ?_ ?_<;>intro b53
 obtain ⟨h,b53d⟩:=ctd b53 h
 conv=>whnf
 cases h
 conv=>whnf
 exact ⟨rfl,rfl⟩
 obtain ⟨h,b53d⟩:=cfd b53 h
 conv=>whnf
 obtain ⟨c54,hc54,h⟩:=bind_some h
 refine ⟨_,(zq10 w_ (fun u0=>word_Check_1 u0 inputs_) 117 (.ref (cI inputs_)) rfl (fun u0 r h=>(sp_word_Check_1 u0 inputs_ r (fun _ _=>h))) c54 (fun _ _=>hc54)),?_⟩
 conv=>whnf
 refine Both.mk ?_ ?_<;>intro b55
 replace h:=cond_t b55 h
 conv=>whnf
 cases h
 conv=>whnf
 exact ⟨rfl,rfl⟩
 replace h:=cond_f b55 h
 conv=>whnf
 cases h
 conv=>whnf
 exact ⟨rfl,rfl⟩
theorem zq63 (l_:List (List Int)) (i_:Int) (r:Bool) (h:Ok (nL (cL cI) l_)→Ok (nI i_)→zq92 l_ i_=some r):Sp Tryz.prog 166 [.im (nL (cL cI) l_),.im (nI i_)] (.im (nB r)):=by
 refine sp_of rfl [] rfl rfl rfl (Nat.le_of_ble_eq_true rfl) rfl fun hk=>?_
 replace h:=h hk.1 hk.2.1
 have z1:lZ l_:=ok_len hk.1
 unfold zq92 at h
 conv=>whnf
 obtain ⟨y58,hc,hk52⟩:=bind_some h
 clear h
 have h:=hc
 clear hc
 refine Cut.mk (mkSt [(4,.im (nB y58))] [] []) (True) (hT) ?_ (fun hp=>?_)
 conv=>whnf
 refine Both.mk ?_ ?_<;>intro b59
 replace b59:=beq_ff b59
 obtain ⟨h,b59d⟩:=cfd b59 h
 conv=>whnf
 iterate 2 (refine Both.yes (ff_beq b59) ?_;(conv=>whnf))
 obtain ⟨c60,h⟩:=chk_some h
 refine Arith.mk c60 ?_
 conv=>whnf
 refine Both.yes (ff_beq b59) ?_
 conv=>whnf
 obtain ⟨e61,he61z,he61,h⟩:=idx_some h
 refine ⟨_,⟨he61z,map_at he61,rfl⟩,?_⟩
 conv=>whnf
 iterate 4 (refine Both.yes (ff_beq b59) ?_;(conv=>whnf))
 obtain ⟨e62,he62z,he62,h⟩:=idx_some h
 refine ⟨_,⟨he62z,map_at he62,rfl⟩,?_⟩
 conv=>whnf
 iterate 2 (refine Both.yes (ff_beq b59) ?_;(conv=>whnf))
 obtain ⟨c63,hc63,h⟩:=bind_some h
 refine ⟨_,(sp_word_Compare e61 e62 c63 (fun _ _=>hc63)),?_⟩
 conv=>whnf
 refine Both.yes (ff_beq b59) ?_
 conv=>whnf
 refine Both.no b59 ?_
 conv=>whnf
 cases h
 exact Join.mk (eA [])
 replace b59:=beq_ft b59
 obtain ⟨h,b59d⟩:=ctd b59 h
 conv=>whnf
 iterate 10 (refine Both.no (tf_beq b59) ?_;(conv=>whnf))
 refine Both.yes b59 ?_
 conv=>whnf
 cases h
 exact Join.mk (eA [])
 replace h:=hk52
 conv=>whnf
 cases h
 conv=>whnf
 exact ⟨rfl,rfl⟩
theorem zq65 (l_:List (List Int)) (r:Int) (h:Ok (nL (cL cI) l_)→zq91 l_=some r):Sp Tryz.prog 167 [.im (nL (cL cI) l_)] (.im (nI r)):=by
 refine sp_of rfl [] rfl rfl rfl (Nat.le_of_ble_eq_true rfl) rfl fun hk=>?_
 replace h:=h hk.1
 have z1:lZ l_:=ok_len hk.1
 unfold zq91 at h
 conv=>whnf
 refine Nf.mk (List.length l_) len_map ?_
 conv=>whnf
 obtain ⟨n62,hc,hk51⟩:=bind_some h
 clear h
 have h:=hc
 clear hc
 refine Cut.mk (mkSt [(3,.im (nI n62))] [] []) (True) (hT) ?_ (fun hp=>?_)
 conv=>whnf
 refine Loops.iter (fun (s:Int×Nat)=>zq91.s2 l_ s.1 s.2) (fun (n65,y66)=>mkSt [(3,.im (nI n65)),(6,.im (nL (cL cI) l_)),(7,.im (nI (↑(List.length l_):Int))),(8,.im (nI (↑y66:Int)))] [] []) (fun (n65,y66)=>lZ l_∧True) h (eA []) (by rintro ⟨n65,y66⟩;exact ((Holds.avl 6 rfl).and (hT))) ?_
 clear h
 rintro k ⟨n65,y66⟩ o hp h ho69
 replace h:zq91.s2 l_ n65 y66=some o:=h
 unfold zq91.s2 at h
 obtain ⟨z72,_⟩:=hp
 conv=>whnf
 refine Both.mk ?_ ?_<;>intro b70
 obtain ⟨h,b70d⟩:=ctd b70 h
 conv=>whnf
 obtain ⟨e71,he71,h⟩:=idxn_some h
 refine ⟨_,⟨(by omega),map_at he71,rfl⟩,?_⟩
 conv=>whnf
 refine Nf.mk (List.length e71) len_map ?_
 conv=>whnf
 refine Arith.mk (by show inR _;unfold inR;omega) ?_
 conv=>whnf
 cases h
 exact Nxt.mk _ ho69 (eA [])
 obtain ⟨h,b70d⟩:=cfd b70 h
 conv=>whnf
 cases h
 have ho69:_=_:=ho69
 cases ho69
 exact Join.mk (eA [])
 replace h:=hk51
 conv=>whnf
 cases h
 conv=>whnf
 exact ⟨rfl,rfl⟩
theorem sp_table_Valid (t_:T_api_Table) (r:Int) (h:Ok (.agg (c_api_Table t_))→zq98 t_=some r):Sp Tryz.prog 104 [.im (.agg (c_api_Table t_))] (.im (nI r)):=by
 refine sp_of rfl [700001] rfl rfl rfl (Nat.le_of_ble_eq_true rfl) rfl fun hk=>?_
 replace h:=h hk.1
 have z1:lZ t_.Prefixes:=ok_len (Ok.agg_at hk.1 1 rfl)
 have z2:lZ t_.Suffixes:=ok_len (Ok.agg_at hk.1 2 rfl)
 unfold zq98 at h
 conv=>whnf
 refine Nf.mk (List.length t_.Prefixes) len_map ?_
 conv=>whnf
 refine Nf.mk (List.length t_.Suffixes) len_map ?_
 conv=>whnf
 obtain ⟨y54,hc,hk52⟩:=bind_some h
 clear h
 have h:=hc
 clear hc
 refine Cut.mk (mkSt [(1,.im (.ref (c_api_Table t_))),(3,.im (nI (↑(List.length t_.Prefixes):Int))),(4,.im (nI (↑(List.length t_.Suffixes):Int))),(20,.im (nB y54))] [] []) (True) (hT) ?_ (fun hp=>?_)
 conv=>whnf
 refine Both.mk ?_ ?_<;>intro b55
 replace b55:=beq_ff b55
 obtain ⟨h,b55d⟩:=cfd b55 h
 conv=>whnf
 iterate 2 (refine Both.yes (ff_beq b55) ?_;(conv=>whnf))
 refine Both.no b55 ?_
 conv=>whnf
 cases h
 exact Join.mk (eA [])
 replace b55:=beq_ft b55
 obtain ⟨h,b55d⟩:=ctd b55 h
 conv=>whnf
 iterate 2 (refine Both.no (tf_beq b55) ?_;(conv=>whnf))
 refine Both.yes b55 ?_
 conv=>whnf
 cases h
 exact Join.mk (eA [])
 replace h:=hk52
 conv=>whnf
 refine Both.mk ?_ ?_<;>intro b56
 replace h:=cond_t b56 h
 conv=>whnf
 cases h
 conv=>whnf
 exact ⟨rfl,rfl⟩
 replace h:=cond_f b56 h
 conv=>whnf
 refine Both.mk ?_ ?_<;>intro b57
 obtain ⟨h,b57d⟩:=ctd b57 h
 conv=>whnf
 cases h
 conv=>whnf
 exact ⟨rfl,rfl⟩
 obtain ⟨h,b57d⟩:=cfd b57 h
 conv=>whnf
 obtain ⟨y65,hc,hk59⟩:=bind_some h
 clear h
 have h:=hc
 clear hc
 refine Cut.mk (mkSt [(1,.im (.ref (c_api_Table t_))),(4,.im (nI (↑(List.length t_.Suffixes):Int))),(32,.im (nB y65))] [] []) (True) (hT) ?_ (fun hp=>?_)
 conv=>whnf
 refine Both.mk ?_ ?_<;>intro b66
 replace b66:=beq_ff b66
 obtain ⟨h,b66d⟩:=cfd b66 h
 conv=>whnf
 refine Both.yes (ff_beq b66) ?_
 conv=>whnf
 refine Both.no b66 ?_
 conv=>whnf
 refine Both.mk ?_ ?_<;>intro b67
 replace b67:=beq_ff b67
 obtain ⟨h,b67d⟩:=cfd b67 h
 conv=>whnf
 iterate 3 (refine Both.yes (ff_beq b67) ?_;(conv=>whnf))
 obtain ⟨c68,h⟩:=chk_some h
 refine Arith.mk c68 ?_
 conv=>whnf
 refine Both.yes (ff_beq b67) ?_
 conv=>whnf
 obtain ⟨c69,h⟩:=chk_some h
 refine Arith.mk c69 ?_
 conv=>whnf
 iterate 2 (refine Both.yes (ff_beq b67) ?_;(conv=>whnf))
 obtain ⟨c70,h⟩:=chk_some h
 refine Arith.mk c70 ?_
 conv=>whnf
 refine Both.yes (ff_beq b67) ?_
 conv=>whnf
 refine Both.no b67 ?_
 conv=>whnf
 cases h
 exact Join.mk (eA [])
 replace b67:=beq_ft b67
 obtain ⟨h,b67d⟩:=ctd b67 h
 conv=>whnf
 iterate 7 (refine Both.no (tf_beq b67) ?_;(conv=>whnf))
 refine Both.yes b67 ?_
 conv=>whnf
 cases h
 exact Join.mk (eA [])
 replace b66:=beq_ft b66
 obtain ⟨h,b66d⟩:=ctd b66 h
 conv=>whnf
 refine Both.no (tf_beq b66) ?_
 conv=>whnf
 refine Both.yes b66 ?_
 conv=>whnf
 iterate 8 (refine Both.no rfl ?_;(conv=>whnf))
 refine Both.yes rfl ?_
 conv=>whnf
 cases h
 exact Join.mk (eA [])
 replace h:=hk59
 conv=>whnf
 refine Both.mk ?_ ?_<;>intro b71
 replace h:=cond_t b71 h
 conv=>whnf
 cases h
 conv=>whnf
 exact ⟨rfl,rfl⟩
 replace h:=cond_f b71 h
 conv=>whnf
 refine Nf.mk (List.length t_.Prefixes) len_map ?_
 conv=>whnf
 obtain ⟨y86,hc,hk72⟩:=bind_some h
 clear h
 have h:=hc
 clear hc
 refine Cut.mk (mkSt [(1,.im (.ref (c_api_Table t_))),(4,.im (nI (↑(List.length t_.Suffixes):Int))),(5,.osl 152 1)] [(152,.map (mapV wS wB y86))] []) (True) (hT) ?_ (fun hp=>?_)
 conv=>whnf
 refine Loops.iter (fun (s:(List (ByteArray×Bool))×Nat)=>zq98.s2 t_ s.1 s.2) (fun (y90,y91)=>mkSt [(1,.im (.ref (c_api_Table t_))),(4,.im (nI (↑(List.length t_.Suffixes):Int))),(5,.osl 152 1),(51,.im (nL (cL cI) t_.Prefixes)),(52,.im (nI (↑(List.length t_.Prefixes):Int))),(53,.im (nI (↑y91:Int)))] [(152,.map (mapV wS wB y90))] []) (fun (y90,y91)=>lZ t_.Prefixes∧True) h (eA [(152,some 49)]) (by rintro ⟨y90,y91⟩;exact ((Holds.avl 51 rfl).and (hT))) ?_
 clear h
 rintro k ⟨y90,y91⟩ o hp h ho95
 replace h:zq98.s2 t_ y90 y91=some o:=h
 unfold zq98.s2 at h
 obtain ⟨z99,_⟩:=hp
 conv=>whnf
 refine Both.mk ?_ ?_<;>intro b96
 obtain ⟨h,b96d⟩:=ctd b96 h
 conv=>whnf
 obtain ⟨e97,he97,h⟩:=idxn_some h
 refine ⟨_,⟨(by omega),map_at he97,rfl⟩,?_⟩
 conv=>whnf
 obtain ⟨c98,hc98,h⟩:=bind_some h
 refine ⟨_,(zq96 e97 c98 (hc98)),?_⟩
 conv=>whnf
 refine Side.mk rfl ?_
 conv=>whnf
 refine ⟨_,set_str _ true wB _,?_⟩
 conv=>whnf
 refine Arith.mk (by show inR _;unfold inR;omega) ?_
 conv=>whnf
 cases h
 exact Nxt.mk _ ho95 (eA [(152,some 152)])
 obtain ⟨h,b96d⟩:=cfd b96 h
 conv=>whnf
 cases h
 have ho95:_=_:=ho95
 cases ho95
 exact Join.mk (eA [(152,some 152)])
 replace h:=hk72
 conv=>whnf
 refine Nf.mk (List.length t_.Prefixes) len_map ?_
 conv=>whnf
 obtain ⟨oc,hc,hk100⟩:=bind_some h
 clear h
 have h:=hc
 clear hc
 refine Cut.mkS oc (Y:=Unit) (fun (_:Unit)=>mkSt [(1,.im (.ref (c_api_Table t_))),(4,.im (nI (↑(List.length t_.Suffixes):Int)))] [] []) (fun (_:Unit)=>True) (by rintro ⟨⟩;exact (hT)) ?_ ?_
 conv=>whnf
 refine Loops.iter (fun (s:Nat)=>zq98.s4 t_ y86 s) (fun y220=>mkSt [(1,.im (.ref (c_api_Table t_))),(4,.im (nI (↑(List.length t_.Suffixes):Int))),(5,.osl 152 1),(62,.im (nL (cL cI) t_.Prefixes)),(63,.im (nI (↑(List.length t_.Prefixes):Int))),(64,.im (nI (↑y220:Int)))] [(152,.map (mapV wS wB y86))] []) (fun y220=>lZ t_.Prefixes∧True) h (eA [(152,some 152)]) (by rintro y220;exact ((Holds.avl 62 rfl).and (hT))) ?_
 clear h
 rintro k y220 o hp h ho250
 replace h:zq98.s4 t_ y86 y220=some o:=h
 unfold zq98.s4 at h
 obtain ⟨z280,_⟩:=hp
 conv=>whnf
 refine Both.mk ?_ ?_<;>intro b251
 obtain ⟨h,b251d⟩:=ctd b251 h
 conv=>whnf
 obtain ⟨e252,he252,h⟩:=idxn_some h
 refine ⟨_,⟨(by omega),map_at he252,rfl⟩,?_⟩
 conv=>whnf
 obtain ⟨c253,hc253,h⟩:=bind_some h
 refine ⟨_,(sp_word_Check e252 t_.Inputs c253 (fun _ _=>hc253)),?_⟩
 conv=>whnf
 refine Both.mk ?_ ?_<;>intro b254
 obtain ⟨h,b254d⟩:=ctd b254 h
 conv=>whnf
 cases h
 have ho250:_=_:=ho250
 cases ho250
 replace h:some _=some _:=hk100
 cases h
 conv=>whnf
 exact ⟨rfl,rfl⟩
 obtain ⟨h,b254d⟩:=cfd b254 h
 conv=>whnf
 obtain ⟨y261,hc,hk256⟩:=bind_some h
 clear h
 have h:=hc
 clear hc
 refine Cut.mk (mkSt [(1,.im (.ref (c_api_Table t_))),(4,.im (nI (↑(List.length t_.Suffixes):Int))),(5,.osl 152 1),(9,.im (nL cI e252)),(62,.im (nL (cL cI) t_.Prefixes)),(63,.im (nI (↑(List.length t_.Prefixes):Int))),(64,.im (nI (↑y220:Int))),(89,.im (nB y261))] [(152,.map (mapV wS wB y86))] []) (lZ e252∧lZ t_.Prefixes∧True) ((Holds.avl 9 rfl).and ((Holds.avl 62 rfl).and (hT))) ?_ (fun hp=>?_)
 conv=>whnf
 refine Both.mk ?_ ?_<;>intro b262
 replace b262:=beq_tt b262
 obtain ⟨h,b262d⟩:=ctd b262 h
 conv=>whnf
 refine Both.yes (tt_beq b262) ?_
 conv=>whnf
 refine Nf.mk (List.length e252) len_map ?_
 conv=>whnf
 refine Both.yes (tt_beq b262) ?_
 conv=>whnf
 refine Both.yes b262 ?_
 conv=>whnf
 refine Both.mk ?_ ?_<;>intro b263
 replace b263:=beq_ff b263
 obtain ⟨h,b263d⟩:=cfd b263 h
 conv=>whnf
 iterate 3 (refine Both.yes (ff_beq b263) ?_;(conv=>whnf))
 obtain ⟨c264,hc264,h⟩:=bind_some h
 refine ⟨_,(zq63 t_.Prefixes (↑y220:Int) c264 (fun _ _=>hc264)),?_⟩
 conv=>whnf
 refine Both.yes (ff_beq b263) ?_
 conv=>whnf
 refine Both.no b263 ?_
 conv=>whnf
 cases h
 exact Join.mk (eA [(152,some 152)])
 replace b263:=beq_ft b263
 obtain ⟨h,b263d⟩:=ctd b263 h
 conv=>whnf
 iterate 4 (refine Both.no (tf_beq b263) ?_;(conv=>whnf))
 refine Both.yes b263 ?_
 conv=>whnf
 cases h
 exact Join.mk (eA [(152,some 152)])
 replace b262:=beq_tf b262
 obtain ⟨h,b262d⟩:=cfd b262 h
 conv=>whnf
 iterate 2 (refine Both.no (ft_beq b262) ?_;(conv=>whnf))
 refine Both.no b262 ?_
 conv=>whnf
 iterate 4 (refine Both.yes rfl ?_;(conv=>whnf))
 obtain ⟨c265,hc265,h⟩:=bind_some h
 refine ⟨_,(zq63 t_.Prefixes (↑y220:Int) c265 (fun _ _=>hc265)),?_⟩
 conv=>whnf
 refine Both.yes rfl ?_
 conv=>whnf
 refine Both.no rfl ?_
 conv=>whnf
 cases h
 exact Join.mk (eA [(152,some 152)])
 replace h:=hk256
 obtain ⟨z266,z267,_⟩:=hp
 conv=>whnf
 refine Both.mk ?_ ?_<;>intro b268
 replace h:=cond_t b268 h
 conv=>whnf
 cases h
 have ho250:_=_:=ho250
 cases ho250
 replace h:some _=some _:=hk100
 cases h
 conv=>whnf
 exact ⟨rfl,rfl⟩
 replace h:=cond_f b268 h
 conv=>whnf
 obtain ⟨y274,hc,hk270⟩:=bind_some h
 clear h
 have h:=hc
 clear hc
 refine Cut.mk (mkSt [(1,.im (.ref (c_api_Table t_))),(4,.im (nI (↑(List.length t_.Suffixes):Int))),(5,.osl 152 1),(62,.im (nL (cL cI) t_.Prefixes)),(63,.im (nI (↑(List.length t_.Prefixes):Int))),(64,.im (nI (↑y220:Int))),(103,.im (nB y274))] [(152,.map (mapV wS wB y86))] []) (lZ t_.Prefixes∧True) ((Holds.avl 62 rfl).and (hT)) ?_ (fun hp=>?_)
 conv=>whnf
 refine Nf.mk (List.length e252) len_map ?_
 conv=>whnf
 refine Both.mk ?_ ?_<;>intro b275
 replace b275:=beq_tt b275
 obtain ⟨h,b275d⟩:=ctd b275 h
 conv=>whnf
 iterate 3 (refine Both.yes (tt_beq b275) ?_;(conv=>whnf))
 refine Nf.mk (List.length e252) len_map ?_
 conv=>whnf
 refine Both.yes (tt_beq b275) ?_
 conv=>whnf
 refine Arith.mk (by show inR _;unfold inR;omega) ?_
 conv=>whnf
 refine Both.yes (tt_beq b275) ?_
 conv=>whnf
 obtain ⟨c276,h⟩:=chk_some h
 refine Side.mk (show (0:Int)≤(0:Int)∧(0:Int)≤((↑(List.length e252):Int)-1)∧((↑(List.length e252):Int)-1)≤(↑(List.length (List.map cI e252)):Int)∧(∀ e∈List.map cI e252,List.length e=1) from ⟨by omega,by first | omega | (simp only [List.length_map];omega),by first | omega | (simp only [List.length_map];omega),map_len fun _=>rfl⟩) ?_
 conv=>whnf
 refine Nf.mk (List.map cI (List.take (Int.toNat ((↑(List.length e252):Int)-1)) e252)) take_map ?_
 conv=>whnf
 refine Both.yes (tt_beq b275) ?_
 conv=>whnf
 obtain ⟨c277,hc277,h⟩:=bind_some h
 refine ⟨_,(zq96 (List.take (Int.toNat ((↑(List.length e252):Int)-1)) e252) c277 (hc277)),?_⟩
 conv=>whnf
 refine Both.yes (tt_beq b275) ?_
 conv=>whnf
 refine Side.mk rfl ?_
 conv=>whnf
 refine ⟨_,find_str _ wB _,?_⟩
 conv=>whnf
 refine Nf.mk (wB ((mget c277 y86).getD false)) (getD_map rfl _) ?_
 conv=>whnf
 refine Both.yes (tt_beq b275) ?_
 conv=>whnf
 refine Both.yes b275 ?_
 conv=>whnf
 cases h
 exact Join.mk (eA [(152,some 152)])
 replace b275:=beq_tf b275
 obtain ⟨h,b275d⟩:=cfd b275 h
 conv=>whnf
 iterate 8 (refine Both.no (ft_beq b275) ?_;(conv=>whnf))
 refine Both.no b275 ?_
 conv=>whnf
 cases h
 exact Join.mk (eA [(152,some 152)])
 replace h:=hk270
 obtain ⟨z278,_⟩:=hp
 conv=>whnf
 refine Both.mk ?_ ?_<;>intro b279
 replace h:=cond_t b279 h
 conv=>whnf
 cases h
 have ho250:_=_:=ho250
 cases ho250
 replace h:some _=some _:=hk100
 cases h
 conv=>whnf
 exact ⟨rfl,rfl⟩
 replace h:=cond_f b279 h
 conv=>whnf
 refine Arith.mk (by show inR _;unfold inR;omega) ?_
 conv=>whnf
 cases h
 exact Nxt.mk _ ho250 (eA [(152,some 152)])
 obtain ⟨h,b251d⟩:=cfd b251 h
 conv=>whnf
 cases h
 have ho250:_=_:=ho250
 cases ho250
 exact JoinS.mk' _ rfl (eA [])
 rintro ⟨⟩ rfl hp
 replace h:=sum_inl hk100
 conv=>whnf
 refine Nf.mk (List.length t_.Suffixes) len_map ?_
 conv=>whnf
 obtain ⟨oc,hc,hk281⟩:=bind_some h
 clear h
 have h:=hc
 clear hc
 refine Cut.mkS oc (Y:=Unit) (fun (_:Unit)=>mkSt [(1,.im (.ref (c_api_Table t_))),(4,.im (nI (↑(List.length t_.Suffixes):Int)))] [] []) (fun (_:Unit)=>True) (by rintro ⟨⟩;exact (hT)) ?_ ?_
 conv=>whnf
 refine Loops.iter (fun (s:Nat)=>zq98.s6 t_ s) (fun y313=>mkSt [(1,.im (.ref (c_api_Table t_))),(4,.im (nI (↑(List.length t_.Suffixes):Int))),(106,.im (nL (cL cI) t_.Suffixes)),(107,.im (nI (↑(List.length t_.Suffixes):Int))),(108,.im (nI (↑y313:Int)))] [] []) (fun y313=>lZ t_.Suffixes∧True) h (eA []) (by rintro y313;exact ((Holds.avl 106 rfl).and (hT))) ?_
 clear h
 rintro k y313 o hp h ho321
 replace h:zq98.s6 t_ y313=some o:=h
 unfold zq98.s6 at h
 obtain ⟨z329,_⟩:=hp
 conv=>whnf
 refine Both.mk ?_ ?_<;>intro b322
 obtain ⟨h,b322d⟩:=ctd b322 h
 conv=>whnf
 obtain ⟨e323,he323,h⟩:=idxn_some h
 refine ⟨_,⟨(by omega),map_at he323,rfl⟩,?_⟩
 conv=>whnf
 obtain ⟨c324,hc324,h⟩:=bind_some h
 refine ⟨_,(sp_word_Check e323 t_.Inputs c324 (fun _ _=>hc324)),?_⟩
 conv=>whnf
 refine Both.mk ?_ ?_<;>intro b325
 obtain ⟨h,b325d⟩:=ctd b325 h
 conv=>whnf
 cases h
 have ho321:_=_:=ho321
 cases ho321
 replace h:some _=some _:=hk281
 cases h
 conv=>whnf
 exact ⟨rfl,rfl⟩
 obtain ⟨h,b325d⟩:=cfd b325 h
 conv=>whnf
 refine Nf.mk (List.length e323) len_map ?_
 conv=>whnf
 refine Both.mk ?_ ?_<;>intro b326
 obtain ⟨h,b326d⟩:=ctd b326 h
 conv=>whnf
 cases h
 have ho321:_=_:=ho321
 cases ho321
 replace h:some _=some _:=hk281
 cases h
 conv=>whnf
 exact ⟨rfl,rfl⟩
 obtain ⟨h,b326d⟩:=cfd b326 h
 conv=>whnf
 obtain ⟨c327,hc327,h⟩:=bind_some h
 refine ⟨_,(zq63 t_.Suffixes (↑y313:Int) c327 (fun _ _=>hc327)),?_⟩
 conv=>whnf
 refine Both.mk ?_ ?_<;>intro b328
 replace h:=cond_t b328 h
 conv=>whnf
 cases h
 have ho321:_=_:=ho321
 cases ho321
 replace h:some _=some _:=hk281
 cases h
 conv=>whnf
 exact ⟨rfl,rfl⟩
 replace h:=cond_f b328 h
 conv=>whnf
 refine Arith.mk (by show inR _;unfold inR;omega) ?_
 conv=>whnf
 cases h
 exact Nxt.mk _ ho321 (eA [])
 obtain ⟨h,b322d⟩:=cfd b322 h
 conv=>whnf
 cases h
 have ho321:_=_:=ho321
 cases ho321
 exact JoinS.mk' _ rfl (eA [])
 rintro ⟨⟩ rfl hp
 replace h:=sum_inl hk281
 conv=>whnf
 obtain ⟨y335,hc,hk331⟩:=bind_some h
 clear h
 have h:=hc
 clear hc
 refine Cut.mk (mkSt [(1,.im (.ref (c_api_Table t_))),(143,.im (nB y335))] [] []) (True) (hT) ?_ (fun hp=>?_)
 conv=>whnf
 refine Both.mk ?_ ?_<;>intro b336
 replace b336:=beq_ff b336
 obtain ⟨h,b336d⟩:=cfd b336 h
 conv=>whnf
 iterate 4 (refine Both.yes (ff_beq b336) ?_;(conv=>whnf))
 obtain ⟨c337,h⟩:=chk_some h
 refine Arith.mk c337 ?_
 conv=>whnf
 refine Both.yes (ff_beq b336) ?_
 conv=>whnf
 obtain ⟨e338,he338z,he338,h⟩:=idx_some h
 refine ⟨_,⟨he338z,map_at he338,rfl⟩,?_⟩
 conv=>whnf
 iterate 2 (refine Both.yes (ff_beq b336) ?_;(conv=>whnf))
 refine Nf.mk (List.length e338) len_map ?_
 conv=>whnf
 refine Both.yes (ff_beq b336) ?_
 conv=>whnf
 refine Both.no b336 ?_
 conv=>whnf
 cases h
 exact Join.mk (eA [])
 replace b336:=beq_ft b336
 obtain ⟨h,b336d⟩:=ctd b336 h
 conv=>whnf
 iterate 8 (refine Both.no (tf_beq b336) ?_;(conv=>whnf))
 refine Both.yes b336 ?_
 conv=>whnf
 cases h
 exact Join.mk (eA [])
 replace h:=hk331
 conv=>whnf
 refine Both.mk ?_ ?_<;>intro b339
 replace h:=cond_t b339 h
 conv=>whnf
 cases h
 conv=>whnf
 exact ⟨rfl,rfl⟩
 replace h:=cond_f b339 h
 conv=>whnf
 obtain ⟨c340,hc340,h⟩:=bind_some h
 refine ⟨_,(zq65 t_.Prefixes c340 (fun _=>hc340)),?_⟩
 conv=>whnf
 obtain ⟨c341,hc341,h⟩:=bind_some h
 refine ⟨_,(zq65 t_.Suffixes c341 (fun _=>hc341)),?_⟩
 conv=>whnf
 obtain ⟨c342,h⟩:=chk_some h
 refine Arith.mk c342 ?_
 conv=>whnf
 refine Both.mk ?_ ?_<;>intro b343
 obtain ⟨h,b343d⟩:=ctd b343 h
 conv=>whnf
 cases h
 conv=>whnf
 exact ⟨rfl,rfl⟩
 obtain ⟨h,b343d⟩:=cfd b343 h
 conv=>whnf
 cases h
 conv=>whnf
 exact ⟨rfl,rfl⟩
theorem zq87 (l_:T_api_Lazy) (r:Int) (h:Ok (.agg (c_api_Lazy l_))→zq107 l_=some r):Sp Tryz.prog 49 [.im (.agg (c_api_Lazy l_))] (.im (nI r)):=by
 refine sp_of rfl [700001] rfl rfl rfl (Nat.le_of_ble_eq_true rfl) rfl fun hk=>?_
 replace h:=h hk.1
 have z1:lZ l_.Short:=ok_len (Ok.agg_at hk.1 1 rfl)
 have z2:lZ l_.Suffixes:=ok_len (Ok.agg_at hk.1 2 rfl)
 unfold zq107 at h
 conv=>whnf
 obtain ⟨c51,hc51,h⟩:=bind_some h
 refine ⟨_,(zq84 l_ c51 (fun _=>hc51)),?_⟩
 conv=>whnf
 obtain ⟨c52,hc52,h⟩:=bind_some h
 refine ⟨_,(sp_table_Valid c51 c52 (fun _=>hc52)),?_⟩
 conv=>whnf
 refine Both.mk ?_ ?_<;>intro b53
 obtain ⟨h,b53d⟩:=ctd b53 h
 conv=>whnf
 cases h
 conv=>whnf
 exact ⟨rfl,rfl⟩
 obtain ⟨h,b53d⟩:=cfd b53 h
 conv=>whnf
 refine Nf.mk (List.length l_.Suffixes) len_map ?_
 conv=>whnf
 obtain ⟨oc,hc,hk54⟩:=bind_some h
 clear h
 have h:=hc
 clear hc
 refine Cut.mkS oc (Y:=Unit) (fun (_:Unit)=>mkSt [] [] []) (fun (_:Unit)=>True) (by rintro ⟨⟩;exact (hT)) ?_ ?_
 conv=>whnf
 refine Loops.iter (fun (s:Nat)=>zq107.s2 l_ s) (fun y110=>mkSt [(1,.im (.ref (c_api_Lazy l_))),(13,.im (nL (cL cI) l_.Suffixes)),(14,.im (nI (↑(List.length l_.Suffixes):Int))),(15,.im (nI (↑y110:Int)))] [] []) (fun y110=>lZ l_.Suffixes∧True) h (eA []) (by rintro y110;exact ((Holds.avl 13 rfl).and (hT))) ?_
 clear h
 rintro k y110 o hp h ho124
 replace h:zq107.s2 l_ y110=some o:=h
 unfold zq107.s2 at h
 obtain ⟨z138,_⟩:=hp
 conv=>whnf
 refine Both.mk ?_ ?_<;>intro b125
 obtain ⟨h,b125d⟩:=ctd b125 h
 conv=>whnf
 obtain ⟨e126,he126,h⟩:=idxn_some h
 refine ⟨_,⟨(by omega),map_at he126,rfl⟩,?_⟩
 conv=>whnf
 obtain ⟨y132,hc,hk128⟩:=bind_some h
 clear h
 have h:=hc
 clear hc
 refine Cut.mk (mkSt [(1,.im (.ref (c_api_Lazy l_))),(13,.im (nL (cL cI) l_.Suffixes)),(14,.im (nI (↑(List.length l_.Suffixes):Int))),(15,.im (nI (↑y110:Int))),(29,.im (nB y132))] [] []) (lZ l_.Suffixes∧True) ((Holds.avl 13 rfl).and (hT)) ?_ (fun hp=>?_)
 conv=>whnf
 refine Nf.mk (List.length e126) len_map ?_
 conv=>whnf
 refine Both.mk ?_ ?_<;>intro b133
 replace b133:=beq_tt b133
 obtain ⟨h,b133d⟩:=ctd b133 h
 conv=>whnf
 iterate 3 (refine Both.yes (tt_beq b133) ?_;(conv=>whnf))
 obtain ⟨c134,h⟩:=chk_some h
 refine Side.mk (show (0:Int)≤1∧1≤(↑(List.length (List.map cI e126)):Int)∧(↑(List.length (List.map cI e126)):Int)≤(↑(List.length (List.map cI e126)):Int)∧(∀ e∈List.map cI e126,List.length e=1) from ⟨by omega,by first | omega | (simp only [List.length_map];omega),by first | omega | (simp only [List.length_map];omega),map_len fun _=>rfl⟩) ?_
 conv=>whnf
 refine Nf.mk (List.map cI (List.drop 1 e126)) drop_map ?_
 conv=>whnf
 refine Both.yes (tt_beq b133) ?_
 conv=>whnf
 obtain ⟨c135,hc135,h⟩:=bind_some h
 refine ⟨_,(sp_wordset_Has l_.Suffixes (List.drop 1 e126) c135 (fun _ _=>hc135)),?_⟩
 conv=>whnf
 refine Both.yes (tt_beq b133) ?_
 conv=>whnf
 refine Both.yes b133 ?_
 conv=>whnf
 cases h
 exact Join.mk (eA [])
 replace b133:=beq_tf b133
 obtain ⟨h,b133d⟩:=cfd b133 h
 conv=>whnf
 iterate 5 (refine Both.no (ft_beq b133) ?_;(conv=>whnf))
 refine Both.no b133 ?_
 conv=>whnf
 cases h
 exact Join.mk (eA [])
 replace h:=hk128
 obtain ⟨z136,_⟩:=hp
 conv=>whnf
 refine Both.mk ?_ ?_<;>intro b137
 replace h:=cond_t b137 h
 conv=>whnf
 cases h
 have ho124:_=_:=ho124
 cases ho124
 replace h:some _=some _:=hk54
 cases h
 conv=>whnf
 exact ⟨rfl,rfl⟩
 replace h:=cond_f b137 h
 conv=>whnf
 refine Arith.mk (by show inR _;unfold inR;omega) ?_
 conv=>whnf
 cases h
 exact Nxt.mk _ ho124 (eA [])
 obtain ⟨h,b125d⟩:=cfd b125 h
 conv=>whnf
 cases h
 have ho124:_=_:=ho124
 cases ho124
 exact JoinS.mk' _ rfl (eA [])
 rintro ⟨⟩ rfl hp
 replace h:=sum_inl hk54
 conv=>whnf
 cases h
 conv=>whnf
 exact ⟨rfl,rfl⟩
theorem zq90 (l_:T_api_Lazy) (o_:T_api_Obs) (r:Int) (h:Ok (.agg (c_api_Lazy l_))→Ok (.agg (c_api_Obs o_))→zq104 l_ o_=some r):Sp Tryz.prog 43 [.im (.agg (c_api_Lazy l_)),.im (.agg (c_api_Obs o_))] (.im (nI r)):=by
 refine sp_of rfl [700002,700003] rfl rfl rfl (Nat.le_of_ble_eq_true rfl) rfl fun hk=>?_
 replace h:=h hk.1 hk.2.1
 have z1:lZ l_.Short:=ok_len (Ok.agg_at hk.1 1 rfl)
 have z2:lZ l_.Suffixes:=ok_len (Ok.agg_at hk.1 2 rfl)
 have z3:lZ o_.Traces:=ok_len (Ok.agg_at hk.2.1 1 rfl)
 unfold zq104 at h
 conv=>whnf
 obtain ⟨c51,hc51,h⟩:=bind_some h
 refine ⟨_,(zq87 l_ c51 (fun _=>hc51)),?_⟩
 conv=>whnf
 refine Both.mk ?_ ?_<;>intro b52
 obtain ⟨h,b52d⟩:=ctd b52 h
 conv=>whnf
 cases h
 conv=>whnf
 exact ⟨rfl,rfl⟩
 obtain ⟨h,b52d⟩:=cfd b52 h
 conv=>whnf
 refine Both.mk ?_ ?_<;>intro b53
 obtain ⟨h,b53d⟩:=ctd b53 h
 conv=>whnf
 cases h
 conv=>whnf
 exact ⟨rfl,rfl⟩
 obtain ⟨h,b53d⟩:=cfd b53 h
 conv=>whnf
 cases h
 conv=>whnf
 exact ⟨rfl,rfl⟩
theorem zq21 (slices_:List (List Int)) (r:List Int) (h:Ok (nL (cL cI) slices_)→zq30 slices_=some r):Sp Tryz.prog 124 [.im (nL (cL cI) slices_)] (.row 3 1 (List.map cI r)):=by
 refine sp_of rfl [4025000] rfl rfl rfl (Nat.le_of_ble_eq_true rfl) rfl fun hk=>?_
 replace h:=h hk.1
 have z1:lZ slices_:=ok_len hk.1
 unfold zq30 at h
 conv=>whnf
 refine Nf.mk (List.length slices_) len_map ?_
 conv=>whnf
 obtain ⟨size68,hc,hk51⟩:=bind_some h
 clear h
 have h:=hc
 clear hc
 refine Cut.mk (mkSt [(0,.im (nL (cL cI) slices_)),(3,.im (nI (↑size68:Int)))] [] []) (lZ slices_∧True) ((Holds.avl 0 rfl).and (hT)) ?_ (fun hp=>?_)
 conv=>whnf
 refine Loops.iter (fun (s:Nat×Nat)=>zq30.s2 slices_ s.1 s.2) (fun (size73,y74)=>mkSt [(0,.im (nL (cL cI) slices_)),(3,.im (nI (↑size73:Int))),(9,.im (nL (cL cI) slices_)),(10,.im (nI (↑(List.length slices_):Int))),(11,.im (nI (↑y74:Int)))] [] []) (fun (size73,y74)=>lZ slices_∧True) h (eA []) (by rintro ⟨size73,y74⟩;exact ((Holds.avl 0 rfl).and (hT))) ?_
 clear h
 rintro k ⟨size73,y74⟩ o hp h ho79
 replace h:zq30.s2 slices_ size73 y74=some o:=h
 unfold zq30.s2 at h
 obtain ⟨z84,_⟩:=hp
 conv=>whnf
 refine Both.mk ?_ ?_<;>intro b80
 obtain ⟨h,b80d⟩:=ctd b80 h
 conv=>whnf
 obtain ⟨e81,he81,h⟩:=idxn_some h
 refine ⟨_,⟨(by omega),map_at he81,rfl⟩,?_⟩
 conv=>whnf
 refine Nf.mk (List.length e81) len_map ?_
 conv=>whnf
 obtain ⟨c82,h⟩:=chk_some h
 refine Arith.mk c82 ?_
 conv=>whnf
 refine Both.mk ?_ ?_<;>intro b83
 obtain ⟨h,b83d⟩:=ctd b83 h
 conv=>whnf
 cases h
 obtain ⟨h,b83d⟩:=cfd b83 h
 conv=>whnf
 refine Arith.mk (by show inR _;unfold inR;omega) ?_
 conv=>whnf
 cases h
 exact Nxt.mk _ ho79 (eA [])
 obtain ⟨h,b80d⟩:=cfd b80 h
 conv=>whnf
 cases h
 have ho79:_=_:=ho79
 cases ho79
 exact Join.mk (eA [])
 replace h:=hk51
 obtain ⟨z85,_⟩:=hp
 conv=>whnf
 obtain ⟨c86,hc86,h⟩:=bind_some h
 refine ⟨_,(sp_lib_Grow_int (↑size68:Int) c86 (hc86)),?_⟩
 conv=>whnf
 refine Nf.mk (List.length slices_) len_map ?_
 conv=>whnf
 obtain ⟨y102,hc,hk87⟩:=bind_some h
 clear h
 have h:=hc
 clear hc
 refine Cut.mk (mkSt [(6,.osl 64 1)] [(64,.row 3 1 (List.map cI y102))] []) (lZ y102∧True) ((Holds.kdl 64 rfl).and (hT)) ?_ (fun hp=>?_)
 conv=>whnf
 refine Loops.iter (fun (s:List Int×Nat)=>zq30.s4 slices_ s.1 s.2) (fun (y106,y107)=>mkSt [(6,.osl 64 1),(25,.im (nL (cL cI) slices_)),(26,.im (nI (↑(List.length slices_):Int))),(27,.im (nI (↑y107:Int)))] [(64,.row 3 1 (List.map cI y106))] []) (fun (y106,y107)=>lZ slices_∧lZ y106∧True) h (eA [(64,some 24)]) (by rintro ⟨y106,y107⟩;exact ((Holds.avl 25 rfl).and ((Holds.kdl 64 rfl).and (hT)))) ?_
 clear h
 rintro k ⟨y106,y107⟩ o hp h ho111
 replace h:zq30.s4 slices_ y106 y107=some o:=h
 unfold zq30.s4 at h
 obtain ⟨z115,z116,_⟩:=hp
 conv=>whnf
 refine Both.mk ?_ ?_<;>intro b112
 obtain ⟨h,b112d⟩:=ctd b112 h
 conv=>whnf
 obtain ⟨e113,he113,h⟩:=idxn_some h
 refine ⟨_,⟨(by omega),map_at he113,rfl⟩,?_⟩
 conv=>whnf
 obtain ⟨c114,h⟩:=chk_some h
 refine Side.mk ⟨rfl,map_len (l:=e113) (c:=cI) fun _=>rfl,show capOk _ 8 by simpa only [List.length_map,List.length_cons,List.length_nil,Nat.zero_add] using c114⟩ ?_
 conv=>whnf
 refine Nf.mk (List.map cI (y106++e113)) (app_map (l:=y106) (m:=e113) (c:=cI)) ?_
 conv=>whnf
 refine Arith.mk (by show inR _;unfold inR;omega) ?_
 conv=>whnf
 cases h
 exact Nxt.mk _ ho111 (eA [(64,some 64)])
 obtain ⟨h,b112d⟩:=cfd b112 h
 conv=>whnf
 cases h
 have ho111:_=_:=ho111
 cases ho111
 exact Join.mk (eA [(64,some 64)])
 replace h:=hk87
 obtain ⟨z117,_⟩:=hp
 conv=>whnf
 cases h
 conv=>whnf
 exact Side.mk ⟨rfl,trivial⟩ ⟨rfl,rfl⟩
theorem sp_word_Join (parts_:List (List Int)) (r:List Int) (h:Ok (nL (cL cI) parts_)→word_Join parts_=some r):Sp Tryz.prog 61 [.im (nL (cL cI) parts_)] (.im (nL cI r)):=by
 refine sp_of rfl [] rfl rfl rfl (Nat.le_of_ble_eq_true rfl) rfl fun hk=>?_
 replace h:=h hk.1
 have z1:lZ parts_:=ok_len hk.1
 unfold word_Join at h
 conv=>whnf
 obtain ⟨c51,hc51,h⟩:=bind_some h
 refine ⟨_,(zq21 parts_ c51 (fun _=>hc51)).im,?_⟩
 conv=>whnf
 cases h
 conv=>whnf
 exact ⟨rfl,rfl⟩
theorem zq58 (w_:List Int) (a_:Int) (r:List Int) (h:Ok (nL cI w_)→Ok (nI a_)→zq76 w_ a_=some r):Sp Tryz.prog 97 [.im (nL cI w_),.im (nI a_)] (.im (nL cI r)):=by
 refine sp_of rfl [] rfl rfl rfl (Nat.le_of_ble_eq_true rfl) rfl fun hk=>?_
 replace h:=h hk.1 hk.2.1
 have z1:lZ w_:=ok_len hk.1
 unfold zq76 at h
 conv=>whnf
 obtain ⟨c51,hc51,h⟩:=bind_some h
 refine ⟨_,(sp_word_Join [w_,[a_]] c51 (fun _=>hc51)),?_⟩
 conv=>whnf
 cases h
 conv=>whnf
 exact ⟨rfl,rfl⟩
theorem zq40 (a_:List Int) (b_:List Int) (p2_:(List Int)→(List Int)→Option Int) (f2_:FuncId) (hf2:∀ x0 x1 r,p2_ x0 x1=some r→Sp Tryz.prog f2_ [.im (nL cI x0),.im (nL cI x1)] (.im (nI r))) (r:Bool) (h:Ok (nL cI a_)→Ok (nL cI b_)→Ok (.ref [.fn f2_ []])→zq59 a_ b_ p2_=some r):Sp Tryz.prog 188 [.im (nL cI a_),.im (nL cI b_),.im (.ref [.fn f2_ []])] (.im (nB r)):=by
 refine sp_of rfl [] rfl rfl rfl (Nat.le_of_ble_eq_true rfl) rfl fun hk=>?_
 replace h:=h hk.1 hk.2.1 hk.2.2.1
 have z1:lZ a_:=ok_len hk.1
 have z2:lZ b_:=ok_len hk.2.1
 unfold zq59 at h
 conv=>whnf
 obtain ⟨c51,hc51,h⟩:=bind_some h
 refine ⟨_,hf2 a_ b_ c51 hc51,?_⟩
 conv=>whnf
 cases h
 conv=>whnf
 exact ⟨rfl,rfl⟩
theorem zq9 (s_:List (List Int)) (eq_:(List Int)→(List Int)→Option Bool) (f1_:FuncId) (k1_0:IV) (hk1_0:nz k1_0=k1_0) (hf1:∀ x0 x1 r,eq_ x0 x1=some r→Sp Tryz.prog f1_ [.im (nL cI x0),.im (nL cI x1),.im k1_0] (.im (nB r))) (r:List (List Int)) (h:OkL (List.map (cL cI) s_)→Ok (.fn f1_ [k1_0])→zq13 s_ eq_=some r):Sp Tryz.prog 187 [.row 51 1 (List.map (cL cI) s_),.im (.fn f1_ [k1_0])] (.row 51 1 (List.map (cL cI) r)):=by
 refine sp_of rfl [] rfl rfl rfl (Nat.le_of_ble_eq_true rfl) rfl fun hk=>?_
 replace h:=h hk.1 hk.2.1
 have z1:lZ s_:=okl_len hk.1
 unfold zq13 at h
 conv=>whnf
 refine Side.mk rfl ?_
 conv=>whnf
 refine Nf.mk (List.length s_) len_map ?_
 conv=>whnf
 refine Both.mk ?_ ?_<;>intro b51
 obtain ⟨h,b51d⟩:=ctd b51 h
 conv=>whnf
 cases h
 conv=>whnf
 exact Side.mk ⟨rfl,trivial⟩ ⟨rfl,rfl⟩
 obtain ⟨h,b51d⟩:=cfd b51 h
 conv=>whnf
 obtain ⟨oc,hc,hk52⟩:=bind_some h
 clear h
 have h:=hc
 clear hc
 refine Cut.mkS oc (Y:=Unit) (fun (_:Unit)=>mkSt [(0,.osl 66 1)] [(66,.row 51 1 (List.map (cL cI) s_))] []) (fun (_:Unit)=>lZ s_∧True) (by rintro ⟨⟩;exact ((Holds.kdl 66 rfl).and (hT))) ?_ ?_
 conv=>whnf
 refine Loops.iter (fun (s:Nat)=>zq13.s20 s_ eq_ s) (fun k356=>mkSt [(0,.osl 66 1),(1,.im (.fn f1_ [k1_0])),(5,.im (nI (↑k356:Int)))] [(66,.row 51 1 (List.map (cL cI) s_))] []) (fun k356=>lZ s_∧True) h (eA [(66,some 0)]) (by rintro k356;exact ((Holds.kdl 66 rfl).and (hT))) ?_
 clear h
 rintro k k356 o hp h ho432
 replace h:zq13.s20 s_ eq_ k356=some o:=h
 unfold zq13.s20 at h
 obtain ⟨z508,_⟩:=hp
 conv=>whnf
 refine Side.mk rfl ?_
 conv=>whnf
 refine Nf.mk (List.length s_) len_map ?_
 conv=>whnf
 refine Both.mk ?_ ?_<;>intro b433
 obtain ⟨h,b433d⟩:=ctd b433 h
 conv=>whnf
 obtain ⟨e434,he434,h⟩:=idxn_some h
 refine Side.mk ⟨(by omega),rfl,map_lt he434⟩ ?_
 conv=>whnf
 refine ⟨_,_,⟨rfl,map_at he434,rfl,rfl⟩,?_⟩
 conv=>whnf
 refine Arith.mk (by show inR _;unfold inR;omega) ?_
 conv=>whnf
 obtain ⟨e435,he435z,he435,h⟩:=idx_some h
 refine Side.mk ⟨he435z,rfl,map_lt he435⟩ ?_
 conv=>whnf
 refine ⟨_,_,⟨rfl,map_at he435,rfl,rfl⟩,?_⟩
 conv=>whnf
 obtain ⟨c436,hc436,h⟩:=bind_some h
 refine ⟨_,Sp.args (hf1 e434 e435 c436 hc436) (by rw [hk1_0];try rfl),?_⟩
 conv=>whnf
 refine Both.mk ?_ ?_<;>intro b437
 replace h:=cond_t b437 h
 conv=>whnf
 obtain ⟨c438,h⟩:=chk_some h
 refine Side.mk ⟨rfl,c438.1,by have hh_:=c438;simp only [List.length_map];omega,by have hh_:=c438;simp only [List.length_map];omega⟩ ?_
 conv=>whnf
 obtain ⟨⟨y471,k472⟩,hc,hk439⟩:=bind_some h
 clear h
 have h:=hc
 clear hc
 refine Cut.mk (mkSt [(0,.osl 66 1),(5,.im (nI (↑k472:Int)))] [(66,.row 51 1 (List.map (cL cI) y471))] []) (lZ y471∧True) ((Holds.kdl 66 rfl).and (hT)) ?_ (fun hp=>?_)
 conv=>whnf
 refine Loops.iter (fun (s:List (List Int)×Nat×Nat)=>zq13.s18 eq_ k356 s.1 s.2.1 s.2.2) (fun (y481,k482,y483)=>mkSt [(0,.osl 66 1),(1,.im (.fn f1_ [k1_0])),(5,.im (nI (↑k482:Int))),(6,.osv 66 1 k356 1),(7,.im (nI (↑y483:Int)))] [(66,.row 51 1 (List.map (cL cI) y481))] []) (fun (y481,k482,y483)=>lZ y481∧True) h (Ent.mk [(66,some 66)] rfl ⟨⟨.osl 66 _,rfl,.osl rfl rfl rfl⟩,eI rfl rfl,eI rfl rfl,⟨.osv 66 _ _ _,rfl,.osv rfl rfl rfl⟩,eI rfl rfl,trivial⟩ ⟨.inl ⟨66,rfl,rfl,trivial⟩,trivial⟩ trivial) (by rintro ⟨y481,k482,y483⟩;exact ((Holds.kdl 66 rfl).and (hT))) ?_
 clear h
 rintro k ⟨y481,k482,y483⟩ o hp h ho493
 replace h:zq13.s18 eq_ k356 y481 k482 y483=some o:=h
 unfold zq13.s18 at h
 obtain ⟨z503,_⟩:=hp
 conv=>whnf
 refine Side.mk rfl ?_
 conv=>whnf
 refine Nf.mk (List.length y481-k356) len_own ?_
 conv=>whnf
 refine Both.mk ?_ ?_<;>intro b494
 obtain ⟨h,b494d⟩:=ctd b494 h
 conv=>whnf
 obtain ⟨e495,he495,h⟩:=idxn_some h
 refine Side.mk ⟨(by omega),rfl,map_lt he495⟩ ?_
 conv=>whnf
 refine Nf.mk (k356+y483) rfl ?_
 conv=>whnf
 refine ⟨_,_,⟨rfl,map_at he495,rfl,rfl⟩,?_⟩
 conv=>whnf
 refine Arith.mk (by show inR _;unfold inR;omega) ?_
 conv=>whnf
 obtain ⟨c497,h⟩:=chk_some h
 obtain ⟨e496,he496,h⟩:=idxn_some h
 refine Side.mk ⟨c497,rfl,map_lt he496⟩ ?_
 conv=>whnf
 refine Nf.mk (k356+(Int.toNat ((↑y483:Int)-1))) rfl ?_
 conv=>whnf
 refine ⟨_,_,⟨rfl,map_at he496,rfl,rfl⟩,?_⟩
 conv=>whnf
 obtain ⟨c498,hc498,h⟩:=bind_some h
 refine ⟨_,Sp.args (hf1 e495 e496 c498 hc498) (by rw [hk1_0];try rfl),?_⟩
 conv=>whnf
 refine Both.mk ?_ ?_<;>intro b499
 replace h:=cond_t b499 h
 conv=>whnf
 obtain ⟨e500,he500,h⟩:=idxn_some h
 refine Side.mk ⟨(by omega),rfl,map_lt he500⟩ ?_
 conv=>whnf
 refine Nf.mk (k356+y483) rfl ?_
 conv=>whnf
 refine ⟨_,_,⟨rfl,map_at he500,rfl,rfl⟩,?_⟩
 conv=>whnf
 obtain ⟨e501,he501,h⟩:=idxn_some h
 refine Side.mk ⟨(by omega),rfl,map_lt he501⟩ ?_
 conv=>whnf
 refine Side.mk ⟨rfl,trivial⟩ ?_
 conv=>whnf
 refine ⟨_,map_at he501,?_⟩
 conv=>whnf
 refine Nf.mk (List.map (cL cI) (List.set y481 k482 e500)) (set_map rfl) ?_
 conv=>whnf
 obtain ⟨c502,h⟩:=chk_some h
 refine Arith.mk c502 ?_
 conv=>whnf
 refine Arith.mk (by show inR _;unfold inR;omega) ?_
 conv=>whnf
 cases h
 exact Nxt.mk _ ho493 (Ent.mk [(66,some 66)] rfl ⟨⟨.osl 66 _,rfl,.osl rfl rfl rfl⟩,eI rfl rfl,eI rfl rfl,⟨.osv 66 _ _ _,rfl,.osv rfl rfl rfl⟩,eI rfl rfl,trivial⟩ ⟨.inl ⟨66,rfl,rfl,trivial⟩,trivial⟩ trivial)
 replace h:=cond_f b499 h
 conv=>whnf
 refine Arith.mk (by show inR _;unfold inR;omega) ?_
 conv=>whnf
 cases h
 exact Nxt.mk _ ho493 (Ent.mk [(66,some 66)] rfl ⟨⟨.osl 66 _,rfl,.osl rfl rfl rfl⟩,eI rfl rfl,eI rfl rfl,⟨.osv 66 _ _ _,rfl,.osv rfl rfl rfl⟩,eI rfl rfl,trivial⟩ ⟨.inl ⟨66,rfl,rfl,trivial⟩,trivial⟩ trivial)
 obtain ⟨h,b494d⟩:=cfd b494 h
 conv=>whnf
 cases h
 have ho493:_=_:=ho493
 cases ho493
 exact Join.mk (eA [(66,some 66)])
 replace h:zq13.k19 y471 k472=some _:=hk439
 unfold zq13.k19 at h
 obtain ⟨z504,_⟩:=hp
 conv=>whnf
 obtain ⟨c505,h⟩:=chk_some h
 refine Side.mk ⟨rfl,c505.1,by have hh_:=c505;simp only [List.length_map];omega,by have hh_:=c505;simp only [List.length_map];omega⟩ ?_
 conv=>whnf
 obtain ⟨c506,h⟩:=chk_some h
 refine Side.mk ⟨rfl,by have hh_:=c506;simp only [List.length_map];omega⟩ ?_
 conv=>whnf
 refine Nf.mk (List.map (cL cI) (List.take k472 y471++List.replicate (List.length y471-k472) [])) (clr_map (z:=[]) rfl) ?_
 conv=>whnf
 obtain ⟨c507,h⟩:=chk_some h
 refine Side.mk ⟨rfl,c507.1,by have hh_:=c507;simp only [List.length_map];omega,by have hh_:=c507;simp only [List.length_map];omega⟩ ?_
 conv=>whnf
 refine Nf.mk (List.map (cL cI) (List.take k472 (List.take k472 y471++List.replicate (List.length y471-k472) []))) cut_own ?_
 conv=>whnf
 cases h
 have ho432:_=_:=ho432
 cases ho432
 replace h:some _=some _:=hk52
 cases h
 conv=>whnf
 exact Side.mk ⟨rfl,trivial⟩ ⟨rfl,rfl⟩
 replace h:=cond_f b437 h
 conv=>whnf
 refine Arith.mk (by show inR _;unfold inR;omega) ?_
 conv=>whnf
 cases h
 exact Nxt.mk _ ho432 (eA [(66,some 66)])
 obtain ⟨h,b433d⟩:=cfd b433 h
 conv=>whnf
 cases h
 have ho432:_=_:=ho432
 cases ho432
 exact JoinS.mk' _ rfl (eA [(66,some 66)])
 rintro ⟨⟩ rfl hp
 replace h:=sum_inl hk52
 obtain ⟨z509,_⟩:=hp
 conv=>whnf
 cases h
 conv=>whnf
 exact Side.mk ⟨rfl,trivial⟩ ⟨rfl,rfl⟩
theorem zq46 (l_:List (List Int)) (order_:(List Int)→(List Int)→Option Int) (f1_:FuncId) (hf1:∀ x0 x1 r,order_ x0 x1=some r→Sp Tryz.prog f1_ [.im (nL cI x0),.im (nL cI x1)] (.im (nI r))) (hd1:CmpE Tryz.prog f1_ (fun x=>nL cI x) order_) (r:List (List Int)) (h:Ok (nL (cL cI) l_)→Ok (.fn f1_ [])→zq71 l_ order_=some r):Sp Tryz.prog 125 [.im (nL (cL cI) l_),.im (.fn f1_ [])] (.row 51 1 (List.map (cL cI) r)):=by
 refine sp_of rfl [13000,16000,2013000] rfl rfl rfl (Nat.le_of_ble_eq_true rfl) rfl fun hk=>?_
 replace h:=h hk.1 hk.2.1
 have z1:lZ l_:=ok_len hk.1
 unfold zq71 at h
 conv=>whnf
 obtain ⟨c51,hc51,h⟩:=bind_some h
 refine ⟨_,(sp_lib_Clone_words l_ c51 (hc51)),?_⟩
 conv=>whnf
 refine Side.mk rfl ?_
 conv=>whnf
 refine Side.mk ⟨rfl,trivial⟩ ?_
 conv=>whnf
 obtain ⟨c52,hc52,h⟩:=bind_some h
 refine ⟨_,(sp_lib_SortFunc_words c51 order_ f1_ hd1 c52 (hc52)),?_⟩
 conv=>whnf
 refine Side.mk ⟨rfl,rfl,trivial⟩ ?_
 conv=>whnf
 obtain ⟨c53,hc53,h⟩:=bind_some h
 refine ⟨_,(zq9 c52 (fun u0 u1=>zq59 u0 u1 order_) 188 (.ref [.fn f1_ []]) rfl (fun u0 u1 r h=>(zq40 u0 u1 order_ f1_ hf1 r (fun _ _ _=>h))) c53 (fun _ _=>hc53)),?_⟩
 conv=>whnf
 refine Side.mk rfl ?_
 conv=>whnf
 refine Nf.mk (List.length c53) len_map ?_
 conv=>whnf
 obtain ⟨y73,hc,hk54⟩:=bind_some h
 clear h
 have h:=hc
 clear hc
 refine Cut.mk (mkSt [(5,.osl 64 1)] [(64,.row 51 1 (List.map (cL cI) y73))] []) (lZ y73∧True) ((Holds.kdl 64 rfl).and (hT)) ?_ (fun hp=>?_)
 conv=>whnf
 refine Loops.iter (fun (s:List (List Int)×Nat)=>zq71.s2 c53 s.1 s.2) (fun (y78,y79)=>mkSt [(5,.osl 64 1),(16,.osl 64 1),(17,.im (nI (↑(List.length c53):Int))),(18,.im (nI (↑y79:Int)))] [(64,.row 51 1 (List.map (cL cI) y78))] []) (fun (y78,y79)=>lZ y78∧True) h (eA [(64,some 15)]) (by rintro ⟨y78,y79⟩;exact ((Holds.kdl 64 rfl).and (hT))) ?_
 clear h
 rintro k ⟨y78,y79⟩ o hp h ho85
 replace h:zq71.s2 c53 y78 y79=some o:=h
 unfold zq71.s2 at h
 obtain ⟨z91,_⟩:=hp
 conv=>whnf
 refine Both.mk ?_ ?_<;>intro b86
 obtain ⟨h,b86d⟩:=ctd b86 h
 conv=>whnf
 obtain ⟨e87,he87,h⟩:=idxn_some h
 refine Side.mk ⟨(by omega),rfl,map_lt he87⟩ ?_
 conv=>whnf
 refine ⟨_,_,⟨rfl,map_at he87,rfl,rfl⟩,?_⟩
 conv=>whnf
 obtain ⟨c88,hc88,h⟩:=bind_some h
 refine ⟨_,(sp_lib_Clone_int e87 c88 (hc88)).im,?_⟩
 conv=>whnf
 obtain ⟨e89,he89,h⟩:=idxn_some h
 refine Side.mk ⟨(by omega),rfl,map_lt he89⟩ ?_
 conv=>whnf
 refine Side.mk ⟨rfl,trivial⟩ ?_
 conv=>whnf
 refine ⟨_,map_at he89,?_⟩
 conv=>whnf
 refine Nf.mk (List.map (cL cI) (List.set y78 y79 c88)) (set_map rfl) ?_
 conv=>whnf
 obtain ⟨c90,h⟩:=chk_some h
 refine Arith.mk c90 ?_
 conv=>whnf
 cases h
 exact Nxt.mk _ ho85 (eA [(64,some 64)])
 obtain ⟨h,b86d⟩:=cfd b86 h
 conv=>whnf
 cases h
 have ho85:_=_:=ho85
 cases ho85
 exact Join.mk (eA [(64,some 64)])
 replace h:=hk54
 obtain ⟨z92,_⟩:=hp
 conv=>whnf
 cases h
 conv=>whnf
 exact Side.mk ⟨rfl,trivial⟩ ⟨rfl,rfl⟩
theorem sp_word_Common (a_:List Int) (b_:List Int) (r:Int) (h:Ok (nL cI a_)→Ok (nL cI b_)→word_Common a_ b_=some r):Sp Tryz.prog 189 [.im (nL cI a_),.im (nL cI b_)] (.im (nI r)):=by
 refine sp_of rfl [] rfl rfl rfl (Nat.le_of_ble_eq_true rfl) rfl fun hk=>?_
 replace h:=h hk.1 hk.2.1
 have z1:lZ a_:=ok_len hk.1
 have z2:lZ b_:=ok_len hk.2.1
 unfold word_Common at h
 conv=>whnf
 refine Nf.mk (List.length a_) len_map ?_
 conv=>whnf
 refine Nf.mk (List.length b_) len_map ?_
 conv=>whnf
 obtain ⟨oc,hc,hk51⟩:=bind_some h
 clear h
 have h:=hc
 clear hc
 refine Cut.mkS oc (Y:=Unit) (fun (_:Unit)=>mkSt [(0,.im (nL cI a_)),(1,.im (nL cI b_))] [] []) (fun (_:Unit)=>lZ a_∧lZ b_∧True) (by rintro ⟨⟩;exact ((Holds.avl 0 rfl).and ((Holds.avl 1 rfl).and (hT)))) ?_ ?_
 conv=>whnf
 refine Loops.iter (fun (s:Nat)=>word_Common.s2 a_ b_ s) (fun y72=>mkSt [(0,.im (nL cI a_)),(1,.im (nL cI b_)),(10,.im (nI (min (↑(List.length a_):Int) (↑(List.length b_):Int)))),(11,.im (nI (↑y72:Int)))] [] []) (fun y72=>lZ a_∧lZ b_∧True) h (eA []) (by rintro y72;exact ((Holds.avl 0 rfl).and ((Holds.avl 1 rfl).and (hT)))) ?_
 clear h
 rintro k y72 o hp h ho77
 replace h:word_Common.s2 a_ b_ y72=some o:=h
 unfold word_Common.s2 at h
 obtain ⟨z82,z83,_⟩:=hp
 conv=>whnf
 refine Both.mk ?_ ?_<;>intro b78
 obtain ⟨h,b78d⟩:=ctd b78 h
 conv=>whnf
 obtain ⟨e79,he79,h⟩:=idxn_some h
 refine ⟨_,⟨(by omega),map_at he79,rfl⟩,?_⟩
 conv=>whnf
 obtain ⟨e80,he80,h⟩:=idxn_some h
 refine ⟨_,⟨(by omega),map_at he80,rfl⟩,?_⟩
 conv=>whnf
 refine Both.mk ?_ ?_<;>intro b81
 obtain ⟨h,b81d⟩:=ctd b81 h
 conv=>whnf
 cases h
 have ho77:_=_:=ho77
 cases ho77
 replace h:some _=some _:=hk51
 cases h
 conv=>whnf
 exact ⟨rfl,rfl⟩
 obtain ⟨h,b81d⟩:=cfd b81 h
 conv=>whnf
 refine Arith.mk (by show inR _;unfold inR;omega) ?_
 conv=>whnf
 cases h
 exact Nxt.mk _ ho77 (eA [])
 obtain ⟨h,b78d⟩:=cfd b78 h
 conv=>whnf
 cases h
 have ho77:_=_:=ho77
 cases ho77
 exact JoinS.mk' _ rfl (eA [])
 rintro ⟨⟩ rfl hp
 replace h:=sum_inl hk51
 obtain ⟨z84,z85,_⟩:=hp
 conv=>whnf
 refine Nf.mk (List.length a_) len_map ?_
 conv=>whnf
 refine Nf.mk (List.length b_) len_map ?_
 conv=>whnf
 cases h
 conv=>whnf
 exact ⟨rfl,rfl⟩
theorem sp_word_HasPrefix (w_:List Int) (p_:List Int) (r:Bool) (h:Ok (nL cI w_)→Ok (nL cI p_)→word_HasPrefix w_ p_=some r):Sp Tryz.prog 127 [.im (nL cI w_),.im (nL cI p_)] (.im (nB r)):=by
 refine sp_of rfl [] rfl rfl rfl (Nat.le_of_ble_eq_true rfl) rfl fun hk=>?_
 replace h:=h hk.1 hk.2.1
 have z1:lZ w_:=ok_len hk.1
 have z2:lZ p_:=ok_len hk.2.1
 unfold word_HasPrefix at h
 conv=>whnf
 obtain ⟨c51,hc51,h⟩:=bind_some h
 refine ⟨_,(sp_word_Common w_ p_ c51 (fun _ _=>hc51)),?_⟩
 conv=>whnf
 refine Nf.mk (List.length p_) len_map ?_
 conv=>whnf
 cases h
 conv=>whnf
 exact ⟨rfl,rfl⟩
theorem sp_wordset_Sorted (l_:List (List Int)) (r:List (List Int)) (h:Ok (nL (cL cI) l_)→zq81 l_=some r):Sp Tryz.prog 128 [.im (nL (cL cI) l_)] (.row 51 1 (List.map (cL cI) r)):=by
 refine sp_of rfl [] rfl rfl rfl (Nat.le_of_ble_eq_true rfl) rfl fun hk=>?_
 replace h:=h hk.1
 have z1:lZ l_:=ok_len hk.1
 unfold zq81 at h
 conv=>whnf
 obtain ⟨c51,hc51,h⟩:=bind_some h
 refine ⟨_,(zq46 l_ (fun u0 u1=>word_Compare u0 u1) 101 (fun u0 u1 r h=>(sp_word_Compare u0 u1 r (fun _ _=>h))) cmpE_word_Compare c51 (fun _ _=>hc51)),?_⟩
 conv=>whnf
 cases h
 conv=>whnf
 exact Side.mk ⟨rfl,trivial⟩ ⟨rfl,rfl⟩
theorem sp_word_Lex (a_:List Int) (b_:List Int) (r:Int) (h:Ok (nL cI a_)→Ok (nL cI b_)→word_Lex a_ b_=some r):Sp Tryz.prog 126 [.im (nL cI a_),.im (nL cI b_)] (.im (nI r)):=by
 refine sp_of rfl [] rfl rfl rfl (Nat.le_of_ble_eq_true rfl) rfl fun hk=>?_
 replace h:=h hk.1 hk.2.1
 have z1:lZ a_:=ok_len hk.1
 have z2:lZ b_:=ok_len hk.2.1
 unfold word_Lex at h
 conv=>whnf
 obtain ⟨c51,hc51,h⟩:=bind_some h
 refine ⟨_,(zq20 a_ b_ c51 (fun _ _=>hc51)),?_⟩
 conv=>whnf
 cases h
 conv=>whnf
 exact ⟨rfl,rfl⟩
theorem zq47 (l_:List (List Int)) (r:List (List Int)) (h:Ok (nL (cL cI) l_)→zq73 l_=some r):Sp Tryz.prog 62 [.im (nL (cL cI) l_)] (.im (nL (cL cI) r)):=by
 refine sp_of rfl [] rfl rfl rfl (Nat.le_of_ble_eq_true rfl) rfl fun hk=>?_
 replace h:=h hk.1
 have z1:lZ l_:=ok_len hk.1
 unfold zq73 at h
 conv=>whnf
 obtain ⟨c51,hc51,h⟩:=bind_some h
 refine ⟨_,(zq46 l_ (fun u0 u1=>word_Lex u0 u1) 126 (fun u0 u1 r h=>(sp_word_Lex u0 u1 r (fun _ _=>h))) cmpE_word_Lex c51 (fun _ _=>hc51)).im,?_⟩
 conv=>whnf
 refine Nf.mk (List.length c51) len_map ?_
 conv=>whnf
 obtain ⟨y104,hc,hk52⟩:=bind_some h
 clear h
 have h:=hc
 clear hc
 refine Cut.mk (mkSt [(4,.osl 64 1)] [(64,.row 51 1 (List.map (cL cI) y104))] []) (lZ y104∧True) ((Holds.kdl 64 rfl).and (hT)) ?_ (fun hp=>?_)
 conv=>whnf
 refine Loops.iter (fun (s:List (List Int)×Nat)=>zq73.s2 c51 s.1 s.2) (fun (y119,y120)=>mkSt [(3,.im (nL (cL cI) c51)),(4,.osl 64 1),(9,.im (nL (cL cI) c51)),(10,.im (nI (↑(List.length c51):Int))),(11,.im (nI (↑y120:Int)))] [(64,.row 51 1 (List.map (cL cI) y119))] []) (fun (y119,y120)=>lZ c51∧lZ y119∧True) h (eA [(64,none)]) (by rintro ⟨y119,y120⟩;exact ((Holds.avl 3 rfl).and ((Holds.kdl 64 rfl).and (hT)))) ?_
 clear h
 rintro k ⟨y119,y120⟩ o hp h ho137
 replace h:zq73.s2 c51 y119 y120=some o:=h
 unfold zq73.s2 at h
 obtain ⟨z154,z155,_⟩:=hp
 conv=>whnf
 refine Both.mk ?_ ?_<;>intro b138
 obtain ⟨h,b138d⟩:=ctd b138 h
 conv=>whnf
 obtain ⟨e139,he139,h⟩:=idxn_some h
 refine ⟨_,⟨(by omega),map_at he139,rfl⟩,?_⟩
 conv=>whnf
 obtain ⟨y145,hc,hk141⟩:=bind_some h
 clear h
 have h:=hc
 clear hc
 refine Cut.mk (mkSt [(3,.im (nL (cL cI) c51)),(4,.osl 64 1),(6,.im (nL cI e139)),(9,.im (nL (cL cI) c51)),(10,.im (nI (↑(List.length c51):Int))),(11,.im (nI (↑y120:Int))),(30,.im (nB y145))] [(64,.row 51 1 (List.map (cL cI) y119))] []) (lZ c51∧lZ e139∧lZ y119∧True) ((Holds.avl 3 rfl).and ((Holds.avl 6 rfl).and ((Holds.kdl 64 rfl).and (hT)))) ?_ (fun hp=>?_)
 conv=>whnf
 refine Arith.mk (by show inR _;unfold inR;omega) ?_
 conv=>whnf
 refine Nf.mk (List.length c51) len_map ?_
 conv=>whnf
 refine Both.mk ?_ ?_<;>intro b146
 replace b146:=beq_ff b146
 obtain ⟨h,b146d⟩:=cfd b146 h
 conv=>whnf
 iterate 2 (refine Both.yes (ff_beq b146) ?_;(conv=>whnf))
 refine Arith.mk (by show inR _;unfold inR;omega) ?_
 conv=>whnf
 refine Both.yes (ff_beq b146) ?_
 conv=>whnf
 obtain ⟨e147,he147,h⟩:=idxn_some h
 refine ⟨_,⟨(by omega),map_at he147,rfl⟩,?_⟩
 conv=>whnf
 iterate 3 (refine Both.yes (ff_beq b146) ?_;(conv=>whnf))
 obtain ⟨c148,hc148,h⟩:=bind_some h
 refine ⟨_,(sp_word_HasPrefix e147 e139 c148 (fun _ _=>hc148)),?_⟩
 conv=>whnf
 refine Both.yes (ff_beq b146) ?_
 conv=>whnf
 refine Both.no b146 ?_
 conv=>whnf
 cases h
 exact Join.mk (eA [(64,some 64)])
 replace b146:=beq_ft b146
 obtain ⟨h,b146d⟩:=ctd b146 h
 conv=>whnf
 iterate 7 (refine Both.no (tf_beq b146) ?_;(conv=>whnf))
 refine Both.yes b146 ?_
 conv=>whnf
 cases h
 exact Join.mk (eA [(64,some 64)])
 replace h:=hk141
 obtain ⟨z149,z150,z151,_⟩:=hp
 conv=>whnf
 refine Both.mk ?_ ?_<;>intro b152
 replace h:=cond_t b152 h
 conv=>whnf
 obtain ⟨c153,h⟩:=chk_some h
 refine Side.mk ⟨rfl,map_len (l:=[e139]) (c:=cL cI) fun _=>rfl,show capOk _ 24 by simpa only [List.length_map,List.length_cons,List.length_nil,Nat.zero_add] using c153⟩ ?_
 conv=>whnf
 refine Nf.mk (List.map (cL cI) (y119++[e139])) (app_map (l:=y119) (m:=[e139]) (c:=cL cI)) ?_
 conv=>whnf
 refine Arith.mk (by show inR _;unfold inR;omega) ?_
 conv=>whnf
 cases h
 exact Nxt.mk _ ho137 (eA [(64,some 64)])
 replace h:=cond_f b152 h
 conv=>whnf
 refine Arith.mk (by show inR _;unfold inR;omega) ?_
 conv=>whnf
 cases h
 exact Nxt.mk _ ho137 (eA [(64,some 64)])
 obtain ⟨h,b138d⟩:=cfd b138 h
 conv=>whnf
 cases h
 have ho137:_=_:=ho137
 cases ho137
 exact Join.mk (eA [(64,some 64)])
 replace h:=hk52
 obtain ⟨z156,_⟩:=hp
 conv=>whnf
 refine Side.mk ⟨rfl,trivial⟩ ?_
 conv=>whnf
 obtain ⟨c157,hc157,h⟩:=bind_some h
 refine ⟨_,(sp_wordset_Sorted y104 c157 (fun _=>hc157)).im,?_⟩
 conv=>whnf
 cases h
 conv=>whnf
 exact ⟨rfl,rfl⟩
theorem zq80 (t_:T_api_Table) (o_:T_api_Obs) (r:Int) (h:Ok (.agg (c_api_Table t_))→Ok (.agg (c_api_Obs o_))→zq102 t_ o_=some r):Sp Tryz.prog 93 [.im (.agg (c_api_Table t_)),.im (.agg (c_api_Obs o_))] (.im (nI r)):=by
 refine sp_of rfl [700002,700003] rfl rfl rfl (Nat.le_of_ble_eq_true rfl) rfl fun hk=>?_
 replace h:=h hk.1 hk.2.1
 have z1:lZ t_.Prefixes:=ok_len (Ok.agg_at hk.1 1 rfl)
 have z2:lZ t_.Suffixes:=ok_len (Ok.agg_at hk.1 2 rfl)
 have z3:lZ o_.Traces:=ok_len (Ok.agg_at hk.2.1 1 rfl)
 unfold zq102 at h
 conv=>whnf
 obtain ⟨c51,hc51,h⟩:=bind_some h
 refine ⟨_,(sp_table_Valid t_ c51 (fun _=>hc51)),?_⟩
 conv=>whnf
 refine Both.mk ?_ ?_<;>intro b52
 obtain ⟨h,b52d⟩:=ctd b52 h
 conv=>whnf
 cases h
 conv=>whnf
 exact ⟨rfl,rfl⟩
 obtain ⟨h,b52d⟩:=cfd b52 h
 conv=>whnf
 refine Both.mk ?_ ?_<;>intro b53
 obtain ⟨h,b53d⟩:=ctd b53 h
 conv=>whnf
 cases h
 conv=>whnf
 exact ⟨rfl,rfl⟩
 obtain ⟨h,b53d⟩:=cfd b53 h
 conv=>whnf
 cases h
 conv=>whnf
 exact ⟨rfl,rfl⟩
theorem zq88 (o_:T_api_Obs) (r:List T_api_Trace) (h:Ok (.agg (c_api_Obs o_))→zq105 o_=some r):Sp Tryz.prog 94 [.im (.agg (c_api_Obs o_))] (.row 82 2 (List.map c_api_Trace r)):=by
 refine sp_of rfl [9000,700001,2009000] rfl rfl rfl (Nat.le_of_ble_eq_true rfl) rfl fun hk=>?_
 replace h:=h hk.1
 have z1:lZ o_.Traces:=ok_len (Ok.agg_at hk.1 1 rfl)
 unfold zq105 at h
 conv=>whnf
 obtain ⟨c51,hc51,h⟩:=bind_some h
 refine ⟨_,(sp_lib_Clone_traces o_.Traces c51 (hc51)),?_⟩
 conv=>whnf
 refine Side.mk ⟨rfl,trivial⟩ ?_
 conv=>whnf
 obtain ⟨c52,hc52,h⟩:=bind_some h
 refine ⟨_,(sp_lib_SortFunc_finder c51 (fun u0 u1=>zq94 u0 u1) 157 cmpE_table_find_1 c52 (hc52)),?_⟩
 conv=>whnf
 cases h
 conv=>whnf
 exact Side.mk ⟨rfl,trivial⟩ ⟨rfl,rfl⟩
theorem zq0 (x_:List T_api_Trace) (target_:List Int) (cmp_:T_api_Trace→(List Int)→Option Int) (f2_:FuncId) (hf2:∀ x0 x1 r,cmp_ x0 x1=some r→Sp Tryz.prog f2_ [.im (.agg (c_api_Trace x0)),.im (nL cI x1)] (.im (nI r))) (r:Int×Bool) (h:Ok (nL c_api_Trace x_)→Ok (nL cI target_)→Ok (.fn f2_ [])→zq1 x_ target_ cmp_=some r):Sp Tryz.prog 203 [.im (nL c_api_Trace x_),.im (nL cI target_),.im (.fn f2_ [])] (.tup [nI r.1,nB r.2]):=by
 refine sp_of rfl [] rfl rfl rfl (Nat.le_of_ble_eq_true rfl) rfl fun hk=>?_
 replace h:=h hk.1 hk.2.1 hk.2.2.1
 have z1:lZ x_:=ok_len hk.1
 have z2:lZ target_:=ok_len hk.2.1
 unfold zq1 at h
 conv=>whnf
 refine Nf.mk (List.length x_) len_map ?_
 conv=>whnf
 obtain ⟨i82,hc,hk51⟩:=bind_some h
 clear h
 have h:=hc
 clear hc
 refine Cut.mk (mkSt [(0,.im (nL c_api_Trace x_)),(1,.im (nL cI target_)),(2,.im (.fn f2_ [])),(8,.im (nI (↑(List.length x_):Int))),(9,.im (nI i82))] [] []) (lZ x_∧lZ target_∧True) ((Holds.avl 0 rfl).and ((Holds.avl 1 rfl).and (hT))) ?_ (fun hp=>?_)
 conv=>whnf
 refine Loops.iter (fun (s:Int×Int)=>zq1.s2 x_ target_ cmp_ s.1 s.2) (fun (i90,j91)=>mkSt [(0,.im (nL c_api_Trace x_)),(1,.im (nL cI target_)),(2,.im (.fn f2_ [])),(8,.im (nI (↑(List.length x_):Int))),(9,.im (nI i90)),(10,.im (nI j91))] [] []) (fun (i90,j91)=>lZ x_∧lZ target_∧True) h (eA []) (by rintro ⟨i90,j91⟩;exact ((Holds.avl 0 rfl).and ((Holds.avl 1 rfl).and (hT)))) ?_
 clear h
 rintro k ⟨i90,j91⟩ o hp h ho101
 replace h:zq1.s2 x_ target_ cmp_ i90 j91=some o:=h
 unfold zq1.s2 at h
 obtain ⟨z111,z112,_⟩:=hp
 conv=>whnf
 refine Both.mk ?_ ?_<;>intro b102
 obtain ⟨h,b102d⟩:=ctd b102 h
 conv=>whnf
 obtain ⟨c103,h⟩:=chk_some h
 refine Arith.mk c103 ?_
 conv=>whnf
 obtain ⟨c104,h⟩:=chk_some h
 refine Side.mk c104 ?_
 conv=>whnf
 obtain ⟨c105,h⟩:=chk_some h
 refine Side.mk ⟨⟨by show (0:Int)≤(i90+j91) / 2^1;omega,by show (i90+j91) / 2^1≤(18446744073709551615:Int);omega⟩,c105.1,by decide,by decide⟩ ?_
 conv=>whnf
 obtain ⟨c106,h⟩:=chk_some h
 refine Side.mk c106 ?_
 conv=>whnf
 obtain ⟨e107,he107z,he107,h⟩:=idx_some h
 refine ⟨_,⟨he107z,map_at he107,rfl⟩,?_⟩
 conv=>whnf
 obtain ⟨c108,hc108,h⟩:=bind_some h
 refine ⟨_,hf2 e107 target_ c108 hc108,?_⟩
 conv=>whnf
 refine Both.mk ?_ ?_<;>intro b109
 obtain ⟨h,b109d⟩:=ctd b109 h
 conv=>whnf
 obtain ⟨c110,h⟩:=chk_some h
 refine Arith.mk c110 ?_
 conv=>whnf
 cases h
 exact Nxt.mk _ ho101 (eA [])
 obtain ⟨h,b109d⟩:=cfd b109 h
 conv=>whnf
 cases h
 exact Nxt.mk _ ho101 (eA [])
 obtain ⟨h,b102d⟩:=cfd b102 h
 conv=>whnf
 cases h
 have ho101:_=_:=ho101
 cases ho101
 exact Join.mk (eA [])
 replace h:=hk51
 obtain ⟨z113,z114,_⟩:=hp
 conv=>whnf
 obtain ⟨y120,hc,hk116⟩:=bind_some h
 clear h
 have h:=hc
 clear hc
 refine Cut.mk (mkSt [(6,.im (nI i82)),(7,.im (nB y120))] [] []) (True) (hT) ?_ (fun hp=>?_)
 conv=>whnf
 refine Both.mk ?_ ?_<;>intro b121
 replace b121:=beq_tt b121
 obtain ⟨h,b121d⟩:=ctd b121 h
 conv=>whnf
 iterate 3 (refine Both.yes (tt_beq b121) ?_;(conv=>whnf))
 obtain ⟨e122,he122z,he122,h⟩:=idx_some h
 refine ⟨_,⟨he122z,map_at he122,rfl⟩,?_⟩
 conv=>whnf
 iterate 3 (refine Both.yes (tt_beq b121) ?_;(conv=>whnf))
 obtain ⟨c123,hc123,h⟩:=bind_some h
 refine ⟨_,hf2 e122 target_ c123 hc123,?_⟩
 conv=>whnf
 refine Both.yes (tt_beq b121) ?_
 conv=>whnf
 refine Both.yes b121 ?_
 conv=>whnf
 cases h
 exact Join.mk (eA [])
 replace b121:=beq_tf b121
 obtain ⟨h,b121d⟩:=cfd b121 h
 conv=>whnf
 iterate 7 (refine Both.no (ft_beq b121) ?_;(conv=>whnf))
 refine Both.no b121 ?_
 conv=>whnf
 cases h
 exact Join.mk (eA [])
 replace h:=hk116
 conv=>whnf
 cases h
 conv=>whnf
 exact ⟨rfl,rfl⟩
theorem zq25 (t_:T_api_Trace) (w_:List Int) (r:Int) (h:Ok (.agg (c_api_Trace t_))→Ok (nL cI w_)→zq37 t_ w_=some r):Sp Tryz.prog 204 [.im (.agg (c_api_Trace t_)),.im (nL cI w_)] (.im (nI r)):=by
 refine sp_of rfl [700002] rfl rfl rfl (Nat.le_of_ble_eq_true rfl) rfl fun hk=>?_
 replace h:=h hk.1 hk.2.1
 have z1:lZ t_.In:=ok_len (Ok.agg_at hk.1 0 rfl)
 have z2:lZ t_.Out:=ok_len (Ok.agg_at hk.1 1 rfl)
 have z3:lZ w_:=ok_len hk.2.1
 unfold zq37 at h
 conv=>whnf
 obtain ⟨c51,hc51,h⟩:=bind_some h
 refine ⟨_,(sp_word_Lex t_.In w_ c51 (fun _ _=>hc51)),?_⟩
 conv=>whnf
 cases h
 conv=>whnf
 exact ⟨rfl,rfl⟩
theorem zq28 (f_:List T_api_Trace) (w_:List Int) (r:List Int×Bool) (h:Ok (nL c_api_Trace f_)→Ok (nL cI w_)→zq41 f_ w_=some r):Sp Tryz.prog 158 [.im (nL c_api_Trace f_),.im (nL cI w_)] (.tup [nL cI r.1,nB r.2]):=by
 refine sp_of rfl [] rfl rfl rfl (Nat.le_of_ble_eq_true rfl) rfl fun hk=>?_
 replace h:=h hk.1 hk.2.1
 have z1:lZ f_:=ok_len hk.1
 have z2:lZ w_:=ok_len hk.2.1
 unfold zq41 at h
 conv=>whnf
 refine Nf.mk (List.length w_) len_map ?_
 conv=>whnf
 refine Both.mk ?_ ?_<;>intro b51
 obtain ⟨h,b51d⟩:=ctd b51 h
 conv=>whnf
 cases h
 conv=>whnf
 exact ⟨rfl,rfl⟩
 obtain ⟨h,b51d⟩:=cfd b51 h
 conv=>whnf
 obtain ⟨c52,hc52,h⟩:=bind_some h
 refine ⟨_,(zq0 f_ w_ (fun u0 u1=>zq37 u0 u1) 204 (fun u0 u1 r h=>(zq25 u0 u1 r (fun _ _=>h))) c52 (fun _ _ _=>hc52)),?_⟩
 conv=>whnf
 obtain ⟨y60,hc,hk54⟩:=bind_some h
 clear h
 have h:=hc
 clear hc
 refine Cut.mk (mkSt [(0,.im (nL c_api_Trace f_)),(1,.im (nL cI w_)),(6,.im (nI c52.1)),(41,.im (nB y60))] [] []) (lZ f_∧lZ w_∧True) ((Holds.avl 0 rfl).and ((Holds.avl 1 rfl).and (hT))) ?_ (fun hp=>?_)
 conv=>whnf
 refine Nf.mk (List.length f_) len_map ?_
 conv=>whnf
 refine Both.mk ?_ ?_<;>intro b61
 replace b61:=beq_ff b61
 obtain ⟨h,b61d⟩:=cfd b61 h
 conv=>whnf
 iterate 2 (refine Both.yes (ff_beq b61) ?_;(conv=>whnf))
 obtain ⟨e62,he62z,he62,h⟩:=idx_some h
 refine ⟨_,⟨he62z,map_at he62,rfl⟩,?_⟩
 conv=>whnf
 iterate 4 (refine Both.yes (ff_beq b61) ?_;(conv=>whnf))
 obtain ⟨c63,hc63,h⟩:=bind_some h
 refine ⟨_,(sp_word_HasPrefix e62.In w_ c63 (fun _ _=>hc63)),?_⟩
 conv=>whnf
 refine Both.yes (ff_beq b61) ?_
 conv=>whnf
 refine Both.no b61 ?_
 conv=>whnf
 refine Both.mk ?_ ?_<;>intro b64
 replace b64:=beq_ff b64
 replace h:=cond_f b64 h
 conv=>whnf
 iterate 2 (refine Both.yes (ff_beq b64) ?_;(conv=>whnf))
 obtain ⟨e65,he65z,he65,h⟩:=idx_some h
 refine ⟨_,⟨he65z,map_at he65,rfl⟩,?_⟩
 conv=>whnf
 iterate 3 (refine Both.yes (ff_beq b64) ?_;(conv=>whnf))
 refine Nf.mk (List.length e65.Out) len_map ?_
 conv=>whnf
 iterate 2 (refine Both.yes (ff_beq b64) ?_;(conv=>whnf))
 refine Nf.mk (List.length w_) len_map ?_
 conv=>whnf
 refine Both.yes (ff_beq b64) ?_
 conv=>whnf
 refine Both.no b64 ?_
 conv=>whnf
 cases h
 exact Join.mk (eA [])
 replace b64:=beq_ft b64
 replace h:=cond_t b64 h
 conv=>whnf
 iterate 8 (refine Both.no (tf_beq b64) ?_;(conv=>whnf))
 refine Both.yes b64 ?_
 conv=>whnf
 cases h
 exact Join.mk (eA [])
 replace b61:=beq_ft b61
 obtain ⟨h,b61d⟩:=ctd b61 h
 conv=>whnf
 iterate 7 (refine Both.no (tf_beq b61) ?_;(conv=>whnf))
 refine Both.yes b61 ?_
 conv=>whnf
 iterate 9 (refine Both.no rfl ?_;(conv=>whnf))
 refine Both.yes rfl ?_
 conv=>whnf
 cases h
 exact Join.mk (eA [])
 replace h:=hk54
 obtain ⟨z66,z67,_⟩:=hp
 conv=>whnf
 refine Both.mk ?_ ?_<;>intro b68
 replace h:=cond_t b68 h
 conv=>whnf
 cases h
 conv=>whnf
 exact ⟨rfl,rfl⟩
 replace h:=cond_f b68 h
 conv=>whnf
 obtain ⟨e69,he69z,he69,h⟩:=idx_some h
 refine ⟨_,⟨he69z,map_at he69,rfl⟩,?_⟩
 conv=>whnf
 refine Nf.mk (List.length w_) len_map ?_
 conv=>whnf
 obtain ⟨c70,h⟩:=chk_some h
 refine Side.mk (show (0:Int)≤(0:Int)∧(0:Int)≤(↑(List.length w_):Int)∧(↑(List.length w_):Int)≤(↑(List.length (List.map cI e69.Out)):Int)∧(∀ e∈List.map cI e69.Out,List.length e=1) from ⟨by omega,by first | omega | (simp only [List.length_map];omega),by first | omega | (simp only [List.length_map];omega),map_len fun _=>rfl⟩) ?_
 conv=>whnf
 refine Nf.mk (List.map cI (List.take (List.length w_) e69.Out)) take_map ?_
 conv=>whnf
 cases h
 conv=>whnf
 exact ⟨rfl,rfl⟩
theorem zq31 (f_:List T_api_Trace) (w_:List Int) (r:Bool) (h:Ok (nL c_api_Trace f_)→Ok (nL cI w_)→zq48 f_ w_=some r):Sp Tryz.prog 96 [.im (nL c_api_Trace f_),.im (nL cI w_)] (.im (nB r)):=by
 refine sp_of rfl [] rfl rfl rfl (Nat.le_of_ble_eq_true rfl) rfl fun hk=>?_
 replace h:=h hk.1 hk.2.1
 have z1:lZ f_:=ok_len hk.1
 have z2:lZ w_:=ok_len hk.2.1
 unfold zq48 at h
 conv=>whnf
 obtain ⟨c51,hc51,h⟩:=bind_some h
 refine ⟨_,(zq28 f_ w_ c51 (fun _ _=>hc51)),?_⟩
 conv=>whnf
 cases h
 conv=>whnf
 exact ⟨rfl,rfl⟩
theorem zq57 (w_:List Int) (p1_:T_api_Table) (p2_:List T_api_Trace) (p3_:List (List Int)) (r:List (List Int)) (h:Ok (nL cI w_)→Ok (.ref (c_api_Table p1_))→Ok (.ref (cL c_api_Trace p2_))→OkOcs [.ow (.row 51 1 (List.map (cL cI) p3_))]→zq78 w_ p1_ p2_ p3_=some r):Sp Tryz.prog 95 [.im (nL cI w_),.im (.ref (c_api_Table p1_)),.im (.ref (cL c_api_Trace p2_)),.box 22 [.ow (.row 51 1 (List.map (cL cI) p3_))]] (.mk true [] [.box 22 [.ow (.row 51 1 (List.map (cL cI) r))]]):=by
 refine sp_of rfl [] rfl rfl rfl (Nat.le_of_ble_eq_true rfl) rfl fun hk=>?_
 replace h:=h hk.1 hk.2.1 hk.2.2.1 hk.2.2.2.1
 have z1:lZ w_:=ok_len hk.1
 have z2:lZ p1_.Prefixes:=ok_len (Ok.ref_at hk.2.1 1 rfl)
 have z3:lZ p1_.Suffixes:=ok_len (Ok.ref_at hk.2.1 2 rfl)
 have z4:lZ p2_:=ok_len (Ok.ref_at hk.2.2.1 0 rfl)
 have z5:lZ p3_:=okl_len hk.2.2.2.1.1
 unfold zq78 at h
 conv=>whnf
 refine Nf.mk (List.length p1_.Suffixes) len_map ?_
 conv=>whnf
 obtain ⟨y76,hc,hk51⟩:=bind_some h
 clear h
 have h:=hc
 clear hc
 refine Cut.mk (mkSt [(3,.own 3 0 0)] [(3,.box 22 1),(65,.row 51 1 (List.map (cL cI) y76))] [(3,0,.osl 65 1)]) (lZ y76∧True) ((Holds.kdl 65 rfl).and (hT)) ?_ (fun hp=>?_)
 conv=>whnf
 refine Loops.iter (fun (s:List (List Int)×Nat)=>zq78.s2 w_ p1_ p2_ s.1 s.2) (fun (y83,y84)=>mkSt [(0,.im (nL cI w_)),(2,.im (.ref (cL c_api_Trace p2_))),(3,.own 3 0 0),(9,.im (nL (cL cI) p1_.Suffixes)),(10,.im (nI (↑(List.length p1_.Suffixes):Int))),(11,.im (nI (↑y84:Int)))] [(3,.box 22 1),(65,.row 51 1 (List.map (cL cI) y83))] [(3,0,.osl 65 1)]) (fun (y83,y84)=>lZ w_∧lZ p1_.Suffixes∧lZ y83∧True) h (eA [(3,some 3),(65,some 2192)]) (by rintro ⟨y83,y84⟩;exact ((Holds.avl 0 rfl).and ((Holds.avl 9 rfl).and ((Holds.kdl 65 rfl).and (hT))))) ?_
 clear h
 rintro k ⟨y83,y84⟩ o hp h ho91
 replace h:zq78.s2 w_ p1_ p2_ y83 y84=some o:=h
 unfold zq78.s2 at h
 obtain ⟨z98,z99,z100,_⟩:=hp
 conv=>whnf
 refine Both.mk ?_ ?_<;>intro b92
 obtain ⟨h,b92d⟩:=ctd b92 h
 conv=>whnf
 obtain ⟨e93,he93,h⟩:=idxn_some h
 refine ⟨_,⟨(by omega),map_at he93,rfl⟩,?_⟩
 conv=>whnf
 obtain ⟨c94,hc94,h⟩:=bind_some h
 refine ⟨_,(sp_word_Join [w_,e93] c94 (fun _=>hc94)),?_⟩
 conv=>whnf
 obtain ⟨c95,hc95,h⟩:=bind_some h
 refine ⟨_,(zq31 p2_ c94 c95 (fun _ _=>hc95)),?_⟩
 conv=>whnf
 refine Both.mk ?_ ?_<;>intro b96
 replace h:=cond_t b96 h
 conv=>whnf
 refine Side.mk rfl ?_
 conv=>whnf
 obtain ⟨c97,h⟩:=chk_some h
 refine Side.mk ⟨rfl,map_len (l:=[c94]) (c:=cL cI) fun _=>rfl,show capOk _ 24 by simpa only [List.length_map,List.length_cons,List.length_nil,Nat.zero_add] using c97⟩ ?_
 conv=>whnf
 refine Nf.mk (List.map (cL cI) (y83++[c94])) (app_map (l:=y83) (m:=[c94]) (c:=cL cI)) ?_
 conv=>whnf
 refine Side.mk rfl ?_
 conv=>whnf
 refine Arith.mk (by show inR _;unfold inR;omega) ?_
 conv=>whnf
 cases h
 exact Nxt.mk _ ho91 (eA [(3,some 3),(65,some 65)])
 replace h:=cond_f b96 h
 conv=>whnf
 refine Arith.mk (by show inR _;unfold inR;omega) ?_
 conv=>whnf
 cases h
 exact Nxt.mk _ ho91 (eA [(3,some 3),(65,some 65)])
 obtain ⟨h,b92d⟩:=cfd b92 h
 conv=>whnf
 cases h
 have ho91:_=_:=ho91
 cases ho91
 exact Join.mk (eA [(3,some 3),(65,some 65)])
 replace h:=hk51
 obtain ⟨z101,_⟩:=hp
 conv=>whnf
 cases h
 conv=>whnf
 exact Side.mk ⟨rfl,rfl,trivial⟩ ⟨rfl,rfl⟩
theorem sp_table_Needed (t_:T_api_Table) (o_:T_api_Obs) (r:List (List Int)×Int) (h:Ok (.agg (c_api_Table t_))→Ok (.agg (c_api_Obs o_))→zq95 t_ o_=some r):Sp Tryz.prog 45 [.im (.agg (c_api_Table t_)),.im (.agg (c_api_Obs o_))] (.tup [nL (cL cI) r.1,nI r.2]):=by
 refine sp_of rfl [32003,42003,700002,700003,800007,31937*1000000000+51*100+1] rfl rfl rfl (Nat.le_of_ble_eq_true rfl) rfl fun hk=>?_
 replace h:=h hk.1 hk.2.1
 have z1:lZ t_.Prefixes:=ok_len (Ok.agg_at hk.1 1 rfl)
 have z2:lZ t_.Suffixes:=ok_len (Ok.agg_at hk.1 2 rfl)
 have z3:lZ o_.Traces:=ok_len (Ok.agg_at hk.2.1 1 rfl)
 unfold zq95 at h
 conv=>whnf
 obtain ⟨c51,hc51,h⟩:=bind_some h
 refine ⟨_,(zq80 t_ o_ c51 (fun _ _=>hc51)),?_⟩
 conv=>whnf
 refine Both.mk ?_ ?_<;>intro b52
 obtain ⟨h,b52d⟩:=ctd b52 h
 conv=>whnf
 cases h
 conv=>whnf
 exact ⟨rfl,rfl⟩
 obtain ⟨h,b52d⟩:=cfd b52 h
 conv=>whnf
 obtain ⟨c53,hc53,h⟩:=bind_some h
 refine ⟨_,(zq88 o_ c53 (fun _=>hc53)).im,?_⟩
 conv=>whnf
 refine Side.mk rfl ?_
 conv=>whnf
 refine Side.mk ⟨rfl,trivial⟩ ?_
 conv=>whnf
 refine Nf.mk (List.length t_.Prefixes) len_map ?_
 conv=>whnf
 obtain ⟨y183,hc,hk54⟩:=bind_some h
 clear h
 have h:=hc
 clear hc
 refine Cut.mk (mkSt [(8,.own 64 1 0)] [(64,.box 22 1),(65,.row 51 1 (List.map (cL cI) y183))] [(64,0,.osl 65 1)]) (lZ y183∧True) ((Holds.kdl 65 rfl).and (hT)) ?_ (fun hp=>?_)
 conv=>whnf
 refine Loops.iter (fun (s:List (List Int)×Nat)=>zq95.s14 t_ c53 s.1 s.2) (fun (y225,y226)=>mkSt [(2,.im (.ref (c_api_Table t_))),(8,.own 64 1 0),(9,.fn 95 [.im (.ref (c_api_Table t_)),.im (.ref (cL c_api_Trace c53)),.own 64 1 0]),(23,.im (nL (cL cI) t_.Prefixes)),(24,.im (nI (↑(List.length t_.Prefixes):Int))),(25,.im (nI (↑y226:Int)))] [(64,.box 22 1),(65,.row 51 1 (List.map (cL cI) y225))] [(64,0,.osl 65 1)]) (fun (y225,y226)=>lZ t_.Prefixes∧lZ y225∧True) h (Ent.mk [(64,some 8),(65,none)] rfl ⟨eI rfl rfl,⟨.own 8 _ 0,rfl,.own rfl rfl rfl⟩,⟨.fn _ [.im _,.im _,.own 8 _ 0],rfl,.fn (.cons (.im (Sub.rfl' rfl)) (.cons (.im (Sub.rfl' rfl)) (.cons (.own rfl rfl rfl) (.nil))))⟩,eI rfl rfl,eI rfl rfl,eI rfl rfl,trivial⟩ ⟨.inl ⟨8,rfl,rfl,trivial⟩,.inr ⟨rfl,rfl,.inl ⟨_,_,rfl,by decide⟩⟩,trivial⟩ ⟨⟨8,.im (.val (.slice none 0 0)),rfl,rfl,.made rfl rfl⟩,trivial⟩) (by rintro ⟨y225,y226⟩;exact ((Holds.avl 23 rfl).and ((Holds.kdl 65 rfl).and (hT)))) ?_
 clear h
 rintro k ⟨y225,y226⟩ o hp h ho268
 replace h:zq95.s14 t_ c53 y225 y226=some o:=h
 unfold zq95.s14 at h
 obtain ⟨z310,z311,_⟩:=hp
 conv=>whnf
 refine Both.mk ?_ ?_<;>intro b269
 obtain ⟨h,b269d⟩:=ctd b269 h
 conv=>whnf
 obtain ⟨e270,he270,h⟩:=idxn_some h
 refine ⟨_,⟨(by omega),map_at he270,rfl⟩,?_⟩
 conv=>whnf
 refine Side.mk ⟨rfl,rfl,trivial⟩ ?_
 conv=>whnf
 obtain ⟨c271,hc271,h⟩:=bind_some h
 refine ⟨_,(zq57 e270 t_ c53 y225 c271 (fun _ _ _ _=>hc271)),?_⟩
 conv=>whnf
 obtain ⟨y290,hc,hk272⟩:=bind_some h
 clear h
 have h:=hc
 clear hc
 refine Cut.mk (mkSt [(2,.im (.ref (c_api_Table t_))),(8,.own 64 1 0),(9,.fn 95 [.im (.ref (c_api_Table t_)),.im (.ref (cL c_api_Trace c53)),.own 64 1 0]),(23,.im (nL (cL cI) t_.Prefixes)),(24,.im (nI (↑(List.length t_.Prefixes):Int))),(25,.im (nI (↑y226:Int)))] [(64,.box 22 1),(65,.row 51 1 (List.map (cL cI) y290))] [(64,0,.osl 65 1)]) (lZ t_.Prefixes∧lZ y290∧True) ((Holds.avl 23 rfl).and ((Holds.kdl 65 rfl).and (hT))) ?_ (fun hp=>?_)
 conv=>whnf
 refine Loops.iter (fun (s:List (List Int)×Nat)=>zq95.s13 t_ c53 e270 s.1 s.2) (fun (y294,y295)=>mkSt [(2,.im (.ref (c_api_Table t_))),(8,.own 64 1 0),(9,.fn 95 [.im (.ref (c_api_Table t_)),.im (.ref (cL c_api_Trace c53)),.own 64 1 0]),(11,.im (nL cI e270)),(23,.im (nL (cL cI) t_.Prefixes)),(24,.im (nI (↑(List.length t_.Prefixes):Int))),(25,.im (nI (↑y226:Int))),(33,.im (nI t_.Inputs)),(34,.im (nI (↑y295:Int)))] [(64,.box 22 1),(65,.row 51 1 (List.map (cL cI) y294))] [(64,0,.osl 65 1)]) (fun (y294,y295)=>lZ e270∧lZ t_.Prefixes∧lZ y294∧True) h (Ent.mk [(64,some 64),(65,some 65)] rfl ⟨eI rfl rfl,⟨.own 64 _ 0,rfl,.own rfl rfl rfl⟩,⟨.fn _ [.im _,.im _,.own 64 _ 0],rfl,.fn (.cons (.im (Sub.rfl' rfl)) (.cons (.im (Sub.rfl' rfl)) (.cons (.own rfl rfl rfl) (.nil))))⟩,eI rfl rfl,eI rfl rfl,eI rfl rfl,eI rfl rfl,eI rfl rfl,eI rfl rfl,trivial⟩ ⟨.inl ⟨64,rfl,rfl,trivial⟩,.inl ⟨65,rfl,rfl,trivial⟩,trivial⟩ ⟨⟨64,.osl 65 _,rfl,rfl,.osl rfl rfl rfl⟩,trivial⟩) (by rintro ⟨y294,y295⟩;exact ((Holds.avl 11 rfl).and ((Holds.avl 23 rfl).and ((Holds.kdl 65 rfl).and (hT))))) ?_
 clear h
 rintro k ⟨y294,y295⟩ o hp h ho300
 replace h:zq95.s13 t_ c53 e270 y294 y295=some o:=h
 unfold zq95.s13 at h
 obtain ⟨z305,z306,z307,_⟩:=hp
 conv=>whnf
 refine Both.mk ?_ ?_<;>intro b301
 obtain ⟨h,b301d⟩:=ctd b301 h
 conv=>whnf
 obtain ⟨c302,hc302,h⟩:=bind_some h
 refine ⟨_,(zq58 e270 (↑y295:Int) c302 (fun _ _=>hc302)),?_⟩
 conv=>whnf
 refine Side.mk ⟨rfl,rfl,trivial⟩ ?_
 conv=>whnf
 obtain ⟨c303,hc303,h⟩:=bind_some h
 refine ⟨_,(zq57 c302 t_ c53 y294 c303 (fun _ _ _ _=>hc303)),?_⟩
 conv=>whnf
 obtain ⟨c304,h⟩:=chk_some h
 refine Arith.mk c304 ?_
 conv=>whnf
 cases h
 exact Nxt.mk _ ho300 (Ent.mk [(64,some 64),(65,some 65)] rfl ⟨eI rfl rfl,⟨.own 64 _ 0,rfl,.own rfl rfl rfl⟩,⟨.fn _ [.im _,.im _,.own 64 _ 0],rfl,.fn (.cons (.im (Sub.rfl' rfl)) (.cons (.im (Sub.rfl' rfl)) (.cons (.own rfl rfl rfl) (.nil))))⟩,eI rfl rfl,eI rfl rfl,eI rfl rfl,eI rfl rfl,eI rfl rfl,eI rfl rfl,trivial⟩ ⟨.inl ⟨64,rfl,rfl,trivial⟩,.inl ⟨65,rfl,rfl,trivial⟩,trivial⟩ ⟨⟨64,.osl 65 _,rfl,rfl,.osl rfl rfl rfl⟩,trivial⟩)
 obtain ⟨h,b301d⟩:=cfd b301 h
 conv=>whnf
 cases h
 have ho300:_=_:=ho300
 cases ho300
 exact Join.mk (Ent.mk [(64,some 64),(65,some 65)] rfl ⟨eI rfl rfl,⟨.own 64 _ 0,rfl,.own rfl rfl rfl⟩,⟨.fn _ [.im _,.im _,.own 64 _ 0],rfl,.fn (.cons (.im (Sub.rfl' rfl)) (.cons (.im (Sub.rfl' rfl)) (.cons (.own rfl rfl rfl) (.nil))))⟩,eI rfl rfl,eI rfl rfl,eI rfl rfl,trivial⟩ ⟨.inl ⟨64,rfl,rfl,trivial⟩,.inl ⟨65,rfl,rfl,trivial⟩,trivial⟩ ⟨⟨64,.osl 65 _,rfl,rfl,.osl rfl rfl rfl⟩,trivial⟩)
 replace h:=hk272
 obtain ⟨z308,z309,_⟩:=hp
 conv=>whnf
 refine Arith.mk (by show inR _;unfold inR;omega) ?_
 conv=>whnf
 cases h
 exact Nxt.mk _ ho268 (Ent.mk [(64,some 64),(65,some 65)] rfl ⟨eI rfl rfl,⟨.own 64 _ 0,rfl,.own rfl rfl rfl⟩,⟨.fn _ [.im _,.im _,.own 64 _ 0],rfl,.fn (.cons (.im (Sub.rfl' rfl)) (.cons (.im (Sub.rfl' rfl)) (.cons (.own rfl rfl rfl) (.nil))))⟩,eI rfl rfl,eI rfl rfl,eI rfl rfl,trivial⟩ ⟨.inl ⟨64,rfl,rfl,trivial⟩,.inl ⟨65,rfl,rfl,trivial⟩,trivial⟩ ⟨⟨64,.osl 65 _,rfl,rfl,.osl rfl rfl rfl⟩,trivial⟩)
 obtain ⟨h,b269d⟩:=cfd b269 h
 conv=>whnf
 cases h
 have ho268:_=_:=ho268
 cases ho268
 exact Join.mk (eA [(64,some 64),(65,some 65)])
 replace h:=hk54
 obtain ⟨z312,_⟩:=hp
 conv=>whnf
 refine Side.mk rfl ?_
 conv=>whnf
 refine Side.mk ⟨rfl,trivial⟩ ?_
 conv=>whnf
 obtain ⟨c313,hc313,h⟩:=bind_some h
 refine ⟨_,(zq47 y183 c313 (fun _=>hc313)),?_⟩
 conv=>whnf
 cases h
 conv=>whnf
 exact ⟨rfl,rfl⟩
theorem zq43 (f_:List T_api_Trace) (t_:T_api_Table) (w_:List Int) (r:List (List Int)×Bool) (h:Ok (nL c_api_Trace f_)→Ok (.agg (c_api_Table t_))→Ok (nL cI w_)→zq64 f_ t_ w_=some r):Sp Tryz.prog 159 [.im (nL c_api_Trace f_),.im (.agg (c_api_Table t_)),.im (nL cI w_)] (.tup [nL (cL cI) r.1,nB r.2]):=by
 refine sp_of rfl [700004] rfl rfl rfl (Nat.le_of_ble_eq_true rfl) rfl fun hk=>?_
 replace h:=h hk.1 hk.2.1 hk.2.2.1
 have z1:lZ f_:=ok_len hk.1
 have z2:lZ t_.Prefixes:=ok_len (Ok.agg_at hk.2.1 1 rfl)
 have z3:lZ t_.Suffixes:=ok_len (Ok.agg_at hk.2.1 2 rfl)
 have z4:lZ w_:=ok_len hk.2.2.1
 unfold zq64 at h
 conv=>whnf
 refine Nf.mk (List.length t_.Suffixes) len_map ?_
 conv=>whnf
 obtain ⟨c51,h⟩:=chk_some h
 refine Side.mk c51 ?_
 conv=>whnf
 refine Nf.mk (List.map (cL cI) []) rfl ?_
 conv=>whnf
 refine Nf.mk (List.length t_.Suffixes) len_map ?_
 conv=>whnf
 obtain ⟨oc,hc,hk52⟩:=bind_some h
 clear h
 have h:=hc
 clear hc
 refine Cut.mkS oc (Y:=List (List Int)) (fun y84=>mkSt [(8,.osl 64 1)] [(64,.row 51 1 (List.map (cL cI) y84))] []) (fun y84=>lZ y84∧True) (by rintro y84;exact ((Holds.kdl 64 rfl).and (hT))) ?_ ?_
 conv=>whnf
 refine Loops.iter (fun (s:List (List Int)×Nat)=>zq64.s2 f_ t_ w_ s.1 s.2) (fun (y93,y94)=>mkSt [(0,.im (nL c_api_Trace f_)),(2,.im (nL cI w_)),(8,.osl 64 1),(18,.im (nL (cL cI) t_.Suffixes)),(19,.im (nI (↑(List.length t_.Suffixes):Int))),(20,.im (nI (↑y94:Int)))] [(64,.row 51 1 (List.map (cL cI) y93))] []) (fun (y93,y94)=>lZ f_∧lZ w_∧lZ t_.Suffixes∧lZ y93∧True) h (eA [(64,some 16)]) (by rintro ⟨y93,y94⟩;exact ((Holds.avl 0 rfl).and ((Holds.avl 2 rfl).and ((Holds.avl 18 rfl).and ((Holds.kdl 64 rfl).and (hT)))))) ?_
 clear h
 rintro k ⟨y93,y94⟩ o hp h ho103
 replace h:zq64.s2 f_ t_ w_ y93 y94=some o:=h
 unfold zq64.s2 at h
 obtain ⟨z112,z113,z114,z115,_⟩:=hp
 conv=>whnf
 refine Both.mk ?_ ?_<;>intro b104
 obtain ⟨h,b104d⟩:=ctd b104 h
 conv=>whnf
 obtain ⟨e105,he105,h⟩:=idxn_some h
 refine ⟨_,⟨(by omega),map_at he105,rfl⟩,?_⟩
 conv=>whnf
 obtain ⟨c106,hc106,h⟩:=bind_some h
 refine ⟨_,(sp_word_Join [w_,e105] c106 (fun _=>hc106)),?_⟩
 conv=>whnf
 obtain ⟨c107,hc107,h⟩:=bind_some h
 refine ⟨_,(zq28 f_ c106 c107 (fun _ _=>hc107)),?_⟩
 conv=>whnf
 refine Both.mk ?_ ?_<;>intro b108
 replace h:=cond_t b108 h
 conv=>whnf
 cases h
 have ho103:_=_:=ho103
 cases ho103
 replace h:some _=some _:=hk52
 cases h
 conv=>whnf
 exact ⟨rfl,rfl⟩
 replace h:=cond_f b108 h
 conv=>whnf
 refine Nf.mk (List.length w_) len_map ?_
 conv=>whnf
 obtain ⟨c109,h⟩:=chk_some h
 refine Side.mk (show (0:Int)≤(↑(List.length w_):Int)∧(↑(List.length w_):Int)≤(↑(List.length (List.map cI c107.1)):Int)∧(↑(List.length (List.map cI c107.1)):Int)≤(↑(List.length (List.map cI c107.1)):Int)∧(∀ e∈List.map cI c107.1,List.length e=1) from ⟨by omega,by first | omega | (simp only [List.length_map];omega),by first | omega | (simp only [List.length_map];omega),map_len fun _=>rfl⟩) ?_
 conv=>whnf
 refine Nf.mk (List.map cI (List.drop (List.length w_) c107.1)) drop_map ?_
 conv=>whnf
 obtain ⟨c110,hc110,h⟩:=bind_some h
 refine ⟨_,(sp_lib_Clone_int (List.drop (List.length w_) c107.1) c110 (hc110)).im,?_⟩
 conv=>whnf
 obtain ⟨c111,h⟩:=chk_some h
 refine Side.mk ⟨rfl,map_len (l:=[c110]) (c:=cL cI) fun _=>rfl,show capOk _ 24 by simpa only [List.length_map,List.length_cons,List.length_nil,Nat.zero_add] using c111⟩ ?_
 conv=>whnf
 refine Nf.mk (List.map (cL cI) (y93++[c110])) (app_map (l:=y93) (m:=[c110]) (c:=cL cI)) ?_
 conv=>whnf
 refine Arith.mk (by show inR _;unfold inR;omega) ?_
 conv=>whnf
 cases h
 exact Nxt.mk _ ho103 (eA [(64,some 64)])
 obtain ⟨h,b104d⟩:=cfd b104 h
 conv=>whnf
 cases h
 have ho103:_=_:=ho103
 cases ho103
 exact JoinS.mk' _ rfl (eA [(64,some 64)])
 rintro y84 rfl hp
 replace h:=sum_inl hk52
 obtain ⟨z116,_⟩:=hp
 conv=>whnf
 cases h
 conv=>whnf
 exact Side.mk ⟨rfl,trivial⟩ ⟨rfl,rfl⟩
theorem zq54 (v_:T_table_view) (row_:List (List Int)) (v0_1:Value) (v0_2:Value) (r:Int×T_table_view) (h:OkOcs [.ow (.row 22 1 (List.map (cL (cL cI)) v_.rows)),.im (.ex v0_1),.im (.ex v0_2),.ow (.map (mapV wS wI v_.number))]→Ok (nL (cL cI) row_)→zq77 v_ row_=some r):Sp Tryz.prog 160 [.box 154 [.ow (.row 22 1 (List.map (cL (cL cI)) v_.rows)),.im (.ex v0_1),.im (.ex v0_2),.ow (.map (mapV wS wI v_.number))],.im (nL (cL cI) row_)] (.mk false [.im (nI r.1)] [.box 154 [.ow (.row 22 1 (List.map (cL (cL cI)) r.2.rows)),.im (.ex v0_1),.im (.ex v0_2),.ow (.map (mapV wS wI r.2.number))]]):=by
 refine sp_of rfl [] rfl rfl rfl (Nat.le_of_ble_eq_true rfl) rfl fun hk=>?_
 replace h:=h hk.1 hk.2.1
 have z1:lZ v_.rows:=okl_len hk.1.1
 have z2:lZ row_:=ok_len hk.2.1
 unfold zq77 at h
 conv=>whnf
 refine Nf.mk (List.length row_) len_map ?_
 conv=>whnf
 obtain ⟨k72,hc,hk51⟩:=bind_some h
 clear h
 have h:=hc
 clear hc
 refine Cut.mk (mkSt [(0,.own 0 0 0),(1,.im (nL (cL cI) row_)),(5,.im (nS k72))] [(0,.box 154 4),(65,.row 22 1 (List.map (cL (cL cI)) v_.rows)),(66,.map (mapV wS wI v_.number))] [(0,0,.osl 65 1),(0,1,.im (.ex v0_1)),(0,2,.im (.ex v0_2)),(0,3,.osl 66 1)]) (lZ row_∧lZ v_.rows∧True) ((Holds.avl 1 rfl).and ((Holds.kdl 65 rfl).and (hT))) ?_ (fun hp=>?_)
 conv=>whnf
 refine Loops.iter (fun (s:ByteArray×Nat)=>zq77.s2 row_ s.1 s.2) (fun (k78,y79)=>mkSt [(0,.own 0 0 0),(1,.im (nL (cL cI) row_)),(5,.im (nS k78)),(10,.im (nL (cL cI) row_)),(11,.im (nI (↑(List.length row_):Int))),(12,.im (nI (↑y79:Int)))] [(0,.box 154 4),(65,.row 22 1 (List.map (cL (cL cI)) v_.rows)),(66,.map (mapV wS wI v_.number))] [(0,0,.osl 65 1),(0,1,.im (.ex v0_1)),(0,2,.im (.ex v0_2)),(0,3,.osl 66 1)]) (fun (k78,y79)=>lZ row_∧lZ v_.rows∧True) h (eA [(0,some 0),(65,some 2000),(66,some 2003)]) (by rintro ⟨k78,y79⟩;exact ((Holds.avl 1 rfl).and ((Holds.kdl 65 rfl).and (hT)))) ?_
 clear h
 rintro k ⟨k78,y79⟩ o hp h ho85
 replace h:zq77.s2 row_ k78 y79=some o:=h
 unfold zq77.s2 at h
 obtain ⟨z91,z92,_⟩:=hp
 conv=>whnf
 refine Both.mk ?_ ?_<;>intro b86
 obtain ⟨h,b86d⟩:=ctd b86 h
 conv=>whnf
 obtain ⟨e87,he87,h⟩:=idxn_some h
 refine ⟨_,⟨(by omega),map_at he87,rfl⟩,?_⟩
 conv=>whnf
 obtain ⟨c88,hc88,h⟩:=bind_some h
 refine ⟨_,(zq96 e87 c88 (hc88)),?_⟩
 conv=>whnf
 obtain ⟨c89,h⟩:=chk_some h
 refine Side.mk c89 ?_
 conv=>whnf
 obtain ⟨c90,h⟩:=chk_some h
 refine Side.mk c90 ?_
 conv=>whnf
 refine Arith.mk (by show inR _;unfold inR;omega) ?_
 conv=>whnf
 cases h
 exact Nxt.mk _ ho85 (eA [(0,some 0),(65,some 65),(66,some 66)])
 obtain ⟨h,b86d⟩:=cfd b86 h
 conv=>whnf
 cases h
 have ho85:_=_:=ho85
 cases ho85
 exact Join.mk (eA [(0,some 0),(65,some 65),(66,some 66)])
 replace h:=hk51
 obtain ⟨z93,z94,_⟩:=hp
 conv=>whnf
 refine Side.mk rfl ?_
 conv=>whnf
 refine Side.mk rfl ?_
 conv=>whnf
 refine Side.mk rfl ?_
 conv=>whnf
 refine Side.mk rfl ?_
 conv=>whnf
 refine ⟨_,find_str _ wI _,?_⟩
 conv=>whnf
 refine Nf.mk (wI ((mget k72 v_.number).getD 0)) (getD_map rfl _) ?_
 conv=>whnf
 refine Nf.mk (mget k72 v_.number).isSome (isSome_map _) ?_
 conv=>whnf
 obtain ⟨⟨y99,y100,n101⟩,hc,hk96⟩:=bind_some h
 clear h
 have h:=hc
 clear hc
 refine Cut.mk (mkSt [(0,.own 0 0 0),(8,.im (nI n101))] [(0,.box 154 4),(65,.row 22 1 (List.map (cL (cL cI)) y99)),(66,.map (mapV wS wI y100))] [(0,0,.osl 65 1),(0,1,.im (.ex v0_1)),(0,2,.im (.ex v0_2)),(0,3,.osl 66 1)]) (lZ y99∧True) ((Holds.kdl 65 rfl).and (hT)) ?_ (fun hp=>?_)
 conv=>whnf
 refine Both.mk ?_ ?_<;>intro b102
 replace h:=cond_t b102 h
 conv=>whnf
 refine Side.mk rfl ?_
 conv=>whnf
 refine Side.mk rfl ?_
 conv=>whnf
 refine Side.mk rfl ?_
 conv=>whnf
 refine Side.mk rfl ?_
 conv=>whnf
 refine Nf.mk (List.length v_.rows) len_map ?_
 conv=>whnf
 refine Side.mk rfl ?_
 conv=>whnf
 refine Side.mk rfl ?_
 conv=>whnf
 refine Side.mk rfl ?_
 conv=>whnf
 refine Side.mk rfl ?_
 conv=>whnf
 refine ⟨_,set_str _ (↑(List.length v_.rows):Int) wI _,?_⟩
 conv=>whnf
 refine Side.mk rfl ?_
 conv=>whnf
 refine Side.mk rfl ?_
 conv=>whnf
 refine Side.mk rfl ?_
 conv=>whnf
 obtain ⟨c103,h⟩:=chk_some h
 refine Side.mk ⟨rfl,map_len (l:=[row_]) (c:=cL (cL cI)) fun _=>rfl,show capOk _ 24 by simpa only [List.length_map,List.length_cons,List.length_nil,Nat.zero_add] using c103⟩ ?_
 conv=>whnf
 refine Nf.mk (List.map (cL (cL cI)) (v_.rows++[row_])) (app_map (l:=v_.rows) (m:=[row_]) (c:=cL (cL cI))) ?_
 conv=>whnf
 refine Side.mk rfl ?_
 conv=>whnf
 refine Side.mk rfl ?_
 conv=>whnf
 refine Side.mk rfl ?_
 conv=>whnf
 cases h
 exact Join.mk (eA [(0,some 0),(65,some 65),(66,some 66)])
 replace h:=cond_f b102 h
 conv=>whnf
 cases h
 exact Join.mk (eA [(0,some 0),(65,some 65),(66,some 66)])
 replace h:zq77.k3 v_ y99 y100 n101=some _:=hk96
 unfold zq77.k3 at h
 obtain ⟨z104,_⟩:=hp
 conv=>whnf
 cases h
 conv=>whnf
 exact Side.mk ⟨rfl,rfl,rfl,trivial⟩ ⟨rfl,rfl⟩
end Go.Proofs.YtedabpfahmealaaGreatDoor.Sym
