/-
  The contracts of the functions, read from the code by a program (ext.py): each function has its plain twin as its contract.
-/
import Derived.Test.YtcneaiejdidooaaGreatDoorM4
set_option linter.all false
namespace Go.Proofs.YtcneaiejdidooaaGreatDoor.Sym
open Go.RowKit
set_option maxRecDepth 100000
set_option linter.unusedVariables false
set_option maxHeartbeats 4000000
theorem eI {σ:St} {src:List (Nat×Option Nat)} {γ:Nat→Nat} {t:Nat} {y b:IV} (h1:σ.av t=.im y) (h2:AV.im y=.im b):∃ x,σ.av t=x∧SubR σ src γ x (.im b):=⟨.im y,h1,.im (Sub.rfl' h2)⟩
theorem odt {p:Prop} [Decidable p] (h:decide p=true):p:=of_decide_eq_true h
theorem odf {p:Prop} [Decidable p] (h:decide p=false):¬ p:=of_decide_eq_false h
theorem ctd {α:Type} {p:Prop} [Decidable p] {x y z:α} (hb:decide p=true) (h:cond (decide p) x y=z):x=z∧p:=⟨cond_t hb h,odt hb⟩
theorem cfd {α:Type} {p:Prop} [Decidable p] {x y z:α} (hb:decide p=false) (h:cond (decide p) x y=z):y=z∧¬ p:=⟨cond_f hb h,odf hb⟩
theorem hT {σ:St}:Holds σ True:=Holds.true_ _
abbrev lZ {α:Type} (l:List α):Prop:=List.length l≤17592186044416
theorem eA {σ:St} {avs:List (Nat×AV)} {kds:List (Nat×Kd)} {cels:List (Nat×Nat×AV)} (src:List (Nat×Option Nat)) (hn:ndB (srcs src) []=true:=by exact rfl) (ha:SubL σ src (gnM kds) avs:=by repeat' (first | exact trivial | refine ⟨eI rfl rfl,?_⟩ | refine ⟨⟨.own _ _ _,rfl,.own rfl rfl rfl⟩,?_⟩ | refine ⟨⟨.osl _ _,rfl,.osl rfl rfl rfl⟩,?_⟩ | refine ⟨⟨.im (.val (.slice none 0 0)),rfl,.made rfl rfl⟩,?_⟩)) (hk:KdL σ src kds:=by repeat' (first | exact trivial | refine ⟨.inl ⟨_,rfl,rfl,trivial⟩,?_⟩ | refine ⟨.inl ⟨_,rfl,rfl,⟨rfl,rfl⟩⟩,?_⟩ | refine ⟨.inr ⟨rfl,rfl,.inl ⟨_,_,rfl,by decide⟩⟩,?_⟩)) (hc:CeL σ src (gnM kds) cels:=by repeat' (first | exact trivial | refine ⟨⟨_,.im _,rfl,rfl,.im (Sub.rfl' rfl)⟩,?_⟩ | refine ⟨⟨_,.own _ _ _,rfl,rfl,.own rfl rfl rfl⟩,?_⟩ | refine ⟨⟨_,.osl _ _,rfl,rfl,.osl rfl rfl rfl⟩,?_⟩)):Ent σ (mkSt avs kds cels):=Ent.mk src hn ha hk hc
theorem sp_L06_Long (l_:List (List Int)) (r:Bool) (h:Ok (nL (cL cI) l_)→L06_Long l_=some r):Sp Tryz.prog 8 [.im (nL (cL cI) l_)] (.im (nB r)):=by
 refine sp_of rfl [] rfl rfl rfl (Nat.le_of_ble_eq_true rfl) rfl fun hk=>?_
 replace h:=h hk.1
 have z1:lZ l_:=ok_len hk.1
 unfold L06_Long at h
 conv=>whnf
 refine Nf.mk (List.length l_) len_map ?_
 conv=>whnf
 refine Both.mk ?_ ?_<;>intro b51
 obtain ⟨h,b51d⟩:=ctd b51 h
 conv=>whnf
 cases h
 conv=>whnf
 exact ⟨rfl,rfl⟩
 obtain ⟨h,b51d⟩:=cfd b51 h
 conv=>whnf
 obtain ⟨oc,hc,hk52⟩:=bind_some h
 clear h
 have h:=hc
 clear hc
 refine Cut.mkS oc (Y:=Unit) (fun (_:Unit)=>mkSt [] [] []) (fun (_:Unit)=>True) (by rintro ⟨⟩;exact (hT)) ?_ ?_
 conv=>whnf
 refine Loops.iter (fun (s:Nat)=>L06_Long.s2 l_ s) (fun i68=>mkSt [(0,.im (nL (cL cI) l_)),(3,.im (nI (↑i68:Int)))] [] []) (fun i68=>lZ l_∧True) h (eA []) (by rintro i68;exact ((Holds.avl 0 rfl).and (hT))) ?_
 clear h
 rintro k i68 o hp h ho72
 replace h:L06_Long.s2 l_ i68=some o:=h
 unfold L06_Long.s2 at h
 obtain ⟨z76,_⟩:=hp
 conv=>whnf
 refine Nf.mk (List.length l_) len_map ?_
 conv=>whnf
 refine Both.mk ?_ ?_<;>intro b73
 obtain ⟨h,b73d⟩:=ctd b73 h
 conv=>whnf
 obtain ⟨e74,he74,h⟩:=zaj h
 refine ⟨_,⟨(by omega),map_at he74,rfl⟩,?_⟩
 conv=>whnf
 refine Nf.mk (List.length e74) len_map ?_
 conv=>whnf
 refine Both.mk ?_ ?_<;>intro b75
 obtain ⟨h,b75d⟩:=ctd b75 h
 conv=>whnf
 cases h
 have ho72:_=_:=ho72
 cases ho72
 replace h:some _=some _:=hk52
 cases h
 conv=>whnf
 exact ⟨rfl,rfl⟩
 obtain ⟨h,b75d⟩:=cfd b75 h
 conv=>whnf
 refine Arith.mk (by show inR _;unfold inR;omega) ?_
 conv=>whnf
 cases h
 exact Nxt.mk _ ho72 (eA [])
 obtain ⟨h,b73d⟩:=cfd b73 h
 conv=>whnf
 cases h
 have ho72:_=_:=ho72
 cases ho72
 exact JoinS.mk' _ rfl (eA [])
 rintro ⟨⟩ rfl hp
 replace h:=sum_inl hk52
 conv=>whnf
 cases h
 conv=>whnf
 exact ⟨rfl,rfl⟩
theorem sp_L16_Great (o_:zam) (r:Bool) (h:Ok (.agg (zbh o_))→zc4 o_=some r):Sp Tryz.prog 26 [.im (.agg (zbh o_))] (.im (nB r)):=by
 refine sp_of rfl [700001] rfl rfl rfl (Nat.le_of_ble_eq_true rfl) rfl fun hk=>?_
 replace h:=h hk.1
 have z1:lZ o_.Traces:=ok_len (Ok.agg_at hk.1 1 rfl)
 unfold zc4 at h
 conv=>whnf
 refine Nf.mk (List.length o_.Traces) len_map ?_
 conv=>whnf
 refine Both.mk ?_ ?_<;>intro b51
 obtain ⟨h,b51d⟩:=ctd b51 h
 conv=>whnf
 cases h
 conv=>whnf
 exact ⟨rfl,rfl⟩
 obtain ⟨h,b51d⟩:=cfd b51 h
 conv=>whnf
 obtain ⟨oc,hc,hk52⟩:=bind_some h
 clear h
 have h:=hc
 clear hc
 refine Cut.mkS oc (Y:=Unit) (fun (_:Unit)=>mkSt [] [] []) (fun (_:Unit)=>True) (by rintro ⟨⟩;exact (hT)) ?_ ?_
 conv=>whnf
 refine Loops.iter (fun (s:Nat)=>zc4.s2 o_ s) (fun i99=>mkSt [(1,.im (.ref (zbh o_))),(3,.im (nI (↑i99:Int)))] [] []) (fun i99=>True) h (eA []) (by rintro i99;exact (hT)) ?_
 clear h
 rintro k i99 o hp h ho111
 replace h:zc4.s2 o_ i99=some o:=h
 unfold zc4.s2 at h
 conv=>whnf
 refine Nf.mk (List.length o_.Traces) len_map ?_
 conv=>whnf
 refine Both.mk ?_ ?_<;>intro b112
 obtain ⟨h,b112d⟩:=ctd b112 h
 conv=>whnf
 obtain ⟨y118,hc,hk114⟩:=bind_some h
 clear h
 have h:=hc
 clear hc
 refine Cut.mk (mkSt [(1,.im (.ref (zbh o_))),(3,.im (nI (↑i99:Int))),(32,.im (nB y118))] [] []) (True) (hT) ?_ (fun hp=>?_)
 conv=>whnf
 obtain ⟨e119,he119,h⟩:=zaj h
 refine ⟨_,⟨(by omega),map_at he119,rfl⟩,?_⟩
 conv=>whnf
 refine Nf.mk (List.length e119.In) len_map ?_
 conv=>whnf
 refine Both.mk ?_ ?_<;>intro b120
 replace b120:=beq_ff b120
 obtain ⟨h,b120d⟩:=cfd b120 h
 conv=>whnf
 iterate 3 (refine Both.yes (ff_beq b120) ?_;(conv=>whnf))
 obtain ⟨e121,he121,h⟩:=zaj h
 refine ⟨_,⟨(by omega),map_at he121,rfl⟩,?_⟩
 conv=>whnf
 iterate 3 (refine Both.yes (ff_beq b120) ?_;(conv=>whnf))
 refine Nf.mk (List.length e121.Out) len_map ?_
 conv=>whnf
 refine Both.yes (ff_beq b120) ?_
 conv=>whnf
 refine Both.no b120 ?_
 conv=>whnf
 cases h
 exact Join.mk (eA [])
 replace b120:=beq_ft b120
 obtain ⟨h,b120d⟩:=ctd b120 h
 conv=>whnf
 iterate 7 (refine Both.no (tf_beq b120) ?_;(conv=>whnf))
 refine Both.yes b120 ?_
 conv=>whnf
 cases h
 exact Join.mk (eA [])
 replace h:=hk114
 conv=>whnf
 refine Both.mk ?_ ?_<;>intro b122
 replace h:=cond_t b122 h
 conv=>whnf
 cases h
 have ho111:_=_:=ho111
 cases ho111
 replace h:some _=some _:=hk52
 cases h
 conv=>whnf
 exact ⟨rfl,rfl⟩
 replace h:=cond_f b122 h
 conv=>whnf
 refine Arith.mk (by show inR _;unfold inR;omega) ?_
 conv=>whnf
 cases h
 exact Nxt.mk _ ho111 (eA [])
 obtain ⟨h,b112d⟩:=cfd b112 h
 conv=>whnf
 cases h
 have ho111:_=_:=ho111
 cases ho111
 exact JoinS.mk' _ rfl (eA [])
 rintro ⟨⟩ rfl hp
 replace h:=sum_inl hk52
 conv=>whnf
 cases h
 conv=>whnf
 exact ⟨rfl,rfl⟩
theorem sp_L21_Great (q_:zae) (r:Bool) (h:Ok (.agg (zbj q_))→zgx q_=some r):Sp Tryz.prog 6 [.im (.agg (zbj q_))] (.im (nB r)):=by
 refine sp_of rfl [700001] rfl rfl rfl (Nat.le_of_ble_eq_true rfl) rfl fun hk=>?_
 replace h:=h hk.1
 have z1:lZ q_.Device.M.Next:=ok_len (Ok.agg_at hk.1 2 rfl)
 have z2:lZ q_.Device.M.Out:=ok_len (Ok.agg_at hk.1 3 rfl)
 have z3:lZ q_.Device.Latency.Step:=ok_len (Ok.agg_at hk.1 6 rfl)
 have z4:lZ q_.Obs.Traces:=ok_len (Ok.agg_at hk.1 16 rfl)
 unfold zgx at h
 conv=>whnf
 obtain ⟨y57,hc,hk52⟩:=bind_some h
 clear h
 have h:=hc
 clear hc
 refine Cut.mk (mkSt [(2,.im (nB y57))] [] []) (True) (hT) ?_ (fun hp=>?_)
 conv=>whnf
 refine Nf.mk (List.length q_.Device.M.Next) len_map ?_
 conv=>whnf
 refine Both.mk ?_ ?_<;>intro b58
 replace b58:=beq_ff b58
 obtain ⟨h,b58d⟩:=cfd b58 h
 conv=>whnf
 iterate 4 (refine Both.yes (ff_beq b58) ?_;(conv=>whnf))
 refine Both.no b58 ?_
 conv=>whnf
 refine Both.mk ?_ ?_<;>intro b59
 replace b59:=beq_ff b59
 obtain ⟨h,b59d⟩:=cfd b59 h
 conv=>whnf
 iterate 4 (refine Both.yes (ff_beq b59) ?_;(conv=>whnf))
 refine Nf.mk (List.length q_.Device.Latency.Step) len_map ?_
 conv=>whnf
 refine Both.yes (ff_beq b59) ?_
 conv=>whnf
 refine Both.no b59 ?_
 conv=>whnf
 refine Both.mk ?_ ?_<;>intro b60
 replace b60:=beq_ff b60
 obtain ⟨h,b60d⟩:=cfd b60 h
 conv=>whnf
 iterate 2 (refine Both.yes (ff_beq b60) ?_;(conv=>whnf))
 obtain ⟨c61,hc61,h⟩:=bind_some h
 refine ⟨_,(sp_L16_Great q_.Obs c61 (fun _=>hc61)),?_⟩
 conv=>whnf
 refine Both.no b60 ?_
 conv=>whnf
 cases h
 exact Join.mk (eA [])
 replace b60:=beq_ft b60
 obtain ⟨h,b60d⟩:=ctd b60 h
 conv=>whnf
 iterate 2 (refine Both.no (tf_beq b60) ?_;(conv=>whnf))
 refine Both.yes b60 ?_
 conv=>whnf
 cases h
 exact Join.mk (eA [])
 replace b59:=beq_ft b59
 obtain ⟨h,b59d⟩:=ctd b59 h
 conv=>whnf
 iterate 5 (refine Both.no (tf_beq b59) ?_;(conv=>whnf))
 refine Both.yes b59 ?_
 conv=>whnf
 iterate 3 (refine Both.no rfl ?_;(conv=>whnf))
 refine Both.yes rfl ?_
 conv=>whnf
 cases h
 exact Join.mk (eA [])
 replace b58:=beq_ft b58
 obtain ⟨h,b58d⟩:=ctd b58 h
 conv=>whnf
 iterate 4 (refine Both.no (tf_beq b58) ?_;(conv=>whnf))
 refine Both.yes b58 ?_
 conv=>whnf
 iterate 6 (refine Both.no rfl ?_;(conv=>whnf))
 refine Both.yes rfl ?_
 conv=>whnf
 iterate 3 (refine Both.no rfl ?_;(conv=>whnf))
 refine Both.yes rfl ?_
 conv=>whnf
 cases h
 exact Join.mk (eA [])
 replace h:=hk52
 conv=>whnf
 cases h
 conv=>whnf
 exact ⟨rfl,rfl⟩
theorem sp_L06_Great (m_:zab) (r:Bool) (h:Ok (.agg (zad m_))→zhh m_=some r):Sp Tryz.prog 7 [.im (.agg (zad m_))] (.im (nB r)):=by
 refine sp_of rfl [700001] rfl rfl rfl (Nat.le_of_ble_eq_true rfl) rfl fun hk=>?_
 replace h:=h hk.1
 have z1:lZ m_.Next:=ok_len (Ok.agg_at hk.1 2 rfl)
 have z2:lZ m_.Out:=ok_len (Ok.agg_at hk.1 3 rfl)
 unfold zhh at h
 conv=>whnf
 obtain ⟨y55,hc,hk52⟩:=bind_some h
 clear h
 have h:=hc
 clear hc
 refine Cut.mk (mkSt [(2,.im (nB y55))] [] []) (True) (hT) ?_ (fun hp=>?_)
 conv=>whnf
 refine Nf.mk (List.length m_.Next) len_map ?_
 conv=>whnf
 refine Both.mk ?_ ?_<;>intro b56
 replace b56:=beq_ff b56
 obtain ⟨h,b56d⟩:=cfd b56 h
 conv=>whnf
 iterate 2 (refine Both.yes (ff_beq b56) ?_;(conv=>whnf))
 refine Nf.mk (List.length m_.Out) len_map ?_
 conv=>whnf
 refine Both.yes (ff_beq b56) ?_
 conv=>whnf
 refine Both.no b56 ?_
 conv=>whnf
 refine Both.mk ?_ ?_<;>intro b57
 replace b57:=beq_ff b57
 obtain ⟨h,b57d⟩:=cfd b57 h
 conv=>whnf
 iterate 2 (refine Both.yes (ff_beq b57) ?_;(conv=>whnf))
 refine Both.no b57 ?_
 conv=>whnf
 cases h
 exact Join.mk (eA [])
 replace b57:=beq_ft b57
 obtain ⟨h,b57d⟩:=ctd b57 h
 conv=>whnf
 iterate 2 (refine Both.no (tf_beq b57) ?_;(conv=>whnf))
 refine Both.yes b57 ?_
 conv=>whnf
 cases h
 exact Join.mk (eA [])
 replace b56:=beq_ft b56
 obtain ⟨h,b56d⟩:=ctd b56 h
 conv=>whnf
 iterate 3 (refine Both.no (tf_beq b56) ?_;(conv=>whnf))
 refine Both.yes b56 ?_
 conv=>whnf
 iterate 3 (refine Both.no rfl ?_;(conv=>whnf))
 refine Both.yes rfl ?_
 conv=>whnf
 cases h
 exact Join.mk (eA [])
 replace h:=hk52
 conv=>whnf
 cases h
 conv=>whnf
 exact ⟨rfl,rfl⟩
theorem sp_R06_row (m_:zab) (s_:Int) (r:Int) (h:Ok (.agg (zad m_))→Ok (nI s_)→R06_row m_ s_=some r):Sp Tryz.prog 100 [.im (.agg (zad m_)),.im (nI s_)] (.im (nI r)):=by
 refine sp_of rfl [700002] rfl rfl rfl (Nat.le_of_ble_eq_true rfl) rfl fun hk=>?_
 replace h:=h hk.1 hk.2.1
 have z1:lZ m_.Next:=ok_len (Ok.agg_at hk.1 2 rfl)
 have z2:lZ m_.Out:=ok_len (Ok.agg_at hk.1 3 rfl)
 unfold R06_row at h
 conv=>whnf
 obtain ⟨y56,hc,hk52⟩:=bind_some h
 clear h
 have h:=hc
 clear hc
 refine Cut.mk (mkSt [(1,.im (nI s_)),(2,.im (.ref (zad m_))),(25,.im (nB y56))] [] []) (True) (hT) ?_ (fun hp=>?_)
 conv=>whnf
 obtain ⟨e57,he57z,he57,h⟩:=idx_some h
 refine ⟨_,⟨he57z,map_at he57,rfl⟩,?_⟩
 conv=>whnf
 refine Nf.mk (List.length e57) len_map ?_
 conv=>whnf
 refine Both.mk ?_ ?_<;>intro b58
 replace b58:=beq_ff b58
 obtain ⟨h,b58d⟩:=cfd b58 h
 conv=>whnf
 iterate 3 (refine Both.yes (ff_beq b58) ?_;(conv=>whnf))
 obtain ⟨e59,he59z,he59,h⟩:=idx_some h
 refine ⟨_,⟨he59z,map_at he59,rfl⟩,?_⟩
 conv=>whnf
 iterate 2 (refine Both.yes (ff_beq b58) ?_;(conv=>whnf))
 refine Nf.mk (List.length e59) len_map ?_
 conv=>whnf
 iterate 3 (refine Both.yes (ff_beq b58) ?_;(conv=>whnf))
 refine Both.no b58 ?_
 conv=>whnf
 cases h
 exact Join.mk (eA [])
 replace b58:=beq_ft b58
 obtain ⟨h,b58d⟩:=ctd b58 h
 conv=>whnf
 iterate 8 (refine Both.no (tf_beq b58) ?_;(conv=>whnf))
 refine Both.yes b58 ?_
 conv=>whnf
 cases h
 exact Join.mk (eA [])
 replace h:=hk52
 conv=>whnf
 refine Both.mk ?_ ?_<;>intro b60
 replace h:=cond_t b60 h
 conv=>whnf
 cases h
 conv=>whnf
 exact ⟨rfl,rfl⟩
 replace h:=cond_f b60 h
 conv=>whnf
 obtain ⟨oc,hc,hk61⟩:=bind_some h
 clear h
 have h:=hc
 clear hc
 refine Cut.mkS oc (Y:=Unit) (fun (_:Unit)=>mkSt [] [] []) (fun (_:Unit)=>True) (by rintro ⟨⟩;exact (hT)) ?_ ?_
 conv=>whnf
 refine Loops.iter (fun (s:Nat)=>R06_row.s2 m_ s_ s) (fun a174=>mkSt [(1,.im (nI s_)),(2,.im (.ref (zad m_))),(5,.im (nI (↑a174:Int)))] [] []) (fun a174=>True) h (eA []) (by rintro a174;exact (hT)) ?_
 clear h
 rintro k a174 o hp h ho203
 replace h:R06_row.s2 m_ s_ a174=some o:=h
 unfold R06_row.s2 at h
 conv=>whnf
 refine Both.mk ?_ ?_<;>intro b204
 obtain ⟨h,b204d⟩:=ctd b204 h
 conv=>whnf
 obtain ⟨y218,hc,hk206⟩:=bind_some h
 clear h
 have h:=hc
 clear hc
 refine Cut.mk (mkSt [(1,.im (nI s_)),(2,.im (.ref (zad m_))),(5,.im (nI (↑a174:Int))),(76,.im (nB y218))] [] []) (True) (hT) ?_ (fun hp=>?_)
 conv=>whnf
 obtain ⟨e219,he219z,he219,h⟩:=idx_some h
 refine ⟨_,⟨he219z,map_at he219,rfl⟩,?_⟩
 conv=>whnf
 obtain ⟨e220,he220,h⟩:=zaj h
 refine ⟨_,⟨(by omega),map_at he220,rfl⟩,?_⟩
 conv=>whnf
 refine Both.mk ?_ ?_<;>intro b221
 replace b221:=beq_ff b221
 obtain ⟨h,b221d⟩:=cfd b221 h
 conv=>whnf
 iterate 3 (refine Both.yes (ff_beq b221) ?_;(conv=>whnf))
 obtain ⟨e222,he222z,he222,h⟩:=idx_some h
 refine ⟨_,⟨he222z,map_at he222,rfl⟩,?_⟩
 conv=>whnf
 iterate 3 (refine Both.yes (ff_beq b221) ?_;(conv=>whnf))
 obtain ⟨e223,he223,h⟩:=zaj h
 refine ⟨_,⟨(by omega),map_at he223,rfl⟩,?_⟩
 conv=>whnf
 iterate 4 (refine Both.yes (ff_beq b221) ?_;(conv=>whnf))
 refine Nf.mk (List.length m_.Next) len_map ?_
 conv=>whnf
 refine Both.yes (ff_beq b221) ?_
 conv=>whnf
 refine Both.no b221 ?_
 conv=>whnf
 refine Both.mk ?_ ?_<;>intro b224
 replace b224:=beq_ff b224
 obtain ⟨h,b224d⟩:=cfd b224 h
 conv=>whnf
 iterate 3 (refine Both.yes (ff_beq b224) ?_;(conv=>whnf))
 obtain ⟨e225,he225z,he225,h⟩:=idx_some h
 refine ⟨_,⟨he225z,map_at he225,rfl⟩,?_⟩
 conv=>whnf
 iterate 3 (refine Both.yes (ff_beq b224) ?_;(conv=>whnf))
 obtain ⟨e226,he226,h⟩:=zaj h
 refine ⟨_,⟨(by omega),map_at he226,rfl⟩,?_⟩
 conv=>whnf
 iterate 2 (refine Both.yes (ff_beq b224) ?_;(conv=>whnf))
 refine Both.no b224 ?_
 conv=>whnf
 refine Both.mk ?_ ?_<;>intro b227
 replace b227:=beq_ff b227
 obtain ⟨h,b227d⟩:=cfd b227 h
 conv=>whnf
 iterate 3 (refine Both.yes (ff_beq b227) ?_;(conv=>whnf))
 obtain ⟨e228,he228z,he228,h⟩:=idx_some h
 refine ⟨_,⟨he228z,map_at he228,rfl⟩,?_⟩
 conv=>whnf
 iterate 3 (refine Both.yes (ff_beq b227) ?_;(conv=>whnf))
 obtain ⟨e229,he229,h⟩:=zaj h
 refine ⟨_,⟨(by omega),map_at he229,rfl⟩,?_⟩
 conv=>whnf
 iterate 2 (refine Both.yes (ff_beq b227) ?_;(conv=>whnf))
 refine Both.no b227 ?_
 conv=>whnf
 cases h
 exact Join.mk (eA [])
 replace b227:=beq_ft b227
 obtain ⟨h,b227d⟩:=ctd b227 h
 conv=>whnf
 iterate 8 (refine Both.no (tf_beq b227) ?_;(conv=>whnf))
 refine Both.yes b227 ?_
 conv=>whnf
 cases h
 exact Join.mk (eA [])
 replace b224:=beq_ft b224
 obtain ⟨h,b224d⟩:=ctd b224 h
 conv=>whnf
 iterate 8 (refine Both.no (tf_beq b224) ?_;(conv=>whnf))
 refine Both.yes b224 ?_
 conv=>whnf
 iterate 9 (refine Both.no rfl ?_;(conv=>whnf))
 refine Both.yes rfl ?_
 conv=>whnf
 cases h
 exact Join.mk (eA [])
 replace b221:=beq_ft b221
 obtain ⟨h,b221d⟩:=ctd b221 h
 conv=>whnf
 iterate 11 (refine Both.no (tf_beq b221) ?_;(conv=>whnf))
 refine Both.yes b221 ?_
 conv=>whnf
 iterate 9 (refine Both.no rfl ?_;(conv=>whnf))
 refine Both.yes rfl ?_
 conv=>whnf
 iterate 9 (refine Both.no rfl ?_;(conv=>whnf))
 refine Both.yes rfl ?_
 conv=>whnf
 cases h
 exact Join.mk (eA [])
 replace h:=hk206
 conv=>whnf
 refine Both.mk ?_ ?_<;>intro b230
 replace h:=cond_t b230 h
 conv=>whnf
 cases h
 have ho203:_=_:=ho203
 cases ho203
 replace h:some _=some _:=hk61
 cases h
 conv=>whnf
 exact ⟨rfl,rfl⟩
 replace h:=cond_f b230 h
 conv=>whnf
 obtain ⟨c231,h⟩:=chk_some h
 refine Arith.mk c231 ?_
 conv=>whnf
 cases h
 exact Nxt.mk _ ho203 (eA [])
 obtain ⟨h,b204d⟩:=cfd b204 h
 conv=>whnf
 cases h
 have ho203:_=_:=ho203
 cases ho203
 exact JoinS.mk' _ rfl (eA [])
 rintro ⟨⟩ rfl hp
 replace h:=sum_inl hk61
 conv=>whnf
 cases h
 conv=>whnf
 exact ⟨rfl,rfl⟩
theorem zju (m_:zab) (r:Int) (h:Ok (.agg (zad m_))→zb8 m_=some r):Sp Tryz.prog 56 [.im (.agg (zad m_))] (.im (nI r)):=by
 refine sp_of rfl [700001] rfl rfl rfl (Nat.le_of_ble_eq_true rfl) rfl fun hk=>?_
 replace h:=h hk.1
 have z1:lZ m_.Next:=ok_len (Ok.agg_at hk.1 2 rfl)
 have z2:lZ m_.Out:=ok_len (Ok.agg_at hk.1 3 rfl)
 unfold zb8 at h
 conv=>whnf
 obtain ⟨y54,hc,hk52⟩:=bind_some h
 clear h
 have h:=hc
 clear hc
 refine Cut.mk (mkSt [(1,.im (.ref (zad m_))),(12,.im (nB y54))] [] []) (True) (hT) ?_ (fun hp=>?_)
 conv=>whnf
 refine Both.mk ?_ ?_<;>intro b55
 replace b55:=beq_ff b55
 obtain ⟨h,b55d⟩:=cfd b55 h
 conv=>whnf
 iterate 2 (refine Both.yes (ff_beq b55) ?_;(conv=>whnf))
 refine Both.no b55 ?_
 conv=>whnf
 cases h
 exact Join.mk (eA [])
 replace b55:=beq_ft b55
 obtain ⟨h,b55d⟩:=ctd b55 h
 conv=>whnf
 iterate 2 (refine Both.no (tf_beq b55) ?_;(conv=>whnf))
 refine Both.yes b55 ?_
 conv=>whnf
 cases h
 exact Join.mk (eA [])
 replace h:=hk52
 conv=>whnf
 refine Both.mk ?_ ?_<;>intro b56
 replace h:=cond_t b56 h
 conv=>whnf
 cases h
 conv=>whnf
 exact ⟨rfl,rfl⟩
 replace h:=cond_f b56 h
 conv=>whnf
 refine Nf.mk (List.length m_.Next) len_map ?_
 conv=>whnf
 refine Both.mk ?_ ?_<;>intro b57
 obtain ⟨h,b57d⟩:=ctd b57 h
 conv=>whnf
 cases h
 conv=>whnf
 exact ⟨rfl,rfl⟩
 obtain ⟨h,b57d⟩:=cfd b57 h
 conv=>whnf
 refine Nf.mk (List.length m_.Next) len_map ?_
 conv=>whnf
 refine Both.mk ?_ ?_<;>intro b58
 obtain ⟨h,b58d⟩:=ctd b58 h
 conv=>whnf
 cases h
 conv=>whnf
 exact ⟨rfl,rfl⟩
 obtain ⟨h,b58d⟩:=cfd b58 h
 conv=>whnf
 obtain ⟨y62,hc,hk60⟩:=bind_some h
 clear h
 have h:=hc
 clear hc
 refine Cut.mk (mkSt [(1,.im (.ref (zad m_))),(31,.im (nB y62))] [] []) (True) (hT) ?_ (fun hp=>?_)
 conv=>whnf
 refine Both.mk ?_ ?_<;>intro b63
 replace b63:=beq_ff b63
 obtain ⟨h,b63d⟩:=cfd b63 h
 conv=>whnf
 iterate 4 (refine Both.yes (ff_beq b63) ?_;(conv=>whnf))
 refine Nf.mk (List.length m_.Next) len_map ?_
 conv=>whnf
 refine Both.yes (ff_beq b63) ?_
 conv=>whnf
 refine Both.no b63 ?_
 conv=>whnf
 cases h
 exact Join.mk (eA [])
 replace b63:=beq_ft b63
 obtain ⟨h,b63d⟩:=ctd b63 h
 conv=>whnf
 iterate 5 (refine Both.no (tf_beq b63) ?_;(conv=>whnf))
 refine Both.yes b63 ?_
 conv=>whnf
 cases h
 exact Join.mk (eA [])
 replace h:=hk60
 conv=>whnf
 refine Both.mk ?_ ?_<;>intro b64
 replace h:=cond_t b64 h
 conv=>whnf
 cases h
 conv=>whnf
 exact ⟨rfl,rfl⟩
 replace h:=cond_f b64 h
 conv=>whnf
 refine Nf.mk (List.length m_.Out) len_map ?_
 conv=>whnf
 refine Nf.mk (List.length m_.Next) len_map ?_
 conv=>whnf
 refine Both.mk ?_ ?_<;>intro b65
 obtain ⟨h,b65d⟩:=ctd b65 h
 conv=>whnf
 cases h
 conv=>whnf
 exact ⟨rfl,rfl⟩
 obtain ⟨h,b65d⟩:=cfd b65 h
 conv=>whnf
 obtain ⟨oc,hc,hk66⟩:=bind_some h
 clear h
 have h:=hc
 clear hc
 refine Cut.mkS oc (Y:=Unit) (fun (_:Unit)=>mkSt [] [] []) (fun (_:Unit)=>True) (by rintro ⟨⟩;exact (hT)) ?_ ?_
 conv=>whnf
 refine Loops.iter (fun (s:Nat)=>zb8.s2 m_ s) (fun s81=>mkSt [(1,.im (.ref (zad m_))),(3,.im (nI (↑s81:Int)))] [] []) (fun s81=>True) h (eA []) (by rintro s81;exact (hT)) ?_
 clear h
 rintro k s81 o hp h ho85
 replace h:zb8.s2 m_ s81=some o:=h
 unfold zb8.s2 at h
 conv=>whnf
 refine Nf.mk (List.length m_.Next) len_map ?_
 conv=>whnf
 refine Both.mk ?_ ?_<;>intro b86
 obtain ⟨h,b86d⟩:=ctd b86 h
 conv=>whnf
 obtain ⟨c87,hc87,h⟩:=bind_some h
 refine ⟨_,(sp_R06_row m_ (↑s81:Int) c87 (fun _ _=>hc87)),?_⟩
 conv=>whnf
 refine Both.mk ?_ ?_<;>intro b88
 obtain ⟨h,b88d⟩:=ctd b88 h
 conv=>whnf
 cases h
 have ho85:_=_:=ho85
 cases ho85
 replace h:some _=some _:=hk66
 cases h
 conv=>whnf
 exact ⟨rfl,rfl⟩
 obtain ⟨h,b88d⟩:=cfd b88 h
 conv=>whnf
 refine Arith.mk (by show inR _;unfold inR;omega) ?_
 conv=>whnf
 cases h
 exact Nxt.mk _ ho85 (eA [])
 obtain ⟨h,b86d⟩:=cfd b86 h
 conv=>whnf
 cases h
 have ho85:_=_:=ho85
 cases ho85
 exact JoinS.mk' _ rfl (eA [])
 rintro ⟨⟩ rfl hp
 replace h:=sum_inl hk66
 conv=>whnf
 cases h
 conv=>whnf
 exact ⟨rfl,rfl⟩
theorem sp_R19_costs (l_:zav) (r:Bool) (h:Ok (.agg (zcg l_))→zc0 l_=some r):Sp Tryz.prog 101 [.im (.agg (zcg l_))] (.im (nB r)):=by
 refine sp_of rfl [700001] rfl rfl rfl (Nat.le_of_ble_eq_true rfl) rfl fun hk=>?_
 replace h:=h hk.1
 have z1:lZ l_.Step:=ok_len (Ok.agg_at hk.1 0 rfl)
 unfold zc0 at h
 conv=>whnf
 obtain ⟨oc,hc,hk51⟩:=bind_some h
 clear h
 have h:=hc
 clear hc
 refine Cut.mkS oc (Y:=Unit) (fun (_:Unit)=>mkSt [(1,.im (.ref (zcg l_)))] [] []) (fun (_:Unit)=>True) (by rintro ⟨⟩;exact (hT)) ?_ ?_
 conv=>whnf
 refine Loops.iter (fun (s:Nat)=>zc0.s2 l_ s) (fun i98=>mkSt [(1,.im (.ref (zcg l_))),(3,.im (nI (↑i98:Int)))] [] []) (fun i98=>True) h (eA []) (by rintro i98;exact (hT)) ?_
 clear h
 rintro k i98 o hp h ho110
 replace h:zc0.s2 l_ i98=some o:=h
 unfold zc0.s2 at h
 conv=>whnf
 refine Nf.mk (List.length l_.Step) len_map ?_
 conv=>whnf
 refine Both.mk ?_ ?_<;>intro b111
 obtain ⟨h,b111d⟩:=ctd b111 h
 conv=>whnf
 obtain ⟨y117,hc,hk113⟩:=bind_some h
 clear h
 have h:=hc
 clear hc
 refine Cut.mk (mkSt [(1,.im (.ref (zcg l_))),(3,.im (nI (↑i98:Int))),(24,.im (nB y117))] [] []) (True) (hT) ?_ (fun hp=>?_)
 conv=>whnf
 obtain ⟨e118,he118,h⟩:=zaj h
 refine ⟨_,⟨(by omega),map_at he118,rfl⟩,?_⟩
 conv=>whnf
 refine Both.mk ?_ ?_<;>intro b119
 replace b119:=beq_ff b119
 obtain ⟨h,b119d⟩:=cfd b119 h
 conv=>whnf
 iterate 3 (refine Both.yes (ff_beq b119) ?_;(conv=>whnf))
 obtain ⟨e120,he120,h⟩:=zaj h
 refine ⟨_,⟨(by omega),map_at he120,rfl⟩,?_⟩
 conv=>whnf
 iterate 2 (refine Both.yes (ff_beq b119) ?_;(conv=>whnf))
 refine Both.no b119 ?_
 conv=>whnf
 cases h
 exact Join.mk (eA [])
 replace b119:=beq_ft b119
 obtain ⟨h,b119d⟩:=ctd b119 h
 conv=>whnf
 iterate 5 (refine Both.no (tf_beq b119) ?_;(conv=>whnf))
 refine Both.yes b119 ?_
 conv=>whnf
 cases h
 exact Join.mk (eA [])
 replace h:=hk113
 conv=>whnf
 refine Both.mk ?_ ?_<;>intro b121
 replace h:=cond_t b121 h
 conv=>whnf
 cases h
 have ho110:_=_:=ho110
 cases ho110
 replace h:some _=some _:=hk51
 cases h
 conv=>whnf
 exact ⟨rfl,rfl⟩
 replace h:=cond_f b121 h
 conv=>whnf
 refine Arith.mk (by show inR _;unfold inR;omega) ?_
 conv=>whnf
 cases h
 exact Nxt.mk _ ho110 (eA [])
 obtain ⟨h,b111d⟩:=cfd b111 h
 conv=>whnf
 cases h
 have ho110:_=_:=ho110
 cases ho110
 exact JoinS.mk' _ rfl (eA [])
 rintro ⟨⟩ rfl hp
 replace h:=sum_inl hk51
 conv=>whnf
 obtain ⟨y125,hc,hk123⟩:=bind_some h
 clear h
 have h:=hc
 clear hc
 refine Cut.mk (mkSt [(2,.im (nB y125))] [] []) (True) (hT) ?_ (fun hp=>?_)
 conv=>whnf
 refine Both.mk ?_ ?_<;>intro b126
 replace b126:=beq_tt b126
 obtain ⟨h,b126d⟩:=ctd b126 h
 conv=>whnf
 iterate 2 (refine Both.yes (tt_beq b126) ?_;(conv=>whnf))
 refine Both.yes b126 ?_
 conv=>whnf
 cases h
 exact Join.mk (eA [])
 replace b126:=beq_tf b126
 obtain ⟨h,b126d⟩:=cfd b126 h
 conv=>whnf
 iterate 2 (refine Both.no (ft_beq b126) ?_;(conv=>whnf))
 refine Both.no b126 ?_
 conv=>whnf
 cases h
 exact Join.mk (eA [])
 replace h:=hk123
 conv=>whnf
 cases h
 conv=>whnf
 exact ⟨rfl,rfl⟩
theorem zli (l_:zav) (inputs_:Int) (r:Int) (h:Ok (.agg (zcg l_))→Ok (nI inputs_)→R19_Fits l_ inputs_=some r):Sp Tryz.prog 57 [.im (.agg (zcg l_)),.im (nI inputs_)] (.im (nI r)):=by
 refine sp_of rfl [700002] rfl rfl rfl (Nat.le_of_ble_eq_true rfl) rfl fun hk=>?_
 replace h:=h hk.1 hk.2.1
 have z1:lZ l_.Step:=ok_len (Ok.agg_at hk.1 0 rfl)
 unfold R19_Fits at h
 conv=>whnf
 refine Nf.mk (List.length l_.Step) len_map ?_
 conv=>whnf
 refine Both.mk ?_ ?_<;>intro b51
 obtain ⟨h,b51d⟩:=ctd b51 h
 conv=>whnf
 cases h
 conv=>whnf
 exact ⟨rfl,rfl⟩
 obtain ⟨h,b51d⟩:=cfd b51 h
 conv=>whnf
 obtain ⟨c52,hc52,h⟩:=bind_some h
 refine ⟨_,(sp_R19_costs l_ c52 (fun _=>hc52)),?_⟩
 conv=>whnf
 refine Both.mk ?_ ?_<;>intro b53
 replace h:=cond_t b53 h
 conv=>whnf
 cases h
 conv=>whnf
 exact ⟨rfl,rfl⟩
 replace h:=cond_f b53 h
 conv=>whnf
 cases h
 conv=>whnf
 exact ⟨rfl,rfl⟩
theorem zid (n_:Int) (r:Bool) (h:Ok (nI n_)→R19_rate n_=some r):Sp Tryz.prog 58 [.im (nI n_)] (.im (nB r)):=by
 refine sp_of rfl [] rfl rfl rfl (Nat.le_of_ble_eq_true rfl) rfl fun hk=>?_
 replace h:=h hk.1
 unfold R19_rate at h
 conv=>whnf
 obtain ⟨y54,hc,hk52⟩:=bind_some h
 clear h
 have h:=hc
 clear hc
 refine Cut.mk (mkSt [(2,.im (nB y54))] [] []) (True) (hT) ?_ (fun hp=>?_)
 conv=>whnf
 refine Both.mk ?_ ?_<;>intro b55
 replace b55:=beq_tt b55
 obtain ⟨h,b55d⟩:=ctd b55 h
 conv=>whnf
 refine Both.yes (tt_beq b55) ?_
 conv=>whnf
 refine Both.yes b55 ?_
 conv=>whnf
 cases h
 exact Join.mk (eA [])
 replace b55:=beq_tf b55
 obtain ⟨h,b55d⟩:=cfd b55 h
 conv=>whnf
 refine Both.no (ft_beq b55) ?_
 conv=>whnf
 refine Both.no b55 ?_
 conv=>whnf
 cases h
 exact Join.mk (eA [])
 replace h:=hk52
 conv=>whnf
 cases h
 conv=>whnf
 exact ⟨rfl,rfl⟩
theorem zfx (n_:Int) (r:Bool) (h:Ok (nI n_)→zdx n_=some r):Sp Tryz.prog 59 [.im (nI n_)] (.im (nB r)):=by
 refine sp_of rfl [] rfl rfl rfl (Nat.le_of_ble_eq_true rfl) rfl fun hk=>?_
 replace h:=h hk.1
 unfold zdx at h
 conv=>whnf
 obtain ⟨y54,hc,hk52⟩:=bind_some h
 clear h
 have h:=hc
 clear hc
 refine Cut.mk (mkSt [(2,.im (nB y54))] [] []) (True) (hT) ?_ (fun hp=>?_)
 conv=>whnf
 refine Both.mk ?_ ?_<;>intro b55
 replace b55:=beq_tt b55
 obtain ⟨h,b55d⟩:=ctd b55 h
 conv=>whnf
 refine Both.yes (tt_beq b55) ?_
 conv=>whnf
 refine Both.yes b55 ?_
 conv=>whnf
 cases h
 exact Join.mk (eA [])
 replace b55:=beq_tf b55
 obtain ⟨h,b55d⟩:=cfd b55 h
 conv=>whnf
 refine Both.no (ft_beq b55) ?_
 conv=>whnf
 refine Both.no b55 ?_
 conv=>whnf
 cases h
 exact Join.mk (eA [])
 replace h:=hk52
 conv=>whnf
 cases h
 conv=>whnf
 exact ⟨rfl,rfl⟩
theorem sp_R19_Valid (d_:zaf) (r:Int) (h:Ok (.agg (zb2 d_))→zhg d_=some r):Sp Tryz.prog 27 [.im (.agg (zb2 d_))] (.im (nI r)):=by
 refine sp_of rfl [700001] rfl rfl rfl (Nat.le_of_ble_eq_true rfl) rfl fun hk=>?_
 replace h:=h hk.1
 have z1:lZ d_.M.Next:=ok_len (Ok.agg_at hk.1 2 rfl)
 have z2:lZ d_.M.Out:=ok_len (Ok.agg_at hk.1 3 rfl)
 have z3:lZ d_.Latency.Step:=ok_len (Ok.agg_at hk.1 6 rfl)
 unfold zhg at h
 conv=>whnf
 refine Side.mk rfl ?_
 conv=>whnf
 obtain ⟨c51,hc51,h⟩:=bind_some h
 refine ⟨_,(zju d_.M c51 (fun _=>hc51)),?_⟩
 conv=>whnf
 refine Both.mk ?_ ?_<;>intro b52
 obtain ⟨h,b52d⟩:=ctd b52 h
 conv=>whnf
 obtain ⟨c53,hc53,h⟩:=bind_some h
 refine ⟨_,(zju d_.M c53 (fun _=>hc53)),?_⟩
 conv=>whnf
 cases h
 conv=>whnf
 exact ⟨rfl,rfl⟩
 obtain ⟨h,b52d⟩:=cfd b52 h
 conv=>whnf
 obtain ⟨y57,hc,hk55⟩:=bind_some h
 clear h
 have h:=hc
 clear hc
 refine Cut.mk (mkSt [(1,.im (.ref (zb2 d_))),(3,.own 86 1 0),(14,.im (nB y57))] [(86,.box 29 3)] [(86,0,.im (nI d_.Faults.Lost)),(86,1,.im (nI d_.Faults.Wrong)),(86,2,.im (nI d_.Faults.Crash))]) (True) (hT) ?_ (fun hp=>?_)
 conv=>whnf
 refine Both.mk ?_ ?_<;>intro b58
 replace b58:=beq_ff b58
 obtain ⟨h,b58d⟩:=cfd b58 h
 conv=>whnf
 iterate 5 (refine Both.yes (ff_beq b58) ?_;(conv=>whnf))
 refine Nf.mk (List.length d_.M.Next) len_map ?_
 conv=>whnf
 refine Both.yes (ff_beq b58) ?_
 conv=>whnf
 refine Both.no b58 ?_
 conv=>whnf
 cases h
 exact Join.mk (eA [(86,some 3)])
 replace b58:=beq_ft b58
 obtain ⟨h,b58d⟩:=ctd b58 h
 conv=>whnf
 iterate 6 (refine Both.no (tf_beq b58) ?_;(conv=>whnf))
 refine Both.yes b58 ?_
 conv=>whnf
 cases h
 exact Join.mk (eA [(86,some 3)])
 replace h:=hk55
 conv=>whnf
 refine Both.mk ?_ ?_<;>intro b59
 replace h:=cond_t b59 h
 conv=>whnf
 cases h
 conv=>whnf
 exact ⟨rfl,rfl⟩
 replace h:=cond_f b59 h
 conv=>whnf
 obtain ⟨c60,hc60,h⟩:=bind_some h
 refine ⟨_,(zli d_.Latency d_.M.Inputs c60 (fun _ _=>hc60)),?_⟩
 conv=>whnf
 refine Both.mk ?_ ?_<;>intro b61
 obtain ⟨h,b61d⟩:=ctd b61 h
 conv=>whnf
 obtain ⟨c62,hc62,h⟩:=bind_some h
 refine ⟨_,(zli d_.Latency d_.M.Inputs c62 (fun _ _=>hc62)),?_⟩
 conv=>whnf
 cases h
 conv=>whnf
 exact ⟨rfl,rfl⟩
 obtain ⟨h,b61d⟩:=cfd b61 h
 conv=>whnf
 obtain ⟨y73,hc,hk64⟩:=bind_some h
 clear h
 have h:=hc
 clear hc
 refine Cut.mk (mkSt [(1,.im (.ref (zb2 d_))),(41,.im (nB y73))] [] []) (True) (hT) ?_ (fun hp=>?_)
 conv=>whnf
 refine Side.mk rfl ?_
 conv=>whnf
 refine Side.mk rfl ?_
 conv=>whnf
 obtain ⟨c74,hc74,h⟩:=bind_some h
 refine ⟨_,(zid d_.Faults.Lost c74 (fun _=>hc74)),?_⟩
 conv=>whnf
 refine Both.mk ?_ ?_<;>intro b75
 replace b75:=beq_ff b75
 replace h:=cond_f b75 h
 conv=>whnf
 refine Side.mk rfl ?_
 conv=>whnf
 refine Both.yes (ff_beq b75) ?_
 conv=>whnf
 refine Side.mk rfl ?_
 conv=>whnf
 refine Both.yes (ff_beq b75) ?_
 conv=>whnf
 obtain ⟨c76,hc76,h⟩:=bind_some h
 refine ⟨_,(zid d_.Faults.Wrong c76 (fun _=>hc76)),?_⟩
 conv=>whnf
 refine Both.yes (ff_beq b75) ?_
 conv=>whnf
 refine Both.no b75 ?_
 conv=>whnf
 refine Both.mk ?_ ?_<;>intro b77
 replace b77:=beq_ff b77
 replace h:=cond_f b77 h
 conv=>whnf
 refine Side.mk rfl ?_
 conv=>whnf
 refine Both.yes (ff_beq b77) ?_
 conv=>whnf
 refine Side.mk rfl ?_
 conv=>whnf
 refine Both.yes (ff_beq b77) ?_
 conv=>whnf
 obtain ⟨c78,hc78,h⟩:=bind_some h
 refine ⟨_,(zid d_.Faults.Crash c78 (fun _=>hc78)),?_⟩
 conv=>whnf
 refine Both.yes (ff_beq b77) ?_
 conv=>whnf
 refine Both.no b77 ?_
 conv=>whnf
 refine Both.mk ?_ ?_<;>intro b79
 replace b79:=beq_ff b79
 replace h:=cond_f b79 h
 conv=>whnf
 refine Side.mk rfl ?_
 conv=>whnf
 refine Both.yes (ff_beq b79) ?_
 conv=>whnf
 refine Side.mk rfl ?_
 conv=>whnf
 refine Both.yes (ff_beq b79) ?_
 conv=>whnf
 refine Side.mk rfl ?_
 conv=>whnf
 refine Both.yes (ff_beq b79) ?_
 conv=>whnf
 refine Side.mk rfl ?_
 conv=>whnf
 refine Both.yes (ff_beq b79) ?_
 conv=>whnf
 obtain ⟨c80,h⟩:=chk_some h
 refine Arith.mk c80 ?_
 conv=>whnf
 refine Both.yes (ff_beq b79) ?_
 conv=>whnf
 refine Side.mk rfl ?_
 conv=>whnf
 refine Both.yes (ff_beq b79) ?_
 conv=>whnf
 refine Side.mk rfl ?_
 conv=>whnf
 refine Both.yes (ff_beq b79) ?_
 conv=>whnf
 obtain ⟨c81,h⟩:=chk_some h
 refine Arith.mk c81 ?_
 conv=>whnf
 refine Both.yes (ff_beq b79) ?_
 conv=>whnf
 refine Both.no b79 ?_
 conv=>whnf
 cases h
 exact Join.mk (eA [])
 replace b79:=beq_ft b79
 replace h:=cond_t b79 h
 conv=>whnf
 iterate 8 (refine Both.no (tf_beq b79) ?_;(conv=>whnf))
 refine Both.yes b79 ?_
 conv=>whnf
 cases h
 exact Join.mk (eA [])
 replace b77:=beq_ft b77
 replace h:=cond_t b77 h
 conv=>whnf
 iterate 3 (refine Both.no (tf_beq b77) ?_;(conv=>whnf))
 refine Both.yes b77 ?_
 conv=>whnf
 iterate 9 (refine Both.no rfl ?_;(conv=>whnf))
 refine Both.yes rfl ?_
 conv=>whnf
 cases h
 exact Join.mk (eA [])
 replace b75:=beq_ft b75
 replace h:=cond_t b75 h
 conv=>whnf
 iterate 3 (refine Both.no (tf_beq b75) ?_;(conv=>whnf))
 refine Both.yes b75 ?_
 conv=>whnf
 iterate 4 (refine Both.no rfl ?_;(conv=>whnf))
 refine Both.yes rfl ?_
 conv=>whnf
 iterate 9 (refine Both.no rfl ?_;(conv=>whnf))
 refine Both.yes rfl ?_
 conv=>whnf
 cases h
 exact Join.mk (eA [])
 replace h:=hk64
 conv=>whnf
 refine Both.mk ?_ ?_<;>intro b82
 replace h:=cond_t b82 h
 conv=>whnf
 cases h
 conv=>whnf
 exact ⟨rfl,rfl⟩
 replace h:=cond_f b82 h
 conv=>whnf
 obtain ⟨y90,hc,hk84⟩:=bind_some h
 clear h
 have h:=hc
 clear hc
 refine Cut.mk (mkSt [(69,.im (nB y90))] [] []) (True) (hT) ?_ (fun hp=>?_)
 conv=>whnf
 obtain ⟨c91,hc91,h⟩:=bind_some h
 refine ⟨_,(zfx d_.Steps c91 (fun _=>hc91)),?_⟩
 conv=>whnf
 refine Both.mk ?_ ?_<;>intro b92
 replace b92:=beq_ff b92
 replace h:=cond_f b92 h
 conv=>whnf
 iterate 2 (refine Both.yes (ff_beq b92) ?_;(conv=>whnf))
 obtain ⟨c93,hc93,h⟩:=bind_some h
 refine ⟨_,(zfx d_.Resets c93 (fun _=>hc93)),?_⟩
 conv=>whnf
 refine Both.yes (ff_beq b92) ?_
 conv=>whnf
 refine Both.no b92 ?_
 conv=>whnf
 refine Both.mk ?_ ?_<;>intro b94
 replace b94:=beq_ff b94
 replace h:=cond_f b94 h
 conv=>whnf
 iterate 2 (refine Both.yes (ff_beq b94) ?_;(conv=>whnf))
 obtain ⟨c95,hc95,h⟩:=bind_some h
 refine ⟨_,(zfx d_.Time c95 (fun _=>hc95)),?_⟩
 conv=>whnf
 refine Both.yes (ff_beq b94) ?_
 conv=>whnf
 refine Both.no b94 ?_
 conv=>whnf
 cases h
 exact Join.mk (eA [])
 replace b94:=beq_ft b94
 replace h:=cond_t b94 h
 conv=>whnf
 iterate 3 (refine Both.no (tf_beq b94) ?_;(conv=>whnf))
 refine Both.yes b94 ?_
 conv=>whnf
 cases h
 exact Join.mk (eA [])
 replace b92:=beq_ft b92
 replace h:=cond_t b92 h
 conv=>whnf
 iterate 3 (refine Both.no (tf_beq b92) ?_;(conv=>whnf))
 refine Both.yes b92 ?_
 conv=>whnf
 iterate 4 (refine Both.no rfl ?_;(conv=>whnf))
 refine Both.yes rfl ?_
 conv=>whnf
 cases h
 exact Join.mk (eA [])
 replace h:=hk84
 conv=>whnf
 refine Both.mk ?_ ?_<;>intro b96
 replace h:=cond_t b96 h
 conv=>whnf
 cases h
 conv=>whnf
 exact ⟨rfl,rfl⟩
 replace h:=cond_f b96 h
 conv=>whnf
 cases h
 conv=>whnf
 exact ⟨rfl,rfl⟩
theorem sp_R01_Size (inputs_:Int) (r:Bool) (h:Ok (nI inputs_)→R01_Size inputs_=some r):Sp Tryz.prog 102 [.im (nI inputs_)] (.im (nB r)):=by
 refine sp_of rfl [] rfl rfl rfl (Nat.le_of_ble_eq_true rfl) rfl fun hk=>?_
 replace h:=h hk.1
 unfold R01_Size at h
 conv=>whnf
 obtain ⟨y54,hc,hk52⟩:=bind_some h
 clear h
 have h:=hc
 clear hc
 refine Cut.mk (mkSt [(2,.im (nB y54))] [] []) (True) (hT) ?_ (fun hp=>?_)
 conv=>whnf
 refine Both.mk ?_ ?_<;>intro b55
 replace b55:=beq_tt b55
 obtain ⟨h,b55d⟩:=ctd b55 h
 conv=>whnf
 refine Both.yes (tt_beq b55) ?_
 conv=>whnf
 refine Both.yes b55 ?_
 conv=>whnf
 cases h
 exact Join.mk (eA [])
 replace b55:=beq_tf b55
 obtain ⟨h,b55d⟩:=cfd b55 h
 conv=>whnf
 refine Both.no (ft_beq b55) ?_
 conv=>whnf
 refine Both.no b55 ?_
 conv=>whnf
 cases h
 exact Join.mk (eA [])
 replace h:=hk52
 conv=>whnf
 cases h
 conv=>whnf
 exact ⟨rfl,rfl⟩
theorem zj3 (w_:List Int) (inputs_:Int) (r:Int) (h:Ok (nL cI w_)→Ok (nI inputs_)→zcy w_ inputs_=some r):Sp Tryz.prog 60 [.im (nL cI w_),.im (nI inputs_)] (.im (nI r)):=by
 refine sp_of rfl [] rfl rfl rfl (Nat.le_of_ble_eq_true rfl) rfl fun hk=>?_
 replace h:=h hk.1 hk.2.1
 have z1:lZ w_:=ok_len hk.1
 unfold zcy at h
 conv=>whnf
 obtain ⟨c51,hc51,h⟩:=bind_some h
 refine ⟨_,(sp_R01_Size inputs_ c51 (fun _=>hc51)),?_⟩
 conv=>whnf
 refine Both.mk ?_ ?_<;>intro b52
 replace h:=cond_t b52 h
 conv=>whnf
 cases h
 conv=>whnf
 exact ⟨rfl,rfl⟩
 replace h:=cond_f b52 h
 conv=>whnf
 refine Nf.mk (List.length w_) len_map ?_
 conv=>whnf
 refine Both.mk ?_ ?_<;>intro b53
 obtain ⟨h,b53d⟩:=ctd b53 h
 conv=>whnf
 cases h
 conv=>whnf
 exact ⟨rfl,rfl⟩
 obtain ⟨h,b53d⟩:=cfd b53 h
 conv=>whnf
 obtain ⟨oc,hc,hk54⟩:=bind_some h
 clear h
 have h:=hc
 clear hc
 refine Cut.mkS oc (Y:=Unit) (fun (_:Unit)=>mkSt [] [] []) (fun (_:Unit)=>True) (by rintro ⟨⟩;exact (hT)) ?_ ?_
 conv=>whnf
 refine Loops.iter (fun (s:Nat)=>zcy.s2 w_ inputs_ s) (fun i106=>mkSt [(0,.im (nL cI w_)),(1,.im (nI inputs_)),(5,.im (nI (↑i106:Int)))] [] []) (fun i106=>lZ w_∧True) h (eA []) (by rintro i106;exact ((Holds.avl 0 rfl).and (hT))) ?_
 clear h
 rintro k i106 o hp h ho119
 replace h:zcy.s2 w_ inputs_ i106=some o:=h
 unfold zcy.s2 at h
 obtain ⟨z132,_⟩:=hp
 conv=>whnf
 refine Nf.mk (List.length w_) len_map ?_
 conv=>whnf
 refine Both.mk ?_ ?_<;>intro b120
 obtain ⟨h,b120d⟩:=ctd b120 h
 conv=>whnf
 obtain ⟨y126,hc,hk122⟩:=bind_some h
 clear h
 have h:=hc
 clear hc
 refine Cut.mk (mkSt [(0,.im (nL cI w_)),(1,.im (nI inputs_)),(5,.im (nI (↑i106:Int))),(30,.im (nB y126))] [] []) (lZ w_∧True) ((Holds.avl 0 rfl).and (hT)) ?_ (fun hp=>?_)
 conv=>whnf
 obtain ⟨e127,he127,h⟩:=zaj h
 refine ⟨_,⟨(by omega),map_at he127,rfl⟩,?_⟩
 conv=>whnf
 refine Both.mk ?_ ?_<;>intro b128
 replace b128:=beq_ff b128
 obtain ⟨h,b128d⟩:=cfd b128 h
 conv=>whnf
 iterate 2 (refine Both.yes (ff_beq b128) ?_;(conv=>whnf))
 obtain ⟨e129,he129,h⟩:=zaj h
 refine ⟨_,⟨(by omega),map_at he129,rfl⟩,?_⟩
 conv=>whnf
 iterate 3 (refine Both.yes (ff_beq b128) ?_;(conv=>whnf))
 refine Both.no b128 ?_
 conv=>whnf
 cases h
 exact Join.mk (eA [])
 replace b128:=beq_ft b128
 obtain ⟨h,b128d⟩:=ctd b128 h
 conv=>whnf
 iterate 5 (refine Both.no (tf_beq b128) ?_;(conv=>whnf))
 refine Both.yes b128 ?_
 conv=>whnf
 cases h
 exact Join.mk (eA [])
 replace h:=hk122
 obtain ⟨z130,_⟩:=hp
 conv=>whnf
 refine Both.mk ?_ ?_<;>intro b131
 replace h:=cond_t b131 h
 conv=>whnf
 cases h
 have ho119:_=_:=ho119
 cases ho119
 replace h:some _=some _:=hk54
 cases h
 conv=>whnf
 exact ⟨rfl,rfl⟩
 replace h:=cond_f b131 h
 conv=>whnf
 refine Arith.mk (by show inR _;unfold inR;omega) ?_
 conv=>whnf
 cases h
 exact Nxt.mk _ ho119 (eA [])
 obtain ⟨h,b120d⟩:=cfd b120 h
 conv=>whnf
 cases h
 have ho119:_=_:=ho119
 cases ho119
 exact JoinS.mk' _ rfl (eA [])
 rintro ⟨⟩ rfl hp
 replace h:=sum_inl hk54
 conv=>whnf
 cases h
 conv=>whnf
 exact ⟨rfl,rfl⟩
theorem zgj (a_:List Int) (b_:List Int) (r:Int) (h:Ok (nL cI a_)→Ok (nL cI b_)→zcu a_ b_=some r):Sp Tryz.prog 48 [.im (nL cI a_),.im (nL cI b_)] (.im (nI r)):=by
 refine sp_of rfl [] rfl rfl rfl (Nat.le_of_ble_eq_true rfl) rfl fun hk=>?_
 replace h:=h hk.1 hk.2.1
 have z1:lZ a_:=ok_len hk.1
 have z2:lZ b_:=ok_len hk.2.1
 unfold zcu at h
 conv=>whnf
 obtain ⟨i100,hc,hk51⟩:=bind_some h
 clear h
 have h:=hc
 clear hc
 refine Cut.mk (mkSt [(5,.im (nI (↑i100:Int)))] [] []) (True) (hT) ?_ (fun hp=>?_)
 conv=>whnf
 refine Loops.iter (fun (s:Nat)=>zcu.s2 a_ b_ s) (fun i115=>mkSt [(0,.im (nL cI a_)),(1,.im (nL cI b_)),(5,.im (nI (↑i115:Int)))] [] []) (fun i115=>lZ a_∧lZ b_∧True) h (eA []) (by rintro i115;exact ((Holds.avl 0 rfl).and ((Holds.avl 1 rfl).and (hT)))) ?_
 clear h
 rintro k i115 o hp h ho131
 replace h:zcu.s2 a_ b_ i115=some o:=h
 unfold zcu.s2 at h
 obtain ⟨z147,z148,_⟩:=hp
 conv=>whnf
 obtain ⟨y138,hc,hk133⟩:=bind_some h
 clear h
 have h:=hc
 clear hc
 refine Cut.mk (mkSt [(0,.im (nL cI a_)),(1,.im (nL cI b_)),(5,.im (nI (↑i115:Int))),(26,.im (nB y138))] [] []) (lZ a_∧lZ b_∧True) ((Holds.avl 0 rfl).and ((Holds.avl 1 rfl).and (hT))) ?_ (fun hp=>?_)
 conv=>whnf
 refine Nf.mk (List.length a_) len_map ?_
 conv=>whnf
 refine Both.mk ?_ ?_<;>intro b139
 replace b139:=beq_tt b139
 obtain ⟨h,b139d⟩:=ctd b139 h
 conv=>whnf
 iterate 2 (refine Both.yes (tt_beq b139) ?_;(conv=>whnf))
 refine Nf.mk (List.length b_) len_map ?_
 conv=>whnf
 refine Both.yes (tt_beq b139) ?_
 conv=>whnf
 refine Both.yes b139 ?_
 conv=>whnf
 refine Both.mk ?_ ?_<;>intro b140
 replace b140:=beq_tt b140
 obtain ⟨h,b140d⟩:=ctd b140 h
 conv=>whnf
 iterate 2 (refine Both.yes (tt_beq b140) ?_;(conv=>whnf))
 obtain ⟨e141,he141,h⟩:=zaj h
 refine ⟨_,⟨(by omega),map_at he141,rfl⟩,?_⟩
 conv=>whnf
 iterate 4 (refine Both.yes (tt_beq b140) ?_;(conv=>whnf))
 obtain ⟨e142,he142,h⟩:=zaj h
 refine ⟨_,⟨(by omega),map_at he142,rfl⟩,?_⟩
 conv=>whnf
 iterate 2 (refine Both.yes (tt_beq b140) ?_;(conv=>whnf))
 refine Both.yes b140 ?_
 conv=>whnf
 cases h
 exact Join.mk (eA [])
 replace b140:=beq_tf b140
 obtain ⟨h,b140d⟩:=cfd b140 h
 conv=>whnf
 iterate 8 (refine Both.no (ft_beq b140) ?_;(conv=>whnf))
 refine Both.no b140 ?_
 conv=>whnf
 cases h
 exact Join.mk (eA [])
 replace b139:=beq_tf b139
 obtain ⟨h,b139d⟩:=cfd b139 h
 conv=>whnf
 iterate 3 (refine Both.no (ft_beq b139) ?_;(conv=>whnf))
 refine Both.no b139 ?_
 conv=>whnf
 iterate 10 (refine Both.no rfl ?_;(conv=>whnf))
 cases h
 exact Join.mk (eA [])
 replace h:=hk133
 obtain ⟨z143,z144,_⟩:=hp
 conv=>whnf
 refine Both.mk ?_ ?_<;>intro b145
 replace h:=cond_t b145 h
 conv=>whnf
 obtain ⟨c146,h⟩:=chk_some h
 refine Arith.mk c146 ?_
 conv=>whnf
 cases h
 exact Nxt.mk _ ho131 (eA [])
 replace h:=cond_f b145 h
 conv=>whnf
 cases h
 have ho131:_=_:=ho131
 cases ho131
 exact Join.mk (eA [])
 replace h:=hk51
 conv=>whnf
 cases h
 conv=>whnf
 exact ⟨rfl,rfl⟩
theorem sp_R01_Lex (a_:List Int) (b_:List Int) (r:Int) (h:Ok (nL cI a_)→Ok (nL cI b_)→R01_Lex a_ b_=some r):Sp Tryz.prog 103 [.im (nL cI a_),.im (nL cI b_)] (.im (nI r)):=by
 refine sp_of rfl [] rfl rfl rfl (Nat.le_of_ble_eq_true rfl) rfl fun hk=>?_
 replace h:=h hk.1 hk.2.1
 have z1:lZ a_:=ok_len hk.1
 have z2:lZ b_:=ok_len hk.2.1
 unfold R01_Lex at h
 conv=>whnf
 obtain ⟨c51,hc51,h⟩:=bind_some h
 refine ⟨_,(zgj a_ b_ c51 (fun _ _=>hc51)),?_⟩
 conv=>whnf
 obtain ⟨y55,hc,hk53⟩:=bind_some h
 clear h
 have h:=hc
 clear hc
 refine Cut.mk (mkSt [(0,.im (nL cI a_)),(1,.im (nL cI b_)),(5,.im (nI c51)),(9,.im (nB y55))] [] []) (lZ a_∧lZ b_∧True) ((Holds.avl 0 rfl).and ((Holds.avl 1 rfl).and (hT))) ?_ (fun hp=>?_)
 conv=>whnf
 refine Nf.mk (List.length a_) len_map ?_
 conv=>whnf
 refine Both.mk ?_ ?_<;>intro b56
 replace b56:=beq_tt b56
 obtain ⟨h,b56d⟩:=ctd b56 h
 conv=>whnf
 iterate 2 (refine Both.yes (tt_beq b56) ?_;(conv=>whnf))
 refine Nf.mk (List.length b_) len_map ?_
 conv=>whnf
 refine Both.yes (tt_beq b56) ?_
 conv=>whnf
 refine Both.yes b56 ?_
 conv=>whnf
 cases h
 exact Join.mk (eA [])
 replace b56:=beq_tf b56
 obtain ⟨h,b56d⟩:=cfd b56 h
 conv=>whnf
 iterate 3 (refine Both.no (ft_beq b56) ?_;(conv=>whnf))
 refine Both.no b56 ?_
 conv=>whnf
 cases h
 exact Join.mk (eA [])
 replace h:=hk53
 obtain ⟨z57,z58,_⟩:=hp
 conv=>whnf
 refine Both.mk ?_ ?_<;>intro b59
 replace h:=cond_t b59 h
 conv=>whnf
 cases h
 conv=>whnf
 exact ⟨rfl,rfl⟩
 replace h:=cond_f b59 h
 conv=>whnf
 obtain ⟨y66,hc,hk61⟩:=bind_some h
 clear h
 have h:=hc
 clear hc
 refine Cut.mk (mkSt [(20,.im (nB y66))] [] []) (True) (hT) ?_ (fun hp=>?_)
 conv=>whnf
 refine Nf.mk (List.length a_) len_map ?_
 conv=>whnf
 refine Both.mk ?_ ?_<;>intro b67
 obtain ⟨h,b67d⟩:=ctd b67 h
 conv=>whnf
 cases h
 exact Join.mk (eA [])
 obtain ⟨h,b67d⟩:=cfd b67 h
 conv=>whnf
 refine Nf.mk (List.length b_) len_map ?_
 conv=>whnf
 refine Both.mk ?_ ?_<;>intro b68
 replace b68:=beq_tt b68
 obtain ⟨h,b68d⟩:=ctd b68 h
 conv=>whnf
 iterate 2 (refine Both.yes (tt_beq b68) ?_;(conv=>whnf))
 obtain ⟨e69,he69z,he69,h⟩:=idx_some h
 refine ⟨_,⟨he69z,map_at he69,rfl⟩,?_⟩
 conv=>whnf
 iterate 4 (refine Both.yes (tt_beq b68) ?_;(conv=>whnf))
 obtain ⟨e70,he70z,he70,h⟩:=idx_some h
 refine ⟨_,⟨he70z,map_at he70,rfl⟩,?_⟩
 conv=>whnf
 iterate 2 (refine Both.yes (tt_beq b68) ?_;(conv=>whnf))
 refine Both.yes b68 ?_
 conv=>whnf
 cases h
 exact Join.mk (eA [])
 replace b68:=beq_tf b68
 obtain ⟨h,b68d⟩:=cfd b68 h
 conv=>whnf
 iterate 8 (refine Both.no (ft_beq b68) ?_;(conv=>whnf))
 refine Both.no b68 ?_
 conv=>whnf
 cases h
 exact Join.mk (eA [])
 replace h:=hk61
 conv=>whnf
 refine Both.mk ?_ ?_<;>intro b71
 replace h:=cond_t b71 h
 conv=>whnf
 cases h
 conv=>whnf
 exact ⟨rfl,rfl⟩
 replace h:=cond_f b71 h
 conv=>whnf
 cases h
 conv=>whnf
 exact ⟨rfl,rfl⟩
theorem zmj (a_:List Int) (b_:List Int) (r:Int) (h:Ok (nL cI a_)→Ok (nL cI b_)→zfc a_ b_=some r):Sp Tryz.prog 62 [.im (nL cI a_),.im (nL cI b_)] (.im (nI r)):=by
 refine sp_of rfl [] rfl rfl rfl (Nat.le_of_ble_eq_true rfl) rfl fun hk=>?_
 replace h:=h hk.1 hk.2.1
 have z1:lZ a_:=ok_len hk.1
 have z2:lZ b_:=ok_len hk.2.1
 unfold zfc at h
 conv=>whnf
 refine Nf.mk (List.length a_) len_map ?_
 conv=>whnf
 refine Nf.mk (List.length b_) len_map ?_
 conv=>whnf
 refine Both.mk ?_ ?_<;>intro b51
 obtain ⟨h,b51d⟩:=ctd b51 h
 conv=>whnf
 cases h
 conv=>whnf
 exact ⟨rfl,rfl⟩
 obtain ⟨h,b51d⟩:=cfd b51 h
 conv=>whnf
 refine Nf.mk (List.length a_) len_map ?_
 conv=>whnf
 refine Nf.mk (List.length b_) len_map ?_
 conv=>whnf
 refine Both.mk ?_ ?_<;>intro b52
 obtain ⟨h,b52d⟩:=ctd b52 h
 conv=>whnf
 cases h
 conv=>whnf
 exact ⟨rfl,rfl⟩
 obtain ⟨h,b52d⟩:=cfd b52 h
 conv=>whnf
 obtain ⟨c53,hc53,h⟩:=bind_some h
 refine ⟨_,(sp_R01_Lex a_ b_ c53 (fun _ _=>hc53)),?_⟩
 conv=>whnf
 cases h
 conv=>whnf
 exact ⟨rfl,rfl⟩
theorem sp_R16_Proper (t_:zaa) (inputs_:Int) (r:Int) (h:Ok (.agg (zac t_))→Ok (nI inputs_)→zct t_ inputs_=some r):Sp Tryz.prog 61 [.im (.agg (zac t_)),.im (nI inputs_)] (.im (nI r)):=by
 refine sp_of rfl [700002] rfl rfl rfl (Nat.le_of_ble_eq_true rfl) rfl fun hk=>?_
 replace h:=h hk.1 hk.2.1
 have z1:lZ t_.In:=ok_len (Ok.agg_at hk.1 0 rfl)
 have z2:lZ t_.Out:=ok_len (Ok.agg_at hk.1 1 rfl)
 unfold zct at h
 conv=>whnf
 obtain ⟨c51,hc51,h⟩:=bind_some h
 refine ⟨_,(zj3 t_.In inputs_ c51 (fun _ _=>hc51)),?_⟩
 conv=>whnf
 refine Both.mk ?_ ?_<;>intro b52
 obtain ⟨h,b52d⟩:=ctd b52 h
 conv=>whnf
 cases h
 conv=>whnf
 exact ⟨rfl,rfl⟩
 obtain ⟨h,b52d⟩:=cfd b52 h
 conv=>whnf
 refine Nf.mk (List.length t_.Out) len_map ?_
 conv=>whnf
 refine Nf.mk (List.length t_.In) len_map ?_
 conv=>whnf
 refine Both.mk ?_ ?_<;>intro b53
 obtain ⟨h,b53d⟩:=ctd b53 h
 conv=>whnf
 cases h
 conv=>whnf
 exact ⟨rfl,rfl⟩
 obtain ⟨h,b53d⟩:=cfd b53 h
 conv=>whnf
 obtain ⟨oc,hc,hk54⟩:=bind_some h
 clear h
 have h:=hc
 clear hc
 refine Cut.mkS oc (Y:=Unit) (fun (_:Unit)=>mkSt [] [] []) (fun (_:Unit)=>True) (by rintro ⟨⟩;exact (hT)) ?_ ?_
 conv=>whnf
 refine Loops.iter (fun (s:Nat)=>zct.s2 t_ s) (fun i101=>mkSt [(2,.im (.ref (zac t_))),(6,.im (nI (↑i101:Int)))] [] []) (fun i101=>True) h (eA []) (by rintro i101;exact (hT)) ?_
 clear h
 rintro k i101 o hp h ho113
 replace h:zct.s2 t_ i101=some o:=h
 unfold zct.s2 at h
 conv=>whnf
 refine Nf.mk (List.length t_.Out) len_map ?_
 conv=>whnf
 refine Both.mk ?_ ?_<;>intro b114
 obtain ⟨h,b114d⟩:=ctd b114 h
 conv=>whnf
 obtain ⟨y120,hc,hk116⟩:=bind_some h
 clear h
 have h:=hc
 clear hc
 refine Cut.mk (mkSt [(2,.im (.ref (zac t_))),(6,.im (nI (↑i101:Int))),(41,.im (nB y120))] [] []) (True) (hT) ?_ (fun hp=>?_)
 conv=>whnf
 obtain ⟨e121,he121,h⟩:=zaj h
 refine ⟨_,⟨(by omega),map_at he121,rfl⟩,?_⟩
 conv=>whnf
 refine Both.mk ?_ ?_<;>intro b122
 replace b122:=beq_ff b122
 obtain ⟨h,b122d⟩:=cfd b122 h
 conv=>whnf
 iterate 3 (refine Both.yes (ff_beq b122) ?_;(conv=>whnf))
 obtain ⟨e123,he123,h⟩:=zaj h
 refine ⟨_,⟨(by omega),map_at he123,rfl⟩,?_⟩
 conv=>whnf
 iterate 2 (refine Both.yes (ff_beq b122) ?_;(conv=>whnf))
 refine Both.no b122 ?_
 conv=>whnf
 cases h
 exact Join.mk (eA [])
 replace b122:=beq_ft b122
 obtain ⟨h,b122d⟩:=ctd b122 h
 conv=>whnf
 iterate 5 (refine Both.no (tf_beq b122) ?_;(conv=>whnf))
 refine Both.yes b122 ?_
 conv=>whnf
 cases h
 exact Join.mk (eA [])
 replace h:=hk116
 conv=>whnf
 refine Both.mk ?_ ?_<;>intro b124
 replace h:=cond_t b124 h
 conv=>whnf
 cases h
 have ho113:_=_:=ho113
 cases ho113
 replace h:some _=some _:=hk54
 cases h
 conv=>whnf
 exact ⟨rfl,rfl⟩
 replace h:=cond_f b124 h
 conv=>whnf
 refine Arith.mk (by show inR _;unfold inR;omega) ?_
 conv=>whnf
 cases h
 exact Nxt.mk _ ho113 (eA [])
 obtain ⟨h,b114d⟩:=cfd b114 h
 conv=>whnf
 cases h
 have ho113:_=_:=ho113
 cases ho113
 exact JoinS.mk' _ rfl (eA [])
 rintro ⟨⟩ rfl hp
 replace h:=sum_inl hk54
 conv=>whnf
 cases h
 conv=>whnf
 exact ⟨rfl,rfl⟩
theorem ze0 (w_:List Int) (p_:List Int) (r:Bool) (h:Ok (nL cI w_)→Ok (nL cI p_)→zcw w_ p_=some r):Sp Tryz.prog 18 [.im (nL cI w_),.im (nL cI p_)] (.im (nB r)):=by
 refine sp_of rfl [] rfl rfl rfl (Nat.le_of_ble_eq_true rfl) rfl fun hk=>?_
 replace h:=h hk.1 hk.2.1
 have z1:lZ w_:=ok_len hk.1
 have z2:lZ p_:=ok_len hk.2.1
 unfold zcw at h
 conv=>whnf
 obtain ⟨c51,hc51,h⟩:=bind_some h
 refine ⟨_,(zgj w_ p_ c51 (fun _ _=>hc51)),?_⟩
 conv=>whnf
 refine Nf.mk (List.length p_) len_map ?_
 conv=>whnf
 cases h
 conv=>whnf
 exact ⟨rfl,rfl⟩
theorem sp_R16_Differ (a_:zaa) (b_:zaa) (r:Int) (h:Ok (.agg (zac a_))→Ok (.agg (zac b_))→zcv a_ b_=some r):Sp Tryz.prog 104 [.im (.agg (zac a_)),.im (.agg (zac b_))] (.im (nI r)):=by
 refine sp_of rfl [700002,700003] rfl rfl rfl (Nat.le_of_ble_eq_true rfl) rfl fun hk=>?_
 replace h:=h hk.1 hk.2.1
 have z1:lZ a_.In:=ok_len (Ok.agg_at hk.1 0 rfl)
 have z2:lZ a_.Out:=ok_len (Ok.agg_at hk.1 1 rfl)
 have z3:lZ b_.In:=ok_len (Ok.agg_at hk.2.1 0 rfl)
 have z4:lZ b_.Out:=ok_len (Ok.agg_at hk.2.1 1 rfl)
 unfold zcv at h
 conv=>whnf
 obtain ⟨c51,hc51,h⟩:=bind_some h
 refine ⟨_,(zgj a_.In b_.In c51 (fun _ _=>hc51)),?_⟩
 conv=>whnf
 obtain ⟨oc,hc,hk52⟩:=bind_some h
 clear h
 have h:=hc
 clear hc
 refine Cut.mkS oc (Y:=Unit) (fun (_:Unit)=>mkSt [] [] []) (fun (_:Unit)=>True) (by rintro ⟨⟩;exact (hT)) ?_ ?_
 conv=>whnf
 refine Loops.iter (fun (s:Nat)=>zcv.s2 a_ b_ c51 s) (fun i73=>mkSt [(2,.im (.ref (zac a_))),(3,.im (.ref (zac b_))),(5,.im (nI c51)),(6,.im (nI (↑i73:Int)))] [] []) (fun i73=>True) h (eA []) (by rintro i73;exact (hT)) ?_
 clear h
 rintro k i73 o hp h ho79
 replace h:zcv.s2 a_ b_ c51 i73=some o:=h
 unfold zcv.s2 at h
 conv=>whnf
 refine Both.mk ?_ ?_<;>intro b80
 obtain ⟨h,b80d⟩:=ctd b80 h
 conv=>whnf
 obtain ⟨e81,he81,h⟩:=zaj h
 refine ⟨_,⟨(by omega),map_at he81,rfl⟩,?_⟩
 conv=>whnf
 obtain ⟨e82,he82,h⟩:=zaj h
 refine ⟨_,⟨(by omega),map_at he82,rfl⟩,?_⟩
 conv=>whnf
 refine Both.mk ?_ ?_<;>intro b83
 obtain ⟨h,b83d⟩:=ctd b83 h
 conv=>whnf
 cases h
 have ho79:_=_:=ho79
 cases ho79
 replace h:some _=some _:=hk52
 cases h
 conv=>whnf
 exact ⟨rfl,rfl⟩
 obtain ⟨h,b83d⟩:=cfd b83 h
 conv=>whnf
 obtain ⟨c84,h⟩:=chk_some h
 refine Arith.mk c84 ?_
 conv=>whnf
 cases h
 exact Nxt.mk _ ho79 (eA [])
 obtain ⟨h,b80d⟩:=cfd b80 h
 conv=>whnf
 cases h
 have ho79:_=_:=ho79
 cases ho79
 exact JoinS.mk' _ rfl (eA [])
 rintro ⟨⟩ rfl hp
 replace h:=sum_inl hk52
 conv=>whnf
 cases h
 conv=>whnf
 exact ⟨rfl,rfl⟩
theorem sp_R16_apart (o_:zam) (r:Int) (h:Ok (.agg (zbh o_))→zbn o_=some r):Sp Tryz.prog 63 [.im (.agg (zbh o_))] (.im (nI r)):=by
 refine sp_of rfl [700001] rfl rfl rfl (Nat.le_of_ble_eq_true rfl) rfl fun hk=>?_
 replace h:=h hk.1
 have z1:lZ o_.Traces:=ok_len (Ok.agg_at hk.1 1 rfl)
 unfold zbn at h
 conv=>whnf
 obtain ⟨oc,hc,hk51⟩:=bind_some h
 clear h
 have h:=hc
 clear hc
 refine Cut.mkS oc (Y:=Unit) (fun (_:Unit)=>mkSt [] [] []) (fun (_:Unit)=>True) (by rintro ⟨⟩;exact (hT)) ?_ ?_
 conv=>whnf
 refine Loops.iter (fun (s:Nat)=>zbn.s32 o_ s) (fun i518=>mkSt [(1,.im (.ref (zbh o_))),(3,.im (nI (↑i518:Int)))] [] []) (fun i518=>True) h (eA []) (by rintro i518;exact (hT)) ?_
 clear h
 rintro k i518 o hp h ho635
 replace h:zbn.s32 o_ i518=some o:=h
 unfold zbn.s32 at h
 conv=>whnf
 refine Nf.mk (List.length o_.Traces) len_map ?_
 conv=>whnf
 refine Both.mk ?_ ?_<;>intro b636
 obtain ⟨h,b636d⟩:=ctd b636 h
 conv=>whnf
 refine Arith.mk (by show inR _;unfold inR;omega) ?_
 conv=>whnf
 obtain ⟨⟨prefix693,clash694⟩,hc,hk637⟩:=bind_some h
 clear h
 have h:=hc
 clear hc
 refine Cut.mk (mkSt [(1,.im (.ref (zbh o_))),(3,.im (nI (↑i518:Int))),(4,.im (nB prefix693)),(5,.im (nB clash694))] [] []) (True) (hT) ?_ (fun hp=>?_)
 conv=>whnf
 refine Loops.iter (fun (s:Bool×Bool×Nat)=>zbn.s30 o_ i518 s.1 s.2.1 s.2.2) (fun (prefix714,clash715,k716)=>mkSt [(1,.im (.ref (zbh o_))),(3,.im (nI (↑i518:Int))),(4,.im (nB prefix714)),(5,.im (nB clash715)),(6,.im (nI (↑k716:Int)))] [] []) (fun (prefix714,clash715,k716)=>True) h (eA []) (by rintro ⟨prefix714,clash715,k716⟩;exact (hT)) ?_
 clear h
 rintro k ⟨prefix714,clash715,k716⟩ o hp h ho733
 replace h:zbn.s30 o_ i518 prefix714 clash715 k716=some o:=h
 unfold zbn.s30 at h
 conv=>whnf
 refine Nf.mk (List.length o_.Traces) len_map ?_
 conv=>whnf
 refine Both.mk ?_ ?_<;>intro b734
 obtain ⟨h,b734d⟩:=ctd b734 h
 conv=>whnf
 obtain ⟨prefix741,hc,hk736⟩:=bind_some h
 clear h
 have h:=hc
 clear hc
 refine Cut.mk (mkSt [(1,.im (.ref (zbh o_))),(3,.im (nI (↑i518:Int))),(4,.im (nB prefix741)),(5,.im (nB clash715)),(6,.im (nI (↑k716:Int)))] [] []) (True) (hT) ?_ (fun hp=>?_)
 conv=>whnf
 refine Both.mk ?_ ?_<;>intro b742
 replace b742:=beq_ff b742
 replace h:=cond_f b742 h
 conv=>whnf
 iterate 3 (refine Both.yes (ff_beq b742) ?_;(conv=>whnf))
 obtain ⟨e743,he743,h⟩:=zaj h
 refine ⟨_,⟨(by omega),map_at he743,rfl⟩,?_⟩
 conv=>whnf
 iterate 6 (refine Both.yes (ff_beq b742) ?_;(conv=>whnf))
 obtain ⟨e744,he744,h⟩:=zaj h
 refine ⟨_,⟨(by omega),map_at he744,rfl⟩,?_⟩
 conv=>whnf
 iterate 3 (refine Both.yes (ff_beq b742) ?_;(conv=>whnf))
 obtain ⟨c745,hc745,h⟩:=bind_some h
 refine ⟨_,(ze0 e743.In e744.In c745 (fun _ _=>hc745)),?_⟩
 conv=>whnf
 refine Both.no b742 ?_
 conv=>whnf
 cases h
 exact Join.mk (eA [])
 replace b742:=beq_ft b742
 replace h:=cond_t b742 h
 conv=>whnf
 iterate 12 (refine Both.no (tf_beq b742) ?_;(conv=>whnf))
 refine Both.yes b742 ?_
 conv=>whnf
 cases h
 exact Join.mk (eA [])
 replace h:=hk736
 conv=>whnf
 refine Both.mk ?_ ?_<;>intro b746
 replace b746:=beq_ff b746
 replace h:=cond_f b746 h
 conv=>whnf
 iterate 3 (refine Both.yes (ff_beq b746) ?_;(conv=>whnf))
 obtain ⟨e747,he747,h⟩:=zaj h
 refine ⟨_,⟨(by omega),map_at he747,rfl⟩,?_⟩
 conv=>whnf
 iterate 5 (refine Both.yes (ff_beq b746) ?_;(conv=>whnf))
 obtain ⟨e748,he748,h⟩:=zaj h
 refine ⟨_,⟨(by omega),map_at he748,rfl⟩,?_⟩
 conv=>whnf
 iterate 2 (refine Both.yes (ff_beq b746) ?_;(conv=>whnf))
 obtain ⟨c749,hc749,h⟩:=bind_some h
 refine ⟨_,(sp_R16_Differ e747 e748 c749 (fun _ _=>hc749)),?_⟩
 conv=>whnf
 refine Both.yes (ff_beq b746) ?_
 conv=>whnf
 refine Both.no b746 ?_
 conv=>whnf
 refine Arith.mk (by show inR _;unfold inR;omega) ?_
 conv=>whnf
 cases h
 exact Nxt.mk _ ho733 (eA [])
 replace b746:=beq_ft b746
 replace h:=cond_t b746 h
 conv=>whnf
 iterate 11 (refine Both.no (tf_beq b746) ?_;(conv=>whnf))
 refine Both.yes b746 ?_
 conv=>whnf
 refine Arith.mk (by show inR _;unfold inR;omega) ?_
 conv=>whnf
 cases h
 exact Nxt.mk _ ho733 (eA [])
 obtain ⟨h,b734d⟩:=cfd b734 h
 conv=>whnf
 cases h
 have ho733:_=_:=ho733
 cases ho733
 exact Join.mk (eA [])
 replace h:zbn.k31 i518 prefix693 clash694=some _:=hk637
 unfold zbn.k31 at h
 conv=>whnf
 refine Both.mk ?_ ?_<;>intro b750
 replace h:=cond_t b750 h
 conv=>whnf
 cases h
 have ho635:_=_:=ho635
 cases ho635
 replace h:some _=some _:=hk51
 cases h
 conv=>whnf
 exact ⟨rfl,rfl⟩
 replace h:=cond_f b750 h
 conv=>whnf
 refine Both.mk ?_ ?_<;>intro b751
 replace h:=cond_t b751 h
 conv=>whnf
 cases h
 have ho635:_=_:=ho635
 cases ho635
 replace h:some _=some _:=hk51
 cases h
 conv=>whnf
 exact ⟨rfl,rfl⟩
 replace h:=cond_f b751 h
 conv=>whnf
 refine Arith.mk (by show inR _;unfold inR;omega) ?_
 conv=>whnf
 cases h
 exact Nxt.mk _ ho635 (eA [])
 obtain ⟨h,b636d⟩:=cfd b636 h
 conv=>whnf
 cases h
 have ho635:_=_:=ho635
 cases ho635
 exact JoinS.mk' _ rfl (eA [])
 rintro ⟨⟩ rfl hp
 replace h:=sum_inl hk51
 conv=>whnf
 cases h
 conv=>whnf
 exact ⟨rfl,rfl⟩
theorem sp_R16_Valid (o_:zam) (r:Int) (h:Ok (.agg (zbh o_))→zdc o_=some r):Sp Tryz.prog 28 [.im (.agg (zbh o_))] (.im (nI r)):=by
 refine sp_of rfl [700001] rfl rfl rfl (Nat.le_of_ble_eq_true rfl) rfl fun hk=>?_
 replace h:=h hk.1
 have z1:lZ o_.Traces:=ok_len (Ok.agg_at hk.1 1 rfl)
 unfold zdc at h
 conv=>whnf
 obtain ⟨y54,hc,hk52⟩:=bind_some h
 clear h
 have h:=hc
 clear hc
 refine Cut.mk (mkSt [(1,.im (.ref (zbh o_))),(14,.im (nB y54))] [] []) (True) (hT) ?_ (fun hp=>?_)
 conv=>whnf
 refine Both.mk ?_ ?_<;>intro b55
 replace b55:=beq_ff b55
 obtain ⟨h,b55d⟩:=cfd b55 h
 conv=>whnf
 iterate 2 (refine Both.yes (ff_beq b55) ?_;(conv=>whnf))
 refine Both.no b55 ?_
 conv=>whnf
 cases h
 exact Join.mk (eA [])
 replace b55:=beq_ft b55
 obtain ⟨h,b55d⟩:=ctd b55 h
 conv=>whnf
 iterate 2 (refine Both.no (tf_beq b55) ?_;(conv=>whnf))
 refine Both.yes b55 ?_
 conv=>whnf
 cases h
 exact Join.mk (eA [])
 replace h:=hk52
 conv=>whnf
 refine Both.mk ?_ ?_<;>intro b56
 replace h:=cond_t b56 h
 conv=>whnf
 cases h
 conv=>whnf
 exact ⟨rfl,rfl⟩
 replace h:=cond_f b56 h
 conv=>whnf
 refine Nf.mk (List.length o_.Traces) len_map ?_
 conv=>whnf
 refine Both.mk ?_ ?_<;>intro b57
 obtain ⟨h,b57d⟩:=ctd b57 h
 conv=>whnf
 cases h
 conv=>whnf
 exact ⟨rfl,rfl⟩
 obtain ⟨h,b57d⟩:=cfd b57 h
 conv=>whnf
 obtain ⟨oc,hc,hk58⟩:=bind_some h
 clear h
 have h:=hc
 clear hc
 refine Cut.mkS oc (Y:=Unit) (fun (_:Unit)=>mkSt [(1,.im (.ref (zbh o_)))] [] []) (fun (_:Unit)=>True) (by rintro ⟨⟩;exact (hT)) ?_ ?_
 conv=>whnf
 refine Loops.iter (fun (s:Nat)=>zdc.s2 o_ s) (fun i129=>mkSt [(1,.im (.ref (zbh o_))),(3,.im (nI (↑i129:Int)))] [] []) (fun i129=>True) h (eA []) (by rintro i129;exact (hT)) ?_
 clear h
 rintro k i129 o hp h ho147
 replace h:zdc.s2 o_ i129=some o:=h
 unfold zdc.s2 at h
 conv=>whnf
 refine Nf.mk (List.length o_.Traces) len_map ?_
 conv=>whnf
 refine Both.mk ?_ ?_<;>intro b148
 obtain ⟨h,b148d⟩:=ctd b148 h
 conv=>whnf
 obtain ⟨e149,he149,h⟩:=zaj h
 refine ⟨_,⟨(by omega),map_at he149,rfl⟩,?_⟩
 conv=>whnf
 refine Side.mk rfl ?_
 conv=>whnf
 refine Side.mk rfl ?_
 conv=>whnf
 refine Side.mk rfl ?_
 conv=>whnf
 obtain ⟨c150,hc150,h⟩:=bind_some h
 refine ⟨_,(zj3 e149.In o_.Inputs c150 (fun _ _=>hc150)),?_⟩
 conv=>whnf
 refine Both.mk ?_ ?_<;>intro b151
 obtain ⟨h,b151d⟩:=ctd b151 h
 conv=>whnf
 cases h
 have ho147:_=_:=ho147
 cases ho147
 replace h:some _=some _:=hk58
 cases h
 conv=>whnf
 exact ⟨rfl,rfl⟩
 obtain ⟨h,b151d⟩:=cfd b151 h
 conv=>whnf
 refine Side.mk rfl ?_
 conv=>whnf
 refine Side.mk rfl ?_
 conv=>whnf
 refine Nf.mk (List.length e149.In) len_map ?_
 conv=>whnf
 refine Both.mk ?_ ?_<;>intro b152
 obtain ⟨h,b152d⟩:=ctd b152 h
 conv=>whnf
 cases h
 have ho147:_=_:=ho147
 cases ho147
 replace h:some _=some _:=hk58
 cases h
 conv=>whnf
 exact ⟨rfl,rfl⟩
 obtain ⟨h,b152d⟩:=cfd b152 h
 conv=>whnf
 refine Side.mk rfl ?_
 conv=>whnf
 obtain ⟨c153,hc153,h⟩:=bind_some h
 refine ⟨_,(sp_R16_Proper e149 o_.Inputs c153 (fun _ _=>hc153)),?_⟩
 conv=>whnf
 refine Both.mk ?_ ?_<;>intro b154
 obtain ⟨h,b154d⟩:=ctd b154 h
 conv=>whnf
 cases h
 have ho147:_=_:=ho147
 cases ho147
 replace h:some _=some _:=hk58
 cases h
 conv=>whnf
 exact ⟨rfl,rfl⟩
 obtain ⟨h,b154d⟩:=cfd b154 h
 conv=>whnf
 obtain ⟨y160,hc,hk156⟩:=bind_some h
 clear h
 have h:=hc
 clear hc
 refine Cut.mk (mkSt [(1,.im (.ref (zbh o_))),(3,.im (nI (↑i129:Int))),(64,.im (nB y160))] [] []) (True) (hT) ?_ (fun hp=>?_)
 conv=>whnf
 refine Both.mk ?_ ?_<;>intro b161
 replace b161:=beq_tt b161
 obtain ⟨h,b161d⟩:=ctd b161 h
 conv=>whnf
 iterate 3 (refine Both.yes (tt_beq b161) ?_;(conv=>whnf))
 refine Arith.mk (by show inR _;unfold inR;omega) ?_
 conv=>whnf
 refine Both.yes (tt_beq b161) ?_
 conv=>whnf
 obtain ⟨e162,he162z,he162,h⟩:=idx_some h
 refine ⟨_,⟨he162z,map_at he162,rfl⟩,?_⟩
 conv=>whnf
 iterate 3 (refine Both.yes (tt_beq b161) ?_;(conv=>whnf))
 refine Side.mk rfl ?_
 conv=>whnf
 refine Both.yes (tt_beq b161) ?_
 conv=>whnf
 refine Side.mk rfl ?_
 conv=>whnf
 refine Both.yes (tt_beq b161) ?_
 conv=>whnf
 obtain ⟨c163,hc163,h⟩:=bind_some h
 refine ⟨_,(zmj e162.In e149.In c163 (fun _ _=>hc163)),?_⟩
 conv=>whnf
 refine Both.yes (tt_beq b161) ?_
 conv=>whnf
 refine Both.yes b161 ?_
 conv=>whnf
 cases h
 exact Join.mk (eA [])
 replace b161:=beq_tf b161
 obtain ⟨h,b161d⟩:=cfd b161 h
 conv=>whnf
 iterate 10 (refine Both.no (ft_beq b161) ?_;(conv=>whnf))
 refine Both.no b161 ?_
 conv=>whnf
 cases h
 exact Join.mk (eA [])
 replace h:=hk156
 conv=>whnf
 refine Both.mk ?_ ?_<;>intro b164
 replace h:=cond_t b164 h
 conv=>whnf
 cases h
 have ho147:_=_:=ho147
 cases ho147
 replace h:some _=some _:=hk58
 cases h
 conv=>whnf
 exact ⟨rfl,rfl⟩
 replace h:=cond_f b164 h
 conv=>whnf
 refine Arith.mk (by show inR _;unfold inR;omega) ?_
 conv=>whnf
 cases h
 exact Nxt.mk _ ho147 (eA [])
 obtain ⟨h,b148d⟩:=cfd b148 h
 conv=>whnf
 cases h
 have ho147:_=_:=ho147
 cases ho147
 exact JoinS.mk' _ rfl (eA [])
 rintro ⟨⟩ rfl hp
 replace h:=sum_inl hk58
 conv=>whnf
 obtain ⟨c165,hc165,h⟩:=bind_some h
 refine ⟨_,(sp_R16_apart o_ c165 (fun _=>hc165)),?_⟩
 conv=>whnf
 cases h
 conv=>whnf
 exact ⟨rfl,rfl⟩
theorem sp_R21_Valid (q_:zae) (r:Bool) (h:Ok (.agg (zbj q_))→zg7 q_=some r):Sp Tryz.prog 9 [.im (.agg (zbj q_))] (.im (nB r)):=by
 refine sp_of rfl [700001] rfl rfl rfl (Nat.le_of_ble_eq_true rfl) rfl fun hk=>?_
 replace h:=h hk.1
 have z1:lZ q_.Device.M.Next:=ok_len (Ok.agg_at hk.1 2 rfl)
 have z2:lZ q_.Device.M.Out:=ok_len (Ok.agg_at hk.1 3 rfl)
 have z3:lZ q_.Device.Latency.Step:=ok_len (Ok.agg_at hk.1 6 rfl)
 have z4:lZ q_.Obs.Traces:=ok_len (Ok.agg_at hk.1 16 rfl)
 unfold zg7 at h
 conv=>whnf
 obtain ⟨y61,hc,hk52⟩:=bind_some h
 clear h
 have h:=hc
 clear hc
 refine Cut.mk (mkSt [(2,.im (nB y61))] [] []) (True) (hT) ?_ (fun hp=>?_)
 conv=>whnf
 obtain ⟨c62,hc62,h⟩:=bind_some h
 refine ⟨_,(sp_R19_Valid q_.Device c62 (fun _=>hc62)),?_⟩
 conv=>whnf
 refine Both.mk ?_ ?_<;>intro b63
 replace b63:=beq_tt b63
 obtain ⟨h,b63d⟩:=ctd b63 h
 conv=>whnf
 iterate 2 (refine Both.yes (tt_beq b63) ?_;(conv=>whnf))
 obtain ⟨c64,hc64,h⟩:=bind_some h
 refine ⟨_,(sp_R16_Valid q_.Obs c64 (fun _=>hc64)),?_⟩
 conv=>whnf
 refine Both.yes (tt_beq b63) ?_
 conv=>whnf
 refine Both.yes b63 ?_
 conv=>whnf
 refine Both.mk ?_ ?_<;>intro b65
 replace b65:=beq_tt b65
 obtain ⟨h,b65d⟩:=ctd b65 h
 conv=>whnf
 iterate 7 (refine Both.yes (tt_beq b65) ?_;(conv=>whnf))
 refine Both.yes b65 ?_
 conv=>whnf
 refine Both.mk ?_ ?_<;>intro b66
 replace b66:=beq_tt b66
 obtain ⟨h,b66d⟩:=ctd b66 h
 conv=>whnf
 iterate 2 (refine Both.yes (tt_beq b66) ?_;(conv=>whnf))
 refine Both.yes b66 ?_
 conv=>whnf
 refine Both.mk ?_ ?_<;>intro b67
 replace b67:=beq_tt b67
 obtain ⟨h,b67d⟩:=ctd b67 h
 conv=>whnf
 iterate 2 (refine Both.yes (tt_beq b67) ?_;(conv=>whnf))
 refine Both.yes b67 ?_
 conv=>whnf
 refine Both.mk ?_ ?_<;>intro b68
 replace b68:=beq_tt b68
 obtain ⟨h,b68d⟩:=ctd b68 h
 conv=>whnf
 iterate 4 (refine Both.yes (tt_beq b68) ?_;(conv=>whnf))
 refine Both.yes b68 ?_
 conv=>whnf
 refine Both.mk ?_ ?_<;>intro b69
 replace b69:=beq_tt b69
 obtain ⟨h,b69d⟩:=ctd b69 h
 conv=>whnf
 iterate 2 (refine Both.yes (tt_beq b69) ?_;(conv=>whnf))
 refine Both.yes b69 ?_
 conv=>whnf
 cases h
 exact Join.mk (eA [])
 replace b69:=beq_tf b69
 obtain ⟨h,b69d⟩:=cfd b69 h
 conv=>whnf
 iterate 2 (refine Both.no (ft_beq b69) ?_;(conv=>whnf))
 refine Both.no b69 ?_
 conv=>whnf
 cases h
 exact Join.mk (eA [])
 replace b68:=beq_tf b68
 obtain ⟨h,b68d⟩:=cfd b68 h
 conv=>whnf
 iterate 4 (refine Both.no (ft_beq b68) ?_;(conv=>whnf))
 refine Both.no b68 ?_
 conv=>whnf
 iterate 4 (refine Both.no rfl ?_;(conv=>whnf))
 cases h
 exact Join.mk (eA [])
 replace b67:=beq_tf b67
 obtain ⟨h,b67d⟩:=cfd b67 h
 conv=>whnf
 iterate 2 (refine Both.no (ft_beq b67) ?_;(conv=>whnf))
 refine Both.no b67 ?_
 conv=>whnf
 iterate 10 (refine Both.no rfl ?_;(conv=>whnf))
 cases h
 exact Join.mk (eA [])
 replace b66:=beq_tf b66
 obtain ⟨h,b66d⟩:=cfd b66 h
 conv=>whnf
 iterate 2 (refine Both.no (ft_beq b66) ?_;(conv=>whnf))
 refine Both.no b66 ?_
 conv=>whnf
 iterate 14 (refine Both.no rfl ?_;(conv=>whnf))
 cases h
 exact Join.mk (eA [])
 replace b65:=beq_tf b65
 obtain ⟨h,b65d⟩:=cfd b65 h
 conv=>whnf
 iterate 7 (refine Both.no (ft_beq b65) ?_;(conv=>whnf))
 refine Both.no b65 ?_
 conv=>whnf
 iterate 18 (refine Both.no rfl ?_;(conv=>whnf))
 cases h
 exact Join.mk (eA [])
 replace b63:=beq_tf b63
 obtain ⟨h,b63d⟩:=cfd b63 h
 conv=>whnf
 iterate 3 (refine Both.no (ft_beq b63) ?_;(conv=>whnf))
 refine Both.no b63 ?_
 conv=>whnf
 iterate 27 (refine Both.no rfl ?_;(conv=>whnf))
 cases h
 exact Join.mk (eA [])
 replace h:=hk52
 conv=>whnf
 cases h
 conv=>whnf
 exact ⟨rfl,rfl⟩
theorem zdv (a_:List Int) (b_:List Int) (r:Bool) (h:Ok (nL cI a_)→Ok (nL cI b_)→R06_Ints a_ b_=some r):Sp Tryz.prog 17 [.im (nL cI a_),.im (nL cI b_)] (.im (nB r)):=by
 refine sp_of rfl [] rfl rfl rfl (Nat.le_of_ble_eq_true rfl) rfl fun hk=>?_
 replace h:=h hk.1 hk.2.1
 have z1:lZ a_:=ok_len hk.1
 have z2:lZ b_:=ok_len hk.2.1
 unfold R06_Ints at h
 conv=>whnf
 refine Nf.mk (List.length a_) len_map ?_
 conv=>whnf
 refine Nf.mk (List.length b_) len_map ?_
 conv=>whnf
 refine Both.mk ?_ ?_<;>intro b51
 obtain ⟨h,b51d⟩:=ctd b51 h
 conv=>whnf
 cases h
 conv=>whnf
 exact ⟨rfl,rfl⟩
 obtain ⟨h,b51d⟩:=cfd b51 h
 conv=>whnf
 obtain ⟨oc,hc,hk52⟩:=bind_some h
 clear h
 have h:=hc
 clear hc
 refine Cut.mkS oc (Y:=Unit) (fun (_:Unit)=>mkSt [] [] []) (fun (_:Unit)=>True) (by rintro ⟨⟩;exact (hT)) ?_ ?_
 conv=>whnf
 refine Loops.iter (fun (s:Nat)=>R06_Ints.s2 a_ b_ s) (fun i73=>mkSt [(0,.im (nL cI a_)),(1,.im (nL cI b_)),(5,.im (nI (↑i73:Int)))] [] []) (fun i73=>lZ a_∧lZ b_∧True) h (eA []) (by rintro i73;exact ((Holds.avl 0 rfl).and ((Holds.avl 1 rfl).and (hT)))) ?_
 clear h
 rintro k i73 o hp h ho78
 replace h:R06_Ints.s2 a_ b_ i73=some o:=h
 unfold R06_Ints.s2 at h
 obtain ⟨z83,z84,_⟩:=hp
 conv=>whnf
 refine Nf.mk (List.length a_) len_map ?_
 conv=>whnf
 refine Both.mk ?_ ?_<;>intro b79
 obtain ⟨h,b79d⟩:=ctd b79 h
 conv=>whnf
 obtain ⟨e80,he80,h⟩:=zaj h
 refine ⟨_,⟨(by omega),map_at he80,rfl⟩,?_⟩
 conv=>whnf
 obtain ⟨e81,he81,h⟩:=zaj h
 refine ⟨_,⟨(by omega),map_at he81,rfl⟩,?_⟩
 conv=>whnf
 refine Both.mk ?_ ?_<;>intro b82
 obtain ⟨h,b82d⟩:=ctd b82 h
 conv=>whnf
 cases h
 have ho78:_=_:=ho78
 cases ho78
 replace h:some _=some _:=hk52
 cases h
 conv=>whnf
 exact ⟨rfl,rfl⟩
 obtain ⟨h,b82d⟩:=cfd b82 h
 conv=>whnf
 refine Arith.mk (by show inR _;unfold inR;omega) ?_
 conv=>whnf
 cases h
 exact Nxt.mk _ ho78 (eA [])
 obtain ⟨h,b79d⟩:=cfd b79 h
 conv=>whnf
 cases h
 have ho78:_=_:=ho78
 cases ho78
 exact JoinS.mk' _ rfl (eA [])
 rintro ⟨⟩ rfl hp
 replace h:=sum_inl hk52
 conv=>whnf
 cases h
 conv=>whnf
 exact ⟨rfl,rfl⟩
theorem sp_R06_Lists (a_:List (List Int)) (b_:List (List Int)) (r:Bool) (h:Ok (nL (cL cI) a_)→Ok (nL (cL cI) b_)→zet a_ b_=some r):Sp Tryz.prog 30 [.im (nL (cL cI) a_),.im (nL (cL cI) b_)] (.im (nB r)):=by
 refine sp_of rfl [] rfl rfl rfl (Nat.le_of_ble_eq_true rfl) rfl fun hk=>?_
 replace h:=h hk.1 hk.2.1
 have z1:lZ a_:=ok_len hk.1
 have z2:lZ b_:=ok_len hk.2.1
 unfold zet at h
 conv=>whnf
 refine Nf.mk (List.length a_) len_map ?_
 conv=>whnf
 refine Nf.mk (List.length b_) len_map ?_
 conv=>whnf
 refine Both.mk ?_ ?_<;>intro b51
 obtain ⟨h,b51d⟩:=ctd b51 h
 conv=>whnf
 cases h
 conv=>whnf
 exact ⟨rfl,rfl⟩
 obtain ⟨h,b51d⟩:=cfd b51 h
 conv=>whnf
 obtain ⟨oc,hc,hk52⟩:=bind_some h
 clear h
 have h:=hc
 clear hc
 refine Cut.mkS oc (Y:=Unit) (fun (_:Unit)=>mkSt [] [] []) (fun (_:Unit)=>True) (by rintro ⟨⟩;exact (hT)) ?_ ?_
 conv=>whnf
 refine Loops.iter (fun (s:Nat)=>zet.s2 a_ b_ s) (fun i77=>mkSt [(0,.im (nL (cL cI) a_)),(1,.im (nL (cL cI) b_)),(5,.im (nI (↑i77:Int)))] [] []) (fun i77=>lZ a_∧lZ b_∧True) h (eA []) (by rintro i77;exact ((Holds.avl 0 rfl).and ((Holds.avl 1 rfl).and (hT)))) ?_
 clear h
 rintro k i77 o hp h ho83
 replace h:zet.s2 a_ b_ i77=some o:=h
 unfold zet.s2 at h
 obtain ⟨z89,z90,_⟩:=hp
 conv=>whnf
 refine Nf.mk (List.length a_) len_map ?_
 conv=>whnf
 refine Both.mk ?_ ?_<;>intro b84
 obtain ⟨h,b84d⟩:=ctd b84 h
 conv=>whnf
 obtain ⟨e85,he85,h⟩:=zaj h
 refine ⟨_,⟨(by omega),map_at he85,rfl⟩,?_⟩
 conv=>whnf
 obtain ⟨e86,he86,h⟩:=zaj h
 refine ⟨_,⟨(by omega),map_at he86,rfl⟩,?_⟩
 conv=>whnf
 obtain ⟨c87,hc87,h⟩:=bind_some h
 refine ⟨_,(zdv e85 e86 c87 (fun _ _=>hc87)),?_⟩
 conv=>whnf
 refine Both.mk ?_ ?_<;>intro b88
 replace h:=cond_t b88 h
 conv=>whnf
 cases h
 have ho83:_=_:=ho83
 cases ho83
 replace h:some _=some _:=hk52
 cases h
 conv=>whnf
 exact ⟨rfl,rfl⟩
 replace h:=cond_f b88 h
 conv=>whnf
 refine Arith.mk (by show inR _;unfold inR;omega) ?_
 conv=>whnf
 cases h
 exact Nxt.mk _ ho83 (eA [])
 obtain ⟨h,b84d⟩:=cfd b84 h
 conv=>whnf
 cases h
 have ho83:_=_:=ho83
 cases ho83
 exact JoinS.mk' _ rfl (eA [])
 rintro ⟨⟩ rfl hp
 replace h:=sum_inl hk52
 conv=>whnf
 cases h
 conv=>whnf
 exact ⟨rfl,rfl⟩
theorem zib (r:zab) (h:L50_gate=some r):Sp Tryz.prog 29 [] (.im (.agg (zad r))):=by
 refine sp_of rfl [] rfl rfl rfl (Nat.le_of_ble_eq_true rfl) rfl fun hk=>?_
 unfold L50_gate at h
 conv=>whnf
 refine Side.mk rfl ?_
 conv=>whnf
 cases h
 conv=>whnf
 refine Side.mk ⟨rfl,trivial⟩ ?_
 conv=>whnf
 exact ⟨rfl,rfl⟩
theorem zmm (ids_:List (List (List Int))) (r:Int) (h:Ok (nL (cL (cL cI)) ids_)→zdn ids_=some r):Sp Tryz.prog 87 [.im (nL (cL (cL cI)) ids_)] (.im (nI r)):=by
 refine sp_of rfl [] rfl rfl rfl (Nat.le_of_ble_eq_true rfl) rfl fun hk=>?_
 replace h:=h hk.1
 have z1:lZ ids_:=ok_len hk.1
 unfold zdn at h
 conv=>whnf
 refine Nf.mk (List.length ids_) len_map ?_
 conv=>whnf
 obtain ⟨n62,hc,hk51⟩:=bind_some h
 clear h
 have h:=hc
 clear hc
 refine Cut.mk (mkSt [(3,.im (nI n62))] [] []) (True) (hT) ?_ (fun hp=>?_)
 conv=>whnf
 refine Loops.iter (fun (s:Int×Nat)=>zdn.s2 ids_ s.1 s.2) (fun (n65,y66)=>mkSt [(3,.im (nI n65)),(6,.im (nL (cL (cL cI)) ids_)),(7,.im (nI (↑(List.length ids_):Int))),(8,.im (nI (↑y66:Int)))] [] []) (fun (n65,y66)=>lZ ids_∧True) h (eA []) (by rintro ⟨n65,y66⟩;exact ((Holds.avl 6 rfl).and (hT))) ?_
 clear h
 rintro k ⟨n65,y66⟩ o hp h ho69
 replace h:zdn.s2 ids_ n65 y66=some o:=h
 unfold zdn.s2 at h
 obtain ⟨z72,_⟩:=hp
 conv=>whnf
 refine Both.mk ?_ ?_<;>intro b70
 obtain ⟨h,b70d⟩:=ctd b70 h
 conv=>whnf
 obtain ⟨e71,he71,h⟩:=zaj h
 refine ⟨_,⟨(by omega),map_at he71,rfl⟩,?_⟩
 conv=>whnf
 refine Nf.mk (List.length e71) len_map ?_
 conv=>whnf
 refine Arith.mk (by show inR _;unfold inR;omega) ?_
 conv=>whnf
 cases h
 exact Nxt.mk _ ho69 (eA [])
 obtain ⟨h,b70d⟩:=cfd b70 h
 conv=>whnf
 cases h
 have ho69:_=_:=ho69
 cases ho69
 exact Join.mk (eA [])
 replace h:=hk51
 conv=>whnf
 cases h
 conv=>whnf
 exact ⟨rfl,rfl⟩
theorem zfw (slices_:List (List Int)) (r:List Int) (h:Ok (nL (cL cI) slices_)→zaz slices_=some r):Sp Tryz.prog 120 [.im (nL (cL cI) slices_)] (.row 3 1 (List.map cI r)):=by
 refine sp_of rfl [4025000] rfl rfl rfl (Nat.le_of_ble_eq_true rfl) rfl fun hk=>?_
 replace h:=h hk.1
 have z1:lZ slices_:=ok_len hk.1
 unfold zaz at h
 conv=>whnf
 refine Nf.mk (List.length slices_) len_map ?_
 conv=>whnf
 obtain ⟨size68,hc,hk51⟩:=bind_some h
 clear h
 have h:=hc
 clear hc
 refine Cut.mk (mkSt [(0,.im (nL (cL cI) slices_)),(3,.im (nI (↑size68:Int)))] [] []) (lZ slices_∧True) ((Holds.avl 0 rfl).and (hT)) ?_ (fun hp=>?_)
 conv=>whnf
 refine Loops.iter (fun (s:Nat×Nat)=>zaz.s2 slices_ s.1 s.2) (fun (size73,y74)=>mkSt [(0,.im (nL (cL cI) slices_)),(3,.im (nI (↑size73:Int))),(9,.im (nL (cL cI) slices_)),(10,.im (nI (↑(List.length slices_):Int))),(11,.im (nI (↑y74:Int)))] [] []) (fun (size73,y74)=>lZ slices_∧True) h (eA []) (by rintro ⟨size73,y74⟩;exact ((Holds.avl 0 rfl).and (hT))) ?_
 clear h
 rintro k ⟨size73,y74⟩ o hp h ho79
 replace h:zaz.s2 slices_ size73 y74=some o:=h
 unfold zaz.s2 at h
 obtain ⟨z84,_⟩:=hp
 conv=>whnf
 refine Both.mk ?_ ?_<;>intro b80
 obtain ⟨h,b80d⟩:=ctd b80 h
 conv=>whnf
 obtain ⟨e81,he81,h⟩:=zaj h
 refine ⟨_,⟨(by omega),map_at he81,rfl⟩,?_⟩
 conv=>whnf
 refine Nf.mk (List.length e81) len_map ?_
 conv=>whnf
 obtain ⟨c82,h⟩:=chk_some h
 refine Arith.mk c82 ?_
 conv=>whnf
 refine Both.mk ?_ ?_<;>intro b83
 obtain ⟨h,b83d⟩:=ctd b83 h
 conv=>whnf
 cases h
 obtain ⟨h,b83d⟩:=cfd b83 h
 conv=>whnf
 refine Arith.mk (by show inR _;unfold inR;omega) ?_
 conv=>whnf
 cases h
 exact Nxt.mk _ ho79 (eA [])
 obtain ⟨h,b80d⟩:=cfd b80 h
 conv=>whnf
 cases h
 have ho79:_=_:=ho79
 cases ho79
 exact Join.mk (eA [])
 replace h:=hk51
 obtain ⟨z85,_⟩:=hp
 conv=>whnf
 obtain ⟨c86,hc86,h⟩:=bind_some h
 refine ⟨_,(zlo (↑size68:Int) c86 (hc86)),?_⟩
 conv=>whnf
 refine Nf.mk (List.length slices_) len_map ?_
 conv=>whnf
 obtain ⟨y102,hc,hk87⟩:=bind_some h
 clear h
 have h:=hc
 clear hc
 refine Cut.mk (mkSt [(6,.osl 64 1)] [(64,.row 3 1 (List.map cI y102))] []) (lZ y102∧True) ((Holds.kdl 64 rfl).and (hT)) ?_ (fun hp=>?_)
 conv=>whnf
 refine Loops.iter (fun (s:List Int×Nat)=>zaz.s4 slices_ s.1 s.2) (fun (y106,y107)=>mkSt [(6,.osl 64 1),(25,.im (nL (cL cI) slices_)),(26,.im (nI (↑(List.length slices_):Int))),(27,.im (nI (↑y107:Int)))] [(64,.row 3 1 (List.map cI y106))] []) (fun (y106,y107)=>lZ slices_∧lZ y106∧True) h (eA [(64,some 24)]) (by rintro ⟨y106,y107⟩;exact ((Holds.avl 25 rfl).and ((Holds.kdl 64 rfl).and (hT)))) ?_
 clear h
 rintro k ⟨y106,y107⟩ o hp h ho111
 replace h:zaz.s4 slices_ y106 y107=some o:=h
 unfold zaz.s4 at h
 obtain ⟨z115,z116,_⟩:=hp
 conv=>whnf
 refine Both.mk ?_ ?_<;>intro b112
 obtain ⟨h,b112d⟩:=ctd b112 h
 conv=>whnf
 obtain ⟨e113,he113,h⟩:=zaj h
 refine ⟨_,⟨(by omega),map_at he113,rfl⟩,?_⟩
 conv=>whnf
 obtain ⟨c114,h⟩:=chk_some h
 refine Side.mk ⟨rfl,map_len (l:=e113) (c:=cI) fun _=>rfl,show capOk _ 8 by simpa only [List.length_map,List.length_cons,List.length_nil,Nat.zero_add] using c114⟩ ?_
 conv=>whnf
 refine Nf.mk (List.map cI (y106++e113)) (app_map (l:=y106) (m:=e113) (c:=cI)) ?_
 conv=>whnf
 refine Arith.mk (by show inR _;unfold inR;omega) ?_
 conv=>whnf
 cases h
 exact Nxt.mk _ ho111 (eA [(64,some 64)])
 obtain ⟨h,b112d⟩:=cfd b112 h
 conv=>whnf
 cases h
 have ho111:_=_:=ho111
 cases ho111
 exact Join.mk (eA [(64,some 64)])
 replace h:=hk87
 obtain ⟨z117,_⟩:=hp
 conv=>whnf
 cases h
 conv=>whnf
 exact Side.mk ⟨rfl,trivial⟩ ⟨rfl,rfl⟩
theorem zeq (parts_:List (List Int)) (r:List Int) (h:Ok (nL (cL cI) parts_)→zfd parts_=some r):Sp Tryz.prog 88 [.im (nL (cL cI) parts_)] (.im (nL cI r)):=by
 refine sp_of rfl [] rfl rfl rfl (Nat.le_of_ble_eq_true rfl) rfl fun hk=>?_
 replace h:=h hk.1
 have z1:lZ parts_:=ok_len hk.1
 unfold zfd at h
 conv=>whnf
 obtain ⟨c51,hc51,h⟩:=bind_some h
 refine ⟨_,(zfw parts_ c51 (fun _=>hc51)).im,?_⟩
 conv=>whnf
 cases h
 conv=>whnf
 exact ⟨rfl,rfl⟩
theorem ze2 (s_:List Int) (f_:Int→Option Bool) (f1_:FuncId) (hf1:∀ x0 r,f_ x0=some r→Sp Tryz.prog f1_ [.im (nI x0)] (.im (nB r))) (r:Int) (h:Ok (nL cI s_)→Ok (.fn f1_ [])→zat s_ f_=some r):Sp Tryz.prog 105 [.im (nL cI s_),.im (.fn f1_ [])] (.im (nI r)):=by
 refine sp_of rfl [] rfl rfl rfl (Nat.le_of_ble_eq_true rfl) rfl fun hk=>?_
 replace h:=h hk.1 hk.2.1
 have z1:lZ s_:=ok_len hk.1
 unfold zat at h
 conv=>whnf
 refine Nf.mk (List.length s_) len_map ?_
 conv=>whnf
 obtain ⟨oc,hc,hk51⟩:=bind_some h
 clear h
 have h:=hc
 clear hc
 refine Cut.mkS oc (Y:=Unit) (fun (_:Unit)=>mkSt [] [] []) (fun (_:Unit)=>True) (by rintro ⟨⟩;exact (hT)) ?_ ?_
 conv=>whnf
 refine Loops.iter (fun (s:Nat)=>zat.s2 s_ f_ s) (fun y71=>mkSt [(0,.im (nL cI s_)),(1,.im (.fn f1_ [])),(7,.im (nI (↑(List.length s_):Int))),(8,.im (nI (↑y71:Int)))] [] []) (fun y71=>lZ s_∧True) h (eA []) (by rintro y71;exact ((Holds.avl 0 rfl).and (hT))) ?_
 clear h
 rintro k y71 o hp h ho76
 replace h:zat.s2 s_ f_ y71=some o:=h
 unfold zat.s2 at h
 obtain ⟨z81,_⟩:=hp
 conv=>whnf
 refine Both.mk ?_ ?_<;>intro b77
 obtain ⟨h,b77d⟩:=ctd b77 h
 conv=>whnf
 obtain ⟨e78,he78,h⟩:=zaj h
 refine ⟨_,⟨(by omega),map_at he78,rfl⟩,?_⟩
 conv=>whnf
 obtain ⟨c79,hc79,h⟩:=bind_some h
 refine ⟨_,hf1 e78 c79 hc79,?_⟩
 conv=>whnf
 refine Both.mk ?_ ?_<;>intro b80
 replace h:=cond_t b80 h
 conv=>whnf
 cases h
 have ho76:_=_:=ho76
 cases ho76
 replace h:some _=some _:=hk51
 cases h
 conv=>whnf
 exact ⟨rfl,rfl⟩
 replace h:=cond_f b80 h
 conv=>whnf
 refine Arith.mk (by show inR _;unfold inR;omega) ?_
 conv=>whnf
 cases h
 exact Nxt.mk _ ho76 (eA [])
 obtain ⟨h,b77d⟩:=cfd b77 h
 conv=>whnf
 cases h
 have ho76:_=_:=ho76
 cases ho76
 exact JoinS.mk' _ rfl (eA [])
 rintro ⟨⟩ rfl hp
 replace h:=sum_inl hk51
 conv=>whnf
 cases h
 conv=>whnf
 exact ⟨rfl,rfl⟩
theorem zc2 (s_:List Int) (f_:Int→Option Bool) (f1_:FuncId) (hf1:∀ x0 r,f_ x0=some r→Sp Tryz.prog f1_ [.im (nI x0)] (.im (nB r))) (r:Bool) (h:Ok (nL cI s_)→Ok (.fn f1_ [])→zbe s_ f_=some r):Sp Tryz.prog 65 [.im (nL cI s_),.im (.fn f1_ [])] (.im (nB r)):=by
 refine sp_of rfl [] rfl rfl rfl (Nat.le_of_ble_eq_true rfl) rfl fun hk=>?_
 replace h:=h hk.1 hk.2.1
 have z1:lZ s_:=ok_len hk.1
 unfold zbe at h
 conv=>whnf
 obtain ⟨c51,hc51,h⟩:=bind_some h
 refine ⟨_,(ze2 s_ f_ f1_ hf1 c51 (fun _ _=>hc51)),?_⟩
 conv=>whnf
 cases h
 conv=>whnf
 exact ⟨rfl,rfl⟩
theorem zje (inputs_:Int) (r:Bool) (h:Ok (nI inputs_)→zdt inputs_=some r):Sp Tryz.prog 64 [.im (nI inputs_)] (.im (nB r)):=by
 refine sp_of rfl [] rfl rfl rfl (Nat.le_of_ble_eq_true rfl) rfl fun hk=>?_
 replace h:=h hk.1
 unfold zdt at h
 conv=>whnf
 obtain ⟨y54,hc,hk52⟩:=bind_some h
 clear h
 have h:=hc
 clear hc
 refine Cut.mk (mkSt [(2,.im (nB y54))] [] []) (True) (hT) ?_ (fun hp=>?_)
 conv=>whnf
 refine Both.mk ?_ ?_<;>intro b55
 replace b55:=beq_tt b55
 obtain ⟨h,b55d⟩:=ctd b55 h
 conv=>whnf
 refine Both.yes (tt_beq b55) ?_
 conv=>whnf
 refine Both.yes b55 ?_
 conv=>whnf
 cases h
 exact Join.mk (eA [])
 replace b55:=beq_tf b55
 obtain ⟨h,b55d⟩:=cfd b55 h
 conv=>whnf
 refine Both.no (ft_beq b55) ?_
 conv=>whnf
 refine Both.no b55 ?_
 conv=>whnf
 cases h
 exact Join.mk (eA [])
 replace h:=hk52
 conv=>whnf
 cases h
 conv=>whnf
 exact ⟨rfl,rfl⟩
theorem zkw (a_:Int) (p1_:Int) (r:Bool) (h:Ok (nI a_)→Ok (.ref (cI p1_))→zdz a_ p1_=some r):Sp Tryz.prog 66 [.im (nI a_),.im (.ref (cI p1_))] (.im (nB r)):=by
 refine sp_of rfl [] rfl rfl rfl (Nat.le_of_ble_eq_true rfl) rfl fun hk=>?_
 replace h:=h hk.1 hk.2.1
 unfold zdz at h
 conv=>whnf
 obtain ⟨y54,hc,hk52⟩:=bind_some h
 clear h
 have h:=hc
 clear hc
 refine Cut.mk (mkSt [(3,.im (nB y54))] [] []) (True) (hT) ?_ (fun hp=>?_)
 conv=>whnf
 refine Both.mk ?_ ?_<;>intro b55
 replace b55:=beq_ff b55
 obtain ⟨h,b55d⟩:=cfd b55 h
 conv=>whnf
 iterate 2 (refine Both.yes (ff_beq b55) ?_;(conv=>whnf))
 refine Both.no b55 ?_
 conv=>whnf
 cases h
 exact Join.mk (eA [])
 replace b55:=beq_ft b55
 obtain ⟨h,b55d⟩:=ctd b55 h
 conv=>whnf
 iterate 2 (refine Both.no (tf_beq b55) ?_;(conv=>whnf))
 refine Both.yes b55 ?_
 conv=>whnf
 cases h
 exact Join.mk (eA [])
 replace h:=hk52
 conv=>whnf
 cases h
 conv=>whnf
 exact ⟨rfl,rfl⟩
theorem zeh (s_:List Int) (f_:Int→Option Bool) (f1_:FuncId) (k1_0:IV) (hk1_0:nz k1_0=k1_0) (hf1:∀ x0 r,f_ x0=some r→Sp Tryz.prog f1_ [.im (nI x0),.im k1_0] (.im (nB r))) (r:Int) (h:Ok (nL cI s_)→Ok (.fn f1_ [k1_0])→zan s_ f_=some r):Sp Tryz.prog 105 [.im (nL cI s_),.im (.fn f1_ [k1_0])] (.im (nI r)):=by
 refine sp_of rfl [] rfl rfl rfl (Nat.le_of_ble_eq_true rfl) rfl fun hk=>?_
 replace h:=h hk.1 hk.2.1
 have z1:lZ s_:=ok_len hk.1
 unfold zan at h
 conv=>whnf
 refine Nf.mk (List.length s_) len_map ?_
 conv=>whnf
 obtain ⟨oc,hc,hk51⟩:=bind_some h
 clear h
 have h:=hc
 clear hc
 refine Cut.mkS oc (Y:=Unit) (fun (_:Unit)=>mkSt [] [] []) (fun (_:Unit)=>True) (by rintro ⟨⟩;exact (hT)) ?_ ?_
 conv=>whnf
 refine Loops.iter (fun (s:Nat)=>zan.s2 s_ f_ s) (fun y71=>mkSt [(0,.im (nL cI s_)),(1,.im (.fn f1_ [k1_0])),(7,.im (nI (↑(List.length s_):Int))),(8,.im (nI (↑y71:Int)))] [] []) (fun y71=>lZ s_∧True) h (eA []) (by rintro y71;exact ((Holds.avl 0 rfl).and (hT))) ?_
 clear h
 rintro k y71 o hp h ho76
 replace h:zan.s2 s_ f_ y71=some o:=h
 unfold zan.s2 at h
 obtain ⟨z81,_⟩:=hp
 conv=>whnf
 refine Both.mk ?_ ?_<;>intro b77
 obtain ⟨h,b77d⟩:=ctd b77 h
 conv=>whnf
 obtain ⟨e78,he78,h⟩:=zaj h
 refine ⟨_,⟨(by omega),map_at he78,rfl⟩,?_⟩
 conv=>whnf
 obtain ⟨c79,hc79,h⟩:=bind_some h
 refine ⟨_,Sp.args (hf1 e78 c79 hc79) (by rw [hk1_0];try rfl),?_⟩
 conv=>whnf
 refine Both.mk ?_ ?_<;>intro b80
 replace h:=cond_t b80 h
 conv=>whnf
 cases h
 have ho76:_=_:=ho76
 cases ho76
 replace h:some _=some _:=hk51
 cases h
 conv=>whnf
 exact ⟨rfl,rfl⟩
 replace h:=cond_f b80 h
 conv=>whnf
 refine Arith.mk (by show inR _;unfold inR;omega) ?_
 conv=>whnf
 cases h
 exact Nxt.mk _ ho76 (eA [])
 obtain ⟨h,b77d⟩:=cfd b77 h
 conv=>whnf
 cases h
 have ho76:_=_:=ho76
 cases ho76
 exact JoinS.mk' _ rfl (eA [])
 rintro ⟨⟩ rfl hp
 replace h:=sum_inl hk51
 conv=>whnf
 cases h
 conv=>whnf
 exact ⟨rfl,rfl⟩
theorem zd1 (s_:List Int) (f_:Int→Option Bool) (f1_:FuncId) (k1_0:IV) (hk1_0:nz k1_0=k1_0) (hf1:∀ x0 r,f_ x0=some r→Sp Tryz.prog f1_ [.im (nI x0),.im k1_0] (.im (nB r))) (r:Bool) (h:Ok (nL cI s_)→Ok (.fn f1_ [k1_0])→zbu s_ f_=some r):Sp Tryz.prog 65 [.im (nL cI s_),.im (.fn f1_ [k1_0])] (.im (nB r)):=by
 refine sp_of rfl [] rfl rfl rfl (Nat.le_of_ble_eq_true rfl) rfl fun hk=>?_
 replace h:=h hk.1 hk.2.1
 have z1:lZ s_:=ok_len hk.1
 unfold zbu at h
 conv=>whnf
 obtain ⟨c51,hc51,h⟩:=bind_some h
 refine ⟨_,(zeh s_ f_ f1_ k1_0 hk1_0 hf1 c51 (fun _ _=>hc51)),?_⟩
 conv=>whnf
 cases h
 conv=>whnf
 exact ⟨rfl,rfl⟩
theorem zdb (w_:List Int) (inputs_:Int) (r:Int) (h:Ok (nL cI w_)→Ok (nI inputs_)→zc6 w_ inputs_=some r):Sp Tryz.prog 32 [.im (nL cI w_),.im (nI inputs_)] (.im (nI r)):=by
 refine sp_of rfl [700003] rfl rfl rfl (Nat.le_of_ble_eq_true rfl) rfl fun hk=>?_
 replace h:=h hk.1 hk.2.1
 have z1:lZ w_:=ok_len hk.1
 unfold zc6 at h
 conv=>whnf
 obtain ⟨c51,hc51,h⟩:=bind_some h
 refine ⟨_,(zje inputs_ c51 (fun _=>hc51)),?_⟩
 conv=>whnf
 refine Both.mk ?_ ?_<;>intro b52
 replace h:=cond_t b52 h
 conv=>whnf
 cases h
 conv=>whnf
 exact ⟨rfl,rfl⟩
 replace h:=cond_f b52 h
 conv=>whnf
 refine Nf.mk (List.length w_) len_map ?_
 conv=>whnf
 refine Both.mk ?_ ?_<;>intro b53
 obtain ⟨h,b53d⟩:=ctd b53 h
 conv=>whnf
 cases h
 conv=>whnf
 exact ⟨rfl,rfl⟩
 obtain ⟨h,b53d⟩:=cfd b53 h
 conv=>whnf
 obtain ⟨c54,hc54,h⟩:=bind_some h
 refine ⟨_,(zd1 w_ (fun u0=>zdz u0 inputs_) 66 (.ref (cI inputs_)) rfl (fun u0 r h=>(zkw u0 inputs_ r (fun _ _=>h))) c54 (fun _ _=>hc54)),?_⟩
 conv=>whnf
 refine Both.mk ?_ ?_<;>intro b55
 replace h:=cond_t b55 h
 conv=>whnf
 cases h
 conv=>whnf
 exact ⟨rfl,rfl⟩
 replace h:=cond_f b55 h
 conv=>whnf
 cases h
 conv=>whnf
 exact ⟨rfl,rfl⟩
theorem zg0 (m_:zb7) (s_:Int) (a_:Int) (r:Int×Int) (h:Ok (.agg (zhd m_))→Ok (nI s_)→Ok (nI a_)→zdk m_ s_ a_=some r):Sp Tryz.prog 114 [.im (.agg (zhd m_)),.im (nI s_),.im (nI a_)] (.tup [nI r.1,nI r.2]):=by
 refine sp_of rfl [700003] rfl rfl rfl (Nat.le_of_ble_eq_true rfl) rfl fun hk=>?_
 replace h:=h hk.1 hk.2.1 hk.2.2.1
 have z1:lZ m_.Mealy.Next:=ok_len (Ok.agg_at hk.1 2 rfl)
 have z2:lZ m_.Mealy.Out:=ok_len (Ok.agg_at hk.1 3 rfl)
 unfold zdk at h
 conv=>whnf
 obtain ⟨e51,he51z,he51,h⟩:=idx_some h
 refine ⟨_,⟨he51z,map_at he51,rfl⟩,?_⟩
 conv=>whnf
 obtain ⟨e52,he52z,he52,h⟩:=idx_some h
 refine ⟨_,⟨he52z,map_at he52,rfl⟩,?_⟩
 conv=>whnf
 obtain ⟨e53,he53z,he53,h⟩:=idx_some h
 refine ⟨_,⟨he53z,map_at he53,rfl⟩,?_⟩
 conv=>whnf
 obtain ⟨e54,he54z,he54,h⟩:=idx_some h
 refine ⟨_,⟨he54z,map_at he54,rfl⟩,?_⟩
 conv=>whnf
 cases h
 conv=>whnf
 exact ⟨rfl,rfl⟩
theorem zij (r_:zbo) (w_:List Int) (r:List Int×zbo) (h:OkOcs [.im (nI r_.machine.Mealy.Inputs),.im (nI r_.machine.Mealy.Start),.im (nL (cL cI) r_.machine.Mealy.Next),.im (nL (cL cI) r_.machine.Mealy.Out),.im (nI r_.at_)]→Ok (nL cI w_)→za6 r_ w_=some r):Sp Tryz.prog 83 [.box 137 [.im (nI r_.machine.Mealy.Inputs),.im (nI r_.machine.Mealy.Start),.im (nL (cL cI) r_.machine.Mealy.Next),.im (nL (cL cI) r_.machine.Mealy.Out),.im (nI r_.at_)],.im (nL cI w_)] (.mk false [.im (nL cI r.1)] [.box 137 [.im (nI r.2.machine.Mealy.Inputs),.im (nI r.2.machine.Mealy.Start),.im (nL (cL cI) r.2.machine.Mealy.Next),.im (nL (cL cI) r.2.machine.Mealy.Out),.im (nI r.2.at_)]]):=by
 refine sp_of rfl [] rfl rfl rfl (Nat.le_of_ble_eq_true rfl) rfl fun hk=>?_
 replace h:=h hk.1 hk.2.1
 have z1:lZ r_.machine.Mealy.Next:=ok_len hk.1.2.2.1
 have z2:lZ r_.machine.Mealy.Out:=ok_len hk.1.2.2.2.1
 have z3:lZ w_:=ok_len hk.2.1
 unfold za6 at h
 conv=>whnf
 refine Nf.mk (List.length w_) len_map ?_
 conv=>whnf
 obtain ⟨⟨y71,y72⟩,hc,hk51⟩:=bind_some h
 clear h
 have h:=hc
 clear hc
 refine Cut.mk (mkSt [(0,.own 0 0 0),(5,.osl 65 1)] [(0,.box 137 5),(65,.row 3 1 (List.map cI y72))] [(0,0,.im (nI r_.machine.Mealy.Inputs)),(0,1,.im (nI r_.machine.Mealy.Start)),(0,2,.im (nL (cL cI) r_.machine.Mealy.Next)),(0,3,.im (nL (cL cI) r_.machine.Mealy.Out)),(0,4,.im (nI y71))]) (lZ r_.machine.Mealy.Next∧lZ r_.machine.Mealy.Out∧lZ y72∧True) ((Holds.cel 0 2 rfl (by decide) rfl).and ((Holds.cel 0 3 rfl (by decide) rfl).and ((Holds.kdl 65 rfl).and (hT)))) ?_ (fun hp=>?_)
 conv=>whnf
 refine Loops.iter (fun (s:Int×List Int×Nat)=>za6.s2 r_ w_ s.1 s.2.1 s.2.2) (fun (y76,y77,y78)=>mkSt [(0,.own 0 0 0),(5,.osl 65 1),(10,.im (nL cI w_)),(11,.im (nI (↑(List.length w_):Int))),(12,.im (nI (↑y78:Int)))] [(0,.box 137 5),(65,.row 3 1 (List.map cI y77))] [(0,0,.im (nI r_.machine.Mealy.Inputs)),(0,1,.im (nI r_.machine.Mealy.Start)),(0,2,.im (nL (cL cI) r_.machine.Mealy.Next)),(0,3,.im (nL (cL cI) r_.machine.Mealy.Out)),(0,4,.im (nI y76))]) (fun (y76,y77,y78)=>lZ w_∧lZ r_.machine.Mealy.Next∧lZ r_.machine.Mealy.Out∧lZ y77∧True) h (eA [(0,some 0),(65,none)]) (by rintro ⟨y76,y77,y78⟩;exact ((Holds.avl 10 rfl).and ((Holds.cel 0 2 rfl (by decide) rfl).and ((Holds.cel 0 3 rfl (by decide) rfl).and ((Holds.kdl 65 rfl).and (hT)))))) ?_
 clear h
 rintro k ⟨y76,y77,y78⟩ o hp h ho83
 replace h:za6.s2 r_ w_ y76 y77 y78=some o:=h
 unfold za6.s2 at h
 obtain ⟨z88,z89,z90,z91,_⟩:=hp
 conv=>whnf
 refine Both.mk ?_ ?_<;>intro b84
 obtain ⟨h,b84d⟩:=ctd b84 h
 conv=>whnf
 obtain ⟨e85,he85,h⟩:=zaj h
 refine ⟨_,⟨(by omega),map_at he85,rfl⟩,?_⟩
 conv=>whnf
 refine Side.mk rfl ?_
 conv=>whnf
 refine Side.mk rfl ?_
 conv=>whnf
 refine Side.mk rfl ?_
 conv=>whnf
 refine Side.mk rfl ?_
 conv=>whnf
 refine Side.mk rfl ?_
 conv=>whnf
 refine Side.mk rfl ?_
 conv=>whnf
 obtain ⟨c86,hc86,h⟩:=bind_some h
 refine ⟨_,(zg0 r_.machine y76 e85 c86 (fun _ _ _=>hc86)),?_⟩
 conv=>whnf
 refine Side.mk rfl ?_
 conv=>whnf
 refine Side.mk rfl ?_
 conv=>whnf
 refine Side.mk rfl ?_
 conv=>whnf
 obtain ⟨c87,h⟩:=chk_some h
 refine Side.mk ⟨rfl,map_len (l:=[c86.2]) (c:=cI) fun _=>rfl,show capOk _ 8 by simpa only [List.length_map,List.length_cons,List.length_nil,Nat.zero_add] using c87⟩ ?_
 conv=>whnf
 refine Nf.mk (List.map cI (y77++[c86.2])) (app_map (l:=y77) (m:=[c86.2]) (c:=cI)) ?_
 conv=>whnf
 refine Arith.mk (by show inR _;unfold inR;omega) ?_
 conv=>whnf
 cases h
 exact Nxt.mk _ ho83 (eA [(0,some 0),(65,some 65)])
 obtain ⟨h,b84d⟩:=cfd b84 h
 conv=>whnf
 cases h
 have ho83:_=_:=ho83
 cases ho83
 exact Join.mk (eA [(0,some 0),(65,some 65)])
 replace h:za6.k3 r_ y71 y72=some _:=hk51
 unfold za6.k3 at h
 obtain ⟨z92,z93,z94,_⟩:=hp
 conv=>whnf
 cases h
 conv=>whnf
 exact Side.mk ⟨rfl,rfl,trivial⟩ ⟨rfl,rfl⟩
theorem zbr (m_:zab) (r:Int) (h:Ok (.agg (zad m_))→zap m_=some r):Sp Tryz.prog 31 [.im (.agg (zad m_))] (.im (nI r)):=by
 refine sp_of rfl [700001] rfl rfl rfl (Nat.le_of_ble_eq_true rfl) rfl fun hk=>?_
 replace h:=h hk.1
 have z1:lZ m_.Next:=ok_len (Ok.agg_at hk.1 2 rfl)
 have z2:lZ m_.Out:=ok_len (Ok.agg_at hk.1 3 rfl)
 unfold zap at h
 conv=>whnf
 refine Nf.mk (List.length m_.Next) len_map ?_
 conv=>whnf
 obtain ⟨y54,hc,hk52⟩:=bind_some h
 clear h
 have h:=hc
 clear hc
 refine Cut.mk (mkSt [(1,.im (.ref (zad m_))),(3,.im (nI (↑(List.length m_.Next):Int))),(11,.im (nB y54))] [] []) (True) (hT) ?_ (fun hp=>?_)
 conv=>whnf
 refine Both.mk ?_ ?_<;>intro b55
 replace b55:=beq_ff b55
 obtain ⟨h,b55d⟩:=cfd b55 h
 conv=>whnf
 iterate 2 (refine Both.yes (ff_beq b55) ?_;(conv=>whnf))
 refine Both.no b55 ?_
 conv=>whnf
 cases h
 exact Join.mk (eA [])
 replace b55:=beq_ft b55
 obtain ⟨h,b55d⟩:=ctd b55 h
 conv=>whnf
 iterate 2 (refine Both.no (tf_beq b55) ?_;(conv=>whnf))
 refine Both.yes b55 ?_
 conv=>whnf
 cases h
 exact Join.mk (eA [])
 replace h:=hk52
 conv=>whnf
 refine Both.mk ?_ ?_<;>intro b56
 replace h:=cond_t b56 h
 conv=>whnf
 cases h
 conv=>whnf
 exact ⟨rfl,rfl⟩
 replace h:=cond_f b56 h
 conv=>whnf
 refine Both.mk ?_ ?_<;>intro b57
 obtain ⟨h,b57d⟩:=ctd b57 h
 conv=>whnf
 cases h
 conv=>whnf
 exact ⟨rfl,rfl⟩
 obtain ⟨h,b57d⟩:=cfd b57 h
 conv=>whnf
 refine Both.mk ?_ ?_<;>intro b58
 obtain ⟨h,b58d⟩:=ctd b58 h
 conv=>whnf
 cases h
 conv=>whnf
 exact ⟨rfl,rfl⟩
 obtain ⟨h,b58d⟩:=cfd b58 h
 conv=>whnf
 obtain ⟨y62,hc,hk60⟩:=bind_some h
 clear h
 have h:=hc
 clear hc
 refine Cut.mk (mkSt [(1,.im (.ref (zad m_))),(3,.im (nI (↑(List.length m_.Next):Int))),(26,.im (nB y62))] [] []) (True) (hT) ?_ (fun hp=>?_)
 conv=>whnf
 refine Both.mk ?_ ?_<;>intro b63
 replace b63:=beq_ff b63
 obtain ⟨h,b63d⟩:=cfd b63 h
 conv=>whnf
 iterate 3 (refine Both.yes (ff_beq b63) ?_;(conv=>whnf))
 refine Both.no b63 ?_
 conv=>whnf
 cases h
 exact Join.mk (eA [])
 replace b63:=beq_ft b63
 obtain ⟨h,b63d⟩:=ctd b63 h
 conv=>whnf
 iterate 3 (refine Both.no (tf_beq b63) ?_;(conv=>whnf))
 refine Both.yes b63 ?_
 conv=>whnf
 cases h
 exact Join.mk (eA [])
 replace h:=hk60
 conv=>whnf
 refine Both.mk ?_ ?_<;>intro b64
 replace h:=cond_t b64 h
 conv=>whnf
 cases h
 conv=>whnf
 exact ⟨rfl,rfl⟩
 replace h:=cond_f b64 h
 conv=>whnf
 refine Nf.mk (List.length m_.Out) len_map ?_
 conv=>whnf
 refine Both.mk ?_ ?_<;>intro b65
 obtain ⟨h,b65d⟩:=ctd b65 h
 conv=>whnf
 cases h
 conv=>whnf
 exact ⟨rfl,rfl⟩
 obtain ⟨h,b65d⟩:=cfd b65 h
 conv=>whnf
 obtain ⟨oc,hc,hk66⟩:=bind_some h
 clear h
 have h:=hc
 clear hc
 refine Cut.mkS oc (Y:=Unit) (fun (_:Unit)=>mkSt [] [] []) (fun (_:Unit)=>True) (by rintro ⟨⟩;exact (hT)) ?_ ?_
 conv=>whnf
 refine Loops.iter (fun (s:Nat)=>zap.s14 m_ s) (fun y509=>mkSt [(1,.im (.ref (zad m_))),(3,.im (nI (↑(List.length m_.Next):Int))),(42,.im (nI (↑(List.length m_.Next):Int))),(43,.im (nI (↑y509:Int)))] [] []) (fun y509=>True) h (eA []) (by rintro y509;exact (hT)) ?_
 clear h
 rintro k y509 o hp h ho620
 replace h:zap.s14 m_ y509=some o:=h
 unfold zap.s14 at h
 conv=>whnf
 refine Both.mk ?_ ?_<;>intro b621
 obtain ⟨h,b621d⟩:=ctd b621 h
 conv=>whnf
 obtain ⟨y627,hc,hk623⟩:=bind_some h
 clear h
 have h:=hc
 clear hc
 refine Cut.mk (mkSt [(1,.im (.ref (zad m_))),(3,.im (nI (↑(List.length m_.Next):Int))),(4,.im (nI (↑y509:Int))),(42,.im (nI (↑(List.length m_.Next):Int))),(43,.im (nI (↑y509:Int))),(65,.im (nB y627))] [] []) (True) (hT) ?_ (fun hp=>?_)
 conv=>whnf
 obtain ⟨e628,he628,h⟩:=zaj h
 refine ⟨_,⟨(by omega),map_at he628,rfl⟩,?_⟩
 conv=>whnf
 refine Nf.mk (List.length e628) len_map ?_
 conv=>whnf
 refine Both.mk ?_ ?_<;>intro b629
 replace b629:=beq_ff b629
 obtain ⟨h,b629d⟩:=cfd b629 h
 conv=>whnf
 iterate 3 (refine Both.yes (ff_beq b629) ?_;(conv=>whnf))
 obtain ⟨e630,he630,h⟩:=zaj h
 refine ⟨_,⟨(by omega),map_at he630,rfl⟩,?_⟩
 conv=>whnf
 iterate 2 (refine Both.yes (ff_beq b629) ?_;(conv=>whnf))
 refine Nf.mk (List.length e630) len_map ?_
 conv=>whnf
 iterate 3 (refine Both.yes (ff_beq b629) ?_;(conv=>whnf))
 refine Both.no b629 ?_
 conv=>whnf
 cases h
 exact Join.mk (eA [])
 replace b629:=beq_ft b629
 obtain ⟨h,b629d⟩:=ctd b629 h
 conv=>whnf
 iterate 8 (refine Both.no (tf_beq b629) ?_;(conv=>whnf))
 refine Both.yes b629 ?_
 conv=>whnf
 cases h
 exact Join.mk (eA [])
 replace h:=hk623
 conv=>whnf
 refine Both.mk ?_ ?_<;>intro b631
 replace h:=cond_t b631 h
 conv=>whnf
 cases h
 have ho620:_=_:=ho620
 cases ho620
 replace h:some _=some _:=hk66
 cases h
 conv=>whnf
 exact ⟨rfl,rfl⟩
 replace h:=cond_f b631 h
 conv=>whnf
 obtain ⟨oc,hc,hk632⟩:=bind_some h
 clear h
 have h:=hc
 clear hc
 refine Cut.mkS oc (Y:=Unit) (fun (_:Unit)=>mkSt [(1,.im (.ref (zad m_))),(3,.im (nI (↑(List.length m_.Next):Int))),(42,.im (nI (↑(List.length m_.Next):Int))),(43,.im (nI (↑y509:Int)))] [] []) (fun (_:Unit)=>True) (by rintro ⟨⟩;exact (hT)) ?_ ?_
 conv=>whnf
 refine Loops.iter (fun (s:Nat)=>zap.s13 m_ y509 s) (fun y697=>mkSt [(1,.im (.ref (zad m_))),(3,.im (nI (↑(List.length m_.Next):Int))),(4,.im (nI (↑y509:Int))),(42,.im (nI (↑(List.length m_.Next):Int))),(43,.im (nI (↑y509:Int))),(67,.im (nI m_.Inputs)),(68,.im (nI (↑y697:Int)))] [] []) (fun y697=>True) h (eA []) (by rintro y697;exact (hT)) ?_
 clear h
 rintro k y697 o hp h ho714
 replace h:zap.s13 m_ y509 y697=some o:=h
 unfold zap.s13 at h
 conv=>whnf
 refine Both.mk ?_ ?_<;>intro b715
 obtain ⟨h,b715d⟩:=ctd b715 h
 conv=>whnf
 obtain ⟨e716,he716,h⟩:=zaj h
 refine ⟨_,⟨(by omega),map_at he716,rfl⟩,?_⟩
 conv=>whnf
 obtain ⟨e717,he717,h⟩:=zaj h
 refine ⟨_,⟨(by omega),map_at he717,rfl⟩,?_⟩
 conv=>whnf
 obtain ⟨e718,he718,h⟩:=zaj h
 refine ⟨_,⟨(by omega),map_at he718,rfl⟩,?_⟩
 conv=>whnf
 obtain ⟨e719,he719,h⟩:=zaj h
 refine ⟨_,⟨(by omega),map_at he719,rfl⟩,?_⟩
 conv=>whnf
 obtain ⟨y725,hc,hk721⟩:=bind_some h
 clear h
 have h:=hc
 clear hc
 refine Cut.mk (mkSt [(1,.im (.ref (zad m_))),(3,.im (nI (↑(List.length m_.Next):Int))),(4,.im (nI (↑y509:Int))),(42,.im (nI (↑(List.length m_.Next):Int))),(43,.im (nI (↑y509:Int))),(67,.im (nI m_.Inputs)),(68,.im (nI (↑y697:Int))),(101,.im (nB y725))] [] []) (True) (hT) ?_ (fun hp=>?_)
 conv=>whnf
 refine Both.mk ?_ ?_<;>intro b726
 replace b726:=beq_ff b726
 obtain ⟨h,b726d⟩:=cfd b726 h
 conv=>whnf
 iterate 2 (refine Both.yes (ff_beq b726) ?_;(conv=>whnf))
 refine Both.no b726 ?_
 conv=>whnf
 refine Both.mk ?_ ?_<;>intro b727
 replace b727:=beq_ff b727
 obtain ⟨h,b727d⟩:=cfd b727 h
 conv=>whnf
 refine Both.yes (ff_beq b727) ?_
 conv=>whnf
 refine Both.no b727 ?_
 conv=>whnf
 refine Both.mk ?_ ?_<;>intro b728
 replace b728:=beq_ff b728
 obtain ⟨h,b728d⟩:=cfd b728 h
 conv=>whnf
 refine Both.yes (ff_beq b728) ?_
 conv=>whnf
 refine Both.no b728 ?_
 conv=>whnf
 cases h
 exact Join.mk (eA [])
 replace b728:=beq_ft b728
 obtain ⟨h,b728d⟩:=ctd b728 h
 conv=>whnf
 refine Both.no (tf_beq b728) ?_
 conv=>whnf
 refine Both.yes b728 ?_
 conv=>whnf
 cases h
 exact Join.mk (eA [])
 replace b727:=beq_ft b727
 obtain ⟨h,b727d⟩:=ctd b727 h
 conv=>whnf
 refine Both.no (tf_beq b727) ?_
 conv=>whnf
 refine Both.yes b727 ?_
 conv=>whnf
 iterate 2 (refine Both.no rfl ?_;(conv=>whnf))
 refine Both.yes rfl ?_
 conv=>whnf
 cases h
 exact Join.mk (eA [])
 replace b726:=beq_ft b726
 obtain ⟨h,b726d⟩:=ctd b726 h
 conv=>whnf
 iterate 2 (refine Both.no (tf_beq b726) ?_;(conv=>whnf))
 refine Both.yes b726 ?_
 conv=>whnf
 iterate 2 (refine Both.no rfl ?_;(conv=>whnf))
 refine Both.yes rfl ?_
 conv=>whnf
 iterate 2 (refine Both.no rfl ?_;(conv=>whnf))
 refine Both.yes rfl ?_
 conv=>whnf
 cases h
 exact Join.mk (eA [])
 replace h:=hk721
 conv=>whnf
 refine Both.mk ?_ ?_<;>intro b729
 replace h:=cond_t b729 h
 conv=>whnf
 cases h
 have ho714:_=_:=ho714
 cases ho714
 replace h:some _=some _:=hk632
 cases h
 have ho620:_=_:=ho620
 cases ho620
 replace h:some _=some _:=hk66
 cases h
 conv=>whnf
 exact ⟨rfl,rfl⟩
 replace h:=cond_f b729 h
 conv=>whnf
 obtain ⟨c730,h⟩:=chk_some h
 refine Arith.mk c730 ?_
 conv=>whnf
 cases h
 exact Nxt.mk _ ho714 (eA [])
 obtain ⟨h,b715d⟩:=cfd b715 h
 conv=>whnf
 cases h
 have ho714:_=_:=ho714
 cases ho714
 exact JoinS.mk' _ rfl (eA [])
 rintro ⟨⟩ rfl hp
 replace h:=sum_inl hk632
 conv=>whnf
 refine Arith.mk (by show inR _;unfold inR;omega) ?_
 conv=>whnf
 cases h
 exact Nxt.mk _ ho620 (eA [])
 obtain ⟨h,b621d⟩:=cfd b621 h
 conv=>whnf
 cases h
 have ho620:_=_:=ho620
 cases ho620
 exact JoinS.mk' _ rfl (eA [])
 rintro ⟨⟩ rfl hp
 replace h:=sum_inl hk66
 conv=>whnf
 cases h
 conv=>whnf
 exact ⟨rfl,rfl⟩
theorem zmn (m_:zab) (s_:Int) (r:Int) (h:Ok (.agg (zad m_))→Ok (nI s_)→zgo m_ s_=some r):Sp Tryz.prog 82 [.im (.agg (zad m_)),.im (nI s_)] (.im (nI r)):=by
 refine sp_of rfl [700002] rfl rfl rfl (Nat.le_of_ble_eq_true rfl) rfl fun hk=>?_
 replace h:=h hk.1 hk.2.1
 have z1:lZ m_.Next:=ok_len (Ok.agg_at hk.1 2 rfl)
 have z2:lZ m_.Out:=ok_len (Ok.agg_at hk.1 3 rfl)
 unfold zgo at h
 conv=>whnf
 obtain ⟨c51,hc51,h⟩:=bind_some h
 refine ⟨_,(zbr m_ c51 (fun _=>hc51)),?_⟩
 conv=>whnf
 refine Both.mk ?_ ?_<;>intro b52
 obtain ⟨h,b52d⟩:=ctd b52 h
 conv=>whnf
 cases h
 conv=>whnf
 exact ⟨rfl,rfl⟩
 obtain ⟨h,b52d⟩:=cfd b52 h
 conv=>whnf
 obtain ⟨y56,hc,hk54⟩:=bind_some h
 clear h
 have h:=hc
 clear hc
 refine Cut.mk (mkSt [(19,.im (nB y56))] [] []) (True) (hT) ?_ (fun hp=>?_)
 conv=>whnf
 refine Both.mk ?_ ?_<;>intro b57
 replace b57:=beq_ff b57
 obtain ⟨h,b57d⟩:=cfd b57 h
 conv=>whnf
 iterate 3 (refine Both.yes (ff_beq b57) ?_;(conv=>whnf))
 refine Nf.mk (List.length m_.Next) len_map ?_
 conv=>whnf
 refine Both.yes (ff_beq b57) ?_
 conv=>whnf
 refine Both.no b57 ?_
 conv=>whnf
 cases h
 exact Join.mk (eA [])
 replace b57:=beq_ft b57
 obtain ⟨h,b57d⟩:=ctd b57 h
 conv=>whnf
 iterate 4 (refine Both.no (tf_beq b57) ?_;(conv=>whnf))
 refine Both.yes b57 ?_
 conv=>whnf
 cases h
 exact Join.mk (eA [])
 replace h:=hk54
 conv=>whnf
 refine Both.mk ?_ ?_<;>intro b58
 replace h:=cond_t b58 h
 conv=>whnf
 cases h
 conv=>whnf
 exact ⟨rfl,rfl⟩
 replace h:=cond_f b58 h
 conv=>whnf
 cases h
 conv=>whnf
 exact ⟨rfl,rfl⟩
theorem zit (m_:zab) (s_:Int) (w_:List Int) (r:List Int×Int×Int) (h:Ok (.agg (zad m_))→Ok (nI s_)→Ok (nL cI w_)→ze4 m_ s_ w_=some r):Sp Tryz.prog 47 [.im (.agg (zad m_)),.im (nI s_),.im (nL cI w_)] (.tup [nL cI r.1,nI r.2.1,nI r.2.2]):=by
 refine sp_of rfl [34000,700003] rfl rfl rfl (Nat.le_of_ble_eq_true rfl) rfl fun hk=>?_
 replace h:=h hk.1 hk.2.1 hk.2.2.1
 have z1:lZ m_.Next:=ok_len (Ok.agg_at hk.1 2 rfl)
 have z2:lZ m_.Out:=ok_len (Ok.agg_at hk.1 3 rfl)
 have z3:lZ w_:=ok_len hk.2.2.1
 unfold ze4 at h
 conv=>whnf
 obtain ⟨c51,hc51,h⟩:=bind_some h
 refine ⟨_,(zmn m_ s_ c51 (fun _ _=>hc51)),?_⟩
 conv=>whnf
 refine Both.mk ?_ ?_<;>intro b52
 obtain ⟨h,b52d⟩:=ctd b52 h
 conv=>whnf
 cases h
 conv=>whnf
 exact ⟨rfl,rfl⟩
 obtain ⟨h,b52d⟩:=cfd b52 h
 conv=>whnf
 obtain ⟨c53,hc53,h⟩:=bind_some h
 refine ⟨_,(zdb w_ m_.Inputs c53 (fun _ _=>hc53)),?_⟩
 conv=>whnf
 refine Both.mk ?_ ?_<;>intro b54
 obtain ⟨h,b54d⟩:=ctd b54 h
 conv=>whnf
 cases h
 conv=>whnf
 exact ⟨rfl,rfl⟩
 obtain ⟨h,b54d⟩:=cfd b54 h
 conv=>whnf
 refine Side.mk ⟨rfl,trivial⟩ ?_
 conv=>whnf
 obtain ⟨c55,hc55,h⟩:=bind_some h
 refine ⟨_,(zij (⟨(⟨m_⟩:zb7),s_⟩:zbo) w_ c55 (fun _ _=>hc55)),?_⟩
 conv=>whnf
 refine Side.mk rfl ?_
 conv=>whnf
 refine Side.mk rfl ?_
 conv=>whnf
 refine Side.mk rfl ?_
 conv=>whnf
 cases h
 conv=>whnf
 exact ⟨rfl,rfl⟩
theorem zgr (u_:List Int) (tails_:List (List Int)) (r:List (List Int)) (h:Ok (nL cI u_)→Ok (nL (cL cI) tails_)→zcq u_ tails_=some r):Sp Tryz.prog 90 [.im (nL cI u_),.im (nL (cL cI) tails_)] (.row 25 1 (List.map (cL cI) r)):=by
 refine sp_of rfl [] rfl rfl rfl (Nat.le_of_ble_eq_true rfl) rfl fun hk=>?_
 replace h:=h hk.1 hk.2.1
 have z1:lZ u_:=ok_len hk.1
 have z2:lZ tails_:=ok_len hk.2.1
 unfold zcq at h
 conv=>whnf
 refine Nf.mk (List.length tails_) len_map ?_
 conv=>whnf
 obtain ⟨y69,hc,hk51⟩:=bind_some h
 clear h
 have h:=hc
 clear hc
 refine Cut.mk (mkSt [(5,.osl 64 1)] [(64,.row 25 1 (List.map (cL cI) y69))] []) (lZ y69∧True) ((Holds.kdl 64 rfl).and (hT)) ?_ (fun hp=>?_)
 conv=>whnf
 refine Loops.iter (fun (s:List (List Int)×Nat)=>zcq.s2 u_ tails_ s.1 s.2) (fun (y73,y74)=>mkSt [(0,.im (nL cI u_)),(5,.osl 64 1),(8,.im (nL (cL cI) tails_)),(9,.im (nI (↑(List.length tails_):Int))),(10,.im (nI (↑y74:Int)))] [(64,.row 25 1 (List.map (cL cI) y73))] []) (fun (y73,y74)=>lZ u_∧lZ tails_∧lZ y73∧True) h (eA [(64,none)]) (by rintro ⟨y73,y74⟩;exact ((Holds.avl 0 rfl).and ((Holds.avl 8 rfl).and ((Holds.kdl 64 rfl).and (hT))))) ?_
 clear h
 rintro k ⟨y73,y74⟩ o hp h ho79
 replace h:zcq.s2 u_ tails_ y73 y74=some o:=h
 unfold zcq.s2 at h
 obtain ⟨z84,z85,z86,_⟩:=hp
 conv=>whnf
 refine Both.mk ?_ ?_<;>intro b80
 obtain ⟨h,b80d⟩:=ctd b80 h
 conv=>whnf
 obtain ⟨e81,he81,h⟩:=zaj h
 refine ⟨_,⟨(by omega),map_at he81,rfl⟩,?_⟩
 conv=>whnf
 obtain ⟨c82,hc82,h⟩:=bind_some h
 refine ⟨_,(zeq [u_,e81] c82 (fun _=>hc82)),?_⟩
 conv=>whnf
 obtain ⟨c83,h⟩:=chk_some h
 refine Side.mk ⟨rfl,map_len (l:=[c82]) (c:=cL cI) fun _=>rfl,show capOk _ 24 by simpa only [List.length_map,List.length_cons,List.length_nil,Nat.zero_add] using c83⟩ ?_
 conv=>whnf
 refine Nf.mk (List.map (cL cI) (y73++[c82])) (app_map (l:=y73) (m:=[c82]) (c:=cL cI)) ?_
 conv=>whnf
 refine Arith.mk (by show inR _;unfold inR;omega) ?_
 conv=>whnf
 cases h
 exact Nxt.mk _ ho79 (eA [(64,some 64)])
 obtain ⟨h,b80d⟩:=cfd b80 h
 conv=>whnf
 cases h
 have ho79:_=_:=ho79
 cases ho79
 exact Join.mk (eA [(64,some 64)])
 replace h:=hk51
 obtain ⟨z87,_⟩:=hp
 conv=>whnf
 cases h
 conv=>whnf
 exact Side.mk ⟨rfl,trivial⟩ ⟨rfl,rfl⟩
theorem zk1 (m_:zab) (ids_:List (List (List Int))) (w_:List Int) (r:List (List Int)×Int) (h:Ok (.agg (zad m_))→Ok (nL (cL (cL cI)) ids_)→Ok (nL cI w_)→zhc m_ ids_ w_=some r):Sp Tryz.prog 89 [.im (.agg (zad m_)),.im (nL (cL (cL cI)) ids_),.im (nL cI w_)] (.tup [nL (cL cI) r.1,nI r.2]):=by
 refine sp_of rfl [700003] rfl rfl rfl (Nat.le_of_ble_eq_true rfl) rfl fun hk=>?_
 replace h:=h hk.1 hk.2.1 hk.2.2.1
 have z1:lZ m_.Next:=ok_len (Ok.agg_at hk.1 2 rfl)
 have z2:lZ m_.Out:=ok_len (Ok.agg_at hk.1 3 rfl)
 have z3:lZ ids_:=ok_len hk.2.1
 have z4:lZ w_:=ok_len hk.2.2.1
 unfold zhc at h
 conv=>whnf
 obtain ⟨c51,hc51,h⟩:=bind_some h
 refine ⟨_,(zit m_ m_.Start w_ c51 (fun _ _ _=>hc51)),?_⟩
 conv=>whnf
 refine Both.mk ?_ ?_<;>intro b52
 obtain ⟨h,b52d⟩:=ctd b52 h
 conv=>whnf
 cases h
 conv=>whnf
 exact ⟨rfl,rfl⟩
 obtain ⟨h,b52d⟩:=cfd b52 h
 conv=>whnf
 refine Nf.mk (List.length ids_) len_map ?_
 conv=>whnf
 refine Nf.mk (List.length m_.Next) len_map ?_
 conv=>whnf
 refine Both.mk ?_ ?_<;>intro b53
 obtain ⟨h,b53d⟩:=ctd b53 h
 conv=>whnf
 cases h
 conv=>whnf
 exact ⟨rfl,rfl⟩
 obtain ⟨h,b53d⟩:=cfd b53 h
 conv=>whnf
 obtain ⟨e54,he54z,he54,h⟩:=idx_some h
 refine ⟨_,⟨he54z,map_at he54,rfl⟩,?_⟩
 conv=>whnf
 refine Nf.mk (List.length e54) len_map ?_
 conv=>whnf
 refine Both.mk ?_ ?_<;>intro b55
 obtain ⟨h,b55d⟩:=ctd b55 h
 conv=>whnf
 cases h
 conv=>whnf
 exact ⟨rfl,rfl⟩
 obtain ⟨h,b55d⟩:=cfd b55 h
 conv=>whnf
 obtain ⟨e56,he56z,he56,h⟩:=idx_some h
 refine ⟨_,⟨he56z,map_at he56,rfl⟩,?_⟩
 conv=>whnf
 obtain ⟨c57,hc57,h⟩:=bind_some h
 refine ⟨_,(zgr [] e56 c57 (fun _ _=>hc57)).im,?_⟩
 conv=>whnf
 cases h
 conv=>whnf
 exact ⟨rfl,rfl⟩
theorem zht (a_:List Int) (b_:List Int) (p2_:(List Int)→(List Int)→Option Int) (f2_:FuncId) (hf2:∀ x0 x1 r,p2_ x0 x1=some r→Sp Tryz.prog f2_ [.im (nL cI x0),.im (nL cI x1)] (.im (nI r))) (r:Bool) (h:Ok (nL cI a_)→Ok (nL cI b_)→Ok (.ref [.fn f2_ []])→zdp a_ b_ p2_=some r):Sp Tryz.prog 140 [.im (nL cI a_),.im (nL cI b_),.im (.ref [.fn f2_ []])] (.im (nB r)):=by
 refine sp_of rfl [] rfl rfl rfl (Nat.le_of_ble_eq_true rfl) rfl fun hk=>?_
 replace h:=h hk.1 hk.2.1 hk.2.2.1
 have z1:lZ a_:=ok_len hk.1
 have z2:lZ b_:=ok_len hk.2.1
 unfold zdp at h
 conv=>whnf
 obtain ⟨c51,hc51,h⟩:=bind_some h
 refine ⟨_,hf2 a_ b_ c51 hc51,?_⟩
 conv=>whnf
 cases h
 conv=>whnf
 exact ⟨rfl,rfl⟩
theorem zdw (s_:List (List Int)) (eq_:(List Int)→(List Int)→Option Bool) (f1_:FuncId) (k1_0:IV) (hk1_0:nz k1_0=k1_0) (hf1:∀ x0 x1 r,eq_ x0 x1=some r→Sp Tryz.prog f1_ [.im (nL cI x0),.im (nL cI x1),.im k1_0] (.im (nB r))) (r:List (List Int)) (h:OkL (List.map (cL cI) s_)→Ok (.fn f1_ [k1_0])→zal s_ eq_=some r):Sp Tryz.prog 139 [.row 25 1 (List.map (cL cI) s_),.im (.fn f1_ [k1_0])] (.row 25 1 (List.map (cL cI) r)):=by
 refine sp_of rfl [] rfl rfl rfl (Nat.le_of_ble_eq_true rfl) rfl fun hk=>?_
 replace h:=h hk.1 hk.2.1
 have z1:lZ s_:=okl_len hk.1
 unfold zal at h
 conv=>whnf
 refine Side.mk rfl ?_
 conv=>whnf
 refine Nf.mk (List.length s_) len_map ?_
 conv=>whnf
 refine Both.mk ?_ ?_<;>intro b51
 obtain ⟨h,b51d⟩:=ctd b51 h
 conv=>whnf
 cases h
 conv=>whnf
 exact Side.mk ⟨rfl,trivial⟩ ⟨rfl,rfl⟩
 obtain ⟨h,b51d⟩:=cfd b51 h
 conv=>whnf
 obtain ⟨oc,hc,hk52⟩:=bind_some h
 clear h
 have h:=hc
 clear hc
 refine Cut.mkS oc (Y:=Unit) (fun (_:Unit)=>mkSt [(0,.osl 66 1)] [(66,.row 25 1 (List.map (cL cI) s_))] []) (fun (_:Unit)=>lZ s_∧True) (by rintro ⟨⟩;exact ((Holds.kdl 66 rfl).and (hT))) ?_ ?_
 conv=>whnf
 refine Loops.iter (fun (s:Nat)=>zal.s20 s_ eq_ s) (fun k356=>mkSt [(0,.osl 66 1),(1,.im (.fn f1_ [k1_0])),(5,.im (nI (↑k356:Int)))] [(66,.row 25 1 (List.map (cL cI) s_))] []) (fun k356=>lZ s_∧True) h (eA [(66,some 0)]) (by rintro k356;exact ((Holds.kdl 66 rfl).and (hT))) ?_
 clear h
 rintro k k356 o hp h ho432
 replace h:zal.s20 s_ eq_ k356=some o:=h
 unfold zal.s20 at h
 obtain ⟨z508,_⟩:=hp
 conv=>whnf
 refine Side.mk rfl ?_
 conv=>whnf
 refine Nf.mk (List.length s_) len_map ?_
 conv=>whnf
 refine Both.mk ?_ ?_<;>intro b433
 obtain ⟨h,b433d⟩:=ctd b433 h
 conv=>whnf
 obtain ⟨e434,he434,h⟩:=zaj h
 refine Side.mk ⟨(by omega),rfl,map_lt he434⟩ ?_
 conv=>whnf
 refine ⟨_,_,⟨rfl,map_at he434,rfl,rfl⟩,?_⟩
 conv=>whnf
 refine Arith.mk (by show inR _;unfold inR;omega) ?_
 conv=>whnf
 obtain ⟨e435,he435z,he435,h⟩:=idx_some h
 refine Side.mk ⟨he435z,rfl,map_lt he435⟩ ?_
 conv=>whnf
 refine ⟨_,_,⟨rfl,map_at he435,rfl,rfl⟩,?_⟩
 conv=>whnf
 obtain ⟨c436,hc436,h⟩:=bind_some h
 refine ⟨_,Sp.args (hf1 e434 e435 c436 hc436) (by rw [hk1_0];try rfl),?_⟩
 conv=>whnf
 refine Both.mk ?_ ?_<;>intro b437
 replace h:=cond_t b437 h
 conv=>whnf
 obtain ⟨c438,h⟩:=chk_some h
 refine Side.mk ⟨rfl,c438.1,by have hh_:=c438;simp only [List.length_map];omega,by have hh_:=c438;simp only [List.length_map];omega⟩ ?_
 conv=>whnf
 obtain ⟨⟨y471,k472⟩,hc,hk439⟩:=bind_some h
 clear h
 have h:=hc
 clear hc
 refine Cut.mk (mkSt [(0,.osl 66 1),(5,.im (nI (↑k472:Int)))] [(66,.row 25 1 (List.map (cL cI) y471))] []) (lZ y471∧True) ((Holds.kdl 66 rfl).and (hT)) ?_ (fun hp=>?_)
 conv=>whnf
 refine Loops.iter (fun (s:List (List Int)×Nat×Nat)=>zal.s18 eq_ k356 s.1 s.2.1 s.2.2) (fun (y481,k482,y483)=>mkSt [(0,.osl 66 1),(1,.im (.fn f1_ [k1_0])),(5,.im (nI (↑k482:Int))),(6,.osv 66 1 k356 1),(7,.im (nI (↑y483:Int)))] [(66,.row 25 1 (List.map (cL cI) y481))] []) (fun (y481,k482,y483)=>lZ y481∧True) h (Ent.mk [(66,some 66)] rfl ⟨⟨.osl 66 _,rfl,.osl rfl rfl rfl⟩,eI rfl rfl,eI rfl rfl,⟨.osv 66 _ _ _,rfl,.osv rfl rfl rfl⟩,eI rfl rfl,trivial⟩ ⟨.inl ⟨66,rfl,rfl,trivial⟩,trivial⟩ trivial) (by rintro ⟨y481,k482,y483⟩;exact ((Holds.kdl 66 rfl).and (hT))) ?_
 clear h
 rintro k ⟨y481,k482,y483⟩ o hp h ho493
 replace h:zal.s18 eq_ k356 y481 k482 y483=some o:=h
 unfold zal.s18 at h
 obtain ⟨z503,_⟩:=hp
 conv=>whnf
 refine Side.mk rfl ?_
 conv=>whnf
 refine Nf.mk (List.length y481-k356) len_own ?_
 conv=>whnf
 refine Both.mk ?_ ?_<;>intro b494
 obtain ⟨h,b494d⟩:=ctd b494 h
 conv=>whnf
 obtain ⟨e495,he495,h⟩:=zaj h
 refine Side.mk ⟨(by omega),rfl,map_lt he495⟩ ?_
 conv=>whnf
 refine Nf.mk (k356+y483) rfl ?_
 conv=>whnf
 refine ⟨_,_,⟨rfl,map_at he495,rfl,rfl⟩,?_⟩
 conv=>whnf
 refine Arith.mk (by show inR _;unfold inR;omega) ?_
 conv=>whnf
 obtain ⟨c497,h⟩:=chk_some h
 obtain ⟨e496,he496,h⟩:=zaj h
 refine Side.mk ⟨c497,rfl,map_lt he496⟩ ?_
 conv=>whnf
 refine Nf.mk (k356+(Int.toNat ((↑y483:Int)-1))) rfl ?_
 conv=>whnf
 refine ⟨_,_,⟨rfl,map_at he496,rfl,rfl⟩,?_⟩
 conv=>whnf
 obtain ⟨c498,hc498,h⟩:=bind_some h
 refine ⟨_,Sp.args (hf1 e495 e496 c498 hc498) (by rw [hk1_0];try rfl),?_⟩
 conv=>whnf
 refine Both.mk ?_ ?_<;>intro b499
 replace h:=cond_t b499 h
 conv=>whnf
 obtain ⟨e500,he500,h⟩:=zaj h
 refine Side.mk ⟨(by omega),rfl,map_lt he500⟩ ?_
 conv=>whnf
 refine Nf.mk (k356+y483) rfl ?_
 conv=>whnf
 refine ⟨_,_,⟨rfl,map_at he500,rfl,rfl⟩,?_⟩
 conv=>whnf
 obtain ⟨e501,he501,h⟩:=zaj h
 refine Side.mk ⟨(by omega),rfl,map_lt he501⟩ ?_
 conv=>whnf
 refine Side.mk ⟨rfl,trivial⟩ ?_
 conv=>whnf
 refine ⟨_,map_at he501,?_⟩
 conv=>whnf
 refine Nf.mk (List.map (cL cI) (List.set y481 k482 e500)) (set_map rfl) ?_
 conv=>whnf
 obtain ⟨c502,h⟩:=chk_some h
 refine Arith.mk c502 ?_
 conv=>whnf
 refine Arith.mk (by show inR _;unfold inR;omega) ?_
 conv=>whnf
 cases h
 exact Nxt.mk _ ho493 (Ent.mk [(66,some 66)] rfl ⟨⟨.osl 66 _,rfl,.osl rfl rfl rfl⟩,eI rfl rfl,eI rfl rfl,⟨.osv 66 _ _ _,rfl,.osv rfl rfl rfl⟩,eI rfl rfl,trivial⟩ ⟨.inl ⟨66,rfl,rfl,trivial⟩,trivial⟩ trivial)
 replace h:=cond_f b499 h
 conv=>whnf
 refine Arith.mk (by show inR _;unfold inR;omega) ?_
 conv=>whnf
 cases h
 exact Nxt.mk _ ho493 (Ent.mk [(66,some 66)] rfl ⟨⟨.osl 66 _,rfl,.osl rfl rfl rfl⟩,eI rfl rfl,eI rfl rfl,⟨.osv 66 _ _ _,rfl,.osv rfl rfl rfl⟩,eI rfl rfl,trivial⟩ ⟨.inl ⟨66,rfl,rfl,trivial⟩,trivial⟩ trivial)
 obtain ⟨h,b494d⟩:=cfd b494 h
 conv=>whnf
 cases h
 have ho493:_=_:=ho493
 cases ho493
 exact Join.mk (eA [(66,some 66)])
 replace h:zal.k19 y471 k472=some _:=hk439
 unfold zal.k19 at h
 obtain ⟨z504,_⟩:=hp
 conv=>whnf
 obtain ⟨c505,h⟩:=chk_some h
 refine Side.mk ⟨rfl,c505.1,by have hh_:=c505;simp only [List.length_map];omega,by have hh_:=c505;simp only [List.length_map];omega⟩ ?_
 conv=>whnf
 obtain ⟨c506,h⟩:=chk_some h
 refine Side.mk ⟨rfl,by have hh_:=c506;simp only [List.length_map];omega⟩ ?_
 conv=>whnf
 refine Nf.mk (List.map (cL cI) (List.take k472 y471++List.replicate (List.length y471-k472) [])) (clr_map (z:=[]) rfl) ?_
 conv=>whnf
 obtain ⟨c507,h⟩:=chk_some h
 refine Side.mk ⟨rfl,c507.1,by have hh_:=c507;simp only [List.length_map];omega,by have hh_:=c507;simp only [List.length_map];omega⟩ ?_
 conv=>whnf
 refine Nf.mk (List.map (cL cI) (List.take k472 (List.take k472 y471++List.replicate (List.length y471-k472) []))) cut_own ?_
 conv=>whnf
 cases h
 have ho432:_=_:=ho432
 cases ho432
 replace h:some _=some _:=hk52
 cases h
 conv=>whnf
 exact Side.mk ⟨rfl,trivial⟩ ⟨rfl,rfl⟩
 replace h:=cond_f b437 h
 conv=>whnf
 refine Arith.mk (by show inR _;unfold inR;omega) ?_
 conv=>whnf
 cases h
 exact Nxt.mk _ ho432 (eA [(66,some 66)])
 obtain ⟨h,b433d⟩:=cfd b433 h
 conv=>whnf
 cases h
 have ho432:_=_:=ho432
 cases ho432
 exact JoinS.mk' _ rfl (eA [(66,some 66)])
 rintro ⟨⟩ rfl hp
 replace h:=sum_inl hk52
 obtain ⟨z509,_⟩:=hp
 conv=>whnf
 cases h
 conv=>whnf
 exact Side.mk ⟨rfl,trivial⟩ ⟨rfl,rfl⟩
theorem zfk (l_:List (List Int)) (order_:(List Int)→(List Int)→Option Int) (f1_:FuncId) (hf1:∀ x0 x1 r,order_ x0 x1=some r→Sp Tryz.prog f1_ [.im (nL cI x0),.im (nL cI x1)] (.im (nI r))) (hd1:CmpE Tryz.prog f1_ (fun x=>nL cI x) order_) (r:List (List Int)) (h:Ok (nL (cL cI) l_)→Ok (.fn f1_ [])→zb6 l_ order_=some r):Sp Tryz.prog 121 [.im (nL (cL cI) l_),.im (.fn f1_ [])] (.row 25 1 (List.map (cL cI) r)):=by
 refine sp_of rfl [13000,16000,2013000] rfl rfl rfl (Nat.le_of_ble_eq_true rfl) rfl fun hk=>?_
 replace h:=h hk.1 hk.2.1
 have z1:lZ l_:=ok_len hk.1
 unfold zb6 at h
 conv=>whnf
 obtain ⟨c51,hc51,h⟩:=bind_some h
 refine ⟨_,(zix l_ c51 (hc51)),?_⟩
 conv=>whnf
 refine Side.mk rfl ?_
 conv=>whnf
 refine Side.mk ⟨rfl,trivial⟩ ?_
 conv=>whnf
 obtain ⟨c52,hc52,h⟩:=bind_some h
 refine ⟨_,(zg1 c51 order_ f1_ hd1 c52 (hc52)),?_⟩
 conv=>whnf
 refine Side.mk ⟨rfl,rfl,trivial⟩ ?_
 conv=>whnf
 obtain ⟨c53,hc53,h⟩:=bind_some h
 refine ⟨_,(zdw c52 (fun u0 u1=>zdp u0 u1 order_) 140 (.ref [.fn f1_ []]) rfl (fun u0 u1 r h=>(zht u0 u1 order_ f1_ hf1 r (fun _ _ _=>h))) c53 (fun _ _=>hc53)),?_⟩
 conv=>whnf
 refine Side.mk rfl ?_
 conv=>whnf
 refine Nf.mk (List.length c53) len_map ?_
 conv=>whnf
 obtain ⟨y73,hc,hk54⟩:=bind_some h
 clear h
 have h:=hc
 clear hc
 refine Cut.mk (mkSt [(5,.osl 64 1)] [(64,.row 25 1 (List.map (cL cI) y73))] []) (lZ y73∧True) ((Holds.kdl 64 rfl).and (hT)) ?_ (fun hp=>?_)
 conv=>whnf
 refine Loops.iter (fun (s:List (List Int)×Nat)=>zb6.s2 c53 s.1 s.2) (fun (y78,y79)=>mkSt [(5,.osl 64 1),(16,.osl 64 1),(17,.im (nI (↑(List.length c53):Int))),(18,.im (nI (↑y79:Int)))] [(64,.row 25 1 (List.map (cL cI) y78))] []) (fun (y78,y79)=>lZ y78∧True) h (eA [(64,some 15)]) (by rintro ⟨y78,y79⟩;exact ((Holds.kdl 64 rfl).and (hT))) ?_
 clear h
 rintro k ⟨y78,y79⟩ o hp h ho85
 replace h:zb6.s2 c53 y78 y79=some o:=h
 unfold zb6.s2 at h
 obtain ⟨z91,_⟩:=hp
 conv=>whnf
 refine Both.mk ?_ ?_<;>intro b86
 obtain ⟨h,b86d⟩:=ctd b86 h
 conv=>whnf
 obtain ⟨e87,he87,h⟩:=zaj h
 refine Side.mk ⟨(by omega),rfl,map_lt he87⟩ ?_
 conv=>whnf
 refine ⟨_,_,⟨rfl,map_at he87,rfl,rfl⟩,?_⟩
 conv=>whnf
 obtain ⟨c88,hc88,h⟩:=bind_some h
 refine ⟨_,(za4 e87 c88 (hc88)).im,?_⟩
 conv=>whnf
 obtain ⟨e89,he89,h⟩:=zaj h
 refine Side.mk ⟨(by omega),rfl,map_lt he89⟩ ?_
 conv=>whnf
 refine Side.mk ⟨rfl,trivial⟩ ?_
 conv=>whnf
 refine ⟨_,map_at he89,?_⟩
 conv=>whnf
 refine Nf.mk (List.map (cL cI) (List.set y78 y79 c88)) (set_map rfl) ?_
 conv=>whnf
 obtain ⟨c90,h⟩:=chk_some h
 refine Arith.mk c90 ?_
 conv=>whnf
 cases h
 exact Nxt.mk _ ho85 (eA [(64,some 64)])
 obtain ⟨h,b86d⟩:=cfd b86 h
 conv=>whnf
 cases h
 have ho85:_=_:=ho85
 cases ho85
 exact Join.mk (eA [(64,some 64)])
 replace h:=hk54
 obtain ⟨z92,_⟩:=hp
 conv=>whnf
 cases h
 conv=>whnf
 exact Side.mk ⟨rfl,trivial⟩ ⟨rfl,rfl⟩
theorem zel (a_:List Int) (b_:List Int) (r:Int) (h:Ok (nL cI a_)→Ok (nL cI b_)→zb1 a_ b_=some r):Sp Tryz.prog 72 [.im (nL cI a_),.im (nL cI b_)] (.im (nI r)):=by
 refine sp_of rfl [] rfl rfl rfl (Nat.le_of_ble_eq_true rfl) rfl fun hk=>?_
 replace h:=h hk.1 hk.2.1
 have z1:lZ a_:=ok_len hk.1
 have z2:lZ b_:=ok_len hk.2.1
 unfold zb1 at h
 conv=>whnf
 refine Nf.mk (List.length a_) len_map ?_
 conv=>whnf
 refine Nf.mk (List.length b_) len_map ?_
 conv=>whnf
 obtain ⟨oc,hc,hk51⟩:=bind_some h
 clear h
 have h:=hc
 clear hc
 refine Cut.mkS oc (Y:=Unit) (fun (_:Unit)=>mkSt [(0,.im (nL cI a_)),(1,.im (nL cI b_))] [] []) (fun (_:Unit)=>lZ a_∧lZ b_∧True) (by rintro ⟨⟩;exact ((Holds.avl 0 rfl).and ((Holds.avl 1 rfl).and (hT)))) ?_ ?_
 conv=>whnf
 refine Loops.iter (fun (s:Nat)=>zb1.s2 a_ b_ s) (fun y72=>mkSt [(0,.im (nL cI a_)),(1,.im (nL cI b_)),(10,.im (nI (min (↑(List.length a_):Int) (↑(List.length b_):Int)))),(11,.im (nI (↑y72:Int)))] [] []) (fun y72=>lZ a_∧lZ b_∧True) h (eA []) (by rintro y72;exact ((Holds.avl 0 rfl).and ((Holds.avl 1 rfl).and (hT)))) ?_
 clear h
 rintro k y72 o hp h ho77
 replace h:zb1.s2 a_ b_ y72=some o:=h
 unfold zb1.s2 at h
 obtain ⟨z82,z83,_⟩:=hp
 conv=>whnf
 refine Both.mk ?_ ?_<;>intro b78
 obtain ⟨h,b78d⟩:=ctd b78 h
 conv=>whnf
 obtain ⟨e79,he79,h⟩:=zaj h
 refine ⟨_,⟨(by omega),map_at he79,rfl⟩,?_⟩
 conv=>whnf
 obtain ⟨e80,he80,h⟩:=zaj h
 refine ⟨_,⟨(by omega),map_at he80,rfl⟩,?_⟩
 conv=>whnf
 refine Both.mk ?_ ?_<;>intro b81
 obtain ⟨h,b81d⟩:=ctd b81 h
 conv=>whnf
 cases h
 have ho77:_=_:=ho77
 cases ho77
 replace h:some _=some _:=hk51
 cases h
 conv=>whnf
 exact ⟨rfl,rfl⟩
 obtain ⟨h,b81d⟩:=cfd b81 h
 conv=>whnf
 refine Arith.mk (by show inR _;unfold inR;omega) ?_
 conv=>whnf
 cases h
 exact Nxt.mk _ ho77 (eA [])
 obtain ⟨h,b78d⟩:=cfd b78 h
 conv=>whnf
 cases h
 have ho77:_=_:=ho77
 cases ho77
 exact JoinS.mk' _ rfl (eA [])
 rintro ⟨⟩ rfl hp
 replace h:=sum_inl hk51
 obtain ⟨z84,z85,_⟩:=hp
 conv=>whnf
 refine Nf.mk (List.length a_) len_map ?_
 conv=>whnf
 refine Nf.mk (List.length b_) len_map ?_
 conv=>whnf
 cases h
 conv=>whnf
 exact ⟨rfl,rfl⟩
theorem zc1 (w_:List Int) (p_:List Int) (r:Bool) (h:Ok (nL cI w_)→Ok (nL cI p_)→zch w_ p_=some r):Sp Tryz.prog 45 [.im (nL cI w_),.im (nL cI p_)] (.im (nB r)):=by
 refine sp_of rfl [] rfl rfl rfl (Nat.le_of_ble_eq_true rfl) rfl fun hk=>?_
 replace h:=h hk.1 hk.2.1
 have z1:lZ w_:=ok_len hk.1
 have z2:lZ p_:=ok_len hk.2.1
 unfold zch at h
 conv=>whnf
 obtain ⟨c51,hc51,h⟩:=bind_some h
 refine ⟨_,(zel w_ p_ c51 (fun _ _=>hc51)),?_⟩
 conv=>whnf
 refine Nf.mk (List.length p_) len_map ?_
 conv=>whnf
 cases h
 conv=>whnf
 exact ⟨rfl,rfl⟩
theorem zgs (x_:Int) (r:Bool) (h:Ok (nI x_)→cmp_isNaN_int x_=some r):Sp Tryz.prog 163 [.im (nI x_)] (.im (nB r)):=by
 refine sp_of rfl [] rfl rfl rfl (Nat.le_of_ble_eq_true rfl) rfl fun hk=>?_
 replace h:=h hk.1
 unfold cmp_isNaN_int at h
 conv=>whnf
 cases h
 conv=>whnf
 exact ⟨rfl,rfl⟩
theorem zfo (x_:Int) (y_:Int) (r:Int) (h:Ok (nI x_)→Ok (nI y_)→cmp_Compare_int x_ y_=some r):Sp Tryz.prog 155 [.im (nI x_),.im (nI y_)] (.im (nI r)):=by
 refine sp_of rfl [] rfl rfl rfl (Nat.le_of_ble_eq_true rfl) rfl fun hk=>?_
 replace h:=h hk.1 hk.2.1
 unfold cmp_Compare_int at h
 conv=>whnf
 obtain ⟨c51,hc51,h⟩:=bind_some h
 refine ⟨_,(zgs x_ c51 (fun _=>hc51)),?_⟩
 conv=>whnf
 obtain ⟨c52,hc52,h⟩:=bind_some h
 refine ⟨_,(zgs y_ c52 (fun _=>hc52)),?_⟩
 conv=>whnf
 refine Both.mk ?_ ?_<;>intro b53
 replace h:=cond_t b53 h
 conv=>whnf
 refine Both.mk ?_ ?_<;>intro b54
 replace h:=cond_t b54 h
 conv=>whnf
 cases h
 conv=>whnf
 exact ⟨rfl,rfl⟩
 replace h:=cond_f b54 h
 conv=>whnf
 cases h
 conv=>whnf
 exact ⟨rfl,rfl⟩
 replace h:=cond_f b53 h
 conv=>whnf
 refine Both.mk ?_ ?_<;>intro b55
 replace h:=cond_t b55 h
 conv=>whnf
 cases h
 conv=>whnf
 exact ⟨rfl,rfl⟩
 replace h:=cond_f b55 h
 conv=>whnf
 refine Both.mk ?_ ?_<;>intro b56
 obtain ⟨h,b56d⟩:=ctd b56 h
 conv=>whnf
 cases h
 conv=>whnf
 exact ⟨rfl,rfl⟩
 obtain ⟨h,b56d⟩:=cfd b56 h
 conv=>whnf
 refine Both.mk ?_ ?_<;>intro b57
 obtain ⟨h,b57d⟩:=ctd b57 h
 conv=>whnf
 cases h
 conv=>whnf
 exact ⟨rfl,rfl⟩
 obtain ⟨h,b57d⟩:=cfd b57 h
 conv=>whnf
 cases h
 conv=>whnf
 exact ⟨rfl,rfl⟩
theorem zdr (s1_:List Int) (s2_:List Int) (r:Int) (h:Ok (nL cI s1_)→Ok (nL cI s2_)→zax s1_ s2_=some r):Sp Tryz.prog 141 [.im (nL cI s1_),.im (nL cI s2_)] (.im (nI r)):=by
 refine sp_of rfl [] rfl rfl rfl (Nat.le_of_ble_eq_true rfl) rfl fun hk=>?_
 replace h:=h hk.1 hk.2.1
 have z1:lZ s1_:=ok_len hk.1
 have z2:lZ s2_:=ok_len hk.2.1
 unfold zax at h
 conv=>whnf
 refine Nf.mk (List.length s1_) len_map ?_
 conv=>whnf
 obtain ⟨oc,hc,hk51⟩:=bind_some h
 clear h
 have h:=hc
 clear hc
 refine Cut.mkS oc (Y:=Unit) (fun (_:Unit)=>mkSt [(0,.im (nL cI s1_)),(1,.im (nL cI s2_))] [] []) (fun (_:Unit)=>lZ s1_∧lZ s2_∧True) (by rintro ⟨⟩;exact ((Holds.avl 0 rfl).and ((Holds.avl 1 rfl).and (hT)))) ?_ ?_
 conv=>whnf
 refine Loops.iter (fun (s:Nat)=>zax.s2 s1_ s2_ s) (fun y80=>mkSt [(0,.im (nL cI s1_)),(1,.im (nL cI s2_)),(9,.im (nL cI s1_)),(10,.im (nI (↑(List.length s1_):Int))),(11,.im (nI (↑y80:Int)))] [] []) (fun y80=>lZ s1_∧lZ s2_∧True) h (eA []) (by rintro y80;exact ((Holds.avl 0 rfl).and ((Holds.avl 1 rfl).and (hT)))) ?_
 clear h
 rintro k y80 o hp h ho87
 replace h:zax.s2 s1_ s2_ y80=some o:=h
 unfold zax.s2 at h
 obtain ⟨z94,z95,_⟩:=hp
 conv=>whnf
 refine Both.mk ?_ ?_<;>intro b88
 obtain ⟨h,b88d⟩:=ctd b88 h
 conv=>whnf
 obtain ⟨e89,he89,h⟩:=zaj h
 refine ⟨_,⟨(by omega),map_at he89,rfl⟩,?_⟩
 conv=>whnf
 refine Nf.mk (List.length s2_) len_map ?_
 conv=>whnf
 refine Both.mk ?_ ?_<;>intro b90
 obtain ⟨h,b90d⟩:=ctd b90 h
 conv=>whnf
 cases h
 have ho87:_=_:=ho87
 cases ho87
 replace h:some _=some _:=hk51
 cases h
 conv=>whnf
 exact ⟨rfl,rfl⟩
 obtain ⟨h,b90d⟩:=cfd b90 h
 conv=>whnf
 obtain ⟨e91,he91,h⟩:=zaj h
 refine ⟨_,⟨(by omega),map_at he91,rfl⟩,?_⟩
 conv=>whnf
 obtain ⟨c92,hc92,h⟩:=bind_some h
 refine ⟨_,(zfo e89 e91 c92 (fun _ _=>hc92)),?_⟩
 conv=>whnf
 refine Both.mk ?_ ?_<;>intro b93
 obtain ⟨h,b93d⟩:=ctd b93 h
 conv=>whnf
 cases h
 have ho87:_=_:=ho87
 cases ho87
 replace h:some _=some _:=hk51
 cases h
 conv=>whnf
 exact ⟨rfl,rfl⟩
 obtain ⟨h,b93d⟩:=cfd b93 h
 conv=>whnf
 refine Arith.mk (by show inR _;unfold inR;omega) ?_
 conv=>whnf
 cases h
 exact Nxt.mk _ ho87 (eA [])
 obtain ⟨h,b88d⟩:=cfd b88 h
 conv=>whnf
 cases h
 have ho87:_=_:=ho87
 cases ho87
 exact JoinS.mk' _ rfl (eA [])
 rintro ⟨⟩ rfl hp
 replace h:=sum_inl hk51
 obtain ⟨z96,z97,_⟩:=hp
 conv=>whnf
 refine Nf.mk (List.length s1_) len_map ?_
 conv=>whnf
 refine Nf.mk (List.length s2_) len_map ?_
 conv=>whnf
 refine Both.mk ?_ ?_<;>intro b98
 obtain ⟨h,b98d⟩:=ctd b98 h
 conv=>whnf
 cases h
 conv=>whnf
 exact ⟨rfl,rfl⟩
 obtain ⟨h,b98d⟩:=cfd b98 h
 conv=>whnf
 cases h
 conv=>whnf
 exact ⟨rfl,rfl⟩
theorem sp_cmp_Or_int (vals_:List Int) (r:Int) (h:Ok (nL cI vals_)→zcm vals_=some r):Sp Tryz.prog 154 [.im (nL cI vals_)] (.im (nI r)):=by
 refine sp_of rfl [] rfl rfl rfl (Nat.le_of_ble_eq_true rfl) rfl fun hk=>?_
 replace h:=h hk.1
 have z1:lZ vals_:=ok_len hk.1
 unfold zcm at h
 conv=>whnf
 refine Nf.mk (List.length vals_) len_map ?_
 conv=>whnf
 obtain ⟨oc,hc,hk51⟩:=bind_some h
 clear h
 have h:=hc
 clear hc
 refine Cut.mkS oc (Y:=Unit) (fun (_:Unit)=>mkSt [(3,.im (nI 0))] [] []) (fun (_:Unit)=>True) (by rintro ⟨⟩;exact (hT)) ?_ ?_
 conv=>whnf
 refine Loops.iter (fun (s:Nat)=>zcm.s2 vals_ s) (fun y67=>mkSt [(3,.im (nI 0)),(6,.im (nL cI vals_)),(7,.im (nI (↑(List.length vals_):Int))),(8,.im (nI (↑y67:Int)))] [] []) (fun y67=>lZ vals_∧True) h (eA []) (by rintro y67;exact ((Holds.avl 6 rfl).and (hT))) ?_
 clear h
 rintro k y67 o hp h ho71
 replace h:zcm.s2 vals_ y67=some o:=h
 unfold zcm.s2 at h
 obtain ⟨z75,_⟩:=hp
 conv=>whnf
 refine Both.mk ?_ ?_<;>intro b72
 obtain ⟨h,b72d⟩:=ctd b72 h
 conv=>whnf
 obtain ⟨e73,he73,h⟩:=zaj h
 refine ⟨_,⟨(by omega),map_at he73,rfl⟩,?_⟩
 conv=>whnf
 refine Both.mk ?_ ?_<;>intro b74
 obtain ⟨h,b74d⟩:=ctd b74 h
 conv=>whnf
 cases h
 have ho71:_=_:=ho71
 cases ho71
 replace h:some _=some _:=hk51
 cases h
 conv=>whnf
 exact ⟨rfl,rfl⟩
 obtain ⟨h,b74d⟩:=cfd b74 h
 conv=>whnf
 refine Arith.mk (by show inR _;unfold inR;omega) ?_
 conv=>whnf
 cases h
 exact Nxt.mk _ ho71 (eA [])
 obtain ⟨h,b72d⟩:=cfd b72 h
 conv=>whnf
 cases h
 have ho71:_=_:=ho71
 cases ho71
 exact JoinS.mk' _ rfl (eA [])
 rintro ⟨⟩ rfl hp
 replace h:=sum_inl hk51
 conv=>whnf
 cases h
 conv=>whnf
 exact ⟨rfl,rfl⟩
theorem zgv (a_:List Int) (b_:List Int) (r:Int) (h:Ok (nL cI a_)→Ok (nL cI b_)→zc8 a_ b_=some r):Sp Tryz.prog 135 [.im (nL cI a_),.im (nL cI b_)] (.im (nI r)):=by
 refine sp_of rfl [] rfl rfl rfl (Nat.le_of_ble_eq_true rfl) rfl fun hk=>?_
 replace h:=h hk.1 hk.2.1
 have z1:lZ a_:=ok_len hk.1
 have z2:lZ b_:=ok_len hk.2.1
 unfold zc8 at h
 conv=>whnf
 refine Nf.mk (List.length a_) len_map ?_
 conv=>whnf
 refine Nf.mk (List.length b_) len_map ?_
 conv=>whnf
 obtain ⟨c51,hc51,h⟩:=bind_some h
 refine ⟨_,(zfo (↑(List.length a_):Int) (↑(List.length b_):Int) c51 (fun _ _=>hc51)),?_⟩
 conv=>whnf
 obtain ⟨c52,hc52,h⟩:=bind_some h
 refine ⟨_,(zdr a_ b_ c52 (fun _ _=>hc52)),?_⟩
 conv=>whnf
 obtain ⟨c53,hc53,h⟩:=bind_some h
 refine ⟨_,(sp_cmp_Or_int [c51,c52] c53 (fun _=>hc53)),?_⟩
 conv=>whnf
 cases h
 conv=>whnf
 exact ⟨rfl,rfl⟩
theorem zf1 (l_:List (List Int)) (r:List (List Int)) (h:Ok (nL (cL cI) l_)→zej l_=some r):Sp Tryz.prog 119 [.im (nL (cL cI) l_)] (.row 25 1 (List.map (cL cI) r)):=by
 refine sp_of rfl [] rfl rfl rfl (Nat.le_of_ble_eq_true rfl) rfl fun hk=>?_
 replace h:=h hk.1
 have z1:lZ l_:=ok_len hk.1
 unfold zej at h
 conv=>whnf
 obtain ⟨c51,hc51,h⟩:=bind_some h
 refine ⟨_,(zfk l_ (fun u0 u1=>zc8 u0 u1) 135 (fun u0 u1 r h=>(zgv u0 u1 r (fun _ _=>h))) zi9 c51 (fun _ _=>hc51)),?_⟩
 conv=>whnf
 cases h
 conv=>whnf
 exact Side.mk ⟨rfl,trivial⟩ ⟨rfl,rfl⟩
theorem sp_word_Lex (a_:List Int) (b_:List Int) (r:Int) (h:Ok (nL cI a_)→Ok (nL cI b_)→word_Lex a_ b_=some r):Sp Tryz.prog 122 [.im (nL cI a_),.im (nL cI b_)] (.im (nI r)):=by
 refine sp_of rfl [] rfl rfl rfl (Nat.le_of_ble_eq_true rfl) rfl fun hk=>?_
 replace h:=h hk.1 hk.2.1
 have z1:lZ a_:=ok_len hk.1
 have z2:lZ b_:=ok_len hk.2.1
 unfold word_Lex at h
 conv=>whnf
 obtain ⟨c51,hc51,h⟩:=bind_some h
 refine ⟨_,(zdr a_ b_ c51 (fun _ _=>hc51)),?_⟩
 conv=>whnf
 cases h
 conv=>whnf
 exact ⟨rfl,rfl⟩
theorem zin (l_:List (List Int)) (r:List (List Int)) (h:Ok (nL (cL cI) l_)→zcj l_=some r):Sp Tryz.prog 91 [.im (nL (cL cI) l_)] (.im (nL (cL cI) r)):=by
 refine sp_of rfl [] rfl rfl rfl (Nat.le_of_ble_eq_true rfl) rfl fun hk=>?_
 replace h:=h hk.1
 have z1:lZ l_:=ok_len hk.1
 unfold zcj at h
 conv=>whnf
 obtain ⟨c51,hc51,h⟩:=bind_some h
 refine ⟨_,(zfk l_ (fun u0 u1=>word_Lex u0 u1) 122 (fun u0 u1 r h=>(sp_word_Lex u0 u1 r (fun _ _=>h))) cmpE_word_Lex c51 (fun _ _=>hc51)).im,?_⟩
 conv=>whnf
 refine Nf.mk (List.length c51) len_map ?_
 conv=>whnf
 obtain ⟨y104,hc,hk52⟩:=bind_some h
 clear h
 have h:=hc
 clear hc
 refine Cut.mk (mkSt [(4,.osl 64 1)] [(64,.row 25 1 (List.map (cL cI) y104))] []) (lZ y104∧True) ((Holds.kdl 64 rfl).and (hT)) ?_ (fun hp=>?_)
 conv=>whnf
 refine Loops.iter (fun (s:List (List Int)×Nat)=>zcj.s2 c51 s.1 s.2) (fun (y119,y120)=>mkSt [(3,.im (nL (cL cI) c51)),(4,.osl 64 1),(9,.im (nL (cL cI) c51)),(10,.im (nI (↑(List.length c51):Int))),(11,.im (nI (↑y120:Int)))] [(64,.row 25 1 (List.map (cL cI) y119))] []) (fun (y119,y120)=>lZ c51∧lZ y119∧True) h (eA [(64,none)]) (by rintro ⟨y119,y120⟩;exact ((Holds.avl 3 rfl).and ((Holds.kdl 64 rfl).and (hT)))) ?_
 clear h
 rintro k ⟨y119,y120⟩ o hp h ho137
 replace h:zcj.s2 c51 y119 y120=some o:=h
 unfold zcj.s2 at h
 obtain ⟨z154,z155,_⟩:=hp
 conv=>whnf
 refine Both.mk ?_ ?_<;>intro b138
 obtain ⟨h,b138d⟩:=ctd b138 h
 conv=>whnf
 obtain ⟨e139,he139,h⟩:=zaj h
 refine ⟨_,⟨(by omega),map_at he139,rfl⟩,?_⟩
 conv=>whnf
 obtain ⟨y145,hc,hk141⟩:=bind_some h
 clear h
 have h:=hc
 clear hc
 refine Cut.mk (mkSt [(3,.im (nL (cL cI) c51)),(4,.osl 64 1),(6,.im (nL cI e139)),(9,.im (nL (cL cI) c51)),(10,.im (nI (↑(List.length c51):Int))),(11,.im (nI (↑y120:Int))),(30,.im (nB y145))] [(64,.row 25 1 (List.map (cL cI) y119))] []) (lZ c51∧lZ e139∧lZ y119∧True) ((Holds.avl 3 rfl).and ((Holds.avl 6 rfl).and ((Holds.kdl 64 rfl).and (hT)))) ?_ (fun hp=>?_)
 conv=>whnf
 refine Arith.mk (by show inR _;unfold inR;omega) ?_
 conv=>whnf
 refine Nf.mk (List.length c51) len_map ?_
 conv=>whnf
 refine Both.mk ?_ ?_<;>intro b146
 replace b146:=beq_ff b146
 obtain ⟨h,b146d⟩:=cfd b146 h
 conv=>whnf
 iterate 2 (refine Both.yes (ff_beq b146) ?_;(conv=>whnf))
 refine Arith.mk (by show inR _;unfold inR;omega) ?_
 conv=>whnf
 refine Both.yes (ff_beq b146) ?_
 conv=>whnf
 obtain ⟨e147,he147,h⟩:=zaj h
 refine ⟨_,⟨(by omega),map_at he147,rfl⟩,?_⟩
 conv=>whnf
 iterate 3 (refine Both.yes (ff_beq b146) ?_;(conv=>whnf))
 obtain ⟨c148,hc148,h⟩:=bind_some h
 refine ⟨_,(zc1 e147 e139 c148 (fun _ _=>hc148)),?_⟩
 conv=>whnf
 refine Both.yes (ff_beq b146) ?_
 conv=>whnf
 refine Both.no b146 ?_
 conv=>whnf
 cases h
 exact Join.mk (eA [(64,some 64)])
 replace b146:=beq_ft b146
 obtain ⟨h,b146d⟩:=ctd b146 h
 conv=>whnf
 iterate 7 (refine Both.no (tf_beq b146) ?_;(conv=>whnf))
 refine Both.yes b146 ?_
 conv=>whnf
 cases h
 exact Join.mk (eA [(64,some 64)])
 replace h:=hk141
 obtain ⟨z149,z150,z151,_⟩:=hp
 conv=>whnf
 refine Both.mk ?_ ?_<;>intro b152
 replace h:=cond_t b152 h
 conv=>whnf
 obtain ⟨c153,h⟩:=chk_some h
 refine Side.mk ⟨rfl,map_len (l:=[e139]) (c:=cL cI) fun _=>rfl,show capOk _ 24 by simpa only [List.length_map,List.length_cons,List.length_nil,Nat.zero_add] using c153⟩ ?_
 conv=>whnf
 refine Nf.mk (List.map (cL cI) (y119++[e139])) (app_map (l:=y119) (m:=[e139]) (c:=cL cI)) ?_
 conv=>whnf
 refine Arith.mk (by show inR _;unfold inR;omega) ?_
 conv=>whnf
 cases h
 exact Nxt.mk _ ho137 (eA [(64,some 64)])
 replace h:=cond_f b152 h
 conv=>whnf
 refine Arith.mk (by show inR _;unfold inR;omega) ?_
 conv=>whnf
 cases h
 exact Nxt.mk _ ho137 (eA [(64,some 64)])
 obtain ⟨h,b138d⟩:=cfd b138 h
 conv=>whnf
 cases h
 have ho137:_=_:=ho137
 cases ho137
 exact Join.mk (eA [(64,some 64)])
 replace h:=hk52
 obtain ⟨z156,_⟩:=hp
 conv=>whnf
 refine Side.mk ⟨rfl,trivial⟩ ?_
 conv=>whnf
 obtain ⟨c157,hc157,h⟩:=bind_some h
 refine ⟨_,(zf1 y104 c157 (fun _=>hc157)).im,?_⟩
 conv=>whnf
 cases h
 conv=>whnf
 exact ⟨rfl,rfl⟩
theorem zh1 (m_:zab) (r:List Int) (h:Ok (.agg (zad m_))→zbq m_=some r):Sp Tryz.prog 96 [.im (.agg (zad m_))] (.row 3 1 (List.map cI r)):=by
 refine sp_of rfl [21,700001] rfl rfl rfl (Nat.le_of_ble_eq_true rfl) rfl fun hk=>?_
 replace h:=h hk.1
 have z1:lZ m_.Next:=ok_len (Ok.agg_at hk.1 2 rfl)
 have z2:lZ m_.Out:=ok_len (Ok.agg_at hk.1 3 rfl)
 unfold zbq at h
 conv=>whnf
 obtain ⟨c51,hc51,h⟩:=bind_some h
 refine ⟨_,(zbr m_ c51 (fun _=>hc51)),?_⟩
 conv=>whnf
 refine Both.mk ?_ ?_<;>intro b52
 obtain ⟨h,b52d⟩:=ctd b52 h
 conv=>whnf
 cases h
 conv=>whnf
 exact ⟨rfl,rfl⟩
 obtain ⟨h,b52d⟩:=cfd b52 h
 conv=>whnf
 refine Nf.mk (List.length m_.Next) len_map ?_
 conv=>whnf
 obtain ⟨c53,h⟩:=chk_some h
 refine Side.mk c53 ?_
 conv=>whnf
 refine Nf.mk (List.map cB (List.replicate (List.length m_.Next) false)) (rep_map (c:=cB) (z:=false) (n:=(List.length m_.Next)) rfl rfl) ?_
 conv=>whnf
 obtain ⟨e54,he54z,he54,h⟩:=idx_some h
 refine Side.mk ⟨he54z,rfl,map_lt he54⟩ ?_
 conv=>whnf
 refine Side.mk ⟨rfl,trivial⟩ ?_
 conv=>whnf
 refine ⟨_,map_at he54,?_⟩
 conv=>whnf
 refine Nf.mk (List.map cB (List.set (List.replicate (List.length m_.Next) false) m_.Start.toNat true)) (set_map rfl) ?_
 conv=>whnf
 obtain ⟨y236,hc,hk55⟩:=bind_some h
 clear h
 have h:=hc
 clear hc
 refine Cut.mk (mkSt [(4,.osl 64 1)] [(64,.row 3 1 (List.map cI y236))] []) (lZ y236∧True) ((Holds.kdl 64 rfl).and (hT)) ?_ (fun hp=>?_)
 conv=>whnf
 refine Loops.iter (fun (s:List Bool×List Int×Nat)=>zbq.s20 m_ s.1 s.2.1 s.2.2) (fun (y295,y296,i297)=>mkSt [(1,.im (.ref (zad m_))),(3,.osl 64 1),(4,.osl 65 1),(5,.im (nI (↑i297:Int)))] [(64,.row 4 1 (List.map cB y295)),(65,.row 3 1 (List.map cI y296))] []) (fun (y295,y296,i297)=>lZ y295∧lZ y296∧True) h (eA [(64,some 14),(65,some 21)]) (by rintro ⟨y295,y296,i297⟩;exact ((Holds.kdl 64 rfl).and ((Holds.kdl 65 rfl).and (hT)))) ?_
 clear h
 rintro k ⟨y295,y296,i297⟩ o hp h ho356
 replace h:zbq.s20 m_ y295 y296 i297=some o:=h
 unfold zbq.s20 at h
 obtain ⟨z415,z416,_⟩:=hp
 conv=>whnf
 refine Side.mk rfl ?_
 conv=>whnf
 refine Nf.mk (List.length y296) len_map ?_
 conv=>whnf
 refine Both.mk ?_ ?_<;>intro b357
 obtain ⟨h,b357d⟩:=ctd b357 h
 conv=>whnf
 obtain ⟨e358,he358,h⟩:=zaj h
 refine Side.mk ⟨(by omega),rfl,map_lt he358⟩ ?_
 conv=>whnf
 refine ⟨_,_,⟨rfl,map_at he358,rfl,rfl⟩,?_⟩
 conv=>whnf
 obtain ⟨e359,he359z,he359,h⟩:=idx_some h
 refine ⟨_,⟨he359z,map_at he359,rfl⟩,?_⟩
 conv=>whnf
 refine Nf.mk (List.length e359) len_map ?_
 conv=>whnf
 obtain ⟨⟨y386,y387⟩,hc,hk360⟩:=bind_some h
 clear h
 have h:=hc
 clear hc
 refine Cut.mk (mkSt [(1,.im (.ref (zad m_))),(3,.osl 64 1),(4,.osl 65 1),(5,.im (nI (↑i297:Int)))] [(64,.row 4 1 (List.map cB y386)),(65,.row 3 1 (List.map cI y387))] []) (lZ y386∧lZ y387∧True) ((Holds.kdl 64 rfl).and ((Holds.kdl 65 rfl).and (hT))) ?_ (fun hp=>?_)
 conv=>whnf
 refine Loops.iter (fun (s:List Bool×List Int×Nat)=>zbq.s18 e359 s.1 s.2.1 s.2.2) (fun (y394,y395,y396)=>mkSt [(1,.im (.ref (zad m_))),(3,.osl 64 1),(4,.osl 65 1),(5,.im (nI (↑i297:Int))),(35,.im (nL cI e359)),(36,.im (nI (↑(List.length e359):Int))),(37,.im (nI (↑y396:Int)))] [(64,.row 4 1 (List.map cB y394)),(65,.row 3 1 (List.map cI y395))] []) (fun (y394,y395,y396)=>lZ e359∧lZ y394∧lZ y395∧True) h (eA [(64,some 64),(65,some 65)]) (by rintro ⟨y394,y395,y396⟩;exact ((Holds.avl 35 rfl).and ((Holds.kdl 64 rfl).and ((Holds.kdl 65 rfl).and (hT))))) ?_
 clear h
 rintro k ⟨y394,y395,y396⟩ o hp h ho403
 replace h:zbq.s18 e359 y394 y395 y396=some o:=h
 unfold zbq.s18 at h
 obtain ⟨z410,z411,z412,_⟩:=hp
 conv=>whnf
 refine Both.mk ?_ ?_<;>intro b404
 obtain ⟨h,b404d⟩:=ctd b404 h
 conv=>whnf
 obtain ⟨e405,he405,h⟩:=zaj h
 refine ⟨_,⟨(by omega),map_at he405,rfl⟩,?_⟩
 conv=>whnf
 obtain ⟨e406,he406z,he406,h⟩:=idx_some h
 refine Side.mk ⟨he406z,rfl,map_lt he406⟩ ?_
 conv=>whnf
 refine ⟨_,_,⟨rfl,map_at he406,rfl,rfl⟩,?_⟩
 conv=>whnf
 refine Both.mk ?_ ?_<;>intro b407
 replace h:=cond_t b407 h
 conv=>whnf
 obtain ⟨e408,he408z,he408,h⟩:=idx_some h
 refine Side.mk ⟨he408z,rfl,map_lt he408⟩ ?_
 conv=>whnf
 refine Side.mk ⟨rfl,trivial⟩ ?_
 conv=>whnf
 refine ⟨_,map_at he408,?_⟩
 conv=>whnf
 refine Nf.mk (List.map cB (List.set y394 e405.toNat true)) (set_map rfl) ?_
 conv=>whnf
 obtain ⟨c409,h⟩:=chk_some h
 refine Side.mk ⟨rfl,map_len (l:=[e405]) (c:=cI) fun _=>rfl,show capOk _ 8 by simpa only [List.length_map,List.length_cons,List.length_nil,Nat.zero_add] using c409⟩ ?_
 conv=>whnf
 refine Nf.mk (List.map cI (y395++[e405])) (app_map (l:=y395) (m:=[e405]) (c:=cI)) ?_
 conv=>whnf
 refine Arith.mk (by show inR _;unfold inR;omega) ?_
 conv=>whnf
 cases h
 exact Nxt.mk _ ho403 (eA [(64,some 64),(65,some 65)])
 replace h:=cond_f b407 h
 conv=>whnf
 refine Arith.mk (by show inR _;unfold inR;omega) ?_
 conv=>whnf
 cases h
 exact Nxt.mk _ ho403 (eA [(64,some 64),(65,some 65)])
 obtain ⟨h,b404d⟩:=cfd b404 h
 conv=>whnf
 cases h
 have ho403:_=_:=ho403
 cases ho403
 exact Join.mk (eA [(64,some 64),(65,some 65)])
 replace h:zbq.k19 i297 y386 y387=some _:=hk360
 unfold zbq.k19 at h
 obtain ⟨z413,z414,_⟩:=hp
 conv=>whnf
 refine Arith.mk (by show inR _;unfold inR;omega) ?_
 conv=>whnf
 cases h
 exact Nxt.mk _ ho356 (eA [(64,some 64),(65,some 65)])
 obtain ⟨h,b357d⟩:=cfd b357 h
 conv=>whnf
 cases h
 have ho356:_=_:=ho356
 cases ho356
 exact Join.mk (eA [(64,some 65)])
 replace h:=hk55
 obtain ⟨z417,_⟩:=hp
 conv=>whnf
 cases h
 conv=>whnf
 exact Side.mk ⟨rfl,trivial⟩ ⟨rfl,rfl⟩
theorem sp_mealy_Trim (m_:zab) (r:zab×Int) (h:Ok (.agg (zad m_))→zbk m_=some r):Sp Tryz.prog 53 [.im (.agg (zad m_))] (.tup [.agg (zad r.1),nI r.2]):=by
 refine sp_of rfl [700001] rfl rfl rfl (Nat.le_of_ble_eq_true rfl) rfl fun hk=>?_
 replace h:=h hk.1
 have z1:lZ m_.Next:=ok_len (Ok.agg_at hk.1 2 rfl)
 have z2:lZ m_.Out:=ok_len (Ok.agg_at hk.1 3 rfl)
 unfold zbk at h
 conv=>whnf
 obtain ⟨c51,hc51,h⟩:=bind_some h
 refine ⟨_,(zbr m_ c51 (fun _=>hc51)),?_⟩
 conv=>whnf
 refine Both.mk ?_ ?_<;>intro b52
 obtain ⟨h,b52d⟩:=ctd b52 h
 conv=>whnf
 refine Side.mk rfl ?_
 conv=>whnf
 cases h
 conv=>whnf
 refine Side.mk ⟨rfl,trivial⟩ ?_
 conv=>whnf
 exact ⟨rfl,rfl⟩
 obtain ⟨h,b52d⟩:=cfd b52 h
 conv=>whnf
 obtain ⟨c53,hc53,h⟩:=bind_some h
 refine ⟨_,(zh1 m_ c53 (fun _=>hc53)).im,?_⟩
 conv=>whnf
 refine Nf.mk (List.length m_.Next) len_map ?_
 conv=>whnf
 obtain ⟨c54,h⟩:=chk_some h
 refine Side.mk c54 ?_
 conv=>whnf
 refine Nf.mk (List.map cI (List.replicate (List.length m_.Next) 0)) (rep_map (c:=cI) (z:=0) (n:=(List.length m_.Next)) rfl rfl) ?_
 conv=>whnf
 refine Nf.mk (List.length c53) len_map ?_
 conv=>whnf
 obtain ⟨y70,hc,hk55⟩:=bind_some h
 clear h
 have h:=hc
 clear hc
 refine Cut.mk (mkSt [(1,.im (.ref (zad m_))),(2,.own 89 1 0),(5,.im (nL cI c53)),(6,.osl 90 1)] [(89,.box 24 4),(90,.row 3 1 (List.map cI y70))] [(89,0,.im (nI 0)),(89,1,.im (nI 0)),(89,2,.im (.val (.slice none 0 0))),(89,3,.im (.val (.slice none 0 0)))]) (lZ c53∧lZ y70∧True) ((Holds.avl 5 rfl).and ((Holds.kdl 90 rfl).and (hT))) ?_ (fun hp=>?_)
 conv=>whnf
 refine Loops.iter (fun (s:List Int×Nat)=>zbk.s2 c53 s.1 s.2) (fun (y74,y75)=>mkSt [(1,.im (.ref (zad m_))),(2,.own 89 1 0),(5,.im (nL cI c53)),(6,.osl 90 1),(27,.im (nL cI c53)),(28,.im (nI (↑(List.length c53):Int))),(29,.im (nI (↑y75:Int)))] [(89,.box 24 4),(90,.row 3 1 (List.map cI y74))] [(89,0,.im (nI 0)),(89,1,.im (nI 0)),(89,2,.im (.val (.slice none 0 0))),(89,3,.im (.val (.slice none 0 0)))]) (fun (y74,y75)=>lZ c53∧lZ y74∧True) h (eA [(89,some 2),(90,some 26)]) (by rintro ⟨y74,y75⟩;exact ((Holds.avl 5 rfl).and ((Holds.kdl 90 rfl).and (hT)))) ?_
 clear h
 rintro k ⟨y74,y75⟩ o hp h ho79
 replace h:zbk.s2 c53 y74 y75=some o:=h
 unfold zbk.s2 at h
 obtain ⟨z83,z84,_⟩:=hp
 conv=>whnf
 refine Both.mk ?_ ?_<;>intro b80
 obtain ⟨h,b80d⟩:=ctd b80 h
 conv=>whnf
 obtain ⟨e81,he81,h⟩:=zaj h
 refine ⟨_,⟨(by omega),map_at he81,rfl⟩,?_⟩
 conv=>whnf
 obtain ⟨e82,he82z,he82,h⟩:=idx_some h
 refine Side.mk ⟨he82z,rfl,map_lt he82⟩ ?_
 conv=>whnf
 refine Side.mk ⟨rfl,trivial⟩ ?_
 conv=>whnf
 refine ⟨_,map_at he82,?_⟩
 conv=>whnf
 refine Nf.mk (List.map cI (List.set y74 e81.toNat (↑y75:Int))) (set_map rfl) ?_
 conv=>whnf
 refine Arith.mk (by show inR _;unfold inR;omega) ?_
 conv=>whnf
 cases h
 exact Nxt.mk _ ho79 (eA [(89,some 89),(90,some 90)])
 obtain ⟨h,b80d⟩:=cfd b80 h
 conv=>whnf
 cases h
 have ho79:_=_:=ho79
 cases ho79
 exact Join.mk (eA [(89,some 89),(90,some 90)])
 replace h:=hk55
 obtain ⟨z85,z86,_⟩:=hp
 conv=>whnf
 refine Side.mk rfl ?_
 conv=>whnf
 refine Nf.mk (List.length c53) len_map ?_
 conv=>whnf
 obtain ⟨⟨y259,y260⟩,hc,hk87⟩:=bind_some h
 clear h
 have h:=hc
 clear hc
 refine Cut.mk (mkSt [(2,.own 89 1 0),(9,.own 90 1 0)] [(89,.box 24 4),(90,.box 24 4),(91,.row 25 1 (List.map (cL cI) y259)),(92,.row 25 1 (List.map (cL cI) y260))] [(89,0,.im (nI 0)),(89,1,.im (nI 0)),(89,2,.im (.val (.slice none 0 0))),(89,3,.im (.val (.slice none 0 0))),(90,0,.im (nI m_.Inputs)),(90,1,.im (nI 0)),(90,2,.osl 91 1),(90,3,.osl 92 1)]) (lZ y259∧lZ y260∧True) ((Holds.kdl 91 rfl).and ((Holds.kdl 92 rfl).and (hT))) ?_ (fun hp=>?_)
 conv=>whnf
 refine Loops.iter (fun (s:List (List Int)×List (List Int)×Nat)=>zbk.s16 m_ c53 y70 s.1 s.2.1 s.2.2) (fun (y310,y311,y312)=>mkSt [(1,.im (.ref (zad m_))),(2,.own 89 1 0),(6,.osl 90 1),(9,.own 91 1 0),(42,.im (nL cI c53)),(43,.im (nI (↑(List.length c53):Int))),(44,.im (nI (↑y312:Int)))] [(89,.box 24 4),(90,.row 3 1 (List.map cI y70)),(91,.box 24 4),(92,.row 25 1 (List.map (cL cI) y310)),(93,.row 25 1 (List.map (cL cI) y311))] [(89,0,.im (nI 0)),(89,1,.im (nI 0)),(89,2,.im (.val (.slice none 0 0))),(89,3,.im (.val (.slice none 0 0))),(91,0,.im (nI m_.Inputs)),(91,1,.im (nI 0)),(91,2,.osl 92 1),(91,3,.osl 93 1)]) (fun (y310,y311,y312)=>lZ c53∧lZ y70∧lZ y310∧lZ y311∧True) h (Ent.mk [(89,some 89),(90,some 90),(91,some 9),(92,none),(93,none)] rfl ⟨eI rfl rfl,⟨.own 89 _ 0,rfl,.own rfl rfl rfl⟩,⟨.osl 90 _,rfl,.osl rfl rfl rfl⟩,⟨.own 9 _ 0,rfl,.own rfl rfl rfl⟩,eI rfl rfl,eI rfl rfl,eI rfl rfl,trivial⟩ ⟨.inl ⟨89,rfl,rfl,trivial⟩,.inl ⟨90,rfl,rfl,trivial⟩,.inl ⟨9,rfl,rfl,trivial⟩,.inr ⟨rfl,rfl,.inl ⟨_,_,rfl,by decide⟩⟩,.inr ⟨rfl,rfl,.inl ⟨_,_,rfl,by decide⟩⟩,trivial⟩ ⟨⟨89,.im _,rfl,rfl,.im (Sub.rfl' rfl)⟩,⟨89,.im _,rfl,rfl,.im (Sub.rfl' rfl)⟩,⟨89,.im (.val (.slice none 0 0)),rfl,rfl,.im (Sub.rfl' rfl)⟩,⟨89,.im (.val (.slice none 0 0)),rfl,rfl,.im (Sub.rfl' rfl)⟩,⟨9,.im _,rfl,rfl,.im (Sub.rfl' rfl)⟩,⟨9,.im _,rfl,rfl,.im (Sub.rfl' rfl)⟩,⟨9,.im (.val (.slice none 0 0)),rfl,rfl,.made rfl rfl⟩,⟨9,.im (.val (.slice none 0 0)),rfl,rfl,.made rfl rfl⟩,trivial⟩) (by rintro ⟨y310,y311,y312⟩;exact ((Holds.avl 42 rfl).and ((Holds.kdl 90 rfl).and ((Holds.kdl 92 rfl).and ((Holds.kdl 93 rfl).and (hT)))))) ?_
 clear h
 rintro k ⟨y310,y311,y312⟩ o hp h ho370
 replace h:zbk.s16 m_ c53 y70 y310 y311 y312=some o:=h
 unfold zbk.s16 at h
 obtain ⟨z428,z429,z430,z431,_⟩:=hp
 conv=>whnf
 refine Both.mk ?_ ?_<;>intro b371
 obtain ⟨h,b371d⟩:=ctd b371 h
 conv=>whnf
 obtain ⟨e372,he372,h⟩:=zaj h
 refine ⟨_,⟨(by omega),map_at he372,rfl⟩,?_⟩
 conv=>whnf
 obtain ⟨c373,h⟩:=chk_some h
 refine Side.mk c373 ?_
 conv=>whnf
 refine Nf.mk (List.map cI (List.replicate (Int.toNat m_.Inputs) 0)) (rep_map (c:=cI) (z:=0) (n:=(Int.toNat m_.Inputs)) rfl rfl) ?_
 conv=>whnf
 obtain ⟨e374,he374z,he374,h⟩:=idx_some h
 refine ⟨_,⟨he374z,map_at he374,rfl⟩,?_⟩
 conv=>whnf
 refine Nf.mk (List.length e374) len_map ?_
 conv=>whnf
 obtain ⟨y397,hc,hk375⟩:=bind_some h
 clear h
 have h:=hc
 clear hc
 refine Cut.mk (mkSt [(1,.im (.ref (zad m_))),(2,.own 89 1 0),(6,.osl 90 1),(9,.own 91 1 0),(11,.im (nI e372)),(12,.osl 94 1),(42,.im (nL cI c53)),(43,.im (nI (↑(List.length c53):Int))),(44,.im (nI (↑y312:Int)))] [(89,.box 24 4),(90,.row 3 1 (List.map cI y70)),(91,.box 24 4),(92,.row 25 1 (List.map (cL cI) y310)),(93,.row 25 1 (List.map (cL cI) y311)),(94,.row 3 1 (List.map cI y397))] [(89,0,.im (nI 0)),(89,1,.im (nI 0)),(89,2,.im (.val (.slice none 0 0))),(89,3,.im (.val (.slice none 0 0))),(91,0,.im (nI m_.Inputs)),(91,1,.im (nI 0)),(91,2,.osl 92 1),(91,3,.osl 93 1)]) (lZ c53∧lZ y70∧lZ y310∧lZ y311∧lZ y397∧True) ((Holds.avl 42 rfl).and ((Holds.kdl 90 rfl).and ((Holds.kdl 92 rfl).and ((Holds.kdl 93 rfl).and ((Holds.kdl 94 rfl).and (hT)))))) ?_ (fun hp=>?_)
 conv=>whnf
 refine Loops.iter (fun (s:List Int×Nat)=>zbk.s15 y70 e374 s.1 s.2) (fun (y402,y403)=>mkSt [(1,.im (.ref (zad m_))),(2,.own 89 1 0),(6,.osl 90 1),(9,.own 91 1 0),(11,.im (nI e372)),(12,.osl 94 1),(42,.im (nL cI c53)),(43,.im (nI (↑(List.length c53):Int))),(44,.im (nI (↑y312:Int))),(55,.im (nL cI e374)),(56,.im (nI (↑(List.length e374):Int))),(57,.im (nI (↑y403:Int)))] [(89,.box 24 4),(90,.row 3 1 (List.map cI y70)),(91,.box 24 4),(92,.row 25 1 (List.map (cL cI) y310)),(93,.row 25 1 (List.map (cL cI) y311)),(94,.row 3 1 (List.map cI y402))] [(89,0,.im (nI 0)),(89,1,.im (nI 0)),(89,2,.im (.val (.slice none 0 0))),(89,3,.im (.val (.slice none 0 0))),(91,0,.im (nI m_.Inputs)),(91,1,.im (nI 0)),(91,2,.osl 92 1),(91,3,.osl 93 1)]) (fun (y402,y403)=>lZ c53∧lZ e374∧lZ y70∧lZ y310∧lZ y311∧lZ y402∧True) h (eA [(89,some 89),(90,some 90),(91,some 91),(92,some 92),(93,some 93),(94,some 50)]) (by rintro ⟨y402,y403⟩;exact ((Holds.avl 42 rfl).and ((Holds.avl 55 rfl).and ((Holds.kdl 90 rfl).and ((Holds.kdl 92 rfl).and ((Holds.kdl 93 rfl).and ((Holds.kdl 94 rfl).and (hT)))))))) ?_
 clear h
 rintro k ⟨y402,y403⟩ o hp h ho408
 replace h:zbk.s15 y70 e374 y402 y403=some o:=h
 unfold zbk.s15 at h
 obtain ⟨z413,z414,z415,z416,z417,z418,_⟩:=hp
 conv=>whnf
 refine Both.mk ?_ ?_<;>intro b409
 obtain ⟨h,b409d⟩:=ctd b409 h
 conv=>whnf
 obtain ⟨e410,he410,h⟩:=zaj h
 refine ⟨_,⟨(by omega),map_at he410,rfl⟩,?_⟩
 conv=>whnf
 obtain ⟨e411,he411z,he411,h⟩:=idx_some h
 refine Side.mk ⟨he411z,rfl,map_lt he411⟩ ?_
 conv=>whnf
 refine ⟨_,_,⟨rfl,map_at he411,rfl,rfl⟩,?_⟩
 conv=>whnf
 obtain ⟨e412,he412,h⟩:=zaj h
 refine Side.mk ⟨(by omega),rfl,map_lt he412⟩ ?_
 conv=>whnf
 refine Side.mk ⟨rfl,trivial⟩ ?_
 conv=>whnf
 refine ⟨_,map_at he412,?_⟩
 conv=>whnf
 refine Nf.mk (List.map cI (List.set y402 y403 e411)) (set_map rfl) ?_
 conv=>whnf
 refine Arith.mk (by show inR _;unfold inR;omega) ?_
 conv=>whnf
 cases h
 exact Nxt.mk _ ho408 (eA [(89,some 89),(90,some 90),(91,some 91),(92,some 92),(93,some 93),(94,some 94)])
 obtain ⟨h,b409d⟩:=cfd b409 h
 conv=>whnf
 cases h
 have ho408:_=_:=ho408
 cases ho408
 exact Join.mk (eA [(89,some 89),(90,some 90),(91,some 91),(92,some 92),(93,some 93),(94,some 94)])
 replace h:=hk375
 obtain ⟨z419,z420,z421,z422,z423,_⟩:=hp
 conv=>whnf
 refine Side.mk rfl ?_
 conv=>whnf
 refine Side.mk rfl ?_
 conv=>whnf
 refine Side.mk ⟨rfl,trivial⟩ ?_
 conv=>whnf
 obtain ⟨c424,h⟩:=chk_some h
 refine Side.mk ⟨rfl,map_len (l:=[y397]) (c:=cL cI) fun _=>rfl,show capOk _ 24 by simpa only [List.length_map,List.length_cons,List.length_nil,Nat.zero_add] using c424⟩ ?_
 conv=>whnf
 refine Nf.mk (List.map (cL cI) (y310++[y397])) (app_map (l:=y310) (m:=[y397]) (c:=cL cI)) ?_
 conv=>whnf
 refine Side.mk rfl ?_
 conv=>whnf
 refine Side.mk rfl ?_
 conv=>whnf
 refine Side.mk rfl ?_
 conv=>whnf
 refine Side.mk rfl ?_
 conv=>whnf
 obtain ⟨e425,he425z,he425,h⟩:=idx_some h
 refine ⟨_,⟨he425z,map_at he425,rfl⟩,?_⟩
 conv=>whnf
 obtain ⟨c426,hc426,h⟩:=bind_some h
 refine ⟨_,(za4 e425 c426 (hc426)).im,?_⟩
 conv=>whnf
 obtain ⟨c427,h⟩:=chk_some h
 refine Side.mk ⟨rfl,map_len (l:=[c426]) (c:=cL cI) fun _=>rfl,show capOk _ 24 by simpa only [List.length_map,List.length_cons,List.length_nil,Nat.zero_add] using c427⟩ ?_
 conv=>whnf
 refine Nf.mk (List.map (cL cI) (y311++[c426])) (app_map (l:=y311) (m:=[c426]) (c:=cL cI)) ?_
 conv=>whnf
 refine Side.mk rfl ?_
 conv=>whnf
 refine Side.mk rfl ?_
 conv=>whnf
 refine Arith.mk (by show inR _;unfold inR;omega) ?_
 conv=>whnf
 cases h
 exact Nxt.mk _ ho370 (eA [(89,some 89),(90,some 90),(91,some 91),(92,some 92),(93,some 93)])
 obtain ⟨h,b371d⟩:=cfd b371 h
 conv=>whnf
 cases h
 have ho370:_=_:=ho370
 cases ho370
 exact Join.mk (eA [(89,some 89),(90,some 91),(91,some 92),(92,some 93)])
 replace h:zbk.k17 m_ y259 y260=some _:=hk87
 unfold zbk.k17 at h
 obtain ⟨z432,z433,_⟩:=hp
 conv=>whnf
 refine Side.mk rfl ?_
 conv=>whnf
 refine Side.mk rfl ?_
 conv=>whnf
 cases h
 conv=>whnf
 refine Side.mk ⟨rfl,trivial⟩ ?_
 conv=>whnf
 exact Side.mk ⟨rfl,rfl,trivial⟩ ⟨rfl,rfl⟩
theorem zka (m_:zab) (class_:List Int) (r:List Int×Int) (h:Ok (.agg (zad m_))→Ok (nL cI class_)→za7 m_ class_=some r):Sp Tryz.prog 142 [.im (.agg (zad m_)),.im (nL cI class_)] (.tup [nL cI r.1,nI r.2]):=by
 refine sp_of rfl [700002] rfl rfl rfl (Nat.le_of_ble_eq_true rfl) rfl fun hk=>?_
 replace h:=h hk.1 hk.2.1
 have z1:lZ m_.Next:=ok_len (Ok.agg_at hk.1 2 rfl)
 have z2:lZ m_.Out:=ok_len (Ok.agg_at hk.1 3 rfl)
 have z3:lZ class_:=ok_len hk.2.1
 unfold za7 at h
 conv=>whnf
 refine Nf.mk (List.length class_) len_map ?_
 conv=>whnf
 obtain ⟨c51,h⟩:=chk_some h
 refine Side.mk c51 ?_
 conv=>whnf
 refine Nf.mk (List.map cI (List.replicate (List.length class_) 0)) (rep_map (c:=cI) (z:=0) (n:=(List.length class_)) rfl rfl) ?_
 conv=>whnf
 refine Nf.mk (List.length class_) len_map ?_
 conv=>whnf
 obtain ⟨⟨y362,y363⟩,hc,hk52⟩:=bind_some h
 clear h
 have h:=hc
 clear hc
 refine Cut.mk (mkSt [(6,.osl 73 1),(7,.osl 74 1)] [(73,.map (mapV wA wI y362)),(74,.row 3 1 (List.map cI y363))] []) (lZ y363∧True) ((Holds.kdl 74 rfl).and (hT)) ?_ (fun hp=>?_)
 conv=>whnf
 refine Loops.iter (fun (s:(List (List Int×Int))×List Int×Nat)=>za7.s20 m_ class_ s.1 s.2.1 s.2.2) (fun (y465,y466,y467)=>mkSt [(1,.im (nL cI class_)),(2,.im (.ref (zad m_))),(6,.osl 73 1),(7,.osl 74 1),(18,.im (nI (↑(List.length class_):Int))),(19,.im (nI (↑y467:Int)))] [(73,.map (mapV wA wI y465)),(74,.row 3 1 (List.map cI y466))] []) (fun (y465,y466,y467)=>lZ class_∧lZ y466∧True) h (eA [(73,some 13),(74,some 16)]) (by rintro ⟨y465,y466,y467⟩;exact ((Holds.avl 1 rfl).and ((Holds.kdl 74 rfl).and (hT)))) ?_
 clear h
 rintro k ⟨y465,y466,y467⟩ o hp h ho569
 replace h:za7.s20 m_ class_ y465 y466 y467=some o:=h
 unfold za7.s20 at h
 obtain ⟨z671,z672,_⟩:=hp
 conv=>whnf
 refine Both.mk ?_ ?_<;>intro b570
 obtain ⟨h,b570d⟩:=ctd b570 h
 conv=>whnf
 refine Nf.mk (List.map cI (List.replicate 128 0)) rfl ?_
 conv=>whnf
 obtain ⟨y612,hc,hk571⟩:=bind_some h
 clear h
 have h:=hc
 clear hc
 refine Cut.mk (mkSt [(1,.im (nL cI class_)),(2,.im (.ref (zad m_))),(6,.osl 73 1),(7,.osl 74 1),(8,.im (nI (↑y467:Int))),(9,.elt 75 1 1 0 0),(18,.im (nI (↑(List.length class_):Int))),(19,.im (nI (↑y467:Int)))] [(73,.map (mapV wA wI y465)),(74,.row 3 1 (List.map cI y466)),(75,.row 221 1 (List.map cI y612))] []) (lZ class_∧lZ y466∧lZ y612∧True) ((Holds.avl 1 rfl).and ((Holds.kdl 74 rfl).and ((Holds.kdl 75 rfl).and (hT)))) ?_ (fun hp=>?_)
 conv=>whnf
 refine Loops.iter (fun (s:List Int×Nat)=>za7.s18 m_ class_ y467 s.1 s.2) (fun (y623,y624)=>mkSt [(1,.im (nL cI class_)),(2,.im (.ref (zad m_))),(6,.osl 73 1),(7,.osl 74 1),(8,.im (nI (↑y467:Int))),(9,.elt 75 1 1 0 0),(18,.im (nI (↑(List.length class_):Int))),(19,.im (nI (↑y467:Int))),(23,.im (nI m_.Inputs)),(24,.im (nI (↑y624:Int)))] [(73,.map (mapV wA wI y465)),(74,.row 3 1 (List.map cI y466)),(75,.row 221 1 (List.map cI y623))] []) (fun (y623,y624)=>lZ class_∧lZ y466∧lZ y623∧True) h (Ent.mk [(73,some 73),(74,some 74),(75,some 9)] rfl ⟨eI rfl rfl,eI rfl rfl,⟨.osl 73 _,rfl,.osl rfl rfl rfl⟩,⟨.osl 74 _,rfl,.osl rfl rfl rfl⟩,eI rfl rfl,⟨.elt 9 _ _ _ _,rfl,.elt rfl rfl rfl⟩,eI rfl rfl,eI rfl rfl,eI rfl rfl,eI rfl rfl,trivial⟩ ⟨.inl ⟨73,rfl,rfl,trivial⟩,.inl ⟨74,rfl,rfl,trivial⟩,.inl ⟨9,rfl,rfl,trivial⟩,trivial⟩ trivial) (by rintro ⟨y623,y624⟩;exact ((Holds.avl 1 rfl).and ((Holds.kdl 74 rfl).and ((Holds.kdl 75 rfl).and (hT))))) ?_
 clear h
 rintro k ⟨y623,y624⟩ o hp h ho637
 replace h:za7.s18 m_ class_ y467 y623 y624=some o:=h
 unfold za7.s18 at h
 obtain ⟨z650,z651,z652,_⟩:=hp
 conv=>whnf
 refine Both.mk ?_ ?_<;>intro b638
 obtain ⟨h,b638d⟩:=ctd b638 h
 conv=>whnf
 obtain ⟨e639,he639,h⟩:=zaj h
 refine ⟨_,⟨(by omega),map_at he639,rfl⟩,?_⟩
 conv=>whnf
 obtain ⟨e640,he640,h⟩:=zaj h
 refine ⟨_,⟨(by omega),map_at he640,rfl⟩,?_⟩
 conv=>whnf
 obtain ⟨c642,h⟩:=chk_some h
 obtain ⟨e641,he641,h⟩:=zaj h
 refine Side.mk ⟨by omega,c642,rfl⟩ ?_
 conv=>whnf
 refine Side.mk ⟨rfl,trivial⟩ ?_
 conv=>whnf
 refine ⟨_,map_at he641,?_⟩
 conv=>whnf
 refine Nf.mk (List.map cI (List.set y623 y624 e640)) (set_map rfl) ?_
 conv=>whnf
 obtain ⟨c643,h⟩:=chk_some h
 refine Arith.mk c643 ?_
 conv=>whnf
 obtain ⟨e644,he644,h⟩:=zaj h
 refine ⟨_,⟨(by omega),map_at he644,rfl⟩,?_⟩
 conv=>whnf
 obtain ⟨e645,he645,h⟩:=zaj h
 refine ⟨_,⟨(by omega),map_at he645,rfl⟩,?_⟩
 conv=>whnf
 obtain ⟨e646,he646z,he646,h⟩:=idx_some h
 refine ⟨_,⟨he646z,map_at he646,rfl⟩,?_⟩
 conv=>whnf
 obtain ⟨c648,h⟩:=chk_some h
 obtain ⟨e647,he647,h⟩:=zaj h
 refine Side.mk ⟨by omega,c648,rfl⟩ ?_
 conv=>whnf
 refine Side.mk ⟨rfl,trivial⟩ ?_
 conv=>whnf
 refine ⟨_,map_at he647,?_⟩
 conv=>whnf
 refine Nf.mk (List.map cI (List.set (List.set y623 y624 e640) (64+y624) e646)) (set_map rfl) ?_
 conv=>whnf
 obtain ⟨c649,h⟩:=chk_some h
 refine Arith.mk c649 ?_
 conv=>whnf
 cases h
 exact Nxt.mk _ ho637 (Ent.mk [(73,some 73),(74,some 74),(75,some 75)] rfl ⟨eI rfl rfl,eI rfl rfl,⟨.osl 73 _,rfl,.osl rfl rfl rfl⟩,⟨.osl 74 _,rfl,.osl rfl rfl rfl⟩,eI rfl rfl,⟨.elt 75 _ _ _ _,rfl,.elt rfl rfl rfl⟩,eI rfl rfl,eI rfl rfl,eI rfl rfl,eI rfl rfl,trivial⟩ ⟨.inl ⟨73,rfl,rfl,trivial⟩,.inl ⟨74,rfl,rfl,trivial⟩,.inl ⟨75,rfl,rfl,trivial⟩,trivial⟩ trivial)
 obtain ⟨h,b638d⟩:=cfd b638 h
 conv=>whnf
 cases h
 have ho637:_=_:=ho637
 cases ho637
 exact Join.mk (Ent.mk [(73,some 73),(74,some 74),(75,some 75)] rfl ⟨eI rfl rfl,eI rfl rfl,⟨.osl 73 _,rfl,.osl rfl rfl rfl⟩,⟨.osl 74 _,rfl,.osl rfl rfl rfl⟩,eI rfl rfl,⟨.elt 75 _ _ _ _,rfl,.elt rfl rfl rfl⟩,eI rfl rfl,eI rfl rfl,trivial⟩ ⟨.inl ⟨73,rfl,rfl,trivial⟩,.inl ⟨74,rfl,rfl,trivial⟩,.inl ⟨75,rfl,rfl,trivial⟩,trivial⟩ trivial)
 replace h:=hk571
 obtain ⟨z653,z654,z655,_⟩:=hp
 conv=>whnf
 obtain ⟨c656,h⟩:=chk_some h
 refine Side.mk ⟨rfl,by rw [List.length_map];exact c656⟩ ?_
 conv=>whnf
 refine Nf.mk (cA y612) flat_cA ?_
 conv=>whnf
 obtain ⟨c657,h⟩:=chk_some h
 refine Side.mk rfl ?_
 conv=>whnf
 refine ⟨y612,_,keys_arr (g:=wI) rfl c657,?_⟩
 conv=>whnf
 refine Nf.mk (wI ((mget y612 y465).getD 0)) ((getD_map rfl _).trans (congrArg (Option.getD · _) (get_arr _ _ _).symm)) ?_
 conv=>whnf
 refine Nf.mk (mget y612 y465).isSome ((isSome_map _).trans (congrArg Option.isSome (get_arr _ _ _).symm)) ?_
 conv=>whnf
 obtain ⟨⟨y663,n664⟩,hc,hk659⟩:=bind_some h
 clear h
 have h:=hc
 clear hc
 refine Cut.mk (mkSt [(1,.im (nL cI class_)),(2,.im (.ref (zad m_))),(6,.osl 73 1),(7,.osl 74 1),(8,.im (nI (↑y467:Int))),(11,.im (nI n664)),(18,.im (nI (↑(List.length class_):Int))),(19,.im (nI (↑y467:Int)))] [(73,.map (mapV wA wI y663)),(74,.row 3 1 (List.map cI y466))] []) (lZ class_∧lZ y466∧True) ((Holds.avl 1 rfl).and ((Holds.kdl 74 rfl).and (hT))) ?_ (fun hp=>?_)
 conv=>whnf
 refine Both.mk ?_ ?_<;>intro b665
 replace h:=cond_t b665 h
 conv=>whnf
 refine Side.mk rfl ?_
 conv=>whnf
 refine Nf.mk (List.length y465) len_mapV ?_
 conv=>whnf
 obtain ⟨c666,h⟩:=chk_some h
 refine Side.mk ⟨rfl,by rw [List.length_map];exact c666⟩ ?_
 conv=>whnf
 refine Nf.mk (cA y612) flat_cA ?_
 conv=>whnf
 obtain ⟨c667,h⟩:=chk_some h
 refine Side.mk rfl ?_
 conv=>whnf
 refine ⟨y612,_,keys_arr (g:=wI) rfl c667,?_⟩
 conv=>whnf
 refine Nf.mk (mapV wA wI (mset y612 (↑(List.length y465):Int) y465)) (by rw [set_arr];exact mapA_set _ _) ?_
 conv=>whnf
 cases h
 exact Join.mk (eA [(73,some 73),(74,some 74)])
 replace h:=cond_f b665 h
 conv=>whnf
 cases h
 exact Join.mk (eA [(73,some 73),(74,some 74)])
 replace h:za7.k19 y466 y467 y663 n664=some _:=hk659
 unfold za7.k19 at h
 obtain ⟨z668,z669,_⟩:=hp
 conv=>whnf
 obtain ⟨e670,he670,h⟩:=zaj h
 refine Side.mk ⟨(by omega),rfl,map_lt he670⟩ ?_
 conv=>whnf
 refine Side.mk ⟨rfl,trivial⟩ ?_
 conv=>whnf
 refine ⟨_,map_at he670,?_⟩
 conv=>whnf
 refine Nf.mk (List.map cI (List.set y466 y467 n664)) (set_map rfl) ?_
 conv=>whnf
 refine Arith.mk (by show inR _;unfold inR;omega) ?_
 conv=>whnf
 cases h
 exact Nxt.mk _ ho569 (eA [(73,some 73),(74,some 74)])
 obtain ⟨h,b570d⟩:=cfd b570 h
 conv=>whnf
 cases h
 have ho569:_=_:=ho569
 cases ho569
 exact Join.mk (eA [(73,some 73),(74,some 74)])
 replace h:za7.k21 y362 y363=some _:=hk52
 unfold za7.k21 at h
 obtain ⟨z673,_⟩:=hp
 conv=>whnf
 refine Side.mk rfl ?_
 conv=>whnf
 refine Nf.mk (List.length y362) len_mapV ?_
 conv=>whnf
 cases h
 conv=>whnf
 exact Side.mk ⟨rfl,trivial⟩ ⟨rfl,rfl⟩
end Go.Proofs.YtcneaiejdidooaaGreatDoor.Sym
