/-
  The contracts of the functions, read from the code by a program (ext.py): each function has its plain twin as its contract.
-/
import Derived.Test.YtcneaiejdidooaaGreatDoorM5
set_option linter.all false
namespace Go.Proofs.YtcneaiejdidooaaGreatDoor.Sym
open Go.RowKit
set_option maxRecDepth 100000
set_option linter.unusedVariables false
set_option maxHeartbeats 4000000
theorem zio (m_:zab) (k_:Int) (r:List Int×Int) (h:Ok (.agg (zad m_))→Ok (nI k_)→zck m_ k_=some r):Sp Tryz.prog 124 [.im (.agg (zad m_)),.im (nI k_)] (.tup [nL cI r.1,nI r.2]):=by
 refine sp_of rfl [700002,6000014] rfl rfl rfl (Nat.le_of_ble_eq_true rfl) rfl fun hk=>?_
 replace h:=h hk.1 hk.2.1
 have z1:lZ m_.Next:=ok_len (Ok.agg_at hk.1 2 rfl)
 have z2:lZ m_.Out:=ok_len (Ok.agg_at hk.1 3 rfl)
 unfold zck at h
 conv=>whnf
 refine Nf.mk (List.length m_.Next) len_map ?_
 conv=>whnf
 obtain ⟨c51,h⟩:=chk_some h
 refine Side.mk c51 ?_
 conv=>whnf
 refine Nf.mk (List.map cI (List.replicate (List.length m_.Next) 0)) (rep_map (c:=cI) (z:=0) (n:=(List.length m_.Next)) rfl rfl) ?_
 conv=>whnf
 refine Nf.mk (List.length m_.Next) len_map ?_
 conv=>whnf
 obtain ⟨oc,hc,hk52⟩:=bind_some h
 clear h
 have h:=hc
 clear hc
 refine Cut.mkS oc (Y:=List Int) (fun class67=>mkSt [(1,.im (nI k_)),(2,.im (.ref (zad m_))),(6,.im (nL cI class67))] [] []) (fun class67=>lZ class67∧True) (by rintro class67;exact ((Holds.avl 6 rfl).and (hT))) ?_ ?_
 conv=>whnf
 refine Loops.iter (fun (s:List Int×Int×Nat)=>zck.s2 m_ k_ s.1 s.2.1 s.2.2) (fun (class71,n72,y73)=>mkSt [(1,.im (nI k_)),(2,.im (.ref (zad m_))),(6,.im (nL cI class71)),(7,.im (nI n72)),(20,.im (nI (min (max k_ 0) (↑(List.length m_.Next):Int)))),(21,.im (nI (↑y73:Int)))] [] []) (fun (class71,n72,y73)=>lZ class71∧True) h (eA []) (by rintro ⟨class71,n72,y73⟩;exact ((Holds.avl 6 rfl).and (hT))) ?_
 clear h
 rintro k ⟨class71,n72,y73⟩ o hp h ho77
 replace h:zck.s2 m_ k_ class71 n72 y73=some o:=h
 unfold zck.s2 at h
 obtain ⟨z81,_⟩:=hp
 conv=>whnf
 refine Both.mk ?_ ?_<;>intro b78
 obtain ⟨h,b78d⟩:=ctd b78 h
 conv=>whnf
 obtain ⟨c79,hc79,h⟩:=bind_some h
 refine ⟨_,(zka m_ class71 c79 (fun _ _=>hc79)),?_⟩
 conv=>whnf
 refine Both.mk ?_ ?_<;>intro b80
 obtain ⟨h,b80d⟩:=ctd b80 h
 conv=>whnf
 cases h
 have ho77:_=_:=ho77
 cases ho77
 replace h:some _=some _:=hk52
 cases h
 conv=>whnf
 exact ⟨rfl,rfl⟩
 obtain ⟨h,b80d⟩:=cfd b80 h
 conv=>whnf
 refine Arith.mk (by show inR _;unfold inR;omega) ?_
 conv=>whnf
 cases h
 exact Nxt.mk _ ho77 (eA [])
 obtain ⟨h,b78d⟩:=cfd b78 h
 conv=>whnf
 cases h
 have ho77:_=_:=ho77
 cases ho77
 exact JoinS.mk' _ rfl (eA [])
 rintro class67 rfl hp
 replace h:=sum_inl hk52
 obtain ⟨z82,_⟩:=hp
 conv=>whnf
 refine Nf.mk (List.length m_.Next) len_map ?_
 conv=>whnf
 cases h
 conv=>whnf
 exact ⟨rfl,rfl⟩
theorem zgy (m_:zab) (k_:Int) (r:List Int×Int) (h:Ok (.agg (zad m_))→Ok (nI k_)→zd2 m_ k_=some r):Sp Tryz.prog 97 [.im (.agg (zad m_)),.im (nI k_)] (.tup [nL cI r.1,nI r.2]):=by
 refine sp_of rfl [700002] rfl rfl rfl (Nat.le_of_ble_eq_true rfl) rfl fun hk=>?_
 replace h:=h hk.1 hk.2.1
 have z1:lZ m_.Next:=ok_len (Ok.agg_at hk.1 2 rfl)
 have z2:lZ m_.Out:=ok_len (Ok.agg_at hk.1 3 rfl)
 unfold zd2 at h
 conv=>whnf
 obtain ⟨c51,hc51,h⟩:=bind_some h
 refine ⟨_,(zbr m_ c51 (fun _=>hc51)),?_⟩
 conv=>whnf
 refine Both.mk ?_ ?_<;>intro b52
 obtain ⟨h,b52d⟩:=ctd b52 h
 conv=>whnf
 cases h
 conv=>whnf
 exact ⟨rfl,rfl⟩
 obtain ⟨h,b52d⟩:=cfd b52 h
 conv=>whnf
 obtain ⟨c53,hc53,h⟩:=bind_some h
 refine ⟨_,(zio m_ k_ c53 (fun _ _=>hc53)),?_⟩
 conv=>whnf
 cases h
 conv=>whnf
 exact ⟨rfl,rfl⟩
theorem zie (m_:zab) (r:List Int×Int) (h:Ok (.agg (zad m_))→zew m_=some r):Sp Tryz.prog 54 [.im (.agg (zad m_))] (.tup [nL cI r.1,nI r.2]):=by
 refine sp_of rfl [700001] rfl rfl rfl (Nat.le_of_ble_eq_true rfl) rfl fun hk=>?_
 replace h:=h hk.1
 have z1:lZ m_.Next:=ok_len (Ok.agg_at hk.1 2 rfl)
 have z2:lZ m_.Out:=ok_len (Ok.agg_at hk.1 3 rfl)
 unfold zew at h
 conv=>whnf
 obtain ⟨c51,hc51,h⟩:=bind_some h
 refine ⟨_,(zgy m_ 128 c51 (fun _ _=>hc51)),?_⟩
 conv=>whnf
 cases h
 conv=>whnf
 exact ⟨rfl,rfl⟩
theorem zff (m_:zab) (r:zab×Int) (h:Ok (.agg (zad m_))→za9 m_=some r):Sp Tryz.prog 24 [.im (.agg (zad m_))] (.tup [.agg (zad r.1),nI r.2]):=by
 refine sp_of rfl [72,700001] rfl rfl rfl (Nat.le_of_ble_eq_true rfl) rfl fun hk=>?_
 replace h:=h hk.1
 have z1:lZ m_.Next:=ok_len (Ok.agg_at hk.1 2 rfl)
 have z2:lZ m_.Out:=ok_len (Ok.agg_at hk.1 3 rfl)
 unfold za9 at h
 conv=>whnf
 obtain ⟨c51,hc51,h⟩:=bind_some h
 refine ⟨_,(sp_mealy_Trim m_ c51 (fun _=>hc51)),?_⟩
 conv=>whnf
 refine Side.mk rfl ?_
 conv=>whnf
 refine Both.mk ?_ ?_<;>intro b52
 obtain ⟨h,b52d⟩:=ctd b52 h
 conv=>whnf
 refine Side.mk rfl ?_
 conv=>whnf
 cases h
 conv=>whnf
 refine Side.mk ⟨rfl,trivial⟩ ?_
 conv=>whnf
 exact ⟨rfl,rfl⟩
 obtain ⟨h,b52d⟩:=cfd b52 h
 conv=>whnf
 refine Side.mk rfl ?_
 conv=>whnf
 obtain ⟨c53,hc53,h⟩:=bind_some h
 refine ⟨_,(zie c51.1 c53 (fun _=>hc53)),?_⟩
 conv=>whnf
 refine Both.mk ?_ ?_<;>intro b54
 obtain ⟨h,b54d⟩:=ctd b54 h
 conv=>whnf
 refine Side.mk rfl ?_
 conv=>whnf
 cases h
 conv=>whnf
 refine Side.mk ⟨rfl,trivial⟩ ?_
 conv=>whnf
 exact ⟨rfl,rfl⟩
 obtain ⟨h,b54d⟩:=cfd b54 h
 conv=>whnf
 refine Side.mk rfl ?_
 conv=>whnf
 refine Side.mk rfl ?_
 conv=>whnf
 refine Side.mk rfl ?_
 conv=>whnf
 refine Nf.mk (List.length c53.1) len_map ?_
 conv=>whnf
 obtain ⟨⟨y418,y419⟩,hc,hk55⟩:=bind_some h
 clear h
 have h:=hc
 clear hc
 refine Cut.mk (mkSt [(2,.own 84 1 0),(7,.own 85 1 0)] [(84,.box 24 4),(85,.box 24 4),(86,.row 25 1 (List.map (cL cI) y418)),(87,.row 25 1 (List.map (cL cI) y419))] [(84,0,.im (nI 0)),(84,1,.im (nI 0)),(84,2,.im (.val (.slice none 0 0))),(84,3,.im (.val (.slice none 0 0))),(85,0,.im (nI c51.1.Inputs)),(85,1,.im (nI 0)),(85,2,.osl 86 1),(85,3,.osl 87 1)]) (lZ y418∧lZ y419∧True) ((Holds.kdl 86 rfl).and ((Holds.kdl 87 rfl).and (hT))) ?_ (fun hp=>?_)
 conv=>whnf
 refine Loops.iter (fun (s:List (List Int)×List (List Int)×Nat)=>za9.s32 c51 c53 s.1 s.2.1 s.2.2) (fun (y527,y528,y529)=>mkSt [(2,.own 84 1 0),(4,.own 85 1 0),(6,.im (nL cI c53.1)),(7,.own 86 1 0),(34,.im (nL cI c53.1)),(35,.im (nI (↑(List.length c53.1):Int))),(36,.im (nI (↑y529:Int)))] [(84,.box 24 4),(85,.box 24 4),(86,.box 24 4),(87,.row 25 1 (List.map (cL cI) y527)),(88,.row 25 1 (List.map (cL cI) y528))] [(84,0,.im (nI 0)),(84,1,.im (nI 0)),(84,2,.im (.val (.slice none 0 0))),(84,3,.im (.val (.slice none 0 0))),(85,0,.im (nI c51.1.Inputs)),(85,1,.im (nI c51.1.Start)),(85,2,.im (nL (cL cI) c51.1.Next)),(85,3,.im (nL (cL cI) c51.1.Out)),(86,0,.im (nI c51.1.Inputs)),(86,1,.im (nI 0)),(86,2,.osl 87 1),(86,3,.osl 88 1)]) (fun (y527,y528,y529)=>lZ c53.1∧lZ c51.1.Next∧lZ c51.1.Out∧lZ y527∧lZ y528∧True) h (Ent.mk [(84,some 2),(85,some 4),(86,some 7),(87,none),(88,none)] rfl ⟨⟨.own 2 _ 0,rfl,.own rfl rfl rfl⟩,⟨.own 4 _ 0,rfl,.own rfl rfl rfl⟩,eI rfl rfl,⟨.own 7 _ 0,rfl,.own rfl rfl rfl⟩,eI rfl rfl,eI rfl rfl,eI rfl rfl,trivial⟩ ⟨.inl ⟨2,rfl,rfl,trivial⟩,.inl ⟨4,rfl,rfl,trivial⟩,.inl ⟨7,rfl,rfl,trivial⟩,.inr ⟨rfl,rfl,.inl ⟨_,_,rfl,by decide⟩⟩,.inr ⟨rfl,rfl,.inl ⟨_,_,rfl,by decide⟩⟩,trivial⟩ ⟨⟨2,.im _,rfl,rfl,.im (Sub.rfl' rfl)⟩,⟨2,.im _,rfl,rfl,.im (Sub.rfl' rfl)⟩,⟨2,.im (.val (.slice none 0 0)),rfl,rfl,.im (Sub.rfl' rfl)⟩,⟨2,.im (.val (.slice none 0 0)),rfl,rfl,.im (Sub.rfl' rfl)⟩,⟨4,.im _,rfl,rfl,.im (Sub.rfl' rfl)⟩,⟨4,.im _,rfl,rfl,.im (Sub.rfl' rfl)⟩,⟨4,.im _,rfl,rfl,.im (Sub.rfl' rfl)⟩,⟨4,.im _,rfl,rfl,.im (Sub.rfl' rfl)⟩,⟨7,.im _,rfl,rfl,.im (Sub.rfl' rfl)⟩,⟨7,.im _,rfl,rfl,.im (Sub.rfl' rfl)⟩,⟨7,.im (.val (.slice none 0 0)),rfl,rfl,.made rfl rfl⟩,⟨7,.im (.val (.slice none 0 0)),rfl,rfl,.made rfl rfl⟩,trivial⟩) (by rintro ⟨y527,y528,y529⟩;exact ((Holds.avl 6 rfl).and ((Holds.cel 85 2 rfl (by decide) rfl).and ((Holds.cel 85 3 rfl (by decide) rfl).and ((Holds.kdl 87 rfl).and ((Holds.kdl 88 rfl).and (hT))))))) ?_
 clear h
 rintro k ⟨y527,y528,y529⟩ o hp h ho653
 replace h:za9.s32 c51 c53 y527 y528 y529=some o:=h
 unfold za9.s32 at h
 obtain ⟨z777,z778,z779,z780,z781,_⟩:=hp
 conv=>whnf
 refine Both.mk ?_ ?_<;>intro b654
 obtain ⟨h,b654d⟩:=ctd b654 h
 conv=>whnf
 obtain ⟨⟨y713,y714⟩,hc,hk655⟩:=bind_some h
 clear h
 have h:=hc
 clear hc
 refine Cut.mk (mkSt [(2,.own 84 1 0),(4,.own 85 1 0),(6,.im (nL cI c53.1)),(7,.own 86 1 0),(34,.im (nL cI c53.1)),(35,.im (nI (↑(List.length c53.1):Int))),(36,.im (nI (↑y529:Int)))] [(84,.box 24 4),(85,.box 24 4),(86,.box 24 4),(87,.row 25 1 (List.map (cL cI) y713)),(88,.row 25 1 (List.map (cL cI) y714))] [(84,0,.im (nI 0)),(84,1,.im (nI 0)),(84,2,.im (.val (.slice none 0 0))),(84,3,.im (.val (.slice none 0 0))),(85,0,.im (nI c51.1.Inputs)),(85,1,.im (nI c51.1.Start)),(85,2,.im (nL (cL cI) c51.1.Next)),(85,3,.im (nL (cL cI) c51.1.Out)),(86,0,.im (nI c51.1.Inputs)),(86,1,.im (nI 0)),(86,2,.osl 87 1),(86,3,.osl 88 1)]) (lZ c53.1∧lZ c51.1.Next∧lZ c51.1.Out∧lZ y713∧lZ y714∧True) ((Holds.avl 6 rfl).and ((Holds.cel 85 2 rfl (by decide) rfl).and ((Holds.cel 85 3 rfl (by decide) rfl).and ((Holds.kdl 87 rfl).and ((Holds.kdl 88 rfl).and (hT)))))) ?_ (fun hp=>?_)
 conv=>whnf
 obtain ⟨e715,he715,h⟩:=zaj h
 refine ⟨_,⟨(by omega),map_at he715,rfl⟩,?_⟩
 conv=>whnf
 refine Side.mk rfl ?_
 conv=>whnf
 refine Side.mk rfl ?_
 conv=>whnf
 refine Side.mk rfl ?_
 conv=>whnf
 refine Nf.mk (List.length y527) len_map ?_
 conv=>whnf
 refine Both.mk ?_ ?_<;>intro b716
 obtain ⟨h,b716d⟩:=ctd b716 h
 conv=>whnf
 cases h
 exact Join.mk (eA [(84,some 84),(85,some 85),(86,some 86),(87,some 87),(88,some 88)])
 obtain ⟨h,b716d⟩:=cfd b716 h
 conv=>whnf
 refine Side.mk rfl ?_
 conv=>whnf
 refine Side.mk rfl ?_
 conv=>whnf
 obtain ⟨e717,he717,h⟩:=zaj h
 refine ⟨_,⟨(by omega),map_at he717,rfl⟩,?_⟩
 conv=>whnf
 refine Nf.mk (List.length e717) len_map ?_
 conv=>whnf
 obtain ⟨y740,hc,hk718⟩:=bind_some h
 clear h
 have h:=hc
 clear hc
 refine Cut.mk (mkSt [(2,.own 84 1 0),(4,.own 85 1 0),(6,.im (nL cI c53.1)),(7,.own 86 1 0),(8,.im (nI (↑y529:Int))),(10,.osl 89 1),(34,.im (nL cI c53.1)),(35,.im (nI (↑(List.length c53.1):Int))),(36,.im (nI (↑y529:Int)))] [(84,.box 24 4),(85,.box 24 4),(86,.box 24 4),(87,.row 25 1 (List.map (cL cI) y527)),(88,.row 25 1 (List.map (cL cI) y528)),(89,.row 3 1 (List.map cI y740))] [(84,0,.im (nI 0)),(84,1,.im (nI 0)),(84,2,.im (.val (.slice none 0 0))),(84,3,.im (.val (.slice none 0 0))),(85,0,.im (nI c51.1.Inputs)),(85,1,.im (nI c51.1.Start)),(85,2,.im (nL (cL cI) c51.1.Next)),(85,3,.im (nL (cL cI) c51.1.Out)),(86,0,.im (nI c51.1.Inputs)),(86,1,.im (nI 0)),(86,2,.osl 87 1),(86,3,.osl 88 1)]) (lZ c53.1∧lZ c51.1.Next∧lZ c51.1.Out∧lZ y527∧lZ y528∧lZ y740∧True) ((Holds.avl 6 rfl).and ((Holds.cel 85 2 rfl (by decide) rfl).and ((Holds.cel 85 3 rfl (by decide) rfl).and ((Holds.kdl 87 rfl).and ((Holds.kdl 88 rfl).and ((Holds.kdl 89 rfl).and (hT))))))) ?_ (fun hp=>?_)
 conv=>whnf
 refine Loops.iter (fun (s:List Int×Nat)=>za9.s30 c53 e717 s.1 s.2) (fun (y744,y745)=>mkSt [(2,.own 84 1 0),(4,.own 85 1 0),(6,.im (nL cI c53.1)),(7,.own 86 1 0),(8,.im (nI (↑y529:Int))),(10,.osl 89 1),(34,.im (nL cI c53.1)),(35,.im (nI (↑(List.length c53.1):Int))),(36,.im (nI (↑y529:Int))),(50,.im (nL cI e717)),(51,.im (nI (↑(List.length e717):Int))),(52,.im (nI (↑y745:Int)))] [(84,.box 24 4),(85,.box 24 4),(86,.box 24 4),(87,.row 25 1 (List.map (cL cI) y527)),(88,.row 25 1 (List.map (cL cI) y528)),(89,.row 3 1 (List.map cI y744))] [(84,0,.im (nI 0)),(84,1,.im (nI 0)),(84,2,.im (.val (.slice none 0 0))),(84,3,.im (.val (.slice none 0 0))),(85,0,.im (nI c51.1.Inputs)),(85,1,.im (nI c51.1.Start)),(85,2,.im (nL (cL cI) c51.1.Next)),(85,3,.im (nL (cL cI) c51.1.Out)),(86,0,.im (nI c51.1.Inputs)),(86,1,.im (nI 0)),(86,2,.osl 87 1),(86,3,.osl 88 1)]) (fun (y744,y745)=>lZ c53.1∧lZ e717∧lZ c51.1.Next∧lZ c51.1.Out∧lZ y527∧lZ y528∧lZ y744∧True) h (eA [(84,some 84),(85,some 85),(86,some 86),(87,some 87),(88,some 88),(89,none)]) (by rintro ⟨y744,y745⟩;exact ((Holds.avl 6 rfl).and ((Holds.avl 50 rfl).and ((Holds.cel 85 2 rfl (by decide) rfl).and ((Holds.cel 85 3 rfl (by decide) rfl).and ((Holds.kdl 87 rfl).and ((Holds.kdl 88 rfl).and ((Holds.kdl 89 rfl).and (hT))))))))) ?_
 clear h
 rintro k ⟨y744,y745⟩ o hp h ho750
 replace h:za9.s30 c53 e717 y744 y745=some o:=h
 unfold za9.s30 at h
 obtain ⟨z755,z756,z757,z758,z759,z760,z761,_⟩:=hp
 conv=>whnf
 refine Both.mk ?_ ?_<;>intro b751
 obtain ⟨h,b751d⟩:=ctd b751 h
 conv=>whnf
 obtain ⟨e752,he752,h⟩:=zaj h
 refine ⟨_,⟨(by omega),map_at he752,rfl⟩,?_⟩
 conv=>whnf
 obtain ⟨e753,he753z,he753,h⟩:=idx_some h
 refine ⟨_,⟨he753z,map_at he753,rfl⟩,?_⟩
 conv=>whnf
 obtain ⟨c754,h⟩:=chk_some h
 refine Side.mk ⟨rfl,map_len (l:=[e753]) (c:=cI) fun _=>rfl,show capOk _ 8 by simpa only [List.length_map,List.length_cons,List.length_nil,Nat.zero_add] using c754⟩ ?_
 conv=>whnf
 refine Nf.mk (List.map cI (y744++[e753])) (app_map (l:=y744) (m:=[e753]) (c:=cI)) ?_
 conv=>whnf
 refine Arith.mk (by show inR _;unfold inR;omega) ?_
 conv=>whnf
 cases h
 exact Nxt.mk _ ho750 (eA [(84,some 84),(85,some 85),(86,some 86),(87,some 87),(88,some 88),(89,some 89)])
 obtain ⟨h,b751d⟩:=cfd b751 h
 conv=>whnf
 cases h
 have ho750:_=_:=ho750
 cases ho750
 exact Join.mk (eA [(84,some 84),(85,some 85),(86,some 86),(87,some 87),(88,some 88),(89,some 89)])
 replace h:=hk718
 obtain ⟨z762,z763,z764,z765,z766,z767,_⟩:=hp
 conv=>whnf
 refine Side.mk rfl ?_
 conv=>whnf
 refine Side.mk rfl ?_
 conv=>whnf
 refine Side.mk ⟨rfl,trivial⟩ ?_
 conv=>whnf
 obtain ⟨c768,h⟩:=chk_some h
 refine Side.mk ⟨rfl,map_len (l:=[y740]) (c:=cL cI) fun _=>rfl,show capOk _ 24 by simpa only [List.length_map,List.length_cons,List.length_nil,Nat.zero_add] using c768⟩ ?_
 conv=>whnf
 refine Nf.mk (List.map (cL cI) (y527++[y740])) (app_map (l:=y527) (m:=[y740]) (c:=cL cI)) ?_
 conv=>whnf
 refine Side.mk rfl ?_
 conv=>whnf
 refine Side.mk rfl ?_
 conv=>whnf
 refine Side.mk rfl ?_
 conv=>whnf
 refine Side.mk rfl ?_
 conv=>whnf
 refine Side.mk rfl ?_
 conv=>whnf
 refine Side.mk rfl ?_
 conv=>whnf
 obtain ⟨e769,he769,h⟩:=zaj h
 refine ⟨_,⟨(by omega),map_at he769,rfl⟩,?_⟩
 conv=>whnf
 obtain ⟨c770,h⟩:=chk_some h
 refine Side.mk ⟨rfl,map_len (l:=e769) (c:=cI) fun _=>rfl,show capOk _ 8 by simpa only [List.length_map,List.length_cons,List.length_nil,Nat.zero_add] using c770⟩ ?_
 conv=>whnf
 refine Nf.mk (List.map cI ([]++e769)) (app_map (l:=[]) (m:=e769) (c:=cI)) ?_
 conv=>whnf
 refine Side.mk ⟨rfl,trivial⟩ ?_
 conv=>whnf
 obtain ⟨c771,h⟩:=chk_some h
 refine Side.mk ⟨rfl,map_len (l:=[([]++e769)]) (c:=cL cI) fun _=>rfl,show capOk _ 24 by simpa only [List.length_map,List.length_cons,List.length_nil,Nat.zero_add] using c771⟩ ?_
 conv=>whnf
 refine Nf.mk (List.map (cL cI) (y528++[([]++e769)])) (app_map (l:=y528) (m:=[([]++e769)]) (c:=cL cI)) ?_
 conv=>whnf
 refine Side.mk rfl ?_
 conv=>whnf
 refine Side.mk rfl ?_
 conv=>whnf
 cases h
 exact Join.mk (eA [(84,some 84),(85,some 85),(86,some 86),(87,some 87),(88,some 88)])
 replace h:za9.k31 y529 y713 y714=some _:=hk655
 unfold za9.k31 at h
 obtain ⟨z772,z773,z774,z775,z776,_⟩:=hp
 conv=>whnf
 refine Arith.mk (by show inR _;unfold inR;omega) ?_
 conv=>whnf
 cases h
 exact Nxt.mk _ ho653 (eA [(84,some 84),(85,some 85),(86,some 86),(87,some 87),(88,some 88)])
 obtain ⟨h,b654d⟩:=cfd b654 h
 conv=>whnf
 cases h
 have ho653:_=_:=ho653
 cases ho653
 exact Join.mk (eA [(84,some 84),(85,some 86),(86,some 87),(87,some 88)])
 replace h:za9.k33 c51 y418 y419=some _:=hk55
 unfold za9.k33 at h
 obtain ⟨z782,z783,_⟩:=hp
 conv=>whnf
 refine Side.mk rfl ?_
 conv=>whnf
 refine Side.mk rfl ?_
 conv=>whnf
 cases h
 conv=>whnf
 refine Side.mk ⟨rfl,trivial⟩ ?_
 conv=>whnf
 exact Side.mk ⟨rfl,rfl,trivial⟩ ⟨rfl,rfl⟩
theorem zl3 (m_:zab) (from_:Int) (r:List zay) (h:Ok (.agg (zad m_))→Ok (nI from_)→zbi m_ from_=some r):Sp Tryz.prog 133 [.im (.agg (zad m_)),.im (nI from_)] (.row 204 2 (List.map zco r)):=by
 refine sp_of rfl [19,700002] rfl rfl rfl (Nat.le_of_ble_eq_true rfl) rfl fun hk=>?_
 replace h:=h hk.1 hk.2.1
 have z1:lZ m_.Next:=ok_len (Ok.agg_at hk.1 2 rfl)
 have z2:lZ m_.Out:=ok_len (Ok.agg_at hk.1 3 rfl)
 unfold zbi at h
 conv=>whnf
 refine Nf.mk (List.length m_.Next) len_map ?_
 conv=>whnf
 obtain ⟨c51,h⟩:=chk_some h
 refine Side.mk c51 ?_
 conv=>whnf
 refine Nf.mk (List.map cB (List.replicate (List.length m_.Next) false)) (rep_map (c:=cB) (z:=false) (n:=(List.length m_.Next)) rfl rfl) ?_
 conv=>whnf
 obtain ⟨e52,he52z,he52,h⟩:=idx_some h
 refine Side.mk ⟨he52z,rfl,map_lt he52⟩ ?_
 conv=>whnf
 refine Side.mk ⟨rfl,trivial⟩ ?_
 conv=>whnf
 refine ⟨_,map_at he52,?_⟩
 conv=>whnf
 refine Nf.mk (List.map cB (List.set (List.replicate (List.length m_.Next) false) from_.toNat true)) (set_map rfl) ?_
 conv=>whnf
 obtain ⟨y270,hc,hk53⟩:=bind_some h
 clear h
 have h:=hc
 clear hc
 refine Cut.mk (mkSt [(6,.osl 65 1)] [(65,.row 204 2 (List.map zco y270))] []) (lZ y270∧True) ((Holds.kdl 65 rfl).and (hT)) ?_ (fun hp=>?_)
 conv=>whnf
 refine Loops.iter (fun (s:List Bool×List zay×Nat)=>zbi.s20 m_ s.1 s.2.1 s.2.2) (fun (y341,y342,i343)=>mkSt [(2,.im (.ref (zad m_))),(5,.osl 65 1),(6,.osl 66 1),(7,.im (nI (↑i343:Int)))] [(65,.row 4 1 (List.map cB y341)),(66,.row 204 2 (List.map zco y342))] []) (fun (y341,y342,i343)=>lZ y341∧lZ y342∧True) h (eA [(65,some 13),(66,some 19)]) (by rintro ⟨y341,y342,i343⟩;exact ((Holds.kdl 65 rfl).and ((Holds.kdl 66 rfl).and (hT)))) ?_
 clear h
 rintro k ⟨y341,y342,i343⟩ o hp h ho414
 replace h:zbi.s20 m_ y341 y342 i343=some o:=h
 unfold zbi.s20 at h
 obtain ⟨z485,z486,_⟩:=hp
 conv=>whnf
 refine Side.mk rfl ?_
 conv=>whnf
 refine Nf.mk (List.length y342) len_map ?_
 conv=>whnf
 refine Both.mk ?_ ?_<;>intro b415
 obtain ⟨h,b415d⟩:=ctd b415 h
 conv=>whnf
 obtain ⟨e416,he416,h⟩:=zaj h
 refine Side.mk ⟨(by omega),rfl,map_lt he416⟩ ?_
 conv=>whnf
 refine Side.mk rfl ?_
 conv=>whnf
 refine ⟨_,_,⟨rfl,map_at he416,rfl,rfl⟩,?_⟩
 conv=>whnf
 obtain ⟨e417,he417z,he417,h⟩:=idx_some h
 refine ⟨_,⟨he417z,map_at he417,rfl⟩,?_⟩
 conv=>whnf
 refine Nf.mk (List.length e417) len_map ?_
 conv=>whnf
 obtain ⟨⟨y450,y451⟩,hc,hk418⟩:=bind_some h
 clear h
 have h:=hc
 clear hc
 refine Cut.mk (mkSt [(2,.im (.ref (zad m_))),(5,.osl 65 1),(6,.osl 66 1),(7,.im (nI (↑i343:Int)))] [(65,.row 4 1 (List.map cB y450)),(66,.row 204 2 (List.map zco y451))] []) (lZ y450∧lZ y451∧True) ((Holds.kdl 65 rfl).and ((Holds.kdl 66 rfl).and (hT))) ?_ (fun hp=>?_)
 conv=>whnf
 refine Loops.iter (fun (s:List Bool×List zay×Nat)=>zbi.s18 i343 e417 s.1 s.2.1 s.2.2) (fun (y460,y461,y462)=>mkSt [(2,.im (.ref (zad m_))),(5,.osl 65 1),(6,.osl 66 1),(7,.im (nI (↑i343:Int))),(34,.im (nL cI e417)),(35,.im (nI (↑(List.length e417):Int))),(36,.im (nI (↑y462:Int)))] [(65,.row 4 1 (List.map cB y460)),(66,.row 204 2 (List.map zco y461))] []) (fun (y460,y461,y462)=>lZ e417∧lZ y460∧lZ y461∧True) h (eA [(65,some 65),(66,some 66)]) (by rintro ⟨y460,y461,y462⟩;exact ((Holds.avl 34 rfl).and ((Holds.kdl 65 rfl).and ((Holds.kdl 66 rfl).and (hT))))) ?_
 clear h
 rintro k ⟨y460,y461,y462⟩ o hp h ho471
 replace h:zbi.s18 i343 e417 y460 y461 y462=some o:=h
 unfold zbi.s18 at h
 obtain ⟨z480,z481,z482,_⟩:=hp
 conv=>whnf
 refine Both.mk ?_ ?_<;>intro b472
 obtain ⟨h,b472d⟩:=ctd b472 h
 conv=>whnf
 obtain ⟨e473,he473,h⟩:=zaj h
 refine ⟨_,⟨(by omega),map_at he473,rfl⟩,?_⟩
 conv=>whnf
 obtain ⟨e474,he474z,he474,h⟩:=idx_some h
 refine Side.mk ⟨he474z,rfl,map_lt he474⟩ ?_
 conv=>whnf
 refine ⟨_,_,⟨rfl,map_at he474,rfl,rfl⟩,?_⟩
 conv=>whnf
 refine Both.mk ?_ ?_<;>intro b475
 replace h:=cond_t b475 h
 conv=>whnf
 obtain ⟨e476,he476z,he476,h⟩:=idx_some h
 refine Side.mk ⟨he476z,rfl,map_lt he476⟩ ?_
 conv=>whnf
 refine Side.mk ⟨rfl,trivial⟩ ?_
 conv=>whnf
 refine ⟨_,map_at he476,?_⟩
 conv=>whnf
 refine Nf.mk (List.map cB (List.set y460 e473.toNat true)) (set_map rfl) ?_
 conv=>whnf
 obtain ⟨e477,he477,h⟩:=zaj h
 refine Side.mk ⟨(by omega),rfl,map_lt he477⟩ ?_
 conv=>whnf
 refine Side.mk rfl ?_
 conv=>whnf
 refine ⟨_,_,⟨rfl,map_at he477,rfl,rfl⟩,?_⟩
 conv=>whnf
 obtain ⟨c478,hc478,h⟩:=bind_some h
 refine ⟨_,(zeq [e477.word,[(↑y462:Int)]] c478 (fun _=>hc478)),?_⟩
 conv=>whnf
 obtain ⟨c479,h⟩:=chk_some h
 refine Side.mk ⟨rfl,map_len (l:=[(⟨e473,c478⟩:zay)]) (c:=zco) fun _=>rfl,show capOk _ 32 by simpa only [List.length_map,List.length_cons,List.length_nil,Nat.zero_add] using c479⟩ ?_
 conv=>whnf
 refine Nf.mk (List.map zco (y461++[(⟨e473,c478⟩:zay)])) (app_map (l:=y461) (m:=[(⟨e473,c478⟩:zay)]) (c:=zco)) ?_
 conv=>whnf
 refine Arith.mk (by show inR _;unfold inR;omega) ?_
 conv=>whnf
 cases h
 exact Nxt.mk _ ho471 (eA [(65,some 65),(66,some 66)])
 replace h:=cond_f b475 h
 conv=>whnf
 refine Arith.mk (by show inR _;unfold inR;omega) ?_
 conv=>whnf
 cases h
 exact Nxt.mk _ ho471 (eA [(65,some 65),(66,some 66)])
 obtain ⟨h,b472d⟩:=cfd b472 h
 conv=>whnf
 cases h
 have ho471:_=_:=ho471
 cases ho471
 exact Join.mk (eA [(65,some 65),(66,some 66)])
 replace h:zbi.k19 i343 y450 y451=some _:=hk418
 unfold zbi.k19 at h
 obtain ⟨z483,z484,_⟩:=hp
 conv=>whnf
 refine Arith.mk (by show inR _;unfold inR;omega) ?_
 conv=>whnf
 cases h
 exact Nxt.mk _ ho414 (eA [(65,some 65),(66,some 66)])
 obtain ⟨h,b415d⟩:=cfd b415 h
 conv=>whnf
 cases h
 have ho414:_=_:=ho414
 cases ho414
 exact Join.mk (eA [(65,some 66)])
 replace h:=hk53
 obtain ⟨z487,_⟩:=hp
 conv=>whnf
 cases h
 conv=>whnf
 exact Side.mk ⟨rfl,trivial⟩ ⟨rfl,rfl⟩
theorem zle (m_:zab) (r:List Int×List (List Int)×Int) (h:Ok (.agg (zad m_))→zca m_=some r):Sp Tryz.prog 115 [.im (.agg (zad m_))] (.tup [nL cI r.1,nL (cL cI) r.2.1,nI r.2.2]):=by
 refine sp_of rfl [700001] rfl rfl rfl (Nat.le_of_ble_eq_true rfl) rfl fun hk=>?_
 replace h:=h hk.1
 have z1:lZ m_.Next:=ok_len (Ok.agg_at hk.1 2 rfl)
 have z2:lZ m_.Out:=ok_len (Ok.agg_at hk.1 3 rfl)
 unfold zca at h
 conv=>whnf
 obtain ⟨c51,hc51,h⟩:=bind_some h
 refine ⟨_,(zbr m_ c51 (fun _=>hc51)),?_⟩
 conv=>whnf
 refine Both.mk ?_ ?_<;>intro b52
 obtain ⟨h,b52d⟩:=ctd b52 h
 conv=>whnf
 cases h
 conv=>whnf
 exact ⟨rfl,rfl⟩
 obtain ⟨h,b52d⟩:=cfd b52 h
 conv=>whnf
 obtain ⟨c53,hc53,h⟩:=bind_some h
 refine ⟨_,(zl3 m_ m_.Start c53 (fun _ _=>hc53)).im,?_⟩
 conv=>whnf
 refine Nf.mk (List.length c53) len_map ?_
 conv=>whnf
 obtain ⟨⟨y72,y73⟩,hc,hk54⟩:=bind_some h
 clear h
 have h:=hc
 clear hc
 refine Cut.mk (mkSt [(6,.osl 64 1),(7,.osl 65 1)] [(64,.row 3 1 (List.map cI y72)),(65,.row 25 1 (List.map (cL cI) y73))] []) (lZ y72∧lZ y73∧True) ((Holds.kdl 64 rfl).and ((Holds.kdl 65 rfl).and (hT))) ?_ (fun hp=>?_)
 conv=>whnf
 refine Loops.iter (fun (s:List Int×List (List Int)×Nat)=>zca.s2 c53 s.1 s.2.1 s.2.2) (fun (y76,y77,y78)=>mkSt [(6,.osl 64 1),(7,.osl 65 1),(18,.im (nL zco c53)),(19,.im (nI (↑(List.length c53):Int))),(20,.im (nI (↑y78:Int)))] [(64,.row 3 1 (List.map cI y76)),(65,.row 25 1 (List.map (cL cI) y77))] []) (fun (y76,y77,y78)=>lZ c53∧lZ y76∧lZ y77∧True) h (eA [(64,none),(65,none)]) (by rintro ⟨y76,y77,y78⟩;exact ((Holds.avl 18 rfl).and ((Holds.kdl 64 rfl).and ((Holds.kdl 65 rfl).and (hT))))) ?_
 clear h
 rintro k ⟨y76,y77,y78⟩ o hp h ho83
 replace h:zca.s2 c53 y76 y77 y78=some o:=h
 unfold zca.s2 at h
 obtain ⟨z88,z89,z90,_⟩:=hp
 conv=>whnf
 refine Both.mk ?_ ?_<;>intro b84
 obtain ⟨h,b84d⟩:=ctd b84 h
 conv=>whnf
 obtain ⟨e85,he85,h⟩:=zaj h
 refine ⟨_,⟨(by omega),map_at he85,rfl⟩,?_⟩
 conv=>whnf
 refine Side.mk rfl ?_
 conv=>whnf
 refine Side.mk rfl ?_
 conv=>whnf
 refine Side.mk rfl ?_
 conv=>whnf
 obtain ⟨c86,h⟩:=chk_some h
 refine Side.mk ⟨rfl,map_len (l:=[e85.state]) (c:=cI) fun _=>rfl,show capOk _ 8 by simpa only [List.length_map,List.length_cons,List.length_nil,Nat.zero_add] using c86⟩ ?_
 conv=>whnf
 refine Nf.mk (List.map cI (y76++[e85.state])) (app_map (l:=y76) (m:=[e85.state]) (c:=cI)) ?_
 conv=>whnf
 refine Side.mk rfl ?_
 conv=>whnf
 refine Side.mk rfl ?_
 conv=>whnf
 obtain ⟨c87,h⟩:=chk_some h
 refine Side.mk ⟨rfl,map_len (l:=[e85.word]) (c:=cL cI) fun _=>rfl,show capOk _ 24 by simpa only [List.length_map,List.length_cons,List.length_nil,Nat.zero_add] using c87⟩ ?_
 conv=>whnf
 refine Nf.mk (List.map (cL cI) (y77++[e85.word])) (app_map (l:=y77) (m:=[e85.word]) (c:=cL cI)) ?_
 conv=>whnf
 refine Arith.mk (by show inR _;unfold inR;omega) ?_
 conv=>whnf
 cases h
 exact Nxt.mk _ ho83 (eA [(64,some 64),(65,some 65)])
 obtain ⟨h,b84d⟩:=cfd b84 h
 conv=>whnf
 cases h
 have ho83:_=_:=ho83
 cases ho83
 exact Join.mk (eA [(64,some 64),(65,some 65)])
 replace h:zca.k3 y72 y73=some _:=hk54
 unfold zca.k3 at h
 obtain ⟨z91,z92,_⟩:=hp
 conv=>whnf
 cases h
 conv=>whnf
 exact Side.mk ⟨rfl,rfl,trivial⟩ ⟨rfl,rfl⟩
theorem zic (m_:zab) (r:List (List Int)×Int) (h:Ok (.agg (zad m_))→zex m_=some r):Sp Tryz.prog 84 [.im (.agg (zad m_))] (.tup [nL (cL cI) r.1,nI r.2]):=by
 refine sp_of rfl [700001] rfl rfl rfl (Nat.le_of_ble_eq_true rfl) rfl fun hk=>?_
 replace h:=h hk.1
 have z1:lZ m_.Next:=ok_len (Ok.agg_at hk.1 2 rfl)
 have z2:lZ m_.Out:=ok_len (Ok.agg_at hk.1 3 rfl)
 unfold zex at h
 conv=>whnf
 obtain ⟨c51,hc51,h⟩:=bind_some h
 refine ⟨_,(zle m_ c51 (fun _=>hc51)),?_⟩
 conv=>whnf
 cases h
 conv=>whnf
 exact ⟨rfl,rfl⟩
theorem sp_word_Next (w_:List Int) (inputs_:Int) (r:List Int×Bool) (h:Ok (nL cI w_)→Ok (nI inputs_)→zeo w_ inputs_=some r):Sp Tryz.prog 116 [.im (nL cI w_),.im (nI inputs_)] (.tup [nL cI r.1,nB r.2]):=by
 refine sp_of rfl [] rfl rfl rfl (Nat.le_of_ble_eq_true rfl) rfl fun hk=>?_
 replace h:=h hk.1 hk.2.1
 have z1:lZ w_:=ok_len hk.1
 unfold zeo at h
 conv=>whnf
 obtain ⟨c51,hc51,h⟩:=bind_some h
 refine ⟨_,(zdb w_ inputs_ c51 (fun _ _=>hc51)),?_⟩
 conv=>whnf
 refine Both.mk ?_ ?_<;>intro b52
 obtain ⟨h,b52d⟩:=ctd b52 h
 conv=>whnf
 cases h
 conv=>whnf
 exact ⟨rfl,rfl⟩
 obtain ⟨h,b52d⟩:=cfd b52 h
 conv=>whnf
 obtain ⟨c53,hc53,h⟩:=bind_some h
 refine ⟨_,(za4 w_ c53 (hc53)),?_⟩
 conv=>whnf
 refine Side.mk rfl ?_
 conv=>whnf
 refine Nf.mk (List.length c53) len_map ?_
 conv=>whnf
 obtain ⟨c54,h⟩:=chk_some h
 refine Arith.mk c54 ?_
 conv=>whnf
 obtain ⟨oc,hc,hk55⟩:=bind_some h
 clear h
 have h:=hc
 clear hc
 refine Cut.mkS oc (Y:=List Int) (fun y87=>mkSt [(6,.osl 64 1)] [(64,.row 3 1 (List.map cI y87))] []) (fun y87=>lZ y87∧True) (by rintro y87;exact ((Holds.kdl 64 rfl).and (hT))) ?_ ?_
 conv=>whnf
 refine Loops.iter (fun (s:List Int×Int)=>zeo.s2 inputs_ s.1 s.2) (fun (y97,i98)=>mkSt [(1,.im (nI inputs_)),(6,.osl 64 1),(7,.im (nI i98))] [(64,.row 3 1 (List.map cI y97))] []) (fun (y97,i98)=>lZ y97∧True) h (eA [(64,some 13)]) (by rintro ⟨y97,i98⟩;exact ((Holds.kdl 64 rfl).and (hT))) ?_
 clear h
 rintro k ⟨y97,i98⟩ o hp h ho108
 replace h:zeo.s2 inputs_ y97 i98=some o:=h
 unfold zeo.s2 at h
 obtain ⟨z118,_⟩:=hp
 conv=>whnf
 refine Both.mk ?_ ?_<;>intro b109
 obtain ⟨h,b109d⟩:=ctd b109 h
 conv=>whnf
 obtain ⟨e110,he110z,he110,h⟩:=idx_some h
 refine Side.mk ⟨he110z,rfl,map_lt he110⟩ ?_
 conv=>whnf
 refine ⟨_,_,⟨rfl,map_at he110,rfl,rfl⟩,?_⟩
 conv=>whnf
 obtain ⟨c111,h⟩:=chk_some h
 refine Arith.mk c111 ?_
 conv=>whnf
 refine Both.mk ?_ ?_<;>intro b112
 obtain ⟨h,b112d⟩:=ctd b112 h
 conv=>whnf
 obtain ⟨e113,he113z,he113,h⟩:=idx_some h
 refine Side.mk ⟨he113z,rfl,map_lt he113⟩ ?_
 conv=>whnf
 refine ⟨_,_,⟨rfl,map_at he113,rfl,rfl⟩,?_⟩
 conv=>whnf
 obtain ⟨c114,h⟩:=chk_some h
 refine Arith.mk c114 ?_
 conv=>whnf
 obtain ⟨e115,he115z,he115,h⟩:=idx_some h
 refine Side.mk ⟨he115z,rfl,map_lt he115⟩ ?_
 conv=>whnf
 refine Side.mk ⟨rfl,trivial⟩ ?_
 conv=>whnf
 refine ⟨_,map_at he115,?_⟩
 conv=>whnf
 refine Nf.mk (List.map cI (List.set y97 i98.toNat (e113+1))) (set_map rfl) ?_
 conv=>whnf
 cases h
 have ho108:_=_:=ho108
 cases ho108
 replace h:some _=some _:=hk55
 cases h
 conv=>whnf
 exact Side.mk ⟨rfl,trivial⟩ ⟨rfl,rfl⟩
 obtain ⟨h,b112d⟩:=cfd b112 h
 conv=>whnf
 obtain ⟨e116,he116z,he116,h⟩:=idx_some h
 refine Side.mk ⟨he116z,rfl,map_lt he116⟩ ?_
 conv=>whnf
 refine Side.mk ⟨rfl,trivial⟩ ?_
 conv=>whnf
 refine ⟨_,map_at he116,?_⟩
 conv=>whnf
 refine Nf.mk (List.map cI (List.set y97 i98.toNat 0)) (set_map rfl) ?_
 conv=>whnf
 obtain ⟨c117,h⟩:=chk_some h
 refine Arith.mk c117 ?_
 conv=>whnf
 cases h
 exact Nxt.mk _ ho108 (eA [(64,some 64)])
 obtain ⟨h,b109d⟩:=cfd b109 h
 conv=>whnf
 cases h
 have ho108:_=_:=ho108
 cases ho108
 exact JoinS.mk' _ rfl (eA [(64,some 64)])
 rintro y87 rfl hp
 replace h:=sum_inl hk55
 obtain ⟨z119,_⟩:=hp
 conv=>whnf
 refine Side.mk rfl ?_
 conv=>whnf
 refine Nf.mk (List.length y87) len_map ?_
 conv=>whnf
 refine Both.mk ?_ ?_<;>intro b120
 obtain ⟨h,b120d⟩:=ctd b120 h
 conv=>whnf
 cases h
 conv=>whnf
 exact ⟨rfl,rfl⟩
 obtain ⟨h,b120d⟩:=cfd b120 h
 conv=>whnf
 obtain ⟨c121,h⟩:=chk_some h
 refine Side.mk ⟨rfl,map_len (l:=[0]) (c:=cI) fun _=>rfl,show capOk _ 8 by simpa only [List.length_map,List.length_cons,List.length_nil,Nat.zero_add] using c121⟩ ?_
 conv=>whnf
 refine Nf.mk (List.map cI (y87++[0])) (app_map (l:=y87) (m:=[0]) (c:=cI)) ?_
 conv=>whnf
 cases h
 conv=>whnf
 exact Side.mk ⟨rfl,trivial⟩ ⟨rfl,rfl⟩
theorem zkt (inputs_:Int) (n_:Int) (r:List (List Int)×Int) (h:Ok (nI inputs_)→Ok (nI n_)→zc9 inputs_ n_=some r):Sp Tryz.prog 85 [.im (nI inputs_),.im (nI n_)] (.tup [nL (cL cI) r.1,nI r.2]):=by
 refine sp_of rfl [] rfl rfl rfl (Nat.le_of_ble_eq_true rfl) rfl fun hk=>?_
 replace h:=h hk.1 hk.2.1
 unfold zc9 at h
 conv=>whnf
 obtain ⟨y56,hc,hk52⟩:=bind_some h
 clear h
 have h:=hc
 clear hc
 refine Cut.mk (mkSt [(0,.im (nI inputs_)),(1,.im (nI n_)),(19,.im (nB y56))] [] []) (True) (hT) ?_ (fun hp=>?_)
 conv=>whnf
 obtain ⟨c57,hc57,h⟩:=bind_some h
 refine ⟨_,(zdb [] inputs_ c57 (fun _ _=>hc57)),?_⟩
 conv=>whnf
 refine Both.mk ?_ ?_<;>intro b58
 replace b58:=beq_ff b58
 obtain ⟨h,b58d⟩:=cfd b58 h
 conv=>whnf
 refine Both.yes (ff_beq b58) ?_
 conv=>whnf
 refine Both.no b58 ?_
 conv=>whnf
 refine Both.mk ?_ ?_<;>intro b59
 replace b59:=beq_ff b59
 obtain ⟨h,b59d⟩:=cfd b59 h
 conv=>whnf
 refine Both.yes (ff_beq b59) ?_
 conv=>whnf
 refine Both.no b59 ?_
 conv=>whnf
 cases h
 exact Join.mk (eA [])
 replace b59:=beq_ft b59
 obtain ⟨h,b59d⟩:=ctd b59 h
 conv=>whnf
 refine Both.no (tf_beq b59) ?_
 conv=>whnf
 refine Both.yes b59 ?_
 conv=>whnf
 cases h
 exact Join.mk (eA [])
 replace b58:=beq_ft b58
 obtain ⟨h,b58d⟩:=ctd b58 h
 conv=>whnf
 refine Both.no (tf_beq b58) ?_
 conv=>whnf
 refine Both.yes b58 ?_
 conv=>whnf
 iterate 2 (refine Both.no rfl ?_;(conv=>whnf))
 refine Both.yes rfl ?_
 conv=>whnf
 cases h
 exact Join.mk (eA [])
 replace h:=hk52
 conv=>whnf
 refine Both.mk ?_ ?_<;>intro b60
 replace h:=cond_t b60 h
 conv=>whnf
 cases h
 conv=>whnf
 exact ⟨rfl,rfl⟩
 replace h:=cond_f b60 h
 conv=>whnf
 obtain ⟨oc,hc,hk61⟩:=bind_some h
 clear h
 have h:=hc
 clear hc
 refine Cut.mkS oc (Y:=List (List Int)) (fun y95=>mkSt [(6,.osl 64 1)] [(64,.row 25 1 (List.map (cL cI) y95))] []) (fun y95=>lZ y95∧True) (by rintro y95;exact ((Holds.kdl 64 rfl).and (hT))) ?_ ?_
 conv=>whnf
 refine Loops.iter (fun (s:List (List Int)×List Int×Bool)=>zc9.s2 inputs_ n_ s.1 s.2.1 s.2.2) (fun (y101,w102,ok103)=>mkSt [(0,.im (nI inputs_)),(1,.im (nI n_)),(6,.osl 64 1),(7,.im (nL cI w102)),(8,.im (nB ok103))] [(64,.row 25 1 (List.map (cL cI) y101))] []) (fun (y101,w102,ok103)=>lZ w102∧lZ y101∧True) h (Ent.mk [(64,none)] rfl ⟨eI rfl rfl,eI rfl rfl,⟨.im (.val (.slice none 0 0)),rfl,.made rfl rfl⟩,⟨.im (.val (.slice none 0 0)),rfl,.im (Sub.nz' rfl)⟩,eI rfl rfl,trivial⟩ ⟨.inr ⟨rfl,rfl,.inl ⟨_,_,rfl,by decide⟩⟩,trivial⟩ trivial) (by rintro ⟨y101,w102,ok103⟩;exact ((Holds.avl 7 rfl).and ((Holds.kdl 64 rfl).and (hT)))) ?_
 clear h
 rintro k ⟨y101,w102,ok103⟩ o hp h ho115
 replace h:zc9.s2 inputs_ n_ y101 w102 ok103=some o:=h
 unfold zc9.s2 at h
 obtain ⟨z127,z128,_⟩:=hp
 conv=>whnf
 obtain ⟨y119,hc,hk117⟩:=bind_some h
 clear h
 have h:=hc
 clear hc
 refine Cut.mk (mkSt [(0,.im (nI inputs_)),(1,.im (nI n_)),(6,.osl 64 1),(7,.im (nL cI w102)),(26,.im (nB y119))] [(64,.row 25 1 (List.map (cL cI) y101))] []) (lZ w102∧lZ y101∧True) ((Holds.avl 7 rfl).and ((Holds.kdl 64 rfl).and (hT))) ?_ (fun hp=>?_)
 conv=>whnf
 refine Both.mk ?_ ?_<;>intro b120
 replace b120:=beq_tt b120
 replace h:=cond_t b120 h
 conv=>whnf
 refine Both.yes (tt_beq b120) ?_
 conv=>whnf
 refine Nf.mk (List.length w102) len_map ?_
 conv=>whnf
 iterate 2 (refine Both.yes (tt_beq b120) ?_;(conv=>whnf))
 refine Both.yes b120 ?_
 conv=>whnf
 cases h
 exact Join.mk (eA [(64,some 64)])
 replace b120:=beq_tf b120
 replace h:=cond_f b120 h
 conv=>whnf
 iterate 3 (refine Both.no (ft_beq b120) ?_;(conv=>whnf))
 refine Both.no b120 ?_
 conv=>whnf
 cases h
 exact Join.mk (eA [(64,some 64)])
 replace h:=hk117
 obtain ⟨z121,z122,_⟩:=hp
 conv=>whnf
 refine Both.mk ?_ ?_<;>intro b123
 replace h:=cond_t b123 h
 conv=>whnf
 refine Side.mk rfl ?_
 conv=>whnf
 refine Nf.mk (List.length y101) len_map ?_
 conv=>whnf
 refine Both.mk ?_ ?_<;>intro b124
 obtain ⟨h,b124d⟩:=ctd b124 h
 conv=>whnf
 cases h
 have ho115:_=_:=ho115
 cases ho115
 replace h:some _=some _:=hk61
 cases h
 conv=>whnf
 exact ⟨rfl,rfl⟩
 obtain ⟨h,b124d⟩:=cfd b124 h
 conv=>whnf
 obtain ⟨c125,h⟩:=chk_some h
 refine Side.mk ⟨rfl,map_len (l:=[w102]) (c:=cL cI) fun _=>rfl,show capOk _ 24 by simpa only [List.length_map,List.length_cons,List.length_nil,Nat.zero_add] using c125⟩ ?_
 conv=>whnf
 refine Nf.mk (List.map (cL cI) (y101++[w102])) (app_map (l:=y101) (m:=[w102]) (c:=cL cI)) ?_
 conv=>whnf
 obtain ⟨c126,hc126,h⟩:=bind_some h
 refine ⟨_,(sp_word_Next w102 inputs_ c126 (fun _ _=>hc126)),?_⟩
 conv=>whnf
 cases h
 exact Nxt.mk _ ho115 (eA [(64,some 64)])
 replace h:=cond_f b123 h
 conv=>whnf
 cases h
 have ho115:_=_:=ho115
 cases ho115
 exact JoinS.mk' _ rfl (eA [(64,some 64)])
 rintro y95 rfl hp
 replace h:=sum_inl hk61
 obtain ⟨z129,_⟩:=hp
 conv=>whnf
 cases h
 conv=>whnf
 exact Side.mk ⟨rfl,trivial⟩ ⟨rfl,rfl⟩
theorem zh8 (m_:zab) (r:Bool) (h:Ok (.agg (zad m_))→zey m_=some r):Sp Tryz.prog 134 [.im (.agg (zad m_))] (.im (nB r)):=by
 refine sp_of rfl [700001] rfl rfl rfl (Nat.le_of_ble_eq_true rfl) rfl fun hk=>?_
 replace h:=h hk.1
 have z1:lZ m_.Next:=ok_len (Ok.agg_at hk.1 2 rfl)
 have z2:lZ m_.Out:=ok_len (Ok.agg_at hk.1 3 rfl)
 unfold zey at h
 conv=>whnf
 obtain ⟨y56,hc,hk52⟩:=bind_some h
 clear h
 have h:=hc
 clear hc
 refine Cut.mk (mkSt [(1,.im (.ref (zad m_))),(16,.im (nB y56))] [] []) (True) (hT) ?_ (fun hp=>?_)
 conv=>whnf
 obtain ⟨c57,hc57,h⟩:=bind_some h
 refine ⟨_,(zbr m_ c57 (fun _=>hc57)),?_⟩
 conv=>whnf
 refine Both.mk ?_ ?_<;>intro b58
 replace b58:=beq_ff b58
 obtain ⟨h,b58d⟩:=cfd b58 h
 conv=>whnf
 refine Both.yes (ff_beq b58) ?_
 conv=>whnf
 obtain ⟨c59,hc59,h⟩:=bind_some h
 refine ⟨_,(zh1 m_ c59 (fun _=>hc59)).im,?_⟩
 conv=>whnf
 refine Both.yes (ff_beq b58) ?_
 conv=>whnf
 refine Nf.mk (List.length c59) len_map ?_
 conv=>whnf
 iterate 3 (refine Both.yes (ff_beq b58) ?_;(conv=>whnf))
 refine Nf.mk (List.length m_.Next) len_map ?_
 conv=>whnf
 refine Both.yes (ff_beq b58) ?_
 conv=>whnf
 refine Both.no b58 ?_
 conv=>whnf
 cases h
 exact Join.mk (eA [])
 replace b58:=beq_ft b58
 obtain ⟨h,b58d⟩:=ctd b58 h
 conv=>whnf
 iterate 6 (refine Both.no (tf_beq b58) ?_;(conv=>whnf))
 refine Both.yes b58 ?_
 conv=>whnf
 cases h
 exact Join.mk (eA [])
 replace h:=hk52
 conv=>whnf
 refine Both.mk ?_ ?_<;>intro b60
 replace h:=cond_t b60 h
 conv=>whnf
 cases h
 conv=>whnf
 exact ⟨rfl,rfl⟩
 replace h:=cond_f b60 h
 conv=>whnf
 obtain ⟨c61,hc61,h⟩:=bind_some h
 refine ⟨_,(zff m_ c61 (fun _=>hc61)),?_⟩
 conv=>whnf
 refine Side.mk rfl ?_
 conv=>whnf
 obtain ⟨y65,hc,hk63⟩:=bind_some h
 clear h
 have h:=hc
 clear hc
 refine Cut.mk (mkSt [(2,.im (nB y65))] [] []) (True) (hT) ?_ (fun hp=>?_)
 conv=>whnf
 refine Both.mk ?_ ?_<;>intro b66
 replace b66:=beq_tt b66
 obtain ⟨h,b66d⟩:=ctd b66 h
 conv=>whnf
 refine Side.mk rfl ?_
 conv=>whnf
 refine Both.yes (tt_beq b66) ?_
 conv=>whnf
 refine Side.mk rfl ?_
 conv=>whnf
 refine Both.yes (tt_beq b66) ?_
 conv=>whnf
 refine Nf.mk (List.length c61.1.Next) len_map ?_
 conv=>whnf
 iterate 3 (refine Both.yes (tt_beq b66) ?_;(conv=>whnf))
 refine Nf.mk (List.length m_.Next) len_map ?_
 conv=>whnf
 refine Both.yes (tt_beq b66) ?_
 conv=>whnf
 refine Both.yes b66 ?_
 conv=>whnf
 cases h
 exact Join.mk (eA [])
 replace b66:=beq_tf b66
 obtain ⟨h,b66d⟩:=cfd b66 h
 conv=>whnf
 iterate 6 (refine Both.no (ft_beq b66) ?_;(conv=>whnf))
 refine Both.no b66 ?_
 conv=>whnf
 cases h
 exact Join.mk (eA [])
 replace h:=hk63
 conv=>whnf
 cases h
 conv=>whnf
 exact ⟨rfl,rfl⟩
theorem zjl (m_:zab) (r:Int) (h:Ok (.agg (zad m_))→zfv m_=some r):Sp Tryz.prog 117 [.im (.agg (zad m_))] (.im (nI r)):=by
 refine sp_of rfl [700001] rfl rfl rfl (Nat.le_of_ble_eq_true rfl) rfl fun hk=>?_
 replace h:=h hk.1
 have z1:lZ m_.Next:=ok_len (Ok.agg_at hk.1 2 rfl)
 have z2:lZ m_.Out:=ok_len (Ok.agg_at hk.1 3 rfl)
 unfold zfv at h
 conv=>whnf
 obtain ⟨c51,hc51,h⟩:=bind_some h
 refine ⟨_,(zbr m_ c51 (fun _=>hc51)),?_⟩
 conv=>whnf
 refine Both.mk ?_ ?_<;>intro b52
 obtain ⟨h,b52d⟩:=ctd b52 h
 conv=>whnf
 cases h
 conv=>whnf
 exact ⟨rfl,rfl⟩
 obtain ⟨h,b52d⟩:=cfd b52 h
 conv=>whnf
 obtain ⟨c53,hc53,h⟩:=bind_some h
 refine ⟨_,(zh8 m_ c53 (fun _=>hc53)),?_⟩
 conv=>whnf
 refine Both.mk ?_ ?_<;>intro b54
 replace h:=cond_t b54 h
 conv=>whnf
 cases h
 conv=>whnf
 exact ⟨rfl,rfl⟩
 replace h:=cond_f b54 h
 conv=>whnf
 cases h
 conv=>whnf
 exact ⟨rfl,rfl⟩
theorem zlh (a_:zab) (b_:zab) (first_:zcr) (r:List Int×Bool) (h:Ok (.agg (zad a_))→Ok (.agg (zad b_))→Ok (.agg (zfr first_))→zbb a_ b_ first_=some r):Sp Tryz.prog 99 [.im (.agg (zad a_)),.im (.agg (zad b_)),.im (.agg (zfr first_))] (.tup [nL cI r.1,nB r.2]):=by
 refine sp_of rfl [42,600018,700003,700004,700005] rfl rfl rfl (Nat.le_of_ble_eq_true rfl) rfl fun hk=>?_
 replace h:=h hk.1 hk.2.1 hk.2.2.1
 have z1:lZ a_.Next:=ok_len (Ok.agg_at hk.1 2 rfl)
 have z2:lZ a_.Out:=ok_len (Ok.agg_at hk.1 3 rfl)
 have z3:lZ b_.Next:=ok_len (Ok.agg_at hk.2.1 2 rfl)
 have z4:lZ b_.Out:=ok_len (Ok.agg_at hk.2.1 3 rfl)
 unfold zbb at h
 conv=>whnf
 refine Nf.mk (List.length a_.Next) len_map ?_
 conv=>whnf
 obtain ⟨c51,h⟩:=chk_some h
 refine Side.mk c51 ?_
 conv=>whnf
 refine Nf.mk (List.map (cL cB) (List.replicate (List.length a_.Next) ([]:List Bool))) (rep_map (c:=(cL cB)) (z:=([]:List Bool)) (n:=(List.length a_.Next)) rfl rfl) ?_
 conv=>whnf
 refine Side.mk rfl ?_
 conv=>whnf
 refine Nf.mk (List.length (List.replicate (List.length a_.Next) ([]:List Bool))) len_map ?_
 conv=>whnf
 obtain ⟨y68,hc,hk52⟩:=bind_some h
 clear h
 have h:=hc
 clear hc
 refine Cut.mk (mkSt [(3,.im (.ref (zad a_))),(4,.im (.ref (zad b_))),(5,.im (.ref (zfr first_))),(8,.osl 144 1)] [(144,.grid 183 4 1 (List.map (cL cB) y68) none)] []) (lZ y68∧True) ((Holds.kdg 144 rfl).and (hT)) ?_ (fun hp=>?_)
 conv=>whnf
 refine Loops.iter (fun (s:List (List Bool)×Nat)=>zbb.s2 a_ b_ s.1 s.2) (fun (y72,y73)=>mkSt [(3,.im (.ref (zad a_))),(4,.im (.ref (zad b_))),(5,.im (.ref (zfr first_))),(8,.osl 144 1),(20,.im (nI (↑(List.length (List.replicate (List.length a_.Next) ([]:List Bool))):Int))),(21,.im (nI (↑y73:Int)))] [(144,.grid 183 4 1 (List.map (cL cB) y72) none)] []) (fun (y72,y73)=>lZ y72∧True) h (eA [(144,some 18)]) (by rintro ⟨y72,y73⟩;exact ((Holds.kdg 144 rfl).and (hT))) ?_
 clear h
 rintro k ⟨y72,y73⟩ o hp h ho78
 replace h:zbb.s2 a_ b_ y72 y73=some o:=h
 unfold zbb.s2 at h
 obtain ⟨z83,_⟩:=hp
 conv=>whnf
 refine Both.mk ?_ ?_<;>intro b79
 obtain ⟨h,b79d⟩:=ctd b79 h
 conv=>whnf
 refine Nf.mk (List.length b_.Next) len_map ?_
 conv=>whnf
 obtain ⟨c80,h⟩:=chk_some h
 refine Side.mk c80 ?_
 conv=>whnf
 refine Nf.mk (List.map cB (List.replicate (List.length b_.Next) false)) (rep_map (c:=cB) (z:=false) (n:=(List.length b_.Next)) rfl rfl) ?_
 conv=>whnf
 obtain ⟨e81,he81,h⟩:=zaj h
 refine Side.mk ⟨(by omega),rfl,map_lt he81⟩ ?_
 conv=>whnf
 refine Side.mk ⟨rfl,rfl,map_lt he81,trivial⟩ ?_
 conv=>whnf
 refine Nf.mk (List.map (cL cB) (List.set y72 y73 (List.replicate (List.length b_.Next) false))) zl8 ?_
 conv=>whnf
 obtain ⟨c82,h⟩:=chk_some h
 refine Arith.mk c82 ?_
 conv=>whnf
 cases h
 exact Nxt.mk _ ho78 (eA [(144,some 144)])
 obtain ⟨h,b79d⟩:=cfd b79 h
 conv=>whnf
 cases h
 have ho78:_=_:=ho78
 cases ho78
 exact Join.mk (eA [(144,some 144)])
 replace h:=hk52
 obtain ⟨z84,_⟩:=hp
 conv=>whnf
 obtain ⟨e85,he85z,he85,h⟩:=idx_some h
 refine Side.mk ⟨he85z,rfl,map_lt he85⟩ ?_
 conv=>whnf
 refine Side.mk ⟨rfl,map_lt he85⟩ ?_
 conv=>whnf
 obtain ⟨e86,he86z,he86,h⟩:=idx_some h
 refine ⟨_,⟨he86z,rfl,map_at he85,map_lt he86⟩,?_⟩
 conv=>whnf
 refine ⟨_,_,⟨rfl,map_at he85,map_at he86⟩,?_⟩
 conv=>whnf
 refine Nf.mk (List.map (cL cB) (List.set y68 (Int.toNat first_.s) (List.set e85 (Int.toNat first_.t) true))) (set_grid2 rfl) ?_
 conv=>whnf
 obtain ⟨oc,hc,hk87⟩:=bind_some h
 clear h
 have h:=hc
 clear hc
 refine Cut.mkS oc (Y:=Unit) (fun (_:Unit)=>mkSt [] [] []) (fun (_:Unit)=>True) (by rintro ⟨⟩;exact (hT)) ?_ ?_
 conv=>whnf
 refine Loops.iter (fun (s:List (List Bool)×List za2×Nat)=>zbb.s22 a_ b_ s.1 s.2.1 s.2.2) (fun (y898,y899,i900)=>mkSt [(3,.im (.ref (zad a_))),(4,.im (.ref (zad b_))),(8,.osl 144 1),(10,.osl 145 1),(11,.im (nI (↑i900:Int)))] [(144,.grid 183 4 1 (List.map (cL cB) y898) none),(145,.row 188 3 (List.map zda y899))] []) (fun (y898,y899,i900)=>lZ y898∧lZ y899∧True) h (eA [(144,some 144),(145,some 42)]) (by rintro ⟨y898,y899,i900⟩;exact ((Holds.kdg 144 rfl).and ((Holds.kdl 145 rfl).and (hT)))) ?_
 clear h
 rintro k ⟨y898,y899,i900⟩ o hp h ho1102
 replace h:zbb.s22 a_ b_ y898 y899 i900=some o:=h
 unfold zbb.s22 at h
 obtain ⟨z1304,z1305,_⟩:=hp
 conv=>whnf
 refine Side.mk rfl ?_
 conv=>whnf
 refine Nf.mk (List.length y899) len_map ?_
 conv=>whnf
 refine Both.mk ?_ ?_<;>intro b1103
 obtain ⟨h,b1103d⟩:=ctd b1103 h
 conv=>whnf
 obtain ⟨e1104,he1104,h⟩:=zaj h
 refine Side.mk ⟨(by omega),rfl,map_lt he1104⟩ ?_
 conv=>whnf
 refine Side.mk rfl ?_
 conv=>whnf
 refine ⟨_,⟨rfl,map_at he1104,of_decide_eq_true rfl,rfl⟩,?_⟩
 conv=>whnf
 refine Side.mk rfl ?_
 conv=>whnf
 obtain ⟨oc,hc,hk1105⟩:=bind_some h
 clear h
 have h:=hc
 clear hc
 refine Cut.mkS oc (Y:=List (List Bool)×List za2) (fun (y1203,y1204)=>mkSt [(3,.im (.ref (zad a_))),(4,.im (.ref (zad b_))),(8,.osl 144 1),(10,.osl 145 1),(11,.im (nI (↑i900:Int)))] [(144,.grid 183 4 1 (List.map (cL cB) y1203) none),(145,.row 188 3 (List.map zda y1204))] []) (fun (y1203,y1204)=>lZ y1203∧lZ y1204∧True) (by rintro ⟨y1203,y1204⟩;exact ((Holds.kdg 144 rfl).and ((Holds.kdl 145 rfl).and (hT)))) ?_ ?_
 conv=>whnf
 refine Loops.iter (fun (s:List (List Bool)×List za2×Nat)=>zbb.s20 a_ b_ i900 e1104 s.1 s.2.1 s.2.2) (fun (y1234,y1235,y1236)=>mkSt [(3,.im (.ref (zad a_))),(4,.im (.ref (zad b_))),(8,.osl 144 1),(10,.osl 145 1),(11,.im (nI (↑i900:Int))),(12,.own 146 1 0),(55,.im (nI a_.Inputs)),(56,.im (nI (↑y1236:Int)))] [(144,.grid 183 4 1 (List.map (cL cB) y1234) none),(145,.row 188 3 (List.map zda y1235)),(146,.box 158 2)] [(146,0,.im (nI e1104.at_.s)),(146,1,.im (nI e1104.at_.t))]) (fun (y1234,y1235,y1236)=>lZ y1234∧lZ y1235∧True) h (eA [(144,some 144),(145,some 145),(146,some 12)]) (by rintro ⟨y1234,y1235,y1236⟩;exact ((Holds.kdg 144 rfl).and ((Holds.kdl 145 rfl).and (hT)))) ?_
 clear h
 rintro k ⟨y1234,y1235,y1236⟩ o hp h ho1268
 replace h:zbb.s20 a_ b_ i900 e1104 y1234 y1235 y1236=some o:=h
 unfold zbb.s20 at h
 obtain ⟨z1300,z1301,_⟩:=hp
 conv=>whnf
 refine Both.mk ?_ ?_<;>intro b1269
 obtain ⟨h,b1269d⟩:=ctd b1269 h
 conv=>whnf
 refine Side.mk rfl ?_
 conv=>whnf
 refine Side.mk rfl ?_
 conv=>whnf
 obtain ⟨e1270,he1270z,he1270,h⟩:=idx_some h
 refine ⟨_,⟨he1270z,map_at he1270,rfl⟩,?_⟩
 conv=>whnf
 obtain ⟨e1271,he1271,h⟩:=zaj h
 refine ⟨_,⟨(by omega),map_at he1271,rfl⟩,?_⟩
 conv=>whnf
 refine Side.mk rfl ?_
 conv=>whnf
 refine Side.mk rfl ?_
 conv=>whnf
 obtain ⟨e1272,he1272z,he1272,h⟩:=idx_some h
 refine ⟨_,⟨he1272z,map_at he1272,rfl⟩,?_⟩
 conv=>whnf
 obtain ⟨e1273,he1273,h⟩:=zaj h
 refine ⟨_,⟨(by omega),map_at he1273,rfl⟩,?_⟩
 conv=>whnf
 refine Both.mk ?_ ?_<;>intro b1274
 obtain ⟨h,b1274d⟩:=ctd b1274 h
 conv=>whnf
 obtain ⟨e1275,he1275,h⟩:=zaj h
 refine Side.mk ⟨(by omega),rfl,map_lt he1275⟩ ?_
 conv=>whnf
 refine Side.mk rfl ?_
 conv=>whnf
 refine ⟨_,_,⟨rfl,map_at he1275,rfl,rfl⟩,?_⟩
 conv=>whnf
 obtain ⟨c1276,hc1276,h⟩:=bind_some h
 refine ⟨_,(zeq [e1275.word,[(↑y1236:Int)]] c1276 (fun _=>hc1276)),?_⟩
 conv=>whnf
 cases h
 have ho1268:_=_:=ho1268
 cases ho1268
 replace h:some _=some _:=hk1105
 cases h
 have ho1102:_=_:=ho1102
 cases ho1102
 replace h:some _=some _:=hk87
 cases h
 conv=>whnf
 exact ⟨rfl,rfl⟩
 obtain ⟨h,b1274d⟩:=cfd b1274 h
 conv=>whnf
 refine Side.mk rfl ?_
 conv=>whnf
 refine Side.mk rfl ?_
 conv=>whnf
 obtain ⟨e1277,he1277z,he1277,h⟩:=idx_some h
 refine ⟨_,⟨he1277z,map_at he1277,rfl⟩,?_⟩
 conv=>whnf
 obtain ⟨e1278,he1278,h⟩:=zaj h
 refine ⟨_,⟨(by omega),map_at he1278,rfl⟩,?_⟩
 conv=>whnf
 refine Side.mk rfl ?_
 conv=>whnf
 refine Side.mk rfl ?_
 conv=>whnf
 obtain ⟨e1279,he1279z,he1279,h⟩:=idx_some h
 refine ⟨_,⟨he1279z,map_at he1279,rfl⟩,?_⟩
 conv=>whnf
 obtain ⟨e1280,he1280,h⟩:=zaj h
 refine ⟨_,⟨(by omega),map_at he1280,rfl⟩,?_⟩
 conv=>whnf
 refine Side.mk rfl ?_
 conv=>whnf
 obtain ⟨y1286,hc,hk1282⟩:=bind_some h
 clear h
 have h:=hc
 clear hc
 refine Cut.mk (mkSt [(3,.im (.ref (zad a_))),(4,.im (.ref (zad b_))),(8,.osl 144 1),(10,.osl 145 1),(11,.im (nI (↑i900:Int))),(12,.own 146 1 0),(13,.im (nI (↑y1236:Int))),(14,.own 147 1 0),(55,.im (nI a_.Inputs)),(56,.im (nI (↑y1236:Int))),(120,.im (nB y1286))] [(144,.grid 183 4 1 (List.map (cL cB) y1234) none),(145,.row 188 3 (List.map zda y1235)),(146,.box 158 2),(147,.box 158 2)] [(146,0,.im (nI e1104.at_.s)),(146,1,.im (nI e1104.at_.t)),(147,0,.im (nI e1278)),(147,1,.im (nI e1280))]) (lZ y1234∧lZ y1235∧True) ((Holds.kdg 144 rfl).and ((Holds.kdl 145 rfl).and (hT))) ?_ (fun hp=>?_)
 conv=>whnf
 refine Side.mk rfl ?_
 conv=>whnf
 refine Side.mk rfl ?_
 conv=>whnf
 refine Side.mk (by kernel_rfl) ?_
 conv=>whnf
 refine Nf.mk (decide (e1278=e1104.at_.s)&&(decide (e1280=e1104.at_.t)&&true)) rfl ?_
 conv=>whnf
 refine Both.mk ?_ ?_<;>intro b1287
 replace b1287:=beq_tt b1287
 replace h:=cond_t b1287 h
 conv=>whnf
 refine Both.yes (tt_beq b1287) ?_
 conv=>whnf
 refine Side.mk rfl ?_
 conv=>whnf
 refine Both.yes (tt_beq b1287) ?_
 conv=>whnf
 refine Side.mk rfl ?_
 conv=>whnf
 refine Both.yes (tt_beq b1287) ?_
 conv=>whnf
 obtain ⟨e1288,he1288z,he1288,h⟩:=idx_some h
 refine Side.mk ⟨he1288z,rfl,map_lt he1288⟩ ?_
 conv=>whnf
 refine Both.yes (tt_beq b1287) ?_
 conv=>whnf
 refine Side.mk ⟨rfl,map_lt he1288⟩ ?_
 conv=>whnf
 refine Both.yes (tt_beq b1287) ?_
 conv=>whnf
 refine Side.mk rfl ?_
 conv=>whnf
 refine Both.yes (tt_beq b1287) ?_
 conv=>whnf
 refine Side.mk rfl ?_
 conv=>whnf
 refine Both.yes (tt_beq b1287) ?_
 conv=>whnf
 obtain ⟨e1289,he1289z,he1289,h⟩:=idx_some h
 refine ⟨_,⟨he1289z,rfl,map_at he1288,map_lt he1289⟩,?_⟩
 conv=>whnf
 refine Both.yes (tt_beq b1287) ?_
 conv=>whnf
 refine ⟨_,_,_,⟨rfl,map_at he1288,map_at he1289,rfl⟩,?_⟩
 conv=>whnf
 refine Both.yes (tt_beq b1287) ?_
 conv=>whnf
 refine Both.yes b1287 ?_
 conv=>whnf
 cases h
 exact Join.mk (eA [(144,some 144),(145,some 145),(146,some 146),(147,some 14)])
 replace b1287:=beq_tf b1287
 replace h:=cond_f b1287 h
 conv=>whnf
 iterate 9 (refine Both.no (ft_beq b1287) ?_;(conv=>whnf))
 refine Both.no b1287 ?_
 conv=>whnf
 cases h
 exact Join.mk (eA [(144,some 144),(145,some 145),(146,some 146),(147,some 14)])
 replace h:=hk1282
 obtain ⟨z1290,z1291,_⟩:=hp
 conv=>whnf
 refine Both.mk ?_ ?_<;>intro b1292
 replace h:=cond_t b1292 h
 conv=>whnf
 refine Side.mk rfl ?_
 conv=>whnf
 refine Side.mk rfl ?_
 conv=>whnf
 obtain ⟨e1293,he1293z,he1293,h⟩:=idx_some h
 refine Side.mk ⟨he1293z,rfl,map_lt he1293⟩ ?_
 conv=>whnf
 refine Side.mk ⟨rfl,map_lt he1293⟩ ?_
 conv=>whnf
 refine Side.mk rfl ?_
 conv=>whnf
 refine Side.mk rfl ?_
 conv=>whnf
 obtain ⟨e1294,he1294z,he1294,h⟩:=idx_some h
 refine ⟨_,⟨he1294z,rfl,map_at he1293,map_lt he1294⟩,?_⟩
 conv=>whnf
 refine ⟨_,_,⟨rfl,map_at he1293,map_at he1294⟩,?_⟩
 conv=>whnf
 refine Nf.mk (List.map (cL cB) (List.set y1234 (Int.toNat e1278) (List.set e1293 (Int.toNat e1280) true))) (set_grid2 rfl) ?_
 conv=>whnf
 refine Side.mk rfl ?_
 conv=>whnf
 obtain ⟨e1295,he1295,h⟩:=zaj h
 refine Side.mk ⟨(by omega),rfl,map_lt he1295⟩ ?_
 conv=>whnf
 refine Side.mk rfl ?_
 conv=>whnf
 refine ⟨_,_,⟨rfl,map_at he1295,rfl,rfl⟩,?_⟩
 conv=>whnf
 obtain ⟨c1296,hc1296,h⟩:=bind_some h
 refine ⟨_,(zeq [e1295.word,[(↑y1236:Int)]] c1296 (fun _=>hc1296)),?_⟩
 conv=>whnf
 obtain ⟨c1297,h⟩:=chk_some h
 refine Side.mk ⟨rfl,map_len (l:=[(⟨(⟨e1278,e1280⟩:zcr),c1296⟩:za2)]) (c:=zda) fun _=>rfl,show capOk _ 40 by simpa only [List.length_map,List.length_cons,List.length_nil,Nat.zero_add] using c1297⟩ ?_
 conv=>whnf
 refine Nf.mk (List.map zda (y1235++[(⟨(⟨e1278,e1280⟩:zcr),c1296⟩:za2)])) (app_map (l:=y1235) (m:=[(⟨(⟨e1278,e1280⟩:zcr),c1296⟩:za2)]) (c:=zda)) ?_
 conv=>whnf
 obtain ⟨c1298,h⟩:=chk_some h
 refine Arith.mk c1298 ?_
 conv=>whnf
 cases h
 exact Nxt.mk _ ho1268 (eA [(144,some 144),(145,some 145),(146,some 146)])
 replace h:=cond_f b1292 h
 conv=>whnf
 obtain ⟨c1299,h⟩:=chk_some h
 refine Arith.mk c1299 ?_
 conv=>whnf
 cases h
 exact Nxt.mk _ ho1268 (eA [(144,some 144),(145,some 145),(146,some 146)])
 obtain ⟨h,b1269d⟩:=cfd b1269 h
 conv=>whnf
 cases h
 have ho1268:_=_:=ho1268
 cases ho1268
 exact JoinS.mk' _ rfl (eA [(144,some 144),(145,some 145)])
 rintro ⟨y1203,y1204⟩ rfl hp
 have hx_:=sum_inl hk1105
 replace h:zbb.k21 i900 y1203 y1204=some _:=hx_
 clear hx_
 unfold zbb.k21 at h
 obtain ⟨z1302,z1303,_⟩:=hp
 conv=>whnf
 refine Arith.mk (by show inR _;unfold inR;omega) ?_
 conv=>whnf
 cases h
 exact Nxt.mk _ ho1102 (eA [(144,some 144),(145,some 145)])
 obtain ⟨h,b1103d⟩:=cfd b1103 h
 conv=>whnf
 cases h
 have ho1102:_=_:=ho1102
 cases ho1102
 exact JoinS.mk' _ rfl (eA [])
 rintro ⟨⟩ rfl hp
 replace h:=sum_inl hk87
 conv=>whnf
 cases h
 conv=>whnf
 exact ⟨rfl,rfl⟩
theorem zky (m_:zab) (s_:Int) (t_:Int) (r:List Int×Bool×Int) (h:Ok (.agg (zad m_))→Ok (nI s_)→Ok (nI t_)→zg5 m_ s_ t_=some r):Sp Tryz.prog 118 [.im (.agg (zad m_)),.im (nI s_),.im (nI t_)] (.tup [nL cI r.1,nB r.2.1,nI r.2.2]):=by
 refine sp_of rfl [700003] rfl rfl rfl (Nat.le_of_ble_eq_true rfl) rfl fun hk=>?_
 replace h:=h hk.1 hk.2.1 hk.2.2.1
 have z1:lZ m_.Next:=ok_len (Ok.agg_at hk.1 2 rfl)
 have z2:lZ m_.Out:=ok_len (Ok.agg_at hk.1 3 rfl)
 unfold zg5 at h
 conv=>whnf
 obtain ⟨c51,hc51,h⟩:=bind_some h
 refine ⟨_,(zbr m_ c51 (fun _=>hc51)),?_⟩
 conv=>whnf
 refine Both.mk ?_ ?_<;>intro b52
 obtain ⟨h,b52d⟩:=ctd b52 h
 conv=>whnf
 cases h
 conv=>whnf
 exact ⟨rfl,rfl⟩
 obtain ⟨h,b52d⟩:=cfd b52 h
 conv=>whnf
 obtain ⟨y58,hc,hk54⟩:=bind_some h
 clear h
 have h:=hc
 clear hc
 refine Cut.mk (mkSt [(1,.im (nI s_)),(2,.im (nI t_)),(3,.im (.ref (zad m_))),(36,.im (nB y58))] [] []) (True) (hT) ?_ (fun hp=>?_)
 conv=>whnf
 refine Both.mk ?_ ?_<;>intro b59
 replace b59:=beq_ff b59
 obtain ⟨h,b59d⟩:=cfd b59 h
 conv=>whnf
 iterate 3 (refine Both.yes (ff_beq b59) ?_;(conv=>whnf))
 refine Nf.mk (List.length m_.Next) len_map ?_
 conv=>whnf
 refine Both.yes (ff_beq b59) ?_
 conv=>whnf
 refine Both.no b59 ?_
 conv=>whnf
 refine Both.mk ?_ ?_<;>intro b60
 replace b60:=beq_ff b60
 obtain ⟨h,b60d⟩:=cfd b60 h
 conv=>whnf
 refine Both.yes (ff_beq b60) ?_
 conv=>whnf
 refine Both.no b60 ?_
 conv=>whnf
 refine Both.mk ?_ ?_<;>intro b61
 replace b61:=beq_ff b61
 obtain ⟨h,b61d⟩:=cfd b61 h
 conv=>whnf
 iterate 3 (refine Both.yes (ff_beq b61) ?_;(conv=>whnf))
 refine Nf.mk (List.length m_.Next) len_map ?_
 conv=>whnf
 refine Both.yes (ff_beq b61) ?_
 conv=>whnf
 refine Both.no b61 ?_
 conv=>whnf
 cases h
 exact Join.mk (eA [])
 replace b61:=beq_ft b61
 obtain ⟨h,b61d⟩:=ctd b61 h
 conv=>whnf
 iterate 4 (refine Both.no (tf_beq b61) ?_;(conv=>whnf))
 refine Both.yes b61 ?_
 conv=>whnf
 cases h
 exact Join.mk (eA [])
 replace b60:=beq_ft b60
 obtain ⟨h,b60d⟩:=ctd b60 h
 conv=>whnf
 refine Both.no (tf_beq b60) ?_
 conv=>whnf
 refine Both.yes b60 ?_
 conv=>whnf
 iterate 5 (refine Both.no rfl ?_;(conv=>whnf))
 refine Both.yes rfl ?_
 conv=>whnf
 cases h
 exact Join.mk (eA [])
 replace b59:=beq_ft b59
 obtain ⟨h,b59d⟩:=ctd b59 h
 conv=>whnf
 iterate 4 (refine Both.no (tf_beq b59) ?_;(conv=>whnf))
 refine Both.yes b59 ?_
 conv=>whnf
 iterate 2 (refine Both.no rfl ?_;(conv=>whnf))
 refine Both.yes rfl ?_
 conv=>whnf
 iterate 5 (refine Both.no rfl ?_;(conv=>whnf))
 refine Both.yes rfl ?_
 conv=>whnf
 cases h
 exact Join.mk (eA [])
 replace h:=hk54
 conv=>whnf
 refine Both.mk ?_ ?_<;>intro b62
 replace h:=cond_t b62 h
 conv=>whnf
 cases h
 conv=>whnf
 exact ⟨rfl,rfl⟩
 replace h:=cond_f b62 h
 conv=>whnf
 obtain ⟨c63,hc63,h⟩:=bind_some h
 refine ⟨_,(zlh m_ m_ (⟨s_,t_⟩:zcr) c63 (fun _ _ _=>hc63)),?_⟩
 conv=>whnf
 cases h
 conv=>whnf
 exact ⟨rfl,rfl⟩
theorem zgg (m_:zab) (r:List (List (List Int))×Int) (h:Ok (.agg (zad m_))→zao m_=some r):Sp Tryz.prog 86 [.im (.agg (zad m_))] (.tup [nL (cL (cL cI)) r.1,nI r.2]):=by
 refine sp_of rfl [600022,700001,8000073] rfl rfl rfl (Nat.le_of_ble_eq_true rfl) rfl fun hk=>?_
 replace h:=h hk.1
 have z1:lZ m_.Next:=ok_len (Ok.agg_at hk.1 2 rfl)
 have z2:lZ m_.Out:=ok_len (Ok.agg_at hk.1 3 rfl)
 unfold zao at h
 conv=>whnf
 obtain ⟨c51,hc51,h⟩:=bind_some h
 refine ⟨_,(zjl m_ c51 (fun _=>hc51)),?_⟩
 conv=>whnf
 refine Both.mk ?_ ?_<;>intro b52
 obtain ⟨h,b52d⟩:=ctd b52 h
 conv=>whnf
 cases h
 conv=>whnf
 exact ⟨rfl,rfl⟩
 obtain ⟨h,b52d⟩:=cfd b52 h
 conv=>whnf
 refine Nf.mk (List.length m_.Next) len_map ?_
 conv=>whnf
 obtain ⟨c53,h⟩:=chk_some h
 refine Side.mk c53 ?_
 conv=>whnf
 refine Nf.mk (List.map (cL (cL cI)) (List.replicate (List.length m_.Next) ([]:List (List Int)))) (rep_map (c:=(cL (cL cI))) (z:=([]:List (List Int))) (n:=(List.length m_.Next)) rfl rfl) ?_
 conv=>whnf
 refine Nf.mk (List.length m_.Next) len_map ?_
 conv=>whnf
 obtain ⟨oc,hc,hk54⟩:=bind_some h
 clear h
 have h:=hc
 clear hc
 refine Cut.mkS oc (Y:=List (List (List Int))) (fun y257=>mkSt [(5,.osl 86 1)] [(86,.grid 22 25 1 (List.map (cL (cL cI)) y257) none)] []) (fun y257=>lZ y257∧True) (by rintro y257;exact ((Holds.kdg 86 rfl).and (hT))) ?_ ?_
 conv=>whnf
 refine Loops.iter (fun (s:List (List (List Int))×Nat)=>zao.s14 m_ s.1 s.2) (fun (y324,y325)=>mkSt [(1,.im (.ref (zad m_))),(5,.osl 86 1),(25,.im (nI (↑(List.length m_.Next):Int))),(26,.im (nI (↑y325:Int)))] [(86,.grid 22 25 1 (List.map (cL (cL cI)) y324) none)] []) (fun (y324,y325)=>lZ y324∧True) h (eA [(86,some 22)]) (by rintro ⟨y324,y325⟩;exact ((Holds.kdg 86 rfl).and (hT))) ?_
 clear h
 rintro k ⟨y324,y325⟩ o hp h ho392
 replace h:zao.s14 m_ y324 y325=some o:=h
 unfold zao.s14 at h
 obtain ⟨z459,_⟩:=hp
 conv=>whnf
 refine Both.mk ?_ ?_<;>intro b393
 obtain ⟨h,b393d⟩:=ctd b393 h
 conv=>whnf
 refine Arith.mk (by show inR _;unfold inR;omega) ?_
 conv=>whnf
 obtain ⟨oc,hc,hk394⟩:=bind_some h
 clear h
 have h:=hc
 clear hc
 refine Cut.mkS oc (Y:=List (List (List Int))) (fun y426=>mkSt [(1,.im (.ref (zad m_))),(5,.osl 86 1),(25,.im (nI (↑(List.length m_.Next):Int))),(26,.im (nI (↑y325:Int)))] [(86,.grid 22 25 1 (List.map (cL (cL cI)) y426) none)] []) (fun y426=>lZ y426∧True) (by rintro y426;exact ((Holds.kdg 86 rfl).and (hT))) ?_ ?_
 conv=>whnf
 refine Loops.iter (fun (s:List (List (List Int))×Nat)=>zao.s13 m_ y325 s.1 s.2) (fun (y436,t437)=>mkSt [(1,.im (.ref (zad m_))),(5,.osl 86 1),(6,.im (nI (↑y325:Int))),(7,.im (nI (↑t437:Int))),(25,.im (nI (↑(List.length m_.Next):Int))),(26,.im (nI (↑y325:Int)))] [(86,.grid 22 25 1 (List.map (cL (cL cI)) y436) none)] []) (fun (y436,t437)=>lZ y436∧True) h (eA [(86,some 86)]) (by rintro ⟨y436,t437⟩;exact ((Holds.kdg 86 rfl).and (hT))) ?_
 clear h
 rintro k ⟨y436,t437⟩ o hp h ho447
 replace h:zao.s13 m_ y325 y436 t437=some o:=h
 unfold zao.s13 at h
 obtain ⟨z457,_⟩:=hp
 conv=>whnf
 refine Nf.mk (List.length m_.Next) len_map ?_
 conv=>whnf
 refine Both.mk ?_ ?_<;>intro b448
 obtain ⟨h,b448d⟩:=ctd b448 h
 conv=>whnf
 obtain ⟨c449,hc449,h⟩:=bind_some h
 refine ⟨_,(zky m_ (↑y325:Int) (↑t437:Int) c449 (fun _ _ _=>hc449)),?_⟩
 conv=>whnf
 refine Both.mk ?_ ?_<;>intro b450
 obtain ⟨h,b450d⟩:=ctd b450 h
 conv=>whnf
 cases h
 have ho447:_=_:=ho447
 cases ho447
 replace h:some _=some _:=hk394
 cases h
 have ho392:_=_:=ho392
 cases ho392
 replace h:some _=some _:=hk54
 cases h
 conv=>whnf
 exact ⟨rfl,rfl⟩
 obtain ⟨h,b450d⟩:=cfd b450 h
 conv=>whnf
 obtain ⟨e451,he451,h⟩:=zaj h
 refine Side.mk ⟨(by omega),rfl,map_lt he451⟩ ?_
 conv=>whnf
 refine Side.mk ⟨rfl,map_lt he451⟩ ?_
 conv=>whnf
 obtain ⟨c452,h⟩:=chk_some h
 refine ⟨_,⟨rfl,map_at he451,map_len (l:=[c449.1]) (c:=cL cI) fun _=>rfl,show capOk _ 24 by simpa only [List.length_map,List.length_cons,List.length_nil,Nat.zero_add] using c452⟩,?_⟩
 conv=>whnf
 refine Nf.mk (List.map (cL cI) (e451++[c449.1])) (app_map (l:=e451) (m:=[c449.1]) (c:=cL cI)) ?_
 conv=>whnf
 obtain ⟨e453,he453,h⟩:=zaj h
 refine Side.mk ⟨(by omega),rfl,map_lt he453⟩ ?_
 conv=>whnf
 refine Side.mk ⟨rfl,rfl,map_lt he453,rfl⟩ ?_
 conv=>whnf
 refine Nf.mk (List.map (cL (cL cI)) (List.set y436 y325 (e451++[c449.1]))) zl8 ?_
 conv=>whnf
 obtain ⟨e454,he454,h⟩:=zaj h
 refine Side.mk ⟨(by omega),rfl,map_lt he454⟩ ?_
 conv=>whnf
 refine Side.mk ⟨rfl,map_lt he454⟩ ?_
 conv=>whnf
 obtain ⟨c455,h⟩:=chk_some h
 refine ⟨_,⟨rfl,map_at he454,map_len (l:=[c449.1]) (c:=cL cI) fun _=>rfl,show capOk _ 24 by simpa only [List.length_map,List.length_cons,List.length_nil,Nat.zero_add] using c455⟩,?_⟩
 conv=>whnf
 refine Nf.mk (List.map (cL cI) (e454++[c449.1])) (app_map (l:=e454) (m:=[c449.1]) (c:=cL cI)) ?_
 conv=>whnf
 obtain ⟨e456,he456,h⟩:=zaj h
 refine Side.mk ⟨(by omega),rfl,map_lt he456⟩ ?_
 conv=>whnf
 refine Side.mk ⟨rfl,rfl,map_lt he456,rfl⟩ ?_
 conv=>whnf
 refine Nf.mk (List.map (cL (cL cI)) (List.set (List.set y436 y325 (e451++[c449.1])) t437 (e454++[c449.1]))) zl8 ?_
 conv=>whnf
 refine Arith.mk (by show inR _;unfold inR;omega) ?_
 conv=>whnf
 cases h
 exact Nxt.mk _ ho447 (eA [(86,some 86)])
 obtain ⟨h,b448d⟩:=cfd b448 h
 conv=>whnf
 cases h
 have ho447:_=_:=ho447
 cases ho447
 exact JoinS.mk' _ rfl (eA [(86,some 86)])
 rintro y426 rfl hp
 replace h:=sum_inl hk394
 obtain ⟨z458,_⟩:=hp
 conv=>whnf
 refine Arith.mk (by show inR _;unfold inR;omega) ?_
 conv=>whnf
 cases h
 exact Nxt.mk _ ho392 (eA [(86,some 86)])
 obtain ⟨h,b393d⟩:=cfd b393 h
 conv=>whnf
 cases h
 have ho392:_=_:=ho392
 cases ho392
 exact JoinS.mk' _ rfl (eA [(86,some 86)])
 rintro y257 rfl hp
 replace h:=sum_inl hk54
 obtain ⟨z460,_⟩:=hp
 conv=>whnf
 refine Side.mk rfl ?_
 conv=>whnf
 refine Nf.mk (List.length y257) len_map ?_
 conv=>whnf
 obtain ⟨c461,h⟩:=chk_some h
 refine Side.mk c461 ?_
 conv=>whnf
 refine Nf.mk (List.map (cL (cL cI)) []) rfl ?_
 conv=>whnf
 refine Side.mk ⟨rfl,trivial⟩ ?_
 conv=>whnf
 refine Nf.mk (List.length y257) len_map ?_
 conv=>whnf
 obtain ⟨y480,hc,hk462⟩:=bind_some h
 clear h
 have h:=hc
 clear hc
 refine Cut.mk (mkSt [(11,.osl 86 1)] [(86,.row 22 1 (List.map (cL (cL cI)) y480))] []) (lZ y480∧True) ((Holds.kdl 86 rfl).and (hT)) ?_ (fun hp=>?_)
 conv=>whnf
 refine Loops.iter (fun (s:List (List (List Int))×Nat)=>zao.s16 y257 s.1 s.2) (fun (y485,y486)=>mkSt [(11,.osl 86 1),(73,.im (nL (cL (cL cI)) y257)),(74,.im (nI (↑(List.length y257):Int))),(75,.im (nI (↑y486:Int)))] [(86,.row 22 1 (List.map (cL (cL cI)) y485))] []) (fun (y485,y486)=>lZ y257∧lZ y485∧True) h (eA [(86,some 72)]) (by rintro ⟨y485,y486⟩;exact ((Holds.avl 73 rfl).and ((Holds.kdl 86 rfl).and (hT)))) ?_
 clear h
 rintro k ⟨y485,y486⟩ o hp h ho491
 replace h:zao.s16 y257 y485 y486=some o:=h
 unfold zao.s16 at h
 obtain ⟨z496,z497,_⟩:=hp
 conv=>whnf
 refine Both.mk ?_ ?_<;>intro b492
 obtain ⟨h,b492d⟩:=ctd b492 h
 conv=>whnf
 obtain ⟨e493,he493,h⟩:=zaj h
 refine ⟨_,⟨(by omega),map_at he493,rfl⟩,?_⟩
 conv=>whnf
 obtain ⟨c494,hc494,h⟩:=bind_some h
 refine ⟨_,(zf1 e493 c494 (fun _=>hc494)).im,?_⟩
 conv=>whnf
 obtain ⟨c495,h⟩:=chk_some h
 refine Side.mk ⟨rfl,map_len (l:=[c494]) (c:=cL (cL cI)) fun _=>rfl,show capOk _ 24 by simpa only [List.length_map,List.length_cons,List.length_nil,Nat.zero_add] using c495⟩ ?_
 conv=>whnf
 refine Nf.mk (List.map (cL (cL cI)) (y485++[c494])) (app_map (l:=y485) (m:=[c494]) (c:=cL (cL cI))) ?_
 conv=>whnf
 refine Arith.mk (by show inR _;unfold inR;omega) ?_
 conv=>whnf
 cases h
 exact Nxt.mk _ ho491 (eA [(86,some 86)])
 obtain ⟨h,b492d⟩:=cfd b492 h
 conv=>whnf
 cases h
 have ho491:_=_:=ho491
 cases ho491
 exact Join.mk (eA [(86,some 86)])
 replace h:=hk462
 obtain ⟨z498,_⟩:=hp
 conv=>whnf
 cases h
 conv=>whnf
 exact Side.mk ⟨rfl,trivial⟩ ⟨rfl,rfl⟩
theorem zki (m_:zab) (extra_:Int) (r:List (List Int)×Int) (h:Ok (.agg (zad m_))→Ok (nI extra_)→zb4 m_ extra_=some r):Sp Tryz.prog 49 [.im (.agg (zad m_)),.im (nI extra_)] (.tup [nL (cL cI) r.1,nI r.2]):=by
 refine sp_of rfl [700002] rfl rfl rfl (Nat.le_of_ble_eq_true rfl) rfl fun hk=>?_
 replace h:=h hk.1 hk.2.1
 have z1:lZ m_.Next:=ok_len (Ok.agg_at hk.1 2 rfl)
 have z2:lZ m_.Out:=ok_len (Ok.agg_at hk.1 3 rfl)
 unfold zb4 at h
 conv=>whnf
 obtain ⟨c51,hc51,h⟩:=bind_some h
 refine ⟨_,(zbr m_ c51 (fun _=>hc51)),?_⟩
 conv=>whnf
 refine Both.mk ?_ ?_<;>intro b52
 obtain ⟨h,b52d⟩:=ctd b52 h
 conv=>whnf
 cases h
 conv=>whnf
 exact ⟨rfl,rfl⟩
 obtain ⟨h,b52d⟩:=cfd b52 h
 conv=>whnf
 obtain ⟨y56,hc,hk54⟩:=bind_some h
 clear h
 have h:=hc
 clear hc
 refine Cut.mk (mkSt [(1,.im (nI extra_)),(2,.im (.ref (zad m_))),(30,.im (nB y56))] [] []) (True) (hT) ?_ (fun hp=>?_)
 conv=>whnf
 refine Both.mk ?_ ?_<;>intro b57
 replace b57:=beq_ff b57
 obtain ⟨h,b57d⟩:=cfd b57 h
 conv=>whnf
 refine Both.yes (ff_beq b57) ?_
 conv=>whnf
 refine Both.no b57 ?_
 conv=>whnf
 cases h
 exact Join.mk (eA [])
 replace b57:=beq_ft b57
 obtain ⟨h,b57d⟩:=ctd b57 h
 conv=>whnf
 refine Both.no (tf_beq b57) ?_
 conv=>whnf
 refine Both.yes b57 ?_
 conv=>whnf
 cases h
 exact Join.mk (eA [])
 replace h:=hk54
 conv=>whnf
 refine Both.mk ?_ ?_<;>intro b58
 replace h:=cond_t b58 h
 conv=>whnf
 cases h
 conv=>whnf
 exact ⟨rfl,rfl⟩
 replace h:=cond_f b58 h
 conv=>whnf
 obtain ⟨c59,hc59,h⟩:=bind_some h
 refine ⟨_,(zff m_ c59 (fun _=>hc59)),?_⟩
 conv=>whnf
 refine Side.mk rfl ?_
 conv=>whnf
 refine Both.mk ?_ ?_<;>intro b60
 obtain ⟨h,b60d⟩:=ctd b60 h
 conv=>whnf
 cases h
 conv=>whnf
 exact ⟨rfl,rfl⟩
 obtain ⟨h,b60d⟩:=cfd b60 h
 conv=>whnf
 refine Side.mk rfl ?_
 conv=>whnf
 obtain ⟨c61,hc61,h⟩:=bind_some h
 refine ⟨_,(zic c59.1 c61 (fun _=>hc61)),?_⟩
 conv=>whnf
 refine Both.mk ?_ ?_<;>intro b62
 obtain ⟨h,b62d⟩:=ctd b62 h
 conv=>whnf
 cases h
 conv=>whnf
 exact ⟨rfl,rfl⟩
 obtain ⟨h,b62d⟩:=cfd b62 h
 conv=>whnf
 refine Side.mk rfl ?_
 conv=>whnf
 refine Side.mk rfl ?_
 conv=>whnf
 obtain ⟨c63,h⟩:=chk_some h
 refine Arith.mk c63 ?_
 conv=>whnf
 obtain ⟨c64,hc64,h⟩:=bind_some h
 refine ⟨_,(zkt c59.1.Inputs (extra_+1) c64 (fun _ _=>hc64)),?_⟩
 conv=>whnf
 refine Both.mk ?_ ?_<;>intro b65
 obtain ⟨h,b65d⟩:=ctd b65 h
 conv=>whnf
 cases h
 conv=>whnf
 exact ⟨rfl,rfl⟩
 obtain ⟨h,b65d⟩:=cfd b65 h
 conv=>whnf
 refine Side.mk rfl ?_
 conv=>whnf
 obtain ⟨c66,hc66,h⟩:=bind_some h
 refine ⟨_,(zgg c59.1 c66 (fun _=>hc66)),?_⟩
 conv=>whnf
 refine Both.mk ?_ ?_<;>intro b67
 obtain ⟨h,b67d⟩:=ctd b67 h
 conv=>whnf
 cases h
 conv=>whnf
 exact ⟨rfl,rfl⟩
 obtain ⟨h,b67d⟩:=cfd b67 h
 conv=>whnf
 refine Nf.mk (List.length c61.1) len_map ?_
 conv=>whnf
 refine Nf.mk (List.length c64.1) len_map ?_
 conv=>whnf
 obtain ⟨c68,h⟩:=chk_some h
 refine Arith.mk c68 ?_
 conv=>whnf
 obtain ⟨c69,hc69,h⟩:=bind_some h
 refine ⟨_,(zmm c66.1 c69 (fun _=>hc69)),?_⟩
 conv=>whnf
 obtain ⟨c70,h⟩:=chk_some h
 refine Arith.mk c70 ?_
 conv=>whnf
 refine Both.mk ?_ ?_<;>intro b71
 obtain ⟨h,b71d⟩:=ctd b71 h
 conv=>whnf
 cases h
 conv=>whnf
 exact ⟨rfl,rfl⟩
 obtain ⟨h,b71d⟩:=cfd b71 h
 conv=>whnf
 refine Nf.mk (List.length c61.1) len_map ?_
 conv=>whnf
 obtain ⟨oc,hc,hk72⟩:=bind_some h
 clear h
 have h:=hc
 clear hc
 refine Cut.mkS oc (Y:=List (List Int)) (fun y298=>mkSt [(12,.osl 110 1)] [(110,.row 25 1 (List.map (cL cI) y298))] []) (fun y298=>lZ y298∧True) (by rintro y298;exact ((Holds.kdl 110 rfl).and (hT))) ?_ ?_
 conv=>whnf
 refine Loops.iter (fun (s:List (List Int)×Nat)=>zb4.s14 c59 c61 c64 c66 s.1 s.2) (fun (y371,y372)=>mkSt [(7,.own 110 1 0),(10,.im (nL (cL cI) c64.1)),(11,.im (nL (cL (cL cI)) c66.1)),(12,.osl 111 1),(75,.im (nL (cL cI) c61.1)),(76,.im (nI (↑(List.length c61.1):Int))),(77,.im (nI (↑y372:Int)))] [(110,.box 24 4),(111,.row 25 1 (List.map (cL cI) y371))] [(110,0,.im (nI c59.1.Inputs)),(110,1,.im (nI c59.1.Start)),(110,2,.im (nL (cL cI) c59.1.Next)),(110,3,.im (nL (cL cI) c59.1.Out))]) (fun (y371,y372)=>lZ c64.1∧lZ c66.1∧lZ c61.1∧lZ c59.1.Next∧lZ c59.1.Out∧lZ y371∧True) h (eA [(110,some 7),(111,none)]) (by rintro ⟨y371,y372⟩;exact ((Holds.avl 10 rfl).and ((Holds.avl 11 rfl).and ((Holds.avl 75 rfl).and ((Holds.cel 110 2 rfl (by decide) rfl).and ((Holds.cel 110 3 rfl (by decide) rfl).and ((Holds.kdl 111 rfl).and (hT)))))))) ?_
 clear h
 rintro k ⟨y371,y372⟩ o hp h ho445
 replace h:zb4.s14 c59 c61 c64 c66 y371 y372=some o:=h
 unfold zb4.s14 at h
 obtain ⟨z518,z519,z520,z521,z522,z523,_⟩:=hp
 conv=>whnf
 refine Both.mk ?_ ?_<;>intro b446
 obtain ⟨h,b446d⟩:=ctd b446 h
 conv=>whnf
 obtain ⟨e447,he447,h⟩:=zaj h
 refine ⟨_,⟨(by omega),map_at he447,rfl⟩,?_⟩
 conv=>whnf
 refine Nf.mk (List.length c64.1) len_map ?_
 conv=>whnf
 obtain ⟨oc,hc,hk448⟩:=bind_some h
 clear h
 have h:=hc
 clear hc
 refine Cut.mkS oc (Y:=List (List Int)) (fun y480=>mkSt [(7,.own 110 1 0),(10,.im (nL (cL cI) c64.1)),(11,.im (nL (cL (cL cI)) c66.1)),(12,.osl 111 1),(75,.im (nL (cL cI) c61.1)),(76,.im (nI (↑(List.length c61.1):Int))),(77,.im (nI (↑y372:Int)))] [(110,.box 24 4),(111,.row 25 1 (List.map (cL cI) y480))] [(110,0,.im (nI c59.1.Inputs)),(110,1,.im (nI c59.1.Start)),(110,2,.im (nL (cL cI) c59.1.Next)),(110,3,.im (nL (cL cI) c59.1.Out))]) (fun y480=>lZ c64.1∧lZ c66.1∧lZ c61.1∧lZ c59.1.Next∧lZ c59.1.Out∧lZ y480∧True) (by rintro y480;exact ((Holds.avl 10 rfl).and ((Holds.avl 11 rfl).and ((Holds.avl 75 rfl).and ((Holds.cel 110 2 rfl (by decide) rfl).and ((Holds.cel 110 3 rfl (by decide) rfl).and ((Holds.kdl 111 rfl).and (hT)))))))) ?_ ?_
 conv=>whnf
 refine Loops.iter (fun (s:List (List Int)×Nat)=>zb4.s13 c59 c64 c66 e447 s.1 s.2) (fun (y488,y489)=>mkSt [(7,.own 110 1 0),(10,.im (nL (cL cI) c64.1)),(11,.im (nL (cL (cL cI)) c66.1)),(12,.osl 111 1),(14,.im (nL cI e447)),(75,.im (nL (cL cI) c61.1)),(76,.im (nI (↑(List.length c61.1):Int))),(77,.im (nI (↑y372:Int))),(81,.im (nL (cL cI) c64.1)),(82,.im (nI (↑(List.length c64.1):Int))),(83,.im (nI (↑y489:Int)))] [(110,.box 24 4),(111,.row 25 1 (List.map (cL cI) y488))] [(110,0,.im (nI c59.1.Inputs)),(110,1,.im (nI c59.1.Start)),(110,2,.im (nL (cL cI) c59.1.Next)),(110,3,.im (nL (cL cI) c59.1.Out))]) (fun (y488,y489)=>lZ c64.1∧lZ c66.1∧lZ e447∧lZ c61.1∧lZ c59.1.Next∧lZ c59.1.Out∧lZ y488∧True) h (eA [(110,some 110),(111,some 111)]) (by rintro ⟨y488,y489⟩;exact ((Holds.avl 10 rfl).and ((Holds.avl 11 rfl).and ((Holds.avl 14 rfl).and ((Holds.avl 75 rfl).and ((Holds.cel 110 2 rfl (by decide) rfl).and ((Holds.cel 110 3 rfl (by decide) rfl).and ((Holds.kdl 111 rfl).and (hT))))))))) ?_
 clear h
 rintro k ⟨y488,y489⟩ o hp h ho497
 replace h:zb4.s13 c59 c64 c66 e447 y488 y489=some o:=h
 unfold zb4.s13 at h
 obtain ⟨z505,z506,z507,z508,z509,z510,z511,_⟩:=hp
 conv=>whnf
 refine Both.mk ?_ ?_<;>intro b498
 obtain ⟨h,b498d⟩:=ctd b498 h
 conv=>whnf
 obtain ⟨e499,he499,h⟩:=zaj h
 refine ⟨_,⟨(by omega),map_at he499,rfl⟩,?_⟩
 conv=>whnf
 obtain ⟨c500,hc500,h⟩:=bind_some h
 refine ⟨_,(zeq [e447,e499] c500 (fun _=>hc500)),?_⟩
 conv=>whnf
 refine Side.mk rfl ?_
 conv=>whnf
 obtain ⟨c501,hc501,h⟩:=bind_some h
 refine ⟨_,(zk1 c59.1 c66.1 c500 c501 (fun _ _ _=>hc501)),?_⟩
 conv=>whnf
 refine Both.mk ?_ ?_<;>intro b502
 obtain ⟨h,b502d⟩:=ctd b502 h
 conv=>whnf
 cases h
 have ho497:_=_:=ho497
 cases ho497
 replace h:some _=some _:=hk448
 cases h
 have ho445:_=_:=ho445
 cases ho445
 replace h:some _=some _:=hk72
 cases h
 conv=>whnf
 exact ⟨rfl,rfl⟩
 obtain ⟨h,b502d⟩:=cfd b502 h
 conv=>whnf
 obtain ⟨c503,hc503,h⟩:=bind_some h
 refine ⟨_,(zgr c500 c501.1 c503 (fun _ _=>hc503)).im,?_⟩
 conv=>whnf
 obtain ⟨c504,h⟩:=chk_some h
 refine Side.mk ⟨rfl,map_len (l:=c503) (c:=cL cI) fun _=>rfl,show capOk _ 24 by simpa only [List.length_map,List.length_cons,List.length_nil,Nat.zero_add] using c504⟩ ?_
 conv=>whnf
 refine Nf.mk (List.map (cL cI) (y488++c503)) (app_map (l:=y488) (m:=c503) (c:=cL cI)) ?_
 conv=>whnf
 refine Arith.mk (by show inR _;unfold inR;omega) ?_
 conv=>whnf
 cases h
 exact Nxt.mk _ ho497 (eA [(110,some 110),(111,some 111)])
 obtain ⟨h,b498d⟩:=cfd b498 h
 conv=>whnf
 cases h
 have ho497:_=_:=ho497
 cases ho497
 exact JoinS.mk' _ rfl (eA [(110,some 110),(111,some 111)])
 rintro y480 rfl hp
 replace h:=sum_inl hk448
 obtain ⟨z512,z513,z514,z515,z516,z517,_⟩:=hp
 conv=>whnf
 refine Arith.mk (by show inR _;unfold inR;omega) ?_
 conv=>whnf
 cases h
 exact Nxt.mk _ ho445 (eA [(110,some 110),(111,some 111)])
 obtain ⟨h,b446d⟩:=cfd b446 h
 conv=>whnf
 cases h
 have ho445:_=_:=ho445
 cases ho445
 exact JoinS.mk' _ rfl (eA [(110,some 111)])
 rintro y298 rfl hp
 replace h:=sum_inl hk72
 obtain ⟨z524,_⟩:=hp
 conv=>whnf
 refine Side.mk ⟨rfl,trivial⟩ ?_
 conv=>whnf
 obtain ⟨c525,hc525,h⟩:=bind_some h
 refine ⟨_,(zin y298 c525 (fun _=>hc525)),?_⟩
 conv=>whnf
 cases h
 conv=>whnf
 exact ⟨rfl,rfl⟩
theorem zh3 (m_:zab) (extra_:Int) (r:za0×Int) (h:Ok (.agg (zad m_))→Ok (nI extra_)→zgf m_ extra_=some r):Sp Tryz.prog 21 [.im (.agg (zad m_)),.im (nI extra_)] (.tup [.agg (zbd r.1),nI r.2]):=by
 refine sp_of rfl [700002] rfl rfl rfl (Nat.le_of_ble_eq_true rfl) rfl fun hk=>?_
 replace h:=h hk.1 hk.2.1
 have z1:lZ m_.Next:=ok_len (Ok.agg_at hk.1 2 rfl)
 have z2:lZ m_.Out:=ok_len (Ok.agg_at hk.1 3 rfl)
 unfold zgf at h
 conv=>whnf
 obtain ⟨c51,hc51,h⟩:=bind_some h
 refine ⟨_,(zki m_ extra_ c51 (fun _ _=>hc51)),?_⟩
 conv=>whnf
 refine Both.mk ?_ ?_<;>intro b52
 obtain ⟨h,b52d⟩:=ctd b52 h
 conv=>whnf
 refine Side.mk rfl ?_
 conv=>whnf
 cases h
 conv=>whnf
 refine Side.mk ⟨rfl,trivial⟩ ?_
 conv=>whnf
 exact ⟨rfl,rfl⟩
 obtain ⟨h,b52d⟩:=cfd b52 h
 conv=>whnf
 obtain ⟨c53,hc53,h⟩:=bind_some h
 refine ⟨_,(zff m_ c53 (fun _=>hc53)),?_⟩
 conv=>whnf
 refine Side.mk rfl ?_
 conv=>whnf
 refine Both.mk ?_ ?_<;>intro b54
 obtain ⟨h,b54d⟩:=ctd b54 h
 conv=>whnf
 refine Side.mk rfl ?_
 conv=>whnf
 cases h
 conv=>whnf
 refine Side.mk ⟨rfl,trivial⟩ ?_
 conv=>whnf
 exact ⟨rfl,rfl⟩
 obtain ⟨h,b54d⟩:=cfd b54 h
 conv=>whnf
 refine Side.mk rfl ?_
 conv=>whnf
 refine Side.mk rfl ?_
 conv=>whnf
 cases h
 conv=>whnf
 refine Side.mk ⟨rfl,trivial⟩ ?_
 conv=>whnf
 exact ⟨rfl,rfl⟩
theorem zfi (t_:zaa) (p1_:List Int) (r:Bool) (h:Ok (.agg (zac t_))→Ok (.ref (cL cI p1_))→zb5 t_ p1_=some r):Sp Tryz.prog 68 [.im (.agg (zac t_)),.im (.ref (cL cI p1_))] (.im (nB r)):=by
 refine sp_of rfl [700002] rfl rfl rfl (Nat.le_of_ble_eq_true rfl) rfl fun hk=>?_
 replace h:=h hk.1 hk.2.1
 have z1:lZ t_.In:=ok_len (Ok.agg_at hk.1 0 rfl)
 have z2:lZ t_.Out:=ok_len (Ok.agg_at hk.1 1 rfl)
 have z3:lZ p1_:=ok_len (Ok.ref_at hk.2.1 0 rfl)
 unfold zb5 at h
 conv=>whnf
 obtain ⟨c51,hc51,h⟩:=bind_some h
 refine ⟨_,(zc1 p1_ t_.In c51 (fun _ _=>hc51)),?_⟩
 conv=>whnf
 cases h
 conv=>whnf
 exact ⟨rfl,rfl⟩
theorem zbm (s_:List zaa) (f_:zaa→Option Bool) (f1_:FuncId) (k1_0:IV) (hk1_0:nz k1_0=k1_0) (hf1:∀ x0 r,f_ x0=some r→Sp Tryz.prog f1_ [.im (.agg (zac x0)),.im k1_0] (.im (nB r))) (r:Int) (h:Ok (nL zac s_)→Ok (.fn f1_ [k1_0])→zak s_ f_=some r):Sp Tryz.prog 43 [.im (nL zac s_),.im (.fn f1_ [k1_0])] (.im (nI r)):=by
 refine sp_of rfl [] rfl rfl rfl (Nat.le_of_ble_eq_true rfl) rfl fun hk=>?_
 replace h:=h hk.1 hk.2.1
 have z1:lZ s_:=ok_len hk.1
 unfold zak at h
 conv=>whnf
 refine Nf.mk (List.length s_) len_map ?_
 conv=>whnf
 obtain ⟨oc,hc,hk51⟩:=bind_some h
 clear h
 have h:=hc
 clear hc
 refine Cut.mkS oc (Y:=Unit) (fun (_:Unit)=>mkSt [] [] []) (fun (_:Unit)=>True) (by rintro ⟨⟩;exact (hT)) ?_ ?_
 conv=>whnf
 refine Loops.iter (fun (s:Nat)=>zak.s2 s_ f_ s) (fun y71=>mkSt [(0,.im (nL zac s_)),(1,.im (.fn f1_ [k1_0])),(7,.im (nI (↑(List.length s_):Int))),(8,.im (nI (↑y71:Int)))] [] []) (fun y71=>lZ s_∧True) h (eA []) (by rintro y71;exact ((Holds.avl 0 rfl).and (hT))) ?_
 clear h
 rintro k y71 o hp h ho76
 replace h:zak.s2 s_ f_ y71=some o:=h
 unfold zak.s2 at h
 obtain ⟨z81,_⟩:=hp
 conv=>whnf
 refine Both.mk ?_ ?_<;>intro b77
 obtain ⟨h,b77d⟩:=ctd b77 h
 conv=>whnf
 obtain ⟨e78,he78,h⟩:=zaj h
 refine ⟨_,⟨(by omega),map_at he78,rfl⟩,?_⟩
 conv=>whnf
 obtain ⟨c79,hc79,h⟩:=bind_some h
 refine ⟨_,Sp.args (hf1 e78 c79 hc79) (by rw [hk1_0];try rfl),?_⟩
 conv=>whnf
 refine Both.mk ?_ ?_<;>intro b80
 replace h:=cond_t b80 h
 conv=>whnf
 cases h
 have ho76:_=_:=ho76
 cases ho76
 replace h:some _=some _:=hk51
 cases h
 conv=>whnf
 exact ⟨rfl,rfl⟩
 replace h:=cond_f b80 h
 conv=>whnf
 refine Arith.mk (by show inR _;unfold inR;omega) ?_
 conv=>whnf
 cases h
 exact Nxt.mk _ ho76 (eA [])
 obtain ⟨h,b77d⟩:=cfd b77 h
 conv=>whnf
 cases h
 have ho76:_=_:=ho76
 cases ho76
 exact JoinS.mk' _ rfl (eA [])
 rintro ⟨⟩ rfl hp
 replace h:=sum_inl hk51
 conv=>whnf
 cases h
 conv=>whnf
 exact ⟨rfl,rfl⟩
theorem zcz (s_:List zaa) (f_:zaa→Option Bool) (f1_:FuncId) (k1_0:IV) (hk1_0:nz k1_0=k1_0) (hf1:∀ x0 r,f_ x0=some r→Sp Tryz.prog f1_ [.im (.agg (zac x0)),.im k1_0] (.im (nB r))) (r:Bool) (h:Ok (nL zac s_)→Ok (.fn f1_ [k1_0])→za3 s_ f_=some r):Sp Tryz.prog 67 [.im (nL zac s_),.im (.fn f1_ [k1_0])] (.im (nB r)):=by
 refine sp_of rfl [] rfl rfl rfl (Nat.le_of_ble_eq_true rfl) rfl fun hk=>?_
 replace h:=h hk.1 hk.2.1
 have z1:lZ s_:=ok_len hk.1
 unfold za3 at h
 conv=>whnf
 obtain ⟨c51,hc51,h⟩:=bind_some h
 refine ⟨_,(zbm s_ f_ f1_ k1_0 hk1_0 hf1 c51 (fun _ _=>hc51)),?_⟩
 conv=>whnf
 cases h
 conv=>whnf
 exact ⟨rfl,rfl⟩
theorem zdy (r_:zau) (w_:List Int) (v0_0:Value) (v0_1:Value) (v0_2:Value) (v0_3:Value) (v0_4:Value) (r:Bool×zau) (h:OkOcs [.im (.ex v0_0),.im (.ex v0_1),.im (.ex v0_2),.im (.ex v0_3),.im (.ex v0_4),.ow (.row 55 2 (List.map zac r_.report.Changes))]→Ok (nL cI w_)→zb3 r_ w_=some r):Sp Tryz.prog 33 [.box 83 [.im (.ex v0_0),.im (.ex v0_1),.im (.ex v0_2),.im (.ex v0_3),.im (.ex v0_4),.ow (.row 55 2 (List.map zac r_.report.Changes))],.im (nL cI w_)] (.mk false [.im (nB r.1)] [.box 83 [.im (.ex v0_0),.im (.ex v0_1),.im (.ex v0_2),.im (.ex v0_3),.im (.ex v0_4),.ow (.row 55 2 (List.map zac r.2.report.Changes))]]):=by
 refine sp_of rfl [500011,700003] rfl rfl rfl (Nat.le_of_ble_eq_true rfl) rfl fun hk=>?_
 replace h:=h hk.1 hk.2.1
 have z1:lZ r_.report.Changes:=okl_len hk.1.2.2.2.2.2.1
 have z2:lZ w_:=ok_len hk.2.1
 unfold zb3 at h
 conv=>whnf
 refine Side.mk rfl ?_
 conv=>whnf
 refine Side.mk rfl ?_
 conv=>whnf
 refine Side.mk rfl ?_
 conv=>whnf
 refine Side.mk rfl ?_
 conv=>whnf
 refine Side.mk ⟨rfl,trivial⟩ ?_
 conv=>whnf
 obtain ⟨c51,hc51,h⟩:=bind_some h
 refine ⟨_,(zcz r_.report.Changes (fun u0=>zb5 u0 w_) 68 (.ref (cL cI w_)) rfl (fun u0 r h=>(zfi u0 w_ r (fun _ _=>h))) c51 (fun _ _=>hc51)),?_⟩
 conv=>whnf
 refine Side.mk flat_one ?_
 conv=>whnf
 cases h
 conv=>whnf
 exact Side.mk ⟨rfl,rfl,trivial⟩ ⟨rfl,rfl⟩
theorem zha (m_:zab) (w_:List Int) (r:List Int×Int) (h:Ok (.agg (zad m_))→Ok (nL cI w_)→zfe m_ w_=some r):Sp Tryz.prog 16 [.im (.agg (zad m_)),.im (nL cI w_)] (.tup [nL cI r.1,nI r.2]):=by
 refine sp_of rfl [700002] rfl rfl rfl (Nat.le_of_ble_eq_true rfl) rfl fun hk=>?_
 replace h:=h hk.1 hk.2.1
 have z1:lZ m_.Next:=ok_len (Ok.agg_at hk.1 2 rfl)
 have z2:lZ m_.Out:=ok_len (Ok.agg_at hk.1 3 rfl)
 have z3:lZ w_:=ok_len hk.2.1
 unfold zfe at h
 conv=>whnf
 obtain ⟨c51,hc51,h⟩:=bind_some h
 refine ⟨_,(zit m_ m_.Start w_ c51 (fun _ _ _=>hc51)),?_⟩
 conv=>whnf
 cases h
 conv=>whnf
 exact ⟨rfl,rfl⟩
theorem zh0 (l_:List Int) (n_:Int) (r:List Int) (h:Ok (nL cI l_)→Ok (nI n_)→zec l_ n_=some r):Sp Tryz.prog 73 [.im (nL cI l_),.im (nI n_)] (.row 3 1 (List.map cI r)):=by
 refine sp_of rfl [] rfl rfl rfl (Nat.le_of_ble_eq_true rfl) rfl fun hk=>?_
 replace h:=h hk.1 hk.2.1
 have z1:lZ l_:=ok_len hk.1
 unfold zec at h
 conv=>whnf
 obtain ⟨c51,h⟩:=chk_some h
 refine Side.mk c51 ?_
 conv=>whnf
 refine Nf.mk (List.map cI (List.replicate (Int.toNat n_) 0)) (rep_map (c:=cI) (z:=0) (n:=(Int.toNat n_)) rfl rfl) ?_
 conv=>whnf
 obtain ⟨c52,h⟩:=chk_some h
 refine Side.mk ⟨rfl,by have hh_:=c52;simp only [List.length_map];omega,by have hh_:=c52;simp only [List.length_map];omega,fun e he=>by obtain ⟨x_,_,rfl⟩:=List.mem_map.1 he;rfl⟩ ?_
 conv=>whnf
 refine Nf.mk (List.map cI (List.take (List.length ((List.replicate (Int.toNat n_) 0):List Int)) l_++List.drop (List.length l_) ((List.replicate (Int.toNat n_) 0):List Int))) cpy_map ?_
 conv=>whnf
 cases h
 conv=>whnf
 exact Side.mk ⟨rfl,trivial⟩ ⟨rfl,rfl⟩
theorem zd9 (r_:zau) (w_:List Int) (answer_:List Int) (r:Int×zau) (h:OkOcs [.im (nI r_.m.Inputs),.im (nI r_.m.Start),.im (nL (cL cI) r_.m.Next),.im (nL (cL cI) r_.m.Out),.im (nI r_.report.Run),.ow (.row 55 2 (List.map zac r_.report.Changes))]→Ok (nL cI w_)→Ok (nL cI answer_)→zce r_ w_ answer_=some r):Sp Tryz.prog 35 [.box 83 [.im (nI r_.m.Inputs),.im (nI r_.m.Start),.im (nL (cL cI) r_.m.Next),.im (nL (cL cI) r_.m.Out),.im (nI r_.report.Run),.ow (.row 55 2 (List.map zac r_.report.Changes))],.im (nL cI w_),.im (nL cI answer_)] (.mk false [.im (nI r.1)] [.box 83 [.im (nI r.2.m.Inputs),.im (nI r.2.m.Start),.im (nL (cL cI) r.2.m.Next),.im (nL (cL cI) r.2.m.Out),.im (nI r.2.report.Run),.ow (.row 55 2 (List.map zac r.2.report.Changes))]]):=by
 refine sp_of rfl [] rfl rfl rfl (Nat.le_of_ble_eq_true rfl) rfl fun hk=>?_
 replace h:=h hk.1 hk.2.1 hk.2.2.1
 have z1:lZ r_.m.Next:=ok_len hk.1.2.2.1
 have z2:lZ r_.m.Out:=ok_len hk.1.2.2.2.1
 have z3:lZ r_.report.Changes:=okl_len hk.1.2.2.2.2.2.1
 have z4:lZ w_:=ok_len hk.2.1
 have z5:lZ answer_:=ok_len hk.2.2.1
 unfold zce at h
 conv=>whnf
 refine Side.mk rfl ?_
 conv=>whnf
 refine Side.mk rfl ?_
 conv=>whnf
 refine Side.mk rfl ?_
 conv=>whnf
 obtain ⟨c51,hc51,h⟩:=bind_some h
 refine ⟨_,(zha r_.m w_ c51 (fun _ _=>hc51)),?_⟩
 conv=>whnf
 refine Both.mk ?_ ?_<;>intro b52
 obtain ⟨h,b52d⟩:=ctd b52 h
 conv=>whnf
 cases h
 conv=>whnf
 exact Side.mk ⟨rfl,rfl,trivial⟩ ⟨rfl,rfl⟩
 obtain ⟨h,b52d⟩:=cfd b52 h
 conv=>whnf
 refine Side.mk rfl ?_
 conv=>whnf
 refine Side.mk rfl ?_
 conv=>whnf
 refine Side.mk rfl ?_
 conv=>whnf
 refine Side.mk rfl ?_
 conv=>whnf
 obtain ⟨c53,h⟩:=chk_some h
 refine Arith.mk c53 ?_
 conv=>whnf
 refine Side.mk rfl ?_
 conv=>whnf
 refine Side.mk rfl ?_
 conv=>whnf
 refine Side.mk rfl ?_
 conv=>whnf
 refine Side.mk rfl ?_
 conv=>whnf
 obtain ⟨y63,hc,hk55⟩:=bind_some h
 clear h
 have h:=hc
 clear hc
 refine Cut.mk (mkSt [(0,.own 0 0 0)] [(0,.box 83 6),(65,.row 55 2 (List.map zac y63))] [(0,0,.im (nI r_.m.Inputs)),(0,1,.im (nI r_.m.Start)),(0,2,.im (nL (cL cI) r_.m.Next)),(0,3,.im (nL (cL cI) r_.m.Out)),(0,4,.im (nI (r_.report.Run+1))),(0,5,.osl 65 1)]) (lZ r_.m.Next∧lZ r_.m.Out∧lZ y63∧True) ((Holds.cel 0 2 rfl (by decide) rfl).and ((Holds.cel 0 3 rfl (by decide) rfl).and ((Holds.kdl 65 rfl).and (hT)))) ?_ (fun hp=>?_)
 conv=>whnf
 obtain ⟨c64,hc64,h⟩:=bind_some h
 refine ⟨_,(zel c51.1 answer_ c64 (fun _ _=>hc64)),?_⟩
 conv=>whnf
 refine Nf.mk (List.length w_) len_map ?_
 conv=>whnf
 refine Both.mk ?_ ?_<;>intro b65
 obtain ⟨h,b65d⟩:=ctd b65 h
 conv=>whnf
 refine Side.mk rfl ?_
 conv=>whnf
 refine Side.mk rfl ?_
 conv=>whnf
 refine Side.mk rfl ?_
 conv=>whnf
 refine Side.mk rfl ?_
 conv=>whnf
 obtain ⟨c66,h⟩:=chk_some h
 refine Arith.mk c66 ?_
 conv=>whnf
 obtain ⟨c67,hc67,h⟩:=bind_some h
 refine ⟨_,(zh0 w_ (c64+1) c67 (fun _ _=>hc67)).im,?_⟩
 conv=>whnf
 obtain ⟨c68,h⟩:=chk_some h
 refine Arith.mk c68 ?_
 conv=>whnf
 obtain ⟨c69,hc69,h⟩:=bind_some h
 refine ⟨_,(zh0 answer_ (c64+1) c69 (fun _ _=>hc69)).im,?_⟩
 conv=>whnf
 obtain ⟨c70,h⟩:=chk_some h
 refine Side.mk ⟨rfl,map_len (l:=[(⟨c67,c69⟩:zaa)]) (c:=zac) fun _=>rfl,show capOk _ 48 by simpa only [List.length_map,List.length_cons,List.length_nil,Nat.zero_add] using c70⟩ ?_
 conv=>whnf
 refine Nf.mk (List.map zac (r_.report.Changes++[(⟨c67,c69⟩:zaa)])) (app_map (l:=r_.report.Changes) (m:=[(⟨c67,c69⟩:zaa)]) (c:=zac)) ?_
 conv=>whnf
 refine Side.mk rfl ?_
 conv=>whnf
 refine Side.mk rfl ?_
 conv=>whnf
 refine Side.mk rfl ?_
 conv=>whnf
 refine Side.mk rfl ?_
 conv=>whnf
 cases h
 exact Join.mk (eA [(0,some 0),(65,some 2005)])
 obtain ⟨h,b65d⟩:=cfd b65 h
 conv=>whnf
 cases h
 exact Join.mk (eA [(0,some 0),(65,some 2005)])
 replace h:=hk55
 obtain ⟨z71,z72,z73,_⟩:=hp
 conv=>whnf
 cases h
 conv=>whnf
 exact Side.mk ⟨rfl,rfl,trivial⟩ ⟨rfl,rfl⟩
theorem zfs (a_:zab) (b_:zab) (extra_:Int) (r:zai×Int) (h:Ok (.agg (zad a_))→Ok (.agg (zad b_))→Ok (nI extra_)→za1 a_ b_ extra_=some r):Sp Tryz.prog 22 [.im (.agg (zad a_)),.im (.agg (zad b_)),.im (nI extra_)] (.tup [.agg (zj0 r.1),nI r.2]):=by
 refine sp_of rfl [52000,65000,700003,700004,900051,1000000000000052224,1000000000000052225,1000000000000052226,1000000000000052227,1000000000000052228,52230*1000000000+55*100+2] rfl rfl rfl (Nat.le_of_ble_eq_true rfl) rfl fun hk=>?_
 replace h:=h hk.1 hk.2.1 hk.2.2.1
 have z1:lZ a_.Next:=ok_len (Ok.agg_at hk.1 2 rfl)
 have z2:lZ a_.Out:=ok_len (Ok.agg_at hk.1 3 rfl)
 have z3:lZ b_.Next:=ok_len (Ok.agg_at hk.2.1 2 rfl)
 have z4:lZ b_.Out:=ok_len (Ok.agg_at hk.2.1 3 rfl)
 unfold za1 at h
 conv=>whnf
 obtain ⟨c51,hc51,h⟩:=bind_some h
 refine ⟨_,(zh3 a_ extra_ c51 (fun _ _=>hc51)),?_⟩
 conv=>whnf
 refine Side.mk rfl ?_
 conv=>whnf
 refine Both.mk ?_ ?_<;>intro b52
 obtain ⟨h,b52d⟩:=ctd b52 h
 conv=>whnf
 refine Side.mk rfl ?_
 conv=>whnf
 cases h
 conv=>whnf
 refine Side.mk ⟨rfl,trivial⟩ ?_
 conv=>whnf
 exact ⟨rfl,rfl⟩
 obtain ⟨h,b52d⟩:=cfd b52 h
 conv=>whnf
 obtain ⟨c53,hc53,h⟩:=bind_some h
 refine ⟨_,(zbr b_ c53 (fun _=>hc53)),?_⟩
 conv=>whnf
 refine Both.mk ?_ ?_<;>intro b54
 obtain ⟨h,b54d⟩:=ctd b54 h
 conv=>whnf
 refine Side.mk rfl ?_
 conv=>whnf
 cases h
 conv=>whnf
 refine Side.mk ⟨rfl,trivial⟩ ?_
 conv=>whnf
 exact ⟨rfl,rfl⟩
 obtain ⟨h,b54d⟩:=cfd b54 h
 conv=>whnf
 refine Both.mk ?_ ?_<;>intro b55
 obtain ⟨h,b55d⟩:=ctd b55 h
 conv=>whnf
 refine Side.mk rfl ?_
 conv=>whnf
 cases h
 conv=>whnf
 refine Side.mk ⟨rfl,trivial⟩ ?_
 conv=>whnf
 exact ⟨rfl,rfl⟩
 obtain ⟨h,b55d⟩:=cfd b55 h
 conv=>whnf
 refine Side.mk rfl ?_
 conv=>whnf
 refine Side.mk rfl ?_
 conv=>whnf
 refine Side.mk rfl ?_
 conv=>whnf
 refine Side.mk rfl ?_
 conv=>whnf
 refine Nf.mk (List.length c51.1.Words) len_map ?_
 conv=>whnf
 obtain ⟨oc,hc,hk56⟩:=bind_some h
 clear h
 have h:=hc
 clear hc
 refine Cut.mkS oc (Y:=Int×Int×List (List Int)×List (List Int)×Int×List zaa) (fun (y237,y238,y239,y240,y241,y242)=>mkSt [(6,.own 74 1 0),(11,.own 75 1 0)] [(74,.box 45 2),(75,.box 83 6),(76,.row 55 2 (List.map zac y242))] [(74,0,.im (nI 0)),(74,1,.im (.val (.slice none 0 0))),(75,0,.im (nI y237)),(75,1,.im (nI y238)),(75,2,.im (nL (cL cI) y239)),(75,3,.im (nL (cL cI) y240)),(75,4,.im (nI y241)),(75,5,.osl 76 1)]) (fun (y237,y238,y239,y240,y241,y242)=>lZ y239∧lZ y240∧lZ y242∧True) (by rintro ⟨y237,y238,y239,y240,y241,y242⟩;exact ((Holds.cel 75 2 rfl (by decide) rfl).and ((Holds.cel 75 3 rfl (by decide) rfl).and ((Holds.kdl 76 rfl).and (hT))))) ?_ ?_
 conv=>whnf
 refine Loops.iter (fun (s:Int×Int×List (List Int)×List (List Int)×Int×List zaa×Nat)=>za1.s20 b_ c51 s.1 s.2.1 s.2.2.1 s.2.2.2.1 s.2.2.2.2.1 s.2.2.2.2.2.1 s.2.2.2.2.2.2) (fun (y299,y300,y301,y302,y303,y304,y305)=>mkSt [(4,.im (.ref (zad b_))),(6,.own 74 1 0),(11,.own 75 1 0),(43,.im (nL (cL cI) c51.1.Words)),(44,.im (nI (↑(List.length c51.1.Words):Int))),(45,.im (nI (↑y305:Int)))] [(74,.box 45 2),(75,.box 83 6),(76,.row 55 2 (List.map zac y304))] [(74,0,.im (nI 0)),(74,1,.im (.val (.slice none 0 0))),(75,0,.im (nI y299)),(75,1,.im (nI y300)),(75,2,.im (nL (cL cI) y301)),(75,3,.im (nL (cL cI) y302)),(75,4,.im (nI y303)),(75,5,.osl 76 1)]) (fun (y299,y300,y301,y302,y303,y304,y305)=>lZ c51.1.Words∧lZ y301∧lZ y302∧lZ y304∧True) h (Ent.mk [(74,some 6),(75,some 41),(76,none)] rfl ⟨eI rfl rfl,⟨.own 6 _ 0,rfl,.own rfl rfl rfl⟩,⟨.own 41 _ 0,rfl,.own rfl rfl rfl⟩,eI rfl rfl,eI rfl rfl,eI rfl rfl,trivial⟩ ⟨.inl ⟨6,rfl,rfl,trivial⟩,.inl ⟨41,rfl,rfl,trivial⟩,.inr ⟨rfl,rfl,.inl ⟨_,_,rfl,by decide⟩⟩,trivial⟩ ⟨⟨6,.im _,rfl,rfl,.im (Sub.rfl' rfl)⟩,⟨6,.im (.val (.slice none 0 0)),rfl,rfl,.im (Sub.rfl' rfl)⟩,⟨41,.im _,rfl,rfl,.im (Sub.rfl' rfl)⟩,⟨41,.im _,rfl,rfl,.im (Sub.rfl' rfl)⟩,⟨41,.im _,rfl,rfl,.im (Sub.rfl' rfl)⟩,⟨41,.im _,rfl,rfl,.im (Sub.rfl' rfl)⟩,⟨41,.im _,rfl,rfl,.im (Sub.rfl' rfl)⟩,⟨41,.im (.val (.slice none 0 0)),rfl,rfl,.made rfl rfl⟩,trivial⟩) (by rintro ⟨y299,y300,y301,y302,y303,y304,y305⟩;exact ((Holds.avl 43 rfl).and ((Holds.cel 75 2 rfl (by decide) rfl).and ((Holds.cel 75 3 rfl (by decide) rfl).and ((Holds.kdl 76 rfl).and (hT)))))) ?_
 clear h
 rintro k ⟨y299,y300,y301,y302,y303,y304,y305⟩ o hp h ho362
 replace h:za1.s20 b_ c51 y299 y300 y301 y302 y303 y304 y305=some o:=h
 unfold za1.s20 at h
 obtain ⟨z419,z420,z421,z422,_⟩:=hp
 conv=>whnf
 refine Both.mk ?_ ?_<;>intro b363
 obtain ⟨h,b363d⟩:=ctd b363 h
 conv=>whnf
 obtain ⟨oc,hc,hk364⟩:=bind_some h
 clear h
 have h:=hc
 clear hc
 refine Cut.mkS oc (Y:=Int×Int×List (List Int)×List (List Int)×Int×List zaa) (fun (y387,y388,y389,y390,y391,y392)=>mkSt [(4,.im (.ref (zad b_))),(6,.own 74 1 0),(11,.own 75 1 0),(43,.im (nL (cL cI) c51.1.Words)),(44,.im (nI (↑(List.length c51.1.Words):Int))),(45,.im (nI (↑y305:Int)))] [(74,.box 45 2),(75,.box 83 6),(76,.row 55 2 (List.map zac y392))] [(74,0,.im (nI 0)),(74,1,.im (.val (.slice none 0 0))),(75,0,.im (nI y387)),(75,1,.im (nI y388)),(75,2,.im (nL (cL cI) y389)),(75,3,.im (nL (cL cI) y390)),(75,4,.im (nI y391)),(75,5,.osl 76 1)]) (fun (y387,y388,y389,y390,y391,y392)=>lZ c51.1.Words∧lZ y389∧lZ y390∧lZ y392∧True) (by rintro ⟨y387,y388,y389,y390,y391,y392⟩;exact ((Holds.avl 43 rfl).and ((Holds.cel 75 2 rfl (by decide) rfl).and ((Holds.cel 75 3 rfl (by decide) rfl).and ((Holds.kdl 76 rfl).and (hT)))))) ?_ ?_
 conv=>whnf
 obtain ⟨e393,he393,h⟩:=zaj h
 refine ⟨_,⟨(by omega),map_at he393,rfl⟩,?_⟩
 conv=>whnf
 refine Side.mk ⟨rfl,rfl,trivial⟩ ?_
 conv=>whnf
 obtain ⟨c394,hc394,h⟩:=bind_some h
 refine ⟨false,[.im (nB c394.1)],[.box 83 [.im .any,.im .any,.im .any,.im .any,.im .any,.ow (.row 55 2 (List.map zac c394.2.report.Changes))]],fun V=>(zdy (⟨(⟨y299,y300,y301,y302⟩:zab),(⟨y303,y304⟩:zai)⟩:zau) e393 (V 0 0) (V 0 1) (V 0 2) (V 0 3) (V 0 4) c394 (fun _ _=>hc394)),?_⟩
 conv=>whnf
 refine Both.mk ?_ ?_<;>intro b395
 replace h:=cond_t b395 h
 conv=>whnf
 cases h
 exact JoinS.mk' _ rfl (eA [(74,some 74),(75,some 75),(76,some 76)])
 replace h:=cond_f b395 h
 conv=>whnf
 obtain ⟨c396,hc396,h⟩:=bind_some h
 refine ⟨_,(zha b_ e393 c396 (fun _ _=>hc396)),?_⟩
 conv=>whnf
 obtain ⟨⟨y401,y402,y403,y404,y405,y406,e407⟩,hc,hk398⟩:=bind_some h
 clear h
 have h:=hc
 clear hc
 refine Cut.mk (mkSt [(4,.im (.ref (zad b_))),(6,.own 74 1 0),(11,.own 75 1 0),(15,.im (nI e407)),(43,.im (nL (cL cI) c51.1.Words)),(44,.im (nI (↑(List.length c51.1.Words):Int))),(45,.im (nI (↑y305:Int)))] [(74,.box 45 2),(75,.box 83 6),(76,.row 55 2 (List.map zac y406))] [(74,0,.im (nI 0)),(74,1,.im (.val (.slice none 0 0))),(75,0,.im (nI y401)),(75,1,.im (nI y402)),(75,2,.im (nL (cL cI) y403)),(75,3,.im (nL (cL cI) y404)),(75,4,.im (nI y405)),(75,5,.osl 76 1)]) (lZ c51.1.Words∧lZ y403∧lZ y404∧lZ y406∧True) ((Holds.avl 43 rfl).and ((Holds.cel 75 2 rfl (by decide) rfl).and ((Holds.cel 75 3 rfl (by decide) rfl).and ((Holds.kdl 76 rfl).and (hT))))) ?_ (fun hp=>?_)
 conv=>whnf
 refine Both.mk ?_ ?_<;>intro b408
 obtain ⟨h,b408d⟩:=ctd b408 h
 conv=>whnf
 refine Side.mk ⟨rfl,rfl,trivial⟩ ?_
 conv=>whnf
 obtain ⟨c409,hc409,h⟩:=bind_some h
 refine ⟨_,(zd9 (⟨(⟨y299,y300,y301,y302⟩:zab),(⟨y303,c394.2.report.Changes⟩:zai)⟩:zau) e393 c396.1 c409 (fun _ _ _=>hc409)),?_⟩
 conv=>whnf
 cases h
 exact Join.mk (eA [(74,some 74),(75,some 75),(76,some 76)])
 obtain ⟨h,b408d⟩:=cfd b408 h
 conv=>whnf
 cases h
 exact Join.mk (eA [(74,some 74),(75,some 75),(76,some 76)])
 replace h:za1.k18 y401 y402 y403 y404 y405 y406 e407=some _:=hk398
 unfold za1.k18 at h
 obtain ⟨z410,z411,z412,z413,_⟩:=hp
 conv=>whnf
 refine Both.mk ?_ ?_<;>intro b414
 obtain ⟨h,b414d⟩:=ctd b414 h
 conv=>whnf
 refine Side.mk rfl ?_
 conv=>whnf
 cases h
 replace h:some _=some _:=hk364
 cases h
 have ho362:_=_:=ho362
 cases ho362
 replace h:some _=some _:=hk56
 cases h
 conv=>whnf
 refine Side.mk ⟨rfl,trivial⟩ ?_
 conv=>whnf
 exact ⟨rfl,rfl⟩
 obtain ⟨h,b414d⟩:=cfd b414 h
 conv=>whnf
 cases h
 exact JoinS.mk' _ rfl (eA [(74,some 74),(75,some 75),(76,some 76)])
 rintro ⟨y387,y388,y389,y390,y391,y392⟩ rfl hp
 have hx_:=sum_inl hk364
 replace h:za1.k19 y305 y387 y388 y389 y390 y391 y392=some _:=hx_
 clear hx_
 unfold za1.k19 at h
 obtain ⟨z415,z416,z417,z418,_⟩:=hp
 conv=>whnf
 refine Arith.mk (by show inR _;unfold inR;omega) ?_
 conv=>whnf
 cases h
 exact Nxt.mk _ ho362 (eA [(74,some 74),(75,some 75),(76,some 76)])
 obtain ⟨h,b363d⟩:=cfd b363 h
 conv=>whnf
 cases h
 have ho362:_=_:=ho362
 cases ho362
 exact JoinS.mk' _ rfl (eA [(74,some 74),(75,some 75),(76,some 76)])
 rintro ⟨y237,y238,y239,y240,y241,y242⟩ rfl hp
 have hx_:=sum_inl hk56
 replace h:za1.k21 y237 y238 y239 y240 y241 y242=some _:=hx_
 clear hx_
 unfold za1.k21 at h
 obtain ⟨z423,z424,z425,_⟩:=hp
 conv=>whnf
 refine Side.mk rfl ?_
 conv=>whnf
 refine Side.mk rfl ?_
 conv=>whnf
 refine Side.mk rfl ?_
 conv=>whnf
 refine Side.mk rfl ?_
 conv=>whnf
 cases h
 conv=>whnf
 refine Side.mk ⟨rfl,trivial⟩ ?_
 conv=>whnf
 exact Side.mk ⟨rfl,trivial⟩ ⟨rfl,rfl⟩
theorem zgz (r:Bool) (h:zga=some r):Sp Tryz.prog 10 [] (.im (nB r)):=by
 refine sp_of rfl [] rfl rfl rfl (Nat.le_of_ble_eq_true rfl) rfl fun hk=>?_
 unfold zga at h
 conv=>whnf
 obtain ⟨c51,hc51,h⟩:=bind_some h
 refine ⟨_,(zib  c51 (hc51)),?_⟩
 conv=>whnf
 obtain ⟨c52,hc52,h⟩:=bind_some h
 refine ⟨_,(zh3 c51 0 c52 (fun _ _=>hc52)),?_⟩
 conv=>whnf
 refine Side.mk rfl ?_
 conv=>whnf
 refine Side.mk rfl ?_
 conv=>whnf
 obtain ⟨c53,hc53,h⟩:=bind_some h
 refine ⟨_,(zib  c53 (hc53)),?_⟩
 conv=>whnf
 refine Side.mk rfl ?_
 conv=>whnf
 obtain ⟨c54,hc54,h⟩:=bind_some h
 refine ⟨_,(zfs c53 (⟨2,0,[[1,0],[1,1]],[[1,0],[1,2]]⟩:zab) 0 c54 (fun _ _ _=>hc54)),?_⟩
 conv=>whnf
 refine Side.mk rfl ?_
 conv=>whnf
 refine Side.mk rfl ?_
 conv=>whnf
 obtain ⟨c55,hc55,h⟩:=bind_some h
 refine ⟨_,(zib  c55 (hc55)),?_⟩
 conv=>whnf
 refine Side.mk rfl ?_
 conv=>whnf
 obtain ⟨c56,hc56,h⟩:=bind_some h
 refine ⟨_,(zfs c55 (⟨2,0,[[1,0],[1,0]],[[0,0],[1,2]]⟩:zab) 0 c56 (fun _ _ _=>hc56)),?_⟩
 conv=>whnf
 refine Side.mk rfl ?_
 conv=>whnf
 obtain ⟨y67,hc,hk58⟩:=bind_some h
 clear h
 have h:=hc
 clear hc
 refine Cut.mk (mkSt [(4,.own 116 1 0),(7,.own 117 1 0),(81,.im (nB y67))] [(116,.box 45 2),(117,.box 45 2)] [(116,0,.im (nI c54.1.Run)),(116,1,.im (nL zac c54.1.Changes)),(117,0,.im (nI c56.1.Run)),(117,1,.im (nL zac c56.1.Changes))]) (lZ c54.1.Changes∧lZ c56.1.Changes∧True) ((Holds.cel 116 1 rfl (by decide) rfl).and ((Holds.cel 117 1 rfl (by decide) rfl).and (hT))) ?_ (fun hp=>?_)
 conv=>whnf
 refine Both.mk ?_ ?_<;>intro b68
 replace b68:=beq_ff b68
 obtain ⟨h,b68d⟩:=cfd b68 h
 conv=>whnf
 refine Both.yes (ff_beq b68) ?_
 conv=>whnf
 refine Both.no b68 ?_
 conv=>whnf
 refine Both.mk ?_ ?_<;>intro b69
 replace b69:=beq_ff b69
 obtain ⟨h,b69d⟩:=cfd b69 h
 conv=>whnf
 refine Both.yes (ff_beq b69) ?_
 conv=>whnf
 refine Both.no b69 ?_
 conv=>whnf
 refine Both.mk ?_ ?_<;>intro b70
 replace b70:=beq_ff b70
 obtain ⟨h,b70d⟩:=cfd b70 h
 conv=>whnf
 refine Side.mk rfl ?_
 conv=>whnf
 refine Both.yes (ff_beq b70) ?_
 conv=>whnf
 refine Side.mk rfl ?_
 conv=>whnf
 iterate 5 (refine Both.yes (ff_beq b70) ?_;(conv=>whnf))
 obtain ⟨c71,hc71,h⟩:=bind_some h
 refine ⟨_,(sp_R06_Lists c52.1.Words [[1,1],[0,0,1],[0,1,1]] c71 (fun _ _=>hc71)),?_⟩
 conv=>whnf
 refine Both.yes (ff_beq b70) ?_
 conv=>whnf
 refine Both.no b70 ?_
 conv=>whnf
 refine Both.mk ?_ ?_<;>intro b72
 replace b72:=beq_ff b72
 replace h:=cond_f b72 h
 conv=>whnf
 refine Side.mk rfl ?_
 conv=>whnf
 refine Both.yes (ff_beq b72) ?_
 conv=>whnf
 refine Side.mk rfl ?_
 conv=>whnf
 refine Both.yes (ff_beq b72) ?_
 conv=>whnf
 refine Both.no b72 ?_
 conv=>whnf
 refine Both.mk ?_ ?_<;>intro b73
 replace b73:=beq_ff b73
 obtain ⟨h,b73d⟩:=cfd b73 h
 conv=>whnf
 refine Side.mk rfl ?_
 conv=>whnf
 refine Both.yes (ff_beq b73) ?_
 conv=>whnf
 refine Side.mk rfl ?_
 conv=>whnf
 refine Both.yes (ff_beq b73) ?_
 conv=>whnf
 refine Nf.mk (List.length c54.1.Changes) len_map ?_
 conv=>whnf
 refine Both.yes (ff_beq b73) ?_
 conv=>whnf
 refine Both.no b73 ?_
 conv=>whnf
 refine Both.mk ?_ ?_<;>intro b74
 replace b74:=beq_ff b74
 obtain ⟨h,b74d⟩:=cfd b74 h
 conv=>whnf
 refine Side.mk rfl ?_
 conv=>whnf
 refine Both.yes (ff_beq b74) ?_
 conv=>whnf
 refine Side.mk rfl ?_
 conv=>whnf
 refine Both.yes (ff_beq b74) ?_
 conv=>whnf
 refine Both.no b74 ?_
 conv=>whnf
 refine Both.mk ?_ ?_<;>intro b75
 replace b75:=beq_ff b75
 obtain ⟨h,b75d⟩:=cfd b75 h
 conv=>whnf
 refine Side.mk rfl ?_
 conv=>whnf
 refine Both.yes (ff_beq b75) ?_
 conv=>whnf
 refine Side.mk rfl ?_
 conv=>whnf
 refine Both.yes (ff_beq b75) ?_
 conv=>whnf
 refine Nf.mk (List.length c56.1.Changes) len_map ?_
 conv=>whnf
 refine Both.yes (ff_beq b75) ?_
 conv=>whnf
 refine Both.no b75 ?_
 conv=>whnf
 cases h
 exact Join.mk (eA [(116,some 4),(117,some 7)])
 replace b75:=beq_ft b75
 obtain ⟨h,b75d⟩:=ctd b75 h
 conv=>whnf
 iterate 3 (refine Both.no (tf_beq b75) ?_;(conv=>whnf))
 refine Both.yes b75 ?_
 conv=>whnf
 cases h
 exact Join.mk (eA [(116,some 4),(117,some 7)])
 replace b74:=beq_ft b74
 obtain ⟨h,b74d⟩:=ctd b74 h
 conv=>whnf
 iterate 2 (refine Both.no (tf_beq b74) ?_;(conv=>whnf))
 refine Both.yes b74 ?_
 conv=>whnf
 iterate 4 (refine Both.no rfl ?_;(conv=>whnf))
 refine Both.yes rfl ?_
 conv=>whnf
 cases h
 exact Join.mk (eA [(116,some 4),(117,some 7)])
 replace b73:=beq_ft b73
 obtain ⟨h,b73d⟩:=ctd b73 h
 conv=>whnf
 iterate 3 (refine Both.no (tf_beq b73) ?_;(conv=>whnf))
 refine Both.yes b73 ?_
 conv=>whnf
 iterate 3 (refine Both.no rfl ?_;(conv=>whnf))
 refine Both.yes rfl ?_
 conv=>whnf
 iterate 4 (refine Both.no rfl ?_;(conv=>whnf))
 refine Both.yes rfl ?_
 conv=>whnf
 cases h
 exact Join.mk (eA [(116,some 4),(117,some 7)])
 replace b72:=beq_ft b72
 replace h:=cond_t b72 h
 conv=>whnf
 iterate 2 (refine Both.no (tf_beq b72) ?_;(conv=>whnf))
 refine Both.yes b72 ?_
 conv=>whnf
 iterate 4 (refine Both.no rfl ?_;(conv=>whnf))
 refine Both.yes rfl ?_
 conv=>whnf
 iterate 3 (refine Both.no rfl ?_;(conv=>whnf))
 refine Both.yes rfl ?_
 conv=>whnf
 iterate 4 (refine Both.no rfl ?_;(conv=>whnf))
 refine Both.yes rfl ?_
 conv=>whnf
 cases h
 exact Join.mk (eA [(116,some 4),(117,some 7)])
 replace b70:=beq_ft b70
 obtain ⟨h,b70d⟩:=ctd b70 h
 conv=>whnf
 iterate 7 (refine Both.no (tf_beq b70) ?_;(conv=>whnf))
 refine Both.yes b70 ?_
 conv=>whnf
 iterate 3 (refine Both.no rfl ?_;(conv=>whnf))
 refine Both.yes rfl ?_
 conv=>whnf
 iterate 4 (refine Both.no rfl ?_;(conv=>whnf))
 refine Both.yes rfl ?_
 conv=>whnf
 iterate 3 (refine Both.no rfl ?_;(conv=>whnf))
 refine Both.yes rfl ?_
 conv=>whnf
 iterate 4 (refine Both.no rfl ?_;(conv=>whnf))
 refine Both.yes rfl ?_
 conv=>whnf
 cases h
 exact Join.mk (eA [(116,some 4),(117,some 7)])
 replace b69:=beq_ft b69
 obtain ⟨h,b69d⟩:=ctd b69 h
 conv=>whnf
 refine Both.no (tf_beq b69) ?_
 conv=>whnf
 refine Both.yes b69 ?_
 conv=>whnf
 iterate 8 (refine Both.no rfl ?_;(conv=>whnf))
 refine Both.yes rfl ?_
 conv=>whnf
 iterate 3 (refine Both.no rfl ?_;(conv=>whnf))
 refine Both.yes rfl ?_
 conv=>whnf
 iterate 4 (refine Both.no rfl ?_;(conv=>whnf))
 refine Both.yes rfl ?_
 conv=>whnf
 iterate 3 (refine Both.no rfl ?_;(conv=>whnf))
 refine Both.yes rfl ?_
 conv=>whnf
 iterate 4 (refine Both.no rfl ?_;(conv=>whnf))
 refine Both.yes rfl ?_
 conv=>whnf
 cases h
 exact Join.mk (eA [(116,some 4),(117,some 7)])
 replace b68:=beq_ft b68
 obtain ⟨h,b68d⟩:=ctd b68 h
 conv=>whnf
 refine Both.no (tf_beq b68) ?_
 conv=>whnf
 refine Both.yes b68 ?_
 conv=>whnf
 iterate 2 (refine Both.no rfl ?_;(conv=>whnf))
 refine Both.yes rfl ?_
 conv=>whnf
 iterate 8 (refine Both.no rfl ?_;(conv=>whnf))
 refine Both.yes rfl ?_
 conv=>whnf
 iterate 3 (refine Both.no rfl ?_;(conv=>whnf))
 refine Both.yes rfl ?_
 conv=>whnf
 iterate 4 (refine Both.no rfl ?_;(conv=>whnf))
 refine Both.yes rfl ?_
 conv=>whnf
 iterate 3 (refine Both.no rfl ?_;(conv=>whnf))
 refine Both.yes rfl ?_
 conv=>whnf
 iterate 4 (refine Both.no rfl ?_;(conv=>whnf))
 refine Both.yes rfl ?_
 conv=>whnf
 cases h
 exact Join.mk (eA [(116,some 4),(117,some 7)])
 replace h:=hk58
 obtain ⟨z76,z77,_⟩:=hp
 conv=>whnf
 refine Both.mk ?_ ?_<;>intro b78
 replace h:=cond_t b78 h
 conv=>whnf
 cases h
 conv=>whnf
 exact ⟨rfl,rfl⟩
 replace h:=cond_f b78 h
 conv=>whnf
 obtain ⟨y92,hc,hk80⟩:=bind_some h
 clear h
 have h:=hc
 clear hc
 refine Cut.mk (mkSt [(0,.im (nB y92))] [] []) (True) (hT) ?_ (fun hp=>?_)
 conv=>whnf
 refine Side.mk rfl ?_
 conv=>whnf
 refine Side.mk rfl ?_
 conv=>whnf
 obtain ⟨e93,he93,h⟩:=zaj h
 refine ⟨_,⟨(by omega),map_at he93,rfl⟩,?_⟩
 conv=>whnf
 obtain ⟨c94,hc94,h⟩:=bind_some h
 refine ⟨_,(zdv e93.In [0,1,1] c94 (fun _ _=>hc94)),?_⟩
 conv=>whnf
 refine Both.mk ?_ ?_<;>intro b95
 replace b95:=beq_tt b95
 replace h:=cond_t b95 h
 conv=>whnf
 refine Side.mk rfl ?_
 conv=>whnf
 refine Both.yes (tt_beq b95) ?_
 conv=>whnf
 refine Side.mk rfl ?_
 conv=>whnf
 refine Both.yes (tt_beq b95) ?_
 conv=>whnf
 obtain ⟨e96,he96,h⟩:=zaj h
 refine ⟨_,⟨(by omega),map_at he96,rfl⟩,?_⟩
 conv=>whnf
 iterate 4 (refine Both.yes (tt_beq b95) ?_;(conv=>whnf))
 obtain ⟨c97,hc97,h⟩:=bind_some h
 refine ⟨_,(zdv e96.Out [1,2,2] c97 (fun _ _=>hc97)),?_⟩
 conv=>whnf
 refine Both.yes b95 ?_
 conv=>whnf
 refine Both.mk ?_ ?_<;>intro b98
 replace b98:=beq_tt b98
 replace h:=cond_t b98 h
 conv=>whnf
 refine Side.mk rfl ?_
 conv=>whnf
 refine Both.yes (tt_beq b98) ?_
 conv=>whnf
 refine Side.mk rfl ?_
 conv=>whnf
 refine Both.yes (tt_beq b98) ?_
 conv=>whnf
 obtain ⟨e99,he99,h⟩:=zaj h
 refine ⟨_,⟨(by omega),map_at he99,rfl⟩,?_⟩
 conv=>whnf
 iterate 4 (refine Both.yes (tt_beq b98) ?_;(conv=>whnf))
 obtain ⟨c100,hc100,h⟩:=bind_some h
 refine ⟨_,(zdv e99.In [0] c100 (fun _ _=>hc100)),?_⟩
 conv=>whnf
 refine Both.yes b98 ?_
 conv=>whnf
 refine Both.mk ?_ ?_<;>intro b101
 replace b101:=beq_tt b101
 replace h:=cond_t b101 h
 conv=>whnf
 refine Side.mk rfl ?_
 conv=>whnf
 refine Both.yes (tt_beq b101) ?_
 conv=>whnf
 refine Side.mk rfl ?_
 conv=>whnf
 refine Both.yes (tt_beq b101) ?_
 conv=>whnf
 obtain ⟨e102,he102,h⟩:=zaj h
 refine ⟨_,⟨(by omega),map_at he102,rfl⟩,?_⟩
 conv=>whnf
 iterate 4 (refine Both.yes (tt_beq b101) ?_;(conv=>whnf))
 obtain ⟨c103,hc103,h⟩:=bind_some h
 refine ⟨_,(zdv e102.Out [0] c103 (fun _ _=>hc103)),?_⟩
 conv=>whnf
 refine Both.yes b101 ?_
 conv=>whnf
 cases h
 exact Join.mk (eA [])
 replace b101:=beq_tf b101
 replace h:=cond_f b101 h
 conv=>whnf
 iterate 6 (refine Both.no (ft_beq b101) ?_;(conv=>whnf))
 refine Both.no b101 ?_
 conv=>whnf
 cases h
 exact Join.mk (eA [])
 replace b98:=beq_tf b98
 replace h:=cond_f b98 h
 conv=>whnf
 iterate 6 (refine Both.no (ft_beq b98) ?_;(conv=>whnf))
 refine Both.no b98 ?_
 conv=>whnf
 iterate 8 (refine Both.no rfl ?_;(conv=>whnf))
 cases h
 exact Join.mk (eA [])
 replace b95:=beq_tf b95
 replace h:=cond_f b95 h
 conv=>whnf
 iterate 6 (refine Both.no (ft_beq b95) ?_;(conv=>whnf))
 refine Both.no b95 ?_
 conv=>whnf
 iterate 16 (refine Both.no rfl ?_;(conv=>whnf))
 cases h
 exact Join.mk (eA [])
 replace h:=hk80
 conv=>whnf
 cases h
 conv=>whnf
 exact ⟨rfl,rfl⟩
theorem zia (t_:zaa) (p1_:List Int) (r:Bool) (h:Ok (.agg (zac t_))→Ok (.ref (cL cI p1_))→zdd t_ p1_=some r):Sp Tryz.prog 44 [.im (.agg (zac t_)),.im (.ref (cL cI p1_))] (.im (nB r)):=by
 refine sp_of rfl [700002] rfl rfl rfl (Nat.le_of_ble_eq_true rfl) rfl fun hk=>?_
 replace h:=h hk.1 hk.2.1
 have z1:lZ t_.In:=ok_len (Ok.agg_at hk.1 0 rfl)
 have z2:lZ t_.Out:=ok_len (Ok.agg_at hk.1 1 rfl)
 have z3:lZ p1_:=ok_len (Ok.ref_at hk.2.1 0 rfl)
 unfold zdd at h
 conv=>whnf
 obtain ⟨c51,hc51,h⟩:=bind_some h
 refine ⟨_,(zc1 t_.In p1_ c51 (fun _ _=>hc51)),?_⟩
 conv=>whnf
 cases h
 conv=>whnf
 exact ⟨rfl,rfl⟩
theorem zgb (o_:zam) (w_:List Int) (r:List Int×Bool) (h:Ok (.agg (zbh o_))→Ok (nL cI w_)→zdi o_ w_=some r):Sp Tryz.prog 15 [.im (.agg (zbh o_)),.im (nL cI w_)] (.tup [nL cI r.1,nB r.2]):=by
 refine sp_of rfl [700002,700003] rfl rfl rfl (Nat.le_of_ble_eq_true rfl) rfl fun hk=>?_
 replace h:=h hk.1 hk.2.1
 have z1:lZ o_.Traces:=ok_len (Ok.agg_at hk.1 1 rfl)
 have z2:lZ w_:=ok_len hk.2.1
 unfold zdi at h
 conv=>whnf
 refine Nf.mk (List.length w_) len_map ?_
 conv=>whnf
 refine Both.mk ?_ ?_<;>intro b51
 obtain ⟨h,b51d⟩:=ctd b51 h
 conv=>whnf
 cases h
 conv=>whnf
 exact ⟨rfl,rfl⟩
 obtain ⟨h,b51d⟩:=cfd b51 h
 conv=>whnf
 obtain ⟨c52,hc52,h⟩:=bind_some h
 refine ⟨_,(zbm o_.Traces (fun u0=>zdd u0 w_) 44 (.ref (cL cI w_)) rfl (fun u0 r h=>(zia u0 w_ r (fun _ _=>h))) c52 (fun _ _=>hc52)),?_⟩
 conv=>whnf
 refine Both.mk ?_ ?_<;>intro b53
 obtain ⟨h,b53d⟩:=ctd b53 h
 conv=>whnf
 cases h
 conv=>whnf
 exact ⟨rfl,rfl⟩
 obtain ⟨h,b53d⟩:=cfd b53 h
 conv=>whnf
 obtain ⟨e54,he54z,he54,h⟩:=idx_some h
 refine ⟨_,⟨he54z,map_at he54,rfl⟩,?_⟩
 conv=>whnf
 refine Nf.mk (List.length w_) len_map ?_
 conv=>whnf
 refine Nf.mk (List.length e54.Out) len_map ?_
 conv=>whnf
 obtain ⟨c55,h⟩:=chk_some h
 refine Side.mk (show (0:Int)≤(0:Int)∧(0:Int)≤(min (↑(List.length w_):Int) (↑(List.length e54.Out):Int))∧(min (↑(List.length w_):Int) (↑(List.length e54.Out):Int))≤(↑(List.length (List.map cI e54.Out)):Int)∧(∀ e∈List.map cI e54.Out,List.length e=1) from ⟨by omega,by first | omega | (simp only [List.length_map];omega),by first | omega | (simp only [List.length_map];omega),map_len fun _=>rfl⟩) ?_
 conv=>whnf
 refine Nf.mk (List.map cI (List.take (Int.toNat (min (↑(List.length w_):Int) (↑(List.length e54.Out):Int))) e54.Out)) take_map ?_
 conv=>whnf
 obtain ⟨c56,hc56,h⟩:=bind_some h
 refine ⟨_,(za4 (List.take (Int.toNat (min (↑(List.length w_):Int) (↑(List.length e54.Out):Int))) e54.Out) c56 (hc56)).im,?_⟩
 conv=>whnf
 cases h
 conv=>whnf
 exact ⟨rfl,rfl⟩
theorem zbt (n_:Int) (most_:Int) (r:Bool) (h:Ok (nI n_)→Ok (nI most_)→zbp n_ most_=some r):Sp Tryz.prog 92 [.im (nI n_),.im (nI most_)] (.im (nB r)):=by
 refine sp_of rfl [] rfl rfl rfl (Nat.le_of_ble_eq_true rfl) rfl fun hk=>?_
 replace h:=h hk.1 hk.2.1
 unfold zbp at h
 conv=>whnf
 obtain ⟨y54,hc,hk52⟩:=bind_some h
 clear h
 have h:=hc
 clear hc
 refine Cut.mk (mkSt [(4,.im (nB y54))] [] []) (True) (hT) ?_ (fun hp=>?_)
 conv=>whnf
 refine Both.mk ?_ ?_<;>intro b55
 replace b55:=beq_ff b55
 obtain ⟨h,b55d⟩:=cfd b55 h
 conv=>whnf
 iterate 2 (refine Both.yes (ff_beq b55) ?_;(conv=>whnf))
 refine Both.no b55 ?_
 conv=>whnf
 cases h
 exact Join.mk (eA [])
 replace b55:=beq_ft b55
 obtain ⟨h,b55d⟩:=ctd b55 h
 conv=>whnf
 iterate 2 (refine Both.no (tf_beq b55) ?_;(conv=>whnf))
 refine Both.yes b55 ?_
 conv=>whnf
 cases h
 exact Join.mk (eA [])
 replace h:=hk52
 conv=>whnf
 cases h
 conv=>whnf
 exact ⟨rfl,rfl⟩
theorem zgd (n_:Int) (r:Bool) (h:Ok (nI n_)→zdg n_=some r):Sp Tryz.prog 123 [.im (nI n_)] (.im (nB r)):=by
 refine sp_of rfl [] rfl rfl rfl (Nat.le_of_ble_eq_true rfl) rfl fun hk=>?_
 replace h:=h hk.1
 unfold zdg at h
 conv=>whnf
 obtain ⟨c51,hc51,h⟩:=bind_some h
 refine ⟨_,(zbt n_ 1048576 c51 (fun _ _=>hc51)),?_⟩
 conv=>whnf
 cases h
 conv=>whnf
 exact ⟨rfl,rfl⟩
theorem zl0 (l_:zav) (r:Int) (h:Ok (.agg (zcg l_))→zes l_=some r):Sp Tryz.prog 93 [.im (.agg (zcg l_))] (.im (nI r)):=by
 refine sp_of rfl [700001] rfl rfl rfl (Nat.le_of_ble_eq_true rfl) rfl fun hk=>?_
 replace h:=h hk.1
 have z1:lZ l_.Step:=ok_len (Ok.agg_at hk.1 0 rfl)
 unfold zes at h
 conv=>whnf
 obtain ⟨y56,hc,hk52⟩:=bind_some h
 clear h
 have h:=hc
 clear hc
 refine Cut.mk (mkSt [(13,.im (nB y56))] [] []) (True) (hT) ?_ (fun hp=>?_)
 conv=>whnf
 obtain ⟨c57,hc57,h⟩:=bind_some h
 refine ⟨_,(zgd l_.Reset c57 (fun _=>hc57)),?_⟩
 conv=>whnf
 refine Both.mk ?_ ?_<;>intro b58
 replace b58:=beq_ff b58
 replace h:=cond_f b58 h
 conv=>whnf
 iterate 3 (refine Both.yes (ff_beq b58) ?_;(conv=>whnf))
 obtain ⟨c59,hc59,h⟩:=bind_some h
 refine ⟨_,(zc2 l_.Step (fun u0=>zdg u0) 123 (fun u0 r h=>(zgd u0 r (fun _=>h))) c59 (fun _ _=>hc59)),?_⟩
 conv=>whnf
 refine Both.no b58 ?_
 conv=>whnf
 cases h
 exact Join.mk (eA [])
 replace b58:=beq_ft b58
 replace h:=cond_t b58 h
 conv=>whnf
 iterate 3 (refine Both.no (tf_beq b58) ?_;(conv=>whnf))
 refine Both.yes b58 ?_
 conv=>whnf
 cases h
 exact Join.mk (eA [])
 replace h:=hk52
 conv=>whnf
 refine Both.mk ?_ ?_<;>intro b60
 replace h:=cond_t b60 h
 conv=>whnf
 cases h
 conv=>whnf
 exact ⟨rfl,rfl⟩
 replace h:=cond_f b60 h
 conv=>whnf
 cases h
 conv=>whnf
 exact ⟨rfl,rfl⟩
theorem zdj (u_:zar) (r:Bool) (h:Ok (.agg (zi2 u_))→zb0 u_=some r):Sp Tryz.prog 94 [.im (.agg (zi2 u_))] (.im (nB r)):=by
 refine sp_of rfl [700001] rfl rfl rfl (Nat.le_of_ble_eq_true rfl) rfl fun hk=>?_
 replace h:=h hk.1
 have z1:lZ u_.Device.M.Next:=ok_len (Ok.agg_at hk.1 2 rfl)
 have z2:lZ u_.Device.M.Out:=ok_len (Ok.agg_at hk.1 3 rfl)
 have z3:lZ u_.Device.Latency.Step:=ok_len (Ok.agg_at hk.1 6 rfl)
 unfold zb0 at h
 conv=>whnf
 obtain ⟨y58,hc,hk52⟩:=bind_some h
 clear h
 have h:=hc
 clear hc
 refine Cut.mk (mkSt [(2,.im (nB y58))] [] []) (True) (hT) ?_ (fun hp=>?_)
 conv=>whnf
 obtain ⟨c59,hc59,h⟩:=bind_some h
 refine ⟨_,(zbt u_.Device.Steps 1125899906842624 c59 (fun _ _=>hc59)),?_⟩
 conv=>whnf
 refine Both.mk ?_ ?_<;>intro b60
 replace b60:=beq_tt b60
 replace h:=cond_t b60 h
 conv=>whnf
 iterate 3 (refine Both.yes (tt_beq b60) ?_;(conv=>whnf))
 obtain ⟨c61,hc61,h⟩:=bind_some h
 refine ⟨_,(zbt u_.Device.Resets 1125899906842624 c61 (fun _ _=>hc61)),?_⟩
 conv=>whnf
 refine Both.yes (tt_beq b60) ?_
 conv=>whnf
 refine Both.yes b60 ?_
 conv=>whnf
 refine Both.mk ?_ ?_<;>intro b62
 replace b62:=beq_tt b62
 replace h:=cond_t b62 h
 conv=>whnf
 iterate 3 (refine Both.yes (tt_beq b62) ?_;(conv=>whnf))
 obtain ⟨c63,hc63,h⟩:=bind_some h
 refine ⟨_,(zbt u_.Device.Time 1125899906842624 c63 (fun _ _=>hc63)),?_⟩
 conv=>whnf
 refine Both.yes (tt_beq b62) ?_
 conv=>whnf
 refine Both.yes b62 ?_
 conv=>whnf
 cases h
 exact Join.mk (eA [])
 replace b62:=beq_tf b62
 replace h:=cond_f b62 h
 conv=>whnf
 iterate 4 (refine Both.no (ft_beq b62) ?_;(conv=>whnf))
 refine Both.no b62 ?_
 conv=>whnf
 cases h
 exact Join.mk (eA [])
 replace b60:=beq_tf b60
 replace h:=cond_f b60 h
 conv=>whnf
 iterate 4 (refine Both.no (ft_beq b60) ?_;(conv=>whnf))
 refine Both.no b60 ?_
 conv=>whnf
 iterate 6 (refine Both.no rfl ?_;(conv=>whnf))
 cases h
 exact Join.mk (eA [])
 replace h:=hk52
 conv=>whnf
 cases h
 conv=>whnf
 exact ⟨rfl,rfl⟩
theorem zkg (d_:zaf) (r:Int) (h:Ok (.agg (zb2 d_))→zep d_=some r):Sp Tryz.prog 50 [.im (.agg (zb2 d_))] (.im (nI r)):=by
 refine sp_of rfl [700001] rfl rfl rfl (Nat.le_of_ble_eq_true rfl) rfl fun hk=>?_
 replace h:=h hk.1
 have z1:lZ d_.M.Next:=ok_len (Ok.agg_at hk.1 2 rfl)
 have z2:lZ d_.M.Out:=ok_len (Ok.agg_at hk.1 3 rfl)
 have z3:lZ d_.Latency.Step:=ok_len (Ok.agg_at hk.1 6 rfl)
 unfold zep at h
 conv=>whnf
 obtain ⟨c51,hc51,h⟩:=bind_some h
 refine ⟨_,(zbr d_.M c51 (fun _=>hc51)),?_⟩
 conv=>whnf
 refine Both.mk ?_ ?_<;>intro b52
 obtain ⟨h,b52d⟩:=ctd b52 h
 conv=>whnf
 cases h
 conv=>whnf
 exact ⟨rfl,rfl⟩
 obtain ⟨h,b52d⟩:=cfd b52 h
 conv=>whnf
 refine Nf.mk (List.length d_.M.Next) len_map ?_
 conv=>whnf
 refine Arith.mk (by show inR _;unfold inR;omega) ?_
 conv=>whnf
 obtain ⟨c53,hc53,h⟩:=bind_some h
 refine ⟨_,(zbt d_.State ((↑(List.length d_.M.Next):Int)-1) c53 (fun _ _=>hc53)),?_⟩
 conv=>whnf
 refine Both.mk ?_ ?_<;>intro b54
 replace h:=cond_t b54 h
 conv=>whnf
 cases h
 conv=>whnf
 exact ⟨rfl,rfl⟩
 replace h:=cond_f b54 h
 conv=>whnf
 refine Nf.mk (List.length d_.Latency.Step) len_map ?_
 conv=>whnf
 refine Both.mk ?_ ?_<;>intro b55
 obtain ⟨h,b55d⟩:=ctd b55 h
 conv=>whnf
 cases h
 conv=>whnf
 exact ⟨rfl,rfl⟩
 obtain ⟨h,b55d⟩:=cfd b55 h
 conv=>whnf
 obtain ⟨c56,hc56,h⟩:=bind_some h
 refine ⟨_,(zl0 d_.Latency c56 (fun _=>hc56)),?_⟩
 conv=>whnf
 refine Both.mk ?_ ?_<;>intro b57
 obtain ⟨h,b57d⟩:=ctd b57 h
 conv=>whnf
 cases h
 conv=>whnf
 exact ⟨rfl,rfl⟩
 obtain ⟨h,b57d⟩:=cfd b57 h
 conv=>whnf
 refine Side.mk rfl ?_
 conv=>whnf
 obtain ⟨y70,hc,hk59⟩:=bind_some h
 clear h
 have h:=hc
 clear hc
 refine Cut.mk (mkSt [(65,.im (nB y70))] [] []) (True) (hT) ?_ (fun hp=>?_)
 conv=>whnf
 refine Side.mk rfl ?_
 conv=>whnf
 refine Side.mk rfl ?_
 conv=>whnf
 obtain ⟨c71,hc71,h⟩:=bind_some h
 refine ⟨_,(zbt d_.Faults.Lost 10000 c71 (fun _ _=>hc71)),?_⟩
 conv=>whnf
 refine Both.mk ?_ ?_<;>intro b72
 replace b72:=beq_ff b72
 replace h:=cond_f b72 h
 conv=>whnf
 refine Side.mk rfl ?_
 conv=>whnf
 refine Both.yes (ff_beq b72) ?_
 conv=>whnf
 refine Side.mk rfl ?_
 conv=>whnf
 refine Both.yes (ff_beq b72) ?_
 conv=>whnf
 obtain ⟨c73,hc73,h⟩:=bind_some h
 refine ⟨_,(zbt d_.Faults.Wrong 10000 c73 (fun _ _=>hc73)),?_⟩
 conv=>whnf
 refine Both.no b72 ?_
 conv=>whnf
 refine Both.mk ?_ ?_<;>intro b74
 replace b74:=beq_ff b74
 replace h:=cond_f b74 h
 conv=>whnf
 refine Side.mk rfl ?_
 conv=>whnf
 refine Both.yes (ff_beq b74) ?_
 conv=>whnf
 refine Side.mk rfl ?_
 conv=>whnf
 refine Both.yes (ff_beq b74) ?_
 conv=>whnf
 obtain ⟨c75,hc75,h⟩:=bind_some h
 refine ⟨_,(zbt d_.Faults.Crash 10000 c75 (fun _ _=>hc75)),?_⟩
 conv=>whnf
 refine Both.no b74 ?_
 conv=>whnf
 refine Both.mk ?_ ?_<;>intro b76
 replace b76:=beq_ff b76
 replace h:=cond_f b76 h
 conv=>whnf
 refine Side.mk rfl ?_
 conv=>whnf
 refine Both.yes (ff_beq b76) ?_
 conv=>whnf
 refine Side.mk rfl ?_
 conv=>whnf
 refine Both.yes (ff_beq b76) ?_
 conv=>whnf
 refine Side.mk rfl ?_
 conv=>whnf
 refine Both.yes (ff_beq b76) ?_
 conv=>whnf
 refine Side.mk rfl ?_
 conv=>whnf
 refine Both.yes (ff_beq b76) ?_
 conv=>whnf
 obtain ⟨c77,h⟩:=chk_some h
 refine Arith.mk c77 ?_
 conv=>whnf
 refine Both.yes (ff_beq b76) ?_
 conv=>whnf
 refine Side.mk rfl ?_
 conv=>whnf
 refine Both.yes (ff_beq b76) ?_
 conv=>whnf
 refine Side.mk rfl ?_
 conv=>whnf
 refine Both.yes (ff_beq b76) ?_
 conv=>whnf
 obtain ⟨c78,h⟩:=chk_some h
 refine Arith.mk c78 ?_
 conv=>whnf
 refine Both.yes (ff_beq b76) ?_
 conv=>whnf
 refine Both.no b76 ?_
 conv=>whnf
 refine Both.mk ?_ ?_<;>intro b79
 replace b79:=beq_ff b79
 obtain ⟨h,b79d⟩:=cfd b79 h
 conv=>whnf
 iterate 2 (refine Both.yes (ff_beq b79) ?_;(conv=>whnf))
 obtain ⟨c80,hc80,h⟩:=bind_some h
 refine ⟨_,(zdj (⟨d_⟩:zar) c80 (fun _=>hc80)),?_⟩
 conv=>whnf
 refine Both.yes (ff_beq b79) ?_
 conv=>whnf
 refine Both.no b79 ?_
 conv=>whnf
 cases h
 exact Join.mk (eA [])
 replace b79:=beq_ft b79
 obtain ⟨h,b79d⟩:=ctd b79 h
 conv=>whnf
 iterate 3 (refine Both.no (tf_beq b79) ?_;(conv=>whnf))
 refine Both.yes b79 ?_
 conv=>whnf
 cases h
 exact Join.mk (eA [])
 replace b76:=beq_ft b76
 replace h:=cond_t b76 h
 conv=>whnf
 iterate 8 (refine Both.no (tf_beq b76) ?_;(conv=>whnf))
 refine Both.yes b76 ?_
 conv=>whnf
 iterate 4 (refine Both.no rfl ?_;(conv=>whnf))
 refine Both.yes rfl ?_
 conv=>whnf
 cases h
 exact Join.mk (eA [])
 replace b74:=beq_ft b74
 replace h:=cond_t b74 h
 conv=>whnf
 iterate 2 (refine Both.no (tf_beq b74) ?_;(conv=>whnf))
 refine Both.yes b74 ?_
 conv=>whnf
 iterate 9 (refine Both.no rfl ?_;(conv=>whnf))
 refine Both.yes rfl ?_
 conv=>whnf
 iterate 4 (refine Both.no rfl ?_;(conv=>whnf))
 refine Both.yes rfl ?_
 conv=>whnf
 cases h
 exact Join.mk (eA [])
 replace b72:=beq_ft b72
 replace h:=cond_t b72 h
 conv=>whnf
 iterate 2 (refine Both.no (tf_beq b72) ?_;(conv=>whnf))
 refine Both.yes b72 ?_
 conv=>whnf
 iterate 3 (refine Both.no rfl ?_;(conv=>whnf))
 refine Both.yes rfl ?_
 conv=>whnf
 iterate 9 (refine Both.no rfl ?_;(conv=>whnf))
 refine Both.yes rfl ?_
 conv=>whnf
 iterate 4 (refine Both.no rfl ?_;(conv=>whnf))
 refine Both.yes rfl ?_
 conv=>whnf
 cases h
 exact Join.mk (eA [])
 replace h:=hk59
 conv=>whnf
 refine Both.mk ?_ ?_<;>intro b81
 replace h:=cond_t b81 h
 conv=>whnf
 cases h
 conv=>whnf
 exact ⟨rfl,rfl⟩
 replace h:=cond_f b81 h
 conv=>whnf
 cases h
 conv=>whnf
 exact ⟨rfl,rfl⟩
theorem zh5 (l_:List (List Int)) (r:List (List Int)) (h:Ok (nL (cL cI) l_)→zcf l_=some r):Sp Tryz.prog 125 [.im (nL (cL cI) l_)] (.row 25 1 (List.map (cL cI) r)):=by
 refine sp_of rfl [] rfl rfl rfl (Nat.le_of_ble_eq_true rfl) rfl fun hk=>?_
 replace h:=h hk.1
 have z1:lZ l_:=ok_len hk.1
 unfold zcf at h
 conv=>whnf
 refine Nf.mk (List.length l_) len_map ?_
 conv=>whnf
 obtain ⟨c51,h⟩:=chk_some h
 refine Side.mk c51 ?_
 conv=>whnf
 refine Nf.mk (List.map (cL cI) []) rfl ?_
 conv=>whnf
 refine Nf.mk (List.length l_) len_map ?_
 conv=>whnf
 obtain ⟨y70,hc,hk52⟩:=bind_some h
 clear h
 have h:=hc
 clear hc
 refine Cut.mk (mkSt [(3,.osl 64 1)] [(64,.row 25 1 (List.map (cL cI) y70))] []) (lZ y70∧True) ((Holds.kdl 64 rfl).and (hT)) ?_ (fun hp=>?_)
 conv=>whnf
 refine Loops.iter (fun (s:List (List Int)×Nat)=>zcf.s2 l_ s.1 s.2) (fun (y75,y76)=>mkSt [(3,.osl 64 1),(9,.im (nL (cL cI) l_)),(10,.im (nI (↑(List.length l_):Int))),(11,.im (nI (↑y76:Int)))] [(64,.row 25 1 (List.map (cL cI) y75))] []) (fun (y75,y76)=>lZ l_∧lZ y75∧True) h (eA [(64,some 8)]) (by rintro ⟨y75,y76⟩;exact ((Holds.avl 9 rfl).and ((Holds.kdl 64 rfl).and (hT)))) ?_
 clear h
 rintro k ⟨y75,y76⟩ o hp h ho81
 replace h:zcf.s2 l_ y75 y76=some o:=h
 unfold zcf.s2 at h
 obtain ⟨z86,z87,_⟩:=hp
 conv=>whnf
 refine Both.mk ?_ ?_<;>intro b82
 obtain ⟨h,b82d⟩:=ctd b82 h
 conv=>whnf
 obtain ⟨e83,he83,h⟩:=zaj h
 refine ⟨_,⟨(by omega),map_at he83,rfl⟩,?_⟩
 conv=>whnf
 obtain ⟨c84,hc84,h⟩:=bind_some h
 refine ⟨_,(za4 e83 c84 (hc84)).im,?_⟩
 conv=>whnf
 obtain ⟨c85,h⟩:=chk_some h
 refine Side.mk ⟨rfl,map_len (l:=[c84]) (c:=cL cI) fun _=>rfl,show capOk _ 24 by simpa only [List.length_map,List.length_cons,List.length_nil,Nat.zero_add] using c85⟩ ?_
 conv=>whnf
 refine Nf.mk (List.map (cL cI) (y75++[c84])) (app_map (l:=y75) (m:=[c84]) (c:=cL cI)) ?_
 conv=>whnf
 refine Arith.mk (by show inR _;unfold inR;omega) ?_
 conv=>whnf
 cases h
 exact Nxt.mk _ ho81 (eA [(64,some 64)])
 obtain ⟨h,b82d⟩:=cfd b82 h
 conv=>whnf
 cases h
 have ho81:_=_:=ho81
 cases ho81
 exact Join.mk (eA [(64,some 64)])
 replace h:=hk52
 obtain ⟨z88,_⟩:=hp
 conv=>whnf
 cases h
 conv=>whnf
 exact Side.mk ⟨rfl,trivial⟩ ⟨rfl,rfl⟩
theorem zj5 (d_:zaf) (r:zaf) (h:Ok (.agg (zb2 d_))→zd8 d_=some r):Sp Tryz.prog 106 [.im (.agg (zb2 d_))] (.im (.agg (zb2 r))):=by
 refine sp_of rfl [] rfl rfl rfl (Nat.le_of_ble_eq_true rfl) rfl fun hk=>?_
 replace h:=h hk.1
 have z1:lZ d_.M.Next:=ok_len (Ok.agg_at hk.1 2 rfl)
 have z2:lZ d_.M.Out:=ok_len (Ok.agg_at hk.1 3 rfl)
 have z3:lZ d_.Latency.Step:=ok_len (Ok.agg_at hk.1 6 rfl)
 unfold zd8 at h
 conv=>whnf
 refine Side.mk rfl ?_
 conv=>whnf
 refine Side.mk rfl ?_
 conv=>whnf
 refine Side.mk rfl ?_
 conv=>whnf
 obtain ⟨c51,hc51,h⟩:=bind_some h
 refine ⟨_,(zh5 d_.M.Next c51 (fun _=>hc51)).im,?_⟩
 conv=>whnf
 refine Side.mk rfl ?_
 conv=>whnf
 refine Side.mk rfl ?_
 conv=>whnf
 refine Side.mk rfl ?_
 conv=>whnf
 obtain ⟨c52,hc52,h⟩:=bind_some h
 refine ⟨_,(zh5 d_.M.Out c52 (fun _=>hc52)).im,?_⟩
 conv=>whnf
 refine Side.mk rfl ?_
 conv=>whnf
 refine Side.mk rfl ?_
 conv=>whnf
 refine Side.mk rfl ?_
 conv=>whnf
 refine Side.mk rfl ?_
 conv=>whnf
 refine Side.mk rfl ?_
 conv=>whnf
 refine Side.mk rfl ?_
 conv=>whnf
 refine Side.mk rfl ?_
 conv=>whnf
 refine Side.mk rfl ?_
 conv=>whnf
 refine Side.mk rfl ?_
 conv=>whnf
 obtain ⟨c53,hc53,h⟩:=bind_some h
 refine ⟨_,(za4 d_.Latency.Step c53 (hc53)).im,?_⟩
 conv=>whnf
 refine Side.mk rfl ?_
 conv=>whnf
 refine Side.mk rfl ?_
 conv=>whnf
 refine Side.mk rfl ?_
 conv=>whnf
 refine Side.mk rfl ?_
 conv=>whnf
 refine Side.mk rfl ?_
 conv=>whnf
 cases h
 conv=>whnf
 refine Side.mk ⟨rfl,trivial⟩ ?_
 conv=>whnf
 exact ⟨rfl,rfl⟩
theorem zhs (u_:zar) (r:Int×zar) (h:OkOcs [.im (nI u_.Device.M.Inputs),.im (nI u_.Device.M.Start),.im (nL (cL cI) u_.Device.M.Next),.im (nL (cL cI) u_.Device.M.Out),.im (nI u_.Device.State),.im (nB u_.Device.Ready),.im (nL cI u_.Device.Latency.Step),.im (nI u_.Device.Latency.Reset),.im (nI u_.Device.Faults.Lost),.im (nI u_.Device.Faults.Wrong),.im (nI u_.Device.Faults.Crash),.im (nU u_.Device.Seed),.im (nI u_.Device.Steps),.im (nI u_.Device.Resets),.im (nI u_.Device.Time)]→zc5 u_=some r):Sp Tryz.prog 107 [.box 151 [.im (nI u_.Device.M.Inputs),.im (nI u_.Device.M.Start),.im (nL (cL cI) u_.Device.M.Next),.im (nL (cL cI) u_.Device.M.Out),.im (nI u_.Device.State),.im (nB u_.Device.Ready),.im (nL cI u_.Device.Latency.Step),.im (nI u_.Device.Latency.Reset),.im (nI u_.Device.Faults.Lost),.im (nI u_.Device.Faults.Wrong),.im (nI u_.Device.Faults.Crash),.im (nU u_.Device.Seed),.im (nI u_.Device.Steps),.im (nI u_.Device.Resets),.im (nI u_.Device.Time)]] (.mk false [.im (nI r.1)] [.box 151 [.im (nI r.2.Device.M.Inputs),.im (nI r.2.Device.M.Start),.im (nL (cL cI) r.2.Device.M.Next),.im (nL (cL cI) r.2.Device.M.Out),.im (nI r.2.Device.State),.im (nB r.2.Device.Ready),.im (nL cI r.2.Device.Latency.Step),.im (nI r.2.Device.Latency.Reset),.im (nI r.2.Device.Faults.Lost),.im (nI r.2.Device.Faults.Wrong),.im (nI r.2.Device.Faults.Crash),.im (nU r.2.Device.Seed),.im (nI r.2.Device.Steps),.im (nI r.2.Device.Resets),.im (nI r.2.Device.Time)]]):=by
 refine sp_of rfl [] rfl rfl rfl (Nat.le_of_ble_eq_true rfl) rfl fun hk=>?_
 replace h:=h hk.1
 have z1:lZ u_.Device.M.Next:=ok_len hk.1.2.2.1
 have z2:lZ u_.Device.M.Out:=ok_len hk.1.2.2.2.1
 have z3:lZ u_.Device.Latency.Step:=ok_len hk.1.2.2.2.2.2.2.1
 unfold zc5 at h
 conv=>whnf
 refine Side.mk rfl ?_
 conv=>whnf
 refine Side.mk rfl ?_
 conv=>whnf
 refine Side.mk rfl ?_
 conv=>whnf
 refine Side.mk rfl ?_
 conv=>whnf
 refine Side.mk rfl ?_
 conv=>whnf
 refine Side.mk rfl ?_
 conv=>whnf
 refine Side.mk rfl ?_
 conv=>whnf
 refine Side.mk rfl ?_
 conv=>whnf
 refine Side.mk rfl ?_
 conv=>whnf
 refine Side.mk rfl ?_
 conv=>whnf
 refine Side.mk rfl ?_
 conv=>whnf
 refine Side.mk rfl ?_
 conv=>whnf
 refine Side.mk rfl ?_
 conv=>whnf
 refine Side.mk rfl ?_
 conv=>whnf
 refine Side.mk rfl ?_
 conv=>whnf
 refine Side.mk rfl ?_
 conv=>whnf
 refine Side.mk rfl ?_
 conv=>whnf
 obtain ⟨c51,h⟩:=chk_some h
 refine Arith.mk c51 ?_
 conv=>whnf
 refine Side.mk rfl ?_
 conv=>whnf
 refine Side.mk rfl ?_
 conv=>whnf
 refine Side.mk rfl ?_
 conv=>whnf
 refine Side.mk rfl ?_
 conv=>whnf
 refine Side.mk rfl ?_
 conv=>whnf
 refine Side.mk rfl ?_
 conv=>whnf
 refine Side.mk rfl ?_
 conv=>whnf
 refine Side.mk rfl ?_
 conv=>whnf
 refine Side.mk rfl ?_
 conv=>whnf
 refine Side.mk rfl ?_
 conv=>whnf
 refine Side.mk rfl ?_
 conv=>whnf
 obtain ⟨c52,h⟩:=chk_some h
 refine Arith.mk c52 ?_
 conv=>whnf
 refine Side.mk rfl ?_
 conv=>whnf
 refine Side.mk rfl ?_
 conv=>whnf
 refine Side.mk rfl ?_
 conv=>whnf
 refine Side.mk rfl ?_
 conv=>whnf
 obtain ⟨c53,hc53,h⟩:=bind_some h
 refine ⟨_,(zdj (⟨(⟨u_.Device.M,u_.Device.M.Start,true,u_.Device.Latency,u_.Device.Faults,u_.Device.Seed,u_.Device.Steps,(u_.Device.Resets+1),(u_.Device.Time+u_.Device.Latency.Reset)⟩:zaf)⟩:zar) c53 (fun _=>hc53)),?_⟩
 conv=>whnf
 refine Both.mk ?_ ?_<;>intro b54
 replace h:=cond_t b54 h
 conv=>whnf
 cases h
 conv=>whnf
 exact Side.mk ⟨rfl,trivial⟩ ⟨rfl,rfl⟩
 replace h:=cond_f b54 h
 conv=>whnf
 refine Side.mk rfl ?_
 conv=>whnf
 refine Side.mk rfl ?_
 conv=>whnf
 refine Side.mk rfl ?_
 conv=>whnf
 cases h
 conv=>whnf
 exact Side.mk ⟨rfl,trivial⟩ ⟨rfl,rfl⟩
theorem zmf (state_:Int) (r:Int×Int) (h:Ok (nU state_)→zfa state_=some r):Sp Tryz.prog 158 [.im (nU state_)] (.tup [nU r.1,nU r.2]):=by
 refine sp_of rfl [] rfl rfl rfl (Nat.le_of_ble_eq_true rfl) rfl fun hk=>?_
 replace h:=h hk.1
 unfold zfa at h
 conv=>whnf
 refine Arith.wr _ (mdU_eq _) ?_
 conv=>whnf
 obtain ⟨c51,h⟩:=chk_some h
 refine Side.mk ⟨⟨by show (0:Int)≤(mdU (state_+11400714819323198485)) / 2^30;omega,by show (mdU (state_+11400714819323198485)) / 2^30≤(18446744073709551615:Int);omega⟩,c51.1,by decide,by decide⟩ ?_
 conv=>whnf
 refine Arith.wr _ (mdU_eq _) ?_
 conv=>whnf
 obtain ⟨c52,h⟩:=chk_some h
 refine Side.mk ⟨⟨by show (0:Int)≤(mdU ((xorK .u64 (mdU (state_+11400714819323198485)) ((mdU (state_+11400714819323198485)) / 2^30))*13787848793156543929)) / 2^27;omega,by show (mdU ((xorK .u64 (mdU (state_+11400714819323198485)) ((mdU (state_+11400714819323198485)) / 2^30))*13787848793156543929)) / 2^27≤(18446744073709551615:Int);omega⟩,c52.1,by decide,by decide⟩ ?_
 conv=>whnf
 refine Arith.wr _ (mdU_eq _) ?_
 conv=>whnf
 obtain ⟨c53,h⟩:=chk_some h
 refine Side.mk ⟨⟨by show (0:Int)≤(mdU ((xorK .u64 (mdU ((xorK .u64 (mdU (state_+11400714819323198485)) ((mdU (state_+11400714819323198485)) / 2^30))*13787848793156543929)) ((mdU ((xorK .u64 (mdU (state_+11400714819323198485)) ((mdU (state_+11400714819323198485)) / 2^30))*13787848793156543929)) / 2^27))*10723151780598845931)) / 2^31;omega,by show (mdU ((xorK .u64 (mdU ((xorK .u64 (mdU (state_+11400714819323198485)) ((mdU (state_+11400714819323198485)) / 2^30))*13787848793156543929)) ((mdU ((xorK .u64 (mdU (state_+11400714819323198485)) ((mdU (state_+11400714819323198485)) / 2^30))*13787848793156543929)) / 2^27))*10723151780598845931)) / 2^31≤(18446744073709551615:Int);omega⟩,c53.1,by decide,by decide⟩ ?_
 conv=>whnf
 cases h
 conv=>whnf
 exact ⟨rfl,rfl⟩
theorem zlz (state_:Int) (n_:Int) (r:Int×Int) (h:Ok (nU state_)→Ok (nI n_)→zcb state_ n_=some r):Sp Tryz.prog 143 [.im (nU state_),.im (nI n_)] (.tup [nI r.1,nU r.2]):=by
 refine sp_of rfl [] rfl rfl rfl (Nat.le_of_ble_eq_true rfl) rfl fun hk=>?_
 replace h:=h hk.1 hk.2.1
 unfold zcb at h
 conv=>whnf
 obtain ⟨c51,h⟩:=chk_some h
 refine Side.mk c51 ?_
 conv=>whnf
 refine Arith.wr _ (mdU_eq _) ?_
 conv=>whnf
 obtain ⟨c52,h⟩:=chk_some h
 refine Side.mk c52 ?_
 conv=>whnf
 refine Loops.iter (fun (s:Int)=>zcb.s1 n_ s) (fun state62=>mkSt [(0,.im (nU state62)),(6,.im (nU n_)),(7,.im (nU ((mdU (0-n_))%n_)))] [] []) (fun state62=>True) h (eA []) (by rintro state62;exact (hT)) ?_
 clear h
 rintro k state62 o hp h ho72
 replace h:zcb.s1 n_ state62=some o:=h
 unfold zcb.s1 at h
 conv=>whnf
 obtain ⟨c73,hc73,h⟩:=bind_some h
 refine ⟨_,(zmf state62 c73 (fun _=>hc73)),?_⟩
 conv=>whnf
 obtain ⟨y77,hc,hk75⟩:=bind_some h
 clear h
 have h:=hc
 clear hc
 refine Cut.mk (mkSt [(0,.im (nU c73.2)),(6,.im (nU n_)),(7,.im (nU ((mdU (0-n_))%n_))),(8,.im (nU c73.1)),(29,.im (nB y77))] [] []) (True) (hT) ?_ (fun hp=>?_)
 conv=>whnf
 refine Both.mk ?_ ?_<;>intro b78
 replace b78:=beq_ff b78
 obtain ⟨h,b78d⟩:=cfd b78 h
 conv=>whnf
 iterate 2 (refine Both.yes (ff_beq b78) ?_;(conv=>whnf))
 refine Arith.wr _ (mdU_eq _) ?_
 conv=>whnf
 refine Both.yes (ff_beq b78) ?_
 conv=>whnf
 refine Both.no b78 ?_
 conv=>whnf
 cases h
 exact Join.mk (eA [])
 replace b78:=beq_ft b78
 obtain ⟨h,b78d⟩:=ctd b78 h
 conv=>whnf
 iterate 3 (refine Both.no (tf_beq b78) ?_;(conv=>whnf))
 refine Both.yes b78 ?_
 conv=>whnf
 cases h
 exact Join.mk (eA [])
 replace h:=hk75
 conv=>whnf
 refine Both.mk ?_ ?_<;>intro b79
 replace h:=cond_t b79 h
 conv=>whnf
 obtain ⟨c80,h⟩:=chk_some h
 refine Side.mk c80 ?_
 conv=>whnf
 obtain ⟨c81,h⟩:=chk_some h
 refine Side.mk c81 ?_
 conv=>whnf
 cases h
 have ho72:_=_:=ho72
 cases ho72
 conv=>whnf
 exact ⟨rfl,rfl⟩
 replace h:=cond_f b79 h
 conv=>whnf
 cases h
 exact Nxt.mk _ ho72 (eA [])
theorem zku (state_:Int) (n_:Int) (r:Int×Int×Int) (h:Ok (nU state_)→Ok (nI n_)→zev state_ n_=some r):Sp Tryz.prog 126 [.im (nU state_),.im (nI n_)] (.tup [nI r.1,nU r.2.1,nI r.2.2]):=by
 refine sp_of rfl [] rfl rfl rfl (Nat.le_of_ble_eq_true rfl) rfl fun hk=>?_
 replace h:=h hk.1 hk.2.1
 unfold zev at h
 conv=>whnf
 obtain ⟨y54,hc,hk52⟩:=bind_some h
 clear h
 have h:=hc
 clear hc
 refine Cut.mk (mkSt [(0,.im (nU state_)),(1,.im (nI n_)),(14,.im (nB y54))] [] []) (True) (hT) ?_ (fun hp=>?_)
 conv=>whnf
 refine Both.mk ?_ ?_<;>intro b55
 replace b55:=beq_ff b55
 obtain ⟨h,b55d⟩:=cfd b55 h
 conv=>whnf
 refine Both.yes (ff_beq b55) ?_
 conv=>whnf
 refine Both.no b55 ?_
 conv=>whnf
 cases h
 exact Join.mk (eA [])
 replace b55:=beq_ft b55
 obtain ⟨h,b55d⟩:=ctd b55 h
 conv=>whnf
 refine Both.no (tf_beq b55) ?_
 conv=>whnf
 refine Both.yes b55 ?_
 conv=>whnf
 cases h
 exact Join.mk (eA [])
 replace h:=hk52
 conv=>whnf
 refine Both.mk ?_ ?_<;>intro b56
 replace h:=cond_t b56 h
 conv=>whnf
 cases h
 conv=>whnf
 exact ⟨rfl,rfl⟩
 replace h:=cond_f b56 h
 conv=>whnf
 obtain ⟨c57,hc57,h⟩:=bind_some h
 refine ⟨_,(zlz state_ n_ c57 (fun _ _=>hc57)),?_⟩
 conv=>whnf
 cases h
 conv=>whnf
 exact ⟨rfl,rfl⟩
theorem zh6 (u_:zar) (a_:Int) (r:Int×Int×zar) (h:OkOcs [.im (nI u_.Device.M.Inputs),.im (nI u_.Device.M.Start),.im (nL (cL cI) u_.Device.M.Next),.im (nL (cL cI) u_.Device.M.Out),.im (nI u_.Device.State),.im (nB u_.Device.Ready),.im (nL cI u_.Device.Latency.Step),.im (nI u_.Device.Latency.Reset),.im (nI u_.Device.Faults.Lost),.im (nI u_.Device.Faults.Wrong),.im (nI u_.Device.Faults.Crash),.im (nU u_.Device.Seed),.im (nI u_.Device.Steps),.im (nI u_.Device.Resets),.im (nI u_.Device.Time)]→Ok (nI a_)→zde u_ a_=some r):Sp Tryz.prog 108 [.box 151 [.im (nI u_.Device.M.Inputs),.im (nI u_.Device.M.Start),.im (nL (cL cI) u_.Device.M.Next),.im (nL (cL cI) u_.Device.M.Out),.im (nI u_.Device.State),.im (nB u_.Device.Ready),.im (nL cI u_.Device.Latency.Step),.im (nI u_.Device.Latency.Reset),.im (nI u_.Device.Faults.Lost),.im (nI u_.Device.Faults.Wrong),.im (nI u_.Device.Faults.Crash),.im (nU u_.Device.Seed),.im (nI u_.Device.Steps),.im (nI u_.Device.Resets),.im (nI u_.Device.Time)],.im (nI a_)] (.mk true [.im (nI r.1),.im (nI r.2.1)] [.box 151 [.im (nI r.2.2.Device.M.Inputs),.im (nI r.2.2.Device.M.Start),.im (nL (cL cI) r.2.2.Device.M.Next),.im (nL (cL cI) r.2.2.Device.M.Out),.im (nI r.2.2.Device.State),.im (nB r.2.2.Device.Ready),.im (nL cI r.2.2.Device.Latency.Step),.im (nI r.2.2.Device.Latency.Reset),.im (nI r.2.2.Device.Faults.Lost),.im (nI r.2.2.Device.Faults.Wrong),.im (nI r.2.2.Device.Faults.Crash),.im (nU r.2.2.Device.Seed),.im (nI r.2.2.Device.Steps),.im (nI r.2.2.Device.Resets),.im (nI r.2.2.Device.Time)]]):=by
 refine sp_of rfl [] rfl rfl rfl (Nat.le_of_ble_eq_true rfl) rfl fun hk=>?_
 replace h:=h hk.1 hk.2.1
 have z1:lZ u_.Device.M.Next:=ok_len hk.1.2.2.1
 have z2:lZ u_.Device.M.Out:=ok_len hk.1.2.2.2.1
 have z3:lZ u_.Device.Latency.Step:=ok_len hk.1.2.2.2.2.2.2.1
 unfold zde at h
 conv=>whnf
 refine Side.mk rfl ?_
 conv=>whnf
 refine Side.mk rfl ?_
 conv=>whnf
 refine Side.mk rfl ?_
 conv=>whnf
 refine Side.mk rfl ?_
 conv=>whnf
 refine Both.mk ?_ ?_<;>intro b51
 replace h:=cond_t b51 h
 conv=>whnf
 cases h
 conv=>whnf
 exact Side.mk ⟨rfl,trivial⟩ ⟨rfl,rfl⟩
 replace h:=cond_f b51 h
 conv=>whnf
 refine Side.mk rfl ?_
 conv=>whnf
 refine Side.mk rfl ?_
 conv=>whnf
 refine Side.mk rfl ?_
 conv=>whnf
 refine Side.mk rfl ?_
 conv=>whnf
 refine Side.mk rfl ?_
 conv=>whnf
 obtain ⟨c52,h⟩:=chk_some h
 refine Arith.mk c52 ?_
 conv=>whnf
 obtain ⟨c53,hc53,h⟩:=bind_some h
 refine ⟨_,(zbt a_ (u_.Device.M.Inputs-1) c53 (fun _ _=>hc53)),?_⟩
 conv=>whnf
 refine Both.mk ?_ ?_<;>intro b54
 replace h:=cond_t b54 h
 conv=>whnf
 cases h
 conv=>whnf
 exact Side.mk ⟨rfl,trivial⟩ ⟨rfl,rfl⟩
 replace h:=cond_f b54 h
 conv=>whnf
 refine Side.mk rfl ?_
 conv=>whnf
 refine Side.mk rfl ?_
 conv=>whnf
 refine Side.mk rfl ?_
 conv=>whnf
 refine Side.mk rfl ?_
 conv=>whnf
 refine Side.mk rfl ?_
 conv=>whnf
 refine Side.mk rfl ?_
 conv=>whnf
 obtain ⟨c55,h⟩:=chk_some h
 refine Arith.mk c55 ?_
 conv=>whnf
 refine Side.mk rfl ?_
 conv=>whnf
 refine Side.mk rfl ?_
 conv=>whnf
 refine Side.mk rfl ?_
 conv=>whnf
 refine Side.mk rfl ?_
 conv=>whnf
 refine Side.mk rfl ?_
 conv=>whnf
 refine Side.mk rfl ?_
 conv=>whnf
 refine Side.mk rfl ?_
 conv=>whnf
 refine Side.mk rfl ?_
 conv=>whnf
 refine Side.mk rfl ?_
 conv=>whnf
 refine Side.mk rfl ?_
 conv=>whnf
 refine Side.mk rfl ?_
 conv=>whnf
 obtain ⟨e56,he56z,he56,h⟩:=idx_some h
 refine ⟨_,⟨he56z,map_at he56,rfl⟩,?_⟩
 conv=>whnf
 obtain ⟨c57,h⟩:=chk_some h
 refine Arith.mk c57 ?_
 conv=>whnf
 refine Side.mk rfl ?_
 conv=>whnf
 refine Side.mk rfl ?_
 conv=>whnf
 refine Side.mk rfl ?_
 conv=>whnf
 refine Side.mk rfl ?_
 conv=>whnf
 obtain ⟨c58,hc58,h⟩:=bind_some h
 refine ⟨_,(zdj (⟨(⟨u_.Device.M,u_.Device.State,u_.Device.Ready,u_.Device.Latency,u_.Device.Faults,u_.Device.Seed,(u_.Device.Steps+1),u_.Device.Resets,(u_.Device.Time+e56)⟩:zaf)⟩:zar) c58 (fun _=>hc58)),?_⟩
 conv=>whnf
 refine Both.mk ?_ ?_<;>intro b59
 replace h:=cond_t b59 h
 conv=>whnf
 cases h
 conv=>whnf
 exact Side.mk ⟨rfl,trivial⟩ ⟨rfl,rfl⟩
 replace h:=cond_f b59 h
 conv=>whnf
 refine Side.mk rfl ?_
 conv=>whnf
 refine Side.mk rfl ?_
 conv=>whnf
 refine Side.mk rfl ?_
 conv=>whnf
 refine Side.mk rfl ?_
 conv=>whnf
 obtain ⟨c60,hc60,h⟩:=bind_some h
 refine ⟨_,(zku u_.Device.Seed 10000 c60 (fun _ _=>hc60)),?_⟩
 conv=>whnf
 refine Both.mk ?_ ?_<;>intro b61
 obtain ⟨h,b61d⟩:=ctd b61 h
 conv=>whnf
 cases h
 conv=>whnf
 exact Side.mk ⟨rfl,trivial⟩ ⟨rfl,rfl⟩
 obtain ⟨h,b61d⟩:=cfd b61 h
 conv=>whnf
 refine Side.mk rfl ?_
 conv=>whnf
 refine Side.mk rfl ?_
 conv=>whnf
 refine Side.mk rfl ?_
 conv=>whnf
 refine Side.mk rfl ?_
 conv=>whnf
 refine Side.mk rfl ?_
 conv=>whnf
 refine Side.mk rfl ?_
 conv=>whnf
 refine Side.mk rfl ?_
 conv=>whnf
 refine Side.mk rfl ?_
 conv=>whnf
 refine Side.mk rfl ?_
 conv=>whnf
 refine Side.mk rfl ?_
 conv=>whnf
 refine Side.mk rfl ?_
 conv=>whnf
 refine Side.mk rfl ?_
 conv=>whnf
 obtain ⟨e62,he62z,he62,h⟩:=idx_some h
 refine ⟨_,⟨he62z,map_at he62,rfl⟩,?_⟩
 conv=>whnf
 obtain ⟨e63,he63z,he63,h⟩:=idx_some h
 refine ⟨_,⟨he63z,map_at he63,rfl⟩,?_⟩
 conv=>whnf
 refine Side.mk rfl ?_
 conv=>whnf
 refine Side.mk rfl ?_
 conv=>whnf
 refine Side.mk rfl ?_
 conv=>whnf
 refine Side.mk rfl ?_
 conv=>whnf
 refine Side.mk rfl ?_
 conv=>whnf
 refine Side.mk rfl ?_
 conv=>whnf
 refine Side.mk rfl ?_
 conv=>whnf
 refine Side.mk rfl ?_
 conv=>whnf
 refine Side.mk rfl ?_
 conv=>whnf
 refine Side.mk rfl ?_
 conv=>whnf
 refine Side.mk rfl ?_
 conv=>whnf
 refine Side.mk rfl ?_
 conv=>whnf
 obtain ⟨e64,he64z,he64,h⟩:=idx_some h
 refine ⟨_,⟨he64z,map_at he64,rfl⟩,?_⟩
 conv=>whnf
 obtain ⟨e65,he65z,he65,h⟩:=idx_some h
 refine ⟨_,⟨he65z,map_at he65,rfl⟩,?_⟩
 conv=>whnf
 refine Side.mk rfl ?_
 conv=>whnf
 refine Side.mk rfl ?_
 conv=>whnf
 refine Side.mk rfl ?_
 conv=>whnf
 refine Side.mk rfl ?_
 conv=>whnf
 refine Side.mk rfl ?_
 conv=>whnf
 refine Side.mk rfl ?_
 conv=>whnf
 refine Side.mk rfl ?_
 conv=>whnf
 refine Both.mk ?_ ?_<;>intro b66
 obtain ⟨h,b66d⟩:=ctd b66 h
 conv=>whnf
 refine Side.mk rfl ?_
 conv=>whnf
 refine Side.mk rfl ?_
 conv=>whnf
 refine Side.mk rfl ?_
 conv=>whnf
 cases h
 conv=>whnf
 exact Side.mk ⟨rfl,trivial⟩ ⟨rfl,rfl⟩
 obtain ⟨h,b66d⟩:=cfd b66 h
 conv=>whnf
 obtain ⟨y71,hc,hk68⟩:=bind_some h
 clear h
 have h:=hc
 clear hc
 refine Cut.mk (mkSt [(0,.own 0 0 0),(6,.own 156 1 0),(7,.im (nI c60.1)),(10,.im (nI e65)),(11,.own 157 1 0),(114,.im (nB y71))] [(0,.box 151 15),(156,.box 151 15),(157,.box 29 3)] [(0,0,.im (nI u_.Device.M.Inputs)),(0,1,.im (nI u_.Device.M.Start)),(0,2,.im (nL (cL cI) u_.Device.M.Next)),(0,3,.im (nL (cL cI) u_.Device.M.Out)),(0,4,.im (nI u_.Device.State)),(0,5,.im (nB u_.Device.Ready)),(0,6,.im (nL cI u_.Device.Latency.Step)),(0,7,.im (nI u_.Device.Latency.Reset)),(0,8,.im (nI u_.Device.Faults.Lost)),(0,9,.im (nI u_.Device.Faults.Wrong)),(0,10,.im (nI u_.Device.Faults.Crash)),(0,11,.im (nU u_.Device.Seed)),(0,12,.im (nI u_.Device.Steps)),(0,13,.im (nI u_.Device.Resets)),(0,14,.im (nI u_.Device.Time)),(156,0,.im (nI u_.Device.M.Inputs)),(156,1,.im (nI u_.Device.M.Start)),(156,2,.im (nL (cL cI) u_.Device.M.Next)),(156,3,.im (nL (cL cI) u_.Device.M.Out)),(156,4,.im (nI e63)),(156,5,.im (nB u_.Device.Ready)),(156,6,.im (nL cI u_.Device.Latency.Step)),(156,7,.im (nI u_.Device.Latency.Reset)),(156,8,.im (nI u_.Device.Faults.Lost)),(156,9,.im (nI u_.Device.Faults.Wrong)),(156,10,.im (nI u_.Device.Faults.Crash)),(156,11,.im (nU c60.2.1)),(156,12,.im (nI (u_.Device.Steps+1))),(156,13,.im (nI u_.Device.Resets)),(156,14,.im (nI (u_.Device.Time+e56))),(157,0,.im (nI u_.Device.Faults.Lost)),(157,1,.im (nI u_.Device.Faults.Wrong)),(157,2,.im (nI u_.Device.Faults.Crash))]) (lZ u_.Device.M.Next∧lZ u_.Device.M.Out∧lZ u_.Device.Latency.Step∧True) ((Holds.cel 0 2 rfl (by decide) rfl).and ((Holds.cel 0 3 rfl (by decide) rfl).and ((Holds.cel 0 6 rfl (by decide) rfl).and (hT)))) ?_ (fun hp=>?_)
 conv=>whnf
 refine Side.mk rfl ?_
 conv=>whnf
 refine Side.mk rfl ?_
 conv=>whnf
 refine Side.mk rfl ?_
 conv=>whnf
 refine Side.mk rfl ?_
 conv=>whnf
 obtain ⟨c72,h⟩:=chk_some h
 refine Arith.mk c72 ?_
 conv=>whnf
 refine Both.mk ?_ ?_<;>intro b73
 replace b73:=beq_tt b73
 obtain ⟨h,b73d⟩:=ctd b73 h
 conv=>whnf
 refine Both.yes (tt_beq b73) ?_
 conv=>whnf
 refine Both.yes b73 ?_
 conv=>whnf
 cases h
 exact Join.mk (eA [(0,some 0),(156,some 6),(157,some 11)])
 replace b73:=beq_tf b73
 obtain ⟨h,b73d⟩:=cfd b73 h
 conv=>whnf
 refine Both.no (ft_beq b73) ?_
 conv=>whnf
 refine Both.no b73 ?_
 conv=>whnf
 cases h
 exact Join.mk (eA [(0,some 0),(156,some 6),(157,some 11)])
 replace h:=hk68
 obtain ⟨z74,z75,z76,_⟩:=hp
 conv=>whnf
 refine Both.mk ?_ ?_<;>intro b77
 replace h:=cond_t b77 h
 conv=>whnf
 obtain ⟨c78,h⟩:=chk_some h
 refine Arith.mk c78 ?_
 conv=>whnf
 refine Side.mk rfl ?_
 conv=>whnf
 refine Side.mk rfl ?_
 conv=>whnf
 refine Side.mk rfl ?_
 conv=>whnf
 cases h
 conv=>whnf
 exact Side.mk ⟨rfl,trivial⟩ ⟨rfl,rfl⟩
 replace h:=cond_f b77 h
 conv=>whnf
 refine Side.mk rfl ?_
 conv=>whnf
 refine Side.mk rfl ?_
 conv=>whnf
 refine Side.mk rfl ?_
 conv=>whnf
 refine Side.mk rfl ?_
 conv=>whnf
 obtain ⟨c79,h⟩:=chk_some h
 refine Arith.mk c79 ?_
 conv=>whnf
 refine Both.mk ?_ ?_<;>intro b80
 obtain ⟨h,b80d⟩:=ctd b80 h
 conv=>whnf
 obtain ⟨c81,h⟩:=chk_some h
 refine Arith.mk c81 ?_
 conv=>whnf
 refine Side.mk rfl ?_
 conv=>whnf
 refine Side.mk rfl ?_
 conv=>whnf
 refine Side.mk rfl ?_
 conv=>whnf
 cases h
 conv=>whnf
 exact Side.mk ⟨rfl,trivial⟩ ⟨rfl,rfl⟩
 obtain ⟨h,b80d⟩:=cfd b80 h
 conv=>whnf
 refine Side.mk rfl ?_
 conv=>whnf
 refine Side.mk rfl ?_
 conv=>whnf
 refine Side.mk rfl ?_
 conv=>whnf
 refine Side.mk rfl ?_
 conv=>whnf
 obtain ⟨c82,h⟩:=chk_some h
 refine Arith.mk c82 ?_
 conv=>whnf
 refine Side.mk rfl ?_
 conv=>whnf
 refine Side.mk rfl ?_
 conv=>whnf
 obtain ⟨c83,h⟩:=chk_some h
 refine Arith.mk c83 ?_
 conv=>whnf
 refine Both.mk ?_ ?_<;>intro b84
 obtain ⟨h,b84d⟩:=ctd b84 h
 conv=>whnf
 refine Side.mk rfl ?_
 conv=>whnf
 refine Side.mk rfl ?_
 conv=>whnf
 refine Side.mk rfl ?_
 conv=>whnf
 refine Side.mk rfl ?_
 conv=>whnf
 refine Side.mk rfl ?_
 conv=>whnf
 refine Side.mk rfl ?_
 conv=>whnf
 cases h
 conv=>whnf
 exact Side.mk ⟨rfl,trivial⟩ ⟨rfl,rfl⟩
 obtain ⟨h,b84d⟩:=cfd b84 h
 conv=>whnf
 refine Side.mk rfl ?_
 conv=>whnf
 refine Side.mk rfl ?_
 conv=>whnf
 refine Side.mk rfl ?_
 conv=>whnf
 cases h
 conv=>whnf
 exact Side.mk ⟨rfl,trivial⟩ ⟨rfl,rfl⟩
end Go.Proofs.YtcneaiejdidooaaGreatDoor.Sym

/-
  The contracts of the functions, read from the code by a program (ext.py): each function has its plain twin as its contract.
-/
namespace Go.Proofs.YtcneaiejdidooaaGreatDoor.Sym
open Go.RowKit
set_option maxRecDepth 100000
set_option linter.unusedVariables false
set_option maxHeartbeats 4000000
theorem zll (d_:zaf) (w_:List Int) (r:zaf×List Int×Int) (h:Ok (.agg (zb2 d_))→Ok (nL cI w_)→zbc d_ w_=some r):Sp Tryz.prog 69 [.im (.agg (zb2 d_)),.im (nL cI w_)] (.tup [.agg (zb2 r.1),nL cI r.2.1,nI r.2.2]):=by
 refine sp_of rfl [37000,55000,700002] rfl rfl rfl (Nat.le_of_ble_eq_true rfl) rfl fun hk=>?_
 replace h:=h hk.1 hk.2.1
 have z1:lZ d_.M.Next:=ok_len (Ok.agg_at hk.1 2 rfl)
 have z2:lZ d_.M.Out:=ok_len (Ok.agg_at hk.1 3 rfl)
 have z3:lZ d_.Latency.Step:=ok_len (Ok.agg_at hk.1 6 rfl)
 have z4:lZ w_:=ok_len hk.2.1
 unfold zbc at h
 conv=>whnf
 obtain ⟨c51,hc51,h⟩:=bind_some h
 refine ⟨_,(zkg d_ c51 (fun _=>hc51)),?_⟩
 conv=>whnf
 refine Both.mk ?_ ?_<;>intro b52
 obtain ⟨h,b52d⟩:=ctd b52 h
 conv=>whnf
 refine Side.mk rfl ?_
 conv=>whnf
 cases h
 conv=>whnf
 refine Side.mk ⟨rfl,trivial⟩ ?_
 conv=>whnf
 exact ⟨rfl,rfl⟩
 obtain ⟨h,b52d⟩:=cfd b52 h
 conv=>whnf
 obtain ⟨c53,hc53,h⟩:=bind_some h
 refine ⟨_,(zdb w_ d_.M.Inputs c53 (fun _ _=>hc53)),?_⟩
 conv=>whnf
 refine Both.mk ?_ ?_<;>intro b54
 obtain ⟨h,b54d⟩:=ctd b54 h
 conv=>whnf
 refine Side.mk rfl ?_
 conv=>whnf
 cases h
 conv=>whnf
 refine Side.mk ⟨rfl,trivial⟩ ?_
 conv=>whnf
 exact ⟨rfl,rfl⟩
 obtain ⟨h,b54d⟩:=cfd b54 h
 conv=>whnf
 obtain ⟨c55,hc55,h⟩:=bind_some h
 refine ⟨_,(zj5 d_ c55 (fun _=>hc55)),?_⟩
 conv=>whnf
 refine Side.mk ⟨rfl,trivial⟩ ?_
 conv=>whnf
 obtain ⟨c56,hc56,h⟩:=bind_some h
 refine ⟨_,(zhs (⟨c55⟩:zar) c56 (fun _=>hc56)),?_⟩
 conv=>whnf
 refine Both.mk ?_ ?_<;>intro b57
 obtain ⟨h,b57d⟩:=ctd b57 h
 conv=>whnf
 refine Side.mk rfl ?_
 conv=>whnf
 cases h
 conv=>whnf
 refine Side.mk ⟨rfl,trivial⟩ ?_
 conv=>whnf
 exact ⟨rfl,rfl⟩
 obtain ⟨h,b57d⟩:=cfd b57 h
 conv=>whnf
 refine Nf.mk (List.length w_) len_map ?_
 conv=>whnf
 obtain ⟨c58,h⟩:=chk_some h
 refine Side.mk c58 ?_
 conv=>whnf
 refine Nf.mk (List.map cI []) rfl ?_
 conv=>whnf
 refine Nf.mk (List.length w_) len_map ?_
 conv=>whnf
 obtain ⟨oc,hc,hk59⟩:=bind_some h
 clear h
 have h:=hc
 clear hc
 refine Cut.mkS oc (Y:=Int×Int×List (List Int)×List (List Int)×Int×Bool×List Int×Int×Int×Int×Int×Int×Int×Int×Int×List Int) (fun (y137,y138,y139,y140,y141,y142,y143,y144,y145,y146,y147,y148,y149,y150,y151,y152)=>mkSt [(4,.own 95 1 0),(9,.own 96 1 0),(11,.osl 97 1)] [(95,.box 32 15),(96,.box 151 15),(97,.row 3 1 (List.map cI y152))] [(95,0,.im (nI 0)),(95,1,.im (nI 0)),(95,2,.im (.val (.slice none 0 0))),(95,3,.im (.val (.slice none 0 0))),(95,4,.im (nI 0)),(95,5,.im (nB false)),(95,6,.im (.val (.slice none 0 0))),(95,7,.im (nI 0)),(95,8,.im (nI 0)),(95,9,.im (nI 0)),(95,10,.im (nI 0)),(95,11,.im (nU 0)),(95,12,.im (nI 0)),(95,13,.im (nI 0)),(95,14,.im (nI 0)),(96,0,.im (nI y137)),(96,1,.im (nI y138)),(96,2,.im (nL (cL cI) y139)),(96,3,.im (nL (cL cI) y140)),(96,4,.im (nI y141)),(96,5,.im (nB y142)),(96,6,.im (nL cI y143)),(96,7,.im (nI y144)),(96,8,.im (nI y145)),(96,9,.im (nI y146)),(96,10,.im (nI y147)),(96,11,.im (nU y148)),(96,12,.im (nI y149)),(96,13,.im (nI y150)),(96,14,.im (nI y151))]) (fun (y137,y138,y139,y140,y141,y142,y143,y144,y145,y146,y147,y148,y149,y150,y151,y152)=>lZ y139∧lZ y140∧lZ y143∧lZ y152∧True) (by rintro ⟨y137,y138,y139,y140,y141,y142,y143,y144,y145,y146,y147,y148,y149,y150,y151,y152⟩;exact ((Holds.cel 96 2 rfl (by decide) rfl).and ((Holds.cel 96 3 rfl (by decide) rfl).and ((Holds.cel 96 6 rfl (by decide) rfl).and ((Holds.kdl 97 rfl).and (hT)))))) ?_ ?_
 conv=>whnf
 refine Loops.iter (fun (s:Int×Int×List (List Int)×List (List Int)×Int×Bool×List Int×Int×Int×Int×Int×Int×Int×Int×Int×List Int×Nat)=>zbc.s2 w_ s.1 s.2.1 s.2.2.1 s.2.2.2.1 s.2.2.2.2.1 s.2.2.2.2.2.1 s.2.2.2.2.2.2.1 s.2.2.2.2.2.2.2.1 s.2.2.2.2.2.2.2.2.1 s.2.2.2.2.2.2.2.2.2.1 s.2.2.2.2.2.2.2.2.2.2.1 s.2.2.2.2.2.2.2.2.2.2.2.1 s.2.2.2.2.2.2.2.2.2.2.2.2.1 s.2.2.2.2.2.2.2.2.2.2.2.2.2.1 s.2.2.2.2.2.2.2.2.2.2.2.2.2.2.1 s.2.2.2.2.2.2.2.2.2.2.2.2.2.2.2.1 s.2.2.2.2.2.2.2.2.2.2.2.2.2.2.2.2) (fun (y171,y172,y173,y174,y175,y176,y177,y178,y179,y180,y181,y182,y183,y184,y185,y186,y187)=>mkSt [(1,.im (nL cI w_)),(4,.own 95 1 0),(9,.own 96 1 0),(11,.osl 97 1),(44,.im (nL cI w_)),(45,.im (nI (↑(List.length w_):Int))),(46,.im (nI (↑y187:Int)))] [(95,.box 32 15),(96,.box 151 15),(97,.row 3 1 (List.map cI y186))] [(95,0,.im (nI 0)),(95,1,.im (nI 0)),(95,2,.im (.val (.slice none 0 0))),(95,3,.im (.val (.slice none 0 0))),(95,4,.im (nI 0)),(95,5,.im (nB false)),(95,6,.im (.val (.slice none 0 0))),(95,7,.im (nI 0)),(95,8,.im (nI 0)),(95,9,.im (nI 0)),(95,10,.im (nI 0)),(95,11,.im (nU 0)),(95,12,.im (nI 0)),(95,13,.im (nI 0)),(95,14,.im (nI 0)),(96,0,.im (nI y171)),(96,1,.im (nI y172)),(96,2,.im (nL (cL cI) y173)),(96,3,.im (nL (cL cI) y174)),(96,4,.im (nI y175)),(96,5,.im (nB y176)),(96,6,.im (nL cI y177)),(96,7,.im (nI y178)),(96,8,.im (nI y179)),(96,9,.im (nI y180)),(96,10,.im (nI y181)),(96,11,.im (nU y182)),(96,12,.im (nI y183)),(96,13,.im (nI y184)),(96,14,.im (nI y185))]) (fun (y171,y172,y173,y174,y175,y176,y177,y178,y179,y180,y181,y182,y183,y184,y185,y186,y187)=>lZ w_∧lZ y173∧lZ y174∧lZ y177∧lZ y186∧True) h (eA [(95,some 4),(96,some 34),(97,some 43)]) (by rintro ⟨y171,y172,y173,y174,y175,y176,y177,y178,y179,y180,y181,y182,y183,y184,y185,y186,y187⟩;exact ((Holds.avl 1 rfl).and ((Holds.cel 96 2 rfl (by decide) rfl).and ((Holds.cel 96 3 rfl (by decide) rfl).and ((Holds.cel 96 6 rfl (by decide) rfl).and ((Holds.kdl 97 rfl).and (hT))))))) ?_
 clear h
 rintro k ⟨y171,y172,y173,y174,y175,y176,y177,y178,y179,y180,y181,y182,y183,y184,y185,y186,y187⟩ o hp h ho206
 replace h:zbc.s2 w_ y171 y172 y173 y174 y175 y176 y177 y178 y179 y180 y181 y182 y183 y184 y185 y186 y187=some o:=h
 unfold zbc.s2 at h
 obtain ⟨z225,z226,z227,z228,z229,_⟩:=hp
 conv=>whnf
 refine Both.mk ?_ ?_<;>intro b207
 obtain ⟨h,b207d⟩:=ctd b207 h
 conv=>whnf
 obtain ⟨e208,he208,h⟩:=zaj h
 refine ⟨_,⟨(by omega),map_at he208,rfl⟩,?_⟩
 conv=>whnf
 refine Side.mk ⟨rfl,trivial⟩ ?_
 conv=>whnf
 obtain ⟨c209,hc209,h⟩:=bind_some h
 refine ⟨_,(zh6 (⟨(⟨(⟨y171,y172,y173,y174⟩:zab),y175,y176,(⟨y177,y178⟩:zav),(⟨y179,y180,y181⟩:zbg),y182,y183,y184,y185⟩:zaf)⟩:zar) e208 c209 (fun _ _=>hc209)),?_⟩
 conv=>whnf
 refine Both.mk ?_ ?_<;>intro b210
 obtain ⟨h,b210d⟩:=ctd b210 h
 conv=>whnf
 refine Side.mk rfl ?_
 conv=>whnf
 refine Side.mk rfl ?_
 conv=>whnf
 refine Side.mk rfl ?_
 conv=>whnf
 refine Side.mk rfl ?_
 conv=>whnf
 cases h
 have ho206:_=_:=ho206
 cases ho206
 replace h:some _=some _:=hk59
 cases h
 conv=>whnf
 refine Side.mk ⟨rfl,trivial⟩ ?_
 conv=>whnf
 exact ⟨rfl,rfl⟩
 obtain ⟨h,b210d⟩:=cfd b210 h
 conv=>whnf
 obtain ⟨y215,hc,hk212⟩:=bind_some h
 clear h
 have h:=hc
 clear hc
 refine Cut.mk (mkSt [(1,.im (nL cI w_)),(4,.own 95 1 0),(9,.own 96 1 0),(11,.osl 97 1),(14,.im (nI c209.1)),(44,.im (nL cI w_)),(45,.im (nI (↑(List.length w_):Int))),(46,.im (nI (↑y187:Int))),(80,.im (nB y215))] [(95,.box 32 15),(96,.box 151 15),(97,.row 3 1 (List.map cI y186))] [(95,0,.im (nI 0)),(95,1,.im (nI 0)),(95,2,.im (.val (.slice none 0 0))),(95,3,.im (.val (.slice none 0 0))),(95,4,.im (nI 0)),(95,5,.im (nB false)),(95,6,.im (.val (.slice none 0 0))),(95,7,.im (nI 0)),(95,8,.im (nI 0)),(95,9,.im (nI 0)),(95,10,.im (nI 0)),(95,11,.im (nU 0)),(95,12,.im (nI 0)),(95,13,.im (nI 0)),(95,14,.im (nI 0)),(96,0,.im (nI c209.2.2.Device.M.Inputs)),(96,1,.im (nI c209.2.2.Device.M.Start)),(96,2,.im (nL (cL cI) c209.2.2.Device.M.Next)),(96,3,.im (nL (cL cI) c209.2.2.Device.M.Out)),(96,4,.im (nI c209.2.2.Device.State)),(96,5,.im (nB c209.2.2.Device.Ready)),(96,6,.im (nL cI c209.2.2.Device.Latency.Step)),(96,7,.im (nI c209.2.2.Device.Latency.Reset)),(96,8,.im (nI c209.2.2.Device.Faults.Lost)),(96,9,.im (nI c209.2.2.Device.Faults.Wrong)),(96,10,.im (nI c209.2.2.Device.Faults.Crash)),(96,11,.im (nU c209.2.2.Device.Seed)),(96,12,.im (nI c209.2.2.Device.Steps)),(96,13,.im (nI c209.2.2.Device.Resets)),(96,14,.im (nI c209.2.2.Device.Time))]) (lZ w_∧lZ c209.2.2.Device.M.Next∧lZ c209.2.2.Device.M.Out∧lZ c209.2.2.Device.Latency.Step∧lZ y186∧True) ((Holds.avl 1 rfl).and ((Holds.cel 96 2 rfl (by decide) rfl).and ((Holds.cel 96 3 rfl (by decide) rfl).and ((Holds.cel 96 6 rfl (by decide) rfl).and ((Holds.kdl 97 rfl).and (hT)))))) ?_ (fun hp=>?_)
 conv=>whnf
 refine Both.mk ?_ ?_<;>intro b216
 replace b216:=beq_ff b216
 obtain ⟨h,b216d⟩:=cfd b216 h
 conv=>whnf
 refine Both.yes (ff_beq b216) ?_
 conv=>whnf
 refine Side.mk rfl ?_
 conv=>whnf
 refine Both.yes (ff_beq b216) ?_
 conv=>whnf
 refine Side.mk rfl ?_
 conv=>whnf
 refine Both.yes (ff_beq b216) ?_
 conv=>whnf
 refine Side.mk rfl ?_
 conv=>whnf
 refine Both.yes (ff_beq b216) ?_
 conv=>whnf
 refine Side.mk rfl ?_
 conv=>whnf
 iterate 2 (refine Both.yes (ff_beq b216) ?_;(conv=>whnf))
 refine Both.mk ?_ ?_<;>intro b217
 replace b217:=beq_tt b217
 replace h:=cond_t b217 h
 conv=>whnf
 refine Both.yes (tt_beq b217) ?_
 conv=>whnf
 refine Arith.mk (by show inR _;unfold inR;omega) ?_
 conv=>whnf
 iterate 2 (refine Both.yes (tt_beq b217) ?_;(conv=>whnf))
 refine Nf.mk (List.length w_) len_map ?_
 conv=>whnf
 refine Both.yes (tt_beq b217) ?_
 conv=>whnf
 refine Both.yes (ff_beq b216) ?_
 conv=>whnf
 refine Both.yes b217 ?_
 conv=>whnf
 refine Both.no b216 ?_
 conv=>whnf
 cases h
 exact Join.mk (eA [(95,some 95),(96,some 96),(97,some 97)])
 replace b217:=beq_tf b217
 replace h:=cond_f b217 h
 conv=>whnf
 iterate 4 (refine Both.no (ft_beq b217) ?_;(conv=>whnf))
 refine Both.yes (ff_beq b216) ?_
 conv=>whnf
 refine Both.no b217 ?_
 conv=>whnf
 refine Both.no b216 ?_
 conv=>whnf
 cases h
 exact Join.mk (eA [(95,some 95),(96,some 96),(97,some 97)])
 replace b216:=beq_ft b216
 obtain ⟨h,b216d⟩:=ctd b216 h
 conv=>whnf
 iterate 7 (refine Both.no (tf_beq b216) ?_;(conv=>whnf))
 refine Both.yes b216 ?_
 conv=>whnf
 cases h
 exact Join.mk (eA [(95,some 95),(96,some 96),(97,some 97)])
 replace h:=hk212
 obtain ⟨z218,z219,z220,z221,z222,_⟩:=hp
 conv=>whnf
 refine Both.mk ?_ ?_<;>intro b223
 replace h:=cond_t b223 h
 conv=>whnf
 refine Side.mk rfl ?_
 conv=>whnf
 refine Side.mk rfl ?_
 conv=>whnf
 refine Side.mk rfl ?_
 conv=>whnf
 refine Side.mk rfl ?_
 conv=>whnf
 cases h
 have ho206:_=_:=ho206
 cases ho206
 replace h:some _=some _:=hk59
 cases h
 conv=>whnf
 refine Side.mk ⟨rfl,trivial⟩ ?_
 conv=>whnf
 exact ⟨rfl,rfl⟩
 replace h:=cond_f b223 h
 conv=>whnf
 obtain ⟨c224,h⟩:=chk_some h
 refine Side.mk ⟨rfl,map_len (l:=[c209.1]) (c:=cI) fun _=>rfl,show capOk _ 8 by simpa only [List.length_map,List.length_cons,List.length_nil,Nat.zero_add] using c224⟩ ?_
 conv=>whnf
 refine Nf.mk (List.map cI (y186++[c209.1])) (app_map (l:=y186) (m:=[c209.1]) (c:=cI)) ?_
 conv=>whnf
 refine Arith.mk (by show inR _;unfold inR;omega) ?_
 conv=>whnf
 cases h
 exact Nxt.mk _ ho206 (eA [(95,some 95),(96,some 96),(97,some 97)])
 obtain ⟨h,b207d⟩:=cfd b207 h
 conv=>whnf
 cases h
 have ho206:_=_:=ho206
 cases ho206
 exact JoinS.mk' _ rfl (eA [(95,some 95),(96,some 96),(97,some 97)])
 rintro ⟨y137,y138,y139,y140,y141,y142,y143,y144,y145,y146,y147,y148,y149,y150,y151,y152⟩ rfl hp
 have hx_:=sum_inl hk59
 replace h:zbc.k3 y137 y138 y139 y140 y141 y142 y143 y144 y145 y146 y147 y148 y149 y150 y151 y152=some _:=hx_
 clear hx_
 unfold zbc.k3 at h
 obtain ⟨z230,z231,z232,z233,_⟩:=hp
 conv=>whnf
 refine Side.mk rfl ?_
 conv=>whnf
 refine Side.mk rfl ?_
 conv=>whnf
 refine Side.mk rfl ?_
 conv=>whnf
 refine Side.mk rfl ?_
 conv=>whnf
 cases h
 conv=>whnf
 refine Side.mk ⟨rfl,trivial⟩ ?_
 conv=>whnf
 exact Side.mk ⟨rfl,trivial⟩ ⟨rfl,rfl⟩
theorem zh2 (l_:List (List Int)) (r:List (List Int)) (h:Ok (nL (cL cI) l_)→zcd l_=some r):Sp Tryz.prog 95 [.im (nL (cL cI) l_)] (.row 25 1 (List.map (cL cI) r)):=by
 refine sp_of rfl [] rfl rfl rfl (Nat.le_of_ble_eq_true rfl) rfl fun hk=>?_
 replace h:=h hk.1
 have z1:lZ l_:=ok_len hk.1
 unfold zcd at h
 conv=>whnf
 refine Nf.mk (List.length l_) len_map ?_
 conv=>whnf
 obtain ⟨y68,hc,hk51⟩:=bind_some h
 clear h
 have h:=hc
 clear hc
 refine Cut.mk (mkSt [(3,.osl 64 1)] [(64,.row 25 1 (List.map (cL cI) y68))] []) (lZ y68∧True) ((Holds.kdl 64 rfl).and (hT)) ?_ (fun hp=>?_)
 conv=>whnf
 refine Loops.iter (fun (s:List (List Int)×Nat)=>zcd.s2 l_ s.1 s.2) (fun (y72,y73)=>mkSt [(3,.osl 64 1),(6,.im (nL (cL cI) l_)),(7,.im (nI (↑(List.length l_):Int))),(8,.im (nI (↑y73:Int)))] [(64,.row 25 1 (List.map (cL cI) y72))] []) (fun (y72,y73)=>lZ l_∧lZ y72∧True) h (eA [(64,none)]) (by rintro ⟨y72,y73⟩;exact ((Holds.avl 6 rfl).and ((Holds.kdl 64 rfl).and (hT)))) ?_
 clear h
 rintro k ⟨y72,y73⟩ o hp h ho78
 replace h:zcd.s2 l_ y72 y73=some o:=h
 unfold zcd.s2 at h
 obtain ⟨z83,z84,_⟩:=hp
 conv=>whnf
 refine Both.mk ?_ ?_<;>intro b79
 obtain ⟨h,b79d⟩:=ctd b79 h
 conv=>whnf
 obtain ⟨e80,he80,h⟩:=zaj h
 refine ⟨_,⟨(by omega),map_at he80,rfl⟩,?_⟩
 conv=>whnf
 obtain ⟨c81,hc81,h⟩:=bind_some h
 refine ⟨_,(za4 e80 c81 (hc81)).im,?_⟩
 conv=>whnf
 obtain ⟨c82,h⟩:=chk_some h
 refine Side.mk ⟨rfl,map_len (l:=[c81]) (c:=cL cI) fun _=>rfl,show capOk _ 24 by simpa only [List.length_map,List.length_cons,List.length_nil,Nat.zero_add] using c82⟩ ?_
 conv=>whnf
 refine Nf.mk (List.map (cL cI) (y72++[c81])) (app_map (l:=y72) (m:=[c81]) (c:=cL cI)) ?_
 conv=>whnf
 refine Arith.mk (by show inR _;unfold inR;omega) ?_
 conv=>whnf
 cases h
 exact Nxt.mk _ ho78 (eA [(64,some 64)])
 obtain ⟨h,b79d⟩:=cfd b79 h
 conv=>whnf
 cases h
 have ho78:_=_:=ho78
 cases ho78
 exact Join.mk (eA [(64,some 64)])
 replace h:=hk51
 obtain ⟨z85,_⟩:=hp
 conv=>whnf
 cases h
 conv=>whnf
 exact Side.mk ⟨rfl,trivial⟩ ⟨rfl,rfl⟩
theorem zkd (q_:zae) (r:zae) (h:Ok (.agg (zbj q_))→zbx q_=some r):Sp Tryz.prog 52 [.im (.agg (zbj q_))] (.im (.agg (zbj r))):=by
 refine sp_of rfl [] rfl rfl rfl (Nat.le_of_ble_eq_true rfl) rfl fun hk=>?_
 replace h:=h hk.1
 have z1:lZ q_.Device.M.Next:=ok_len (Ok.agg_at hk.1 2 rfl)
 have z2:lZ q_.Device.M.Out:=ok_len (Ok.agg_at hk.1 3 rfl)
 have z3:lZ q_.Device.Latency.Step:=ok_len (Ok.agg_at hk.1 6 rfl)
 have z4:lZ q_.Obs.Traces:=ok_len (Ok.agg_at hk.1 16 rfl)
 unfold zbx at h
 conv=>whnf
 refine Side.mk rfl ?_
 conv=>whnf
 refine Side.mk rfl ?_
 conv=>whnf
 refine Side.mk rfl ?_
 conv=>whnf
 refine Side.mk rfl ?_
 conv=>whnf
 refine Side.mk rfl ?_
 conv=>whnf
 obtain ⟨c51,hc51,h⟩:=bind_some h
 refine ⟨_,(zh2 q_.Device.M.Next c51 (fun _=>hc51)).im,?_⟩
 conv=>whnf
 refine Side.mk rfl ?_
 conv=>whnf
 refine Side.mk rfl ?_
 conv=>whnf
 refine Side.mk rfl ?_
 conv=>whnf
 obtain ⟨c52,hc52,h⟩:=bind_some h
 refine ⟨_,(zh2 q_.Device.M.Out c52 (fun _=>hc52)).im,?_⟩
 conv=>whnf
 refine Side.mk rfl ?_
 conv=>whnf
 refine Side.mk rfl ?_
 conv=>whnf
 refine Side.mk rfl ?_
 conv=>whnf
 refine Side.mk rfl ?_
 conv=>whnf
 refine Side.mk rfl ?_
 conv=>whnf
 refine Side.mk rfl ?_
 conv=>whnf
 refine Side.mk rfl ?_
 conv=>whnf
 refine Side.mk rfl ?_
 conv=>whnf
 refine Side.mk rfl ?_
 conv=>whnf
 refine Side.mk rfl ?_
 conv=>whnf
 obtain ⟨c53,hc53,h⟩:=bind_some h
 refine ⟨_,(za4 q_.Device.Latency.Step c53 (hc53)).im,?_⟩
 conv=>whnf
 refine Side.mk rfl ?_
 conv=>whnf
 refine Side.mk rfl ?_
 conv=>whnf
 refine Side.mk rfl ?_
 conv=>whnf
 refine Side.mk rfl ?_
 conv=>whnf
 refine Side.mk rfl ?_
 conv=>whnf
 refine Side.mk rfl ?_
 conv=>whnf
 refine Side.mk rfl ?_
 conv=>whnf
 refine Nf.mk (List.length q_.Obs.Traces) len_map ?_
 conv=>whnf
 obtain ⟨y77,hc,hk54⟩:=bind_some h
 clear h
 have h:=hc
 clear hc
 refine Cut.mk (mkSt [(1,.own 64 1 0),(2,.own 65 1 0),(4,.osl 66 1)] [(64,.box 37 21),(65,.box 37 21),(66,.row 55 2 (List.map zac y77))] [(64,0,.im (nI q_.Device.M.Inputs)),(64,1,.im (nI q_.Device.M.Start)),(64,2,.im (nL (cL cI) c51)),(64,3,.im (nL (cL cI) c52)),(64,4,.im (nI q_.Device.State)),(64,5,.im (nB q_.Device.Ready)),(64,6,.im (nL cI c53)),(64,7,.im (nI q_.Device.Latency.Reset)),(64,8,.im (nI q_.Device.Faults.Lost)),(64,9,.im (nI q_.Device.Faults.Wrong)),(64,10,.im (nI q_.Device.Faults.Crash)),(64,11,.im (nU q_.Device.Seed)),(64,12,.im (nI q_.Device.Steps)),(64,13,.im (nI q_.Device.Resets)),(64,14,.im (nI q_.Device.Time)),(64,15,.im (nI q_.Obs.Inputs)),(64,16,.im (nL zac q_.Obs.Traces)),(64,17,.im (nI q_.Votes)),(64,18,.im (nI q_.Tries)),(64,19,.im (nI q_.Asked)),(64,20,.im (nI q_.Hits)),(65,0,.im (nI 0)),(65,1,.im (nI 0)),(65,2,.im (.val (.slice none 0 0))),(65,3,.im (.val (.slice none 0 0))),(65,4,.im (nI 0)),(65,5,.im (nB false)),(65,6,.im (.val (.slice none 0 0))),(65,7,.im (nI 0)),(65,8,.im (nI 0)),(65,9,.im (nI 0)),(65,10,.im (nI 0)),(65,11,.im (nU 0)),(65,12,.im (nI 0)),(65,13,.im (nI 0)),(65,14,.im (nI 0)),(65,15,.im (nI 0)),(65,16,.im (.val (.slice none 0 0))),(65,17,.im (nI 0)),(65,18,.im (nI 0)),(65,19,.im (nI 0)),(65,20,.im (nI 0))]) (lZ c51∧lZ c52∧lZ c53∧lZ q_.Obs.Traces∧lZ y77∧True) ((Holds.cel 64 2 rfl (by decide) rfl).and ((Holds.cel 64 3 rfl (by decide) rfl).and ((Holds.cel 64 6 rfl (by decide) rfl).and ((Holds.cel 64 16 rfl (by decide) rfl).and ((Holds.kdl 66 rfl).and (hT)))))) ?_ (fun hp=>?_)
 conv=>whnf
 refine Loops.iter (fun (s:List zaa×Nat)=>zbx.s2 q_ s.1 s.2) (fun (y82,y83)=>mkSt [(1,.own 64 1 0),(2,.own 65 1 0),(4,.osl 66 1),(35,.im (nL zac q_.Obs.Traces)),(36,.im (nI (↑(List.length q_.Obs.Traces):Int))),(37,.im (nI (↑y83:Int)))] [(64,.box 37 21),(65,.box 37 21),(66,.row 55 2 (List.map zac y82))] [(64,0,.im (nI q_.Device.M.Inputs)),(64,1,.im (nI q_.Device.M.Start)),(64,2,.im (nL (cL cI) c51)),(64,3,.im (nL (cL cI) c52)),(64,4,.im (nI q_.Device.State)),(64,5,.im (nB q_.Device.Ready)),(64,6,.im (nL cI c53)),(64,7,.im (nI q_.Device.Latency.Reset)),(64,8,.im (nI q_.Device.Faults.Lost)),(64,9,.im (nI q_.Device.Faults.Wrong)),(64,10,.im (nI q_.Device.Faults.Crash)),(64,11,.im (nU q_.Device.Seed)),(64,12,.im (nI q_.Device.Steps)),(64,13,.im (nI q_.Device.Resets)),(64,14,.im (nI q_.Device.Time)),(64,15,.im (nI q_.Obs.Inputs)),(64,16,.im (nL zac q_.Obs.Traces)),(64,17,.im (nI q_.Votes)),(64,18,.im (nI q_.Tries)),(64,19,.im (nI q_.Asked)),(64,20,.im (nI q_.Hits)),(65,0,.im (nI 0)),(65,1,.im (nI 0)),(65,2,.im (.val (.slice none 0 0))),(65,3,.im (.val (.slice none 0 0))),(65,4,.im (nI 0)),(65,5,.im (nB false)),(65,6,.im (.val (.slice none 0 0))),(65,7,.im (nI 0)),(65,8,.im (nI 0)),(65,9,.im (nI 0)),(65,10,.im (nI 0)),(65,11,.im (nU 0)),(65,12,.im (nI 0)),(65,13,.im (nI 0)),(65,14,.im (nI 0)),(65,15,.im (nI 0)),(65,16,.im (.val (.slice none 0 0))),(65,17,.im (nI 0)),(65,18,.im (nI 0)),(65,19,.im (nI 0)),(65,20,.im (nI 0))]) (fun (y82,y83)=>lZ q_.Obs.Traces∧lZ c51∧lZ c52∧lZ c53∧lZ y82∧True) h (eA [(64,some 1),(65,some 2),(66,none)]) (by rintro ⟨y82,y83⟩;exact ((Holds.avl 35 rfl).and ((Holds.cel 64 2 rfl (by decide) rfl).and ((Holds.cel 64 3 rfl (by decide) rfl).and ((Holds.cel 64 6 rfl (by decide) rfl).and ((Holds.kdl 66 rfl).and (hT))))))) ?_
 clear h
 rintro k ⟨y82,y83⟩ o hp h ho89
 replace h:zbx.s2 q_ y82 y83=some o:=h
 unfold zbx.s2 at h
 obtain ⟨z95,z96,z97,z98,z99,_⟩:=hp
 conv=>whnf
 refine Both.mk ?_ ?_<;>intro b90
 obtain ⟨h,b90d⟩:=ctd b90 h
 conv=>whnf
 obtain ⟨e91,he91,h⟩:=zaj h
 refine ⟨_,⟨(by omega),map_at he91,rfl⟩,?_⟩
 conv=>whnf
 refine Side.mk rfl ?_
 conv=>whnf
 refine Side.mk rfl ?_
 conv=>whnf
 refine Side.mk rfl ?_
 conv=>whnf
 obtain ⟨c92,hc92,h⟩:=bind_some h
 refine ⟨_,(za4 e91.In c92 (hc92)).im,?_⟩
 conv=>whnf
 refine Side.mk rfl ?_
 conv=>whnf
 refine Side.mk rfl ?_
 conv=>whnf
 obtain ⟨c93,hc93,h⟩:=bind_some h
 refine ⟨_,(za4 e91.Out c93 (hc93)).im,?_⟩
 conv=>whnf
 obtain ⟨c94,h⟩:=chk_some h
 refine Side.mk ⟨rfl,map_len (l:=[(⟨c92,c93⟩:zaa)]) (c:=zac) fun _=>rfl,show capOk _ 48 by simpa only [List.length_map,List.length_cons,List.length_nil,Nat.zero_add] using c94⟩ ?_
 conv=>whnf
 refine Nf.mk (List.map zac (y82++[(⟨c92,c93⟩:zaa)])) (app_map (l:=y82) (m:=[(⟨c92,c93⟩:zaa)]) (c:=zac)) ?_
 conv=>whnf
 refine Arith.mk (by show inR _;unfold inR;omega) ?_
 conv=>whnf
 cases h
 exact Nxt.mk _ ho89 (eA [(64,some 64),(65,some 65),(66,some 66)])
 obtain ⟨h,b90d⟩:=cfd b90 h
 conv=>whnf
 cases h
 have ho89:_=_:=ho89
 cases ho89
 exact Join.mk (eA [(64,some 64),(65,some 65),(66,some 66)])
 replace h:=hk54
 obtain ⟨z100,z101,z102,z103,z104,_⟩:=hp
 conv=>whnf
 refine Side.mk rfl ?_
 conv=>whnf
 refine Side.mk rfl ?_
 conv=>whnf
 refine Side.mk rfl ?_
 conv=>whnf
 refine Side.mk rfl ?_
 conv=>whnf
 refine Side.mk rfl ?_
 conv=>whnf
 cases h
 conv=>whnf
 refine Side.mk ⟨rfl,trivial⟩ ?_
 conv=>whnf
 exact Side.mk ⟨rfl,trivial⟩ ⟨rfl,rfl⟩
theorem zf4 (t_:zaa) (r:zaa) (h:Ok (.agg (zac t_))→zdh t_=some r):Sp Tryz.prog 145 [.im (.agg (zac t_))] (.im (.agg (zac r))):=by
 refine sp_of rfl [700001] rfl rfl rfl (Nat.le_of_ble_eq_true rfl) rfl fun hk=>?_
 replace h:=h hk.1
 have z1:lZ t_.In:=ok_len (Ok.agg_at hk.1 0 rfl)
 have z2:lZ t_.Out:=ok_len (Ok.agg_at hk.1 1 rfl)
 unfold zdh at h
 conv=>whnf
 obtain ⟨c51,hc51,h⟩:=bind_some h
 refine ⟨_,(za4 t_.In c51 (hc51)).im,?_⟩
 conv=>whnf
 obtain ⟨c52,hc52,h⟩:=bind_some h
 refine ⟨_,(za4 t_.Out c52 (hc52)).im,?_⟩
 conv=>whnf
 refine Side.mk rfl ?_
 conv=>whnf
 cases h
 conv=>whnf
 refine Side.mk ⟨rfl,trivial⟩ ?_
 conv=>whnf
 exact ⟨rfl,rfl⟩
theorem zj7 (l_:List zaa) (r:List zaa) (h:Ok (nL zac l_)→zbz l_=some r):Sp Tryz.prog 128 [.im (nL zac l_)] (.row 55 2 (List.map zac r)):=by
 refine sp_of rfl [] rfl rfl rfl (Nat.le_of_ble_eq_true rfl) rfl fun hk=>?_
 replace h:=h hk.1
 have z1:lZ l_:=ok_len hk.1
 unfold zbz at h
 conv=>whnf
 refine Nf.mk (List.length l_) len_map ?_
 conv=>whnf
 refine Arith.mk (by show inR _;unfold inR;omega) ?_
 conv=>whnf
 obtain ⟨c51,h⟩:=chk_some h
 refine Side.mk c51 ?_
 conv=>whnf
 refine Nf.mk (List.map zac []) rfl ?_
 conv=>whnf
 refine Nf.mk (List.length l_) len_map ?_
 conv=>whnf
 obtain ⟨y70,hc,hk52⟩:=bind_some h
 clear h
 have h:=hc
 clear hc
 refine Cut.mk (mkSt [(3,.osl 64 1)] [(64,.row 55 2 (List.map zac y70))] []) (lZ y70∧True) ((Holds.kdl 64 rfl).and (hT)) ?_ (fun hp=>?_)
 conv=>whnf
 refine Loops.iter (fun (s:List zaa×Nat)=>zbz.s2 l_ s.1 s.2) (fun (y75,y76)=>mkSt [(3,.osl 64 1),(10,.im (nL zac l_)),(11,.im (nI (↑(List.length l_):Int))),(12,.im (nI (↑y76:Int)))] [(64,.row 55 2 (List.map zac y75))] []) (fun (y75,y76)=>lZ l_∧lZ y75∧True) h (eA [(64,some 9)]) (by rintro ⟨y75,y76⟩;exact ((Holds.avl 10 rfl).and ((Holds.kdl 64 rfl).and (hT)))) ?_
 clear h
 rintro k ⟨y75,y76⟩ o hp h ho81
 replace h:zbz.s2 l_ y75 y76=some o:=h
 unfold zbz.s2 at h
 obtain ⟨z86,z87,_⟩:=hp
 conv=>whnf
 refine Both.mk ?_ ?_<;>intro b82
 obtain ⟨h,b82d⟩:=ctd b82 h
 conv=>whnf
 obtain ⟨e83,he83,h⟩:=zaj h
 refine ⟨_,⟨(by omega),map_at he83,rfl⟩,?_⟩
 conv=>whnf
 refine Side.mk rfl ?_
 conv=>whnf
 refine Side.mk rfl ?_
 conv=>whnf
 obtain ⟨c84,hc84,h⟩:=bind_some h
 refine ⟨_,(zf4 e83 c84 (fun _=>hc84)),?_⟩
 conv=>whnf
 obtain ⟨c85,h⟩:=chk_some h
 refine Side.mk ⟨rfl,map_len (l:=[c84]) (c:=zac) fun _=>rfl,show capOk _ 48 by simpa only [List.length_map,List.length_cons,List.length_nil,Nat.zero_add] using c85⟩ ?_
 conv=>whnf
 refine Nf.mk (List.map zac (y75++[c84])) (app_map (l:=y75) (m:=[c84]) (c:=zac)) ?_
 conv=>whnf
 refine Arith.mk (by show inR _;unfold inR;omega) ?_
 conv=>whnf
 cases h
 exact Nxt.mk _ ho81 (eA [(64,some 64)])
 obtain ⟨h,b82d⟩:=cfd b82 h
 conv=>whnf
 cases h
 have ho81:_=_:=ho81
 cases ho81
 exact Join.mk (eA [(64,some 64)])
 replace h:=hk52
 obtain ⟨z88,_⟩:=hp
 conv=>whnf
 cases h
 conv=>whnf
 exact Side.mk ⟨rfl,trivial⟩ ⟨rfl,rfl⟩
theorem zcl (x_:List zaa) (target_:zaa) (cmp_:zaa→zaa→Option Int) (f2_:FuncId) (hf2:∀ x0 x1 r,cmp_ x0 x1=some r→Sp Tryz.prog f2_ [.im (.agg (zac x0)),.im (.agg (zac x1))] (.im (nI r))) (r:Int×Bool) (h:Ok (nL zac x_)→Ok (.agg (zac target_))→Ok (.fn f2_ [])→zah x_ target_ cmp_=some r):Sp Tryz.prog 150 [.im (nL zac x_),.im (.agg (zac target_)),.im (.fn f2_ [])] (.tup [nI r.1,nB r.2]):=by
 refine sp_of rfl [700004] rfl rfl rfl (Nat.le_of_ble_eq_true rfl) rfl fun hk=>?_
 replace h:=h hk.1 hk.2.1 hk.2.2.1
 have z1:lZ x_:=ok_len hk.1
 have z2:lZ target_.In:=ok_len (Ok.agg_at hk.2.1 0 rfl)
 have z3:lZ target_.Out:=ok_len (Ok.agg_at hk.2.1 1 rfl)
 unfold zah at h
 conv=>whnf
 refine Nf.mk (List.length x_) len_map ?_
 conv=>whnf
 obtain ⟨i81,hc,hk51⟩:=bind_some h
 clear h
 have h:=hc
 clear hc
 refine Cut.mk (mkSt [(0,.im (nL zac x_)),(2,.im (.fn f2_ [])),(4,.im (.ref (zac target_))),(8,.im (nI (↑(List.length x_):Int))),(9,.im (nI i81))] [] []) (lZ x_∧True) ((Holds.avl 0 rfl).and (hT)) ?_ (fun hp=>?_)
 conv=>whnf
 refine Loops.iter (fun (s:Int×Int)=>zah.s2 x_ target_ cmp_ s.1 s.2) (fun (i89,j90)=>mkSt [(0,.im (nL zac x_)),(2,.im (.fn f2_ [])),(4,.im (.ref (zac target_))),(8,.im (nI (↑(List.length x_):Int))),(9,.im (nI i89)),(10,.im (nI j90))] [] []) (fun (i89,j90)=>lZ x_∧True) h (eA []) (by rintro ⟨i89,j90⟩;exact ((Holds.avl 0 rfl).and (hT))) ?_
 clear h
 rintro k ⟨i89,j90⟩ o hp h ho100
 replace h:zah.s2 x_ target_ cmp_ i89 j90=some o:=h
 unfold zah.s2 at h
 obtain ⟨z110,_⟩:=hp
 conv=>whnf
 refine Both.mk ?_ ?_<;>intro b101
 obtain ⟨h,b101d⟩:=ctd b101 h
 conv=>whnf
 obtain ⟨c102,h⟩:=chk_some h
 refine Arith.mk c102 ?_
 conv=>whnf
 obtain ⟨c103,h⟩:=chk_some h
 refine Side.mk c103 ?_
 conv=>whnf
 obtain ⟨c104,h⟩:=chk_some h
 refine Side.mk ⟨⟨by show (0:Int)≤(i89+j90) / 2^1;omega,by show (i89+j90) / 2^1≤(18446744073709551615:Int);omega⟩,c104.1,by decide,by decide⟩ ?_
 conv=>whnf
 obtain ⟨c105,h⟩:=chk_some h
 refine Side.mk c105 ?_
 conv=>whnf
 obtain ⟨e106,he106z,he106,h⟩:=idx_some h
 refine ⟨_,⟨he106z,map_at he106,rfl⟩,?_⟩
 conv=>whnf
 obtain ⟨c107,hc107,h⟩:=bind_some h
 refine ⟨_,hf2 e106 target_ c107 hc107,?_⟩
 conv=>whnf
 refine Both.mk ?_ ?_<;>intro b108
 obtain ⟨h,b108d⟩:=ctd b108 h
 conv=>whnf
 obtain ⟨c109,h⟩:=chk_some h
 refine Arith.mk c109 ?_
 conv=>whnf
 cases h
 exact Nxt.mk _ ho100 (eA [])
 obtain ⟨h,b108d⟩:=cfd b108 h
 conv=>whnf
 cases h
 exact Nxt.mk _ ho100 (eA [])
 obtain ⟨h,b101d⟩:=cfd b101 h
 conv=>whnf
 cases h
 have ho100:_=_:=ho100
 cases ho100
 exact Join.mk (eA [])
 replace h:=hk51
 obtain ⟨z111,_⟩:=hp
 conv=>whnf
 obtain ⟨y117,hc,hk113⟩:=bind_some h
 clear h
 have h:=hc
 clear hc
 refine Cut.mk (mkSt [(6,.im (nI i81)),(7,.im (nB y117))] [] []) (True) (hT) ?_ (fun hp=>?_)
 conv=>whnf
 refine Both.mk ?_ ?_<;>intro b118
 replace b118:=beq_tt b118
 obtain ⟨h,b118d⟩:=ctd b118 h
 conv=>whnf
 iterate 3 (refine Both.yes (tt_beq b118) ?_;(conv=>whnf))
 obtain ⟨e119,he119z,he119,h⟩:=idx_some h
 refine ⟨_,⟨he119z,map_at he119,rfl⟩,?_⟩
 conv=>whnf
 iterate 3 (refine Both.yes (tt_beq b118) ?_;(conv=>whnf))
 obtain ⟨c120,hc120,h⟩:=bind_some h
 refine ⟨_,hf2 e119 target_ c120 hc120,?_⟩
 conv=>whnf
 refine Both.yes (tt_beq b118) ?_
 conv=>whnf
 refine Both.yes b118 ?_
 conv=>whnf
 cases h
 exact Join.mk (eA [])
 replace b118:=beq_tf b118
 obtain ⟨h,b118d⟩:=cfd b118 h
 conv=>whnf
 iterate 7 (refine Both.no (ft_beq b118) ?_;(conv=>whnf))
 refine Both.no b118 ?_
 conv=>whnf
 cases h
 exact Join.mk (eA [])
 replace h:=hk113
 conv=>whnf
 cases h
 conv=>whnf
 exact ⟨rfl,rfl⟩
theorem zjc (a_:zaa) (b_:zaa) (r:Int) (h:Ok (.agg (zac a_))→Ok (.agg (zac b_))→zds a_ b_=some r):Sp Tryz.prog 147 [.im (.agg (zac a_)),.im (.agg (zac b_))] (.im (nI r)):=by
 refine sp_of rfl [700002,700003] rfl rfl rfl (Nat.le_of_ble_eq_true rfl) rfl fun hk=>?_
 replace h:=h hk.1 hk.2.1
 have z1:lZ a_.In:=ok_len (Ok.agg_at hk.1 0 rfl)
 have z2:lZ a_.Out:=ok_len (Ok.agg_at hk.1 1 rfl)
 have z3:lZ b_.In:=ok_len (Ok.agg_at hk.2.1 0 rfl)
 have z4:lZ b_.Out:=ok_len (Ok.agg_at hk.2.1 1 rfl)
 unfold zds at h
 conv=>whnf
 obtain ⟨c51,hc51,h⟩:=bind_some h
 refine ⟨_,(zel a_.In b_.In c51 (fun _ _=>hc51)),?_⟩
 conv=>whnf
 refine Nf.mk (List.length a_.Out) len_map ?_
 conv=>whnf
 refine Nf.mk (List.length b_.Out) len_map ?_
 conv=>whnf
 obtain ⟨c52,h⟩:=chk_some h
 refine Side.mk (show (0:Int)≤(0:Int)∧(0:Int)≤(min (min c51 (↑(List.length a_.Out):Int)) (↑(List.length b_.Out):Int))∧(min (min c51 (↑(List.length a_.Out):Int)) (↑(List.length b_.Out):Int))≤(↑(List.length (List.map cI a_.Out)):Int)∧(∀ e∈List.map cI a_.Out,List.length e=1) from ⟨by omega,by first | omega | (simp only [List.length_map];omega),by first | omega | (simp only [List.length_map];omega),map_len fun _=>rfl⟩) ?_
 conv=>whnf
 refine Nf.mk (List.map cI (List.take (Int.toNat (min (min c51 (↑(List.length a_.Out):Int)) (↑(List.length b_.Out):Int))) a_.Out)) take_map ?_
 conv=>whnf
 obtain ⟨c53,h⟩:=chk_some h
 refine Side.mk (show (0:Int)≤(0:Int)∧(0:Int)≤(min (min c51 (↑(List.length a_.Out):Int)) (↑(List.length b_.Out):Int))∧(min (min c51 (↑(List.length a_.Out):Int)) (↑(List.length b_.Out):Int))≤(↑(List.length (List.map cI b_.Out)):Int)∧(∀ e∈List.map cI b_.Out,List.length e=1) from ⟨by omega,by first | omega | (simp only [List.length_map];omega),by first | omega | (simp only [List.length_map];omega),map_len fun _=>rfl⟩) ?_
 conv=>whnf
 refine Nf.mk (List.map cI (List.take (Int.toNat (min (min c51 (↑(List.length a_.Out):Int)) (↑(List.length b_.Out):Int))) b_.Out)) take_map ?_
 conv=>whnf
 obtain ⟨c54,hc54,h⟩:=bind_some h
 refine ⟨_,(zel (List.take (Int.toNat (min (min c51 (↑(List.length a_.Out):Int)) (↑(List.length b_.Out):Int))) a_.Out) (List.take (Int.toNat (min (min c51 (↑(List.length a_.Out):Int)) (↑(List.length b_.Out):Int))) b_.Out) c54 (fun _ _=>hc54)),?_⟩
 conv=>whnf
 refine Both.mk ?_ ?_<;>intro b55
 obtain ⟨h,b55d⟩:=ctd b55 h
 conv=>whnf
 cases h
 conv=>whnf
 exact ⟨rfl,rfl⟩
 obtain ⟨h,b55d⟩:=cfd b55 h
 conv=>whnf
 cases h
 conv=>whnf
 exact ⟨rfl,rfl⟩
theorem zj6 (u_:zaa) (p1_:zaa) (r:Bool) (h:Ok (.agg (zac u_))→Ok (.ref (zac p1_))→zd4 u_ p1_=some r):Sp Tryz.prog 149 [.im (.agg (zac u_)),.im (.ref (zac p1_))] (.im (nB r)):=by
 refine sp_of rfl [700002] rfl rfl rfl (Nat.le_of_ble_eq_true rfl) rfl fun hk=>?_
 replace h:=h hk.1 hk.2.1
 have z1:lZ u_.In:=ok_len (Ok.agg_at hk.1 0 rfl)
 have z2:lZ u_.Out:=ok_len (Ok.agg_at hk.1 1 rfl)
 have z3:lZ p1_.In:=ok_len (Ok.ref_at hk.2.1 0 rfl)
 have z4:lZ p1_.Out:=ok_len (Ok.ref_at hk.2.1 1 rfl)
 unfold zd4 at h
 conv=>whnf
 obtain ⟨c51,hc51,h⟩:=bind_some h
 refine ⟨_,(zc1 p1_.In u_.In c51 (fun _ _=>hc51)),?_⟩
 conv=>whnf
 cases h
 conv=>whnf
 exact ⟨rfl,rfl⟩
theorem zc7 (s_:List zaa) (del_:zaa→Option Bool) (f1_:FuncId) (k1_0:IV) (hk1_0:nz k1_0=k1_0) (hf1:∀ x0 r,del_ x0=some r→Sp Tryz.prog f1_ [.im (.agg (zac x0)),.im k1_0] (.im (nB r))) (r:List zaa) (h:OkL (List.map zac s_)→Ok (.fn f1_ [k1_0])→zag s_ del_=some r):Sp Tryz.prog 148 [.row 55 2 (List.map zac s_),.im (.fn f1_ [k1_0])] (.row 55 2 (List.map zac r)):=by
 refine sp_of rfl [500010] rfl rfl rfl (Nat.le_of_ble_eq_true rfl) rfl fun hk=>?_
 replace h:=h hk.1 hk.2.1
 have z1:lZ s_:=okl_len hk.1
 unfold zag at h
 conv=>whnf
 refine Side.mk ⟨rfl,trivial⟩ ?_
 conv=>whnf
 obtain ⟨c51,hc51,h⟩:=bind_some h
 refine ⟨_,(zbm s_ del_ f1_ k1_0 hk1_0 hf1 c51 (fun _ _=>hc51)),?_⟩
 conv=>whnf
 refine Side.mk flat_one ?_
 conv=>whnf
 refine Both.mk ?_ ?_<;>intro b52
 obtain ⟨h,b52d⟩:=ctd b52 h
 conv=>whnf
 cases h
 conv=>whnf
 exact Side.mk ⟨rfl,trivial⟩ ⟨rfl,rfl⟩
 obtain ⟨h,b52d⟩:=cfd b52 h
 conv=>whnf
 obtain ⟨c53,h⟩:=chk_some h
 refine Arith.mk c53 ?_
 conv=>whnf
 obtain ⟨⟨y84,i85⟩,hc,hk54⟩:=bind_some h
 clear h
 have h:=hc
 clear hc
 refine Cut.mk (mkSt [(0,.osl 64 1),(5,.im (nI i85))] [(64,.row 55 2 (List.map zac y84))] []) (lZ y84∧True) ((Holds.kdl 64 rfl).and (hT)) ?_ (fun hp=>?_)
 conv=>whnf
 refine Loops.iter (fun (s:List zaa×Int×Int)=>zag.s2 del_ s.1 s.2.1 s.2.2) (fun (y94,i95,j96)=>mkSt [(0,.osl 64 1),(1,.im (.fn f1_ [k1_0])),(5,.im (nI i95)),(6,.im (nI j96))] [(64,.row 55 2 (List.map zac y94))] []) (fun (y94,i95,j96)=>lZ y94∧True) h (eA [(64,some 0)]) (by rintro ⟨y94,i95,j96⟩;exact ((Holds.kdl 64 rfl).and (hT))) ?_
 clear h
 rintro k ⟨y94,i95,j96⟩ o hp h ho105
 replace h:zag.s2 del_ y94 i95 j96=some o:=h
 unfold zag.s2 at h
 obtain ⟨z114,_⟩:=hp
 conv=>whnf
 refine Side.mk rfl ?_
 conv=>whnf
 refine Nf.mk (List.length y94) len_map ?_
 conv=>whnf
 refine Both.mk ?_ ?_<;>intro b106
 obtain ⟨h,b106d⟩:=ctd b106 h
 conv=>whnf
 obtain ⟨e107,he107z,he107,h⟩:=idx_some h
 refine Side.mk ⟨he107z,rfl,map_lt he107⟩ ?_
 conv=>whnf
 refine ⟨_,⟨rfl,map_at he107,of_decide_eq_true rfl,rfl⟩,?_⟩
 conv=>whnf
 refine Side.mk rfl ?_
 conv=>whnf
 refine Side.mk rfl ?_
 conv=>whnf
 obtain ⟨c108,hc108,h⟩:=bind_some h
 refine ⟨_,Sp.args (hf1 e107 c108 hc108) (by rw [hk1_0];try rfl),?_⟩
 conv=>whnf
 refine Both.mk ?_ ?_<;>intro b109
 replace h:=cond_t b109 h
 conv=>whnf
 refine Side.mk rfl ?_
 conv=>whnf
 obtain ⟨e110,he110z,he110,h⟩:=idx_some h
 refine Side.mk ⟨he110z,rfl,map_lt he110⟩ ?_
 conv=>whnf
 refine Side.mk ⟨rfl,trivial⟩ ?_
 conv=>whnf
 refine ⟨_,map_at he110,?_⟩
 conv=>whnf
 refine Nf.mk (List.map zac (List.set y94 i95.toNat e107)) (set_map rfl) ?_
 conv=>whnf
 obtain ⟨c111,h⟩:=chk_some h
 refine Arith.mk c111 ?_
 conv=>whnf
 obtain ⟨c112,h⟩:=chk_some h
 refine Arith.mk c112 ?_
 conv=>whnf
 cases h
 exact Nxt.mk _ ho105 (eA [(64,some 64)])
 replace h:=cond_f b109 h
 conv=>whnf
 obtain ⟨c113,h⟩:=chk_some h
 refine Arith.mk c113 ?_
 conv=>whnf
 cases h
 exact Nxt.mk _ ho105 (eA [(64,some 64)])
 obtain ⟨h,b106d⟩:=cfd b106 h
 conv=>whnf
 cases h
 have ho105:_=_:=ho105
 cases ho105
 exact Join.mk (eA [(64,some 64)])
 replace h:zag.k3 y84 i85=some _:=hk54
 unfold zag.k3 at h
 obtain ⟨z115,_⟩:=hp
 conv=>whnf
 obtain ⟨c116,h⟩:=chk_some h
 refine Side.mk ⟨rfl,c116.1,by have hh_:=c116;simp only [List.length_map];omega,by have hh_:=c116;simp only [List.length_map];omega⟩ ?_
 conv=>whnf
 obtain ⟨c117,h⟩:=chk_some h
 refine Side.mk ⟨rfl,by have hh_:=c117;simp only [List.length_map];omega⟩ ?_
 conv=>whnf
 refine Nf.mk (List.map zac (List.take (Int.toNat i85) y84++List.replicate (List.length y84-(Int.toNat i85)) (⟨[],[]⟩:zaa))) (clr_map (z:=(⟨[],[]⟩:zaa)) rfl) ?_
 conv=>whnf
 obtain ⟨c118,h⟩:=chk_some h
 refine Side.mk ⟨rfl,c118.1,by have hh_:=c118;simp only [List.length_map];omega,by have hh_:=c118;simp only [List.length_map];omega⟩ ?_
 conv=>whnf
 refine Nf.mk (List.map zac (List.take (Int.toNat i85) (List.take (Int.toNat i85) y84++List.replicate (List.length y84-(Int.toNat i85)) (⟨[],[]⟩:zaa)))) cut_own ?_
 conv=>whnf
 cases h
 conv=>whnf
 exact Side.mk ⟨rfl,trivial⟩ ⟨rfl,rfl⟩
theorem zkf (a_:zaa) (b_:zaa) (r:Int) (h:Ok (.agg (zac a_))→Ok (.agg (zac b_))→zcp a_ b_=some r):Sp Tryz.prog 151 [.im (.agg (zac a_)),.im (.agg (zac b_))] (.im (nI r)):=by
 refine sp_of rfl [700002,700003] rfl rfl rfl (Nat.le_of_ble_eq_true rfl) rfl fun hk=>?_
 replace h:=h hk.1 hk.2.1
 have z1:lZ a_.In:=ok_len (Ok.agg_at hk.1 0 rfl)
 have z2:lZ a_.Out:=ok_len (Ok.agg_at hk.1 1 rfl)
 have z3:lZ b_.In:=ok_len (Ok.agg_at hk.2.1 0 rfl)
 have z4:lZ b_.Out:=ok_len (Ok.agg_at hk.2.1 1 rfl)
 unfold zcp at h
 conv=>whnf
 obtain ⟨c51,hc51,h⟩:=bind_some h
 refine ⟨_,(zgv a_.In b_.In c51 (fun _ _=>hc51)),?_⟩
 conv=>whnf
 cases h
 conv=>whnf
 exact ⟨rfl,rfl⟩
theorem zm0 (l_:List zaa) (t_:zaa) (r:List zaa×Int) (h:OkL (List.map zac l_)→Ok (.agg (zac t_))→zcn l_ t_=some r):Sp Tryz.prog 130 [.row 55 2 (List.map zac l_),.im (.agg (zac t_))] (.mk true [.ow (.row 55 2 (List.map zac r.1)),.im (nI r.2)] []):=by
 refine sp_of rfl [54,41000,56000,56002,500047,700003] rfl rfl rfl (Nat.le_of_ble_eq_true rfl) rfl fun hk=>?_
 replace h:=h hk.1 hk.2.1
 have z1:lZ l_:=okl_len hk.1
 have z2:lZ t_.In:=ok_len (Ok.agg_at hk.2.1 0 rfl)
 have z3:lZ t_.Out:=ok_len (Ok.agg_at hk.2.1 1 rfl)
 unfold zcn at h
 conv=>whnf
 refine Side.mk rfl ?_
 conv=>whnf
 refine Nf.mk (List.length l_) len_map ?_
 conv=>whnf
 obtain ⟨oc,hc,hk51⟩:=bind_some h
 clear h
 have h:=hc
 clear hc
 refine Cut.mkS oc (Y:=Bool) (fun inside73=>mkSt [(0,.osl 64 1),(3,.im (.ref (zac t_))),(6,.im (nB inside73))] [(64,.row 55 2 (List.map zac l_))] []) (fun inside73=>lZ l_∧True) (by rintro inside73;exact ((Holds.kdl 64 rfl).and (hT))) ?_ ?_
 conv=>whnf
 refine Loops.iter (fun (s:Bool×Nat)=>zcn.s2 l_ t_ s.1 s.2) (fun (inside79,y80)=>mkSt [(0,.osl 64 1),(3,.im (.ref (zac t_))),(6,.im (nB inside79)),(11,.osl 64 1),(12,.im (nI (↑(List.length l_):Int))),(13,.im (nI (↑y80:Int)))] [(64,.row 55 2 (List.map zac l_))] []) (fun (inside79,y80)=>lZ l_∧True) h (eA [(64,some 0)]) (by rintro ⟨inside79,y80⟩;exact ((Holds.kdl 64 rfl).and (hT))) ?_
 clear h
 rintro k ⟨inside79,y80⟩ o hp h ho87
 replace h:zcn.s2 l_ t_ inside79 y80=some o:=h
 unfold zcn.s2 at h
 obtain ⟨z94,_⟩:=hp
 conv=>whnf
 refine Both.mk ?_ ?_<;>intro b88
 obtain ⟨h,b88d⟩:=ctd b88 h
 conv=>whnf
 obtain ⟨e89,he89,h⟩:=zaj h
 refine Side.mk ⟨(by omega),rfl,map_lt he89⟩ ?_
 conv=>whnf
 refine ⟨_,⟨rfl,map_at he89,of_decide_eq_true rfl,rfl⟩,?_⟩
 conv=>whnf
 refine Side.mk rfl ?_
 conv=>whnf
 refine Side.mk rfl ?_
 conv=>whnf
 obtain ⟨c90,hc90,h⟩:=bind_some h
 refine ⟨_,(zjc e89 t_ c90 (fun _ _=>hc90)),?_⟩
 conv=>whnf
 refine Both.mk ?_ ?_<;>intro b91
 obtain ⟨h,b91d⟩:=ctd b91 h
 conv=>whnf
 cases h
 have ho87:_=_:=ho87
 cases ho87
 replace h:some _=some _:=hk51
 cases h
 conv=>whnf
 exact ⟨rfl,rfl⟩
 obtain ⟨h,b91d⟩:=cfd b91 h
 conv=>whnf
 refine Both.mk ?_ ?_<;>intro b92
 replace b92:=beq_ff b92
 replace h:=cond_f b92 h
 conv=>whnf
 refine Side.mk rfl ?_
 conv=>whnf
 refine Both.yes (ff_beq b92) ?_
 conv=>whnf
 refine Side.mk rfl ?_
 conv=>whnf
 iterate 3 (refine Both.yes (ff_beq b92) ?_;(conv=>whnf))
 obtain ⟨c93,hc93,h⟩:=bind_some h
 refine ⟨_,(zc1 e89.In t_.In c93 (fun _ _=>hc93)),?_⟩
 conv=>whnf
 refine Both.no b92 ?_
 conv=>whnf
 refine Arith.mk (by show inR _;unfold inR;omega) ?_
 conv=>whnf
 cases h
 exact Nxt.mk _ ho87 (eA [(64,some 64)])
 replace b92:=beq_ft b92
 replace h:=cond_t b92 h
 conv=>whnf
 iterate 4 (refine Both.no (tf_beq b92) ?_;(conv=>whnf))
 refine Both.yes b92 ?_
 conv=>whnf
 refine Arith.mk (by show inR _;unfold inR;omega) ?_
 conv=>whnf
 cases h
 exact Nxt.mk _ ho87 (eA [(64,some 64)])
 obtain ⟨h,b88d⟩:=cfd b88 h
 conv=>whnf
 cases h
 have ho87:_=_:=ho87
 cases ho87
 exact JoinS.mk' _ rfl (eA [(64,some 64)])
 rintro inside73 rfl hp
 replace h:=sum_inl hk51
 obtain ⟨z95,_⟩:=hp
 conv=>whnf
 obtain ⟨y99,hc,hk97⟩:=bind_some h
 clear h
 have h:=hc
 clear hc
 refine Cut.mk (mkSt [(0,.osl 64 1),(3,.im (.ref (zac t_))),(36,.im (nB y99))] [(64,.row 55 2 (List.map zac l_))] []) (lZ l_∧True) ((Holds.kdl 64 rfl).and (hT)) ?_ (fun hp=>?_)
 conv=>whnf
 refine Both.mk ?_ ?_<;>intro b100
 replace b100:=beq_ff b100
 replace h:=cond_f b100 h
 conv=>whnf
 iterate 2 (refine Both.yes (ff_beq b100) ?_;(conv=>whnf))
 refine Nf.mk (List.length t_.In) len_map ?_
 conv=>whnf
 refine Both.yes (ff_beq b100) ?_
 conv=>whnf
 refine Both.no b100 ?_
 conv=>whnf
 cases h
 exact Join.mk (eA [(64,some 64)])
 replace b100:=beq_ft b100
 replace h:=cond_t b100 h
 conv=>whnf
 iterate 3 (refine Both.no (tf_beq b100) ?_;(conv=>whnf))
 refine Both.yes b100 ?_
 conv=>whnf
 cases h
 exact Join.mk (eA [(64,some 64)])
 replace h:=hk97
 obtain ⟨z101,_⟩:=hp
 conv=>whnf
 refine Both.mk ?_ ?_<;>intro b102
 replace h:=cond_t b102 h
 conv=>whnf
 cases h
 conv=>whnf
 exact Side.mk ⟨rfl,trivial⟩ ⟨rfl,rfl⟩
 replace h:=cond_f b102 h
 conv=>whnf
 refine Side.mk ⟨rfl,trivial⟩ ?_
 conv=>whnf
 obtain ⟨c103,hc103,h⟩:=bind_some h
 refine ⟨_,(zc7 l_ (fun u0=>zd4 u0 t_) 149 (.ref (zac t_)) rfl (fun u0 r h=>(zj6 u0 t_ r (fun _ _=>h))) c103 (fun _ _=>hc103)),?_⟩
 conv=>whnf
 refine Side.mk rfl ?_
 conv=>whnf
 refine Nf.mk (List.length c103) len_map ?_
 conv=>whnf
 refine Both.mk ?_ ?_<;>intro b104
 obtain ⟨h,b104d⟩:=ctd b104 h
 conv=>whnf
 cases h
 conv=>whnf
 exact ⟨rfl,rfl⟩
 obtain ⟨h,b104d⟩:=cfd b104 h
 conv=>whnf
 refine Side.mk ⟨rfl,trivial⟩ ?_
 conv=>whnf
 obtain ⟨c105,hc105,h⟩:=bind_some h
 refine ⟨_,(zcl c103 t_ (fun u0 u1=>zcp u0 u1) 151 (fun u0 u1 r h=>(zkf u0 u1 r (fun _ _=>h))) c105 (fun _ _ _=>hc105)),?_⟩
 conv=>whnf
 refine Side.mk (by simp [flatRs,flatOc]) ?_
 conv=>whnf
 obtain ⟨c106,hc106,h⟩:=bind_some h
 refine ⟨_,(zf4 t_ c106 (fun _=>hc106)),?_⟩
 conv=>whnf
 refine Side.mk ⟨rfl,rfl,trivial⟩ ?_
 conv=>whnf
 obtain ⟨c107,hc107,h⟩:=bind_some h
 refine ⟨_,(zhu c103 c105.1 [c106] c107 (hc107)),?_⟩
 conv=>whnf
 cases h
 conv=>whnf
 exact Side.mk ⟨rfl,trivial⟩ ⟨rfl,rfl⟩
theorem zih (o_:Int) (r:Bool) (h:Ok (nI o_)→zdf o_=some r):Sp Tryz.prog 146 [.im (nI o_)] (.im (nB r)):=by
 refine sp_of rfl [] rfl rfl rfl (Nat.le_of_ble_eq_true rfl) rfl fun hk=>?_
 replace h:=h hk.1
 unfold zdf at h
 conv=>whnf
 obtain ⟨y54,hc,hk52⟩:=bind_some h
 clear h
 have h:=hc
 clear hc
 refine Cut.mk (mkSt [(2,.im (nB y54))] [] []) (True) (hT) ?_ (fun hp=>?_)
 conv=>whnf
 refine Both.mk ?_ ?_<;>intro b55
 replace b55:=beq_ff b55
 obtain ⟨h,b55d⟩:=cfd b55 h
 conv=>whnf
 refine Both.yes (ff_beq b55) ?_
 conv=>whnf
 refine Both.no b55 ?_
 conv=>whnf
 cases h
 exact Join.mk (eA [])
 replace b55:=beq_ft b55
 obtain ⟨h,b55d⟩:=ctd b55 h
 conv=>whnf
 refine Both.no (tf_beq b55) ?_
 conv=>whnf
 refine Both.yes b55 ?_
 conv=>whnf
 cases h
 exact Join.mk (eA [])
 replace h:=hk52
 conv=>whnf
 cases h
 conv=>whnf
 exact ⟨rfl,rfl⟩
theorem zjj (t_:zaa) (inputs_:Int) (r:Int) (h:Ok (.agg (zac t_))→Ok (nI inputs_)→zdu t_ inputs_=some r):Sp Tryz.prog 129 [.im (.agg (zac t_)),.im (nI inputs_)] (.im (nI r)):=by
 refine sp_of rfl [700002] rfl rfl rfl (Nat.le_of_ble_eq_true rfl) rfl fun hk=>?_
 replace h:=h hk.1 hk.2.1
 have z1:lZ t_.In:=ok_len (Ok.agg_at hk.1 0 rfl)
 have z2:lZ t_.Out:=ok_len (Ok.agg_at hk.1 1 rfl)
 unfold zdu at h
 conv=>whnf
 obtain ⟨c51,hc51,h⟩:=bind_some h
 refine ⟨_,(zdb t_.In inputs_ c51 (fun _ _=>hc51)),?_⟩
 conv=>whnf
 refine Both.mk ?_ ?_<;>intro b52
 obtain ⟨h,b52d⟩:=ctd b52 h
 conv=>whnf
 cases h
 conv=>whnf
 exact ⟨rfl,rfl⟩
 obtain ⟨h,b52d⟩:=cfd b52 h
 conv=>whnf
 refine Nf.mk (List.length t_.Out) len_map ?_
 conv=>whnf
 refine Nf.mk (List.length t_.In) len_map ?_
 conv=>whnf
 refine Both.mk ?_ ?_<;>intro b53
 obtain ⟨h,b53d⟩:=ctd b53 h
 conv=>whnf
 cases h
 conv=>whnf
 exact ⟨rfl,rfl⟩
 obtain ⟨h,b53d⟩:=cfd b53 h
 conv=>whnf
 obtain ⟨c54,hc54,h⟩:=bind_some h
 refine ⟨_,(zc2 t_.Out (fun u0=>zdf u0) 146 (fun u0 r h=>(zih u0 r (fun _=>h))) c54 (fun _ _=>hc54)),?_⟩
 conv=>whnf
 refine Both.mk ?_ ?_<;>intro b55
 replace h:=cond_t b55 h
 conv=>whnf
 cases h
 conv=>whnf
 exact ⟨rfl,rfl⟩
 replace h:=cond_f b55 h
 conv=>whnf
 cases h
 conv=>whnf
 exact ⟨rfl,rfl⟩
theorem zmg (o_:zam) (l_:List zaa) (r:zam×Int) (h:Ok (.agg (zbh o_))→Ok (nL zac l_)→zcc o_ l_=some r):Sp Tryz.prog 110 [.im (.agg (zbh o_)),.im (nL zac l_)] (.tup [.agg (zbh r.1),nI r.2]):=by
 refine sp_of rfl [33000,700002] rfl rfl rfl (Nat.le_of_ble_eq_true rfl) rfl fun hk=>?_
 replace h:=h hk.1 hk.2.1
 have z1:lZ o_.Traces:=ok_len (Ok.agg_at hk.1 1 rfl)
 have z2:lZ l_:=ok_len hk.2.1
 unfold zcc at h
 conv=>whnf
 obtain ⟨c51,hc51,h⟩:=bind_some h
 refine ⟨_,(zj7 o_.Traces c51 (fun _=>hc51)),?_⟩
 conv=>whnf
 refine Nf.mk (List.length l_) len_map ?_
 conv=>whnf
 obtain ⟨oc,hc,hk52⟩:=bind_some h
 clear h
 have h:=hc
 clear hc
 refine Cut.mkS oc (Y:=List zaa) (fun y76=>mkSt [(2,.im (.ref (zbh o_))),(4,.own 64 1 0),(6,.osl 65 1)] [(64,.box 35 2),(65,.row 55 2 (List.map zac y76))] [(64,0,.im (nI 0)),(64,1,.im (.val (.slice none 0 0)))]) (fun y76=>lZ y76∧True) (by rintro y76;exact ((Holds.kdl 65 rfl).and (hT))) ?_ ?_
 conv=>whnf
 refine Loops.iter (fun (s:List zaa×Nat)=>zcc.s2 o_ l_ s.1 s.2) (fun (y83,y84)=>mkSt [(2,.im (.ref (zbh o_))),(4,.own 64 1 0),(6,.osl 65 1),(15,.im (nL zac l_)),(16,.im (nI (↑(List.length l_):Int))),(17,.im (nI (↑y84:Int)))] [(64,.box 35 2),(65,.row 55 2 (List.map zac y83))] [(64,0,.im (nI 0)),(64,1,.im (.val (.slice none 0 0)))]) (fun (y83,y84)=>lZ l_∧lZ y83∧True) h (eA [(64,some 4),(65,some 14)]) (by rintro ⟨y83,y84⟩;exact ((Holds.avl 15 rfl).and ((Holds.kdl 65 rfl).and (hT)))) ?_
 clear h
 rintro k ⟨y83,y84⟩ o hp h ho91
 replace h:zcc.s2 o_ l_ y83 y84=some o:=h
 unfold zcc.s2 at h
 obtain ⟨z98,z99,_⟩:=hp
 conv=>whnf
 refine Both.mk ?_ ?_<;>intro b92
 obtain ⟨h,b92d⟩:=ctd b92 h
 conv=>whnf
 obtain ⟨e93,he93,h⟩:=zaj h
 refine ⟨_,⟨(by omega),map_at he93,rfl⟩,?_⟩
 conv=>whnf
 refine Side.mk rfl ?_
 conv=>whnf
 refine Side.mk rfl ?_
 conv=>whnf
 obtain ⟨c94,hc94,h⟩:=bind_some h
 refine ⟨_,(zjj e93 o_.Inputs c94 (fun _ _=>hc94)),?_⟩
 conv=>whnf
 refine Both.mk ?_ ?_<;>intro b95
 obtain ⟨h,b95d⟩:=ctd b95 h
 conv=>whnf
 refine Side.mk rfl ?_
 conv=>whnf
 cases h
 have ho91:_=_:=ho91
 cases ho91
 replace h:some _=some _:=hk52
 cases h
 conv=>whnf
 refine Side.mk ⟨rfl,trivial⟩ ?_
 conv=>whnf
 exact ⟨rfl,rfl⟩
 obtain ⟨h,b95d⟩:=cfd b95 h
 conv=>whnf
 refine Side.mk rfl ?_
 conv=>whnf
 refine Side.mk ⟨rfl,trivial⟩ ?_
 conv=>whnf
 obtain ⟨c96,hc96,h⟩:=bind_some h
 refine ⟨_,(zm0 y83 e93 c96 (fun _ _=>hc96)),?_⟩
 conv=>whnf
 refine Both.mk ?_ ?_<;>intro b97
 obtain ⟨h,b97d⟩:=ctd b97 h
 conv=>whnf
 refine Side.mk rfl ?_
 conv=>whnf
 cases h
 have ho91:_=_:=ho91
 cases ho91
 replace h:some _=some _:=hk52
 cases h
 conv=>whnf
 refine Side.mk ⟨rfl,trivial⟩ ?_
 conv=>whnf
 exact ⟨rfl,rfl⟩
 obtain ⟨h,b97d⟩:=cfd b97 h
 conv=>whnf
 refine Arith.mk (by show inR _;unfold inR;omega) ?_
 conv=>whnf
 cases h
 exact Nxt.mk _ ho91 (eA [(64,some 64),(65,some 3228)])
 obtain ⟨h,b92d⟩:=cfd b92 h
 conv=>whnf
 cases h
 have ho91:_=_:=ho91
 cases ho91
 exact JoinS.mk' _ rfl (eA [(64,some 64),(65,some 65)])
 rintro y76 rfl hp
 replace h:=sum_inl hk52
 obtain ⟨z100,_⟩:=hp
 conv=>whnf
 refine Side.mk rfl ?_
 conv=>whnf
 cases h
 conv=>whnf
 refine Side.mk ⟨rfl,trivial⟩ ?_
 conv=>whnf
 exact Side.mk ⟨rfl,trivial⟩ ⟨rfl,rfl⟩
theorem zmt (o_:zam) (t_:zaa) (r:zam×Int) (h:Ok (.agg (zbh o_))→Ok (.agg (zac t_))→ze8 o_ t_=some r):Sp Tryz.prog 71 [.im (.agg (zbh o_)),.im (.agg (zac t_))] (.tup [.agg (zbh r.1),nI r.2]):=by
 refine sp_of rfl [700002,700003] rfl rfl rfl (Nat.le_of_ble_eq_true rfl) rfl fun hk=>?_
 replace h:=h hk.1 hk.2.1
 have z1:lZ o_.Traces:=ok_len (Ok.agg_at hk.1 1 rfl)
 have z2:lZ t_.In:=ok_len (Ok.agg_at hk.2.1 0 rfl)
 have z3:lZ t_.Out:=ok_len (Ok.agg_at hk.2.1 1 rfl)
 unfold ze8 at h
 conv=>whnf
 obtain ⟨c51,hc51,h⟩:=bind_some h
 refine ⟨_,(zmg o_ [t_] c51 (fun _ _=>hc51)),?_⟩
 conv=>whnf
 refine Side.mk rfl ?_
 conv=>whnf
 cases h
 conv=>whnf
 refine Side.mk ⟨rfl,trivial⟩ ?_
 conv=>whnf
 exact ⟨rfl,rfl⟩
theorem zj8 (l_:List (List Int)) (need_:Int) (r:List Int×Int×List (List Int)) (h:OkL (List.map (cL cI) l_)→Ok (nI need_)→zbv l_ need_=some r):Sp Tryz.prog 70 [.lent (.row 25 1 (List.map (cL cI) l_)),.im (nI need_)] (.mk true [.im (nL cI r.1),.im (nI r.2.1)] [.lent (.row 25 1 (List.map (cL cI) r.2.2))]):=by
 refine sp_of rfl [] rfl rfl rfl (Nat.le_of_ble_eq_true rfl) rfl fun hk=>?_
 replace h:=h hk.1 hk.2.1
 have z1:lZ l_:=okl_len hk.1
 unfold zbv at h
 conv=>whnf
 obtain ⟨y54,hc,hk52⟩:=bind_some h
 clear h
 have h:=hc
 clear hc
 refine Cut.mk (mkSt [(0,.osl 0 0),(1,.im (nI need_)),(15,.im (nB y54))] [(0,.row 25 1 (List.map (cL cI) l_))] []) (lZ l_∧True) ((Holds.kdl 0 rfl).and (hT)) ?_ (fun hp=>?_)
 conv=>whnf
 refine Both.mk ?_ ?_<;>intro b55
 replace b55:=beq_ff b55
 obtain ⟨h,b55d⟩:=cfd b55 h
 conv=>whnf
 refine Both.yes (ff_beq b55) ?_
 conv=>whnf
 refine Both.no b55 ?_
 conv=>whnf
 cases h
 exact Join.mk (eA [(0,some 0)])
 replace b55:=beq_ft b55
 obtain ⟨h,b55d⟩:=ctd b55 h
 conv=>whnf
 refine Both.no (tf_beq b55) ?_
 conv=>whnf
 refine Both.yes b55 ?_
 conv=>whnf
 cases h
 exact Join.mk (eA [(0,some 0)])
 replace h:=hk52
 obtain ⟨z56,_⟩:=hp
 conv=>whnf
 refine Both.mk ?_ ?_<;>intro b57
 replace h:=cond_t b57 h
 conv=>whnf
 cases h
 conv=>whnf
 exact Side.mk ⟨rfl,trivial⟩ ⟨rfl,rfl⟩
 replace h:=cond_f b57 h
 conv=>whnf
 refine Side.mk rfl ?_
 conv=>whnf
 refine Nf.mk (List.length l_) len_map ?_
 conv=>whnf
 obtain ⟨oc,hc,hk58⟩:=bind_some h
 clear h
 have h:=hc
 clear hc
 refine Cut.mkS oc (Y:=Unit) (fun (_:Unit)=>mkSt [(0,.osl 0 0)] [(0,.row 25 1 (List.map (cL cI) l_))] []) (fun (_:Unit)=>lZ l_∧True) (by rintro ⟨⟩;exact ((Holds.kdl 0 rfl).and (hT))) ?_ ?_
 conv=>whnf
 refine Loops.iter (fun (s:(List (ByteArray×Int))×Nat)=>zbv.s2 l_ need_ s.1 s.2) (fun (y87,y88)=>mkSt [(0,.osl 0 0),(1,.im (nI need_)),(6,.osl 65 1),(17,.osl 0 0),(18,.im (nI (↑(List.length l_):Int))),(19,.im (nI (↑y88:Int)))] [(0,.row 25 1 (List.map (cL cI) l_)),(65,.map (mapV wS wI y87))] []) (fun (y87,y88)=>lZ l_∧True) h (eA [(0,some 0),(65,some 16)]) (by rintro ⟨y87,y88⟩;exact ((Holds.kdl 0 rfl).and (hT))) ?_
 clear h
 rintro k ⟨y87,y88⟩ o hp h ho95
 replace h:zbv.s2 l_ need_ y87 y88=some o:=h
 unfold zbv.s2 at h
 obtain ⟨z102,_⟩:=hp
 conv=>whnf
 refine Both.mk ?_ ?_<;>intro b96
 obtain ⟨h,b96d⟩:=ctd b96 h
 conv=>whnf
 obtain ⟨e97,he97,h⟩:=zaj h
 refine Side.mk ⟨(by omega),rfl,map_lt he97⟩ ?_
 conv=>whnf
 refine ⟨_,_,⟨rfl,map_at he97,rfl,rfl⟩,?_⟩
 conv=>whnf
 obtain ⟨c98,hc98,h⟩:=bind_some h
 refine ⟨_,(sp_nondet_key e97 c98 (hc98)),?_⟩
 conv=>whnf
 refine Side.mk rfl ?_
 conv=>whnf
 refine ⟨_,find_str _ wI _,?_⟩
 conv=>whnf
 refine Nf.mk (wI ((mget c98 y87).getD 0)) (getD_map rfl _) ?_
 conv=>whnf
 obtain ⟨c99,h⟩:=chk_some h
 refine Arith.mk c99 ?_
 conv=>whnf
 refine Side.mk rfl ?_
 conv=>whnf
 refine ⟨_,set_str _ (((mget c98 y87).getD 0)+1) wI _,?_⟩
 conv=>whnf
 refine Side.mk rfl ?_
 conv=>whnf
 refine ⟨_,find_str _ wI _,?_⟩
 conv=>whnf
 refine Nf.mk (wI ((mget c98 (mset c98 (((mget c98 y87).getD 0)+1) y87)).getD 0)) (getD_map rfl _) ?_
 conv=>whnf
 refine Both.mk ?_ ?_<;>intro b100
 obtain ⟨h,b100d⟩:=ctd b100 h
 conv=>whnf
 obtain ⟨c101,hc101,h⟩:=bind_some h
 refine ⟨_,(za4 e97 c101 (hc101)).im,?_⟩
 conv=>whnf
 cases h
 have ho95:_=_:=ho95
 cases ho95
 replace h:some _=some _:=hk58
 cases h
 conv=>whnf
 exact Side.mk ⟨rfl,trivial⟩ ⟨rfl,rfl⟩
 obtain ⟨h,b100d⟩:=cfd b100 h
 conv=>whnf
 refine Arith.mk (by show inR _;unfold inR;omega) ?_
 conv=>whnf
 cases h
 exact Nxt.mk _ ho95 (eA [(0,some 0),(65,some 65)])
 obtain ⟨h,b96d⟩:=cfd b96 h
 conv=>whnf
 cases h
 have ho95:_=_:=ho95
 cases ho95
 exact JoinS.mk' _ rfl (eA [(0,some 0)])
 rintro ⟨⟩ rfl hp
 replace h:=sum_inl hk58
 obtain ⟨z103,_⟩:=hp
 conv=>whnf
 cases h
 conv=>whnf
 exact Side.mk ⟨rfl,trivial⟩ ⟨rfl,rfl⟩
theorem sp_oracle_Ask (q_:zae) (w_:List Int) (r:zae×List Int×Int) (h:Ok (.agg (zbj q_))→Ok (nL cI w_)→zbl q_ w_=some r):Sp Tryz.prog 34 [.im (.agg (zbj q_)),.im (nL cI w_)] (.tup [.agg (zbj r.1),nL cI r.2.1,nI r.2.2]):=by
 refine sp_of rfl [74000,2074000] rfl rfl rfl (Nat.le_of_ble_eq_true rfl) rfl fun hk=>?_
 replace h:=h hk.1 hk.2.1
 have z1:lZ q_.Device.M.Next:=ok_len (Ok.agg_at hk.1 2 rfl)
 have z2:lZ q_.Device.M.Out:=ok_len (Ok.agg_at hk.1 3 rfl)
 have z3:lZ q_.Device.Latency.Step:=ok_len (Ok.agg_at hk.1 6 rfl)
 have z4:lZ q_.Obs.Traces:=ok_len (Ok.agg_at hk.1 16 rfl)
 have z5:lZ w_:=ok_len hk.2.1
 unfold zbl at h
 conv=>whnf
 refine Side.mk rfl ?_
 conv=>whnf
 refine Side.mk rfl ?_
 conv=>whnf
 refine Side.mk rfl ?_
 conv=>whnf
 refine Side.mk rfl ?_
 conv=>whnf
 obtain ⟨c51,hc51,h⟩:=bind_some h
 refine ⟨_,(zdb w_ q_.Device.M.Inputs c51 (fun _ _=>hc51)),?_⟩
 conv=>whnf
 refine Both.mk ?_ ?_<;>intro b52
 obtain ⟨h,b52d⟩:=ctd b52 h
 conv=>whnf
 refine Side.mk rfl ?_
 conv=>whnf
 refine Side.mk rfl ?_
 conv=>whnf
 cases h
 conv=>whnf
 refine Side.mk ⟨rfl,trivial⟩ ?_
 conv=>whnf
 exact ⟨rfl,rfl⟩
 obtain ⟨h,b52d⟩:=cfd b52 h
 conv=>whnf
 refine Side.mk rfl ?_
 conv=>whnf
 obtain ⟨c53,hc53,h⟩:=bind_some h
 refine ⟨_,(zkd q_ c53 (fun _=>hc53)),?_⟩
 conv=>whnf
 refine Side.mk rfl ?_
 conv=>whnf
 refine Side.mk rfl ?_
 conv=>whnf
 refine Side.mk rfl ?_
 conv=>whnf
 obtain ⟨c54,hc54,h⟩:=bind_some h
 refine ⟨_,(zgb c53.Obs w_ c54 (fun _ _=>hc54)),?_⟩
 conv=>whnf
 refine Both.mk ?_ ?_<;>intro b55
 replace h:=cond_t b55 h
 conv=>whnf
 refine Side.mk rfl ?_
 conv=>whnf
 refine Side.mk rfl ?_
 conv=>whnf
 refine Arith.wr _ (mdI_eq _) ?_
 conv=>whnf
 refine Side.mk rfl ?_
 conv=>whnf
 refine Side.mk rfl ?_
 conv=>whnf
 refine Side.mk rfl ?_
 conv=>whnf
 obtain ⟨c56,hc56,h⟩:=bind_some h
 refine ⟨_,(za4 c54.1 c56 (hc56)).im,?_⟩
 conv=>whnf
 refine Side.mk rfl ?_
 conv=>whnf
 cases h
 conv=>whnf
 refine Side.mk ⟨rfl,trivial⟩ ?_
 conv=>whnf
 exact ⟨rfl,rfl⟩
 replace h:=cond_f b55 h
 conv=>whnf
 refine Side.mk rfl ?_
 conv=>whnf
 refine Side.mk rfl ?_
 conv=>whnf
 obtain ⟨⟨y252,y253,y254,y255,y256,y257,y258,y259,y260,y261,y262,y263,y264,y265,y266,y267,answer268,code269⟩,hc,hk57⟩:=bind_some h
 clear h
 have h:=hc
 clear hc
 refine Cut.mk (mkSt [(1,.im (nL cI w_)),(2,.own 103 1 0),(4,.own 104 1 0),(11,.im (nL cI answer268)),(12,.im (nI code269))] [(103,.box 37 21),(104,.box 37 21)] [(103,0,.im (nI y252)),(103,1,.im (nI y253)),(103,2,.im (nL (cL cI) y254)),(103,3,.im (nL (cL cI) y255)),(103,4,.im (nI y256)),(103,5,.im (nB y257)),(103,6,.im (nL cI y258)),(103,7,.im (nI y259)),(103,8,.im (nI y260)),(103,9,.im (nI y261)),(103,10,.im (nI y262)),(103,11,.im (nU y263)),(103,12,.im (nI y264)),(103,13,.im (nI y265)),(103,14,.im (nI y266)),(103,15,.im (nI c53.Obs.Inputs)),(103,16,.im (nL zac c53.Obs.Traces)),(103,17,.im (nI c53.Votes)),(103,18,.im (nI c53.Tries)),(103,19,.im (nI y267)),(103,20,.im (nI c53.Hits)),(104,0,.im (nI 0)),(104,1,.im (nI 0)),(104,2,.im (.val (.slice none 0 0))),(104,3,.im (.val (.slice none 0 0))),(104,4,.im (nI 0)),(104,5,.im (nB false)),(104,6,.im (.val (.slice none 0 0))),(104,7,.im (nI 0)),(104,8,.im (nI 0)),(104,9,.im (nI 0)),(104,10,.im (nI 0)),(104,11,.im (nU 0)),(104,12,.im (nI 0)),(104,13,.im (nI 0)),(104,14,.im (nI 0)),(104,15,.im (nI 0)),(104,16,.im (.val (.slice none 0 0))),(104,17,.im (nI 0)),(104,18,.im (nI 0)),(104,19,.im (nI 0)),(104,20,.im (nI 0))]) (lZ w_∧lZ answer268∧lZ y254∧lZ y255∧lZ y258∧lZ c53.Obs.Traces∧True) ((Holds.avl 1 rfl).and ((Holds.avl 11 rfl).and ((Holds.cel 103 2 rfl (by decide) rfl).and ((Holds.cel 103 3 rfl (by decide) rfl).and ((Holds.cel 103 6 rfl (by decide) rfl).and ((Holds.cel 103 16 rfl (by decide) rfl).and (hT))))))) ?_ (fun hp=>?_)
 conv=>whnf
 refine Loops.iter (fun (s:Int×Int×List (List Int)×List (List Int)×Int×Bool×List Int×Int×Int×Int×Int×Int×Int×Int×Int×Int×List (List Int)×List Int×Int×Int)=>zbl.s10 w_ c53 s.1 s.2.1 s.2.2.1 s.2.2.2.1 s.2.2.2.2.1 s.2.2.2.2.2.1 s.2.2.2.2.2.2.1 s.2.2.2.2.2.2.2.1 s.2.2.2.2.2.2.2.2.1 s.2.2.2.2.2.2.2.2.2.1 s.2.2.2.2.2.2.2.2.2.2.1 s.2.2.2.2.2.2.2.2.2.2.2.1 s.2.2.2.2.2.2.2.2.2.2.2.2.1 s.2.2.2.2.2.2.2.2.2.2.2.2.2.1 s.2.2.2.2.2.2.2.2.2.2.2.2.2.2.1 s.2.2.2.2.2.2.2.2.2.2.2.2.2.2.2.1 s.2.2.2.2.2.2.2.2.2.2.2.2.2.2.2.2.1 s.2.2.2.2.2.2.2.2.2.2.2.2.2.2.2.2.2.1 s.2.2.2.2.2.2.2.2.2.2.2.2.2.2.2.2.2.2.1 s.2.2.2.2.2.2.2.2.2.2.2.2.2.2.2.2.2.2.2) (fun (y362,y363,y364,y365,y366,y367,y368,y369,y370,y371,y372,y373,y374,y375,y376,y377,y378,answer379,code380,y381)=>mkSt [(1,.im (nL cI w_)),(2,.own 103 1 0),(4,.own 104 1 0),(10,.osl 105 1),(11,.im (nL cI answer379)),(12,.im (nI code380)),(46,.im (nI c53.Tries)),(47,.im (nI y381))] [(103,.box 37 21),(104,.box 37 21),(105,.row 25 1 (List.map (cL cI) y378))] [(103,0,.im (nI y362)),(103,1,.im (nI y363)),(103,2,.im (nL (cL cI) y364)),(103,3,.im (nL (cL cI) y365)),(103,4,.im (nI y366)),(103,5,.im (nB y367)),(103,6,.im (nL cI y368)),(103,7,.im (nI y369)),(103,8,.im (nI y370)),(103,9,.im (nI y371)),(103,10,.im (nI y372)),(103,11,.im (nU y373)),(103,12,.im (nI y374)),(103,13,.im (nI y375)),(103,14,.im (nI y376)),(103,15,.im (nI c53.Obs.Inputs)),(103,16,.im (nL zac c53.Obs.Traces)),(103,17,.im (nI c53.Votes)),(103,18,.im (nI c53.Tries)),(103,19,.im (nI y377)),(103,20,.im (nI c53.Hits)),(104,0,.im (nI 0)),(104,1,.im (nI 0)),(104,2,.im (.val (.slice none 0 0))),(104,3,.im (.val (.slice none 0 0))),(104,4,.im (nI 0)),(104,5,.im (nB false)),(104,6,.im (.val (.slice none 0 0))),(104,7,.im (nI 0)),(104,8,.im (nI 0)),(104,9,.im (nI 0)),(104,10,.im (nI 0)),(104,11,.im (nU 0)),(104,12,.im (nI 0)),(104,13,.im (nI 0)),(104,14,.im (nI 0)),(104,15,.im (nI 0)),(104,16,.im (.val (.slice none 0 0))),(104,17,.im (nI 0)),(104,18,.im (nI 0)),(104,19,.im (nI 0)),(104,20,.im (nI 0))]) (fun (y362,y363,y364,y365,y366,y367,y368,y369,y370,y371,y372,y373,y374,y375,y376,y377,y378,answer379,code380,y381)=>lZ w_∧lZ answer379∧lZ y364∧lZ y365∧lZ y368∧lZ c53.Obs.Traces∧lZ y378∧True) h (Ent.mk [(103,some 2),(104,some 4),(105,none)] rfl ⟨eI rfl rfl,⟨.own 2 _ 0,rfl,.own rfl rfl rfl⟩,⟨.own 4 _ 0,rfl,.own rfl rfl rfl⟩,⟨.im (.val (.slice none 0 0)),rfl,.made rfl rfl⟩,⟨.im (.val (.slice none 0 0)),rfl,.im (Sub.nz' rfl)⟩,eI rfl rfl,eI rfl rfl,eI rfl rfl,trivial⟩ ⟨.inl ⟨2,rfl,rfl,trivial⟩,.inl ⟨4,rfl,rfl,trivial⟩,.inr ⟨rfl,rfl,.inl ⟨_,_,rfl,by decide⟩⟩,trivial⟩ ⟨⟨2,.im _,rfl,rfl,.im (Sub.rfl' rfl)⟩,⟨2,.im _,rfl,rfl,.im (Sub.rfl' rfl)⟩,⟨2,.im _,rfl,rfl,.im (Sub.rfl' rfl)⟩,⟨2,.im _,rfl,rfl,.im (Sub.rfl' rfl)⟩,⟨2,.im _,rfl,rfl,.im (Sub.rfl' rfl)⟩,⟨2,.im _,rfl,rfl,.im (Sub.rfl' rfl)⟩,⟨2,.im _,rfl,rfl,.im (Sub.rfl' rfl)⟩,⟨2,.im _,rfl,rfl,.im (Sub.rfl' rfl)⟩,⟨2,.im _,rfl,rfl,.im (Sub.rfl' rfl)⟩,⟨2,.im _,rfl,rfl,.im (Sub.rfl' rfl)⟩,⟨2,.im _,rfl,rfl,.im (Sub.rfl' rfl)⟩,⟨2,.im _,rfl,rfl,.im (Sub.rfl' rfl)⟩,⟨2,.im _,rfl,rfl,.im (Sub.rfl' rfl)⟩,⟨2,.im _,rfl,rfl,.im (Sub.rfl' rfl)⟩,⟨2,.im _,rfl,rfl,.im (Sub.rfl' rfl)⟩,⟨2,.im _,rfl,rfl,.im (Sub.rfl' rfl)⟩,⟨2,.im _,rfl,rfl,.im (Sub.rfl' rfl)⟩,⟨2,.im _,rfl,rfl,.im (Sub.rfl' rfl)⟩,⟨2,.im _,rfl,rfl,.im (Sub.rfl' rfl)⟩,⟨2,.im _,rfl,rfl,.im (Sub.rfl' rfl)⟩,⟨2,.im _,rfl,rfl,.im (Sub.rfl' rfl)⟩,⟨4,.im _,rfl,rfl,.im (Sub.rfl' rfl)⟩,⟨4,.im _,rfl,rfl,.im (Sub.rfl' rfl)⟩,⟨4,.im (.val (.slice none 0 0)),rfl,rfl,.im (Sub.rfl' rfl)⟩,⟨4,.im (.val (.slice none 0 0)),rfl,rfl,.im (Sub.rfl' rfl)⟩,⟨4,.im _,rfl,rfl,.im (Sub.rfl' rfl)⟩,⟨4,.im _,rfl,rfl,.im (Sub.rfl' rfl)⟩,⟨4,.im (.val (.slice none 0 0)),rfl,rfl,.im (Sub.rfl' rfl)⟩,⟨4,.im _,rfl,rfl,.im (Sub.rfl' rfl)⟩,⟨4,.im _,rfl,rfl,.im (Sub.rfl' rfl)⟩,⟨4,.im _,rfl,rfl,.im (Sub.rfl' rfl)⟩,⟨4,.im _,rfl,rfl,.im (Sub.rfl' rfl)⟩,⟨4,.im _,rfl,rfl,.im (Sub.rfl' rfl)⟩,⟨4,.im _,rfl,rfl,.im (Sub.rfl' rfl)⟩,⟨4,.im _,rfl,rfl,.im (Sub.rfl' rfl)⟩,⟨4,.im _,rfl,rfl,.im (Sub.rfl' rfl)⟩,⟨4,.im _,rfl,rfl,.im (Sub.rfl' rfl)⟩,⟨4,.im (.val (.slice none 0 0)),rfl,rfl,.im (Sub.rfl' rfl)⟩,⟨4,.im _,rfl,rfl,.im (Sub.rfl' rfl)⟩,⟨4,.im _,rfl,rfl,.im (Sub.rfl' rfl)⟩,⟨4,.im _,rfl,rfl,.im (Sub.rfl' rfl)⟩,⟨4,.im _,rfl,rfl,.im (Sub.rfl' rfl)⟩,trivial⟩) (by rintro ⟨y362,y363,y364,y365,y366,y367,y368,y369,y370,y371,y372,y373,y374,y375,y376,y377,y378,answer379,code380,y381⟩;exact ((Holds.avl 1 rfl).and ((Holds.avl 11 rfl).and ((Holds.cel 103 2 rfl (by decide) rfl).and ((Holds.cel 103 3 rfl (by decide) rfl).and ((Holds.cel 103 6 rfl (by decide) rfl).and ((Holds.cel 103 16 rfl (by decide) rfl).and ((Holds.kdl 105 rfl).and (hT))))))))) ?_
 clear h
 rintro k ⟨y362,y363,y364,y365,y366,y367,y368,y369,y370,y371,y372,y373,y374,y375,y376,y377,y378,answer379,code380,y381⟩ o hp h ho419
 replace h:zbl.s10 w_ c53 y362 y363 y364 y365 y366 y367 y368 y369 y370 y371 y372 y373 y374 y375 y376 y377 y378 answer379 code380 y381=some o:=h
 unfold zbl.s10 at h
 obtain ⟨z457,z458,z459,z460,z461,z462,z463,_⟩:=hp
 conv=>whnf
 refine Both.mk ?_ ?_<;>intro b420
 obtain ⟨h,b420d⟩:=ctd b420 h
 conv=>whnf
 obtain ⟨oc,hc,hk421⟩:=bind_some h
 clear h
 have h:=hc
 clear hc
 refine Cut.mkS oc (Y:=Int×Int×List (List Int)×List (List Int)×Int×Bool×List Int×Int×Int×Int×Int×Int×Int×Int×Int×List (List Int)×List Int×Int) (fun (y427,y428,y429,y430,y431,y432,y433,y434,y435,y436,y437,y438,y439,y440,y441,y442,answer443,code444)=>mkSt [(1,.im (nL cI w_)),(2,.own 103 1 0),(4,.own 104 1 0),(10,.osl 105 1),(11,.im (nL cI answer443)),(12,.im (nI code444)),(46,.im (nI c53.Tries)),(47,.im (nI y381))] [(103,.box 37 21),(104,.box 37 21),(105,.row 25 1 (List.map (cL cI) y442))] [(103,0,.im (nI y427)),(103,1,.im (nI y428)),(103,2,.im (nL (cL cI) y429)),(103,3,.im (nL (cL cI) y430)),(103,4,.im (nI y431)),(103,5,.im (nB y432)),(103,6,.im (nL cI y433)),(103,7,.im (nI y434)),(103,8,.im (nI y435)),(103,9,.im (nI y436)),(103,10,.im (nI y437)),(103,11,.im (nU y438)),(103,12,.im (nI y439)),(103,13,.im (nI y440)),(103,14,.im (nI y441)),(103,15,.im (nI c53.Obs.Inputs)),(103,16,.im (nL zac c53.Obs.Traces)),(103,17,.im (nI c53.Votes)),(103,18,.im (nI c53.Tries)),(103,19,.im (nI (mdI (y377+1)))),(103,20,.im (nI c53.Hits)),(104,0,.im (nI 0)),(104,1,.im (nI 0)),(104,2,.im (.val (.slice none 0 0))),(104,3,.im (.val (.slice none 0 0))),(104,4,.im (nI 0)),(104,5,.im (nB false)),(104,6,.im (.val (.slice none 0 0))),(104,7,.im (nI 0)),(104,8,.im (nI 0)),(104,9,.im (nI 0)),(104,10,.im (nI 0)),(104,11,.im (nU 0)),(104,12,.im (nI 0)),(104,13,.im (nI 0)),(104,14,.im (nI 0)),(104,15,.im (nI 0)),(104,16,.im (.val (.slice none 0 0))),(104,17,.im (nI 0)),(104,18,.im (nI 0)),(104,19,.im (nI 0)),(104,20,.im (nI 0))]) (fun (y427,y428,y429,y430,y431,y432,y433,y434,y435,y436,y437,y438,y439,y440,y441,y442,answer443,code444)=>lZ w_∧lZ answer443∧lZ y429∧lZ y430∧lZ y433∧lZ c53.Obs.Traces∧lZ y442∧True) (by rintro ⟨y427,y428,y429,y430,y431,y432,y433,y434,y435,y436,y437,y438,y439,y440,y441,y442,answer443,code444⟩;exact ((Holds.avl 1 rfl).and ((Holds.avl 11 rfl).and ((Holds.cel 103 2 rfl (by decide) rfl).and ((Holds.cel 103 3 rfl (by decide) rfl).and ((Holds.cel 103 6 rfl (by decide) rfl).and ((Holds.cel 103 16 rfl (by decide) rfl).and ((Holds.kdl 105 rfl).and (hT))))))))) ?_ ?_
 conv=>whnf
 refine Side.mk rfl ?_
 conv=>whnf
 refine Side.mk rfl ?_
 conv=>whnf
 obtain ⟨c445,hc445,h⟩:=bind_some h
 refine ⟨_,(zll (⟨(⟨y362,y363,y364,y365⟩:zab),y366,y367,(⟨y368,y369⟩:zav),(⟨y370,y371,y372⟩:zbg),y373,y374,y375,y376⟩:zaf) w_ c445 (fun _ _=>hc445)),?_⟩
 conv=>whnf
 refine Side.mk rfl ?_
 conv=>whnf
 refine Side.mk rfl ?_
 conv=>whnf
 refine Side.mk rfl ?_
 conv=>whnf
 refine Side.mk rfl ?_
 conv=>whnf
 refine Side.mk rfl ?_
 conv=>whnf
 refine Side.mk rfl ?_
 conv=>whnf
 refine Arith.wr _ (mdI_eq _) ?_
 conv=>whnf
 refine Side.mk rfl ?_
 conv=>whnf
 refine Side.mk rfl ?_
 conv=>whnf
 refine Both.mk ?_ ?_<;>intro b446
 obtain ⟨h,b446d⟩:=ctd b446 h
 conv=>whnf
 cases h
 exact JoinS.mk' _ rfl (eA [(103,some 103),(104,some 104),(105,some 105)])
 obtain ⟨h,b446d⟩:=cfd b446 h
 conv=>whnf
 obtain ⟨c447,h⟩:=chk_some h
 refine Side.mk ⟨rfl,map_len (l:=[c445.2.1]) (c:=cL cI) fun _=>rfl,show capOk _ 24 by simpa only [List.length_map,List.length_cons,List.length_nil,Nat.zero_add] using c447⟩ ?_
 conv=>whnf
 refine Nf.mk (List.map (cL cI) (y378++[c445.2.1])) (app_map (l:=y378) (m:=[c445.2.1]) (c:=cL cI)) ?_
 conv=>whnf
 refine Side.mk rfl ?_
 conv=>whnf
 refine Side.mk rfl ?_
 conv=>whnf
 refine Side.mk ⟨rfl,trivial⟩ ?_
 conv=>whnf
 obtain ⟨c448,hc448,h⟩:=bind_some h
 refine ⟨_,(zj8 (y378++[c445.2.1]) c53.Votes c448 (fun _ _=>hc448)),?_⟩
 conv=>whnf
 refine Both.mk ?_ ?_<;>intro b449
 obtain ⟨h,b449d⟩:=ctd b449 h
 conv=>whnf
 cases h
 replace h:some _=some _:=hk421
 cases h
 have ho419:_=_:=ho419
 cases ho419
 exact Join.mk (eA [(103,some 103),(104,some 104)])
 obtain ⟨h,b449d⟩:=cfd b449 h
 conv=>whnf
 cases h
 exact JoinS.mk' _ rfl (eA [(103,some 103),(104,some 104),(105,some 105)])
 rintro ⟨y427,y428,y429,y430,y431,y432,y433,y434,y435,y436,y437,y438,y439,y440,y441,y442,answer443,code444⟩ rfl hp
 have hx_:=sum_inl hk421
 replace h:zbl.k9 y377 y381 y427 y428 y429 y430 y431 y432 y433 y434 y435 y436 y437 y438 y439 y440 y441 y442 answer443 code444=some _:=hx_
 clear hx_
 unfold zbl.k9 at h
 obtain ⟨z450,z451,z452,z453,z454,z455,z456,_⟩:=hp
 conv=>whnf
 refine Arith.wr _ (mdI_eq _) ?_
 conv=>whnf
 cases h
 exact Nxt.mk _ ho419 (eA [(103,some 103),(104,some 104),(105,some 105)])
 obtain ⟨h,b420d⟩:=cfd b420 h
 conv=>whnf
 cases h
 have ho419:_=_:=ho419
 cases ho419
 exact Join.mk (eA [(103,some 103),(104,some 104)])
 replace h:zbl.k11 w_ c53 y252 y253 y254 y255 y256 y257 y258 y259 y260 y261 y262 y263 y264 y265 y266 y267 answer268 code269=some _:=hk57
 unfold zbl.k11 at h
 obtain ⟨z464,z465,z466,z467,z468,z469,_⟩:=hp
 conv=>whnf
 refine Both.mk ?_ ?_<;>intro b470
 obtain ⟨h,b470d⟩:=ctd b470 h
 conv=>whnf
 refine Side.mk rfl ?_
 conv=>whnf
 refine Side.mk rfl ?_
 conv=>whnf
 cases h
 conv=>whnf
 refine Side.mk ⟨rfl,trivial⟩ ?_
 conv=>whnf
 exact ⟨rfl,rfl⟩
 obtain ⟨h,b470d⟩:=cfd b470 h
 conv=>whnf
 refine Side.mk rfl ?_
 conv=>whnf
 refine Side.mk rfl ?_
 conv=>whnf
 obtain ⟨c471,hc471,h⟩:=bind_some h
 refine ⟨_,(za4 w_ c471 (hc471)).im,?_⟩
 conv=>whnf
 obtain ⟨c472,hc472,h⟩:=bind_some h
 refine ⟨_,(za4 answer268 c472 (hc472)).im,?_⟩
 conv=>whnf
 obtain ⟨c473,hc473,h⟩:=bind_some h
 refine ⟨_,(zmt c53.Obs (⟨c471,c472⟩:zaa) c473 (fun _ _=>hc473)),?_⟩
 conv=>whnf
 refine Side.mk rfl ?_
 conv=>whnf
 refine Both.mk ?_ ?_<;>intro b474
 obtain ⟨h,b474d⟩:=ctd b474 h
 conv=>whnf
 refine Side.mk rfl ?_
 conv=>whnf
 refine Side.mk rfl ?_
 conv=>whnf
 cases h
 conv=>whnf
 refine Side.mk ⟨rfl,trivial⟩ ?_
 conv=>whnf
 exact ⟨rfl,rfl⟩
 obtain ⟨h,b474d⟩:=cfd b474 h
 conv=>whnf
 refine Side.mk rfl ?_
 conv=>whnf
 refine Side.mk rfl ?_
 conv=>whnf
 refine Side.mk rfl ?_
 conv=>whnf
 refine Side.mk rfl ?_
 conv=>whnf
 obtain ⟨c475,hc475,h⟩:=bind_some h
 refine ⟨_,(za4 answer268 c475 (hc475)).im,?_⟩
 conv=>whnf
 refine Side.mk rfl ?_
 conv=>whnf
 cases h
 conv=>whnf
 refine Side.mk ⟨rfl,trivial⟩ ?_
 conv=>whnf
 exact ⟨rfl,rfl⟩
theorem zmu (q_:zae) (b_:za0) (r:zae×zai×Int) (h:Ok (.agg (zbj q_))→Ok (.agg (zbd b_))→zas q_ b_=some r):Sp Tryz.prog 11 [.im (.agg (zbj q_)),.im (.agg (zbd b_))] (.tup [.agg (zbj r.1),.agg (zj0 r.2.1),nI r.2.2]):=by
 refine sp_of rfl [72000,87000,700003,900071,1000000000000072704,1000000000000072705,1000000000000072706,1000000000000072707,1000000000000072708,72710*1000000000+55*100+2] rfl rfl rfl (Nat.le_of_ble_eq_true rfl) rfl fun hk=>?_
 replace h:=h hk.1 hk.2.1
 have z1:lZ q_.Device.M.Next:=ok_len (Ok.agg_at hk.1 2 rfl)
 have z2:lZ q_.Device.M.Out:=ok_len (Ok.agg_at hk.1 3 rfl)
 have z3:lZ q_.Device.Latency.Step:=ok_len (Ok.agg_at hk.1 6 rfl)
 have z4:lZ q_.Obs.Traces:=ok_len (Ok.agg_at hk.1 16 rfl)
 have z5:lZ b_.M.Next:=ok_len (Ok.agg_at hk.2.1 2 rfl)
 have z6:lZ b_.M.Out:=ok_len (Ok.agg_at hk.2.1 3 rfl)
 have z7:lZ b_.Words:=ok_len (Ok.agg_at hk.2.1 4 rfl)
 unfold zas at h
 conv=>whnf
 obtain ⟨c51,hc51,h⟩:=bind_some h
 refine ⟨_,(zbr b_.M c51 (fun _=>hc51)),?_⟩
 conv=>whnf
 refine Both.mk ?_ ?_<;>intro b52
 obtain ⟨h,b52d⟩:=ctd b52 h
 conv=>whnf
 refine Side.mk rfl ?_
 conv=>whnf
 refine Side.mk rfl ?_
 conv=>whnf
 refine Side.mk rfl ?_
 conv=>whnf
 cases h
 conv=>whnf
 refine Side.mk ⟨rfl,rfl,trivial⟩ ?_
 conv=>whnf
 exact ⟨rfl,rfl⟩
 obtain ⟨h,b52d⟩:=cfd b52 h
 conv=>whnf
 refine Nf.mk (List.length b_.Words) len_map ?_
 conv=>whnf
 refine Both.mk ?_ ?_<;>intro b53
 obtain ⟨h,b53d⟩:=ctd b53 h
 conv=>whnf
 refine Side.mk rfl ?_
 conv=>whnf
 refine Side.mk rfl ?_
 conv=>whnf
 refine Side.mk rfl ?_
 conv=>whnf
 cases h
 conv=>whnf
 refine Side.mk ⟨rfl,rfl,trivial⟩ ?_
 conv=>whnf
 exact ⟨rfl,rfl⟩
 obtain ⟨h,b53d⟩:=cfd b53 h
 conv=>whnf
 refine Nf.mk (List.length b_.Words) len_map ?_
 conv=>whnf
 obtain ⟨oc,hc,hk54⟩:=bind_some h
 clear h
 have h:=hc
 clear hc
 refine Cut.mkS oc (Y:=Unit) (fun (_:Unit)=>mkSt [(2,.own 98 1 0),(3,.im (.ref (zbd b_))),(4,.own 99 1 0),(5,.own 100 1 0)] [(98,.box 37 21),(99,.box 37 21),(100,.box 45 2)] [(98,0,.im (nI q_.Device.M.Inputs)),(98,1,.im (nI q_.Device.M.Start)),(98,2,.im (nL (cL cI) q_.Device.M.Next)),(98,3,.im (nL (cL cI) q_.Device.M.Out)),(98,4,.im (nI q_.Device.State)),(98,5,.im (nB q_.Device.Ready)),(98,6,.im (nL cI q_.Device.Latency.Step)),(98,7,.im (nI q_.Device.Latency.Reset)),(98,8,.im (nI q_.Device.Faults.Lost)),(98,9,.im (nI q_.Device.Faults.Wrong)),(98,10,.im (nI q_.Device.Faults.Crash)),(98,11,.im (nU q_.Device.Seed)),(98,12,.im (nI q_.Device.Steps)),(98,13,.im (nI q_.Device.Resets)),(98,14,.im (nI q_.Device.Time)),(98,15,.im (nI q_.Obs.Inputs)),(98,16,.im (nL zac q_.Obs.Traces)),(98,17,.im (nI q_.Votes)),(98,18,.im (nI q_.Tries)),(98,19,.im (nI q_.Asked)),(98,20,.im (nI q_.Hits)),(99,0,.im (nI 0)),(99,1,.im (nI 0)),(99,2,.im (.val (.slice none 0 0))),(99,3,.im (.val (.slice none 0 0))),(99,4,.im (nI 0)),(99,5,.im (nB false)),(99,6,.im (.val (.slice none 0 0))),(99,7,.im (nI 0)),(99,8,.im (nI 0)),(99,9,.im (nI 0)),(99,10,.im (nI 0)),(99,11,.im (nU 0)),(99,12,.im (nI 0)),(99,13,.im (nI 0)),(99,14,.im (nI 0)),(99,15,.im (nI 0)),(99,16,.im (.val (.slice none 0 0))),(99,17,.im (nI 0)),(99,18,.im (nI 0)),(99,19,.im (nI 0)),(99,20,.im (nI 0)),(100,0,.im (nI 0)),(100,1,.im (.val (.slice none 0 0)))]) (fun (_:Unit)=>lZ q_.Device.M.Next∧lZ q_.Device.M.Out∧lZ q_.Device.Latency.Step∧lZ q_.Obs.Traces∧True) (by rintro ⟨⟩;exact ((Holds.cel 98 2 rfl (by decide) rfl).and ((Holds.cel 98 3 rfl (by decide) rfl).and ((Holds.cel 98 6 rfl (by decide) rfl).and ((Holds.cel 98 16 rfl (by decide) rfl).and (hT)))))) ?_ ?_
 conv=>whnf
 refine Loops.iter (fun (s:Nat)=>zas.s2 q_ b_ s) (fun y78=>mkSt [(2,.own 98 1 0),(3,.im (.ref (zbd b_))),(4,.own 99 1 0),(5,.own 100 1 0),(32,.im (nL (cL cI) b_.Words)),(33,.im (nI (↑(List.length b_.Words):Int))),(34,.im (nI (↑y78:Int)))] [(98,.box 37 21),(99,.box 37 21),(100,.box 45 2)] [(98,0,.im (nI q_.Device.M.Inputs)),(98,1,.im (nI q_.Device.M.Start)),(98,2,.im (nL (cL cI) q_.Device.M.Next)),(98,3,.im (nL (cL cI) q_.Device.M.Out)),(98,4,.im (nI q_.Device.State)),(98,5,.im (nB q_.Device.Ready)),(98,6,.im (nL cI q_.Device.Latency.Step)),(98,7,.im (nI q_.Device.Latency.Reset)),(98,8,.im (nI q_.Device.Faults.Lost)),(98,9,.im (nI q_.Device.Faults.Wrong)),(98,10,.im (nI q_.Device.Faults.Crash)),(98,11,.im (nU q_.Device.Seed)),(98,12,.im (nI q_.Device.Steps)),(98,13,.im (nI q_.Device.Resets)),(98,14,.im (nI q_.Device.Time)),(98,15,.im (nI q_.Obs.Inputs)),(98,16,.im (nL zac q_.Obs.Traces)),(98,17,.im (nI q_.Votes)),(98,18,.im (nI q_.Tries)),(98,19,.im (nI q_.Asked)),(98,20,.im (nI q_.Hits)),(99,0,.im (nI 0)),(99,1,.im (nI 0)),(99,2,.im (.val (.slice none 0 0))),(99,3,.im (.val (.slice none 0 0))),(99,4,.im (nI 0)),(99,5,.im (nB false)),(99,6,.im (.val (.slice none 0 0))),(99,7,.im (nI 0)),(99,8,.im (nI 0)),(99,9,.im (nI 0)),(99,10,.im (nI 0)),(99,11,.im (nU 0)),(99,12,.im (nI 0)),(99,13,.im (nI 0)),(99,14,.im (nI 0)),(99,15,.im (nI 0)),(99,16,.im (.val (.slice none 0 0))),(99,17,.im (nI 0)),(99,18,.im (nI 0)),(99,19,.im (nI 0)),(99,20,.im (nI 0)),(100,0,.im (nI 0)),(100,1,.im (.val (.slice none 0 0)))]) (fun y78=>lZ b_.Words∧lZ q_.Device.M.Next∧lZ q_.Device.M.Out∧lZ q_.Device.Latency.Step∧lZ q_.Obs.Traces∧True) h (eA [(98,some 2),(99,some 4),(100,some 5)]) (by rintro y78;exact ((Holds.avl 32 rfl).and ((Holds.cel 98 2 rfl (by decide) rfl).and ((Holds.cel 98 3 rfl (by decide) rfl).and ((Holds.cel 98 6 rfl (by decide) rfl).and ((Holds.cel 98 16 rfl (by decide) rfl).and (hT))))))) ?_
 clear h
 rintro k y78 o hp h ho83
 replace h:zas.s2 q_ b_ y78=some o:=h
 unfold zas.s2 at h
 obtain ⟨z88,z89,z90,z91,z92,_⟩:=hp
 conv=>whnf
 refine Both.mk ?_ ?_<;>intro b84
 obtain ⟨h,b84d⟩:=ctd b84 h
 conv=>whnf
 obtain ⟨e85,he85,h⟩:=zaj h
 refine ⟨_,⟨(by omega),map_at he85,rfl⟩,?_⟩
 conv=>whnf
 obtain ⟨c86,hc86,h⟩:=bind_some h
 refine ⟨_,(zdb e85 b_.M.Inputs c86 (fun _ _=>hc86)),?_⟩
 conv=>whnf
 refine Both.mk ?_ ?_<;>intro b87
 obtain ⟨h,b87d⟩:=ctd b87 h
 conv=>whnf
 refine Side.mk rfl ?_
 conv=>whnf
 refine Side.mk rfl ?_
 conv=>whnf
 refine Side.mk rfl ?_
 conv=>whnf
 cases h
 have ho83:_=_:=ho83
 cases ho83
 replace h:some _=some _:=hk54
 cases h
 conv=>whnf
 refine Side.mk ⟨rfl,rfl,trivial⟩ ?_
 conv=>whnf
 exact ⟨rfl,rfl⟩
 obtain ⟨h,b87d⟩:=cfd b87 h
 conv=>whnf
 refine Arith.mk (by show inR _;unfold inR;omega) ?_
 conv=>whnf
 cases h
 exact Nxt.mk _ ho83 (eA [(98,some 98),(99,some 99),(100,some 100)])
 obtain ⟨h,b84d⟩:=cfd b84 h
 conv=>whnf
 cases h
 have ho83:_=_:=ho83
 cases ho83
 exact JoinS.mk' _ rfl (eA [(98,some 98),(99,some 99),(100,some 100)])
 rintro ⟨⟩ rfl hp
 replace h:=sum_inl hk54
 obtain ⟨z93,z94,z95,z96,_⟩:=hp
 conv=>whnf
 refine Side.mk rfl ?_
 conv=>whnf
 refine Side.mk rfl ?_
 conv=>whnf
 refine Side.mk rfl ?_
 conv=>whnf
 refine Both.mk ?_ ?_<;>intro b97
 obtain ⟨h,b97d⟩:=ctd b97 h
 conv=>whnf
 refine Side.mk rfl ?_
 conv=>whnf
 refine Side.mk rfl ?_
 conv=>whnf
 refine Side.mk rfl ?_
 conv=>whnf
 cases h
 conv=>whnf
 refine Side.mk ⟨rfl,rfl,trivial⟩ ?_
 conv=>whnf
 exact ⟨rfl,rfl⟩
 obtain ⟨h,b97d⟩:=cfd b97 h
 conv=>whnf
 refine Nf.mk (List.length b_.Words) len_map ?_
 conv=>whnf
 obtain ⟨oc,hc,hk98⟩:=bind_some h
 clear h
 have h:=hc
 clear hc
 refine Cut.mkS oc (Y:=Int×Int×List (List Int)×List (List Int)×Int×Bool×List Int×Int×Int×Int×Int×Int×Int×Int×Int×Int×List zaa×Int×Int×Int×Int×Int×Int×List (List Int)×List (List Int)×Int×List zaa) (fun (y403,y404,y405,y406,y407,y408,y409,y410,y411,y412,y413,y414,y415,y416,y417,y418,y419,y420,y421,y422,y423,y424,y425,y426,y427,y428,y429)=>mkSt [(2,.own 98 1 0),(4,.own 99 1 0),(5,.own 100 1 0),(11,.own 101 1 0)] [(98,.box 37 21),(99,.box 37 21),(100,.box 45 2),(101,.box 83 6),(102,.row 55 2 (List.map zac y429))] [(98,0,.im (nI y403)),(98,1,.im (nI y404)),(98,2,.im (nL (cL cI) y405)),(98,3,.im (nL (cL cI) y406)),(98,4,.im (nI y407)),(98,5,.im (nB y408)),(98,6,.im (nL cI y409)),(98,7,.im (nI y410)),(98,8,.im (nI y411)),(98,9,.im (nI y412)),(98,10,.im (nI y413)),(98,11,.im (nU y414)),(98,12,.im (nI y415)),(98,13,.im (nI y416)),(98,14,.im (nI y417)),(98,15,.im (nI y418)),(98,16,.im (nL zac y419)),(98,17,.im (nI y420)),(98,18,.im (nI y421)),(98,19,.im (nI y422)),(98,20,.im (nI y423)),(99,0,.im (nI 0)),(99,1,.im (nI 0)),(99,2,.im (.val (.slice none 0 0))),(99,3,.im (.val (.slice none 0 0))),(99,4,.im (nI 0)),(99,5,.im (nB false)),(99,6,.im (.val (.slice none 0 0))),(99,7,.im (nI 0)),(99,8,.im (nI 0)),(99,9,.im (nI 0)),(99,10,.im (nI 0)),(99,11,.im (nU 0)),(99,12,.im (nI 0)),(99,13,.im (nI 0)),(99,14,.im (nI 0)),(99,15,.im (nI 0)),(99,16,.im (.val (.slice none 0 0))),(99,17,.im (nI 0)),(99,18,.im (nI 0)),(99,19,.im (nI 0)),(99,20,.im (nI 0)),(100,0,.im (nI 0)),(100,1,.im (.val (.slice none 0 0))),(101,0,.im (nI y424)),(101,1,.im (nI y425)),(101,2,.im (nL (cL cI) y426)),(101,3,.im (nL (cL cI) y427)),(101,4,.im (nI y428)),(101,5,.osl 102 1)]) (fun (y403,y404,y405,y406,y407,y408,y409,y410,y411,y412,y413,y414,y415,y416,y417,y418,y419,y420,y421,y422,y423,y424,y425,y426,y427,y428,y429)=>lZ y405∧lZ y406∧lZ y409∧lZ y419∧lZ y426∧lZ y427∧lZ y429∧True) (by rintro ⟨y403,y404,y405,y406,y407,y408,y409,y410,y411,y412,y413,y414,y415,y416,y417,y418,y419,y420,y421,y422,y423,y424,y425,y426,y427,y428,y429⟩;exact ((Holds.cel 98 2 rfl (by decide) rfl).and ((Holds.cel 98 3 rfl (by decide) rfl).and ((Holds.cel 98 6 rfl (by decide) rfl).and ((Holds.cel 98 16 rfl (by decide) rfl).and ((Holds.cel 101 2 rfl (by decide) rfl).and ((Holds.cel 101 3 rfl (by decide) rfl).and ((Holds.kdl 102 rfl).and (hT))))))))) ?_ ?_
 conv=>whnf
 refine Loops.iter (fun (s:Int×Int×List (List Int)×List (List Int)×Int×Bool×List Int×Int×Int×Int×Int×Int×Int×Int×Int×Int×List zaa×Int×Int×Int×Int×Int×Int×List (List Int)×List (List Int)×Int×List zaa×Nat)=>zas.s22 b_ s.1 s.2.1 s.2.2.1 s.2.2.2.1 s.2.2.2.2.1 s.2.2.2.2.2.1 s.2.2.2.2.2.2.1 s.2.2.2.2.2.2.2.1 s.2.2.2.2.2.2.2.2.1 s.2.2.2.2.2.2.2.2.2.1 s.2.2.2.2.2.2.2.2.2.2.1 s.2.2.2.2.2.2.2.2.2.2.2.1 s.2.2.2.2.2.2.2.2.2.2.2.2.1 s.2.2.2.2.2.2.2.2.2.2.2.2.2.1 s.2.2.2.2.2.2.2.2.2.2.2.2.2.2.1 s.2.2.2.2.2.2.2.2.2.2.2.2.2.2.2.1 s.2.2.2.2.2.2.2.2.2.2.2.2.2.2.2.2.1 s.2.2.2.2.2.2.2.2.2.2.2.2.2.2.2.2.2.1 s.2.2.2.2.2.2.2.2.2.2.2.2.2.2.2.2.2.2.1 s.2.2.2.2.2.2.2.2.2.2.2.2.2.2.2.2.2.2.2.1 s.2.2.2.2.2.2.2.2.2.2.2.2.2.2.2.2.2.2.2.2.1 s.2.2.2.2.2.2.2.2.2.2.2.2.2.2.2.2.2.2.2.2.2.1 s.2.2.2.2.2.2.2.2.2.2.2.2.2.2.2.2.2.2.2.2.2.2.1 s.2.2.2.2.2.2.2.2.2.2.2.2.2.2.2.2.2.2.2.2.2.2.2.1 s.2.2.2.2.2.2.2.2.2.2.2.2.2.2.2.2.2.2.2.2.2.2.2.2.1 s.2.2.2.2.2.2.2.2.2.2.2.2.2.2.2.2.2.2.2.2.2.2.2.2.2.1 s.2.2.2.2.2.2.2.2.2.2.2.2.2.2.2.2.2.2.2.2.2.2.2.2.2.2.1 s.2.2.2.2.2.2.2.2.2.2.2.2.2.2.2.2.2.2.2.2.2.2.2.2.2.2.2) (fun (y519,y520,y521,y522,y523,y524,y525,y526,y527,y528,y529,y530,y531,y532,y533,y534,y535,y536,y537,y538,y539,y540,y541,y542,y543,y544,y545,y546)=>mkSt [(2,.own 98 1 0),(4,.own 99 1 0),(5,.own 100 1 0),(11,.own 101 1 0),(63,.im (nL (cL cI) b_.Words)),(64,.im (nI (↑(List.length b_.Words):Int))),(65,.im (nI (↑y546:Int)))] [(98,.box 37 21),(99,.box 37 21),(100,.box 45 2),(101,.box 83 6),(102,.row 55 2 (List.map zac y545))] [(98,0,.im (nI y519)),(98,1,.im (nI y520)),(98,2,.im (nL (cL cI) y521)),(98,3,.im (nL (cL cI) y522)),(98,4,.im (nI y523)),(98,5,.im (nB y524)),(98,6,.im (nL cI y525)),(98,7,.im (nI y526)),(98,8,.im (nI y527)),(98,9,.im (nI y528)),(98,10,.im (nI y529)),(98,11,.im (nU y530)),(98,12,.im (nI y531)),(98,13,.im (nI y532)),(98,14,.im (nI y533)),(98,15,.im (nI y534)),(98,16,.im (nL zac y535)),(98,17,.im (nI y536)),(98,18,.im (nI y537)),(98,19,.im (nI y538)),(98,20,.im (nI y539)),(99,0,.im (nI 0)),(99,1,.im (nI 0)),(99,2,.im (.val (.slice none 0 0))),(99,3,.im (.val (.slice none 0 0))),(99,4,.im (nI 0)),(99,5,.im (nB false)),(99,6,.im (.val (.slice none 0 0))),(99,7,.im (nI 0)),(99,8,.im (nI 0)),(99,9,.im (nI 0)),(99,10,.im (nI 0)),(99,11,.im (nU 0)),(99,12,.im (nI 0)),(99,13,.im (nI 0)),(99,14,.im (nI 0)),(99,15,.im (nI 0)),(99,16,.im (.val (.slice none 0 0))),(99,17,.im (nI 0)),(99,18,.im (nI 0)),(99,19,.im (nI 0)),(99,20,.im (nI 0)),(100,0,.im (nI 0)),(100,1,.im (.val (.slice none 0 0))),(101,0,.im (nI y540)),(101,1,.im (nI y541)),(101,2,.im (nL (cL cI) y542)),(101,3,.im (nL (cL cI) y543)),(101,4,.im (nI y544)),(101,5,.osl 102 1)]) (fun (y519,y520,y521,y522,y523,y524,y525,y526,y527,y528,y529,y530,y531,y532,y533,y534,y535,y536,y537,y538,y539,y540,y541,y542,y543,y544,y545,y546)=>lZ b_.Words∧lZ y521∧lZ y522∧lZ y525∧lZ y535∧lZ y542∧lZ y543∧lZ y545∧True) h (Ent.mk [(98,some 98),(99,some 99),(100,some 100),(101,some 61),(102,none)] rfl ⟨⟨.own 98 _ 0,rfl,.own rfl rfl rfl⟩,⟨.own 99 _ 0,rfl,.own rfl rfl rfl⟩,⟨.own 100 _ 0,rfl,.own rfl rfl rfl⟩,⟨.own 61 _ 0,rfl,.own rfl rfl rfl⟩,eI rfl rfl,eI rfl rfl,eI rfl rfl,trivial⟩ ⟨.inl ⟨98,rfl,rfl,trivial⟩,.inl ⟨99,rfl,rfl,trivial⟩,.inl ⟨100,rfl,rfl,trivial⟩,.inl ⟨61,rfl,rfl,trivial⟩,.inr ⟨rfl,rfl,.inl ⟨_,_,rfl,by decide⟩⟩,trivial⟩ ⟨⟨98,.im _,rfl,rfl,.im (Sub.rfl' rfl)⟩,⟨98,.im _,rfl,rfl,.im (Sub.rfl' rfl)⟩,⟨98,.im _,rfl,rfl,.im (Sub.rfl' rfl)⟩,⟨98,.im _,rfl,rfl,.im (Sub.rfl' rfl)⟩,⟨98,.im _,rfl,rfl,.im (Sub.rfl' rfl)⟩,⟨98,.im _,rfl,rfl,.im (Sub.rfl' rfl)⟩,⟨98,.im _,rfl,rfl,.im (Sub.rfl' rfl)⟩,⟨98,.im _,rfl,rfl,.im (Sub.rfl' rfl)⟩,⟨98,.im _,rfl,rfl,.im (Sub.rfl' rfl)⟩,⟨98,.im _,rfl,rfl,.im (Sub.rfl' rfl)⟩,⟨98,.im _,rfl,rfl,.im (Sub.rfl' rfl)⟩,⟨98,.im _,rfl,rfl,.im (Sub.rfl' rfl)⟩,⟨98,.im _,rfl,rfl,.im (Sub.rfl' rfl)⟩,⟨98,.im _,rfl,rfl,.im (Sub.rfl' rfl)⟩,⟨98,.im _,rfl,rfl,.im (Sub.rfl' rfl)⟩,⟨98,.im _,rfl,rfl,.im (Sub.rfl' rfl)⟩,⟨98,.im _,rfl,rfl,.im (Sub.rfl' rfl)⟩,⟨98,.im _,rfl,rfl,.im (Sub.rfl' rfl)⟩,⟨98,.im _,rfl,rfl,.im (Sub.rfl' rfl)⟩,⟨98,.im _,rfl,rfl,.im (Sub.rfl' rfl)⟩,⟨98,.im _,rfl,rfl,.im (Sub.rfl' rfl)⟩,⟨99,.im _,rfl,rfl,.im (Sub.rfl' rfl)⟩,⟨99,.im _,rfl,rfl,.im (Sub.rfl' rfl)⟩,⟨99,.im (.val (.slice none 0 0)),rfl,rfl,.im (Sub.rfl' rfl)⟩,⟨99,.im (.val (.slice none 0 0)),rfl,rfl,.im (Sub.rfl' rfl)⟩,⟨99,.im _,rfl,rfl,.im (Sub.rfl' rfl)⟩,⟨99,.im _,rfl,rfl,.im (Sub.rfl' rfl)⟩,⟨99,.im (.val (.slice none 0 0)),rfl,rfl,.im (Sub.rfl' rfl)⟩,⟨99,.im _,rfl,rfl,.im (Sub.rfl' rfl)⟩,⟨99,.im _,rfl,rfl,.im (Sub.rfl' rfl)⟩,⟨99,.im _,rfl,rfl,.im (Sub.rfl' rfl)⟩,⟨99,.im _,rfl,rfl,.im (Sub.rfl' rfl)⟩,⟨99,.im _,rfl,rfl,.im (Sub.rfl' rfl)⟩,⟨99,.im _,rfl,rfl,.im (Sub.rfl' rfl)⟩,⟨99,.im _,rfl,rfl,.im (Sub.rfl' rfl)⟩,⟨99,.im _,rfl,rfl,.im (Sub.rfl' rfl)⟩,⟨99,.im _,rfl,rfl,.im (Sub.rfl' rfl)⟩,⟨99,.im (.val (.slice none 0 0)),rfl,rfl,.im (Sub.rfl' rfl)⟩,⟨99,.im _,rfl,rfl,.im (Sub.rfl' rfl)⟩,⟨99,.im _,rfl,rfl,.im (Sub.rfl' rfl)⟩,⟨99,.im _,rfl,rfl,.im (Sub.rfl' rfl)⟩,⟨99,.im _,rfl,rfl,.im (Sub.rfl' rfl)⟩,⟨100,.im _,rfl,rfl,.im (Sub.rfl' rfl)⟩,⟨100,.im (.val (.slice none 0 0)),rfl,rfl,.im (Sub.rfl' rfl)⟩,⟨61,.im _,rfl,rfl,.im (Sub.rfl' rfl)⟩,⟨61,.im _,rfl,rfl,.im (Sub.rfl' rfl)⟩,⟨61,.im _,rfl,rfl,.im (Sub.rfl' rfl)⟩,⟨61,.im _,rfl,rfl,.im (Sub.rfl' rfl)⟩,⟨61,.im _,rfl,rfl,.im (Sub.rfl' rfl)⟩,⟨61,.im (.val (.slice none 0 0)),rfl,rfl,.made rfl rfl⟩,trivial⟩) (by rintro ⟨y519,y520,y521,y522,y523,y524,y525,y526,y527,y528,y529,y530,y531,y532,y533,y534,y535,y536,y537,y538,y539,y540,y541,y542,y543,y544,y545,y546⟩;exact ((Holds.avl 63 rfl).and ((Holds.cel 98 2 rfl (by decide) rfl).and ((Holds.cel 98 3 rfl (by decide) rfl).and ((Holds.cel 98 6 rfl (by decide) rfl).and ((Holds.cel 98 16 rfl (by decide) rfl).and ((Holds.cel 101 2 rfl (by decide) rfl).and ((Holds.cel 101 3 rfl (by decide) rfl).and ((Holds.kdl 102 rfl).and (hT)))))))))) ?_
 clear h
 rintro k ⟨y519,y520,y521,y522,y523,y524,y525,y526,y527,y528,y529,y530,y531,y532,y533,y534,y535,y536,y537,y538,y539,y540,y541,y542,y543,y544,y545,y546⟩ o hp h ho636
 replace h:zas.s22 b_ y519 y520 y521 y522 y523 y524 y525 y526 y527 y528 y529 y530 y531 y532 y533 y534 y535 y536 y537 y538 y539 y540 y541 y542 y543 y544 y545 y546=some o:=h
 unfold zas.s22 at h
 obtain ⟨z726,z727,z728,z729,z730,z731,z732,z733,_⟩:=hp
 conv=>whnf
 refine Both.mk ?_ ?_<;>intro b637
 obtain ⟨h,b637d⟩:=ctd b637 h
 conv=>whnf
 obtain ⟨oc,hc,hk638⟩:=bind_some h
 clear h
 have h:=hc
 clear hc
 refine Cut.mkS oc (Y:=Int×Int×List (List Int)×List (List Int)×Int×Bool×List Int×Int×Int×Int×Int×Int×Int×Int×Int×Int×List zaa×Int×Int×Int×Int×Int×Int×List (List Int)×List (List Int)×Int×List zaa) (fun (y665,y666,y667,y668,y669,y670,y671,y672,y673,y674,y675,y676,y677,y678,y679,y680,y681,y682,y683,y684,y685,y686,y687,y688,y689,y690,y691)=>mkSt [(2,.own 98 1 0),(4,.own 99 1 0),(5,.own 100 1 0),(11,.own 101 1 0),(63,.im (nL (cL cI) b_.Words)),(64,.im (nI (↑(List.length b_.Words):Int))),(65,.im (nI (↑y546:Int)))] [(98,.box 37 21),(99,.box 37 21),(100,.box 45 2),(101,.box 83 6),(102,.row 55 2 (List.map zac y691))] [(98,0,.im (nI y665)),(98,1,.im (nI y666)),(98,2,.im (nL (cL cI) y667)),(98,3,.im (nL (cL cI) y668)),(98,4,.im (nI y669)),(98,5,.im (nB y670)),(98,6,.im (nL cI y671)),(98,7,.im (nI y672)),(98,8,.im (nI y673)),(98,9,.im (nI y674)),(98,10,.im (nI y675)),(98,11,.im (nU y676)),(98,12,.im (nI y677)),(98,13,.im (nI y678)),(98,14,.im (nI y679)),(98,15,.im (nI y680)),(98,16,.im (nL zac y681)),(98,17,.im (nI y682)),(98,18,.im (nI y683)),(98,19,.im (nI y684)),(98,20,.im (nI y685)),(99,0,.im (nI 0)),(99,1,.im (nI 0)),(99,2,.im (.val (.slice none 0 0))),(99,3,.im (.val (.slice none 0 0))),(99,4,.im (nI 0)),(99,5,.im (nB false)),(99,6,.im (.val (.slice none 0 0))),(99,7,.im (nI 0)),(99,8,.im (nI 0)),(99,9,.im (nI 0)),(99,10,.im (nI 0)),(99,11,.im (nU 0)),(99,12,.im (nI 0)),(99,13,.im (nI 0)),(99,14,.im (nI 0)),(99,15,.im (nI 0)),(99,16,.im (.val (.slice none 0 0))),(99,17,.im (nI 0)),(99,18,.im (nI 0)),(99,19,.im (nI 0)),(99,20,.im (nI 0)),(100,0,.im (nI 0)),(100,1,.im (.val (.slice none 0 0))),(101,0,.im (nI y686)),(101,1,.im (nI y687)),(101,2,.im (nL (cL cI) y688)),(101,3,.im (nL (cL cI) y689)),(101,4,.im (nI y690)),(101,5,.osl 102 1)]) (fun (y665,y666,y667,y668,y669,y670,y671,y672,y673,y674,y675,y676,y677,y678,y679,y680,y681,y682,y683,y684,y685,y686,y687,y688,y689,y690,y691)=>lZ b_.Words∧lZ y667∧lZ y668∧lZ y671∧lZ y681∧lZ y688∧lZ y689∧lZ y691∧True) (by rintro ⟨y665,y666,y667,y668,y669,y670,y671,y672,y673,y674,y675,y676,y677,y678,y679,y680,y681,y682,y683,y684,y685,y686,y687,y688,y689,y690,y691⟩;exact ((Holds.avl 63 rfl).and ((Holds.cel 98 2 rfl (by decide) rfl).and ((Holds.cel 98 3 rfl (by decide) rfl).and ((Holds.cel 98 6 rfl (by decide) rfl).and ((Holds.cel 98 16 rfl (by decide) rfl).and ((Holds.cel 101 2 rfl (by decide) rfl).and ((Holds.cel 101 3 rfl (by decide) rfl).and ((Holds.kdl 102 rfl).and (hT)))))))))) ?_ ?_
 conv=>whnf
 obtain ⟨e692,he692,h⟩:=zaj h
 refine ⟨_,⟨(by omega),map_at he692,rfl⟩,?_⟩
 conv=>whnf
 refine Side.mk ⟨rfl,rfl,trivial⟩ ?_
 conv=>whnf
 obtain ⟨c693,hc693,h⟩:=bind_some h
 refine ⟨false,[.im (nB c693.1)],[.box 83 [.im .any,.im .any,.im .any,.im .any,.im .any,.ow (.row 55 2 (List.map zac c693.2.report.Changes))]],fun V=>(zdy (⟨(⟨y540,y541,y542,y543⟩:zab),(⟨y544,y545⟩:zai)⟩:zau) e692 (V 0 0) (V 0 1) (V 0 2) (V 0 3) (V 0 4) c693 (fun _ _=>hc693)),?_⟩
 conv=>whnf
 refine Both.mk ?_ ?_<;>intro b694
 replace h:=cond_t b694 h
 conv=>whnf
 cases h
 exact JoinS.mk' _ rfl (eA [(98,some 98),(99,some 99),(100,some 100),(101,some 101),(102,some 102)])
 replace h:=cond_f b694 h
 conv=>whnf
 refine Side.mk rfl ?_
 conv=>whnf
 obtain ⟨c695,hc695,h⟩:=bind_some h
 refine ⟨_,(sp_oracle_Ask (⟨(⟨(⟨y519,y520,y521,y522⟩:zab),y523,y524,(⟨y525,y526⟩:zav),(⟨y527,y528,y529⟩:zbg),y530,y531,y532,y533⟩:zaf),(⟨y534,y535⟩:zam),y536,y537,y538,y539⟩:zae) e692 c695 (fun _ _=>hc695)),?_⟩
 conv=>whnf
 refine Side.mk rfl ?_
 conv=>whnf
 refine Side.mk rfl ?_
 conv=>whnf
 refine Side.mk rfl ?_
 conv=>whnf
 obtain ⟨⟨y700,y701,y702,y703,y704,y705,e706⟩,hc,hk697⟩:=bind_some h
 clear h
 have h:=hc
 clear hc
 refine Cut.mk (mkSt [(2,.own 98 1 0),(4,.own 99 1 0),(5,.own 100 1 0),(11,.own 101 1 0),(16,.im (nI e706)),(63,.im (nL (cL cI) b_.Words)),(64,.im (nI (↑(List.length b_.Words):Int))),(65,.im (nI (↑y546:Int)))] [(98,.box 37 21),(99,.box 37 21),(100,.box 45 2),(101,.box 83 6),(102,.row 55 2 (List.map zac y705))] [(98,0,.im (nI c695.1.Device.M.Inputs)),(98,1,.im (nI c695.1.Device.M.Start)),(98,2,.im (nL (cL cI) c695.1.Device.M.Next)),(98,3,.im (nL (cL cI) c695.1.Device.M.Out)),(98,4,.im (nI c695.1.Device.State)),(98,5,.im (nB c695.1.Device.Ready)),(98,6,.im (nL cI c695.1.Device.Latency.Step)),(98,7,.im (nI c695.1.Device.Latency.Reset)),(98,8,.im (nI c695.1.Device.Faults.Lost)),(98,9,.im (nI c695.1.Device.Faults.Wrong)),(98,10,.im (nI c695.1.Device.Faults.Crash)),(98,11,.im (nU c695.1.Device.Seed)),(98,12,.im (nI c695.1.Device.Steps)),(98,13,.im (nI c695.1.Device.Resets)),(98,14,.im (nI c695.1.Device.Time)),(98,15,.im (nI c695.1.Obs.Inputs)),(98,16,.im (nL zac c695.1.Obs.Traces)),(98,17,.im (nI c695.1.Votes)),(98,18,.im (nI c695.1.Tries)),(98,19,.im (nI c695.1.Asked)),(98,20,.im (nI c695.1.Hits)),(99,0,.im (nI 0)),(99,1,.im (nI 0)),(99,2,.im (.val (.slice none 0 0))),(99,3,.im (.val (.slice none 0 0))),(99,4,.im (nI 0)),(99,5,.im (nB false)),(99,6,.im (.val (.slice none 0 0))),(99,7,.im (nI 0)),(99,8,.im (nI 0)),(99,9,.im (nI 0)),(99,10,.im (nI 0)),(99,11,.im (nU 0)),(99,12,.im (nI 0)),(99,13,.im (nI 0)),(99,14,.im (nI 0)),(99,15,.im (nI 0)),(99,16,.im (.val (.slice none 0 0))),(99,17,.im (nI 0)),(99,18,.im (nI 0)),(99,19,.im (nI 0)),(99,20,.im (nI 0)),(100,0,.im (nI 0)),(100,1,.im (.val (.slice none 0 0))),(101,0,.im (nI y700)),(101,1,.im (nI y701)),(101,2,.im (nL (cL cI) y702)),(101,3,.im (nL (cL cI) y703)),(101,4,.im (nI y704)),(101,5,.osl 102 1)]) (lZ b_.Words∧lZ c695.1.Device.M.Next∧lZ c695.1.Device.M.Out∧lZ c695.1.Device.Latency.Step∧lZ c695.1.Obs.Traces∧lZ y702∧lZ y703∧lZ y705∧True) ((Holds.avl 63 rfl).and ((Holds.cel 98 2 rfl (by decide) rfl).and ((Holds.cel 98 3 rfl (by decide) rfl).and ((Holds.cel 98 6 rfl (by decide) rfl).and ((Holds.cel 98 16 rfl (by decide) rfl).and ((Holds.cel 101 2 rfl (by decide) rfl).and ((Holds.cel 101 3 rfl (by decide) rfl).and ((Holds.kdl 102 rfl).and (hT))))))))) ?_ (fun hp=>?_)
 conv=>whnf
 refine Both.mk ?_ ?_<;>intro b707
 obtain ⟨h,b707d⟩:=ctd b707 h
 conv=>whnf
 refine Side.mk ⟨rfl,rfl,trivial⟩ ?_
 conv=>whnf
 obtain ⟨c708,hc708,h⟩:=bind_some h
 refine ⟨_,(zd9 (⟨(⟨y540,y541,y542,y543⟩:zab),(⟨y544,c693.2.report.Changes⟩:zai)⟩:zau) e692 c695.2.1 c708 (fun _ _ _=>hc708)),?_⟩
 conv=>whnf
 cases h
 exact Join.mk (eA [(98,some 98),(99,some 99),(100,some 100),(101,some 101),(102,some 102)])
 obtain ⟨h,b707d⟩:=cfd b707 h
 conv=>whnf
 cases h
 exact Join.mk (eA [(98,some 98),(99,some 99),(100,some 100),(101,some 101),(102,some 102)])
 replace h:zas.k20 c695 y700 y701 y702 y703 y704 y705 e706=some _:=hk697
 unfold zas.k20 at h
 obtain ⟨z709,z710,z711,z712,z713,z714,z715,z716,_⟩:=hp
 conv=>whnf
 refine Both.mk ?_ ?_<;>intro b717
 obtain ⟨h,b717d⟩:=ctd b717 h
 conv=>whnf
 refine Side.mk rfl ?_
 conv=>whnf
 refine Side.mk rfl ?_
 conv=>whnf
 refine Side.mk rfl ?_
 conv=>whnf
 cases h
 replace h:some _=some _:=hk638
 cases h
 have ho636:_=_:=ho636
 cases ho636
 replace h:some _=some _:=hk98
 cases h
 conv=>whnf
 refine Side.mk ⟨rfl,rfl,trivial⟩ ?_
 conv=>whnf
 exact ⟨rfl,rfl⟩
 obtain ⟨h,b717d⟩:=cfd b717 h
 conv=>whnf
 cases h
 exact JoinS.mk' _ rfl (eA [(98,some 98),(99,some 99),(100,some 100),(101,some 101),(102,some 102)])
 rintro ⟨y665,y666,y667,y668,y669,y670,y671,y672,y673,y674,y675,y676,y677,y678,y679,y680,y681,y682,y683,y684,y685,y686,y687,y688,y689,y690,y691⟩ rfl hp
 have hx_:=sum_inl hk638
 replace h:zas.k21 y546 y665 y666 y667 y668 y669 y670 y671 y672 y673 y674 y675 y676 y677 y678 y679 y680 y681 y682 y683 y684 y685 y686 y687 y688 y689 y690 y691=some _:=hx_
 clear hx_
 unfold zas.k21 at h
 obtain ⟨z718,z719,z720,z721,z722,z723,z724,z725,_⟩:=hp
 conv=>whnf
 refine Arith.mk (by show inR _;unfold inR;omega) ?_
 conv=>whnf
 cases h
 exact Nxt.mk _ ho636 (eA [(98,some 98),(99,some 99),(100,some 100),(101,some 101),(102,some 102)])
 obtain ⟨h,b637d⟩:=cfd b637 h
 conv=>whnf
 cases h
 have ho636:_=_:=ho636
 cases ho636
 exact JoinS.mk' _ rfl (eA [(98,some 98),(99,some 99),(100,some 100),(101,some 101),(102,some 102)])
 rintro ⟨y403,y404,y405,y406,y407,y408,y409,y410,y411,y412,y413,y414,y415,y416,y417,y418,y419,y420,y421,y422,y423,y424,y425,y426,y427,y428,y429⟩ rfl hp
 have hx_:=sum_inl hk98
 replace h:zas.k23 y403 y404 y405 y406 y407 y408 y409 y410 y411 y412 y413 y414 y415 y416 y417 y418 y419 y420 y421 y422 y423 y424 y425 y426 y427 y428 y429=some _:=hx_
 clear hx_
 unfold zas.k23 at h
 obtain ⟨z734,z735,z736,z737,z738,z739,z740,_⟩:=hp
 conv=>whnf
 refine Side.mk rfl ?_
 conv=>whnf
 refine Side.mk rfl ?_
 conv=>whnf
 refine Side.mk rfl ?_
 conv=>whnf
 refine Side.mk rfl ?_
 conv=>whnf
 refine Side.mk rfl ?_
 conv=>whnf
 refine Side.mk rfl ?_
 conv=>whnf
 cases h
 conv=>whnf
 refine Side.mk ⟨rfl,rfl,trivial⟩ ?_
 conv=>whnf
 exact Side.mk ⟨rfl,trivial⟩ ⟨rfl,rfl⟩
theorem zg2 (q_:zae) (b_:za0) (r:Bool) (h:Ok (.agg (zbj q_))→Ok (.agg (zbd b_))→zaq q_ b_=some r):Sp Tryz.prog 4 [.im (.agg (zbj q_)),.im (.agg (zbd b_))] (.im (nB r)):=by
 refine sp_of rfl [700002,700003] rfl rfl rfl (Nat.le_of_ble_eq_true rfl) rfl fun hk=>?_
 replace h:=h hk.1 hk.2.1
 have z1:lZ q_.Device.M.Next:=ok_len (Ok.agg_at hk.1 2 rfl)
 have z2:lZ q_.Device.M.Out:=ok_len (Ok.agg_at hk.1 3 rfl)
 have z3:lZ q_.Device.Latency.Step:=ok_len (Ok.agg_at hk.1 6 rfl)
 have z4:lZ q_.Obs.Traces:=ok_len (Ok.agg_at hk.1 16 rfl)
 have z5:lZ b_.M.Next:=ok_len (Ok.agg_at hk.2.1 2 rfl)
 have z6:lZ b_.M.Out:=ok_len (Ok.agg_at hk.2.1 3 rfl)
 have z7:lZ b_.Words:=ok_len (Ok.agg_at hk.2.1 4 rfl)
 unfold zaq at h
 conv=>whnf
 obtain ⟨y60,hc,hk52⟩:=bind_some h
 clear h
 have h:=hc
 clear hc
 refine Cut.mk (mkSt [(2,.im (.ref (zbj q_))),(3,.im (.ref (zbd b_))),(32,.im (nB y60))] [] []) (True) (hT) ?_ (fun hp=>?_)
 conv=>whnf
 obtain ⟨c61,hc61,h⟩:=bind_some h
 refine ⟨_,(sp_L21_Great q_ c61 (fun _=>hc61)),?_⟩
 conv=>whnf
 refine Both.mk ?_ ?_<;>intro b62
 replace b62:=beq_ff b62
 replace h:=cond_f b62 h
 conv=>whnf
 iterate 2 (refine Both.yes (ff_beq b62) ?_;(conv=>whnf))
 obtain ⟨c63,hc63,h⟩:=bind_some h
 refine ⟨_,(sp_L06_Great b_.M c63 (fun _=>hc63)),?_⟩
 conv=>whnf
 refine Both.no b62 ?_
 conv=>whnf
 refine Both.mk ?_ ?_<;>intro b64
 replace b64:=beq_ff b64
 replace h:=cond_f b64 h
 conv=>whnf
 iterate 2 (refine Both.yes (ff_beq b64) ?_;(conv=>whnf))
 obtain ⟨c65,hc65,h⟩:=bind_some h
 refine ⟨_,(sp_L06_Long b_.Words c65 (fun _=>hc65)),?_⟩
 conv=>whnf
 refine Both.no b64 ?_
 conv=>whnf
 refine Both.mk ?_ ?_<;>intro b66
 replace b66:=beq_ff b66
 replace h:=cond_f b66 h
 conv=>whnf
 refine Both.yes (ff_beq b66) ?_
 conv=>whnf
 obtain ⟨c67,hc67,h⟩:=bind_some h
 refine ⟨_,(sp_R21_Valid q_ c67 (fun _=>hc67)),?_⟩
 conv=>whnf
 refine Both.yes (ff_beq b66) ?_
 conv=>whnf
 refine Both.no b66 ?_
 conv=>whnf
 cases h
 exact Join.mk (eA [])
 replace b66:=beq_ft b66
 replace h:=cond_t b66 h
 conv=>whnf
 iterate 2 (refine Both.no (tf_beq b66) ?_;(conv=>whnf))
 refine Both.yes b66 ?_
 conv=>whnf
 cases h
 exact Join.mk (eA [])
 replace b64:=beq_ft b64
 replace h:=cond_t b64 h
 conv=>whnf
 iterate 2 (refine Both.no (tf_beq b64) ?_;(conv=>whnf))
 refine Both.yes b64 ?_
 conv=>whnf
 iterate 3 (refine Both.no rfl ?_;(conv=>whnf))
 refine Both.yes rfl ?_
 conv=>whnf
 cases h
 exact Join.mk (eA [])
 replace b62:=beq_ft b62
 replace h:=cond_t b62 h
 conv=>whnf
 iterate 2 (refine Both.no (tf_beq b62) ?_;(conv=>whnf))
 refine Both.yes b62 ?_
 conv=>whnf
 iterate 3 (refine Both.no rfl ?_;(conv=>whnf))
 refine Both.yes rfl ?_
 conv=>whnf
 iterate 3 (refine Both.no rfl ?_;(conv=>whnf))
 refine Both.yes rfl ?_
 conv=>whnf
 cases h
 exact Join.mk (eA [])
 replace h:=hk52
 conv=>whnf
 refine Both.mk ?_ ?_<;>intro b68
 replace h:=cond_t b68 h
 conv=>whnf
 obtain ⟨c69,hc69,h⟩:=bind_some h
 refine ⟨_,(zgz  c69 (hc69)),?_⟩
 conv=>whnf
 cases h
 conv=>whnf
 exact ⟨rfl,rfl⟩
 replace h:=cond_f b68 h
 conv=>whnf
 obtain ⟨c70,hc70,h⟩:=bind_some h
 refine ⟨_,(zmu q_ b_ c70 (fun _ _=>hc70)),?_⟩
 conv=>whnf
 refine Side.mk rfl ?_
 conv=>whnf
 refine Side.mk rfl ?_
 conv=>whnf
 refine Both.mk ?_ ?_<;>intro b71
 obtain ⟨h,b71d⟩:=ctd b71 h
 conv=>whnf
 obtain ⟨y76,hc,hk73⟩:=bind_some h
 clear h
 have h:=hc
 clear hc
 refine Cut.mk (mkSt [(4,.im (nB y76))] [] []) (True) (hT) ?_ (fun hp=>?_)
 conv=>whnf
 refine Side.mk rfl ?_
 conv=>whnf
 refine Side.mk rfl ?_
 conv=>whnf
 refine Nf.mk (List.length c70.2.1.Changes) len_map ?_
 conv=>whnf
 refine Both.mk ?_ ?_<;>intro b77
 replace b77:=beq_tt b77
 obtain ⟨h,b77d⟩:=ctd b77 h
 conv=>whnf
 obtain ⟨c78,hc78,h⟩:=bind_some h
 refine ⟨_,(zgz  c78 (hc78)),?_⟩
 conv=>whnf
 refine Both.yes b77 ?_
 conv=>whnf
 cases h
 exact Join.mk (eA [])
 replace b77:=beq_tf b77
 obtain ⟨h,b77d⟩:=cfd b77 h
 conv=>whnf
 refine Both.no b77 ?_
 conv=>whnf
 cases h
 exact Join.mk (eA [])
 replace h:=hk73
 conv=>whnf
 cases h
 conv=>whnf
 exact ⟨rfl,rfl⟩
 obtain ⟨h,b71d⟩:=cfd b71 h
 conv=>whnf
 obtain ⟨oc,hc,hk79⟩:=bind_some h
 clear h
 have h:=hc
 clear hc
 refine Cut.mkS oc (Y:=Unit) (fun (_:Unit)=>mkSt [(3,.im (.ref (zbd b_))),(6,.own 171 1 0)] [(171,.box 45 2)] [(171,0,.im (nI c70.2.1.Run)),(171,1,.im (nL zac c70.2.1.Changes))]) (fun (_:Unit)=>lZ c70.2.1.Changes∧True) (by rintro ⟨⟩;exact ((Holds.cel 171 1 rfl (by decide) rfl).and (hT))) ?_ ?_
 conv=>whnf
 refine Loops.iter (fun (s:Nat)=>zaq.s14 b_ c70 s) (fun i899=>mkSt [(3,.im (.ref (zbd b_))),(5,.own 171 1 0),(6,.own 172 1 0),(8,.im (nI (↑i899:Int)))] [(171,.box 37 21),(172,.box 45 2)] [(171,0,.im (nI c70.1.Device.M.Inputs)),(171,1,.im (nI c70.1.Device.M.Start)),(171,2,.im (nL (cL cI) c70.1.Device.M.Next)),(171,3,.im (nL (cL cI) c70.1.Device.M.Out)),(171,4,.im (nI c70.1.Device.State)),(171,5,.im (nB c70.1.Device.Ready)),(171,6,.im (nL cI c70.1.Device.Latency.Step)),(171,7,.im (nI c70.1.Device.Latency.Reset)),(171,8,.im (nI c70.1.Device.Faults.Lost)),(171,9,.im (nI c70.1.Device.Faults.Wrong)),(171,10,.im (nI c70.1.Device.Faults.Crash)),(171,11,.im (nU c70.1.Device.Seed)),(171,12,.im (nI c70.1.Device.Steps)),(171,13,.im (nI c70.1.Device.Resets)),(171,14,.im (nI c70.1.Device.Time)),(171,15,.im (nI c70.1.Obs.Inputs)),(171,16,.im (nL zac c70.1.Obs.Traces)),(171,17,.im (nI c70.1.Votes)),(171,18,.im (nI c70.1.Tries)),(171,19,.im (nI c70.1.Asked)),(171,20,.im (nI c70.1.Hits)),(172,0,.im (nI c70.2.1.Run)),(172,1,.im (nL zac c70.2.1.Changes))]) (fun i899=>lZ c70.1.Device.M.Next∧lZ c70.1.Device.M.Out∧lZ c70.1.Device.Latency.Step∧lZ c70.1.Obs.Traces∧lZ c70.2.1.Changes∧True) h (eA [(171,some 5),(172,some 6)]) (by rintro i899;exact ((Holds.cel 171 2 rfl (by decide) rfl).and ((Holds.cel 171 3 rfl (by decide) rfl).and ((Holds.cel 171 6 rfl (by decide) rfl).and ((Holds.cel 171 16 rfl (by decide) rfl).and ((Holds.cel 172 1 rfl (by decide) rfl).and (hT))))))) ?_
 clear h
 rintro k i899 o hp h ho1103
 replace h:zaq.s14 b_ c70 i899=some o:=h
 unfold zaq.s14 at h
 obtain ⟨z1307,z1308,z1309,z1310,z1311,_⟩:=hp
 conv=>whnf
 refine Side.mk rfl ?_
 conv=>whnf
 refine Side.mk rfl ?_
 conv=>whnf
 refine Nf.mk (List.length c70.2.1.Changes) len_map ?_
 conv=>whnf
 refine Both.mk ?_ ?_<;>intro b1104
 obtain ⟨h,b1104d⟩:=ctd b1104 h
 conv=>whnf
 refine Side.mk rfl ?_
 conv=>whnf
 refine Side.mk rfl ?_
 conv=>whnf
 obtain ⟨e1105,he1105,h⟩:=zaj h
 refine ⟨_,⟨(by omega),map_at he1105,rfl⟩,?_⟩
 conv=>whnf
 refine Side.mk rfl ?_
 conv=>whnf
 refine Side.mk rfl ?_
 conv=>whnf
 refine Side.mk rfl ?_
 conv=>whnf
 refine Side.mk rfl ?_
 conv=>whnf
 refine Side.mk rfl ?_
 conv=>whnf
 obtain ⟨c1106,hc1106,h⟩:=bind_some h
 refine ⟨_,(zgb c70.1.Obs e1105.In c1106 (fun _ _=>hc1106)),?_⟩
 conv=>whnf
 refine Side.mk rfl ?_
 conv=>whnf
 refine Side.mk rfl ?_
 conv=>whnf
 obtain ⟨c1107,hc1107,h⟩:=bind_some h
 refine ⟨_,(zha b_.M e1105.In c1107 (fun _ _=>hc1107)),?_⟩
 conv=>whnf
 refine Side.mk rfl ?_
 conv=>whnf
 refine Side.mk rfl ?_
 conv=>whnf
 refine Nf.mk (List.length e1105.In) len_map ?_
 conv=>whnf
 obtain ⟨y1126,hc,hk1109⟩:=bind_some h
 clear h
 have h:=hc
 clear hc
 refine Cut.mk (mkSt [(3,.im (.ref (zbd b_))),(5,.own 171 1 0),(6,.own 172 1 0),(8,.im (nI (↑i899:Int))),(9,.own 173 1 0),(128,.im (nB y1126))] [(171,.box 37 21),(172,.box 45 2),(173,.box 55 2)] [(171,0,.im (nI c70.1.Device.M.Inputs)),(171,1,.im (nI c70.1.Device.M.Start)),(171,2,.im (nL (cL cI) c70.1.Device.M.Next)),(171,3,.im (nL (cL cI) c70.1.Device.M.Out)),(171,4,.im (nI c70.1.Device.State)),(171,5,.im (nB c70.1.Device.Ready)),(171,6,.im (nL cI c70.1.Device.Latency.Step)),(171,7,.im (nI c70.1.Device.Latency.Reset)),(171,8,.im (nI c70.1.Device.Faults.Lost)),(171,9,.im (nI c70.1.Device.Faults.Wrong)),(171,10,.im (nI c70.1.Device.Faults.Crash)),(171,11,.im (nU c70.1.Device.Seed)),(171,12,.im (nI c70.1.Device.Steps)),(171,13,.im (nI c70.1.Device.Resets)),(171,14,.im (nI c70.1.Device.Time)),(171,15,.im (nI c70.1.Obs.Inputs)),(171,16,.im (nL zac c70.1.Obs.Traces)),(171,17,.im (nI c70.1.Votes)),(171,18,.im (nI c70.1.Tries)),(171,19,.im (nI c70.1.Asked)),(171,20,.im (nI c70.1.Hits)),(172,0,.im (nI c70.2.1.Run)),(172,1,.im (nL zac c70.2.1.Changes)),(173,0,.im (nL cI e1105.In)),(173,1,.im (nL cI e1105.Out))]) (lZ c70.1.Device.M.Next∧lZ c70.1.Device.M.Out∧lZ c70.1.Device.Latency.Step∧lZ c70.1.Obs.Traces∧lZ c70.2.1.Changes∧lZ e1105.In∧lZ e1105.Out∧True) ((Holds.cel 171 2 rfl (by decide) rfl).and ((Holds.cel 171 3 rfl (by decide) rfl).and ((Holds.cel 171 6 rfl (by decide) rfl).and ((Holds.cel 171 16 rfl (by decide) rfl).and ((Holds.cel 172 1 rfl (by decide) rfl).and ((Holds.cel 173 0 rfl (by decide) rfl).and ((Holds.cel 173 1 rfl (by decide) rfl).and (hT)))))))) ?_ (fun hp=>?_)
 conv=>whnf
 refine Both.mk ?_ ?_<;>intro b1127
 replace b1127:=beq_ff b1127
 replace h:=cond_f b1127 h
 conv=>whnf
 refine Both.yes (ff_beq b1127) ?_
 conv=>whnf
 refine Both.no b1127 ?_
 conv=>whnf
 refine Both.mk ?_ ?_<;>intro b1128
 replace b1128:=beq_ff b1128
 obtain ⟨h,b1128d⟩:=cfd b1128 h
 conv=>whnf
 refine Both.yes (ff_beq b1128) ?_
 conv=>whnf
 refine Both.no b1128 ?_
 conv=>whnf
 refine Both.mk ?_ ?_<;>intro b1129
 replace b1129:=beq_ff b1129
 obtain ⟨h,b1129d⟩:=cfd b1129 h
 conv=>whnf
 refine Both.yes (ff_beq b1129) ?_
 conv=>whnf
 refine Side.mk rfl ?_
 conv=>whnf
 refine Both.yes (ff_beq b1129) ?_
 conv=>whnf
 refine Side.mk rfl ?_
 conv=>whnf
 refine Both.yes (ff_beq b1129) ?_
 conv=>whnf
 obtain ⟨c1130,hc1130,h⟩:=bind_some h
 refine ⟨_,(zdv c1106.1 e1105.Out c1130 (fun _ _=>hc1130)),?_⟩
 conv=>whnf
 refine Both.yes (ff_beq b1129) ?_
 conv=>whnf
 refine Both.no b1129 ?_
 conv=>whnf
 refine Both.mk ?_ ?_<;>intro b1131
 replace b1131:=beq_ff b1131
 replace h:=cond_f b1131 h
 conv=>whnf
 refine Both.yes (ff_beq b1131) ?_
 conv=>whnf
 refine Nf.mk (List.length c1107.1) len_map ?_
 conv=>whnf
 iterate 2 (refine Both.yes (ff_beq b1131) ?_;(conv=>whnf))
 refine Both.no b1131 ?_
 conv=>whnf
 refine Both.mk ?_ ?_<;>intro b1132
 replace b1132:=beq_ff b1132
 obtain ⟨h,b1132d⟩:=cfd b1132 h
 conv=>whnf
 iterate 2 (refine Both.yes (ff_beq b1132) ?_;(conv=>whnf))
 obtain ⟨c1133,h⟩:=chk_some h
 refine Arith.mk c1133 ?_
 conv=>whnf
 refine Both.yes (ff_beq b1132) ?_
 conv=>whnf
 obtain ⟨c1134,h⟩:=chk_some h
 refine Side.mk (show (0:Int)≤(0:Int)∧(0:Int)≤((↑(List.length e1105.In):Int)-1)∧((↑(List.length e1105.In):Int)-1)≤(↑(List.length (List.map cI c1106.1)):Int)∧(∀ e∈List.map cI c1106.1,List.length e=1) from ⟨by omega,by first | omega | (simp only [List.length_map];omega),by first | omega | (simp only [List.length_map];omega),map_len fun _=>rfl⟩) ?_
 conv=>whnf
 refine Nf.mk (List.map cI (List.take (Int.toNat ((↑(List.length e1105.In):Int)-1)) c1106.1)) take_map ?_
 conv=>whnf
 iterate 3 (refine Both.yes (ff_beq b1132) ?_;(conv=>whnf))
 obtain ⟨c1135,h⟩:=chk_some h
 refine Arith.mk c1135 ?_
 conv=>whnf
 refine Both.yes (ff_beq b1132) ?_
 conv=>whnf
 obtain ⟨c1136,h⟩:=chk_some h
 refine Side.mk (show (0:Int)≤(0:Int)∧(0:Int)≤((↑(List.length e1105.In):Int)-1)∧((↑(List.length e1105.In):Int)-1)≤(↑(List.length (List.map cI c1107.1)):Int)∧(∀ e∈List.map cI c1107.1,List.length e=1) from ⟨by omega,by first | omega | (simp only [List.length_map];omega),by first | omega | (simp only [List.length_map];omega),map_len fun _=>rfl⟩) ?_
 conv=>whnf
 refine Nf.mk (List.map cI (List.take (Int.toNat ((↑(List.length e1105.In):Int)-1)) c1107.1)) take_map ?_
 conv=>whnf
 refine Both.yes (ff_beq b1132) ?_
 conv=>whnf
 obtain ⟨c1137,hc1137,h⟩:=bind_some h
 refine ⟨_,(zdv (List.take (Int.toNat ((↑(List.length e1105.In):Int)-1)) c1106.1) (List.take (Int.toNat ((↑(List.length e1105.In):Int)-1)) c1107.1) c1137 (fun _ _=>hc1137)),?_⟩
 conv=>whnf
 refine Both.yes (ff_beq b1132) ?_
 conv=>whnf
 refine Both.no b1132 ?_
 conv=>whnf
 refine Both.mk ?_ ?_<;>intro b1138
 replace b1138:=beq_ff b1138
 replace h:=cond_f b1138 h
 conv=>whnf
 iterate 2 (refine Both.yes (ff_beq b1138) ?_;(conv=>whnf))
 obtain ⟨c1139,h⟩:=chk_some h
 refine Arith.mk c1139 ?_
 conv=>whnf
 refine Both.yes (ff_beq b1138) ?_
 conv=>whnf
 obtain ⟨e1140,he1140z,he1140,h⟩:=idx_some h
 refine ⟨_,⟨he1140z,map_at he1140,rfl⟩,?_⟩
 conv=>whnf
 iterate 4 (refine Both.yes (ff_beq b1138) ?_;(conv=>whnf))
 obtain ⟨c1141,h⟩:=chk_some h
 refine Arith.mk c1141 ?_
 conv=>whnf
 refine Both.yes (ff_beq b1138) ?_
 conv=>whnf
 obtain ⟨e1142,he1142z,he1142,h⟩:=idx_some h
 refine ⟨_,⟨he1142z,map_at he1142,rfl⟩,?_⟩
 conv=>whnf
 iterate 2 (refine Both.yes (ff_beq b1138) ?_;(conv=>whnf))
 refine Both.no b1138 ?_
 conv=>whnf
 cases h
 exact Join.mk (eA [(171,some 171),(172,some 172),(173,some 9)])
 replace b1138:=beq_ft b1138
 replace h:=cond_t b1138 h
 conv=>whnf
 iterate 10 (refine Both.no (tf_beq b1138) ?_;(conv=>whnf))
 refine Both.yes b1138 ?_
 conv=>whnf
 cases h
 exact Join.mk (eA [(171,some 171),(172,some 172),(173,some 9)])
 replace b1132:=beq_ft b1132
 obtain ⟨h,b1132d⟩:=ctd b1132 h
 conv=>whnf
 iterate 9 (refine Both.no (tf_beq b1132) ?_;(conv=>whnf))
 refine Both.yes b1132 ?_
 conv=>whnf
 iterate 11 (refine Both.no rfl ?_;(conv=>whnf))
 refine Both.yes rfl ?_
 conv=>whnf
 cases h
 exact Join.mk (eA [(171,some 171),(172,some 172),(173,some 9)])
 replace b1131:=beq_ft b1131
 replace h:=cond_t b1131 h
 conv=>whnf
 iterate 3 (refine Both.no (tf_beq b1131) ?_;(conv=>whnf))
 refine Both.yes b1131 ?_
 conv=>whnf
 iterate 10 (refine Both.no rfl ?_;(conv=>whnf))
 refine Both.yes rfl ?_
 conv=>whnf
 iterate 11 (refine Both.no rfl ?_;(conv=>whnf))
 refine Both.yes rfl ?_
 conv=>whnf
 cases h
 exact Join.mk (eA [(171,some 171),(172,some 172),(173,some 9)])
 replace b1129:=beq_ft b1129
 obtain ⟨h,b1129d⟩:=ctd b1129 h
 conv=>whnf
 iterate 4 (refine Both.no (tf_beq b1129) ?_;(conv=>whnf))
 refine Both.yes b1129 ?_
 conv=>whnf
 iterate 4 (refine Both.no rfl ?_;(conv=>whnf))
 refine Both.yes rfl ?_
 conv=>whnf
 iterate 10 (refine Both.no rfl ?_;(conv=>whnf))
 refine Both.yes rfl ?_
 conv=>whnf
 iterate 11 (refine Both.no rfl ?_;(conv=>whnf))
 refine Both.yes rfl ?_
 conv=>whnf
 cases h
 exact Join.mk (eA [(171,some 171),(172,some 172),(173,some 9)])
 replace b1128:=beq_ft b1128
 obtain ⟨h,b1128d⟩:=ctd b1128 h
 conv=>whnf
 refine Both.no (tf_beq b1128) ?_
 conv=>whnf
 refine Both.yes b1128 ?_
 conv=>whnf
 iterate 5 (refine Both.no rfl ?_;(conv=>whnf))
 refine Both.yes rfl ?_
 conv=>whnf
 iterate 4 (refine Both.no rfl ?_;(conv=>whnf))
 refine Both.yes rfl ?_
 conv=>whnf
 iterate 10 (refine Both.no rfl ?_;(conv=>whnf))
 refine Both.yes rfl ?_
 conv=>whnf
 iterate 11 (refine Both.no rfl ?_;(conv=>whnf))
 refine Both.yes rfl ?_
 conv=>whnf
 cases h
 exact Join.mk (eA [(171,some 171),(172,some 172),(173,some 9)])
 replace b1127:=beq_ft b1127
 replace h:=cond_t b1127 h
 conv=>whnf
 refine Both.no (tf_beq b1127) ?_
 conv=>whnf
 refine Both.yes b1127 ?_
 conv=>whnf
 iterate 2 (refine Both.no rfl ?_;(conv=>whnf))
 refine Both.yes rfl ?_
 conv=>whnf
 iterate 5 (refine Both.no rfl ?_;(conv=>whnf))
 refine Both.yes rfl ?_
 conv=>whnf
 iterate 4 (refine Both.no rfl ?_;(conv=>whnf))
 refine Both.yes rfl ?_
 conv=>whnf
 iterate 10 (refine Both.no rfl ?_;(conv=>whnf))
 refine Both.yes rfl ?_
 conv=>whnf
 iterate 11 (refine Both.no rfl ?_;(conv=>whnf))
 refine Both.yes rfl ?_
 conv=>whnf
 cases h
 exact Join.mk (eA [(171,some 171),(172,some 172),(173,some 9)])
 replace h:=hk1109
 obtain ⟨z1143,z1144,z1145,z1146,z1147,z1148,z1149,_⟩:=hp
 conv=>whnf
 refine Both.mk ?_ ?_<;>intro b1150
 replace h:=cond_t b1150 h
 conv=>whnf
 cases h
 have ho1103:_=_:=ho1103
 cases ho1103
 replace h:some _=some _:=hk79
 cases h
 conv=>whnf
 exact ⟨rfl,rfl⟩
 replace h:=cond_f b1150 h
 conv=>whnf
 obtain ⟨oc,hc,hk1151⟩:=bind_some h
 clear h
 have h:=hc
 clear hc
 refine Cut.mkS oc (Y:=Unit) (fun (_:Unit)=>mkSt [(3,.im (.ref (zbd b_))),(5,.own 171 1 0),(6,.own 172 1 0),(8,.im (nI (↑i899:Int)))] [(171,.box 37 21),(172,.box 45 2)] [(171,0,.im (nI c70.1.Device.M.Inputs)),(171,1,.im (nI c70.1.Device.M.Start)),(171,2,.im (nL (cL cI) c70.1.Device.M.Next)),(171,3,.im (nL (cL cI) c70.1.Device.M.Out)),(171,4,.im (nI c70.1.Device.State)),(171,5,.im (nB c70.1.Device.Ready)),(171,6,.im (nL cI c70.1.Device.Latency.Step)),(171,7,.im (nI c70.1.Device.Latency.Reset)),(171,8,.im (nI c70.1.Device.Faults.Lost)),(171,9,.im (nI c70.1.Device.Faults.Wrong)),(171,10,.im (nI c70.1.Device.Faults.Crash)),(171,11,.im (nU c70.1.Device.Seed)),(171,12,.im (nI c70.1.Device.Steps)),(171,13,.im (nI c70.1.Device.Resets)),(171,14,.im (nI c70.1.Device.Time)),(171,15,.im (nI c70.1.Obs.Inputs)),(171,16,.im (nL zac c70.1.Obs.Traces)),(171,17,.im (nI c70.1.Votes)),(171,18,.im (nI c70.1.Tries)),(171,19,.im (nI c70.1.Asked)),(171,20,.im (nI c70.1.Hits)),(172,0,.im (nI c70.2.1.Run)),(172,1,.im (nL zac c70.2.1.Changes))]) (fun (_:Unit)=>lZ c70.1.Device.M.Next∧lZ c70.1.Device.M.Out∧lZ c70.1.Device.Latency.Step∧lZ c70.1.Obs.Traces∧lZ c70.2.1.Changes∧True) (by rintro ⟨⟩;exact ((Holds.cel 171 2 rfl (by decide) rfl).and ((Holds.cel 171 3 rfl (by decide) rfl).and ((Holds.cel 171 6 rfl (by decide) rfl).and ((Holds.cel 171 16 rfl (by decide) rfl).and ((Holds.cel 172 1 rfl (by decide) rfl).and (hT))))))) ?_ ?_
 conv=>whnf
 refine Loops.iter (fun (s:Nat)=>zaq.s13 c70 i899 e1105 s) (fun k1249=>mkSt [(3,.im (.ref (zbd b_))),(5,.own 171 1 0),(6,.own 172 1 0),(8,.im (nI (↑i899:Int))),(9,.own 173 1 0),(15,.im (nI (↑k1249:Int)))] [(171,.box 37 21),(172,.box 45 2),(173,.box 55 2)] [(171,0,.im (nI c70.1.Device.M.Inputs)),(171,1,.im (nI c70.1.Device.M.Start)),(171,2,.im (nL (cL cI) c70.1.Device.M.Next)),(171,3,.im (nL (cL cI) c70.1.Device.M.Out)),(171,4,.im (nI c70.1.Device.State)),(171,5,.im (nB c70.1.Device.Ready)),(171,6,.im (nL cI c70.1.Device.Latency.Step)),(171,7,.im (nI c70.1.Device.Latency.Reset)),(171,8,.im (nI c70.1.Device.Faults.Lost)),(171,9,.im (nI c70.1.Device.Faults.Wrong)),(171,10,.im (nI c70.1.Device.Faults.Crash)),(171,11,.im (nU c70.1.Device.Seed)),(171,12,.im (nI c70.1.Device.Steps)),(171,13,.im (nI c70.1.Device.Resets)),(171,14,.im (nI c70.1.Device.Time)),(171,15,.im (nI c70.1.Obs.Inputs)),(171,16,.im (nL zac c70.1.Obs.Traces)),(171,17,.im (nI c70.1.Votes)),(171,18,.im (nI c70.1.Tries)),(171,19,.im (nI c70.1.Asked)),(171,20,.im (nI c70.1.Hits)),(172,0,.im (nI c70.2.1.Run)),(172,1,.im (nL zac c70.2.1.Changes)),(173,0,.im (nL cI e1105.In)),(173,1,.im (nL cI e1105.Out))]) (fun k1249=>lZ c70.1.Device.M.Next∧lZ c70.1.Device.M.Out∧lZ c70.1.Device.Latency.Step∧lZ c70.1.Obs.Traces∧lZ c70.2.1.Changes∧lZ e1105.In∧lZ e1105.Out∧True) h (eA [(171,some 171),(172,some 172),(173,some 173)]) (by rintro k1249;exact ((Holds.cel 171 2 rfl (by decide) rfl).and ((Holds.cel 171 3 rfl (by decide) rfl).and ((Holds.cel 171 6 rfl (by decide) rfl).and ((Holds.cel 171 16 rfl (by decide) rfl).and ((Holds.cel 172 1 rfl (by decide) rfl).and ((Holds.cel 173 0 rfl (by decide) rfl).and ((Holds.cel 173 1 rfl (by decide) rfl).and (hT))))))))) ?_
 clear h
 rintro k k1249 o hp h ho1272
 replace h:zaq.s13 c70 i899 e1105 k1249=some o:=h
 unfold zaq.s13 at h
 obtain ⟨z1295,z1296,z1297,z1298,z1299,z1300,z1301,_⟩:=hp
 conv=>whnf
 refine Both.mk ?_ ?_<;>intro b1273
 obtain ⟨h,b1273d⟩:=ctd b1273 h
 conv=>whnf
 obtain ⟨y1281,hc,hk1275⟩:=bind_some h
 clear h
 have h:=hc
 clear hc
 refine Cut.mk (mkSt [(3,.im (.ref (zbd b_))),(5,.own 171 1 0),(6,.own 172 1 0),(8,.im (nI (↑i899:Int))),(9,.own 173 1 0),(15,.im (nI (↑k1249:Int))),(153,.im (nB y1281))] [(171,.box 37 21),(172,.box 45 2),(173,.box 55 2)] [(171,0,.im (nI c70.1.Device.M.Inputs)),(171,1,.im (nI c70.1.Device.M.Start)),(171,2,.im (nL (cL cI) c70.1.Device.M.Next)),(171,3,.im (nL (cL cI) c70.1.Device.M.Out)),(171,4,.im (nI c70.1.Device.State)),(171,5,.im (nB c70.1.Device.Ready)),(171,6,.im (nL cI c70.1.Device.Latency.Step)),(171,7,.im (nI c70.1.Device.Latency.Reset)),(171,8,.im (nI c70.1.Device.Faults.Lost)),(171,9,.im (nI c70.1.Device.Faults.Wrong)),(171,10,.im (nI c70.1.Device.Faults.Crash)),(171,11,.im (nU c70.1.Device.Seed)),(171,12,.im (nI c70.1.Device.Steps)),(171,13,.im (nI c70.1.Device.Resets)),(171,14,.im (nI c70.1.Device.Time)),(171,15,.im (nI c70.1.Obs.Inputs)),(171,16,.im (nL zac c70.1.Obs.Traces)),(171,17,.im (nI c70.1.Votes)),(171,18,.im (nI c70.1.Tries)),(171,19,.im (nI c70.1.Asked)),(171,20,.im (nI c70.1.Hits)),(172,0,.im (nI c70.2.1.Run)),(172,1,.im (nL zac c70.2.1.Changes)),(173,0,.im (nL cI e1105.In)),(173,1,.im (nL cI e1105.Out))]) (lZ c70.1.Device.M.Next∧lZ c70.1.Device.M.Out∧lZ c70.1.Device.Latency.Step∧lZ c70.1.Obs.Traces∧lZ c70.2.1.Changes∧lZ e1105.In∧lZ e1105.Out∧True) ((Holds.cel 171 2 rfl (by decide) rfl).and ((Holds.cel 171 3 rfl (by decide) rfl).and ((Holds.cel 171 6 rfl (by decide) rfl).and ((Holds.cel 171 16 rfl (by decide) rfl).and ((Holds.cel 172 1 rfl (by decide) rfl).and ((Holds.cel 173 0 rfl (by decide) rfl).and ((Holds.cel 173 1 rfl (by decide) rfl).and (hT)))))))) ?_ (fun hp=>?_)
 conv=>whnf
 refine Side.mk rfl ?_
 conv=>whnf
 refine Side.mk rfl ?_
 conv=>whnf
 refine Side.mk rfl ?_
 conv=>whnf
 refine Side.mk rfl ?_
 conv=>whnf
 obtain ⟨e1282,he1282,h⟩:=zaj h
 refine ⟨_,⟨(by omega),map_at he1282,rfl⟩,?_⟩
 conv=>whnf
 obtain ⟨c1283,hc1283,h⟩:=bind_some h
 refine ⟨_,(ze0 e1105.In e1282.In c1283 (fun _ _=>hc1283)),?_⟩
 conv=>whnf
 refine Both.mk ?_ ?_<;>intro b1284
 replace b1284:=beq_ff b1284
 replace h:=cond_f b1284 h
 conv=>whnf
 refine Side.mk rfl ?_
 conv=>whnf
 refine Both.yes (ff_beq b1284) ?_
 conv=>whnf
 refine Side.mk rfl ?_
 conv=>whnf
 iterate 2 (refine Both.yes (ff_beq b1284) ?_;(conv=>whnf))
 obtain ⟨e1285,he1285,h⟩:=zaj h
 refine ⟨_,⟨(by omega),map_at he1285,rfl⟩,?_⟩
 conv=>whnf
 iterate 3 (refine Both.yes (ff_beq b1284) ?_;(conv=>whnf))
 refine Side.mk rfl ?_
 conv=>whnf
 refine Both.yes (ff_beq b1284) ?_
 conv=>whnf
 refine Side.mk rfl ?_
 conv=>whnf
 refine Both.yes (ff_beq b1284) ?_
 conv=>whnf
 obtain ⟨c1286,hc1286,h⟩:=bind_some h
 refine ⟨_,(ze0 e1285.In e1105.In c1286 (fun _ _=>hc1286)),?_⟩
 conv=>whnf
 refine Both.no b1284 ?_
 conv=>whnf
 cases h
 exact Join.mk (eA [(171,some 171),(172,some 172),(173,some 173)])
 replace b1284:=beq_ft b1284
 replace h:=cond_t b1284 h
 conv=>whnf
 iterate 8 (refine Both.no (tf_beq b1284) ?_;(conv=>whnf))
 refine Both.yes b1284 ?_
 conv=>whnf
 cases h
 exact Join.mk (eA [(171,some 171),(172,some 172),(173,some 173)])
 replace h:=hk1275
 obtain ⟨z1287,z1288,z1289,z1290,z1291,z1292,z1293,_⟩:=hp
 conv=>whnf
 refine Both.mk ?_ ?_<;>intro b1294
 replace h:=cond_t b1294 h
 conv=>whnf
 cases h
 have ho1272:_=_:=ho1272
 cases ho1272
 replace h:some _=some _:=hk1151
 cases h
 have ho1103:_=_:=ho1103
 cases ho1103
 replace h:some _=some _:=hk79
 cases h
 conv=>whnf
 exact ⟨rfl,rfl⟩
 replace h:=cond_f b1294 h
 conv=>whnf
 refine Arith.mk (by show inR _;unfold inR;omega) ?_
 conv=>whnf
 cases h
 exact Nxt.mk _ ho1272 (eA [(171,some 171),(172,some 172),(173,some 173)])
 obtain ⟨h,b1273d⟩:=cfd b1273 h
 conv=>whnf
 cases h
 have ho1272:_=_:=ho1272
 cases ho1272
 exact JoinS.mk' _ rfl (eA [(171,some 171),(172,some 172)])
 rintro ⟨⟩ rfl hp
 replace h:=sum_inl hk1151
 obtain ⟨z1302,z1303,z1304,z1305,z1306,_⟩:=hp
 conv=>whnf
 refine Arith.mk (by show inR _;unfold inR;omega) ?_
 conv=>whnf
 cases h
 exact Nxt.mk _ ho1103 (eA [(171,some 171),(172,some 172)])
 obtain ⟨h,b1104d⟩:=cfd b1104 h
 conv=>whnf
 cases h
 have ho1103:_=_:=ho1103
 cases ho1103
 exact JoinS.mk' _ rfl (eA [(171,some 172)])
 rintro ⟨⟩ rfl hp
 replace h:=sum_inl hk79
 obtain ⟨z1312,_⟩:=hp
 conv=>whnf
 obtain ⟨y1318,hc,hk1314⟩:=bind_some h
 clear h
 have h:=hc
 clear hc
 refine Cut.mk (mkSt [(4,.im (nB y1318))] [] []) (True) (hT) ?_ (fun hp=>?_)
 conv=>whnf
 refine Side.mk rfl ?_
 conv=>whnf
 refine Side.mk rfl ?_
 conv=>whnf
 refine Side.mk rfl ?_
 conv=>whnf
 refine Side.mk rfl ?_
 conv=>whnf
 refine Nf.mk (List.length c70.2.1.Changes) len_map ?_
 conv=>whnf
 refine Both.mk ?_ ?_<;>intro b1319
 replace b1319:=beq_tt b1319
 obtain ⟨h,b1319d⟩:=ctd b1319 h
 conv=>whnf
 refine Side.mk rfl ?_
 conv=>whnf
 refine Both.yes (tt_beq b1319) ?_
 conv=>whnf
 refine Side.mk rfl ?_
 conv=>whnf
 iterate 3 (refine Both.yes (tt_beq b1319) ?_;(conv=>whnf))
 refine Nf.mk (List.length b_.Words) len_map ?_
 conv=>whnf
 refine Both.yes (tt_beq b1319) ?_
 conv=>whnf
 refine Both.yes b1319 ?_
 conv=>whnf
 refine Both.mk ?_ ?_<;>intro b1320
 replace b1320:=beq_tt b1320
 obtain ⟨h,b1320d⟩:=ctd b1320 h
 conv=>whnf
 obtain ⟨c1321,hc1321,h⟩:=bind_some h
 refine ⟨_,(zgz  c1321 (hc1321)),?_⟩
 conv=>whnf
 refine Both.yes b1320 ?_
 conv=>whnf
 cases h
 exact Join.mk (eA [])
 replace b1320:=beq_tf b1320
 obtain ⟨h,b1320d⟩:=cfd b1320 h
 conv=>whnf
 refine Both.no b1320 ?_
 conv=>whnf
 cases h
 exact Join.mk (eA [])
 replace b1319:=beq_tf b1319
 obtain ⟨h,b1319d⟩:=cfd b1319 h
 conv=>whnf
 iterate 5 (refine Both.no (ft_beq b1319) ?_;(conv=>whnf))
 refine Both.no b1319 ?_
 conv=>whnf
 iterate 2 (refine Both.no rfl ?_;(conv=>whnf))
 cases h
 exact Join.mk (eA [])
 replace h:=hk1314
 conv=>whnf
 cases h
 conv=>whnf
 exact ⟨rfl,rfl⟩
end Go.Proofs.YtcneaiejdidooaaGreatDoor.Sym
